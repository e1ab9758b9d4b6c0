/- Rows of the call's own: a deed stored, a tail cleared, a shorter slice. No function of the program is mentioned. -/
import Derived.Test.YtffhfpdmfegcpabDeedRow
import Derived.Test.YtffhfpdmfegcpabProgMerge
import Derived.Test.YtffhfpdmfegcpabSplitLaw
import Derived.Lib.SliceRun
namespace Go.Proofs.Ytffhfpdmfegcpab.prog
open Go.ChangeShapes Go.WideShapes Go.ChangeAt Go.RowKit
open Go.Proofs.Ytffhfpdmfegcpab.base Go.Proofs.Ytffhfpdmfegcpab.flat Go.Proofs.Ytffhfpdmfegcpab.table Go.Proofs.Ytffhfpdmfegcpab.addr Go.Proofs.Ytffhfpdmfegcpab.atomic Go.Proofs.Ytffhfpdmfegcpab.told Go.Proofs.Ytffhfpdmfegcpab.rows
set_option linter.unusedVariables false
set_option linter.unusedSimpArgs false

theorem cellsOf_set : ∀ (M : List D4) (i j : Nat) (x y : D4) (v : Value), M[i]? = some x → j < 4 → y.cells = x.cells.set j v → (cellsOf M).set (i * 4 + j) v = cellsOf (M.set i y)
  | [], i, j, x, y, v, h, _, _ => by simp at h
  | z :: M, 0, j, x, y, v, h, hj, hy => by
    obtain rfl : z = x := by simpa using h
    show (z.cells ++ cellsOf M).set (0 * 4 + j) v = y.cells ++ cellsOf M
    rw [hy, show 0 * 4 + j = j by omega, List.set_append_left _ _ (by simp [D4.cells]; omega)]
  | z :: M, i + 1, j, x, y, v, h, hj, hy => by
    show (z.cells ++ cellsOf M).set ((i + 1) * 4 + j) v = z.cells ++ cellsOf (M.set i y)
    rw [List.set_append_right _ _ (by simp [D4.cells]; omega), show (i + 1) * 4 + j - z.cells.length = i * 4 + j by simp [D4.cells]; omega]
    rw [cellsOf_set M i j x y v (by simpa using h) hj hy]
theorem cellsOf_len (M : List D4) : (cellsOf M).length = M.length * 4 := by
  induction M with
  | nil => rfl
  | cons x M ih => show (x.cells ++ cellsOf M).length = _; rw [List.length_append, ih]; simp [D4.cells]; omega
theorem cellsOf_take : ∀ (M : List D4) (i : Nat), (cellsOf M).take (i * 4) = cellsOf (M.take i)
  | [], i => by simp [cellsOf]
  | x :: M, 0 => by simp [cellsOf]
  | x :: M, i + 1 => by
    show (x.cells ++ cellsOf M).take ((i + 1) * 4) = x.cells ++ cellsOf (M.take i)
    rw [List.take_append, List.take_of_length_le (by simp [D4.cells]; omega), show (i + 1) * 4 - x.cells.length = i * 4 by simp [D4.cells]; omega, cellsOf_take M i]
theorem own_farM {W : World} {l : Array Obj} {d base g n cap size : Nat} {e : TypeId} {xs : List Value} (h : (W.later l d).ownsRow base e size (.slice (some ⟨g, 0, none⟩) n cap) n xs) : farB W l g := by
  have := (h.lt g rfl).2
  simpa [farB] using this
/-- a whole deed stored into a row of the call's own, cell by cell -/
theorem own_deed {W : World} {l : Array Obj} {d base g n cap : Nat} {e : TypeId} {xs : List D4} (h : (W.later l d).ownsRow base e 4 (.slice (some ⟨g, 0, none⟩) n cap) n (cellsOf xs)) (hd : xs.length = n) (hb : W.heap.size ≤ base) (hg : base ≤ g) {k : Nat} {x : D4} (hx : xs[k]? = some x) (y : D4) :
    ∃ l1 d1 l2 d2 l3 d3 l4 d4, ((W.later l d).cell? ⟨g, k * 4, none⟩ = some (.int .i64 x.n) ∧ (W.later l d).frozen? ⟨g, k * 4, none⟩ = false)
      ∧ (W.later l d).setCell ⟨g, k * 4, none⟩ (.int .i64 y.n) = W.later l1 d1 ∧ farB W l1 g ∧ (W.later l1 d1).cell? ⟨g, k * 4 + 1, none⟩ = some (.int .i64 x.k) ∧ (W.later l1 d1).frozen? ⟨g, k * 4 + 1, none⟩ = false
      ∧ (W.later l1 d1).setCell ⟨g, k * 4 + 1, none⟩ (.int .i64 y.k) = W.later l2 d2 ∧ farB W l2 g ∧ (W.later l2 d2).cell? ⟨g, k * 4 + 2, none⟩ = some (.int .i64 x.a) ∧ (W.later l2 d2).frozen? ⟨g, k * 4 + 2, none⟩ = false
      ∧ (W.later l2 d2).setCell ⟨g, k * 4 + 2, none⟩ (.int .i64 y.a) = W.later l3 d3 ∧ farB W l3 g ∧ (W.later l3 d3).cell? ⟨g, k * 4 + 3, none⟩ = some (.int .u64 x.v) ∧ (W.later l3 d3).frozen? ⟨g, k * 4 + 3, none⟩ = false
      ∧ (W.later l3 d3).setCell ⟨g, k * 4 + 3, none⟩ (.int .u64 y.v) = W.later l4 d4
      ∧ (W.later l4 d4).ownsRow base e 4 (.slice (some ⟨g, 0, none⟩) n cap) n (cellsOf (xs.set k y)) := by
  have hk := (List.getElem?_eq_some_iff.1 hx).1
  obtain ⟨xn, xk, xa, xv⟩ := x
  obtain ⟨l1, d1, e1, -, h1⟩ := own_storeM h hb hg (k * 4) (.int .i64 y.n)
  rw [show k * 4 = k * 4 + 0 by omega, cellsOf_set xs k 0 _ ⟨y.n, xk, xa, xv⟩ _ hx (by omega) rfl] at h1
  obtain ⟨l2, d2, e2, -, h2⟩ := own_storeM h1 hb hg (k * 4 + 1) (.int .i64 y.k)
  rw [cellsOf_set (xs.set k ⟨y.n, xk, xa, xv⟩) k 1 ⟨y.n, xk, xa, xv⟩ ⟨y.n, y.k, xa, xv⟩ _ (List.getElem?_set_self hk) (by omega) rfl, List.set_set] at h2
  obtain ⟨l3, d3, e3, -, h3⟩ := own_storeM h2 hb hg (k * 4 + 2) (.int .i64 y.a)
  rw [cellsOf_set (xs.set k ⟨y.n, y.k, xa, xv⟩) k 2 ⟨y.n, y.k, xa, xv⟩ ⟨y.n, y.k, y.a, xv⟩ _ (List.getElem?_set_self hk) (by omega) rfl, List.set_set] at h3
  obtain ⟨l4, d4, e4, -, h4⟩ := own_storeM h3 hb hg (k * 4 + 3) (.int .u64 y.v)
  rw [cellsOf_set (xs.set k ⟨y.n, y.k, y.a, xv⟩) k 3 ⟨y.n, y.k, y.a, xv⟩ ⟨y.n, y.k, y.a, y.v⟩ _ (List.getElem?_set_self hk) (by omega) rfl, List.set_set] at h4
  refine ⟨l1, d1, l2, d2, l3, d3, l4, d4, ⟨?_, h.frozenAt _⟩, e1, own_farM h1, ?_, h1.frozenAt _, e2, own_farM h2, ?_, h2.frozenAt _, e3, own_farM h3, ?_, h3.frozenAt _, e4, h4⟩
  · have := cellsOf_get xs k 0 _ hx (by omega)
    rw [h.cellAt _ (by omega)]; exact this
  · rw [h1.cellAt _ (by omega), cellsOf_get _ k 1 _ (List.getElem?_set_self hk) (by omega)]; rfl
  · rw [h2.cellAt _ (by omega), cellsOf_get _ k 2 _ (List.getElem?_set_self hk) (by omega)]; rfl
  · rw [h3.cellAt _ (by omega), cellsOf_get _ k 3 _ (List.getElem?_set_self hk) (by omega)]; rfl
/-- cells stored behind the first o -/
theorem own_cells {W : World} {base g n cap size : Nat} {e : TypeId} (hb : W.heap.size ≤ base) (hg : base ≤ g) : ∀ (vs : List Value) (o : Nat) {l : Array Obj} {d : Nat} {xs : List Value}, (W.later l d).ownsRow base e size (.slice (some ⟨g, 0, none⟩) n cap) n xs →
    ∃ l' d' xs', (W.later l d).setCells g o vs = W.later l' d' ∧ (W.later l' d').ownsRow base e size (.slice (some ⟨g, 0, none⟩) n cap) n xs' ∧ ∀ m, m ≤ o → xs'.take m = xs.take m
  | [], o, l, d, xs, h => ⟨l, d, xs, rfl, h, fun _ _ => rfl⟩
  | v :: r, o, l, d, xs, h => by
    obtain ⟨l1, d1, e1, -, h1⟩ := own_storeM h hb hg o v
    obtain ⟨l2, d2, xs2, e2, h2, h3⟩ := own_cells hb hg r (o + 1) h1
    refine ⟨l2, d2, xs2, ?_, h2, fun m hm => ?_⟩
    · show ((W.later l d).setCell ⟨g, o, none⟩ v).setCells g (o + 1) r = _
      rw [e1, e2]
    · rw [h3 m (by omega), List.take_set_of_le hm]
/-- the first i elements -/
theorem own_first {w : World} {base g n cap size : Nat} {e : TypeId} {xs : List Value} (h : w.ownsRow base e size (.slice (some ⟨g, 0, none⟩) n cap) n xs) {i : Nat} (hi : i ≤ n) : w.ownsRow base e size (.slice (some ⟨g, 0, none⟩) i cap) i (xs.take (i * size)) := by
  rcases h.2 with ⟨hx, -⟩ | ⟨b', cap', cur', hv, k1, k2, k3, k4, k5, k6⟩
  · cases hx
  · injection hv with hv1 hv2 hv3
    subst hv3
    obtain rfl : g = b' := by injection hv1 with hv1; injection hv1
    have hle : i * size ≤ n * size := Nat.mul_le_mul_right _ hi
    refine ⟨by rw [List.length_take, h.1]; exact Nat.min_eq_left hle, .inr ⟨g, cap, cur', rfl, k1, k2, by omega, k4, k5, ?_⟩⟩
    rw [← k6, List.take_take, Nat.min_eq_left hle]
/-- 'clear(s)', s a slice of elements of whatever width -/
theorem run_clear_rows {P : Program} (w : World) (t e ty : TypeId) (z : Value) (sz : Nat) (ht : P.underlying t = some (.slice e)) (hv : ∀ w, (zeroValue e).run P w = .ok z w) (hz : z.cells.size = sz) (h1 : ∀ v ∈ z.cells.toList, v.oneCell' = true) (b o n c : Nat) (hn : 0 < n)
    (hc : ∀ j, j < n * sz → (w.cell? ⟨b, o + j, none⟩).isSome = true) (hf : ∀ j, j < n * sz → w.frozen? ⟨b, o + j, none⟩ = false) :
    (Builtin.clear_ #[t] ty #[.slice (some ⟨b, o, none⟩) n c]).run P w = .ok (.tuple #[]) (w.setCells b o (Builtin.zeroCells z.cells n).toList) := by
  have hl : (Builtin.zeroCells z.cells n).toList.length = n * sz := by rw [Array.length_toList, size_zeroCells, hz]
  have hst := run_storeCells_cells (P := P) b o (Builtin.zeroCells z.cells n).toList 0 w (by rw [hl]; simpa using hc) (by rw [hl]; simpa using hf) (by
    intro v hv'
    refine h1 v ?_
    unfold Builtin.zeroCells at hv'
    rw [Array.mem_toList_iff] at hv'
    obtain ⟨i, hi, rfl⟩ := Array.mem_iff_getElem.1 hv'
    have hi2 : i < n * z.cells.size := by simpa using hi
    have hp : 0 < z.cells.size := Nat.pos_of_ne_zero fun h0 => by rw [h0] at hi2; omega
    have hm : i % z.cells.size < z.cells.size := Nat.mod_lt _ hp
    rw [Array.getElem_map, Array.getElem_range, getElem!_pos z.cells _ hm]
    exact Array.getElem_mem_toList hm)
  simp only [Nat.add_zero] at hst
  obtain ⟨m, rfl⟩ : ∃ m, n = m + 1 := ⟨n - 1, by omega⟩
  simp [Builtin.clear_, run_underlying ht, hv, hst]
end Go.Proofs.Ytffhfpdmfegcpab.prog
