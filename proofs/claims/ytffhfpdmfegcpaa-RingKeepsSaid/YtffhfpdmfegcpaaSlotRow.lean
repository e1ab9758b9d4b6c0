/- A slice of slots of the call's own: its records; stores into it; slices.Clone. -/
import Derived.Test.YtffhfpdmfegcpaaSlot
import Derived.Test.YtffhfpdmfegcpaaBase2
import Derived.Laws.OwnMore
import Derived.Lib.SliceRun
namespace Go.Proofs.Ytffhfpdmfegcpaa.slot
open Go.ChangeShapes Go.WideShapes Go.ChangeAt Go.RowKit
open Go.Proofs.Ytffhfpdmfegcpaa.base Go.Proofs.Ytffhfpdmfegcpaa.flat Go.Proofs.Ytffhfpdmfegcpaa.table
set_option linter.unusedVariables false
set_option linter.unusedSimpArgs false

def cellsS (M : List S4) : List Value := M.flatMap S4.cells
theorem cellsS_snoc (M : List S4) (x : S4) : cellsS (M ++ [x]) = cellsS M ++ x.cells := by simp [cellsS]
theorem cellsS_append (M N : List S4) : cellsS (M ++ N) = cellsS M ++ cellsS N := by simp [cellsS]
theorem len_cellsS : ∀ (M : List S4), (cellsS M).length = M.length * 4
  | [] => rfl
  | y :: M => by
    show (y.cells ++ cellsS M).length = _
    rw [List.length_append, len_cellsS M]
    simp [S4.cells]; omega
theorem cellsS_get : ∀ (M : List S4) (i j : Nat) (x : S4), M[i]? = some x → j < 4 → (cellsS M)[i * 4 + j]? = x.cells[j]?
  | [], i, j, x, h, _ => by simp at h
  | y :: M, 0, j, x, h, hj => by
    obtain rfl : y = x := by simpa using h
    show (y.cells ++ cellsS M)[0 * 4 + j]? = _
    rw [List.getElem?_append_left (by simp [S4.cells]; omega)]
    congr 1
    omega
  | y :: M, i + 1, j, x, h, hj => by
    show (y.cells ++ cellsS M)[(i + 1) * 4 + j]? = _
    rw [List.getElem?_append_right (by simp [S4.cells]; omega)]
    rw [show (i + 1) * 4 + j - y.cells.length = i * 4 + j by simp [S4.cells]; omega]
    exact cellsS_get M i j x (by simpa using h) hj
theorem cellsS_set : ∀ (M : List S4) (i j : Nat) (x y : S4) (v : Value), M[i]? = some x → j < 4 → y.cells = x.cells.set j v → (cellsS M).set (i * 4 + j) v = cellsS (M.set i y)
  | [], i, j, x, y, v, h, _, _ => by simp at h
  | z :: M, 0, j, x, y, v, h, hj, hy => by
    obtain rfl : z = x := by simpa using h
    show (z.cells ++ cellsS M).set (0 * 4 + j) v = y.cells ++ cellsS M
    rw [hy, show 0 * 4 + j = j by omega, List.set_append_left _ _ (by simp [S4.cells]; omega)]
  | z :: M, i + 1, j, x, y, v, h, hj, hy => by
    show (z.cells ++ cellsS M).set ((i + 1) * 4 + j) v = z.cells ++ cellsS (M.set i y)
    rw [List.set_append_right _ _ (by simp [S4.cells]; omega), show (i + 1) * 4 + j - z.cells.length = i * 4 + j by simp [S4.cells]; omega]
    rw [cellsS_set M i j x y v (by simpa using h) hj hy]
theorem own_slots {w : World} {base : Nat} {e : TypeId} {a : Option Addr} {c : Nat} {M : List S4} (h : w.ownsRow base e 4 (.slice a M.length c) M.length (cellsS M)) : SlotsAt w a M := by
  cases M with
  | nil => exact .inl rfl
  | cons y M =>
    obtain ⟨g, rfl⟩ : ∃ g, a = some ⟨g, 0, none⟩ := by
      rcases h.2 with ⟨_, h1⟩ | ⟨g, cap, cur, hv, _⟩
      · simp at h1
      · injection hv with hv; exact ⟨g, hv⟩
    refine .inr ⟨g, 0, rfl, fun i r hr => ?_⟩
    rw [List.getElem?_map] at hr
    cases hx : (y :: M)[i]? with
    | none => rw [hx] at hr; cases hr
    | some x =>
      rw [hx] at hr
      obtain rfl := Option.some.inj hr
      refine ⟨rfl, fun j v hj => ?_⟩
      have hj4 : j < 4 := by
        have := (List.getElem?_eq_some_iff.1 hj).1
        simpa [S4.cells] using this
      have hi := (List.getElem?_eq_some_iff.1 hx).1
      rw [Nat.zero_add, World.ownsRow.cellAt h (i * 4 + j) (by omega), cellsS_get _ i j x hx hj4]
      exact hj
theorem own_slots_n {w : World} {base n : Nat} {e : TypeId} {a : Option Addr} {c : Nat} {M : List S4} (hd : M.length = n) (h : w.ownsRow base e 4 (.slice a n c) n (cellsS M)) : SlotsAt w a M := by
  subst hd; exact own_slots h
theorem info_slot : (Try.prog.info? 67).map (fun i => (i.zero, i.size, i.bytes)) = some (some (.agg #[.int .i64 0, .bool false, .int .i64 0, .int .i64 0]), 4, 32) := by kernel_rfl
theorem four_newS {W : World} {a b c d : Value} {t : TypeId} {g : Nat} (hg : g = W.heap.size) : ∀ (j : Nat) (u : Value), [a, b, c, d][j]? = some u → (W.alloc (.cells #[a, b, c, d] t)).cell? ((⟨g, 0, none⟩ : Addr).add j) = some u := by
  intro j u h
  have hj : j < 4 := (List.getElem?_eq_some_iff.1 h).1
  have e : (⟨g, 0, none⟩ : Addr).add j = ⟨g, j, none⟩ := by unfold Addr.add; split <;> simp_all
  rw [e, World.cell?_alloc_at _ _ _ _ hg]
  simpa using h

/-- a store into a row of the call's own, in a world with new blocks -/
theorem own_store {W : World} {l : Array Obj} {d base g n cap size : Nat} {e : TypeId} {xs : List Value} (h : (W.later l d).ownsRow base e size (.slice (some ⟨g, 0, none⟩) n cap) n xs) (hb : W.heap.size ≤ base) (hg : base ≤ g) (j : Nat) (u : Value) :
    ∃ l' d', (W.later l d).setCell ⟨g, j, none⟩ u = W.later l' d' ∧ l'.size = l.size ∧ (W.later l' d').ownsRow base e size (.slice (some ⟨g, 0, none⟩) n cap) n (xs.set j u) := by
  obtain ⟨h1, h2⟩ := World.ownsRow.stored h j u
  have hbw : Below W.heap.size W ((W.later l d).setCell ⟨g, j, none⟩ u) := (bs_later (Below.refl _ _) l d).grown h2 (by simp) (fun k hk => by injection hk with hk; omega)
  obtain ⟨l', d', e⟩ := later_of hbw
  refine ⟨l', d', e, ?_, e ▸ h1⟩
  have := congrArg (fun w : World => w.heap.size) e
  simp only [World.setCell, Array.size_modify, size_later] at this
  omega
theorem own_push {W : World} {l : Array Obj} {d base : Nat} {e : TypeId} {size : Nat} {v : Value} {n : Nat} {xs : List Value} (h : (W.later l d).ownsRow base e size v n xs) (o : Obj) : (W.later (l.push o) d).ownsRow base e size v n xs := by
  have h1 := h.alloc o
  rwa [later_alloc] at h1
theorem own_block {w : World} {base g n cap size : Nat} {e : TypeId} {xs : List Value} (h : w.ownsRow base e size (.slice (some ⟨g, 0, none⟩) n cap) n xs) : base ≤ g ∧ g < w.heap.size := h.lt g rfl
/-- a slice of slots of the call's own comes back -/
def RetS (xs : List S4) (w : World) (e : Ending) (w' : World) : Prop :=
  ∃ v, e = .returned v ∧ w'.ownsRow w.heap.size 67 4 v xs.length (cellsS xs) ∧ Below w.heap.size w w'
theorem RowsAt_flat {w : World} {b off : Nat} {xs : List S4} (h : SlotsAt w (some ⟨b, off, none⟩) xs) : ∀ (j : Nat) (u : Value), (cellsS xs)[j]? = some u → w.cell? ⟨b, off + j, none⟩ = some u := by
  intro j u hj
  have hlt : j < xs.length * 4 := by rw [← len_cellsS]; exact (List.getElem?_eq_some_iff.1 hj).1
  obtain ⟨x, hx⟩ := get_some (xs := xs) (k := j / 4) (by omega)
  have e := cellsS_get xs (j / 4) (j % 4) x hx (by omega)
  rw [show j / 4 * 4 + j % 4 = j by omega, hj] at e
  have hr : (xs.map S4.cells)[j / 4]? = some x.cells := by simp [hx]
  have := RowsAt.at h hr (j := j % 4) e.symm
  rw [show off + j / 4 * 4 + j % 4 = off + j by omega] at this
  exact this
theorem one_cellS {xs : List S4} : ∀ u ∈ cellsS xs, u.oneCell' = true := by
  intro u hu
  obtain ⟨x, _, hx⟩ := List.mem_flatMap.1 hu
  simp only [S4.cells, List.mem_cons, List.not_mem_nil, or_false] at hx
  rcases hx with rfl | rfl | rfl | rfl <;> rfl
set_option maxHeartbeats 2000000 in
set_option maxRecDepth 100000 in
theorem clone_any (xs : List S4) (b off n c : Nat) (w : World) (hn : n ≤ 8) (hd : xs.length = n) (h : SlotsAt w (some ⟨b, off, none⟩) xs) :
    Calls Try.prog 61 #[.slice (some ⟨b, off, none⟩) n c] w (RetS xs w) := by
  obtain ⟨i0, hi, hz0, hz1, hz2⟩ := info_parts info_slot
  have HD := Lib.hid hd
  have HT := Lib.hid (RowsAt_flat h)
  clear hd h
  have q := fun (w : World) (a : Option Addr) (n c n' c' : Nat) => Lib.run_eql_slice_nil w _ _ a n c n' c' Try.underlying63
  go_enter Try.func61, Try.ntmps61
  go_wp2_with (at_builtin; refine wpList_append_own _ rfl _ _ 63 rfl w.heap.size 67 i0 _ 4 32 Try.underlying63 hi hz0 hz1 hz2 rfl (by decide) _ _ _ rfl (World.ownsRow_made w #[] 0 (Nat.le_refl _) (Nat.zero_le _) rfl) ⟨b, off, none⟩ n c (cellsS xs) rfl ?qc1 ?qc2 ?qc3 ?qc4 ?qc5 ?qc6 ?_)
  case qc1 => rw [len_cellsS, HD.out]
  case qc2 =>
    intro j u hj
    rw [Addr.add_lit]
    exact Lib.cell?_alloc_some _ (HT.out j u hj)
  case qc3 => exact one_cellS
  case qc4 => unfold maxLen; omega
  case qc5 => omega
  case qc6 => simp
  intro v' w1 hown hgrow hnil
  have HO := Lib.hid hown
  have HG := Lib.hid hgrow
  clear hown hgrow hnil
  go_wp2
  go_ret
  refine ⟨v', rfl, ?_, ?_⟩
  · have := HO.out
    rw [HD.out]
    simpa using this
  · exact ((Below.refl _ w).alloc (Nat.le_refl _) _).grown HG.out (by simp) (by intro k hk; simp [Value.ownBlock] at hk; omega)
end Go.Proofs.Ytffhfpdmfegcpaa.slot
