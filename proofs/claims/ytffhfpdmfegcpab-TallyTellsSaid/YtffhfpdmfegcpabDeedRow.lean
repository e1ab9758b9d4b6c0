/- A slice of deeds of the call's own: its records. -/
import Derived.Test.YtffhfpdmfegcpabOrderLaw
import Derived.Test.YtffhfpdmfegcpabBankSame
import Derived.Laws.OwnMore
namespace Go.Proofs.Ytffhfpdmfegcpab.told
open Go.ChangeShapes Go.WideShapes Go.ChangeAt Go.RowKit
open Go.Proofs.Ytffhfpdmfegcpab.base Go.Proofs.Ytffhfpdmfegcpab.table Go.Proofs.Ytffhfpdmfegcpab.play
set_option linter.unusedVariables false
set_option linter.unusedSimpArgs false

def cellsOf (M : List D4) : List Value := M.flatMap D4.cells
theorem cellsOf_snoc (M : List D4) (x : D4) : cellsOf (M ++ [x]) = cellsOf M ++ x.cells := by simp [cellsOf]
theorem cellsOf_get : ∀ (M : List D4) (i j : Nat) (x : D4), M[i]? = some x → j < 4 → (cellsOf M)[i * 4 + j]? = x.cells[j]?
  | [], i, j, x, h, _ => by simp at h
  | y :: M, 0, j, x, h, hj => by
    obtain rfl : y = x := by simpa using h
    show (y.cells ++ cellsOf M)[0 * 4 + j]? = _
    rw [List.getElem?_append_left (by simp [D4.cells]; omega)]
    congr 1
    omega
  | y :: M, i + 1, j, x, h, hj => by
    show (y.cells ++ cellsOf M)[(i + 1) * 4 + j]? = _
    rw [List.getElem?_append_right (by simp [D4.cells]; omega)]
    rw [show (i + 1) * 4 + j - y.cells.length = i * 4 + j by simp [D4.cells]; omega]
    exact cellsOf_get M i j x (by simpa using h) hj
theorem own_deeds {w : World} {base : Nat} {e : TypeId} {a : Option Addr} {c : Nat} {M : List D4} (h : w.ownsRow base e 4 (.slice a M.length c) M.length (cellsOf M)) : DeedsAt w a M := by
  cases M with
  | nil => exact .inl rfl
  | cons y M =>
    obtain ⟨g, rfl⟩ : ∃ g, a = some ⟨g, 0, none⟩ := by
      rcases h.2 with ⟨_, h1⟩ | ⟨g, cap, cur, hv, _⟩
      · simp at h1
      · injection hv with hv; exact ⟨g, hv⟩
    refine .inr ⟨g, 0, rfl, fun i r hr => ?_⟩
    rw [List.getElem?_map] at hr
    cases hx : (y :: M)[i]? with
    | none => rw [hx] at hr; cases hr
    | some x =>
      rw [hx] at hr
      obtain rfl := Option.some.inj hr
      refine ⟨rfl, fun j v hj => ?_⟩
      have hj4 : j < 4 := by
        have := (List.getElem?_eq_some_iff.1 hj).1
        simpa [D4.cells] using this
      have hi := (List.getElem?_eq_some_iff.1 hx).1
      rw [Nat.zero_add, World.ownsRow.cellAt h (i * 4 + j) (by omega), cellsOf_get _ i j x hx hj4]
      exact hj
theorem deeds_take {w : World} {a : Option Addr} {ds : List D4} (h : DeedsAt w a ds) (k : Nat) : DeedsAt w a (ds.take k) := by
  rcases h with h | ⟨b, off, h1, h2⟩
  · obtain rfl : ds = [] := by simpa using h
    left; simp
  · refine .inr ⟨b, off, h1, fun i r hr => h2 i r ?_⟩
    rw [List.map_take, List.getElem?_take] at hr
    split at hr
    · exact hr
    · cases hr
theorem info_deed : (Try.prog.info? 56).map (fun i => (i.zero, i.size, i.bytes)) = some (some (.agg #[.int .i64 0, .int .i64 0, .int .i64 0, .int .u64 0]), 4, 32) := by kernel_rfl
theorem four_new {W : World} {a b c d : Value} {t : TypeId} {g : Nat} (hg : g = W.heap.size) : ∀ (j : Nat) (u : Value), [a, b, c, d][j]? = some u → (W.alloc (.cells #[a, b, c, d] t)).cell? ((⟨g, 0, none⟩ : Addr).add j) = some u := by
  intro j u h
  have hj : j < 4 := (List.getElem?_eq_some_iff.1 h).1
  have e : (⟨g, 0, none⟩ : Addr).add j = ⟨g, j, none⟩ := by unfold Addr.add; split <;> simp_all
  rw [e, World.cell?_alloc_at _ _ _ _ hg]
  simpa using h
end Go.Proofs.Ytffhfpdmfegcpab.told
