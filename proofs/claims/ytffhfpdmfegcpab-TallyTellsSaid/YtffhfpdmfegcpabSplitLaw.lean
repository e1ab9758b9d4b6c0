/- What prog.Split computes, as a law of lists. -/
import Derived.Test.YtffhfpdmfegcpabProgLaw
import Derived.Test.YtffhfpdmfegcpabDeedRow
import Derived.Test.YtffhfpdmfegcpabRowsOwn
namespace Go.Proofs.Ytffhfpdmfegcpab.prog
open Go.ChangeShapes Go.WideShapes Go.ChangeAt Go.RowKit
open Go.Proofs.Ytffhfpdmfegcpab.base Go.Proofs.Ytffhfpdmfegcpab.flat Go.Proofs.Ytffhfpdmfegcpab.table Go.Proofs.Ytffhfpdmfegcpab.addr Go.Proofs.Ytffhfpdmfegcpab.atomic Go.Proofs.Ytffhfpdmfegcpab.told Go.Proofs.Ytffhfpdmfegcpab.rows
set_option linter.unusedVariables false
set_option linter.unusedSimpArgs false

def splitP (cn : Int) (_ : Nat) (x : D4) : Int := if rightE x.n x.k x.a x.v = 0 then (if cn ≤ x.n then 4 else 0) else rightE x.n x.k x.a x.v
def splitE (cn cs cy cb : Int) (ls : List D4) : Int := if cfgE cn cs cy cb = 0 then (if 200 < ls.length then 2 else fnz (splitP cn) 0 ls) else cfgE cn cs cy cb
/-- node k's deeds -/
def nodeL (k : Nat) (ls : List D4) : List D4 := ls.filter fun x => decide (x.n = (k : Int))
def splitL (n : Nat) (ls : List D4) : List (List D4) := (List.range n).map fun k => nodeL k ls
def rowsS (n : Nat) (ls : List D4) : List (Nat × List Value) := (splitL n ls).map fun m => (m.length, cellsOf m)
theorem nodeL_snoc (k : Nat) (ls : List D4) (x : D4) : nodeL k (ls ++ [x]) = nodeL k ls ++ if x.n = (k : Int) then [x] else [] := by
  unfold nodeL
  rw [List.filter_append]
  by_cases h : x.n = (k : Int)
  · simp [h]
  · simp [h]
theorem nodeL_len (k : Nat) (ls : List D4) : (nodeL k ls).length ≤ ls.length := List.length_filter_le _ _
theorem splitL_len (n : Nat) (ls : List D4) : (splitL n ls).length = n := by simp [splitL]
theorem splitL_get {n k : Nat} (h : k < n) (ls : List D4) : (splitL n ls)[k]? = some (nodeL k ls) := by simp [splitL, h]
theorem splitL_of {n k : Nat} {ls m : List D4} (h : (splitL n ls)[k]? = some m) : k < n ∧ m = nodeL k ls := by
  have hk : k < n := by have := (List.getElem?_eq_some_iff.1 h).1; rwa [splitL_len] at this
  rw [splitL_get hk] at h
  exact ⟨hk, (Option.some.inj h).symm⟩
theorem rowsS_get {n k : Nat} (h : k < n) (ls : List D4) : (rowsS n ls)[k]? = some ((nodeL k ls).length, cellsOf (nodeL k ls)) := by
  unfold rowsS; rw [List.getElem?_map, splitL_get h]; rfl
theorem rowsS_len (n : Nat) (ls : List D4) : (rowsS n ls).length = n := by simp [rowsS, splitL]
theorem rowsS_nil (n : Nat) : rowsS n [] = List.replicate n (0, []) := by
  apply List.ext_getElem?
  intro j
  by_cases hj : j < n
  · rw [rowsS_get hj]; simp [nodeL, cellsOf, hj]
  · rw [List.getElem?_eq_none (by rw [rowsS_len]; omega), List.getElem?_eq_none (by simp; omega)]
theorem rowsS_snoc (n : Nat) {k : Nat} (ls : List D4) {x : D4} (hx : x.n = (k : Int)) : rowsS n (ls ++ [x]) = (rowsS n ls).set k ((nodeL k ls).length + 1, cellsOf (nodeL k ls) ++ x.cells) := by
  apply List.ext_getElem?
  intro j
  by_cases hj : j < n
  · rw [rowsS_get hj, nodeL_snoc]
    by_cases hk : k = j
    · subst hk
      rw [List.getElem?_set_self (by rw [rowsS_len]; exact hj), if_pos hx, List.length_append, cellsOf_snoc]
      rfl
    · rw [List.getElem?_set_ne hk, rowsS_get hj, if_neg (by rw [hx]; omega), List.append_nil]
  · rw [List.getElem?_eq_none (by rw [rowsS_len]; omega), List.getElem?_eq_none (by rw [List.length_set, rowsS_len]; omega)]
def RelS (cn : Int) (ls : List D4) (n g : Nat) (ts td : TypeId) (w0 : World) (i : Value) (wr : World) : Prop :=
  ∃ (j : Nat) (l : Array Obj) (d : Nat) (vs : List Value), j ≤ ls.length ∧ i = .int .i64 j ∧ wr = w0.later l d
    ∧ (w0.later l d).ownsRow w0.heap.size ts 1 (.slice (some ⟨g, 0, none⟩) n n) n vs
    ∧ OwnRows (w0.later l d) g td 4 vs (rowsS n (ls.take j))
    ∧ ∀ (i : Nat) (y : D4), i < j → ls[i]? = some y → splitP cn (0 + i) y = 0
def SplitPost (n : Nat) (E : Int) (ls : List D4) (w : World) (e : Ending) (w' : World) : Prop :=
  Below w.heap.size w w' ∧ ((E = 0 ∧ ∃ a c, e = .returned (.tuple #[.slice a n c, .int .i64 0]) ∧ n ≤ c ∧ c ≤ maxLen ∧ (a = none → n = 0) ∧ ListsAt DeedsAt w' a (splitL n ls))
    ∨ (¬ E = 0 ∧ e = .returned (.tuple #[.slice none 0 0, .int .i64 E])))
/-- rows of the call's own, as the lists that they hold -/
theorem rows_lists {w : World} {base g n : Nat} {ts td : TypeId} {vs : List Value} {ls : List D4} (h : w.ownsRow base ts 1 (.slice (some ⟨g, 0, none⟩) n n) n vs) (hr : OwnRows w g td 4 vs (rowsS n ls)) : ListsAt DeedsAt w (some ⟨g, 0, none⟩) (splitL n ls) := by
  refine .inr ⟨g, 0, rfl, fun i m hm => ?_⟩
  obtain ⟨hi, rfl⟩ := splitL_of hm
  have hl : vs.length = n := by rw [hr.len, rowsS_len]
  obtain ⟨v, hv⟩ := get_some (xs := vs) (k := i) (by rw [hl]; exact hi)
  have ho := hr.own i v _ _ hv (rowsS_get hi ls)
  obtain ⟨a, c, rfl⟩ := own_form ho
  refine ⟨a, c, by rw [Nat.zero_add, h.cellAt i (by omega)]; exact hv, ?_⟩
  have hd := own_deeds ho
  rcases ho.2 with ⟨h1, h2⟩ | ⟨b, cap, cur, h1, h2, h3, h4, h5, _⟩
  · injection h1 with e1 e2 e3
    exact ⟨by omega, by rw [e3]; exact Nat.zero_le _, fun _ => e2, hd⟩
  · injection h1 with e1 e2 e3
    exact ⟨by omega, by omega, (fun e => by rw [e1] at e; cases e), hd⟩
end Go.Proofs.Ytffhfpdmfegcpab.prog
