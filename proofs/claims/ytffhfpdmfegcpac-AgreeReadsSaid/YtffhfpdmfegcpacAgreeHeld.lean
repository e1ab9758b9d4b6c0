/- Who holds a line: a row of records of the call's own; laws of the check of a line. -/
import Derived.Test.YtffhfpdmfegcpacAgreeHold
import Derived.Test.YtffhfpdmfegcpacBankMore
namespace Go.Proofs.Ytffhfpdmfegcpac.agree
open Go.ChangeShapes Go.WideShapes Go.ChangeAt Go.RowKit
open Go.Proofs.Ytffhfpdmfegcpac.base Go.Proofs.Ytffhfpdmfegcpac.flat Go.Proofs.Ytffhfpdmfegcpac.table Go.Proofs.Ytffhfpdmfegcpac.prog Go.Proofs.Ytffhfpdmfegcpac.same Go.Proofs.Ytffhfpdmfegcpac.addr Go.Proofs.Ytffhfpdmfegcpac.bank Go.Proofs.Ytffhfpdmfegcpac.ways Go.Proofs.Ytffhfpdmfegcpac.state Go.Proofs.Ytffhfpdmfegcpac.turn Go.Proofs.Ytffhfpdmfegcpac.bankMore Go.Proofs.Ytffhfpdmfegcpac.memEq
set_option linter.unusedVariables false
set_option linter.unusedSimpArgs false

def HeldAt (w : World) (a : Option Addr) (l : List H7) : Prop := RowsAt 7 w a (l.map H7.cells)
theorem HeldAt.at {w : World} {b off : Nat} {l : List H7} (h : HeldAt w (some ⟨b, off, none⟩) l) {i : Nat} {y : H7} (hy : l[i]? = some y) :
    w.cell? ⟨b, off + i * 7, none⟩ = some (.int .i64 (y.node : Int)) ∧ w.cell? ⟨b, off + i * 7 + 1, none⟩ = some (.int .i64 y.x.s) ∧ w.cell? ⟨b, off + i * 7 + 2, none⟩ = some (.int .i64 y.x.l) ∧ w.cell? ⟨b, off + i * 7 + 3, none⟩ = some (.int .u64 y.x.a) ∧ w.cell? ⟨b, off + i * 7 + 4, none⟩ = some (.int .u64 y.x.b) ∧ w.cell? ⟨b, off + i * 7 + 5, none⟩ = some (.int .u64 y.x.c) ∧ w.cell? ⟨b, off + i * 7 + 6, none⟩ = some (.int .u64 y.x.d) := by
  have hr : (l.map H7.cells)[i]? = some y.cells := by simp [hy]
  exact ⟨RowsAt.at h hr (j := 0) rfl, RowsAt.at h hr (j := 1) rfl, RowsAt.at h hr (j := 2) rfl, RowsAt.at h hr (j := 3) rfl, RowsAt.at h hr (j := 4) rfl, RowsAt.at h hr (j := 5) rfl, RowsAt.at h hr (j := 6) rfl⟩
theorem HeldAt.below {w w' : World} {a : Option Addr} {l : List H7} (h : HeldAt w a l) (hb : Below w.heap.size w w') : HeldAt w' a l := RowsAt.below h hb
theorem HeldAt.form {w : World} {a : Option Addr} {l : List H7} (h : HeldAt w a l) {i : Nat} {y : H7} (hy : l[i]? = some y) : ∃ b off, a = some ⟨b, off, none⟩ :=
  RowsAt.form h (i := i) (r := y.cells) (by simp [hy])
theorem cells7 (y : H7) : y.cells.length = 7 := rfl
theorem cellsH_get : ∀ (M : List H7) (i j : Nat) (x : H7), M[i]? = some x → j < 7 → (cellsH M)[i * 7 + j]? = x.cells[j]?
  | [], i, j, x, h, _ => by simp at h
  | y :: M, 0, j, x, h, hj => by
    obtain rfl : y = x := by simpa using h
    show (y.cells ++ cellsH M)[0 * 7 + j]? = _
    rw [List.getElem?_append_left (by rw [cells7]; omega), Nat.zero_mul, Nat.zero_add]
  | y :: M, i + 1, j, x, h, hj => by
    show (y.cells ++ cellsH M)[(i + 1) * 7 + j]? = _
    rw [List.getElem?_append_right (by rw [cells7]; omega), cells7, show (i + 1) * 7 + j - 7 = i * 7 + j by omega]
    exact cellsH_get M i j x (by simpa using h) hj
theorem own_held {w : World} {base : Nat} {e : TypeId} {a : Option Addr} {c : Nat} {M : List H7} (h : w.ownsRow base e 7 (.slice a M.length c) M.length (cellsH M)) : HeldAt w a M := by
  cases M with
  | nil => exact .inl rfl
  | cons y M =>
    obtain ⟨g, rfl⟩ : ∃ g, a = some ⟨g, 0, none⟩ := by
      rcases h.2 with ⟨_, h1⟩ | ⟨g, cap, cur, hv, _⟩
      · simp at h1
      · injection hv with hv; exact ⟨g, hv⟩
    refine .inr ⟨g, 0, rfl, fun i r hr => ?_⟩
    rw [List.getElem?_map] at hr
    cases hx : (y :: M)[i]? with
    | none => rw [hx] at hr; cases hr
    | some x =>
      rw [hx] at hr
      obtain rfl := Option.some.inj hr
      refine ⟨rfl, fun j v hj => ?_⟩
      have hj7 : j < 7 := by
        have := (List.getElem?_eq_some_iff.1 hj).1
        rwa [cells7] at this
      have hi := (List.getElem?_eq_some_iff.1 hx).1
      rw [Nat.zero_add, World.ownsRow.cellAt h (i * 7 + j) (by omega), cellsH_get _ i j x hx hj7]
      exact hj
theorem own_capH {w : World} {base n c : Nat} {e : TypeId} {a : Option Addr} {xs : List Value} (h : w.ownsRow base e 7 (.slice a n c) n xs) : n ≤ c := by
  rcases h.2 with ⟨h1, h2⟩ | ⟨g, cap, cur, hv, h3⟩
  · injection h1 with _ h4 h5; omega
  · injection hv with _ _ h5; subst h5; omega

/-! ### the check of a line, step by step -/
theorem apartL_app : ∀ (l1 l2 pre : List H7), apartL pre (l1 ++ l2) = (apartL pre l1 && apartL (pre ++ l1) l2)
  | [], l2, pre => by simp [apartL]
  | y :: l1, l2, pre => by simp [apartL, apartL_app l1 l2 (pre ++ [y]), Bool.and_assoc]
theorem split_at {l : List H7} {k : Nat} {x : H7} (hx : l[k]? = some x) : l = l.take k ++ x :: l.drop (k + 1) := by
  obtain ⟨hk, rfl⟩ := List.getElem?_eq_some_iff.1 hx
  rw [← List.drop_eq_getElem_cons hk, List.take_append_drop]
theorem apart_bad {l : List H7} {k j : Nat} {x y : H7} (hx : l[k]? = some x) (hy : l[j]? = some y) (hj : j < k) (hb : besideB x.x.s y.x.s = false) : apartL [] l = false := by
  rw [split_at hx, apartL_app]
  have h1 : apart1 ([] ++ l.take k) x = false := by
    rw [List.nil_append]
    unfold apart1
    rw [List.all_eq_false]
    exact ⟨y, List.mem_of_getElem? (i := j) (by rw [List.getElem?_take, if_pos hj]; exact hy), by simp [hb]⟩
  simp only [apartL]
  rw [h1, Bool.false_and, Bool.and_false]
theorem apart_step {l : List H7} {k : Nat} {x : H7} (hx : l[k]? = some x) (h : apartL [] (l.take k) = true) (hall : ∀ j y, j < k → l[j]? = some y → besideB x.x.s y.x.s = true) : apartL [] (l.take (k + 1)) = true := by
  rw [take_snocH hx, apartL_snoc, h, Bool.true_and, List.nil_append]
  unfold apart1
  rw [List.all_eq_true]
  intro y hy
  obtain ⟨j, hj⟩ := List.getElem?_of_mem hy
  have hjk : j < k := by
    have := (List.getElem?_eq_some_iff.1 hj).1
    rw [List.length_take] at this; omega
  rw [List.getElem?_take, if_pos hjk] at hj
  exact hall j y hjk hj
theorem owned_step {l : List H7} {k : Nat} {x : H7} (hx : l[k]? = some x) : ownedL (l.take (k + 1)) = (ownedL (l.take k) || amongB x.x.s [3, 4]) := by
  rw [take_snocH hx]; simp [ownedL]
theorem chk_8 {xs : List Int} {L : Nat} {l : List H7} (h : apartL [] l = false) : chkE xs L l = 8 := if_pos h
theorem chk_3 {xs : List Int} {L : Nat} {l : List H7} (h : apartL [] l = true) {k : Nat} {x : H7} (hx : l[k]? = some x) (hf : fit1 xs L l x = false) : chkE xs L l = 3 := by
  unfold chkE
  rw [if_neg (by rw [h]; decide), if_pos]
  rw [List.all_eq_false]
  exact ⟨x, List.mem_of_getElem? hx, by simp [hf]⟩
theorem chk_0 {xs : List Int} {L : Nat} {l : List H7} (h : apartL [] l = true) (hf : ∀ (k : Nat) (x : H7), k < l.length → l[k]? = some x → fit1 xs L l x = true) : chkE xs L l = 0 := by
  unfold chkE
  rw [if_neg (by rw [h]; decide), if_neg]
  rw [Bool.not_eq_false, List.all_eq_true]
  intro x hx
  obtain ⟨k, hk⟩ := List.getElem?_of_mem hx
  exact hf k x (List.getElem?_eq_some_iff.1 hk).1 hk
theorem lineL_eq {xs : List Int} (hl : xs.length = 64) {L : Nat} (hL : L < 16) : lineL xs L = [wordAt xs (L * 4), wordAt xs (L * 4 + 1), wordAt xs (L * 4 + 2), wordAt xs (L * 4 + 3)] := by
  unfold lineL
  apply List.ext_getElem?
  intro j
  have hw : ∀ i, i < 64 → xs[i]? = some (wordAt xs i) := fun i hi => by
    obtain ⟨x, hx⟩ := get_some (xs := xs) (k := i) (by omega)
    rw [hx]; unfold wordAt; rw [List.getD_eq_getElem?_getD, hx]; rfl
  rw [List.getElem?_take]
  split
  · rename_i hj
    rw [List.getElem?_drop, hw _ (by omega)]
    obtain rfl | rfl | rfl | rfl : j = 0 ∨ j = 1 ∨ j = 2 ∨ j = 3 := by omega
    all_goals (simp; congr 1; omega)
  · rename_i hj
    rw [List.getElem?_eq_none (by simp; omega)]
theorem worldA_word {ca : Option Addr} {n cc : Nat} {xs : List Int} (hl : xs.length = 64) {i : Nat} (hi : i < 64) : (worldA ca n cc xs)[1 + i]? = some (.int .u64 (wordAt xs i)) := by
  obtain ⟨x, hx⟩ := get_some (xs := xs) (k := i) (by omega)
  have : wordAt xs i = x := by unfold wordAt; rw [List.getD_eq_getElem?_getD, hx]; rfl
  rw [this, Nat.add_comm]; exact worldA_at hx
/-- what '==' answers at two lines -/
theorem eq_line (a b c d a' b' c' d' : Int) (h1 : (Lit.int .u64 a).wf = true) (h2 : (Lit.int .u64 b).wf = true) (h3 : (Lit.int .u64 c).wf = true) (h4 : (Lit.int .u64 d).wf = true)
    (g1 : (Lit.int .u64 a').wf = true) (g2 : (Lit.int .u64 b').wf = true) (g3 : (Lit.int .u64 c').wf = true) (g4 : (Lit.int .u64 d').wf = true) (w : World) :
    (Op.equalIn 10000 24 (.agg #[.int .u64 a, .int .u64 b, .int .u64 c, .int .u64 d]) (.agg #[.int .u64 a', .int .u64 b', .int .u64 c', .int .u64 d'])).run Try.prog w = .ok (decide ([a, b, c, d] = [a', b', c', d'])) w := by
  rw [words.run_eq_line w _ _ _ _ _ _ _ _ h1 h2 h3 h4 g1 g2 g3 g4]
  congr 1
  by_cases h : [a, b, c, d] = [a', b', c', d']
  · rw [decide_eq_true h]
    exact eqv_true (by simp only [List.cons.injEq] at h ⊢; simp [h])
  · rw [decide_eq_false h]
    refine eqv_false fun e => h ?_
    simp only [List.cons.injEq, Value.int.injEq, true_and] at e ⊢
    simp [e]
end Go.Proofs.Ytffhfpdmfegcpac.agree
