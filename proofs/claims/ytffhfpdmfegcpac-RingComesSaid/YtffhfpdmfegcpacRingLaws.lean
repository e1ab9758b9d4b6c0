/- Who is told, and when: the laws of the ring as laws of lists. -/
import Derived.Test.YtffhfpdmfegcpacStepLaw
namespace Go.Proofs.Ytffhfpdmfegcpac.slot
open Go.ChangeShapes Go.WideShapes Go.ChangeAt Go.RowKit
open Go.Proofs.Ytffhfpdmfegcpac.base Go.Proofs.Ytffhfpdmfegcpac.flat Go.Proofs.Ytffhfpdmfegcpac.table Go.Proofs.Ytffhfpdmfegcpac.addr
set_option linter.unusedVariables false
set_option linter.unusedSimpArgs false

theorem mem_putL {node wait : Int} : ∀ {xs : List S4} {y : S4}, y ∈ putL node wait xs → y ∈ xs ∨ y = ⟨node, true, node, wait⟩
  | [], y, h => by cases h
  | x :: l, y, h => by
    unfold putL at h
    split at h
    · rcases List.mem_cons.1 h with rfl | h
      · exact .inr rfl
      · exact .inl (List.mem_cons_of_mem _ h)
    · rcases List.mem_cons.1 h with rfl | h
      · exact .inl (List.mem_cons_self ..)
      · rcases mem_putL h with h | h
        · exact .inl (List.mem_cons_of_mem _ h)
        · exact .inr h
theorem putL_pair {node wait : Int} : ∀ {xs : List S4}, (∀ x ∈ xs, x.full = true → x.by_ ≠ node) → (xs.Pairwise fun x y => x.full = true → y.full = true → x.by_ ≠ y.by_) → (putL node wait xs).Pairwise fun x y => x.full = true → y.full = true → x.by_ ≠ y.by_
  | [], hb, h => h
  | x :: l, hb, h => by
    obtain ⟨h1, h2⟩ := List.pairwise_cons.1 h
    unfold putL
    split
    · exact List.pairwise_cons.2 ⟨fun y hy _ fy e => hb y (List.mem_cons_of_mem _ hy) fy e.symm, h2⟩
    · refine List.pairwise_cons.2 ⟨fun y hy fx fy => ?_, putL_pair (fun y hy => hb y (List.mem_cons_of_mem _ hy)) h2⟩
      rcases mem_putL hy with hy | rfl
      · exact h1 y hy fx fy
      · exact hb x (List.mem_cons_self ..) fx
theorem putL_ok {cn node wait : Int} {xs : List S4} (h : RingOK cn xs) (hb : byB xs node = false) (hn : 0 ≤ node ∧ node ≤ cn - 1) (hw : 0 ≤ wait ∧ wait ≤ 9) : RingOK cn (putL node wait xs) := by
  refine ⟨?_, ?_, putL_pair (byB_false.1 hb) h.uniq⟩
  · intro x hx
    rcases mem_putL hx with hx | rfl
    · exact h.inn x hx
    · exact ⟨hn, hn, hw⟩
  · intro x hx hf
    rcases mem_putL hx with hx | rfl
    · exact h.idle x hx hf
    · cases hf
theorem putL_mem {node wait : Int} : ∀ {xs : List S4}, putB node xs = true → (⟨node, true, node, wait⟩ : S4) ∈ putL node wait xs
  | [], h => by simp [putB] at h
  | x :: l, h => by
    unfold putL
    split
    · exact List.mem_cons_self ..
    · rename_i hf
      unfold putB at h
      rw [List.any_cons] at h
      have hf : x.free node = false := by simpa using hf
      rw [hf, Bool.false_or] at h
      exact List.mem_cons_of_mem _ (putL_mem h)
theorem same_slot {cn : Int} {xs : List S4} (h : RingOK cn xs) {x y : S4} (hx : x ∈ xs) (hy : y ∈ xs) (fx : x.full = true) (fy : y.full = true) (e : x.by_ = y.by_) : x = y := by
  obtain ⟨i, hi, rfl⟩ := List.getElem_of_mem hx
  obtain ⟨j, hj, rfl⟩ := List.getElem_of_mem hy
  have hp := List.pairwise_iff_getElem.1 h.uniq
  rcases Nat.lt_trichotomy i j with hij | hij | hij
  · exact absurd e (hp i j hi hj hij fx fy)
  · subst hij; rfl
  · exact absurd e.symm (hp j i hj hi hij fy fx)
theorem told_iff {cn : Int} {xs : List S4} (h : RingOK cn xs) {x : S4} (hx : x ∈ xs) (fx : x.full = true) : x.by_ ∈ toldL cn xs ↔ x.tells cn = true := by
  unfold toldL
  rw [List.mem_map]
  constructor
  · rintro ⟨y, hy, e⟩
    obtain ⟨hy, ty⟩ := List.mem_filter.1 hy
    obtain rfl := same_slot h hy hx (tells_full ty).1 fx e
    exact ty
  · intro ht
    exact ⟨x, List.mem_filter.2 ⟨hx, ht⟩, rfl⟩
/-- the slot of a node behind k steps -/
def slotJ (cn node wait : Int) (k : Nat) : S4 :=
  if (k : Int) ≤ wait then ⟨node, true, node, wait - k⟩ else ⟨if node + (k - wait) < cn then node + (k - wait) else node + (k - wait) - cn, true, node, 0⟩
def itL (cn : Int) (xs : List S4) : Nat → List S4
  | 0 => xs
  | k + 1 => stepL cn (itL cn xs k)
theorem len_itL (cn : Int) (xs : List S4) : ∀ k, (itL cn xs k).length = xs.length
  | 0 => rfl
  | k + 1 => by unfold itL; rw [len_stepL, len_itL cn xs k]
theorem itL_ok {cn : Int} {xs : List S4} (h2 : 2 ≤ cn) (h : RingOK cn xs) : ∀ k, RingOK cn (itL cn xs k)
  | 0 => h
  | k + 1 => stepL_ok h2 (itL_ok h2 h k)
theorem slotJ_by (cn node wait : Int) (k : Nat) : (slotJ cn node wait k).by_ = node ∧ (slotJ cn node wait k).full = true := by
  unfold slotJ; split <;> exact ⟨rfl, rfl⟩
theorem slotJ_tells {cn node wait : Int} {k : Nat} (h2 : 2 ≤ cn) (hn : 0 ≤ node ∧ node ≤ cn - 1) (hw : 0 ≤ wait) (hk : (k : Int) < cn + wait) : (slotJ cn node wait k).tells cn = true ↔ ((k : Int) + 1 = cn + wait) := by
  unfold slotJ
  by_cases h1 : (k : Int) ≤ wait
  · rw [if_pos h1]
    unfold S4.tells stepAt
    simp only [Bool.true_and, Bool.and_eq_true, decide_eq_true_eq]
    constructor
    · rintro ⟨ha, hb⟩
      split at hb <;> omega
    · intro h; omega
  · rw [if_neg h1]
    unfold S4.tells stepAt
    simp only [Bool.true_and, Bool.and_eq_true, decide_eq_true_eq]
    constructor
    · rintro ⟨ha, hb⟩
      split at hb <;> split at hb <;> omega
    · intro h
      refine ⟨by omega, ?_⟩
      split <;> split <;> omega
theorem slotJ_step {cn node wait : Int} {k : Nat} (h2 : 2 ≤ cn) (hn : 0 ≤ node ∧ node ≤ cn - 1) (hw : 0 ≤ wait) (hk : (k : Int) + 1 < cn + wait) : (slotJ cn node wait k).step cn = slotJ cn node wait (k + 1) := by
  unfold slotJ
  by_cases h1 : (k : Int) < wait
  · rw [if_pos (by omega), if_pos (by omega)]
    unfold S4.step
    rw [if_pos (by show 0 < wait - (k : Int); omega)]
    simp only [S4.mk.injEq, true_and]
    omega
  · by_cases h3 : (k : Int) = wait
    · rw [if_pos (show (k : Int) ≤ wait by omega), if_neg (show ¬ ((k + 1 : Nat) : Int) ≤ wait by omega)]
      unfold S4.step
      rw [if_neg (by show ¬ 0 < wait - (k : Int); omega)]
      rw [if_neg (by
        rintro ⟨-, e⟩
        have e : node = stepAt cn node := e
        unfold stepAt at e
        split at e <;> omega)]
      simp only [S4.mk.injEq, true_and]
      refine ⟨?_, by omega⟩
      unfold stepAt
      split <;> split <;> omega
    · rw [if_neg (show ¬ (k : Int) ≤ wait by omega), if_neg (show ¬ ((k + 1 : Nat) : Int) ≤ wait by omega)]
      unfold S4.step
      rw [if_neg (by show ¬ (0 : Int) < 0; omega)]
      rw [if_neg (by
        rintro ⟨-, e⟩
        have e : node = stepAt cn (if node + (k - wait) < cn then node + (k - wait) else node + (k - wait) - cn) := e
        unfold stepAt at e
        split at e <;> split at e <;> omega)]
      simp only [S4.mk.injEq, true_and, and_true]
      unfold stepAt
      split <;> split <;> split <;> omega
theorem slotJ_mem {cn node wait : Int} {xs : List S4} (h2 : 2 ≤ cn) (hn : 0 ≤ node ∧ node ≤ cn - 1) (hw : 0 ≤ wait) (h : (⟨node, true, node, wait⟩ : S4) ∈ xs) : ∀ k : Nat, (k : Int) < cn + wait → slotJ cn node wait k ∈ itL cn xs k
  | 0, _ => by
    unfold slotJ itL
    rw [if_pos (by show ((0 : Nat) : Int) ≤ wait; omega)]
    simpa using h
  | k + 1, hk => by
    rw [← slotJ_step h2 hn hw (by omega)]
    exact List.mem_map_of_mem (slotJ_mem h2 hn hw h k (by omega))
/-- who puts is told at the step that is expected -/
theorem comes {cn node wait : Int} {xs : List S4} (h2 : 2 ≤ cn) (h : RingOK cn xs) (hn : 0 ≤ node ∧ node ≤ cn - 1) (hw : 0 ≤ wait) (hm : (⟨node, true, node, wait⟩ : S4) ∈ xs) (k : Nat) (hk : (k : Int) < cn + wait) :
    node ∈ toldL cn (itL cn xs k) ↔ (k : Int) + 1 = cn + wait := by
  obtain ⟨hb, hf⟩ := slotJ_by cn node wait k
  have := told_iff (itL_ok h2 h k) (slotJ_mem h2 hn hw hm k hk) hf
  rw [hb] at this
  rw [this]
  exact slotJ_tells h2 hn hw hk

/-- the nodes that are under way -/
def fullL (xs : List S4) : List Int := (xs.filter S4.full).map S4.by_
theorem mem_sortI {l : List Int} {k : Int} : k ∈ sortI l ↔ k ∈ l := List.mem_mergeSort
theorem len_sortI (l : List Int) : (sortI l).length = l.length := List.length_mergeSort _
theorem sortI_pw (l : List Int) : (sortI l).Pairwise fun a b => decide (a ≤ b) = true :=
  List.pairwise_mergeSort (by intro a b c; simp; omega) (by intro a b; simp; omega) l
theorem sortI_eq {l m : List Int} (h : l.Perm m) (hm : m.Pairwise fun a b => decide (a ≤ b) = true) : sortI l = m := by
  refine List.Perm.eq_of_pairwise (le := fun a b : Int => decide (a ≤ b) = true) ?_ (sortI_pw l) hm ((List.mergeSort_perm l _).trans h)
  intro a b _ _ h1 h2
  simp only [decide_eq_true_eq] at h1 h2
  omega
theorem step_keeps {cn : Int} {x : S4} : (x.step cn).full = (x.full && !x.tells cn) := by
  unfold S4.step S4.tells
  by_cases h1 : 0 < x.wait
  · rw [if_pos h1, decide_eq_false (by omega : ¬ x.wait ≤ 0)]; simp
  · rw [if_neg h1, decide_eq_true (by omega : x.wait ≤ 0)]
    by_cases h2 : x.full = true ∧ x.by_ = stepAt cn x.at_
    · rw [if_pos h2, h2.1, decide_eq_true h2.2]; rfl
    · rw [if_neg h2]
      cases hf : x.full with
      | false => rfl
      | true => rw [decide_eq_false (fun e => h2 ⟨hf, e⟩)]; rfl
theorem full_step (cn : Int) : ∀ xs : List S4, fullL (stepL cn xs) = (xs.filter fun x => x.full && !x.tells cn).map S4.by_
  | [] => rfl
  | x :: xs => by
    have ih := full_step cn xs
    unfold fullL stepL at ih ⊢
    rw [List.map_cons, List.filter_cons, List.filter_cons, step_keeps]
    cases h : (x.full && !x.tells cn) with
    | false => simpa using ih
    | true =>
      have := (S4.step_full (cn := cn) (x := x) (by rw [step_keeps, h])).2
      simp only [if_true, List.map_cons, this]
      rw [ih]
theorem filter_full {cn : Int} {xs : List S4} (h : RingOK cn xs) : (fullL xs).filter (fun k => !decide (k ∈ toldL cn xs)) = fullL (stepL cn xs) := by
  rw [full_step]
  unfold fullL
  rw [List.filter_map, List.filter_filter]
  congr 1
  apply List.filter_congr
  intro x hx
  cases hf : x.full with
  | false => simp
  | true =>
    have := told_iff h hx hf
    simp only [Function.comp, Bool.true_and, Bool.and_true]
    cases ht : x.tells cn with
    | true => rw [decide_eq_true (this.2 ht)]
    | false => rw [decide_eq_false (fun hh => by rw [ht] at this; exact absurd (this.1 hh) (by decide))]
/-- who is left -/
theorem left_eq {cn : Int} {xs : List S4} (h : RingOK cn xs) : (sortI (fullL xs)).filter (fun k => !decide (k ∈ sortI (toldL cn xs))) = sortI (fullL (stepL cn xs)) := by
  symm
  refine sortI_eq ?_ ((sortI_pw _).filter _)
  rw [← filter_full h]
  have e : (fun k => !decide (k ∈ sortI (toldL cn xs))) = fun k => !decide (k ∈ toldL cn xs) := by
    funext k
    congr 1
    exact decide_eq_decide.2 mem_sortI
  rw [e]
  exact ((List.mergeSort_perm (fullL xs) _).filter _).symm
theorem len_told {cn : Int} : ∀ xs : List S4, (fullL xs).length = (fullL (stepL cn xs)).length + (toldL cn xs).length
  | [] => rfl
  | x :: xs => by
    have ih := len_told (cn := cn) xs
    rw [full_step] at ih ⊢
    unfold fullL toldL at ih ⊢
    simp only [List.length_map] at ih ⊢
    rw [List.filter_cons, List.filter_cons, List.filter_cons]
    cases ht : x.tells cn with
    | true => rw [(tells_full ht).1]; simp; omega
    | false => cases hf : x.full <;> simp <;> omega
end Go.Proofs.Ytffhfpdmfegcpac.slot
