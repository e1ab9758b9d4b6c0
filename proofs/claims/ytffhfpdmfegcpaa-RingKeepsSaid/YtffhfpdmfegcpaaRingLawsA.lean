/- Who is told, and when: the laws of the ring as laws of lists. -/
import Derived.Test.YtffhfpdmfegcpaaStepLawA
namespace Go.Proofs.Ytffhfpdmfegcpaa.slot
open Go.ChangeShapes Go.WideShapes Go.ChangeAt Go.RowKit
open Go.Proofs.Ytffhfpdmfegcpaa.base Go.Proofs.Ytffhfpdmfegcpaa.flat Go.Proofs.Ytffhfpdmfegcpaa.table Go.Proofs.Ytffhfpdmfegcpaa.addr
set_option linter.unusedVariables false
set_option linter.unusedSimpArgs false

theorem same_slot {cn : Int} {xs : List S4} (h : RingOK cn xs) {x y : S4} (hx : x ∈ xs) (hy : y ∈ xs) (fx : x.full = true) (fy : y.full = true) (e : x.by_ = y.by_) : x = y := by
  obtain ⟨i, hi, rfl⟩ := List.getElem_of_mem hx
  obtain ⟨j, hj, rfl⟩ := List.getElem_of_mem hy
  have hp := List.pairwise_iff_getElem.1 h.uniq
  rcases Nat.lt_trichotomy i j with hij | hij | hij
  · exact absurd e (hp i j hi hj hij fx fy)
  · subst hij; rfl
  · exact absurd e.symm (hp j i hj hi hij fy fx)
theorem told_iff {cn : Int} {xs : List S4} (h : RingOK cn xs) {x : S4} (hx : x ∈ xs) (fx : x.full = true) : x.by_ ∈ toldL cn xs ↔ x.tells cn = true := by
  unfold toldL
  rw [List.mem_map]
  constructor
  · rintro ⟨y, hy, e⟩
    obtain ⟨hy, ty⟩ := List.mem_filter.1 hy
    obtain rfl := same_slot h hy hx (tells_full ty).1 fx e
    exact ty
  · intro ht
    exact ⟨x, List.mem_filter.2 ⟨hx, ht⟩, rfl⟩
/-- the nodes that are under way -/
def fullL (xs : List S4) : List Int := (xs.filter S4.full).map S4.by_
theorem mem_sortI {l : List Int} {k : Int} : k ∈ sortI l ↔ k ∈ l := List.mem_mergeSort
theorem len_sortI (l : List Int) : (sortI l).length = l.length := List.length_mergeSort _
theorem sortI_pw (l : List Int) : (sortI l).Pairwise fun a b => decide (a ≤ b) = true :=
  List.pairwise_mergeSort (by intro a b c; simp; omega) (by intro a b; simp; omega) l
theorem sortI_eq {l m : List Int} (h : l.Perm m) (hm : m.Pairwise fun a b => decide (a ≤ b) = true) : sortI l = m := by
  refine List.Perm.eq_of_pairwise (le := fun a b : Int => decide (a ≤ b) = true) ?_ (sortI_pw l) hm ((List.mergeSort_perm l _).trans h)
  intro a b _ _ h1 h2
  simp only [decide_eq_true_eq] at h1 h2
  omega
theorem step_keeps {cn : Int} {x : S4} : (x.step cn).full = (x.full && !x.tells cn) := by
  unfold S4.step S4.tells
  by_cases h1 : 0 < x.wait
  · rw [if_pos h1, decide_eq_false (by omega : ¬ x.wait ≤ 0)]; simp
  · rw [if_neg h1, decide_eq_true (by omega : x.wait ≤ 0)]
    by_cases h2 : x.full = true ∧ x.by_ = stepAt cn x.at_
    · rw [if_pos h2, h2.1, decide_eq_true h2.2]; rfl
    · rw [if_neg h2]
      cases hf : x.full with
      | false => rfl
      | true => rw [decide_eq_false (fun e => h2 ⟨hf, e⟩)]; rfl
theorem full_step (cn : Int) : ∀ xs : List S4, fullL (stepL cn xs) = (xs.filter fun x => x.full && !x.tells cn).map S4.by_
  | [] => rfl
  | x :: xs => by
    have ih := full_step cn xs
    unfold fullL stepL at ih ⊢
    rw [List.map_cons, List.filter_cons, List.filter_cons, step_keeps]
    cases h : (x.full && !x.tells cn) with
    | false => simpa using ih
    | true =>
      have := (S4.step_full (cn := cn) (x := x) (by rw [step_keeps, h])).2
      simp only [if_true, List.map_cons, this]
      rw [ih]
theorem filter_full {cn : Int} {xs : List S4} (h : RingOK cn xs) : (fullL xs).filter (fun k => !decide (k ∈ toldL cn xs)) = fullL (stepL cn xs) := by
  rw [full_step]
  unfold fullL
  rw [List.filter_map, List.filter_filter]
  congr 1
  apply List.filter_congr
  intro x hx
  cases hf : x.full with
  | false => simp
  | true =>
    have := told_iff h hx hf
    simp only [Function.comp, Bool.true_and, Bool.and_true]
    cases ht : x.tells cn with
    | true => rw [decide_eq_true (this.2 ht)]
    | false => rw [decide_eq_false (fun hh => by rw [ht] at this; exact absurd (this.1 hh) (by decide))]
/-- who is left -/
theorem left_eq {cn : Int} {xs : List S4} (h : RingOK cn xs) : (sortI (fullL xs)).filter (fun k => !decide (k ∈ sortI (toldL cn xs))) = sortI (fullL (stepL cn xs)) := by
  symm
  refine sortI_eq ?_ ((sortI_pw _).filter _)
  rw [← filter_full h]
  have e : (fun k => !decide (k ∈ sortI (toldL cn xs))) = fun k => !decide (k ∈ toldL cn xs) := by
    funext k
    congr 1
    exact decide_eq_decide.2 mem_sortI
  rw [e]
  exact ((List.mergeSort_perm (fullL xs) _).filter _).symm
theorem len_told {cn : Int} : ∀ xs : List S4, (fullL xs).length = (fullL (stepL cn xs)).length + (toldL cn xs).length
  | [] => rfl
  | x :: xs => by
    have ih := len_told (cn := cn) xs
    rw [full_step] at ih ⊢
    unfold fullL toldL at ih ⊢
    simp only [List.length_map] at ih ⊢
    rw [List.filter_cons, List.filter_cons, List.filter_cons]
    cases ht : x.tells cn with
    | true => rw [(tells_full ht).1]; simp; omega
    | false => cases hf : x.full <;> simp <;> omega
end Go.Proofs.Ytffhfpdmfegcpaa.slot
