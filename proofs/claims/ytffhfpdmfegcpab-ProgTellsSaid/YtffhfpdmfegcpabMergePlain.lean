/- What is merged is split into the first deeds of each program again: the law in plain lists. -/
import Derived.Test.YtffhfpdmfegcpabMergeLaw
import Derived.Test.YtffhfpdmfegcpabSplitLaw
namespace Go.Proofs.Ytffhfpdmfegcpab.prog
open Go.ChangeShapes Go.WideShapes Go.ChangeAt Go.RowKit
open Go.Proofs.Ytffhfpdmfegcpab.base Go.Proofs.Ytffhfpdmfegcpab.flat Go.Proofs.Ytffhfpdmfegcpab.table Go.Proofs.Ytffhfpdmfegcpab.addr Go.Proofs.Ytffhfpdmfegcpab.atomic Go.Proofs.Ytffhfpdmfegcpab.told Go.Proofs.Ytffhfpdmfegcpab.rows
set_option linter.unusedVariables false
set_option linter.unusedSimpArgs false

def GoodProgs (ps : List (List D4)) : Prop := ∀ (i : Nat) (P : List D4), ps[i]? = some P → ∀ y ∈ P, rightE y.n y.k y.a y.v = 0 ∧ y.n = (i : Int)
theorem progs_good {cn cs cy cb : Int} {ps : List (List D4)} (h : progsE cn cs cy cb ps = 0) : cfgE cn cs cy cb = 0 ∧ (ps.length : Int) = cn ∧ GoodProgs ps := by
  unfold progsE at h
  by_cases hc : cfgE cn cs cy cb = 0
  · rw [if_pos hc] at h
    by_cases hl : (ps.length : Int) = cn
    · rw [if_pos hl] at h
      refine ⟨hc, hl, fun i P hP y hy => ?_⟩
      have h1 := fnz_all h i P hP
      rw [Nat.zero_add] at h1
      unfold listP at h1
      split at h1
      · cases h1
      · obtain ⟨j, hj⟩ := List.getElem?_of_mem hy
        have h2 := fnz_all h1 j y hj
        unfold deedP at h2
        split at h2
        · rename_i h3
          split at h2
          · rename_i h4
            exact ⟨h3, h4⟩
          · cases h2
        · rename_i h3; exact absurd h2 h3
    · rw [if_neg hl] at h; cases h
  · rw [if_neg hc] at h; exact absurd h hc
structure MInv (ps : List (List D4)) (s : St) : Prop where
  node : ∀ (k : Nat) (P : List D4) (t : Nat), ps[k]? = some P → s.at_[k]? = some t → nodeL k s.out = P.take t
  from_ : ∀ y ∈ s.out, ∃ (i : Nat) (P : List D4), ps[i]? = some P ∧ y ∈ P
theorem minv_step {ps : List (List D4)} (hg : GoodProgs ps) {s : St} (h : MInv ps s) (k : Int) : MInv ps (s.step ps k) := by
  unfold St.step
  cases hp : pickD ps s k with
  | none => exact h
  | some y =>
    unfold pickD at hp
    split at hp
    · cases hp
    · obtain ⟨P, hP, hp⟩ := Option.bind_eq_some_iff.1 hp
      obtain ⟨t, ht, hy⟩ := Option.bind_eq_some_iff.1 hp
      have hyP := List.mem_of_getElem? hy
      refine ⟨?_, ?_⟩
      · intro k' P' t' hP' ht'
        have ht' : (s.at_.set k.toNat ((s.at_[k.toNat]?).getD 0 + 1))[k']? = some t' := ht'
        show nodeL k' (s.out ++ [y]) = _
        rw [nodeL_snoc, (hg _ P hP y hyP).2]
        by_cases hk : k.toNat = k'
        · subst hk
          rw [List.getElem?_set_self (List.getElem?_eq_some_iff.1 ht).1, ht] at ht'
          have e1 : t + 1 = t' := by simpa using ht'
          rw [hP] at hP'
          obtain rfl := Option.some.inj hP'
          rw [if_pos rfl, h.node _ P t hP ht, ← e1, List.take_add_one, hy]
          rfl
        · rw [List.getElem?_set_ne hk] at ht'
          rw [if_neg (by omega), List.append_nil]
          exact h.node k' P' t' hP' ht'
      · intro z hz
        have hz : z ∈ s.out ++ [y] := hz
        rcases List.mem_append.1 hz with hz | hz
        · exact h.from_ z hz
        · obtain rfl : z = y := by simpa using hz
          exact ⟨_, P, hP, hyP⟩
theorem minv_all {ps : List (List D4)} (hg : GoodProgs ps) (picks : List Int) : ∀ j, j ≤ picks.length → MInv ps (mergeS ps (picks.take j))
  | 0, _ => by
    refine ⟨?_, by simp [mergeS]⟩
    intro k P t hP ht
    simp only [mergeS, List.take_zero, List.foldl_nil, List.getElem?_replicate] at ht ⊢
    split at ht
    · have : 0 = t := by simpa using ht
      subst this
      rfl
    · cases ht
  | j + 1, h => by
    obtain ⟨k, hk⟩ := get_some (xs := picks) (k := j) (by omega)
    rw [mergeS_snoc ps hk]
    exact minv_step hg (minv_all hg picks j (by omega)) k
/-- all that the law of a merge asks for -/
theorem merge_plain {cn cs cy cb : Int} {ps : List (List D4)} {picks : List Int} (h : mergeE cn cs cy cb ps picks = 0) :
    (ps.length : Int) = cn ∧ cfgE cn cs cy cb = 0 ∧ picks.length ≤ 200 ∧ StOK ps picks.length (mergeS ps picks) ∧ MInv ps (mergeS ps picks) ∧ splitE cn cs cy cb (mergeS ps picks).out = 0 := by
  unfold mergeE at h
  by_cases hp : progsE cn cs cy cb ps = 0
  · rw [if_pos hp] at h
    by_cases hq : 200 < picks.length
    · rw [if_pos hq] at h; cases h
    · obtain ⟨hc, hl, hg⟩ := progs_good hp
      have hs := mergeS_ok ps picks picks.length (Nat.le_refl _)
      have hi := minv_all hg picks picks.length (Nat.le_refl _)
      rw [List.take_length] at hs hi
      refine ⟨hl, hc, by omega, hs, hi, ?_⟩
      unfold splitE
      rw [if_pos hc, if_neg (by have := hs.out; omega)]
      refine fnz_ok fun i y hy => ?_
      obtain ⟨j, P, hP, hyP⟩ := hi.from_ y (List.mem_of_getElem? hy)
      obtain ⟨h1, h2⟩ := hg j P hP y hyP
      have := (List.getElem?_eq_some_iff.1 hP).1
      unfold splitP
      rw [if_pos h1, if_neg (by omega)]
  · rw [if_neg hp] at h; exact absurd h hp
end Go.Proofs.Ytffhfpdmfegcpab.prog
