/- A list of deeds gone through as the law's own loop does: plain Lean. -/
import Derived.Test.YtffhfpdmfegcpabPlayLaw
import Derived.Test.YtffhfpdmfegcpabMemEq
namespace Go.Proofs.Ytffhfpdmfegcpab.run3
open Go.ChangeShapes Go.WideShapes Go.ChangeAt Go.RowKit
open Go.Proofs.Ytffhfpdmfegcpab.base Go.Proofs.Ytffhfpdmfegcpab.flat Go.Proofs.Ytffhfpdmfegcpab.same Go.Proofs.Ytffhfpdmfegcpab.addr Go.Proofs.Ytffhfpdmfegcpab.bank Go.Proofs.Ytffhfpdmfegcpab.atomic Go.Proofs.Ytffhfpdmfegcpab.table Go.Proofs.Ytffhfpdmfegcpab.play Go.Proofs.Ytffhfpdmfegcpab.memEq
set_option linter.unusedVariables false
set_option linter.unusedSimpArgs false

/-- the first fault, memory, and what was told -/
structure S3 where
  bad : Int
  m : List Int
  vs : List Int
def S3.next (s : S3) (x : D4) : S3 := if s.bad = 0 then (if badOf x = 0 then ⟨0, plainM s.m x.k x.a x.v, s.vs ++ [plainV s.m x.k x.a]⟩ else ⟨badOf x, s.m, s.vs⟩) else s
def run3 (s : S3) (l : List D4) : S3 := l.foldl S3.next s
theorem run3_snoc (s : S3) (l : List D4) (x : D4) : run3 s (l ++ [x]) = (run3 s l).next x := by simp [run3, List.foldl_append]
theorem next_bad {s : S3} {x : D4} (h : ¬ s.bad = 0) : s.next x = s := if_neg h
theorem next_new {s : S3} {x : D4} (h : s.bad = 0) (h2 : ¬ badOf x = 0) : s.next x = ⟨badOf x, s.m, s.vs⟩ := by unfold S3.next; rw [if_pos h, if_neg h2]
theorem next_ok {s : S3} {x : D4} (h : s.bad = 0) (h2 : badOf x = 0) : s.next x = ⟨0, plainM s.m x.k x.a x.v, s.vs ++ [plainV s.m x.k x.a]⟩ := by unfold S3.next; rw [if_pos h, if_pos h2]
theorem run3_bad {s : S3} (h : ¬ s.bad = 0) : ∀ l, run3 s l = s
  | [] => rfl
  | x :: l => by show run3 (s.next x) l = s; rw [next_bad h]; exact run3_bad h l
theorem run3_mlen (s : S3) (l : List D4) : (run3 s l).m.length = s.m.length := by
  induction l generalizing s with
  | nil => rfl
  | cons x l ih =>
    show (run3 (s.next x) l).m.length = _
    rw [ih]
    by_cases h : s.bad = 0
    · by_cases h2 : badOf x = 0
      · rw [next_ok h h2]; exact plainM_len _ _ _ _
      · rw [next_new h h2]
    · rw [next_bad h]
theorem run3_vlen (s : S3) (l : List D4) : (run3 s l).vs.length ≤ s.vs.length + l.length := by
  induction l generalizing s with
  | nil => exact Nat.le_refl _
  | cons x l ih =>
    show (run3 (s.next x) l).vs.length ≤ _
    have := ih (s.next x)
    by_cases h : s.bad = 0
    · by_cases h2 : badOf x = 0
      · rw [next_ok h h2] at this ⊢; simp at this ⊢; omega
      · rw [next_new h h2] at this ⊢; simp at this ⊢; omega
    · rw [next_bad h] at this ⊢; simp at this ⊢; omega
theorem run3_vlen_bad {s : S3} (h : ¬ s.bad = 0) (l : List D4) : (run3 s l).vs.length = s.vs.length := by rw [run3_bad h]
theorem run3_ok {s : S3} (h : s.bad = 0) : ∀ l, (run3 s l).bad = firstBad l ∧ (firstBad l = 0 → (run3 s l).m = playM s.m l ∧ (run3 s l).vs = s.vs ++ playV s.m l)
  | [] => ⟨h, fun _ => ⟨rfl, by simp [run3, playV]⟩⟩
  | x :: l => by
    show (run3 (s.next x) l).bad = (if badOf x = 0 then firstBad l else badOf x) ∧ _
    by_cases h2 : badOf x = 0
    · obtain ⟨h3, h4⟩ := run3_ok (s := s.next x) (by rw [next_ok h h2]) l
      rw [if_pos h2]
      refine ⟨h3, fun h5 => ?_⟩
      obtain ⟨h6, h7⟩ := h4 (by rw [firstBad, if_pos h2] at h5; exact h5)
      rw [next_ok h h2] at h6 h7
      refine ⟨?_, ?_⟩
      · show (run3 (s.next x) l).m = _
        rw [next_ok h h2, h6]; rfl
      · show (run3 (s.next x) l).vs = _
        rw [next_ok h h2, h7]
        show _ = s.vs ++ (_ :: _)
        simp
    · rw [if_neg h2]
      have e : run3 (s.next x) l = s.next x := run3_bad (by rw [next_new h h2]; exact h2) l
      rw [e, next_new h h2]
      exact ⟨rfl, fun h5 => absurd (by rw [firstBad, if_neg h2] at h5; exact h5) h2⟩

theorem playM_wf {xs : List Int} (h : AllU xs) {l : List D4} (hl : ∀ x ∈ l, x.Ok) : AllU (playM xs l) := by
  induction l generalizing xs with
  | nil => exact h
  | cons x l ih => exact ih (xs := plainM xs x.k x.a x.v) (plainM_wf h _ _ (hl x (by simp)).2.2.2) (fun y hy => hl y (by simp [hy]))
end Go.Proofs.Ytffhfpdmfegcpab.run3
