/- The contract of atomic.Right: what is wrong with a deed. -/
import Derived.Test.YtffhfpdmfegcpacBank
namespace Go.Proofs.Ytffhfpdmfegcpac.atomic
open Go.ChangeShapes Go.WideShapes Go.ChangeAt Go.RowKit
open Go.Proofs.Ytffhfpdmfegcpac.base Go.Proofs.Ytffhfpdmfegcpac.flat Go.Proofs.Ytffhfpdmfegcpac.same Go.Proofs.Ytffhfpdmfegcpac.addr Go.Proofs.Ytffhfpdmfegcpac.bank
set_option linter.unusedVariables false
set_option linter.unusedSimpArgs false

def rightE (n k a v : Int) : Int := if n < 0 ∨ 7 < n then 4 else if k < 1 ∨ 4 < k then 1 else if a < 0 ∨ 63 < a then 4 else if (k = 1 ∨ k = 4) ∧ ¬ v = 0 then 3 else 0
theorem rightE_1 {n k a v : Int} (h : n < 0 ∨ 7 < n) : rightE n k a v = 4 := if_pos h
theorem rightE_2 {n k a v : Int} (h : ¬ (n < 0 ∨ 7 < n)) (h2 : k < 1 ∨ 4 < k) : rightE n k a v = 1 := by unfold rightE; rw [if_neg h, if_pos h2]
theorem rightE_3 {n k a v : Int} (h : ¬ (n < 0 ∨ 7 < n)) (h2 : ¬ (k < 1 ∨ 4 < k)) (h3 : a < 0 ∨ 63 < a) : rightE n k a v = 4 := by unfold rightE; rw [if_neg h, if_neg h2, if_pos h3]
theorem rightE_4 {n k a v : Int} (h : ¬ (n < 0 ∨ 7 < n)) (h2 : ¬ (k < 1 ∨ 4 < k)) (h3 : ¬ (a < 0 ∨ 63 < a)) (h4 : ¬ ((k = 1 ∨ k = 4) ∧ ¬ v = 0)) : rightE n k a v = 0 := by unfold rightE; rw [if_neg h, if_neg h2, if_neg h3, if_neg h4]
theorem rightE_5 {n k a v : Int} (h : ¬ (n < 0 ∨ 7 < n)) (h2 : ¬ (k < 1 ∨ 4 < k)) (h3 : ¬ (a < 0 ∨ 63 < a)) (h4 : k = 1 ∨ k = 4) (hv : ¬ v = 0) : rightE n k a v = 3 := by unfold rightE; rw [if_neg h, if_neg h2, if_neg h3, if_pos ⟨h4, hv⟩]

set_option maxHeartbeats 4000000 in
set_option maxRecDepth 100000 in
theorem right_any (n k a v : Int) (w : World) : Calls Try.prog 41 #[.agg #[.int .i64 n, .int .i64 k, .int .i64 a, .int .u64 v]] w (Ret (.int .i64 (rightE n k a v)) w) := by
  by_cases h1 : n < 0 ∨ 7 < n
  · rw [rightE_1 h1]
    rcases h1 with h1 | h1
    · go_enter Try.func41, Try.ntmps41
      go_wp2
      go_ret
      exact ⟨rfl, by repeat (first | exact Below.refl _ _ | apply bs_later | apply bs_alloc | apply bs_drew | apply bs_drewN)⟩
    · have h0 : ¬ n < 0 := by omega
      go_enter Try.func41, Try.ntmps41
      go_wp2
      go_ret
      exact ⟨rfl, by repeat (first | exact Below.refl _ _ | apply bs_later | apply bs_alloc | apply bs_drew | apply bs_drewN)⟩
  have n0 : 0 ≤ n := by omega
  have n7 : n ≤ 7 := by omega
  by_cases h2 : k < 1 ∨ 4 < k
  · rw [rightE_2 h1 h2]
    clear h1
    rcases h2 with h2 | h2
    · go_enter Try.func41, Try.ntmps41
      go_wp2_with (go_at_call 70; refine (line_any _ _).mono ?_; rintro e w1 ⟨rfl, rfl⟩)
      go_ret
      exact ⟨rfl, by repeat (first | exact Below.refl _ _ | apply bs_later | apply bs_alloc | apply bs_drew | apply bs_drewN)⟩
    · have h0 : ¬ k < 1 := by omega
      go_enter Try.func41, Try.ntmps41
      go_wp2_with (go_at_call 70; refine (line_any _ _).mono ?_; rintro e w1 ⟨rfl, rfl⟩)
      go_ret
      exact ⟨rfl, by repeat (first | exact Below.refl _ _ | apply bs_later | apply bs_alloc | apply bs_drew | apply bs_drewN)⟩
  by_cases h3 : 0 ≤ a ∧ a ≤ 63
  · have e3 : lineE a = 0 := if_pos h3
    have g3 : spanB a 0 63 = true := spanB_yes h3
    by_cases hv : v = 0
    · subst hv
      obtain rfl | rfl | rfl | rfl : k = 1 ∨ k = 2 ∨ k = 3 ∨ k = 4 := by omega
      all_goals
        rw [rightE_4 h1 h2 (by omega) (by omega)]
        clear h1 h2 h3

        go_enter Try.func41, Try.ntmps41
        go_wp2_with (go_at_call 70; refine (line_any _ _).mono ?_; rintro e w1 ⟨rfl, rfl⟩)
        go_ret
        exact ⟨rfl, by repeat (first | exact Below.refl _ _ | apply bs_later | apply bs_alloc | apply bs_drew | apply bs_drewN)⟩
    · have hv' : (v != 0) = true := by simpa using hv
      obtain rfl | rfl | rfl | rfl : k = 1 ∨ k = 2 ∨ k = 3 ∨ k = 4 := by omega
      case' inl => rw [rightE_5 h1 h2 (by omega) (by omega) hv]
      case' inr.inl => rw [rightE_4 h1 h2 (by omega) (by omega)]
      case' inr.inr.inl => rw [rightE_4 h1 h2 (by omega) (by omega)]
      case' inr.inr.inr => rw [rightE_5 h1 h2 (by omega) (by omega) hv]
      all_goals
        clear h1 h2 h3 hv

        go_enter Try.func41, Try.ntmps41
        go_wp2_with (go_at_call 70; refine (line_any _ _).mono ?_; rintro e w1 ⟨rfl, rfl⟩)
        go_ret
        exact ⟨rfl, by repeat (first | exact Below.refl _ _ | apply bs_later | apply bs_alloc | apply bs_drew | apply bs_drewN)⟩
  · have e3 : lineE a = 4 := if_neg h3
    have g3 : spanB a 0 63 = false := spanB_no (by omega)
    rw [rightE_3 h1 h2 (by omega)]
    obtain rfl | rfl | rfl | rfl : k = 1 ∨ k = 2 ∨ k = 3 ∨ k = 4 := by omega
    all_goals
      clear h1 h2 h3

      go_enter Try.func41, Try.ntmps41
      go_wp2_with (go_at_call 70; refine (line_any _ _).mono ?_; rintro e w1 ⟨rfl, rfl⟩)
      go_ret
      exact ⟨rfl, by repeat (first | exact Below.refl _ _ | apply bs_later | apply bs_alloc | apply bs_drew | apply bs_drewN)⟩
end Go.Proofs.Ytffhfpdmfegcpac.atomic
