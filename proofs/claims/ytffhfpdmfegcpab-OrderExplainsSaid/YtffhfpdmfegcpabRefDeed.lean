/- The contracts of ringdoveref.GoodKind and ringdoveref.DeedFault. -/
import Derived.Test.YtffhfpdmfegcpabAtomic
import Derived.Test.YtffhfpdmfegcpabRefAddr
namespace Go.Proofs.Ytffhfpdmfegcpab.refDeed
open Go.ChangeShapes Go.WideShapes Go.ChangeAt Go.RowKit
open Go.Proofs.Ytffhfpdmfegcpab.base Go.Proofs.Ytffhfpdmfegcpab.flat Go.Proofs.Ytffhfpdmfegcpab.same Go.Proofs.Ytffhfpdmfegcpab.addr Go.Proofs.Ytffhfpdmfegcpab.bank Go.Proofs.Ytffhfpdmfegcpab.atomic Go.Proofs.Ytffhfpdmfegcpab.refAddr
set_option linter.unusedVariables false
set_option linter.unusedSimpArgs false

theorem goodKind_any (k : Int) (w : World) : Calls Try.prog 68 #[.int .i64 k] w fun e w' => e = .returned (.bool (spanB k 1 4)) ∧ w = w' := by
  by_cases h1 : 1 ≤ k
  · by_cases h2 : k ≤ 4
    · go_enter Try.func68, Try.ntmps68
      go_wp2
      go_ret
      exact ⟨ret_bool (spanB_yes (by omega)).symm, rfl⟩
    · go_enter Try.func68, Try.ntmps68
      go_wp2
      go_ret
      exact ⟨ret_bool (spanB_no (by omega)).symm, rfl⟩
  · go_enter Try.func68, Try.ntmps68
    go_wp2
    go_ret
    exact ⟨ret_bool (spanB_no (by omega)).symm, rfl⟩

set_option maxHeartbeats 4000000 in
set_option maxRecDepth 100000 in
theorem deedFault_any (n k a v : Int) (w : World) : Calls Try.prog 28 #[.agg #[.int .i64 n, .int .i64 k, .int .i64 a, .int .u64 v]] w (Ret (.int .i64 (rightE n k a v)) w) := by
  by_cases h1 : n < 0 ∨ 7 < n
  · rw [rightE_1 h1]
    rcases h1 with h1 | h1
    · go_enter Try.func28, Try.ntmps28
      go_wp2_with (first
        | (go_at_call 68; refine (goodKind_any _ _).mono ?_; rintro e w1 ⟨rfl, rfl⟩)
        | (go_at_call 22; refine (goodAddr_any _ _).mono ?_; rintro e w1 ⟨rfl, rfl⟩))
      go_ret
      exact ⟨rfl, by repeat (first | exact Below.refl _ _ | apply bs_later | apply bs_alloc | apply bs_drew | apply bs_drewN)⟩
    · have h0 : ¬ n < 0 := by omega
      go_enter Try.func28, Try.ntmps28
      go_wp2_with (first
        | (go_at_call 68; refine (goodKind_any _ _).mono ?_; rintro e w1 ⟨rfl, rfl⟩)
        | (go_at_call 22; refine (goodAddr_any _ _).mono ?_; rintro e w1 ⟨rfl, rfl⟩))
      go_ret
      exact ⟨rfl, by repeat (first | exact Below.refl _ _ | apply bs_later | apply bs_alloc | apply bs_drew | apply bs_drewN)⟩
  have n0 : 0 ≤ n := by omega
  have n7 : n ≤ 7 := by omega
  by_cases h2 : k < 1 ∨ 4 < k
  · rw [rightE_2 h1 h2]
    have g2 : spanB k 1 4 = false := spanB_no (by omega)
    clear h1 h2
    go_enter Try.func28, Try.ntmps28
    go_wp2_with (first
      | (go_at_call 68; refine (goodKind_any _ _).mono ?_; rintro e w1 ⟨rfl, rfl⟩)
      | (go_at_call 22; refine (goodAddr_any _ _).mono ?_; rintro e w1 ⟨rfl, rfl⟩))
    go_ret
    exact ⟨rfl, by repeat (first | exact Below.refl _ _ | apply bs_later | apply bs_alloc | apply bs_drew | apply bs_drewN)⟩
  have g2 : spanB k 1 4 = true := spanB_yes (by omega)
  by_cases h3 : 0 ≤ a ∧ a ≤ 63
  · have g3 : spanB a 0 63 = true := spanB_yes h3
    by_cases hv : v = 0
    · subst hv
      rw [rightE_4 h1 h2 (by omega) (by omega)]
      clear h1 h2 h3
      go_enter Try.func28, Try.ntmps28
      go_wp2_with (first
        | (go_at_call 68; refine (goodKind_any _ _).mono ?_; rintro e w1 ⟨rfl, rfl⟩)
        | (go_at_call 22; refine (goodAddr_any _ _).mono ?_; rintro e w1 ⟨rfl, rfl⟩))
      go_ret
      exact ⟨rfl, by repeat (first | exact Below.refl _ _ | apply bs_later | apply bs_alloc | apply bs_drew | apply bs_drewN)⟩
    · have hv' : (v != 0) = true := by simpa using hv
      obtain rfl | rfl | rfl | rfl : k = 1 ∨ k = 2 ∨ k = 3 ∨ k = 4 := by omega
      case' inl => rw [rightE_5 h1 h2 (by omega) (by omega) hv]
      case' inr.inl => rw [rightE_4 h1 h2 (by omega) (by omega)]
      case' inr.inr.inl => rw [rightE_4 h1 h2 (by omega) (by omega)]
      case' inr.inr.inr => rw [rightE_5 h1 h2 (by omega) (by omega) hv]
      all_goals
        clear h1 h2 h3 hv
        go_enter Try.func28, Try.ntmps28
        go_wp2_with (first
          | (go_at_call 68; refine (goodKind_any _ _).mono ?_; rintro e w1 ⟨rfl, rfl⟩)
          | (go_at_call 22; refine (goodAddr_any _ _).mono ?_; rintro e w1 ⟨rfl, rfl⟩))
        go_ret
        exact ⟨rfl, by repeat (first | exact Below.refl _ _ | apply bs_later | apply bs_alloc | apply bs_drew | apply bs_drewN)⟩
  · have g3 : spanB a 0 63 = false := spanB_no (by omega)
    rw [rightE_3 h1 h2 (by omega)]
    clear h1 h2 h3
    go_enter Try.func28, Try.ntmps28
    go_wp2_with (first
      | (go_at_call 68; refine (goodKind_any _ _).mono ?_; rintro e w1 ⟨rfl, rfl⟩)
      | (go_at_call 22; refine (goodAddr_any _ _).mono ?_; rintro e w1 ⟨rfl, rfl⟩))
    go_ret
    exact ⟨rfl, by repeat (first | exact Below.refl _ _ | apply bs_later | apply bs_alloc | apply bs_drew | apply bs_drewN)⟩
end Go.Proofs.Ytffhfpdmfegcpab.refDeed
