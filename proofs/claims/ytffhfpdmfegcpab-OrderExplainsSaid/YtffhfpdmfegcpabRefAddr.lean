/- Contracts of the reference's ConfigFault, GoodAddr, GoodLine. -/
import Derived.Test.YtffhfpdmfegcpabAddr
namespace Go.Proofs.Ytffhfpdmfegcpab.refAddr
open Go.ChangeShapes Go.WideShapes Go.ChangeAt Go.RowKit
open Go.Proofs.Ytffhfpdmfegcpab.base Go.Proofs.Ytffhfpdmfegcpab.addr
set_option linter.unusedVariables false
set_option linter.unusedSimpArgs false

set_option maxRecDepth 100000 in
theorem goodAddr_any (a : Int) (w : World) : Calls Try.prog 22 #[.int .i64 a] w fun e w' => e = .returned (.bool (spanB a 0 63)) ∧ w = w' := by
  by_cases h1 : 0 ≤ a
  · by_cases h2 : a < 64
    · go_enter Try.func22, Try.ntmps22
      go_wp2
      go_ret
      exact ⟨ret_bool (spanB_yes (by omega)).symm, rfl⟩
    · go_enter Try.func22, Try.ntmps22
      go_wp2
      go_ret
      exact ⟨ret_bool (spanB_no (by omega)).symm, rfl⟩
  · go_enter Try.func22, Try.ntmps22
    go_wp2
    go_ret
    exact ⟨ret_bool (spanB_no (by omega)).symm, rfl⟩
set_option maxRecDepth 100000 in
theorem goodLine_any (a : Int) (w : World) : Calls Try.prog 21 #[.int .i64 a] w fun e w' => e = .returned (.bool (spanB a 0 15)) ∧ w = w' := by
  by_cases h1 : 0 ≤ a
  · by_cases h2 : a < 16
    · go_enter Try.func21, Try.ntmps21
      go_wp2
      go_ret
      exact ⟨ret_bool (spanB_yes (by omega)).symm, rfl⟩
    · go_enter Try.func21, Try.ntmps21
      go_wp2
      go_ret
      exact ⟨ret_bool (spanB_no (by omega)).symm, rfl⟩
  · go_enter Try.func21, Try.ntmps21
    go_wp2
    go_ret
    exact ⟨ret_bool (spanB_no (by omega)).symm, rfl⟩

set_option maxHeartbeats 4000000 in
set_option maxRecDepth 100000 in
theorem configFault_any (n s y b : Int) (w : World) : Calls Try.prog 47 #[.agg #[.int .i64 n, .int .i64 s, .int .i64 y, .int .i64 b]] w (Ret (.int .i64 (cfgE n s y b)) w) := by
  by_cases h : CfgOK n s y b
  · rw [cfgE_ok h]
    have h' : s = 1 ∨ s = 2 ∨ s = 4 := by unfold CfgOK at h; omega
    obtain ⟨h1, h2, -, -, -, h6, h7, h8, h9⟩ := h
    rcases h' with rfl | rfl | rfl
    all_goals
      go_enter Try.func47, Try.ntmps47
      go_wp2
      go_ret
      exact ⟨rfl, by repeat (first | exact Below.refl _ _ | apply bs_later | apply bs_alloc | apply bs_drew | apply bs_drewN)⟩
  · rw [cfgE_bad h]
    have h' : (¬ s = 1 ∧ ¬ s = 2 ∧ ¬ s = 4 ∧ (n < 2 ∨ (2 ≤ n ∧ 8 < n) ∨ (2 ≤ n ∧ n ≤ 8)))
        ∨ ((s = 1 ∨ s = 2 ∨ s = 4) ∧ (n < 2 ∨ (2 ≤ n ∧ 8 < n) ∨ (2 ≤ n ∧ n ≤ 8 ∧ y < 1) ∨ (2 ≤ n ∧ n ≤ 8 ∧ 1 ≤ y ∧ 4 < y) ∨ (2 ≤ n ∧ n ≤ 8 ∧ 1 ≤ y ∧ y ≤ 4 ∧ b < 1) ∨ (2 ≤ n ∧ n ≤ 8 ∧ 1 ≤ y ∧ y ≤ 4 ∧ 1 ≤ b ∧ 4 < b))) := by
      unfold CfgOK at h; omega
    clear h
    rcases h' with ⟨g1, g2, g3, h'⟩ | ⟨hs, h'⟩
    · have g1' : (s == 1) = false := by simpa using g1
      have g2' : (s == 2) = false := by simpa using g2
      have g3' : (s == 4) = false := by simpa using g3
      clear g1 g2 g3
      rcases h' with h1 | ⟨h1, h2⟩ | ⟨h1, h2⟩
      all_goals
        go_enter Try.func47, Try.ntmps47
        go_wp2
        go_ret
        exact ⟨rfl, by repeat (first | exact Below.refl _ _ | apply bs_later | apply bs_alloc | apply bs_drew | apply bs_drewN)⟩
    · rcases hs with rfl | rfl | rfl
      all_goals
        rcases h' with h1 | ⟨h1, h2⟩ | ⟨h1, h2, h3⟩ | ⟨h1, h2, h3, h4⟩ | ⟨h1, h2, h3, h4, h5⟩ | ⟨h1, h2, h3, h4, h5, h6⟩
        all_goals
          go_enter Try.func47, Try.ntmps47
          go_wp2
          go_ret
          exact ⟨rfl, by repeat (first | exact Below.refl _ _ | apply bs_later | apply bs_alloc | apply bs_drew | apply bs_drewN)⟩
end Go.Proofs.Ytffhfpdmfegcpab.refAddr
