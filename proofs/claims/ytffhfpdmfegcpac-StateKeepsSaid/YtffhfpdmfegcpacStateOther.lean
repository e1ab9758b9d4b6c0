/- The contract of state.Other. -/
import Derived.Test.YtffhfpdmfegcpacState
namespace Go.Proofs.Ytffhfpdmfegcpac.state
open Go.ChangeShapes Go.WideShapes Go.ChangeAt Go.RowKit
open Go.Proofs.Ytffhfpdmfegcpac.base
set_option linter.unusedVariables false
set_option linter.unusedSimpArgs false

def otherV (s k : Int) : Int := if stB s = true ∧ kindB k = true then (if k = 2 ∨ k = 3 then 0 else if k = 1 ∧ s = 2 then 1 else if k = 1 ∧ s = 4 then 3 else s) else 0

set_option maxHeartbeats 2000000 in
set_option maxRecDepth 100000 in
theorem other_any (s k : Int) (w : World) : Calls Try.prog 15 #[.int .i64 s, .int .i64 k] w (Ret (.tuple #[.int .i64 (otherV s k), .int .i64 (ownE s k)]) w) := by
  by_cases h : stB s = true ∧ kindB k = true
  · have e2 : otherV s k = (if k = 2 ∨ k = 3 then 0 else if k = 1 ∧ s = 2 then 1 else if k = 1 ∧ s = 4 then 3 else s) := if_pos h
    have e1 : ownE s k = 0 := if_pos h
    have hk : 1 ≤ k ∧ k ≤ 4 := of_decide_eq_true h.2
    have hs : 0 ≤ s ∧ s ≤ 4 := of_decide_eq_true h.1
    rw [e2]
    clear e2 h
    obtain rfl | rfl | rfl | rfl : k = 1 ∨ k = 2 ∨ k = 3 ∨ k = 4 := by omega
    all_goals
      obtain rfl | rfl | rfl | rfl | rfl : s = 0 ∨ s = 1 ∨ s = 2 ∨ s = 3 ∨ s = 4 := by omega
      all_goals
        rw [e1]
        clear hk hs
        go_enter Try.func15, Try.ntmps15
        go_wp2_with (go_at_call 46; refine (check_any _ _ _).mono ?_; rintro e w1 ⟨rfl, rfl⟩)
        go_ret2
        exact ⟨rfl, by repeat (first | exact Below.refl _ _ | apply bs_later | apply bs_alloc | apply bs_drew | apply bs_drewN)⟩
  · have e1 : ownE s k = 1 := if_neg h
    have e2 : otherV s k = 0 := if_neg h
    rw [e2]
    clear e2 h
    rw [e1]
    go_enter Try.func15, Try.ntmps15
    go_wp2_with (go_at_call 46; refine (check_any _ _ _).mono ?_; rintro e w1 ⟨rfl, rfl⟩)
    go_ret2
    exact ⟨rfl, by repeat (first | exact Below.refl _ _ | apply bs_later | apply bs_alloc | apply bs_drew | apply bs_drewN)⟩
end Go.Proofs.Ytffhfpdmfegcpac.state
