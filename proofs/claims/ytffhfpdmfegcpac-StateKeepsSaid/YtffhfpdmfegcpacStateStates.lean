/- The closed fact states() of ringdovekeep. -/
import Derived.Test.YtffhfpdmfegcpacState
namespace Go.Proofs.Ytffhfpdmfegcpac.stateStates
open Go.ChangeShapes Go.WideShapes Go.ChangeAt Go.RowKit
open Go.Proofs.Ytffhfpdmfegcpac.base Go.Proofs.Ytffhfpdmfegcpac.state
set_option linter.unusedVariables false
set_option linter.unusedSimpArgs false

set_option maxHeartbeats 1000000 in
set_option maxRecDepth 100000 in
theorem states (w : World) : Calls Try.prog 12 #[] w (Ret (.bool true) w) := by
  have e1 : ownV 0 1 true = 2 := by decide
  have e2 : ownE 0 1 = 0 := by decide
  go_enter Try.func12, Try.ntmps12
  go_wp2_with (first
    | (go_at_call 14; refine (own_any _ _ _ _).mono ?_; rintro e w1 ⟨rfl, hb1⟩; obtain ⟨l1, d1, rfl⟩ := later_of hb1; clear hb1)
    | (go_at_call 43; refine (name_2 _).mono ?_; rintro e w1 ⟨rfl, rfl⟩))
  go_ret
  exact ⟨rfl, by repeat (first | exact Below.refl _ _ | apply bs_later | apply bs_alloc | apply bs_drew | apply bs_drewN)⟩
end Go.Proofs.Ytffhfpdmfegcpac.stateStates
