/- The contract of plru.Check alone, for seats without Touch. -/
import Derived.Test.YtffhfpdmfegcpacKnob
namespace Go.Proofs.Ytffhfpdmfegcpac.plru
open Go.ChangeShapes Go.WideShapes Go.ChangeAt Go.RowKit
open Go.Proofs.Ytffhfpdmfegcpac.base
set_option linter.unusedVariables false
set_option linter.unusedSimpArgs false

def plruE (a b c : Bool) (n : Int) : Int := if n < 1 ∨ 4 < n then 4 else if (a = true ∧ n < 2) ∨ (b = true ∧ n < 3) ∨ (c = true ∧ n < 4) then 3 else 0

set_option maxHeartbeats 4000000 in
set_option maxRecDepth 100000 in
theorem check_any (a b c : Bool) (n : Int) (w : World) : Calls Try.prog 93 #[.agg #[.bool a, .bool b, .bool c], .int .i64 n] w (Ret (.int .i64 (plruE a b c n)) w) := by
  by_cases h1 : n < 1
  · rw [show plruE a b c n = 4 from if_pos (.inl h1)]
    go_enter Try.func93, Try.ntmps93
    go_wp2
    go_ret
    exact ⟨rfl, by repeat (first | exact Below.refl _ _ | apply bs_later | apply bs_alloc | apply bs_drew | apply bs_drewN)⟩
  · by_cases h2 : 4 < n
    · rw [show plruE a b c n = 4 from if_pos (.inr h2)]
      go_enter Try.func93, Try.ntmps93
      go_wp2
      go_ret
      exact ⟨rfl, by repeat (first | exact Below.refl _ _ | apply bs_later | apply bs_alloc | apply bs_drew | apply bs_drewN)⟩
    · obtain rfl | rfl | rfl | rfl : n = 1 ∨ n = 2 ∨ n = 3 ∨ n = 4 := by omega
      all_goals
        clear h1 h2
        cases a <;> cases b <;> cases c
        all_goals
          go_enter Try.func93, Try.ntmps93
          go_wp2
          go_ret
          exact ⟨rfl, by repeat (first | exact Below.refl _ _ | apply bs_later | apply bs_alloc | apply bs_drew | apply bs_drewN)⟩

end Go.Proofs.Ytffhfpdmfegcpac.plru
