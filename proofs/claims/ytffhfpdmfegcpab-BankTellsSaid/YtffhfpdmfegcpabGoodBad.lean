/- The contract of ringdovekeep.good where the first number is not OK. -/
import Derived.Test.YtffhfpdmfegcpabGood
namespace Go.Proofs.Ytffhfpdmfegcpab.goods
open Go.ChangeShapes Go.WideShapes Go.ChangeAt Go.RowKit
open Go.Proofs.Ytffhfpdmfegcpab.base
set_option linter.unusedVariables false
set_option linter.unusedSimpArgs false

set_option maxRecDepth 100000 in
theorem good_bad (b n c : Nat) (e : Int) (w : World) (hn : 0 < n) (hc : w.cell? ⟨b, 0, none⟩ = some (.int .i64 e)) (he : (e != 0) = true) :
    Calls Try.prog 54 #[.slice (some ⟨b, 0, none⟩) n c] w fun e w' => e = .returned (.bool false) ∧ w = w' := by
  go_enter Try.func54, Try.ntmps54
  go_wp2_with go_in
  refine wp_loop_rounds 1 ?_
  rw [rounds_succ]
  go_wp2_with go_in
  go_ret
  exact ⟨rfl, rfl⟩
end Go.Proofs.Ytffhfpdmfegcpab.goods
