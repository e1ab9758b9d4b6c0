/- Two closed facts of the program that every row's proof asks for. -/
import Derived.Test.YtffhfpdmfegcpacRows
import Derived.Test.YtffhfpdmfegcpacFlat
namespace Go.Proofs.Ytffhfpdmfegcpac.knob
open Go.ChangeShapes Go.WideShapes Go.ChangeAt Go.RowKit
set_option linter.unusedVariables false
set_option linter.unusedSimpArgs false
theorem own : ownKnob Try.prog.godebug = none := by kernel_rfl
theorem laidOut : laidOutB Try.prog = true := by kernel_rfl
end Go.Proofs.Ytffhfpdmfegcpac.knob
