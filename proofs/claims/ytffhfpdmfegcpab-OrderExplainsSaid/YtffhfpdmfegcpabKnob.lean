/- Two closed facts of the program that every row's proof asks for. -/
import Derived.Test.YtffhfpdmfegcpabRows
import Derived.Test.YtffhfpdmfegcpabFlat
namespace Go.Proofs.Ytffhfpdmfegcpab.knob
open Go.ChangeShapes Go.WideShapes Go.ChangeAt Go.RowKit
set_option linter.unusedVariables false
set_option linter.unusedSimpArgs false
theorem own : ownKnob Try.prog.godebug = none := by kernel_rfl
theorem laidOut : laidOutB Try.prog = true := by kernel_rfl
end Go.Proofs.Ytffhfpdmfegcpab.knob
