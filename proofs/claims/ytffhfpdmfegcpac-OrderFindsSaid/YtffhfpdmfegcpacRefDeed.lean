/- Nothing: this seat's part reaches no function of the reference on deeds. -/
import Derived.Test.YtffhfpdmfegcpacAtomic
namespace Go.Proofs.Ytffhfpdmfegcpac.refDeed
open Go.ChangeShapes Go.WideShapes Go.ChangeAt Go.RowKit
open Go.Proofs.Ytffhfpdmfegcpac.base Go.Proofs.Ytffhfpdmfegcpac.flat Go.Proofs.Ytffhfpdmfegcpac.same Go.Proofs.Ytffhfpdmfegcpac.addr Go.Proofs.Ytffhfpdmfegcpac.bank Go.Proofs.Ytffhfpdmfegcpac.atomic
set_option linter.unusedVariables false
set_option linter.unusedSimpArgs false

end Go.Proofs.Ytffhfpdmfegcpac.refDeed
