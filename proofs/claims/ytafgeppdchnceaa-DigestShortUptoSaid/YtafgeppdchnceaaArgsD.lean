import Derived.Test.YtafgeppdchnceaaOpen
import Derived.Test.YtafgeppdchnceaaRows
import Derived.WalkKit
import Derived.ProofKit
import Derived.OpenShut
import Derived.JoinedCond
set_option linter.unusedVariables false
namespace Go.Proofs.Ytafgeppdchnceaa
open Go Go.RowKit Go.Sat Go.ChangeShapes Go.WideShapes Go.Deep
theorem laidOut : laidOutB Try.prog = true := by kernel_rfl
theorem ownNone : ownKnob Try.prog.godebug = none := by kernel_rfl
end Go.Proofs.Ytafgeppdchnceaa
