import Derived.Test.YtlanabocdoacgaaDoorReader2
set_option linter.unusedVariables false
namespace Go.Proofs.YtlanabocdoacgaaDoor
open Go Go.RowKit Go.Sat
end Go.Proofs.YtlanabocdoacgaaDoor
