import Derived.Test.YtelddjedpmfclaaWf
import Derived.Test.YtelddjedpmfclaaProg
import Derived.KernelRfl
namespace Go.Proofs.Ytelddjedpmfclaa.M
open Go Nt Go.Proofs
set_option linter.unusedVariables false
set_option maxRecDepth 100000
end Go.Proofs.Ytelddjedpmfclaa.M

