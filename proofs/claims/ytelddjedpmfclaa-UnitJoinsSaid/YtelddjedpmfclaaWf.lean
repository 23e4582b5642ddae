import Derived.Test.YtelddjedpmfclaaTy
import Derived.Test.YtelddjedpmfclaaFwZ6
namespace Go.Proofs.Ytelddjedpmfclaa.M
open Go Nt
set_option linter.unusedVariables false
end Go.Proofs.Ytelddjedpmfclaa.M

