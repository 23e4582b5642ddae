import Derived.Test.YtelddjedpmfclaaGreatWf
import Derived.Test.YtelddjedpmfclaaGreatProg
import Derived.KernelRfl
namespace Go.Proofs.YtelddjedpmfclaaGreat.M
open Go Nt Go.Proofs
set_option linter.unusedVariables false
set_option maxRecDepth 100000
end Go.Proofs.YtelddjedpmfclaaGreat.M

