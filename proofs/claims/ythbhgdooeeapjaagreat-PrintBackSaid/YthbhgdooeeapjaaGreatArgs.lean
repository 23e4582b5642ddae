import Derived.Test.YthbhgdooeeapjaaGreatWf
import Derived.Test.YthbhgdooeeapjaaGreatProg
import Derived.KernelRfl
namespace Go.Proofs.YthbhgdooeeapjaaGreat.M
open Go Nt Go.Proofs
set_option linter.unusedVariables false
set_option maxRecDepth 100000
end Go.Proofs.YthbhgdooeeapjaaGreat.M

