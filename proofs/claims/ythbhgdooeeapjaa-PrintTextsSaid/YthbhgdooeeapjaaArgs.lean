import Derived.Test.YthbhgdooeeapjaaWf
import Derived.Test.YthbhgdooeeapjaaProg
import Derived.KernelRfl
namespace Go.Proofs.Ythbhgdooeeapjaa.M
open Go Nt Go.Proofs
set_option linter.unusedVariables false
set_option maxRecDepth 100000
end Go.Proofs.Ythbhgdooeeapjaa.M

