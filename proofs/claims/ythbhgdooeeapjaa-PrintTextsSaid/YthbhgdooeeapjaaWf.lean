import Derived.Test.YthbhgdooeeapjaaTy
import Derived.Test.YthbhgdooeeapjaaFwZ6
namespace Go.Proofs.Ythbhgdooeeapjaa.M
open Go Nt
set_option linter.unusedVariables false
end Go.Proofs.Ythbhgdooeeapjaa.M

