import Derived.Test.YthbhgdooeeapjaaGreatTy
import Derived.Test.YthbhgdooeeapjaaGreatFwZ6
namespace Go.Proofs.YthbhgdooeeapjaaGreat.M
open Go Nt
set_option linter.unusedVariables false
end Go.Proofs.YthbhgdooeeapjaaGreat.M

