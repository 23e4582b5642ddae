import Derived.Test.YtelddjedpmfclaaGreatTy
import Derived.Test.YtelddjedpmfclaaGreatFwZ6
namespace Go.Proofs.YtelddjedpmfclaaGreat.M
open Go Nt
set_option linter.unusedVariables false
end Go.Proofs.YtelddjedpmfclaaGreat.M

