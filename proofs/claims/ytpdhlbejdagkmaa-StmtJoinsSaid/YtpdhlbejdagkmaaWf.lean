/- What arguments may be. -/
import Derived.Test.YtpdhlbejdagkmaaTy
import Derived.Test.YtpdhlbejdagkmaaFwZ6
namespace Go.Proofs.Ytpdhlbejdagkmaa.M
open Go Nt
set_option linter.unusedVariables false

end Go.Proofs.Ytpdhlbejdagkmaa.M
