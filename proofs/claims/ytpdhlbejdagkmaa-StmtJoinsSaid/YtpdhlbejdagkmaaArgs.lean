/- Arguments, out of data. -/
import Derived.Test.YtpdhlbejdagkmaaWf
import Derived.Test.YtpdhlbejdagkmaaProg
import Derived.KernelRfl
namespace Go.Proofs.Ytpdhlbejdagkmaa.M
open Go Nt Go.Proofs
set_option linter.unusedVariables false
set_option maxRecDepth 100000

end Go.Proofs.Ytpdhlbejdagkmaa.M
