/- Arguments, out of data. -/
import Derived.Test.YtdpecjiflalkmaaWf
import Derived.Test.YtdpecjiflalkmaaProg
import Derived.KernelRfl
namespace Go.Proofs.Ytdpecjiflalkmaa.M
open Go Nt Go.Proofs
set_option linter.unusedVariables false
set_option maxRecDepth 100000

end Go.Proofs.Ytdpecjiflalkmaa.M
