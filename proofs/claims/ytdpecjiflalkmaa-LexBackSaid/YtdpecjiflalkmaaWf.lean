/- What arguments may be. -/
import Derived.Test.YtdpecjiflalkmaaTy
import Derived.Test.YtdpecjiflalkmaaFwZ6
namespace Go.Proofs.Ytdpecjiflalkmaa.M
open Go Nt
set_option linter.unusedVariables false

end Go.Proofs.Ytdpecjiflalkmaa.M
