import Derived.Test.YtjlohgfmobpfmaaTy
import Derived.Test.YtjlohgfmobpfmaaFwZ6
namespace Go.Proofs.Ytjlohgfmobpfmaa.M
open Go Nt
set_option linter.unusedVariables false
inductive Edit.Wf:Edit→Prop
 |mk (y:Edit):(InK .i64 y.From)→(InK .i64 y.To)→(y.Text.length≤9223372036854775807)→Edit.Wf y
end Go.Proofs.Ytjlohgfmobpfmaa.M

