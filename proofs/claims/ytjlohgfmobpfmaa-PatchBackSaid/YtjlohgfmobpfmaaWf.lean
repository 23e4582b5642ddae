import Derived.Test.YtjlohgfmobpfmaaTy
import Derived.Test.YtjlohgfmobpfmaaFwZ6
namespace Go.Proofs.Ytjlohgfmobpfmaa.M
open Go Nt
set_option linter.unusedVariables false
inductive Edit.Wf:Edit→Prop
 |mk (y:Edit):(InK .i64 y.From)→(InK .i64 y.To)→(y.Text.length≤9223372036854775807)→Edit.Wf y
theorem Edit.Wf.Text_{y:Edit}(h:Edit.Wf y):y.Text.length≤9223372036854775807:=by
 cases h;assumption
end Go.Proofs.Ytjlohgfmobpfmaa.M

