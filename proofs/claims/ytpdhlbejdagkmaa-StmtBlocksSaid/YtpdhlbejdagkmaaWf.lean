/- What arguments may be. -/
import Derived.Test.YtpdhlbejdagkmaaTy
import Derived.Test.YtpdhlbejdagkmaaFwZ6
namespace Go.Proofs.Ytpdhlbejdagkmaa.M
open Go Nt
set_option linter.unusedVariables false
inductive Token.Wf : Token → Prop
  | mk (y : Token) : (InK .i64 y.K) → (InK .i64 y.N) → (y.S.length ≤ 9223372036854775807) → (InK .i64 y.From) → (InK .i64 y.To) → Token.Wf y
theorem Token.Wf.K_ {y : Token} (h : Token.Wf y) : InK .i64 y.K := by
  cases h; assumption
theorem Token.Wf.N_ {y : Token} (h : Token.Wf y) : InK .i64 y.N := by
  cases h; assumption
theorem Token.Wf.S_ {y : Token} (h : Token.Wf y) : y.S.length ≤ 9223372036854775807 := by
  cases h; assumption
theorem Token.Wf.From_ {y : Token} (h : Token.Wf y) : InK .i64 y.From := by
  cases h; assumption
theorem Token.Wf.To_ {y : Token} (h : Token.Wf y) : InK .i64 y.To := by
  cases h; assumption
end Go.Proofs.Ytpdhlbejdagkmaa.M
