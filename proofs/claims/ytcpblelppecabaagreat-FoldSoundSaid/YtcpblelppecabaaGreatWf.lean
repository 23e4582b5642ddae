import Derived.Test.YtcpblelppecabaaGreatTy
import Derived.Test.YtcpblelppecabaaGreatFwZ6
namespace Go.Proofs.YtcpblelppecabaaGreat.M
open Go Nt
set_option linter.unusedVariables false
inductive zA.Wf:zA→Prop
 |mk (y:zA):(InK .i64 y.K)→(InK .i64 y.N)→(y.S.length≤9223372036854775807)→(y.L.length≤9223372036854775807)→(∀x∈y.L,zA.Wf x)→(InK .i64 y.From)→(InK .i64 y.To)→zA.Wf y
theorem zA.Wf.N_{y:zA}(h:zA.Wf y):InK .i64 y.N:=by
 cases h;assumption
theorem zA.Wf.S_{y:zA}(h:zA.Wf y):y.S.length≤9223372036854775807:=by
 cases h;assumption
theorem zA.Wf.L_{y:zA}(h:zA.Wf y):y.L.length≤9223372036854775807∧∀x∈y.L,zA.Wf x:=by
 cases h;exact⟨by assumption,by assumption⟩
inductive Value.Wf:Value→Prop
 |mk (y:Value):(InK .i64 y.N)→(y.L.length≤9223372036854775807)→(∀x∈y.L,Value.Wf x)→Value.Wf y
theorem Value.Wf.N_{y:Value}(h:Value.Wf y):InK .i64 y.N:=by
 cases h;assumption
theorem Value.Wf.L_{y:Value}(h:Value.Wf y):y.L.length≤9223372036854775807∧∀x∈y.L,Value.Wf x:=by
 cases h;exact⟨by assumption,by assumption⟩
inductive State.Wf:State→Prop
 |mk (y:State):(y.Globals.length≤9223372036854775807)→(∀x∈y.Globals,Value.Wf x)→(y.Locals.length≤9223372036854775807)→(∀x∈y.Locals,Value.Wf x)→(y.Input.length≤9223372036854775807)→(∀x∈y.Input,InK .i64 x)→(InK .i64 y.At)→(y.Trace.length≤9223372036854775807)→(∀x∈y.Trace,InK .i64 x)→(InK .i64 y.Fuel)→(InK .i64 y.Kind)→(InK .i64 y.N)→(Value.Wf y.Ret)→State.Wf y
theorem State.Wf.Globals_{y:State}(h:State.Wf y):y.Globals.length≤9223372036854775807∧∀x∈y.Globals,Value.Wf x:=by
 cases h;exact⟨by assumption,by assumption⟩
theorem State.Wf.Locals_{y:State}(h:State.Wf y):y.Locals.length≤9223372036854775807∧∀x∈y.Locals,Value.Wf x:=by
 cases h;exact⟨by assumption,by assumption⟩
theorem State.Wf.Input_{y:State}(h:State.Wf y):y.Input.length≤9223372036854775807∧∀x∈y.Input,InK .i64 x:=by
 cases h;exact⟨by assumption,by assumption⟩
theorem State.Wf.N_{y:State}(h:State.Wf y):InK .i64 y.N:=by
 cases h;assumption
theorem State.Wf.Ret_{y:State}(h:State.Wf y):Value.Wf y.Ret:=by
 cases h;assumption
inductive Ref25Rule.Wf:Ref25Rule→Prop
 |mk (y:Ref25Rule):(zA.Wf y.M)→(y.Types.length≤9223372036854775807)→(∀x∈y.Types,zA.Wf x)→(State.Wf y.S)→(InK .i64 y.Rule)→(zA.Wf y.L)→(zA.Wf y.R)→Ref25Rule.Wf y
theorem Ref25Rule.Wf.M_{y:Ref25Rule}(h:Ref25Rule.Wf y):zA.Wf y.M:=by
 cases h;assumption
theorem Ref25Rule.Wf.Types_{y:Ref25Rule}(h:Ref25Rule.Wf y):y.Types.length≤9223372036854775807∧∀x∈y.Types,zA.Wf x:=by
 cases h;exact⟨by assumption,by assumption⟩
theorem Ref25Rule.Wf.S_{y:Ref25Rule}(h:Ref25Rule.Wf y):State.Wf y.S:=by
 cases h;assumption
theorem Ref25Rule.Wf.L_{y:Ref25Rule}(h:Ref25Rule.Wf y):zA.Wf y.L:=by
 cases h;assumption
theorem Ref25Rule.Wf.R_{y:Ref25Rule}(h:Ref25Rule.Wf y):zA.Wf y.R:=by
 cases h;assumption
end Go.Proofs.YtcpblelppecabaaGreat.M

