import Derived.Test.YtcpblelppecabaaGreatFwZ5
namespace Go.Proofs.YtcpblelppecabaaGreat.M
open Go Nt
set_option linter.unusedVariables false
structure zA where
 K:Int
 N:Int
 S:Str
 L:List zA
 From:Int
 To:Int
mutual
def zA.toD:zA→D
 |⟨K,N,S,L,From,To⟩=>.agg [.int .i64 K,.int .i64 N,.str S,.sl (zA.toDs L),.int .i64 From,.int .i64 To]
def zA.toDs:List zA→List D
 |[]=>[]
 |x::r=>zA.toD x::zA.toDs r
end
theorem zA.toDs_eq:∀l,zA.toDs l=List.map zA.toD l
 |[]=>by simp[zA.toDs]
 |x::r=>by simp[zA.toDs,zA.toDs_eq r]
theorem zA.toD_eq(x:zA):x.toD=.agg [.int .i64 x.K,.int .i64 x.N,.str x.S,.sl (List.map zA.toD x.L),.int .i64 x.From,.int .i64 x.To]:=by
 cases x;simp[zA.toD,zA.toDs_eq]
theorem zA.ind{P:zA→Prop}(h:∀t:zA,(∀x∈t.L,P x)→P t)(t:zA):P t:=h t (fun x hx=>zA.ind h x)
termination_by SizeOf.sizeOf t
decreasing_by all_goals (cases t;have:=List.sizeOf_lt_of_mem hx;simp at *;omega)
theorem zA.sz(x:zA):x.toD.cells.length=6:=by rw[zA.toD_eq];rfl
structure Value where
 N:Int
 L:List Value
mutual
def Value.toD:Value→D
 |⟨N,L⟩=>.agg [.int .i64 N,.sl (Value.toDs L)]
def Value.toDs:List Value→List D
 |[]=>[]
 |x::r=>Value.toD x::Value.toDs r
end
theorem Value.toDs_eq:∀l,Value.toDs l=List.map Value.toD l
 |[]=>by simp[Value.toDs]
 |x::r=>by simp[Value.toDs,Value.toDs_eq r]
theorem Value.toD_eq(x:Value):x.toD=.agg [.int .i64 x.N,.sl (List.map Value.toD x.L)]:=by
 cases x;simp[Value.toD,Value.toDs_eq]
theorem Value.ind{P:Value→Prop}(h:∀t:Value,(∀x∈t.L,P x)→P t)(t:Value):P t:=h t (fun x hx=>Value.ind h x)
termination_by SizeOf.sizeOf t
decreasing_by all_goals (cases t;have:=List.sizeOf_lt_of_mem hx;simp at *;omega)
theorem Value.sz(x:Value):x.toD.cells.length=2:=by rw[Value.toD_eq];rfl
structure State where
 Globals:List Value
 Locals:List Value
 Input:List Int
 At:Int
 Trace:List Int
 Fuel:Int
 Kind:Int
 N:Int
 Ret:Value
@[reducible] def State.toD(x:State):D:=.agg [.sl (List.map Value.toD x.Globals),.sl (List.map Value.toD x.Locals),.sl (List.map (D.int .i64) x.Input),.int .i64 x.At,.sl (List.map (D.int .i64) x.Trace),.int .i64 x.Fuel,.int .i64 x.Kind,.int .i64 x.N,.int .i64 x.Ret.N,.sl (List.map Value.toD x.Ret.L)]
theorem State.toD_eq(x:State):x.toD=.agg [.sl (List.map Value.toD x.Globals),.sl (List.map Value.toD x.Locals),.sl (List.map (D.int .i64) x.Input),.int .i64 x.At,.sl (List.map (D.int .i64) x.Trace),.int .i64 x.Fuel,.int .i64 x.Kind,.int .i64 x.N,.int .i64 x.Ret.N,.sl (List.map Value.toD x.Ret.L)]:=rfl
theorem State.sz(x:State):x.toD.cells.length=10:=by rw[State.toD_eq];rfl
structure Ref25Rule where
 M:zA
 Types:List zA
 S:State
 Rule:Int
 L:zA
 R:zA
@[reducible] def Ref25Rule.toD(x:Ref25Rule):D:=.agg [.int .i64 x.M.K,.int .i64 x.M.N,.str x.M.S,.sl (List.map zA.toD x.M.L),.int .i64 x.M.From,.int .i64 x.M.To,.sl (List.map zA.toD x.Types),.sl (List.map Value.toD x.S.Globals),.sl (List.map Value.toD x.S.Locals),.sl (List.map (D.int .i64) x.S.Input),.int .i64 x.S.At,.sl (List.map (D.int .i64) x.S.Trace),.int .i64 x.S.Fuel,.int .i64 x.S.Kind,.int .i64 x.S.N,.int .i64 x.S.Ret.N,.sl (List.map Value.toD x.S.Ret.L),.int .i64 x.Rule,.int .i64 x.L.K,.int .i64 x.L.N,.str x.L.S,.sl (List.map zA.toD x.L.L),.int .i64 x.L.From,.int .i64 x.L.To,.int .i64 x.R.K,.int .i64 x.R.N,.str x.R.S,.sl (List.map zA.toD x.R.L),.int .i64 x.R.From,.int .i64 x.R.To]
theorem Ref25Rule.toD_eq(x:Ref25Rule):x.toD=.agg [.int .i64 x.M.K,.int .i64 x.M.N,.str x.M.S,.sl (List.map zA.toD x.M.L),.int .i64 x.M.From,.int .i64 x.M.To,.sl (List.map zA.toD x.Types),.sl (List.map Value.toD x.S.Globals),.sl (List.map Value.toD x.S.Locals),.sl (List.map (D.int .i64) x.S.Input),.int .i64 x.S.At,.sl (List.map (D.int .i64) x.S.Trace),.int .i64 x.S.Fuel,.int .i64 x.S.Kind,.int .i64 x.S.N,.int .i64 x.S.Ret.N,.sl (List.map Value.toD x.S.Ret.L),.int .i64 x.Rule,.int .i64 x.L.K,.int .i64 x.L.N,.str x.L.S,.sl (List.map zA.toD x.L.L),.int .i64 x.L.From,.int .i64 x.L.To,.int .i64 x.R.K,.int .i64 x.R.N,.str x.R.S,.sl (List.map zA.toD x.R.L),.int .i64 x.R.From,.int .i64 x.R.To]:=rfl
theorem Ref25Rule.sz(x:Ref25Rule):x.toD.cells.length=30:=by rw[Ref25Rule.toD_eq];rfl
structure Ref15Got where
 Type_:zA
 Form:zA
 At:Int
 E:Int
@[reducible] def Ref15Got.toD(x:Ref15Got):D:=.agg [.int .i64 x.Type_.K,.int .i64 x.Type_.N,.str x.Type_.S,.sl (List.map zA.toD x.Type_.L),.int .i64 x.Type_.From,.int .i64 x.Type_.To,.int .i64 x.Form.K,.int .i64 x.Form.N,.str x.Form.S,.sl (List.map zA.toD x.Form.L),.int .i64 x.Form.From,.int .i64 x.Form.To,.int .i64 x.At,.int .i64 x.E]
theorem Ref15Got.toD_eq(x:Ref15Got):x.toD=.agg [.int .i64 x.Type_.K,.int .i64 x.Type_.N,.str x.Type_.S,.sl (List.map zA.toD x.Type_.L),.int .i64 x.Type_.From,.int .i64 x.Type_.To,.int .i64 x.Form.K,.int .i64 x.Form.N,.str x.Form.S,.sl (List.map zA.toD x.Form.L),.int .i64 x.Form.From,.int .i64 x.Form.To,.int .i64 x.At,.int .i64 x.E]:=rfl
theorem Ref15Got.sz(x:Ref15Got):x.toD.cells.length=14:=by rw[Ref15Got.toD_eq];rfl
structure Ref21Got where
 V:Value
 S:State
@[reducible] def Ref21Got.toD(x:Ref21Got):D:=.agg [.int .i64 x.V.N,.sl (List.map Value.toD x.V.L),.sl (List.map Value.toD x.S.Globals),.sl (List.map Value.toD x.S.Locals),.sl (List.map (D.int .i64) x.S.Input),.int .i64 x.S.At,.sl (List.map (D.int .i64) x.S.Trace),.int .i64 x.S.Fuel,.int .i64 x.S.Kind,.int .i64 x.S.N,.int .i64 x.S.Ret.N,.sl (List.map Value.toD x.S.Ret.L)]
theorem Ref21Got.toD_eq(x:Ref21Got):x.toD=.agg [.int .i64 x.V.N,.sl (List.map Value.toD x.V.L),.sl (List.map Value.toD x.S.Globals),.sl (List.map Value.toD x.S.Locals),.sl (List.map (D.int .i64) x.S.Input),.int .i64 x.S.At,.sl (List.map (D.int .i64) x.S.Trace),.int .i64 x.S.Fuel,.int .i64 x.S.Kind,.int .i64 x.S.N,.int .i64 x.S.Ret.N,.sl (List.map Value.toD x.S.Ret.L)]:=rfl
theorem Ref21Got.sz(x:Ref21Got):x.toD.cells.length=12:=by rw[Ref21Got.toD_eq];rfl
structure Ref16Got where
 T_:zA
 At:Int
 E:Int
@[reducible] def Ref16Got.toD(x:Ref16Got):D:=.agg [.int .i64 x.T_.K,.int .i64 x.T_.N,.str x.T_.S,.sl (List.map zA.toD x.T_.L),.int .i64 x.T_.From,.int .i64 x.T_.To,.int .i64 x.At,.int .i64 x.E]
theorem Ref16Got.toD_eq(x:Ref16Got):x.toD=.agg [.int .i64 x.T_.K,.int .i64 x.T_.N,.str x.T_.S,.sl (List.map zA.toD x.T_.L),.int .i64 x.T_.From,.int .i64 x.T_.To,.int .i64 x.At,.int .i64 x.E]:=rfl
theorem Ref16Got.sz(x:Ref16Got):x.toD.cells.length=8:=by rw[Ref16Got.toD_eq];rfl
abbrev TP:=FuncId→List Sv→H→List Sv→H→Prop
abbrev BP:=List KI→St→Prop
abbrev hM(a b:Int)(c:List UInt8)(l:List D)(f t:Int):List Sv:=[.d (.int .i64 a),.d (.int .i64 b),.d (.str c),.own 6 l,.d (.int .i64 f),.d (.int .i64 t)]
abbrev hX(c:List UInt8)(a:Int)(l:List D):List Sv:=[.d (.str c),.d (.int .i64 a),.own 5 l]
abbrev gT(a b:Int)(c:List UInt8)(l:List D)(f t:Int):D:=.agg [.int .i64 a,.int .i64 b,.str c,.sl l,.int .i64 f,.int .i64 t]
abbrev gV(a:Int)(l:List D):D:=.agg [.int .i64 a,.sl l]
abbrev gS(a b c:List D)(d:Int)(e:List D)(f g h i:Int)(j:List D):D:=.agg [.sl a,.sl b,.sl c,.int .i64 d,.sl e,.int .i64 f,.int .i64 g,.int .i64 h,.int .i64 i,.sl j]
abbrev gG(v:Int)(w a b c:List D)(d:Int)(e:List D)(f g h i:Int)(j:List D):D:=.agg [.int .i64 v,.sl w,.sl a,.sl b,.sl c,.int .i64 d,.sl e,.int .i64 f,.int .i64 g,.int .i64 h,.int .i64 i,.sl j]
abbrev tT(x:zA):D:=gT x.K x.N x.S (List.map zA.toD x.L) x.From x.To
abbrev mV(l:List Value):List D:=List.map Value.toD l
abbrev tV(x:Value):D:=gV x.N (List.map Value.toD x.L)
abbrev tS(x:State):D:=gS (List.map Value.toD x.Globals) (List.map Value.toD x.Locals) (List.map (D.int .i64) x.Input) x.At (List.map (D.int .i64) x.Trace) x.Fuel x.Kind x.N x.Ret.N (List.map Value.toD x.Ret.L)
abbrev tG(x:Ref21Got):D:=gG x.V.N (List.map Value.toD x.V.L) (List.map Value.toD x.S.Globals) (List.map Value.toD x.S.Locals) (List.map (D.int .i64) x.S.Input) x.S.At (List.map (D.int .i64) x.S.Trace) x.S.Fuel x.S.Kind x.S.N x.S.Ret.N (List.map Value.toD x.S.Ret.L)
abbrev nI(a:Int):Sv:=.d (.int .i64 a)
abbrev nS(c:List UInt8):Sv:=.d (.str c)
abbrev mT(l:List zA):List D:=List.map zA.toD l
abbrev w6(n:Int):Int:=IntKind.wrap .i64 n
abbrev nB(b:Bool):Sv:=.d (.bool b)
abbrev Dn(rs:List Sv)(h:H)(l:List Sv):Prop:=l=rs∧[]=h
abbrev zqI(n:Int):D:=.int .i64 n
end Go.Proofs.YtcpblelppecabaaGreat.M

