import Derived.Test.YtjlohgfmobpfmaaFwZ9
import Derived.Maps.AppendAt
namespace Nt
open Go Go.Proofs Go.RowKit
set_option linter.unusedVariables false
set_option linter.unusedSimpArgs false
theorem zB{w:World}{b i:Nat}{cs:Array Go.Value}{e:TypeId}(h:w.heap[b]?=some (.cells cs e)):w.cell? ⟨b,i,none⟩=cs[i]?:=by
 simp[World.cell?,h]
theorem z7b {P:Program} {ops:Array Oper} {o:Oper} {a:Act} {w:World} {K:Act→World→Prop} {Q:Exit→Act→World→Prop} {E:Prop} (hg:o.guard=none) (f:FuncId) (x:Operand) (ts:Array TypeId)
  (ho:o.op=.call {callee:=.value (.func f),args:=#[x],argTypes:=ts}) (he:Nt.Enters P f) {post:Go.Value→World→Prop} (h:Calls P f #[a.eval x] w fun e w'=>∃v,e=.returned v∧post v w')
  (hK:∀v w',post v w'→K (a.put o.dst v) w'):if Region.wanted o (yielded ops a.tmps)=true then Oper.wp P o a w K Q else E:=by
 have hw:Region.wanted o (yielded ops a.tmps)=true:=by simp[Region.wanted,hg]
 rw[zq1 hw];obtain⟨fn,e1,e2,e3⟩:=he;have hcf:∀args,(callFunc f args).run P w=.ok (.enter f args) w:=fun args=>by
  have h1 : fn.name ≠ "runtime.NumGoroutine" := by simpa using e2
  have h3:¬fn.body=none:=by intro e;rw[e]at e3;simp at e3
  simp[callFunc,e1,h1,h3]
 have hrun:(execOp a.eval o).run P w=.ok (.enter f #[a.eval x]) w:=by
  simp only[execOp,ho,resolve,Deferred.ofValue,Sem.run_bind,Sem.run_pure,Result.andThen_ok,invoke];show(callFunc f ((#[]:Array Go.Value)++#[x].map a.eval++#[])).run P w=_;rw[hcf];simp
 unfold Oper.wp;rw[hrun,Oper.upon_enter];refine h.mono ?_;rintro e w' ⟨v,rfl,hp⟩;exact hK v w' hp
theorem wC{w:World}{b i:Nat}{cs:Array Go.Value}{e:TypeId}(h:w.heap[b]?=some (.cells cs e)):w.frozen? ⟨b,i,none⟩=false:=by
 simp[World.frozen?,h]
theorem gE {P:Program} {ops:Array Oper} {o:Oper} {a:Act} {w:World} {K:Act→World→Prop} {Q:Exit→Act→World→Prop} {E:Prop} (hg:o.guard=none) (s x:Operand) (t:TypeId)
  (ho:o.op=.call {callee:=.builtin .append,args:=#[s,x],argTypes:=#[t,t]})
  (base:Nat) (e:TypeId) (i:TypeInfo) (z:Go.Value) (size bytes:Nat) (ht:P.underlying t=some (.slice e)) (hi:P.info? e=some i) (hz:i.zero=some z)
  (hsize:i.size=size) (hby:i.bytes=bytes) (hzs:z.cells.size=size) (hsz:0<size)
  (v:Go.Value) (n:Nat) (xs:List Go.Value) (hs:a.eval s=v) (hown:w.ownsRow base e size v n xs)
  (ad:Addr) (m c:Nat) (news:List Go.Value) (hx:a.eval x=.slice (some ad) m c) (hl:news.length=m*size) (hnews:∀j u,news[j]?=some u→w.cell? (ad.add j)=some u) (h1:∀u∈news,u.oneCell'=true)
  (h63:n+m≤maxLen) (hbytes:(n+m)*bytes≤140737488355328) (hbase:base≤w.heap.size)
  (h:∀v' w',w'.ownsRow base e size v' (n+m) (xs++news)→w.grownBy w' v.ownBlock→(v'.ownBlock=v.ownBlock∨v'.ownBlock=some w.heap.size)→K (a.put o.dst v') w'):
  if Region.wanted o (yielded ops a.tmps)=true then Oper.wp P o a w K Q else E:=by
 have hw:Region.wanted o (yielded ops a.tmps)=true:=by simp[Region.wanted,hg]
 rw[zq1 hw];obtain⟨v',w',hr,h2,h3,-,h4⟩:=run_append_own_at (P:=P) w base t o.type e i z size bytes ht hi hz hsize hby hzs hsz v n xs hown ad m c news hl hnews h1 h63 hbytes hbase;unfold Oper.wp execOp;simp only[ho,resolve,invoke,builtin,Sem.run_bind,Sem.run_pure,Result.andThen_ok,List.map_toArray,List.map_cons,List.map_nil,hs,hx,hr];exact h v' w' h2 h3 h4
end Nt

