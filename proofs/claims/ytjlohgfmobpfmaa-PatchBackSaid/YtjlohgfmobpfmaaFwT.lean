import Derived.Test.YtjlohgfmobpfmaaFwS
import Derived.Laws.BytesString
import Derived.Laws.MakeOwn
import Derived.Laws.Cells
namespace Nt
open Go
set_option linter.unusedVariables false
set_option linter.unusedSimpArgs false
section
variable {X:Ctx} {κ:Kap} {s:St} {a:Act} {w:World}
theorem z0c(R:Rel X κ s a w):∀xs:List Operand,RelSs w (Mut X.M0 κ) κ s.env (xs.map a.eval) (xs.map (opv s))
 |[]=>.nil
 |x::xs=>.cons _ _ _ _ (R.opv x) (z0c R xs)
theorem RelSs.append{M:Nat→Nat→Prop}{E:Env}:∀{us vs:List Value} {xs ys:List Sv},RelSs w M κ E us xs→RelSs w M κ E vs ys→RelSs w M κ E (us++vs) (xs++ys)
 |_,_,_,_,.nil,h=>h
 |_,_,_,_,.cons u x us xs h r,g=>.cons u x _ _ h (RelSs.append r g)
theorem z2w{M:Nat→Nat→Prop}:∀{u:List UInt8} {vs:List Value},RelVs w M vs (u.map z3w)→vs=(u.map fun c=>Int.ofNat c.toNat).map (Value.int .u8)
 |[],_,.nil=>rfl
 |c::u,_,.cons v _ vs _ _ hv hvs=>by
  rw[z2w hvs];have:=hv.int_inv;subst this;rfl
theorem z5u(ns:List Int):∀(b:ByteArray),ns.foldl (fun r n=>r.push (UInt8.ofNat n.toNat)) b=⟨b.data++(ns.map fun n=>UInt8.ofNat n.toNat).toArray⟩:=by
 induction ns with
 |nil=>intro b;simp
 |cons n ns ih=>
  intro b;rw[List.foldl_cons,ih];apply ByteArray.ext;apply Array.ext';simp[ByteArray.push]
theorem z2l:∀(u:List UInt8),yC (u.map z3w)=u.map z3w
 |[]=>rfl
 |c::u=>by
  have:=z2l u;simp[yC,D.cells,z3w]at this ⊢;exact this
theorem gH(z:List Value)(n:Nat)(l:Nat)(hz:z.length=n):(madeCells ⟨z⟩ (l*n))=⟨(List.replicate l z).flatten⟩:=by
 apply Array.ext';apply List.ext_getElem?;intro i;simp only[madeCells,Array.toList_map,Array.toList_range,List.getElem?_map];by_cases hi:i<l*n
 ·have hn:0<n:=by
   rcases Nat.eq_zero_or_pos n with h|h
   ·subst h;simp at hi
   ·exact h
  rw[List.getElem?_range hi];simp only[Option.map_some];have h1:i % n<n:=Nat.mod_lt _ hn;have h2:∀(l i:Nat),i<l*n→((List.replicate l z).flatten)[i]?=z[i % n]?:=by
   intro l;induction l with
   |zero=>intro i hi;simp at hi
   |succ l ih=>
    intro i hi;rw[List.replicate_succ,List.flatten_cons];by_cases hin:i<n
    ·rw[List.getElem?_append_left (by omega),Nat.mod_eq_of_lt hin]
    ·rw[List.getElem?_append_right (by omega),hz,ih (i-n) (by rw[Nat.succ_mul]at hi;omega)];rw[Nat.mod_eq_sub_mod (by omega:n≤i)]
  rw[h2 l i hi];have hsz:(⟨z⟩:Array Value).size=n:=by simpa using hz
  rw[hsz];rw[List.getElem?_eq_getElem (by omega)];simp[hz,h1]
 ·rw[List.getElem?_eq_none (by simpa using hi),Option.map_none];rw[List.getElem?_eq_none];simp[hz];omega
theorem gB(x:D)(l:Nat):yC (List.replicate l x)=(List.replicate l x.cells).flatten:=by
 induction l with
 |zero=>rfl
 |succ l ih=>rw[List.replicate_succ,yC,ih,List.replicate_succ,List.flatten_cons]
theorem RelVs.flatten{M:Nat→Nat→Prop}{vs:List Value}{cs:List D}(h:RelVs w M vs cs):∀l,RelVs w M (List.replicate l vs).flatten (List.replicate l cs).flatten
 |0=>by simpa using RelVs.nil
 |l+1=>by
  rw[List.replicate_succ,List.flatten_cons,List.replicate_succ,List.flatten_cons];have app:∀{vs us:List Value} {cs ds:List D},RelVs w M vs cs→RelVs w M us ds→RelVs w M (vs++us) (cs++ds):=by
   intro vs us cs ds h g;induction vs generalizing cs with
   |nil=>cases h;exact g
   |cons v vs ih=>cases h with|cons _ c _ cs h1 h2 h3=>exact .cons _ _ _ _ h1 h2 (ih h3)
  exact app h (RelVs.flatten h l)
theorem z5p{v:Value}(h:vW v=.nilS):v=.slice none 0 0:=by
 unfold vW at h;split at h
 ·rfl
 ·cases h
 ·split at h<;>cases h
theorem wY(v:Value):(vW v).plain=true∧∀n xs,vW v≠.own n xs:=by
 unfold vW;split
 ·exact⟨rfl,by simp⟩
 ·exact⟨rfl,by simp⟩
 ·split
  ·exact⟨rfl,by simp⟩
  ·exact⟨rfl,by simp⟩
def z9a(w:World)(M:Nat→Nat→Prop)(κ:Kap)(E:Env)(v:Value)(c:Sv):Prop:=
 v.oneCell'=true∧((∃n,c=.own n []∧Emp v)∨((∀n xs,c≠.own n xs)∧c.plain=true∧RelS w M κ E v c))
theorem z6i{P:Program}{M:Nat→Nat→Prop}{E:Env}(t:TypeId){v:Value}(hv:v.oneCell'=true):z9a w M κ E v (z6h P t v):=by
 refine⟨hv,?_⟩;unfold z6h;split
 ·rename_i h
  have hv':=z5p h;split
  ·split
   ·rename_i n _;exact .inl ⟨n,rfl,.inl hv'⟩
   ·exact .inr ⟨by simp,rfl,.undef _⟩
  ·exact .inr ⟨by simp,rfl,.undef _⟩
 ·exact .inr ⟨(wY v).2,(wY v).1,jN v⟩
theorem z3l{P:Program}{M:Nat→Nat→Prop}{E:Env}:∀(fs:List Field) (vs:List Value),(∀v∈vs,v.oneCell'=true) →
  vs.length=(z2f P fs vs).length∧∀(i:Nat) v c,vs[i]?=some v→(z2f P fs vs)[i]?=some c→z9a w M κ E v c
 |[],vs,h=>by
  refine⟨by simp[z2f],fun i v c hv hc=>?_⟩;simp[z2f,hv]at hc;subst hc;exact⟨h v (List.mem_of_getElem? hv),.inr ⟨(wY v).2,(wY v).1,jN v⟩⟩
 |f::fs,[],h=>⟨rfl,by simp⟩
 |f::fs,v::vs,h=>by
  obtain⟨h1,h2⟩:=z3l (P:=P) (M:=M) (E:=E) fs vs (fun u hu=>h u (List.mem_cons_of_mem _ hu));refine⟨by simp[z2f,←h1],fun i u c hu hc=>?_⟩;cases i with
  |zero=>simp[z2f]at hu hc;subst hu;subst hc;exact z6i _ (h _ (by simp))
  |succ i=>exact h2 i u c (by simpa using hu) (by simpa [z2f]using hc)
theorem z5v{P:Program}{M:Nat→Nat→Prop}{E:Env}(t:TypeId)(z:Value)(h:∀v∈z.cells.toList,v.oneCell'=true):
  z.cells.toList.length=(z2P P t z).length∧∀(i:Nat) v c,z.cells.toList[i]?=some v→(z2P P t z)[i]?=some c→z9a w M κ E v c:=by
 unfold z2P;split
 ·exact z3l _ _ h
 ·have:=z3l (P:=P) (w:=w) (M:=M) (κ:=κ) (E:=E) [] z.cells.toList h;simpa [z2f]using this
theorem z6R{P:Program}{t:TypeId}{z:Value}(hz:z1V P t=some z):(Instr.alloc t true (.tuple #[])).run P w=.ok (.pointer (some ⟨w.heap.size,0,none⟩)) (zH w ⟨z.cells.toList⟩ t):=by
 have:(zeroValue t).run P w=.ok z w:=by
  unfold z1V at hz;split at hz
  ·rename_i i hi;simp[zeroValue,typeInfo,hi,hz]
  ·cases hz
 unfold Instr.alloc;simp only[Sem.run_bind,this,Result.andThen_ok,z2v,Sem.run_pure]
theorem z8A{P:Program}(t:TypeId)(v:Value):(Instr.box t v).run P w=.ok (.pointer (some ⟨w.heap.size,0,none⟩)) (zH w ⟨v.cells.toList⟩ t):=by
 unfold Instr.box;simp only[Sem.run_bind,z2v,Result.andThen_ok,Sem.run_pure]
theorem z8h{l:List Value}(h:l.all Value.oneCell'=true):∀v∈l,v.oneCell'=true:=List.all_eq_true.1 h
theorem z6O{M:Nat→Nat→Prop}{vs:List Value}{cs:List D}(h:RelVs w M vs cs):yC cs=cs:=by
 induction vs generalizing cs with
 |nil=>cases h;rfl
 |cons v vs ih=>
  cases h with
  |cons _ c _ cs h1 h2 h3=>
   rw[yC,ih h3];cases c<;>first|rfl|simp[D.sc]at h1
theorem RelSs.get{M:Nat→Nat→Prop}{E:Env}:∀{vs:List Value} {xs:List Sv},RelSs w M κ E vs xs→∀(i:Nat) (y:Sv),xs[i]?=some y→∃v,vs[i]?=some v∧RelS w M κ E v y
 |_,_,.nil,i,y,h=>by simp at h
 |_,_,.cons v x vs xs h r,0,y,e=>by simp at e;subst e;exact⟨v,rfl,h⟩
 |_,_,.cons v x vs xs h r,i+1,y,e=>by simpa using RelSs.get r i y (by simpa using e)
theorem z2x{α:Type}{xs:Array α}{x:α}(h:xs.toList=[x]):xs=#[x]:=by cases xs;simp at h;subst h;rfl
theorem jS{α:Type}{xs:Array α}{x y:α}(h:xs.toList=[x,y]):xs=#[x,y]:=by cases xs;simp at h;subst h;rfl
theorem z4i(s:St)(ps:List (Nat×Nat×Option Ob))(p:zQ):(s.app ⟨[],ps,none⟩).app p=s.app ⟨p.puts,p.ars++ps,p.h⟩:=by
 unfold St.app;simp only[List.nil_append,List.append_assoc,Option.getD_none]
theorem z2V:∀{svs:List Sv} {κ:Kap} {s:St} {us:List Value} {k:List (Nat×Nat×Option Ob)→List Sv→Prop},z5y s svs k→Rel X κ s a w→RelSs w (Mut X.M0 κ) κ s.env us svs →
  ∃ps ys κ',k ps ys∧Rel X κ' (s.app ⟨[],ps,none⟩) a w∧RelSs w (Mut X.M0 κ') κ' (s.app ⟨[],ps,none⟩).env us ys ∧
   ∀v x,RelS w (Mut X.M0 κ) κ s.env v x→RelS w (Mut X.M0 κ') κ' (s.app ⟨[],ps,none⟩).env v x
 |[],κ,s,_,k,h,R,.nil=>⟨[],[],κ,h,R,.nil,fun _ _ h=>h⟩
 |v::svs,κ,s,_,k,h,R,.cons u _ us _ hv hvs=>by
  by_cases hrow:∃r g,v=.row r g
  ·obtain⟨r,g,rfl⟩:=hrow;obtain⟨ob,ho,h1⟩:=zD h;cases ob with
   |row n xs=>
    have T:=Stays.drop R ho [];have R1:=R.drop ho (p:=⟨[],[(r,g,none)],none⟩) rfl rfl (.inl ⟨rfl,rfl⟩);have hd:RelV w (Mut X.M0 (upK κ (.ar r) none)) u (.sl xs):=by
     cases hv with
     |row _ _ _ q1 q2=>
      obtain⟨b,cap,rfl,q3,q4⟩:=q2 _ _ ho;obtain⟨b',q5,q6,q7⟩:=R.obs _ _ _ ho;rw[q3]at q5;injection q5 with q5;injection q5 with q5 _;subst q5;refine .sl b 0 cap xs (RelC.mk 0 fun i c hi=>?_) q4;obtain⟨v,g1,g2,g3,g4,g5⟩:=q6 i c hi;refine⟨v,by rw[Nat.zero_add];exact g1,?_,g3,g4.keep T.keeps⟩;rintro(hm|⟨k',lo,hk,-⟩)
      ·exact R.notM0 (R.kb _ _ _ q3).2 _ hm
      ·by_cases e:k'=.ar r
       ·subst e;simp at hk
       ·rw[zI _ _ e]at hk;exact e (R.ki _ _ _ _ _ hk q3)
    obtain⟨ps,ys,κ',h2,h3,h4,h5⟩:=z2V h1 R1 (hvs.stay T);rw[z4i]at h3 h4 h5;exact⟨_,_,κ',h2,h3,.cons _ _ _ _ (h5 _ _ (.d _ _ hd)) h4,fun v x hx=>h5 v x (hx.stay T)⟩
   |_=>exact h1.elim
  ·have h1:z5y s svs fun ps us=>k ps (v::us):=by
    cases v with
    |row r g=>exact absurd ⟨r,g,rfl⟩ hrow
    |_=>exact h
   obtain⟨ps,ys,κ',h2,h3,h4,h5⟩:=z2V h1 R hvs;exact⟨ps,v::ys,κ',h2,h3,.cons _ _ _ _ (h5 _ _ hv) h4,h5⟩
theorem z5A{P:Program}(R:Rel X κ s a w){t:TypeId}{ua uv:Value}{va vv:Sv}{k:zQ→Prop}(hk:z1v P t s va vv k)(ha:RelS w (Mut X.M0 κ) κ s.env ua va)(hv:RelS w (Mut X.M0 κ) κ s.env uv vv):
  ∃p κ' w',(Instr.storeAt t ua uv).run P w=.ok () w'∧k p∧Rel X κ' (s.app p) a w':=by
 obtain⟨ps,ys,κ',h1,h2,h3,h4⟩:=z2V hk R (.cons _ _ _ _ hv .nil);cases h3 with
 |cons _ y _ _ hy hn=>
  cases hn;obtain⟨p,κ'',w',q1,q2,q3⟩:=z6u h2 h1 (h4 _ _ ha) hy;rw[z4i]at q3;exact⟨_,κ'',w',q1,q2,q3⟩
theorem z7H {c:Cx} (hT:∀f vs h rs h',c.trip f vs h rs h'→Trip c.P f vs h rs h') {o:Oper} {cl:Call} {k:zQ→Prop} (h:z6p c s o cl k) (R:Rel X κ s a w) (ho:o.op=.call cl)
  {next:Act→World→Prop} {Q:Exit→Act→World→Prop}
  (hn:∀p κ' a' w',k p→Rel X κ' (s.app p) a' w'→next a' w'):o.wp c.P a w next Q:=by
 have val:∀{v:Value} {sv:Sv},(execOp a.eval o).run c.P w=.ok (.value v) w→uH s o.dst sv k→RelS w (Mut X.M0 κ) κ s.env v sv→o.wp c.P a w next Q:=fun hr hk hv=>by
  obtain⟨p,h1,h2⟩:=jQ R hk hv;exact z0i hr (hn p κ _ _ h1 h2)
 unfold z6p at h;split at h
 ·rename_i f hcal
  have hf:=R.opv f;split at h
  ·rename_i g first cap hs
   rw[hs]at hf;generalize hu:a.eval f=u at hf;cases hf with
   |fn _ vs ws _ _ _ _ h1 h2=>
    obtain⟨ps,ys,κ1,k1,R1,k2,k3⟩:=z2V h R (z0c R _);have all:∀{vs:List Value} {xs:List Sv},RelSs w (Mut X.M0 κ) κ s.env vs xs→RelSs w (Mut X.M0 κ1) κ1 (s.app ⟨[],ps,none⟩).env vs xs:=fun {vs xs} h=>by
     induction vs generalizing xs with
     |nil=>cases h;exact .nil
     |cons v vs ih=>cases h with|cons _ _ _ _ h1 h2=>exact .cons _ _ _ _ (k3 _ _ h1) (ih h2)
    have hargs:RelSs w (Mut X.M0 κ1) κ1 (s.app ⟨[],ps,none⟩).env (vs++cl.args.toList.map a.eval++ws) (first++ys++cap):=RelSs.append (RelSs.append (all h1) k2) (all h2);obtain⟨⟨fn,e1,e2,e3⟩,hc⟩:=z7I hT R1 k1 hargs;have hrun:(execOp a.eval o).run c.P w=.ok (.enter g ⟨vs++cl.args.toList.map a.eval++ws⟩) w:=by
     have hb : (fn.name == "runtime.NumGoroutine") = false := e2;have harr:(⟨vs⟩:Array Value)++cl.args.map a.eval++(⟨ws⟩:Array Value)=⟨vs++cl.args.toList.map a.eval++ws⟩:=by apply Array.ext';simp
     have hcf:∀args,(callFunc g args).run c.P w=.ok (.enter g args) w:=fun args=>by
      have h1 : fn.name ≠ "runtime.NumGoroutine" := by simpa using hb
      have h3:¬fn.body=none:=by intro e;rw[e]at e3;simp at e3
      simp[callFunc,e1,h1,h3]
     simp only[execOp,ho,resolve,hcal,hu,Deferred.ofValue,Sem.run_bind,Sem.run_pure,Result.andThen_ok,invoke];rw[hcf];rw[←harr]
    unfold Oper.wp;rw[hrun,Oper.upon_enter];refine hc.mono ?_;rintro e w' ⟨v,p,κ',rfl,q1,q2⟩;rw[z4i]at q2;exact hn _ κ' _ _ q1 q2
  ·exact h.elim
 ·rename_i hcal
  split at h
  ·rename_i x t hx ht
   have hx:=z2x hx;have ht:=z2x ht;have hr:∀u,a.eval x=u→(execOp a.eval o).run c.P w=((Builtin.len_ #[t] o.type #[u]).run c.P w).andThen fun v w=>.ok (.value v) w:=fun u hu=>by
    simp only[execOp,ho,resolve,hcal,hx,ht,Sem.run_bind,Sem.run_pure,Result.andThen_ok,invoke,builtin];simp[hu,Sem.run_pure]
   have hv:=R.opv x;unfold kLen at h;split at h
   ·rename_i e hte
    have slice_len:∀{a0:Option Addr} {l cp:Nat},(Builtin.len_ #[t] o.type #[.slice a0 l cp]).run c.P w=.ok (goInt l) w:=by
     intro a0 l cp;simp[Builtin.len_,run_underlying hte]
    split at h
    ·rename_i r g hs;rw[hs]at hv
     obtain⟨ob,hob,h1⟩:=zD h;split at h1
     ·rename_i n xs
      generalize hu:a.eval x=u at hv;cases hv with
      |row _ _ _ _ hv=>
       obtain⟨b,cp,rfl,-,-⟩:=hv n xs hob;exact val (by rw[hr _ hu,slice_len];rfl) (h1 _ rfl) (.d _ _ (.int _ _))
     ·exact h1.elim
    ·obtain⟨y,hy,h1⟩:=yA h hv;obtain⟨xs,rfl,h2⟩:=z1u h1;rcases hy.sl_inv with⟨hu|⟨a0,hu⟩,rfl⟩|⟨b,o',cap,hu,-,-⟩
     ·exact val (by rw[hr _ hu,slice_len];rfl) (h2 _ rfl) (.d _ _ (.int _ _))
     ·exact val (by rw[hr _ hu,slice_len];rfl) (h2 _ rfl) (.d _ _ (.int _ _))
     ·exact val (by rw[hr _ hu,slice_len];rfl) (h2 _ rfl) (.d _ _ (.int _ _))
   ·rename_i hte
    obtain⟨y,hy,h1⟩:=yA h hv;obtain⟨u,rfl,h2⟩:=uK h1;exact val (by rw[hr _ hy.str_inv];simp[Builtin.len_,run_underlying hte];rfl) (h2 _ rfl) (.d _ _ (.int _ _))
   ·exact h.elim
  ·exact h.elim
 ·rename_i hcal
  split at h
  ·rename_i x y t u hx ht
   have hx:=jS hx;have ht:=jS ht;split at h
   ·rename_i e' hte
    obtain⟨p,κ',u',w',h1,h2,h3⟩:=z5w R (ty:=o.type) hte h (R.opv x) (R.opv y);refine z0i ?_ (hn p κ' _ _ h2 h3);simp only[execOp,ho,resolve,hcal,hx,ht,Sem.run_bind,Sem.run_pure,Result.andThen_ok,invoke,builtin];simp[h1,Sem.run_pure]
   ·exact h.elim
  ·exact h.elim
 ·rename_i hcal
  split at h
  ·rename_i x y hx
   have hx:=jS hx;obtain⟨p,hp,h1⟩:=yA h (R.opv x);obtain⟨q,hq,h2⟩:=yA h1 (R.opv y);obtain⟨i,m,rfl,h3⟩:=wK h2;obtain⟨j,n,rfl,h30⟩:=wK h3;obtain⟨hij,h31⟩:=zG h30;obtain rfl:=of_decide_eq_true hij;have h4:=yF h31;refine val ?_ h4 (.d _ _ (.int _ _));simp only[execOp,ho,resolve,hcal,hx,Sem.run_bind,Sem.run_pure,Result.andThen_ok,invoke,builtin];have:(if n>m then n else m)=max m n:=by rw[Int.max_def];split<;>split<;>omega
   simp[Builtin.max_,Builtin.max2,hp.int_inv,hq.int_inv,Sem.run_pure];simpa using this
  ·exact h.elim
 ·rename_i hcal
  split at h
  ·rename_i x y hx
   have hx:=jS hx;obtain⟨p,hp,h1⟩:=yA h (R.opv x);obtain⟨q,hq,h2⟩:=yA h1 (R.opv y);obtain⟨i,m,rfl,h3⟩:=wK h2;obtain⟨j,n,rfl,h30⟩:=wK h3;obtain⟨hij,h31⟩:=zG h30;obtain rfl:=of_decide_eq_true hij;have h4:=yF h31;refine val ?_ h4 (.d _ _ (.int _ _));simp only[execOp,ho,resolve,hcal,hx,Sem.run_bind,Sem.run_pure,Result.andThen_ok,invoke,builtin];have:(if n<m then n else m)=min m n:=by rw[Int.min_def];split<;>split<;>omega
   simp[Builtin.min_,Builtin.min2,hp.int_inv,hq.int_inv,Sem.run_pure];simpa using this
  ·exact h.elim
 ·exact h.elim
theorem z5s {c:Cx} (hT:∀f vs h rs h',c.trip f vs h rs h'→Trip c.P f vs h rs h') {o:Oper} {k:zQ→Prop} (h:z3G c o s k) (R:Rel X κ s a w) {next:Act→World→Prop} {Q:Exit→Act→World→Prop}
  (hn:∀p κ' a' w',k p→Rel X κ' (s.app p) a' w'→next a' w'):o.wp c.P a w next Q:=by
 have val:∀{v:Value} {sv:Sv},(execOp a.eval o).run c.P w=.ok (.value v) w→uH s o.dst sv k→RelS w (Mut X.M0 κ) κ s.env v sv→o.wp c.P a w next Q:=fun hr hk hv=>by
  obtain⟨p,h1,h2⟩:=jQ R hk hv;exact z0i hr (hn p κ _ _ h1 h2)
 have fresh:∀{v:Value} {d:Nat} {p:zQ} {w':World},(execOp a.eval o).run c.P w=.ok (.value v) w'→o.dst=some d→k p→(∃κ',Rel X κ' (s.app p) (a.put (some d) v) w')→o.wp c.P a w next Q:=fun hr hd hk ⟨κ',hR⟩=>
  z0i hr (by rw[hd];exact hn _ κ' _ _ hk hR)
 unfold z3G at h;split at h
 case _ x ho=>exact val (by simp[execOp,ho]) h (R.opv x)
 case _ x ho=>exact val (by simp[execOp,ho]) h (R.opv x)
 case _ x y z ho=>
  obtain⟨d,hd,h1⟩:=z2F h;have hx:=R.opv x;rw[hd]at hx;generalize hu:a.eval x=u at hx;cases hx with|d _ _ hx=>
  rcases h1 with⟨rfl,h1⟩|⟨rfl,h1⟩
  ·exact val (by simp[execOp,ho,hu,hx.bool_inv,asBool]) h1 (R.opv y)
  ·exact val (by simp[execOp,ho,hu,hx.bool_inv,asBool]) h1 (R.opv z)
 case _ t ho=>
  obtain⟨z,hz,h1⟩:=zD h;obtain⟨hall,h2⟩:=zG h1;have hall:=z8h hall;have hrun:(execOp a.eval o).run c.P w=.ok (.value (.pointer (some ⟨w.heap.size,0,none⟩))) (zH w ⟨z.cells.toList⟩ t):=by simp[execOp,ho,Sem.run_bind,z6R hz]
  have boxed:newAr s o.dst (.box (z.cells.toList.map vW)) (fun d g=>.ref d g 0) k→o.wp c.P a w next Q:=fun h=>by
   obtain⟨d,hd,hlt,h3⟩:=yH h;refine fresh hrun hd h3 (R.newBox hlt t (by simp) (fun i v c hv hc=>?_));simp[hv]at hc;subst hc;exact⟨hall v (List.mem_of_getElem? hv),jN v⟩
  split at h2
  ·exact h2.elim
  ·rename_i d hd
   rcases zT h2 with⟨-,h3⟩|⟨-,h3⟩
   ·obtain⟨d',hd',hlt,h4⟩:=z1E h3;obtain⟨hl,hc⟩:=z5v (P:=c.P) (w:=w) (M:=Mut X.M0 κ) (κ:=κ) (E:=s.env) t z hall;exact fresh hrun hd' h4 (R.newHp hlt t hl hc)
   ·split at h3
    ·rename_i m e hu
     obtain⟨n,hn',h4⟩:=zD h3;obtain⟨h1',h5⟩:=zG h4;obtain⟨ds,hds,h6⟩:=zD h5;obtain⟨d',hd',hlt,h7⟩:=yH h6;have hrel:=wR (w:=w) (M:=Mut X.M0 κ) hds;have hf:=z6O hrel;refine fresh hrun hd' h7 (R.newRowOb hlt t (by rw[hf];exact hrel) (fun x hx=>?_) _ _ (.inl ⟨rfl,rfl⟩));obtain⟨i,hi⟩:=List.getElem?_of_mem hx;obtain⟨v,-,g,-⟩:=hrel.get i x hi;cases x<;>first|rfl|simp[D.sc]at g
    ·split at h3
     ·rename_i ds hds
      obtain⟨d',hd',hlt,h4⟩:=yH h3;exact fresh hrun hd' h4 (R.newAgg hlt t (wR hds))
     ·exact boxed h3
    ·exact boxed h3
 case _ t v ho=>
  have hrun:(execOp a.eval o).run c.P w=.ok (.value (.pointer (some ⟨w.heap.size,0,none⟩))) (zH w ⟨(a.eval v).cells.toList⟩ t):=by simp[execOp,ho,Sem.run_bind,z8A]
  have hv:=R.opv v;split at h
  ·exact h.elim
  ·rename_i d hd
   rcases zT h with⟨-,h3⟩|⟨-,h3⟩
   ·rcases zT h3 with⟨-,h4⟩|⟨-,h4⟩
    ·obtain⟨n,hn',h5⟩:=zD h4;obtain⟨ws,h6,-,hc1,hc2⟩:=z4U h5 hv;obtain⟨d',hd',hlt,h7⟩:=z1E h6;exact fresh hrun hd' h7 (R.newHp hlt t hc1 hc2)
    ·obtain⟨y,h5,hy,hone,hno,hpl⟩:=jC h4 hv;obtain⟨d',hd',hlt,h6⟩:=z1E h5;have hc:=wP hone;refine fresh hrun hd' h6 (R.newHp hlt t (by rw[hc];rfl) (fun i u c hu hcc=>?_));rw[hc]at hu;cases i with
     |zero=>simp at hu hcc;subst hu;subst hcc;exact⟨hone,.inr ⟨hno,hpl,hy⟩⟩
     |succ i=>simp at hu
   ·rcases zT h3 with⟨-,h4⟩|⟨-,h4⟩
    ·obtain⟨n,hn',h5⟩:=zD h4;obtain⟨x,hx,h6⟩:=yA h5 hv;obtain⟨cs,rfl,-,h7⟩:=jP h6;obtain⟨d',hd',hlt,h8⟩:=yH h7;exact fresh hrun hd' h8 (R.newAgg hlt t hx.cells)
    ·obtain⟨y,h5,hy,hone,hno,hpl⟩:=jC h4 hv;obtain⟨d',hd',hlt,h6⟩:=yH h5;have hc:=wP hone;refine fresh hrun hd' h6 (R.newBox hlt t (by rw[hc];rfl) (fun i u c hu hcc=>?_));rw[hc]at hu;cases i with
     |zero=>simp at hu hcc;subst hu;subst hcc;exact⟨hone,hy⟩
     |succ i=>simp at hu
 case _ t ps ho=>
  split at h
  ·rename_i fs hfs
   obtain⟨hok,h1⟩:=zG h;obtain⟨z,hz,h2⟩:=zD h1;obtain⟨cs,hcs,h3⟩:=zD h2;obtain⟨vs,cs',g1,g2,g3,g4⟩:=z6o R hfs hok hz hcs h3;refine val (v:=.agg ⟨vs⟩) (by simp only[execOp,ho,Sem.run_bind,g1,Result.andThen_ok,Sem.run_pure]) g3 ?_;unfold z9k;split
   ·exact .d _ _ (.agg _ _ g2)
   ·refine .bld _ _ _ (.agg _ _ g2) fun i n hi=>?_;obtain⟨e1,e2⟩:=gX hi;obtain⟨u,e3,e4⟩:=g4 i e2 ⟨_,e1,.inl rfl⟩;exact⟨vs,u,rfl,e3,e4⟩
  ·exact h.elim
 case _ t len ps ho=>
  obtain⟨e,he,h1⟩:=zD h;obtain⟨n,hn',h2⟩:=zD h1;obtain⟨z,hz,h3⟩:=zD h2;obtain⟨hsz,h4⟩:=zG h3;obtain⟨hlen,h5⟩:=zG h4;simp only[Bool.and_eq_true]at hsz;have hpos:=z3b hsz.1;have hle:=z7s hsz.2;have hlen:=vX hlen;obtain⟨vs,xs,q1,q2,q3,q4,q5,q6,q7⟩:=z3M h5 (z3d R ps.toList);obtain⟨d,hd,hlt,h6⟩:=yH q7;obtain⟨ie,dd,i1,i2,-⟩:=zY hn';have hzi:=wM hz i1;have hxl:xs.length=len:=by rw[q6];simpa using hlen
  have hvl:vs.length=len:=by rw[q2];simpa using hlen
  have hrun:(execOp a.eval o).run c.P w=.ok (.value (.slice (some ⟨w.heap.size,0,none⟩) len len)) (zH w ⟨vs.flatMap fun v=>v.cells.toList⟩ e):=by
   have hp:(ps.map fun(i,x)=>(i,a.eval x)).toList=(vs.zipIdx 0).map fun x=>(x.2,x.1):=by rw[←q1];simp
   by_cases h0:len=0
   ·have hv0:vs=[]:=List.length_eq_zero_iff.1 (by omega);subst hv0;subst h0;have hp0:(ps.map fun(i,x)=>(i,a.eval x)).toList=[]:=by rw[hp];rfl
    simp only[execOp,ho,Sem.run_bind];have:(Instr.buildSlice t 0 (ps.map fun(i,x)=>(i,a.eval x))).run c.P w=.ok (.slice (some ⟨w.heap.size,0,none⟩) 0 0) (zH w ⟨[]⟩ e):=by
     simp only[Instr.buildSlice,Sem.run_bind,run_underlying (uG he),Result.andThen_ok,vC hn',hp0];simp[Instr.fill,newRow,Array.range_zero',zH]
    rw[this];rfl
   ·have hpos':¬len*ie.size=0:=by rw[i2];exact Nat.mul_ne_zero h0 (by omega)
    have hf:Instr.fill (fun i=>some (i*ie.size,ie.size)) ((Array.range (len*ie.size)).map (z.cells[· % z.cells.size]!)) (ps.map fun(i,x)=>(i,a.eval x)).toList=some (vs.flatMap fun v=>v.cells.toList).toArray:=by
     rw[hp,i2];exact Go.Great.fill_whole hpos vs _ q3 (by simp[hvl])
    have:=run_buildSlice w t e len (ps.map fun(i,x)=>(i,a.eval x)) _ ie z (uG he) i1 hzi (by rw[i2];omega) hpos' hf;simp only[execOp,ho,Sem.run_bind,this,Result.andThen_ok,Sem.run_pure];rfl
  refine fresh hrun hd h6 (R.newAr hlt ⟨vs.flatMap fun v=>v.cells.toList⟩ e (yC xs).length (.tok n len) _ _ (fun κ' M' E' hκ hM hE K T=>⟨trivial,?_⟩));have hrelv:RelV (zH w ⟨vs.flatMap fun v=>v.cells.toList⟩ e) M' (.slice (some ⟨w.heap.size,0,none⟩) len len) (.sl xs):=by
   have:=RelV.sl (w:=zH w ⟨vs.flatMap fun v=>v.cells.toList⟩ e) (M:=M') w.heap.size 0 len xs (RelC.mk 0 (fun i c hc=>?_)) (by omega)
   ·rwa [hxl]at this
   ·obtain⟨v,g1,g2,g3⟩:=q4.get i c hc;refine⟨v,by rw[Nat.zero_add,vI];simpa using g1,?_,g2,g3.keep K⟩;rw[hM,hκ];rintro(hm|⟨key,lo,hk,hlo⟩)
    ·exact R.notM0 (.inl R.kept.size) _ hm
    ·by_cases ek:key=.ar d
     ·subst ek;rw[yV]at hk;injection hk with hk;injection hk with _ hk;subst hk;have:=(List.getElem?_eq_some_iff.1 hc).1;omega
     ·rw[zI _ _ ek]at hk;have:=(R.kb _ _ _ hk).1;omega
  cases hc0:c.glob d && Nat.beq len 0 with
  |true=>
   have hl0:=vX (Bool.and_eq_true_iff.1 hc0).2;exact .nilS _ (.inr ⟨⟨w.heap.size,0,none⟩,by rw[hl0]⟩)
  |false=>
  refine .right _ _ _ _ _ hrelv (by rw[hE,z0p];exact Nat.le_refl _) (fun n' l hob=>?_);rw[hE,ob_iff]at hob;change zC ((d,s.gen d+1,some (.tok n len))::s.ar) d=_ at hob;rw[zA,zq1 rfl]at hob;injection hob with _ hob;injection hob with hob;injection hob with e1 e2;subst e1;subst e2;exact⟨rfl,by omega,fun _=>⟨q5,.inr (.inr ⟨w.heap.size,0,len,by rw[hxl],.inl hxl.symm⟩)⟩⟩
 case _ t x ho=>
  obtain⟨u',y,h1,h2,h3⟩:=z4X R h (R.opv x);exact val (by simp[execOp,ho,Sem.run_bind,h1]) h3 h2
 case _ t x y ho=>
  split at h
  ·rename_i hd
   obtain⟨p,κ',w',h1,h2,h3⟩:=z5A R h (R.opv x) (R.opv y);unfold Oper.wp;have:(execOp a.eval o).run c.P w=.ok .skip w':=by simp[execOp,ho,Sem.run_bind,h1]
   rw[this];have:=hn p κ' a w' h2 h3;simpa [Oper.upon,hd,Act.put]using this
  ·exact h.elim
 case _ x ho=>
  have hx:=R.opv x;split at h
  ·rename_i i f hs;rw[hs]at hx
   refine val ?_ h hx;generalize hu:a.eval x=u at hx;cases hx with
   |hp _ _ _ _=>simp[execOp,ho,hu]
  ·rename_i r g f hs;rw[hs]at hx
   obtain⟨hl,h1⟩:=zG h;obtain⟨ob,ho',ht⟩:=z3a hl;refine val ?_ h1 hx;generalize hu:a.eval x=u at hx;cases hx with
   |ref _ _ _ _ _ hx=>
    obtain⟨b,-,hb⟩:=hx ob ho' ht;simp[execOp,ho,hu,hb]
  ·rename_i y f hs;rw[hs]at hx
   refine val ?_ h hx;generalize hu:a.eval x=u at hx;cases hx with
   |iel b o _ _ _=>simp[execOp,ho,hu]
  ·rename_i f b c' hs;rw[hs]at hx
   refine val ?_ h hx;generalize hu:a.eval x=u at hx;cases hx with
   |fn _ vs ws _ _ _ _ _ _=>simp[execOp,ho,hu]
  ·exact h.elim
 case _ op t x y z ho=>
  have hx:=R.opv x;have hy:=R.opv y;cases op with
  |eql=>
   obtain⟨r,h1,-,h3⟩:=z4V (ox:=x) (oy:=y) h hx hy;exact val (by simp only[execOp,ho];rw[Sem.run_bind,h1];rfl) h3 (.d _ _ (.bool _))
  |neq=>
   obtain⟨r,-,h1,h3⟩:=z4V (ox:=x) (oy:=y) h hx hy;exact val (by simp only[execOp,ho];rw[Sem.run_bind,h1];rfl) h3 (.d _ _ (.bool _))
  |_=>
   obtain⟨d,hd,h1⟩:=yA h hx;obtain⟨e,he,h2⟩:=yA h1 hy;obtain⟨r,v,h3,h4,h5⟩:=z8q (t:=t) (ox:=x) (oy:=y) h2 hd he;exact val (by simp only[execOp,ho];rw[Sem.run_bind,h3];rfl) h5 (.d _ _ h4)
 case _ op t x ho=>
  obtain⟨d,hd,h1⟩:=yA h (R.opv x);cases op with
  |not=>
   cases d with
   |bool b=>exact val (by simp[execOp,ho,hd.bool_inv,Op.unary]) h1 (.d _ _ (.bool _))
   |_=>exact h1.elim
  |neg=>
   obtain⟨i,n,rfl,h20⟩:=wK h1;have h2:=yF h20;exact val (by simp[execOp,ho,hd.int_inv,Op.unary,Op.intArith]) h2 (.d _ _ (.int _ _))
  |_=>exact h1.elim
 case _ src dst x ho=>
  split at h
  ·rename_i i j hs hd
   obtain⟨y,hy,h1⟩:=yA h (R.opv x);obtain⟨i',n,rfl,h20⟩:=wK h1;have h2:=yF h20;exact val (by simp[execOp,ho,hy.int_inv,convert,run_underlying hs,run_underlying hd,Conv.intToInt]) h2 (.d _ _ (.int _ _))
  ·rename_i hs hd
   obtain⟨y,hy,h1⟩:=yA h (R.opv x);obtain⟨u,rfl,h2⟩:=uK h1;exact val (by simp[execOp,ho,hy.str_inv,convert,run_underlying hs,run_underlying hd]) h2 (.d _ _ (.str _))
  ·rename_i e hs hd
   split at h
   ·rename_i he
    obtain⟨y,hy,h1⟩:=yA h (R.opv x);obtain⟨xs,rfl,h2⟩:=z1u h1;obtain⟨bs,rfl,h5⟩:=h2;rcases hy.sl_inv with⟨hv|⟨a0,hv⟩,hnil⟩|⟨b,o',cap,hv,hc,hl⟩
    rotate_left
    ·have:bs=[]:=by simpa using hnil
     subst this;refine val ?_ h5 (.d _ _ (.str []));have hload:(loadCells a0 0).run c.P w=.ok ([]:List Value).toArray w:=run_loadCells_list (P:=c.P) w a0 [] (by simp);have:=run_bytesToString w a0 0 0 [] (by simpa using hload);simp only[execOp,ho,hv,Sem.run_bind,run_convert_bytes_string w src dst e _ _ _ hs he hd,this,Result.andThen_ok,Sem.run_pure];rfl
    rotate_left
    ·have:bs=[]:=by simpa using hnil
     subst this;exact val (by simp[execOp,ho,hv,run_convert_bytes_string w src dst e _ _ _ hs he hd,Conv.bytesToString];rfl) h5 (.d _ _ (.str []))
    ·rw[z2l]at hc;obtain⟨vs,g1,g2,g3,g4⟩:=hc.list;have hrv:RelVs w (Mut X.M0 κ) vs (bs.map z3w):=RelVs.mk g1 g4;have hvs:=z2w hrv;subst hvs;have hload:(loadCells ⟨b,o',none⟩ (bs.map z3w).length).run c.P w=.ok ((bs.map fun c=>Int.ofNat c.toNat).map (Value.int .u8)).toArray w:=by
      have:=run_loadCells_list (P:=c.P) w ⟨b,o',none⟩ ((bs.map fun c=>Int.ofNat c.toNat).map (Value.int .u8)) (fun j v hj=>by rw[Addr.add_mid];exact g2 j v hj)
      rwa [g1]at this
     refine val ?_ h5 (.d _ _ (.str _));have:=run_bytesToString w ⟨b,o',none⟩ (bs.map z3w).length cap (bs.map fun c=>Int.ofNat c.toNat) hload;simp only[execOp,ho,hv,Sem.run_bind,run_convert_bytes_string w src dst e _ _ _ hs he hd,this,Result.andThen_ok,Sem.run_pure];rw[z5u];congr 3;apply ByteArray.ext;simp[ByteArray.empty,ByteArray.emptyWithCapacity,Function.comp_def];rfl
   ·exact h.elim
  ·exact h.elim
 case _ f first cap ho=>
  split at h
  ·rename_i f
   obtain⟨ys,p1,q1,h1⟩:=gS h (z0c R first.toList);obtain⟨zs,p2,q2,h2⟩:=gS h1 (z0c R cap.toList);exact val (v:=.func (.func f) ⟨first.toList.map a.eval⟩ ⟨cap.toList.map a.eval⟩) (by simp[execOp,ho,Instr.makeFunc];exact⟨Array.ext' (by simp),Array.ext' (by simp)⟩) h2 (.fn f _ _ _ _ p1 p2 q1 q2)
  ·exact h.elim
 case _ t l m ho=>
  obtain⟨e,he,h1⟩:=zD h;obtain⟨n,hn',h2⟩:=zD h1;obtain⟨b,hb,h3⟩:=zD h2;obtain⟨z,hz,h4⟩:=zD h3;obtain⟨lx,hlx,h5⟩:=yA h4 (R.opv l);obtain⟨kl,l',rfl,h6⟩:=wK h5;obtain⟨mx,hmx,h7⟩:=yA h6 (R.opv m);obtain⟨km,m',rfl,⟨rfl,g0,g1,g2⟩,h8⟩:=wK h7;obtain⟨ie,dd,i1,i2,-⟩:=zY hn';have hzi:=wM hz i1;have hbi:=wU hb i1
  have hmake:∀ds:List D,ds.length=n→RelVs w (Mut X.M0 κ) z.cells.toList ds→(execOp a.eval o).run c.P w=.ok (.value (.slice (some ⟨w.heap.size,0,none⟩) l'.toNat l'.toNat)) (zH w ⟨(List.replicate l'.toNat z.cells.toList).flatten⟩ e):=fun ds hl hr=>by
   have:=run_make (P:=c.P) w t e ie z (uG he) i1 hzi kl km l' l' g0 (Int.le_refl _) (by rw[hbi,Int.mul_comm];omega) (by omega);have hcells:madeCells z.cells (l'.toNat*ie.size)=⟨(List.replicate l'.toNat z.cells.toList).flatten⟩:=by
    rw[i2];exact gH z.cells.toList n l'.toNat (by rw[hr.length,hl])
   simp only[execOp,ho,Sem.run_bind,hlx.int_inv,hmx.int_inv,this,Result.andThen_ok,Sem.run_pure,hcells];rfl
  rcases zT h8 with⟨-,h9⟩|⟨-,h9⟩
  ·obtain⟨ds,hds,h10⟩:=zD h9;obtain⟨hdl,h11⟩:=zG h10;have hdl:=vX hdl;obtain⟨d,hd,hlt,h12⟩:=yH (h11 _ rfl);have hr:=wR (w:=w) (M:=Mut X.M0 κ) hds;have hlen:(List.replicate l'.toNat (D.agg ds)).length=l'.toNat:=List.length_replicate;refine fresh (hmake ds hdl hr) hd h12 (R.newRowOb hlt e (by rw[gB];exact hr.flatten _) (fun x hx=>by rw[List.eq_of_mem_replicate hx];exact hdl) _ _ (.inr ⟨rfl,l'.toNat,by omega,by rw[hlen]⟩))
  ·obtain⟨x,hx,h10⟩:=zD h9;obtain⟨hn1,h11⟩:=zG h10;have hn1:=vX hn1;obtain⟨d,hd,hlt,h12⟩:=yH (h11 _ rfl);have hv:=z0n (w:=w) (M:=Mut X.M0 κ) hx;have hsc:=z3A hx;have hxc:x.cells=[x]:=by cases x<;>first|rfl|simp[D.sc]at hsc
   have hzc:z.cells.toList=[z]:=by rw[wP (hv.one hsc)]
   have hr:RelVs w (Mut X.M0 κ) z.cells.toList x.cells:=by rw[hzc,hxc];exact .cons _ _ _ _ hsc hv .nil
   have hlen:(List.replicate l'.toNat x).length=l'.toNat:=List.length_replicate;refine fresh (hmake x.cells (by rw[hxc,hn1];rfl) hr) hd h12 (R.newRowOb hlt e (by rw[gB];exact hr.flatten _) (fun y hy=>by rw[List.eq_of_mem_replicate hy,hxc,hn1];rfl) _ _ (.inr ⟨rfl,l'.toNat,by omega,by rw[hlen]⟩))
 case _ t x lo hi mx ho=>
  have some_:∀(q:Option Operand) (y:Sv),q.map (opv s)=some y→∃z,q.map a.eval=some z∧RelS w (Mut X.M0 κ) κ s.env z y:=fun q y hq=>by
   cases q with
   |none=>cases hq
   |some q=>simp at hq;subst hq;exact⟨_,rfl,R.opv q⟩
  have none_:∀(q:Option Operand),q.map (opv s)=none→q.map a.eval=none:=fun q hq=>by
   cases q with
   |none=>rfl
   |some q=>cases hq
  obtain⟨u',p,κ',h1,h2,h3⟩:=z6t R h (R.opv x) (some_ lo) (none_ lo) (some_ hi) (none_ hi) (some_ mx) (none_ mx);exact z0i (by simp[execOp,ho,Sem.run_bind,h1]) (hn p κ' _ _ h2 h3)
 case _ t x f ho=>
  obtain⟨u',y,h1,h2,h3⟩:=z2U h (R.opv x);exact val (by simp[execOp,ho,Sem.run_bind,h1]) h3 h2
 case _ t x f ho=>
  obtain⟨u',y,h1,h2,h3⟩:=z6r h (R.opv x);exact val (by simp[execOp,ho,Sem.run_bind,h1]) h3 h2
 case _ t x i ho=>
  obtain⟨u',y,h1,h2,h3⟩:=z2W R h (R.opv x) (R.opv i);exact val (by simp[execOp,ho,Sem.run_bind,h1]) h3 h2
 case _ t x i ho=>
  split at h
  ·rename_i ht
   obtain⟨u',y,h1,h2,h3⟩:=z6s ht h (R.opv x) (R.opv i);exact val (by simp[execOp,ho,Sem.run_bind,h1]) h3 h2
  ·exact h.elim
 case _ x i ho=>
  have hx:=R.opv x;split at h
  ·rename_i vs hs;rw[hs]at hx
   obtain⟨y,hy,h1⟩:=zD h;generalize hu:a.eval x=u at hx;cases hx with
   |tup us _ hus=>
    obtain⟨v,hv,hvy⟩:=hus.get i y hy;exact val (by simp[execOp,ho,hu,Instr.extract,hv]) h1 hvy
  ·exact h.elim
 case _ cl ho=>exact z7H hT h R ho hn
 case _=>exact h.elim
end
end Nt

