import Derived.Test.YtjlohgfmobpfmaaFwE
import Derived.Laws.StructEq
import Derived.Lib.Strings
namespace Nt
open Go
set_option linter.unusedVariables false
set_option linter.unusedSimpArgs false
section
variable {P:Program} {X:Ctx} {κ:Kap} {s:St} {a:Act} {w:World}
theorem zD{α:Type}{x:Option α}{k:α→Prop}(h:kOpt x k):∃y,x=some y∧k y:=by
 cases x with
 |none=>exact h.elim
 |some y=>exact⟨y,rfl,h⟩
theorem yF{α:Type}{e:α}{k:α→Prop}(h:nam e k):k e:=h e rfl
theorem z5X{sh:Sh}{k:D→Prop}(h:exS sh k):∃x,k x:=by
 cases sh<;>(obtain⟨x,h⟩:=h;exact⟨_,h⟩)
theorem z2M:∀{l:List Sh} {k:List D→Prop},exSs l k→∃xs,k xs
 |[],k,h=>⟨[],h⟩
 |sh::r,k,h=>by
  obtain⟨x,h⟩:=z5X h;obtain⟨xs,h⟩:=z2M (l:=r) h;exact⟨_,h⟩
theorem z4m{sh:Shp}{k:D→Prop}(h:exD sh k):∃x,k x:=by
 cases sh with
 |one sh=>exact z5X h
 |many l=>obtain⟨cs,h⟩:=z2M h;exact⟨_,h⟩
theorem zG{b:Bool}{k:Prop}(h:kIf b k):b=true∧k:=by
 cases b with
 |false=>exact h.elim
 |true=>exact⟨rfl,h⟩
theorem wK{x:D}{k:IntKind→Int→Prop}(h:kI x k):∃i n,x=.int i n∧k i n:=by
 cases x<;>first|exact h.elim|exact⟨_,_,rfl,h⟩
theorem z1u{x:D}{k:List D→Prop}(h:kSl x k):∃xs,x=.sl xs∧k xs:=by
 cases x<;>first|exact h.elim|exact⟨_,rfl,h⟩
theorem uK{x:D}{k:List UInt8→Prop}(h:kStr x k):∃xs,x=.str xs∧k xs:=by
 cases x<;>first|exact h.elim|exact⟨_,rfl,h⟩
theorem z8Q{x:D}{kt kf:Prop}(h:kB x kt kf):(x=.bool true∧kt)∨(x=.bool false∧kf):=by
 cases x with
 |bool b=>
  cases b with
  |false=>exact .inr ⟨rfl,h⟩
  |true=>exact .inl ⟨rfl,h⟩
 |_=>exact h.elim
theorem z2F{v:Sv}{kt kf:Prop}(h:brS v kt kf):∃x,v=.d x∧((x=.bool true∧kt)∨(x=.bool false∧kf)):=by
 cases v with
 |d x=>exact⟨x,rfl,z8Q h⟩
 |_=>exact h.elim
theorem vX{a b:Nat}(h:Nat.beq a b=true):a=b:=Nat.eq_of_beq_eq_true h
theorem z7s{a b:Nat}(h:Nat.ble a b=true):a≤b:=Nat.le_of_ble_eq_true h
theorem z3b{a b:Nat}(h:Nat.blt a b=true):a<b:=Nat.le_of_ble_eq_true h
theorem zT{b:Bool}{p q:Prop}(h:cond b p q):(b=true∧p)∨(b=false∧q):=by
 cases b with
 |false=>exact .inr ⟨rfl,h⟩
 |true=>exact .inl ⟨rfl,h⟩
theorem yA{M:Nat→Nat→Prop}{E:Env}{sv:Sv}{k:D→Prop}{v:Value}(h:kD sv k)(hv:RelS w M κ E v sv):∃x,RelV w M v x∧k x:=by
 cases sv with
 |d x=>cases hv with|d _ _ hv=>exact⟨x,hv,h⟩
 |nilS=>cases hv with|nilS _ he=>exact⟨.sl [],he.relV,h⟩
 |right r g n xs=>cases hv with|right _ _ _ _ _ hv _ _=>exact⟨.sl xs,hv,h⟩
 |lent id off ver n xs=>cases hv with|lent _ _ _ _ _ _ hv _ _=>exact⟨.sl xs,hv,h⟩
 |bld x l=>cases hv with|bld _ _ _ hv _=>exact⟨x,hv,h⟩
 |_=>exact h.elim
theorem RelV.int_inv{M:Nat→Nat→Prop}{v:Value}{i:IntKind}{n:Int}(h:RelV w M v (.int i n)):v=.int i n:=by cases h;rfl
theorem RelV.bool_inv{M:Nat→Nat→Prop}{v:Value}{b:Bool}(h:RelV w M v (.bool b)):v=.bool b:=by cases h;rfl
theorem RelV.str_inv{M:Nat→Nat→Prop}{v:Value}{u:List UInt8}(h:RelV w M v (.str u)):v=.string ⟨⟨u⟩⟩:=by cases h;rfl
theorem RelV.agg_inv{M:Nat→Nat→Prop}{v:Value}{cs:List D}(h:RelV w M v (.agg cs)):∃vs,v=.agg ⟨vs⟩∧RelVs w M vs cs:=by
 cases h with|agg vs _ h=>exact⟨vs,rfl,h⟩
theorem RelV.sl_inv{M:Nat→Nat→Prop}{v:Value}{xs:List D}(h:RelV w M v (.sl xs)):
  ((v=.slice none 0 0∨∃a,v=.slice (some a) 0 0)∧xs=[])∨∃b o cap,v=.slice (some ⟨b,o,none⟩) xs.length cap∧RelC w M b o (yC xs)∧xs.length≤cap:=by
 cases h with
 |nil=>exact .inl ⟨.inl rfl,rfl⟩
 |emp a=>exact .inl ⟨.inr ⟨a,rfl⟩,rfl⟩
 |sl b o cap _ h hl=>exact .inr ⟨b,o,cap,rfl,h,hl⟩
theorem RelVs.length{M:Nat→Nat→Prop}:∀{vs:List Value} {cs:List D},RelVs w M vs cs→vs.length=cs.length
 |_,_,.nil=>rfl
 |_,_,.cons v c vs cs _ _ h=>by simp[RelVs.length h]
theorem RelVs.get{M:Nat→Nat→Prop}:∀{vs:List Value} {cs:List D},RelVs w M vs cs→∀(i:Nat) (c:D),cs[i]?=some c→∃v,vs[i]?=some v∧c.sc=true∧RelV w M v c
 |_,_,.nil,i,c,h=>by simp at h
 |_,_,.cons v c vs cs hs h r,0,c',e=>by simp at e;subst e;exact⟨v,rfl,hs,h⟩
 |_,_,.cons v c vs cs hs h r,i+1,c',e=>by simpa using RelVs.get r i c' (by simpa using e)
theorem RelVs.mk{M:Nat→Nat→Prop}:∀{vs:List Value} {cs:List D},vs.length=cs.length→(∀(i:Nat) v c,vs[i]?=some v→cs[i]?=some c→c.sc=true∧RelV w M v c)→RelVs w M vs cs
 |[],[],_,_=>.nil
 |v::vs,c::cs,hl,h=>.cons v c vs cs (h 0 v c rfl rfl).1 (h 0 v c rfl rfl).2 (RelVs.mk (by simpa using hl) (fun i v c e e'=>h (i+1) v c (by simpa using e) (by simpa using e')))
theorem RelVs.drop{M:Nat→Nat→Prop}:∀{vs:List Value} {cs:List D},RelVs w M vs cs→∀n,RelVs w M (vs.drop n) (cs.drop n)
 |_,_,h,0=>by simpa using h
 |_,_,.nil,n+1=>by simpa using RelVs.nil
 |_,_,.cons v c vs cs hs h r,n+1=>by simpa using RelVs.drop r n
theorem RelVs.take{M:Nat→Nat→Prop}:∀{vs:List Value} {cs:List D},RelVs w M vs cs→∀n,RelVs w M (vs.take n) (cs.take n)
 |_,_,h,0=>by simpa using RelVs.nil
 |_,_,.nil,n+1=>by simpa using RelVs.nil
 |_,_,.cons v c vs cs hs h r,n+1=>by simpa using RelVs.cons v c _ _ hs h (RelVs.take r n)
theorem z0n{M:Nat→Nat→Prop}{v:Value}{x:D}(h:z1k v=some x):RelV w M v x:=by
 unfold z1k at h;split at h
 ·injection h with h;subst h;exact .bool _
 ·injection h with h;subst h;exact .int _ _
 ·injection h with h;subst h
  rename_i s
  have:s=⟨⟨s.data.toList⟩⟩:=by cases s;simp
  rw[this];exact .str _
 ·injection h with h;subst h;exact .nil
 ·cases h
theorem z3A{v:Value}{x:D}(h:z1k v=some x):x.sc=true:=by
 unfold z1k at h;split at h<;>first|(injection h with h;subst h;rfl)|cases h
theorem wR{M:Nat→Nat→Prop}:∀{vs:List Value} {xs:List D},wQ vs=some xs→RelVs w M vs xs
 |[],xs,h=>by simp[wQ]at h;subst h;exact .nil
 |v::vs,xs,h=>by
  unfold wQ at h;split at h
  ·rename_i x ys h1 h2
   injection h with h;subst h;exact .cons v x vs ys (z3A h1) (z0n h1) (wR h2)
  ·cases h
theorem jN{M:Nat→Nat→Prop}{E:Env}(v:Value):RelS w M κ E v (vW v):=by
 unfold vW;split
 ·exact .nilS _ (.inl rfl)
 ·exact .nilF
 ·split
  ·rename_i x h;exact .d _ _ (z0n h)
  ·exact .undef _
theorem Rel.opv(R:Rel X κ s a w)(x:Operand):RelS w (Mut X.M0 κ) κ s.env (a.eval x) (opv s x):=by
 cases x with
 |tmp t=>exact R.slots t
 |const v=>exact jN v
 |global g=>exact .undef _
 |func f=>exact .fn f [] [] [] [] rfl rfl .nil .nil
theorem z0i{o:Oper}{next:Act→World→Prop}{Q:Exit→Act→World→Prop}{v:Value}{w':World}(h:(execOp a.eval o).run P w=.ok (.value v) w')(hn:next (a.put o.dst v) w'):o.wp P a w next Q:=by
 unfold Oper.wp;rw[h];exact hn
theorem jQ(R:Rel X κ s a w){dst:Option Nat}{sv:Sv}{k:zQ→Prop}(hk:uH s dst sv k){v:Value}(hv:RelS w (Mut X.M0 κ) κ s.env v sv):
  ∃p,k p∧Rel X κ (s.app p) (a.put dst v) w:=by
 cases dst with
 |none=>exact⟨_,hk,R.idle⟩
 |some d=>obtain⟨h1,h2⟩:=zG hk;exact⟨_,h2,R.put (z3b h1) hv⟩
theorem jJ(op:BinOp)(t:TypeId)(x y:Operand){u v:Value}(h:∀cs,u≠.agg cs)(h':u≠.nilIface):(eqGuard op t x y u v).run P w=.ok () w:=by
 unfold eqGuard;cases u<;>first|(exact absurd rfl (h _))|(exact absurd rfl h')|(cases op<;>simp[go_sem])
theorem wE(u:List UInt8):(ByteArray.mk ⟨u⟩).toList=u:=ByteArray.toList_eq _
theorem z7z{t:TypeId}(h:vY P t=0):P.underlying t=some .bool:=by
 unfold vY at h;split at h<;>simp_all
theorem z7A{t:TypeId}(h:vY P t=1):∃i,P.underlying t=some (.int i):=by
 unfold vY at h;split at h<;>simp_all
theorem z7B{t:TypeId}(h:vY P t=2):P.underlying t=some .string:=by
 unfold vY at h;split at h<;>simp_all
theorem z8c{M:Nat→Nat→Prop}{t:TypeId}{u v:Value}{x y:D}{k:Bool→Prop}(hk:kEq (vY P t) x y k)(hx:RelV w M u x)(hy:RelV w M v y):
  ∃r,(∀d w',(Op.equalIn (d+1) t u v).run P w'=.ok r w')∧(Go.binOp .eql t u v).run P w=.ok (.bool r) w∧(Go.binOp .neq t u v).run P w=.ok (.bool (!r)) w∧k r∧(∀cs,u≠.agg cs)∧u≠.nilIface:=by
 unfold kEq at hk;split at hk
 ·rename_i a b e
  have hu:=z7z e;obtain rfl:=hx.bool_inv;obtain rfl:=hy.bool_inv;have h1:∀d w',(Op.equalIn (d+1) t (.bool a) (.bool b)).run P w'=.ok (a == b) w':=fun d w'=>run_equalIn_bool w' d t a b hu;refine⟨a == b,h1,?_,?_,yF hk,by simp,by simp⟩<;>simp[Go.binOp,Sem.run_bind,Op.equal,h1 9999,show Op.maxDepth=9999+1 from rfl]
 ·rename_i i m j n e
  obtain⟨hij,hk1⟩:=zG hk;obtain rfl:=of_decide_eq_true hij;obtain⟨q,hu⟩:=z7A e;obtain rfl:=hx.int_inv;obtain rfl:=hy.int_inv;exact⟨m == n,fun d w'=>run_equalIn_int w' d t i q m n hu,by simp[Go.binOp,Op.intCmp],by simp[Go.binOp,Op.intCmp,bne],yF hk1,by simp,by simp⟩
 ·rename_i m n e
  have hu:=z7B e;obtain rfl:=hx.str_inv;obtain rfl:=hy.str_inv;exact⟨m == n,fun d w'=>by rw[run_equalIn_string w' d t _ _ hu,wE,wE],by simp[Go.binOp,Op.stringOp,wE],by simp[Go.binOp,Op.stringOp,wE],yF hk,by simp,by simp⟩
 ·exact hk.elim
theorem z7f{t:TypeId}(h:vY P t<3):uD P t=false:=by
 unfold vY at h;unfold uD;split at h<;>simp_all
theorem z0d{t:TypeId}{d:TypeDesc}(h:P.underlying t=some d):(isAgg t).run P w=.ok (uD P t) w:=by
 unfold isAgg uD;rw[Sem.run_bind,run_underlying h];cases d<;>simp[h]
theorem z5C{t:TypeId}(h:vY P t<3):∃d,P.underlying t=some d:=by
 unfold vY at h;split at h<;>first|exact⟨_,‹_›⟩|omega
theorem z5f{t:TypeId}{xs:Array Value}{i:Nat}{v:Value}(h:vY P t<3)(hv:xs[i]?=some v):(part t xs i).run P w=.ok v w:=by
 obtain⟨d,hd⟩:=z5C h;unfold part;rw[Sem.run_bind,z0d hd,z7f h];simp[hv]
theorem z1o{M:Nat→Nat→Prop}(vs us:List Value):∀(fs:List Field) (i:Nat) (ks:List Nat) (cs ds:List D) (k:Bool→Prop),
  z1p P i fs=some ks→RelVs w M (vs.drop i) cs→RelVs w M (us.drop i) ds→eqCells ks cs ds k→∃r,(Op.eqFields 9999 ⟨vs⟩ ⟨us⟩ fs).run P w=.ok r w∧k r
 |[],i,ks,cs,ds,k,he,hc,hd,hk=>by
  simp[z1p]at he;subst he;unfold eqCells at hk;split at hk
  ·exact⟨true,by simp[Op.eqFields],hk⟩
  ·rename_i h;cases h
  ·exact hk.elim
 |f::fs,i,ks,cs,ds,k,he,hc,hd,hk=>by
  unfold z1p at he;rcases hb : (Nat.beq f.offset i && (f.name != "_") && Nat.blt (vY P f.type) 3) with _ | _
  ·simp[hb]at he
  ·simp only[hb,cond_true]at he;simp only[Bool.and_eq_true]at hb;obtain⟨⟨h1,h2⟩,h3⟩:=hb;have h1:=vX h1;have h3:=z3b h3;split at he
   ·rename_i l hl
    injection he with he;subst he;cases cs with
    |nil=>exact hk.elim
    |cons x cs' =>
    cases ds with
    |nil=>exact hk.elim
    |cons y ds' =>
     change kEq (vY P f.type) x y _ at hk;obtain⟨v,g1,-,g2⟩:=hc.get 0 x rfl;obtain⟨u,g3,-,g4⟩:=hd.get 0 y rfl;obtain⟨r,q1,-,-,q2,-,-⟩:=z8c hk g2 g4;have hc':RelVs w M (vs.drop (i+1)) cs':=by have:=hc.drop 1;simpa [List.drop_drop,Nat.add_comm]using this
     have hd':RelVs w M (us.drop (i+1)) ds':=by have:=hd.drop 1;simpa [List.drop_drop,Nat.add_comm]using this
     have hp1:(part f.type (⟨vs⟩:Array Value) f.offset).run P w=.ok v w:=z5f h3 (by rw[h1];simpa using g1);have hp2:(part f.type (⟨us⟩:Array Value) f.offset).run P w=.ok u w:=z5f h3 (by rw[h1];simpa using g3);obtain⟨r2,q3,q4⟩:=z1o vs us fs (i+1) l cs' ds' _ hl hc' hd' q2;cases r with
     |false=>
      refine⟨false,?_,by simpa using q4⟩;simp only[Op.eqFields];rw[zq1 (by simpa using h2)];simp[Sem.run_bind,hp1,hp2,q1 9998]
     |true=>
      refine⟨r2,?_,by simpa using q4⟩;simp only[Op.eqFields];rw[zq1 (by simpa using h2)];simp[Sem.run_bind,hp1,hp2,q1 9998,q3]
   ·cases he
theorem z6q{M:Nat→Nat→Prop}{E:Env}{t:TypeId}{ox oy:Operand}{u v:Value}{x y:Sv}{k:Bool→Prop}(hk:kEqOpD P t x y k)(hx:RelS w M κ E u x)(hy:RelS w M κ E v y):
  ∃r,((do eqGuard .eql t ox oy u v;Go.binOp .eql t u v):Sem Value).run P w=.ok (.bool r) w∧((do eqGuard .neq t ox oy u v;Go.binOp .neq t u v):Sem Value).run P w=.ok (.bool (!r)) w∧k r:=by
 unfold kEqOpD at hk;obtain⟨x,hx,hk⟩:=yA hk hx;obtain⟨y,hy,hk⟩:=yA hk hy;rcases zT hk with⟨h3,hk⟩|⟨-,hk⟩
 ·have h3:=vX h3;split at hk
  ·rename_i fs hfs
   obtain⟨hg,hk⟩:=zG hk;simp only[Bool.and_eq_true,Bool.not_eq_true']at hg;obtain⟨ks,hks,hk⟩:=zD hk;cases x with
   |agg cs=>
    cases y with
    |agg ds=>
     obtain⟨vs,rfl,hvs⟩:=hx.agg_inv;obtain⟨us,rfl,hus⟩:=hy.agg_inv;have hf:P.fieldsOf t=fs:=by simp[Program.fieldsOf,hfs]
     obtain⟨r,h1,h2⟩:=z1o vs us fs.toList 0 ks cs ds k hks (by simpa using hvs) (by simpa using hus) hk;have he:(Op.equalIn 10000 t (.agg ⟨vs⟩) (.agg ⟨us⟩)).run P w=.ok r w:=by
      rw[run_equalIn_struct w 9999 t _ _ (by rw[hf];exact hfs) hg.1,hf];exact h1
     refine⟨r,?_,?_,h2⟩
     ·simp only[Sem.run_bind,run_eqGuard_agg w .eql t ox oy _ _ hg.2,Result.andThen_ok,run_eql_struct,he]
     ·simp only[Sem.run_bind,run_eqGuard_agg w .neq t ox oy _ _ hg.2,Result.andThen_ok,run_neq_struct,he]
    |_=>exact hk.elim
   |_=>exact hk.elim
  ·exact hk.elim
 ·obtain⟨r,-,h1,h2,h3,h4,h5⟩:=z8c hk hx hy;exact⟨r,by simp only[Sem.run_bind,jJ .eql t ox oy h4 h5,Result.andThen_ok,h1],by simp only[Sem.run_bind,jJ .neq t ox oy h4 h5,Result.andThen_ok,h2],h3⟩
theorem z4T{t:TypeId}(h:z8W P t=true):∃a b c,P.underlying t=some (.func a b c):=by
 unfold z8W at h;split at h
 ·rename_i a b c hu;exact⟨a,b,c,hu⟩
 ·cases h
theorem z5r(d:Nat){t:TypeId}{a b:Array TypeId}{c:Bool}{g:Fn}{vs ws:Array Value}(hu:P.underlying t=some (.func a b c)):(Op.equalIn (d+1) t (.func g vs ws) .nilFunc).run P w=.ok false w:=by
 simp[Op.equalIn,run_underlying hu]
theorem z2K(d:Nat){t:TypeId}{a b:Array TypeId}{c:Bool}(hu:P.underlying t=some (.func a b c)):(Op.equalIn (d+1) t .nilFunc .nilFunc).run P w=.ok true w:=by
 simp[Op.equalIn,run_underlying hu]
theorem z6c {t:TypeId} {ox oy:Operand} {u v:Value} {r:Bool} (h1:∀cs,u≠.agg cs) (h2:u≠.nilIface) (e:(Op.equalIn (9999+1) t u v).run P w=.ok r w)
  (f1:Go.binOp .eql t u v=(do let b ←Op.equal t u v;return .bool b)) (f2:Go.binOp .neq t u v=(do let b ←Op.equal t u v;return .bool (!b))):
  ((do eqGuard .eql t ox oy u v;Go.binOp .eql t u v):Sem Value).run P w=.ok (.bool r) w∧((do eqGuard .neq t ox oy u v;Go.binOp .neq t u v):Sem Value).run P w=.ok (.bool (!r)) w:=by
 refine⟨?_,?_⟩
 ·rw[f1];simp only[Sem.run_bind,jJ .eql t ox oy h1 h2,Result.andThen_ok,Op.equal,show Op.maxDepth=9999+1 from rfl,e];rfl
 ·rw[f2];simp only[Sem.run_bind,jJ .neq t ox oy h1 h2,Result.andThen_ok,Op.equal,show Op.maxDepth=9999+1 from rfl,e];rfl
theorem z4V{M:Nat→Nat→Prop}{E:Env}{t:TypeId}{ox oy:Operand}{u v:Value}{x y:Sv}{k:Bool→Prop}(hk:kEqOp P t x y k)(hx:RelS w M κ E u x)(hy:RelS w M κ E v y):
  ∃r,((do eqGuard .eql t ox oy u v;Go.binOp .eql t u v):Sem Value).run P w=.ok (.bool r) w∧((do eqGuard .neq t ox oy u v;Go.binOp .neq t u v):Sem Value).run P w=.ok (.bool (!r)) w∧k r:=by
 unfold kEqOp at hk;split at hk
 ·split at hk
  ·obtain⟨h1,hk⟩:=zG hk;obtain⟨a,b,c,hu⟩:=z4T h1;cases hy;cases hx with
   |fn f vs ws _ _ _ _ _ _=>
    obtain⟨g1,g2⟩:=z6c (P:=P) (w:=w) (t:=t) (ox:=ox) (oy:=oy) (u:=.func (.func _) ⟨vs⟩ ⟨ws⟩) (v:=.nilFunc) (r:=false) (by simp) (by simp) (z5r 9999 hu) rfl rfl;exact⟨false,g1,g2,hk⟩
  ·obtain⟨h1,hk⟩:=zG hk;obtain⟨a,b,c,hu⟩:=z4T h1;cases hy;cases hx;obtain⟨g1,g2⟩:=z6c (P:=P) (w:=w) (t:=t) (ox:=ox) (oy:=oy) (u:=.nilFunc) (v:=.nilFunc) (r:=true) (by simp) (by simp) (z2K 9999 hu) rfl rfl;exact⟨true,g1,g2,hk⟩
  ·exact hk.elim
 ·exact z6q hk hx hy
theorem z8q{M:Nat→Nat→Prop}{op:BinOp}{t:TypeId}{ox oy:Operand}{u v:Value}{x y:D}{k:D→Prop}(hk:kBin op x y k)(hx:RelV w M u x)(hy:RelV w M v y):
  ∃r val,((do eqGuard op t ox oy u v;Go.binOp op t u v):Sem Value).run P w=.ok val w∧RelV w M val r∧k r:=by
 suffices h:(∀cs,u≠.agg cs)∧u≠.nilIface∧∃r val,(Go.binOp op t u v).run P w=.ok val w∧RelV w M val r∧k r by
  obtain⟨h1,h2,r,val,h3,h4,h5⟩:=h;exact⟨r,val,by simp only[Sem.run_bind,jJ op t ox oy h1 h2,Result.andThen_ok,h3],h4,h5⟩
 cases op with
 |eql|neq=>exact hk.elim
 |shl|shr=>
  obtain⟨i,m,rfl,hk⟩:=wK hk;obtain⟨j,n,rfl,h0,hk1⟩:=wK hk;have hk2:=yF hk1;obtain rfl:=hx.int_inv;obtain rfl:=hy.int_inv;exact⟨by simp,by simp,_,_,by simp[Go.binOp,Op.shift,Int.not_lt.2 h0],.int _ _,hk2⟩
 |add|sub|mul|lss|leq|gtr|geq=>
  cases x with
  |int i m=>
   obtain⟨j,n,rfl,hk1⟩:=wK hk;obtain⟨hij,hk2⟩:=zG hk1;obtain rfl:=of_decide_eq_true hij;have hk':=yF hk2;obtain rfl:=hx.int_inv;obtain rfl:=hy.int_inv
   first
    |exact⟨by simp,by simp,_,_,by simp[Go.binOp,Op.intArith,Op.intCmp];try rfl,.int _ _,hk'⟩
    |exact⟨by simp,by simp,_,_,by simp[Go.binOp,Op.intArith,Op.intCmp];try rfl,.bool _,hk'⟩
  |str m=>
   obtain⟨n,rfl,hk0⟩:=uK hk;obtain rfl:=hx.str_inv;obtain rfl:=hy.str_inv
   first
    |exact hk0.elim
    |(have hk':=yF hk0;exact⟨by simp,by simp,_,_,by simp[Go.binOp,Op.stringOp,wE];try rfl,.bool _,hk'⟩)
    |(obtain⟨h0,hk1⟩:=hk0
      have hk':=yF hk1;exact⟨by simp,by simp,_,.string ⟨⟨m++n⟩⟩,by
       have h1:¬(9223372036854775807<((m.length:Int)+n.length)):=by omega
       have h2:(ByteArray.mk ⟨m⟩)++(ByteArray.mk ⟨n⟩)=ByteArray.mk ⟨m++n⟩:=by
        apply ByteArray.ext;simp
       have h3:(ByteArray.mk ⟨m⟩).size=m.length:=rfl;have h4:(ByteArray.mk ⟨n⟩).size=n.length:=rfl;simp[Go.binOp,Op.stringOp,h1,h2,h3,h4,IntKind.max,IntKind.signed,IntKind.bits],.str _,hk'⟩)
  |_=>exact hk.elim
 |quo|rem=>
  cases x with
  |int i m=>
   obtain⟨j,n,rfl,hk1⟩:=wK hk;obtain⟨hij,h0,hk2⟩:=zG hk1;obtain rfl:=of_decide_eq_true hij;have hk':=yF hk2;obtain rfl:=hx.int_inv;obtain rfl:=hy.int_inv;exact⟨by simp,by simp,_,_,by simp[Go.binOp,Op.intDiv,h0];try rfl,.int _ _,hk'⟩
  |str m=>obtain⟨n,rfl,hk'⟩:=uK hk;exact hk'.elim
  |_=>exact hk.elim
 |and|or|xor|andNot=>
  cases x with
  |int i m=>obtain⟨j,n,rfl,hk1⟩:=wK hk;obtain⟨-,hk'⟩:=zG hk1;exact hk'.elim
  |str m=>obtain⟨n,rfl,hk'⟩:=uK hk;exact hk'.elim
  |_=>exact hk.elim
end
end Nt

