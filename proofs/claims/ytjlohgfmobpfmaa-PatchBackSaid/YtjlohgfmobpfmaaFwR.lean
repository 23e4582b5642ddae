import Derived.Test.YtjlohgfmobpfmaaFwQ
namespace Nt
open Go
set_option linter.unusedVariables false
set_option linter.unusedSimpArgs false
section
variable {P:Program} {X:Ctx} {κ:Kap} {s:St} {a:Act} {w:World}
theorem z7F{M:Nat→Nat→Prop}{E:Env}{u:Value}{v:Sv}{k:Sv→Prop}(h:kArg v k)(hv:RelS w M κ E u v):∃y,y.plain=true∧RelS w M κ E u y∧k y:=by
 cases v with
 |d x=>exact⟨_,rfl,hv,h⟩
 |nilS=>cases hv with|nilS _ he=>exact⟨_,rfl,.d _ _ he.relV,h⟩
 |right r g n xs=>cases hv with|right _ _ _ _ _ hx _ _=>exact⟨_,rfl,.d _ _ hx,h⟩
 |lent id off ver n xs=>cases hv with|lent _ _ _ _ _ _ hx _ _=>exact⟨_,rfl,.d _ _ hx,h⟩
 |hp i o=>exact⟨_,rfl,hv,h⟩
 |fn f x y=>
  refine⟨_,?_,hv,h⟩;cases hv with|fn _ _ _ _ _ p1 p2 _ _=>simp[Sv.plain,p1,p2]
 |bld x l=>cases hv with|bld _ _ _ hx _=>exact⟨_,rfl,.d _ _ hx,h⟩
 |_=>exact h.elim
theorem gS{M:Nat→Nat→Prop}{E:Env}:∀{svs:List Sv} {us:List Value} {k:List Sv→Prop},kArgs svs k→RelSs w M κ E us svs→∃ys,vU ys=true∧RelSs w M κ E us ys∧k ys
 |[],_,k,h,.nil=>⟨[],rfl,.nil,h⟩
 |v::svs,_,k,h,.cons u _ us _ hv hvs=>by
  obtain⟨y,p1,h1,h2⟩:=z7F h hv;obtain⟨ys,p2,h3,h4⟩:=gS h2 hvs;exact⟨y::ys,by simp[vU,p1,p2],.cons _ _ _ _ h1 h3,h4⟩
theorem z0W{w':World}{M M':Nat→Nat→Prop}{κ':Kap}{E E':Env}(K:Keeps w M w' M'):∀{us:List Value} {xs:List Sv},z8g xs=true→RelSs w M κ E us xs→RelSs w' M' κ' E' us xs
 |_,_,_,.nil=>.nil
 |u::us,x::xs,h,.cons _ _ _ _ h1 h2=>by
  cases x with
  |d x=>cases h1 with|d _ _ h1=>exact .cons _ _ _ _ (.d _ _ (h1.keep K)) (z0W K h h2)
  |fn f p q=>
   cases p with
   |nil=>cases q with
    |nil=>cases h1 with|fn _ us' ws' _ _ p1 p2 g1 g2=>cases g1;cases g2;exact .cons _ _ _ _ (.fn _ _ _ _ _ rfl rfl .nil .nil) (z0W K h h2)
    |cons _ _=>simp[z8g]at h
   |cons _ _=>simp[z8g]at h
  |_=>simp[z8g]at h
theorem z5t{x:D}{k:D→Prop}(h:exLike x k):∃y,k y:=by
 cases x<;>(obtain⟨y,h⟩:=h;exact⟨_,h⟩)
theorem z4P:∀{gs:List Nat} {k:Nat→Prop},exFn gs k→∃g,k g
 |[],_,h=>h.elim
 |g::r,_,h=>h.elim (fun h=>⟨g,h⟩) fun h=>z4P (gs:=r) h
theorem uZ:∀{ks:List RK} {k:List Sv→Prop},exR ks k→∃rs,k rs
 |[],k,h=>⟨[],h⟩
 |.d _::ks,k,h=>by obtain⟨x,h⟩:=z4m h;obtain⟨rs,h⟩:=uZ h;exact⟨_,h⟩
 |.own n::ks,k,h=>by obtain⟨x,h⟩:=h;obtain⟨rs,h⟩:=uZ h;exact⟨_,h⟩
 |.hp::ks,k,h=>by obtain⟨i,o,h⟩:=h;obtain⟨rs,h⟩:=uZ h;exact⟨_,h⟩
 |.fns gs::ks,k,h=>by obtain⟨g,h⟩:=z4P h;obtain⟨rs,h⟩:=uZ h;exact⟨_,h⟩
 |.wr n::ks,k,h=>by obtain⟨x,h⟩:=h;obtain⟨rs,h⟩:=uZ h;exact⟨_,h⟩
 |.cw sh i n::ks,k,h=>by
  obtain⟨x,h⟩:=z2M h;unfold kCw at h;split at h
  ·obtain⟨rs,h⟩:=uZ h;exact⟨_,h⟩
  ·exact h.elim
theorem z2L:∀{cs:List Sv} {k:List Sv→Prop},exC cs k→∃ds,k ds
 |[],k,h=>⟨[],h⟩
 |c::cs,k,h=>by
  cases c with
  |d _=>obtain⟨x,h⟩:=z5t h;obtain⟨rs,h⟩:=z2L h;exact⟨_,h⟩
  |own n _=>obtain⟨x,h⟩:=h;obtain⟨rs,h⟩:=z2L h;exact⟨_,h⟩
  |_=>obtain⟨rs,h⟩:=z2L (cs:=cs) h;exact⟨_,h⟩
theorem z5W:∀{h:H} {k:H→Prop},exH h k→∃h',k h'
 |[],k,h=>⟨[],h⟩
 |cs::r,k,h=>by obtain⟨ds,h1⟩:=z2L (cs:=cs) h;obtain⟨l,h2⟩:=z5W (h:=r) h1;exact⟨_,h2⟩
def z8V(rs:List Sv)(d g n:Nat)(xs:List D)(sv:Sv):Prop:=
 (rs=[.wr n xs]∧sv=.row d g)∨∃cs,rs=[.cells cs]∧z9j cs=some (n,xs)∧sv=.cells (z6P d g cs)
theorem z2u{dst:Option Nat}{rs:List Sv}{h:Option H}{k:zQ→Prop}(hk:wZ s dst rs h k):
  (∃n xs r d,rs=.own n xs::r∧dst=some d∧d<s.n∧k ⟨[(d,z6D d (s.gen d+1) n xs r)],[(d,s.gen d+1,some (.tok n xs.length))],h⟩) ∨
  (∃n xs sv d,z8V rs d (s.gen d+1) n xs sv∧dst=some d∧d<s.n∧k ⟨[(d,sv)],[(d,s.gen d+1,some (.row n xs))],h⟩) ∨
  ((∀n xs r,rs≠.own n xs::r)∧((∀n xs,rs≠[.wr n xs])∧∀cs,rs≠[.cells cs])∧∃y,((∃v,rs=[v]∧y=v)∨((∀v,rs≠[v])∧y=.tup (rs.map z1F)))∧((dst=none∧k ⟨[],[],h⟩)∨∃d,dst=some d∧d<s.n∧k ⟨[(d,y)],[],h⟩)):=by
 have fin:∀y,(uH s dst y fun p=>k ⟨p.puts,p.ars,h⟩)→((dst=none∧k ⟨[],[],h⟩)∨∃d,dst=some d∧d<s.n∧k ⟨[(d,y)],[],h⟩):=fun y hk=>by
  cases dst with
  |none=>exact .inl ⟨rfl,hk⟩
  |some d=>obtain⟨h1,h2⟩:=zG hk;exact .inr ⟨d,rfl,z3b h1,h2⟩
 unfold wZ at hk;split at hk
 ·rename_i n xs r
  obtain⟨d,h1,h2,h3⟩:=yH hk;exact .inl ⟨n,xs,r,d,rfl,h1,h2,h3⟩
 ·rename_i n xs
  obtain⟨d,h1,h2,h3⟩:=yH hk;exact .inr (.inl ⟨n,xs,_,d,.inl ⟨rfl,rfl⟩,h1,h2,h3⟩)
 ·rename_i cs
  obtain⟨⟨n,xs⟩,hq,hk⟩:=zD hk;obtain⟨d,h1,h2,h3⟩:=yH hk;exact .inr (.inl ⟨n,xs,_,d,.inr ⟨cs,rfl,hq,rfl⟩,h1,h2,h3⟩)
 ·rename_i v hv hw hc
  exact .inr (.inr ⟨fun n xs r e=>by injection e with e _;exact hv n xs e,⟨fun n xs e=>by injection e with e _;exact hw n xs e,fun cs e=>by injection e with e _;exact hc cs e⟩,v,.inl ⟨v,rfl,rfl⟩,fin _ hk⟩)
 ·rename_i hv1 hw hc hv2
  exact .inr (.inr ⟨fun n xs r e=>hv1 n xs r e,⟨fun n xs e=>hw n xs e,fun cs e=>hc cs e⟩,_,.inr ⟨fun v e=>hv2 v e,rfl⟩,fin _ hk⟩)
theorem RelR.relS{w':World}{M M':Nat→Nat→Prop}{κ':Kap}{E':Env}(K:Keeps w M w' M')(hp:∀id b,κ (.hp id)=some (b,0)→κ' (.hp id)=some (b,0)){v:Value}{x:Sv}(h:RelR w M κ v x)(hx:∀n xs,x≠.own n xs)(hw:(∀n xs,x≠.wr n xs)∧∀cs,x≠.cells cs):
  RelS w' M' κ' E' v x:=by
 cases x with
 |own n xs=>exact absurd rfl (hx n xs)
 |wr n xs=>exact absurd rfl (hw.1 n xs)
 |cells cs=>exact absurd rfl (hw.2 cs)
 |_=>exact RelS.conv K hp h.1 h.2
theorem RelR2.relS{w':World}{M M':Nat→Nat→Prop}{κ':Kap}{E':Env}(K:Keeps w M w' M')(hp:∀id b,κ (.hp id)=some (b,0)→κ' (.hp id)=some (b,0)){v:Value}{x:Sv}(h:RelR2 w M κ v x):RelS w' M' κ' E' v (z1F x):=by
 cases x with
 |own n xs=>exact .d _ _ (RelV.keep K h)
 |_=>exact RelS.conv K hp h.1 h.2
theorem z0P{M:Nat→Nat→Prop}{E:Env}(f:Sv→Sv):∀{vs:List Value} {xs:List Sv},vs.length=xs.length→(∀(i:Nat) u x,vs[i]?=some u→xs[i]?=some x→RelS w M κ E u (f x))→RelSs w M κ E vs (xs.map f)
 |[],[],_,_=>.nil
 |v::vs,x::xs,hl,h=>.cons _ _ _ _ (h 0 v x rfl rfl) (z0P f (by simpa using hl) (fun i u y h1 h2=>h (i+1) u y (by simpa using h1) (by simpa using h2)))
theorem ResRel.relS {w':World} {M M':Nat→Nat→Prop} {κ':Kap} {E':Env} (K:Keeps w M w' M') (hp:∀id b,κ (.hp id)=some (b,0)→κ' (.hp id)=some (b,0)) {v:Value} {rs:List Sv} (h:ResRel w M κ v rs) (hno:∀n xs r,rs≠.own n xs::r) (hnw:(∀n xs,rs≠[.wr n xs])∧∀cs,rs≠[.cells cs])
  {y:Sv} (hy:(∃v,rs=[v]∧y=v)∨((∀v,rs≠[v])∧y=.tup (rs.map z1F))):RelS w' M' κ' E' v y:=by
 rcases hy with⟨x,rfl,rfl⟩|⟨h1,rfl⟩
 ·exact RelR.relS K hp h (fun n xs e=>hno n xs [] (by rw[e])) ⟨fun n xs e=>hnw.1 n xs (by rw[e]),fun cs e=>hnw.2 cs (by rw[e])⟩
 ·have:∃vs:List Value,v=.tuple ⟨vs⟩∧vs.length=rs.length∧∀(i:Nat) u x,vs[i]?=some u→rs[i]?=some x→RelR2 w M κ u x:=by
   cases rs with
   |nil=>obtain⟨vs,e1,e2,e3,-⟩:=h;exact⟨vs,e1,e2,e3⟩
   |cons x r=>cases r with
    |nil=>exact absurd rfl (h1 x)
    |cons _ _=>obtain⟨vs,e1,e2,e3,-⟩:=h;exact⟨vs,e1,e2,e3⟩
  obtain⟨vs,rfl,hl,h2⟩:=this;exact .tup _ _ (z0P z1F hl (fun i u x h3 h4=>(h2 i u x h3 h4).relS K hp))
theorem z2o {w':World} {M M':Nat→Nat→Prop} {κ' κn:Kap} {E:Env} {d g n:Nat} {xs:List D} {r:List Sv} {v:Value} (K:Keeps w' M w' M') (hr:ResRel w' M κ' v (.own n xs::r))
  (hk:κn (.ar d)=κ' (.ar 0)) (hE:zC E.ar d=(g,some (.tok n xs.length)))
  (oth:∀u x,x∈r→RelR2 w' M κ' u x→RelS w' M' κn E u (z1F x)):RelS w' M' κn E v (z6D d g n xs r):=by
 have hd:∀u,RelV w' M u (.sl xs)→RightOK w' κ' (.ar 0) n u xs→RelS w' M' κn E u (.right d g n xs):=by
  intro u h1 h2;refine .right _ _ _ _ _ (h1.keep K) (by unfold Env.gen;rw[hE];exact Nat.le_refl _) (fun n' l h=>?_);rw[ob_iff,hE]at h;injection h with _ h;injection h with h;injection h with e1 e2;subst e1;subst e2;refine⟨rfl,Nat.le_refl _,fun _=>?_⟩;obtain⟨q1,q2⟩:=h2;refine⟨q1,?_⟩;rcases q2 with q2|q2|⟨b,o,cap,q2,q3|⟨q3,q4⟩⟩
  ·exact .inl q2
  ·exact .inr (.inl q2)
  ·exact .inr (.inr ⟨b,o,cap,q2,.inl q3⟩)
  ·exact .inr (.inr ⟨b,o,cap,q2,.inr ⟨by rw[hk];exact q3,q4⟩⟩)
 cases r with
 |nil=>obtain⟨h1,h2⟩:=hr;exact hd v h1 h2
 |cons y r=>
  obtain⟨vs,rfl,hl,h1,h2⟩:=hr;cases vs with
  |nil=>simp at hl
  |cons u us=>
   refine .tup _ _ (.cons _ _ _ _ (hd u (h1 0 u _ rfl rfl) (h2 n xs u rfl rfl)) ?_);exact z0P z1F (by simpa using hl) (fun i u' x h3 h4=>oth u' x (List.mem_of_getElem? h4) (h1 (i+1) u' x (by simpa using h3) (by simpa using h4)))
theorem z0j {w':World} {M M':Nat→Nat→Prop} {κ' κn:Kap} {E:Env} {d g n:Nat} {xs:List D} {rs:List Sv} {sv:Sv} {v:Value} (K:Keeps w' M w' M') (hr:ResRel w' M κ' v rs)
  (hw:z8V rs d g n xs sv) (hk:κn (.ar d)=κ' (.ar 0)) (hE:zC E.ar d=(g,some (.row n xs))):RelS w' M' κn E v sv∧RelOb w' M' κn E d (.row n xs):=by
 have one:∀u,z8L w' M κ' u n xs→RelS w' M' κn E u (.row d g)∧RelOb w' M' κn E d (.row n xs):=by
  rintro u ⟨h1,b,cap,rfl,h2,h3,h4⟩;refine⟨.row _ _ _ (by unfold Env.gen;rw[hE];exact Nat.le_refl _) (fun n' ys ho=>?_),b,by rw[hk];exact h3,fun i c hc=>?_,h1⟩
  ·rw[ob_iff,hE]at ho;injection ho with _ ho;injection ho with ho;injection ho with e1 e2;subst e1;subst e2;exact⟨b,cap,rfl,by rw[hk];exact h3,h2⟩
  ·obtain⟨u,g1,g2,g3,g4,g5⟩:=h4 i c hc;exact⟨u,g1,g2,g3,g4.keep K,g5⟩
 rcases hw with⟨rfl,rfl⟩|⟨cs,rfl,hq,rfl⟩
 ·exact one v hr
 ·obtain⟨vs,rfl,hl,hc⟩:=hr;have key:∀(vs:List Value) (cs:List Sv),vs.length=cs.length→(∀(i:Nat) u c,vs[i]?=some u→cs[i]?=some c→(∃x,c=.d x∧RelV w' M u x)∨∃n xs,c=.wr n xs∧z8L w' M κ' u n xs) →
    (∀q∈cs.filterMap z8H,q=(n,xs))→RelSs w' M' κn E vs (z6P d g cs)∧(cs.filterMap z8H≠[]→RelOb w' M' κn E d (.row n xs)):=by
   intro vs;induction vs with
   |nil=>
    intro cs hl _ _;cases cs with
    |nil=>exact⟨.nil,fun h=>absurd rfl h⟩
    |cons _ _=>simp at hl
   |cons u us ih=>
    intro cs hl hc hq;cases cs with
    |nil=>simp at hl
    |cons c cs=>
     have ih':=ih cs (by simpa using hl) (fun i u' c' h1 h2=>hc (i+1) u' c' (by simpa using h1) (by simpa using h2));rcases hc 0 u c rfl rfl with⟨x,rfl,hx⟩|⟨n',xs',rfl,hx⟩
     ·have hq':∀q∈cs.filterMap z8H,q=(n,xs):=fun q h=>hq q (by rw[List.filterMap_cons_none rfl];exact h);obtain⟨h1,h2⟩:=ih' hq';exact⟨.cons _ _ _ _ (.d _ _ (hx.keep K)) h1,fun h=>h2 (by rw[List.filterMap_cons_none rfl]at h;exact h)⟩
     ·have e:(n',xs')=(n,xs):=hq _ (List.mem_filterMap.2 ⟨_,List.mem_cons_self ..,rfl⟩);injection e with e1 e2;subst e1;subst e2;have hq':∀q∈cs.filterMap z8H,q=(n',xs'):=fun q h=>hq q ((by obtain⟨a,h1,h2⟩:=List.mem_filterMap.1 h;exact List.mem_filterMap.2 ⟨a,List.mem_cons_of_mem _ h1,h2⟩));obtain⟨h1,h2⟩:=ih' hq';obtain⟨h3,h4⟩:=one u hx;exact⟨.cons _ _ _ _ h3 h1,fun _=>h4⟩
  have hf:cs.filterMap z8H=[(n,xs)]:=by
   unfold z9j at hq;split at hq
   ·rename_i p hp;injection hq with hq;subst hq;exact hp
   ·cases hq
  obtain⟨h1,h2⟩:=key vs cs hl hc (fun q h=>by rw[hf]at h;simpa using h);exact⟨.cells _ _ h1,h2 (by rw[hf];simp)⟩
theorem Rel.pureCall (R:Rel X κ s a w) {h'':H} {w':World} {κ':Kap} {v:Value} {rs:List Sv} {dst:Option Nat} {k:zQ→Prop} (A:z3m w (Mut X.M0 κ) (fun _=>none) h'' w' κ') (hr:ResRel w' (Mut (Mut X.M0 κ) κ') κ' v rs)
  (hd:z0X rs=true) (hk:wZ s dst rs none k):∃p κn,k p∧Rel X κn (s.app p) (a.put dst v) w':=by
 have hM:∀b o,Mut (Mut X.M0 κ) (fun _=>none) b o↔Mut X.M0 κ b o:=z5d _;have hold:∀b,b<w.heap.size→w'.heap[b]?=w.heap[b]?:=fun b hb=>A.kept.block b hb (fun⟨_,_,h⟩=>by cases h);have hA:∀k b lo,κ k=some (b,lo)→w'.heap[b]?=w.heap[b]?∧(∀(key:Key) (lo':Nat),(fun _=>none:Kap) key≠some (b,lo'))∧∀o,lo≤o→Mut X.M0 κ b o:=
  fun k b lo h=>⟨hold b (R.kb _ _ _ h).1,fun _ _ h=>(by cases h),fun o ho=>.inr ⟨k,lo,h,ho⟩⟩
 have heap:∀{κn:Kap} {p:zQ},p.h=none→(∀id b,κ (.hp id)=some (b,0)→κn (.hp id)=some (b,0))→(∀id off,κn (.ho id off)=κ (.ho id off))→Stays w (Mut X.M0 κ) κ s.env w' (Mut X.M0 κn) κn (s.app p).env→RelH w' (Mut X.M0 κn) κn (s.app p).env:=
  fun {κn p} hp _ ho T=>RelH.stay T R.heap (by show p.h.getD s.h=s.h;rw[hp];rfl) ho (fun id b lo hb=>hold b (R.kb _ _ _ hb).1)
 have one:∀{κn:Kap} {E:Env} (K:Keeps w' (Mut (Mut X.M0 κ) κ') w' (Mut X.M0 κn)) u x,(∃z,x=.d z)∨(∃n z,x=.own n z)∨(∃f,x=.fn f [] [])∨(∃n z,x=.wr n z)∨(∃cs,x=.cells cs)→RelR2 w' (Mut (Mut X.M0 κ) κ') κ' u x→RelS w' (Mut X.M0 κn) κn E u (z1F x):=by
  rintro κn E K u x (⟨z,rfl⟩|⟨n,z,rfl⟩|⟨f,rfl⟩|⟨n,z,rfl⟩|⟨cs,rfl⟩) h
  ·cases h.2 with|d _ _ h=>exact .d _ _ (h.keep K)
  ·exact .d _ _ (RelV.keep K h)
  ·cases h.2 with|fn _ us ws _ _ p1 p2 g1 g2=>cases g1;cases g2;exact .fn _ _ _ _ _ rfl rfl .nil .nil
  ·cases h.1
  ·cases h.1
 have each:∀(rs:List Sv),z0X rs=true→∀(i:Nat) x,rs[i]?=some x→(∃z,x=.d z)∨(∃n z,x=.own n z)∨(∃f,x=.fn f [] [])∨(∃n z,x=.wr n z)∨(∃cs,x=.cells cs):=by
  intro rs;induction rs with
  |nil=>intro _ i x h;simp at h
  |cons r rs ih=>
   intro h i x hx;cases r with
   |d z=>cases i with
    |zero=>simp at hx;exact .inl ⟨z,hx.symm⟩
    |succ i=>exact ih h i x (by simpa using hx)
   |own n z=>cases i with
    |zero=>simp at hx;exact .inr (.inl ⟨n,z,hx.symm⟩)
    |succ i=>exact ih h i x (by simpa using hx)
   |fn f p q=>cases p with
    |nil=>cases q with
     |nil=>cases i with
      |zero=>simp at hx;exact .inr (.inr (.inl ⟨f,hx.symm⟩))
      |succ i=>exact ih h i x (by simpa using hx)
     |cons _ _=>simp[z0X]at h
    |cons _ _=>simp[z0X]at h
   |wr n z=>cases rs with
    |nil=>cases i with
     |zero=>simp at hx;exact .inr (.inr (.inr (.inl ⟨n,z,hx.symm⟩)))
     |succ i=>simp at hx
    |cons _ _=>simp[z0X]at h
   |cells cs=>cases rs with
    |nil=>cases i with
     |zero=>simp at hx;exact .inr (.inr (.inr (.inr ⟨cs,hx.symm⟩)))
     |succ i=>simp at hx
    |cons _ _=>simp[z0X]at h
   |_=>simp[z0X]at h
 have plainD:∀{κn:Kap} {E:Env} (K:Keeps w' (Mut (Mut X.M0 κ) κ') w' (Mut X.M0 κn)) {y:Sv},((∃v,rs=[v]∧y=v)∨((∀v,rs≠[v])∧y=.tup (rs.map z1F)))→(∀n xs r,rs≠.own n xs::r)→((∀n xs,rs≠[.wr n xs])∧∀cs,rs≠[.cells cs])→RelS w' (Mut X.M0 κn) κn E v y:=by
  intro κn E K y hy hno hnw;rcases hy with⟨x,rfl,rfl⟩|⟨h1,rfl⟩
  ·rcases each _ hd 0 y rfl with⟨z,rfl⟩|⟨n,z,rfl⟩|⟨f,rfl⟩|⟨n,z,rfl⟩|⟨cs,rfl⟩
   ·cases hr.2 with|d _ _ h=>exact .d _ _ (h.keep K)
   ·exact absurd rfl (hno n z [])
   ·cases hr.2 with|fn _ us ws _ _ p1 p2 g1 g2=>cases g1;cases g2;exact .fn _ _ _ _ _ rfl rfl .nil .nil
   ·exact absurd rfl (hnw.1 n z)
   ·exact absurd rfl (hnw.2 cs)
  ·have:∃vs:List Value,v=.tuple ⟨vs⟩∧vs.length=rs.length∧∀(i:Nat) u x,vs[i]?=some u→rs[i]?=some x→RelR2 w' (Mut (Mut X.M0 κ) κ') κ' u x:=by
    have hr:ResRel w' (Mut (Mut X.M0 κ) κ') κ' v rs:=hr;cases rs with
    |nil=>obtain⟨vs,e1,e2,e3,-⟩:=hr;exact⟨vs,e1,e2,e3⟩
    |cons x r=>cases r with
     |nil=>exact absurd rfl (h1 x)
     |cons _ _=>obtain⟨vs,e1,e2,e3,-⟩:=hr;exact⟨vs,e1,e2,e3⟩
   obtain⟨vs,rfl,hl,h2⟩:=this;exact .tup _ _ (z0P z1F hl (fun i u x h3 h4=>one K u x (each rs hd i x h4) (h2 i u x h3 h4)))
 rcases z2u hk with⟨n,xs,r,d,rfl,rfl,hdn,k1⟩|⟨n,xs,sv,d,hw,rfl,hdn,k1⟩|⟨hno,hnw,y,hy,hd2⟩
 ·refine⟨_,upK κ (.ar d) (κ' (.ar 0)),k1,R.call A (some d) hM (fun b o h=>.inl h) (fun _ _ _ h=>by cases h) (fun k b lo h=>?_) (fun k hk=>zI _ _ (by intro e;injection e with e;subst e;exact hk rfl)) (fun k b lo h=>hold b (R.kb _ _ _ h).1)
   (fun id b h=>by rw[zI _ _ (by simp)];exact h) (fun id r h=>by rw[zI _ _ (by simp)]at h;exact R.hn id r h) (fun _ id b h=>by rw[zI _ _ (by simp)]at h;exact⟨h,hold b (R.kb _ _ _ h).1⟩) (.inr ⟨d,_,rfl,rfl⟩) (fun d' o' e1 e2 K=>by injection e2 with e2 _;injection e2 with _ e2;injection e2 with _ e2;injection e2 with e2;subst e2;trivial) (fun T K=>⟨.inr ⟨d,v,_,hdn,rfl,rfl,?_⟩,?_⟩)⟩
  ·by_cases e:k=.ar d
   ·subst e;rw[yV]at h;exact .inl ⟨d,rfl,rfl,h⟩
   ·rw[zI _ _ e]at h;exact .inr (.inl ⟨fun d' h'=>by injection h' with h';subst h';exact e,h,hA k b lo h⟩)
  ·refine z2o K hr (yV _ _ _) (by show zC ((d,s.gen d+1,some (.tok n xs.length))::s.ar) d=_;rw[zA,zq1 rfl]) (fun u x hx h=>?_);obtain⟨i,hi⟩:=List.getElem?_of_mem hx;exact one K u x (each _ hd (i+1) x (by simpa using hi)) h
  ·exact heap rfl (fun id b h=>by rw[zI _ _ (by simp)];exact h) (fun id off=>zI _ _ (by simp)) T
 ·refine⟨_,upK κ (.ar d) (κ' (.ar 0)),k1,R.call A (some d) hM (fun b o h=>.inl h) (fun _ _ _ h=>by cases h) (fun k b lo h=>?_) (fun k hk=>zI _ _ (by intro e;injection e with e;subst e;exact hk rfl)) (fun k b lo h=>hold b (R.kb _ _ _ h).1)
   (fun id b h=>by rw[zI _ _ (by simp)];exact h) (fun id r h=>by rw[zI _ _ (by simp)]at h;exact R.hn id r h) (fun _ id b h=>by rw[zI _ _ (by simp)]at h;exact⟨h,hold b (R.kb _ _ _ h).1⟩) (.inr ⟨d,_,rfl,rfl⟩) (fun d' o' e1 e2 K=>by injection e1 with e1;subst e1;injection e2 with e2 _;injection e2 with _ e2;injection e2 with _ e2;injection e2 with e2;subst e2;exact(z0j (E:=(s.app ⟨[(d,sv)],[(d,s.gen d+1,some (.row n xs))],none⟩).env) K hr hw (yV _ _ _) (by show zC ((d,s.gen d+1,some (.row n xs))::s.ar) d=_;rw[zA,zq1 rfl])).2) (fun T K=>⟨.inr ⟨d,v,_,hdn,rfl,rfl,?_⟩,?_⟩)⟩
  ·by_cases e:k=.ar d
   ·subst e;rw[yV]at h;exact .inl ⟨d,rfl,rfl,h⟩
   ·rw[zI _ _ e]at h;exact .inr (.inl ⟨fun d' h'=>by injection h' with h';subst h';exact e,h,hA k b lo h⟩)
  ·exact(z0j K hr hw (yV _ _ _) (by show zC ((d,s.gen d+1,some (.row n xs))::s.ar) d=_;rw[zA,zq1 rfl])).1
  ·exact heap rfl (fun id b h=>by rw[zI _ _ (by simp)];exact h) (fun id off=>zI _ _ (by simp)) T
 ·have go:∀{p:zQ} {a':Act},p.ars=[]→p.h=none→(∀T:Stays w (Mut X.M0 κ) κ s.env w' (Mut X.M0 κ) κ (s.app p).env,Keeps w' (Mut (Mut X.M0 κ) κ') w' (Mut X.M0 κ) →
    ((p.puts=[]∧a'=a)∨∃d v sv,d<s.n∧p.puts=[(d,sv)]∧a'=a.put (some d) v∧RelS w' (Mut X.M0 κ) κ (s.app p).env v sv))→Rel X κ (s.app p) a' w':=fun {p a'} h1 h2 h3=>
   R.call A none hM (fun b o h=>.inl h) (fun _ _ _ h=>by cases h) (fun k b lo h=>.inr (.inl ⟨fun d' h'=>(by cases h'),h,hA k b lo h⟩)) (fun k hk=>rfl) (fun k b lo h=>hold b (R.kb _ _ _ h).1)
    (fun id b h=>h) (fun id r h=>by show id<(p.h.getD s.h).length;rw[h2];exact R.hn id r h) (fun _ id b h=>⟨h,hold b (R.kb _ _ _ h).1⟩) (.inl ⟨rfl,h1⟩) (fun _ _ e=>by cases e) (fun T K=>⟨h3 T K,heap h2 (fun id b h=>h) (fun _ _=>rfl) T⟩)
  rcases hd2 with⟨rfl,k1⟩|⟨d,rfl,hdn,k1⟩
  ·exact⟨_,κ,k1,go rfl rfl (fun T K=>.inl ⟨rfl,rfl⟩)⟩
  ·exact⟨_,κ,k1,go rfl rfl (fun T K=>.inr ⟨d,v,y,hdn,rfl,rfl,plainD K hy hno hnw⟩)⟩
end
end Nt

