import Derived.Test.YtjlohgfmobpfmaaFwO
namespace Nt
open Go
set_option linter.unusedVariables false
set_option linter.unusedSimpArgs false
structure Before(w:World)(M0:Nat→Nat→Prop)(κ:Kap)(h:H):Prop where
 m0:∀b o,M0 b o→b<w.heap.size∧∀key lo,κ key≠some (b,lo)
 kb:∀key b lo,κ key=some (b,lo)→b<w.heap.size
 ki:∀k1 k2 b l1 l2,κ k1=some (b,l1)→κ k2=some (b,l2)→k1=k2
 hn:∀id r,κ (.hp id)=some r→id<h.length
 noar:∀k,κ (.ar k)=none
 heap:RelH w (Mut M0 κ) κ ⟨[],h,0⟩
structure z3m(w:World)(M0:Nat→Nat→Prop)(κ:Kap)(h':H)(w':World)(κ':Kap):Prop where
 kept:Kept w.heap.size (fun b=>∃key lo,κ key=some (b,lo)) w w'
 k0:Keeps w (Mut M0 κ) w' (Mut M0 κ')
 g0:Grows w w'
 kb:∀key b lo,κ' key=some (b,lo)→b<w'.heap.size∧(w.heap.size≤b∨∃key lo,κ key=some (b,lo))
 ki:∀k1 k2 b l1 l2,κ' k1=some (b,l1)→κ' k2=some (b,l2)→k1=k2
 hn:∀id r,κ' (.hp id)=some r→id<h'.length
 hp:∀id b,κ (.hp id)=some (b,0)→κ' (.hp id)=some (b,0)
 heap:RelH w' (Mut M0 κ') κ' ⟨[],h',0⟩
def z8L(w:World)(M:Nat→Nat→Prop)(κ:Kap)(v:Value)(n:Nat)(xs:List D):Prop:=
 yB n xs∧∃b cap,v=.slice (some ⟨b,0,none⟩) xs.length cap∧xs.length≤cap∧κ (.ar 0)=some (b,0)∧Box w M b (yC xs)
def RelR(w:World)(M:Nat→Nat→Prop)(κ:Kap)(v:Value):Sv→Prop
 |.own n xs=>RelV w M v (.sl xs)∧RightOK w κ (.ar 0) n v xs
 |.wr n xs=>z8L w M κ v n xs
 |.cells cs=>∃vs:List Value,v=.agg ⟨vs⟩∧vs.length=cs.length∧∀(i:Nat) u c,vs[i]?=some u→cs[i]?=some c→(∃x,c=.d x∧RelV w M u x)∨∃n xs,c=.wr n xs∧z8L w M κ u n xs
 |x=>x.plain=true∧RelS w M κ ⟨[],[],0⟩ v x
def RelR2(w:World)(M:Nat→Nat→Prop)(κ:Kap)(v:Value):Sv→Prop
 |.own n xs=>RelV w M v (.sl xs)
 |x=>x.plain=true∧RelS w M κ ⟨[],[],0⟩ v x
def ResRel(w:World)(M:Nat→Nat→Prop)(κ:Kap)(v:Value):List Sv→Prop
 |[x]=>RelR w M κ v x
 |xs=>∃vs:List Value,v=.tuple ⟨vs⟩∧vs.length=xs.length∧(∀(i:Nat) u x,vs[i]?=some u→xs[i]?=some x→RelR2 w M κ u x)∧∀n ys u,xs.head?=some (.own n ys)→vs.head?=some u→RightOK w κ (.ar 0) n u ys
def Enters (P : Program) (f : FuncId) : Prop := ∃ fn, P.funcs[f]? = some fn ∧ (fn.name == "runtime.NumGoroutine") = false ∧ fn.body.isNone = false
def Trip(P:Program)(f:FuncId)(args:List Sv)(h:H)(rs:List Sv)(h':H):Prop:=
 Enters P f∧∀(w:World) (M0:Nat→Nat→Prop) (κ:Kap) (vs:List Value),Before w M0 κ h→RelSs w (Mut M0 κ) κ ⟨[],h,0⟩ vs args →
  Calls P f ⟨vs⟩ w fun e w'=>∃v κ',e=.returned v∧z3m w M0 κ h' w' κ'∧ResRel w' (Mut M0 κ') κ' v rs
section
variable {P:Program} {X:Ctx} {κ:Kap} {s:St} {a:Act} {w:World}
mutual
theorem RelS.conv{w w':World}{M M':Nat→Nat→Prop}{κ κ':Kap}{E E':Env}(K:Keeps w M w' M')(hp:∀id b,κ (.hp id)=some (b,0)→κ' (.hp id)=some (b,0)):
  ∀{v:Value} {x:Sv},x.plain=true→RelS w M κ E v x→RelS w' M' κ' E' v x
 |_,_,_,.undef v=>.undef v
 |_,_,_,.skp=>.skp
 |_,_,_,.nilF=>.nilF
 |_,_,_,.bld v x l h g=>.bld v x l (h.keep K) g
 |_,_,_,.d v x h=>.d v x (h.keep K)
 |_,_,_,.nilS v h=>.nilS v h
 |_,_,h,.right _ _ _ _ _ _ _ _=>by simp[Sv.plain]at h
 |_,_,h,.row _ _ _ _ _=>by simp[Sv.plain]at h
 |_,_,h,.ref _ _ _ _ _ _=>by simp[Sv.plain]at h
 |_,_,h,.rref _ _ _ _ _ _ _ _=>by simp[Sv.plain]at h
 |_,_,h,.iel _ _ _ _ _=>by simp[Sv.plain]at h
 |_,_,_,.hp b id off h=>.hp b id off (hp id b h)
 |_,_,h,.lent _ _ _ _ _ _ _ _ _=>by simp[Sv.plain]at h
 |_,_,_,.fn f vs ws first cap p1 p2 h1 h2=>.fn f vs ws first cap p1 p2 (RelSs.conv K hp p1 h1) (RelSs.conv K hp p2 h2)
 |_,_,h,.tup _ _ _=>by simp[Sv.plain]at h
 |_,_,h,.cells _ _ _=>by simp[Sv.plain]at h
theorem RelSs.conv{w w':World}{M M':Nat→Nat→Prop}{κ κ':Kap}{E E':Env}(K:Keeps w M w' M')(hp:∀id b,κ (.hp id)=some (b,0)→κ' (.hp id)=some (b,0)):
  ∀{v:List Value} {x:List Sv},vU x=true→RelSs w M κ E v x→RelSs w' M' κ' E' v x
 |_,_,_,.nil=>.nil
 |u::us,y::ys,h,.cons _ _ _ _ h1 h2=>
  have h':y.plain=true∧vU ys=true:=by simpa only[vU,Bool.and_eq_true]using h
  .cons u y us ys (RelS.conv K hp h'.1 h1) (RelSs.conv K hp h'.2 h2)
end
theorem RelHc.conv {w w':World} {M M':Nat→Nat→Prop} {κ κ':Kap} {E E':Env} (K:Keeps w M w' M') (G:Grows w w') (hp:∀id b,κ (.hp id)=some (b,0)→κ' (.hp id)=some (b,0)) {id off:Nat} {v:Value} {c:Sv}
  (ho:κ' (.ho id off)=κ (.ho id off)) (h:RelHc w M κ E id off v c):RelHc w' M' κ' E' id off v c:=by
 cases c with
 |own n xs=>exact⟨h.1.keep K,h.2.stay ho G.ex G.ic⟩
 |_=>exact⟨h.1,RelS.conv K hp h.1 h.2⟩
def z7E(X:Ctx)(κ:Kap)(b o:Nat):Prop:=X.M0 b o∨∃k lo,κ (.ar k)=some (b,lo)∧lo≤o
def z0J(κ:Kap):Kap
 |.ar _=>none
 |k=>κ k
theorem vG{κ:Kap}{k:Key}{q:Nat×Nat}(h:z0J κ k=some q):(∀i,k≠.ar i)∧κ k=some q:=by
 cases k<;>first|(simp[z0J]at h;done)|exact⟨by simp,h⟩
theorem gV(X:Ctx)(κ:Kap)(b o:Nat):Mut (z7E X κ) (z0J κ) b o↔Mut X.M0 κ b o:=by
 constructor
 ·rintro((h|⟨k,lo,h1,h2⟩)|⟨k,lo,h1,h2⟩)
  ·exact .inl h
  ·exact .inr ⟨_,lo,h1,h2⟩
  ·exact .inr ⟨k,lo,(vG h1).2,h2⟩
 ·rintro(h|⟨k,lo,h1,h2⟩)
  ·exact .inl (.inl h)
  ·cases k with
   |ar k=>exact .inl (.inr ⟨k,lo,h1,h2⟩)
   |hp id=>exact .inr ⟨.hp id,lo,h1,h2⟩
   |ho id off=>exact .inr ⟨.ho id off,lo,h1,h2⟩
theorem z5d(M:Nat→Nat→Prop)(b o:Nat):Mut M (fun _=>none) b o↔M b o:=by
 constructor
 ·rintro(h|⟨k,lo,h1,-⟩)
  ·exact h
  ·cases h1
 ·exact .inl
theorem Rel.before(R:Rel X κ s a w):Before w (z7E X κ) (z0J κ) s.h:=by
 have K:Keeps w (Mut X.M0 κ) w (Mut (z7E X κ) (z0J κ)):=⟨fun _ _ _ h _=>h,fun b o v _ hm hm'=>hm ((gV X κ b o).1 hm')⟩;refine⟨fun b o h=>?_,fun key b lo h=>(R.kb _ _ _ (vG h).2).1,fun k1 k2 b l1 l2 h1 h2=>R.ki _ _ _ _ _ (vG h1).2 (vG h2).2,fun id r h=>R.hn id r (vG h).2,fun k=>rfl,fun id cs hc=>?_⟩
 ·rcases h with h|⟨k,lo,h,-⟩
  ·obtain⟨h1,h2⟩:=R.m0 b o h;refine⟨Nat.lt_of_lt_of_le h1 R.kept.size,fun key lo hk=>?_⟩;exact R.notM0 (R.kb _ _ _ (vG hk).2).2 o h
  ·refine⟨(R.kb _ _ _ h).1,fun key lo' hk=>?_⟩;obtain⟨h1,h2⟩:=vG hk;exact h1 k (R.ki _ _ _ _ _ h2 h)
 ·obtain⟨b,h1,h2⟩:=R.heap id cs hc;refine⟨b,h1,fun i c hi=>?_⟩;obtain⟨v,g1,g2,g3,g4⟩:=h2 i c hi;exact⟨v,g1,g2,g3,RelHc.conv (κ:=κ) (κ':=z0J κ) K (.refl _) (fun _ _ h=>h) rfl g4⟩
theorem Rel.before0(R:Rel X κ s a w):Before w (Mut X.M0 κ) (fun _=>none) []:=by
 refine⟨fun b o h=>⟨?_,fun _ _ h=>by cases h⟩,fun _ _ _ h=>(by cases h),fun _ _ _ _ _ h=>(by cases h),fun _ _ h=>(by cases h),fun _=>rfl,fun id cs h=>(by simp at h)⟩;rcases h with h|⟨k,lo,h,-⟩
 ·exact Nat.lt_of_lt_of_le (R.m0 b o h).1 R.kept.size
 ·exact(R.kb _ _ _ h).1
theorem Rel.call (R:Rel X κ s a w) {M0c:Nat→Nat→Prop} {κc κ' κn:Kap} {hc':H} {w':World} (A:z3m w M0c κc hc' w' κ') (od:Option Nat) {p:zQ} {a':Act}
  (hM:∀b o,Mut M0c κc b o↔Mut X.M0 κ b o) (hM0:∀b o,X.M0 b o→M0c b o) (hSc:∀key b lo,κc key=some (b,lo)→∃k,κ k=some (b,lo))
  (cls:∀k b lo,κn k=some (b,lo)→(∃d,od=some d∧k=.ar d∧κ' (.ar 0)=some (b,lo)) ∨
   ((∀d,od=some d→k≠.ar d)∧κ k=some (b,lo)∧w'.heap[b]?=w.heap[b]?∧(∀key lo',κc key≠some (b,lo'))∧∀o,lo≤o→M0c b o) ∨
   (κ' k=some (b,lo)∧∀i,k≠.ar i))
  (har:∀k,od≠some k→κn (.ar k)=κ (.ar k)) (hblk:∀k b lo,κ (.ar k)=some (b,lo)→w'.heap[b]?=w.heap[b]?)
  (hhp:∀id b,κ (.hp id)=some (b,0)→κn (.hp id)=some (b,0))
  (hhn:∀id r,κn (.hp id)=some r→id<(s.app p).h.length)
  (hl:p.h=none→∀id b,κn (.hp id)=some (b,0)→κ (.hp id)=some (b,0)∧w'.heap[b]?=w.heap[b]?)
  (hars:(od=none∧p.ars=[])∨∃d o,od=some d∧p.ars=[(d,s.gen d+1,some o)])
  (hob:∀d o,od=some d→p.ars=[(d,s.gen d+1,some o)]→Keeps w' (Mut M0c κ') w' (Mut X.M0 κn)→RelOb w' (Mut X.M0 κn) κn (s.app p).env d o)
  (rest:∀T:Stays w (Mut X.M0 κ) κ s.env w' (Mut X.M0 κn) κn (s.app p).env,Keeps w' (Mut M0c κ') w' (Mut X.M0 κn) →
   ((p.puts=[]∧a'=a)∨∃d v sv,d<s.n∧p.puts=[(d,sv)]∧a'=a.put (some d) v∧RelS w' (Mut X.M0 κn) κn (s.app p).env v sv)∧RelH w' (Mut X.M0 κn) κn (s.app p).env):
  Rel X κn (s.app p) a' w':=by
 have K1:Keeps w (Mut X.M0 κ) w' (Mut X.M0 κn):=by
  refine⟨fun b o v h hm=>A.k0.cell b o v h (fun h'=>hm ((hM b o).1 h')),fun b o v h hm hm'=>?_⟩;have h2:=A.k0.mu b o v h (fun h'=>hm ((hM b o).1 h'));rcases hm' with h0|⟨k,lo,hk,hlo⟩
  ·exact hm (.inl h0)
  ·rcases cls k b lo hk with⟨d,-,-,h3⟩|⟨-,h3,-⟩|⟨h3,-⟩
   ·exact h2 (.inr ⟨_,lo,h3,hlo⟩)
   ·exact hm (.inr ⟨k,lo,h3,hlo⟩)
   ·exact h2 (.inr ⟨k,lo,h3,hlo⟩)
 have K2:Keeps w' (Mut M0c κ') w' (Mut X.M0 κn):=by
  refine⟨fun b o v h _=>h,fun b o v h hm hm'=>hm ?_⟩;rcases hm' with h0|⟨k,lo,hk,hlo⟩
  ·exact .inl (hM0 b o h0)
  ·rcases cls k b lo hk with⟨d,-,-,h3⟩|⟨-,-,-,-,h3⟩|⟨h3,-⟩
   ·exact .inr ⟨_,lo,h3,hlo⟩
   ·exact .inl (h3 o hlo)
   ·exact .inr ⟨_,lo,h3,hlo⟩
 have hlook:∀k g ob',(s.app p).env.ob k g=some ob'→(∃d o,od=some d∧k=d∧g=s.gen d+1∧ob'=o∧p.ars=[(d,s.gen d+1,some o)])∨(od≠some k∧s.env.ob k g=some ob'):=by
  intro k g ob' h;rcases hars with⟨h1,h2⟩|⟨d,o,h1,h2⟩
  ·refine .inr ⟨by rw[h1];simp,?_⟩;rw[ob_iff]at h ⊢;change zC (p.ars++s.ar) k=_ at h;rw[h2]at h;exact h
  ·rw[ob_iff]at h;change zC (p.ars++s.ar) k=_ at h;rw[h2]at h;change zC ((d,s.gen d+1,some o)::s.ar) k=_ at h;rw[zA]at h;split at h
   ·rename_i e
    injection h with h3 h4;injection h4 with h4;exact .inl ⟨d,o,h1,e.symm,h3.symm,h4.symm,h2⟩
   ·rename_i e
    exact .inr ⟨by rw[h1];intro h';injection h' with h';exact e h',ob_iff.2 h⟩
 have T:Stays w (Mut X.M0 κ) κ s.env w' (Mut X.M0 κn) κn (s.app p).env:=
  {keeps:=K1
   hp:=hhp
   gen:=fun k=>by
    show(zC s.ar k).1≤(zC (p.ars++s.ar) k).1;rcases hars with⟨-,h2⟩|⟨d,o,-,h2⟩
    ·rw[h2];exact Nat.le_refl _
    ·rw[h2];show _≤(zC ((d,s.gen d+1,some o)::s.ar) k).1;rw[zA];split
     ·rename_i e;subst e;show s.gen d≤s.gen d+1;omega
     ·exact Nat.le_refl _
   ob:=fun k g ob' hg h=>by
    rcases hlook k g ob' h with⟨d,o,h1,h2,h3,-⟩|⟨h1,h2⟩
    ·subst h2;subst h3;change s.gen k+1≤s.gen k at hg;omega
    ·exact⟨ob',h2,.inl ⟨rfl,har k h1⟩⟩
   ex:=A.g0.ex
   ic:=A.g0.ic
   hvle:=by
    show s.hv≤(match p.h with|some _=>s.hv+1|none=>s.hv);split<;>omega
   lent:=fun e=>by
    have hnone:p.h=none:=by
     change (match p.h with|some _=>s.hv+1|none=>s.hv)=s.hv at e;split at e
     ·omega
     ·assumption
    refine⟨by show p.h.getD s.h=s.h;rw[hnone];rfl,fun id b off v cs n xs hb _ _=>?_⟩;obtain⟨h1,h2⟩:=hl hnone id b hb
    exact⟨h1,fun h=>by rw[zL h2];exact h⟩}
 obtain⟨sl,hh⟩:=rest T K2;have hkept:Kept X.base X.S w w':=by
  refine⟨A.kept.os,A.kept.tape,A.kept.output,A.kept.size,fun k hk hs=>?_⟩;have hk':k<w.heap.size:=Nat.lt_of_lt_of_le hk R.kept.size;refine A.kept.block k hk' (fun⟨key,lo,hkey⟩=>?_);obtain⟨k2,h2⟩:=hSc key k lo hkey;rcases(R.kb _ _ _ h2).2 with h3|h3
  ·omega
  ·exact hs h3
 refine R.step T hkept (fun key b lo h=>?_) (fun k1 k2 b l1 l2 h1 h2=>?_) hhn sl (fun k g ob' h=>?_) hh
 ·rcases cls key b lo h with⟨d,-,-,h3⟩|⟨-,h3,-⟩|⟨h3,-⟩
  ·exact⟨(A.kb _ _ _ h3).1,by
    rcases(A.kb _ _ _ h3).2 with h5|⟨key',lo',h5⟩
    ·exact .inl (Nat.le_trans R.kept.size h5)
    ·obtain⟨k3,h6⟩:=hSc _ _ _ h5;exact(R.kb _ _ _ h6).2⟩
  ·obtain⟨h4,h5⟩:=R.kb _ _ _ h3;exact⟨Nat.lt_of_lt_of_le h4 A.kept.size,h5⟩
  ·obtain⟨h4,h5⟩:=A.kb _ _ _ h3;refine⟨h4,?_⟩;rcases h5 with h5|⟨key',lo',h5⟩
   ·exact .inl (Nat.le_trans R.kept.size h5)
   ·obtain⟨k3,h6⟩:=hSc _ _ _ h5;exact(R.kb _ _ _ h6).2
 ·have mixed:∀k1 k2 l1 l2,κ k1=some (b,l1)→(∀key lo',κc key≠some (b,lo'))→κ' k2=some (b,l2)→False:=fun k1 k2 l1 l2 g1 g2 g3=>by
   rcases(A.kb _ _ _ g3).2 with h5|⟨key',lo',h5⟩
   ·have:=(R.kb _ _ _ g1).1;omega
   ·exact g2 _ _ h5
  rcases cls k1 b l1 h1 with⟨d1,e1,f1,g1⟩|⟨-,g1,-,i1,-⟩|⟨g1,j1⟩<;>rcases cls k2 b l2 h2 with⟨d2,e2,f2,g2⟩|⟨-,g2,-,i2,-⟩|⟨g2,j2⟩
  ·rw[e1]at e2;injection e2 with e2;rw[f1,f2,e2]
  ·exact(mixed _ _ _ _ g2 i2 g1).elim
  ·exact absurd (A.ki _ _ _ _ _ g2 g1) (j2 0)
  ·exact(mixed _ _ _ _ g1 i1 g2).elim
  ·exact R.ki _ _ _ _ _ g1 g2
  ·exact(mixed _ _ _ _ g1 i1 g2).elim
  ·exact absurd (A.ki _ _ _ _ _ g1 g2) (j1 0)
  ·exact(mixed _ _ _ _ g2 i2 g1).elim
  ·exact A.ki _ _ _ _ _ g1 g2
 ·rcases hlook k g ob' h with⟨d,o,e1,e2,-,h4,h5⟩|⟨h1,h2⟩
  ·subst h4;subst e2;exact hob k ob' e1 h5 K2
  ·exact RelOb.stay T (R.obs k g ob' h2) (har k h1) (fun b lo hb=>hblk k b lo hb)
end
end Nt

