import Derived.Test.YtjlohgfmobpfmaaFwZ
namespace Nt
open Go
set_option linter.unusedVariables false
set_option linter.unusedSimpArgs false
def z8Z(s:St)(ro:Option Nat):Prop:=∀r,ro=some r→∃g m l,s.env.ob r g=some (.tok m l)
def z4H(s:St)(w:World)(M0:Nat→Nat→Prop)(κ:Kap)(v:Value):Sv→Prop
 |.own n xs=>RelV w (Mut M0 κ) v (.sl xs)∧∃ro,z8Z s ro∧RightOK w (z2d κ ro) (.ar 0) n v xs
 |.wr n xs=>∃r,z8L w (Mut M0 (z2d κ (some r))) (z2d κ (some r)) v n xs
 |.cells _=>False
 |x=>x.plain=true∧∀ro,z8Z s ro→RelS w (Mut M0 (z2d κ ro)) κ ⟨[],[],0⟩ v x
def z8x(tmps:Array Value):ResultVar→Sem Value
 |.tmp t=>pure (tmps.getD t Go.undef)
 |.cell a t=>do loadVar t (←asAddr (tmps.getD a Go.undef))
section
variable {P:Program} {X:Ctx} {κ:Kap} {s:St} {a:Act} {w:World}
theorem z4B{t:TypeId}{u u':Value}(h:(Instr.loadAt t u).run P w=.ok u' w):(do loadVar t (←asAddr u):Sem Value).run P w=.ok u' w:=by
 cases u with
 |pointer p=>
  cases p with
  |some p=>exact h
  |none=>simp[Instr.loadAt,Instr.sureAddr,stuck,Sem.run_bind]at h
 |_=>simp[Instr.loadAt,Instr.sureAddr,stuck,Sem.run_bind]at h
theorem z7U{v:Value}{x:D}(h:RelV w (Mut X.M0 κ) v x):z4H s w X.M0 κ v (.d x):=⟨rfl,fun ro _=>.d _ _ (h.keep (wS κ X.M0 ro))⟩
theorem z4S{v:Value}{y:Sv}{rk:RK}{k:Sv→Prop}(hv:RelS w (Mut X.M0 κ) κ s.env v y)(h:kGo s rk y k):∃x,k x∧z4H s w X.M0 κ v x:=by
 cases rk with
 |d=>
  obtain⟨x,h1,h2⟩:=yA h hv;exact⟨_,h2,z7U h1⟩
 |own n=>
  cases y with
  |right r g n' xs=>
   unfold kGo at h;dsimp only at h;split at h
   ·rename_i n'' m ho
    obtain⟨e1,g1⟩:=zG h;obtain⟨e2,hm,g2⟩:=zG g1;have e1:=vX e1;have e2:=vX e2;subst e1;subst e2;cases hv with
    |right _ _ _ _ _ q1 q2 q3=>
     obtain⟨-,-,q4⟩:=q3 _ _ ho;exact⟨_,g2,q1,some r,fun r' e=>by injection e with e;subst e;exact⟨_,_,_,ho⟩,q4 hm⟩
   ·exact h.elim
  |nilS=>
   cases hv with|nilS _ hemp=>
   exact⟨_,h,hemp.relV,none,fun _ e=>(by cases e),hemp.right⟩
  |_=>exact h.elim
 |hp=>
  cases y with
  |hp i o=>
   cases hv with
   |hp b id off hb=>exact⟨_,h,rfl,fun _ _=>.hp _ _ _ hb⟩
  |_=>exact h.elim
 |wr n=>exact h.elim
 |cw l i n=>exact h.elim
 |fns gs=>
  cases y with
  |fn f p q=>
   cases p with
   |nil=>cases q with
    |nil=>
     obtain⟨-,h⟩:=zG h;cases hv with
     |fn _ us ws _ _ p1 p2 g1 g2=>cases g1;cases g2;exact⟨_,h,rfl,fun _ _=>.fn _ _ _ _ _ rfl rfl .nil .nil⟩
    |cons _ _=>exact h.elim
   |cons _ _=>exact h.elim
  |_=>exact h.elim
theorem z8r{c:Cx}(hb:∀b,X.S b↔∃key lo,X.κ0 key=some (b,lo))(R:Rel X κ s a w){rv:ResultVar}{rk:RK}{k:Sv→Prop}(h:z9d c s rv rk k):∃v x,(z8x a.tmps rv).run c.P w=.ok v w∧k x∧z4H s w X.M0 κ v x:=by
 cases rv with
 |tmp t=>
  have hv:=R.slots t;have hrun:(z8x a.tmps (.tmp t)).run c.P w=.ok (a.tmps.getD t Go.undef) w:=by simp only[z8x,Sem.run_pure]
  unfold z9d at h;dsimp only at h;split at h
  ·rename_i r g hs
   rw[hs]at hv;cases rk with
   |d=>
    obtain⟨ob,ho,h1⟩:=zD h;split at h1
    ·rename_i n xs
     refine⟨_,_,hrun,h1,rfl,fun ro hro=>.d _ _ ?_⟩;generalize a.tmps.getD t Go.undef=v at hv;cases hv with
     |row _ _ _ q1 q2=>
      obtain⟨b,cap,rfl,q3,q4⟩:=q2 _ _ ho;obtain⟨b',q5,q6,q7⟩:=R.obs _ _ _ ho;rw[q3]at q5;injection q5 with q5;injection q5 with q5 _;subst q5;refine .sl b 0 cap xs (RelC.mk 0 fun i c hi=>?_) q4;obtain⟨v,g1,g2,g3,g4,g5⟩:=q6 i c hi;refine⟨v,by rw[Nat.zero_add];exact g1,?_,g3,g4.keep (wS κ X.M0 ro)⟩;rintro(hm|⟨k',lo,hk,-⟩)
      ·exact R.notM0 (R.kb _ _ _ q3).2 _ hm
      ·have tk:∀i,ro=some i→i≠r:=by
        rintro i e rfl;obtain⟨g',m',l',h8⟩:=hro _ e;have h9:s.env.ob i g=some (.row n xs):=ho;have:=(z3U h8).symm.trans (z3U h9);subst this;rw[h9]at h8;cases h8
       rcases z5F hk with⟨h8,h9⟩|⟨i,h8,h9⟩
       ·exact h8 r (R.ki _ _ _ _ _ q3 h9).symm
       ·have:=R.ki _ _ _ _ _ h9 q3;injection this with this;exact tk i h8 this
    ·exact h1.elim
   |wr m=>
    obtain⟨ob,ho,h1⟩:=zD h;split at h1
    ·rename_i n xs
     obtain⟨hnn,h2⟩:=zG h1;obtain rfl:=vX hnn;refine⟨_,_,hrun,h2,r,?_⟩;generalize a.tmps.getD t Go.undef=v at hv;cases hv with
     |row _ _ _ q1 q2=>
      obtain⟨b,cap,rfl,q3,q4⟩:=q2 _ _ ho;obtain⟨b',q5,q6,q7⟩:=R.obs _ _ _ ho;rw[q3]at q5;injection q5 with q5;injection q5 with q5 _;subst q5;refine⟨q7,b,cap,rfl,q4,q3,fun i c hi=>?_⟩;obtain⟨v,g1,g2,g3,g4,g5⟩:=q6 i c hi;exact⟨v,g1,g2,g3,g4.keep (wS κ X.M0 (some r)),g5⟩
    ·exact h1.elim
   |_=>exact h.elim
  ·obtain⟨x,h1,h2⟩:=z4S hv h;exact⟨_,x,hrun,h1,h2⟩
 |cell p t=>
  have h0:kLoad c.P t s (s.get p) (fun v=>kGo s rk v k):=h;obtain⟨u',y,h1,h2,h3⟩:=z4X (P:=c.P) R h0 (R.slots p);obtain⟨x,h4,h5⟩:=z4S h2 h3;exact⟨u',x,by unfold z8x;exact z4B h1,h4,h5⟩
theorem z4Y{c:Cx}(hb:∀b,X.S b↔∃key lo,X.κ0 key=some (b,lo))(R:Rel X κ s a w):∀{rvs:List ResultVar} {rks:List RK} {k:List Sv→Prop},z8s c s rvs rks k →
  ∃vs xs,(rvs.mapM (z8x a.tmps)).run c.P w=.ok vs w∧k xs∧vs.length=xs.length∧∀(i:Nat) v x,vs[i]?=some v→xs[i]?=some x→z4H s w X.M0 κ v x
 |[],[],k,h=>⟨[],[],by simp[Sem.run_pure],h,rfl,by simp⟩
 |rv::rvs,rk::rks,k,h=>by
  obtain⟨v,x,h1,h2,h3⟩:=z8r hb R h;obtain⟨vs,xs,h4,h5,h6,h7⟩:=z4Y hb R h2;refine⟨v::vs,x::xs,by simp[List.mapM_cons,Sem.run_bind,h1,h4,Sem.run_pure],h5,by simp[h6],fun i u y hu hy=>?_⟩;cases i with
  |zero=>simp at hu hy;subst hu;subst hy;exact h3
  |succ i=>exact h7 i u y (by simpa using hu) (by simpa using hy)
 |[],_::_,_,h=>h.elim
 |_::_,[],_,h=>h.elim
theorem z4A{fn:Func}{tmps:Array Value}{vs:List Value}(h:(fn.results.toList.mapM (z8x tmps)).run P w=.ok vs w):
  (results fn tmps).run P w=.ok (if h:vs.length=1 then vs[0]else .tuple ⟨vs⟩) w:=by
 have e:(results fn tmps)=(do let vs ←fn.results.mapM (z8x tmps);pure (if h:vs.size=1 then vs[0]else .tuple vs)):=by
  unfold results;congr 1
 rw[e];simp only[Array.mapM_eq_mapM_toList,Sem.run_bind];simp[Sem.run_bind,h,Sem.run_pure]
end
end Nt

