import Derived.Test.YtjlohgfmobpfmaaFwZ1
namespace Nt
open Go
set_option linter.unusedVariables false
set_option linter.unusedSimpArgs false
def jL:Nat→List Sv→List (Nat×Sv)
 |_,[]=>[]
 |i,v::r=>(i,v)::jL (i+1) r
def st0(fn:Func)(args:List Sv)(h:H):St:=⟨fn.ntmps,jL 0 args,[],h,0⟩
theorem gK:∀(vs:List Sv) (i j:Nat),z1z (jL i vs) j=if i≤j then vs.getD (j-i) .undef else .undef
 |[],i,j=>by simp[jL,z1z]
 |v::r,i,j=>by
  rw[jL,vA,gK r];by_cases h:i=j
  ·subst h;simp
  ·rw[zq0 h];by_cases h2:i≤j
   ·rw[zq1 (by omega),zq1 h2,show j-i=(j-(i+1))+1 by omega,List.getD_cons_succ]
   ·rw[zq0 (by omega),zq0 h2]
theorem RelSs.len{w:World}{κ:Kap}{M:Nat→Nat→Prop}{E:Env}:∀{vs:List Value} {xs:List Sv},RelSs w M κ E vs xs→vs.length=xs.length
 |_,_,.nil=>rfl
 |_,_,.cons _ _ _ _ _ h=>by simp[RelSs.len h]
theorem Before.rel{w:World}{M0:Nat→Nat→Prop}{κ:Kap}{h:H}(B:Before w M0 κ h){fn:Func}{vs:List Value}{args:List Sv}(hv:RelSs w (Mut M0 κ) κ ⟨[],h,0⟩ vs args)(hl:args.length≤fn.ntmps):
  Rel ⟨w,M0,κ⟩ κ (st0 fn args h) {tmps:=(⟨vs⟩:Array Value)++Array.replicate (fn.ntmps-(⟨vs⟩:Array Value).size) Go.undef,defers:=[]} w where
 m0:=fun b o hm=>⟨(B.m0 b o hm).1,fun⟨key,lo,hk⟩=>(B.m0 b o hm).2 key lo hk⟩
 defs:=rfl
 size:=by
  have:=hv.len;simp[st0];omega
 kept:=.refl _ _ _
 k0:=.refl _ _
 g0:=.refl _
 kb:=fun key b lo hk=>⟨B.kb key b lo hk,.inr ⟨key,lo,hk⟩⟩
 ki:=B.ki
 hn:=B.hn
 hp0:=fun _ _ h=>h
 slots:=fun i=>by
  show RelS w (Mut M0 κ) κ ⟨[],h,0⟩ _ (z1z (jL 0 args) i);rw[gK,zq1 (Nat.zero_le _),Nat.sub_zero];by_cases hi:i<args.length
  ·have hx:args[i]?=some args[i]:=List.getElem?_eq_getElem hi;obtain⟨v,h1,h2⟩:=hv.get i _ hx;have e1:args.getD i .undef=args[i]:=by rw[List.getD_eq_getElem?_getD,hx];rfl
   rw[e1];have hlt:i<vs.length:=by rw[hv.len];exact hi
   have:((⟨vs⟩:Array Value)++Array.replicate (fn.ntmps-(⟨vs⟩:Array Value).size) Go.undef).getD i Go.undef=v:=by
    rw[Array.getD_eq_getD_getElem?,Array.getElem?_append_left (by simpa using hlt)];simp at h1 ⊢;rw[h1];rfl
   rw[this];exact h2
  ·have:args.getD i .undef=.undef:=by rw[List.getD_eq_getElem?_getD,List.getElem?_eq_none (by omega)];rfl
   rw[this];exact .undef _
 obs:=fun k g ob h=>by simp[St.ob,st0,zC]at h
 heap:=B.heap
theorem z8E {c : Cx} (hT : ∀ f vs h rs h', c.trip f vs h rs h' → Trip c.P f vs h rs h') {code : Code} {args : List Sv} {h0 : H} {n : Nat} (hf : c.P.funcs[c.self]? = some c.fn) (hname : (c.fn.name == "runtime.NumGoroutine") = false)
  (hb:c.fn.body=some code) (hl:args.length≤c.fn.ntmps) (hh:h0.length≤c.nh) (h:evI c (Ok c) n true [.code code] (st0 c.fn args h0)):Trip c.P c.self args h0 c.rs c.h':=by
 refine⟨⟨c.fn,hf,hname,by simp[hb]⟩,fun w M0 κ vs B hv=>?_⟩;have R:=B.rel (fn:=c.fn) hv hl;refine calls_of_wp hf hb ?_;have hX:∀id r,(⟨w,M0,κ⟩:Ctx).κ0 (.hp id)=some r→id<c.nh:=fun id r h=>Nat.lt_of_lt_of_le (B.hn id r h) hh;have hrun:=yQ hT hX n true _ _ _ _ _ h R;intro b k cs;obtain⟨e,a',w',he,⟨κ',s,hfin,R'⟩,harr⟩:=hrun b k cs;refine⟨e,a',w',?_,harr⟩;have hS:∀b,(⟨w,M0,κ⟩:Ctx).S b↔∃key lo,(⟨w,M0,κ⟩:Ctx).κ0 key=some (b,lo):=fun b=>Iff.rfl
 obtain⟨κ',s,hfin,R'⟩:∃κ' s,z0o c s∧Rel ⟨w,M0,κ⟩ κ' s a' w':=by
  unfold fin at hfin;rcases zT hfin with⟨-,h⟩|⟨-,h⟩
  ·exact⟨κ',s,h,R'⟩
  ·exact⟨_,_,h,R'.trim hX⟩
 obtain⟨us,xs,h1,h20,h3,h4⟩:=z4Y hS R' hfin;obtain⟨hok,h2,h2'⟩:=zG h20;subst h2;have hres:=z4A h1;have main:a'.defers=[]∧∃v,(results c.fn a'.tmps).run c.P w'=.ok v w'∧(∃v' κ'',Ending.returned v=.returned v'∧z3m w M0 κ c.h' w' κ''∧ResRel w' (Mut M0 κ'') κ'' v' c.rs):=by
  refine⟨R'.defs,_,hres,(if h:us.length=1 then us[0]else .tuple ⟨us⟩),?_⟩;have conv:∀{r:Option Nat} {v:Value} {x:Sv},x.plain=true→RelS w' (Mut M0 (z2d κ' r)) κ' ⟨[],[],0⟩ v x→RelS w' (Mut M0 (z2d κ' r)) (z2d κ' r) ⟨[],[],0⟩ v x:=fun {r v x} hp h=>RelS.conv (κ:=κ') (κ':=z2d κ' r) (.refl _ _) (fun _ _ h=>h) hp h
  have tk0:z8Z s none:=fun _ e=>by cases e
  by_cases h5:us.length=1
  ·obtain⟨u,rfl⟩:=List.length_eq_one_iff.1 h5;obtain⟨x,hx⟩:=List.length_eq_one_iff.1 (h3.symm.trans h5);rw[hx]at h4 ⊢;have h6:=h4 0 u x rfl rfl;cases x with
   |own m xs=>
    obtain⟨q1,r,q2,q3⟩:=h6;exact⟨z2d κ' r,rfl,by rw[←h2'];exact R'.after r hS,q1.keep (wS κ' M0 r),q3⟩
   |wr m xs=>
    obtain⟨r,q1⟩:=h6;exact⟨z2d κ' (some r),rfl,by rw[←h2'];exact R'.after (some r) hS,q1⟩
   |cells cs=>exact h6.elim
   |_=>exact⟨z2d κ' none,rfl,by rw[←h2'];exact R'.after none hS,h6.1,conv (r:=none) h6.1 (h6.2 _ tk0)⟩
  ·obtain⟨ro,tk,hhd⟩:∃ro,z8Z s ro∧∀n ys u,c.rs.head?=some (.own n ys)→us.head?=some u→RightOK w' (z2d κ' ro) (.ar 0) n u ys:=by
    cases hrs:c.rs with
    |nil=>exact⟨none,tk0,fun n ys u h=>by simp at h⟩
    |cons x r=>
     cases x with
     |own n xs=>
      cases us with
      |nil=>rw[hrs]at h3;simp at h3
      |cons u us=>
       obtain⟨-,ro,q2,q3⟩:=h4 0 u (.own n xs) rfl (by rw[hrs];rfl);refine⟨ro,q2,fun n' ys u' e1 e2=>?_⟩;simp at e1 e2;obtain⟨rfl,rfl⟩:=e1;subst e2;exact q3
     |_=>exact⟨none,tk0,fun n ys u h=>by simp at h⟩
   refine⟨z2d κ' ro,rfl,by rw[←h2'];exact R'.after ro hS,?_⟩;rw[dif_neg h5];have hnw:∀(i:Nat) m ys,c.rs[i]?≠some (.wr m ys):=by
    intro i m ys hx;have hl1:c.rs.length≠1:=fun e=>h5 (h3.trans e);have:c.rs.all z9g=true:=by
     revert hok hl1;cases c.rs with
     |nil=>intro h _;exact h
     |cons x r=>cases r with
      |nil=>intro _ h;exact absurd rfl h
      |cons _ _=>intro h _;exact h
    have:=List.all_eq_true.1 this _ (List.mem_of_getElem? hx);simp[z9g]at this
   have:∃vs:List Value,Value.tuple ⟨us⟩=.tuple ⟨vs⟩∧vs.length=c.rs.length∧(∀(i:Nat) u x,vs[i]?=some u→c.rs[i]?=some x→RelR2 w' (Mut M0 (z2d κ' ro)) (z2d κ' ro) u x)∧∀n ys u,c.rs.head?=some (.own n ys)→vs.head?=some u→RightOK w' (z2d κ' ro) (.ar 0) n u ys:=by
    refine⟨us,rfl,h3,fun i u x hu hx=>?_,hhd⟩;have h6:=h4 i u x hu hx;cases x with
    |own m xs=>exact h6.1.keep (wS κ' M0 ro)
    |wr m xs=>exact absurd hx (hnw i m xs)
    |cells cs=>exact h6.elim
    |_=>exact⟨h6.1,conv (r:=ro) h6.1 (h6.2 _ tk)⟩
   clear hhd;revert this h3;cases c.rs with
   |nil=>exact fun _ h=>h
   |cons x r=>cases r with
    |nil=>intro h;exact absurd h h5
    |cons y r=>exact fun _ h=>h
 rcases he with rfl|rfl
 ·exact main
 ·exact main
end Nt

