import Derived.Test.YtcpblelppecabaaGreatPlain1
namespace Go.Proofs.YtcpblelppecabaaGreat.M
open Go Nt
set_option linter.unusedVariables false
set_option linter.unusedSimpArgs false
set_option linter.unusedSectionVars false
theorem ModOk.fn{m d:zA}(h:ModOk m){k:Nat}(hd':m.L[k]?=some d)(hk:d.K=33):∃ps r b,w1y m d ps r b:=by
 cases h.2.2.2.2 k d hd' with
 |fn ps r b h=>exact⟨ps,r,b,h⟩
 |rcd h _ _=>exact absurd (h.1.symm.trans hk) (by decide)
 |var _ h _ _ _=>omega
 |con _ h _ _ _ _=>omega
theorem ModOk.rcd{m d:zA}(h:ModOk m){k:Nat}(hd':m.L[k]?=some d)(hk:d.K=30):Good m ⟨4,k,[],[],0,0⟩:=by
 cases h.2.2.2.2 k d hd' with
 |fn _ _ _ h=>have:=h.K;omega
 |rcd _ h _=>exact h
 |var _ h _ _ _=>omega
 |con _ h _ _ _ _=>omega
theorem ModOk.con{m d x:zA}(h:ModOk m){k:Nat}(hd':m.L[k]?=some d)(hk:d.K=31)(hx:d.L=[x])(h6:x.K=6):x.N=0∨x.N=1:=by
 cases h.2.2.2.2 k d hd' with
 |fn _ _ _ h=>have:=h.K;omega
 |rcd h _ _=>exact absurd (h.1.symm.trans hk) (by decide)
 |var _ h _ _ _=>omega
 |con y _ hy _ h _=>rw[hx]at hy;injection hy with hy;subst hy;omega
theorem ModOk.vartype{m d:zA}(h:ModOk m){k:Nat}(hd':m.L[k]?=some d)(hk:d.K=32):∃x,d.L=[x]∧Good m x:=by
 cases h.2.2.2.2 k d hd' with
 |fn _ _ _ h=>have:=h.K;omega
 |rcd h _ _=>exact absurd (h.1.symm.trans hk) (by decide)
 |var x _ h1 h2 _=>exact⟨x,h1,h2⟩
 |con _ h _ _ _ _=>omega
theorem HasR.nat{m d:zA}{n kind:Int}(h:HasR m n kind d):∃k:Nat,n=k∧m.L[k]?=some d∧d.K=kind:=⟨n.toNat,by have:=h.1;omega,h.2.1,h.2.2.1⟩
theorem y4X{l:List Value}{k:Nat}(h:k<l.length):z5j l k=some (l[l.length-1-k]'(by omega)):=by
 unfold z5j;rw[zq0 (by omega)];show l.reverse[k]?=_;rw[List.getElem?_reverse h];exact List.getElem?_eq_getElem (by omega)
theorem v2T{l:List Value}{k:Nat}(h:k<l.length)(hl:l.length≤1000000000):idx l (IntKind.wrap .i64 (IntKind.wrap .i64 ((l.length:Int)-1)-k))=some (l[l.length-1-k]'(by omega)):=by
 have e:IntKind.wrap .i64 (IntKind.wrap .i64 ((l.length:Int)-1)-k)=((l.length-1-k:Nat):Int):=by
  rw[z0y (n:=(l.length:Int)-1) (by omega) (by omega),z0y (by omega) (by omega)];omega
 rw[e];exact wG (by omega)
theorem y2r{l:List Value}{k:Nat}:v0x l k=l[k]?:=by unfold v0x;rw[zq0 (by omega)];rfl
theorem StOk.locals_le{m:zA}{N:Int}{Γ:List zA}{s:State}(h:StOk m N Γ s):s.Locals.length≤1000000000:=by have:=h.room;have:=h.fuel0;omega
theorem v2J{m τ x:zA}{v y:Value}{i:Nat}(h:Fit m τ v)(hx:(vY m τ)[i]?=some x)(hy:v.L[i]?=some y):Fit m x y:=h.inv.2.2.2 i x y hx hy
theorem y2x{m τ x:zA}(hk:τ.K=3)(hL:τ.L=[x]):vY m τ=List.replicate τ.N.toNat x:=by
 unfold vY;rw[zq1 hk];unfold hd;rw[hL];rfl
theorem y2z{m τ d:zA}{k:Nat}(hk:τ.K=4)(hN:τ.N=k)(hd':m.L[k]?=some d):vY m τ=d.L.map hd:=by
 unfold vY;rw[zq0 (by omega),zq1 hk,hN];show(match m.L[k]? with|some d=>d.L.map hd|none=>[])=_;rw[hd']
theorem v8y{m τ:zA}{v:Value}(h:Fit m τ v)(hk:τ.K=2):v.N=0∨v.N=1:=h.inv.2.1.1 hk
theorem w0t{m τ:zA}(hk:τ.K=1)(hL:τ.L=[])(n:Int):Fit m τ ⟨n,[]⟩:=
 .mk _ _ ⟨1,by rw[wS];unfold wO;rw[zq1 hk,hL];rfl,by decide⟩ ⟨fun h=>by omega,fun h=>absurd hk h⟩ (by unfold vY;rw[zq0 (by omega),zq0 (by omega)];rfl) fun i x y hx=>by unfold vY at hx;rw[zq0 (by omega),zq0 (by omega)]at hx;simp at hx
theorem v2I{m τ:zA}(hk:τ.K=2)(hL:τ.L=[])(n:Int)(hn:n=0∨n=1):Fit m τ ⟨n,[]⟩:=
 .mk _ _ ⟨1,by rw[wS];unfold wO;rw[zq0 (by omega),zq1 hk,hL];rfl,by decide⟩ ⟨fun _=>hn,fun _ h=>absurd hk h⟩ (by unfold vY;rw[zq0 (by omega),zq0 (by omega)];rfl) fun i x y hx=>by unfold vY at hx;rw[zq0 (by omega),zq0 (by omega)]at hx;simp at hx
theorem v5R{m τ:zA}{v:Value}(h:Fit m τ v)(hk:τ.K=1∨τ.K=2):v.L=[]:=by
 have:=h.inv.2.2.1;unfold vY at this;rw[zq0 (by omega),zq0 (by omega)]at this;exact List.length_eq_zero_iff.1 this.symm
theorem v8x{m τ σ:zA}{v:Value}(h:Fit m τ v)(hk:τ.K=2)(hk':σ.K=2)(hL:σ.L=[]):Fit m σ v:=by
 have e:v=⟨v.N,[]⟩:=y2M rfl (v5R h (.inr hk));rw[e];exact v2I hk' hL _ (v8y h hk)
theorem v8v (m:zA) (hm:ModOk m) (hms:zH m≤100000000) (hmw:zA.Wf m) (f:Nat) (CE:y8l m f) (CL:w1n m f) (CC:w1m m f) (N:Int) (Γ:List zA) (t τ:zA) (s s1:State) (hpay:z1s s=some s1) (hk1:s1.Kind=0)
  (hT:TE m Γ t τ) (hw:zA.Wf t) (hts:zH t≤100000000) (hst:StOk m N Γ s1) (hf:s1.Fuel≤f):
  ∃o s',Run m (z1w m t s1) o s'∧zL m s t=some ⟨o.v,s'⟩∧StOk m N Γ s'∧s'.Fuel≤s1.Fuel∧w1o m τ o s':=by
 have hwN:=hw.N_;have hml:=vK m;cases hT with
 |alone _ _ hS hF hTo hL h16 hA=>
  have ret:∀(v:Value) (s':State),s'.Kind=0→Fit m τ v→VW v→w1o m τ (oV v) s':=fun v s' h1 h2 h3=>.inl ⟨h1,h2,h3⟩;cases hA with
  |num k=>
   refine⟨oN t.N,s1,by unfold z1w;rw[zq1 (.inl k)];exact .ret _ _,?_,hst,Int.le_refl _,ret _ _ hk1 (y6M m t.N) (y0O hwN)⟩;rw[jC];unfold uD;rw[hpay,zB,zq1 hk1,zq1 k];rfl
  |tru k hN=>
   refine⟨oN t.N,s1,by unfold z1w;rw[zq1 (.inr k)];exact .ret _ _,?_,hst,Int.le_refl _,ret _ _ hk1 (z7T m t.N hN) (y0O hwN)⟩;rw[jC];unfold uD;rw[hpay,zB,zq1 hk1,zq0 (by omega),zq1 k];rfl
  |loc n x k hN hn hx=>
   have hll:=hst.ll;have hlt:n<s1.Locals.length:=by omega
   have hlt':s1.Locals.length-1-n<s1.Locals.length:=by omega
   refine⟨oV s1.Locals[s1.Locals.length-1-n],s1,?_,?_,hst,Int.le_refl _,ret _ _ hk1 (y4W (hst.lf (s1.Locals.length-1-n) x _ (by rw[hll];exact hx) (List.getElem?_eq_getElem hlt'))) (hst.lw _ (List.getElem_mem hlt'))⟩
   ·unfold z1w;rw[zq0 (by omega),zq1 k,hN,y4X hlt];exact .ret _ _
   ·rw[jC];unfold uD;rw[hpay,zB,zq1 hk1,zq0 (by omega),zq0 (by omega),zq1 k,hN,v2T hlt hst.locals_le];rfl
  |coni d x k hd' hx h5=>
   obtain⟨n,hN,hdn,-⟩:=hd'.nat;have hxw:zA.Wf x:=(hmw.L_.2 _ (List.mem_of_getElem? hdn)).L_.2 x (by rw[hx];exact List.mem_singleton_self x);refine⟨oN x.N,s1,?_,?_,hst,Int.le_refl _,ret _ _ hk1 (y6M m x.N) (y0O hxw.N_)⟩
   ·unfold z1w;rw[zq0 (by omega),zq0 (by omega),zq0 (by omega),zq1 k,hN];show Run m (P.opt m.L[n]? _) _ _;rw[hdn];show Run m (P.opt d.L[0]? _) _ _;rw[hx];exact .ret _ _
   ·rw[jC];unfold uD;rw[hpay,zB,zq1 hk1,zq0 (by omega),zq0 (by omega),zq0 (by omega),zq0 (by omega),zq1 k,hN,z6c,hdn,zB,hx];rfl
  |conb d x k hd' hx h6=>
   obtain⟨n,hN,hdn,hdk⟩:=hd'.nat;have hxw:zA.Wf x:=(hmw.L_.2 _ (List.mem_of_getElem? hdn)).L_.2 x (by rw[hx];exact List.mem_singleton_self x);refine⟨oN x.N,s1,?_,?_,hst,Int.le_refl _,ret _ _ hk1 (z7T m x.N (hm.con hdn hdk hx h6)) (y0O hxw.N_)⟩
   ·unfold z1w;rw[zq0 (by omega),zq0 (by omega),zq0 (by omega),zq1 k,hN];show Run m (P.opt m.L[n]? _) _ _;rw[hdn];show Run m (P.opt d.L[0]? _) _ _;rw[hx];exact .ret _ _
   ·rw[jC];unfold uD;rw[hpay,zB,zq1 hk1,zq0 (by omega),zq0 (by omega),zq0 (by omega),zq0 (by omega),zq1 k,hN,z6c,hdn,zB,hx];rfl
  |glob d x k hd' hx=>
   obtain⟨n,hN,hdn,hdk⟩:=hd'.nat;have hlt:n<s1.Globals.length:=by rw[hst.gl];exact(List.getElem?_eq_some_iff.1 hdn).1
   have hg:=List.getElem?_eq_getElem hlt;refine⟨oV s1.Globals[n],s1,?_,?_,hst,Int.le_refl _,ret _ _ hk1 (y4W (hst.gf n d x _ hdn hdk hx hg)) (hst.gw _ (List.getElem_mem hlt))⟩
   ·unfold z1w;rw[zq0 (by omega),zq0 (by omega),zq1 k,hN,y2r,hg];exact .ret _ _
   ·rw[jC];unfold uD;rw[hpay,zB,zq1 hk1,zq0 (by omega),zq0 (by omega),zq0 (by omega),zq1 k,hN,wG hlt];rfl
  |read k=>
   by_cases c:s1.At≥(s1.Input.length:Int)
   ·refine⟨o0,z8J 3 s1,?_,?_,hst.same rfl rfl rfl rfl rfl rfl hst.rt,Int.le_refl _,.inr ⟨.inl rfl,rfl⟩⟩
    ·unfold z1w;rw[zq0 (by omega),zq0 (by omega),zq0 (by omega),zq0 (by omega),zq1 k,zq1 c];exact .ret _ _
    ·rw[jC];unfold uD;rw[hpay,zB,zq1 hk1,zq0 (by omega),zq0 (by omega),zq0 (by omega),zq0 (by omega),zq0 (by omega),zq1 k,zq1 c];rfl
   ·have h0:=hst.at0;have hil:=hst.inl;obtain⟨n,hn⟩:∃n:Nat,s1.At=n:=⟨s1.At.toNat,by omega⟩;have hlt:n<s1.Input.length:=by omega
    have hg:=List.getElem?_eq_getElem hlt;have st':StOk m N Γ {s1 with At:=s1.At+1}:={hst with at0:=by simp only;omega,at1:=by simp only;omega};refine⟨oN s1.Input[n],{s1 with At:=s1.At+1},?_,?_,st',Int.le_refl _,ret _ _ hk1 (y6M m _) (y0O (hst.inw _ (List.getElem_mem hlt)))⟩
    ·unfold z1w;rw[zq0 (by omega),zq0 (by omega),zq0 (by omega),zq0 (by omega),zq1 k,zq0 c,hn];show Run m (P.opt s1.Input[n]? _) _ _;rw[hg];exact .ret _ _
    ·rw[jC];unfold uD;rw[hpay,zB,zq1 hk1,zq0 (by omega),zq0 (by omega),zq0 (by omega),zq0 (by omega),zq0 (by omega),zq1 k,zq0 c,z0y (n:=s1.At+1) (by omega) (by omega),z0y (by omega) (by omega),show s1.At+1-1=(n:Int)by omega,wG hlt];rfl
 |rule _ _ p hS hF hTo hne hpl hP hR=>
  have hsub:∀x∈t.L,zA.Wf x∧zH x≤100000000:=fun x hx=>⟨hw.L_.2 x hx,by have:=zS hx;omega⟩;by_cases k10:t.K=10
  ·cases hR with
   |un _ k _ _=>omega
   |index _ _ _ k _ _ _ _ _=>omega
   |field _ _ _ k _ _ _ _=>omega
   |make _ k _ _=>omega
   |call _ _ _ _ k _ _ _=>omega
   |list _ _ k _ _ _=>omega
   |bin ta tb _ k hp h2=>
    obtain⟨a,b,hL⟩:∃a b,t.L=[a,b]:=w0H (by rw[←hpl,hp];rfl);have hTa:TE m Γ a ta:=hP 0 a ta (by rw[hL];rfl) (by rw[hp];rfl);have hTb:TE m Γ b tb:=hP 1 b tb (by rw[hL];rfl) (by rw[hp];rfl);obtain⟨wa,sa⟩:=hsub a (by rw[hL];simp);obtain⟨wb,sb⟩:=hsub b (by rw[hL];simp);obtain⟨oa,s2,hG,hM,hs2,hf2,-,hE⟩:=CE N Γ a ta s1 hTa wa sa hst (.inl hk1) hf;have mod:∀r,(if s2.Kind=0 then
       if t.N=2 then
        if oa.v.N=0 then z1r 0 s2>>=fun q3=>some q3
        else some b>>=fun x2=>zL m s2 x2>>=fun q9=>if q9.S.Kind=0 then some q9 else some q9
       else
       if t.N=1 then
        if oa.v.N=0 then some b>>=fun x3=>zL m s2 x3>>=fun q14=>if q14.S.Kind=0 then some q14 else some q14
        else z1r 1 s2>>=fun q13=>some q13
       else
       some b>>=fun x4=>zL m s2 x4>>=fun q18=>if q18.S.Kind=0 then z2m t.N oa.v.N q18.V.N>>=fun q19=>if q19.2=0 then z1r q19.1 q18.S>>=fun q21=>some q21 else z0v q19.2 q18.S>>=fun q20=>some q20 else some q18
      else z2o s2>>=fun q2=>some q2)=r→zL m s t=r:=fun r hr=>by
     rw[jC];unfold uD;rw[hpay,zB,zq1 hk1,zq0 (by omega),zq0 (by omega),zq0 (by omega),zq0 (by omega),zq0 (by omega),zq0 (by omega),zq1 k10];rw[v5t];unfold z5G;rw[hL,show idx [a,b] 0=some a from rfl,show idx [a,b] 1=some b from rfl,zB,hM,zB];simp only at hr ⊢;rw[hr];cases r<;>rfl
    have run:∀o s',Run m (.on s2 o0
      (if t.N=2∧oa.v.N=0 then .ret (oN 0) s2 else if t.N=1∧oa.v.N≠0 then .ret (oN 1) s2 else
       .call (.E b) s2 fun p s=>.on s (oV p.v) (if t.N=1∨t.N=2 then .ret (oV p.v) s else .opt (z2m t.N oa.v.N p.v.N) fun q=>if q.2=0 then .ret (oN q.1) s else .ret o0 (z8J q.2 s)))) o s'→Run m (z1w m t s1) o s':=fun o s' hr=>by
     unfold z1w;rw[zq0 (by omega),zq0 (by omega),zq0 (by omega),zq0 (by omega),zq0 (by omega),zq1 k10,hL];exact .call _ _ _ oa s2 _ _ hG hr
    rcases hE with⟨hk2,hFa,hWa⟩|⟨hk2,rfl⟩
    ·have more:(¬(t.N=2∧oa.v.N=0))→(¬(t.N=1∧oa.v.N≠0))→∃ob s3,G m (.E b) s2 ob s3∧zL m s2 b=some ⟨ob.v,s3⟩∧StOk m N Γ s3∧s3.Fuel≤s2.Fuel∧w1o m tb ob s3 ∧
       (∀o s',Run m (.on s3 (oV ob.v) (if t.N=1∨t.N=2 then .ret (oV ob.v) s3 else .opt (z2m t.N oa.v.N ob.v.N) fun q=>if q.2=0 then .ret (oN q.1) s3 else .ret o0 (z8J q.2 s3))) o s'→Run m (z1w m t s1) o s'):=fun c1 c2=>by
      obtain⟨ob,s3,hG',hM',hs3,hf3,-,hE'⟩:=CE N Γ b tb s2 hTb wb sb hs2 (.inl hk2) (by omega);refine⟨ob,s3,hG',hM',hs3,hf3,hE',fun o s' hr=>run o s' ?_⟩;rw[run_on];refine .inl ⟨hk2,?_⟩;rw[zq0 c1,zq0 c2];exact .call _ _ _ ob s3 _ _ hG' hr
     by_cases n12:t.N=1∨t.N=2
     ·have hlog:τ=y4z∧(ta.K=2∧ta.L=[])∧(tb.K=2∧tb.L=[]):=by
       cases h2 with
       |logic _ x y=>exact⟨rfl,x,y⟩
       |eqi h _ _=>omega
       |eqb h _ _=>omega
       |less h _ _ _=>omega
       |num h _ _=>omega
      obtain⟨rfl,⟨ka,la⟩,⟨kb,lb⟩⟩:=hlog;by_cases c1:t.N=2∧oa.v.N=0
      ·refine⟨oN 0,s2,run _ _ ?_,mod _ ?_,hs2,by omega,.inl ⟨hk2,z7T m 0 (.inl rfl),w1j⟩⟩
       ·rw[run_on];refine .inl ⟨hk2,?_⟩;rw[zq1 c1];exact .ret _ _
       ·rw[zq1 hk2,zq1 c1.1,zq1 c1.2];rfl
      by_cases c2:t.N=1∧oa.v.N≠0
      ·refine⟨oN 1,s2,run _ _ ?_,mod _ ?_,hs2,by omega,.inl ⟨hk2,z7T m 1 (.inr rfl),y0O (by rw[i64_iff];omega)⟩⟩
       ·rw[run_on];refine .inl ⟨hk2,?_⟩;rw[zq0 c1,zq1 c2];exact .ret _ _
       ·rw[zq1 hk2,zq0 (by omega),zq1 c2.1,zq0 c2.2];rfl
      obtain⟨ob,s3,hG',hM',hs3,hf3,hE',hrun⟩:=more c1 c2;refine⟨oV ob.v,s3,hrun _ _ ?_,mod _ ?_,hs3,by omega,?_⟩
      ·rw[run_on];by_cases hk3:s3.Kind=0
       ·refine .inl ⟨hk3,?_⟩;rw[zq1 n12];exact .ret _ _
       ·exact .inr ⟨hk3,rfl,rfl⟩
      ·rw[zq1 hk2];by_cases n2:t.N=2
       ·rw[zq1 n2,zq0 (fun e=>c1 ⟨n2,e⟩),zB,hM',zB,ite_self]
       ·rw[zq0 n2,zq1 (by omega),zq1 (Classical.byContradiction fun e=>c2 ⟨by omega,e⟩),zB,hM',zB,ite_self]
      ·rcases hE' with⟨h1,h2,h3⟩|⟨h1,rfl⟩
       ·exact .inl ⟨h1,v8x h2 kb rfl rfl,h3⟩
       ·exact .inr ⟨h1,rfl⟩
     ·obtain⟨ob,s3,hG',hM',hs3,hf3,hE',hrun⟩:=more (by omega) (by omega);have mod':∀r,(if s3.Kind=0 then z2m t.N oa.v.N ob.v.N>>=fun q19=>if q19.2=0 then z1r q19.1 s3>>=fun q21=>some q21 else z0v q19.2 s3>>=fun q20=>some q20 else some ⟨ob.v,s3⟩)=r→zL m s t=r:=fun r hr=>mod r (by
       rw[zq1 hk2,zq0 (by omega),zq0 (by omega),zB,hM',zB];exact hr)
      rcases hE' with⟨hk3,hFb,hWb⟩|⟨hk3,rfl⟩
      ·have e2:=y2F t.N oa.v.N ob.v.N (z9K hWa.N_) (z9K hWb.N_);have hi:=w1g t.N oa.v.N ob.v.N hWa.N_ hWb.N_;by_cases cz:(v6p t.N oa.v.N ob.v.N).2=0
       ·refine⟨oN (v6p t.N oa.v.N ob.v.N).1,s3,hrun _ _ ?_,mod' _ ?_,hs3,by omega,.inl ⟨hk3,?_,y0O hi⟩⟩
        ·rw[run_on];refine .inl ⟨hk3,?_⟩;rw[zq0 n12,e2];show Run m (if _ then _ else _) _ _;rw[zq1 cz];exact .ret _ _
        ·rw[zq1 hk3,e2,zB,zq1 cz];rfl
        ·cases h2 with
         |logic h _ _=>exact absurd h n12
         |eqi h _ _=>exact z7T m _ (y7t _ _ _ (by omega)).2
         |eqb h _ _=>exact z7T m _ (y7t _ _ _ (by omega)).2
         |less h h' _ _=>exact z7T m _ (y7t _ _ _ (by omega)).2
         |num h _ _=>exact y6M m _
       ·refine⟨o0,z8J (v6p t.N oa.v.N ob.v.N).2 s3,hrun _ _ ?_,mod' _ ?_,hs3.same rfl rfl rfl rfl rfl rfl hs3.rt,by show s3.Fuel≤_;omega,.inr ⟨.inl rfl,rfl⟩⟩
        ·rw[run_on];refine .inl ⟨hk3,?_⟩;rw[zq0 n12,e2];show Run m (if _ then _ else _) _ _;rw[zq0 cz];exact .ret _ _
        ·rw[zq1 hk3,e2,zB,zq0 cz];rfl
      ·refine⟨o0,s3,hrun _ _ ?_,mod' _ ?_,hs3,by omega,.inr ⟨hk3,rfl⟩⟩
       ·rw[run_on];exact .inr ⟨by omega,rfl,rfl⟩
       ·rw[zq0 (by omega)]
    ·refine⟨o0,s2,run _ _ ?_,mod _ ?_,hs2,by omega,.inr ⟨hk2,rfl⟩⟩
     ·rw[run_on];exact .inr ⟨by omega,rfl,rfl⟩
     ·rw[zq0 (by omega)];rfl
  ·obtain⟨ol,s2,hG,hM0,hs2,hf2,hkk,hll,hF⟩:=CL N Γ t.L p s1 hP hpl hsub hst (.inl hk1) hf;have htl:=vK t;have hM:gM m s1 t.L=some (ol.l,s2):=by
    rw[v3r];unfold z4w;have:=hM0 t.L [] 0 ⟨[],[],[],0,[],0,0,0,⟨0,[]⟩⟩ rfl (by omega) rfl (by omega);simpa using this
   have kinds:(t.K=11∨t.K=12∨t.K=13∨t.K=14∨t.K=15∨t.K=16):=by
    cases hR<;>omega
   have run:∀o s',Run m (.on s2 o0
     (if t.K=11 then .opt ol.l[0]? fun v=>.opt (z1D t.N v.N) fun n=>.ret (oN n) s2
      else if t.K=12 then .opt ol.l[0]? fun v=>.opt ol.l[1]? fun i=>if i.N<0∨i.N≥(v.L.length:Int)then .ret o0 (z8J 2 s2)else .opt v.L[i.N.toNat]? fun x=>.ret (oV x) s2
      else if t.K=13 then .opt ol.l[0]? fun v=>.opt v.L[(Int.tmod t.N 64).toNat]? fun x=>.ret (oV x) s2
      else if t.K=16 then .call (.C t.N ol.l) s2 fun o s=>.ret (oV o.v) s
      else .ret (oV ⟨0,ol.l⟩) s2)) o s'→Run m (z1w m t s1) o s':=fun o s' hr=>by
    unfold z1w;rw[zq0 (by omega),zq0 (by omega),zq0 (by omega),zq0 (by omega),zq0 (by omega),zq0 k10];exact .call _ _ _ ol s2 _ _ hG hr
   have mod:∀r,(if s2.Kind=0 then
      if t.K=11 then idx ol.l 0>>=fun x15=>z1D t.N x15.N>>=fun q20=>z1r q20 s2>>=fun q21=>some q21
      else if t.K=12 then idx ol.l 1>>=fun x16=>if x16.N<0 then z0v 2 s2>>=fun q22=>some q22 else
       idx ol.l 1>>=fun x17=>idx ol.l 0>>=fun x18=>if x17.N≥(List.length x18.L:Int)then z0v 2 s2>>=fun q23=>some q23 else
       idx ol.l 0>>=fun x19=>idx ol.l 1>>=fun x20=>idx x19.L x20.N>>=fun x21=>some (Ref21Got.mk x21 s2)
      else if t.K=13 then idx ol.l 0>>=fun x22=>if 64≠(0:Int)then idx x22.L (Int.tmod t.N 64)>>=fun x23=>some (Ref21Got.mk x23 s2)else none
      else if t.K=16 then uC m s2 t.N ol.l>>=fun q24=>some q24
      else some (Ref21Got.mk (Value.mk 0 ol.l) s2)
     else z2o s2>>=fun q19=>some q19)=r→zL m s t=r:=fun r hr=>by
    rw[jC];unfold uD;rw[hpay,zB,zq1 hk1,zq0 (by omega),zq0 (by omega),zq0 (by omega),zq0 (by omega),zq0 (by omega),zq0 (by omega),zq0 k10,hM,zB];exact hr
   by_cases hk2:s2.Kind=0
   ·have hF:=hF hk2;have run:∀o s',Run m (if t.K=11 then .opt ol.l[0]? fun v=>.opt (z1D t.N v.N) fun n=>.ret (oN n) s2
      else if t.K=12 then .opt ol.l[0]? fun v=>.opt ol.l[1]? fun i=>if i.N<0∨i.N≥(v.L.length:Int)then .ret o0 (z8J 2 s2)else .opt v.L[i.N.toNat]? fun x=>.ret (oV x) s2
      else if t.K=13 then .opt ol.l[0]? fun v=>.opt v.L[(Int.tmod t.N 64).toNat]? fun x=>.ret (oV x) s2
      else if t.K=16 then .call (.C t.N ol.l) s2 fun o s=>.ret (oV o.v) s
      else .ret (oV ⟨0,ol.l⟩) s2) o s'→Run m (z1w m t s1) o s':=fun o s' hr=>run o s' (run_on.2 (.inl ⟨hk2,hr⟩))
    have val:∀(i:Nat) y,p[i]?=some y→∃v,ol.l[i]?=some v∧idx ol.l i=some v∧Fit m y v∧VW v:=fun i y hy=>by
     have hlt:i<ol.l.length:=by have:=(List.getElem?_eq_some_iff.1 hy).1;omega
     have g:=List.getElem?_eq_getElem hlt;obtain⟨h1,h2⟩:=hF i y _ hy g;exact⟨_,g,by rw[z6c];exact g,h1,h2⟩
    have allw:∀v∈ol.l,VW v:=fun v hv=>by
     obtain⟨i,hi⟩:=List.getElem?_of_mem hv;have hlt:=(List.getElem?_eq_some_iff.1 hi).1;exact(hF i _ v (List.getElem?_eq_getElem (by omega)) hi).2
    cases hR with
    |bin _ _ _ k _ _=>exact absurd k k10
    |un a k hp hN=>
     obtain⟨v,g1,g2,hFv,hWv⟩:=val 0 τ (by rw[hp];rfl);have g2:idx ol.l 0=some v:=g2;refine⟨oN (v7N t.N v.N),s2,run _ _ ?_,mod _ ?_,hs2,hf2,.inl ⟨hk2,?_,?_⟩⟩
     ·rw[zq1 k,g1];show Run m (P.opt (z1D t.N v.N) _) _ _;rw[y0t];exact .ret _ _
     ·rw[zq1 hk2,zq1 k,g2,zB,y0t];rfl
     ·rcases hN with⟨n1,h1,h2⟩|⟨n2,h1,h2⟩
      ·exact w0t h1 h2 _
      ·refine v2I h1 h2 _ ?_;unfold v7N;rw[zq0 (by omega),zq1 n2];exact v1v _
     ·refine y0O ?_;unfold v7N;split
      ·exact z4I _
      split
      ·exact v0k _
      ·rw[i64_iff];omega
    |index a b x k hp ka la kb lb=>
     obtain⟨v,g1,g2,hFv,hWv⟩:=val 0 a (by rw[hp];rfl);obtain⟨w,g3,g4,hFw,hWw⟩:=val 1 b (by rw[hp];rfl);have g2:idx ol.l 0=some v:=g2;have g4:idx ol.l 1=some w:=g4;by_cases c:w.N<0∨w.N≥(v.L.length:Int)
     ·refine⟨o0,z8J 2 s2,run _ _ ?_,mod _ ?_,hs2.same rfl rfl rfl rfl rfl rfl hs2.rt,hf2,.inr ⟨.inl rfl,rfl⟩⟩
      ·rw[zq0 (by omega),zq1 k,g1];show Run m (P.opt ol.l[1]? _) _ _;rw[g3];show Run m (if _ then _ else _) _ _;rw[zq1 c];exact .ret _ _
      ·rw[zq1 hk2,zq0 (by omega),zq1 k,g4,zB];by_cases c1:w.N<0
       ·rw[zq1 c1];rfl
       ·rw[zq0 c1,zB,g2,zB,zq1 (by omega)];rfl
     ·obtain⟨y,ey,hy⟩:=y6O (l:=v.L) (n:=w.N) (by omega) (by omega);refine⟨oV y,s2,run _ _ ?_,mod _ ?_,hs2,hf2,.inl ⟨hk2,?_,hWv.L_.2 y (List.mem_of_getElem? hy)⟩⟩
      ·rw[zq0 (by omega),zq1 k,g1];show Run m (P.opt ol.l[1]? _) _ _;rw[g3];show Run m (if _ then _ else _) _ _;rw[zq0 c,hy];exact .ret _ _
      ·rw[zq1 hk2,zq0 (by omega),zq1 k,g4,zB,zq0 (by omega),zB,g2,zB,zq0 (by omega),zB,zB,ey];rfl
      ·refine v2J (i:=w.N.toNat) hFv ?_ hy;have hpl':=hFv.inv.2.2.1;rw[y2x ka la]at hpl' ⊢;rw[List.length_replicate]at hpl';exact List.getElem?_replicate_of_lt (by omega)
    |field a x n k hp ka la hfr=>
     obtain⟨v,g1,g2,hFv,hWv⟩:=val 0 a (by rw[hp];rfl);have g2:idx ol.l 0=some v:=g2;obtain⟨d,fd,k',i,e1,e2,e3,e4,e5,e6,e7⟩:=hfr;have em:Int.tmod t.N 64=(i:Int):=by rw[Int.tmod_eq_emod_of_nonneg (by omega)];omega
     have hpp:=y2z ka e1 e2;have hpl':=hFv.inv.2.2.1;have hid:=(List.getElem?_eq_some_iff.1 e4).1;have hlt:i<v.L.length:=by rw[←hpl',hpp,zq3];exact hid
     have gy:=List.getElem?_eq_getElem hlt;have hdx:hd fd=x:=by unfold hd;rw[e5];rfl
     refine⟨oV v.L[i],s2,run _ _ ?_,mod _ ?_,hs2,hf2,.inl ⟨hk2,y4W (v2J (i:=i) hFv ?_ gy),hWv.L_.2 _ (List.getElem_mem hlt)⟩⟩
     ·rw[zq0 (by omega),zq0 (by omega),zq1 k,g1];show Run m (P.opt v.L[(Int.tmod t.N 64).toNat]? _) _ _;rw[em];show Run m (P.opt v.L[i]? _) _ _;rw[gy];exact .ret _ _
     ·rw[zq1 hk2,zq0 (by omega),zq0 (by omega),zq1 k,g2,zB,zq1 (by decide),em,wG hlt];rfl
     ·rw[hpp,List.getElem?_map,e4,Option.map_some,hdx]
    |make d k hd' hfit=>
     obtain⟨n,hN,hdn,hdk⟩:=hd'.nat;have hg:=hm.rcd hdn hdk;have hpp:=y2z (m:=m) (τ:=⟨4,t.N,[],[],0,0⟩) rfl hN hdn;refine⟨oV ⟨0,ol.l⟩,s2,run _ _ ?_,mod _ ?_,hs2,hf2,.inl ⟨hk2,.mk _ _ (by rw[hN];exact hg) ⟨fun _=>.inl rfl,fun _ _=>rfl⟩ ?_ ?_,.mk _ (by rw[i64_iff];simp) (by simp only;omega) allw⟩⟩
     ·rw[zq0 (by omega),zq0 (by omega),zq0 (by omega),zq0 (by omega)];exact .ret _ _
     ·rw[zq1 hk2,zq0 (by omega),zq0 (by omega),zq0 (by omega),zq0 (by omega)]
     ·rw[hpp,zq3];simp only;rw[←hfit.1];omega
     ·intro i x y hx hy;rw[hpp,List.getElem?_map]at hx;obtain⟨q,hq,rfl⟩:=Option.map_eq_some_iff.1 hx;have hlt:i<p.length:=by rw[hfit.1];exact(List.getElem?_eq_some_iff.1 hq).1
      have gp:=List.getElem?_eq_getElem hlt;obtain⟨z,hz,hb⟩:=hfit.2 i _ q gp hq;have:hd q=z:=by unfold hd;rw[hz];rfl
      rw[this];exact(hF i _ y gp hy).1.congr z hb
    |list a r k hp hall hg=>
     refine⟨oV ⟨0,ol.l⟩,s2,run _ _ ?_,mod _ ?_,hs2,hf2,.inl ⟨hk2,.mk _ _ hg ⟨fun _=>.inl rfl,fun _ _=>rfl⟩ ?_ ?_,.mk _ (by rw[i64_iff];simp) (by simp only;omega) allw⟩⟩
     ·rw[zq0 (by omega),zq0 (by omega),zq0 (by omega),zq0 (by omega)];exact .ret _ _
     ·rw[zq1 hk2,zq0 (by omega),zq0 (by omega),zq0 (by omega),zq0 (by omega)]
     ·rw[y2x (x:=a) rfl rfl,List.length_replicate];simp only;omega
     ·intro i x y hx hy;rw[y2x (x:=a) rfl rfl]at hx;have:=List.eq_of_mem_replicate (List.mem_of_getElem? hx);subst this;simp only at hy;have hlt:i<p.length:=by have:=(List.getElem?_eq_some_iff.1 hy).1;omega
      have gp:=List.getElem?_eq_getElem hlt;exact(hF i _ y gp hy).1.congr _ (hall _ (List.getElem_mem hlt))
    |call d ps r b k hd' hdL hfit=>
     obtain⟨n,hN,hdn,hdk⟩:=hd'.nat;obtain⟨ps',r',b',hfn⟩:=hm.fn hdn hdk;have:=hfn.L;rw[hdL]at this;injection this with e1 this;injection this with e2 this;injection this with e3;subst e1;subst e2;subst e3;obtain⟨oc,s3,hGc,hMc,hs3,hf3,hEc⟩:=CC N Γ n d ps r b ol.l s2 hdn hfn (by rw[hll,←hpl];exact hfit.1) (fun i x v hx hv=>by
      have hlt:i<p.length:=by rw[hfit.1];exact(List.getElem?_eq_some_iff.1 hx).1
      have gp:=List.getElem?_eq_getElem hlt;obtain⟨z,hz,hb⟩:=hfit.2 i _ x gp hx;have:hd x=z:=by unfold hd;rw[hz];rfl
      rw[this];exact(hF i _ v gp hv).1.congr z hb) allw hs2 hk2 (by omega)
     refine⟨oV oc.v,s3,run _ _ ?_,mod _ ?_,hs3,by omega,?_⟩
     ·rw[zq0 (by omega),zq0 (by omega),zq0 (by omega),zq1 k,hN];exact .call _ _ _ oc s3 _ _ hGc (.ret _ _)
     ·rw[zq1 hk2,zq0 (by omega),zq0 (by omega),zq0 (by omega),zq1 k,hN,hMc];rfl
     ·rcases hEc with⟨h1,h2,h3⟩|⟨h1,rfl⟩
      ·exact .inl ⟨h1,y4W h2,h3⟩
      ·exact .inr ⟨h1,rfl⟩
   ·refine⟨o0,s2,run _ _ (run_on.2 (.inr ⟨hk2,rfl,rfl⟩)),mod _ (by rw[zq0 hk2];rfl),hs2,hf2,.inr ⟨by omega,rfl⟩⟩
inductive PathT(m:zA):zA→List Int→zA→Prop
 |nil (τ:zA):PathT m τ [] τ
 |cons (τ:zA) (i:Nat) (y:zA) (w:List Int) (σ:zA):(vY m τ)[i]?=some y→PathT m y w σ→PathT m τ ((i:Int)::w) σ
theorem PathT.snoc{m τ σ x:zA}{w:List Int}(h:PathT m τ w σ){i:Nat}(hx:(vY m σ)[i]?=some x):PathT m τ (w++[(i:Int)]) x:=by
 induction h with
 |nil τ=>exact .cons _ i x [] x hx (.nil x)
 |cons τ j y w σ h1 _ ih=>exact .cons _ j y _ _ h1 (ih hx)
theorem w0w{m τ σ:zA}{w:List Int}(h:PathT m τ w σ):∀v,Fit m τ v→∃g,uR v w=some g∧Fit m σ g:=by
 induction h with
 |nil τ=>
  intro v hv;refine⟨v,?_,hv⟩;rw[y7k];unfold z4u;rw[zq1 (by simp)]
 |cons τ i y w σ h1 _ ih=>
  intro v hv;have hl:=hv.inv.2.2.1;have hlt:=(List.getElem?_eq_some_iff.1 h1).1;have g:=List.getElem?_eq_getElem (l:=v.L) (i:=i) (by omega);obtain⟨x,ex,hx⟩:=ih _ (hv.inv.2.2.2 i y _ h1 g);refine⟨x,?_,hx⟩;rw[y7k];unfold z4u;rw[zq0 (by simp;omega),show idx ((i:Int)::w) 0=some (i:Int)from rfl,zB,z6c,g,zB,zq1 (Nat.le_refl _),zq1 (by omega),zq1 (by simp)];have:List.drop (Int.toNat 1) (List.take (List.length ((i:Int)::w)) ((i:Int)::w))=w:=by simp
  rw[this,ex];rfl
theorem v6j{m τ σ:zA}{w:List Int}(h:PathT m τ w σ):∀v x,Fit m τ v→VW v→Fit m σ x→VW x→∃u,wX v w x=some u∧Fit m τ u∧VW u:=by
 induction h with
 |nil τ=>
  intro v x hv _ hx hw;refine⟨x,?_,hx,hw⟩;rw[y1z];unfold z3k;rw[zq1 (by simp)]
 |cons τ i y w σ h1 _ ih=>
  intro v x hv hvw hx hw;have hl:=hv.inv.2.2.1;have hlt:=(List.getElem?_eq_some_iff.1 h1).1;have hlt':i<v.L.length:=by omega
  have hlen:=hvw.L_.1;obtain⟨u,eu,hu,huw⟩:=ih v.L[i] x (hv.inv.2.2.2 i y _ h1 (List.getElem?_eq_getElem hlt')) (hvw.L_.2 _ (List.getElem_mem hlt')) hx hw;have loop:∀(k j:Nat) (out:List Value) o,j+k=v.L.length→out=(v.L.set i u).take j→wC ((i:Int)::w) out j v x o=some ⟨v.N,v.L.set i u⟩:=by
   intro k;induction k with
   |zero=>
    intro j out o hj ho;rw[y0L];unfold z1p;rw[zq0 (by omega),ho,List.take_of_length_le (by simp;omega)]
   |succ k ihk=>
    intro j out o hj ho;have hjl:j<v.L.length:=by omega
    have hol:out.length=j:=by rw[ho];simp;omega
    rw[y0L];unfold z1p;rw[zq1 (by omega),show idx ((i:Int)::w) 0=some (i:Int)from rfl,zB,wG hjl];by_cases c:j=i
    ·subst c;rw[zq1 rfl,zB,zq1 (Nat.le_refl _),zq1 (by omega),zq1 (by simp)];have:List.drop (Int.toNat 1) (List.take (List.length ((j:Int)::w)) ((j:Int)::w))=w:=by simp
     rw[this,eu,zB,zq1 (jE (by omega) (by simp;omega)),z1G (by omega)];refine ihk (j+1) _ o (by omega) ?_;rw[ho,List.take_succ_eq_append_getElem (by simpa using hjl)];simp
    ·rw[zq0 (by omega),zB,zq1 (jE (by omega) (by simp;omega)),z1G (by omega)];refine ihk (j+1) _ o (by omega) ?_;rw[ho,List.take_succ_eq_append_getElem (by simpa using hjl),List.getElem_set_ne (fun e=>c e.symm)]
  refine⟨⟨v.N,v.L.set i u⟩,?_,?_,?_⟩
  ·rw[y1z];unfold z3k;rw[zq0 (by simp;omega)];exact loop v.L.length 0 [] _ (by omega) (by simp)
  ·refine .mk _ _ hv.inv.1 hv.inv.2.1 (by simpa using hl) fun j a b ha hb=>?_;simp only at hb;rw[List.getElem?_set]at hb;by_cases c:i=j
   ·subst c;rw[zq1 rfl,zq1 hlt']at hb;cases hb;rw[h1]at ha;cases ha;exact hu
   ·rw[zq0 c]at hb;exact hv.inv.2.2.2 j a b ha hb
  ·refine .mk _ hvw.N_ (by simpa using hvw.L_.1) fun z hz=>?_;rcases List.mem_or_eq_of_mem_set hz with h|rfl
   ·exact hvw.L_.2 z h
   ·exact huw
theorem y3s{m t:zA}{s:State}(h:s.Kind≠0):G m (.E t) s o0 s∧zL m s t=some ⟨v0,s⟩:=by
 refine⟨.ended _ _ h,?_⟩;rw[jC];unfold uD z1s;rw[zq0 h,zB,zq0 h];rfl
theorem y8R{m t:zA}{s:State}(h:s.Kind≠0):G m (.S t) s o0 s∧zU m s t=some s:=by
 refine⟨.ended _ _ h,?_⟩;rw[z1b];unfold jR z1s;rw[zq0 h,zB,zq0 h]
theorem w2U(m:zA)(hm:ModOk m)(f:Nat)(CE:y8l m f)(N:Int)(Γ:List zA)(r:zA)(a:zA):∀τ,TE m Γ a τ→zA.Wf a→zH a≤100000000→RootR a r→(r.K=7∨r.K=9) →
  ∃ρr,TE m Γ r ρr∧∀κ kept s,wI κ=wI ρr→Fit m κ kept→StOk m N Γ s→s.Kind=0→s.Fuel≤f→∃o s',G m (.Y a kept) s o s'∧uN m s a kept=some (o.w,s')∧StOk m N Γ s'∧s'.Fuel≤s.Fuel∧(s'.Kind=0∨s'.Kind=2∨s'.Kind=3) ∧
   o.w.length≤zH a∧(∃σ,PathT m κ o.w σ∧(s'.Kind=0→wI σ=wI τ)):=by
 induction a using zA.ind with
 |h a ih=>
  intro τ hT hw hts hR hr;cases hR with
  |here _ hh=>
   refine⟨τ,hT,fun κ kept s hκ hk hs h0 hf=>⟨o0,s,?_,?_,hs,Int.le_refl _,.inl h0,Nat.zero_le _,κ,.nil κ,fun _=>hκ⟩⟩
   ·show Run m (if _ then _ else _) _ _;rw[zq0 (by omega),zq0 (by omega)];exact .ret _ _
   ·rw[y1A];unfold z3n;rw[zq0 (by omega),zq0 (by omega)]
  |down _ x _ l hk hL hR' =>
   have hx:x∈a.L:=by rw[hL];exact List.mem_cons_self ..
   have hxs:=zS hx;have hxw:=hw.L_.2 x hx;cases hT with
   |alone _ _ _ _ _ hL' _ _=>rw[hL]at hL';cases hL'
   |rule _ _ p _ _ _ _ hpl hP hRR=>
    rcases hk with hk|hk
    ·cases hRR with
     |bin _ _ _ k _ _=>omega
     |un _ k _ _=>omega
     |field _ _ _ k _ _ _ _=>omega
     |make _ k _ _=>omega
     |call _ _ _ _ k _ _ _=>omega
     |list _ _ k _ _ _=>omega
     |index ta tb _ k hp ka la kb lb=>
      obtain⟨a',b,hLL⟩:∃a' b,a.L=[a',b]:=w0H (by rw[←hpl,hp];rfl);rw[hLL]at hL;injection hL with e1 e2;subst e1;have hTa:TE m Γ a' ta:=hP 0 a' ta (by rw[hLL];rfl) (by rw[hp];rfl);have hTb:TE m Γ b tb:=hP 1 b tb (by rw[hLL];rfl) (by rw[hp];rfl);have hb:b∈a.L:=by rw[hLL];simp
      have hbs:=zS hb;have h2:=z3S hLL;obtain⟨ρr,hTr,hY⟩:=ih a' hx ta hTa hxw (by omega) hR' hr;refine⟨ρr,hTr,fun κ kept s hκ hkept hs h0 hf=>?_⟩;obtain⟨o1,s1,hG,hM,hs1,hf1,hk1,hwl,σ,hpath,hσ⟩:=hY κ kept s hκ hkept hs h0 hf;have run:∀o s',Run m (.on s1 ⟨v0,[],o1.w⟩ (.call (.E b) s1 fun o s=>.on s ⟨v0,[],o1.w⟩
        (if o.v.N<0 then .ret ⟨v0,[],o1.w⟩ (z8J 2 s)else .opt (uR kept o1.w) fun g=>if o.v.N≥(g.L.length:Int)then .ret ⟨v0,[],o1.w⟩ (z8J 2 s)else .ret ⟨v0,[],o1.w++[o.v.N]⟩ s))) o s'→G m (.Y a kept) s o s':=fun o s' h=>by
       show Run m (if _ then _ else _) _ _;rw[zq1 k,hLL];exact .call _ _ _ o1 s1 _ _ hG h
      have mod:∀r,(if s1.Kind=0 then zL m s1 b>>=fun q7=>if q7.S.Kind=0 then
         if q7.V.N<0 then z0v 2 q7.S>>=fun q8=>some (o1.w,q8.S)
         else uR kept o1.w>>=fun q9=>if q7.V.N≥(List.length q9.L:Int)then z0v 2 q7.S>>=fun q10=>some (o1.w,q10.S)
         else if wN 8 (List.length o1.w+List.length [q7.V.N])then some (o1.w++[q7.V.N],q7.S)else none
        else some (o1.w,q7.S)else some (o1.w,s1))=r→uN m s a kept=r:=fun r h=>by
       rw[y1A];unfold z3n;rw[zq1 k,hLL,show idx [a',b] 0=some a' from rfl,show idx [a',b] 1=some b from rfl,zB,hM,zB];exact h
      by_cases hk1':s1.Kind=0
      ·obtain⟨o2,s2,hG2,hM2,hs2,hf2,-,hE2⟩:=CE N Γ b tb s1 hTb (hw.L_.2 b hb) (by omega) hs1 (.inl hk1') (by omega);have run:∀o s',Run m (.on s2 ⟨v0,[],o1.w⟩
        (if o2.v.N<0 then .ret ⟨v0,[],o1.w⟩ (z8J 2 s2)else .opt (uR kept o1.w) fun g=>if o2.v.N≥(g.L.length:Int)then .ret ⟨v0,[],o1.w⟩ (z8J 2 s2)else .ret ⟨v0,[],o1.w++[o2.v.N]⟩ s2)) o s'→G m (.Y a kept) s o s':=fun o s' h=>run o s' (run_on.2 (.inl ⟨hk1',.call _ _ _ o2 s2 _ _ hG2 h⟩))
       rcases hE2 with⟨hk2,hF2,hW2⟩|⟨hk2,rfl⟩
       ·obtain⟨g,eg,hg⟩:=w0w hpath kept hkept;have run:∀o s',Run m (if o2.v.N<0 then .ret ⟨v0,[],o1.w⟩ (z8J 2 s2)else .opt (uR kept o1.w) fun g=>if o2.v.N≥(g.L.length:Int)then .ret ⟨v0,[],o1.w⟩ (z8J 2 s2)else .ret ⟨v0,[],o1.w++[o2.v.N]⟩ s2) o s'→G m (.Y a kept) s o s':=fun o s' h=>run o s' (run_on.2 (.inl ⟨hk2,h⟩));have tr:StOk m N Γ (z8J 2 s2):=hs2.same rfl rfl rfl rfl rfl rfl hs2.rt;by_cases c1:o2.v.N<0
        ·refine⟨⟨v0,[],o1.w⟩,z8J 2 s2,run _ _ (by rw[zq1 c1];exact .ret _ _),mod _ ?_,tr,by show s2.Fuel≤_;omega,.inr (.inl rfl),by show o1.w.length≤_;omega,σ,hpath,fun h=>absurd h (show ¬(2:Int)=0 by decide)⟩;rw[zq1 hk1',hM2,zB,zq1 hk2,zq1 c1];rfl
        ·by_cases c2:o2.v.N≥(g.L.length:Int)
         ·refine⟨⟨v0,[],o1.w⟩,z8J 2 s2,run _ _ ?_,mod _ ?_,tr,by show s2.Fuel≤_;omega,.inr (.inl rfl),by show o1.w.length≤_;omega,σ,hpath,fun h=>absurd h (show ¬(2:Int)=0 by decide)⟩
          ·rw[zq0 c1,eg];show Run m (if _ then _ else _) _ _;rw[zq1 c2];exact .ret _ _
          ·rw[zq1 hk1',hM2,zB,zq1 hk2,zq0 c1,eg,zB,zq1 c2];rfl
         ·obtain⟨n,hn⟩:∃n:Nat,o2.v.N=n:=⟨o2.v.N.toNat,by omega⟩;have hb':=z6P (hσ hk1');have hσk:σ.K=3:=hb'.1.trans ka;obtain⟨x',hx'⟩:∃x',σ.L=[x']:=by
           have:=congrArg List.length hb'.2.2.2;rw[la]at this;exact v3c (by simp at this;omega)
          have hxx:wI x'=wI τ:=by
           have:=hb'.2.2.2;rw[la,hx']at this;injection this
          have hgl:=hg.inv.2.2.1;have hpp:=y2x (m:=m) hσk hx';rw[hpp,List.length_replicate]at hgl;refine⟨⟨v0,[],o1.w++[o2.v.N]⟩,s2,run _ _ ?_,mod _ ?_,hs2,by omega,.inl hk2,by show(o1.w++[o2.v.N]).length≤_;have:=z0x b;simp;omega,x',?_,fun _=>hxx⟩
          ·rw[zq0 c1,eg];show Run m (if _ then _ else _) _ _;rw[zq0 c2];exact .ret _ _
          ·rw[zq1 hk1',hM2,zB,zq1 hk2,zq0 c1,eg,zB,zq0 c2,zq1 (jE (by omega) (by simp;omega))]
          ·show PathT m κ (o1.w++[o2.v.N]) x';rw[hn];exact hpath.snoc (by rw[hpp];exact List.getElem?_replicate_of_lt (by omega))
       ·refine⟨⟨v0,[],o1.w⟩,s2,run _ _ (run_on.2 (.inr ⟨by omega,rfl,rfl⟩)),mod _ ?_,hs2,by omega,.inr hk2,by show o1.w.length≤_;omega,σ,hpath,fun h=>by omega⟩;rw[zq1 hk1',hM2,zB,zq0 (show ¬s2.Kind=0 by omega)]
      ·refine⟨⟨v0,[],o1.w⟩,s1,run _ _ (run_on.2 (.inr ⟨hk1',rfl,rfl⟩)),mod _ (by rw[zq0 hk1']),hs1,hf1,hk1,by show o1.w.length≤_;omega,σ,hpath,fun h=>absurd h hk1'⟩
    ·cases hRR with
     |bin _ _ _ k _ _=>omega
     |un _ k _ _=>omega
     |index _ _ _ k _ _ _ _ _=>omega
     |make _ k _ _=>omega
     |call _ _ _ _ k _ _ _=>omega
     |list _ _ k _ _ _=>omega
     |field ta y n k hp ka la hfr=>
      obtain⟨a',hLL⟩:∃a',a.L=[a']:=v3c (by rw[←hpl,hp];rfl);rw[hLL]at hL;injection hL with e1 e2;subst e1;have hTa:TE m Γ a' ta:=hP 0 a' ta (by rw[hLL];rfl) (by rw[hp];rfl);have h2:=z2u hLL;obtain⟨ρr,hTr,hY⟩:=ih a' hx ta hTa hxw (by omega) hR' hr;refine⟨ρr,hTr,fun κ kept s hκ hkept hs h0 hf=>?_⟩;obtain⟨o1,s1,hG,hM,hs1,hf1,hk1,hwl,σ,hpath,hσ⟩:=hY κ kept s hκ hkept hs h0 hf
      have run:∀o s',Run m (.on s1 ⟨v0,[],o1.w⟩ (.ret ⟨v0,[],o1.w++[Int.tmod a.N 64]⟩ s1)) o s'→G m (.Y a kept) s o s':=fun o s' h=>by
       show Run m (if _ then _ else _) _ _;rw[zq0 (by omega),zq1 k,hLL];exact .call _ _ _ o1 s1 _ _ hG h
      have mod:∀r,(if s1.Kind=0 then some (o1.w++[Int.tmod a.N 64],s1)else some (o1.w,s1))=r→uN m s a kept=r:=fun r h=>by
       rw[y1A];unfold z3n;rw[zq0 (by omega),zq1 k,hLL,show idx [a'] 0=some a' from rfl,zB,hM,zB];have r1:wN 8 (List.length o1.w+List.length [Int.tmod a.N 64]):=jE (by omega) (by simp;omega);show(if s1.Kind=0 then(if(64:Int)≠0 then(if wN 8 (List.length o1.w+List.length [Int.tmod a.N 64])then some (o1.w++[Int.tmod a.N 64],s1)else none)else none)else some (o1.w,s1))=r;rw[zq1 (show(64:Int)≠0 by decide),zq1 r1];exact h
      by_cases hk1':s1.Kind=0
      ·obtain⟨d,fd,k',i,e1,e2,e3,e4,e5,e6,e7⟩:=hfr;have em:Int.tmod a.N 64=(i:Int):=by rw[Int.tmod_eq_emod_of_nonneg (by omega)];omega
       have hb':=z6P (hσ hk1');have hpp:=y2z (m:=m) (hb'.1.trans ka) (hb'.2.1.trans e1) e2;have hdx:hd fd=y:=by unfold hd;rw[e5];rfl
       refine⟨⟨v0,[],o1.w++[Int.tmod a.N 64]⟩,s1,run _ _ (run_on.2 (.inl ⟨hk1',.ret _ _⟩)),mod _ (by rw[zq1 hk1']),hs1,hf1,hk1,by show(o1.w++[Int.tmod a.N 64]).length≤_;simp;omega,y,?_,fun _=>(z6O y).symm⟩;show PathT m κ (o1.w++[Int.tmod a.N 64]) y;rw[em];exact hpath.snoc (by rw[hpp,List.getElem?_map,e4,Option.map_some,hdx])
      ·refine⟨⟨v0,[],o1.w⟩,s1,run _ _ (run_on.2 (.inr ⟨hk1',rfl,rfl⟩)),mod _ (by rw[zq0 hk1']),hs1,hf1,hk1,by show o1.w.length≤_;omega,σ,hpath,fun h=>absurd h hk1'⟩
def w0d(m ρ:zA)(s':State):Prop:=s'.Kind=0∨(s'.Kind=1∧Fit m ρ s'.Ret∧VW s'.Ret)∨s'.Kind=2∨s'.Kind=3
def y8m(m:zA)(f:Nat):Prop:=∀N ρ Γ Γ' t s,TS m ρ Γ t Γ'→zA.Wf t→zH t≤100000000→StOk m N Γ s→s.Kind=0→s.Fuel≤f →
 ∃o s',G m (.S t) s o s'∧zU m s t=some s'∧s'.Fuel≤s.Fuel∧((s'.Kind=0∧s'.Fuel<s.Fuel∧StOk m N Γ' s')∨(s'.Kind≠0∧StOk m N Γ s'))∧w0d m ρ s'
theorem TS.ext{m ρ t:zA}{Γ Γ':List zA}(h:TS m ρ Γ t Γ'):∃Δ,Γ'=Γ++Δ:=by
 cases h with
 |let_ _ _ _ τ=>exact⟨[τ],rfl⟩
 |new _ _ x=>exact⟨[x],rfl⟩
 |_=>exact⟨[],by simp⟩
theorem v9W{m t:zA}{v:Value}(hm:zH m≤1000000000)(ht:zH t≤1000000000)(hg:Good m t)(ev:vA m t=some v):VW v:=by
 have go:∀t:zA,OkT m t→zH t≤1000000000→Good m t→(∀x∈vY m t,∃v,vA m x=some v∧VW v)→∃v,vA m t=some v∧VW v:=by
  intro t ho ht hg hp;obtain⟨n,en,h0,hn⟩:=z5w hm ht;have hpl:=y2y hm ho;have loop:∀(k i:Nat) (o:Value) (L:List Value),i+k=(vY m t).length→L.length=i→(∀y∈L,VW y) →
    ∃L',vB (vY m t) i m o 0 L=some ⟨0,L'⟩∧(vY m t).length=L'.length∧∀y∈L',VW y:=by
   intro k;induction k with
   |zero=>
    intro i o L hi hl hL;rw[z3P];unfold jT;rw[zq0 (by omega)];exact⟨L,rfl,by omega,hL⟩
   |succ k ihk=>
    intro i o L hi hl hL;have hlt:i<(vY m t).length:=by omega
    obtain⟨v,ev,hv⟩:=hp _ (List.getElem_mem hlt);rw[z3P];unfold jT;rw[zq1 (by omega),wG hlt,zB,ev,zB,zq1 (jE (by omega) (by simp;omega)),z1G (by omega)];refine ihk (i+1) o _ (by omega) (by simp[hl]) (fun y hy=>?_);rcases List.mem_append.1 hy with h|h
    ·exact hL y h
    ·rw[List.mem_singleton.1 h];exact hv
  obtain⟨L',e,h1,h2⟩:=loop (vY m t).length 0 ⟨0,[]⟩ [] (by omega) rfl (fun y hy=>by cases hy);refine⟨⟨0,L'⟩,?_,.mk _ (by rw[i64_iff];simp) (by simp only;omega) h2⟩;rw[y4b];unfold z2Q;rw[en,zB,zq0 (hn.2 hg),v0A hm ho,zB];exact e
 have none_:∀t:zA,(t.K=1∨t.K=2)→∀x∈vY m t,∃v,vA m x=some v∧VW v:=fun t hk x hx=>by
  unfold vY at hx;rw[zq0 (by omega),zq0 (by omega)]at hx;cases hx
 have all:∀t,OkT m t→zH t≤1000000000→Good m t→∃v,vA m t=some v∧VW v:=by
  intro t h;induction h with
  |int t h1 h2=>exact fun ht hg=>go t (.int t h1 h2) ht hg (none_ t (.inl h1))
  |bool t h1 h2=>exact fun ht hg=>go t (.bool t h1 h2) ht hg (none_ t (.inr h1))
  |arr t e h1 h2 h3 h4 h5 ih=>
   intro ht hg;have ho:OkT m t:=.arr t e h1 h2 h3 h4 h5;refine go t ho ht hg fun x hx=>?_;have hs:=y0n hm ht ho x hx;have hgx:=y0o hm ht hg x hx;unfold vY at hx;rw[zq1 h1]at hx;have:=List.eq_of_mem_replicate hx;subst this;have e1:hd t=e:=by unfold hd;rw[h2];rfl
   rw[e1]at hs hgx ⊢;exact ih hs hgx
  |rcd t d h1 h2 h3 h4 h5 h6 ih=>
   intro ht hg;have ho:OkT m t:=.rcd t d h1 h2 h3 h4 h5 h6;refine go t ho ht hg fun x hx=>?_;have hs:=y0n hm ht ho x hx;have hgx:=y0o hm ht hg x hx;unfold vY at hx;rw[zq0 (by omega),zq1 h1,h4]at hx;obtain⟨f,hf,rfl⟩:=List.mem_map.1 hx;obtain⟨-,y,hy⟩:=h5.2.2 f hf;have e1:hd f=y:=by unfold hd;rw[hy];rfl
   rw[e1]at hs hgx ⊢;exact ih f y hf hy hs hgx
 obtain⟨u,eu,hu⟩:=all t (hg.okT hm ht) ht hg;rw[ev]at eu;cases eu;exact hu
theorem w2G(m:zA)(hms:zH m≤100000000)(hmw:zA.Wf m)(f:Nat)(CS:y8m m f):w1m m f:=by
 intro N Γ k d ps r b a s hd' hfn hal haf haw hs h0 hf;have hdm:=List.mem_of_getElem? hd';have hds:=zS hdm;have h3:=z0l hfn.L;have hpl:=vK ps;have hdw:=hmw.L_.2 d hdm;have hbw:zA.Wf b:=hdw.L_.2 b (by rw[hfn.L];simp);have hs1:StOk m N (ps.L.map hd) {s with Locals:=a}:=hs.call (by simpa using hal) (fun i τ v h1 h2=>by
  rw[List.getElem?_map]at h1;obtain⟨x,hx,rfl⟩:=Option.map_eq_some_iff.1 h1;exact haf i x v hx h2) haw (by have:=hs.fuel1;omega)
 obtain⟨o,s',hG,hM,hf',hst,hE⟩:=CS N r (ps.L.map hd) _ b _ hfn.body hbw (by omega) hs1 h0 hf;have hst:StOk m N (ps.L.map hd) s':=hst.elim (fun h=>h.2.2) (fun h=>h.2);have hback:StOk m N Γ {s' with Locals:=s.Locals}:=hs.back hst hf';have run:∀o' s'',Run m (if s'.Kind=1 then .ret (oV s'.Ret) {s' with Locals:=s.Locals,Kind:=0,Ret:=v0}
   else if s'.Kind=0 then .opt (vA m r) fun z=>.ret (oV z) {s' with Locals:=s.Locals}
   else .ret o0 {s' with Locals:=s.Locals}) o' s''→G m (.C k a) s o' s'':=fun o' s'' h=>by
  show Run m (P.opt m.L[k]? _) _ _;rw[hd'];show Run m (P.opt d.L[2]? _) _ _;rw[hfn.L];exact .call _ _ _ o s' _ _ hG h
 have mod:∀q,(if s'.Kind=1 then some ((Ref21Got.mk s'.Ret ({s' with Locals:=s.Locals,Kind:=0,Ret:=(Value.mk 0 [])})))
   else if s'.Kind=0 then vA m r>>=fun q3=>some ((Ref21Got.mk q3 ({s' with Locals:=s.Locals})))
   else z2o ({s' with Locals:=s.Locals})>>=fun q2=>some q2)=q→uC m s k a=q:=fun q h=>by
  rw[y8h];unfold z2n;rw[z6c,hd',zB,hfn.L,show idx [ps,r,b] 2=some b from rfl,zB,hM,zB,zB,hfn.L,show idx [ps,r,b] 1=some r from rfl,zB];exact h
 by_cases k1:s'.Kind=1
 ·obtain⟨hF,hW⟩:Fit m r s'.Ret∧VW s'.Ret:=by
   rcases hE with h|h|h|h<;>first|omega|skip
   exact h.2
  exact⟨oV s'.Ret,{s' with Locals:=s.Locals,Kind:=0,Ret:=v0},run _ _ (by rw[zq1 k1];exact .ret _ _),mod _ (by rw[zq1 k1]),hback.same rfl rfl rfl rfl rfl rfl w1j,hf',.inl ⟨rfl,hF,hW⟩⟩
 by_cases k0:s'.Kind=0
 ·have hrw:zH r≤1000000000:=by omega
  obtain⟨z,ez,hz⟩:=v6t (m:=m) (t:=r) (by omega) hrw hfn.goodr;have hzv:=v9W (m:=m) (by omega) hrw hfn.goodr ez;exact⟨oV z,_,run _ _ (by rw[zq0 k1,zq1 k0,ez];exact .ret _ _),mod _ (by rw[zq0 k1,zq1 k0,ez];rfl),hback,hf',.inl ⟨k0,hz,hzv⟩⟩
 ·exact⟨o0,_,run _ _ (by rw[zq0 k1,zq0 k0];exact .ret _ _),mod _ (by rw[zq0 k1,zq0 k0];rfl),hback,hf',.inr ⟨by rcases hE with h|h|h|h<;>first|omega|exact .inl h|exact .inr h,rfl⟩⟩
theorem v1w{m:zA}{s:State}(h:s.Kind≠0)(l:List zA):G m (.B l) s o0 s∧∀(t:zA) n z (i:Nat),t.L.drop i=l→i+l.length=t.L.length→t.L.length≤1000000000→yO n i m s t z=z4K s n>>=fun q=>some q:=by
 induction l with
 |nil=>
  refine⟨.ret _ _,fun t n z i hd' hi hl=>?_⟩;rw[z3Q];unfold jU;rw[zq0 (by simp at hi;omega)]
 |cons x r ih=>
  refine⟨.call _ _ _ _ _ _ _ (y8R h).1 (.call _ _ _ _ _ _ _ ih.1 (.ret _ _)),fun t n z i hd' hi hl=>?_⟩;have hlt:i<t.L.length:=by simp at hi;omega
  have e1:=List.drop_eq_getElem_cons hlt;rw[hd']at e1;injection e1 with e1 e2;rw[z3Q];unfold jU;rw[zq1 (by omega),wG hlt,zB,(y8R h).2,zB,z1G (by omega)];exact ih.2 t n z (i+1) e2.symm (by simp at hi ⊢;omega) hl
def w1l(m:zA)(f:Nat):Prop:=∀N ρ Γ (l:List zA) Γ' s,TB m ρ Γ l Γ'→(∀x∈l,zA.Wf x∧zH x≤100000000)→StOk m N Γ s→s.Kind=0→s.Fuel≤f →
 ∃o s',G m (.B l) s o s'∧(∀(t:zA) n z (i:Nat),t.L.drop i=l→i+l.length=t.L.length→t.L.length≤1000000000→yO n i m s t z=z4K s' n>>=fun q=>some q) ∧
  s'.Fuel≤s.Fuel∧(∃Δ,StOk m N (Γ++Δ) s')∧(s'.Kind=0→StOk m N Γ' s')∧w0d m ρ s'
theorem w2F(m:zA)(f:Nat)(CS:y8m m f):w1l m f:=by
 intro N ρ Γ l;induction l generalizing Γ with
 |nil=>
  intro Γ' s hT hb hs h0 hf;cases hT;refine⟨o0,s,.ret _ _,fun t n z i hd' hi hl=>?_,Int.le_refl _,⟨[],by simpa using hs⟩,fun _=>hs,.inl h0⟩;rw[z3Q];unfold jU;rw[zq0 (by simp at hi;omega)]
 |cons x r ih=>
  intro Γ' s hT hb hs h0 hf;cases hT with
  |cons _ Γ1 _ _ _ hx hr=>
   obtain⟨hw,hsz⟩:=hb x (List.mem_cons_self ..);obtain⟨o1,s1,hG,hM,hf1,hs1,hE1⟩:=CS N ρ Γ Γ1 x s hx hw hsz hs h0 hf;have mod:∀s2,(∀(t:zA) n z (i:Nat),t.L.drop i=r→i+r.length=t.L.length→t.L.length≤1000000000→yO n i m s1 t z=z4K s2 n>>=fun q=>some q) →
     ∀(t:zA) n z (i:Nat),t.L.drop i=x::r→i+(x::r).length=t.L.length→t.L.length≤1000000000→yO n i m s t z=z4K s2 n>>=fun q=>some q:=fun s2 h t n z i hd' hi hl=>by
    have hlt:i<t.L.length:=by simp at hi;omega
    have e1:=List.drop_eq_getElem_cons hlt;rw[hd']at e1;injection e1 with e1 e2;rw[z3Q];unfold jU;rw[zq1 (by omega),wG hlt,zB,←e1,hM,zB,z1G (by omega)];exact h t n z (i+1) e2.symm (by simp at hi ⊢;omega) hl
   rcases hs1 with⟨k1,-,hs1⟩|⟨k1,hs1⟩
   ·obtain⟨o2,s2,hG2,hM2,hf2,⟨Δ,hΔ⟩,hs2,hE2⟩:=ih Γ1 Γ' s1 hr (fun a ha=>hb a (List.mem_cons_of_mem _ ha)) hs1 k1 (by omega);obtain⟨Δ',rfl⟩:=hx.ext;exact⟨o0,s2,.call _ _ _ _ _ _ _ hG (.call _ _ _ _ _ _ _ hG2 (.ret _ _)),mod s2 hM2,by omega,⟨Δ'++Δ,by rw[←List.append_assoc];exact hΔ⟩,hs2,hE2⟩
   ·have e:=v1w (m:=m) k1 r;exact⟨o0,s1,.call _ _ _ _ _ _ _ hG (.call _ _ _ _ _ _ _ e.1 (.ret _ _)),mod s1 e.2,hf1,⟨[],by simpa using hs1⟩,fun h=>absurd h k1,hE1⟩
theorem StOk.cut{m:zA}{N:Int}{Γ Δ:List zA}{s:State}(h:StOk m N (Γ++Δ) s):StOk m N Γ {s with Locals:=s.Locals.take Γ.length} where
 gl:=h.gl
 gf:=h.gf
 gw:=h.gw
 ll:=by have:=h.ll;simp at this ⊢;omega
 lf:=by
  intro i τ v h1 h2;have hlt:=(List.getElem?_eq_some_iff.1 h1).1;simp only at h2;rw[List.getElem?_take_of_lt hlt]at h2;exact h.lf i τ v (by rw[List.getElem?_append_left hlt];exact h1) h2
 lw:=fun v hv=>h.lw v (List.mem_of_mem_take hv)
 at0:=h.at0
 at1:=h.at1
 inl:=h.inl
 inw:=h.inw
 fuel0:=h.fuel0
 fuel1:=h.fuel1
 room:=by have:=h.room;simp only[List.length_take];omega
 tr:=h.tr
 trN:=h.trN
 rt:=h.rt
theorem w1r{s:State}{n:Nat}(h:n≤s.Locals.length):z4K s (n:Int)=some {s with Locals:=s.Locals.take n}:=by
 unfold z4K;rw[zq1 (by omega),zq1 (by simpa using h),zq1 (by omega)];simp
theorem v0w{s:State}{v:Value}(h:s.Locals.length≤1000000000):z3l s v=some {s with Locals:=s.Locals++[v]}:=by
 unfold z3l;rw[zq1 (jE (by omega) (by simp;omega)),zq1 (jE (by omega) (by simp;omega))];rfl
theorem y7v{m:zA}{v:Value}{t:zA}{s:State}(h:s.Kind≠0):G m (.W v t) s o0 s∧∀z,yD m ⟨v,s⟩ t z=some s:=by
 refine⟨run_on.2 (.inr ⟨h,rfl,rfl⟩),fun z=>?_⟩;rw[z5k];unfold jY;rw[zq0 h]
theorem w2J(m:zA)(f:Nat)(CE:y8l m f)(CS:y8m m f)(N:Int)(ρ:zA)(Γ:List zA)(t e x τ:zA)(hL:t.L=[e,x])(hTe:TE m Γ e τ)(hTx:TS m ρ Γ x Γ)(hw:zA.Wf t)(hts:zH t≤100000000):
  ∀(g:Nat) (v:Value) (s:State),StOk m N Γ s→(s.Kind=0∨s.Kind=2∨s.Kind=3)→s.Fuel≤g→s.Fuel≤f→∃s',G m (.W v t) s o0 s'∧(∀z,yD m ⟨v,s⟩ t z=some s')∧s'.Fuel≤s.Fuel∧StOk m N Γ s'∧w0d m ρ s':=by
 have h2:=z3S hL;have hwe:zA.Wf e:=hw.L_.2 e (by rw[hL];simp);have hwx:zA.Wf x:=hw.L_.2 x (by rw[hL];simp);intro g;induction g using Nat.strongRecOn with
 |_ g ih=>
  intro v s hs hk hg hf;by_cases k0:s.Kind=0
  ·by_cases c:v.N=0
   ·refine⟨s,run_on.2 (.inl ⟨k0,by rw[zq1 c];exact .ret _ _⟩),fun z=>?_,Int.le_refl _,hs,.inl k0⟩;rw[z5k];unfold jY;rw[zq1 k0,zq1 c]
   ·obtain⟨o1,s1,hG1,hM1,hf1,hs1,hE1⟩:=CS N ρ Γ Γ x s hTx hwx (by omega) hs k0 hf;have run:∀o2 s2 s3,G m (.E e) s1 o2 s2→G m (.W o2.v t) s2 o0 s3→G m (.W v t) s o0 s3:=fun o2 s2 s3 g2 g3=>run_on.2 (.inl ⟨k0,by
     rw[zq0 c,hL];exact .call _ _ _ o1 s1 _ _ hG1 (.call _ _ _ o2 s2 _ _ g2 (.call _ _ _ o0 s3 _ _ g3 (.ret _ _)))⟩)
    have mod:∀v2 s2 s3,zL m s1 e=some ⟨v2,s2⟩→(∀z,yD m ⟨v2,s2⟩ t z=some s3)→∀z,yD m ⟨v,s⟩ t z=some s3:=fun v2 s2 s3 e2 e3 z=>by
     rw[z5k];unfold jY;rw[zq1 k0,zq0 c,hL,show idx [e,x] 1=some x from rfl,show idx [e,x] 0=some e from rfl,zB,hM1,zB,zB,e2,zB,e3]
    rcases hs1 with⟨k1,hlt,hs1⟩|⟨k1,hs1⟩
    ·obtain⟨o2,s2,hG2,hM2,hs2,hf2,-,hE2⟩:=CE N Γ e τ s1 hTe hwe (by omega) hs1 (.inl k1) (by omega);have f0:=hs2.fuel0;have k2:s2.Kind=0∨s2.Kind=2∨s2.Kind=3:=by rcases hE2 with h|h<;>omega
     obtain⟨s3,hG3,hM3,hf3,hs3,hE3⟩:=ih (g-1) (by have:=hs.fuel0;omega) o2.v s2 hs2 k2 (by omega) (by omega);exact⟨s3,run _ _ _ hG2 hG3,mod _ _ _ hM2 hM3,by omega,hs3,hE3⟩
    ·have e2:=y3s (m:=m) (t:=e) k1;have e3:=y7v (m:=m) (v:=v0) (t:=t) k1;exact⟨s1,run _ _ _ e2.1 e3.1,mod _ _ _ e2.2 e3.2,hf1,hs1,hE1⟩
  ·have e3:=y7v (m:=m) (v:=v) (t:=t) k0;exact⟨s,e3.1,e3.2,Int.le_refl _,hs,hk.elim .inl fun h=>h.elim (fun h=>.inr (.inr (.inl h))) fun h=>.inr (.inr (.inr h))⟩
theorem v9j{s:State}(h0:s.Kind=0)(hf:0<s.Fuel)(hb:s.Fuel≤1000000):z1s s=some {s with Fuel:=s.Fuel-1}:=by
 unfold z1s;rw[zq1 h0,zq0 (by omega),z0y (n:=s.Fuel-1) (by omega) (by omega)]
theorem y7g{s:State}(h0:s.Kind=0)(hf:s.Fuel≤0):z1s s=some {s with Kind:=3}:=by
 unfold z1s;rw[zq1 h0,zq1 hf]
theorem v9i{s:State}(h0:s.Kind≠0):z1s s=some s:=by
 unfold z1s;rw[zq0 h0]
theorem w2H(m:zA)(f:Nat)(CS:y8m m f)(N:Int)(ρ:zA)(Γ:List zA)(x:zA)(hTx:TS m ρ (Γ++[y8c]) x (Γ++[y8c]))(hw:zA.Wf x)(hts:zH x≤100000000)(hi:Int):
  ∀(g:Nat) (i:Int) (s:State),InK .i64 i→StOk m N Γ s→(s.Kind=0∨(s.Kind≠0∧w0d m ρ s))→s.Fuel≤g→s.Fuel≤f→∃s',G m (.F Γ.length i hi x) s o0 s'∧(∀(t:zA) z (to:Ref21Got),t.L[2]?=some x→to.V.N=hi→wD (Γ.length:Int) i m t z to s=some s')∧s'.Fuel≤s.Fuel∧StOk m N Γ s'∧w0d m ρ s':=by
 intro g;induction g using Nat.strongRecOn with
 |_ g ih=>
  intro i s hi64 hs hk hg hf;by_cases k0:s.Kind=0
  ·by_cases c0:s.Fuel≤0
   ·refine⟨{s with Kind:=3},.dry _ _ k0 c0,fun t z to _ _=>?_,Int.le_refl _,hs.same rfl rfl rfl rfl rfl rfl hs.rt,.inr (.inr (.inr rfl))⟩;rw[z4L];unfold gO;rw[y7g k0 c0,zB,zq0 (show ¬(3:Int)=0 by decide)]
   ·have hp:=v9j k0 (by omega) hs.fuel1;have hs1:=(hs.pay (by omega:0<s.Fuel)).mono (show N-1≤N by omega) hs.trN;have hsl:=hs.locals_le;have hroom:=hs.room;have hpush:StOk m N (Γ++[y8c]) {s with Fuel:=s.Fuel-1,Locals:=s.Locals++[⟨i,[]⟩]}:=hs1.push (y6M m i) (y0O hi64) (by show(s.Locals.length:Int)+1+(s.Fuel-1)≤_;omega);by_cases c:i≥hi
    ·refine⟨{s with Fuel:=s.Fuel-1},.pay _ _ _ _ k0 (by omega) (by rw[zq1 c];exact .ret _ _),fun t z to _ hto=>?_,by simp only;omega,hs1,.inl k0⟩;rw[z4L];unfold gO;rw[hp,zB,zq1 (show({s with Fuel:=s.Fuel-1}:State).Kind=0 from k0),zq1 (by rw[hto];exact c)]
    ·obtain⟨o2,s2,hG2,hM2,hf2,hs2,hE2⟩:=CS N ρ (Γ++[y8c]) _ x _ hTx hw hts hpush k0 (by simp only;omega);have hs2':StOk m N (Γ++[y8c]) s2:=hs2.elim (fun h=>h.2.2) (fun h=>h.2);have hl2:Γ.length≤s2.Locals.length:=by rw[hs2'.ll];simp
     have hs3:=hs2'.cut;simp only at hf2;obtain⟨s4,hG4,hM4,hf4,hs4,hE4⟩:=ih (g-1) (by have:=hs.fuel0;omega) (IntKind.wrap .i64 (i+1)) _ (z4I _) hs3 (by
      by_cases k2:s2.Kind=0
      ·exact .inl k2
      ·exact .inr ⟨k2,hE2⟩) (by simp only;omega) (by simp only;omega)
     simp only at hf4;refine⟨s4,.pay _ _ _ _ k0 (by omega) ?_,fun t z to htx hto=>?_,by omega,hs4,hE4⟩
     ·rw[zq0 c];refine .call _ _ _ o2 s2 _ _ hG2 ?_;unfold cut;rw[zq1 hl2];exact .call _ _ _ o0 s4 _ _ hG4 (.ret _ _)
     ·rw[z4L];unfold gO;rw[hp,zB,zq1 (show({s with Fuel:=s.Fuel-1}:State).Kind=0 from k0),zq0 (by rw[hto];exact c),v0w (s:={s with Fuel:=s.Fuel-1}) hsl,zB,show idx t.L 2=some x from htx,zB,hM2,zB,w1r hl2,zB];exact hM4 t z to htx hto
  ·refine⟨s,.ended _ _ k0,fun t z to _ _=>?_,Int.le_refl _,hs,hk.elim (fun h=>absurd h k0) (fun h=>h.2)⟩;rw[z4L];unfold gO;rw[v9i k0,zB,zq0 k0]
theorem RootR.uniq{t r r':zA}(h:RootR t r)(hr:r.K=7∨r.K=9)(h':wP t=some r'):r'=r:=by
 induction h with
 |here t hh=>
  rw[z9W]at h';unfold z1U at h';rw[zq0 (by omega),zq0 (by omega)]at h';exact(Option.some.inj h').symm
 |down t x r l hk hL _ ih=>
  refine ih hr ?_;rw[z9W]at h';unfold z1U at h';have c:(List.length t.L:Int)>0:=by rw[hL];simp
  have e:idx t.L 0=some x:=by rw[hL];rfl
  rcases hk with hk|hk
  ·rw[zq1 hk,zq1 c,e,zB]at h';obtain⟨q,hq,h'⟩:=zC h';rw[hq,←Option.some.inj h']
  ·rw[zq0 (by omega),zq1 hk,zq1 c,e,zB]at h';obtain⟨q,hq,h'⟩:=zC h';rw[hq,←Option.some.inj h']
theorem w2b{t r:zA}(h:RootR t r)(hr:r.K=7∨r.K=9):wP t=some r:=by
 obtain⟨r',e,-⟩:=v0J t;rw[e,h.uniq hr e]
theorem w1a{m:zA}{s:State}{t a r:zA}{z:State}{x:Ref21Got}(h:RootR a r)(hr:r.K=7∨r.K=9):vM m s t z x a=vM m s t z x r:=by
 induction h with
 |here t hh=>rfl
 |down t y r l hk hL _ ih=>
  rw[←ih hr,z6H (root:=t)];unfold z0u;have e:idx t.L 0=some y:=by rw[hL];rfl
  rcases hk with hk|hk
  ·rw[zq1 hk,e,zB]
  ·rw[zq0 (by omega),zq1 hk,e,zB]
theorem v8T{l:List Value}{n:Nat}{v:Value}(h:n<l.length)(hl:l.length≤1000000000):z5a l (n:Int) v=some (l.set n v):=by
 unfold z5a;rw[zq1 (jE (by omega) (by omega)),zq1 (by omega),zq1 ⟨by omega,by omega⟩,zq1 (by simpa using h)];rfl
theorem w2h{l:List Value}{k:Nat}{v:Value}(h:k<l.length):(l.reverse.set k v).reverse=l.set (l.length-1-k) v:=by
 apply List.ext_getElem
 ·simp
 ·intro i h1 h2;simp only[List.length_reverse,List.length_set]at h1 h2;rw[List.getElem_reverse,List.getElem_set,List.getElem_set];simp only[List.length_set,List.length_reverse];by_cases c:k=l.length-1-i
  ·rw[zq1 c,zq1 (by omega)]
  ·rw[zq0 c,zq0 (by omega),List.getElem_reverse];congr 1;omega
theorem StOk.setG{m:zA}{N:Int}{Γ:List zA}{s:State}(h:StOk m N Γ s){n:Nat}{d x:zA}{u:Value}(hd':m.L[n]?=some d)(hx:d.L=[x])(hu:Fit m x u)(hw:VW u):StOk m N Γ {s with Globals:=s.Globals.set n u}:=
 {h with
  gl:=by simpa using h.gl
  gf:=by
   intro i d' x' v h1 h2 h3 h4;simp only at h4;rw[List.getElem?_set]at h4;by_cases c:n=i
   ·subst c;rw[hd']at h1;cases h1;rw[hx]at h3;injection h3 with h3;subst h3;by_cases c':n<s.Globals.length
    ·rw[zq1 rfl,zq1 c']at h4;cases h4;exact hu
    ·rw[zq1 rfl,zq0 c']at h4;cases h4
   ·rw[zq0 c]at h4;exact h.gf i d' x' v h1 h2 h3 h4
  gw:=by
   intro v hv;rcases List.mem_or_eq_of_mem_set hv with h'|rfl
   ·exact h.gw v h'
   ·exact hw}
theorem StOk.setL{m:zA}{N:Int}{Γ:List zA}{s:State}(h:StOk m N Γ s){n:Nat}{x:zA}{u:Value}(hx:Γ[n]?=some x)(hu:Fit m x u)(hw:VW u):StOk m N Γ {s with Locals:=s.Locals.set n u}:=
 {h with
  ll:=by simpa using h.ll
  lf:=by
   intro i τ v h1 h2;simp only at h2;rw[List.getElem?_set]at h2;by_cases c:n=i
   ·subst c;rw[hx]at h1;cases h1;by_cases c':n<s.Locals.length
    ·rw[zq1 rfl,zq1 c']at h2;cases h2;exact hu
    ·rw[zq1 rfl,zq0 c']at h2;cases h2
   ·rw[zq0 c]at h2;exact h.lf i τ v h1 h2
  lw:=by
   intro v hv;rcases List.mem_or_eq_of_mem_set hv with h'|rfl
   ·exact h.lw v h'
   ·exact hw
  room:=by simpa using h.room}
theorem v9H (m:zA) (hm:ModOk m) (hms:zH m≤100000000) (hmw:zA.Wf m) (f:Nat) (CE:y8l m f) (CS:y8m m f) (CB:w1l m f) (N:Int) (ρ:zA) (Γ Γ':List zA) (t:zA) (s s1:State) (hpay:z1s s=some s1) (hk1:s1.Kind=0)
  (hT:TS m ρ Γ t Γ') (hw:zA.Wf t) (hts:zH t≤100000000) (hst:StOk m (N-1) Γ s1) (hN:N≤1000000000) (hroom:(Γ.length:Int)+1+s1.Fuel≤1000000000) (hf:s1.Fuel≤f):
  ∃o s',Run m (z1x m t s1) o s'∧zU m s t=some s'∧s'.Fuel≤s1.Fuel∧((s'.Kind=0∧StOk m N Γ' s')∨(s'.Kind≠0∧StOk m N Γ s'))∧w0d m ρ s':=by
 have hml:=vK m;have mono:∀{Δ s},StOk m (N-1) Δ s→StOk m N Δ s:=fun h=>h.mono (by omega) hN;have sub:∀x∈t.L,zA.Wf x∧zH x≤100000000:=fun x hx=>⟨hw.L_.2 x hx,by have:=zS hx;omega⟩;have htl:=vK t;have endE:∀{τ o s2},w1o m τ o s2→s2.Kind≠0→w0d m ρ s2∧o=o0:=fun h h0=>by
  rcases h with h|⟨h|h,e⟩
  ·exact absurd h.1 h0
  ·exact⟨.inr (.inr (.inl h)),e⟩
  ·exact⟨.inr (.inr (.inr h)),e⟩
 have withE:∀(e:zA) (τ:zA),t.L[0]?=some e→TE m Γ e τ→t.K≠29→t.K≠21→t.K≠22 →
   ∃o s2,G m (.E e) s1 o s2∧StOk m (N-1) Γ s2∧(s2.Kind=0→StOk m (N-1-1) Γ s2)∧s2.Fuel≤s1.Fuel∧w1o m τ o s2 ∧
   (∀o' s',s2.Kind=0→Run m (if t.K=20 then .ret o0 {s2 with Locals:=s2.Locals++[o.v]}
   else if t.K=26 then .ret o0 {s2 with Trace:=s2.Trace++[o.v.N]}
   else if t.K=27 then .ret o0 {s2 with Kind:=1,Ret:=o.v}
   else if t.K=23 then(if o.v.N=0 then .opt t.L[2]? fun x=>.call (.S x) s2 fun _ s=>.ret o0 s else .opt t.L[1]? fun x=>.call (.S x) s2 fun _ s=>.ret o0 s)
   else if t.K=24 then .call (.W o.v t) s2 fun _ s=>.ret o0 s
   else if t.K=25 then .opt t.L[1]? fun b=>.opt t.L[2]? fun x=>.call (.E b) s2 fun p s=>.on s o0 (.call (.F s.Locals.length o.v.N p.v.N x) s fun _ s=>.ret o0 s)
   else .ret o0 s2) o' s'→Run m (z1x m t s1) o' s') ∧
   (∀q,s2.Kind=0→(if t.K=20 then z3l s2 o.v>>=fun q6=>some q6
    else if t.K=26 then if wN 8 (List.length ([]:List Int)+List.length s2.Trace)then if wN 8 (List.length (([]:List Int)++s2.Trace)+List.length [o.v.N])then some ({s2 with Trace:=(([]:List Int)++s2.Trace)++[o.v.N]})else none else none
    else if t.K=27 then some ({s2 with Kind:=1,Ret:=o.v})
    else if t.K=23 then if o.v.N=0 then idx t.L 2>>=fun x12=>zU m s2 x12>>=fun q29=>some q29 else idx t.L 1>>=fun x11=>zU m s2 x11>>=fun q28=>some q28
    else if t.K=24 then jI m ⟨o.v,s2⟩ t>>=fun q33=>some q33
    else if t.K=25 then z0N m ⟨o.v,s2⟩ t>>=fun q34=>some q34
    else some s2)=q→zU m s t=q) ∧
   (s2.Kind≠0→Run m (z1x m t s1) o0 s2∧zU m s t=some s2):=by
  intro e τ he hTe n29 n21 n22;have hme:=List.mem_of_getElem? he;obtain⟨o,s2,hG,hM,hs2,hf2,hs2',hE⟩:=CE (N-1) Γ e τ s1 hTe (sub e hme).1 (sub e hme).2 hst (.inl hk1) hf;have ie:idx t.L 0=some e:=he;refine⟨o,s2,hG,hs2,fun h=>(hs2' h).2,hf2,hE,fun o' s' h0 h=>?_,fun q h0 h=>?_,fun h0=>⟨?_,?_⟩⟩
  ·unfold z1x;rw[zq0 n29,zq0 n21,zq0 n22,he];exact .call _ _ _ o s2 _ _ hG (run_on.2 (.inl ⟨h0,h⟩))
  ·rw[z1b];unfold jR;rw[hpay,zB,zq1 hk1,zq0 n29,zq0 n21,zq0 n22,ie,zB,hM,zB,zq1 h0];exact h
  ·unfold z1x;rw[zq0 n29,zq0 n21,zq0 n22,he];exact .call _ _ _ o s2 _ _ hG (run_on.2 (.inr ⟨h0,rfl,rfl⟩))
  ·rw[z1b];unfold jR;rw[hpay,zB,zq1 hk1,zq0 n29,zq0 n21,zq0 n22,ie,zB,hM,zB,zq0 h0]
 cases hT with
 |block Γ0 Γ1 _ k _ _ _ hB=>
  obtain⟨o,s2,hG,hM,hf2,⟨Δ,hΔ⟩,-,hE⟩:=CB (N-1) ρ Γ t.L Γ1 s1 hB sub hst hk1 hf;have hl2:s1.Locals.length≤s2.Locals.length:=by rw[hst.ll,hΔ.ll];simp
  have hc:=(mono hΔ).cut;rw[←hst.ll]at hc;refine⟨o0,{s2 with Locals:=s2.Locals.take s1.Locals.length},?_,?_,hf2,?_,hE⟩
  ·unfold z1x;rw[zq1 k];refine .call _ _ _ o s2 _ _ hG ?_;unfold cut;rw[zq1 hl2];exact .ret _ _
  ·rw[z1b];unfold jR;rw[hpay,zB,zq1 hk1,zq1 k];have:=hM t (s1.Locals.length:Int) ⟨[],[],[],0,[],0,0,0,⟨0,[]⟩⟩ 0 rfl (by omega) (by omega);rw[show((0:Nat):Int)=0 from rfl]at this;rw[this,w1r hl2];rfl
  ·by_cases h0:s2.Kind=0
   ·exact .inl ⟨h0,hc⟩
   ·exact .inr ⟨h0,hc⟩
 |new Γ0 _ x k _ _ _ hL hg hn=>
  have hx:x∈t.L:=by rw[hL];simp
  have hxs:=(sub x hx).2;obtain⟨z,ez,hz⟩:=v6t (m:=m) (t:=x) (by omega) (by omega) hg;have hzw:=v9W (m:=m) (by omega) (by omega) hg ez;refine⟨o0,{s1 with Locals:=s1.Locals++[z]},?_,?_,Int.le_refl _,.inl ⟨hk1,mono (hst.push hz hzw (by rw[hst.ll];omega))⟩,.inl hk1⟩
  ·unfold z1x;rw[zq0 (by omega),zq1 k,hL];show Run m (P.opt (vA m x) _) _ _;rw[ez];exact .ret _ _
  ·rw[z1b];unfold jR;rw[hpay,zB,zq1 hk1,zq0 (by omega),zq1 k,hL,show idx [x] 0=some x from rfl,zB,ez,zB,v0w hst.locals_le];rfl
 |let_ Γ0 _ e τ k _ _ _ hL hTe=>
  obtain⟨o,s2,hG,hs2,hs2',hf2,hE,run,mod,fin⟩:=withE e τ (by rw[hL];rfl) hTe (by omega) (by omega) (by omega);by_cases h0:s2.Kind=0
  ·obtain⟨-,hF,hW⟩:=hE.resolve_right (by omega);refine⟨o0,{s2 with Locals:=s2.Locals++[o.v]},run _ _ h0 (by rw[zq1 k];exact .ret _ _),mod _ h0 (by rw[zq1 k,v0w hs2.locals_le];rfl),hf2,.inl ⟨h0,mono (hs2.push hF hW (by rw[hs2.ll];omega))⟩,.inl h0⟩
  ·obtain⟨a1,a2⟩:=fin h0;exact⟨o0,s2,a1,a2,hf2,.inr ⟨h0,mono hs2⟩,(endE hE h0).1⟩
 |print Γ0 _ e τ k _ _ _ hL hTe _ _=>
  obtain⟨o,s2,hG,hs2,hs2',hf2,hE,run,mod,fin⟩:=withE e τ (by rw[hL];rfl) hTe (by omega) (by omega) (by omega);by_cases h0:s2.Kind=0
  ·have h1:=hs2' h0;have htr:=h1.tr;have hf0:=h1.fuel0;have st:StOk m N Γ {s2 with Trace:=s2.Trace++[o.v.N]}:={h1 with tr:=by simp only[List.length_append,List.length_singleton];omega,trN:=hN};refine⟨o0,{s2 with Trace:=s2.Trace++[o.v.N]},run _ _ h0 (by rw[zq0 (by omega),zq1 k];exact .ret _ _),mod _ h0 (by rw[zq0 (by omega),zq1 k,zq1 (jE (by omega) (by simp;omega)),zq1 (jE (by omega) (by simp;omega))];rfl),hf2,.inl ⟨h0,st⟩,.inl h0⟩
  ·obtain⟨a1,a2⟩:=fin h0;exact⟨o0,s2,a1,a2,hf2,.inr ⟨h0,mono hs2⟩,(endE hE h0).1⟩
 |ret Γ0 _ e τ k _ _ _ hL hTe hb=>
  obtain⟨o,s2,hG,hs2,hs2',hf2,hE,run,mod,fin⟩:=withE e τ (by rw[hL];rfl) hTe (by omega) (by omega) (by omega);by_cases h0:s2.Kind=0
  ·obtain⟨-,hF,hW⟩:=hE.resolve_right (by omega);refine⟨o0,{s2 with Kind:=1,Ret:=o.v},run _ _ h0 (by rw[zq0 (by omega),zq0 (by omega),zq1 k];exact .ret _ _),mod _ h0 (by rw[zq0 (by omega),zq0 (by omega),zq1 k]),hf2,.inr ⟨by simp,(mono hs2).same rfl rfl rfl rfl rfl rfl hW⟩,.inr (.inl ⟨rfl,hF.congr _ hb,hW⟩)⟩
  ·obtain⟨a1,a2⟩:=fin h0;exact⟨o0,s2,a1,a2,hf2,.inr ⟨h0,mono hs2⟩,(endE hE h0).1⟩
 |do_ Γ0 _ e τ k _ _ _ hL _ hTe=>
  obtain⟨o,s2,hG,hs2,hs2',hf2,hE,run,mod,fin⟩:=withE e τ (by rw[hL];rfl) hTe (by omega) (by omega) (by omega);by_cases h0:s2.Kind=0
  ·refine⟨o0,s2,run _ _ h0 (by rw[zq0 (by omega),zq0 (by omega),zq0 (by omega),zq0 (by omega),zq0 (by omega),zq0 (by omega)];exact .ret _ _),mod _ h0 (by rw[zq0 (by omega),zq0 (by omega),zq0 (by omega),zq0 (by omega),zq0 (by omega),zq0 (by omega)]),hf2,.inl ⟨h0,mono hs2⟩,.inl h0⟩
  ·obtain⟨a1,a2⟩:=fin h0;exact⟨o0,s2,a1,a2,hf2,.inr ⟨h0,mono hs2⟩,(endE hE h0).1⟩
 |if_ Γ0 _ e x y τ k _ _ _ hL hTe _ _ kx ky hTx hTy=>
  obtain⟨o,s2,hG,hs2,hs2',hf2,hE,run,mod,fin⟩:=withE e τ (by rw[hL];rfl) hTe (by omega) (by omega) (by omega);by_cases h0:s2.Kind=0
  ·have sx:=sub x (by rw[hL];simp);have sy:=sub y (by rw[hL];simp);by_cases c:o.v.N=0
   ·obtain⟨o3,s3,hG3,hM3,hf3,hs3,hE3⟩:=CS (N-1) ρ Γ Γ y s2 hTy sy.1 sy.2 hs2 h0 (by omega);have hs3:StOk m (N-1) Γ s3:=hs3.elim (fun h=>h.2.2) (fun h=>h.2);refine⟨o0,s3,run _ _ h0 ?_,mod _ h0 ?_,by omega,?_,hE3⟩
    ·rw[zq0 (by omega),zq0 (by omega),zq0 (by omega),zq1 k,zq1 c,hL];exact .call _ _ _ o3 s3 _ _ hG3 (.ret _ _)
    ·rw[zq0 (by omega),zq0 (by omega),zq0 (by omega),zq1 k,zq1 c,hL,show idx [e,x,y] 2=some y from rfl,zB,hM3];rfl
    ·by_cases h3:s3.Kind=0
     ·exact .inl ⟨h3,mono hs3⟩
     ·exact .inr ⟨h3,mono hs3⟩
   ·obtain⟨o3,s3,hG3,hM3,hf3,hs3,hE3⟩:=CS (N-1) ρ Γ Γ x s2 hTx sx.1 sx.2 hs2 h0 (by omega);have hs3:StOk m (N-1) Γ s3:=hs3.elim (fun h=>h.2.2) (fun h=>h.2);refine⟨o0,s3,run _ _ h0 ?_,mod _ h0 ?_,by omega,?_,hE3⟩
    ·rw[zq0 (by omega),zq0 (by omega),zq0 (by omega),zq1 k,zq0 c,hL];exact .call _ _ _ o3 s3 _ _ hG3 (.ret _ _)
    ·rw[zq0 (by omega),zq0 (by omega),zq0 (by omega),zq1 k,zq0 c,hL,show idx [e,x,y] 1=some x from rfl,zB,hM3];rfl
    ·by_cases h3:s3.Kind=0
     ·exact .inl ⟨h3,mono hs3⟩
     ·exact .inr ⟨h3,mono hs3⟩
  ·obtain⟨a1,a2⟩:=fin h0;exact⟨o0,s2,a1,a2,hf2,.inr ⟨h0,mono hs2⟩,(endE hE h0).1⟩
 |while_ Γ0 _ e x τ k _ _ _ hL hTe _ _ kx hTx=>
  obtain⟨o,s2,hG,hs2,hs2',hf2,hE,run,mod,fin⟩:=withE e τ (by rw[hL];rfl) hTe (by omega) (by omega) (by omega);by_cases h0:s2.Kind=0
  ·obtain⟨s3,hG3,hM3,hf3,hs3,hE3⟩:=w2J m f CE CS (N-1) ρ Γ t e x τ hL hTe hTx hw hts s2.Fuel.toNat o.v s2 hs2 (.inl h0) (by have:=hs2.fuel0;omega) (by omega);refine⟨o0,s3,run _ _ h0 ?_,mod _ h0 ?_,by omega,?_,hE3⟩
   ·rw[zq0 (by omega),zq0 (by omega),zq0 (by omega),zq0 (by omega),zq1 k];exact .call _ _ _ o0 s3 _ _ hG3 (.ret _ _)
   ·rw[zq0 (by omega),zq0 (by omega),zq0 (by omega),zq0 (by omega),zq1 k,v0F];unfold z3o;rw[hM3];rfl
   ·by_cases h3:s3.Kind=0
    ·exact .inl ⟨h3,mono hs3⟩
    ·exact .inr ⟨h3,mono hs3⟩
  ·obtain⟨a1,a2⟩:=fin h0;exact⟨o0,s2,a1,a2,hf2,.inr ⟨h0,mono hs2⟩,(endE hE h0).1⟩
 |for_ Γ0 _ a b x τ σ k _ _ _ hL hTa _ _ hTb _ _ kx hTx=>
  obtain⟨o,s2,hG,hs2,hs2',hf2,hE,run,mod,fin⟩:=withE a τ (by rw[hL];rfl) hTa (by omega) (by omega) (by omega);by_cases h0:s2.Kind=0
  ·obtain⟨-,hF,hW⟩:=hE.resolve_right (by omega);have sb:=sub b (by rw[hL];simp);have sx:=sub x (by rw[hL];simp);obtain⟨p,s3,hG3,hM3,hs3,hf3,-,hE3⟩:=CE (N-1) Γ b σ s2 hTb sb.1 sb.2 hs2 (.inl h0) (by omega);have run':∀o' s',Run m (.on s3 o0 (.call (.F s3.Locals.length o.v.N p.v.N x) s3 fun _ s=>.ret o0 s)) o' s'→Run m (z1x m t s1) o' s':=fun o' s' h=>run _ _ h0 (by
    rw[zq0 (by omega),zq0 (by omega),zq0 (by omega),zq0 (by omega),zq0 (by omega),zq1 k,hL];exact .call _ _ _ p s3 _ _ hG3 h)
   have mod':∀q,(if s3.Kind=0 then wD (List.length s3.Locals:Int) o.v.N m t (State.mk [] [] [] 0 [] 0 0 0 (Value.mk 0 [])) ⟨p.v,s3⟩ s3 else some s3)=some q→zU m s t=some q:=fun q h=>mod _ h0 (by
    rw[zq0 (by omega),zq0 (by omega),zq0 (by omega),zq0 (by omega),zq0 (by omega),zq1 k,v5r];unfold z5E;rw[hL,show idx [a,b,x] 1=some b from rfl,zB,hM3,zB];simp only;rw[h];rfl)
   by_cases h3:s3.Kind=0
   ·obtain⟨s4,hG4,hM4,hf4,hs4,hE4⟩:=w2H m f CS (N-1) ρ Γ x hTx sx.1 sx.2 p.v.N s3.Fuel.toNat o.v.N s3 hW.N_ hs3 (.inl h3) (by have:=hs3.fuel0;omega) (by omega);rw[←hs3.ll]at hG4 hM4;refine⟨o0,s4,run' _ _ (run_on.2 (.inl ⟨h3,.call _ _ _ o0 s4 _ _ hG4 (.ret _ _)⟩)),mod' _ (by rw[zq1 h3];exact hM4 t _ _ (by rw[hL];rfl) rfl),by omega,?_,hE4⟩;by_cases h4:s4.Kind=0
    ·exact .inl ⟨h4,mono hs4⟩
    ·exact .inr ⟨h4,mono hs4⟩
   ·exact⟨o0,s3,run' _ _ (run_on.2 (.inr ⟨h3,rfl,rfl⟩)),mod' _ (by rw[zq0 h3]),by omega,.inr ⟨h3,mono hs3⟩,(endE hE3 h3).1⟩
  ·obtain⟨a1,a2⟩:=fin h0;exact⟨o0,s2,a1,a2,hf2,.inr ⟨h0,mono hs2⟩,(endE hE h0).1⟩
 |set Γ0 _ a b τ σ r k _ _ _ hL hTa hTb hbare hR hr=>
  have sa:=sub a (by rw[hL];simp);have sb:=sub b (by rw[hL];simp);obtain⟨o,s2,hG,hM,hs2,hf2,-,hE⟩:=CE (N-1) Γ b σ s1 hTb sb.1 sb.2 hst (.inl hk1) hf;have run:∀o' s',Run m (.on s2 o0 (if r.K=9 then .opt (v0x s2.Globals r.N) fun v=>.call (.Y a v) s2 fun p s'=>.on s' o0 (.opt (v0x s'.Globals r.N) fun u=>.opt (wX u p.w o.v) fun x=>.ret o0 {s' with Globals:=s'.Globals.set r.N.toNat x})
    else .opt (z5j s2.Locals r.N) fun v=>.call (.Y a v) s2 fun p s'=>.on s' o0 (.opt (z5j s'.Locals r.N) fun u=>.opt (wX u p.w o.v) fun x=>.ret o0 {s' with Locals:=(s'.Locals.reverse.set r.N.toNat x).reverse}))) o' s'→Run m (z1x m t s1) o' s':=fun o' s' h=>by
   unfold z1x;rw[zq0 (by omega),zq0 (by omega),zq1 k,hL];refine .call _ _ _ o s2 _ _ hG ?_;rw[w2b hR hr];exact h
  have mod:∀q,(if s2.Kind=0 then vM m s2 t (State.mk [] [] [] 0 [] 0 0 0 (Value.mk 0 [])) ⟨o.v,s2⟩ r else some s2)=some q→zU m s t=some q:=fun q h=>by
   rw[z1b];unfold jR;rw[hpay,zB,zq1 hk1,zq0 (by omega),zq0 (by omega),zq1 k,v5s];unfold z5F;rw[hL,show idx [a,b] 1=some b from rfl,show idx [a,b] 0=some a from rfl,zB,hM,zB];simp only;rw[zB,w1a hR hr,h];rfl
  by_cases h0:s2.Kind=0
  ·obtain⟨-,hF,hW⟩:=hE.resolve_right (by omega);obtain⟨ρr,hTr,hY⟩:=w2U m hm f CE (N-1) Γ r a τ hTa sa.1 sa.2 hR hr;have ia:idx t.L 0=some a:=by rw[hL];rfl
   cases hTr with
   |rule _ _ p _ _ _ hne hpl _ hRR=>cases hRR<;>omega
   |alone _ _ _ _ _ _ _ hA=>
    cases hA with
    |num k'=>omega
    |tru k' _=>omega
    |coni _ _ k' _ _ _=>omega
    |conb _ _ k' _ _ _=>omega
    |read k'=>omega
    |glob d x k' hd' hx=>
     obtain⟨n,hN',hdn,hdk⟩:=hd'.nat;have hlt:n<s2.Globals.length:=by rw[hs2.gl];exact(List.getElem?_eq_some_iff.1 hdn).1
     have hgv:=List.getElem?_eq_getElem hlt;obtain⟨p,s3,hG3,hM3,hs3,hf3,hk3,hwl,ψ,hpath,hψ⟩:=hY x s2.Globals[n] s2 (z6O x).symm (hs2.gf n d x _ hdn hdk hx hgv) hs2 h0 (by omega);have run:∀o' s',Run m (.on s3 o0 (.opt (v0x s3.Globals r.N) fun u=>.opt (wX u p.w o.v) fun x=>.ret o0 {s3 with Globals:=s3.Globals.set r.N.toNat x})) o' s'→Run m (z1x m t s1) o' s':=fun o' s' h=>run _ _ (run_on.2 (.inl ⟨h0,by
      rw[zq1 k',hN',y2r,hgv,←hN'];exact .call _ _ _ p s3 _ _ hG3 h⟩))
     have mod:∀q,(if s3.Kind=0 then idx s3.Globals r.N>>=fun x5=>wX x5 p.w o.v>>=fun q2=>z5a s3.Globals r.N q2>>=fun q3=>some ({s3 with Globals:=q3})else some s3)=some q→zU m s t=some q:=fun q h=>mod _ (by
      rw[zq1 h0,z6H];unfold z0u;rw[zq0 (by omega),zq0 (by omega),zq1 k',ia,zB,hN',wG hlt,zB,hM3,zB,←hN'];exact h)
     by_cases h3:s3.Kind=0
     ·have hlt3:n<s3.Globals.length:=by rw[hs3.gl,←hs2.gl];exact hlt
      have hgv3:=List.getElem?_eq_getElem hlt3;obtain⟨u,eu,hu,huw⟩:=v6j hpath s3.Globals[n] o.v (hs3.gf n d x _ hdn hdk hx hgv3) (hs3.gw _ (List.getElem_mem hlt3)) (hF.congr _ (by rw[hψ h3,hbare])) hW;refine⟨o0,{s3 with Globals:=s3.Globals.set n u},run _ _ (run_on.2 (.inl ⟨h3,?_⟩)),mod _ ?_,by simp only;omega,.inl ⟨h3,mono (hs3.setG hdn hx hu huw)⟩,.inl h3⟩
      ·rw[hN',y2r,hgv3];show Run m (P.opt (wX s3.Globals[n] p.w o.v) _) _ _;rw[eu];exact .ret _ _
      ·rw[zq1 h3,hN',wG hlt3,zB,eu,zB,v8T hlt3 (by rw[hs3.gl];omega)];rfl
     ·exact⟨o0,s3,run _ _ (run_on.2 (.inr ⟨h3,rfl,rfl⟩)),mod _ (by rw[zq0 h3]),by omega,.inr ⟨h3,mono hs3⟩,.inr (.inr (hk3.resolve_left h3))⟩
    |loc n x k' hN' hn hx=>
     have hll:=hs2.ll;have hlt:n<s2.Locals.length:=by omega
     have hlt':s2.Locals.length-1-n<s2.Locals.length:=by omega
     obtain⟨p,s3,hG3,hM3,hs3,hf3,hk3,hwl,ψ,hpath,hψ⟩:=hY x s2.Locals[s2.Locals.length-1-n] s2 (z6O x).symm (hs2.lf (s2.Locals.length-1-n) x _ (by rw[hll];exact hx) (List.getElem?_eq_getElem hlt')) hs2 h0 (by omega);have hll3:s3.Locals.length=s2.Locals.length:=by rw[hs3.ll,hll]
     have run:∀o' s',Run m (.on s3 o0 (.opt (z5j s3.Locals r.N) fun u=>.opt (wX u p.w o.v) fun x=>.ret o0 {s3 with Locals:=(s3.Locals.reverse.set r.N.toNat x).reverse})) o' s'→Run m (z1x m t s1) o' s':=fun o' s' h=>run _ _ (run_on.2 (.inl ⟨h0,by
      rw[zq0 (by omega),hN',y4X hlt,←hN'];exact .call _ _ _ p s3 _ _ hG3 h⟩))
     have mod:∀q,(if s3.Kind=0 then idx s3.Locals (IntKind.wrap .i64 ((IntKind.wrap .i64 ((List.length s2.Locals:Int)-1))-r.N))>>=fun x5=>wX x5 p.w o.v>>=fun q2=>z5a s3.Locals (IntKind.wrap .i64 ((IntKind.wrap .i64 ((List.length s2.Locals:Int)-1))-r.N)) q2>>=fun q3=>some ({s3 with Locals:=q3})else some s3)=some q→zU m s t=some q:=fun q h=>mod _ (by
      rw[zq1 h0,z6H];unfold z0u;rw[zq0 (by omega),zq0 (by omega),zq0 (by omega),ia,zB,hN',v2T hlt hs2.locals_le,zB,hM3,zB,←hN'];exact h)
     by_cases h3:s3.Kind=0
     ·have hlt3:n<s3.Locals.length:=by omega
      have hlt3':s3.Locals.length-1-n<s3.Locals.length:=by omega
      obtain⟨u,eu,hu,huw⟩:=v6j hpath s3.Locals[s3.Locals.length-1-n] o.v (hs3.lf (s3.Locals.length-1-n) x _ (by rw[hs3.ll];exact hx) (List.getElem?_eq_getElem hlt3')) (hs3.lw _ (List.getElem_mem hlt3')) (hF.congr _ (by rw[hψ h3,hbare])) hW;have ewr:IntKind.wrap .i64 (IntKind.wrap .i64 ((s2.Locals.length:Int)-1)-n)=((s3.Locals.length-1-n:Nat):Int):=by
       have:=hs2.locals_le;rw[z0y (n:=(s2.Locals.length:Int)-1) (by omega) (by omega),z0y (by omega) (by omega)];omega
      refine⟨o0,{s3 with Locals:=s3.Locals.set (s3.Locals.length-1-n) u},run _ _ (run_on.2 (.inl ⟨h3,?_⟩)),mod _ ?_,by simp only;omega,.inl ⟨h3,mono (hs3.setL (by rw[hs3.ll];exact hx) hu huw)⟩,.inl h3⟩
      ·rw[hN',y4X hlt3];show Run m (P.opt (wX s3.Locals[s3.Locals.length-1-n] p.w o.v) _) _ _;rw[eu,←w2h hlt3];exact .ret _ _
      ·rw[zq1 h3,hN',ewr,wG hlt3',zB,eu,zB,v8T hlt3' (by have:=hs3.locals_le;omega)];rfl
     ·exact⟨o0,s3,run _ _ (run_on.2 (.inr ⟨h3,rfl,rfl⟩)),mod _ (by rw[zq0 h3]),by omega,.inr ⟨h3,mono hs3⟩,.inr (.inr (hk3.resolve_left h3))⟩
  ·refine⟨o0,s2,run _ _ (run_on.2 (.inr ⟨h0,rfl,rfl⟩)),mod _ (by rw[zq0 h0]),by omega,.inr ⟨h0,mono hs2⟩,(endE hE h0).1⟩
theorem y6L(m:zA)(hm:ModOk m)(hms:zH m≤100000000)(hmw:zA.Wf m)(f:Nat):y8l m f∧y8m m f:=by
 induction f with
 |zero=>
  refine⟨fun N Γ t τ s hT hw hts hs hk hf=>?_,fun N ρ Γ Γ' t s hT hw hts hs hk hf=>?_⟩
  ·by_cases k0:s.Kind=0
   ·refine⟨o0,{s with Kind:=3},.dry _ _ k0 hf,?_,hs.same rfl rfl rfl rfl rfl rfl hs.rt,Int.le_refl _,fun h=>absurd h (show ¬(3:Int)=0 by decide),.inr ⟨.inr rfl,rfl⟩⟩;rw[jC];unfold uD;rw[y7g k0 hf,zB,zq0 (show ¬(3:Int)=0 by decide)];rfl
   ·have e:=y3s (m:=m) (t:=t) k0;exact⟨o0,s,e.1,e.2,hs,Int.le_refl _,fun h=>absurd h k0,.inr ⟨by omega,rfl⟩⟩
  ·refine⟨o0,{s with Kind:=3},.dry _ _ hk hf,?_,Int.le_refl _,.inr ⟨show(3:Int)≠0 by decide,hs.same rfl rfl rfl rfl rfl rfl hs.rt⟩,.inr (.inr (.inr rfl))⟩;rw[z1b];unfold jR;rw[y7g hk hf,zB,zq0 (show ¬(3:Int)=0 by decide)]
 |succ f ih=>
  obtain⟨CE,CS⟩:=ih;have CL:=w2I m f CE;have CC:=w2G m hms hmw f CS;have CB:=w2F m f CS;refine⟨fun N Γ t τ s hT hw hts hs hk hf=>?_,fun N ρ Γ Γ' t s hT hw hts hs hk hf=>?_⟩
  ·by_cases k0:s.Kind=0
   ·by_cases hd':s.Fuel≤0
    ·refine⟨o0,{s with Kind:=3},.dry _ _ k0 hd',?_,hs.same rfl rfl rfl rfl rfl rfl hs.rt,Int.le_refl _,fun h=>absurd h (show ¬(3:Int)=0 by decide),.inr ⟨.inr rfl,rfl⟩⟩;rw[jC];unfold uD;rw[y7g k0 hd',zB,zq0 (show ¬(3:Int)=0 by decide)];rfl
    ·have hs1:=hs.pay (by omega:0<s.Fuel);obtain⟨o,s',hR,hM,hs',hf',hE⟩:=v8v m hm hms hmw f CE CL CC (N-1) Γ t τ s _ (v9j k0 (by omega) hs.fuel1) k0 hT hw hts hs1 (by simp only;omega);simp only at hf';exact⟨o,s',.pay _ _ _ _ k0 (by omega) hR,hM,hs'.mono (by omega) hs.trN,by omega,fun _=>⟨by omega,hs'⟩,hE⟩
   ·have e:=y3s (m:=m) (t:=t) k0;exact⟨o0,s,e.1,e.2,hs,Int.le_refl _,fun h=>absurd h k0,.inr ⟨by omega,rfl⟩⟩
  ·by_cases hd':s.Fuel≤0
   ·refine⟨o0,{s with Kind:=3},.dry _ _ hk hd',?_,Int.le_refl _,.inr ⟨show(3:Int)≠0 by decide,hs.same rfl rfl rfl rfl rfl rfl hs.rt⟩,.inr (.inr (.inr rfl))⟩;rw[z1b];unfold jR;rw[y7g hk hd',zB,zq0 (show ¬(3:Int)=0 by decide)]
   ·have hs1:=hs.pay (by omega:0<s.Fuel);have hroom:=hs.room;have hll:=hs.ll;obtain⟨o,s',hR,hM,hf',hs',hE⟩:=v9H m hm hms hmw f CE CS CB N ρ Γ Γ' t s _ (v9j hk (by omega) hs.fuel1) hk hT hw hts hs1 hs.trN (by simp only;omega) (by simp only;omega);simp only at hf';exact⟨o,s',.pay _ _ _ _ hk (by omega) hR,hM,by omega,hs'.elim (fun h=>.inl ⟨h.1,by omega,h.2⟩) .inr,hE⟩
theorem v0P{n k:Nat}(h:n<k)(hk:k≤9223372036854775807):IntKind.wrap .i64 ((n:Int)+1)=((n+1:Nat):Int):=by rw[z3R];exact z0y (by omega) (by omega)
theorem v9U(v:Value):Value.Wf v→∀left levels:Int,0≤left→left≤1000000→levels≤1000000→∃n,uH v left levels=some n∧-1≤n∧n≤left:=by
 induction v using Value.ind with
 |h v ih=>
  intro hw left levels h0 h1 h2;rw[v0E];unfold z3j;by_cases c:levels≤0
  ·rw[zq1 c];exact⟨_,rfl,by omega,by omega⟩
  rw[zq0 c,z0y (n:=left-1) (by omega) (by omega)];have loop:∀(k i:Nat) (l:Int),i+k=v.L.length→-1≤l→l≤left→∃n,yW l levels i v=some n∧-1≤n∧n≤l:=by
   intro k;induction k with
   |zero=>
    intro i l hi hl hl';rw[z8E];unfold z0h;rw[zq0 (by omega)];exact⟨_,rfl,hl,Int.le_refl _⟩
   |succ k ihk=>
    intro i l hi hl hl';have hlt:i<v.L.length:=by omega
    rw[z8E];unfold z0h;rw[zq1 (by omega)];by_cases c2:l≥0
    ·have hm:=List.getElem_mem hlt;obtain⟨n,en,n0,n1⟩:=ih _ hm (hw.L_.2 _ hm) l (levels-1) c2 (by omega) (by omega);rw[zq1 c2,wG hlt,zB,z0y (n:=levels-1) (by omega) (by omega),en,zB,v0P hlt hw.L_.1];obtain⟨n',en',h1',h2'⟩:=ihk (i+1) n (by omega) n0 (by omega);exact⟨n',en',h1',by omega⟩
    ·rw[zq0 c2];exact⟨_,rfl,hl,Int.le_refl _⟩
  obtain⟨n,en,n0,n1⟩:=loop v.L.length 0 (left-1) (by omega) (by omega) (by omega);exact⟨n,en,n0,by omega⟩
theorem v3y(v:Value)(hw:Value.Wf v):∃b,z5C v=some b:=by
 obtain⟨n,en,-⟩:=v9U v hw 300 60 (by omega) (by omega) (by omega);unfold z5C;rw[en];exact⟨_,rfl⟩
theorem v5M(l:List Value)(hw:∀v∈l,Value.Wf v)(hl:l.length≤9223372036854775807):∃b,z5D l=some b∧(b=false→l.length≤40):=by
 have loop:∀(k i:Nat),i+k=l.length→∃b,vI l i=some b∧(b=false→l.length≤40):=by
  intro k;induction k with
  |zero=>
   intro i hi;rw[z8G];unfold z0j;rw[zq0 (by omega)];exact⟨_,rfl,fun h=>by have:=of_decide_eq_false h;omega⟩
  |succ k ih=>
   intro i hi;have hlt:i<l.length:=by omega
   rw[z8G];unfold z0j;rw[zq1 (by omega)];by_cases c:(i:Int)<40
   ·obtain⟨b,eb⟩:=v3y l[i] (hw _ (List.getElem_mem hlt));rw[zq1 c,wG hlt,zB,eb,zB,v0P hlt hl];cases b with
    |true=>rw[zq1 rfl];exact⟨_,rfl,fun h=>Bool.noConfusion h⟩
    |false=>rw[zq0 (by decide)];exact ih (i+1) (by omega)
   ·rw[zq0 c];exact⟨_,rfl,fun h=>by have:=of_decide_eq_false h;omega⟩
 unfold z5D;exact loop l.length 0 (by omega)
structure v3O(s:State):Prop where
 g:s.Globals.length≤40
 l:s.Locals.length≤40
 i:s.Input.length≤100
 t:s.Trace.length≤200
 f:s.Fuel≤3000
theorem v9C(s:State)(hw:State.Wf s):∃b,z4v s=some b∧(b=false→v3O s):=by
 unfold z4v;by_cases c1:(List.length s.Globals:Int)>40
 ·rw[zq1 c1];exact⟨_,rfl,fun h=>Bool.noConfusion h⟩
 rw[zq0 c1];by_cases c2:(List.length s.Locals:Int)>40
 ·rw[zq1 c2];exact⟨_,rfl,fun h=>Bool.noConfusion h⟩
 rw[zq0 c2];by_cases c3:(List.length s.Input:Int)>100
 ·rw[zq1 c3];exact⟨_,rfl,fun h=>Bool.noConfusion h⟩
 rw[zq0 c3];by_cases c4:(List.length s.Trace:Int)>200
 ·rw[zq1 c4];exact⟨_,rfl,fun h=>Bool.noConfusion h⟩
 rw[zq0 c4];by_cases c5:s.Fuel>3000
 ·rw[zq1 c5];exact⟨_,rfl,fun h=>Bool.noConfusion h⟩
 rw[zq0 c5];obtain⟨b1,e1⟩:=v3y s.Ret hw.Ret_;obtain⟨b2,e2,-⟩:=v5M s.Globals hw.Globals_.2 hw.Globals_.1;obtain⟨b3,e3,-⟩:=v5M s.Locals hw.Locals_.2 hw.Locals_.1;have sm:v3O s:=⟨by omega,by omega,by omega,by omega,by omega⟩;rw[e1,zB];cases b1 with
 |true=>rw[zq1 rfl];exact⟨_,rfl,fun h=>Bool.noConfusion h⟩
 |false=>
  rw[zq0 (by decide),e2,zB];cases b2 with
  |true=>rw[zq1 rfl];exact⟨_,rfl,fun h=>Bool.noConfusion h⟩
  |false=>rw[zq0 (by decide),e3,zB];exact⟨_,rfl,fun _=>sm⟩
theorem v6i(a:Value):∃b,uA a v0=some b∧(b=true↔a=v0):=by
 rw[y4a];unfold z2P;by_cases h1:a.N=0
 ·rw[zq1 h1];by_cases h2:(List.length a.L:Int)=((List.length ([]:List Value):Nat):Int)
  ·rw[zq1 h2,z6k];unfold gR;rw[zq0 (by rw[h2];simp)];exact⟨_,rfl,fun _=>y2M h1 (List.length_eq_zero_iff.1 (by simpa using h2)),fun _=>rfl⟩
  ·rw[zq0 h2];exact⟨_,rfl,fun h=>Bool.noConfusion h,fun h=>absurd (by rw[h]) h2⟩
 ·rw[zq0 h1];exact⟨_,rfl,fun h=>Bool.noConfusion h,fun h=>absurd (by rw[h]) h1⟩
theorem w2f(m:zA)(Γ:List zA)(l:List Value)(hm:zH m≤1000000000)(hΓ:∀x∈Γ,zH x≤1000000000)(hl:l.length≤9223372036854775807):∃b,y2D m Γ l=some b∧(b=true↔l.length=Γ.length∧∀(i:Nat) τ v,Γ[i]?=some τ→l[i]?=some v→Fit m τ v):=by
 have loop:∀(k i:Nat),i+k=l.length→Γ.length=l.length→∃b,wR Γ l i m=some b∧(b=true↔∀(j:Nat) τ v,i≤j→Γ[j]?=some τ→l[j]?=some v→Fit m τ v):=by
  intro k;induction k with
  |zero=>
   intro i hi hle;rw[y0M];unfold z1q;rw[zq0 (by omega)];exact⟨_,rfl,fun _ j τ v hj hx hy=>absurd (List.getElem?_eq_some_iff.1 hy).1 (by omega),fun _=>rfl⟩
  |succ k ih=>
   intro i hi hle;have hlt:i<l.length:=by omega
   have hlt':i<Γ.length:=by omega
   obtain⟨b,eb,hb⟩:=v8z hm l[i] Γ[i] (hΓ _ (List.getElem_mem hlt'));rw[y0M];unfold z1q;rw[zq1 (by omega),wG hlt',zB,wG hlt,zB,eb,zB,v0P hlt hl];cases b with
   |true=>
    rw[zq1 rfl];obtain⟨c,ec,hc⟩:=ih (i+1) (by omega) hle;refine⟨c,ec,hc.trans ⟨fun h j τ v hj hx hy=>?_,fun h j τ v hj hx hy=>h j τ v (by omega) hx hy⟩⟩;by_cases e:j=i
    ·subst e;rw[List.getElem?_eq_getElem hlt']at hx;rw[List.getElem?_eq_getElem hlt]at hy;cases hx;cases hy;exact hb.1 rfl
    ·exact h j τ v (by omega) hx hy
   |false=>
    rw[zq0 (by decide)];exact⟨_,rfl,fun h=>Bool.noConfusion h,fun h=>absurd (hb.2 (h i _ _ (Nat.le_refl _) (List.getElem?_eq_getElem hlt') (List.getElem?_eq_getElem hlt))) (by decide)⟩
 unfold y2D;by_cases c:(List.length Γ:Int)=(List.length l:Int)
 ·rw[zq1 c];obtain⟨b,eb,hb⟩:=loop l.length 0 (by omega) (by omega);exact⟨b,eb,hb.trans ⟨fun h=>⟨by omega,fun i τ v hx hy=>h i τ v (by omega) hx hy⟩,fun h i τ v _ hx hy=>h.2 i τ v hx hy⟩⟩
 ·rw[zq0 c];exact⟨_,rfl,fun h=>Bool.noConfusion h,fun h=>absurd h.1 (by omega)⟩
structure w1x(m:zA)(s:State):Prop where
 gl:s.Globals.length=m.L.length
 at0:0≤s.At
 at1:s.At≤(s.Input.length:Int)
 f0:0≤s.Fuel
 f1:s.Fuel≤65536
 k:s.Kind=0
 n:s.N=0
 r:s.Ret=v0
 gf:∀(i:Nat) d v,m.L[i]?=some d→s.Globals[i]?=some v→(d.K=32→∀x,d.L=[x]→Fit m x v)∧(d.K≠32→v=v0)
theorem w1b(m:zA)(s:State)(hm:ModOk m)(hms:zH m≤1000000000):∃b,y0a m s=some b∧(b=true→w1x m s):=by
 have hml:=vK m;have no:∃b,some false=some b∧(b=true→w1x m s):=⟨_,rfl,fun h=>Bool.noConfusion h⟩;unfold y0a;by_cases c1:(List.length s.Globals:Int)=(List.length m.L:Int)
 ·rw[zq1 c1];by_cases c2:s.At<0
  ·rw[zq1 c2];exact no
  rw[zq0 c2];by_cases c3:s.At>(List.length s.Input:Int)
  ·rw[zq1 c3];exact no
  rw[zq0 c3];by_cases c4:s.Fuel<0
  ·rw[zq1 c4];exact no
  rw[zq0 c4];by_cases c5:s.Fuel>65536
  ·rw[zq1 c5];exact no
  rw[zq0 c5];by_cases c6:s.Kind=0
  ·rw[zq1 c6];by_cases c7:s.N=0
   ·rw[zq1 c7];obtain⟨b,eb,hb⟩:=v6i s.Ret;rw[eb,zB];cases b with
    |false=>rw[zq0 (by decide)];exact no
    |true=>
     rw[zq1 rfl];have loop:∀(k i:Nat),i+k=m.L.length→∃b,vC i m s=some b∧(b=true→∀(j:Nat) d v,i≤j→m.L[j]?=some d→s.Globals[j]?=some v→(d.K=32→∀x,d.L=[x]→Fit m x v)∧(d.K≠32→v=v0)):=by
      intro k;induction k with
      |zero=>
       intro i hi;rw[y0b];unfold z0J;rw[zq0 (by omega)];exact⟨_,rfl,fun _ j d v hj hd'=>absurd (List.getElem?_eq_some_iff.1 hd').1 (by omega)⟩
      |succ k ih=>
       intro i hi;have hlt:i<m.L.length:=by omega
       have hlt':i<s.Globals.length:=by omega
       have gm:=List.getElem?_eq_getElem hlt;have gg:=List.getElem?_eq_getElem hlt';obtain⟨b,eb,hb⟩:=ih (i+1) (by omega);have ext:(m.L[i].K=32→∀x,m.L[i].L=[x]→Fit m x s.Globals[i])→(m.L[i].K≠32→s.Globals[i]=v0)→b=true→∀(j:Nat) d v,i≤j→m.L[j]?=some d→s.Globals[j]?=some v→(d.K=32→∀x,d.L=[x]→Fit m x v)∧(d.K≠32→v=v0):=fun h1 h2 hbt j d v hj hd' hv=>by
        by_cases e:j=i
        ·subst e;rw[gm]at hd';rw[gg]at hv;cases hd';cases hv;exact⟨h1,h2⟩
        ·exact hb hbt j d v (by omega) hd' hv
       rw[y0b];unfold z0J;simp only[wG hlt,wG hlt',zB];rw[zq1 (by omega),z1G (by omega)];by_cases k:m.L[i].K=32
       ·obtain⟨x,hx,-⟩:=hm.vartype gm k;have s1:=zS (List.mem_of_getElem? gm);have s2:=z2u hx;obtain⟨b',eb',hb'⟩:=v8z hms s.Globals[i] x (by omega);rw[zq1 k,hx,show idx [x] 0=some x from rfl,zB,eb',zB];cases b' with
        |true=>
         rw[zq1 rfl,zq1 k];exact⟨b,eb,ext (fun _ y hy=>by rw[hx]at hy;injection hy with hy;subst hy;exact hb'.1 rfl) (fun h=>absurd k h)⟩
        |false=>rw[zq0 (by decide)];exact⟨_,rfl,fun h=>Bool.noConfusion h⟩
       ·obtain⟨b',eb',hb'⟩:=v6i s.Globals[i];rw[zq0 k,zq0 k,eb',zB];cases b' with
        |true=>rw[zq1 rfl];exact⟨b,eb,ext (fun h=>absurd h k) (fun _=>hb'.1 rfl)⟩
        |false=>rw[zq0 (by decide)];exact⟨_,rfl,fun h=>Bool.noConfusion h⟩
     obtain⟨b,eb,hb'⟩:=loop m.L.length 0 (by omega);exact⟨b,eb,fun h=>⟨by omega,by omega,by omega,by omega,by omega,c6,c7,hb.1 rfl,fun i d v=>hb' h i d v (by omega)⟩⟩
   ·rw[zq0 c7];exact no
  ·rw[zq0 c6];exact no
 ·rw[zq0 c1];exact no
theorem w3m{m:zA}{Γ:List zA}{s:State}(hm:ModOk m)(hms:zH m≤1000000000)(hΓ:∀x∈Γ,zH x≤1000000000)(hw:State.Wf s)(hs:v3O s)(hf:w1x m s)(hl:s.Locals.length=Γ.length∧∀(i:Nat) τ v,Γ[i]?=some τ→s.Locals[i]?=some v→Fit m τ v):StOk m 1000000000 Γ s where
 gl:=hf.gl
 gf:=fun i d x v h1 h2 h3 h4=>(hf.gf i d v h1 h4).1 h2 x h3
 gw:=fun v hv=>by
  obtain⟨i,hi⟩:=List.getElem?_of_mem hv;have hlt:i<m.L.length:=by rw[←hf.gl];exact(List.getElem?_eq_some_iff.1 hi).1
  have gm:=List.getElem?_eq_getElem hlt;have s1:=zS (List.mem_of_getElem? gm);obtain⟨h1,h2⟩:=hf.gf i _ v gm hi;by_cases k:m.L[i].K=32
  ·obtain⟨x,hx,-⟩:=hm.vartype gm k;have s2:=z2u hx;exact .of ((h1 k x hx).vok hms (by omega)) (hw.Globals_.2 v hv)
  ·rw[h2 k];exact w1j
 ll:=hl.1
 lf:=hl.2
 lw:=fun v hv=>by
  obtain⟨i,hi⟩:=List.getElem?_of_mem hv;have hlt:i<Γ.length:=by rw[←hl.1];exact(List.getElem?_eq_some_iff.1 hi).1
  exact .of ((hl.2 i _ v (List.getElem?_eq_getElem hlt) hi).vok hms (hΓ _ (List.getElem_mem hlt))) (hw.Locals_.2 v hv)
 at0:=hf.at0
 at1:=hf.at1
 inl:=by have:=hs.i;omega
 inw:=hw.Input_.2
 fuel0:=hf.f0
 fuel1:=by have:=hs.f;omega
 room:=by have:=hs.l;have:=hs.f;omega
 tr:=by have:=hs.t;have:=hs.f;omega
 trN:=by omega
 rt:=by rw[hf.r];exact w1j
theorem StOk.fuel{m:zA}{N:Int}{Γ:List zA}{s:State}(h:StOk m N Γ s){f:Int}(h0:0≤f)(h1:f≤1000000)(h2:(s.Locals.length:Int)+f≤1000000000)(h3:(s.Trace.length:Int)+f≤N):StOk m N Γ {s with Fuel:=f}:=
 {h with fuel0:=h0,fuel1:=h1,room:=h2,tr:=h3}
inductive Fl:State→P→Prop
 |ret (s:State) (o:Out) (s':State):s'.Fuel≤s.Fuel→(s.Kind=3→s'.Kind=3)→Fl s (.ret o s')
 |call (s:State) (j:Job) (s1:State) (k:Out→State→P):s1.Fuel≤s.Fuel→(s.Kind=3→s1.Kind=3)→(∀o s2,s2.Fuel≤s1.Fuel→(s1.Kind=3→s2.Kind=3)→Fl s2 (k o s2))→Fl s (.call j s1 k)
 |pay (s s1:State) (k:State→P):s1.Fuel≤s.Fuel→(s.Kind=3→s1.Kind=3)→(∀s2,s2.Kind=0→Fl s2 (k s2))→Fl s (.pay s1 k)
 |bad (s:State):Fl s .bad
theorem Fl.opt{α:Type}{s:State}{x:Option α}{k:α→P}(h:∀a,Fl s (k a)):Fl s (.opt x k):=by
 cases x with
 |none=>exact .bad s
 |some a=>exact h a
theorem Fl.on{s s':State}{o:Out}{k:P}(h:Fl s (.ret o s'))(h':s'.Kind=0→Fl s k):Fl s (.on s' o k):=by
 unfold P.on;split
 ·exact h' (by assumption)
 ·exact h
theorem Fl.ite{c:Prop}[Decidable c]{s:State}{p q:P}(h:c→Fl s p)(h':¬c→Fl s q):Fl s (if c then p else q):=by
 split
 ·exact h (by assumption)
 ·exact h' (by assumption)
theorem Fl.cut{s s':State}{n:Nat}{k:State→P}(h:Fl s (k {s' with Locals:=s'.Locals.take n})):Fl s (cut s' n k):=by
 unfold M.cut;split
 ·exact h
 ·exact .bad s
theorem z5m(m:zA)(j:Job)(s:State):Fl s (step m j s):=by
 cases j with
 |E t=>
  refine .pay _ _ _ (Int.le_refl _) id fun s1 h0=>?_;unfold z1w
  (repeat' (first|assumption|exact id|exact Int.le_refl _|exact Fl.bad _|(refine Fl.ret _ _ _ ?_ ?_)|(refine Fl.call _ _ _ _ ?_ ?_ ?_)|(refine Fl.pay _ _ _ ?_ ?_ ?_)|(apply Fl.on)|(apply Fl.cut)|(apply Fl.opt)|(apply Fl.ite)|(intro _)|(simp only[z8J]at *;omega)))
 |L l=>
  cases l with
  |nil=>exact .ret _ _ _ (Int.le_refl _) id
  |cons x r=>show Fl s (P.call _ _ _);(repeat' (first|assumption|exact id|exact Int.le_refl _|exact Fl.bad _|(refine Fl.ret _ _ _ ?_ ?_)|(refine Fl.call _ _ _ _ ?_ ?_ ?_)|(refine Fl.pay _ _ _ ?_ ?_ ?_)|(apply Fl.on)|(apply Fl.cut)|(apply Fl.opt)|(apply Fl.ite)|(intro _)|(simp only[z8J]at *;omega)))
 |C f a=>
  show Fl s (v0M m f a s);unfold v0M
  (repeat' (first|assumption|exact id|exact Int.le_refl _|exact Fl.bad _|(refine Fl.ret _ _ _ ?_ ?_)|(refine Fl.call _ _ _ _ ?_ ?_ ?_)|(refine Fl.pay _ _ _ ?_ ?_ ?_)|(apply Fl.on)|(apply Fl.cut)|(apply Fl.opt)|(apply Fl.ite)|(intro _)|(simp only[z8J]at *;omega)))
 |S t=>
  refine .pay _ _ _ (Int.le_refl _) id fun s1 h0=>?_;unfold z1x
  (repeat' (first|assumption|exact id|exact Int.le_refl _|exact Fl.bad _|(refine Fl.ret _ _ _ ?_ ?_)|(refine Fl.call _ _ _ _ ?_ ?_ ?_)|(refine Fl.pay _ _ _ ?_ ?_ ?_)|(apply Fl.on)|(apply Fl.cut)|(apply Fl.opt)|(apply Fl.ite)|(intro _)|(simp only[z8J]at *;omega)))
 |B l=>
  cases l with
  |nil=>exact .ret _ _ _ (Int.le_refl _) id
  |cons x r=>show Fl s (P.call _ _ _);(repeat' (first|assumption|exact id|exact Int.le_refl _|exact Fl.bad _|(refine Fl.ret _ _ _ ?_ ?_)|(refine Fl.call _ _ _ _ ?_ ?_ ?_)|(refine Fl.pay _ _ _ ?_ ?_ ?_)|(apply Fl.on)|(apply Fl.cut)|(apply Fl.opt)|(apply Fl.ite)|(intro _)|(simp only[z8J]at *;omega)))
 |W v t=>show Fl s (P.on _ _ _);(repeat' (first|assumption|exact id|exact Int.le_refl _|exact Fl.bad _|(refine Fl.ret _ _ _ ?_ ?_)|(refine Fl.call _ _ _ _ ?_ ?_ ?_)|(refine Fl.pay _ _ _ ?_ ?_ ?_)|(apply Fl.on)|(apply Fl.cut)|(apply Fl.opt)|(apply Fl.ite)|(intro _)|(simp only[z8J]at *;omega)))
 |F n i hi x=>show Fl s (P.pay _ _);(repeat' (first|assumption|exact id|exact Int.le_refl _|exact Fl.bad _|(refine Fl.ret _ _ _ ?_ ?_)|(refine Fl.call _ _ _ _ ?_ ?_ ?_)|(refine Fl.pay _ _ _ ?_ ?_ ?_)|(apply Fl.on)|(apply Fl.cut)|(apply Fl.opt)|(apply Fl.ite)|(intro _)|(simp only[z8J]at *;omega)))
 |Y t kept=>
  show Fl s (if _ then _ else _)
  (repeat' (first|assumption|exact id|exact Int.le_refl _|exact Fl.bad _|(refine Fl.ret _ _ _ ?_ ?_)|(refine Fl.call _ _ _ _ ?_ ?_ ?_)|(refine Fl.pay _ _ _ ?_ ?_ ?_)|(apply Fl.on)|(apply Fl.cut)|(apply Fl.opt)|(apply Fl.ite)|(intro _)|(simp only[z8J]at *;omega)))
theorem y8O{m:zA}{p:P}{o:Out}{s':State}(h:Run m p o s'):∀s,Fl s p→s'.Fuel≤s.Fuel∧(s.Kind=3→s'.Kind=3):=by
 induction h with
 |ret o s' =>
  intro s hf;cases hf with|ret _ _ _ a b=>exact⟨a,b⟩
 |call j s1 k o1 s2 o s' _ _ ih1 ih2=>
  intro s hf;cases hf with
  |call _ _ _ _ a b c=>
   obtain⟨a1,b1⟩:=ih1 s1 (z5m m j s1);obtain⟨a2,b2⟩:=ih2 s2 (c o1 s2 a1 b1);exact⟨by omega,fun h=>b2 (b1 (b h))⟩
 |ended s1 k h=>
  intro s hf;cases hf with|pay _ _ _ a b _=>exact⟨a,b⟩
 |dry s1 k h1 h2=>
  intro s hf;cases hf with|pay _ _ _ a b _=>exact⟨a,fun _=>rfl⟩
 |pay s1 k o s' h1 h2 _ ih=>
  intro s hf;cases hf with
  |pay _ _ _ a b c=>
   obtain⟨a1,b1⟩:=ih _ (c {s1 with Fuel:=s1.Fuel-1} h1);exact⟨by simp only at a1;omega,fun h=>by have:=b h;omega⟩
abbrev v1p(s:State)(d:Int):State:={s with Fuel:=s.Fuel+d}
inductive SimF(d:Int):P→P→Prop
 |ret (o:Out) (s:State):SimF d (.ret o s) (.ret o (v1p s d))
 |call (j:Job) (s:State) (k k':Out→State→P):(∀o s1,SimF d (k o s1) (k' o (v1p s1 d)))→SimF d (.call j s k) (.call j (v1p s d) k')
 |pay (s:State) (k k':State→P):(∀s1,SimF d (k s1) (k' (v1p s1 d)))→SimF d (.pay s k) (.pay (v1p s d) k')
 |bad:SimF d .bad .bad
theorem SimF.opt{d:Int}{α:Type}{x:Option α}{k k':α→P}(h:∀a,SimF d (k a) (k' a)):SimF d (.opt x k) (.opt x k'):=by
 cases x with
 |none=>exact .bad
 |some a=>exact h a
theorem SimF.on{d:Int}{s:State}{o:Out}{k k':P}(h:SimF d k k'):SimF d (.on s o k) (.on (v1p s d) o k'):=by
 unfold P.on;show SimF d (if s.Kind=0 then k else .ret o s) (if s.Kind=0 then k' else .ret o (v1p s d));split
 ·exact h
 ·exact .ret _ _
theorem SimF.ite{d:Int}{c:Prop}[Decidable c]{p p' q q':P}(h:SimF d p p')(h':SimF d q q'):SimF d (if c then p else q) (if c then p' else q'):=by
 split
 ·exact h
 ·exact h'
theorem SimF.cut{d:Int}{s:State}{n:Nat}{k k':State→P}(h:∀s,SimF d (k s) (k' (v1p s d))):SimF d (cut s n k) (cut (v1p s d) n k'):=by
 unfold M.cut;show SimF d (if n≤s.Locals.length then _ else .bad) (if n≤s.Locals.length then _ else .bad);split
 ·exact h _
 ·exact .bad
theorem v6l(m:zA)(d:Int)(j:Job)(s:State):SimF d (step m j s) (step m j (v1p s d)):=by
 cases j with
 |E t=>refine .pay _ _ _ fun s1=>?_;unfold z1w;(repeat' (first|exact SimF.bad|exact SimF.ret _ _|(refine SimF.call _ _ _ _ ?_)|(refine SimF.pay _ _ _ ?_)|(apply SimF.on)|(apply SimF.cut)|(apply SimF.opt)|(apply SimF.ite)|(intro _)))
 |L l=>
  cases l with
  |nil=>exact .ret _ _
  |cons x r=>show SimF d (P.call _ _ _) (P.call _ _ _);(repeat' (first|exact SimF.bad|exact SimF.ret _ _|(refine SimF.call _ _ _ _ ?_)|(refine SimF.pay _ _ _ ?_)|(apply SimF.on)|(apply SimF.cut)|(apply SimF.opt)|(apply SimF.ite)|(intro _)))
 |C f a=>show SimF d (v0M m f a s) (v0M m f a _);unfold v0M;(repeat' (first|exact SimF.bad|exact SimF.ret _ _|(refine SimF.call _ _ _ _ ?_)|(refine SimF.pay _ _ _ ?_)|(apply SimF.on)|(apply SimF.cut)|(apply SimF.opt)|(apply SimF.ite)|(intro _)))
 |S t=>refine .pay _ _ _ fun s1=>?_;unfold z1x;(repeat' (first|exact SimF.bad|exact SimF.ret _ _|(refine SimF.call _ _ _ _ ?_)|(refine SimF.pay _ _ _ ?_)|(apply SimF.on)|(apply SimF.cut)|(apply SimF.opt)|(apply SimF.ite)|(intro _)))
 |B l=>
  cases l with
  |nil=>exact .ret _ _
  |cons x r=>show SimF d (P.call _ _ _) (P.call _ _ _);(repeat' (first|exact SimF.bad|exact SimF.ret _ _|(refine SimF.call _ _ _ _ ?_)|(refine SimF.pay _ _ _ ?_)|(apply SimF.on)|(apply SimF.cut)|(apply SimF.opt)|(apply SimF.ite)|(intro _)))
 |W v t=>show SimF d (P.on _ _ _) (P.on _ _ _);(repeat' (first|exact SimF.bad|exact SimF.ret _ _|(refine SimF.call _ _ _ _ ?_)|(refine SimF.pay _ _ _ ?_)|(apply SimF.on)|(apply SimF.cut)|(apply SimF.opt)|(apply SimF.ite)|(intro _)))
 |F n i hi x=>show SimF d (P.pay _ _) (P.pay _ _);(repeat' (first|exact SimF.bad|exact SimF.ret _ _|(refine SimF.call _ _ _ _ ?_)|(refine SimF.pay _ _ _ ?_)|(apply SimF.on)|(apply SimF.cut)|(apply SimF.opt)|(apply SimF.ite)|(intro _)))
 |Y t kept=>show SimF d (if _ then _ else _) (if _ then _ else _);(repeat' (first|exact SimF.bad|exact SimF.ret _ _|(refine SimF.call _ _ _ _ ?_)|(refine SimF.pay _ _ _ ?_)|(apply SimF.on)|(apply SimF.cut)|(apply SimF.opt)|(apply SimF.ite)|(intro _)))
theorem v9t{m:zA}{p:P}{o:Out}{s':State}(d:Int)(h:Run m p o s'):∀s p',Fl s p→SimF d p p'→s'.Kind≠3→0≤s'.Fuel+d→Run m p' o (v1p s' d):=by
 induction h with
 |ret o s' =>
  intro s p' hf hs h3 h0;cases hs;exact .ret _ _
 |call j s1 k o1 s2 o s' hr1 hr2 ih1 ih2=>
  intro s p' hf hs h3 h0;cases hf with
  |call _ _ _ _ a b c=>
   obtain⟨a1,b1⟩:=y8O hr1 s1 (z5m m j s1);obtain⟨a2,b2⟩:=y8O hr2 s2 (c o1 s2 a1 b1);cases hs with
   |call _ _ _ k' hk=>
    exact .call _ _ _ o1 (v1p s2 d) _ _ (ih1 s1 _ (z5m m j s1) (v6l m d j s1) (fun h=>h3 (b2 h)) (by omega)) (ih2 s2 _ (c o1 s2 a1 b1) (hk o1 s2) h3 h0)
 |ended s1 k h=>
  intro s p' hf hs h3 h0;cases hs with
  |pay _ _ k' hk=>exact .ended _ _ h
 |dry s1 k h1 h2=>
  intro s p' hf hs h3 h0;exact absurd rfl h3
 |pay s1 k o s' h1 h2 hr ih=>
  intro s p' hf hs h3 h0;cases hf with
  |pay _ _ _ a b c=>
   have hc:=c {s1 with Fuel:=s1.Fuel-1} h1;obtain⟨a1,b1⟩:=y8O hr _ hc;simp only at a1;cases hs with
   |pay _ _ k' hk=>
    refine .pay _ _ _ _ h1 (by show 0<s1.Fuel+d;omega) ?_;have:=ih _ _ hc (hk _) h3 h0;have e:({(v1p s1 d)with Fuel:=(v1p s1 d).Fuel-1}:State)=v1p {s1 with Fuel:=s1.Fuel-1} d:=by
     show({s1 with Fuel:=s1.Fuel+d-1}:State)={s1 with Fuel:=s1.Fuel-1+d};congr 1;omega
    rw[e];exact this
abbrev at_(s:State)(f:Int):State:={s with Fuel:=f}
def wT(m:zA)(j:Job)(s:State)(o:Out)(a:State)(c:Int):Prop:=0≤c∧a.Kind≠3∧∀f,c≤f→G m j (at_ s f) o (at_ a (f-c))
theorem y9B{m:zA}{j:Job}{s a:State}{o:Out}(h:G m j s o a)(h3:a.Kind≠3)(h0:0≤a.Fuel):wT m j s o a (s.Fuel-a.Fuel):=by
 have hf:=(y8O h s (z5m m j s)).1;refine⟨by omega,h3,fun f hf'=>?_⟩;have:=v9t (f-s.Fuel) h s _ (z5m m j s) (v6l m (f-s.Fuel) j s) h3 (by omega);have e1:v1p s (f-s.Fuel)=at_ s f:=by show({s with Fuel:=_}:State)={s with Fuel:=f};congr 1;omega
 have e2:v1p a (f-s.Fuel)=at_ a (f-(s.Fuel-a.Fuel)):=by show({a with Fuel:=_}:State)={a with Fuel:=_};congr 1;omega
 rw[e1,e2]at this;exact this
def isB(t:zA):Bool:=t.K == 20 || t.K == 21
def y8v:List zA→Nat
 |[]=>0
 |x::r=>(if isB x=true then 1 else 0)+y8v r
theorem w1F(l:List zA):y8v l≤l.length:=by
 induction l with
 |nil=>simp[y8v]
 |cons x r ih=>simp only[y8v,List.length_cons];split<;>omega
theorem v1T{l:List zA}{i:Nat}(h:i<l.length):y8v (l.take (i+1))=y8v (l.take i)+(if isB l[i]=true then 1 else 0):=by
 induction l generalizing i with
 |nil=>simp at h
 |cons x r ih=>
  cases i with
  |zero=>simp[y8v]
  |succ i=>simp only[List.take_succ_cons,y8v,List.getElem_cons_succ];rw[ih (by simpa using h)];omega
def inN(t:zA)(i:Nat):Nat:=
 if i<t.L.length then
  if t.K=29 then y8v (t.L.take i)
  else if t.K=25 then(if i=2 then 1 else 0)
  else if t.K=33 then(if i=2 then(match t.L with|x::_=>x.L.length|[]=>0)else 0)
  else 0
 else 0
theorem w0B{t:zA}{i:Nat}(h:i<t.L.length):inN t i+zH t.L[i]≤vX t.L:=by
 have h1:=v5D t.L i;have h2:=z8f h;have h3:=z5I (t.L.take i);have h4:=w1F (t.L.take i);have h5:(t.L.take i).length=i:=by simp;omega
 suffices inN t i≤vX (t.L.take i)by omega
 unfold inN;rw[zq1 h];split
 ·omega
 ·split
  ·split<;>omega
  ·split
   ·split
    ·rename_i hi;subst hi
     cases hl:t.L with
     |nil=>simp
     |cons x r=>
      simp only[List.take_succ_cons,vX];have:=jV x;have:=z5I x.L;omega
    ·omega
   ·omega
theorem v5L(t:zA):z4A t=some (isB t):=by
 unfold z4A isB;by_cases h:t.K=20
 ·rw[zq1 h];simp[h]
 ·rw[zq0 h];simp[h]
theorem v8H(l:List zA)(hl:l.length≤9223372036854775806):∀(k i:Nat),i+k=l.length→∀n:Nat,n≤i→shift_In_L7 n l l.length i=some (((n+y8v (l.drop i):Nat):Int)):=by
 intro k;induction k with
 |zero=>
  intro i hi n hn;rw[y0N];unfold z1v;rw[zq0 (by omega)];have:l.drop i=[]:=List.drop_eq_nil_of_le (by omega);rw[this];simp[y8v]
 |succ k ih=>
  intro i hi n hn;rw[y0N];unfold z1v;rw[zq1 (by omega),wG (show i<l.length by omega),zB,v5L,zB,z0y (n:=(n:Int)+1) (by omega) (by omega),z0y (by omega) (by omega)];rw[List.drop_eq_getElem_cons (show i<l.length by omega),y8v];cases hb:isB l[i]with
  |true=>
   rw[zq1 rfl,z3R,z3R,ih (i+1) (by omega) (n+1) (by omega)];simp;omega
  |false=>
   rw[zq0 (by simp),z3R,ih (i+1) (by omega) n (by omega)];simp
def inI(t:zA)(i:Int):Int:=if i<0 then 0 else(inN t i.toNat:Int)
theorem w3f(t:zA)(hl:t.L.length≤9223372036854775806)(i:Int):y2K t i=some (inI t i):=by
 unfold y2K inI;by_cases h0:i<0
 ·rw[zq1 h0,zq1 h0]
 rw[zq0 h0,zq0 h0];obtain⟨n,rfl⟩:=Int.eq_ofNat_of_zero_le (show 0≤i by omega);unfold inN;have hn:(n:Int).toNat=n:=rfl;rw[hn];by_cases h1:(n:Int)≥(List.length t.L:Int)
 ·rw[zq1 h1,zq0 (by omega)];rfl
 rw[zq0 h1,zq1 (show n<t.L.length by omega)];have hlt:n<t.L.length:=by omega
 by_cases h29:t.K=29
 ·rw[zq1 h29,zq1 h29,zq1 (by omega),zq1 (by omega),zq1 (by omega)];have:=v8H (t.L.take n) (by simp;omega) (t.L.take n).length 0 (by omega) 0 (by omega);simpa using this
 rw[zq0 h29,zq0 h29];by_cases h25:t.K=25
 ·rw[zq1 h25,zq1 h25];by_cases h2:n=2
  ·subst h2;rfl
  ·rw[zq0 (by omega),zq0 h2];rfl
 rw[zq0 h25,zq0 h25];by_cases h33:t.K=33
 ·rw[zq1 h33,zq1 h33];by_cases h2:n=2
  ·subst h2;rw[zq1 (by rfl),zq1 rfl,w0A];cases hL:t.L with
   |nil=>rw[hL]at hlt;simp at hlt
   |cons x r=>rfl
  ·rw[zq0 (by omega),zq0 h2];rfl
 ·rw[zq0 h33,zq0 h33];rfl
mutual
def w0b(f:zA→Int→zA):zA→Int→zA
 |⟨K,N,S,L,F,T⟩,d=>if K=7 then f ⟨K,N,S,L,F,T⟩ d else⟨K,N,S,z8I f ⟨K,N,S,L,F,T⟩ L 0 d,F,T⟩
def z8I(f:zA→Int→zA)(p:zA):List zA→Nat→Int→List zA
 |[],_,_=>[]
 |x::r,i,d=>w0b f x (d+inN p i)::z8I f p r (i+1) d
end
mutual
def v9X(Q:Int→Int→Bool):zA→Int→Bool
 |⟨K,N,S,L,F,T⟩,d=>if K=7 then Q N d else y5V Q ⟨K,N,S,L,F,T⟩ L 0 d
def y5V(Q:Int→Int→Bool)(p:zA):List zA→Nat→Int→Bool
 |[],_,_=>false
 |x::r,i,d=>v9X Q x (d+inN p i) || y5V Q p r (i+1) d
end
theorem z6F(f:zA→Int→zA)(t:zA)(d:Int):w0b f t d=if t.K=7 then f t d else {t with L:=z8I f t t.L 0 d}:=by cases t;simp only[w0b]
theorem v8f(Q:Int→Int→Bool)(t:zA)(d:Int):v9X Q t d=if t.K=7 then Q t.N d else y5V Q t t.L 0 d:=by cases t;simp only[v9X]
theorem y2s(f:zA→Int→zA)(p:zA)(l:List zA):∀(i:Nat) (d:Int),(z8I f p l i d).length=l.length:=by
 induction l with
 |nil=>intro i d;rfl
 |cons x r ih=>intro i d;simp[z8I,ih]
theorem z9O(f:zA→Int→zA)(p:zA):∀(l:List zA) (i:Nat) (d:Int) (j:Nat) (h:j<l.length),(z8I f p l i d)[j]?=some (w0b f l[j] (d+inN p (i+j)))
 |[],i,d,j,h=>by simp at h
 |x::r,i,d,0,h=>by simp[z8I]
 |x::r,i,d,j+1,h=>by
  rw[z8I,List.getElem?_cons_succ,z9O f p r (i+1) d j (by simpa using h),List.getElem_cons_succ,show i+1+j=i+(j+1)by omega]
theorem v3t{α:Type}{l m:List α}{i:Nat}{x:α}(h:l.take i=m.take i)(hi:i<l.length)(hx:m[i]?=some x):(l.set i x).take (i+1)=m.take (i+1):=by
 have hm:i<m.length:=(List.getElem?_eq_some_iff.1 hx).1;apply List.ext_getElem?;intro j;rw[List.getElem?_take,List.getElem?_take];split
 ·rw[List.getElem?_set];split
  ·rename_i h2 e;subst e;exact hx.symm
  ·have:=congrArg (·[j]?) h;simp only[List.getElem?_take]at this;rw[zq1 (by omega),zq1 (by omega)]at this;exact this
 ·rfl
def z3c(b f:Int)(t:zA)(d:Int):zA:=if t.N<d∨t.N-d<f then t else {t with N:=IntKind.wrap .i64 (t.N+b)}
def v5l(b f:Int)(N d:Int):Bool:=decide (b<0∧d≤N∧f≤N-d∧N-d<f-b)
structure Lim(b f:Int):Prop where
 b1:-8192≤b
 b2:b≤8192
 f1:0≤f
 f2:f≤8192
theorem w2p{t:zA}(w:zA.Wf t){d b f:Int}(hd:0≤d)(hd2:d≤4000000000000000000)(L:Lim b f)(lost:Bool):
  z1A t d b f lost=some (z3c b f t d,b,f,lost || v5l b f t.N d):=by
 have hN:=i64_iff.1 w.N_;obtain⟨b1,b2,f1,f2⟩:=L;unfold z1A z3c v5l;by_cases h1:t.N<d
 ·rw[zq1 h1,zq1 (.inl h1)];simp;omega
 rw[zq0 h1,z0y (n:=t.N-d) (by omega) (by omega),z0y (n:=f-b) (by omega) (by omega)];by_cases h2:t.N-d<f
 ·rw[zq1 h2,zq1 (.inr h2)];simp;omega
 rw[zq0 h2,zq0 (show ¬(t.N<d∨t.N-d<f)by omega)];by_cases h3:b<0
 ·rw[zq1 h3];by_cases h4:t.N-d<f-b
  ·rw[zq1 h4];have:decide (b<0∧d≤t.N∧f≤t.N-d∧t.N-d<f-b)=true:=decide_eq_true (by omega);rw[this];simp
  ·rw[zq0 h4];have:decide (b<0∧d≤t.N∧f≤t.N-d∧t.N-d<f-b)=false:=decide_eq_false (by omega);rw[this];simp
 ·rw[zq0 h3];have:decide (b<0∧d≤t.N∧f≤t.N-d∧t.N-d<f-b)=false:=decide_eq_false (by omega);rw[this];simp
theorem v6D(Q:Int→Int→Bool)(p:zA){l:List zA}{i:Nat}(h:i<l.length)(d:Int):y5V Q p (l.drop i) i d=(v9X Q l[i] (d+inN p i) || y5V Q p (l.drop (i+1)) (i+1) d):=by
 rw[List.drop_eq_getElem_cons h,y5V]
theorem w1Q(t:zA)(i:Nat):inI t i=inN t i:=by unfold inI;rw[zq0 (by omega)];rfl
theorem v2U{t:zA}(h:t.K=29){i:Nat}(hi:i<t.L.length):inN t i=y8v (t.L.take i):=by unfold inN;rw[zq1 hi,zq1 h]
theorem w1i(b f:Int)(L:Lim b f)(t:zA):zA.Wf t→∀(d:Int) (lost:Bool),0≤d→d+zH t≤1000000000 →
  shift_walk_mover_turn t d b f lost=some (w0b (z3c b f) t d,b,f,lost || v9X (v5l b f) t d):=by
 induction t using zA.ind with
 |h t ih=>
  intro wt d lost hd hs;rw[z7p];unfold uM;rw[z6F,v8f];by_cases h7:t.K=7
  ·rw[zq1 h7,zq1 h7,zq1 h7,w2p wt hd (by omega) L];rfl
  rw[zq0 h7,zq0 h7,zq0 h7];have hsz:=jV t;have hlen:=z5I t.L;by_cases h0:(List.length t.L:Int)=0
  ·rw[zq1 h0];have hnil:t.L=[]:=List.length_eq_zero_iff.1 (by omega);rw[hnil];simp only[z8I,y5V,Bool.or_false];congr 1;cases t;simp only at hnil;subst hnil;rfl
  rw[zq0 h0,zq1 (by omega)];have loop:∀(k i:Nat) (more:Int) (row:List zA) (lo:Bool),i+k=t.L.length→(t.K=29→more=y8v (t.L.take i))→row.length=t.L.length →
    row.take i=(z8I (z3c b f) t t.L 0 d).take i →
    ∀o6:zA,shift_walk_mover_turn_L8 d more t.L t.L.length i t o6 row b f lo=some ({t with L:=z8I (z3c b f) t t.L 0 d},b,f,lo || y5V (v5l b f) t (t.L.drop i) i d):=by
   intro k;induction k with
   |zero=>
    intro i more row lo hi hm hr ht o6;rw[z1Z];unfold wJ;rw[zq0 (by omega)];have h1:t.L.drop i=[]:=List.drop_eq_nil_of_le (by omega);have h2:row=z8I (z3c b f) t t.L 0 d:=by
     have e1:=List.take_of_length_le (l:=row) (i:=i) (by omega);have e2:=List.take_of_length_le (l:=z8I (z3c b f) t t.L 0 d) (i:=i) (by rw[y2s];omega);rw[←e1,ht,e2]
    rw[h1,h2];simp[y5V]
   |succ k ihk=>
    intro i more row lo hi hm hr ht o6;have hil:i<t.L.length:=by omega
    have hin:=w0B hil;rw[z1Z];unfold wJ;rw[zq1 (by omega),wG hil,zB,v6D _ _ hil];have hget:=z9O (z3c b f) t t.L 0 d i hil;rw[Nat.zero_add]at hget;have htk:=v3t ht (by omega) hget;have hwi:IntKind.wrap .i64 ((i:Int)+1)=((i+1:Nat):Int):=by rw[z0y (by omega) (by omega)];omega
    have hdw:IntKind.wrap .i64 (d+(inN t i:Int))=d+(inN t i:Int):=z0y (by omega) (by omega);have e:=ih _ (List.getElem_mem hil) (wt.L_.2 _ (List.getElem_mem hil)) (d+(inN t i:Int)) lo (by omega) (by omega);have hn:(i:Int).toNat=i:=rfl;by_cases h29:t.K=29
    ·have hmore:=hm h29;rw[←v2U h29 hil]at hmore;rw[zq1 h29,hmore,hdw,e,zB,zq1 (by omega),zq1 (by rw[hn];omega),v5L,zB,hwi,hn];have hc:=v1T hil;have hbn:=v2U h29 hil;cases hb:isB t.L[i]with
     |true=>
      rw[zq1 rfl,ihk (i+1) _ _ _ (by omega) (fun _=>?_) (by simpa using hr) htk]
      ·simp[Bool.or_assoc]
      ·rw[z0y (by omega) (by omega),hc,hb,hbn];simp
     |false=>
      rw[zq0 (by simp),ihk (i+1) _ _ _ (by omega) (fun _=>?_) (by simpa using hr) htk]
      ·simp[Bool.or_assoc]
      ·rw[hc,hb,hbn];simp
    ·rw[zq0 h29,w3f t (by omega),zB,w1Q,hdw,e,zB,zq1 (by omega),zq1 (by rw[hn];omega),hwi,hn,
      ihk (i+1) _ _ _ (by omega) (fun h=>absurd h h29) (by simpa using hr) htk]
     simp[Bool.or_assoc]
  have:=loop t.L.length 0 0 (List.replicate (List.length t.L:Int).toNat (zA.mk 0 0 ([]:List UInt8) [] 0 0)) lost (by omega) (by simp[y8v]) (by simp) (by simp) (zA.mk 0 0 ([]:List UInt8) [] 0 0);simpa using this
def zT:zA:=zA.mk 0 0 ([]:List UInt8) [] 0 0
theorem y5W{Q:Int→Int→Bool}{p:zA}:∀{l:List zA} {i:Nat} {d:Int},(∀x∈l,∀d,v9X Q x d=false)→y5V Q p l i d=false
 |[],_,_,_=>rfl
 |x::r,i,d,h=>by rw[y5V,h x (by simp),y5W fun y hy=>h y (by simp[hy])];rfl
theorem v6C{Q:Int→Int→Bool}(hQ:∀N d,Q N d=false)(t:zA):∀d,v9X Q t d=false:=by
 induction t using zA.ind with
 |h t ih=>
  intro d;rw[v8f];split
  ·exact hQ _ _
  ·exact y5W ih
abbrev Bad(b f:Int):Prop:=f<0∨f>8192∨b>8192∨b < -8192
theorem y8Q{b f:Int}(h:¬Bad b f){t:zA}(w:zA.Wf t)(hs:zH t≤1000000000):
  z4z t b f=some (if v9X (v5l b f) t 0=true then(zT,false)else(w0b (z3c b f) t 0,true)):=by
 unfold z4z;have L:Lim b f:=⟨by omega,by omega,by omega,by omega⟩;rw[zq0 (by omega),zq0 (by omega),zq0 (by omega),zq0 (by omega),w1i b f L t w 0 false (by omega) (by omega),zB,Bool.false_or];cases v9X (v5l b f) t 0 with
 |true=>rfl
 |false=>rfl
theorem w0M{b f:Int}(h:0≤b)(t:zA)(d:Int):v9X (v5l b f) t d=false:=v6C (fun N d=>decide_eq_false (by omega)) t d
abbrev y7z:=Out→State→Out→State→Prop
inductive SimP(RJ:Job→State→Job→State→y7z→Prop)(Q:y7z):P→P→Prop
 |ret (o:Out) (s:State) (o':Out) (s':State):Q o s o' s'→SimP RJ Q (.ret o s) (.ret o' s')
 |call (j:Job) (s:State) (k:Out→State→P) (j':Job) (s':State) (k':Out→State→P) (Q':y7z):RJ j s j' s' Q'→(∀o1 s1 o1' s1',Q' o1 s1 o1' s1'→SimP RJ Q (k o1 s1) (k' o1' s1'))→SimP RJ Q (.call j s k) (.call j' s' k')
 |pay (s:State) (k:State→P) (s':State) (k':State→P):s.Kind=s'.Kind→s.Fuel=s'.Fuel→(s.Kind≠0→Q o0 s o0 s')→(s.Kind=0→Q o0 {s with Kind:=3} o0 {s' with Kind:=3}) →
   (s.Kind=0→SimP RJ Q (k {s with Fuel:=s.Fuel-1}) (k' {s' with Fuel:=s'.Fuel-1}))→SimP RJ Q (.pay s k) (.pay s' k')
 |bad:SimP RJ Q .bad .bad
theorem SimP.opt{RJ:Job→State→Job→State→y7z→Prop}{Q:y7z}{α β:Type}{x:Option α}{x':Option β}{k:α→P}{k':β→P}(h:∀a,x=some a→∃b,x'=some b∧SimP RJ Q (k a) (k' b))(h':x=none→x'=none):SimP RJ Q (.opt x k) (.opt x' k'):=by
 cases x with
 |none=>rw[h' rfl];exact .bad
 |some a=>obtain⟨b,e,hb⟩:=h a rfl;rw[e];exact hb
theorem SimP.opt_eq{RJ:Job→State→Job→State→y7z→Prop}{Q:y7z}{α:Type}{x x':Option α}{k k':α→P}(e:x'=x)(h:∀a,x=some a→SimP RJ Q (k a) (k' a)):SimP RJ Q (.opt x k) (.opt x' k'):=by
 subst e;exact .opt (fun a ha=>⟨a,ha,h a ha⟩) id
theorem SimP.on{RJ:Job→State→Job→State→y7z→Prop}{Q:y7z}{s s':State}{o o':Out}{k k':P}(hk:s.Kind=s'.Kind)(h:s.Kind≠0→Q o s o' s')(h':s.Kind=0→SimP RJ Q k k'):SimP RJ Q (.on s o k) (.on s' o' k'):=by
 unfold P.on;rw[←hk];split
 ·exact h' (by assumption)
 ·exact .ret _ _ _ _ (h (by assumption))
theorem SimP.ite{RJ:Job→State→Job→State→y7z→Prop}{Q:y7z}{c c':Prop}[Decidable c][Decidable c'](hc:c↔c'){p p' q q':P}(h:c→SimP RJ Q p p')(h':¬c→SimP RJ Q q q'):SimP RJ Q (if c then p else q) (if c' then p' else q'):=by
 by_cases hh:c
 ·rw[zq1 hh,zq1 (hc.1 hh)];exact h hh
 ·rw[zq0 hh,zq0 (fun x=>hh (hc.2 x))];exact h' hh
theorem w2j{m m':zA}{RJ:Job→State→Job→State→y7z→Prop}(H:∀j s j' s' Q,RJ j s j' s' Q→SimP RJ Q (step m j s) (step m' j' s')){p:P}{o:Out}{a:State}(h:Run m p o a):∀Q p',SimP RJ Q p p'→∃o' a',Run m' p' o' a'∧Q o a o' a':=by
 induction h with
 |ret o s=>
  intro Q p' hs;cases hs with|ret _ _ o' s' hq=>exact⟨o',s',.ret _ _,hq⟩
 |call j s k o1 s1 o a _ _ ih1 ih2=>
  intro Q p' hs;cases hs with
  |call _ _ _ j' s' k' Q' hj hk=>
   obtain⟨o1',s1',r1,q1⟩:=ih1 Q' _ (H _ _ _ _ _ hj);obtain⟨o',a',r2,q2⟩:=ih2 Q _ (hk _ _ _ _ q1);exact⟨o',a',.call _ _ _ _ _ _ _ r1 r2,q2⟩
 |ended s k h=>
  intro Q p' hs;cases hs with|pay _ _ s' k' e1 e2 h1 h2 h3=>exact⟨o0,s',.ended _ _ (by rw[←e1];exact h),h1 h⟩
 |dry s k h1 h2=>
  intro Q p' hs;cases hs with|pay _ _ s' k' e1 e2 g1 g2 g3=>exact⟨o0,_,.dry _ _ (by rw[←e1];exact h1) (by omega),g2 h1⟩
 |pay s k o a h1 h2 _ ih=>
  intro Q p' hs;cases hs with
  |pay _ _ s' k' e1 e2 g1 g2 g3=>
   obtain⟨o',a',r,q⟩:=ih Q _ (g3 h1);exact⟨o',a',.pay _ _ _ _ (by rw[←e1];exact h1) (by omega) r,q⟩
theorem w1d{m m':zA}{RJ:Job→State→Job→State→y7z→Prop}(H:∀j s j' s' Q,RJ j s j' s' Q→SimP RJ Q (step m j s) (step m' j' s')){p':P}{o':Out}{a':State}(h:Run m' p' o' a'):∀Q p,SimP RJ Q p p'→∃o a,Run m p o a∧Q o a o' a':=by
 induction h with
 |ret o s=>
  intro Q p hs;cases hs with|ret o' s' _ _ hq=>exact⟨o',s',.ret _ _,hq⟩
 |call j s k o1 s1 o a _ _ ih1 ih2=>
  intro Q p hs;cases hs with
  |call j' s' k' _ _ _ Q' hj hk=>
   obtain⟨o1',s1',r1,q1⟩:=ih1 Q' _ (H _ _ _ _ _ hj);obtain⟨o',a',r2,q2⟩:=ih2 Q _ (hk _ _ _ _ q1);exact⟨o',a',.call _ _ _ _ _ _ _ r1 r2,q2⟩
 |ended s k h=>
  intro Q p hs;cases hs with|pay s' k' _ _ e1 e2 h1 h2 h3=>exact⟨o0,s',.ended _ _ (by rw[e1];exact h),h1 (by rw[e1];exact h)⟩
 |dry s k h1 h2=>
  intro Q p hs;cases hs with|pay s' k' _ _ e1 e2 g1 g2 g3=>exact⟨o0,_,.dry _ _ (by rw[e1];exact h1) (by omega),g2 (by rw[e1];exact h1)⟩
 |pay s k o a h1 h2 _ ih=>
  intro Q p hs;cases hs with
  |pay s' k' _ _ e1 e2 g1 g2 g3=>
   obtain⟨o',a',r,q⟩:=ih Q _ (g3 (by rw[e1];exact h1));exact⟨o',a',.pay _ _ _ _ (by rw[e1];exact h1) (by omega) r,q⟩
def InsR(C:List Value)(a k:Nat)(s s':State):Prop:=∃A B,A.length=a∧B.length=k∧s.Locals=A++B∧s'={s with Locals:=A++C++B}
theorem InsR.kind{C:List Value}{a k:Nat}{s s':State}(h:InsR C a k s s'):s.Kind=s'.Kind:=by obtain⟨A,B,_,_,_,rfl⟩:=h;rfl
theorem InsR.upd{C:List Value}{a k:Nat}{s s':State}(h:InsR C a k s s')(u:State→State)(hl:∀s,(u s).Locals=s.Locals)(hu:∀s l,u {s with Locals:=l}={u s with Locals:=l}):InsR C a k (u s) (u s'):=by
 obtain⟨A,B,h1,h2,h3,rfl⟩:=h;exact⟨A,B,h1,h2,by rw[hl];exact h3,hu _ _⟩
theorem InsR.push{C:List Value}{a k:Nat}{s s':State}(h:InsR C a k s s')(v:Value):InsR C a (k+1) {s with Locals:=s.Locals++[v]} {s' with Locals:=s'.Locals++[v]}:=by
 obtain⟨A,B,h1,h2,h3,rfl⟩:=h;exact⟨A,B++[v],h1,by simp[h2],by simp[h3],by simp⟩
theorem InsR.len{C:List Value}{a k:Nat}{s s':State}(h:InsR C a k s s'):s.Locals.length=a+k∧s'.Locals.length=a+k+C.length:=by
 obtain⟨A,B,h1,h2,h3,rfl⟩:=h;constructor
 ·rw[h3];simp;omega
 ·simp;omega
theorem InsR.cut{C:List Value}{a k k':Nat}{s s':State}(h:InsR C a k' s s')(hk:k≤k'):InsR C a k {s with Locals:=s.Locals.take (a+k)} {s' with Locals:=s'.Locals.take (a+k+C.length)}:=by
 obtain⟨A,B,h1,h2,h3,rfl⟩:=h;refine⟨A,B.take k,h1,by simp;omega,?_,?_⟩
 ·rw[h3];show(A++B).take (a+k)=_;rw[←h1,List.take_length_add_append]
 ·show({s with Locals:=(A++C++B).take (a+k+C.length)}:State)=_;have:(A++C++B).take (a+k+C.length)=A++C++B.take k:=by
   rw[show a+k+C.length=(A++C).length+k by simp;omega,List.take_length_add_append]
  rw[this]
theorem look_ins{A B C:List Value}{n:Int}:(n<(B.length:Int)→z5j (A++C++B) n=z5j (A++B) n)∧(∀n',(B.length:Int)≤n→n'=n+C.length→z5j (A++C++B) n'=z5j (A++B) n):=by
 constructor
 ·intro h;unfold z5j;by_cases c:n<0
  ·rw[zq1 c,zq1 c]
  ·rw[zq0 c,zq0 c];simp only[List.reverse_append];rw[List.getElem?_append_left (by simp;omega),List.getElem?_append_left (by simp;omega)]
 ·intro n' h e;subst e;unfold z5j;rw[zq0 (by omega),zq0 (by omega)];simp only[List.reverse_append];rw[List.getElem?_append_right (by simp;omega),List.getElem?_append_right (by simp;omega),List.getElem?_append_right (by simp;omega)];congr 1;simp;omega
def upN(b k:Nat)(n:Int):Int:=if n<(k:Int)then n else IntKind.wrap .i64 (n+b)
theorem w2g{A B C:List Value}{n:Nat}{v:Value}(h:n<A.length+B.length):∃A' B',A'.length=A.length∧B'.length=B.length∧((A++B).reverse.set n v).reverse=A'++B'∧((A++C++B).reverse.set (if n<B.length then n else n+C.length) v).reverse=A'++C++B':=by
 by_cases c:n<B.length
 ·refine⟨A,(B.reverse.set n v).reverse,rfl,by simp,?_,?_⟩
  ·simp only[List.reverse_append];rw[List.set_append_left _ _ (by simpa using c)];simp
  ·rw[zq1 c];simp only[List.reverse_append];rw[List.set_append_left _ _ (by simpa using c)];simp
 ·refine⟨(A.reverse.set (n-B.length) v).reverse,B,by simp,rfl,?_,?_⟩
  ·simp only[List.reverse_append];rw[List.set_append_right _ _ (by simp;omega)];simp
  ·rw[zq0 c];simp only[List.reverse_append];rw[List.set_append_right _ _ (by simp;omega),List.set_append_right _ _ (by simp;omega)];have:n+C.length-B.reverse.length-C.reverse.length=n-B.length:=by simp;omega
   rw[this];simp
inductive NBE:zA→Prop
 |mk (t:zA):(t.K=7→t.N≤1000000000)→t.K≠29→t.K≠25→t.K≠33→(∀x∈t.L,NBE x)→NBE t
theorem NBE.N{t:zA}(h:NBE t):t.K=7→t.N≤1000000000:=by cases h;assumption
theorem NBE.K{t:zA}(h:NBE t):t.K≠29∧t.K≠25∧t.K≠33:=by cases h;exact⟨by assumption,by assumption,by assumption⟩
theorem NBE.L{t:zA}(h:NBE t):∀x∈t.L,NBE x:=by cases h;assumption
def StP(t:zA)(i:Nat):Prop:=(t.K=23∧(i=1∨i=2))∨(t.K=24∧i=1)∨(t.K=25∧i=2)
inductive NL:zA→Prop
 |mk (t:zA):t.K≠7→(∀x∈t.L,NL x)→NL t
inductive NBS:zA→Prop
 |mk (t:zA):t.K≠7→t.K≠33→(t.K=29→∀x∈t.L,NBS x)→(t.K≠29→∀(i:Nat) x,t.L[i]?=some x→¬StP t i→NBE x)→(∀(i:Nat) x,t.L[i]?=some x→StP t i→NBS x)→(∀(i:Nat) x,t.L[i]?=some x→StP t i→x.K=29) →
   (t.K=21→∀x∈t.L,NL x)→(t.K=22→∀a r,t.L[0]?=some a→RootR a r→r.K=7∨r.K=9)→NBS t
theorem NBS.K{t:zA}(h:NBS t):t.K≠7∧t.K≠33:=by cases h;exact⟨by assumption,by assumption⟩
theorem NBS.B{t:zA}(h:NBS t):t.K=29→∀x∈t.L,NBS x:=by cases h;assumption
theorem NBS.E{t:zA}(h:NBS t):t.K≠29→∀(i:Nat) x,t.L[i]?=some x→¬StP t i→NBE x:=by cases h;assumption
theorem NBS.S{t:zA}(h:NBS t):∀(i:Nat) x,t.L[i]?=some x→StP t i→NBS x∧x.K=29:=by
 cases h with|mk _ _ _ _ _ h1 h2 _ _=>exact fun i x hx hs=>⟨h1 i x hx hs,h2 i x hx hs⟩
theorem NBS.N{t:zA}(h:NBS t):t.K=21→∀x∈t.L,NL x:=by cases h;assumption
theorem NBS.R{t:zA}(h:NBS t):t.K=22→∀a r,t.L[0]?=some a→RootR a r→r.K=7∨r.K=9:=by cases h;assumption
abbrev rho(b f:Nat)(t:zA)(d:Nat):zA:=w0b (z3c (b:Int) (f:Int)) t (d:Int)
theorem v5v(b f:Nat)(t:zA)(d:Nat):(rho b f t d).K=t.K:=by
 unfold rho;rw[z6F];split
 ·unfold z3c;split<;>rfl
 ·rfl
theorem v5w{b f:Nat}{t:zA}{d:Nat}(h:t.K≠7):(rho b f t d).N=t.N:=by
 unfold rho;rw[z6F,zq0 h]
theorem v9o{b f:Nat}{t:zA}{d:Nat}(h:t.K=7):(rho b f t d).N=upN b (f+d) t.N:=by
 unfold rho;rw[z6F,zq1 h];unfold z3c upN;by_cases c:t.N<(d:Int)∨t.N-d<(f:Int)
 ·rw[zq1 c,zq1 (by omega)]
 ·rw[zq0 c,zq0 (by omega)]
theorem v0H{b f:Nat}{t:zA}{d:Nat}(h:t.K≠7)(i:Nat):(rho b f t d).L[i]?=t.L[i]?.map fun x=>rho b f x (d+inN t i):=by
 unfold rho;rw[z6F,zq0 h];show(z8I _ t t.L 0 (d:Int))[i]?=_;by_cases c:i<t.L.length
 ·rw[z9O _ _ _ _ _ _ c,List.getElem?_eq_getElem c,Nat.zero_add];rfl
 ·rw[List.getElem?_eq_none (by rw[y2s];omega),List.getElem?_eq_none (by omega)];rfl
theorem v5U{t:zA}(h1:t.K≠29)(h2:t.K≠25)(h3:t.K≠33)(i:Nat):inN t i=0:=by
 unfold inN;rw[zq0 h1,zq0 h2,zq0 h3];split<;>rfl
theorem y0u{b f:Nat}{t:zA}{d:Nat}(h:t.K≠7)(h1:t.K≠29)(h2:t.K≠25)(h3:t.K≠33)(i:Nat):(rho b f t d).L[i]?=t.L[i]?.map fun x=>rho b f x d:=by
 rw[v0H h i,v5U h1 h2 h3];rfl
theorem v0I{b f:Nat}{t:zA}{d:Nat}(h:t.K≠7)(h1:t.K≠29)(h2:t.K≠25)(h3:t.K≠33):(rho b f t d).L=t.L.map fun x=>rho b f x d:=by
 apply List.ext_getElem?;intro i;rw[y0u h h1 h2 h3,List.getElem?_map]
theorem w0Y{b f:Nat}{t r:zA}{d:Nat}(h:RootR t r):RootR (rho b f t d) (rho b f r d):=by
 induction h with
 |here t hh=>
  refine .here _ ?_;rcases hh with hh|hh
  ·exact .inl (by rw[v5v];exact hh)
  ·by_cases c:t.K=7
   ·exact .inl (by rw[v5v,c];decide)
   ·right;unfold rho;rw[z6F,zq0 c,hh];rfl
 |down t x r l hk hL _ ih=>
  have e:(rho b f t d).L=rho b f x d::l.map fun x=>rho b f x d:=by
   rw[v0I (by omega) (by omega) (by omega) (by omega),hL];rfl
  exact .down _ _ _ _ (by rw[v5v];exact hk) e ih
theorem RootR.fn{t r r':zA}(h:RootR t r)(h':RootR t r'):r'=r:=by
 induction h generalizing r' with
 |here t hh=>
  cases h' with
  |here=>rfl
  |down _ x _ l hk hL _=>rcases hh with hh|hh;exact absurd hk (by omega);rw[hL]at hh;cases hh
 |down t x r l hk hL _ ih=>
  cases h' with
  |here _ hh=>rcases hh with hh|hh;exact absurd hk (by omega);rw[hL]at hh;cases hh
  |down _ y _ l' _ hL' h2=>rw[hL]at hL';injection hL' with e1 e2;subst e1;exact ih h2
theorem RootR.eq{t r:zA}(h:RootR t r):wP t=some r:=by
 obtain⟨r',e,h'⟩:=v0J t;rw[e,h.fn h']
theorem RootR.nb{t r:zA}(h:RootR t r)(hn:NBE t):NBE r:=by
 induction h with
 |here t _=>exact hn
 |down t x r l _ hL _ ih=>exact ih (hn.L x (by rw[hL];exact List.mem_cons_self ..))
def QE(C:List Value)(a k e:Nat):y7z:=fun o s o' s'=>o'=o∧InsR C a k s s'∧(s.Kind=0→k=e)
def QS(C:List Value)(a k e:Nat):y7z:=fun _ s _ s'=>∃k',k≤k'∧(s.Kind=0→k'=e)∧InsR C a k' s s'
def QB(C:List Value)(a k:Nat):y7z:=fun _ s _ s'=>∃k',k≤k'∧InsR C a k' s s'
abbrev bB(t:zA):Nat:=if isB t=true then 1 else 0
inductive v0R(C:List Value)(f a:Nat):Job→State→Job→State→y7z→Prop
 |E (t:zA) (d k:Nat) (s s':State):NBE t→InsR C a k s s'→(s.Kind=0→k=f+d)→v0R C f a (.E t) s (.E (rho C.length f t d)) s' (QE C a k (f+d))
 |L (l:List zA) (d k:Nat) (s s':State):(∀x∈l,NBE x)→InsR C a k s s'→(s.Kind=0→k=f+d)→v0R C f a (.L l) s (.L (l.map fun x=>rho C.length f x d)) s' (QE C a k (f+d))
 |C (g:Int) (l:List Value) (k:Nat) (s s':State):InsR C a k s s'→v0R C f a (.C g l) s (.C g l) s' (QE C a k k)
 |same (j:Job) (s:State):v0R C f a j s j s (fun o a o' a'=>o'=o∧a'=a)
 |S (t:zA) (d k:Nat) (s s':State):NBS t→InsR C a k s s'→(s.Kind=0→k=f+d)→v0R C f a (.S t) s (.S (rho C.length f t d)) s' (QS C a k (f+d+bB t))
 |B (p:zA) (i d k:Nat) (s s':State):NBS p→p.K=29→InsR C a k s s'→(s.Kind=0→k=f+d+y8v (p.L.take i))→v0R C f a (.B (p.L.drop i)) s (.B (z8I (z3c (C.length:Int) (f:Int)) p (p.L.drop i) i (d:Int))) s' (QB C a k)
 |W (v:Value) (t:zA) (d k:Nat) (s s':State):NBS t→t.K=24→InsR C a k s s'→(s.Kind=0→k=f+d)→v0R C f a (.W v t) s (.W v (rho C.length f t d)) s' (QS C a k (f+d))
 |F (i hi:Int) (x:zA) (d:Nat) (s s':State):NBS x→InsR C a (f+d) s s'→v0R C f a (.F (a+(f+d)) i hi x) s (.F (a+(f+d)+C.length) i hi (rho C.length f x (d+1))) s' (QS C a (f+d) (f+d))
 |Y (t:zA) (kept:Value) (d k:Nat) (s s':State):NBE t→InsR C a k s s'→(s.Kind=0→k=f+d)→v0R C f a (.Y t kept) s (.Y (rho C.length f t d) kept) s' (QE C a k (f+d))
theorem v5k{C:List Value}{a k:Nat}{s s':State}{n:Int}(h:InsR C a k s s')(hn:n≤1000000000)(hC:C.length≤1000):z5j s'.Locals (upN C.length k n)=z5j s.Locals n:=by
 obtain⟨A,B,h1,h2,h3,rfl⟩:=h;rw[h3];show z5j (A++C++B) _=_;rw[←h2];unfold upN;by_cases c:n<(B.length:Int)
 ·rw[zq1 c];exact look_ins.1 c
 ·rw[zq0 c];exact look_ins.2 _ (by omega) (z0y (by omega) (by omega))
theorem InsR.locals{C:List Value}{a k:Nat}{s s':State}(h:InsR C a k s s'):s'.Globals=s.Globals∧s'.Input=s.Input∧s'.At=s.At∧s'.Trace=s.Trace∧s'.Fuel=s.Fuel∧s'.Kind=s.Kind∧s'.N=s.N∧s'.Ret=s.Ret:=by
 obtain⟨A,B,h1,h2,h3,rfl⟩:=h;exact⟨rfl,rfl,rfl,rfl,rfl,rfl,rfl,rfl⟩
theorem w1e(C:List Value)(f a:Nat)(p:P):SimP (v0R C f a) (fun o a o' a'=>o'=o∧a'=a) p p:=by
 induction p with
 |ret o s=>exact .ret _ _ _ _ ⟨rfl,rfl⟩
 |call j s k ih=>exact .call _ _ _ _ _ _ _ (.same j s) fun o1 s1 o1' s1' ⟨e1,e2⟩=>by subst e1;subst e2;exact ih o1' s1'
 |pay s k ih=>exact .pay _ _ _ _ rfl rfl (fun _=>⟨rfl,rfl⟩) (fun _=>⟨rfl,rfl⟩) fun _=>ih _
 |bad=>exact .bad
theorem w3x{C:List Value}{f a:Nat}(hC:C.length≤1000)(t:zA)(d k:Nat)(s s':State)(hn:NBE t)(h:InsR C a k s s')(hk:s.Kind=0)(hkd:k=f+d)(m:zA):SimP (v0R C f a) (QE C a k (f+d)) (z1w m t s) (z1w m (rho C.length f t d) s'):=by
 obtain⟨g1,g2,g3,g4,g5,g6,g7,g8⟩:=h.locals;unfold z1w;rw[v5v];refine .ite Iff.rfl (fun c=>?_) fun c56=>.ite Iff.rfl (fun c=>?_) fun c7=>.ite Iff.rfl (fun c=>?_) fun c9=>.ite Iff.rfl (fun c=>?_) fun c8=>.ite Iff.rfl (fun c=>?_) fun c18=>.ite Iff.rfl (fun c=>?_) fun c10=>?_
 ·rw[v5w (by omega)];exact .ret _ _ _ _ ⟨rfl,h,fun _=>hkd⟩
 ·refine .opt_eq ?_ fun v _=>.ret _ _ _ _ ⟨rfl,h,fun _=>hkd⟩;rw[v9o c,←hkd];exact v5k h (hn.N c) hC
 ·rw[v5w c7];exact .opt_eq (by rw[g1]) fun v _=>.ret _ _ _ _ ⟨rfl,h,fun _=>hkd⟩
 ·rw[v5w c7];exact .opt_eq rfl fun v _=>.opt_eq rfl fun x _=>.ret _ _ _ _ ⟨rfl,h,fun _=>hkd⟩
 ·rw[g2,g3];refine .ite Iff.rfl (fun _=>.ret _ _ _ _ ⟨rfl,?_,fun _=>hkd⟩) fun _=>.opt_eq rfl fun n _=>.ret _ _ _ _ ⟨rfl,?_,fun _=>hkd⟩
  ·exact h.upd (z8J 3) (fun _=>rfl) (fun _ _=>rfl)
  ·exact h.upd (fun σ=>{σ with At:=s.At+1,Input:=s.Input}) (fun _=>rfl) (fun _ _=>rfl)
 ·have hL:=v0I (b:=C.length) (f:=f) (t:=t) (d:=d) c7 (by omega) (by omega) (by omega);rw[hL,v5w c7];simp only[List.getElem?_map];refine .opt (fun x hx=>⟨rho C.length f x d,by rw[hx];rfl,?_⟩) (fun e=>by rw[e];rfl);refine .opt (fun y hy=>⟨rho C.length f y d,by rw[hy];rfl,?_⟩) (fun e=>by rw[e];rfl);refine .call _ _ _ _ _ _ (QE C a k (f+d)) (.E x d k s s' (hn.L x (List.mem_of_getElem? hx)) h (fun _=>hkd)) fun o1 s1 o1' s1' ⟨e1,h1,_⟩=>?_;subst e1
  refine .on h1.kind (fun _=>⟨rfl,h1,fun _=>hkd⟩) fun k1=>?_;refine .ite Iff.rfl (fun _=>.ret _ _ _ _ ⟨rfl,h1,fun _=>hkd⟩) fun _=>.ite Iff.rfl (fun _=>.ret _ _ _ _ ⟨rfl,h1,fun _=>hkd⟩) fun _=>?_;refine .call _ _ _ _ _ _ (QE C a k (f+d)) (.E y d k s1 s1' (hn.L y (List.mem_of_getElem? hy)) h1 (fun _=>hkd)) fun o2 s2 o2' s2' ⟨e2,h2,_⟩=>?_;subst e2;refine .on h2.kind (fun _=>⟨rfl,h2,fun _=>hkd⟩) fun k2=>?_
  refine .ite Iff.rfl (fun _=>.ret _ _ _ _ ⟨rfl,h2,fun _=>hkd⟩) fun _=>.opt_eq rfl fun q _=>.ite Iff.rfl (fun _=>.ret _ _ _ _ ⟨rfl,h2,fun _=>hkd⟩) fun _=>.ret _ _ _ _ ⟨rfl,?_,fun _=>hkd⟩;exact h2.upd (z8J q.2) (fun _=>rfl) (fun _ _=>rfl)
 ·obtain⟨n1,n2,n3⟩:=hn.K;have hL:=v0I (b:=C.length) (f:=f) (t:=t) (d:=d) c7 (by omega) (by omega) (by omega);rw[hL,v5w c7];refine .call _ _ _ _ _ _ (QE C a k (f+d)) (.L t.L d k s s' hn.L h (fun _=>hkd)) fun o1 s1 o1' s1' ⟨e1,h1,_⟩=>?_;subst e1;refine .on h1.kind (fun _=>⟨rfl,h1,fun _=>hkd⟩) fun k1=>?_;refine .ite Iff.rfl (fun _=>?_) fun _=>.ite Iff.rfl (fun _=>?_) fun _=>.ite Iff.rfl (fun _=>?_) fun _=>.ite Iff.rfl (fun _=>?_) fun _=>.ret _ _ _ _ ⟨rfl,h1,fun _=>hkd⟩
  ·exact .opt_eq rfl fun v _=>.opt_eq rfl fun n _=>.ret _ _ _ _ ⟨rfl,h1,fun _=>hkd⟩
  ·exact .opt_eq rfl fun v _=>.opt_eq rfl fun i _=>.ite Iff.rfl (fun _=>.ret _ _ _ _ ⟨rfl,h1.upd (z8J 2) (fun _=>rfl) (fun _ _=>rfl),fun _=>hkd⟩) fun _=>.opt_eq rfl fun x _=>.ret _ _ _ _ ⟨rfl,h1,fun _=>hkd⟩
  ·exact .opt_eq rfl fun v _=>.opt_eq rfl fun x _=>.ret _ _ _ _ ⟨rfl,h1,fun _=>hkd⟩
  ·exact .call _ _ _ _ _ _ (QE C a k k) (.C _ _ k s1 s1' h1) fun o2 s2 o2' s2' ⟨e2,h2,_⟩=>by subst e2;exact .ret _ _ _ _ ⟨rfl,h2,fun _=>hkd⟩
theorem w2Q{b f:Nat}{t:zA}(h:NL t):∀d,rho b f t d=t:=by
 induction h with
 |mk t hk _ ih=>
  intro d;unfold rho;rw[z6F,zq0 hk];have e:z8I (z3c (b:Int) (f:Int)) t t.L 0 (d:Int)=t.L:=by
   apply List.ext_getElem?;intro i;by_cases c:i<t.L.length
   ·rw[z9O _ _ _ _ _ _ c,List.getElem?_eq_getElem c,Nat.zero_add];congr 1;exact ih _ (List.getElem_mem c) (d+inN t i)
   ·rw[List.getElem?_eq_none (by rw[y2s];omega),List.getElem?_eq_none (by omega)]
  exact z8e rfl rfl rfl e rfl rfl
theorem w1R{t:zA}(h1:t.K≠29)(h3:t.K≠33)(i:Nat)(hi:i≠2):inN t i=0:=by
 unfold inN;rw[zq0 h1,zq0 h3];split
 ·simp[hi]
 ·rfl
theorem SimP.cut{RJ:Job→State→Job→State→y7z→Prop}{Q:y7z}{s s':State}{n n':Nat}{k k':State→P}(h1:n≤s.Locals.length)(h2:n'≤s'.Locals.length)(h:SimP RJ Q (k {s with Locals:=s.Locals.take n}) (k' {s' with Locals:=s'.Locals.take n'})):SimP RJ Q (cut s n k) (cut s' n' k'):=by
 unfold M.cut;rw[zq1 h1,zq1 h2];exact h
theorem QS.of{C:List Value}{a k:Nat}{s s':State}{o o':Out}(h:InsR C a k s s'):QS C a k k o s o' s':=⟨k,Nat.le_refl _,fun _=>rfl,h⟩
theorem w3y{C:List Value}{f a:Nat}(hC:C.length≤1000)(t:zA)(d k:Nat)(s s':State)(hn:NBS t)(h:InsR C a k s s')(hk:s.Kind=0)(hkd:k=f+d)(m:zA):SimP (v0R C f a) (QS C a k (f+d+bB t)) (z1x m t s) (z1x m (rho C.length f t d) s'):=by
 obtain⟨g1,g2,g3,g4,g5,g6,g7,g8⟩:=h.locals;obtain⟨n7,n33⟩:=hn.K;obtain⟨hl1,hl2⟩:=h.len;have part:t.K≠29→∀i:Nat,i≠2→(rho C.length f t d).L[i]?=t.L[i]?.map fun x=>rho C.length f x d:=fun h29 i hi=>by
  rw[v0H n7,w1R h29 n33 i hi];rfl
 unfold z1x;rw[v5v];refine .ite Iff.rfl (fun c=>?_) fun c29=>.ite Iff.rfl (fun c=>?_) fun c21=>.ite Iff.rfl (fun c=>?_) fun c22=>?_
 ·have e0:bB t=0:=by unfold bB isB;rw[c];rfl
  rw[e0,Nat.add_zero,←hkd];have eL:(rho C.length f t d).L=z8I (z3c (C.length:Int) (f:Int)) t (t.L.drop 0) 0 (d:Int):=by unfold rho;rw[z6F,zq0 n7];rfl
  rw[eL];refine .call _ _ _ _ _ _ (QB C a k) (.B t 0 d k s s' hn c h (fun _=>by simp[y8v];exact hkd)) fun o1 s1 o1' s1' ⟨k',hk',h1⟩=>?_;obtain⟨m1,m2⟩:=h1.len;refine .cut (by omega) (by omega) (.ret _ _ _ _ (QS.of ?_));rw[hl1,hl2];exact h1.cut hk'
 ·have e0:bB t=1:=by unfold bB isB;rw[c];rfl
  rw[part c29 0 (by omega)];refine .opt (fun x hx=>⟨x,by rw[hx,Option.map_some,w2Q (hn.N c x (List.mem_of_getElem? hx))],?_⟩) (fun e=>by rw[e];rfl);exact .opt_eq rfl fun z _=>.ret _ _ _ _ ⟨k+1,by omega,fun _=>by rw[e0,hkd],h.push z⟩
 ·have e0:bB t=0:=by unfold bB isB;rw[c];rfl
  rw[e0,Nat.add_zero,←hkd,part c29 0 (by omega),part c29 1 (by omega)];refine .opt (fun x hx=>⟨rho C.length f x d,by rw[hx];rfl,?_⟩) (fun e=>by rw[e];rfl);refine .opt (fun y hy=>⟨rho C.length f y d,by rw[hy];rfl,?_⟩) (fun e=>by rw[e];rfl);have nx:=hn.E c29 0 x hx (by unfold StP;omega);have ny:=hn.E c29 1 y hy (by unfold StP;omega);refine .call _ _ _ _ _ _ (QE C a k (f+d)) (.E y d k s s' ny h (fun _=>hkd)) fun o1 s1 o1' s1' ⟨e1,h1,_⟩=>?_;subst e1;refine .on h1.kind (fun _=>QS.of h1) fun k1=>?_
  obtain⟨r,er,hr⟩:=v0J x;have hrk:=hn.R c x r hx hr;rw[er,(w0Y (b:=C.length) (f:=f) (d:=d) hr).eq];show SimP _ _ (if _ then _ else _) (if _ then _ else _);rw[v5v];have j1:=h1.locals;refine .ite Iff.rfl (fun c9=>?_) fun c9=>?_
  ·rw[v5w (by omega),j1.1];refine .opt_eq rfl fun v _=>?_;refine .call _ _ _ _ _ _ (QE C a k (f+d)) (.Y x v d k s1 s1' nx h1 (fun _=>hkd)) fun o2 s2 o2' s2' ⟨e2,h2,_⟩=>?_;subst e2;refine .on h2.kind (fun _=>QS.of h2) fun k2=>?_;have j2:=h2.locals;rw[j2.1];refine .opt_eq rfl fun u _=>.opt_eq rfl fun z _=>.ret _ _ _ _ (QS.of ?_);exact h2.upd (fun σ=>{σ with Globals:=s2.Globals.set r.N.toNat z}) (fun _=>rfl) (fun _ _=>rfl)
  ·have c7:r.K=7:=by omega
   have nr:=hr.nb nx;rw[v9o c7,←hkd];refine .opt_eq (v5k h1 (nr.N c7) hC) fun v hv=>?_;refine .call _ _ _ _ _ _ (QE C a k (f+d)) (.Y x v d k s1 s1' nx h1 (fun _=>hkd)) fun o2 s2 o2' s2' ⟨e2,h2,_⟩=>?_;subst e2;refine .on h2.kind (fun _=>QS.of h2) fun k2=>?_;refine .opt_eq (v5k h2 (nr.N c7) hC) fun u hu=>.opt_eq rfl fun z _=>.ret _ _ _ _ (QS.of ?_);obtain⟨A,B,a1,a2,a3,rfl⟩:=h2;rw[a3]at hu;have hN0:0≤r.N:=by
    unfold z5j at hu;by_cases q:r.N<0
    ·rw[zq1 q]at hu;cases hu
    ·omega
   have hNl:r.N.toNat<A.length+B.length:=by
    unfold z5j at hu;rw[zq0 (by omega)]at hu;have:=(List.getElem?_eq_some_iff.1 hu).1;simp at this;omega
   have hb:=nr.N c7;have eu:(upN C.length k r.N).toNat=if r.N.toNat<B.length then r.N.toNat else r.N.toNat+C.length:=by
    unfold upN;by_cases q:r.N<(k:Int)
    ·rw[zq1 q,zq1 (by omega)]
    ·rw[zq0 q,zq0 (by omega),z0y (by omega) (by omega)];omega
   obtain⟨A',B',b1,b2,b3,b4⟩:=w2g (C:=C) (v:=z) hNl;refine⟨A',B',by omega,by omega,?_,?_⟩
   ·show(s2.Locals.reverse.set _ _).reverse=_;rw[a3];exact b3
   ·show({s2 with Locals:=((A++C++B).reverse.set (upN C.length k r.N).toNat z).reverse}:State)=_;rw[eu,b4]
 ·rw[part c29 0 (by omega)];refine .opt (fun x hx=>⟨rho C.length f x d,by rw[hx];rfl,?_⟩) (fun e=>by rw[e];rfl);have nx:=hn.E c29 0 x hx (by unfold StP;omega);refine .call _ _ _ _ _ _ (QE C a k (f+d)) (.E x d k s s' nx h (fun _=>hkd)) fun o1 s1 o1' s1' ⟨e1,h1,_⟩=>?_;subst e1;have bad:s1.Kind≠0→QS C a k (f+d+bB t) o0 s1 o0 s1':=fun h0=>⟨k,Nat.le_refl _,fun h=>absurd h h0,h1⟩;refine .on h1.kind bad fun k1=>?_;refine .ite Iff.rfl (fun c=>?_) fun c20=>?_
  ·have e0:bB t=1:=by unfold bB isB;rw[c];rfl
   exact .ret _ _ _ _ ⟨k+1,by omega,fun _=>by rw[e0,hkd],h1.push _⟩
  have e0:bB t=0:=by
   unfold bB isB;rw[zq0];simp;omega
  rw[e0,Nat.add_zero,←hkd];have j1:=h1.locals;refine .ite Iff.rfl (fun c=>?_) fun c26=>.ite Iff.rfl (fun c=>?_) fun c27=>.ite Iff.rfl (fun c=>?_) fun c23=>.ite Iff.rfl (fun c=>?_) fun c24=>.ite Iff.rfl (fun c=>?_) fun c25=>.ret _ _ _ _ (QS.of h1)
  ·rw[j1.2.2.2.1];exact .ret _ _ _ _ (QS.of (h1.upd (fun σ=>{σ with Trace:=s1.Trace++[o1'.v.N]}) (fun _=>rfl) (fun _ _=>rfl)))
  ·exact .ret _ _ _ _ (QS.of (h1.upd (fun σ=>{σ with Kind:=1,Ret:=o1'.v}) (fun _=>rfl) (fun _ _=>rfl)))
  ·have e2:(rho C.length f t d).L[2]?=t.L[2]?.map fun x=>rho C.length f x d:=by
    rw[v0H n7,v5U (by omega) (by omega) (by omega)];rfl
   rw[e2,part c29 1 (by omega)];refine .ite Iff.rfl (fun _=>?_) fun _=>?_
   ·refine .opt (fun y hy=>⟨rho C.length f y d,by rw[hy];rfl,?_⟩) (fun e=>by rw[e];rfl);obtain⟨ny,y29⟩:=hn.S 2 y hy (.inl ⟨c,.inr rfl⟩);have ey:bB y=0:=by unfold bB isB;rw[y29];rfl
    refine .call _ _ _ _ _ _ (QS C a k (f+d+bB y)) (.S y d k s1 s1' ny h1 (fun _=>hkd)) fun o2 s2 o2' s2' h2=>.ret _ _ _ _ (by rw[ey,Nat.add_zero,←hkd]at h2;exact h2)
   ·refine .opt (fun y hy=>⟨rho C.length f y d,by rw[hy];rfl,?_⟩) (fun e=>by rw[e];rfl);obtain⟨ny,y29⟩:=hn.S 1 y hy (.inl ⟨c,.inl rfl⟩);have ey:bB y=0:=by unfold bB isB;rw[y29];rfl
    refine .call _ _ _ _ _ _ (QS C a k (f+d+bB y)) (.S y d k s1 s1' ny h1 (fun _=>hkd)) fun o2 s2 o2' s2' h2=>.ret _ _ _ _ (by rw[ey,Nat.add_zero,←hkd]at h2;exact h2)
  ·exact .call _ _ _ _ _ _ (QS C a k (f+d)) (.W _ t d k s1 s1' hn c h1 (fun _=>hkd)) fun o2 s2 o2' s2' h2=>.ret _ _ _ _ (by rw[←hkd]at h2;exact h2)
  ·have e2:(rho C.length f t d).L[2]?=t.L[2]?.map fun x=>rho C.length f x (d+1):=by
    rw[v0H n7];by_cases q:2<t.L.length
    ·have:inN t 2=1:=by unfold inN;rw[zq1 q,zq0 c29,zq1 c,zq1 rfl]
     rw[this]
    ·rw[List.getElem?_eq_none (by omega)];rfl
   rw[e2,part c29 1 (by omega)];refine .opt (fun y hy=>⟨rho C.length f y d,by rw[hy];rfl,?_⟩) (fun e=>by rw[e];rfl);refine .opt (fun z hz=>⟨rho C.length f z (d+1),by rw[hz];rfl,?_⟩) (fun e=>by rw[e];rfl);have ny:=hn.E c29 1 y hy (by unfold StP;omega);obtain⟨nz,z29⟩:=hn.S 2 z hz (.inr (.inr ⟨c,rfl⟩));refine .call _ _ _ _ _ _ (QE C a k (f+d)) (.E y d k s1 s1' ny h1 (fun _=>hkd)) fun o2 s2 o2' s2' ⟨e2,h2,_⟩=>?_;subst e2;refine .on h2.kind (fun _=>QS.of h2) fun k2=>?_;obtain⟨m1,m2⟩:=h2.len
   rw[m1,m2,hkd];refine .call _ _ _ _ _ _ (QS C a (f+d) (f+d)) (.F _ _ z d s2 s2' nz (hkd▸h2)) fun o3 s3 o3' s3' h3=>.ret _ _ _ _ h3
theorem w2X{C:List Value}{f a:Nat}(hC:C.length≤1000)(m:zA)(j:Job)(s:State)(j':Job)(s':State)(Q:y7z)(hj:v0R C f a j s j' s' Q):SimP (v0R C f a) Q (step m j s) (step m j' s'):=by
 have dry:∀{k:Nat} {s s':State},InsR C a k s s'→InsR C a k {s with Kind:=3} {s' with Kind:=3}:=fun h=>h.upd (fun σ=>{σ with Kind:=3}) (fun _=>rfl) (fun _ _=>rfl);have pay:∀{k:Nat} {s s':State},InsR C a k s s'→InsR C a k {s with Fuel:=s.Fuel-1} {s' with Fuel:=s'.Fuel-1}:=fun {k s s'} h=>by
  have g:=h.locals.2.2.2.2.1;rw[g];exact h.upd (fun σ=>{σ with Fuel:=s.Fuel-1}) (fun _=>rfl) (fun _ _=>rfl)
 have n3:¬(3:Int)=0:=by decide
 cases hj with
 |E t d k _ _ hn h hk=>
  exact .pay _ _ _ _ h.kind h.locals.2.2.2.2.1.symm (fun _=>⟨rfl,h,hk⟩) (fun _=>⟨rfl,dry h,fun h=>absurd h n3⟩) fun k0=>w3x hC t d k _ _ hn (pay h) k0 (hk k0) m
 |L l d k _ _ hn h hk=>
  cases l with
  |nil=>exact .ret _ _ _ _ ⟨rfl,h,hk⟩
  |cons x r=>
   refine .call _ _ _ _ _ _ (QE C a k (f+d)) (.E x d k s s' (hn x (List.mem_cons_self ..)) h hk) fun o1 s1 o1' s1' ⟨e1,h1,hk1⟩=>?_;subst e1;exact .call _ _ _ _ _ _ (QE C a k (f+d)) (.L r d k s1 s1' (fun y hy=>hn y (List.mem_cons_of_mem _ hy)) h1 hk1) fun o2 s2 o2' s2' ⟨e2,h2,hk2⟩=>by subst e2;exact .ret _ _ _ _ ⟨rfl,h2,hk2⟩
 |C g l k _ _ h=>
  show SimP _ _ (v0M m g l s) (v0M m g l s');unfold v0M;refine .opt_eq rfl fun dd _=>.opt_eq rfl fun b _=>.opt_eq rfl fun r _=>?_;obtain⟨A,B,h1,h2,h3,rfl⟩:=h;refine .call _ _ _ _ _ _ _ (.same (.S b) {s with Locals:=l}) fun o1 s1 o1' s1' ⟨e1,e2⟩=>?_;subst e1;subst e2;have back:∀σ:State,InsR C a k {σ with Locals:=s.Locals} {σ with Locals:=A++C++B}:=fun σ=>⟨A,B,h1,h2,h3,rfl⟩
  refine .ite Iff.rfl (fun _=>.ret _ _ _ _ ⟨rfl,back {s1' with Kind:=0,Ret:=v0},fun _=>rfl⟩) fun _=>.ite Iff.rfl (fun _=>.opt_eq rfl fun z _=>.ret _ _ _ _ ⟨rfl,back s1',fun _=>rfl⟩) fun _=>.ret _ _ _ _ ⟨rfl,back s1',fun _=>rfl⟩
 |same j s=>exact w1e C f a _
 |S t d k _ _ hn h hk=>
  exact .pay _ _ _ _ h.kind h.locals.2.2.2.2.1.symm (fun h0=>⟨k,Nat.le_refl _,fun h=>absurd h h0,h⟩) (fun _=>⟨k,Nat.le_refl _,fun h=>absurd h n3,dry h⟩) fun k0=>w3y hC t d k _ _ hn (pay h) k0 (hk k0) m
 |B p i d k _ _ hn hp h hk=>
  by_cases c:i<p.L.length
  ·rw[List.drop_eq_getElem_cons c];show SimP _ _ (P.call _ _ _) (P.call _ _ _);have hi:inN p i=y8v (p.L.take i):=by unfold inN;rw[zq1 c,zq1 hp]
   have ej:w0b (z3c (C.length:Int) (f:Int)) p.L[i] ((d:Int)+inN p i)=rho C.length f p.L[i] (d+y8v (p.L.take i)):=by rw[hi];rfl
   rw[ej];refine .call _ _ _ _ _ _ _ (.S p.L[i] (d+y8v (p.L.take i)) k s s' (hn.B hp _ (List.getElem_mem c)) h (fun h0=>by rw[hk h0];omega)) fun o1 s1 o1' s1' ⟨k',hk',e',h1⟩=>?_;refine .call _ _ _ _ _ _ _ (.B p (i+1) d k' s1 s1' hn hp h1 (fun h0=>by rw[e' h0,v1T c];unfold bB;omega)) fun o2 s2 o2' s2' ⟨k2,hk2,h2⟩=>.ret _ _ _ _ ⟨k2,by omega,h2⟩
  ·rw[List.drop_eq_nil_of_le (by omega)];exact .ret _ _ _ _ ⟨k,Nat.le_refl _,h⟩
 |W v t d k _ _ hn ht h hk=>
  show SimP _ _ (P.on _ _ _) (P.on _ _ _);refine .on h.kind (fun h0=>⟨k,Nat.le_refl _,fun h=>absurd h h0,h⟩) fun k0=>?_;refine .ite Iff.rfl (fun _=>.ret _ _ _ _ ⟨k,Nat.le_refl _,hk,h⟩) fun _=>?_;have n7:=hn.K.1;rw[y0u n7 (by omega) (by omega) (by omega) 0,y0u n7 (by omega) (by omega) (by omega) 1];refine .opt (fun x hx=>⟨rho C.length f x d,by rw[hx];rfl,?_⟩) (fun e=>by rw[e];rfl);refine .opt (fun e he=>⟨rho C.length f e d,by rw[he];rfl,?_⟩) (fun e=>by rw[e];rfl)
  obtain⟨nx,x29⟩:=hn.S 1 x hx (.inr (.inl ⟨ht,rfl⟩));have ne:=hn.E (by omega) 0 e he (by unfold StP;omega);have ex:bB x=0:=by unfold bB isB;rw[x29];rfl
  refine .call _ _ _ _ _ _ _ (.S x d k s s' nx h hk) fun o1 s1 o1' s1' ⟨k1,hk1,e1,h1⟩=>?_;rw[ex,Nat.add_zero]at e1;refine .call _ _ _ _ _ _ _ (.E e d k1 s1 s1' ne h1 e1) fun o2 s2 o2' s2' ⟨e2,h2,hk2⟩=>?_;subst e2;exact .call _ _ _ _ _ _ _ (.W _ t d k1 s2 s2' hn ht h2 hk2) fun o3 s3 o3' s3' ⟨k3,hk3,e3,h3⟩=>.ret _ _ _ _ ⟨k3,by omega,e3,h3⟩
 |F i hi x d _ _ hn h=>
  refine .pay _ _ _ _ h.kind h.locals.2.2.2.2.1.symm (fun h0=>⟨_,Nat.le_refl _,fun _=>rfl,h⟩) (fun _=>⟨_,Nat.le_refl _,fun _=>rfl,dry h⟩) fun k0=>?_;have hp:=pay h;refine .ite Iff.rfl (fun _=>.ret _ _ _ _ ⟨_,Nat.le_refl _,fun _=>rfl,hp⟩) fun _=>?_;refine .call _ _ _ _ _ _ _ (.S x (d+1) (f+d+1) _ _ hn (hp.push ⟨i,[]⟩) (fun _=>by omega)) fun o1 s1 o1' s1' ⟨k1,hk1,e1,h1⟩=>?_;obtain⟨m1,m2⟩:=h1.len;refine .cut (by omega) (by omega) ?_
  exact .call _ _ _ _ _ _ _ (.F _ hi x d _ _ hn (h1.cut (by omega))) fun o2 s2 o2' s2' h2=>.ret _ _ _ _ h2
 |Y t kept d k _ _ hn h hk=>
  show SimP _ _ (if _ then _ else _) (if _ then _ else _);rw[v5v];refine .ite Iff.rfl (fun c=>?_) fun c12=>.ite Iff.rfl (fun c=>?_) fun c13=>.ret _ _ _ _ ⟨rfl,h,hk⟩
  ·rw[y0u (by omega) (by omega) (by omega) (by omega) 0,y0u (by omega) (by omega) (by omega) (by omega) 1];refine .opt (fun x hx=>⟨rho C.length f x d,by rw[hx];rfl,?_⟩) (fun e=>by rw[e];rfl);refine .opt (fun y hy=>⟨rho C.length f y d,by rw[hy];rfl,?_⟩) (fun e=>by rw[e];rfl);refine .call _ _ _ _ _ _ _ (.Y x kept d k s s' (hn.L x (List.mem_of_getElem? hx)) h hk) fun o1 s1 o1' s1' ⟨e1,h1,hk1⟩=>?_;subst e1;refine .on h1.kind (fun _=>⟨rfl,h1,hk1⟩) fun k1=>?_
   refine .call _ _ _ _ _ _ _ (.E y d k s1 s1' (hn.L y (List.mem_of_getElem? hy)) h1 hk1) fun o2 s2 o2' s2' ⟨e2,h2,hk2⟩=>?_;subst e2;have tr:InsR C a k (z8J 2 s2) (z8J 2 s2'):=h2.upd (z8J 2) (fun _=>rfl) (fun _ _=>rfl);refine .on h2.kind (fun _=>⟨rfl,h2,hk2⟩) fun k2=>?_;exact .ite Iff.rfl (fun _=>.ret _ _ _ _ ⟨rfl,tr,fun _=>hk2 k2⟩) fun _=>.opt_eq rfl fun g _=>.ite Iff.rfl (fun _=>.ret _ _ _ _ ⟨rfl,tr,fun _=>hk2 k2⟩) fun _=>.ret _ _ _ _ ⟨rfl,h2,hk2⟩
  ·rw[y0u (by omega) (by omega) (by omega) (by omega) 0,v5w (by omega)];refine .opt (fun x hx=>⟨rho C.length f x d,by rw[hx];rfl,?_⟩) (fun e=>by rw[e];rfl);refine .call _ _ _ _ _ _ _ (.Y x kept d k s s' (hn.L x (List.mem_of_getElem? hx)) h hk) fun o1 s1 o1' s1' ⟨e1,h1,hk1⟩=>?_;subst e1;exact .on h1.kind (fun _=>⟨rfl,h1,hk1⟩) fun k1=>.ret _ _ _ _ ⟨rfl,h1,hk1⟩
theorem TE.nb{m t τ:zA}{Γ:List zA}(h:TE m Γ t τ)(hΓ:Γ.length≤1000000000):NBE t:=by
 induction h with
 |alone t τ _ _ _ hL h16 hA=>
  have hk:t.K≠29∧t.K≠25∧t.K≠33:=by cases hA<;>omega
  refine .mk t (fun h7=>?_) hk.1 hk.2.1 hk.2.2 (by rw[hL];intro x hx;cases hx);cases hA<;>omega
 |rule t τ p _ _ _ _ hl hP hR ih=>
  have hk:t.K≠29∧t.K≠25∧t.K≠33∧t.K≠7:=by cases hR<;>omega
  refine .mk t (fun h7=>absurd h7 hk.2.2.2) hk.1 hk.2.1 hk.2.2.1 fun x hx=>?_;obtain⟨i,hi⟩:=List.getElem?_of_mem hx;have hlt:=(List.getElem?_eq_some_iff.1 hi).1;exact ih i x _ hi (List.getElem?_eq_getElem (by omega))
theorem OkT.nl{m t:zA}(h:OkT m t):NL t:=by
 induction h with
 |int t h1 h2=>exact .mk t (by omega) (by rw[h2];intro x hx;cases hx)
 |bool t h1 h2=>exact .mk t (by omega) (by rw[h2];intro x hx;cases hx)
 |arr t e h1 h2 _ _ _ ih=>exact .mk t (by omega) (by rw[h2];intro x hx;rw[List.mem_singleton.1 hx];exact ih)
 |rcd t d h1 h2 _ _ _ _ _=>exact .mk t (by omega) (by rw[h2];intro x hx;cases hx)
theorem NL.e{t:zA}(h:NL t)(hk:∀K,K=t.K→K=1∨K=2∨K=3∨K=4):t.K≠29∧t.K≠25∧t.K≠33:=by have:=hk _ rfl;omega
theorem OkT.nbe{m t:zA}(h:OkT m t):NBE t:=by
 induction h with
 |int t h1 h2=>exact .mk t (by omega) (by omega) (by omega) (by omega) (by rw[h2];intro x hx;cases hx)
 |bool t h1 h2=>exact .mk t (by omega) (by omega) (by omega) (by omega) (by rw[h2];intro x hx;cases hx)
 |arr t e h1 h2 _ _ _ ih=>exact .mk t (by omega) (by omega) (by omega) (by omega) (by rw[h2];intro x hx;rw[List.mem_singleton.1 hx];exact ih)
 |rcd t d h1 h2 _ _ _ _ _=>exact .mk t (by omega) (by omega) (by omega) (by omega) (by rw[h2];intro x hx;cases hx)
theorem TB.mem{m ρ:zA}:∀(l:List zA) (Γ Γ':List zA),TB m ρ Γ l Γ'→∀x∈l,∃Γ1 Γ2,TS m ρ Γ1 x Γ2∧Γ1.length+zH x≤Γ.length+vX l:=by
 intro l;induction l with
 |nil=>intro Γ Γ' _ x hx;cases hx
 |cons y r ih=>
  intro Γ Γ' h x hx;cases h with
  |cons _ Γ1 _ _ _ h1 h2=>
   rcases List.mem_cons.1 hx with rfl|hx
   ·exact⟨Γ,Γ1,h1,by simp only[vX];omega⟩
   ·obtain⟨Δ,Δ',h3,h4⟩:=ih Γ1 Γ' h2 x hx;refine⟨Δ,Δ',h3,?_⟩;have hp:=z0x y;have:Γ1.length≤Γ.length+1:=by
     cases h1<;>simp
    simp only[vX];omega
theorem TS.nb{m ρ:zA}(hm:zH m≤1000000000)(t:zA):∀Γ Γ',TS m ρ Γ t Γ'→Γ.length+zH t≤1000000000→NBS t:=by
 induction t using zA.ind with
 |h t ih=>
  intro Γ Γ' hT hs;have hte:=jV t;have no:∀{P:Prop} {K:Int},t.K=K→(K≠29)→t.K=29→P:=fun h1 h2 h3=>absurd (h1.symm.trans h3) h2;have one:∀(e:zA),t.L=[e]→NBE e→∀(i:Nat) x,t.L[i]?=some x→¬StP t i→NBE x:=fun e hL hE i x hx _=>by
   rw[hL]at hx;rw[List.mem_singleton.1 (List.mem_of_getElem? hx)];exact hE
  cases hT with
  |block _ Γ1 _ k _ _ _ hB=>
   refine .mk t (by omega) (by omega) (fun _ x hx=>?_) (fun h=>absurd k h) (fun i x hx h=>?_) (fun i x hx h=>?_) (by omega) (by omega)
   ·obtain⟨Γ1,Γ2,h1,h2⟩:=TB.mem t.L _ _ hB x hx;exact ih x hx Γ1 Γ2 h1 (by omega)
   ·unfold StP at h;omega
   ·unfold StP at h;omega
  |let_ _ _ e τ k _ _ _ hL hT=>exact .mk t (by omega) (by omega) (by omega) (fun _=>one e hL (hT.nb (by omega))) (fun i x hx h=>by unfold StP at h;omega) (fun i x hx h=>by unfold StP at h;omega) (by omega) (by omega)
  |new _ _ x k _ _ _ hL hg hn=>
   have h1:=z2u hL;have ho:=hg.okT hm (by omega);exact .mk t (by omega) (by omega) (by omega) (fun _=>one x hL ho.nbe) (fun i x hx h=>by unfold StP at h;omega) (fun i x hx h=>by unfold StP at h;omega) (fun _ y hy=>by rw[hL]at hy;rw[List.mem_singleton.1 hy];exact ho.nl) (by omega)
  |print _ _ e τ k _ _ _ hL hT _ _=>exact .mk t (by omega) (by omega) (by omega) (fun _=>one e hL (hT.nb (by omega))) (fun i x hx h=>by unfold StP at h;omega) (fun i x hx h=>by unfold StP at h;omega) (by omega) (by omega)
  |ret _ _ e τ k _ _ _ hL hT _=>exact .mk t (by omega) (by omega) (by omega) (fun _=>one e hL (hT.nb (by omega))) (fun i x hx h=>by unfold StP at h;omega) (fun i x hx h=>by unfold StP at h;omega) (by omega) (by omega)
  |do_ _ _ e τ k _ _ _ hL _ hT=>exact .mk t (by omega) (by omega) (by omega) (fun _=>one e hL (hT.nb (by omega))) (fun i x hx h=>by unfold StP at h;omega) (fun i x hx h=>by unfold StP at h;omega) (by omega) (by omega)
  |set _ _ a b τ σ r k _ _ _ hL hTa hTb _ hR hr=>
   refine .mk t (by omega) (by omega) (by omega) (fun _ i x hx _=>?_) (fun i x hx h=>by unfold StP at h;omega) (fun i x hx h=>by unfold StP at h;omega) (by omega) (fun _ a' r' ha' hr'=>?_)
   ·rw[hL]at hx;have:=List.mem_of_getElem? hx;simp only[List.mem_cons,List.not_mem_nil,or_false]at this;rcases this with rfl|rfl
    ·exact hTa.nb (by omega)
    ·exact hTb.nb (by omega)
   ·rw[hL]at ha';cases ha';rw[hR.fn hr'];exact hr
  |if_ _ _ e x y τ k _ _ _ hL hT _ _ kx ky hx hy=>
   have h3:=z0l hL;have nx:=ih x (by rw[hL];simp) _ _ hx (by omega);have ny:=ih y (by rw[hL];simp) _ _ hy (by omega);refine .mk t (by omega) (by omega) (by omega) (fun _ i z hz hn=>?_) (fun i z hz hn=>?_) (fun i z hz hn=>?_) (by omega) (by omega)
   ·rw[hL]at hz
    match i with
    |0=>cases hz;exact hT.nb (by omega)
    |1=>exact absurd (.inl ⟨k,.inl rfl⟩) hn
    |2=>exact absurd (.inl ⟨k,.inr rfl⟩) hn
    |i+3=>simp at hz
   ·rw[hL]at hz
    match i with
    |0=>unfold StP at hn;omega
    |1=>cases hz;exact nx
    |2=>cases hz;exact ny
    |i+3=>simp at hz
   ·rw[hL]at hz
    match i with
    |0=>unfold StP at hn;omega
    |1=>cases hz;exact kx
    |2=>cases hz;exact ky
    |i+3=>simp at hz
  |while_ _ _ e x τ k _ _ _ hL hT _ _ kx hx=>
   have h3:=z3S hL;have nx:=ih x (by rw[hL];simp) _ _ hx (by omega);refine .mk t (by omega) (by omega) (by omega) (fun _ i z hz hn=>?_) (fun i z hz hn=>?_) (fun i z hz hn=>?_) (by omega) (by omega)
   ·rw[hL]at hz
    match i with
    |0=>cases hz;exact hT.nb (by omega)
    |1=>exact absurd (.inr (.inl ⟨k,rfl⟩)) hn
    |i+2=>simp at hz
   ·rw[hL]at hz
    match i with
    |0=>unfold StP at hn;omega
    |1=>cases hz;exact nx
    |i+2=>simp at hz
   ·rw[hL]at hz
    match i with
    |0=>unfold StP at hn;omega
    |1=>cases hz;exact kx
    |i+2=>simp at hz
  |for_ _ _ a b x τ σ k _ _ _ hL hTa _ _ hTb _ _ kx hx=>
   have h3:=z0l hL;have pa:=z0x a;have nx:=ih x (by rw[hL];simp) _ _ hx (by simp;omega);refine .mk t (by omega) (by omega) (by omega) (fun _ i z hz hn=>?_) (fun i z hz hn=>?_) (fun i z hz hn=>?_) (by omega) (by omega)
   ·rw[hL]at hz
    match i with
    |0=>cases hz;exact hTa.nb (by omega)
    |1=>cases hz;exact hTb.nb (by omega)
    |2=>exact absurd (.inr (.inr ⟨k,rfl⟩)) hn
    |i+3=>simp at hz
   ·rw[hL]at hz
    match i with
    |0=>unfold StP at hn;omega
    |1=>unfold StP at hn;omega
    |2=>cases hz;exact nx
    |i+3=>simp at hz
   ·rw[hL]at hz
    match i with
    |0=>unfold StP at hn;omega
    |1=>unfold StP at hn;omega
    |2=>cases hz;exact kx
    |i+3=>simp at hz
theorem y2g(m t:zA)(s:State)(h:s.Kind=0):Fl s (z1x m t s):=by
 have:=z5m m (.S t) s;cases this with|pay _ _ _ _ _ c=>exact c s h
theorem w0u(m t:zA)(s:State)(h:s.Kind=0):Fl s (z1w m t s):=by
 have:=z5m m (.E t) s;cases this with|pay _ _ _ _ _ c=>exact c s h
theorem v3N{m t:zA}{s a:State}{o:Out}{c:Int}(h:wT m (.S t) s o a c)(k0:s.Kind=0):0<c∧Run m (z1x m t (at_ s (c-1))) o (at_ a 0):=by
 obtain⟨h0,h3,h⟩:=h;have:=h c (Int.le_refl _);rw[Int.sub_self]at this;rcases run_pay.1 this with g|g|g
 ·exact absurd k0 g.1
 ·have e:=congrArg State.Kind g.2.2.2;exact absurd e h3
 ·exact⟨g.2.1,g.2.2⟩
theorem w2Z{m t:zA}{s a:State}{o:Out}{c:Int}(h:wT m (.E t) s o a c)(k0:s.Kind=0):0<c∧Run m (z1w m t (at_ s (c-1))) o (at_ a 0):=by
 obtain⟨h0,h3,h⟩:=h;have:=h c (Int.le_refl _);rw[Int.sub_self]at this;rcases run_pay.1 this with g|g|g
 ·exact absurd k0 g.1
 ·have e:=congrArg State.Kind g.2.2.2;exact absurd e h3
 ·exact⟨g.2.1,g.2.2⟩
theorem z1C{m:zA}{j:Job}{s s0 a:State}{k:Out→State→P}{o:Out}(h:Run m (.call j s k) o a)(hf:Fl s0 (.call j s k))(h3:a.Kind≠3)(h0:0≤a.Fuel):
  ∃o1 s1 c1,wT m j s o1 s1 c1∧s1.Fuel=s.Fuel-c1∧0≤s1.Fuel∧Run m (k o1 s1) o a∧Fl s1 (k o1 s1):=by
 obtain⟨o1,s1,h1,h2⟩:=run_call.1 h;cases hf with
 |call _ _ _ _ a1 a2 a3=>
  obtain⟨b1,b2⟩:=y8O h1 s (z5m m j s);have f1:=a3 o1 s1 b1 b2;obtain⟨c1,c2⟩:=y8O h2 s1 f1;exact⟨o1,s1,s.Fuel-s1.Fuel,y9B h1 (fun e=>h3 (c2 e)) (by omega),by omega,by omega,h2,f1⟩
theorem z4T{m t:zA}{s a:State}{o:Out}{c:Int}(h:wT m (.S t) s o a c)(k:s.Kind≠0):at_ a 0=at_ s 0∧c=0∧o=o0:=by
 obtain⟨h0,h3,h⟩:=h;have g:=h c (Int.le_refl _);rw[Int.sub_self]at g;rcases run_pay.1 g with g|g|g
 ·have e:=congrArg State.Fuel g.2.2;have e2:(0:Int)=c:=e;refine⟨?_,e2.symm,g.2.1⟩;rw[g.2.2,←e2]
 ·exact absurd g.1 k
 ·exact absurd g.1 k
theorem y3U{m t:zA}{s a:State}{o:Out}{c:Int}(h:wT m (.E t) s o a c)(k:s.Kind≠0):at_ a 0=at_ s 0∧c=0∧o=o0:=by
 obtain⟨h0,h3,h⟩:=h;have g:=h c (Int.le_refl _);rw[Int.sub_self]at g;rcases run_pay.1 g with g|g|g
 ·have e:=congrArg State.Fuel g.2.2;have e2:(0:Int)=c:=e;refine⟨?_,e2.symm,g.2.1⟩;rw[g.2.2,←e2]
 ·exact absurd g.1 k
 ·exact absurd g.1 k
theorem z4V{m t:zA}{s:State}(k:s.Kind≠0)(k3:s.Kind≠3):wT m (.S t) s o0 s 0:=⟨Int.le_refl _,k3,fun f _=>by rw[Int.sub_zero];exact .ended _ _ k⟩
theorem y3V{m t:zA}{s:State}(k:s.Kind≠0)(k3:s.Kind≠3):wT m (.E t) s o0 s 0:=⟨Int.le_refl _,k3,fun f _=>by rw[Int.sub_zero];exact .ended _ _ k⟩
theorem jZ{m:zA}{j:Job}{s a a':State}{o o':Out}{c c':Int}(h:wT m j s o a c)(h':wT m j s o' a' c'):o'=o∧at_ a' 0=at_ a 0∧c'=c:=by
 have g:=h.2.2 (max c c') (by omega);have g':=h'.2.2 (max c c') (by omega);obtain⟨e1,e2⟩:=g.det g';have e3:max c c'-c'=max c c'-c:=congrArg State.Fuel e2;refine⟨e1,?_,by omega⟩;have:at_ (at_ a' (max c c'-c')) 0=at_ (at_ a (max c c'-c)) 0:=by rw[e2]
 exact this
theorem y7H{a b:State}(h:at_ a 0=b):at_ a 0=at_ b 0∧b.Fuel=0:=by
 subst h;exact⟨rfl,rfl⟩
theorem wK{m:zA}{j:Job}{s a b:State}{o:Out}{c:Int}(e:at_ a 0=at_ b 0)(h:wT m j s o a c):wT m j s o b c:=by
 refine⟨h.1,?_,fun f hf=>?_⟩
 ·have:a.Kind=b.Kind:=(congrArg State.Kind e:(at_ a 0).Kind=(at_ b 0).Kind);rw[←this];exact h.2.1
 ·have:=h.2.2 f hf;have e2:at_ a (f-c)=at_ b (f-c):=by
   have:at_ (at_ a 0) (f-c)=at_ (at_ b 0) (f-c):=by rw[e]
   exact this
  rw[←e2];exact this
theorem z1g{m:zA}{j:Job}{s s' a:State}{o:Out}{c:Int}(e:at_ s 0=at_ s' 0)(h:wT m j s o a c):wT m j s' o a c:=by
 refine⟨h.1,h.2.1,fun f hf=>?_⟩;have:=h.2.2 f hf;have e2:at_ s f=at_ s' f:=by
  have:at_ (at_ s 0) f=at_ (at_ s' 0) f:=by rw[e]
  exact this
 rw[←e2];exact this
theorem z0Q{a b:State}(e:at_ a 0=at_ b 0):a.Kind=b.Kind:=(congrArg State.Kind e:(at_ a 0).Kind=(at_ b 0).Kind)
theorem z8d{m:zA}{j:Job}{s a:State}{o:Out}(h:Run m (.call j s fun _ s=>.ret o0 s) o (at_ a 0))(hf:Fl s (.call j s fun _ s=>.ret o0 s))(h3:a.Kind≠3):o=o0∧∃o1,wT m j s o1 a s.Fuel:=by
 obtain⟨o1,s1,c1,g1,g2,g3,g4,g5⟩:=z1C h hf h3 (Int.le_refl _);obtain⟨e1,e2⟩:=run_ret.1 g4;refine⟨e1,o1,?_⟩;subst e2;have:s.Fuel=c1:=by have:(0:Int)=s.Fuel-c1:=g2;omega
 rw[this];exact g1
theorem v8A{s:State}{o:Out}{k:P}(h:Fl s (.on s o k))(k0:s.Kind=0):Fl s k:=by unfold P.on at h;rw[zq1 k0]at h;exact h
theorem y8D{m t e x y:zA}{s a:State}{o:Out}{c:Int}(k:t.K=23)(hL:t.L=[e,x,y])(h:wT m (.S t) s o a c)(k0:s.Kind=0):
  ∃o1 s1 c1,wT m (.E e) s o1 s1 c1∧((s1.Kind≠0∧at_ a 0=at_ s1 0∧c=1+c1)∨(s1.Kind=0∧∃o2 c2,wT m (.S (if o1.v.N=0 then y else x)) s1 o2 a c2∧c=1+c1+c2)):=by
 obtain⟨hc,hr⟩:=v3N h k0;have hf:=y2g m t (at_ s (c-1)) k0;unfold z1x at hr hf;rw[zq0 (by omega),zq0 (by omega),zq0 (by omega),hL]at hr hf;obtain⟨o1,s1,c1,g1,g2,g3,g4,g5⟩:=z1C hr hf h.2.1 (Int.le_refl _);have g2:s1.Fuel=c-1-c1:=g2;refine⟨o1,s1,c1,g1,?_⟩;rcases run_on.1 g4 with⟨k1,q⟩|⟨k1,-,q⟩
 ·right;have g5:=v8A g5 k1;rw[zq0 (by omega),zq0 (by omega),zq0 (by omega),zq1 k]at q g5;refine⟨k1,?_⟩;by_cases z:o1.v.N=0
  ·rw[zq1 z]at q g5 ⊢;obtain⟨-,o2,hc2⟩:=z8d q g5 h.2.1;exact⟨o2,_,hc2,by omega⟩
  ·rw[zq0 z]at q g5 ⊢;obtain⟨-,o2,hc2⟩:=z8d q g5 h.2.1;exact⟨o2,_,hc2,by omega⟩
 ·left;obtain⟨e1,e2⟩:=y7H q;exact⟨k1,e1,by omega⟩
theorem z7U{m t e x y:zA}{s s1 a:State}{o1 o2:Out}{c1 c2:Int}(k:t.K=23)(hL:t.L=[e,x,y])(k0:s.Kind=0)(h1:wT m (.E e) s o1 s1 c1)(k1:s1.Kind=0)(h2:wT m (.S (if o1.v.N=0 then y else x)) s1 o2 a c2):wT m (.S t) s o0 a (1+c1+c2):=by
 have p1:=h1.1;have p2:=h2.1;refine⟨by omega,h2.2.1,fun f hf=>.pay _ _ _ _ k0 (show 0<f by omega) ?_⟩;show Run m (z1x m t (at_ s (f-1))) _ _;unfold z1x;rw[zq0 (by omega),zq0 (by omega),zq0 (by omega),hL];refine .call _ _ _ o1 (at_ s1 (f-1-c1)) _ _ (h1.2.2 (f-1) (by omega)) (run_on.2 (.inl ⟨k1,?_⟩));rw[zq0 (by omega),zq0 (by omega),zq0 (by omega),zq1 k];have h2:=h2.2.2 (f-1-c1) (by omega);rw[show f-1-c1-c2=f-(1+c1+c2)by omega]at h2;by_cases z:o1.v.N=0
 ·rw[zq1 z]at h2 ⊢;exact .call _ _ _ o2 _ _ _ h2 (.ret _ _)
 ·rw[zq0 z]at h2 ⊢;exact .call _ _ _ o2 _ _ _ h2 (.ret _ _)
theorem z1h{m t e:zA}{r:List zA}{s s1:State}{o1:Out}{c1:Int}(k:t.K≠29∧t.K≠21∧t.K≠22)(hL:t.L=e::r)(k0:s.Kind=0)(h1:wT m (.E e) s o1 s1 c1)(k1:s1.Kind≠0):wT m (.S t) s o0 s1 (1+c1):=by
 have p1:=h1.1;refine⟨by omega,h1.2.1,fun f hf=>.pay _ _ _ _ k0 (show 0<f by omega) ?_⟩;show Run m (z1x m t (at_ s (f-1))) _ _;unfold z1x;rw[zq0 k.1,zq0 k.2.1,zq0 k.2.2,hL];have:=h1.2.2 (f-1) (by omega);rw[show f-1-c1=f-(1+c1)by omega]at this;exact .call _ _ _ o1 _ _ _ this (run_on.2 (.inr ⟨k1,rfl,rfl⟩))
theorem y6e{m t:zA}{s a:State}{o:Out}{c:Int}(k:t.K=29)(h:wT m (.S t) s o a c)(k0:s.Kind=0):
  ∃o1 s1,wT m (.B t.L) s o1 s1 (c-1)∧s.Locals.length≤s1.Locals.length∧at_ a 0=at_ {s1 with Locals:=s1.Locals.take s.Locals.length} 0:=by
 obtain⟨hc,hr⟩:=v3N h k0;have hf:=y2g m t (at_ s (c-1)) k0;unfold z1x at hr hf;rw[zq1 k]at hr hf;obtain⟨o1,s1,c1,g1,g2,g3,g4,g5⟩:=z1C hr hf h.2.1 (Int.le_refl _);have g2:s1.Fuel=c-1-c1:=g2;unfold cut at g4;by_cases z:s.Locals.length≤s1.Locals.length
 ·rw[zq1 z]at g4;obtain⟨-,e⟩:=run_ret.1 g4;obtain⟨e1,e2⟩:=y7H e;have e2:s1.Fuel=0:=e2;refine⟨o1,s1,?_,z,e1⟩;rw[show c-1=c1 by omega];exact g1
 ·rw[zq0 z]at g4;exact absurd g4 v5x
theorem z2L{m t:zA}{s s1:State}{o1:Out}{c1:Int}(k:t.K=29)(k0:s.Kind=0)(h:wT m (.B t.L) s o1 s1 c1)(hl:s.Locals.length≤s1.Locals.length):wT m (.S t) s o0 {s1 with Locals:=s1.Locals.take s.Locals.length} (1+c1):=by
 have p1:=h.1;refine⟨by omega,h.2.1,fun f hf=>.pay _ _ _ _ k0 (show 0<f by omega) ?_⟩;show Run m (z1x m t (at_ s (f-1))) _ _;unfold z1x;rw[zq1 k];have:=h.2.2 (f-1) (by omega);rw[show f-1-c1=f-(1+c1)by omega]at this;refine .call _ _ _ o1 _ _ _ this ?_;unfold cut;rw[zq1 hl];exact .ret _ _
theorem z4Z{m:zA}{s:State}(k3:s.Kind≠3):wT m (.B []) s o0 s 0:=⟨Int.le_refl _,k3,fun f _=>by rw[Int.sub_zero];exact .ret _ _⟩
theorem uV{m x:zA}{r:List zA}{s s1 a:State}{o1 o2:Out}{c1 c2:Int}(h1:wT m (.S x) s o1 s1 c1)(h2:wT m (.B r) s1 o2 a c2):wT m (.B (x::r)) s o0 a (c1+c2):=by
 have p1:=h1.1;have p2:=h2.1;refine⟨by omega,h2.2.1,fun f hf=>?_⟩;have g2:=h2.2.2 (f-c1) (by omega);rw[show f-c1-c2=f-(c1+c2)by omega]at g2;exact .call _ _ _ o1 _ _ _ (h1.2.2 f (by omega)) (.call _ _ _ o2 _ _ _ g2 (.ret _ _))
theorem v9d{m:zA}{s a:State}{o:Out}{c:Int}(h:wT m (.B []) s o a c):at_ a 0=at_ s 0∧c=0:=by
 have:=jZ h (z4Z (m:=m) (s:=s) (by
  have g:=h.2.2 c (Int.le_refl _);obtain⟨-,e⟩:=run_ret.1 g;have:=congrArg State.Kind e;intro hk;exact h.2.1 (by have e3:a.Kind=s.Kind:=this;rw[e3];exact hk)))
 exact⟨this.2.1.symm,this.2.2.symm⟩
theorem z7Q{m x:zA}{r:List zA}{s a:State}{o:Out}{c:Int}(h:wT m (.B (x::r)) s o a c):∃o1 s1 c1 o2 c2,wT m (.S x) s o1 s1 c1∧wT m (.B r) s1 o2 a c2∧c=c1+c2:=by
 have g:=h.2.2 c (Int.le_refl _);rw[Int.sub_self]at g;have hf:=z5m m (.B (x::r)) (at_ s c);obtain⟨o1,s1,c1,g1,g2,g3,g4,g5⟩:=z1C g hf h.2.1 (Int.le_refl _);obtain⟨-,o2,hc2⟩:=z8d g4 g5 h.2.1;have g2:s1.Fuel=c-c1:=g2;exact⟨o1,s1,c1,o2,_,g1,hc2,by omega⟩
theorem y7x{m t e x:zA}{s a:State}{o:Out}{c:Int}(k:t.K=24)(hL:t.L=[e,x])(h:wT m (.S t) s o a c)(k0:s.Kind=0):
  ∃o1 s1 c1,wT m (.E e) s o1 s1 c1∧((s1.Kind≠0∧at_ a 0=at_ s1 0∧c=1+c1)∨(s1.Kind=0∧∃o2 c2,wT m (.W o1.v t) s1 o2 a c2∧c=1+c1+c2)):=by
 obtain⟨hc,hr⟩:=v3N h k0;have hf:=y2g m t (at_ s (c-1)) k0;unfold z1x at hr hf;rw[zq0 (by omega),zq0 (by omega),zq0 (by omega),show t.L[0]?=some e by rw[hL];rfl]at hr hf;obtain⟨o1,s1,c1,g1,g2,g3,g4,g5⟩:=z1C hr hf h.2.1 (Int.le_refl _);have g2:s1.Fuel=c-1-c1:=g2;refine⟨o1,s1,c1,g1,?_⟩;rcases run_on.1 g4 with⟨k1,q⟩|⟨k1,-,q⟩
 ·right;have g5:=v8A g5 k1;rw[zq0 (by omega),zq0 (by omega),zq0 (by omega),zq0 (by omega),zq1 k]at q g5;obtain⟨-,o2,hc2⟩:=z8d q g5 h.2.1;exact⟨k1,o2,_,hc2,by omega⟩
 ·left;obtain⟨e1,e2⟩:=y7H q;exact⟨k1,e1,by omega⟩
theorem z2T{m t e x:zA}{s s1 a:State}{o1 o2:Out}{c1 c2:Int}(k:t.K=24)(hL:t.L=[e,x])(k0:s.Kind=0)(h1:wT m (.E e) s o1 s1 c1)(k1:s1.Kind=0)(h2:wT m (.W o1.v t) s1 o2 a c2):wT m (.S t) s o0 a (1+c1+c2):=by
 have p1:=h1.1;have p2:=h2.1;refine⟨by omega,h2.2.1,fun f hf=>.pay _ _ _ _ k0 (show 0<f by omega) ?_⟩;show Run m (z1x m t (at_ s (f-1))) _ _;unfold z1x;rw[zq0 (by omega),zq0 (by omega),zq0 (by omega),show t.L[0]?=some e by rw[hL];rfl];refine .call _ _ _ o1 (at_ s1 (f-1-c1)) _ _ (h1.2.2 (f-1) (by omega)) (run_on.2 (.inl ⟨k1,?_⟩));rw[zq0 (by omega),zq0 (by omega),zq0 (by omega),zq0 (by omega),zq1 k];have h2:=h2.2.2 (f-1-c1) (by omega);rw[show f-1-c1-c2=f-(1+c1+c2)by omega]at h2
 exact .call _ _ _ o2 _ _ _ h2 (.ret _ _)
theorem y1X{m t:zA}{v:Value}{s:State}(k3:s.Kind≠3)(h:s.Kind≠0∨v.N=0):wT m (.W v t) s o0 s 0:=by
 refine⟨Int.le_refl _,k3,fun f _=>?_⟩;rw[Int.sub_zero];by_cases k:s.Kind=0
 ·exact run_on.2 (.inl ⟨k,by rw[zq1 (h.resolve_left (fun g=>g k))];exact .ret _ _⟩)
 ·exact run_on.2 (.inr ⟨k,rfl,rfl⟩)
theorem y5S{m t e x:zA}{v:Value}{s s1 s2 a:State}{o1 o2 o3:Out}{c1 c2 c3:Int}(hL:t.L=[e,x])(k0:s.Kind=0)(hv:v.N≠0)(h1:wT m (.S x) s o1 s1 c1)(h2:wT m (.E e) s1 o2 s2 c2)(h3:wT m (.W o2.v t) s2 o3 a c3):wT m (.W v t) s o0 a (c1+c2+c3):=by
 have p1:=h1.1;have p2:=h2.1;have p3:=h3.1;refine⟨by omega,h3.2.1,fun f hf=>run_on.2 (.inl ⟨k0,?_⟩)⟩;rw[zq0 hv,show t.L[0]?=some e by rw[hL];rfl,show t.L[1]?=some x by rw[hL];rfl];have g3:=h3.2.2 (f-c1-c2) (by omega);rw[show f-c1-c2-c3=f-(c1+c2+c3)by omega]at g3;exact .call _ _ _ o1 _ _ _ (h1.2.2 f (by omega)) (.call _ _ _ o2 _ _ _ (h2.2.2 (f-c1) (by omega)) (.call _ _ _ o3 _ _ _ g3 (.ret _ _)))
theorem w1A{m t e x:zA}{v:Value}{s a:State}{o:Out}{c:Int}(hL:t.L=[e,x])(h:wT m (.W v t) s o a c):
  ((s.Kind≠0∨v.N=0)∧at_ a 0=at_ s 0∧c=0)∨(s.Kind=0∧v.N≠0∧∃o1 s1 c1 o2 s2 c2 o3 c3,wT m (.S x) s o1 s1 c1∧wT m (.E e) s1 o2 s2 c2∧wT m (.W o2.v t) s2 o3 a c3∧c=c1+c2+c3):=by
 have g:=h.2.2 c (Int.le_refl _);rw[Int.sub_self]at g;have hf:=z5m m (.W v t) (at_ s c);by_cases k0:s.Kind=0
 ·by_cases z:v.N=0
  ·left;rcases run_on.1 g with⟨-,q⟩|⟨q,_⟩
   ·rw[zq1 z]at q;obtain⟨-,e⟩:=run_ret.1 q;obtain⟨e1,e2⟩:=y7H e;have e2:c=0:=e2;exact⟨.inr z,e1,e2⟩
   ·exact absurd k0 q
  ·right;rcases run_on.1 g with⟨-,q⟩|⟨q,_⟩
   ·have g5:=v8A hf k0;rw[zq0 z,show t.L[0]?=some e by rw[hL];rfl,show t.L[1]?=some x by rw[hL];rfl]at q g5;obtain⟨o1,s1,c1,a1,a2,a3,a4,a5⟩:=z1C q g5 h.2.1 (Int.le_refl _);obtain⟨o2,s2,c2,b1,b2,b3,b4,b5⟩:=z1C a4 a5 h.2.1 (Int.le_refl _);obtain⟨-,o3,hc3⟩:=z8d b4 b5 h.2.1;have a2:s1.Fuel=c-c1:=a2;exact⟨k0,z,o1,s1,c1,o2,s2,c2,o3,_,a1,b1,hc3,by omega⟩
   ·exact absurd k0 q
 ·left;rcases run_on.1 g with⟨q,_⟩|⟨q,-,e⟩
  ·exact absurd q k0
  ·obtain⟨e1,e2⟩:=y7H e;have e2:c=0:=e2;exact⟨.inl k0,e1,e2⟩
theorem StOk.less{m:zA}{N:Int}{Γ:List zA}{s:State}{C c:Int}(h:StOk m N Γ (at_ s C))(h0:0≤c)(h1:c≤C):StOk m N Γ (at_ s c):=
 {h with fuel0:=h0,fuel1:=by have:=h.fuel1;simp only at *;omega,room:=by have:=h.room;simp only at *;omega,tr:=by have:=h.tr;simp only at *;omega}
theorem v1W{m:zA}(hm:ModOk m)(hms:zH m≤100000000)(hmw:zA.Wf m){N c:Int}{ρ:zA}{Γ Γ':List zA}{t:zA}{s a:State}{o:Out}(hT:TS m ρ Γ t Γ')(hw:zA.Wf t)(hts:zH t≤100000000)(hs:StOk m N Γ (at_ s c))(k0:s.Kind=0)(h:wT m (.S t) s o a c):
  ((a.Kind=0∧StOk m N Γ' (at_ a 0))∨(a.Kind≠0∧StOk m N Γ (at_ a 0)))∧w0d m ρ a:=by
 obtain⟨o',s',hG,-,-,h1,h2⟩:=(y6L m hm hms hmw c.toNat).2 N ρ Γ Γ' t _ hT hw hts hs k0 (by have:=h.1;simp only;omega);have g:=h.2.2 c (Int.le_refl _);rw[Int.sub_self]at g;obtain⟨-,e⟩:=hG.det g;subst e;exact⟨h1.elim (fun h=>.inl ⟨h.1,h.2.2⟩) .inr,h2⟩
theorem VW.vok{v:Value}(h:VW v):Vok v:=by
 induction h with
 |mk y _ h1 _ ih=>exact .mk y h1 ih
theorem y7u(l:List Value)(h:∀v∈l,VW v)(hl:l.length≤1000000000):z4x l l=some true:=by
 have loop:∀(k i:Nat),i+k=l.length→yS l l i=some true:=by
  intro k;induction k with
  |zero=>
   intro i hi;rw[z7i];unfold gJ;rw[zq0 (by omega)]
  |succ k ih=>
   intro i hi;have hlt:i<l.length:=by omega
   obtain⟨c,ec,hc⟩:=v6r l[i] (h _ (List.getElem_mem hlt)).vok l[i];rw[z7i];unfold gJ;rw[zq1 (by omega),wG hlt,zB,zB,ec,zB,hc.2 rfl,zq1 rfl,z1G (by omega)];exact ih (i+1) (by omega)
 unfold z4x;rw[zq1 rfl];exact loop l.length 0 (by omega)
theorem y3Z(l:List Int)(hl:l.length≤1000000000):z3m l l=some true:=by
 have loop:∀(k i:Nat),i+k=l.length→yG l l i=some true:=by
  intro k;induction k with
  |zero=>
   intro i hi;rw[z6w];unfold jQ;rw[zq0 (by omega)]
  |succ k ih=>
   intro i hi;have hlt:i<l.length:=by omega
   rw[z6w];unfold jQ;rw[zq1 (by omega),wG hlt,zB,zB,zq1 rfl,z1G (by omega)];exact ih (i+1) (by omega)
 unfold z3m;rw[zq1 rfl];exact loop l.length 0 (by omega)
theorem w1L{m:zA}{N:Int}{Γ:List zA}{a b:State}(h:StOk m N Γ (at_ a 0))(hml:m.L.length≤1000000000)(e:at_ a 0=at_ b 0):y0d a b=some true:=by
 have hl:a.Locals.length≤1000000000:=h.locals_le;have hg:a.Globals.length≤1000000000:=by have:=h.gl;simp only at this;omega
 have ht:a.Trace.length≤1000000000:=by have:=h.tr;have:=h.trN;simp only at *;omega
 unfold y0d;rw[show({b with Fuel:=0}:State)={a with Fuel:=0}from e.symm];obtain⟨c,ec,hc⟩:=v6r a.Ret (show VW a.Ret from h.rt).vok a.Ret;unfold y2E;simp only;rw[y7u a.Globals h.gw hg,zB,zq1 rfl,y7u a.Locals h.lw hl,zB,zq1 rfl,y3Z a.Input h.inl,zB,zq1 rfl,zq1 trivial,y3Z a.Trace ht,zB,zq1 rfl,zq1 trivial,zq1 trivial,zq1 trivial,ec,zB,hc.2 rfl];rfl
theorem y8X {m:zA} (hm:ModOk m) (hms:zH m≤100000000) (hmw:zA.Wf m) {ρ:zA} {Γ Γ1 Γ2:List zA} {l r:zA} {s:State} (hl:TS m ρ Γ l Γ1) (hr:TS m ρ Γ r Γ2) (hlw:zA.Wf l) (hrw:zA.Wf r) (hls:zH l≤400) (hrs:zH r≤400)
  (hs:StOk m 1000000000 Γ s) (k0:s.Kind=0) (hf:s.Fuel≤3000) (hL:Γ.length≤1000) (hT:s.Trace.length≤1000)
  (dir:∀o a c,wT m (.S l) s o a c→c≤s.Fuel→∃o' c',wT m (.S r) s o' a c'∧c'≤(c+1)*(2+zH l+zH r)):z4y m s l r=some true:=by
 have f0:=hs.fuel0;obtain⟨o,a,hG,hM,hfa,hst,hE⟩:=(y6L m hm hms hmw s.Fuel.toNat).2 _ ρ Γ Γ1 l s hl hlw (by omega) hs k0 (by omega);unfold z4y;rw[hM,zB];by_cases k3:a.Kind=3
 ·rw[zq1 k3]
 rw[zq0 k3,v9A l (by omega),v9A r (by omega),zB,zB];obtain⟨Δ,hst'⟩:∃Δ,StOk m 1000000000 Δ a:=hst.elim (fun h=>⟨_,h.2.2⟩) (fun h=>⟨_,h.2⟩);have fa:=hst'.fuel0;have hc:=y9B hG k3 fa;obtain⟨o',c',hc',hle⟩:=dir _ _ _ hc (by omega);have e1:IntKind.wrap .i64 (s.Fuel-a.Fuel)=s.Fuel-a.Fuel:=z0y (by omega) (by omega);have e2:IntKind.wrap .i64 (s.Fuel-a.Fuel+1)=s.Fuel-a.Fuel+1:=z0y (by omega) (by omega);have e3:IntKind.wrap .i64 (2+(zH l:Int))=2+zH l:=z0y (by omega) (by omega)
 have e4:IntKind.wrap .i64 (2+(zH l:Int)+zH r)=2+zH l+zH r:=z0y (by omega) (by omega);have hmul:0≤(s.Fuel-a.Fuel+1)*(2+(zH l:Int)+zH r)∧(s.Fuel-a.Fuel+1)*(2+(zH l:Int)+zH r)≤3001*802:=
  ⟨Int.mul_nonneg (by omega) (by omega),Int.mul_le_mul (by omega) (by omega) (by omega) (by omega)⟩
 rw[e1,e2,e3,e4,z0y (by omega) (by omega)];generalize (s.Fuel-a.Fuel+1)*(2+(zH l:Int)+zH r)=F at *;by_cases cF:F>65536
 ·rw[zq1 cF]
 rw[zq0 cF];have hsF:StOk m 1000000000 Γ (at_ s F):=hs.fuel hmul.1 (by omega) (by have:=hs.ll;omega) (by omega);obtain⟨o2,b,hG2,hM2,-,-,-⟩:=(y6L m hm hms hmw F.toNat).2 _ ρ Γ Γ2 r (at_ s F) hr hrw (by omega) hsF k0 (by simp only;omega);rw[hM2,zB];have g:=hc'.2.2 F hle;obtain⟨-,e⟩:=hG2.det g;have eb:at_ a 0=at_ b 0:=by rw[←e]
 have hml:=vK m;have ha0:StOk m 1000000000 Δ (at_ a 0):=StOk.less (C:=a.Fuel) hst' (Int.le_refl _) fa;rw[w1L ha0 (by omega) eb];rfl
theorem z3M{m t:zA}{s:State}(k:t.K=5∨t.K=6)(k0:s.Kind=0):wT m (.E t) s (oN t.N) s 1:=by
 refine⟨by omega,by omega,fun f hf=>.pay _ _ _ _ k0 (show 0<f by omega) ?_⟩;show Run m (z1w m t (at_ s (f-1))) _ _;unfold z1w;rw[zq1 k];exact .ret _ _
theorem v3d{m:zA}{s:State}(k3:s.Kind≠3):wT m (.L []) s o0 s 0:=⟨Int.le_refl _,k3,fun f _=>by rw[Int.sub_zero];exact .ret _ _⟩
theorem y8F{m x:zA}{r:List zA}{s s1 a:State}{o1 o2:Out}{c1 c2:Int}(h1:wT m (.E x) s o1 s1 c1)(h2:wT m (.L r) s1 o2 a c2):wT m (.L (x::r)) s ⟨v0,o1.v::o2.l,[]⟩ a (c1+c2):=by
 have p1:=h1.1;have p2:=h2.1;refine⟨by omega,h2.2.1,fun f hf=>?_⟩;have g2:=h2.2.2 (f-c1) (by omega);rw[show f-c1-c2=f-(c1+c2)by omega]at g2;exact .call _ _ _ o1 _ _ _ (h1.2.2 f (by omega)) (.call _ _ _ o2 _ _ _ g2 (.ret _ _))
theorem v8U{m x:zA}{r:List zA}{s a:State}{o:Out}{c:Int}(h:wT m (.L (x::r)) s o a c):∃o1 s1 c1 o2 c2,wT m (.E x) s o1 s1 c1∧wT m (.L r) s1 o2 a c2∧c=c1+c2∧o=⟨v0,o1.v::o2.l,[]⟩:=by
 have g:=h.2.2 c (Int.le_refl _);rw[Int.sub_self]at g;have hf:=z5m m (.L (x::r)) (at_ s c);obtain⟨o1,s1,c1,g1,g2,g3,g4,g5⟩:=z1C g hf h.2.1 (Int.le_refl _);obtain⟨o2,s2,c2,b1,b2,b3,b4,b5⟩:=z1C g4 g5 h.2.1 (Int.le_refl _);obtain⟨e1,e2⟩:=run_ret.1 b4;have g2:s1.Fuel=c-c1:=g2;obtain⟨e3,e4⟩:=y7H e2;exact⟨o1,s1,c1,o2,c2,g1,wK e3.symm b1,by omega,e1⟩
theorem y8I {m t:zA} {s s1 a:State} {ol o:Out} {c1 c2:Int} (k:t.K=11∨t.K=12∨t.K=13∨t.K=14∨t.K=15∨t.K=16) (k0:s.Kind=0) (h:wT m (.L t.L) s ol s1 c1) (h0:0≤c2) (h3:a.Kind≠3)
  (hr:∀f,c2≤f→Run m (.on (at_ s1 f) o0
  (if t.K=11 then .opt ol.l[0]? fun v=>.opt (z1D t.N v.N) fun n=>.ret (oN n) (at_ s1 f)
   else if t.K=12 then .opt ol.l[0]? fun v=>.opt ol.l[1]? fun i=>if i.N<0∨i.N≥(v.L.length:Int)then .ret o0 (z8J 2 (at_ s1 f))else .opt v.L[i.N.toNat]? fun x=>.ret (oV x) (at_ s1 f)
   else if t.K=13 then .opt ol.l[0]? fun v=>.opt v.L[(Int.tmod t.N 64).toNat]? fun x=>.ret (oV x) (at_ s1 f)
   else if t.K=16 then .call (.C t.N ol.l) (at_ s1 f) fun o s=>.ret (oV o.v) s
   else .ret (oV ⟨0,ol.l⟩) (at_ s1 f))) o (at_ a (f-c2))):wT m (.E t) s o a (1+c1+c2):=by
 have p1:=h.1;refine⟨by omega,h3,fun f hf=>.pay _ _ _ _ k0 (show 0<f by omega) ?_⟩;show Run m (z1w m t (at_ s (f-1))) _ _;unfold z1w;rw[zq0 (by omega),zq0 (by omega),zq0 (by omega),zq0 (by omega),zq0 (by omega),zq0 (by omega)];have:=hr (f-1-c1) (by omega);rw[show f-1-c1-c2=f-(1+c1+c2)by omega]at this;exact .call _ _ _ ol (at_ s1 (f-1-c1)) _ _ (h.2.2 (f-1) (by omega)) this
theorem v9h{m t:zA}{s a:State}{o:Out}{c:Int}(k:t.K=11∨t.K=12∨t.K=13∨t.K=14∨t.K=15∨t.K=16)(k0:s.Kind=0)(h:wT m (.E t) s o a c):∃ol s1 c1,wT m (.L t.L) s ol s1 c1:=by
 obtain⟨hc,hr⟩:=w2Z h k0;have hf:=w0u m t (at_ s (c-1)) k0;unfold z1w at hr hf;rw[zq0 (by omega),zq0 (by omega),zq0 (by omega),zq0 (by omega),zq0 (by omega),zq0 (by omega)]at hr hf;obtain⟨ol,s1,c1,g1,-⟩:=z1C hr hf h.2.1 (Int.le_refl _);exact⟨ol,s1,c1,g1⟩
theorem v9S{m t x:zA}{s s1:State}{o1:Out}{c1:Int}(k:t.K=11)(hL:t.L=[x])(k0:s.Kind=0)(h:wT m (.E x) s o1 s1 c1):wT m (.E t) s (if s1.Kind=0 then oN (v7N t.N o1.v.N)else o0) s1 (1+c1):=by
 have hl:=y8F h (v3d (m:=m) h.2.1);rw[←hL]at hl;have:=y8I (m:=m) (t:=t) (a:=s1) (o:=if s1.Kind=0 then oN (v7N t.N o1.v.N)else o0) (c2:=0) (.inl k) k0 hl (Int.le_refl _) h.2.1 (fun f hf=>by
  rw[Int.sub_zero];by_cases k1:s1.Kind=0
  ·rw[zq1 k1];refine run_on.2 (.inl ⟨k1,?_⟩);rw[zq1 k];show Run m (P.opt (z1D t.N o1.v.N) _) _ _;rw[y0t];exact .ret _ _
  ·rw[zq0 k1];exact run_on.2 (.inr ⟨k1,rfl,rfl⟩))
 rw[show 1+c1=1+(c1+0)+0 by omega];exact this
theorem w2T{m t x:zA}{s a:State}{o:Out}{c:Int}(k:t.K=11)(hL:t.L=[x])(k0:s.Kind=0)(h:wT m (.E t) s o a c):∃o1 c1,wT m (.E x) s o1 a c1∧c=1+c1∧o=(if a.Kind=0 then oN (v7N t.N o1.v.N)else o0):=by
 obtain⟨ol,s1,c1,h1⟩:=v9h (.inl k) k0 h;rw[hL]at h1;obtain⟨o1,s2,c2,o2,c3,h2,-,-,-⟩:=v8U h1;have h3:=v9S k hL k0 h2;obtain⟨e1,e2,e3⟩:=jZ h h3;refine⟨o1,c2,wK e2 h2,by omega,?_⟩;rw[←e1,z0Q e2]
section
variable {m l r e x y:zA} {s a:State} {o:Out} {c:Int}
theorem w0o(k:l.K=23)(hL:l.L=[e,x,y])(ke:e.K=6)(hN:e.N≠0)(k0:s.Kind=0)(h:wT m (.S l) s o a c):∃o',wT m (.S x) s o' a (c-2):=by
 obtain⟨o1,s1,c1,h1,h2⟩:=y8D k hL h k0;obtain⟨e1,e2,e3⟩:=jZ (z3M (m:=m) (t:=e) (s:=s) (.inr ke) k0) h1;subst e1;subst e3;rcases h2 with⟨k1,_⟩|⟨k1,o2,c2,h3,rfl⟩
 ·exact absurd (z0Q e2▸k0) k1
 ·rw[zq0 hN]at h3;exact⟨o2,by rw[show 1+1+c2-2=c2 by omega];exact z1g e2 h3⟩
theorem w0X(k:l.K=23)(hL:l.L=[e,x,y])(ke:e.K=6)(hN:e.N≠0)(k0:s.Kind=0)(h:wT m (.S x) s o a c):wT m (.S l) s o0 a (1+1+c):=by
 refine z7U k hL k0 (z3M (.inr ke) k0) k0 (o2:=o) ?_;rw[zq0 hN];exact h
theorem v8m(k:l.K=23)(hL:l.L=[e,x,y])(ke:e.K=6)(hN:e.N=0)(k0:s.Kind=0)(h:wT m (.S l) s o a c):∃o',wT m (.S y) s o' a (c-2):=by
 obtain⟨o1,s1,c1,h1,h2⟩:=y8D k hL h k0;obtain⟨e1,e2,e3⟩:=jZ (z3M (m:=m) (t:=e) (s:=s) (.inr ke) k0) h1;subst e1;subst e3;rcases h2 with⟨k1,_⟩|⟨k1,o2,c2,h3,rfl⟩
 ·exact absurd (z0Q e2▸k0) k1
 ·rw[zq1 hN]at h3;exact⟨o2,by rw[show 1+1+c2-2=c2 by omega];exact z1g e2 h3⟩
theorem v9n(k:l.K=23)(hL:l.L=[e,x,y])(ke:e.K=6)(hN:e.N=0)(k0:s.Kind=0)(h:wT m (.S y) s o a c):wT m (.S l) s o0 a (1+1+c):=by
 refine z7U k hL k0 (z3M (.inr ke) k0) k0 (o2:=o) ?_;rw[zq1 hN];exact h
theorem y4Y(v:Int):(v7N 2 v=0)↔v≠0:=by
 unfold v7N;rw[zq0 (by decide),zq1 rfl];unfold b01;by_cases h:v=0
 ·simp[h]
 ·simp[h]
theorem v6X{n:zA}(k:l.K=23)(hL:l.L=[e,x,y])(kr:r.K=23)(hR:r.L=[n,y,x])(kn:n.K=11)(nN:n.N=2)(hn:n.L=[e])(k0:s.Kind=0)(h:wT m (.S l) s o a c):wT m (.S r) s o0 a (c+1):=by
 obtain⟨o1,s1,c1,h1,h2⟩:=y8D k hL h k0;have hn':=v9S kn hn k0 h1;rcases h2 with⟨k1,e2,rfl⟩|⟨k1,o2,c2,h3,rfl⟩
 ·have:=z1h (m:=m) (t:=r) ⟨by omega,by omega,by omega⟩ hR k0 hn' k1;rw[show 1+c1+1=1+(1+c1)by omega];exact wK e2.symm this
 ·rw[zq1 k1]at hn';rw[show 1+c1+c2+1=1+(1+c1)+c2 by omega];refine z7U kr hR k0 hn' k1 (o2:=o2) ?_;show wT m (.S (if v7N n.N o1.v.N=0 then x else y)) s1 o2 a c2;rw[nN];by_cases z:o1.v.N=0
  ·rw[zq0 (fun h=>(y4Y _).1 h z)];rw[zq1 z]at h3;exact h3
  ·rw[zq1 ((y4Y _).2 z)];rw[zq0 z]at h3;exact h3
theorem v7Q{n:zA}(k:l.K=23)(hL:l.L=[e,x,y])(kr:r.K=23)(hR:r.L=[n,y,x])(kn:n.K=11)(nN:n.N=2)(hn:n.L=[e])(k0:s.Kind=0)(h:wT m (.S r) s o a c):wT m (.S l) s o0 a (c-1):=by
 obtain⟨o1,s1,c1,h1,h2⟩:=y8D kr hR h k0;obtain⟨o3,c3,h4,rfl,eo⟩:=w2T kn hn k0 h1;rcases h2 with⟨k1,e2,rfl⟩|⟨k1,o2,c2,h3,rfl⟩
 ·have:=z1h (m:=m) (t:=l) ⟨by omega,by omega,by omega⟩ hL k0 h4 k1;rw[show 1+(1+c3)-1=1+c3 by omega];exact wK e2.symm this
 ·rw[zq1 k1]at eo;rw[show 1+(1+c3)+c2-1=1+c3+c2 by omega];refine z7U k hL k0 h4 k1 (o2:=o2) ?_;rw[eo,nN]at h3;have h3:wT m (.S (if v7N 2 o3.v.N=0 then x else y)) s1 o2 a c2:=h3;by_cases z:o3.v.N=0
  ·rw[zq1 z];rw[zq0 (fun h=>(y4Y _).1 h z)]at h3;exact h3
  ·rw[zq0 z];rw[zq1 ((y4Y _).2 z)]at h3;exact h3
theorem y7w(k:l.K=24)(hL:l.L=[e,x])(ke:e.K=6)(hN:e.N=0)(k0:s.Kind=0):wT m (.S l) s o0 s 2:=
 z2T k hL k0 (z3M (.inr ke) k0) k0 (y1X (by omega) (.inr hN))
theorem z7I(k:r.K=29)(hL:r.L=[])(k0:s.Kind=0):wT m (.S r) s o0 s 1:=by
 have:=z2L (m:=m) (t:=r) (s:=s) (s1:=s) (o1:=o0) (c1:=0) k k0 (by rw[hL];exact z4Z (by omega)) (Nat.le_refl _);have e:({s with Locals:=s.Locals.take s.Locals.length}:State)=s:=by rw[List.take_length]
 rw[e]at this;exact this
end
theorem y5a{s:State}{n:Nat}(h:s.Locals.length=n):({s with Locals:=s.Locals.take n}:State)=s:=by
 subst h;rw[List.take_length]
theorem y6U{a b:State}(e:at_ a 0=at_ b 0):a.Locals.length=b.Locals.length:=by
 have:=(congrArg State.Locals e:(at_ a 0).Locals=(at_ b 0).Locals);have h:a.Locals=b.Locals:=this;rw[h]
theorem z5H{a b:State}{n:Nat}(e:at_ a 0=at_ b 0):at_ {a with Locals:=a.Locals.take n} 0=at_ {b with Locals:=b.Locals.take n} 0:=by
 have:({(at_ a 0)with Locals:=(at_ a 0).Locals.take n}:State)={(at_ b 0)with Locals:=(at_ b 0).Locals.take n}:=by rw[e]
 exact this
theorem w2B{m:zA}(hm:ModOk m)(hms:zH m≤100000000)(hmw:zA.Wf m){N c:Int}{ρ:zA}{Γ:List zA}{t:zA}{s a:State}{o:Out}(hT:TS m ρ Γ t Γ)(hw:zA.Wf t)(hts:zH t≤100000000)(hs:StOk m N Γ (at_ s c))(k0:s.Kind=0)(h:wT m (.S t) s o a c):StOk m N Γ (at_ a 0)∧a.Locals.length=Γ.length:=by
 obtain⟨h1,-⟩:=v1W hm hms hmw hT hw hts hs k0 h;have h1:StOk m N Γ (at_ a 0):=h1.elim (fun h=>h.2) (fun h=>h.2);exact⟨h1,h1.ll⟩
theorem w1w{m:zA}(hm:ModOk m)(hms:zH m≤100000000)(hmw:zA.Wf m){N f c:Int}{Γ:List zA}{t τ:zA}{s a:State}{o:Out}(hT:TE m Γ t τ)(hw:zA.Wf t)(hts:zH t≤100000000)(hs:StOk m N Γ (at_ s f))(hc:c≤f)(k0:s.Kind=0)(h:wT m (.E t) s o a c):StOk m N Γ (at_ a (f-c))∧w1o m τ o a:=by
 obtain⟨o',s',hG,-,h1,-,-,h2⟩:=(y6L m hm hms hmw f.toNat).1 N Γ t τ _ hT hw hts hs (.inl k0) (by have:=h.1;simp only;omega);have g:=h.2.2 f hc;obtain⟨e1,e⟩:=hG.det g;subst e;subst e1;exact⟨h1,h2⟩
theorem w3t{m:zA}(hm:ModOk m)(hms:zH m≤100000000)(hmw:zA.Wf m){N f c:Int}{ρ:zA}{Γ Γ':List zA}{t:zA}{s a:State}{o:Out}(hT:TS m ρ Γ t Γ')(hw:zA.Wf t)(hts:zH t≤100000000)(hs:StOk m N Γ (at_ s f))(hc:c≤f)(k0:s.Kind=0)(h:wT m (.S t) s o a c):
  ((a.Kind=0∧StOk m N Γ' (at_ a (f-c)))∨(a.Kind≠0∧StOk m N Γ (at_ a (f-c))))∧w0d m ρ a∧(a.Kind=0→0<c):=by
 obtain⟨o',s',hG,-,-,h1,h2⟩:=(y6L m hm hms hmw f.toNat).2 N ρ Γ Γ' t _ hT hw hts hs k0 (by have:=h.1;simp only;omega);have g:=h.2.2 f hc;obtain⟨-,e⟩:=hG.det g;subst e;refine⟨h1.elim (fun h=>.inl ⟨h.1,h.2.2⟩) .inr,h2,fun _=>?_⟩;obtain⟨hc',-⟩:=v3N h k0;exact hc'
theorem v6Y {m:zA} (hm:ModOk m) (hms:zH m≤100000000) (hmw:zA.Wf m) {N c:Int} {ρ:zA} {Γ:List zA} {l r e x g z τ:zA} {s a:State} {o:Out} (k:l.K=24) (hL:l.L=[e,x]) (kr:r.K=23) (hR:r.L=[e,g,z]) (kg:g.K=29) (hg:g.L=[x,l]) (kz:z.K=29) (hz:z.L=[])
  (hTe:TE m Γ e τ) (hTl:TS m ρ Γ l Γ) (hw:zA.Wf l) (hts:zH l≤400) (hs:StOk m N Γ s) (hc:c≤s.Fuel) (k0:s.Kind=0) (h:wT m (.S l) s o a c):∃c',wT m (.S r) s o0 a c'∧c'≤c+3:=by
 have h2s:=z3S hL;have we:zA.Wf e:=hw.L_.2 e (by rw[hL];simp);have hal:=(w2B hm hms hmw hTl hw (by omega) (StOk.less (C:=s.Fuel) hs h.1 hc) k0 h).2;obtain⟨o1,s1,c1,h1,h2⟩:=y7x k hL h k0;have p1:=h1.1;rcases h2 with⟨k1,e2,rfl⟩|⟨k1,o2,c2,h3,rfl⟩
 ·have:=z1h (m:=m) (t:=r) ⟨by omega,by omega,by omega⟩ hR k0 h1 k1;exact⟨1+c1,wK e2.symm this,by omega⟩
 ·have p3:=h3.1;have hs1:=(w1w hm hms hmw hTe we (by omega) (f:=s.Fuel) hs (by omega) k0 h1).1;have hl1:s1.Locals.length=Γ.length:=hs1.ll;rcases w1A hL h3 with⟨hstop,e2,rfl⟩|⟨-,hv,o4,s2,d1,o5,s3,d2,o6,d3,h4,h5,h6,rfl⟩
  ·have hv:o1.v.N=0:=hstop.resolve_left (fun h=>h k1);have:=z7U (m:=m) (t:=r) kr hR k0 h1 k1 (o2:=o0) (a:=s1) (c2:=1) (by rw[zq1 hv];exact z7I kz hz k1);exact⟨1+c1+1,wK e2.symm this,by omega⟩
  ·have q4:=h4.1;have q5:=h5.1;have q6:=h6.1;have tail:∃oL cL,wT m (.S l) s2 oL a cL∧cL≤1+d2+d3:=by
    by_cases k2:s2.Kind=0
    ·by_cases k3:s3.Kind=0
     ·exact⟨o0,_,z2T k hL k2 h5 k3 h6,by omega⟩
     ·have hf:=z1h (m:=m) (t:=l) ⟨by omega,by omega,by omega⟩ hL k2 h5 k3;obtain⟨-,e3,e4⟩:=jZ h6 (y1X (m:=m) (t:=l) (v:=o5.v) h5.2.1 (.inl k3));exact⟨o0,_,wK e3 hf,by omega⟩
    ·obtain⟨e3,e4,-⟩:=y3U h5 k2;have k3:s3.Kind≠0:=by rw[z0Q e3];exact k2
     obtain⟨-,e5,e6⟩:=jZ h6 (y1X (m:=m) (t:=l) (v:=o5.v) h5.2.1 (.inl k3));exact⟨o0,0,wK (e3.symm.trans e5) (z4V k2 h4.2.1),by omega⟩
   obtain⟨oL,cL,hL',hcL⟩:=tail;have hB:=uV h4 (uV hL' (z4Z (m:=m) hL'.2.1));rw[←hg]at hB;have hbl:=z2L (m:=m) kg k1 hB (by omega);rw[y5a (by omega)]at hbl;have:=z7U (m:=m) (t:=r) kr hR k0 h1 k1 (o2:=o0) (by rw[zq0 hv];exact hbl);exact⟨_,this,by omega⟩
theorem v7R {m:zA} (hm:ModOk m) (hms:zH m≤100000000) (hmw:zA.Wf m) {N c:Int} {ρ:zA} {Γ:List zA} {l r e x g z τ:zA} {s a:State} {o:Out} (k:l.K=24) (hL:l.L=[e,x]) (kr:r.K=23) (hR:r.L=[e,g,z]) (kg:g.K=29) (hg:g.L=[x,l]) (kz:z.K=29) (hz:z.L=[])
  (hTe:TE m Γ e τ) (hTx:TS m ρ Γ x Γ) (hTl:TS m ρ Γ l Γ) (hw:zA.Wf l) (hts:zH l≤400) (hs:StOk m N Γ s) (hc:c≤s.Fuel) (k0:s.Kind=0) (h:wT m (.S r) s o a c):∃c',wT m (.S l) s o0 a c'∧c'≤c:=by
 have h2s:=z3S hL;have we:zA.Wf e:=hw.L_.2 e (by rw[hL];simp);have wx:zA.Wf x:=hw.L_.2 x (by rw[hL];simp);obtain⟨o1,s1,c1,h1,h2⟩:=y8D kr hR h k0;have p1:=h1.1;rcases h2 with⟨k1,e2,rfl⟩|⟨k1,o2,c2,h3,rfl⟩
 ·have:=z1h (m:=m) (t:=l) ⟨by omega,by omega,by omega⟩ hL k0 h1 k1;exact⟨1+c1,wK e2.symm this,by omega⟩
 ·have p3:=h3.1;have hs1:=(w1w hm hms hmw hTe we (by omega) (f:=s.Fuel) hs (by omega) k0 h1).1;have hl1:s1.Locals.length=Γ.length:=hs1.ll;by_cases hv:o1.v.N=0
  ·rw[zq1 hv]at h3;obtain⟨-,e2,e3⟩:=jZ h3 (z7I kz hz k1);have:=z2T (m:=m) k hL k0 h1 k1 (y1X (m:=m) (t:=l) (v:=o1.v) h1.2.1 (.inr hv));exact⟨_,wK e2 this,by omega⟩
  ·rw[zq0 hv]at h3;obtain⟨o3,s4,h4,hle,e4⟩:=y6e kg h3 k1;rw[hg]at h4;obtain⟨ox,s2,d1,oB,d2,h5,h6,ed⟩:=z7Q h4;obtain⟨ol,s5,d3,oN',d4,h7,h8,ed2⟩:=z7Q h6;obtain⟨e5,e6⟩:=v9d h8;have q5:=h5.1;have q7:=h7.1;have hs2:=(w3t hm hms hmw hTx wx (by omega) (f:=s.Fuel-c1) hs1 (by omega) k1 h5).1;have hs2':StOk m N Γ (at_ s2 (s.Fuel-c1-d1)):=hs2.elim (fun h=>h.2) (fun h=>h.2);have hl2:s2.Locals.length=Γ.length:=hs2'.ll;have hl5:s5.Locals.length=Γ.length:=by
    by_cases k2:s2.Kind=0
    ·exact(w2B hm hms hmw hTl hw (by omega) (StOk.less (C:=s.Fuel-c1-d1) hs2' q7 (by omega)) k2 h7).2
    ·rw[y6U (z4T h7 k2).1];exact hl2
   have ea:at_ a 0=at_ s5 0:=by
    rw[e4,z5H e5,y5a (by omega)]
   by_cases k2:s2.Kind=0
   ·obtain⟨oe,s3,f1,h9,h10⟩:=y7x k hL h7 k2;have q9:=h9.1;rcases h10 with⟨k3,e7,e8⟩|⟨k3,ow,f2,h11,e8⟩
    ·have hW:=y5S (m:=m) hL k1 hv h5 h9 (y1X (m:=m) (t:=l) (v:=oe.v) h9.2.1 (.inl k3));have:=z2T (m:=m) k hL k0 h1 k1 hW;exact⟨_,wK (ea.trans e7).symm this,by omega⟩
    ·have hW:=y5S (m:=m) hL k1 hv h5 h9 h11;have:=z2T (m:=m) k hL k0 h1 k1 hW;exact⟨_,wK ea.symm this,by omega⟩
   ·obtain⟨e7,e8,-⟩:=z4T h7 k2;have hW:=y5S (m:=m) hL k1 hv h5 (y3V (m:=m) (t:=e) k2 h5.2.1) (y1X (m:=m) (t:=l) (v:=o0.v) h5.2.1 (.inl k2));have:=z2T (m:=m) k hL k0 h1 k1 hW;exact⟨_,wK (ea.trans e7).symm this,by omega⟩
end Go.Proofs.YtcpblelppecabaaGreat.M

