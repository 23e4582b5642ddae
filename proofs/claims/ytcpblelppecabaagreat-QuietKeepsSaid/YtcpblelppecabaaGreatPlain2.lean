import Derived.Test.YtcpblelppecabaaGreatPlain1
namespace Go.Proofs.YtcpblelppecabaaGreat.M
open Go Nt
set_option linter.unusedVariables false
set_option linter.unusedSimpArgs false
set_option linter.unusedSectionVars false
theorem ModOk.fn{m d:zA}(h:ModOk m){k:Nat}(hd':m.L[k]?=some d)(hk:d.K=33):∃ps r b,v6w m d ps r b:=by
 cases h.2.2.2.2 k d hd' with
 |fn ps r b h=>exact⟨ps,r,b,h⟩
 |rcd h _ _=>exact absurd (h.1.symm.trans hk) (by decide)
 |var _ h _ _ _=>omega
 |con _ h _ _ _ _=>omega
theorem ModOk.rcd{m d:zA}(h:ModOk m){k:Nat}(hd':m.L[k]?=some d)(hk:d.K=30):Good m ⟨4,k,[],[],0,0⟩:=by
 cases h.2.2.2.2 k d hd' with
 |fn _ _ _ h=>have:=h.K;omega
 |rcd _ h _=>exact h
 |var _ h _ _ _=>omega
 |con _ h _ _ _ _=>omega
theorem ModOk.con{m d x:zA}(h:ModOk m){k:Nat}(hd':m.L[k]?=some d)(hk:d.K=31)(hx:d.L=[x])(h6:x.K=6):x.N=0∨x.N=1:=by
 cases h.2.2.2.2 k d hd' with
 |fn _ _ _ h=>have:=h.K;omega
 |rcd h _ _=>exact absurd (h.1.symm.trans hk) (by decide)
 |var _ h _ _ _=>omega
 |con y _ hy _ h _=>rw[hx]at hy;injection hy with hy;subst hy;omega
theorem ModOk.vartype{m d:zA}(h:ModOk m){k:Nat}(hd':m.L[k]?=some d)(hk:d.K=32):∃x,d.L=[x]∧Good m x:=by
 cases h.2.2.2.2 k d hd' with
 |fn _ _ _ h=>have:=h.K;omega
 |rcd h _ _=>exact absurd (h.1.symm.trans hk) (by decide)
 |var x _ h1 h2 _=>exact⟨x,h1,h2⟩
 |con _ h _ _ _ _=>omega
theorem HasR.nat{m d:zA}{n kind:Int}(h:HasR m n kind d):∃k:Nat,n=k∧m.L[k]?=some d∧d.K=kind:=⟨n.toNat,by have:=h.1;omega,h.2.1,h.2.2.1⟩
theorem y2x{l:List Value}{k:Nat}(h:k<l.length):z8J l k=some (l[l.length-1-k]'(by omega)):=by
 unfold z8J;rw[zq0 (by omega)];show l.reverse[k]?=_;rw[List.getElem?_reverse h];exact List.getElem?_eq_getElem (by omega)
theorem y9h{l:List Value}{k:Nat}(h:k<l.length)(hl:l.length≤1000000000):idx l (IntKind.wrap .i64 (IntKind.wrap .i64 ((l.length:Int)-1)-k))=some (l[l.length-1-k]'(by omega)):=by
 have e:IntKind.wrap .i64 (IntKind.wrap .i64 ((l.length:Int)-1)-k)=((l.length-1-k:Nat):Int):=by
  rw[z3c (n:=(l.length:Int)-1) (by omega) (by omega),z3c (by omega) (by omega)];omega
 rw[e];exact wF (by omega)
theorem y0l{l:List Value}{k:Nat}:y7j l k=l[k]?:=by unfold y7j;rw[zq0 (by omega)];rfl
theorem StOk.locals_le{m:zA}{N:Int}{Γ:List zA}{s:State}(h:StOk m N Γ s):s.Locals.length≤1000000000:=by have:=h.room;have:=h.fuel0;omega
theorem y9a{m τ x:zA}{v y:Value}{i:Nat}(h:Fit m τ v)(hx:(vT m τ)[i]?=some x)(hy:v.L[i]?=some y):Fit m x y:=h.inv.2.2.2 i x y hx hy
theorem y0q{m τ x:zA}(hk:τ.K=3)(hL:τ.L=[x]):vT m τ=List.replicate τ.N.toNat x:=by
 unfold vT;rw[zq1 hk];unfold hd;rw[hL];rfl
theorem y0s{m τ d:zA}{k:Nat}(hk:τ.K=4)(hN:τ.N=k)(hd':m.L[k]?=some d):vT m τ=d.L.map hd:=by
 unfold vT;rw[zq0 (by omega),zq1 hk,hN];show(match m.L[k]? with|some d=>d.L.map hd|none=>[])=_;rw[hd']
theorem v4b{m τ:zA}{v:Value}(h:Fit m τ v)(hk:τ.K=2):v.N=0∨v.N=1:=h.inv.2.1.1 hk
theorem v5D{m τ:zA}(hk:τ.K=1)(hL:τ.L=[])(n:Int):Fit m τ ⟨n,[]⟩:=
 .mk _ _ ⟨1,by rw[wJ];unfold wG;rw[zq1 hk,hL];rfl,by decide⟩ ⟨fun h=>by omega,fun h=>absurd hk h⟩ (by unfold vT;rw[zq0 (by omega),zq0 (by omega)];rfl) fun i x y hx=>by unfold vT at hx;rw[zq0 (by omega),zq0 (by omega)]at hx;simp at hx
theorem y8Z{m τ:zA}(hk:τ.K=2)(hL:τ.L=[])(n:Int)(hn:n=0∨n=1):Fit m τ ⟨n,[]⟩:=
 .mk _ _ ⟨1,by rw[wJ];unfold wG;rw[zq0 (by omega),zq1 hk,hL];rfl,by decide⟩ ⟨fun _=>hn,fun _ h=>absurd hk h⟩ (by unfold vT;rw[zq0 (by omega),zq0 (by omega)];rfl) fun i x y hx=>by unfold vT at hx;rw[zq0 (by omega),zq0 (by omega)]at hx;simp at hx
theorem v5E{m τ:zA}{v:Value}(h:Fit m τ v)(hk:τ.K=1∨τ.K=2):v.L=[]:=by
 have:=h.inv.2.2.1;unfold vT at this;rw[zq0 (by omega),zq0 (by omega)]at this;exact List.length_eq_zero_iff.1 this.symm
theorem v4a{m τ σ:zA}{v:Value}(h:Fit m τ v)(hk:τ.K=2)(hk':σ.K=2)(hL:σ.L=[]):Fit m σ v:=by
 have e:v=⟨v.N,[]⟩:=y4H rfl (v5E h (.inr hk));rw[e];exact y8Z hk' hL _ (v4b h hk)
theorem v3Z (m:zA) (hm:ModOk m) (hms:zJ m≤100000000) (hmw:zA.Wf m) (f:Nat) (CE:y5u m f) (CL:v6k m f) (CC:v6j m f) (N:Int) (Γ:List zA) (t τ:zA) (s s1:State) (hpay:z0R s=some s1) (hk1:s1.Kind=0)
  (hT:TE m Γ t τ) (hw:zA.Wf t) (hts:zJ t≤100000000) (hst:StOk m N Γ s1) (hf:s1.Fuel≤f):
  ∃o s',Run m (z1G m t s1) o s'∧zK m s t=some ⟨o.v,s'⟩∧StOk m N Γ s'∧s'.Fuel≤s1.Fuel∧v6l m τ o s':=by
 have hwN:=hw.N_;have hml:=vR m;cases hT with
 |alone _ _ hS hF hTo hL h16 hA=>
  have ret:∀(v:Value) (s':State),s'.Kind=0→Fit m τ v→VW v→v6l m τ (oV v) s':=fun v s' h1 h2 h3=>.inl ⟨h1,h2,h3⟩;cases hA with
  |num k=>
   refine⟨oN t.N,s1,by unfold z1G;rw[zq1 (.inl k)];exact .ret _ _,?_,hst,Int.le_refl _,ret _ _ hk1 (y3W m t.N) (z8Y hwN)⟩;rw[uM];unfold wT;rw[hpay,zB,zq1 hk1,zq1 k];rfl
  |tru k hN=>
   refine⟨oN t.N,s1,by unfold z1G;rw[zq1 (.inr k)];exact .ret _ _,?_,hst,Int.le_refl _,ret _ _ hk1 (z6p m t.N hN) (z8Y hwN)⟩;rw[uM];unfold wT;rw[hpay,zB,zq1 hk1,zq0 (by omega),zq1 k];rfl
  |loc n x k hN hn hx=>
   have hll:=hst.ll;have hlt:n<s1.Locals.length:=by omega
   have hlt':s1.Locals.length-1-n<s1.Locals.length:=by omega
   refine⟨oV s1.Locals[s1.Locals.length-1-n],s1,?_,?_,hst,Int.le_refl _,ret _ _ hk1 (y2v (hst.lf (s1.Locals.length-1-n) x _ (by rw[hll];exact hx) (List.getElem?_eq_getElem hlt'))) (hst.lw _ (List.getElem_mem hlt'))⟩
   ·unfold z1G;rw[zq0 (by omega),zq1 k,hN,y2x hlt];exact .ret _ _
   ·rw[uM];unfold wT;rw[hpay,zB,zq1 hk1,zq0 (by omega),zq0 (by omega),zq1 k,hN,y9h hlt hst.locals_le];rfl
  |coni d x k hd' hx h5=>
   obtain⟨n,hN,hdn,-⟩:=hd'.nat;have hxw:zA.Wf x:=(hmw.L_.2 _ (List.mem_of_getElem? hdn)).L_.2 x (by rw[hx];exact List.mem_singleton_self x);refine⟨oN x.N,s1,?_,?_,hst,Int.le_refl _,ret _ _ hk1 (y3W m x.N) (z8Y hxw.N_)⟩
   ·unfold z1G;rw[zq0 (by omega),zq0 (by omega),zq0 (by omega),zq1 k,hN];show Run m (P.opt m.L[n]? _) _ _;rw[hdn];show Run m (P.opt d.L[0]? _) _ _;rw[hx];exact .ret _ _
   ·rw[uM];unfold wT;rw[hpay,zB,zq1 hk1,zq0 (by omega),zq0 (by omega),zq0 (by omega),zq0 (by omega),zq1 k,hN,z4O,hdn,zB,hx];rfl
  |conb d x k hd' hx h6=>
   obtain⟨n,hN,hdn,hdk⟩:=hd'.nat;have hxw:zA.Wf x:=(hmw.L_.2 _ (List.mem_of_getElem? hdn)).L_.2 x (by rw[hx];exact List.mem_singleton_self x);refine⟨oN x.N,s1,?_,?_,hst,Int.le_refl _,ret _ _ hk1 (z6p m x.N (hm.con hdn hdk hx h6)) (z8Y hxw.N_)⟩
   ·unfold z1G;rw[zq0 (by omega),zq0 (by omega),zq0 (by omega),zq1 k,hN];show Run m (P.opt m.L[n]? _) _ _;rw[hdn];show Run m (P.opt d.L[0]? _) _ _;rw[hx];exact .ret _ _
   ·rw[uM];unfold wT;rw[hpay,zB,zq1 hk1,zq0 (by omega),zq0 (by omega),zq0 (by omega),zq0 (by omega),zq1 k,hN,z4O,hdn,zB,hx];rfl
  |glob d x k hd' hx=>
   obtain⟨n,hN,hdn,hdk⟩:=hd'.nat;have hlt:n<s1.Globals.length:=by rw[hst.gl];exact(List.getElem?_eq_some_iff.1 hdn).1
   have hg:=List.getElem?_eq_getElem hlt;refine⟨oV s1.Globals[n],s1,?_,?_,hst,Int.le_refl _,ret _ _ hk1 (y2v (hst.gf n d x _ hdn hdk hx hg)) (hst.gw _ (List.getElem_mem hlt))⟩
   ·unfold z1G;rw[zq0 (by omega),zq0 (by omega),zq1 k,hN,y0l,hg];exact .ret _ _
   ·rw[uM];unfold wT;rw[hpay,zB,zq1 hk1,zq0 (by omega),zq0 (by omega),zq0 (by omega),zq1 k,hN,wF hlt];rfl
  |read k=>
   by_cases c:s1.At≥(s1.Input.length:Int)
   ·refine⟨o0,z8X 3 s1,?_,?_,hst.same rfl rfl rfl rfl rfl rfl hst.rt,Int.le_refl _,.inr ⟨.inl rfl,rfl⟩⟩
    ·unfold z1G;rw[zq0 (by omega),zq0 (by omega),zq0 (by omega),zq0 (by omega),zq1 k,zq1 c];exact .ret _ _
    ·rw[uM];unfold wT;rw[hpay,zB,zq1 hk1,zq0 (by omega),zq0 (by omega),zq0 (by omega),zq0 (by omega),zq0 (by omega),zq1 k,zq1 c];rfl
   ·have h0:=hst.at0;have hil:=hst.inl;obtain⟨n,hn⟩:∃n:Nat,s1.At=n:=⟨s1.At.toNat,by omega⟩;have hlt:n<s1.Input.length:=by omega
    have hg:=List.getElem?_eq_getElem hlt;have st':StOk m N Γ {s1 with At:=s1.At+1}:={hst with at0:=by simp only;omega,at1:=by simp only;omega};refine⟨oN s1.Input[n],{s1 with At:=s1.At+1},?_,?_,st',Int.le_refl _,ret _ _ hk1 (y3W m _) (z8Y (hst.inw _ (List.getElem_mem hlt)))⟩
    ·unfold z1G;rw[zq0 (by omega),zq0 (by omega),zq0 (by omega),zq0 (by omega),zq1 k,zq0 c,hn];show Run m (P.opt s1.Input[n]? _) _ _;rw[hg];exact .ret _ _
    ·rw[uM];unfold wT;rw[hpay,zB,zq1 hk1,zq0 (by omega),zq0 (by omega),zq0 (by omega),zq0 (by omega),zq0 (by omega),zq1 k,zq0 c,z3c (n:=s1.At+1) (by omega) (by omega),z3c (by omega) (by omega),show s1.At+1-1=(n:Int)by omega,wF hlt];rfl
 |rule _ _ p hS hF hTo hne hpl hP hR=>
  have hsub:∀x∈t.L,zA.Wf x∧zJ x≤100000000:=fun x hx=>⟨hw.L_.2 x hx,by have:=zR hx;omega⟩;by_cases k10:t.K=10
  ·cases hR with
   |un _ k _ _=>omega
   |index _ _ _ k _ _ _ _ _=>omega
   |field _ _ _ k _ _ _ _=>omega
   |make _ k _ _=>omega
   |call _ _ _ _ k _ _ _=>omega
   |list _ _ k _ _ _=>omega
   |bin ta tb _ k hp h2=>
    obtain⟨a,b,hL⟩:∃a b,t.L=[a,b]:=v6q (by rw[←hpl,hp];rfl);have hTa:TE m Γ a ta:=hP 0 a ta (by rw[hL];rfl) (by rw[hp];rfl);have hTb:TE m Γ b tb:=hP 1 b tb (by rw[hL];rfl) (by rw[hp];rfl);obtain⟨wa,sa⟩:=hsub a (by rw[hL];simp);obtain⟨wb,sb⟩:=hsub b (by rw[hL];simp);obtain⟨oa,s2,hG,hM,hs2,hf2,-,hE⟩:=CE N Γ a ta s1 hTa wa sa hst (.inl hk1) hf;have mod:∀r,(if s2.Kind=0 then
       if t.N=2 then
        if oa.v.N=0 then z0Q 0 s2>>=fun q3=>some q3
        else some b>>=fun x2=>zK m s2 x2>>=fun q9=>if q9.S.Kind=0 then some q9 else some q9
       else
       if t.N=1 then
        if oa.v.N=0 then some b>>=fun x3=>zK m s2 x3>>=fun q14=>if q14.S.Kind=0 then some q14 else some q14
        else z0Q 1 s2>>=fun q13=>some q13
       else
       some b>>=fun x4=>zK m s2 x4>>=fun q18=>if q18.S.Kind=0 then z2Z t.N oa.v.N q18.V.N>>=fun q19=>if q19.2=0 then z0Q q19.1 q18.S>>=fun q21=>some q21 else z0g q19.2 q18.S>>=fun q20=>some q20 else some q18
      else z1D s2>>=fun q2=>some q2)=r→zK m s t=r:=fun r hr=>by
     rw[uM];unfold wT;rw[hpay,zB,zq1 hk1,zq0 (by omega),zq0 (by omega),zq0 (by omega),zq0 (by omega),zq0 (by omega),zq0 (by omega),zq1 k10];rw[v1o];unfold z4x;rw[hL,show idx [a,b] 0=some a from rfl,show idx [a,b] 1=some b from rfl,zB,hM,zB];simp only at hr ⊢;rw[hr];cases r<;>rfl
    have run:∀o s',Run m (.on s2 o0
      (if t.N=2∧oa.v.N=0 then .ret (oN 0) s2 else if t.N=1∧oa.v.N≠0 then .ret (oN 1) s2 else
       .call (.E b) s2 fun p s=>.on s (oV p.v) (if t.N=1∨t.N=2 then .ret (oV p.v) s else .opt (z2Z t.N oa.v.N p.v.N) fun q=>if q.2=0 then .ret (oN q.1) s else .ret o0 (z8X q.2 s)))) o s'→Run m (z1G m t s1) o s':=fun o s' hr=>by
     unfold z1G;rw[zq0 (by omega),zq0 (by omega),zq0 (by omega),zq0 (by omega),zq0 (by omega),zq1 k10,hL];exact .call _ _ _ oa s2 _ _ hG hr
    rcases hE with⟨hk2,hFa,hWa⟩|⟨hk2,rfl⟩
    ·have more:(¬(t.N=2∧oa.v.N=0))→(¬(t.N=1∧oa.v.N≠0))→∃ob s3,G m (.E b) s2 ob s3∧zK m s2 b=some ⟨ob.v,s3⟩∧StOk m N Γ s3∧s3.Fuel≤s2.Fuel∧v6l m tb ob s3 ∧
       (∀o s',Run m (.on s3 (oV ob.v) (if t.N=1∨t.N=2 then .ret (oV ob.v) s3 else .opt (z2Z t.N oa.v.N ob.v.N) fun q=>if q.2=0 then .ret (oN q.1) s3 else .ret o0 (z8X q.2 s3))) o s'→Run m (z1G m t s1) o s'):=fun c1 c2=>by
      obtain⟨ob,s3,hG',hM',hs3,hf3,-,hE'⟩:=CE N Γ b tb s2 hTb wb sb hs2 (.inl hk2) (by omega);refine⟨ob,s3,hG',hM',hs3,hf3,hE',fun o s' hr=>run o s' ?_⟩;rw[run_on];refine .inl ⟨hk2,?_⟩;rw[zq0 c1,zq0 c2];exact .call _ _ _ ob s3 _ _ hG' hr
     by_cases n12:t.N=1∨t.N=2
     ·have hlog:τ=y2e∧(ta.K=2∧ta.L=[])∧(tb.K=2∧tb.L=[]):=by
       cases h2 with
       |logic _ x y=>exact⟨rfl,x,y⟩
       |eqi h _ _=>omega
       |eqb h _ _=>omega
       |less h _ _ _=>omega
       |num h _ _=>omega
      obtain⟨rfl,⟨ka,la⟩,⟨kb,lb⟩⟩:=hlog;by_cases c1:t.N=2∧oa.v.N=0
      ·refine⟨oN 0,s2,run _ _ ?_,mod _ ?_,hs2,by omega,.inl ⟨hk2,z6p m 0 (.inl rfl),v6g⟩⟩
       ·rw[run_on];refine .inl ⟨hk2,?_⟩;rw[zq1 c1];exact .ret _ _
       ·rw[zq1 hk2,zq1 c1.1,zq1 c1.2];rfl
      by_cases c2:t.N=1∧oa.v.N≠0
      ·refine⟨oN 1,s2,run _ _ ?_,mod _ ?_,hs2,by omega,.inl ⟨hk2,z6p m 1 (.inr rfl),z8Y (by rw[i64_iff];omega)⟩⟩
       ·rw[run_on];refine .inl ⟨hk2,?_⟩;rw[zq0 c1,zq1 c2];exact .ret _ _
       ·rw[zq1 hk2,zq0 (by omega),zq1 c2.1,zq0 c2.2];rfl
      obtain⟨ob,s3,hG',hM',hs3,hf3,hE',hrun⟩:=more c1 c2;refine⟨oV ob.v,s3,hrun _ _ ?_,mod _ ?_,hs3,by omega,?_⟩
      ·rw[run_on];by_cases hk3:s3.Kind=0
       ·refine .inl ⟨hk3,?_⟩;rw[zq1 n12];exact .ret _ _
       ·exact .inr ⟨hk3,rfl,rfl⟩
      ·rw[zq1 hk2];by_cases n2:t.N=2
       ·rw[zq1 n2,zq0 (fun e=>c1 ⟨n2,e⟩),zB,hM',zB,ite_self]
       ·rw[zq0 n2,zq1 (by omega),zq1 (Classical.byContradiction fun e=>c2 ⟨by omega,e⟩),zB,hM',zB,ite_self]
      ·rcases hE' with⟨h1,h2,h3⟩|⟨h1,rfl⟩
       ·exact .inl ⟨h1,v4a h2 kb rfl rfl,h3⟩
       ·exact .inr ⟨h1,rfl⟩
     ·obtain⟨ob,s3,hG',hM',hs3,hf3,hE',hrun⟩:=more (by omega) (by omega);have mod':∀r,(if s3.Kind=0 then z2Z t.N oa.v.N ob.v.N>>=fun q19=>if q19.2=0 then z0Q q19.1 s3>>=fun q21=>some q21 else z0g q19.2 s3>>=fun q20=>some q20 else some ⟨ob.v,s3⟩)=r→zK m s t=r:=fun r hr=>mod r (by
       rw[zq1 hk2,zq0 (by omega),zq0 (by omega),zB,hM',zB];exact hr)
      rcases hE' with⟨hk3,hFb,hWb⟩|⟨hk3,rfl⟩
      ·have e2:=y9F t.N oa.v.N ob.v.N (y6W hWa.N_) (y6W hWb.N_);have hi:=v6f t.N oa.v.N ob.v.N hWa.N_ hWb.N_;by_cases cz:(v2c t.N oa.v.N ob.v.N).2=0
       ·refine⟨oN (v2c t.N oa.v.N ob.v.N).1,s3,hrun _ _ ?_,mod' _ ?_,hs3,by omega,.inl ⟨hk3,?_,z8Y hi⟩⟩
        ·rw[run_on];refine .inl ⟨hk3,?_⟩;rw[zq0 n12,e2];show Run m (if _ then _ else _) _ _;rw[zq1 cz];exact .ret _ _
        ·rw[zq1 hk3,e2,zB,zq1 cz];rfl
        ·cases h2 with
         |logic h _ _=>exact absurd h n12
         |eqi h _ _=>exact z6p m _ (y4G _ _ _ (by omega)).2
         |eqb h _ _=>exact z6p m _ (y4G _ _ _ (by omega)).2
         |less h h' _ _=>exact z6p m _ (y4G _ _ _ (by omega)).2
         |num h _ _=>exact y3W m _
       ·refine⟨o0,z8X (v2c t.N oa.v.N ob.v.N).2 s3,hrun _ _ ?_,mod' _ ?_,hs3.same rfl rfl rfl rfl rfl rfl hs3.rt,by show s3.Fuel≤_;omega,.inr ⟨.inl rfl,rfl⟩⟩
        ·rw[run_on];refine .inl ⟨hk3,?_⟩;rw[zq0 n12,e2];show Run m (if _ then _ else _) _ _;rw[zq0 cz];exact .ret _ _
        ·rw[zq1 hk3,e2,zB,zq0 cz];rfl
      ·refine⟨o0,s3,hrun _ _ ?_,mod' _ ?_,hs3,by omega,.inr ⟨hk3,rfl⟩⟩
       ·rw[run_on];exact .inr ⟨by omega,rfl,rfl⟩
       ·rw[zq0 (by omega)]
    ·refine⟨o0,s2,run _ _ ?_,mod _ ?_,hs2,by omega,.inr ⟨hk2,rfl⟩⟩
     ·rw[run_on];exact .inr ⟨by omega,rfl,rfl⟩
     ·rw[zq0 (by omega)];rfl
  ·obtain⟨ol,s2,hG,hM0,hs2,hf2,hkk,hll,hF⟩:=CL N Γ t.L p s1 hP hpl hsub hst (.inl hk1) hf;have htl:=vR t;have hM:jW m s1 t.L=some (ol.l,s2):=by
    rw[y9E];unfold z3D;have:=hM0 t.L [] 0 ⟨[],[],[],0,[],0,0,0,⟨0,[]⟩⟩ rfl (by omega) rfl (by omega);simpa using this
   have kinds:(t.K=11∨t.K=12∨t.K=13∨t.K=14∨t.K=15∨t.K=16):=by
    cases hR<;>omega
   have run:∀o s',Run m (.on s2 o0
     (if t.K=11 then .opt ol.l[0]? fun v=>.opt (z1A t.N v.N) fun n=>.ret (oN n) s2
      else if t.K=12 then .opt ol.l[0]? fun v=>.opt ol.l[1]? fun i=>if i.N<0∨i.N≥(v.L.length:Int)then .ret o0 (z8X 2 s2)else .opt v.L[i.N.toNat]? fun x=>.ret (oV x) s2
      else if t.K=13 then .opt ol.l[0]? fun v=>.opt v.L[(Int.tmod t.N 64).toNat]? fun x=>.ret (oV x) s2
      else if t.K=16 then .call (.C t.N ol.l) s2 fun o s=>.ret (oV o.v) s
      else .ret (oV ⟨0,ol.l⟩) s2)) o s'→Run m (z1G m t s1) o s':=fun o s' hr=>by
    unfold z1G;rw[zq0 (by omega),zq0 (by omega),zq0 (by omega),zq0 (by omega),zq0 (by omega),zq0 k10];exact .call _ _ _ ol s2 _ _ hG hr
   have mod:∀r,(if s2.Kind=0 then
      if t.K=11 then idx ol.l 0>>=fun x15=>z1A t.N x15.N>>=fun q20=>z0Q q20 s2>>=fun q21=>some q21
      else if t.K=12 then idx ol.l 1>>=fun x16=>if x16.N<0 then z0g 2 s2>>=fun q22=>some q22 else
       idx ol.l 1>>=fun x17=>idx ol.l 0>>=fun x18=>if x17.N≥(List.length x18.L:Int)then z0g 2 s2>>=fun q23=>some q23 else
       idx ol.l 0>>=fun x19=>idx ol.l 1>>=fun x20=>idx x19.L x20.N>>=fun x21=>some (Ref21Got.mk x21 s2)
      else if t.K=13 then idx ol.l 0>>=fun x22=>if 64≠(0:Int)then idx x22.L (Int.tmod t.N 64)>>=fun x23=>some (Ref21Got.mk x23 s2)else none
      else if t.K=16 then wS m s2 t.N ol.l>>=fun q24=>some q24
      else some (Ref21Got.mk (Value.mk 0 ol.l) s2)
     else z1D s2>>=fun q19=>some q19)=r→zK m s t=r:=fun r hr=>by
    rw[uM];unfold wT;rw[hpay,zB,zq1 hk1,zq0 (by omega),zq0 (by omega),zq0 (by omega),zq0 (by omega),zq0 (by omega),zq0 (by omega),zq0 k10,hM,zB];exact hr
   by_cases hk2:s2.Kind=0
   ·have hF:=hF hk2;have run:∀o s',Run m (if t.K=11 then .opt ol.l[0]? fun v=>.opt (z1A t.N v.N) fun n=>.ret (oN n) s2
      else if t.K=12 then .opt ol.l[0]? fun v=>.opt ol.l[1]? fun i=>if i.N<0∨i.N≥(v.L.length:Int)then .ret o0 (z8X 2 s2)else .opt v.L[i.N.toNat]? fun x=>.ret (oV x) s2
      else if t.K=13 then .opt ol.l[0]? fun v=>.opt v.L[(Int.tmod t.N 64).toNat]? fun x=>.ret (oV x) s2
      else if t.K=16 then .call (.C t.N ol.l) s2 fun o s=>.ret (oV o.v) s
      else .ret (oV ⟨0,ol.l⟩) s2) o s'→Run m (z1G m t s1) o s':=fun o s' hr=>run o s' (run_on.2 (.inl ⟨hk2,hr⟩))
    have val:∀(i:Nat) y,p[i]?=some y→∃v,ol.l[i]?=some v∧idx ol.l i=some v∧Fit m y v∧VW v:=fun i y hy=>by
     have hlt:i<ol.l.length:=by have:=(List.getElem?_eq_some_iff.1 hy).1;omega
     have g:=List.getElem?_eq_getElem hlt;obtain⟨h1,h2⟩:=hF i y _ hy g;exact⟨_,g,by rw[z4O];exact g,h1,h2⟩
    have allw:∀v∈ol.l,VW v:=fun v hv=>by
     obtain⟨i,hi⟩:=List.getElem?_of_mem hv;have hlt:=(List.getElem?_eq_some_iff.1 hi).1;exact(hF i _ v (List.getElem?_eq_getElem (by omega)) hi).2
    cases hR with
    |bin _ _ _ k _ _=>exact absurd k k10
    |un a k hp hN=>
     obtain⟨v,g1,g2,hFv,hWv⟩:=val 0 τ (by rw[hp];rfl);have g2:idx ol.l 0=some v:=g2;refine⟨oN (v7l t.N v.N),s2,run _ _ ?_,mod _ ?_,hs2,hf2,.inl ⟨hk2,?_,?_⟩⟩
     ·rw[zq1 k,g1];show Run m (P.opt (z1A t.N v.N) _) _ _;rw[y1m];exact .ret _ _
     ·rw[zq1 hk2,zq1 k,g2,zB,y1m];rfl
     ·rcases hN with⟨n1,h1,h2⟩|⟨n2,h1,h2⟩
      ·exact v5D h1 h2 _
      ·refine y8Z h1 h2 _ ?_;unfold v7l;rw[zq0 (by omega),zq1 n2];exact y8c _
     ·refine z8Y ?_;unfold v7l;split
      ·exact z8v _
      split
      ·exact y6V _
      ·rw[i64_iff];omega
    |index a b x k hp ka la kb lb=>
     obtain⟨v,g1,g2,hFv,hWv⟩:=val 0 a (by rw[hp];rfl);obtain⟨w,g3,g4,hFw,hWw⟩:=val 1 b (by rw[hp];rfl);have g2:idx ol.l 0=some v:=g2;have g4:idx ol.l 1=some w:=g4;by_cases c:w.N<0∨w.N≥(v.L.length:Int)
     ·refine⟨o0,z8X 2 s2,run _ _ ?_,mod _ ?_,hs2.same rfl rfl rfl rfl rfl rfl hs2.rt,hf2,.inr ⟨.inl rfl,rfl⟩⟩
      ·rw[zq0 (by omega),zq1 k,g1];show Run m (P.opt ol.l[1]? _) _ _;rw[g3];show Run m (if _ then _ else _) _ _;rw[zq1 c];exact .ret _ _
      ·rw[zq1 hk2,zq0 (by omega),zq1 k,g4,zB];by_cases c1:w.N<0
       ·rw[zq1 c1];rfl
       ·rw[zq0 c1,zB,g2,zB,zq1 (by omega)];rfl
     ·obtain⟨y,ey,hy⟩:=y3Y (l:=v.L) (n:=w.N) (by omega) (by omega);refine⟨oV y,s2,run _ _ ?_,mod _ ?_,hs2,hf2,.inl ⟨hk2,?_,hWv.L_.2 y (List.mem_of_getElem? hy)⟩⟩
      ·rw[zq0 (by omega),zq1 k,g1];show Run m (P.opt ol.l[1]? _) _ _;rw[g3];show Run m (if _ then _ else _) _ _;rw[zq0 c,hy];exact .ret _ _
      ·rw[zq1 hk2,zq0 (by omega),zq1 k,g4,zB,zq0 (by omega),zB,g2,zB,zq0 (by omega),zB,zB,ey];rfl
      ·refine y9a (i:=w.N.toNat) hFv ?_ hy;have hpl':=hFv.inv.2.2.1;rw[y0q ka la]at hpl' ⊢;rw[List.length_replicate]at hpl';exact List.getElem?_replicate_of_lt (by omega)
    |field a x n k hp ka la hfr=>
     obtain⟨v,g1,g2,hFv,hWv⟩:=val 0 a (by rw[hp];rfl);have g2:idx ol.l 0=some v:=g2;obtain⟨d,fd,k',i,e1,e2,e3,e4,e5,e6,e7⟩:=hfr;have em:Int.tmod t.N 64=(i:Int):=by rw[Int.tmod_eq_emod_of_nonneg (by omega)];omega
     have hpp:=y0s ka e1 e2;have hpl':=hFv.inv.2.2.1;have hid:=(List.getElem?_eq_some_iff.1 e4).1;have hlt:i<v.L.length:=by rw[←hpl',hpp,zq3];exact hid
     have gy:=List.getElem?_eq_getElem hlt;have hdx:hd fd=x:=by unfold hd;rw[e5];rfl
     refine⟨oV v.L[i],s2,run _ _ ?_,mod _ ?_,hs2,hf2,.inl ⟨hk2,y2v (y9a (i:=i) hFv ?_ gy),hWv.L_.2 _ (List.getElem_mem hlt)⟩⟩
     ·rw[zq0 (by omega),zq0 (by omega),zq1 k,g1];show Run m (P.opt v.L[(Int.tmod t.N 64).toNat]? _) _ _;rw[em];show Run m (P.opt v.L[i]? _) _ _;rw[gy];exact .ret _ _
     ·rw[zq1 hk2,zq0 (by omega),zq0 (by omega),zq1 k,g2,zB,zq1 (by decide),em,wF hlt];rfl
     ·rw[hpp,List.getElem?_map,e4,Option.map_some,hdx]
    |make d k hd' hfit=>
     obtain⟨n,hN,hdn,hdk⟩:=hd'.nat;have hg:=hm.rcd hdn hdk;have hpp:=y0s (m:=m) (τ:=⟨4,t.N,[],[],0,0⟩) rfl hN hdn;refine⟨oV ⟨0,ol.l⟩,s2,run _ _ ?_,mod _ ?_,hs2,hf2,.inl ⟨hk2,.mk _ _ (by rw[hN];exact hg) ⟨fun _=>.inl rfl,fun _ _=>rfl⟩ ?_ ?_,.mk _ (by rw[i64_iff];simp) (by simp only;omega) allw⟩⟩
     ·rw[zq0 (by omega),zq0 (by omega),zq0 (by omega),zq0 (by omega)];exact .ret _ _
     ·rw[zq1 hk2,zq0 (by omega),zq0 (by omega),zq0 (by omega),zq0 (by omega)]
     ·rw[hpp,zq3];simp only;rw[←hfit.1];omega
     ·intro i x y hx hy;rw[hpp,List.getElem?_map]at hx;obtain⟨q,hq,rfl⟩:=Option.map_eq_some_iff.1 hx;have hlt:i<p.length:=by rw[hfit.1];exact(List.getElem?_eq_some_iff.1 hq).1
      have gp:=List.getElem?_eq_getElem hlt;obtain⟨z,hz,hb⟩:=hfit.2 i _ q gp hq;have:hd q=z:=by unfold hd;rw[hz];rfl
      rw[this];exact(hF i _ y gp hy).1.congr z hb
    |list a r k hp hall hg=>
     refine⟨oV ⟨0,ol.l⟩,s2,run _ _ ?_,mod _ ?_,hs2,hf2,.inl ⟨hk2,.mk _ _ hg ⟨fun _=>.inl rfl,fun _ _=>rfl⟩ ?_ ?_,.mk _ (by rw[i64_iff];simp) (by simp only;omega) allw⟩⟩
     ·rw[zq0 (by omega),zq0 (by omega),zq0 (by omega),zq0 (by omega)];exact .ret _ _
     ·rw[zq1 hk2,zq0 (by omega),zq0 (by omega),zq0 (by omega),zq0 (by omega)]
     ·rw[y0q (x:=a) rfl rfl,List.length_replicate];simp only;omega
     ·intro i x y hx hy;rw[y0q (x:=a) rfl rfl]at hx;have:=List.eq_of_mem_replicate (List.mem_of_getElem? hx);subst this;simp only at hy;have hlt:i<p.length:=by have:=(List.getElem?_eq_some_iff.1 hy).1;omega
      have gp:=List.getElem?_eq_getElem hlt;exact(hF i _ y gp hy).1.congr _ (hall _ (List.getElem_mem hlt))
    |call d ps r b k hd' hdL hfit=>
     obtain⟨n,hN,hdn,hdk⟩:=hd'.nat;obtain⟨ps',r',b',hfn⟩:=hm.fn hdn hdk;have:=hfn.L;rw[hdL]at this;injection this with e1 this;injection this with e2 this;injection this with e3;subst e1;subst e2;subst e3;obtain⟨oc,s3,hGc,hMc,hs3,hf3,hEc⟩:=CC N Γ n d ps r b ol.l s2 hdn hfn (by rw[hll,←hpl];exact hfit.1) (fun i x v hx hv=>by
      have hlt:i<p.length:=by rw[hfit.1];exact(List.getElem?_eq_some_iff.1 hx).1
      have gp:=List.getElem?_eq_getElem hlt;obtain⟨z,hz,hb⟩:=hfit.2 i _ x gp hx;have:hd x=z:=by unfold hd;rw[hz];rfl
      rw[this];exact(hF i _ v gp hv).1.congr z hb) allw hs2 hk2 (by omega)
     refine⟨oV oc.v,s3,run _ _ ?_,mod _ ?_,hs3,by omega,?_⟩
     ·rw[zq0 (by omega),zq0 (by omega),zq0 (by omega),zq1 k,hN];exact .call _ _ _ oc s3 _ _ hGc (.ret _ _)
     ·rw[zq1 hk2,zq0 (by omega),zq0 (by omega),zq0 (by omega),zq1 k,hN,hMc];rfl
     ·rcases hEc with⟨h1,h2,h3⟩|⟨h1,rfl⟩
      ·exact .inl ⟨h1,y2v h2,h3⟩
      ·exact .inr ⟨h1,rfl⟩
   ·refine⟨o0,s2,run _ _ (run_on.2 (.inr ⟨hk2,rfl,rfl⟩)),mod _ (by rw[zq0 hk2];rfl),hs2,hf2,.inr ⟨by omega,rfl⟩⟩
inductive PathT(m:zA):zA→List Int→zA→Prop
 |nil (τ:zA):PathT m τ [] τ
 |cons (τ:zA) (i:Nat) (y:zA) (w:List Int) (σ:zA):(vT m τ)[i]?=some y→PathT m y w σ→PathT m τ ((i:Int)::w) σ
theorem PathT.snoc{m τ σ x:zA}{w:List Int}(h:PathT m τ w σ){i:Nat}(hx:(vT m σ)[i]?=some x):PathT m τ (w++[(i:Int)]) x:=by
 induction h with
 |nil τ=>exact .cons _ i x [] x hx (.nil x)
 |cons τ j y w σ h1 _ ih=>exact .cons _ j y _ _ h1 (ih hx)
theorem v5G{m τ σ:zA}{w:List Int}(h:PathT m τ w σ):∀v,Fit m τ v→∃g,uE v w=some g∧Fit m σ g:=by
 induction h with
 |nil τ=>
  intro v hv;refine⟨v,?_,hv⟩;rw[y4v];unfold z3A;rw[zq1 (by simp)]
 |cons τ i y w σ h1 _ ih=>
  intro v hv;have hl:=hv.inv.2.2.1;have hlt:=(List.getElem?_eq_some_iff.1 h1).1;have g:=List.getElem?_eq_getElem (l:=v.L) (i:=i) (by omega);obtain⟨x,ex,hx⟩:=ih _ (hv.inv.2.2.2 i y _ h1 g);refine⟨x,?_,hx⟩;rw[y4v];unfold z3A;rw[zq0 (by simp;omega),show idx ((i:Int)::w) 0=some (i:Int)from rfl,zB,z4O,g,zB,zq1 (Nat.le_refl _),zq1 (by omega),zq1 (by simp)];have:List.drop (Int.toNat 1) (List.take (List.length ((i:Int)::w)) ((i:Int)::w))=w:=by simp
  rw[this,ex];rfl
theorem v1W{m τ σ:zA}{w:List Int}(h:PathT m τ w σ):∀v x,Fit m τ v→VW v→Fit m σ x→VW x→∃u,wO v w x=some u∧Fit m τ u∧VW u:=by
 induction h with
 |nil τ=>
  intro v x hv _ hx hw;refine⟨x,?_,hx,hw⟩;rw[y4w];unfold z3B;rw[zq1 (by simp)]
 |cons τ i y w σ h1 _ ih=>
  intro v x hv hvw hx hw;have hl:=hv.inv.2.2.1;have hlt:=(List.getElem?_eq_some_iff.1 h1).1;have hlt':i<v.L.length:=by omega
  have hlen:=hvw.L_.1;obtain⟨u,eu,hu,huw⟩:=ih v.L[i] x (hv.inv.2.2.2 i y _ h1 (List.getElem?_eq_getElem hlt')) (hvw.L_.2 _ (List.getElem_mem hlt')) hx hw;have loop:∀(k j:Nat) (out:List Value) o,j+k=v.L.length→out=(v.L.set i u).take j→vW ((i:Int)::w) out j v x o=some ⟨v.N,v.L.set i u⟩:=by
   intro k;induction k with
   |zero=>
    intro j out o hj ho;rw[z8V];unfold z0O;rw[zq0 (by omega),ho,List.take_of_length_le (by simp;omega)]
   |succ k ihk=>
    intro j out o hj ho;have hjl:j<v.L.length:=by omega
    have hol:out.length=j:=by rw[ho];simp;omega
    rw[z8V];unfold z0O;rw[zq1 (by omega),show idx ((i:Int)::w) 0=some (i:Int)from rfl,zB,wF hjl];by_cases c:j=i
    ·subst c;rw[zq1 rfl,zB,zq1 (Nat.le_refl _),zq1 (by omega),zq1 (by simp)];have:List.drop (Int.toNat 1) (List.take (List.length ((j:Int)::w)) ((j:Int)::w))=w:=by simp
     rw[this,eu,zB,zq1 (uO (by omega) (by simp;omega)),z1n (by omega)];refine ihk (j+1) _ o (by omega) ?_;rw[ho,List.take_succ_eq_append_getElem (by simpa using hjl)];simp
    ·rw[zq0 (by omega),zB,zq1 (uO (by omega) (by simp;omega)),z1n (by omega)];refine ihk (j+1) _ o (by omega) ?_;rw[ho,List.take_succ_eq_append_getElem (by simpa using hjl),List.getElem_set_ne (fun e=>c e.symm)]
  refine⟨⟨v.N,v.L.set i u⟩,?_,?_,?_⟩
  ·rw[y4w];unfold z3B;rw[zq0 (by simp;omega)];exact loop v.L.length 0 [] _ (by omega) (by simp)
  ·refine .mk _ _ hv.inv.1 hv.inv.2.1 (by simpa using hl) fun j a b ha hb=>?_;simp only at hb;rw[List.getElem?_set]at hb;by_cases c:i=j
   ·subst c;rw[zq1 rfl,zq1 hlt']at hb;cases hb;rw[h1]at ha;cases ha;exact hu
   ·rw[zq0 c]at hb;exact hv.inv.2.2.2 j a b ha hb
  ·refine .mk _ hvw.N_ (by simpa using hvw.L_.1) fun z hz=>?_;rcases List.mem_or_eq_of_mem_set hz with h|rfl
   ·exact hvw.L_.2 z h
   ·exact huw
theorem y1f{m t:zA}{s:State}(h:s.Kind≠0):G m (.E t) s o0 s∧zK m s t=some ⟨v0,s⟩:=by
 refine⟨.ended _ _ h,?_⟩;rw[uM];unfold wT z0R;rw[zq0 h,zB,zq0 h];rfl
theorem y5R{m t:zA}{s:State}(h:s.Kind≠0):G m (.S t) s o0 s∧zU m s t=some s:=by
 refine⟨.ended _ _ h,?_⟩;rw[z0G];unfold jD z0R;rw[zq0 h,zB,zq0 h]
theorem v7H(m:zA)(hm:ModOk m)(f:Nat)(CE:y5u m f)(N:Int)(Γ:List zA)(r:zA)(a:zA):∀τ,TE m Γ a τ→zA.Wf a→zJ a≤100000000→RootR a r→(r.K=7∨r.K=9) →
  ∃ρr,TE m Γ r ρr∧∀κ kept s,uY κ=uY ρr→Fit m κ kept→StOk m N Γ s→s.Kind=0→s.Fuel≤f→∃o s',G m (.Y a kept) s o s'∧uC m s a kept=some (o.w,s')∧StOk m N Γ s'∧s'.Fuel≤s.Fuel∧(s'.Kind=0∨s'.Kind=2∨s'.Kind=3) ∧
   o.w.length≤zJ a∧(∃σ,PathT m κ o.w σ∧(s'.Kind=0→uY σ=uY τ)):=by
 induction a using zA.ind with
 |h a ih=>
  intro τ hT hw hts hR hr;cases hR with
  |here _ hh=>
   refine⟨τ,hT,fun κ kept s hκ hk hs h0 hf=>⟨o0,s,?_,?_,hs,Int.le_refl _,.inl h0,Nat.zero_le _,κ,.nil κ,fun _=>hκ⟩⟩
   ·show Run m (if _ then _ else _) _ _;rw[zq0 (by omega),zq0 (by omega)];exact .ret _ _
   ·rw[z9G];unfold z2z;rw[zq0 (by omega),zq0 (by omega)]
  |down _ x _ l hk hL hR' =>
   have hx:x∈a.L:=by rw[hL];exact List.mem_cons_self ..
   have hxs:=zR hx;have hxw:=hw.L_.2 x hx;cases hT with
   |alone _ _ _ _ _ hL' _ _=>rw[hL]at hL';cases hL'
   |rule _ _ p _ _ _ _ hpl hP hRR=>
    rcases hk with hk|hk
    ·cases hRR with
     |bin _ _ _ k _ _=>omega
     |un _ k _ _=>omega
     |field _ _ _ k _ _ _ _=>omega
     |make _ k _ _=>omega
     |call _ _ _ _ k _ _ _=>omega
     |list _ _ k _ _ _=>omega
     |index ta tb _ k hp ka la kb lb=>
      obtain⟨a',b,hLL⟩:∃a' b,a.L=[a',b]:=v6q (by rw[←hpl,hp];rfl);rw[hLL]at hL;injection hL with e1 e2;subst e1;have hTa:TE m Γ a' ta:=hP 0 a' ta (by rw[hLL];rfl) (by rw[hp];rfl);have hTb:TE m Γ b tb:=hP 1 b tb (by rw[hLL];rfl) (by rw[hp];rfl);have hb:b∈a.L:=by rw[hLL];simp
      have hbs:=zR hb;have h2:=y0D hLL;obtain⟨ρr,hTr,hY⟩:=ih a' hx ta hTa hxw (by omega) hR' hr;refine⟨ρr,hTr,fun κ kept s hκ hkept hs h0 hf=>?_⟩;obtain⟨o1,s1,hG,hM,hs1,hf1,hk1,hwl,σ,hpath,hσ⟩:=hY κ kept s hκ hkept hs h0 hf;have run:∀o s',Run m (.on s1 ⟨v0,[],o1.w⟩ (.call (.E b) s1 fun o s=>.on s ⟨v0,[],o1.w⟩
        (if o.v.N<0 then .ret ⟨v0,[],o1.w⟩ (z8X 2 s)else .opt (uE kept o1.w) fun g=>if o.v.N≥(g.L.length:Int)then .ret ⟨v0,[],o1.w⟩ (z8X 2 s)else .ret ⟨v0,[],o1.w++[o.v.N]⟩ s))) o s'→G m (.Y a kept) s o s':=fun o s' h=>by
       show Run m (if _ then _ else _) _ _;rw[zq1 k,hLL];exact .call _ _ _ o1 s1 _ _ hG h
      have mod:∀r,(if s1.Kind=0 then zK m s1 b>>=fun q7=>if q7.S.Kind=0 then
         if q7.V.N<0 then z0g 2 q7.S>>=fun q8=>some (o1.w,q8.S)
         else uE kept o1.w>>=fun q9=>if q7.V.N≥(List.length q9.L:Int)then z0g 2 q7.S>>=fun q10=>some (o1.w,q10.S)
         else if wC 8 (List.length o1.w+List.length [q7.V.N])then some (o1.w++[q7.V.N],q7.S)else none
        else some (o1.w,q7.S)else some (o1.w,s1))=r→uC m s a kept=r:=fun r h=>by
       rw[z9G];unfold z2z;rw[zq1 k,hLL,show idx [a',b] 0=some a' from rfl,show idx [a',b] 1=some b from rfl,zB,hM,zB];exact h
      by_cases hk1':s1.Kind=0
      ·obtain⟨o2,s2,hG2,hM2,hs2,hf2,-,hE2⟩:=CE N Γ b tb s1 hTb (hw.L_.2 b hb) (by omega) hs1 (.inl hk1') (by omega);have run:∀o s',Run m (.on s2 ⟨v0,[],o1.w⟩
        (if o2.v.N<0 then .ret ⟨v0,[],o1.w⟩ (z8X 2 s2)else .opt (uE kept o1.w) fun g=>if o2.v.N≥(g.L.length:Int)then .ret ⟨v0,[],o1.w⟩ (z8X 2 s2)else .ret ⟨v0,[],o1.w++[o2.v.N]⟩ s2)) o s'→G m (.Y a kept) s o s':=fun o s' h=>run o s' (run_on.2 (.inl ⟨hk1',.call _ _ _ o2 s2 _ _ hG2 h⟩))
       rcases hE2 with⟨hk2,hF2,hW2⟩|⟨hk2,rfl⟩
       ·obtain⟨g,eg,hg⟩:=v5G hpath kept hkept;have run:∀o s',Run m (if o2.v.N<0 then .ret ⟨v0,[],o1.w⟩ (z8X 2 s2)else .opt (uE kept o1.w) fun g=>if o2.v.N≥(g.L.length:Int)then .ret ⟨v0,[],o1.w⟩ (z8X 2 s2)else .ret ⟨v0,[],o1.w++[o2.v.N]⟩ s2) o s'→G m (.Y a kept) s o s':=fun o s' h=>run o s' (run_on.2 (.inl ⟨hk2,h⟩));have tr:StOk m N Γ (z8X 2 s2):=hs2.same rfl rfl rfl rfl rfl rfl hs2.rt;by_cases c1:o2.v.N<0
        ·refine⟨⟨v0,[],o1.w⟩,z8X 2 s2,run _ _ (by rw[zq1 c1];exact .ret _ _),mod _ ?_,tr,by show s2.Fuel≤_;omega,.inr (.inl rfl),by show o1.w.length≤_;omega,σ,hpath,fun h=>absurd h (show ¬(2:Int)=0 by decide)⟩;rw[zq1 hk1',hM2,zB,zq1 hk2,zq1 c1];rfl
        ·by_cases c2:o2.v.N≥(g.L.length:Int)
         ·refine⟨⟨v0,[],o1.w⟩,z8X 2 s2,run _ _ ?_,mod _ ?_,tr,by show s2.Fuel≤_;omega,.inr (.inl rfl),by show o1.w.length≤_;omega,σ,hpath,fun h=>absurd h (show ¬(2:Int)=0 by decide)⟩
          ·rw[zq0 c1,eg];show Run m (if _ then _ else _) _ _;rw[zq1 c2];exact .ret _ _
          ·rw[zq1 hk1',hM2,zB,zq1 hk2,zq0 c1,eg,zB,zq1 c2];rfl
         ·obtain⟨n,hn⟩:∃n:Nat,o2.v.N=n:=⟨o2.v.N.toNat,by omega⟩;have hb':=z5w (hσ hk1');have hσk:σ.K=3:=hb'.1.trans ka;obtain⟨x',hx'⟩:∃x',σ.L=[x']:=by
           have:=congrArg List.length hb'.2.2.2;rw[la]at this;exact y9q (by simp at this;omega)
          have hxx:uY x'=uY τ:=by
           have:=hb'.2.2.2;rw[la,hx']at this;injection this
          have hgl:=hg.inv.2.2.1;have hpp:=y0q (m:=m) hσk hx';rw[hpp,List.length_replicate]at hgl;refine⟨⟨v0,[],o1.w++[o2.v.N]⟩,s2,run _ _ ?_,mod _ ?_,hs2,by omega,.inl hk2,by show(o1.w++[o2.v.N]).length≤_;have:=z1J b;simp;omega,x',?_,fun _=>hxx⟩
          ·rw[zq0 c1,eg];show Run m (if _ then _ else _) _ _;rw[zq0 c2];exact .ret _ _
          ·rw[zq1 hk1',hM2,zB,zq1 hk2,zq0 c1,eg,zB,zq0 c2,zq1 (uO (by omega) (by simp;omega))]
          ·show PathT m κ (o1.w++[o2.v.N]) x';rw[hn];exact hpath.snoc (by rw[hpp];exact List.getElem?_replicate_of_lt (by omega))
       ·refine⟨⟨v0,[],o1.w⟩,s2,run _ _ (run_on.2 (.inr ⟨by omega,rfl,rfl⟩)),mod _ ?_,hs2,by omega,.inr hk2,by show o1.w.length≤_;omega,σ,hpath,fun h=>by omega⟩;rw[zq1 hk1',hM2,zB,zq0 (show ¬s2.Kind=0 by omega)]
      ·refine⟨⟨v0,[],o1.w⟩,s1,run _ _ (run_on.2 (.inr ⟨hk1',rfl,rfl⟩)),mod _ (by rw[zq0 hk1']),hs1,hf1,hk1,by show o1.w.length≤_;omega,σ,hpath,fun h=>absurd h hk1'⟩
    ·cases hRR with
     |bin _ _ _ k _ _=>omega
     |un _ k _ _=>omega
     |index _ _ _ k _ _ _ _ _=>omega
     |make _ k _ _=>omega
     |call _ _ _ _ k _ _ _=>omega
     |list _ _ k _ _ _=>omega
     |field ta y n k hp ka la hfr=>
      obtain⟨a',hLL⟩:∃a',a.L=[a']:=y9q (by rw[←hpl,hp];rfl);rw[hLL]at hL;injection hL with e1 e2;subst e1;have hTa:TE m Γ a' ta:=hP 0 a' ta (by rw[hLL];rfl) (by rw[hp];rfl);have h2:=z3b hLL;obtain⟨ρr,hTr,hY⟩:=ih a' hx ta hTa hxw (by omega) hR' hr;refine⟨ρr,hTr,fun κ kept s hκ hkept hs h0 hf=>?_⟩;obtain⟨o1,s1,hG,hM,hs1,hf1,hk1,hwl,σ,hpath,hσ⟩:=hY κ kept s hκ hkept hs h0 hf
      have run:∀o s',Run m (.on s1 ⟨v0,[],o1.w⟩ (.ret ⟨v0,[],o1.w++[Int.tmod a.N 64]⟩ s1)) o s'→G m (.Y a kept) s o s':=fun o s' h=>by
       show Run m (if _ then _ else _) _ _;rw[zq0 (by omega),zq1 k,hLL];exact .call _ _ _ o1 s1 _ _ hG h
      have mod:∀r,(if s1.Kind=0 then some (o1.w++[Int.tmod a.N 64],s1)else some (o1.w,s1))=r→uC m s a kept=r:=fun r h=>by
       rw[z9G];unfold z2z;rw[zq0 (by omega),zq1 k,hLL,show idx [a'] 0=some a' from rfl,zB,hM,zB];have r1:wC 8 (List.length o1.w+List.length [Int.tmod a.N 64]):=uO (by omega) (by simp;omega);show(if s1.Kind=0 then(if(64:Int)≠0 then(if wC 8 (List.length o1.w+List.length [Int.tmod a.N 64])then some (o1.w++[Int.tmod a.N 64],s1)else none)else none)else some (o1.w,s1))=r;rw[zq1 (show(64:Int)≠0 by decide),zq1 r1];exact h
      by_cases hk1':s1.Kind=0
      ·obtain⟨d,fd,k',i,e1,e2,e3,e4,e5,e6,e7⟩:=hfr;have em:Int.tmod a.N 64=(i:Int):=by rw[Int.tmod_eq_emod_of_nonneg (by omega)];omega
       have hb':=z5w (hσ hk1');have hpp:=y0s (m:=m) (hb'.1.trans ka) (hb'.2.1.trans e1) e2;have hdx:hd fd=y:=by unfold hd;rw[e5];rfl
       refine⟨⟨v0,[],o1.w++[Int.tmod a.N 64]⟩,s1,run _ _ (run_on.2 (.inl ⟨hk1',.ret _ _⟩)),mod _ (by rw[zq1 hk1']),hs1,hf1,hk1,by show(o1.w++[Int.tmod a.N 64]).length≤_;simp;omega,y,?_,fun _=>(z5v y).symm⟩;show PathT m κ (o1.w++[Int.tmod a.N 64]) y;rw[em];exact hpath.snoc (by rw[hpp,List.getElem?_map,e4,Option.map_some,hdx])
      ·refine⟨⟨v0,[],o1.w⟩,s1,run _ _ (run_on.2 (.inr ⟨hk1',rfl,rfl⟩)),mod _ (by rw[zq0 hk1']),hs1,hf1,hk1,by show o1.w.length≤_;omega,σ,hpath,fun h=>absurd h hk1'⟩
def v6u(m ρ:zA)(s':State):Prop:=s'.Kind=0∨(s'.Kind=1∧Fit m ρ s'.Ret∧VW s'.Ret)∨s'.Kind=2∨s'.Kind=3
def y5v(m:zA)(f:Nat):Prop:=∀N ρ Γ Γ' t s,TS m ρ Γ t Γ'→zA.Wf t→zJ t≤100000000→StOk m N Γ s→s.Kind=0→s.Fuel≤f →
 ∃o s',G m (.S t) s o s'∧zU m s t=some s'∧s'.Fuel≤s.Fuel∧((s'.Kind=0∧s'.Fuel<s.Fuel∧StOk m N Γ' s')∨(s'.Kind≠0∧StOk m N Γ s'))∧v6u m ρ s'
theorem TS.ext{m ρ t:zA}{Γ Γ':List zA}(h:TS m ρ Γ t Γ'):∃Δ,Γ'=Γ++Δ:=by
 cases h with
 |let_ _ _ _ τ=>exact⟨[τ],rfl⟩
 |new _ _ x=>exact⟨[x],rfl⟩
 |_=>exact⟨[],by simp⟩
theorem v5m{m t:zA}{v:Value}(hm:zJ m≤1000000000)(ht:zJ t≤1000000000)(hg:Good m t)(ev:yY m t=some v):VW v:=by
 have go:∀t:zA,OkT m t→zJ t≤1000000000→Good m t→(∀x∈vT m t,∃v,yY m x=some v∧VW v)→∃v,yY m t=some v∧VW v:=by
  intro t ho ht hg hp;obtain⟨n,en,h0,hn⟩:=z4o hm ht;have hpl:=y0r hm ho;have loop:∀(k i:Nat) (o:Value) (L:List Value),i+k=(vT m t).length→L.length=i→(∀y∈L,VW y) →
    ∃L',yZ (vT m t) i m o 0 L=some ⟨0,L'⟩∧(vT m t).length=L'.length∧∀y∈L',VW y:=by
   intro k;induction k with
   |zero=>
    intro i o L hi hl hL;rw[z2Y];unfold jG;rw[zq0 (by omega)];exact⟨L,rfl,by omega,hL⟩
   |succ k ihk=>
    intro i o L hi hl hL;have hlt:i<(vT m t).length:=by omega
    obtain⟨v,ev,hv⟩:=hp _ (List.getElem_mem hlt);rw[z2Y];unfold jG;rw[zq1 (by omega),wF hlt,zB,ev,zB,zq1 (uO (by omega) (by simp;omega)),z1n (by omega)];refine ihk (i+1) o _ (by omega) (by simp[hl]) (fun y hy=>?_);rcases List.mem_append.1 hy with h|h
    ·exact hL y h
    ·rw[List.mem_singleton.1 h];exact hv
  obtain⟨L',e,h1,h2⟩:=loop (vT m t).length 0 ⟨0,[]⟩ [] (by omega) rfl (fun y hy=>by cases hy);refine⟨⟨0,L'⟩,?_,.mk _ (by rw[i64_iff];simp) (by simp only;omega) h2⟩;rw[y1K];unfold z2e;rw[en,zB,zq0 (hn.2 hg),y7m hm ho,zB];exact e
 have none_:∀t:zA,(t.K=1∨t.K=2)→∀x∈vT m t,∃v,yY m x=some v∧VW v:=fun t hk x hx=>by
  unfold vT at hx;rw[zq0 (by omega),zq0 (by omega)]at hx;cases hx
 have all:∀t,OkT m t→zJ t≤1000000000→Good m t→∃v,yY m t=some v∧VW v:=by
  intro t h;induction h with
  |int t h1 h2=>exact fun ht hg=>go t (.int t h1 h2) ht hg (none_ t (.inl h1))
  |bool t h1 h2=>exact fun ht hg=>go t (.bool t h1 h2) ht hg (none_ t (.inr h1))
  |arr t e h1 h2 h3 h4 h5 ih=>
   intro ht hg;have ho:OkT m t:=.arr t e h1 h2 h3 h4 h5;refine go t ho ht hg fun x hx=>?_;have hs:=z8y hm ht ho x hx;have hgx:=z8z hm ht hg x hx;unfold vT at hx;rw[zq1 h1]at hx;have:=List.eq_of_mem_replicate hx;subst this;have e1:hd t=e:=by unfold hd;rw[h2];rfl
   rw[e1]at hs hgx ⊢;exact ih hs hgx
  |rcd t d h1 h2 h3 h4 h5 h6 ih=>
   intro ht hg;have ho:OkT m t:=.rcd t d h1 h2 h3 h4 h5 h6;refine go t ho ht hg fun x hx=>?_;have hs:=z8y hm ht ho x hx;have hgx:=z8z hm ht hg x hx;unfold vT at hx;rw[zq0 (by omega),zq1 h1,h4]at hx;obtain⟨f,hf,rfl⟩:=List.mem_map.1 hx;obtain⟨-,y,hy⟩:=h5.2.2 f hf;have e1:hd f=y:=by unfold hd;rw[hy];rfl
   rw[e1]at hs hgx ⊢;exact ih f y hf hy hs hgx
 obtain⟨u,eu,hu⟩:=all t (hg.okT hm ht) ht hg;rw[ev]at eu;cases eu;exact hu
theorem v7s(m:zA)(hms:zJ m≤100000000)(hmw:zA.Wf m)(f:Nat)(CS:y5v m f):v6j m f:=by
 intro N Γ k d ps r b a s hd' hfn hal haf haw hs h0 hf;have hdm:=List.mem_of_getElem? hd';have hds:=zR hdm;have h3:=z6A hfn.L;have hpl:=vR ps;have hdw:=hmw.L_.2 d hdm;have hbw:zA.Wf b:=hdw.L_.2 b (by rw[hfn.L];simp);have hs1:StOk m N (ps.L.map hd) {s with Locals:=a}:=hs.call (by simpa using hal) (fun i τ v h1 h2=>by
  rw[List.getElem?_map]at h1;obtain⟨x,hx,rfl⟩:=Option.map_eq_some_iff.1 h1;exact haf i x v hx h2) haw (by have:=hs.fuel1;omega)
 obtain⟨o,s',hG,hM,hf',hst,hE⟩:=CS N r (ps.L.map hd) _ b _ hfn.body hbw (by omega) hs1 h0 hf;have hst:StOk m N (ps.L.map hd) s':=hst.elim (fun h=>h.2.2) (fun h=>h.2);have hback:StOk m N Γ {s' with Locals:=s.Locals}:=hs.back hst hf';have run:∀o' s'',Run m (if s'.Kind=1 then .ret (oV s'.Ret) {s' with Locals:=s.Locals,Kind:=0,Ret:=v0}
   else if s'.Kind=0 then .opt (yY m r) fun z=>.ret (oV z) {s' with Locals:=s.Locals}
   else .ret o0 {s' with Locals:=s.Locals}) o' s''→G m (.C k a) s o' s'':=fun o' s'' h=>by
  show Run m (P.opt m.L[k]? _) _ _;rw[hd'];show Run m (P.opt d.L[2]? _) _ _;rw[hfn.L];exact .call _ _ _ o s' _ _ hG h
 have mod:∀q,(if s'.Kind=1 then some ((Ref21Got.mk s'.Ret ({s' with Locals:=s.Locals,Kind:=0,Ret:=(Value.mk 0 [])})))
   else if s'.Kind=0 then yY m r>>=fun q3=>some ((Ref21Got.mk q3 ({s' with Locals:=s.Locals})))
   else z1D ({s' with Locals:=s.Locals})>>=fun q2=>some q2)=q→wS m s k a=q:=fun q h=>by
  rw[y5q];unfold z1C;rw[z4O,hd',zB,hfn.L,show idx [ps,r,b] 2=some b from rfl,zB,hM,zB,zB,hfn.L,show idx [ps,r,b] 1=some r from rfl,zB];exact h
 by_cases k1:s'.Kind=1
 ·obtain⟨hF,hW⟩:Fit m r s'.Ret∧VW s'.Ret:=by
   rcases hE with h|h|h|h<;>first|omega|skip
   exact h.2
  exact⟨oV s'.Ret,{s' with Locals:=s.Locals,Kind:=0,Ret:=v0},run _ _ (by rw[zq1 k1];exact .ret _ _),mod _ (by rw[zq1 k1]),hback.same rfl rfl rfl rfl rfl rfl v6g,hf',.inl ⟨rfl,hF,hW⟩⟩
 by_cases k0:s'.Kind=0
 ·have hrw:zJ r≤1000000000:=by omega
  obtain⟨z,ez,hz⟩:=v2g (m:=m) (t:=r) (by omega) hrw hfn.goodr;have hzv:=v5m (m:=m) (by omega) hrw hfn.goodr ez;exact⟨oV z,_,run _ _ (by rw[zq0 k1,zq1 k0,ez];exact .ret _ _),mod _ (by rw[zq0 k1,zq1 k0,ez];rfl),hback,hf',.inl ⟨k0,hz,hzv⟩⟩
 ·exact⟨o0,_,run _ _ (by rw[zq0 k1,zq0 k0];exact .ret _ _),mod _ (by rw[zq0 k1,zq0 k0];rfl),hback,hf',.inr ⟨by rcases hE with h|h|h|h<;>first|omega|exact .inl h|exact .inr h,rfl⟩⟩
theorem y8d{m:zA}{s:State}(h:s.Kind≠0)(l:List zA):G m (.B l) s o0 s∧∀(t:zA) n z (i:Nat),t.L.drop i=l→i+l.length=t.L.length→t.L.length≤1000000000→yM n i m s t z=z3L s n>>=fun q=>some q:=by
 induction l with
 |nil=>
  refine⟨.ret _ _,fun t n z i hd' hi hl=>?_⟩;rw[z3a];unfold jH;rw[zq0 (by simp at hi;omega)]
 |cons x r ih=>
  refine⟨.call _ _ _ _ _ _ _ (y5R h).1 (.call _ _ _ _ _ _ _ ih.1 (.ret _ _)),fun t n z i hd' hi hl=>?_⟩;have hlt:i<t.L.length:=by simp at hi;omega
  have e1:=List.drop_eq_getElem_cons hlt;rw[hd']at e1;injection e1 with e1 e2;rw[z3a];unfold jH;rw[zq1 (by omega),wF hlt,zB,(y5R h).2,zB,z1n (by omega)];exact ih.2 t n z (i+1) e2.symm (by simp at hi ⊢;omega) hl
def v6i(m:zA)(f:Nat):Prop:=∀N ρ Γ (l:List zA) Γ' s,TB m ρ Γ l Γ'→(∀x∈l,zA.Wf x∧zJ x≤100000000)→StOk m N Γ s→s.Kind=0→s.Fuel≤f →
 ∃o s',G m (.B l) s o s'∧(∀(t:zA) n z (i:Nat),t.L.drop i=l→i+l.length=t.L.length→t.L.length≤1000000000→yM n i m s t z=z3L s' n>>=fun q=>some q) ∧
  s'.Fuel≤s.Fuel∧(∃Δ,StOk m N (Γ++Δ) s')∧(s'.Kind=0→StOk m N Γ' s')∧v6u m ρ s'
theorem v7r(m:zA)(f:Nat)(CS:y5v m f):v6i m f:=by
 intro N ρ Γ l;induction l generalizing Γ with
 |nil=>
  intro Γ' s hT hb hs h0 hf;cases hT;refine⟨o0,s,.ret _ _,fun t n z i hd' hi hl=>?_,Int.le_refl _,⟨[],by simpa using hs⟩,fun _=>hs,.inl h0⟩;rw[z3a];unfold jH;rw[zq0 (by simp at hi;omega)]
 |cons x r ih=>
  intro Γ' s hT hb hs h0 hf;cases hT with
  |cons _ Γ1 _ _ _ hx hr=>
   obtain⟨hw,hsz⟩:=hb x (List.mem_cons_self ..);obtain⟨o1,s1,hG,hM,hf1,hs1,hE1⟩:=CS N ρ Γ Γ1 x s hx hw hsz hs h0 hf;have mod:∀s2,(∀(t:zA) n z (i:Nat),t.L.drop i=r→i+r.length=t.L.length→t.L.length≤1000000000→yM n i m s1 t z=z3L s2 n>>=fun q=>some q) →
     ∀(t:zA) n z (i:Nat),t.L.drop i=x::r→i+(x::r).length=t.L.length→t.L.length≤1000000000→yM n i m s t z=z3L s2 n>>=fun q=>some q:=fun s2 h t n z i hd' hi hl=>by
    have hlt:i<t.L.length:=by simp at hi;omega
    have e1:=List.drop_eq_getElem_cons hlt;rw[hd']at e1;injection e1 with e1 e2;rw[z3a];unfold jH;rw[zq1 (by omega),wF hlt,zB,←e1,hM,zB,z1n (by omega)];exact h t n z (i+1) e2.symm (by simp at hi ⊢;omega) hl
   rcases hs1 with⟨k1,-,hs1⟩|⟨k1,hs1⟩
   ·obtain⟨o2,s2,hG2,hM2,hf2,⟨Δ,hΔ⟩,hs2,hE2⟩:=ih Γ1 Γ' s1 hr (fun a ha=>hb a (List.mem_cons_of_mem _ ha)) hs1 k1 (by omega);obtain⟨Δ',rfl⟩:=hx.ext;exact⟨o0,s2,.call _ _ _ _ _ _ _ hG (.call _ _ _ _ _ _ _ hG2 (.ret _ _)),mod s2 hM2,by omega,⟨Δ'++Δ,by rw[←List.append_assoc];exact hΔ⟩,hs2,hE2⟩
   ·have e:=y8d (m:=m) k1 r;exact⟨o0,s1,.call _ _ _ _ _ _ _ hG (.call _ _ _ _ _ _ _ e.1 (.ret _ _)),mod s1 e.2,hf1,⟨[],by simpa using hs1⟩,fun h=>absurd h k1,hE1⟩
theorem StOk.cut{m:zA}{N:Int}{Γ Δ:List zA}{s:State}(h:StOk m N (Γ++Δ) s):StOk m N Γ {s with Locals:=s.Locals.take Γ.length} where
 gl:=h.gl
 gf:=h.gf
 gw:=h.gw
 ll:=by have:=h.ll;simp at this ⊢;omega
 lf:=by
  intro i τ v h1 h2;have hlt:=(List.getElem?_eq_some_iff.1 h1).1;simp only at h2;rw[List.getElem?_take_of_lt hlt]at h2;exact h.lf i τ v (by rw[List.getElem?_append_left hlt];exact h1) h2
 lw:=fun v hv=>h.lw v (List.mem_of_mem_take hv)
 at0:=h.at0
 at1:=h.at1
 inl:=h.inl
 inw:=h.inw
 fuel0:=h.fuel0
 fuel1:=h.fuel1
 room:=by have:=h.room;simp only[List.length_take];omega
 tr:=h.tr
 trN:=h.trN
 rt:=h.rt
theorem v6n{s:State}{n:Nat}(h:n≤s.Locals.length):z3L s (n:Int)=some {s with Locals:=s.Locals.take n}:=by
 unfold z3L;rw[zq1 (by omega),zq1 (by simpa using h),zq1 (by omega)];simp
theorem y7i{s:State}{v:Value}(h:s.Locals.length≤1000000000):z2x s v=some {s with Locals:=s.Locals++[v]}:=by
 unfold z2x;rw[zq1 (uO (by omega) (by simp;omega)),zq1 (uO (by omega) (by simp;omega))];rfl
theorem y4J{m:zA}{v:Value}{t:zA}{s:State}(h:s.Kind≠0):G m (.W v t) s o0 s∧∀z,yC m ⟨v,s⟩ t z=some s:=by
 refine⟨run_on.2 (.inr ⟨h,rfl,rfl⟩),fun z=>?_⟩;rw[z4e];unfold jJ;rw[zq0 h]
theorem v7v(m:zA)(f:Nat)(CE:y5u m f)(CS:y5v m f)(N:Int)(ρ:zA)(Γ:List zA)(t e x τ:zA)(hL:t.L=[e,x])(hTe:TE m Γ e τ)(hTx:TS m ρ Γ x Γ)(hw:zA.Wf t)(hts:zJ t≤100000000):
  ∀(g:Nat) (v:Value) (s:State),StOk m N Γ s→(s.Kind=0∨s.Kind=2∨s.Kind=3)→s.Fuel≤g→s.Fuel≤f→∃s',G m (.W v t) s o0 s'∧(∀z,yC m ⟨v,s⟩ t z=some s')∧s'.Fuel≤s.Fuel∧StOk m N Γ s'∧v6u m ρ s':=by
 have h2:=y0D hL;have hwe:zA.Wf e:=hw.L_.2 e (by rw[hL];simp);have hwx:zA.Wf x:=hw.L_.2 x (by rw[hL];simp);intro g;induction g using Nat.strongRecOn with
 |_ g ih=>
  intro v s hs hk hg hf;by_cases k0:s.Kind=0
  ·by_cases c:v.N=0
   ·refine⟨s,run_on.2 (.inl ⟨k0,by rw[zq1 c];exact .ret _ _⟩),fun z=>?_,Int.le_refl _,hs,.inl k0⟩;rw[z4e];unfold jJ;rw[zq1 k0,zq1 c]
   ·obtain⟨o1,s1,hG1,hM1,hf1,hs1,hE1⟩:=CS N ρ Γ Γ x s hTx hwx (by omega) hs k0 hf;have run:∀o2 s2 s3,G m (.E e) s1 o2 s2→G m (.W o2.v t) s2 o0 s3→G m (.W v t) s o0 s3:=fun o2 s2 s3 g2 g3=>run_on.2 (.inl ⟨k0,by
     rw[zq0 c,hL];exact .call _ _ _ o1 s1 _ _ hG1 (.call _ _ _ o2 s2 _ _ g2 (.call _ _ _ o0 s3 _ _ g3 (.ret _ _)))⟩)
    have mod:∀v2 s2 s3,zK m s1 e=some ⟨v2,s2⟩→(∀z,yC m ⟨v2,s2⟩ t z=some s3)→∀z,yC m ⟨v,s⟩ t z=some s3:=fun v2 s2 s3 e2 e3 z=>by
     rw[z4e];unfold jJ;rw[zq1 k0,zq0 c,hL,show idx [e,x] 1=some x from rfl,show idx [e,x] 0=some e from rfl,zB,hM1,zB,zB,e2,zB,e3]
    rcases hs1 with⟨k1,hlt,hs1⟩|⟨k1,hs1⟩
    ·obtain⟨o2,s2,hG2,hM2,hs2,hf2,-,hE2⟩:=CE N Γ e τ s1 hTe hwe (by omega) hs1 (.inl k1) (by omega);have f0:=hs2.fuel0;have k2:s2.Kind=0∨s2.Kind=2∨s2.Kind=3:=by rcases hE2 with h|h<;>omega
     obtain⟨s3,hG3,hM3,hf3,hs3,hE3⟩:=ih (g-1) (by have:=hs.fuel0;omega) o2.v s2 hs2 k2 (by omega) (by omega);exact⟨s3,run _ _ _ hG2 hG3,mod _ _ _ hM2 hM3,by omega,hs3,hE3⟩
    ·have e2:=y1f (m:=m) (t:=e) k1;have e3:=y4J (m:=m) (v:=v0) (t:=t) k1;exact⟨s1,run _ _ _ e2.1 e3.1,mod _ _ _ e2.2 e3.2,hf1,hs1,hE1⟩
  ·have e3:=y4J (m:=m) (v:=v) (t:=t) k0;exact⟨s,e3.1,e3.2,Int.le_refl _,hs,hk.elim .inl fun h=>h.elim (fun h=>.inr (.inr (.inl h))) fun h=>.inr (.inr (.inr h))⟩
theorem v4G{s:State}(h0:s.Kind=0)(hf:0<s.Fuel)(hb:s.Fuel≤1000000):z0R s=some {s with Fuel:=s.Fuel-1}:=by
 unfold z0R;rw[zq1 h0,zq0 (by omega),z3c (n:=s.Fuel-1) (by omega) (by omega)]
theorem y4q{s:State}(h0:s.Kind=0)(hf:s.Fuel≤0):z0R s=some {s with Kind:=3}:=by
 unfold z0R;rw[zq1 h0,zq1 hf]
theorem v4F{s:State}(h0:s.Kind≠0):z0R s=some s:=by
 unfold z0R;rw[zq0 h0]
theorem v7t(m:zA)(f:Nat)(CS:y5v m f)(N:Int)(ρ:zA)(Γ:List zA)(x:zA)(hTx:TS m ρ (Γ++[y6Y]) x (Γ++[y6Y]))(hw:zA.Wf x)(hts:zJ x≤100000000)(hi:Int):
  ∀(g:Nat) (i:Int) (s:State),InK .i64 i→StOk m N Γ s→(s.Kind=0∨(s.Kind≠0∧v6u m ρ s))→s.Fuel≤g→s.Fuel≤f→∃s',G m (.F Γ.length i hi x) s o0 s'∧(∀(t:zA) z (to:Ref21Got),t.L[2]?=some x→to.V.N=hi→vX (Γ.length:Int) i m t z to s=some s')∧s'.Fuel≤s.Fuel∧StOk m N Γ s'∧v6u m ρ s':=by
 intro g;induction g using Nat.strongRecOn with
 |_ g ih=>
  intro i s hi64 hs hk hg hf;by_cases k0:s.Kind=0
  ·by_cases c0:s.Fuel≤0
   ·refine⟨{s with Kind:=3},.dry _ _ k0 c0,fun t z to _ _=>?_,Int.le_refl _,hs.same rfl rfl rfl rfl rfl rfl hs.rt,.inr (.inr (.inr rfl))⟩;rw[z3M];unfold jZ;rw[y4q k0 c0,zB,zq0 (show ¬(3:Int)=0 by decide)]
   ·have hp:=v4G k0 (by omega) hs.fuel1;have hs1:=(hs.pay (by omega:0<s.Fuel)).mono (show N-1≤N by omega) hs.trN;have hsl:=hs.locals_le;have hroom:=hs.room;have hpush:StOk m N (Γ++[y6Y]) {s with Fuel:=s.Fuel-1,Locals:=s.Locals++[⟨i,[]⟩]}:=hs1.push (y3W m i) (z8Y hi64) (by show(s.Locals.length:Int)+1+(s.Fuel-1)≤_;omega);by_cases c:i≥hi
    ·refine⟨{s with Fuel:=s.Fuel-1},.pay _ _ _ _ k0 (by omega) (by rw[zq1 c];exact .ret _ _),fun t z to _ hto=>?_,by simp only;omega,hs1,.inl k0⟩;rw[z3M];unfold jZ;rw[hp,zB,zq1 (show({s with Fuel:=s.Fuel-1}:State).Kind=0 from k0),zq1 (by rw[hto];exact c)]
    ·obtain⟨o2,s2,hG2,hM2,hf2,hs2,hE2⟩:=CS N ρ (Γ++[y6Y]) _ x _ hTx hw hts hpush k0 (by simp only;omega);have hs2':StOk m N (Γ++[y6Y]) s2:=hs2.elim (fun h=>h.2.2) (fun h=>h.2);have hl2:Γ.length≤s2.Locals.length:=by rw[hs2'.ll];simp
     have hs3:=hs2'.cut;simp only at hf2;obtain⟨s4,hG4,hM4,hf4,hs4,hE4⟩:=ih (g-1) (by have:=hs.fuel0;omega) (IntKind.wrap .i64 (i+1)) _ (z8v _) hs3 (by
      by_cases k2:s2.Kind=0
      ·exact .inl k2
      ·exact .inr ⟨k2,hE2⟩) (by simp only;omega) (by simp only;omega)
     simp only at hf4;refine⟨s4,.pay _ _ _ _ k0 (by omega) ?_,fun t z to htx hto=>?_,by omega,hs4,hE4⟩
     ·rw[zq0 c];refine .call _ _ _ o2 s2 _ _ hG2 ?_;unfold cut;rw[zq1 hl2];exact .call _ _ _ o0 s4 _ _ hG4 (.ret _ _)
     ·rw[z3M];unfold jZ;rw[hp,zB,zq1 (show({s with Fuel:=s.Fuel-1}:State).Kind=0 from k0),zq0 (by rw[hto];exact c),y7i (s:={s with Fuel:=s.Fuel-1}) hsl,zB,show idx t.L 2=some x from htx,zB,hM2,zB,v6n hl2,zB];exact hM4 t z to htx hto
  ·refine⟨s,.ended _ _ k0,fun t z to _ _=>?_,Int.le_refl _,hs,hk.elim (fun h=>absurd h k0) (fun h=>h.2)⟩;rw[z3M];unfold jZ;rw[v4F k0,zB,zq0 k0]
theorem RootR.uniq{t r r':zA}(h:RootR t r)(hr:r.K=7∨r.K=9)(h':wQ t=some r'):r'=r:=by
 induction h with
 |here t hh=>
  rw[z8i]at h';unfold z1i at h';rw[zq0 (by omega),zq0 (by omega)]at h';exact(Option.some.inj h').symm
 |down t x r l hk hL _ ih=>
  refine ih hr ?_;rw[z8i]at h';unfold z1i at h';have c:(List.length t.L:Int)>0:=by rw[hL];simp
  have e:idx t.L 0=some x:=by rw[hL];rfl
  rcases hk with hk|hk
  ·rw[zq1 hk,zq1 c,e,zB]at h';obtain⟨q,hq,h'⟩:=zC h';rw[hq,←Option.some.inj h']
  ·rw[zq0 (by omega),zq1 hk,zq1 c,e,zB]at h';obtain⟨q,hq,h'⟩:=zC h';rw[hq,←Option.some.inj h']
theorem v6T{t r:zA}(h:RootR t r)(hr:r.K=7∨r.K=9):wQ t=some r:=by
 obtain⟨r',e,-⟩:=v4L t;rw[e,h.uniq hr e]
theorem v6a{m:zA}{s:State}{t a r:zA}{z:State}{x:Ref21Got}(h:RootR a r)(hr:r.K=7∨r.K=9):vI m s t z x a=vI m s t z x r:=by
 induction h with
 |here t hh=>rfl
 |down t y r l hk hL _ ih=>
  rw[←ih hr,z5o (root:=t)];unfold z0f;have e:idx t.L 0=some y:=by rw[hL];rfl
  rcases hk with hk|hk
  ·rw[zq1 hk,e,zB]
  ·rw[zq0 (by omega),zq1 hk,e,zB]
theorem v4u{l:List Value}{n:Nat}{v:Value}(h:n<l.length)(hl:l.length≤1000000000):z3U l (n:Int) v=some (l.set n v):=by
 unfold z3U;rw[zq1 (uO (by omega) (by omega)),zq1 (by omega),zq1 ⟨by omega,by omega⟩,zq1 (by simpa using h)];rfl
theorem v6Z{l:List Value}{k:Nat}{v:Value}(h:k<l.length):(l.reverse.set k v).reverse=l.set (l.length-1-k) v:=by
 apply List.ext_getElem
 ·simp
 ·intro i h1 h2;simp only[List.length_reverse,List.length_set]at h1 h2;rw[List.getElem_reverse,List.getElem_set,List.getElem_set];simp only[List.length_set,List.length_reverse];by_cases c:k=l.length-1-i
  ·rw[zq1 c,zq1 (by omega)]
  ·rw[zq0 c,zq0 (by omega),List.getElem_reverse];congr 1;omega
theorem StOk.setG{m:zA}{N:Int}{Γ:List zA}{s:State}(h:StOk m N Γ s){n:Nat}{d x:zA}{u:Value}(hd':m.L[n]?=some d)(hx:d.L=[x])(hu:Fit m x u)(hw:VW u):StOk m N Γ {s with Globals:=s.Globals.set n u}:=
 {h with
  gl:=by simpa using h.gl
  gf:=by
   intro i d' x' v h1 h2 h3 h4;simp only at h4;rw[List.getElem?_set]at h4;by_cases c:n=i
   ·subst c;rw[hd']at h1;cases h1;rw[hx]at h3;injection h3 with h3;subst h3;by_cases c':n<s.Globals.length
    ·rw[zq1 rfl,zq1 c']at h4;cases h4;exact hu
    ·rw[zq1 rfl,zq0 c']at h4;cases h4
   ·rw[zq0 c]at h4;exact h.gf i d' x' v h1 h2 h3 h4
  gw:=by
   intro v hv;rcases List.mem_or_eq_of_mem_set hv with h'|rfl
   ·exact h.gw v h'
   ·exact hw}
theorem StOk.setL{m:zA}{N:Int}{Γ:List zA}{s:State}(h:StOk m N Γ s){n:Nat}{x:zA}{u:Value}(hx:Γ[n]?=some x)(hu:Fit m x u)(hw:VW u):StOk m N Γ {s with Locals:=s.Locals.set n u}:=
 {h with
  ll:=by simpa using h.ll
  lf:=by
   intro i τ v h1 h2;simp only at h2;rw[List.getElem?_set]at h2;by_cases c:n=i
   ·subst c;rw[hx]at h1;cases h1;by_cases c':n<s.Locals.length
    ·rw[zq1 rfl,zq1 c']at h2;cases h2;exact hu
    ·rw[zq1 rfl,zq0 c']at h2;cases h2
   ·rw[zq0 c]at h2;exact h.lf i τ v h1 h2
  lw:=by
   intro v hv;rcases List.mem_or_eq_of_mem_set hv with h'|rfl
   ·exact h.lw v h'
   ·exact hw
  room:=by simpa using h.room}
theorem v4Z (m:zA) (hm:ModOk m) (hms:zJ m≤100000000) (hmw:zA.Wf m) (f:Nat) (CE:y5u m f) (CS:y5v m f) (CB:v6i m f) (N:Int) (ρ:zA) (Γ Γ':List zA) (t:zA) (s s1:State) (hpay:z0R s=some s1) (hk1:s1.Kind=0)
  (hT:TS m ρ Γ t Γ') (hw:zA.Wf t) (hts:zJ t≤100000000) (hst:StOk m (N-1) Γ s1) (hN:N≤1000000000) (hroom:(Γ.length:Int)+1+s1.Fuel≤1000000000) (hf:s1.Fuel≤f):
  ∃o s',Run m (z9H m t s1) o s'∧zU m s t=some s'∧s'.Fuel≤s1.Fuel∧((s'.Kind=0∧StOk m N Γ' s')∨(s'.Kind≠0∧StOk m N Γ s'))∧v6u m ρ s':=by
 have hml:=vR m;have mono:∀{Δ s},StOk m (N-1) Δ s→StOk m N Δ s:=fun h=>h.mono (by omega) hN;have sub:∀x∈t.L,zA.Wf x∧zJ x≤100000000:=fun x hx=>⟨hw.L_.2 x hx,by have:=zR hx;omega⟩;have htl:=vR t;have endE:∀{τ o s2},v6l m τ o s2→s2.Kind≠0→v6u m ρ s2∧o=o0:=fun h h0=>by
  rcases h with h|⟨h|h,e⟩
  ·exact absurd h.1 h0
  ·exact⟨.inr (.inr (.inl h)),e⟩
  ·exact⟨.inr (.inr (.inr h)),e⟩
 have withE:∀(e:zA) (τ:zA),t.L[0]?=some e→TE m Γ e τ→t.K≠29→t.K≠21→t.K≠22 →
   ∃o s2,G m (.E e) s1 o s2∧StOk m (N-1) Γ s2∧(s2.Kind=0→StOk m (N-1-1) Γ s2)∧s2.Fuel≤s1.Fuel∧v6l m τ o s2 ∧
   (∀o' s',s2.Kind=0→Run m (if t.K=20 then .ret o0 {s2 with Locals:=s2.Locals++[o.v]}
   else if t.K=26 then .ret o0 {s2 with Trace:=s2.Trace++[o.v.N]}
   else if t.K=27 then .ret o0 {s2 with Kind:=1,Ret:=o.v}
   else if t.K=23 then(if o.v.N=0 then .opt t.L[2]? fun x=>.call (.S x) s2 fun _ s=>.ret o0 s else .opt t.L[1]? fun x=>.call (.S x) s2 fun _ s=>.ret o0 s)
   else if t.K=24 then .call (.W o.v t) s2 fun _ s=>.ret o0 s
   else if t.K=25 then .opt t.L[1]? fun b=>.opt t.L[2]? fun x=>.call (.E b) s2 fun p s=>.on s o0 (.call (.F s.Locals.length o.v.N p.v.N x) s fun _ s=>.ret o0 s)
   else .ret o0 s2) o' s'→Run m (z9H m t s1) o' s') ∧
   (∀q,s2.Kind=0→(if t.K=20 then z2x s2 o.v>>=fun q6=>some q6
    else if t.K=26 then if wC 8 (List.length ([]:List Int)+List.length s2.Trace)then if wC 8 (List.length (([]:List Int)++s2.Trace)+List.length [o.v.N])then some ({s2 with Trace:=(([]:List Int)++s2.Trace)++[o.v.N]})else none else none
    else if t.K=27 then some ({s2 with Kind:=1,Ret:=o.v})
    else if t.K=23 then if o.v.N=0 then idx t.L 2>>=fun x12=>zU m s2 x12>>=fun q29=>some q29 else idx t.L 1>>=fun x11=>zU m s2 x11>>=fun q28=>some q28
    else if t.K=24 then uT m ⟨o.v,s2⟩ t>>=fun q33=>some q33
    else if t.K=25 then z0u m ⟨o.v,s2⟩ t>>=fun q34=>some q34
    else some s2)=q→zU m s t=q) ∧
   (s2.Kind≠0→Run m (z9H m t s1) o0 s2∧zU m s t=some s2):=by
  intro e τ he hTe n29 n21 n22;have hme:=List.mem_of_getElem? he;obtain⟨o,s2,hG,hM,hs2,hf2,hs2',hE⟩:=CE (N-1) Γ e τ s1 hTe (sub e hme).1 (sub e hme).2 hst (.inl hk1) hf;have ie:idx t.L 0=some e:=he;refine⟨o,s2,hG,hs2,fun h=>(hs2' h).2,hf2,hE,fun o' s' h0 h=>?_,fun q h0 h=>?_,fun h0=>⟨?_,?_⟩⟩
  ·unfold z9H;rw[zq0 n29,zq0 n21,zq0 n22,he];exact .call _ _ _ o s2 _ _ hG (run_on.2 (.inl ⟨h0,h⟩))
  ·rw[z0G];unfold jD;rw[hpay,zB,zq1 hk1,zq0 n29,zq0 n21,zq0 n22,ie,zB,hM,zB,zq1 h0];exact h
  ·unfold z9H;rw[zq0 n29,zq0 n21,zq0 n22,he];exact .call _ _ _ o s2 _ _ hG (run_on.2 (.inr ⟨h0,rfl,rfl⟩))
  ·rw[z0G];unfold jD;rw[hpay,zB,zq1 hk1,zq0 n29,zq0 n21,zq0 n22,ie,zB,hM,zB,zq0 h0]
 cases hT with
 |block Γ0 Γ1 _ k _ _ _ hB=>
  obtain⟨o,s2,hG,hM,hf2,⟨Δ,hΔ⟩,-,hE⟩:=CB (N-1) ρ Γ t.L Γ1 s1 hB sub hst hk1 hf;have hl2:s1.Locals.length≤s2.Locals.length:=by rw[hst.ll,hΔ.ll];simp
  have hc:=(mono hΔ).cut;rw[←hst.ll]at hc;refine⟨o0,{s2 with Locals:=s2.Locals.take s1.Locals.length},?_,?_,hf2,?_,hE⟩
  ·unfold z9H;rw[zq1 k];refine .call _ _ _ o s2 _ _ hG ?_;unfold cut;rw[zq1 hl2];exact .ret _ _
  ·rw[z0G];unfold jD;rw[hpay,zB,zq1 hk1,zq1 k];have:=hM t (s1.Locals.length:Int) ⟨[],[],[],0,[],0,0,0,⟨0,[]⟩⟩ 0 rfl (by omega) (by omega);rw[show((0:Nat):Int)=0 from rfl]at this;rw[this,v6n hl2];rfl
  ·by_cases h0:s2.Kind=0
   ·exact .inl ⟨h0,hc⟩
   ·exact .inr ⟨h0,hc⟩
 |new Γ0 _ x k _ _ _ hL hg hn=>
  have hx:x∈t.L:=by rw[hL];simp
  have hxs:=(sub x hx).2;obtain⟨z,ez,hz⟩:=v2g (m:=m) (t:=x) (by omega) (by omega) hg;have hzw:=v5m (m:=m) (by omega) (by omega) hg ez;refine⟨o0,{s1 with Locals:=s1.Locals++[z]},?_,?_,Int.le_refl _,.inl ⟨hk1,mono (hst.push hz hzw (by rw[hst.ll];omega))⟩,.inl hk1⟩
  ·unfold z9H;rw[zq0 (by omega),zq1 k,hL];show Run m (P.opt (yY m x) _) _ _;rw[ez];exact .ret _ _
  ·rw[z0G];unfold jD;rw[hpay,zB,zq1 hk1,zq0 (by omega),zq1 k,hL,show idx [x] 0=some x from rfl,zB,ez,zB,y7i hst.locals_le];rfl
 |let_ Γ0 _ e τ k _ _ _ hL hTe=>
  obtain⟨o,s2,hG,hs2,hs2',hf2,hE,run,mod,fin⟩:=withE e τ (by rw[hL];rfl) hTe (by omega) (by omega) (by omega);by_cases h0:s2.Kind=0
  ·obtain⟨-,hF,hW⟩:=hE.resolve_right (by omega);refine⟨o0,{s2 with Locals:=s2.Locals++[o.v]},run _ _ h0 (by rw[zq1 k];exact .ret _ _),mod _ h0 (by rw[zq1 k,y7i hs2.locals_le];rfl),hf2,.inl ⟨h0,mono (hs2.push hF hW (by rw[hs2.ll];omega))⟩,.inl h0⟩
  ·obtain⟨a1,a2⟩:=fin h0;exact⟨o0,s2,a1,a2,hf2,.inr ⟨h0,mono hs2⟩,(endE hE h0).1⟩
 |print Γ0 _ e τ k _ _ _ hL hTe _ _=>
  obtain⟨o,s2,hG,hs2,hs2',hf2,hE,run,mod,fin⟩:=withE e τ (by rw[hL];rfl) hTe (by omega) (by omega) (by omega);by_cases h0:s2.Kind=0
  ·have h1:=hs2' h0;have htr:=h1.tr;have hf0:=h1.fuel0;have st:StOk m N Γ {s2 with Trace:=s2.Trace++[o.v.N]}:={h1 with tr:=by simp only[List.length_append,List.length_singleton];omega,trN:=hN};refine⟨o0,{s2 with Trace:=s2.Trace++[o.v.N]},run _ _ h0 (by rw[zq0 (by omega),zq1 k];exact .ret _ _),mod _ h0 (by rw[zq0 (by omega),zq1 k,zq1 (uO (by omega) (by simp;omega)),zq1 (uO (by omega) (by simp;omega))];rfl),hf2,.inl ⟨h0,st⟩,.inl h0⟩
  ·obtain⟨a1,a2⟩:=fin h0;exact⟨o0,s2,a1,a2,hf2,.inr ⟨h0,mono hs2⟩,(endE hE h0).1⟩
 |ret Γ0 _ e τ k _ _ _ hL hTe hb=>
  obtain⟨o,s2,hG,hs2,hs2',hf2,hE,run,mod,fin⟩:=withE e τ (by rw[hL];rfl) hTe (by omega) (by omega) (by omega);by_cases h0:s2.Kind=0
  ·obtain⟨-,hF,hW⟩:=hE.resolve_right (by omega);refine⟨o0,{s2 with Kind:=1,Ret:=o.v},run _ _ h0 (by rw[zq0 (by omega),zq0 (by omega),zq1 k];exact .ret _ _),mod _ h0 (by rw[zq0 (by omega),zq0 (by omega),zq1 k]),hf2,.inr ⟨by simp,(mono hs2).same rfl rfl rfl rfl rfl rfl hW⟩,.inr (.inl ⟨rfl,hF.congr _ hb,hW⟩)⟩
  ·obtain⟨a1,a2⟩:=fin h0;exact⟨o0,s2,a1,a2,hf2,.inr ⟨h0,mono hs2⟩,(endE hE h0).1⟩
 |do_ Γ0 _ e τ k _ _ _ hL _ hTe=>
  obtain⟨o,s2,hG,hs2,hs2',hf2,hE,run,mod,fin⟩:=withE e τ (by rw[hL];rfl) hTe (by omega) (by omega) (by omega);by_cases h0:s2.Kind=0
  ·refine⟨o0,s2,run _ _ h0 (by rw[zq0 (by omega),zq0 (by omega),zq0 (by omega),zq0 (by omega),zq0 (by omega),zq0 (by omega)];exact .ret _ _),mod _ h0 (by rw[zq0 (by omega),zq0 (by omega),zq0 (by omega),zq0 (by omega),zq0 (by omega),zq0 (by omega)]),hf2,.inl ⟨h0,mono hs2⟩,.inl h0⟩
  ·obtain⟨a1,a2⟩:=fin h0;exact⟨o0,s2,a1,a2,hf2,.inr ⟨h0,mono hs2⟩,(endE hE h0).1⟩
 |if_ Γ0 _ e x y τ k _ _ _ hL hTe _ _ kx ky hTx hTy=>
  obtain⟨o,s2,hG,hs2,hs2',hf2,hE,run,mod,fin⟩:=withE e τ (by rw[hL];rfl) hTe (by omega) (by omega) (by omega);by_cases h0:s2.Kind=0
  ·have sx:=sub x (by rw[hL];simp);have sy:=sub y (by rw[hL];simp);by_cases c:o.v.N=0
   ·obtain⟨o3,s3,hG3,hM3,hf3,hs3,hE3⟩:=CS (N-1) ρ Γ Γ y s2 hTy sy.1 sy.2 hs2 h0 (by omega);have hs3:StOk m (N-1) Γ s3:=hs3.elim (fun h=>h.2.2) (fun h=>h.2);refine⟨o0,s3,run _ _ h0 ?_,mod _ h0 ?_,by omega,?_,hE3⟩
    ·rw[zq0 (by omega),zq0 (by omega),zq0 (by omega),zq1 k,zq1 c,hL];exact .call _ _ _ o3 s3 _ _ hG3 (.ret _ _)
    ·rw[zq0 (by omega),zq0 (by omega),zq0 (by omega),zq1 k,zq1 c,hL,show idx [e,x,y] 2=some y from rfl,zB,hM3];rfl
    ·by_cases h3:s3.Kind=0
     ·exact .inl ⟨h3,mono hs3⟩
     ·exact .inr ⟨h3,mono hs3⟩
   ·obtain⟨o3,s3,hG3,hM3,hf3,hs3,hE3⟩:=CS (N-1) ρ Γ Γ x s2 hTx sx.1 sx.2 hs2 h0 (by omega);have hs3:StOk m (N-1) Γ s3:=hs3.elim (fun h=>h.2.2) (fun h=>h.2);refine⟨o0,s3,run _ _ h0 ?_,mod _ h0 ?_,by omega,?_,hE3⟩
    ·rw[zq0 (by omega),zq0 (by omega),zq0 (by omega),zq1 k,zq0 c,hL];exact .call _ _ _ o3 s3 _ _ hG3 (.ret _ _)
    ·rw[zq0 (by omega),zq0 (by omega),zq0 (by omega),zq1 k,zq0 c,hL,show idx [e,x,y] 1=some x from rfl,zB,hM3];rfl
    ·by_cases h3:s3.Kind=0
     ·exact .inl ⟨h3,mono hs3⟩
     ·exact .inr ⟨h3,mono hs3⟩
  ·obtain⟨a1,a2⟩:=fin h0;exact⟨o0,s2,a1,a2,hf2,.inr ⟨h0,mono hs2⟩,(endE hE h0).1⟩
 |while_ Γ0 _ e x τ k _ _ _ hL hTe _ _ kx hTx=>
  obtain⟨o,s2,hG,hs2,hs2',hf2,hE,run,mod,fin⟩:=withE e τ (by rw[hL];rfl) hTe (by omega) (by omega) (by omega);by_cases h0:s2.Kind=0
  ·obtain⟨s3,hG3,hM3,hf3,hs3,hE3⟩:=v7v m f CE CS (N-1) ρ Γ t e x τ hL hTe hTx hw hts s2.Fuel.toNat o.v s2 hs2 (.inl h0) (by have:=hs2.fuel0;omega) (by omega);refine⟨o0,s3,run _ _ h0 ?_,mod _ h0 ?_,by omega,?_,hE3⟩
   ·rw[zq0 (by omega),zq0 (by omega),zq0 (by omega),zq0 (by omega),zq1 k];exact .call _ _ _ o0 s3 _ _ hG3 (.ret _ _)
   ·rw[zq0 (by omega),zq0 (by omega),zq0 (by omega),zq0 (by omega),zq1 k,y7u];unfold z2A;rw[hM3];rfl
   ·by_cases h3:s3.Kind=0
    ·exact .inl ⟨h3,mono hs3⟩
    ·exact .inr ⟨h3,mono hs3⟩
  ·obtain⟨a1,a2⟩:=fin h0;exact⟨o0,s2,a1,a2,hf2,.inr ⟨h0,mono hs2⟩,(endE hE h0).1⟩
 |for_ Γ0 _ a b x τ σ k _ _ _ hL hTa _ _ hTb _ _ kx hTx=>
  obtain⟨o,s2,hG,hs2,hs2',hf2,hE,run,mod,fin⟩:=withE a τ (by rw[hL];rfl) hTa (by omega) (by omega) (by omega);by_cases h0:s2.Kind=0
  ·obtain⟨-,hF,hW⟩:=hE.resolve_right (by omega);have sb:=sub b (by rw[hL];simp);have sx:=sub x (by rw[hL];simp);obtain⟨p,s3,hG3,hM3,hs3,hf3,-,hE3⟩:=CE (N-1) Γ b σ s2 hTb sb.1 sb.2 hs2 (.inl h0) (by omega);have run':∀o' s',Run m (.on s3 o0 (.call (.F s3.Locals.length o.v.N p.v.N x) s3 fun _ s=>.ret o0 s)) o' s'→Run m (z9H m t s1) o' s':=fun o' s' h=>run _ _ h0 (by
    rw[zq0 (by omega),zq0 (by omega),zq0 (by omega),zq0 (by omega),zq0 (by omega),zq1 k,hL];exact .call _ _ _ p s3 _ _ hG3 h)
   have mod':∀q,(if s3.Kind=0 then vX (List.length s3.Locals:Int) o.v.N m t (State.mk [] [] [] 0 [] 0 0 0 (Value.mk 0 [])) ⟨p.v,s3⟩ s3 else some s3)=some q→zU m s t=some q:=fun q h=>mod _ h0 (by
    rw[zq0 (by omega),zq0 (by omega),zq0 (by omega),zq0 (by omega),zq0 (by omega),zq1 k,v1m];unfold z4v;rw[hL,show idx [a,b,x] 1=some b from rfl,zB,hM3,zB];simp only;rw[h];rfl)
   by_cases h3:s3.Kind=0
   ·obtain⟨s4,hG4,hM4,hf4,hs4,hE4⟩:=v7t m f CS (N-1) ρ Γ x hTx sx.1 sx.2 p.v.N s3.Fuel.toNat o.v.N s3 hW.N_ hs3 (.inl h3) (by have:=hs3.fuel0;omega) (by omega);rw[←hs3.ll]at hG4 hM4;refine⟨o0,s4,run' _ _ (run_on.2 (.inl ⟨h3,.call _ _ _ o0 s4 _ _ hG4 (.ret _ _)⟩)),mod' _ (by rw[zq1 h3];exact hM4 t _ _ (by rw[hL];rfl) rfl),by omega,?_,hE4⟩;by_cases h4:s4.Kind=0
    ·exact .inl ⟨h4,mono hs4⟩
    ·exact .inr ⟨h4,mono hs4⟩
   ·exact⟨o0,s3,run' _ _ (run_on.2 (.inr ⟨h3,rfl,rfl⟩)),mod' _ (by rw[zq0 h3]),by omega,.inr ⟨h3,mono hs3⟩,(endE hE3 h3).1⟩
  ·obtain⟨a1,a2⟩:=fin h0;exact⟨o0,s2,a1,a2,hf2,.inr ⟨h0,mono hs2⟩,(endE hE h0).1⟩
 |set Γ0 _ a b τ σ r k _ _ _ hL hTa hTb hbare hR hr=>
  have sa:=sub a (by rw[hL];simp);have sb:=sub b (by rw[hL];simp);obtain⟨o,s2,hG,hM,hs2,hf2,-,hE⟩:=CE (N-1) Γ b σ s1 hTb sb.1 sb.2 hst (.inl hk1) hf;have run:∀o' s',Run m (.on s2 o0 (if r.K=9 then .opt (y7j s2.Globals r.N) fun v=>.call (.Y a v) s2 fun p s'=>.on s' o0 (.opt (y7j s'.Globals r.N) fun u=>.opt (wO u p.w o.v) fun x=>.ret o0 {s' with Globals:=s'.Globals.set r.N.toNat x})
    else .opt (z8J s2.Locals r.N) fun v=>.call (.Y a v) s2 fun p s'=>.on s' o0 (.opt (z8J s'.Locals r.N) fun u=>.opt (wO u p.w o.v) fun x=>.ret o0 {s' with Locals:=(s'.Locals.reverse.set r.N.toNat x).reverse}))) o' s'→Run m (z9H m t s1) o' s':=fun o' s' h=>by
   unfold z9H;rw[zq0 (by omega),zq0 (by omega),zq1 k,hL];refine .call _ _ _ o s2 _ _ hG ?_;rw[v6T hR hr];exact h
  have mod:∀q,(if s2.Kind=0 then vI m s2 t (State.mk [] [] [] 0 [] 0 0 0 (Value.mk 0 [])) ⟨o.v,s2⟩ r else some s2)=some q→zU m s t=some q:=fun q h=>by
   rw[z0G];unfold jD;rw[hpay,zB,zq1 hk1,zq0 (by omega),zq0 (by omega),zq1 k,v1n];unfold z4w;rw[hL,show idx [a,b] 1=some b from rfl,show idx [a,b] 0=some a from rfl,zB,hM,zB];simp only;rw[zB,v6a hR hr,h];rfl
  by_cases h0:s2.Kind=0
  ·obtain⟨-,hF,hW⟩:=hE.resolve_right (by omega);obtain⟨ρr,hTr,hY⟩:=v7H m hm f CE (N-1) Γ r a τ hTa sa.1 sa.2 hR hr;have ia:idx t.L 0=some a:=by rw[hL];rfl
   cases hTr with
   |rule _ _ p _ _ _ hne hpl _ hRR=>cases hRR<;>omega
   |alone _ _ _ _ _ _ _ hA=>
    cases hA with
    |num k'=>omega
    |tru k' _=>omega
    |coni _ _ k' _ _ _=>omega
    |conb _ _ k' _ _ _=>omega
    |read k'=>omega
    |glob d x k' hd' hx=>
     obtain⟨n,hN',hdn,hdk⟩:=hd'.nat;have hlt:n<s2.Globals.length:=by rw[hs2.gl];exact(List.getElem?_eq_some_iff.1 hdn).1
     have hgv:=List.getElem?_eq_getElem hlt;obtain⟨p,s3,hG3,hM3,hs3,hf3,hk3,hwl,ψ,hpath,hψ⟩:=hY x s2.Globals[n] s2 (z5v x).symm (hs2.gf n d x _ hdn hdk hx hgv) hs2 h0 (by omega);have run:∀o' s',Run m (.on s3 o0 (.opt (y7j s3.Globals r.N) fun u=>.opt (wO u p.w o.v) fun x=>.ret o0 {s3 with Globals:=s3.Globals.set r.N.toNat x})) o' s'→Run m (z9H m t s1) o' s':=fun o' s' h=>run _ _ (run_on.2 (.inl ⟨h0,by
      rw[zq1 k',hN',y0l,hgv,←hN'];exact .call _ _ _ p s3 _ _ hG3 h⟩))
     have mod:∀q,(if s3.Kind=0 then idx s3.Globals r.N>>=fun x5=>wO x5 p.w o.v>>=fun q2=>z3U s3.Globals r.N q2>>=fun q3=>some ({s3 with Globals:=q3})else some s3)=some q→zU m s t=some q:=fun q h=>mod _ (by
      rw[zq1 h0,z5o];unfold z0f;rw[zq0 (by omega),zq0 (by omega),zq1 k',ia,zB,hN',wF hlt,zB,hM3,zB,←hN'];exact h)
     by_cases h3:s3.Kind=0
     ·have hlt3:n<s3.Globals.length:=by rw[hs3.gl,←hs2.gl];exact hlt
      have hgv3:=List.getElem?_eq_getElem hlt3;obtain⟨u,eu,hu,huw⟩:=v1W hpath s3.Globals[n] o.v (hs3.gf n d x _ hdn hdk hx hgv3) (hs3.gw _ (List.getElem_mem hlt3)) (hF.congr _ (by rw[hψ h3,hbare])) hW;refine⟨o0,{s3 with Globals:=s3.Globals.set n u},run _ _ (run_on.2 (.inl ⟨h3,?_⟩)),mod _ ?_,by simp only;omega,.inl ⟨h3,mono (hs3.setG hdn hx hu huw)⟩,.inl h3⟩
      ·rw[hN',y0l,hgv3];show Run m (P.opt (wO s3.Globals[n] p.w o.v) _) _ _;rw[eu];exact .ret _ _
      ·rw[zq1 h3,hN',wF hlt3,zB,eu,zB,v4u hlt3 (by rw[hs3.gl];omega)];rfl
     ·exact⟨o0,s3,run _ _ (run_on.2 (.inr ⟨h3,rfl,rfl⟩)),mod _ (by rw[zq0 h3]),by omega,.inr ⟨h3,mono hs3⟩,.inr (.inr (hk3.resolve_left h3))⟩
    |loc n x k' hN' hn hx=>
     have hll:=hs2.ll;have hlt:n<s2.Locals.length:=by omega
     have hlt':s2.Locals.length-1-n<s2.Locals.length:=by omega
     obtain⟨p,s3,hG3,hM3,hs3,hf3,hk3,hwl,ψ,hpath,hψ⟩:=hY x s2.Locals[s2.Locals.length-1-n] s2 (z5v x).symm (hs2.lf (s2.Locals.length-1-n) x _ (by rw[hll];exact hx) (List.getElem?_eq_getElem hlt')) hs2 h0 (by omega);have hll3:s3.Locals.length=s2.Locals.length:=by rw[hs3.ll,hll]
     have run:∀o' s',Run m (.on s3 o0 (.opt (z8J s3.Locals r.N) fun u=>.opt (wO u p.w o.v) fun x=>.ret o0 {s3 with Locals:=(s3.Locals.reverse.set r.N.toNat x).reverse})) o' s'→Run m (z9H m t s1) o' s':=fun o' s' h=>run _ _ (run_on.2 (.inl ⟨h0,by
      rw[zq0 (by omega),hN',y2x hlt,←hN'];exact .call _ _ _ p s3 _ _ hG3 h⟩))
     have mod:∀q,(if s3.Kind=0 then idx s3.Locals (IntKind.wrap .i64 ((IntKind.wrap .i64 ((List.length s2.Locals:Int)-1))-r.N))>>=fun x5=>wO x5 p.w o.v>>=fun q2=>z3U s3.Locals (IntKind.wrap .i64 ((IntKind.wrap .i64 ((List.length s2.Locals:Int)-1))-r.N)) q2>>=fun q3=>some ({s3 with Locals:=q3})else some s3)=some q→zU m s t=some q:=fun q h=>mod _ (by
      rw[zq1 h0,z5o];unfold z0f;rw[zq0 (by omega),zq0 (by omega),zq0 (by omega),ia,zB,hN',y9h hlt hs2.locals_le,zB,hM3,zB,←hN'];exact h)
     by_cases h3:s3.Kind=0
     ·have hlt3:n<s3.Locals.length:=by omega
      have hlt3':s3.Locals.length-1-n<s3.Locals.length:=by omega
      obtain⟨u,eu,hu,huw⟩:=v1W hpath s3.Locals[s3.Locals.length-1-n] o.v (hs3.lf (s3.Locals.length-1-n) x _ (by rw[hs3.ll];exact hx) (List.getElem?_eq_getElem hlt3')) (hs3.lw _ (List.getElem_mem hlt3')) (hF.congr _ (by rw[hψ h3,hbare])) hW;have ewr:IntKind.wrap .i64 (IntKind.wrap .i64 ((s2.Locals.length:Int)-1)-n)=((s3.Locals.length-1-n:Nat):Int):=by
       have:=hs2.locals_le;rw[z3c (n:=(s2.Locals.length:Int)-1) (by omega) (by omega),z3c (by omega) (by omega)];omega
      refine⟨o0,{s3 with Locals:=s3.Locals.set (s3.Locals.length-1-n) u},run _ _ (run_on.2 (.inl ⟨h3,?_⟩)),mod _ ?_,by simp only;omega,.inl ⟨h3,mono (hs3.setL (by rw[hs3.ll];exact hx) hu huw)⟩,.inl h3⟩
      ·rw[hN',y2x hlt3];show Run m (P.opt (wO s3.Locals[s3.Locals.length-1-n] p.w o.v) _) _ _;rw[eu,←v6Z hlt3];exact .ret _ _
      ·rw[zq1 h3,hN',ewr,wF hlt3',zB,eu,zB,v4u hlt3' (by have:=hs3.locals_le;omega)];rfl
     ·exact⟨o0,s3,run _ _ (run_on.2 (.inr ⟨h3,rfl,rfl⟩)),mod _ (by rw[zq0 h3]),by omega,.inr ⟨h3,mono hs3⟩,.inr (.inr (hk3.resolve_left h3))⟩
  ·refine⟨o0,s2,run _ _ (run_on.2 (.inr ⟨h0,rfl,rfl⟩)),mod _ (by rw[zq0 h0]),by omega,.inr ⟨h0,mono hs2⟩,(endE hE h0).1⟩
theorem v3V(m:zA)(hm:ModOk m)(hms:zJ m≤100000000)(hmw:zA.Wf m)(f:Nat):y5u m f∧y5v m f:=by
 induction f with
 |zero=>
  refine⟨fun N Γ t τ s hT hw hts hs hk hf=>?_,fun N ρ Γ Γ' t s hT hw hts hs hk hf=>?_⟩
  ·by_cases k0:s.Kind=0
   ·refine⟨o0,{s with Kind:=3},.dry _ _ k0 hf,?_,hs.same rfl rfl rfl rfl rfl rfl hs.rt,Int.le_refl _,fun h=>absurd h (show ¬(3:Int)=0 by decide),.inr ⟨.inr rfl,rfl⟩⟩;rw[uM];unfold wT;rw[y4q k0 hf,zB,zq0 (show ¬(3:Int)=0 by decide)];rfl
   ·have e:=y1f (m:=m) (t:=t) k0;exact⟨o0,s,e.1,e.2,hs,Int.le_refl _,fun h=>absurd h k0,.inr ⟨by omega,rfl⟩⟩
  ·refine⟨o0,{s with Kind:=3},.dry _ _ hk hf,?_,Int.le_refl _,.inr ⟨show(3:Int)≠0 by decide,hs.same rfl rfl rfl rfl rfl rfl hs.rt⟩,.inr (.inr (.inr rfl))⟩;rw[z0G];unfold jD;rw[y4q hk hf,zB,zq0 (show ¬(3:Int)=0 by decide)]
 |succ f ih=>
  obtain⟨CE,CS⟩:=ih;have CL:=v7u m f CE;have CC:=v7s m hms hmw f CS;have CB:=v7r m f CS;refine⟨fun N Γ t τ s hT hw hts hs hk hf=>?_,fun N ρ Γ Γ' t s hT hw hts hs hk hf=>?_⟩
  ·by_cases k0:s.Kind=0
   ·by_cases hd':s.Fuel≤0
    ·refine⟨o0,{s with Kind:=3},.dry _ _ k0 hd',?_,hs.same rfl rfl rfl rfl rfl rfl hs.rt,Int.le_refl _,fun h=>absurd h (show ¬(3:Int)=0 by decide),.inr ⟨.inr rfl,rfl⟩⟩;rw[uM];unfold wT;rw[y4q k0 hd',zB,zq0 (show ¬(3:Int)=0 by decide)];rfl
    ·have hs1:=hs.pay (by omega:0<s.Fuel);obtain⟨o,s',hR,hM,hs',hf',hE⟩:=v3Z m hm hms hmw f CE CL CC (N-1) Γ t τ s _ (v4G k0 (by omega) hs.fuel1) k0 hT hw hts hs1 (by simp only;omega);simp only at hf';exact⟨o,s',.pay _ _ _ _ k0 (by omega) hR,hM,hs'.mono (by omega) hs.trN,by omega,fun _=>⟨by omega,hs'⟩,hE⟩
   ·have e:=y1f (m:=m) (t:=t) k0;exact⟨o0,s,e.1,e.2,hs,Int.le_refl _,fun h=>absurd h k0,.inr ⟨by omega,rfl⟩⟩
  ·by_cases hd':s.Fuel≤0
   ·refine⟨o0,{s with Kind:=3},.dry _ _ hk hd',?_,Int.le_refl _,.inr ⟨show(3:Int)≠0 by decide,hs.same rfl rfl rfl rfl rfl rfl hs.rt⟩,.inr (.inr (.inr rfl))⟩;rw[z0G];unfold jD;rw[y4q hk hd',zB,zq0 (show ¬(3:Int)=0 by decide)]
   ·have hs1:=hs.pay (by omega:0<s.Fuel);have hroom:=hs.room;have hll:=hs.ll;obtain⟨o,s',hR,hM,hf',hs',hE⟩:=v4Z m hm hms hmw f CE CS CB N ρ Γ Γ' t s _ (v4G hk (by omega) hs.fuel1) hk hT hw hts hs1 hs.trN (by simp only;omega) (by simp only;omega);simp only at hf';exact⟨o,s',.pay _ _ _ _ hk (by omega) hR,hM,by omega,hs'.elim (fun h=>.inl ⟨h.1,by omega,h.2⟩) .inr,hE⟩
theorem y7A{n k:Nat}(h:n<k)(hk:k≤9223372036854775807):IntKind.wrap .i64 ((n:Int)+1)=((n+1:Nat):Int):=by rw[z8q];exact z3c (by omega) (by omega)
theorem v5k(v:Value):Value.Wf v→∀left levels:Int,0≤left→left≤1000000→levels≤1000000→∃n,wX v left levels=some n∧-1≤n∧n≤left:=by
 induction v using Value.ind with
 |h v ih=>
  intro hw left levels h0 h1 h2;rw[y7t];unfold z2w;by_cases c:levels≤0
  ·rw[zq1 c];exact⟨_,rfl,by omega,by omega⟩
  rw[zq0 c,z3c (n:=left-1) (by omega) (by omega)];have loop:∀(k i:Nat) (l:Int),i+k=v.L.length→-1≤l→l≤left→∃n,yV l levels i v=some n∧-1≤n∧n≤l:=by
   intro k;induction k with
   |zero=>
    intro i l hi hl hl';rw[z7a];unfold gR;rw[zq0 (by omega)];exact⟨_,rfl,hl,Int.le_refl _⟩
   |succ k ihk=>
    intro i l hi hl hl';have hlt:i<v.L.length:=by omega
    rw[z7a];unfold gR;rw[zq1 (by omega)];by_cases c2:l≥0
    ·have hm:=List.getElem_mem hlt;obtain⟨n,en,n0,n1⟩:=ih _ hm (hw.L_.2 _ hm) l (levels-1) c2 (by omega) (by omega);rw[zq1 c2,wF hlt,zB,z3c (n:=levels-1) (by omega) (by omega),en,zB,y7A hlt hw.L_.1];obtain⟨n',en',h1',h2'⟩:=ihk (i+1) n (by omega) n0 (by omega);exact⟨n',en',h1',by omega⟩
    ·rw[zq0 c2];exact⟨_,rfl,hl,Int.le_refl _⟩
  obtain⟨n,en,n0,n1⟩:=loop v.L.length 0 (left-1) (by omega) (by omega) (by omega);exact⟨n,en,n0,by omega⟩
theorem y9L(v:Value)(hw:Value.Wf v):∃b,z4t v=some b:=by
 obtain⟨n,en,-⟩:=v5k v hw 300 60 (by omega) (by omega) (by omega);unfold z4t;rw[en];exact⟨_,rfl⟩
theorem v1B(l:List Value)(hw:∀v∈l,Value.Wf v)(hl:l.length≤9223372036854775807):∃b,z4u l=some b∧(b=false→l.length≤40):=by
 have loop:∀(k i:Nat),i+k=l.length→∃b,vH l i=some b∧(b=false→l.length≤40):=by
  intro k;induction k with
  |zero=>
   intro i hi;rw[z7c];unfold gW;rw[zq0 (by omega)];exact⟨_,rfl,fun h=>by have:=of_decide_eq_false h;omega⟩
  |succ k ih=>
   intro i hi;have hlt:i<l.length:=by omega
   rw[z7c];unfold gW;rw[zq1 (by omega)];by_cases c:(i:Int)<40
   ·obtain⟨b,eb⟩:=y9L l[i] (hw _ (List.getElem_mem hlt));rw[zq1 c,wF hlt,zB,eb,zB,y7A hlt hl];cases b with
    |true=>rw[zq1 rfl];exact⟨_,rfl,fun h=>Bool.noConfusion h⟩
    |false=>rw[zq0 (by decide)];exact ih (i+1) (by omega)
   ·rw[zq0 c];exact⟨_,rfl,fun h=>by have:=of_decide_eq_false h;omega⟩
 unfold z4u;exact loop l.length 0 (by omega)
structure v2j(s:State):Prop where
 g:s.Globals.length≤40
 l:s.Locals.length≤40
 i:s.Input.length≤100
 t:s.Trace.length≤200
 f:s.Fuel≤3000
theorem v4U(s:State)(hw:State.Wf s):∃b,z3C s=some b∧(b=false→v2j s):=by
 unfold z3C;by_cases c1:(List.length s.Globals:Int)>40
 ·rw[zq1 c1];exact⟨_,rfl,fun h=>Bool.noConfusion h⟩
 rw[zq0 c1];by_cases c2:(List.length s.Locals:Int)>40
 ·rw[zq1 c2];exact⟨_,rfl,fun h=>Bool.noConfusion h⟩
 rw[zq0 c2];by_cases c3:(List.length s.Input:Int)>100
 ·rw[zq1 c3];exact⟨_,rfl,fun h=>Bool.noConfusion h⟩
 rw[zq0 c3];by_cases c4:(List.length s.Trace:Int)>200
 ·rw[zq1 c4];exact⟨_,rfl,fun h=>Bool.noConfusion h⟩
 rw[zq0 c4];by_cases c5:s.Fuel>3000
 ·rw[zq1 c5];exact⟨_,rfl,fun h=>Bool.noConfusion h⟩
 rw[zq0 c5];obtain⟨b1,e1⟩:=y9L s.Ret hw.Ret_;obtain⟨b2,e2,-⟩:=v1B s.Globals hw.Globals_.2 hw.Globals_.1;obtain⟨b3,e3,-⟩:=v1B s.Locals hw.Locals_.2 hw.Locals_.1;have sm:v2j s:=⟨by omega,by omega,by omega,by omega,by omega⟩;rw[e1,zB];cases b1 with
 |true=>rw[zq1 rfl];exact⟨_,rfl,fun h=>Bool.noConfusion h⟩
 |false=>
  rw[zq0 (by decide),e2,zB];cases b2 with
  |true=>rw[zq1 rfl];exact⟨_,rfl,fun h=>Bool.noConfusion h⟩
  |false=>rw[zq0 (by decide),e3,zB];exact⟨_,rfl,fun _=>sm⟩
theorem v1V(a:Value):∃b,wR a v0=some b∧(b=true↔a=v0):=by
 rw[y1J];unfold z2d;by_cases h1:a.N=0
 ·rw[zq1 h1];by_cases h2:(List.length a.L:Int)=((List.length ([]:List Value):Nat):Int)
  ·rw[zq1 h2,z4V];unfold gD;rw[zq0 (by rw[h2];simp)];exact⟨_,rfl,fun _=>y4H h1 (List.length_eq_zero_iff.1 (by simpa using h2)),fun _=>rfl⟩
  ·rw[zq0 h2];exact⟨_,rfl,fun h=>Bool.noConfusion h,fun h=>absurd (by rw[h]) h2⟩
 ·rw[zq0 h1];exact⟨_,rfl,fun h=>Bool.noConfusion h,fun h=>absurd (by rw[h]) h1⟩
theorem v6Y(m:zA)(Γ:List zA)(l:List Value)(hm:zJ m≤1000000000)(hΓ:∀x∈Γ,zJ x≤1000000000)(hl:l.length≤9223372036854775807):∃b,y0w m Γ l=some b∧(b=true↔l.length=Γ.length∧∀(i:Nat) τ v,Γ[i]?=some τ→l[i]?=some v→Fit m τ v):=by
 have loop:∀(k i:Nat),i+k=l.length→Γ.length=l.length→∃b,wI Γ l i m=some b∧(b=true↔∀(j:Nat) τ v,i≤j→Γ[j]?=some τ→l[j]?=some v→Fit m τ v):=by
  intro k;induction k with
  |zero=>
   intro i hi hle;rw[z8W];unfold z0P;rw[zq0 (by omega)];exact⟨_,rfl,fun _ j τ v hj hx hy=>absurd (List.getElem?_eq_some_iff.1 hy).1 (by omega),fun _=>rfl⟩
  |succ k ih=>
   intro i hi hle;have hlt:i<l.length:=by omega
   have hlt':i<Γ.length:=by omega
   obtain⟨b,eb,hb⟩:=v4c hm l[i] Γ[i] (hΓ _ (List.getElem_mem hlt'));rw[z8W];unfold z0P;rw[zq1 (by omega),wF hlt',zB,wF hlt,zB,eb,zB,y7A hlt hl];cases b with
   |true=>
    rw[zq1 rfl];obtain⟨c,ec,hc⟩:=ih (i+1) (by omega) hle;refine⟨c,ec,hc.trans ⟨fun h j τ v hj hx hy=>?_,fun h j τ v hj hx hy=>h j τ v (by omega) hx hy⟩⟩;by_cases e:j=i
    ·subst e;rw[List.getElem?_eq_getElem hlt']at hx;rw[List.getElem?_eq_getElem hlt]at hy;cases hx;cases hy;exact hb.1 rfl
    ·exact h j τ v (by omega) hx hy
   |false=>
    rw[zq0 (by decide)];exact⟨_,rfl,fun h=>Bool.noConfusion h,fun h=>absurd (hb.2 (h i _ _ (Nat.le_refl _) (List.getElem?_eq_getElem hlt') (List.getElem?_eq_getElem hlt))) (by decide)⟩
 unfold y0w;by_cases c:(List.length Γ:Int)=(List.length l:Int)
 ·rw[zq1 c];obtain⟨b,eb,hb⟩:=loop l.length 0 (by omega) (by omega);exact⟨b,eb,hb.trans ⟨fun h=>⟨by omega,fun i τ v hx hy=>h i τ v (by omega) hx hy⟩,fun h i τ v _ hx hy=>h.2 i τ v hx hy⟩⟩
 ·rw[zq0 c];exact⟨_,rfl,fun h=>Bool.noConfusion h,fun h=>absurd h.1 (by omega)⟩
structure v6v(m:zA)(s:State):Prop where
 gl:s.Globals.length=m.L.length
 at0:0≤s.At
 at1:s.At≤(s.Input.length:Int)
 f0:0≤s.Fuel
 f1:s.Fuel≤65536
 k:s.Kind=0
 n:s.N=0
 r:s.Ret=v0
 gf:∀(i:Nat) d v,m.L[i]?=some d→s.Globals[i]?=some v→(d.K=32→∀x,d.L=[x]→Fit m x v)∧(d.K≠32→v=v0)
theorem v6b(m:zA)(s:State)(hm:ModOk m)(hms:zJ m≤1000000000):∃b,z8m m s=some b∧(b=true→v6v m s):=by
 have hml:=vR m;have no:∃b,some false=some b∧(b=true→v6v m s):=⟨_,rfl,fun h=>Bool.noConfusion h⟩;unfold z8m;by_cases c1:(List.length s.Globals:Int)=(List.length m.L:Int)
 ·rw[zq1 c1];by_cases c2:s.At<0
  ·rw[zq1 c2];exact no
  rw[zq0 c2];by_cases c3:s.At>(List.length s.Input:Int)
  ·rw[zq1 c3];exact no
  rw[zq0 c3];by_cases c4:s.Fuel<0
  ·rw[zq1 c4];exact no
  rw[zq0 c4];by_cases c5:s.Fuel>65536
  ·rw[zq1 c5];exact no
  rw[zq0 c5];by_cases c6:s.Kind=0
  ·rw[zq1 c6];by_cases c7:s.N=0
   ·rw[zq1 c7];obtain⟨b,eb,hb⟩:=v1V s.Ret;rw[eb,zB];cases b with
    |false=>rw[zq0 (by decide)];exact no
    |true=>
     rw[zq1 rfl];have loop:∀(k i:Nat),i+k=m.L.length→∃b,vA i m s=some b∧(b=true→∀(j:Nat) d v,i≤j→m.L[j]?=some d→s.Globals[j]?=some v→(d.K=32→∀x,d.L=[x]→Fit m x v)∧(d.K≠32→v=v0)):=by
      intro k;induction k with
      |zero=>
       intro i hi;rw[z8n];unfold z0r;rw[zq0 (by omega)];exact⟨_,rfl,fun _ j d v hj hd'=>absurd (List.getElem?_eq_some_iff.1 hd').1 (by omega)⟩
      |succ k ih=>
       intro i hi;have hlt:i<m.L.length:=by omega
       have hlt':i<s.Globals.length:=by omega
       have gm:=List.getElem?_eq_getElem hlt;have gg:=List.getElem?_eq_getElem hlt';obtain⟨b,eb,hb⟩:=ih (i+1) (by omega);have ext:(m.L[i].K=32→∀x,m.L[i].L=[x]→Fit m x s.Globals[i])→(m.L[i].K≠32→s.Globals[i]=v0)→b=true→∀(j:Nat) d v,i≤j→m.L[j]?=some d→s.Globals[j]?=some v→(d.K=32→∀x,d.L=[x]→Fit m x v)∧(d.K≠32→v=v0):=fun h1 h2 hbt j d v hj hd' hv=>by
        by_cases e:j=i
        ·subst e;rw[gm]at hd';rw[gg]at hv;cases hd';cases hv;exact⟨h1,h2⟩
        ·exact hb hbt j d v (by omega) hd' hv
       rw[z8n];unfold z0r;simp only[wF hlt,wF hlt',zB];rw[zq1 (by omega),z1n (by omega)];by_cases k:m.L[i].K=32
       ·obtain⟨x,hx,-⟩:=hm.vartype gm k;have s1:=zR (List.mem_of_getElem? gm);have s2:=z3b hx;obtain⟨b',eb',hb'⟩:=v4c hms s.Globals[i] x (by omega);rw[zq1 k,hx,show idx [x] 0=some x from rfl,zB,eb',zB];cases b' with
        |true=>
         rw[zq1 rfl,zq1 k];exact⟨b,eb,ext (fun _ y hy=>by rw[hx]at hy;injection hy with hy;subst hy;exact hb'.1 rfl) (fun h=>absurd k h)⟩
        |false=>rw[zq0 (by decide)];exact⟨_,rfl,fun h=>Bool.noConfusion h⟩
       ·obtain⟨b',eb',hb'⟩:=v1V s.Globals[i];rw[zq0 k,zq0 k,eb',zB];cases b' with
        |true=>rw[zq1 rfl];exact⟨b,eb,ext (fun h=>absurd h k) (fun _=>hb'.1 rfl)⟩
        |false=>rw[zq0 (by decide)];exact⟨_,rfl,fun h=>Bool.noConfusion h⟩
     obtain⟨b,eb,hb'⟩:=loop m.L.length 0 (by omega);exact⟨b,eb,fun h=>⟨by omega,by omega,by omega,by omega,by omega,c6,c7,hb.1 rfl,fun i d v=>hb' h i d v (by omega)⟩⟩
   ·rw[zq0 c7];exact no
  ·rw[zq0 c6];exact no
 ·rw[zq0 c1];exact no
theorem v7W{m:zA}{Γ:List zA}{s:State}(hm:ModOk m)(hms:zJ m≤1000000000)(hΓ:∀x∈Γ,zJ x≤1000000000)(hw:State.Wf s)(hs:v2j s)(hf:v6v m s)(hl:s.Locals.length=Γ.length∧∀(i:Nat) τ v,Γ[i]?=some τ→s.Locals[i]?=some v→Fit m τ v):StOk m 1000000000 Γ s where
 gl:=hf.gl
 gf:=fun i d x v h1 h2 h3 h4=>(hf.gf i d v h1 h4).1 h2 x h3
 gw:=fun v hv=>by
  obtain⟨i,hi⟩:=List.getElem?_of_mem hv;have hlt:i<m.L.length:=by rw[←hf.gl];exact(List.getElem?_eq_some_iff.1 hi).1
  have gm:=List.getElem?_eq_getElem hlt;have s1:=zR (List.mem_of_getElem? gm);obtain⟨h1,h2⟩:=hf.gf i _ v gm hi;by_cases k:m.L[i].K=32
  ·obtain⟨x,hx,-⟩:=hm.vartype gm k;have s2:=z3b hx;exact .of ((h1 k x hx).vok hms (by omega)) (hw.Globals_.2 v hv)
  ·rw[h2 k];exact v6g
 ll:=hl.1
 lf:=hl.2
 lw:=fun v hv=>by
  obtain⟨i,hi⟩:=List.getElem?_of_mem hv;have hlt:i<Γ.length:=by rw[←hl.1];exact(List.getElem?_eq_some_iff.1 hi).1
  exact .of ((hl.2 i _ v (List.getElem?_eq_getElem hlt) hi).vok hms (hΓ _ (List.getElem_mem hlt))) (hw.Locals_.2 v hv)
 at0:=hf.at0
 at1:=hf.at1
 inl:=by have:=hs.i;omega
 inw:=hw.Input_.2
 fuel0:=hf.f0
 fuel1:=by have:=hs.f;omega
 room:=by have:=hs.l;have:=hs.f;omega
 tr:=by have:=hs.t;have:=hs.f;omega
 trN:=by omega
 rt:=by rw[hf.r];exact v6g
theorem StOk.fuel{m:zA}{N:Int}{Γ:List zA}{s:State}(h:StOk m N Γ s){f:Int}(h0:0≤f)(h1:f≤1000000)(h2:(s.Locals.length:Int)+f≤1000000000)(h3:(s.Trace.length:Int)+f≤N):StOk m N Γ {s with Fuel:=f}:=
 {h with fuel0:=h0,fuel1:=h1,room:=h2,tr:=h3}
inductive Fl:State→P→Prop
 |ret (s:State) (o:Out) (s':State):s'.Fuel≤s.Fuel→(s.Kind=3→s'.Kind=3)→Fl s (.ret o s')
 |call (s:State) (j:Job) (s1:State) (k:Out→State→P):s1.Fuel≤s.Fuel→(s.Kind=3→s1.Kind=3)→(∀o s2,s2.Fuel≤s1.Fuel→(s1.Kind=3→s2.Kind=3)→Fl s2 (k o s2))→Fl s (.call j s1 k)
 |pay (s s1:State) (k:State→P):s1.Fuel≤s.Fuel→(s.Kind=3→s1.Kind=3)→(∀s2,s2.Kind=0→Fl s2 (k s2))→Fl s (.pay s1 k)
 |bad (s:State):Fl s .bad
theorem Fl.opt{α:Type}{s:State}{x:Option α}{k:α→P}(h:∀a,Fl s (k a)):Fl s (.opt x k):=by
 cases x with
 |none=>exact .bad s
 |some a=>exact h a
theorem Fl.on{s s':State}{o:Out}{k:P}(h:Fl s (.ret o s'))(h':s'.Kind=0→Fl s k):Fl s (.on s' o k):=by
 unfold P.on;split
 ·exact h' (by assumption)
 ·exact h
theorem Fl.ite{c:Prop}[Decidable c]{s:State}{p q:P}(h:c→Fl s p)(h':¬c→Fl s q):Fl s (if c then p else q):=by
 split
 ·exact h (by assumption)
 ·exact h' (by assumption)
theorem Fl.cut{s s':State}{n:Nat}{k:State→P}(h:Fl s (k {s' with Locals:=s'.Locals.take n})):Fl s (cut s' n k):=by
 unfold M.cut;split
 ·exact h
 ·exact .bad s
theorem y4A(m:zA)(j:Job)(s:State):Fl s (step m j s):=by
 cases j with
 |E t=>
  refine .pay _ _ _ (Int.le_refl _) id fun s1 h0=>?_;unfold z1G
  (repeat' (first|assumption|exact id|exact Int.le_refl _|exact Fl.bad _|(refine Fl.ret _ _ _ ?_ ?_)|(refine Fl.call _ _ _ _ ?_ ?_ ?_)|(refine Fl.pay _ _ _ ?_ ?_ ?_)|(apply Fl.on)|(apply Fl.cut)|(apply Fl.opt)|(apply Fl.ite)|(intro _)|(simp only[z8X]at *;omega)))
 |L l=>
  cases l with
  |nil=>exact .ret _ _ _ (Int.le_refl _) id
  |cons x r=>show Fl s (P.call _ _ _);(repeat' (first|assumption|exact id|exact Int.le_refl _|exact Fl.bad _|(refine Fl.ret _ _ _ ?_ ?_)|(refine Fl.call _ _ _ _ ?_ ?_ ?_)|(refine Fl.pay _ _ _ ?_ ?_ ?_)|(apply Fl.on)|(apply Fl.cut)|(apply Fl.opt)|(apply Fl.ite)|(intro _)|(simp only[z8X]at *;omega)))
 |C f a=>
  show Fl s (v3C m f a s);unfold v3C
  (repeat' (first|assumption|exact id|exact Int.le_refl _|exact Fl.bad _|(refine Fl.ret _ _ _ ?_ ?_)|(refine Fl.call _ _ _ _ ?_ ?_ ?_)|(refine Fl.pay _ _ _ ?_ ?_ ?_)|(apply Fl.on)|(apply Fl.cut)|(apply Fl.opt)|(apply Fl.ite)|(intro _)|(simp only[z8X]at *;omega)))
 |S t=>
  refine .pay _ _ _ (Int.le_refl _) id fun s1 h0=>?_;unfold z9H
  (repeat' (first|assumption|exact id|exact Int.le_refl _|exact Fl.bad _|(refine Fl.ret _ _ _ ?_ ?_)|(refine Fl.call _ _ _ _ ?_ ?_ ?_)|(refine Fl.pay _ _ _ ?_ ?_ ?_)|(apply Fl.on)|(apply Fl.cut)|(apply Fl.opt)|(apply Fl.ite)|(intro _)|(simp only[z8X]at *;omega)))
 |B l=>
  cases l with
  |nil=>exact .ret _ _ _ (Int.le_refl _) id
  |cons x r=>show Fl s (P.call _ _ _);(repeat' (first|assumption|exact id|exact Int.le_refl _|exact Fl.bad _|(refine Fl.ret _ _ _ ?_ ?_)|(refine Fl.call _ _ _ _ ?_ ?_ ?_)|(refine Fl.pay _ _ _ ?_ ?_ ?_)|(apply Fl.on)|(apply Fl.cut)|(apply Fl.opt)|(apply Fl.ite)|(intro _)|(simp only[z8X]at *;omega)))
 |W v t=>show Fl s (P.on _ _ _);(repeat' (first|assumption|exact id|exact Int.le_refl _|exact Fl.bad _|(refine Fl.ret _ _ _ ?_ ?_)|(refine Fl.call _ _ _ _ ?_ ?_ ?_)|(refine Fl.pay _ _ _ ?_ ?_ ?_)|(apply Fl.on)|(apply Fl.cut)|(apply Fl.opt)|(apply Fl.ite)|(intro _)|(simp only[z8X]at *;omega)))
 |F n i hi x=>show Fl s (P.pay _ _);(repeat' (first|assumption|exact id|exact Int.le_refl _|exact Fl.bad _|(refine Fl.ret _ _ _ ?_ ?_)|(refine Fl.call _ _ _ _ ?_ ?_ ?_)|(refine Fl.pay _ _ _ ?_ ?_ ?_)|(apply Fl.on)|(apply Fl.cut)|(apply Fl.opt)|(apply Fl.ite)|(intro _)|(simp only[z8X]at *;omega)))
 |Y t kept=>
  show Fl s (if _ then _ else _)
  (repeat' (first|assumption|exact id|exact Int.le_refl _|exact Fl.bad _|(refine Fl.ret _ _ _ ?_ ?_)|(refine Fl.call _ _ _ _ ?_ ?_ ?_)|(refine Fl.pay _ _ _ ?_ ?_ ?_)|(apply Fl.on)|(apply Fl.cut)|(apply Fl.opt)|(apply Fl.ite)|(intro _)|(simp only[z8X]at *;omega)))
theorem v1T{m:zA}{p:P}{o:Out}{s':State}(h:Run m p o s'):∀s,Fl s p→s'.Fuel≤s.Fuel∧(s.Kind=3→s'.Kind=3):=by
 induction h with
 |ret o s' =>
  intro s hf;cases hf with|ret _ _ _ a b=>exact⟨a,b⟩
 |call j s1 k o1 s2 o s' _ _ ih1 ih2=>
  intro s hf;cases hf with
  |call _ _ _ _ a b c=>
   obtain⟨a1,b1⟩:=ih1 s1 (y4A m j s1);obtain⟨a2,b2⟩:=ih2 s2 (c o1 s2 a1 b1);exact⟨by omega,fun h=>b2 (b1 (b h))⟩
 |ended s1 k h=>
  intro s hf;cases hf with|pay _ _ _ a b _=>exact⟨a,b⟩
 |dry s1 k h1 h2=>
  intro s hf;cases hf with|pay _ _ _ a b _=>exact⟨a,fun _=>rfl⟩
 |pay s1 k o s' h1 h2 _ ih=>
  intro s hf;cases hf with
  |pay _ _ _ a b c=>
   obtain⟨a1,b1⟩:=ih _ (c {s1 with Fuel:=s1.Fuel-1} h1);exact⟨by simp only at a1;omega,fun h=>by have:=b h;omega⟩
abbrev y7W(s:State)(d:Int):State:={s with Fuel:=s.Fuel+d}
inductive SimF(d:Int):P→P→Prop
 |ret (o:Out) (s:State):SimF d (.ret o s) (.ret o (y7W s d))
 |call (j:Job) (s:State) (k k':Out→State→P):(∀o s1,SimF d (k o s1) (k' o (y7W s1 d)))→SimF d (.call j s k) (.call j (y7W s d) k')
 |pay (s:State) (k k':State→P):(∀s1,SimF d (k s1) (k' (y7W s1 d)))→SimF d (.pay s k) (.pay (y7W s d) k')
 |bad:SimF d .bad .bad
theorem SimF.opt{d:Int}{α:Type}{x:Option α}{k k':α→P}(h:∀a,SimF d (k a) (k' a)):SimF d (.opt x k) (.opt x k'):=by
 cases x with
 |none=>exact .bad
 |some a=>exact h a
theorem SimF.on{d:Int}{s:State}{o:Out}{k k':P}(h:SimF d k k'):SimF d (.on s o k) (.on (y7W s d) o k'):=by
 unfold P.on;show SimF d (if s.Kind=0 then k else .ret o s) (if s.Kind=0 then k' else .ret o (y7W s d));split
 ·exact h
 ·exact .ret _ _
theorem SimF.ite{d:Int}{c:Prop}[Decidable c]{p p' q q':P}(h:SimF d p p')(h':SimF d q q'):SimF d (if c then p else q) (if c then p' else q'):=by
 split
 ·exact h
 ·exact h'
theorem SimF.cut{d:Int}{s:State}{n:Nat}{k k':State→P}(h:∀s,SimF d (k s) (k' (y7W s d))):SimF d (cut s n k) (cut (y7W s d) n k'):=by
 unfold M.cut;show SimF d (if n≤s.Locals.length then _ else .bad) (if n≤s.Locals.length then _ else .bad);split
 ·exact h _
 ·exact .bad
theorem v1Z(m:zA)(d:Int)(j:Job)(s:State):SimF d (step m j s) (step m j (y7W s d)):=by
 cases j with
 |E t=>refine .pay _ _ _ fun s1=>?_;unfold z1G;(repeat' (first|exact SimF.bad|exact SimF.ret _ _|(refine SimF.call _ _ _ _ ?_)|(refine SimF.pay _ _ _ ?_)|(apply SimF.on)|(apply SimF.cut)|(apply SimF.opt)|(apply SimF.ite)|(intro _)))
 |L l=>
  cases l with
  |nil=>exact .ret _ _
  |cons x r=>show SimF d (P.call _ _ _) (P.call _ _ _);(repeat' (first|exact SimF.bad|exact SimF.ret _ _|(refine SimF.call _ _ _ _ ?_)|(refine SimF.pay _ _ _ ?_)|(apply SimF.on)|(apply SimF.cut)|(apply SimF.opt)|(apply SimF.ite)|(intro _)))
 |C f a=>show SimF d (v3C m f a s) (v3C m f a _);unfold v3C;(repeat' (first|exact SimF.bad|exact SimF.ret _ _|(refine SimF.call _ _ _ _ ?_)|(refine SimF.pay _ _ _ ?_)|(apply SimF.on)|(apply SimF.cut)|(apply SimF.opt)|(apply SimF.ite)|(intro _)))
 |S t=>refine .pay _ _ _ fun s1=>?_;unfold z9H;(repeat' (first|exact SimF.bad|exact SimF.ret _ _|(refine SimF.call _ _ _ _ ?_)|(refine SimF.pay _ _ _ ?_)|(apply SimF.on)|(apply SimF.cut)|(apply SimF.opt)|(apply SimF.ite)|(intro _)))
 |B l=>
  cases l with
  |nil=>exact .ret _ _
  |cons x r=>show SimF d (P.call _ _ _) (P.call _ _ _);(repeat' (first|exact SimF.bad|exact SimF.ret _ _|(refine SimF.call _ _ _ _ ?_)|(refine SimF.pay _ _ _ ?_)|(apply SimF.on)|(apply SimF.cut)|(apply SimF.opt)|(apply SimF.ite)|(intro _)))
 |W v t=>show SimF d (P.on _ _ _) (P.on _ _ _);(repeat' (first|exact SimF.bad|exact SimF.ret _ _|(refine SimF.call _ _ _ _ ?_)|(refine SimF.pay _ _ _ ?_)|(apply SimF.on)|(apply SimF.cut)|(apply SimF.opt)|(apply SimF.ite)|(intro _)))
 |F n i hi x=>show SimF d (P.pay _ _) (P.pay _ _);(repeat' (first|exact SimF.bad|exact SimF.ret _ _|(refine SimF.call _ _ _ _ ?_)|(refine SimF.pay _ _ _ ?_)|(apply SimF.on)|(apply SimF.cut)|(apply SimF.opt)|(apply SimF.ite)|(intro _)))
 |Y t kept=>show SimF d (if _ then _ else _) (if _ then _ else _);(repeat' (first|exact SimF.bad|exact SimF.ret _ _|(refine SimF.call _ _ _ _ ?_)|(refine SimF.pay _ _ _ ?_)|(apply SimF.on)|(apply SimF.cut)|(apply SimF.opt)|(apply SimF.ite)|(intro _)))
theorem v4P{m:zA}{p:P}{o:Out}{s':State}(d:Int)(h:Run m p o s'):∀s p',Fl s p→SimF d p p'→s'.Kind≠3→0≤s'.Fuel+d→Run m p' o (y7W s' d):=by
 induction h with
 |ret o s' =>
  intro s p' hf hs h3 h0;cases hs;exact .ret _ _
 |call j s1 k o1 s2 o s' hr1 hr2 ih1 ih2=>
  intro s p' hf hs h3 h0;cases hf with
  |call _ _ _ _ a b c=>
   obtain⟨a1,b1⟩:=v1T hr1 s1 (y4A m j s1);obtain⟨a2,b2⟩:=v1T hr2 s2 (c o1 s2 a1 b1);cases hs with
   |call _ _ _ k' hk=>
    exact .call _ _ _ o1 (y7W s2 d) _ _ (ih1 s1 _ (y4A m j s1) (v1Z m d j s1) (fun h=>h3 (b2 h)) (by omega)) (ih2 s2 _ (c o1 s2 a1 b1) (hk o1 s2) h3 h0)
 |ended s1 k h=>
  intro s p' hf hs h3 h0;cases hs with
  |pay _ _ k' hk=>exact .ended _ _ h
 |dry s1 k h1 h2=>
  intro s p' hf hs h3 h0;exact absurd rfl h3
 |pay s1 k o s' h1 h2 hr ih=>
  intro s p' hf hs h3 h0;cases hf with
  |pay _ _ _ a b c=>
   have hc:=c {s1 with Fuel:=s1.Fuel-1} h1;obtain⟨a1,b1⟩:=v1T hr _ hc;simp only at a1;cases hs with
   |pay _ _ k' hk=>
    refine .pay _ _ _ _ h1 (by show 0<s1.Fuel+d;omega) ?_;have:=ih _ _ hc (hk _) h3 h0;have e:({(y7W s1 d)with Fuel:=(y7W s1 d).Fuel-1}:State)=y7W {s1 with Fuel:=s1.Fuel-1} d:=by
     show({s1 with Fuel:=s1.Fuel+d-1}:State)={s1 with Fuel:=s1.Fuel-1+d};congr 1;omega
    rw[e];exact this
abbrev at_(s:State)(f:Int):State:={s with Fuel:=f}
def y4L(m:zA)(j:Job)(s:State)(o:Out)(a:State)(c:Int):Prop:=0≤c∧a.Kind≠3∧∀f,c≤f→G m j (at_ s f) o (at_ a (f-c))
theorem v6D{m:zA}{j:Job}{s a:State}{o:Out}(h:G m j s o a)(h3:a.Kind≠3)(h0:0≤a.Fuel):y4L m j s o a (s.Fuel-a.Fuel):=by
 have hf:=(v1T h s (y4A m j s)).1;refine⟨by omega,h3,fun f hf'=>?_⟩;have:=v4P (f-s.Fuel) h s _ (y4A m j s) (v1Z m (f-s.Fuel) j s) h3 (by omega);have e1:y7W s (f-s.Fuel)=at_ s f:=by show({s with Fuel:=_}:State)={s with Fuel:=f};congr 1;omega
 have e2:y7W a (f-s.Fuel)=at_ a (f-(s.Fuel-a.Fuel)):=by show({a with Fuel:=_}:State)={a with Fuel:=_};congr 1;omega
 rw[e1,e2]at this;exact this
mutual
def nds:zA→List zA
 |⟨K,N,S,L,F,T⟩=>⟨K,N,S,L,F,T⟩::y5m L
def y5m:List zA→List zA
 |[]=>[]
 |x::r=>nds x++y5m r
end
theorem v4B(t:zA):nds t=t::y5m t.L:=by cases t;simp[nds]
theorem v5S(a b:List zA):y5m (a++b)=y5m a++y5m b:=by
 induction a with
 |nil=>simp[y5m]
 |cons x r ih=>simp[y5m,ih]
theorem v3F(a b:List zA):wK (a++b)=wK a+wK b:=by
 induction a with
 |nil=>simp[wK]
 |cons x r ih=>simp[wK,ih];omega
theorem v6Q:∀t:zA,(nds t).length=zJ t:=by
 intro t;induction t using zA.ind with
 |h t ih=>
  have:∀l:List zA,(∀x∈l,(nds x).length=zJ x)→(y5m l).length=wK l:=by
   intro l;induction l with
   |nil=>intro _;simp[y5m,wK]
   |cons x r ihr=>
    intro h;have:=ihr (fun y hy=>h y (by simp[hy]));simp[y5m,wK,h x (by simp),this]
  rw[v4B,z0i,List.length_cons,this t.L ih];omega
theorem v7q:∀(n:Nat) (done q:List zA),wK q≤n→done.length+wK q≤1000000→∃r,quiet_all_L3 (done++q) (done.length:Int)=some r∧r.Perm (done++y5m q):=by
 intro n;induction n with
 |zero=>
  intro done q h1 h2;have hq:q=[]:=by
   cases q with
   |nil=>rfl
   |cons x r=>have:=z1J x;simp[wK]at h1;omega
  subst hq;rw[z4R];unfold gB;rw[List.append_nil,zq0 (by omega)];exact⟨done,rfl,by simp[y5m]⟩
 |succ n ih=>
  intro done q h1 h2;cases q with
  |nil=>
   rw[z4R];unfold gB;rw[List.append_nil,zq0 (by omega)];exact⟨done,rfl,by simp[y5m]⟩
  |cons x q=>
   have hx:=z0i x;have hl:=y1p x.L;have hl2:=y1p q;have ha:=v3F q x.L;simp only[wK]at h1 h2;obtain⟨r,e1,e2⟩:=ih (done++[x]) (q++x.L) (by omega) (by simp;omega);rw[z4R];unfold gB;have hidx:idx (done++x::q) (done.length:Int)=some x:=by
    rw[wF (by simp)];simp
   rw[zq1 (by simp;omega),hidx,zB,zq1 (by unfold wC;simp;omega),z3c (by omega) (by omega)];have e3:done++x::q++x.L=(done++[x])++(q++x.L):=by simp
   have e4:((done.length:Int)+1)=(((done++[x]).length:Nat):Int):=by simp
   rw[e3,e4];refine⟨r,e1,e2.trans ?_⟩;rw[v5S,show y5m (x::q)=nds x++y5m q by simp[y5m],v4B];simp only[List.append_assoc,List.cons_append,List.nil_append];exact(List.Perm.cons x List.perm_append_comm).append_left done
def q1(x:zA):Bool:=
 if x.K=5∨x.K=6∨x.K=7∨x.K=8∨x.K=9∨x.K=11∨x.K=13∨x.K=14∨x.K=15 then true
 else if x.K=10 then(if x.N=12∨x.N=13 then(match x.L with|_::b::_=>decide (b.K=5) && !decide (b.N=0)|_=>false)else true)else false
theorem v7C(f:Bool→List zA→Int→Int→Option Bool)(v7:List zA)(v8 v9:Int)(x:zA)(h:v9<v8)(hi:idx v7 v9=some x):
  uW f true v7 v8 v9=if q1 x=true then f true v7 v8 (IntKind.wrap .i64 (v9+1))else some false:=by
 unfold uW;rw[zq1 h,hi,zB];unfold q1;by_cases h5:x.K=5
 ·simp[h5]
 by_cases h6:x.K=6
 ·simp[h6]
 by_cases h7:x.K=7
 ·simp[h7]
 by_cases h8:x.K=8
 ·simp[h8]
 by_cases h9:x.K=9
 ·simp[h9]
 by_cases h11:x.K=11
 ·simp[h11]
 by_cases h13:x.K=13
 ·simp[h13]
 by_cases h14:x.K=14
 ·simp[h14]
 by_cases h15:x.K=15
 ·simp[h15]
 by_cases h10:x.K=10
 ·simp only[h10];rcases hL:x.L with _|⟨a,_|⟨b,r⟩⟩
  ·by_cases n1:x.N=12
   ·simp[n1]
   ·by_cases n2:x.N=13<;>simp[n1,n2]
  ·by_cases n1:x.N=12
   ·simp[n1]
   ·by_cases n2:x.N=13<;>simp[n1,n2]
  ·have hb:idx (a::b::r) 1=some b:=rfl;have hl:¬((List.length (a::b::r):Int)<2):=by simp;omega
   by_cases n1:x.N=12
   ·simp only[n1,hb,zB,zq0 hl];by_cases k5:b.K=5<;>by_cases k0:b.N=0<;>simp[k5,k0]
   ·by_cases n2:x.N=13
    ·simp only[n2,hb,zB,zq0 hl];by_cases k5:b.K=5<;>by_cases k0:b.N=0<;>simp[k5,k0]
    ·simp[n1,n2]
 ·simp[h5,h6,h7,h8,h9,h10,h11,h13,h14,h15]
theorem v7D(l:List zA)(hl:l.length≤1000000):∀(k i:Nat),i+k=l.length→quiet_Quiet_L3 true l (l.length:Int) (i:Int)=some ((l.drop i).all q1):=by
 intro k;induction k with
 |zero=>
  intro i hi;rw[z5z];unfold uW;rw[zq0 (by omega),List.drop_eq_nil_of_le (by omega)];rfl
 |succ k ih=>
  intro i hi;rw[z5z,v7C _ _ _ _ l[i] (by omega) (wF (by omega)),List.drop_eq_getElem_cons (show i<l.length by omega),List.all_cons,z3c (by omega) (by omega),z8q];cases hq:q1 l[i]with
  |true=>rw[zq1 rfl,ih (i+1) (by omega)];simp
  |false=>rw[zq0 (by decide)];simp
theorem y7p{t:zA}(h:zJ t≤1000):∃r,z5A t=some r∧r.Perm (nds t)∧z3p t=some ((nds t).all q1):=by
 obtain⟨r,e1,e2⟩:=v7q (zJ t) [] [t] (by simp[wK]) (by simp[wK];omega);have e3:z5A t=some r:=e1;have e4:r.Perm (nds t):=by simpa [y5m]using e2
 have hlen:r.length=zJ t:=by rw[e4.length_eq,v6Q]
 refine⟨r,e3,e4,?_⟩;unfold z3p;rw[e3,zB];have:=v7D r (by omega) r.length 0 (by omega);rw[show((0:Nat):Int)=0 from rfl]at this;rw[this,List.drop_zero,List.all_eq,List.all_eq];congr 1;simp only[e4.mem_iff]
theorem v1C{m:zA}{j:Job}{s a a':State}{o o':Out}{c c':Int}(h:y4L m j s o a c)(h':y4L m j s o' a' c'):o'=o∧at_ a' 0=at_ a 0∧c'=c:=by
 have g:=h.2.2 (max c c') (by omega);have g':=h'.2.2 (max c c') (by omega);obtain⟨e1,e2⟩:=g.det g';have e3:max c c'-c'=max c c'-c:=congrArg State.Fuel e2;refine⟨e1,?_,by omega⟩;have:at_ (at_ a' (max c c'-c')) 0=at_ (at_ a (max c c'-c)) 0:=by rw[e2]
 exact this
theorem StOk.less{m:zA}{N:Int}{Γ:List zA}{s:State}{C c:Int}(h:StOk m N Γ (at_ s C))(h0:0≤c)(h1:c≤C):StOk m N Γ (at_ s c):=
 {h with fuel0:=h0,fuel1:=by have:=h.fuel1;simp only at *;omega,room:=by have:=h.room;simp only at *;omega,tr:=by have:=h.tr;simp only at *;omega}
theorem VW.vok{v:Value}(h:VW v):Vok v:=by
 induction h with
 |mk y _ h1 _ ih=>exact .mk y h1 ih
theorem y4I(l:List Value)(h:∀v∈l,VW v)(hl:l.length≤1000000000):z3E l l=some true:=by
 have loop:∀(k i:Nat),i+k=l.length→yR l l i=some true:=by
  intro k;induction k with
  |zero=>
   intro i hi;rw[z5S];unfold jS;rw[zq0 (by omega)]
  |succ k ih=>
   intro i hi;have hlt:i<l.length:=by omega
   obtain⟨c,ec,hc⟩:=v2e l[i] (h _ (List.getElem_mem hlt)).vok l[i];rw[z5S];unfold jS;rw[zq1 (by omega),wF hlt,zB,zB,ec,zB,hc.2 rfl,zq1 rfl,z1n (by omega)];exact ih (i+1) (by omega)
 unfold z3E;rw[zq1 rfl];exact loop l.length 0 (by omega)
theorem y1I(l:List Int)(hl:l.length≤1000000000):z2y l l=some true:=by
 have loop:∀(k i:Nat),i+k=l.length→yF l l i=some true:=by
  intro k;induction k with
  |zero=>
   intro i hi;rw[z5h];unfold jC;rw[zq0 (by omega)]
  |succ k ih=>
   intro i hi;have hlt:i<l.length:=by omega
   rw[z5h];unfold jC;rw[zq1 (by omega),wF hlt,zB,zB,zq1 rfl,z1n (by omega)];exact ih (i+1) (by omega)
 unfold z2y;rw[zq1 rfl];exact loop l.length 0 (by omega)
theorem y4e{m t:zA}{s:State}(k:t.K=5∨t.K=6)(k0:s.Kind=0):y4L m (.E t) s (oN t.N) s 1:=by
 refine⟨by omega,by omega,fun f hf=>.pay _ _ _ _ k0 (show 0<f by omega) ?_⟩;show Run m (z1G m t (at_ s (f-1))) _ _;unfold z1G;rw[zq1 k];exact .ret _ _
theorem v4v{m:zA}{s:State}(k3:s.Kind≠3):y4L m (.L []) s o0 s 0:=⟨Int.le_refl _,k3,fun f _=>by rw[Int.sub_zero];exact .ret _ _⟩
theorem v3s{m x:zA}{r:List zA}{s s1 a:State}{o1 o2:Out}{c1 c2:Int}(h1:y4L m (.E x) s o1 s1 c1)(h2:y4L m (.L r) s1 o2 a c2):y4L m (.L (x::r)) s ⟨v0,o1.v::o2.l,[]⟩ a (c1+c2):=by
 have p1:=h1.1;have p2:=h2.1;refine⟨by omega,h2.2.1,fun f hf=>?_⟩;have g2:=h2.2.2 (f-c1) (by omega);rw[show f-c1-c2=f-(c1+c2)by omega]at g2;exact .call _ _ _ o1 _ _ _ (h1.2.2 f (by omega)) (.call _ _ _ o2 _ _ _ g2 (.ret _ _))
theorem v3x {m t:zA} {s s1 a:State} {ol o:Out} {c1 c2:Int} (k:t.K=11∨t.K=12∨t.K=13∨t.K=14∨t.K=15∨t.K=16) (k0:s.Kind=0) (h:y4L m (.L t.L) s ol s1 c1) (h0:0≤c2) (h3:a.Kind≠3)
  (hr:∀f,c2≤f→Run m (.on (at_ s1 f) o0
  (if t.K=11 then .opt ol.l[0]? fun v=>.opt (z1A t.N v.N) fun n=>.ret (oN n) (at_ s1 f)
   else if t.K=12 then .opt ol.l[0]? fun v=>.opt ol.l[1]? fun i=>if i.N<0∨i.N≥(v.L.length:Int)then .ret o0 (z8X 2 (at_ s1 f))else .opt v.L[i.N.toNat]? fun x=>.ret (oV x) (at_ s1 f)
   else if t.K=13 then .opt ol.l[0]? fun v=>.opt v.L[(Int.tmod t.N 64).toNat]? fun x=>.ret (oV x) (at_ s1 f)
   else if t.K=16 then .call (.C t.N ol.l) (at_ s1 f) fun o s=>.ret (oV o.v) s
   else .ret (oV ⟨0,ol.l⟩) (at_ s1 f))) o (at_ a (f-c2))):y4L m (.E t) s o a (1+c1+c2):=by
 have p1:=h.1;refine⟨by omega,h3,fun f hf=>.pay _ _ _ _ k0 (show 0<f by omega) ?_⟩;show Run m (z1G m t (at_ s (f-1))) _ _;unfold z1G;rw[zq0 (by omega),zq0 (by omega),zq0 (by omega),zq0 (by omega),zq0 (by omega),zq0 (by omega)];have:=hr (f-1-c1) (by omega);rw[show f-1-c1-c2=f-(1+c1+c2)by omega]at this;exact .call _ _ _ ol (at_ s1 (f-1-c1)) _ _ (h.2.2 (f-1) (by omega)) this
theorem v8d{m:zA}(hm:ModOk m)(hms:zJ m≤100000000)(hmw:zA.Wf m){N f c:Int}{Γ:List zA}{t τ:zA}{s a:State}{o:Out}(hT:TE m Γ t τ)(hw:zA.Wf t)(hts:zJ t≤100000000)(hs:StOk m N Γ (at_ s f))(hc:c≤f)(k0:s.Kind=0)(h:y4L m (.E t) s o a c):StOk m N Γ (at_ a (f-c))∧v6l m τ o a:=by
 obtain⟨o',s',hG,-,h1,-,-,h2⟩:=(v3V m hm hms hmw f.toNat).1 N Γ t τ _ hT hw hts hs (.inl k0) (by have:=h.1;simp only;omega);have g:=h.2.2 f hc;obtain⟨e1,e⟩:=hG.det g;subst e;subst e1;exact⟨h1,h2⟩
def Qt(t:zA):Prop:=(nds t).all q1=true
theorem v1R:∀(l:List zA),(y5m l).all q1=true→∀x∈l,Qt x
 |[],_,x,hx=>by cases hx
 |y::r,h,x,hx=>by
  rw[y5m,List.all_append,Bool.and_eq_true]at h;rcases List.mem_cons.1 hx with rfl|hx
  ·exact h.1
  ·exact v1R r h.2 x hx
theorem Qt.inv{t:zA}(h:Qt t):q1 t=true∧∀x∈t.L,Qt x:=by
 unfold Qt at h;rw[v4B,List.all_cons,Bool.and_eq_true]at h;exact⟨h.1,v1R t.L h.2⟩
theorem v5U{m t:zA}{s:State}{o:Out}(k0:s.Kind=0)(h:∀f,0≤f→Run m (z1G m t (at_ s f)) o (at_ s f)):y4L m (.E t) s o s 1:=
 ⟨by omega,by omega,fun f hf=>.pay _ _ _ _ k0 (show 0<f by omega) (h (f-1) (by omega))⟩
theorem v5x {m t a b:zA} {s s1 s2:State} {o1 o2:Out} {c1 c2:Int} (k:t.K=10) (hL:t.L=[a,b]) (k0:s.Kind=0) (h1:y4L m (.E a) s o1 s1 c1) (k1:s1.Kind=0) (hn:¬(t.N=2∧o1.v.N=0)) (hn':¬(t.N=1∧o1.v.N≠0)) (h2:y4L m (.E b) s1 o2 s2 c2) (k2:s2.Kind=0)
  {n:Int} (hq:t.N≠1→t.N≠2→z2Z t.N o1.v.N o2.v.N=some (n,0)):y4L m (.E t) s (if t.N=1∨t.N=2 then oV o2.v else oN n) s2 (1+c1+c2):=by
 have p1:=h1.1;have p2:=h2.1;refine⟨by omega,h2.2.1,fun f hf=>.pay _ _ _ _ k0 (show 0<f by omega) ?_⟩;show Run m (z1G m t (at_ s (f-1))) _ _;unfold z1G;rw[zq0 (by omega),zq0 (by omega),zq0 (by omega),zq0 (by omega),zq0 (by omega),zq1 k,hL];refine .call _ _ _ o1 (at_ s1 (f-1-c1)) _ _ (h1.2.2 (f-1) (by omega)) (run_on.2 (.inl ⟨k1,?_⟩));rw[zq0 hn,zq0 hn'];have g2:=h2.2.2 (f-1-c1) (by omega);rw[show f-1-c1-c2=f-(1+c1+c2)by omega]at g2;refine .call _ _ _ o2 _ _ _ g2 (run_on.2 (.inl ⟨k2,?_⟩))
 by_cases z:t.N=1∨t.N=2
 ·rw[zq1 z,zq1 z];exact .ret _ _
 ·rw[zq0 z,zq0 z,hq (by omega) (by omega)];exact run_opt.2 ⟨(n,0),rfl,by rw[zq1 rfl];exact .ret _ _⟩
theorem v3P{m t a b:zA}{s s1:State}{o1:Out}{c1:Int}(k:t.K=10)(hL:t.L=[a,b])(k0:s.Kind=0)(h1:y4L m (.E a) s o1 s1 c1)(k1:s1.Kind=0)(hn:(t.N=2∧o1.v.N=0)∨(t.N=1∧o1.v.N≠0)):y4L m (.E t) s (if t.N=2 then oN 0 else oN 1) s1 (1+c1):=by
 have p1:=h1.1;refine⟨by omega,h1.2.1,fun f hf=>.pay _ _ _ _ k0 (show 0<f by omega) ?_⟩;show Run m (z1G m t (at_ s (f-1))) _ _;unfold z1G;rw[zq0 (by omega),zq0 (by omega),zq0 (by omega),zq0 (by omega),zq0 (by omega),zq1 k,hL];have g1:=h1.2.2 (f-1) (by omega);rw[show f-1-c1=f-(1+c1)by omega]at g1;refine .call _ _ _ o1 _ _ _ g1 (run_on.2 (.inl ⟨k1,?_⟩));by_cases z:t.N=2∧o1.v.N=0
 ·rw[zq1 z,zq1 z.1];exact .ret _ _
 ·rw[zq0 z,zq1 (hn.resolve_left z),zq0 (by omega)];exact .ret _ _
theorem v3y{m:zA}(hm:ModOk m)(hms:zJ m≤100000000)(hmw:zA.Wf m){N:Int}{Γ:List zA}{t τ:zA}{s:State}{f:Int}(hT:TE m Γ t τ):Qt t→zA.Wf t→zJ t≤100000000→StOk m N Γ (at_ s f)→s.Kind=0→(zJ t:Int)≤f→∃o c,y4L m (.E t) s o s c∧c≤zJ t:=by
 induction hT with
 |alone t τ _ _ _ hL h16 hA=>
  intro hq hw hts hs k0 hf;have pos:=z1J t;have q:=hq.inv.1;have fin:∀o,(∀f,0≤f→Run m (z1G m t (at_ s f)) o (at_ s f))→∃o c,y4L m (.E t) s o s c∧c≤zJ t:=fun o h=>⟨o,1,v5U k0 h,by omega⟩;cases hA with
  |num k=>exact⟨_,1,y4e (.inl k) k0,by omega⟩
  |tru k _=>exact⟨_,1,y4e (.inr k) k0,by omega⟩
  |loc n x k hN hn hx=>
   have hll:s.Locals.length=Γ.length:=hs.ll;have hlt:n<s.Locals.length:=by omega
   refine fin (oV (s.Locals[s.Locals.length-1-n]'(by omega))) fun f _=>?_;unfold z1G;rw[zq0 (by omega),zq1 k,hN];show Run m (P.opt (z8J s.Locals n) _) _ _;rw[y2x hlt];exact .ret _ _
  |coni d x k hd' hx h5=>
   obtain⟨n,hN,hdn,-⟩:=hd'.nat;refine fin (oN x.N) fun f _=>?_;unfold z1G;rw[zq0 (by omega),zq0 (by omega),zq0 (by omega),zq1 k,hN];show Run m (P.opt m.L[n]? _) _ _;rw[hdn];show Run m (P.opt d.L[0]? _) _ _;rw[hx];exact .ret _ _
  |conb d x k hd' hx h6=>
   obtain⟨n,hN,hdn,-⟩:=hd'.nat;refine fin (oN x.N) fun f _=>?_;unfold z1G;rw[zq0 (by omega),zq0 (by omega),zq0 (by omega),zq1 k,hN];show Run m (P.opt m.L[n]? _) _ _;rw[hdn];show Run m (P.opt d.L[0]? _) _ _;rw[hx];exact .ret _ _
  |glob d x k hd' hx=>
   obtain⟨n,hN,hdn,hdk⟩:=hd'.nat;have hgl:s.Globals.length=m.L.length:=hs.gl;have hlt:n<s.Globals.length:=by rw[hgl];exact(List.getElem?_eq_some_iff.1 hdn).1
   refine fin (oV s.Globals[n]) fun f _=>?_;unfold z1G;rw[zq0 (by omega),zq0 (by omega),zq1 k,hN];show Run m (P.opt (y7j s.Globals n) _) _ _;rw[y0l,List.getElem?_eq_getElem hlt];exact .ret _ _
  |read k=>
   unfold q1 at q;rw[zq0 (by omega),zq0 (by omega)]at q;cases q
 |rule t τ p hS hF hTo hne hpl hP hR ih=>
  intro hq hw hts hs k0 hf;have hte:=z0i t;have q:=hq.inv.1;have sub:∀(i:Nat) x y,t.L[i]?=some x→p[i]?=some y→∃o c,y4L m (.E x) s o s c∧c≤zJ x∧Fit m y o.v∧VW o.v:=fun i x y hx hy=>by
   have hm':=List.mem_of_getElem? hx;have hsz:=zR hm';obtain⟨o,c,h1,h2⟩:=ih i x y hx hy (hq.inv.2 x hm') (hw.L_.2 x hm') (by omega) hs k0 (by omega);have h3:=(v8d hm hms hmw (hP i x y hx hy) (hw.L_.2 x hm') (by omega) hs (by omega) k0 h1).2;obtain⟨-,h4,h5⟩:=h3.resolve_right (by omega);exact⟨o,c,h1,h2,h4,h5⟩
  by_cases k10:t.K=10
  ·cases hR with
   |un _ k _ _=>omega
   |index _ _ _ k _ _ _ _ _=>omega
   |field _ _ _ k _ _ _ _=>omega
   |make _ k _ _=>omega
   |call _ _ _ _ k _ _ _=>omega
   |list _ _ k _ _ _=>omega
   |bin ta tb _ k hp h2=>
    obtain⟨a,b,hL⟩:∃a b,t.L=[a,b]:=v6q (by rw[←hpl,hp];rfl);have h2s:=y0D hL;obtain⟨oa,ca,ha1,ha2,ha3,ha4⟩:=sub 0 a ta (by rw[hL];rfl) (by rw[hp];rfl);obtain⟨ob,cb,hb1,hb2,hb3,hb4⟩:=sub 1 b tb (by rw[hL];rfl) (by rw[hp];rfl);by_cases hn:(t.N=2∧oa.v.N=0)∨(t.N=1∧oa.v.N≠0)
    ·exact⟨_,_,v3P k hL k0 ha1 k0 hn,by omega⟩
    ·refine⟨_,_,v5x k hL k0 ha1 k0 (fun h=>hn (.inl h)) (fun h=>hn (.inr h)) hb1 k0 (n:=(v2c t.N oa.v.N ob.v.N).1) (fun n1 n2=>?_),by omega⟩;rw[y9F _ _ _ (y6W ha4.N_) (y6W hb4.N_)];congr 1;refine Prod.ext rfl ?_;show(v2c t.N oa.v.N ob.v.N).2=0;unfold q1 at q;rw[zq0 (by omega),zq1 k]at q;unfold v2c;rw[zq0 n1,zq0 n2];split
     ·rfl
     split
     ·rfl
     split
     ·rfl
     split
     ·rfl
     have bnz:t.N=12∨t.N=13→ob.v.N≠0:=fun h=>by
      rw[zq1 h,hL]at q;simp only[Bool.and_eq_true,decide_eq_true_eq,Bool.not_eq_true',decide_eq_false_iff_not]at q;obtain⟨e1,-,-⟩:=v1C (y4e (m:=m) (t:=b) (s:=s) (.inl q.1) k0) hb1;rw[e1];exact q.2
     split
     ·rw[zq0 (bnz (by omega))]
     split
     ·rw[zq0 (bnz (by omega))]
     ·rfl
  ·have list:∀(l:List zA) (j:Nat),t.L.drop j=l→∃ol c,y4L m (.L l) s ol s c∧c≤wK l∧ol.l.length=l.length∧∀(i:Nat) y v,p[j+i]?=some y→ol.l[i]?=some v→Fit m y v∧VW v:=by
    intro l;induction l with
    |nil=>intro j _;exact⟨o0,0,v4v (by omega),by simp[wK],rfl,fun i y v _ hv=>by simp at hv⟩
    |cons x r ihl=>
     intro j hj;have hlt:j<t.L.length:=by
      have:=congrArg List.length hj;simp at this;omega
     have e1:=List.drop_eq_getElem_cons hlt;rw[hj]at e1;injection e1 with e1 e2;obtain⟨o2,c2,h2,h3,h4,h5⟩:=ihl (j+1) e2.symm;have gp:=List.getElem?_eq_getElem (l:=p) (i:=j) (by omega);obtain⟨o1,c1,g1,g2,g3,g4⟩:=sub j x _ (by rw[e1];exact List.getElem?_eq_getElem hlt) gp;refine⟨_,_,v3s g1 h2,by simp only[wK];omega,by simp[h4],fun i y v hy hv=>?_⟩;cases i with
     |zero=>rw[Nat.add_zero,gp]at hy;cases hy;cases hv;exact⟨g3,g4⟩
     |succ i=>exact h5 i y v (by rw[show j+1+i=j+(i+1)by omega];exact hy) hv
   obtain⟨ol,cl,hl1,hl2,hl3,hl4⟩:=list t.L 0 rfl;have kinds:t.K=11∨t.K=12∨t.K=13∨t.K=14∨t.K=15∨t.K=16:=by cases hR<;>omega
   have fin:∀o,(∀f:Int,0≤f→Run m (if t.K=11 then .opt ol.l[0]? fun v=>.opt (z1A t.N v.N) fun n=>.ret (oN n) (at_ s f)
     else if t.K=12 then .opt ol.l[0]? fun v=>.opt ol.l[1]? fun i=>if i.N<0∨i.N≥(v.L.length:Int)then .ret o0 (z8X 2 (at_ s f))else .opt v.L[i.N.toNat]? fun x=>.ret (oV x) (at_ s f)
     else if t.K=13 then .opt ol.l[0]? fun v=>.opt v.L[(Int.tmod t.N 64).toNat]? fun x=>.ret (oV x) (at_ s f)
     else if t.K=16 then .call (.C t.N ol.l) (at_ s f) fun o s=>.ret (oV o.v) s
     else .ret (oV ⟨0,ol.l⟩) (at_ s f)) o (at_ s f))→∃o c,y4L m (.E t) s o s c∧c≤zJ t:=fun o h=>
    ⟨o,_,v3x (c2:=0) kinds k0 hl1 (Int.le_refl _) (by omega) (fun f hf=>by rw[Int.sub_zero];exact run_on.2 (.inl ⟨k0,h f hf⟩)),by omega⟩
   have val:∀(i:Nat) y,p[i]?=some y→∃v,ol.l[i]?=some v∧Fit m y v∧VW v:=fun i y hy=>by
    have hlt:i<ol.l.length:=by have:=(List.getElem?_eq_some_iff.1 hy).1;omega
    have g:=List.getElem?_eq_getElem hlt;obtain⟨h1,h2⟩:=hl4 i y _ (by rw[Nat.zero_add];exact hy) g;exact⟨_,g,h1,h2⟩
   unfold q1 at q;cases hR with
   |bin _ _ _ k _ _=>exact absurd k k10
   |un a k hp hN=>
    obtain⟨v,g1,hFv,hWv⟩:=val 0 τ (by rw[hp];rfl);refine fin (oN (v7l t.N v.N)) fun f _=>?_;rw[zq1 k,g1];show Run m (P.opt (z1A t.N v.N) _) _ _;rw[y1m];exact .ret _ _
   |index a b k hp ka la kb lb=>rw[zq0 (by omega),zq0 (by omega)]at q;cases q
   |call d ps r b k hd' hdL hfit=>rw[zq0 (by omega),zq0 (by omega)]at q;cases q
   |field a x n k hp ka la hfr=>
    obtain⟨v,g1,hFv,hWv⟩:=val 0 a (by rw[hp];rfl);obtain⟨d,fd,k',i,e1,e2,e3,e4,e5,e6,e7⟩:=hfr;have em:Int.tmod t.N 64=(i:Int):=by rw[Int.tmod_eq_emod_of_nonneg (by omega)];omega
    have hpp:=y0s ka e1 e2;have hpl':=hFv.inv.2.2.1;have hid:=(List.getElem?_eq_some_iff.1 e4).1;have hlt:i<v.L.length:=by rw[←hpl',hpp,zq3];exact hid
    refine fin (oV v.L[i]) fun f _=>?_;rw[zq0 (by omega),zq0 (by omega),zq1 k,g1];show Run m (P.opt v.L[(Int.tmod t.N 64).toNat]? _) _ _;rw[em];show Run m (P.opt v.L[i]? _) _ _;rw[List.getElem?_eq_getElem hlt];exact .ret _ _
   |make d k hd' hfit=>
    refine fin (oV ⟨0,ol.l⟩) fun f _=>?_;rw[zq0 (by omega),zq0 (by omega),zq0 (by omega),zq0 (by omega)];exact .ret _ _
   |list a r k hp hall hg=>
    refine fin (oV ⟨0,ol.l⟩) fun f _=>?_;rw[zq0 (by omega),zq0 (by omega),zq0 (by omega),zq0 (by omega)];exact .ret _ _
structure Iv(S s:State):Prop where
 g:s.Globals=S.Globals
 l:s.Locals=S.Locals
 i:s.Input=S.Input
 a:s.At=S.At
 t:s.Trace=S.Trace
 r:s.Ret=S.Ret
 f:0≤s.Fuel
 k:s.Kind=0∨s.Kind=2∨(s.Kind=3∧s.Fuel=0)
 n:s.Kind≠2→s.N=S.N
def Qj:Job→Prop
 |.E t=>Qt t
 |.L l=>∀x∈l,Qt x
 |_=>False
def QP(S:State):P→Prop
 |.ret _ s=>Iv S s
 |.call j s k=>Qj j∧Iv S s∧∀o s1,Iv S s1→QP S (k o s1)
 |.pay s k=>Iv S s∧∀s1,Iv S s1→QP S (k s1)
 |.bad=>True
theorem QP.opt{α:Type}{S:State}{x:Option α}{k:α→P}(h:∀a,x=some a→QP S (k a)):QP S (.opt x k):=by
 cases x with
 |none=>trivial
 |some a=>exact h a rfl
theorem QP.on{S s:State}{o:Out}{k:P}(h:Iv S s)(h':QP S k):QP S (.on s o k):=by
 unfold P.on;split
 ·exact h'
 ·exact h
theorem QP.ite{c:Prop}[Decidable c]{S:State}{p q:P}(h:c→QP S p)(h':¬c→QP S q):QP S (if c then p else q):=by
 split
 ·exact h ‹_›
 ·exact h' ‹_›
theorem Iv.tr{S s:State}(h:Iv S s)(n:Int):Iv S (z8X n s):=⟨h.g,h.l,h.i,h.a,h.t,h.r,h.f,.inr (.inl rfl),fun e=>absurd rfl e⟩
theorem v7b{m t:zA}{S s:State}(hq:Qt t)(h:Iv S s):QP S (z1G m t s):=by
 obtain⟨q,hp⟩:=hq.inv;unfold z1G;refine .ite (fun _=>h) fun k56=>.ite (fun _=>.opt fun _ _=>h) fun k7=>.ite (fun _=>.opt fun _ _=>h) fun k9=>.ite (fun _=>.opt fun _ _=>.opt fun _ _=>h) fun k8=>.ite (fun k=>?_) fun k18=>.ite (fun k=>?_) fun k10=>?_
 ·unfold q1 at q;rw[zq0 (by omega),zq0 (by omega)]at q;cases q
 ·refine .opt fun a ha=>.opt fun b hb=>⟨hp a (List.mem_of_getElem? ha),h,fun o s1 h1=>.on h1 (.ite (fun _=>h1) fun _=>.ite (fun _=>h1) fun _=>⟨hp b (List.mem_of_getElem? hb),h1,fun p s2 h2=>.on h2 (.ite (fun _=>h2) fun _=>.opt fun q _=>.ite (fun _=>h2) fun _=>h2.tr _)⟩)⟩
 ·have k:t.K≠12∧t.K≠16:=by
   refine⟨fun k=>?_,fun k=>?_⟩
   ·unfold q1 at q;rw[zq0 (by omega),zq0 (by omega)]at q;cases q
   ·unfold q1 at q;rw[zq0 (by omega),zq0 (by omega)]at q;cases q
  exact⟨hp,h,fun o s1 h1=>.on h1 (.ite (fun _=>.opt fun _ _=>.opt fun _ _=>h1) fun _=>.ite (fun e=>absurd e k.1) fun _=>.ite (fun _=>.opt fun _ _=>.opt fun _ _=>h1) fun _=>.ite (fun e=>absurd e k.2) fun _=>h1)⟩
theorem v6t{m:zA}{S:State}:∀{j:Job} {s:State},Qj j→Iv S s→QP S (step m j s)
 |.E t,s,hq,h=>⟨h,fun s1 h1=>v7b hq h1⟩
 |.L [],s,hq,h=>h
 |.L (x::r),s,hq,h=>⟨hq x (by simp),h,fun o s1 h1=>⟨fun y hy=>hq y (by simp[hy]),h1,fun p s2 h2=>h2⟩⟩
theorem v7V{m:zA}{S:State}{p:P}{o:Out}{s':State}(h:Run m p o s'):QP S p→Iv S s':=by
 induction h with
 |ret o s=>exact id
 |call j s k o s1 o' s' _ _ ih1 ih2=>exact fun hq=>ih2 (hq.2.2 o s1 (ih1 (v6t hq.1 hq.2.1)))
 |ended s k _=>exact fun hq=>hq.1
 |dry s k k0 f0=>
  intro hq;have h:=hq.1;exact⟨h.g,h.l,h.i,h.a,h.t,h.r,h.f,.inr (.inr ⟨rfl,Int.le_antisymm f0 h.f⟩),fun _=>h.n (by omega)⟩
 |pay s k o s' k0 f0 _ ih=>
  intro hq;have h:=hq.1;exact ih (hq.2 _ ⟨h.g,h.l,h.i,h.a,h.t,h.r,show 0≤s.Fuel-1 by omega,.inl k0,h.n⟩)
theorem v4I{m:zA}(hm:ModOk m)(hms:zJ m≤100000000)(hmw:zA.Wf m){Γ:List zA}{t τ:zA}{s:State}(hT:TE m Γ t τ)(hq:Qt t)(hw:zA.Wf t)(hts:zJ t≤400)(hs:StOk m 1000000000 Γ s)(k0:s.Kind=0)(hl:Γ.length≤1000)(ht:s.Trace.length≤1000):
  ∃v a,zK m s t=some ⟨v,a⟩∧StOk m 1000000000 Γ a∧0≤a.Fuel∧a.Fuel≤s.Fuel∧((a.Kind=3∧s.Fuel<zJ t∧a.Fuel=0∧({a with Fuel:=0,Kind:=0}:State)=at_ s 0)∨(a.Kind≠3∧s.Fuel-a.Fuel≤zJ t∧at_ a 0=at_ s 0)):=by
 obtain⟨o,a,hG,hM,hst,hfa,-,-⟩:=(v3V m hm hms hmw s.Fuel.toNat).1 _ Γ t τ s hT hw (by omega) hs (.inl k0) (by omega);have fa:=hst.fuel0;have fs:=hs.fuel0;obtain⟨o',c,hc,hle⟩:=v3y hm hms hmw (f:=400) hT hq hw (by omega) (hs.fuel (by omega) (by omega) (by have:=hs.ll;omega) (by omega)) k0 (by omega);refine⟨o.v,a,hM,hst,fa,hfa,?_⟩;by_cases k3:a.Kind=3
 ·left;have iv:Iv s a:=v7V hG (v6t hq ⟨rfl,rfl,rfl,rfl,rfl,rfl,fs,.inl k0,fun _=>rfl⟩);have f0:a.Fuel=0:=by have:=iv.k;omega
  refine⟨k3,?_,f0,?_⟩
  ·by_cases lt:s.Fuel<zJ t
   ·exact lt
   ·have g:=hc.2.2 s.Fuel (by omega);obtain⟨-,e⟩:=Run.det hG g;rw[←e]at k3;exact absurd (k0.symm.trans k3) (by decide)
  ·have e1:=iv.g;have e2:=iv.l;have e3:=iv.i;have e4:=iv.a;have e5:=iv.t;have e6:=iv.r;have e7:=iv.n (by omega);cases a;cases s;simp only[at_,State.mk.injEq]at *;exact⟨e1,e2,e3,e4,e5,trivial,k0.symm,e7,e6⟩
 ·right;obtain⟨-,e2,e3⟩:=v1C (v6D hG k3 fa) hc;exact⟨k3,by omega,e2.symm⟩
theorem v3q(c:Law24Eval)(hT:c.Types.length≤9223372036854775807∧∀x∈c.Types,zA.Wf x)(hM:zA.Wf c.M)(hL:zA.Wf c.A)(hR:zA.Wf c.B_)(hS:State.Wf c.S):
  ∃b,z5y c=some b∧(b=false→c.Types.length≤40∧(∀x∈c.Types,zJ x≤400)∧zJ c.M≤400∧zJ c.A≤400∧v2j c.S):=by
 have tail:∀(h:c.Types.length≤40→∀x∈c.Types,zJ x≤400),∃b,(if(List.length c.Types:Int)>40 then some true else jK c.M>>=fun q2=>if q2=true then some true else jK c.A>>=fun q3=>if q3=true then some true else jK c.B_>>=fun q4=>if q4=true then some true else z3C c.S>>=fun q5=>some q5)=some b ∧
   (b=false→c.Types.length≤40∧(∀x∈c.Types,zJ x≤400)∧zJ c.M≤400∧zJ c.A≤400∧v2j c.S):=by
  intro h;have no:∀{P:Prop},∃b,some true=some b∧(b=false→P):=⟨_,rfl,fun h=>Bool.noConfusion h⟩;by_cases c1:(List.length c.Types:Int)>40
  ·rw[zq1 c1];exact no
  rw[zq0 c1];obtain⟨b1,e1,h1⟩:=y2w c.M hM;obtain⟨b2,e2,h2⟩:=y2w c.A hL;obtain⟨b3,e3,h3⟩:=y2w c.B_ hR;obtain⟨b4,e4,h4⟩:=v4U c.S hS;rw[e1,zB];cases b1 with
  |true=>rw[zq1 rfl];exact no
  |false=>
   rw[zq0 (by decide),e2,zB];cases b2 with
   |true=>rw[zq1 rfl];exact no
   |false=>
    rw[zq0 (by decide),e3,zB];cases b3 with
    |true=>rw[zq1 rfl];exact no
    |false=>
     rw[zq0 (by decide),e4,zB];exact⟨b4,rfl,fun hb=>⟨by omega,h (by omega),h1 rfl,h2 rfl,h4 hb⟩⟩
 have loop:∀(k i:Nat),i+k=c.Types.length→(∀x∈c.Types.take i,zJ x≤400)→∃b,vC i c=some b∧(b=false→c.Types.length≤40∧(∀x∈c.Types,zJ x≤400)∧zJ c.M≤400∧zJ c.A≤400∧v2j c.S):=by
  intro k;induction k with
  |zero=>
   intro i hi ht;rw[z6T];unfold gJ;rw[zq0 (by omega)];rw[List.take_of_length_le (by omega)]at ht;exact tail (fun _=>ht)
  |succ k ih=>
   intro i hi ht;have hlt:i<c.Types.length:=by omega
   rw[z6T];unfold gJ;rw[zq1 (by omega)];by_cases c4:(i:Int)<40
   ·obtain⟨b,eb,hb⟩:=y2w c.Types[i] (hT.2 _ (List.getElem_mem hlt));rw[zq1 c4,wF hlt,zB,eb,zB,y7A hlt hT.1];cases b with
    |true=>rw[zq1 rfl];exact⟨_,rfl,fun h=>Bool.noConfusion h⟩
    |false=>
     rw[zq0 (by decide)];refine ih (i+1) (by omega) fun x hx=>?_;rw[List.take_succ_eq_append_getElem hlt,List.mem_append]at hx;rcases hx with hx|hx
     ·exact ht x hx
     ·rw[List.mem_singleton.1 hx];exact hb rfl
   ·rw[zq0 c4];exact tail (fun h=>by omega)
 unfold z5y;exact loop c.Types.length 0 (by omega) (by simp)
theorem v7B(m:zA)(Γ:List zA)(t:zA)(hm:zJ m≤400)(hΓ:∀x∈Γ,zJ x≤400)(hl:Γ.length≤40)(ht:zJ t≤400)(hw:zA.Wf t):
  ∃g,uB m Γ t=some g∧(g.E=0→∃b,wA g.Form t=some b∧(b=true→∃τ,TE m Γ t τ)):=by
 obtain⟨g,eg,hg⟩:=v7A m Γ 400 hm hΓ (by omega) t hw (by omega);refine⟨g,eg,fun h0=>?_⟩;obtain⟨b,eb,hb⟩:=y5M t g.Form (by omega);exact⟨b,eb,fun h=>⟨_,(hg h0).2 (hb.1 h)⟩⟩
theorem y9G{m:zA}{N:Int}{Γ:List zA}{a:State}(h:StOk m N Γ (at_ a 0))(hml:m.L.length≤1000000000):z5R {a with Fuel:=0} {a with Fuel:=0}=some true:=by
 have hl:a.Locals.length≤1000000000:=h.locals_le;have hg:a.Globals.length≤1000000000:=by have:=h.gl;simp only at this;omega
 have ht:a.Trace.length≤1000000000:=by have:=h.tr;have:=h.trN;simp only at *;omega
 obtain⟨c,ec,hc⟩:=v2e a.Ret (show VW a.Ret from h.rt).vok a.Ret;unfold z5R;simp only;rw[y4I a.Globals h.gw hg,zB,zq1 rfl,y4I a.Locals h.lw hl,zB,zq1 rfl,y1I a.Input h.inl,zB,zq1 rfl,zq1 trivial,y1I a.Trace ht,zB,zq1 rfl,zq1 trivial,zq1 trivial,zq1 trivial,ec,zB,hc.2 rfl]
theorem y7n:z1u=some true:=by
 unfold z1u;obtain⟨-,-,-,e0⟩:=y7p (t:=⟨5,0,[],[],0,0⟩) (by simp[zJ,wK]);obtain⟨r,e1,e2,-⟩:=y7p (t:=⟨9,3,[],[],0,0⟩) (by simp[zJ,wK]);have hr:r=[⟨9,3,[],[],0,0⟩]:=List.perm_singleton.1 (by simpa [nds,y5m]using e2);have hg:gA [⟨9,3,[],[],0,0⟩] []=some [3]:=by
  unfold gA;rw[zq1 rfl,zq1 (by unfold wC;simp)];rfl
 have hR:z6u ⟨9,3,[],[],0,0⟩=some [3]:=by
  unfold z6u;rw[e1,zB,hr,hg,zB,zq1 (by simp),List.mergeSort_singleton];rfl
 rw[e0,zB,show(nds ⟨5,0,[],[],0,0⟩).all q1=true from rfl,zq1 rfl,hR,zB];rfl
theorem y7o(x0:Law24Eval)(w0:Law24Eval.Wf x0):z2V x0=some true:=by
 unfold z2V;obtain⟨b,e,hb⟩:=v3q x0 w0.Types_ w0.M_ w0.A_ w0.B_ w0.S_;rw[e,zB,y7n];simp only[zB];cases b with
 |true=>rw[zq1 rfl]
 |false=>
  obtain⟨sn,st,smm,sma,ss⟩:=hb rfl;rw[zq0 (by decide)];obtain⟨-,-,-,hq⟩:=y7p (t:=x0.A) (by omega);rw[hq,zB];cases q:(nds x0.A).all q1 with
  |false=>rw[zq0 (by decide)]
  |true=>
   rw[zq1 rfl];unfold y0x;obtain⟨b2,e2,h2⟩:=v5Z x0.M (by omega) w0.M_;rw[e2,zB];cases b2 with
   |false=>rw[zq0 (by decide),zB,zq0 (by decide)]
   |true=>
    have hm:=h2 rfl;obtain⟨b3,e3,h3⟩:=v6b x0.M x0.S hm (by omega);rw[zq1 rfl,e3,zB];cases b3 with
    |false=>rw[zq0 (by decide),zB,zq0 (by decide)]
    |true=>
     obtain⟨b4,e4,h4⟩:=v6Y x0.M x0.Types x0.S.Locals (by omega) (fun x hx=>by have:=st x hx;omega) w0.S_.Locals_.1;rw[zq1 rfl,e4,zB];cases b4 with
     |false=>rw[zq0 (by decide),zB,zq0 (by decide)]
     |true=>
      obtain⟨g,eg,hg⟩:=v7B x0.M x0.Types x0.A smm st sn sma w0.A_;rw[zq1 rfl,eg,zB];by_cases c0:g.E=0
      ·rw[zq1 c0];obtain⟨b5,e5,h5⟩:=hg c0;rw[e5,zB];cases b5 with
       |false=>rw[zq0 (by decide),zB,zq0 (by decide)]
       |true=>
        obtain⟨τ,hT⟩:=h5 rfl;have hfit:=h3 rfl;have hs:=v7W hm (by omega) (fun x hx=>by have:=st x hx;omega) w0.S_ ss hfit (h4.1 rfl);have k0:=hfit.k;have hf:=ss.f;have ht:=ss.t;have f0:=hfit.f0;obtain⟨v,a,hM,hst,fa,hfa,hor⟩:=v4I hm (by omega) w0.M_ hT q w0.A_ sma hs k0 (by omega) (by omega);rw[zq1 rfl,hM];simp only[zB];rw[zq1 trivial,v7a x0.A (by omega)];simp only[zB];have hml:=vR x0.M;rcases hor with⟨k3,lt,z,e⟩|⟨k3,le,e⟩
        ·rw[zq1 k3,zq1 lt,zq1 z];simp only[z2o,zB];rw[e,y9G (hs.less (C:=x0.S.Fuel) (Int.le_refl _) f0) (by omega)];rfl
        ·rw[zq0 k3,z3c (by omega) (by omega),zq1 le];simp only[z2o,zB];rw[show({a with Fuel:=0}:State)={x0.S with Fuel:=0}from e,y9G (hs.less (C:=x0.S.Fuel) (Int.le_refl _) f0) (by omega)];rfl
      ·rw[zq0 c0,zB,zq0 (by decide)]
end Go.Proofs.YtcpblelppecabaaGreat.M

