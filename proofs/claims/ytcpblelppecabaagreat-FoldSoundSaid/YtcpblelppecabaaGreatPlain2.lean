import Derived.Test.YtcpblelppecabaaGreatPlain1
namespace Go.Proofs.YtcpblelppecabaaGreat.M
open Go Nt
set_option linter.unusedVariables false
set_option linter.unusedSimpArgs false
set_option linter.unusedSectionVars false
theorem ModOk.fn{m d:zA}(h:ModOk m){k:Nat}(hd':m.L[k]?=some d)(hk:d.K=33):∃ps r b,v9L m d ps r b:=by
 cases h.2.2.2.2 k d hd' with
 |fn ps r b h=>exact⟨ps,r,b,h⟩
 |rcd h _ _=>exact absurd (h.1.symm.trans hk) (by decide)
 |var _ h _ _ _=>omega
 |con _ h _ _ _ _=>omega
theorem ModOk.rcd{m d:zA}(h:ModOk m){k:Nat}(hd':m.L[k]?=some d)(hk:d.K=30):Good m ⟨4,k,[],[],0,0⟩:=by
 cases h.2.2.2.2 k d hd' with
 |fn _ _ _ h=>have:=h.K;omega
 |rcd _ h _=>exact h
 |var _ h _ _ _=>omega
 |con _ h _ _ _ _=>omega
theorem ModOk.con{m d x:zA}(h:ModOk m){k:Nat}(hd':m.L[k]?=some d)(hk:d.K=31)(hx:d.L=[x])(h6:x.K=6):x.N=0∨x.N=1:=by
 cases h.2.2.2.2 k d hd' with
 |fn _ _ _ h=>have:=h.K;omega
 |rcd h _ _=>exact absurd (h.1.symm.trans hk) (by decide)
 |var _ h _ _ _=>omega
 |con y _ hy _ h _=>rw[hx]at hy;injection hy with hy;subst hy;omega
theorem ModOk.vartype{m d:zA}(h:ModOk m){k:Nat}(hd':m.L[k]?=some d)(hk:d.K=32):∃x,d.L=[x]∧Good m x:=by
 cases h.2.2.2.2 k d hd' with
 |fn _ _ _ h=>have:=h.K;omega
 |rcd h _ _=>exact absurd (h.1.symm.trans hk) (by decide)
 |var x _ h1 h2 _=>exact⟨x,h1,h2⟩
 |con _ h _ _ _ _=>omega
theorem HasR.nat{m d:zA}{n kind:Int}(h:HasR m n kind d):∃k:Nat,n=k∧m.L[k]?=some d∧d.K=kind:=⟨n.toNat,by have:=h.1;omega,h.2.1,h.2.2.1⟩
theorem y3X{l:List Value}{k:Nat}(h:k<l.length):y0b l k=some (l[l.length-1-k]'(by omega)):=by
 unfold y0b;rw[zq0 (by omega)];show l.reverse[k]?=_;rw[List.getElem?_reverse h];exact List.getElem?_eq_getElem (by omega)
theorem v1w{l:List Value}{k:Nat}(h:k<l.length)(hl:l.length≤1000000000):idx l (IntKind.wrap .i64 (IntKind.wrap .i64 ((l.length:Int)-1)-k))=some (l[l.length-1-k]'(by omega)):=by
 have e:IntKind.wrap .i64 (IntKind.wrap .i64 ((l.length:Int)-1)-k)=((l.length-1-k:Nat):Int):=by
  rw[z1H (n:=(l.length:Int)-1) (by omega) (by omega),z1H (by omega) (by omega)];omega
 rw[e];exact wG (by omega)
theorem y1D{l:List Value}{k:Nat}:y9o l k=l[k]?:=by unfold y9o;rw[zq0 (by omega)];rfl
theorem StOk.locals_le{m:zA}{N:Int}{Γ:List zA}{s:State}(h:StOk m N Γ s):s.Locals.length≤1000000000:=by have:=h.room;have:=h.fuel0;omega
theorem v1m{m τ x:zA}{v y:Value}{i:Nat}(h:Fit m τ v)(hx:(vY m τ)[i]?=some x)(hy:v.L[i]?=some y):Fit m x y:=h.inv.2.2.2 i x y hx hy
theorem y1I{m τ x:zA}(hk:τ.K=3)(hL:τ.L=[x]):vY m τ=List.replicate τ.N.toNat x:=by
 unfold vY;rw[zq1 hk];unfold hd;rw[hL];rfl
theorem y1K{m τ d:zA}{k:Nat}(hk:τ.K=4)(hN:τ.N=k)(hd':m.L[k]?=some d):vY m τ=d.L.map hd:=by
 unfold vY;rw[zq0 (by omega),zq1 hk,hN];show(match m.L[k]? with|some d=>d.L.map hd|none=>[])=_;rw[hd']
theorem v6X{m τ:zA}{v:Value}(h:Fit m τ v)(hk:τ.K=2):v.N=0∨v.N=1:=h.inv.2.1.1 hk
theorem v8L{m τ:zA}(hk:τ.K=1)(hL:τ.L=[])(n:Int):Fit m τ ⟨n,[]⟩:=
 .mk _ _ ⟨1,by rw[wQ];unfold wK;rw[zq1 hk,hL];rfl,by decide⟩ ⟨fun h=>by omega,fun h=>absurd hk h⟩ (by unfold vY;rw[zq0 (by omega),zq0 (by omega)];rfl) fun i x y hx=>by unfold vY at hx;rw[zq0 (by omega),zq0 (by omega)]at hx;simp at hx
theorem v1l{m τ:zA}(hk:τ.K=2)(hL:τ.L=[])(n:Int)(hn:n=0∨n=1):Fit m τ ⟨n,[]⟩:=
 .mk _ _ ⟨1,by rw[wQ];unfold wK;rw[zq0 (by omega),zq1 hk,hL];rfl,by decide⟩ ⟨fun _=>hn,fun _ h=>absurd hk h⟩ (by unfold vY;rw[zq0 (by omega),zq0 (by omega)];rfl) fun i x y hx=>by unfold vY at hx;rw[zq0 (by omega),zq0 (by omega)]at hx;simp at hx
theorem v8N{m τ:zA}{v:Value}(h:Fit m τ v)(hk:τ.K=1∨τ.K=2):v.L=[]:=by
 have:=h.inv.2.2.1;unfold vY at this;rw[zq0 (by omega),zq0 (by omega)]at this;exact List.length_eq_zero_iff.1 this.symm
theorem v6W{m τ σ:zA}{v:Value}(h:Fit m τ v)(hk:τ.K=2)(hk':σ.K=2)(hL:σ.L=[]):Fit m σ v:=by
 have e:v=⟨v.N,[]⟩:=y6q rfl (v8N h (.inr hk));rw[e];exact v1l hk' hL _ (v6X h hk)
theorem v6V (m:zA) (hm:ModOk m) (hms:zI m≤100000000) (hmw:zA.Wf m) (f:Nat) (CE:y7g m f) (CL:v9B m f) (CC:v9A m f) (N:Int) (Γ:List zA) (t τ:zA) (s s1:State) (hpay:z1v s=some s1) (hk1:s1.Kind=0)
  (hT:TE m Γ t τ) (hw:zA.Wf t) (hts:zI t≤100000000) (hst:StOk m N Γ s1) (hf:s1.Fuel≤f):
  ∃o s',Run m (z1G m t s1) o s'∧zK m s t=some ⟨o.v,s'⟩∧StOk m N Γ s'∧s'.Fuel≤s1.Fuel∧v8u m τ o s':=by
 have hwN:=hw.N_;have hml:=vN m;cases hT with
 |alone _ _ hS hF hTo hL h16 hA=>
  have ret:∀(v:Value) (s':State),s'.Kind=0→Fit m τ v→VW v→v8u m τ (oV v) s':=fun v s' h1 h2 h3=>.inl ⟨h1,h2,h3⟩;cases hA with
  |num k=>
   refine⟨oN t.N,s1,by unfold z1G;rw[zq1 (.inl k)];exact .ret _ _,?_,hst,Int.le_refl _,ret _ _ hk1 (y5E m t.N) (y0p hwN)⟩;rw[jD];unfold uF;rw[hpay,zB,zq1 hk1,zq1 k];rfl
  |tru k hN=>
   refine⟨oN t.N,s1,by unfold z1G;rw[zq1 (.inr k)];exact .ret _ _,?_,hst,Int.le_refl _,ret _ _ hk1 (z7y m t.N hN) (y0p hwN)⟩;rw[jD];unfold uF;rw[hpay,zB,zq1 hk1,zq0 (by omega),zq1 k];rfl
  |loc n x k hN hn hx=>
   have hll:=hst.ll;have hlt:n<s1.Locals.length:=by omega
   have hlt':s1.Locals.length-1-n<s1.Locals.length:=by omega
   refine⟨oV s1.Locals[s1.Locals.length-1-n],s1,?_,?_,hst,Int.le_refl _,ret _ _ hk1 (y3V (hst.lf (s1.Locals.length-1-n) x _ (by rw[hll];exact hx) (List.getElem?_eq_getElem hlt'))) (hst.lw _ (List.getElem_mem hlt'))⟩
   ·unfold z1G;rw[zq0 (by omega),zq1 k,hN,y3X hlt];exact .ret _ _
   ·rw[jD];unfold uF;rw[hpay,zB,zq1 hk1,zq0 (by omega),zq0 (by omega),zq1 k,hN,v1w hlt hst.locals_le];rfl
  |coni d x k hd' hx h5=>
   obtain⟨n,hN,hdn,-⟩:=hd'.nat;have hxw:zA.Wf x:=(hmw.L_.2 _ (List.mem_of_getElem? hdn)).L_.2 x (by rw[hx];exact List.mem_singleton_self x);refine⟨oN x.N,s1,?_,?_,hst,Int.le_refl _,ret _ _ hk1 (y5E m x.N) (y0p hxw.N_)⟩
   ·unfold z1G;rw[zq0 (by omega),zq0 (by omega),zq0 (by omega),zq1 k,hN];show Run m (P.opt m.L[n]? _) _ _;rw[hdn];show Run m (P.opt d.L[0]? _) _ _;rw[hx];exact .ret _ _
   ·rw[jD];unfold uF;rw[hpay,zB,zq1 hk1,zq0 (by omega),zq0 (by omega),zq0 (by omega),zq0 (by omega),zq1 k,hN,z5R,hdn,zB,hx];rfl
  |conb d x k hd' hx h6=>
   obtain⟨n,hN,hdn,hdk⟩:=hd'.nat;have hxw:zA.Wf x:=(hmw.L_.2 _ (List.mem_of_getElem? hdn)).L_.2 x (by rw[hx];exact List.mem_singleton_self x);refine⟨oN x.N,s1,?_,?_,hst,Int.le_refl _,ret _ _ hk1 (z7y m x.N (hm.con hdn hdk hx h6)) (y0p hxw.N_)⟩
   ·unfold z1G;rw[zq0 (by omega),zq0 (by omega),zq0 (by omega),zq1 k,hN];show Run m (P.opt m.L[n]? _) _ _;rw[hdn];show Run m (P.opt d.L[0]? _) _ _;rw[hx];exact .ret _ _
   ·rw[jD];unfold uF;rw[hpay,zB,zq1 hk1,zq0 (by omega),zq0 (by omega),zq0 (by omega),zq0 (by omega),zq1 k,hN,z5R,hdn,zB,hx];rfl
  |glob d x k hd' hx=>
   obtain⟨n,hN,hdn,hdk⟩:=hd'.nat;have hlt:n<s1.Globals.length:=by rw[hst.gl];exact(List.getElem?_eq_some_iff.1 hdn).1
   have hg:=List.getElem?_eq_getElem hlt;refine⟨oV s1.Globals[n],s1,?_,?_,hst,Int.le_refl _,ret _ _ hk1 (y3V (hst.gf n d x _ hdn hdk hx hg)) (hst.gw _ (List.getElem_mem hlt))⟩
   ·unfold z1G;rw[zq0 (by omega),zq0 (by omega),zq1 k,hN,y1D,hg];exact .ret _ _
   ·rw[jD];unfold uF;rw[hpay,zB,zq1 hk1,zq0 (by omega),zq0 (by omega),zq0 (by omega),zq1 k,hN,wG hlt];rfl
  |read k=>
   by_cases c:s1.At≥(s1.Input.length:Int)
   ·refine⟨o0,y1a 3 s1,?_,?_,hst.same rfl rfl rfl rfl rfl rfl hst.rt,Int.le_refl _,.inr ⟨.inl rfl,rfl⟩⟩
    ·unfold z1G;rw[zq0 (by omega),zq0 (by omega),zq0 (by omega),zq0 (by omega),zq1 k,zq1 c];exact .ret _ _
    ·rw[jD];unfold uF;rw[hpay,zB,zq1 hk1,zq0 (by omega),zq0 (by omega),zq0 (by omega),zq0 (by omega),zq0 (by omega),zq1 k,zq1 c];rfl
   ·have h0:=hst.at0;have hil:=hst.inl;obtain⟨n,hn⟩:∃n:Nat,s1.At=n:=⟨s1.At.toNat,by omega⟩;have hlt:n<s1.Input.length:=by omega
    have hg:=List.getElem?_eq_getElem hlt;have st':StOk m N Γ {s1 with At:=s1.At+1}:={hst with at0:=by simp only;omega,at1:=by simp only;omega};refine⟨oN s1.Input[n],{s1 with At:=s1.At+1},?_,?_,st',Int.le_refl _,ret _ _ hk1 (y5E m _) (y0p (hst.inw _ (List.getElem_mem hlt)))⟩
    ·unfold z1G;rw[zq0 (by omega),zq0 (by omega),zq0 (by omega),zq0 (by omega),zq1 k,zq0 c,hn];show Run m (P.opt s1.Input[n]? _) _ _;rw[hg];exact .ret _ _
    ·rw[jD];unfold uF;rw[hpay,zB,zq1 hk1,zq0 (by omega),zq0 (by omega),zq0 (by omega),zq0 (by omega),zq0 (by omega),zq1 k,zq0 c,z1H (n:=s1.At+1) (by omega) (by omega),z1H (by omega) (by omega),show s1.At+1-1=(n:Int)by omega,wG hlt];rfl
 |rule _ _ p hS hF hTo hne hpl hP hR=>
  have hsub:∀x∈t.L,zA.Wf x∧zI x≤100000000:=fun x hx=>⟨hw.L_.2 x hx,by have:=zM hx;omega⟩;by_cases k10:t.K=10
  ·cases hR with
   |un _ k _ _=>omega
   |index _ _ _ k _ _ _ _ _=>omega
   |field _ _ _ k _ _ _ _=>omega
   |make _ k _ _=>omega
   |call _ _ _ _ k _ _ _=>omega
   |list _ _ k _ _ _=>omega
   |bin ta tb _ k hp h2=>
    obtain⟨a,b,hL⟩:∃a b,t.L=[a,b]:=v9G (by rw[←hpl,hp];rfl);have hTa:TE m Γ a ta:=hP 0 a ta (by rw[hL];rfl) (by rw[hp];rfl);have hTb:TE m Γ b tb:=hP 1 b tb (by rw[hL];rfl) (by rw[hp];rfl);obtain⟨wa,sa⟩:=hsub a (by rw[hL];simp);obtain⟨wb,sb⟩:=hsub b (by rw[hL];simp);obtain⟨oa,s2,hG,hM,hs2,hf2,-,hE⟩:=CE N Γ a ta s1 hTa wa sa hst (.inl hk1) hf;have mod:∀r,(if s2.Kind=0 then
       if t.N=2 then
        if oa.v.N=0 then z1u 0 s2>>=fun q3=>some q3
        else some b>>=fun x2=>zK m s2 x2>>=fun q9=>if q9.S.Kind=0 then some q9 else some q9
       else
       if t.N=1 then
        if oa.v.N=0 then some b>>=fun x3=>zK m s2 x3>>=fun q14=>if q14.S.Kind=0 then some q14 else some q14
        else z1u 1 s2>>=fun q13=>some q13
       else
       some b>>=fun x4=>zK m s2 x4>>=fun q18=>if q18.S.Kind=0 then z2N t.N oa.v.N q18.V.N>>=fun q19=>if q19.2=0 then z1u q19.1 q18.S>>=fun q21=>some q21 else z0D q19.2 q18.S>>=fun q20=>some q20 else some q18
      else z2t s2>>=fun q2=>some q2)=r→zK m s t=r:=fun r hr=>by
     rw[jD];unfold uF;rw[hpay,zB,zq1 hk1,zq0 (by omega),zq0 (by omega),zq0 (by omega),zq0 (by omega),zq0 (by omega),zq0 (by omega),zq1 k10];rw[v4f];unfold z5y;rw[hL,show idx [a,b] 0=some a from rfl,show idx [a,b] 1=some b from rfl,zB,hM,zB];simp only at hr ⊢;rw[hr];cases r<;>rfl
    have run:∀o s',Run m (.on s2 o0
      (if t.N=2∧oa.v.N=0 then .ret (oN 0) s2 else if t.N=1∧oa.v.N≠0 then .ret (oN 1) s2 else
       .call (.E b) s2 fun p s=>.on s (oV p.v) (if t.N=1∨t.N=2 then .ret (oV p.v) s else .opt (z2N t.N oa.v.N p.v.N) fun q=>if q.2=0 then .ret (oN q.1) s else .ret o0 (y1a q.2 s)))) o s'→Run m (z1G m t s1) o s':=fun o s' hr=>by
     unfold z1G;rw[zq0 (by omega),zq0 (by omega),zq0 (by omega),zq0 (by omega),zq0 (by omega),zq1 k10,hL];exact .call _ _ _ oa s2 _ _ hG hr
    rcases hE with⟨hk2,hFa,hWa⟩|⟨hk2,rfl⟩
    ·have more:(¬(t.N=2∧oa.v.N=0))→(¬(t.N=1∧oa.v.N≠0))→∃ob s3,G m (.E b) s2 ob s3∧zK m s2 b=some ⟨ob.v,s3⟩∧StOk m N Γ s3∧s3.Fuel≤s2.Fuel∧v8u m tb ob s3 ∧
       (∀o s',Run m (.on s3 (oV ob.v) (if t.N=1∨t.N=2 then .ret (oV ob.v) s3 else .opt (z2N t.N oa.v.N ob.v.N) fun q=>if q.2=0 then .ret (oN q.1) s3 else .ret o0 (y1a q.2 s3))) o s'→Run m (z1G m t s1) o s'):=fun c1 c2=>by
      obtain⟨ob,s3,hG',hM',hs3,hf3,-,hE'⟩:=CE N Γ b tb s2 hTb wb sb hs2 (.inl hk2) (by omega);refine⟨ob,s3,hG',hM',hs3,hf3,hE',fun o s' hr=>run o s' ?_⟩;rw[run_on];refine .inl ⟨hk2,?_⟩;rw[zq0 c1,zq0 c2];exact .call _ _ _ ob s3 _ _ hG' hr
     by_cases n12:t.N=1∨t.N=2
     ·have hlog:τ=y3B∧(ta.K=2∧ta.L=[])∧(tb.K=2∧tb.L=[]):=by
       cases h2 with
       |logic _ x y=>exact⟨rfl,x,y⟩
       |eqi h _ _=>omega
       |eqb h _ _=>omega
       |less h _ _ _=>omega
       |num h _ _=>omega
      obtain⟨rfl,⟨ka,la⟩,⟨kb,lb⟩⟩:=hlog;by_cases c1:t.N=2∧oa.v.N=0
      ·refine⟨oN 0,s2,run _ _ ?_,mod _ ?_,hs2,by omega,.inl ⟨hk2,z7y m 0 (.inl rfl),v8m⟩⟩
       ·rw[run_on];refine .inl ⟨hk2,?_⟩;rw[zq1 c1];exact .ret _ _
       ·rw[zq1 hk2,zq1 c1.1,zq1 c1.2];rfl
      by_cases c2:t.N=1∧oa.v.N≠0
      ·refine⟨oN 1,s2,run _ _ ?_,mod _ ?_,hs2,by omega,.inl ⟨hk2,z7y m 1 (.inr rfl),y0p (by rw[i64_iff];omega)⟩⟩
       ·rw[run_on];refine .inl ⟨hk2,?_⟩;rw[zq0 c1,zq1 c2];exact .ret _ _
       ·rw[zq1 hk2,zq0 (by omega),zq1 c2.1,zq0 c2.2];rfl
      obtain⟨ob,s3,hG',hM',hs3,hf3,hE',hrun⟩:=more c1 c2;refine⟨oV ob.v,s3,hrun _ _ ?_,mod _ ?_,hs3,by omega,?_⟩
      ·rw[run_on];by_cases hk3:s3.Kind=0
       ·refine .inl ⟨hk3,?_⟩;rw[zq1 n12];exact .ret _ _
       ·exact .inr ⟨hk3,rfl,rfl⟩
      ·rw[zq1 hk2];by_cases n2:t.N=2
       ·rw[zq1 n2,zq0 (fun e=>c1 ⟨n2,e⟩),zB,hM',zB,ite_self]
       ·rw[zq0 n2,zq1 (by omega),zq1 (Classical.byContradiction fun e=>c2 ⟨by omega,e⟩),zB,hM',zB,ite_self]
      ·rcases hE' with⟨h1,h2,h3⟩|⟨h1,rfl⟩
       ·exact .inl ⟨h1,v6W h2 kb rfl rfl,h3⟩
       ·exact .inr ⟨h1,rfl⟩
     ·obtain⟨ob,s3,hG',hM',hs3,hf3,hE',hrun⟩:=more (by omega) (by omega);have mod':∀r,(if s3.Kind=0 then z2N t.N oa.v.N ob.v.N>>=fun q19=>if q19.2=0 then z1u q19.1 s3>>=fun q21=>some q21 else z0D q19.2 s3>>=fun q20=>some q20 else some ⟨ob.v,s3⟩)=r→zK m s t=r:=fun r hr=>mod r (by
       rw[zq1 hk2,zq0 (by omega),zq0 (by omega),zB,hM',zB];exact hr)
      rcases hE' with⟨hk3,hFb,hWb⟩|⟨hk3,rfl⟩
      ·have e2:=y6f t.N oa.v.N ob.v.N (y9b hWa.N_) (y9b hWb.N_);have hi:=v9x t.N oa.v.N ob.v.N hWa.N_ hWb.N_;by_cases cz:(y3U t.N oa.v.N ob.v.N).2=0
       ·refine⟨oN (y3U t.N oa.v.N ob.v.N).1,s3,hrun _ _ ?_,mod' _ ?_,hs3,by omega,.inl ⟨hk3,?_,y0p hi⟩⟩
        ·rw[run_on];refine .inl ⟨hk3,?_⟩;rw[zq0 n12,e2];show Run m (if _ then _ else _) _ _;rw[zq1 cz];exact .ret _ _
        ·rw[zq1 hk3,e2,zB,zq1 cz];rfl
        ·cases h2 with
         |logic h _ _=>exact absurd h n12
         |eqi h _ _=>exact z7y m _ (y6p _ _ _ (by omega)).2
         |eqb h _ _=>exact z7y m _ (y6p _ _ _ (by omega)).2
         |less h h' _ _=>exact z7y m _ (y6p _ _ _ (by omega)).2
         |num h _ _=>exact y5E m _
       ·refine⟨o0,y1a (y3U t.N oa.v.N ob.v.N).2 s3,hrun _ _ ?_,mod' _ ?_,hs3.same rfl rfl rfl rfl rfl rfl hs3.rt,by show s3.Fuel≤_;omega,.inr ⟨.inl rfl,rfl⟩⟩
        ·rw[run_on];refine .inl ⟨hk3,?_⟩;rw[zq0 n12,e2];show Run m (if _ then _ else _) _ _;rw[zq0 cz];exact .ret _ _
        ·rw[zq1 hk3,e2,zB,zq0 cz];rfl
      ·refine⟨o0,s3,hrun _ _ ?_,mod' _ ?_,hs3,by omega,.inr ⟨hk3,rfl⟩⟩
       ·rw[run_on];exact .inr ⟨by omega,rfl,rfl⟩
       ·rw[zq0 (by omega)]
    ·refine⟨o0,s2,run _ _ ?_,mod _ ?_,hs2,by omega,.inr ⟨hk2,rfl⟩⟩
     ·rw[run_on];exact .inr ⟨by omega,rfl,rfl⟩
     ·rw[zq0 (by omega)];rfl
  ·obtain⟨ol,s2,hG,hM0,hs2,hf2,hkk,hll,hF⟩:=CL N Γ t.L p s1 hP hpl hsub hst (.inl hk1) hf;have htl:=vN t;have hM:gU m s1 t.L=some (ol.l,s2):=by
    rw[v1T];unfold z4u;have:=hM0 t.L [] 0 ⟨[],[],[],0,[],0,0,0,⟨0,[]⟩⟩ rfl (by omega) rfl (by omega);simpa using this
   have kinds:(t.K=11∨t.K=12∨t.K=13∨t.K=14∨t.K=15∨t.K=16):=by
    cases hR<;>omega
   have run:∀o s',Run m (.on s2 o0
     (if t.K=11 then .opt ol.l[0]? fun v=>.opt (z1D t.N v.N) fun n=>.ret (oN n) s2
      else if t.K=12 then .opt ol.l[0]? fun v=>.opt ol.l[1]? fun i=>if i.N<0∨i.N≥(v.L.length:Int)then .ret o0 (y1a 2 s2)else .opt v.L[i.N.toNat]? fun x=>.ret (oV x) s2
      else if t.K=13 then .opt ol.l[0]? fun v=>.opt v.L[(Int.tmod t.N 64).toNat]? fun x=>.ret (oV x) s2
      else if t.K=16 then .call (.C t.N ol.l) s2 fun o s=>.ret (oV o.v) s
      else .ret (oV ⟨0,ol.l⟩) s2)) o s'→Run m (z1G m t s1) o s':=fun o s' hr=>by
    unfold z1G;rw[zq0 (by omega),zq0 (by omega),zq0 (by omega),zq0 (by omega),zq0 (by omega),zq0 k10];exact .call _ _ _ ol s2 _ _ hG hr
   have mod:∀r,(if s2.Kind=0 then
      if t.K=11 then idx ol.l 0>>=fun x15=>z1D t.N x15.N>>=fun q20=>z1u q20 s2>>=fun q21=>some q21
      else if t.K=12 then idx ol.l 1>>=fun x16=>if x16.N<0 then z0D 2 s2>>=fun q22=>some q22 else
       idx ol.l 1>>=fun x17=>idx ol.l 0>>=fun x18=>if x17.N≥(List.length x18.L:Int)then z0D 2 s2>>=fun q23=>some q23 else
       idx ol.l 0>>=fun x19=>idx ol.l 1>>=fun x20=>idx x19.L x20.N>>=fun x21=>some (Ref21Got.mk x21 s2)
      else if t.K=13 then idx ol.l 0>>=fun x22=>if 64≠(0:Int)then idx x22.L (Int.tmod t.N 64)>>=fun x23=>some (Ref21Got.mk x23 s2)else none
      else if t.K=16 then uE m s2 t.N ol.l>>=fun q24=>some q24
      else some (Ref21Got.mk (Value.mk 0 ol.l) s2)
     else z2t s2>>=fun q19=>some q19)=r→zK m s t=r:=fun r hr=>by
    rw[jD];unfold uF;rw[hpay,zB,zq1 hk1,zq0 (by omega),zq0 (by omega),zq0 (by omega),zq0 (by omega),zq0 (by omega),zq0 (by omega),zq0 k10,hM,zB];exact hr
   by_cases hk2:s2.Kind=0
   ·have hF:=hF hk2;have run:∀o s',Run m (if t.K=11 then .opt ol.l[0]? fun v=>.opt (z1D t.N v.N) fun n=>.ret (oN n) s2
      else if t.K=12 then .opt ol.l[0]? fun v=>.opt ol.l[1]? fun i=>if i.N<0∨i.N≥(v.L.length:Int)then .ret o0 (y1a 2 s2)else .opt v.L[i.N.toNat]? fun x=>.ret (oV x) s2
      else if t.K=13 then .opt ol.l[0]? fun v=>.opt v.L[(Int.tmod t.N 64).toNat]? fun x=>.ret (oV x) s2
      else if t.K=16 then .call (.C t.N ol.l) s2 fun o s=>.ret (oV o.v) s
      else .ret (oV ⟨0,ol.l⟩) s2) o s'→Run m (z1G m t s1) o s':=fun o s' hr=>run o s' (run_on.2 (.inl ⟨hk2,hr⟩))
    have val:∀(i:Nat) y,p[i]?=some y→∃v,ol.l[i]?=some v∧idx ol.l i=some v∧Fit m y v∧VW v:=fun i y hy=>by
     have hlt:i<ol.l.length:=by have:=(List.getElem?_eq_some_iff.1 hy).1;omega
     have g:=List.getElem?_eq_getElem hlt;obtain⟨h1,h2⟩:=hF i y _ hy g;exact⟨_,g,by rw[z5R];exact g,h1,h2⟩
    have allw:∀v∈ol.l,VW v:=fun v hv=>by
     obtain⟨i,hi⟩:=List.getElem?_of_mem hv;have hlt:=(List.getElem?_eq_some_iff.1 hi).1;exact(hF i _ v (List.getElem?_eq_getElem (by omega)) hi).2
    cases hR with
    |bin _ _ _ k _ _=>exact absurd k k10
    |un a k hp hN=>
     obtain⟨v,g1,g2,hFv,hWv⟩:=val 0 τ (by rw[hp];rfl);have g2:idx ol.l 0=some v:=g2;refine⟨oN (v7A t.N v.N),s2,run _ _ ?_,mod _ ?_,hs2,hf2,.inl ⟨hk2,?_,?_⟩⟩
     ·rw[zq1 k,g1];show Run m (P.opt (z1D t.N v.N) _) _ _;rw[z9T];exact .ret _ _
     ·rw[zq1 hk2,zq1 k,g2,zB,z9T];rfl
     ·rcases hN with⟨n1,h1,h2⟩|⟨n2,h1,h2⟩
      ·exact v8L h1 h2 _
      ·refine v1l h1 h2 _ ?_;unfold v7A;rw[zq0 (by omega),zq1 n2];exact v0g _
     ·refine y0p ?_;unfold v7A;split
      ·exact z9J _
      split
      ·exact y9a _
      ·rw[i64_iff];omega
    |index a b x k hp ka la kb lb=>
     obtain⟨v,g1,g2,hFv,hWv⟩:=val 0 a (by rw[hp];rfl);obtain⟨w,g3,g4,hFw,hWw⟩:=val 1 b (by rw[hp];rfl);have g2:idx ol.l 0=some v:=g2;have g4:idx ol.l 1=some w:=g4;by_cases c:w.N<0∨w.N≥(v.L.length:Int)
     ·refine⟨o0,y1a 2 s2,run _ _ ?_,mod _ ?_,hs2.same rfl rfl rfl rfl rfl rfl hs2.rt,hf2,.inr ⟨.inl rfl,rfl⟩⟩
      ·rw[zq0 (by omega),zq1 k,g1];show Run m (P.opt ol.l[1]? _) _ _;rw[g3];show Run m (if _ then _ else _) _ _;rw[zq1 c];exact .ret _ _
      ·rw[zq1 hk2,zq0 (by omega),zq1 k,g4,zB];by_cases c1:w.N<0
       ·rw[zq1 c1];rfl
       ·rw[zq0 c1,zB,g2,zB,zq1 (by omega)];rfl
     ·obtain⟨y,ey,hy⟩:=y5H (l:=v.L) (n:=w.N) (by omega) (by omega);refine⟨oV y,s2,run _ _ ?_,mod _ ?_,hs2,hf2,.inl ⟨hk2,?_,hWv.L_.2 y (List.mem_of_getElem? hy)⟩⟩
      ·rw[zq0 (by omega),zq1 k,g1];show Run m (P.opt ol.l[1]? _) _ _;rw[g3];show Run m (if _ then _ else _) _ _;rw[zq0 c,hy];exact .ret _ _
      ·rw[zq1 hk2,zq0 (by omega),zq1 k,g4,zB,zq0 (by omega),zB,g2,zB,zq0 (by omega),zB,zB,ey];rfl
      ·refine v1m (i:=w.N.toNat) hFv ?_ hy;have hpl':=hFv.inv.2.2.1;rw[y1I ka la]at hpl' ⊢;rw[List.length_replicate]at hpl';exact List.getElem?_replicate_of_lt (by omega)
    |field a x n k hp ka la hfr=>
     obtain⟨v,g1,g2,hFv,hWv⟩:=val 0 a (by rw[hp];rfl);have g2:idx ol.l 0=some v:=g2;obtain⟨d,fd,k',i,e1,e2,e3,e4,e5,e6,e7⟩:=hfr;have em:Int.tmod t.N 64=(i:Int):=by rw[Int.tmod_eq_emod_of_nonneg (by omega)];omega
     have hpp:=y1K ka e1 e2;have hpl':=hFv.inv.2.2.1;have hid:=(List.getElem?_eq_some_iff.1 e4).1;have hlt:i<v.L.length:=by rw[←hpl',hpp,zq3];exact hid
     have gy:=List.getElem?_eq_getElem hlt;have hdx:hd fd=x:=by unfold hd;rw[e5];rfl
     refine⟨oV v.L[i],s2,run _ _ ?_,mod _ ?_,hs2,hf2,.inl ⟨hk2,y3V (v1m (i:=i) hFv ?_ gy),hWv.L_.2 _ (List.getElem_mem hlt)⟩⟩
     ·rw[zq0 (by omega),zq0 (by omega),zq1 k,g1];show Run m (P.opt v.L[(Int.tmod t.N 64).toNat]? _) _ _;rw[em];show Run m (P.opt v.L[i]? _) _ _;rw[gy];exact .ret _ _
     ·rw[zq1 hk2,zq0 (by omega),zq0 (by omega),zq1 k,g2,zB,zq1 (by decide),em,wG hlt];rfl
     ·rw[hpp,List.getElem?_map,e4,Option.map_some,hdx]
    |make d k hd' hfit=>
     obtain⟨n,hN,hdn,hdk⟩:=hd'.nat;have hg:=hm.rcd hdn hdk;have hpp:=y1K (m:=m) (τ:=⟨4,t.N,[],[],0,0⟩) rfl hN hdn;refine⟨oV ⟨0,ol.l⟩,s2,run _ _ ?_,mod _ ?_,hs2,hf2,.inl ⟨hk2,.mk _ _ (by rw[hN];exact hg) ⟨fun _=>.inl rfl,fun _ _=>rfl⟩ ?_ ?_,.mk _ (by rw[i64_iff];simp) (by simp only;omega) allw⟩⟩
     ·rw[zq0 (by omega),zq0 (by omega),zq0 (by omega),zq0 (by omega)];exact .ret _ _
     ·rw[zq1 hk2,zq0 (by omega),zq0 (by omega),zq0 (by omega),zq0 (by omega)]
     ·rw[hpp,zq3];simp only;rw[←hfit.1];omega
     ·intro i x y hx hy;rw[hpp,List.getElem?_map]at hx;obtain⟨q,hq,rfl⟩:=Option.map_eq_some_iff.1 hx;have hlt:i<p.length:=by rw[hfit.1];exact(List.getElem?_eq_some_iff.1 hq).1
      have gp:=List.getElem?_eq_getElem hlt;obtain⟨z,hz,hb⟩:=hfit.2 i _ q gp hq;have:hd q=z:=by unfold hd;rw[hz];rfl
      rw[this];exact(hF i _ y gp hy).1.congr z hb
    |list a r k hp hall hg=>
     refine⟨oV ⟨0,ol.l⟩,s2,run _ _ ?_,mod _ ?_,hs2,hf2,.inl ⟨hk2,.mk _ _ hg ⟨fun _=>.inl rfl,fun _ _=>rfl⟩ ?_ ?_,.mk _ (by rw[i64_iff];simp) (by simp only;omega) allw⟩⟩
     ·rw[zq0 (by omega),zq0 (by omega),zq0 (by omega),zq0 (by omega)];exact .ret _ _
     ·rw[zq1 hk2,zq0 (by omega),zq0 (by omega),zq0 (by omega),zq0 (by omega)]
     ·rw[y1I (x:=a) rfl rfl,List.length_replicate];simp only;omega
     ·intro i x y hx hy;rw[y1I (x:=a) rfl rfl]at hx;have:=List.eq_of_mem_replicate (List.mem_of_getElem? hx);subst this;simp only at hy;have hlt:i<p.length:=by have:=(List.getElem?_eq_some_iff.1 hy).1;omega
      have gp:=List.getElem?_eq_getElem hlt;exact(hF i _ y gp hy).1.congr _ (hall _ (List.getElem_mem hlt))
    |call d ps r b k hd' hdL hfit=>
     obtain⟨n,hN,hdn,hdk⟩:=hd'.nat;obtain⟨ps',r',b',hfn⟩:=hm.fn hdn hdk;have:=hfn.L;rw[hdL]at this;injection this with e1 this;injection this with e2 this;injection this with e3;subst e1;subst e2;subst e3;obtain⟨oc,s3,hGc,hMc,hs3,hf3,hEc⟩:=CC N Γ n d ps r b ol.l s2 hdn hfn (by rw[hll,←hpl];exact hfit.1) (fun i x v hx hv=>by
      have hlt:i<p.length:=by rw[hfit.1];exact(List.getElem?_eq_some_iff.1 hx).1
      have gp:=List.getElem?_eq_getElem hlt;obtain⟨z,hz,hb⟩:=hfit.2 i _ x gp hx;have:hd x=z:=by unfold hd;rw[hz];rfl
      rw[this];exact(hF i _ v gp hv).1.congr z hb) allw hs2 hk2 (by omega)
     refine⟨oV oc.v,s3,run _ _ ?_,mod _ ?_,hs3,by omega,?_⟩
     ·rw[zq0 (by omega),zq0 (by omega),zq0 (by omega),zq1 k,hN];exact .call _ _ _ oc s3 _ _ hGc (.ret _ _)
     ·rw[zq1 hk2,zq0 (by omega),zq0 (by omega),zq0 (by omega),zq1 k,hN,hMc];rfl
     ·rcases hEc with⟨h1,h2,h3⟩|⟨h1,rfl⟩
      ·exact .inl ⟨h1,y3V h2,h3⟩
      ·exact .inr ⟨h1,rfl⟩
   ·refine⟨o0,s2,run _ _ (run_on.2 (.inr ⟨hk2,rfl,rfl⟩)),mod _ (by rw[zq0 hk2];rfl),hs2,hf2,.inr ⟨by omega,rfl⟩⟩
inductive PathT(m:zA):zA→List Int→zA→Prop
 |nil (τ:zA):PathT m τ [] τ
 |cons (τ:zA) (i:Nat) (y:zA) (w:List Int) (σ:zA):(vY m τ)[i]?=some y→PathT m y w σ→PathT m τ ((i:Int)::w) σ
theorem PathT.snoc{m τ σ x:zA}{w:List Int}(h:PathT m τ w σ){i:Nat}(hx:(vY m σ)[i]?=some x):PathT m τ (w++[(i:Int)]) x:=by
 induction h with
 |nil τ=>exact .cons _ i x [] x hx (.nil x)
 |cons τ j y w σ h1 _ ih=>exact .cons _ j y _ _ h1 (ih hx)
theorem v8Q{m τ σ:zA}{w:List Int}(h:PathT m τ w σ):∀v,Fit m τ v→∃g,uU v w=some g∧Fit m σ g:=by
 induction h with
 |nil τ=>
  intro v hv;refine⟨v,?_,hv⟩;rw[y6d];unfold z4r;rw[zq1 (by simp)]
 |cons τ i y w σ h1 _ ih=>
  intro v hv;have hl:=hv.inv.2.2.1;have hlt:=(List.getElem?_eq_some_iff.1 h1).1;have g:=List.getElem?_eq_getElem (l:=v.L) (i:=i) (by omega);obtain⟨x,ex,hx⟩:=ih _ (hv.inv.2.2.2 i y _ h1 g);refine⟨x,?_,hx⟩;rw[y6d];unfold z4r;rw[zq0 (by simp;omega),show idx ((i:Int)::w) 0=some (i:Int)from rfl,zB,z5R,g,zB,zq1 (Nat.le_refl _),zq1 (by omega),zq1 (by simp)];have:List.drop (Int.toNat 1) (List.take (List.length ((i:Int)::w)) ((i:Int)::w))=w:=by simp
  rw[this,ex];rfl
theorem v4S{m τ σ:zA}{w:List Int}(h:PathT m τ w σ):∀v x,Fit m τ v→VW v→Fit m σ x→VW x→∃u,uA v w x=some u∧Fit m τ u∧VW u:=by
 induction h with
 |nil τ=>
  intro v x hv _ hx hw;refine⟨x,?_,hx,hw⟩;rw[y6e];unfold z4s;rw[zq1 (by simp)]
 |cons τ i y w σ h1 _ ih=>
  intro v x hv hvw hx hw;have hl:=hv.inv.2.2.1;have hlt:=(List.getElem?_eq_some_iff.1 h1).1;have hlt':i<v.L.length:=by omega
  have hlen:=hvw.L_.1;obtain⟨u,eu,hu,huw⟩:=ih v.L[i] x (hv.inv.2.2.2 i y _ h1 (List.getElem?_eq_getElem hlt')) (hvw.L_.2 _ (List.getElem_mem hlt')) hx hw;have loop:∀(k j:Nat) (out:List Value) o,j+k=v.L.length→out=(v.L.set i u).take j→wB ((i:Int)::w) out j v x o=some ⟨v.N,v.L.set i u⟩:=by
   intro k;induction k with
   |zero=>
    intro j out o hj ho;rw[y0n];unfold z1s;rw[zq0 (by omega),ho,List.take_of_length_le (by simp;omega)]
   |succ k ihk=>
    intro j out o hj ho;have hjl:j<v.L.length:=by omega
    have hol:out.length=j:=by rw[ho];simp;omega
    rw[y0n];unfold z1s;rw[zq1 (by omega),show idx ((i:Int)::w) 0=some (i:Int)from rfl,zB,wG hjl];by_cases c:j=i
    ·subst c;rw[zq1 rfl,zB,zq1 (Nat.le_refl _),zq1 (by omega),zq1 (by simp)];have:List.drop (Int.toNat 1) (List.take (List.length ((j:Int)::w)) ((j:Int)::w))=w:=by simp
     rw[this,eu,zB,zq1 (jG (by omega) (by simp;omega)),z1C (by omega)];refine ihk (j+1) _ o (by omega) ?_;rw[ho,List.take_succ_eq_append_getElem (by simpa using hjl)];simp
    ·rw[zq0 (by omega),zB,zq1 (jG (by omega) (by simp;omega)),z1C (by omega)];refine ihk (j+1) _ o (by omega) ?_;rw[ho,List.take_succ_eq_append_getElem (by simpa using hjl),List.getElem_set_ne (fun e=>c e.symm)]
  refine⟨⟨v.N,v.L.set i u⟩,?_,?_,?_⟩
  ·rw[y6e];unfold z4s;rw[zq0 (by simp;omega)];exact loop v.L.length 0 [] _ (by omega) (by simp)
  ·refine .mk _ _ hv.inv.1 hv.inv.2.1 (by simpa using hl) fun j a b ha hb=>?_;simp only at hb;rw[List.getElem?_set]at hb;by_cases c:i=j
   ·subst c;rw[zq1 rfl,zq1 hlt']at hb;cases hb;rw[h1]at ha;cases ha;exact hu
   ·rw[zq0 c]at hb;exact hv.inv.2.2.2 j a b ha hb
  ·refine .mk _ hvw.N_ (by simpa using hvw.L_.1) fun z hz=>?_;rcases List.mem_or_eq_of_mem_set hz with h|rfl
   ·exact hvw.L_.2 z h
   ·exact huw
theorem y2v{m t:zA}{s:State}(h:s.Kind≠0):G m (.E t) s o0 s∧zK m s t=some ⟨v0,s⟩:=by
 refine⟨.ended _ _ h,?_⟩;rw[jD];unfold uF z1v;rw[zq0 h,zB,zq0 h];rfl
theorem y7I{m t:zA}{s:State}(h:s.Kind≠0):G m (.S t) s o0 s∧zY m s t=some s:=by
 refine⟨.ended _ _ h,?_⟩;rw[z1j];unfold jX z1v;rw[zq0 h,zB,zq0 h]
theorem w0R(m:zA)(hm:ModOk m)(f:Nat)(CE:y7g m f)(N:Int)(Γ:List zA)(r:zA)(a:zA):∀τ,TE m Γ a τ→zA.Wf a→zI a≤100000000→RootR a r→(r.K=7∨r.K=9) →
  ∃ρr,TE m Γ r ρr∧∀κ kept s,uO κ=uO ρr→Fit m κ kept→StOk m N Γ s→s.Kind=0→s.Fuel≤f→∃o s',G m (.Y a kept) s o s'∧uR m s a kept=some (o.w,s')∧StOk m N Γ s'∧s'.Fuel≤s.Fuel∧(s'.Kind=0∨s'.Kind=2∨s'.Kind=3) ∧
   o.w.length≤zI a∧(∃σ,PathT m κ o.w σ∧(s'.Kind=0→uO σ=uO τ)):=by
 induction a using zA.ind with
 |h a ih=>
  intro τ hT hw hts hR hr;cases hR with
  |here _ hh=>
   refine⟨τ,hT,fun κ kept s hκ hk hs h0 hf=>⟨o0,s,?_,?_,hs,Int.le_refl _,.inl h0,Nat.zero_le _,κ,.nil κ,fun _=>hκ⟩⟩
   ·show Run m (if _ then _ else _) _ _;rw[zq0 (by omega),zq0 (by omega)];exact .ret _ _
   ·rw[y0Y];unfold z3m;rw[zq0 (by omega),zq0 (by omega)]
  |down _ x _ l hk hL hR' =>
   have hx:x∈a.L:=by rw[hL];exact List.mem_cons_self ..
   have hxs:=zM hx;have hxw:=hw.L_.2 x hx;cases hT with
   |alone _ _ _ _ _ hL' _ _=>rw[hL]at hL';cases hL'
   |rule _ _ p _ _ _ _ hpl hP hRR=>
    rcases hk with hk|hk
    ·cases hRR with
     |bin _ _ _ k _ _=>omega
     |un _ k _ _=>omega
     |field _ _ _ k _ _ _ _=>omega
     |make _ k _ _=>omega
     |call _ _ _ _ k _ _ _=>omega
     |list _ _ k _ _ _=>omega
     |index ta tb _ k hp ka la kb lb=>
      obtain⟨a',b,hLL⟩:∃a' b,a.L=[a',b]:=v9G (by rw[←hpl,hp];rfl);rw[hLL]at hL;injection hL with e1 e2;subst e1;have hTa:TE m Γ a' ta:=hP 0 a' ta (by rw[hLL];rfl) (by rw[hp];rfl);have hTb:TE m Γ b tb:=hP 1 b tb (by rw[hLL];rfl) (by rw[hp];rfl);have hb:b∈a.L:=by rw[hLL];simp
      have hbs:=zM hb;have h2:=z7b hLL;obtain⟨ρr,hTr,hY⟩:=ih a' hx ta hTa hxw (by omega) hR' hr;refine⟨ρr,hTr,fun κ kept s hκ hkept hs h0 hf=>?_⟩;obtain⟨o1,s1,hG,hM,hs1,hf1,hk1,hwl,σ,hpath,hσ⟩:=hY κ kept s hκ hkept hs h0 hf;have run:∀o s',Run m (.on s1 ⟨v0,[],o1.w⟩ (.call (.E b) s1 fun o s=>.on s ⟨v0,[],o1.w⟩
        (if o.v.N<0 then .ret ⟨v0,[],o1.w⟩ (y1a 2 s)else .opt (uU kept o1.w) fun g=>if o.v.N≥(g.L.length:Int)then .ret ⟨v0,[],o1.w⟩ (y1a 2 s)else .ret ⟨v0,[],o1.w++[o.v.N]⟩ s))) o s'→G m (.Y a kept) s o s':=fun o s' h=>by
       show Run m (if _ then _ else _) _ _;rw[zq1 k,hLL];exact .call _ _ _ o1 s1 _ _ hG h
      have mod:∀r,(if s1.Kind=0 then zK m s1 b>>=fun q7=>if q7.S.Kind=0 then
         if q7.V.N<0 then z0D 2 q7.S>>=fun q8=>some (o1.w,q8.S)
         else uU kept o1.w>>=fun q9=>if q7.V.N≥(List.length q9.L:Int)then z0D 2 q7.S>>=fun q10=>some (o1.w,q10.S)
         else if wI 8 (List.length o1.w+List.length [q7.V.N])then some (o1.w++[q7.V.N],q7.S)else none
        else some (o1.w,q7.S)else some (o1.w,s1))=r→uR m s a kept=r:=fun r h=>by
       rw[y0Y];unfold z3m;rw[zq1 k,hLL,show idx [a',b] 0=some a' from rfl,show idx [a',b] 1=some b from rfl,zB,hM,zB];exact h
      by_cases hk1':s1.Kind=0
      ·obtain⟨o2,s2,hG2,hM2,hs2,hf2,-,hE2⟩:=CE N Γ b tb s1 hTb (hw.L_.2 b hb) (by omega) hs1 (.inl hk1') (by omega);have run:∀o s',Run m (.on s2 ⟨v0,[],o1.w⟩
        (if o2.v.N<0 then .ret ⟨v0,[],o1.w⟩ (y1a 2 s2)else .opt (uU kept o1.w) fun g=>if o2.v.N≥(g.L.length:Int)then .ret ⟨v0,[],o1.w⟩ (y1a 2 s2)else .ret ⟨v0,[],o1.w++[o2.v.N]⟩ s2)) o s'→G m (.Y a kept) s o s':=fun o s' h=>run o s' (run_on.2 (.inl ⟨hk1',.call _ _ _ o2 s2 _ _ hG2 h⟩))
       rcases hE2 with⟨hk2,hF2,hW2⟩|⟨hk2,rfl⟩
       ·obtain⟨g,eg,hg⟩:=v8Q hpath kept hkept;have run:∀o s',Run m (if o2.v.N<0 then .ret ⟨v0,[],o1.w⟩ (y1a 2 s2)else .opt (uU kept o1.w) fun g=>if o2.v.N≥(g.L.length:Int)then .ret ⟨v0,[],o1.w⟩ (y1a 2 s2)else .ret ⟨v0,[],o1.w++[o2.v.N]⟩ s2) o s'→G m (.Y a kept) s o s':=fun o s' h=>run o s' (run_on.2 (.inl ⟨hk2,h⟩));have tr:StOk m N Γ (y1a 2 s2):=hs2.same rfl rfl rfl rfl rfl rfl hs2.rt;by_cases c1:o2.v.N<0
        ·refine⟨⟨v0,[],o1.w⟩,y1a 2 s2,run _ _ (by rw[zq1 c1];exact .ret _ _),mod _ ?_,tr,by show s2.Fuel≤_;omega,.inr (.inl rfl),by show o1.w.length≤_;omega,σ,hpath,fun h=>absurd h (show ¬(2:Int)=0 by decide)⟩;rw[zq1 hk1',hM2,zB,zq1 hk2,zq1 c1];rfl
        ·by_cases c2:o2.v.N≥(g.L.length:Int)
         ·refine⟨⟨v0,[],o1.w⟩,y1a 2 s2,run _ _ ?_,mod _ ?_,tr,by show s2.Fuel≤_;omega,.inr (.inl rfl),by show o1.w.length≤_;omega,σ,hpath,fun h=>absurd h (show ¬(2:Int)=0 by decide)⟩
          ·rw[zq0 c1,eg];show Run m (if _ then _ else _) _ _;rw[zq1 c2];exact .ret _ _
          ·rw[zq1 hk1',hM2,zB,zq1 hk2,zq0 c1,eg,zB,zq1 c2];rfl
         ·obtain⟨n,hn⟩:∃n:Nat,o2.v.N=n:=⟨o2.v.N.toNat,by omega⟩;have hb':=z5r (hσ hk1');have hσk:σ.K=3:=hb'.1.trans ka;obtain⟨x',hx'⟩:∃x',σ.L=[x']:=by
           have:=congrArg List.length hb'.2.2.2;rw[la]at this;exact v1E (by simp at this;omega)
          have hxx:uO x'=uO τ:=by
           have:=hb'.2.2.2;rw[la,hx']at this;injection this
          have hgl:=hg.inv.2.2.1;have hpp:=y1I (m:=m) hσk hx';rw[hpp,List.length_replicate]at hgl;refine⟨⟨v0,[],o1.w++[o2.v.N]⟩,s2,run _ _ ?_,mod _ ?_,hs2,by omega,.inl hk2,by show(o1.w++[o2.v.N]).length≤_;have:=z1B b;simp;omega,x',?_,fun _=>hxx⟩
          ·rw[zq0 c1,eg];show Run m (if _ then _ else _) _ _;rw[zq0 c2];exact .ret _ _
          ·rw[zq1 hk1',hM2,zB,zq1 hk2,zq0 c1,eg,zB,zq0 c2,zq1 (jG (by omega) (by simp;omega))]
          ·show PathT m κ (o1.w++[o2.v.N]) x';rw[hn];exact hpath.snoc (by rw[hpp];exact List.getElem?_replicate_of_lt (by omega))
       ·refine⟨⟨v0,[],o1.w⟩,s2,run _ _ (run_on.2 (.inr ⟨by omega,rfl,rfl⟩)),mod _ ?_,hs2,by omega,.inr hk2,by show o1.w.length≤_;omega,σ,hpath,fun h=>by omega⟩;rw[zq1 hk1',hM2,zB,zq0 (show ¬s2.Kind=0 by omega)]
      ·refine⟨⟨v0,[],o1.w⟩,s1,run _ _ (run_on.2 (.inr ⟨hk1',rfl,rfl⟩)),mod _ (by rw[zq0 hk1']),hs1,hf1,hk1,by show o1.w.length≤_;omega,σ,hpath,fun h=>absurd h hk1'⟩
    ·cases hRR with
     |bin _ _ _ k _ _=>omega
     |un _ k _ _=>omega
     |index _ _ _ k _ _ _ _ _=>omega
     |make _ k _ _=>omega
     |call _ _ _ _ k _ _ _=>omega
     |list _ _ k _ _ _=>omega
     |field ta y n k hp ka la hfr=>
      obtain⟨a',hLL⟩:∃a',a.L=[a']:=v1E (by rw[←hpl,hp];rfl);rw[hLL]at hL;injection hL with e1 e2;subst e1;have hTa:TE m Γ a' ta:=hP 0 a' ta (by rw[hLL];rfl) (by rw[hp];rfl);have h2:=z1A hLL;obtain⟨ρr,hTr,hY⟩:=ih a' hx ta hTa hxw (by omega) hR' hr;refine⟨ρr,hTr,fun κ kept s hκ hkept hs h0 hf=>?_⟩;obtain⟨o1,s1,hG,hM,hs1,hf1,hk1,hwl,σ,hpath,hσ⟩:=hY κ kept s hκ hkept hs h0 hf
      have run:∀o s',Run m (.on s1 ⟨v0,[],o1.w⟩ (.ret ⟨v0,[],o1.w++[Int.tmod a.N 64]⟩ s1)) o s'→G m (.Y a kept) s o s':=fun o s' h=>by
       show Run m (if _ then _ else _) _ _;rw[zq0 (by omega),zq1 k,hLL];exact .call _ _ _ o1 s1 _ _ hG h
      have mod:∀r,(if s1.Kind=0 then some (o1.w++[Int.tmod a.N 64],s1)else some (o1.w,s1))=r→uR m s a kept=r:=fun r h=>by
       rw[y0Y];unfold z3m;rw[zq0 (by omega),zq1 k,hLL,show idx [a'] 0=some a' from rfl,zB,hM,zB];have r1:wI 8 (List.length o1.w+List.length [Int.tmod a.N 64]):=jG (by omega) (by simp;omega);show(if s1.Kind=0 then(if(64:Int)≠0 then(if wI 8 (List.length o1.w+List.length [Int.tmod a.N 64])then some (o1.w++[Int.tmod a.N 64],s1)else none)else none)else some (o1.w,s1))=r;rw[zq1 (show(64:Int)≠0 by decide),zq1 r1];exact h
      by_cases hk1':s1.Kind=0
      ·obtain⟨d,fd,k',i,e1,e2,e3,e4,e5,e6,e7⟩:=hfr;have em:Int.tmod a.N 64=(i:Int):=by rw[Int.tmod_eq_emod_of_nonneg (by omega)];omega
       have hb':=z5r (hσ hk1');have hpp:=y1K (m:=m) (hb'.1.trans ka) (hb'.2.1.trans e1) e2;have hdx:hd fd=y:=by unfold hd;rw[e5];rfl
       refine⟨⟨v0,[],o1.w++[Int.tmod a.N 64]⟩,s1,run _ _ (run_on.2 (.inl ⟨hk1',.ret _ _⟩)),mod _ (by rw[zq1 hk1']),hs1,hf1,hk1,by show(o1.w++[Int.tmod a.N 64]).length≤_;simp;omega,y,?_,fun _=>(z6B y).symm⟩;show PathT m κ (o1.w++[Int.tmod a.N 64]) y;rw[em];exact hpath.snoc (by rw[hpp,List.getElem?_map,e4,Option.map_some,hdx])
      ·refine⟨⟨v0,[],o1.w⟩,s1,run _ _ (run_on.2 (.inr ⟨hk1',rfl,rfl⟩)),mod _ (by rw[zq0 hk1']),hs1,hf1,hk1,by show o1.w.length≤_;omega,σ,hpath,fun h=>absurd h hk1'⟩
def v9J(m ρ:zA)(s':State):Prop:=s'.Kind=0∨(s'.Kind=1∧Fit m ρ s'.Ret∧VW s'.Ret)∨s'.Kind=2∨s'.Kind=3
def y7h(m:zA)(f:Nat):Prop:=∀N ρ Γ Γ' t s,TS m ρ Γ t Γ'→zA.Wf t→zI t≤100000000→StOk m N Γ s→s.Kind=0→s.Fuel≤f →
 ∃o s',G m (.S t) s o s'∧zY m s t=some s'∧s'.Fuel≤s.Fuel∧((s'.Kind=0∧s'.Fuel<s.Fuel∧StOk m N Γ' s')∨(s'.Kind≠0∧StOk m N Γ s'))∧v9J m ρ s'
theorem TS.ext{m ρ t:zA}{Γ Γ':List zA}(h:TS m ρ Γ t Γ'):∃Δ,Γ'=Γ++Δ:=by
 cases h with
 |let_ _ _ _ τ=>exact⟨[τ],rfl⟩
 |new _ _ x=>exact⟨[x],rfl⟩
 |_=>exact⟨[],by simp⟩
theorem v8p{m t:zA}{v:Value}(hm:zI m≤1000000000)(ht:zI t≤1000000000)(hg:Good m t)(ev:vC m t=some v):VW v:=by
 have go:∀t:zA,OkT m t→zI t≤1000000000→Good m t→(∀x∈vY m t,∃v,vC m x=some v∧VW v)→∃v,vC m t=some v∧VW v:=by
  intro t ho ht hg hp;obtain⟨n,en,h0,hn⟩:=z5l hm ht;have hpl:=y1J hm ho;have loop:∀(k i:Nat) (o:Value) (L:List Value),i+k=(vY m t).length→L.length=i→(∀y∈L,VW y) →
    ∃L',vD (vY m t) i m o 0 L=some ⟨0,L'⟩∧(vY m t).length=L'.length∧∀y∈L',VW y:=by
   intro k;induction k with
   |zero=>
    intro i o L hi hl hL;rw[z3L];unfold jY;rw[zq0 (by omega)];exact⟨L,rfl,by omega,hL⟩
   |succ k ihk=>
    intro i o L hi hl hL;have hlt:i<(vY m t).length:=by omega
    obtain⟨v,ev,hv⟩:=hp _ (List.getElem_mem hlt);rw[z3L];unfold jY;rw[zq1 (by omega),wG hlt,zB,ev,zB,zq1 (jG (by omega) (by simp;omega)),z1C (by omega)];refine ihk (i+1) o _ (by omega) (by simp[hl]) (fun y hy=>?_);rcases List.mem_append.1 hy with h|h
    ·exact hL y h
    ·rw[List.mem_singleton.1 h];exact hv
  obtain⟨L',e,h1,h2⟩:=loop (vY m t).length 0 ⟨0,[]⟩ [] (by omega) rfl (fun y hy=>by cases hy);refine⟨⟨0,L'⟩,?_,.mk _ (by rw[i64_iff];simp) (by simp only;omega) h2⟩;rw[y3g];unfold z2S;rw[en,zB,zq0 (hn.2 hg),y9q hm ho,zB];exact e
 have none_:∀t:zA,(t.K=1∨t.K=2)→∀x∈vY m t,∃v,vC m x=some v∧VW v:=fun t hk x hx=>by
  unfold vY at hx;rw[zq0 (by omega),zq0 (by omega)]at hx;cases hx
 have all:∀t,OkT m t→zI t≤1000000000→Good m t→∃v,vC m t=some v∧VW v:=by
  intro t h;induction h with
  |int t h1 h2=>exact fun ht hg=>go t (.int t h1 h2) ht hg (none_ t (.inl h1))
  |bool t h1 h2=>exact fun ht hg=>go t (.bool t h1 h2) ht hg (none_ t (.inr h1))
  |arr t e h1 h2 h3 h4 h5 ih=>
   intro ht hg;have ho:OkT m t:=.arr t e h1 h2 h3 h4 h5;refine go t ho ht hg fun x hx=>?_;have hs:=z9M hm ht ho x hx;have hgx:=z9N hm ht hg x hx;unfold vY at hx;rw[zq1 h1]at hx;have:=List.eq_of_mem_replicate hx;subst this;have e1:hd t=e:=by unfold hd;rw[h2];rfl
   rw[e1]at hs hgx ⊢;exact ih hs hgx
  |rcd t d h1 h2 h3 h4 h5 h6 ih=>
   intro ht hg;have ho:OkT m t:=.rcd t d h1 h2 h3 h4 h5 h6;refine go t ho ht hg fun x hx=>?_;have hs:=z9M hm ht ho x hx;have hgx:=z9N hm ht hg x hx;unfold vY at hx;rw[zq0 (by omega),zq1 h1,h4]at hx;obtain⟨f,hf,rfl⟩:=List.mem_map.1 hx;obtain⟨-,y,hy⟩:=h5.2.2 f hf;have e1:hd f=y:=by unfold hd;rw[hy];rfl
   rw[e1]at hs hgx ⊢;exact ih f y hf hy hs hgx
 obtain⟨u,eu,hu⟩:=all t (hg.okT hm ht) ht hg;rw[ev]at eu;cases eu;exact hu
theorem w0F(m:zA)(hms:zI m≤100000000)(hmw:zA.Wf m)(f:Nat)(CS:y7h m f):v9A m f:=by
 intro N Γ k d ps r b a s hd' hfn hal haf haw hs h0 hf;have hdm:=List.mem_of_getElem? hd';have hds:=zM hdm;have h3:=z7K hfn.L;have hpl:=vN ps;have hdw:=hmw.L_.2 d hdm;have hbw:zA.Wf b:=hdw.L_.2 b (by rw[hfn.L];simp);have hs1:StOk m N (ps.L.map hd) {s with Locals:=a}:=hs.call (by simpa using hal) (fun i τ v h1 h2=>by
  rw[List.getElem?_map]at h1;obtain⟨x,hx,rfl⟩:=Option.map_eq_some_iff.1 h1;exact haf i x v hx h2) haw (by have:=hs.fuel1;omega)
 obtain⟨o,s',hG,hM,hf',hst,hE⟩:=CS N r (ps.L.map hd) _ b _ hfn.body hbw (by omega) hs1 h0 hf;have hst:StOk m N (ps.L.map hd) s':=hst.elim (fun h=>h.2.2) (fun h=>h.2);have hback:StOk m N Γ {s' with Locals:=s.Locals}:=hs.back hst hf';have run:∀o' s'',Run m (if s'.Kind=1 then .ret (oV s'.Ret) {s' with Locals:=s.Locals,Kind:=0,Ret:=v0}
   else if s'.Kind=0 then .opt (vC m r) fun z=>.ret (oV z) {s' with Locals:=s.Locals}
   else .ret o0 {s' with Locals:=s.Locals}) o' s''→G m (.C k a) s o' s'':=fun o' s'' h=>by
  show Run m (P.opt m.L[k]? _) _ _;rw[hd'];show Run m (P.opt d.L[2]? _) _ _;rw[hfn.L];exact .call _ _ _ o s' _ _ hG h
 have mod:∀q,(if s'.Kind=1 then some ((Ref21Got.mk s'.Ret ({s' with Locals:=s.Locals,Kind:=0,Ret:=(Value.mk 0 [])})))
   else if s'.Kind=0 then vC m r>>=fun q3=>some ((Ref21Got.mk q3 ({s' with Locals:=s.Locals})))
   else z2t ({s' with Locals:=s.Locals})>>=fun q2=>some q2)=q→uE m s k a=q:=fun q h=>by
  rw[y7b];unfold z2s;rw[z5R,hd',zB,hfn.L,show idx [ps,r,b] 2=some b from rfl,zB,hM,zB,zB,hfn.L,show idx [ps,r,b] 1=some r from rfl,zB];exact h
 by_cases k1:s'.Kind=1
 ·obtain⟨hF,hW⟩:Fit m r s'.Ret∧VW s'.Ret:=by
   rcases hE with h|h|h|h<;>first|omega|skip
   exact h.2
  exact⟨oV s'.Ret,{s' with Locals:=s.Locals,Kind:=0,Ret:=v0},run _ _ (by rw[zq1 k1];exact .ret _ _),mod _ (by rw[zq1 k1]),hback.same rfl rfl rfl rfl rfl rfl v8m,hf',.inl ⟨rfl,hF,hW⟩⟩
 by_cases k0:s'.Kind=0
 ·have hrw:zI r≤1000000000:=by omega
  obtain⟨z,ez,hz⟩:=v5a (m:=m) (t:=r) (by omega) hrw hfn.goodr;have hzv:=v8p (m:=m) (by omega) hrw hfn.goodr ez;exact⟨oV z,_,run _ _ (by rw[zq0 k1,zq1 k0,ez];exact .ret _ _),mod _ (by rw[zq0 k1,zq1 k0,ez];rfl),hback,hf',.inl ⟨k0,hz,hzv⟩⟩
 ·exact⟨o0,_,run _ _ (by rw[zq0 k1,zq0 k0];exact .ret _ _),mod _ (by rw[zq0 k1,zq0 k0];rfl),hback,hf',.inr ⟨by rcases hE with h|h|h|h<;>first|omega|exact .inl h|exact .inr h,rfl⟩⟩
theorem v0j{m:zA}{s:State}(h:s.Kind≠0)(l:List zA):G m (.B l) s o0 s∧∀(t:zA) n z (i:Nat),t.L.drop i=l→i+l.length=t.L.length→t.L.length≤1000000000→yO n i m s t z=z4E s n>>=fun q=>some q:=by
 induction l with
 |nil=>
  refine⟨.ret _ _,fun t n z i hd' hi hl=>?_⟩;rw[z3M];unfold gA;rw[zq0 (by simp at hi;omega)]
 |cons x r ih=>
  refine⟨.call _ _ _ _ _ _ _ (y7I h).1 (.call _ _ _ _ _ _ _ ih.1 (.ret _ _)),fun t n z i hd' hi hl=>?_⟩;have hlt:i<t.L.length:=by simp at hi;omega
  have e1:=List.drop_eq_getElem_cons hlt;rw[hd']at e1;injection e1 with e1 e2;rw[z3M];unfold gA;rw[zq1 (by omega),wG hlt,zB,(y7I h).2,zB,z1C (by omega)];exact ih.2 t n z (i+1) e2.symm (by simp at hi ⊢;omega) hl
def v9z(m:zA)(f:Nat):Prop:=∀N ρ Γ (l:List zA) Γ' s,TB m ρ Γ l Γ'→(∀x∈l,zA.Wf x∧zI x≤100000000)→StOk m N Γ s→s.Kind=0→s.Fuel≤f →
 ∃o s',G m (.B l) s o s'∧(∀(t:zA) n z (i:Nat),t.L.drop i=l→i+l.length=t.L.length→t.L.length≤1000000000→yO n i m s t z=z4E s' n>>=fun q=>some q) ∧
  s'.Fuel≤s.Fuel∧(∃Δ,StOk m N (Γ++Δ) s')∧(s'.Kind=0→StOk m N Γ' s')∧v9J m ρ s'
theorem w0E(m:zA)(f:Nat)(CS:y7h m f):v9z m f:=by
 intro N ρ Γ l;induction l generalizing Γ with
 |nil=>
  intro Γ' s hT hb hs h0 hf;cases hT;refine⟨o0,s,.ret _ _,fun t n z i hd' hi hl=>?_,Int.le_refl _,⟨[],by simpa using hs⟩,fun _=>hs,.inl h0⟩;rw[z3M];unfold gA;rw[zq0 (by simp at hi;omega)]
 |cons x r ih=>
  intro Γ' s hT hb hs h0 hf;cases hT with
  |cons _ Γ1 _ _ _ hx hr=>
   obtain⟨hw,hsz⟩:=hb x (List.mem_cons_self ..);obtain⟨o1,s1,hG,hM,hf1,hs1,hE1⟩:=CS N ρ Γ Γ1 x s hx hw hsz hs h0 hf;have mod:∀s2,(∀(t:zA) n z (i:Nat),t.L.drop i=r→i+r.length=t.L.length→t.L.length≤1000000000→yO n i m s1 t z=z4E s2 n>>=fun q=>some q) →
     ∀(t:zA) n z (i:Nat),t.L.drop i=x::r→i+(x::r).length=t.L.length→t.L.length≤1000000000→yO n i m s t z=z4E s2 n>>=fun q=>some q:=fun s2 h t n z i hd' hi hl=>by
    have hlt:i<t.L.length:=by simp at hi;omega
    have e1:=List.drop_eq_getElem_cons hlt;rw[hd']at e1;injection e1 with e1 e2;rw[z3M];unfold gA;rw[zq1 (by omega),wG hlt,zB,←e1,hM,zB,z1C (by omega)];exact h t n z (i+1) e2.symm (by simp at hi ⊢;omega) hl
   rcases hs1 with⟨k1,-,hs1⟩|⟨k1,hs1⟩
   ·obtain⟨o2,s2,hG2,hM2,hf2,⟨Δ,hΔ⟩,hs2,hE2⟩:=ih Γ1 Γ' s1 hr (fun a ha=>hb a (List.mem_cons_of_mem _ ha)) hs1 k1 (by omega);obtain⟨Δ',rfl⟩:=hx.ext;exact⟨o0,s2,.call _ _ _ _ _ _ _ hG (.call _ _ _ _ _ _ _ hG2 (.ret _ _)),mod s2 hM2,by omega,⟨Δ'++Δ,by rw[←List.append_assoc];exact hΔ⟩,hs2,hE2⟩
   ·have e:=v0j (m:=m) k1 r;exact⟨o0,s1,.call _ _ _ _ _ _ _ hG (.call _ _ _ _ _ _ _ e.1 (.ret _ _)),mod s1 e.2,hf1,⟨[],by simpa using hs1⟩,fun h=>absurd h k1,hE1⟩
theorem StOk.cut{m:zA}{N:Int}{Γ Δ:List zA}{s:State}(h:StOk m N (Γ++Δ) s):StOk m N Γ {s with Locals:=s.Locals.take Γ.length} where
 gl:=h.gl
 gf:=h.gf
 gw:=h.gw
 ll:=by have:=h.ll;simp at this ⊢;omega
 lf:=by
  intro i τ v h1 h2;have hlt:=(List.getElem?_eq_some_iff.1 h1).1;simp only at h2;rw[List.getElem?_take_of_lt hlt]at h2;exact h.lf i τ v (by rw[List.getElem?_append_left hlt];exact h1) h2
 lw:=fun v hv=>h.lw v (List.mem_of_mem_take hv)
 at0:=h.at0
 at1:=h.at1
 inl:=h.inl
 inw:=h.inw
 fuel0:=h.fuel0
 fuel1:=h.fuel1
 room:=by have:=h.room;simp only[List.length_take];omega
 tr:=h.tr
 trN:=h.trN
 rt:=h.rt
theorem v9D{s:State}{n:Nat}(h:n≤s.Locals.length):z4E s (n:Int)=some {s with Locals:=s.Locals.take n}:=by
 unfold z4E;rw[zq1 (by omega),zq1 (by simpa using h),zq1 (by omega)];simp
theorem y9n{s:State}{v:Value}(h:s.Locals.length≤1000000000):z3k s v=some {s with Locals:=s.Locals++[v]}:=by
 unfold z3k;rw[zq1 (jG (by omega) (by simp;omega)),zq1 (jG (by omega) (by simp;omega))];rfl
theorem y6s{m:zA}{v:Value}{t:zA}{s:State}(h:s.Kind≠0):G m (.W v t) s o0 s∧∀z,yD m ⟨v,s⟩ t z=some s:=by
 refine⟨run_on.2 (.inr ⟨h,rfl,rfl⟩),fun z=>?_⟩;rw[z5a];unfold gD;rw[zq0 h]
theorem w0I(m:zA)(f:Nat)(CE:y7g m f)(CS:y7h m f)(N:Int)(ρ:zA)(Γ:List zA)(t e x τ:zA)(hL:t.L=[e,x])(hTe:TE m Γ e τ)(hTx:TS m ρ Γ x Γ)(hw:zA.Wf t)(hts:zI t≤100000000):
  ∀(g:Nat) (v:Value) (s:State),StOk m N Γ s→(s.Kind=0∨s.Kind=2∨s.Kind=3)→s.Fuel≤g→s.Fuel≤f→∃s',G m (.W v t) s o0 s'∧(∀z,yD m ⟨v,s⟩ t z=some s')∧s'.Fuel≤s.Fuel∧StOk m N Γ s'∧v9J m ρ s':=by
 have h2:=z7b hL;have hwe:zA.Wf e:=hw.L_.2 e (by rw[hL];simp);have hwx:zA.Wf x:=hw.L_.2 x (by rw[hL];simp);intro g;induction g using Nat.strongRecOn with
 |_ g ih=>
  intro v s hs hk hg hf;by_cases k0:s.Kind=0
  ·by_cases c:v.N=0
   ·refine⟨s,run_on.2 (.inl ⟨k0,by rw[zq1 c];exact .ret _ _⟩),fun z=>?_,Int.le_refl _,hs,.inl k0⟩;rw[z5a];unfold gD;rw[zq1 k0,zq1 c]
   ·obtain⟨o1,s1,hG1,hM1,hf1,hs1,hE1⟩:=CS N ρ Γ Γ x s hTx hwx (by omega) hs k0 hf;have run:∀o2 s2 s3,G m (.E e) s1 o2 s2→G m (.W o2.v t) s2 o0 s3→G m (.W v t) s o0 s3:=fun o2 s2 s3 g2 g3=>run_on.2 (.inl ⟨k0,by
     rw[zq0 c,hL];exact .call _ _ _ o1 s1 _ _ hG1 (.call _ _ _ o2 s2 _ _ g2 (.call _ _ _ o0 s3 _ _ g3 (.ret _ _)))⟩)
    have mod:∀v2 s2 s3,zK m s1 e=some ⟨v2,s2⟩→(∀z,yD m ⟨v2,s2⟩ t z=some s3)→∀z,yD m ⟨v,s⟩ t z=some s3:=fun v2 s2 s3 e2 e3 z=>by
     rw[z5a];unfold gD;rw[zq1 k0,zq0 c,hL,show idx [e,x] 1=some x from rfl,show idx [e,x] 0=some e from rfl,zB,hM1,zB,zB,e2,zB,e3]
    rcases hs1 with⟨k1,hlt,hs1⟩|⟨k1,hs1⟩
    ·obtain⟨o2,s2,hG2,hM2,hs2,hf2,-,hE2⟩:=CE N Γ e τ s1 hTe hwe (by omega) hs1 (.inl k1) (by omega);have f0:=hs2.fuel0;have k2:s2.Kind=0∨s2.Kind=2∨s2.Kind=3:=by rcases hE2 with h|h<;>omega
     obtain⟨s3,hG3,hM3,hf3,hs3,hE3⟩:=ih (g-1) (by have:=hs.fuel0;omega) o2.v s2 hs2 k2 (by omega) (by omega);exact⟨s3,run _ _ _ hG2 hG3,mod _ _ _ hM2 hM3,by omega,hs3,hE3⟩
    ·have e2:=y2v (m:=m) (t:=e) k1;have e3:=y6s (m:=m) (v:=v0) (t:=t) k1;exact⟨s1,run _ _ _ e2.1 e3.1,mod _ _ _ e2.2 e3.2,hf1,hs1,hE1⟩
  ·have e3:=y6s (m:=m) (v:=v) (t:=t) k0;exact⟨s,e3.1,e3.2,Int.le_refl _,hs,hk.elim .inl fun h=>h.elim (fun h=>.inr (.inr (.inl h))) fun h=>.inr (.inr (.inr h))⟩
theorem v7F{s:State}(h0:s.Kind=0)(hf:0<s.Fuel)(hb:s.Fuel≤1000000):z1v s=some {s with Fuel:=s.Fuel-1}:=by
 unfold z1v;rw[zq1 h0,zq0 (by omega),z1H (n:=s.Fuel-1) (by omega) (by omega)]
theorem y5Z{s:State}(h0:s.Kind=0)(hf:s.Fuel≤0):z1v s=some {s with Kind:=3}:=by
 unfold z1v;rw[zq1 h0,zq1 hf]
theorem v7E{s:State}(h0:s.Kind≠0):z1v s=some s:=by
 unfold z1v;rw[zq0 h0]
theorem w0G(m:zA)(f:Nat)(CS:y7h m f)(N:Int)(ρ:zA)(Γ:List zA)(x:zA)(hTx:TS m ρ (Γ++[y9d]) x (Γ++[y9d]))(hw:zA.Wf x)(hts:zI x≤100000000)(hi:Int):
  ∀(g:Nat) (i:Int) (s:State),InK .i64 i→StOk m N Γ s→(s.Kind=0∨(s.Kind≠0∧v9J m ρ s))→s.Fuel≤g→s.Fuel≤f→∃s',G m (.F Γ.length i hi x) s o0 s'∧(∀(t:zA) z (to:Ref21Got),t.L[2]?=some x→to.V.N=hi→wC (Γ.length:Int) i m t z to s=some s')∧s'.Fuel≤s.Fuel∧StOk m N Γ s'∧v9J m ρ s':=by
 intro g;induction g using Nat.strongRecOn with
 |_ g ih=>
  intro i s hi64 hs hk hg hf;by_cases k0:s.Kind=0
  ·by_cases c0:s.Fuel≤0
   ·refine⟨{s with Kind:=3},.dry _ _ k0 c0,fun t z to _ _=>?_,Int.le_refl _,hs.same rfl rfl rfl rfl rfl rfl hs.rt,.inr (.inr (.inr rfl))⟩;rw[z4F];unfold gX;rw[y5Z k0 c0,zB,zq0 (show ¬(3:Int)=0 by decide)]
   ·have hp:=v7F k0 (by omega) hs.fuel1;have hs1:=(hs.pay (by omega:0<s.Fuel)).mono (show N-1≤N by omega) hs.trN;have hsl:=hs.locals_le;have hroom:=hs.room;have hpush:StOk m N (Γ++[y9d]) {s with Fuel:=s.Fuel-1,Locals:=s.Locals++[⟨i,[]⟩]}:=hs1.push (y5E m i) (y0p hi64) (by show(s.Locals.length:Int)+1+(s.Fuel-1)≤_;omega);by_cases c:i≥hi
    ·refine⟨{s with Fuel:=s.Fuel-1},.pay _ _ _ _ k0 (by omega) (by rw[zq1 c];exact .ret _ _),fun t z to _ hto=>?_,by simp only;omega,hs1,.inl k0⟩;rw[z4F];unfold gX;rw[hp,zB,zq1 (show({s with Fuel:=s.Fuel-1}:State).Kind=0 from k0),zq1 (by rw[hto];exact c)]
    ·obtain⟨o2,s2,hG2,hM2,hf2,hs2,hE2⟩:=CS N ρ (Γ++[y9d]) _ x _ hTx hw hts hpush k0 (by simp only;omega);have hs2':StOk m N (Γ++[y9d]) s2:=hs2.elim (fun h=>h.2.2) (fun h=>h.2);have hl2:Γ.length≤s2.Locals.length:=by rw[hs2'.ll];simp
     have hs3:=hs2'.cut;simp only at hf2;obtain⟨s4,hG4,hM4,hf4,hs4,hE4⟩:=ih (g-1) (by have:=hs.fuel0;omega) (IntKind.wrap .i64 (i+1)) _ (z9J _) hs3 (by
      by_cases k2:s2.Kind=0
      ·exact .inl k2
      ·exact .inr ⟨k2,hE2⟩) (by simp only;omega) (by simp only;omega)
     simp only at hf4;refine⟨s4,.pay _ _ _ _ k0 (by omega) ?_,fun t z to htx hto=>?_,by omega,hs4,hE4⟩
     ·rw[zq0 c];refine .call _ _ _ o2 s2 _ _ hG2 ?_;unfold cut;rw[zq1 hl2];exact .call _ _ _ o0 s4 _ _ hG4 (.ret _ _)
     ·rw[z4F];unfold gX;rw[hp,zB,zq1 (show({s with Fuel:=s.Fuel-1}:State).Kind=0 from k0),zq0 (by rw[hto];exact c),y9n (s:={s with Fuel:=s.Fuel-1}) hsl,zB,show idx t.L 2=some x from htx,zB,hM2,zB,v9D hl2,zB];exact hM4 t z to htx hto
  ·refine⟨s,.ended _ _ k0,fun t z to _ _=>?_,Int.le_refl _,hs,hk.elim (fun h=>absurd h k0) (fun h=>h.2)⟩;rw[z4F];unfold gX;rw[v7E k0,zB,zq0 k0]
theorem RootR.uniq{t r r':zA}(h:RootR t r)(hr:r.K=7∨r.K=9)(h':uB t=some r'):r'=r:=by
 induction h with
 |here t hh=>
  rw[z9v]at h';unfold z1X at h';rw[zq0 (by omega),zq0 (by omega)]at h';exact(Option.some.inj h').symm
 |down t x r l hk hL _ ih=>
  refine ih hr ?_;rw[z9v]at h';unfold z1X at h';have c:(List.length t.L:Int)>0:=by rw[hL];simp
  have e:idx t.L 0=some x:=by rw[hL];rfl
  rcases hk with hk|hk
  ·rw[zq1 hk,zq1 c,e,zB]at h';obtain⟨q,hq,h'⟩:=zC h';rw[hq,←Option.some.inj h']
  ·rw[zq0 (by omega),zq1 hk,zq1 c,e,zB]at h';obtain⟨q,hq,h'⟩:=zC h';rw[hq,←Option.some.inj h']
theorem w0h{t r:zA}(h:RootR t r)(hr:r.K=7∨r.K=9):uB t=some r:=by
 obtain⟨r',e,-⟩:=v7L t;rw[e,h.uniq hr e]
theorem v9n{m:zA}{s:State}{t a r:zA}{z:State}{x:Ref21Got}(h:RootR a r)(hr:r.K=7∨r.K=9):vP m s t z x a=vP m s t z x r:=by
 induction h with
 |here t hh=>rfl
 |down t y r l hk hL _ ih=>
  rw[←ih hr,z6t (root:=t)];unfold z0C;have e:idx t.L 0=some y:=by rw[hL];rfl
  rcases hk with hk|hk
  ·rw[zq1 hk,e,zB]
  ·rw[zq0 (by omega),zq1 hk,e,zB]
theorem v7r{l:List Value}{n:Nat}{v:Value}(h:n<l.length)(hl:l.length≤1000000000):z4P l (n:Int) v=some (l.set n v):=by
 unfold z4P;rw[zq1 (jG (by omega) (by omega)),zq1 (by omega),zq1 ⟨by omega,by omega⟩,zq1 (by simpa using h)];rfl
theorem w0n{l:List Value}{k:Nat}{v:Value}(h:k<l.length):(l.reverse.set k v).reverse=l.set (l.length-1-k) v:=by
 apply List.ext_getElem
 ·simp
 ·intro i h1 h2;simp only[List.length_reverse,List.length_set]at h1 h2;rw[List.getElem_reverse,List.getElem_set,List.getElem_set];simp only[List.length_set,List.length_reverse];by_cases c:k=l.length-1-i
  ·rw[zq1 c,zq1 (by omega)]
  ·rw[zq0 c,zq0 (by omega),List.getElem_reverse];congr 1;omega
theorem StOk.setG{m:zA}{N:Int}{Γ:List zA}{s:State}(h:StOk m N Γ s){n:Nat}{d x:zA}{u:Value}(hd':m.L[n]?=some d)(hx:d.L=[x])(hu:Fit m x u)(hw:VW u):StOk m N Γ {s with Globals:=s.Globals.set n u}:=
 {h with
  gl:=by simpa using h.gl
  gf:=by
   intro i d' x' v h1 h2 h3 h4;simp only at h4;rw[List.getElem?_set]at h4;by_cases c:n=i
   ·subst c;rw[hd']at h1;cases h1;rw[hx]at h3;injection h3 with h3;subst h3;by_cases c':n<s.Globals.length
    ·rw[zq1 rfl,zq1 c']at h4;cases h4;exact hu
    ·rw[zq1 rfl,zq0 c']at h4;cases h4
   ·rw[zq0 c]at h4;exact h.gf i d' x' v h1 h2 h3 h4
  gw:=by
   intro v hv;rcases List.mem_or_eq_of_mem_set hv with h'|rfl
   ·exact h.gw v h'
   ·exact hw}
theorem StOk.setL{m:zA}{N:Int}{Γ:List zA}{s:State}(h:StOk m N Γ s){n:Nat}{x:zA}{u:Value}(hx:Γ[n]?=some x)(hu:Fit m x u)(hw:VW u):StOk m N Γ {s with Locals:=s.Locals.set n u}:=
 {h with
  ll:=by simpa using h.ll
  lf:=by
   intro i τ v h1 h2;simp only at h2;rw[List.getElem?_set]at h2;by_cases c:n=i
   ·subst c;rw[hx]at h1;cases h1;by_cases c':n<s.Locals.length
    ·rw[zq1 rfl,zq1 c']at h2;cases h2;exact hu
    ·rw[zq1 rfl,zq0 c']at h2;cases h2
   ·rw[zq0 c]at h2;exact h.lf i τ v h1 h2
  lw:=by
   intro v hv;rcases List.mem_or_eq_of_mem_set hv with h'|rfl
   ·exact h.lw v h'
   ·exact hw
  room:=by simpa using h.room}
theorem v8a (m:zA) (hm:ModOk m) (hms:zI m≤100000000) (hmw:zA.Wf m) (f:Nat) (CE:y7g m f) (CS:y7h m f) (CB:v9z m f) (N:Int) (ρ:zA) (Γ Γ':List zA) (t:zA) (s s1:State) (hpay:z1v s=some s1) (hk1:s1.Kind=0)
  (hT:TS m ρ Γ t Γ') (hw:zA.Wf t) (hts:zI t≤100000000) (hst:StOk m (N-1) Γ s1) (hN:N≤1000000000) (hroom:(Γ.length:Int)+1+s1.Fuel≤1000000000) (hf:s1.Fuel≤f):
  ∃o s',Run m (y0Z m t s1) o s'∧zY m s t=some s'∧s'.Fuel≤s1.Fuel∧((s'.Kind=0∧StOk m N Γ' s')∨(s'.Kind≠0∧StOk m N Γ s'))∧v9J m ρ s':=by
 have hml:=vN m;have mono:∀{Δ s},StOk m (N-1) Δ s→StOk m N Δ s:=fun h=>h.mono (by omega) hN;have sub:∀x∈t.L,zA.Wf x∧zI x≤100000000:=fun x hx=>⟨hw.L_.2 x hx,by have:=zM hx;omega⟩;have htl:=vN t;have endE:∀{τ o s2},v8u m τ o s2→s2.Kind≠0→v9J m ρ s2∧o=o0:=fun h h0=>by
  rcases h with h|⟨h|h,e⟩
  ·exact absurd h.1 h0
  ·exact⟨.inr (.inr (.inl h)),e⟩
  ·exact⟨.inr (.inr (.inr h)),e⟩
 have withE:∀(e:zA) (τ:zA),t.L[0]?=some e→TE m Γ e τ→t.K≠29→t.K≠21→t.K≠22 →
   ∃o s2,G m (.E e) s1 o s2∧StOk m (N-1) Γ s2∧(s2.Kind=0→StOk m (N-1-1) Γ s2)∧s2.Fuel≤s1.Fuel∧v8u m τ o s2 ∧
   (∀o' s',s2.Kind=0→Run m (if t.K=20 then .ret o0 {s2 with Locals:=s2.Locals++[o.v]}
   else if t.K=26 then .ret o0 {s2 with Trace:=s2.Trace++[o.v.N]}
   else if t.K=27 then .ret o0 {s2 with Kind:=1,Ret:=o.v}
   else if t.K=23 then(if o.v.N=0 then .opt t.L[2]? fun x=>.call (.S x) s2 fun _ s=>.ret o0 s else .opt t.L[1]? fun x=>.call (.S x) s2 fun _ s=>.ret o0 s)
   else if t.K=24 then .call (.W o.v t) s2 fun _ s=>.ret o0 s
   else if t.K=25 then .opt t.L[1]? fun b=>.opt t.L[2]? fun x=>.call (.E b) s2 fun p s=>.on s o0 (.call (.F s.Locals.length o.v.N p.v.N x) s fun _ s=>.ret o0 s)
   else .ret o0 s2) o' s'→Run m (y0Z m t s1) o' s') ∧
   (∀q,s2.Kind=0→(if t.K=20 then z3k s2 o.v>>=fun q6=>some q6
    else if t.K=26 then if wI 8 (List.length ([]:List Int)+List.length s2.Trace)then if wI 8 (List.length (([]:List Int)++s2.Trace)+List.length [o.v.N])then some ({s2 with Trace:=(([]:List Int)++s2.Trace)++[o.v.N]})else none else none
    else if t.K=27 then some ({s2 with Kind:=1,Ret:=o.v})
    else if t.K=23 then if o.v.N=0 then idx t.L 2>>=fun x12=>zY m s2 x12>>=fun q29=>some q29 else idx t.L 1>>=fun x11=>zY m s2 x11>>=fun q28=>some q28
    else if t.K=24 then jM m ⟨o.v,s2⟩ t>>=fun q33=>some q33
    else if t.K=25 then z0R m ⟨o.v,s2⟩ t>>=fun q34=>some q34
    else some s2)=q→zY m s t=q) ∧
   (s2.Kind≠0→Run m (y0Z m t s1) o0 s2∧zY m s t=some s2):=by
  intro e τ he hTe n29 n21 n22;have hme:=List.mem_of_getElem? he;obtain⟨o,s2,hG,hM,hs2,hf2,hs2',hE⟩:=CE (N-1) Γ e τ s1 hTe (sub e hme).1 (sub e hme).2 hst (.inl hk1) hf;have ie:idx t.L 0=some e:=he;refine⟨o,s2,hG,hs2,fun h=>(hs2' h).2,hf2,hE,fun o' s' h0 h=>?_,fun q h0 h=>?_,fun h0=>⟨?_,?_⟩⟩
  ·unfold y0Z;rw[zq0 n29,zq0 n21,zq0 n22,he];exact .call _ _ _ o s2 _ _ hG (run_on.2 (.inl ⟨h0,h⟩))
  ·rw[z1j];unfold jX;rw[hpay,zB,zq1 hk1,zq0 n29,zq0 n21,zq0 n22,ie,zB,hM,zB,zq1 h0];exact h
  ·unfold y0Z;rw[zq0 n29,zq0 n21,zq0 n22,he];exact .call _ _ _ o s2 _ _ hG (run_on.2 (.inr ⟨h0,rfl,rfl⟩))
  ·rw[z1j];unfold jX;rw[hpay,zB,zq1 hk1,zq0 n29,zq0 n21,zq0 n22,ie,zB,hM,zB,zq0 h0]
 cases hT with
 |block Γ0 Γ1 _ k _ _ _ hB=>
  obtain⟨o,s2,hG,hM,hf2,⟨Δ,hΔ⟩,-,hE⟩:=CB (N-1) ρ Γ t.L Γ1 s1 hB sub hst hk1 hf;have hl2:s1.Locals.length≤s2.Locals.length:=by rw[hst.ll,hΔ.ll];simp
  have hc:=(mono hΔ).cut;rw[←hst.ll]at hc;refine⟨o0,{s2 with Locals:=s2.Locals.take s1.Locals.length},?_,?_,hf2,?_,hE⟩
  ·unfold y0Z;rw[zq1 k];refine .call _ _ _ o s2 _ _ hG ?_;unfold cut;rw[zq1 hl2];exact .ret _ _
  ·rw[z1j];unfold jX;rw[hpay,zB,zq1 hk1,zq1 k];have:=hM t (s1.Locals.length:Int) ⟨[],[],[],0,[],0,0,0,⟨0,[]⟩⟩ 0 rfl (by omega) (by omega);rw[show((0:Nat):Int)=0 from rfl]at this;rw[this,v9D hl2];rfl
  ·by_cases h0:s2.Kind=0
   ·exact .inl ⟨h0,hc⟩
   ·exact .inr ⟨h0,hc⟩
 |new Γ0 _ x k _ _ _ hL hg hn=>
  have hx:x∈t.L:=by rw[hL];simp
  have hxs:=(sub x hx).2;obtain⟨z,ez,hz⟩:=v5a (m:=m) (t:=x) (by omega) (by omega) hg;have hzw:=v8p (m:=m) (by omega) (by omega) hg ez;refine⟨o0,{s1 with Locals:=s1.Locals++[z]},?_,?_,Int.le_refl _,.inl ⟨hk1,mono (hst.push hz hzw (by rw[hst.ll];omega))⟩,.inl hk1⟩
  ·unfold y0Z;rw[zq0 (by omega),zq1 k,hL];show Run m (P.opt (vC m x) _) _ _;rw[ez];exact .ret _ _
  ·rw[z1j];unfold jX;rw[hpay,zB,zq1 hk1,zq0 (by omega),zq1 k,hL,show idx [x] 0=some x from rfl,zB,ez,zB,y9n hst.locals_le];rfl
 |let_ Γ0 _ e τ k _ _ _ hL hTe=>
  obtain⟨o,s2,hG,hs2,hs2',hf2,hE,run,mod,fin⟩:=withE e τ (by rw[hL];rfl) hTe (by omega) (by omega) (by omega);by_cases h0:s2.Kind=0
  ·obtain⟨-,hF,hW⟩:=hE.resolve_right (by omega);refine⟨o0,{s2 with Locals:=s2.Locals++[o.v]},run _ _ h0 (by rw[zq1 k];exact .ret _ _),mod _ h0 (by rw[zq1 k,y9n hs2.locals_le];rfl),hf2,.inl ⟨h0,mono (hs2.push hF hW (by rw[hs2.ll];omega))⟩,.inl h0⟩
  ·obtain⟨a1,a2⟩:=fin h0;exact⟨o0,s2,a1,a2,hf2,.inr ⟨h0,mono hs2⟩,(endE hE h0).1⟩
 |print Γ0 _ e τ k _ _ _ hL hTe _ _=>
  obtain⟨o,s2,hG,hs2,hs2',hf2,hE,run,mod,fin⟩:=withE e τ (by rw[hL];rfl) hTe (by omega) (by omega) (by omega);by_cases h0:s2.Kind=0
  ·have h1:=hs2' h0;have htr:=h1.tr;have hf0:=h1.fuel0;have st:StOk m N Γ {s2 with Trace:=s2.Trace++[o.v.N]}:={h1 with tr:=by simp only[List.length_append,List.length_singleton];omega,trN:=hN};refine⟨o0,{s2 with Trace:=s2.Trace++[o.v.N]},run _ _ h0 (by rw[zq0 (by omega),zq1 k];exact .ret _ _),mod _ h0 (by rw[zq0 (by omega),zq1 k,zq1 (jG (by omega) (by simp;omega)),zq1 (jG (by omega) (by simp;omega))];rfl),hf2,.inl ⟨h0,st⟩,.inl h0⟩
  ·obtain⟨a1,a2⟩:=fin h0;exact⟨o0,s2,a1,a2,hf2,.inr ⟨h0,mono hs2⟩,(endE hE h0).1⟩
 |ret Γ0 _ e τ k _ _ _ hL hTe hb=>
  obtain⟨o,s2,hG,hs2,hs2',hf2,hE,run,mod,fin⟩:=withE e τ (by rw[hL];rfl) hTe (by omega) (by omega) (by omega);by_cases h0:s2.Kind=0
  ·obtain⟨-,hF,hW⟩:=hE.resolve_right (by omega);refine⟨o0,{s2 with Kind:=1,Ret:=o.v},run _ _ h0 (by rw[zq0 (by omega),zq0 (by omega),zq1 k];exact .ret _ _),mod _ h0 (by rw[zq0 (by omega),zq0 (by omega),zq1 k]),hf2,.inr ⟨by simp,(mono hs2).same rfl rfl rfl rfl rfl rfl hW⟩,.inr (.inl ⟨rfl,hF.congr _ hb,hW⟩)⟩
  ·obtain⟨a1,a2⟩:=fin h0;exact⟨o0,s2,a1,a2,hf2,.inr ⟨h0,mono hs2⟩,(endE hE h0).1⟩
 |do_ Γ0 _ e τ k _ _ _ hL _ hTe=>
  obtain⟨o,s2,hG,hs2,hs2',hf2,hE,run,mod,fin⟩:=withE e τ (by rw[hL];rfl) hTe (by omega) (by omega) (by omega);by_cases h0:s2.Kind=0
  ·refine⟨o0,s2,run _ _ h0 (by rw[zq0 (by omega),zq0 (by omega),zq0 (by omega),zq0 (by omega),zq0 (by omega),zq0 (by omega)];exact .ret _ _),mod _ h0 (by rw[zq0 (by omega),zq0 (by omega),zq0 (by omega),zq0 (by omega),zq0 (by omega),zq0 (by omega)]),hf2,.inl ⟨h0,mono hs2⟩,.inl h0⟩
  ·obtain⟨a1,a2⟩:=fin h0;exact⟨o0,s2,a1,a2,hf2,.inr ⟨h0,mono hs2⟩,(endE hE h0).1⟩
 |if_ Γ0 _ e x y τ k _ _ _ hL hTe _ _ kx ky hTx hTy=>
  obtain⟨o,s2,hG,hs2,hs2',hf2,hE,run,mod,fin⟩:=withE e τ (by rw[hL];rfl) hTe (by omega) (by omega) (by omega);by_cases h0:s2.Kind=0
  ·have sx:=sub x (by rw[hL];simp);have sy:=sub y (by rw[hL];simp);by_cases c:o.v.N=0
   ·obtain⟨o3,s3,hG3,hM3,hf3,hs3,hE3⟩:=CS (N-1) ρ Γ Γ y s2 hTy sy.1 sy.2 hs2 h0 (by omega);have hs3:StOk m (N-1) Γ s3:=hs3.elim (fun h=>h.2.2) (fun h=>h.2);refine⟨o0,s3,run _ _ h0 ?_,mod _ h0 ?_,by omega,?_,hE3⟩
    ·rw[zq0 (by omega),zq0 (by omega),zq0 (by omega),zq1 k,zq1 c,hL];exact .call _ _ _ o3 s3 _ _ hG3 (.ret _ _)
    ·rw[zq0 (by omega),zq0 (by omega),zq0 (by omega),zq1 k,zq1 c,hL,show idx [e,x,y] 2=some y from rfl,zB,hM3];rfl
    ·by_cases h3:s3.Kind=0
     ·exact .inl ⟨h3,mono hs3⟩
     ·exact .inr ⟨h3,mono hs3⟩
   ·obtain⟨o3,s3,hG3,hM3,hf3,hs3,hE3⟩:=CS (N-1) ρ Γ Γ x s2 hTx sx.1 sx.2 hs2 h0 (by omega);have hs3:StOk m (N-1) Γ s3:=hs3.elim (fun h=>h.2.2) (fun h=>h.2);refine⟨o0,s3,run _ _ h0 ?_,mod _ h0 ?_,by omega,?_,hE3⟩
    ·rw[zq0 (by omega),zq0 (by omega),zq0 (by omega),zq1 k,zq0 c,hL];exact .call _ _ _ o3 s3 _ _ hG3 (.ret _ _)
    ·rw[zq0 (by omega),zq0 (by omega),zq0 (by omega),zq1 k,zq0 c,hL,show idx [e,x,y] 1=some x from rfl,zB,hM3];rfl
    ·by_cases h3:s3.Kind=0
     ·exact .inl ⟨h3,mono hs3⟩
     ·exact .inr ⟨h3,mono hs3⟩
  ·obtain⟨a1,a2⟩:=fin h0;exact⟨o0,s2,a1,a2,hf2,.inr ⟨h0,mono hs2⟩,(endE hE h0).1⟩
 |while_ Γ0 _ e x τ k _ _ _ hL hTe _ _ kx hTx=>
  obtain⟨o,s2,hG,hs2,hs2',hf2,hE,run,mod,fin⟩:=withE e τ (by rw[hL];rfl) hTe (by omega) (by omega) (by omega);by_cases h0:s2.Kind=0
  ·obtain⟨s3,hG3,hM3,hf3,hs3,hE3⟩:=w0I m f CE CS (N-1) ρ Γ t e x τ hL hTe hTx hw hts s2.Fuel.toNat o.v s2 hs2 (.inl h0) (by have:=hs2.fuel0;omega) (by omega);refine⟨o0,s3,run _ _ h0 ?_,mod _ h0 ?_,by omega,?_,hE3⟩
   ·rw[zq0 (by omega),zq0 (by omega),zq0 (by omega),zq0 (by omega),zq1 k];exact .call _ _ _ o0 s3 _ _ hG3 (.ret _ _)
   ·rw[zq0 (by omega),zq0 (by omega),zq0 (by omega),zq0 (by omega),zq1 k,y9w];unfold z3n;rw[hM3];rfl
   ·by_cases h3:s3.Kind=0
    ·exact .inl ⟨h3,mono hs3⟩
    ·exact .inr ⟨h3,mono hs3⟩
  ·obtain⟨a1,a2⟩:=fin h0;exact⟨o0,s2,a1,a2,hf2,.inr ⟨h0,mono hs2⟩,(endE hE h0).1⟩
 |for_ Γ0 _ a b x τ σ k _ _ _ hL hTa _ _ hTb _ _ kx hTx=>
  obtain⟨o,s2,hG,hs2,hs2',hf2,hE,run,mod,fin⟩:=withE a τ (by rw[hL];rfl) hTa (by omega) (by omega) (by omega);by_cases h0:s2.Kind=0
  ·obtain⟨-,hF,hW⟩:=hE.resolve_right (by omega);have sb:=sub b (by rw[hL];simp);have sx:=sub x (by rw[hL];simp);obtain⟨p,s3,hG3,hM3,hs3,hf3,-,hE3⟩:=CE (N-1) Γ b σ s2 hTb sb.1 sb.2 hs2 (.inl h0) (by omega);have run':∀o' s',Run m (.on s3 o0 (.call (.F s3.Locals.length o.v.N p.v.N x) s3 fun _ s=>.ret o0 s)) o' s'→Run m (y0Z m t s1) o' s':=fun o' s' h=>run _ _ h0 (by
    rw[zq0 (by omega),zq0 (by omega),zq0 (by omega),zq0 (by omega),zq0 (by omega),zq1 k,hL];exact .call _ _ _ p s3 _ _ hG3 h)
   have mod':∀q,(if s3.Kind=0 then wC (List.length s3.Locals:Int) o.v.N m t (State.mk [] [] [] 0 [] 0 0 0 (Value.mk 0 [])) ⟨p.v,s3⟩ s3 else some s3)=some q→zY m s t=some q:=fun q h=>mod _ h0 (by
    rw[zq0 (by omega),zq0 (by omega),zq0 (by omega),zq0 (by omega),zq0 (by omega),zq1 k,v4d];unfold z5w;rw[hL,show idx [a,b,x] 1=some b from rfl,zB,hM3,zB];simp only;rw[h];rfl)
   by_cases h3:s3.Kind=0
   ·obtain⟨s4,hG4,hM4,hf4,hs4,hE4⟩:=w0G m f CS (N-1) ρ Γ x hTx sx.1 sx.2 p.v.N s3.Fuel.toNat o.v.N s3 hW.N_ hs3 (.inl h3) (by have:=hs3.fuel0;omega) (by omega);rw[←hs3.ll]at hG4 hM4;refine⟨o0,s4,run' _ _ (run_on.2 (.inl ⟨h3,.call _ _ _ o0 s4 _ _ hG4 (.ret _ _)⟩)),mod' _ (by rw[zq1 h3];exact hM4 t _ _ (by rw[hL];rfl) rfl),by omega,?_,hE4⟩;by_cases h4:s4.Kind=0
    ·exact .inl ⟨h4,mono hs4⟩
    ·exact .inr ⟨h4,mono hs4⟩
   ·exact⟨o0,s3,run' _ _ (run_on.2 (.inr ⟨h3,rfl,rfl⟩)),mod' _ (by rw[zq0 h3]),by omega,.inr ⟨h3,mono hs3⟩,(endE hE3 h3).1⟩
  ·obtain⟨a1,a2⟩:=fin h0;exact⟨o0,s2,a1,a2,hf2,.inr ⟨h0,mono hs2⟩,(endE hE h0).1⟩
 |set Γ0 _ a b τ σ r k _ _ _ hL hTa hTb hbare hR hr=>
  have sa:=sub a (by rw[hL];simp);have sb:=sub b (by rw[hL];simp);obtain⟨o,s2,hG,hM,hs2,hf2,-,hE⟩:=CE (N-1) Γ b σ s1 hTb sb.1 sb.2 hst (.inl hk1) hf;have run:∀o' s',Run m (.on s2 o0 (if r.K=9 then .opt (y9o s2.Globals r.N) fun v=>.call (.Y a v) s2 fun p s'=>.on s' o0 (.opt (y9o s'.Globals r.N) fun u=>.opt (uA u p.w o.v) fun x=>.ret o0 {s' with Globals:=s'.Globals.set r.N.toNat x})
    else .opt (y0b s2.Locals r.N) fun v=>.call (.Y a v) s2 fun p s'=>.on s' o0 (.opt (y0b s'.Locals r.N) fun u=>.opt (uA u p.w o.v) fun x=>.ret o0 {s' with Locals:=(s'.Locals.reverse.set r.N.toNat x).reverse}))) o' s'→Run m (y0Z m t s1) o' s':=fun o' s' h=>by
   unfold y0Z;rw[zq0 (by omega),zq0 (by omega),zq1 k,hL];refine .call _ _ _ o s2 _ _ hG ?_;rw[w0h hR hr];exact h
  have mod:∀q,(if s2.Kind=0 then vP m s2 t (State.mk [] [] [] 0 [] 0 0 0 (Value.mk 0 [])) ⟨o.v,s2⟩ r else some s2)=some q→zY m s t=some q:=fun q h=>by
   rw[z1j];unfold jX;rw[hpay,zB,zq1 hk1,zq0 (by omega),zq0 (by omega),zq1 k,v4e];unfold z5x;rw[hL,show idx [a,b] 1=some b from rfl,show idx [a,b] 0=some a from rfl,zB,hM,zB];simp only;rw[zB,v9n hR hr,h];rfl
  by_cases h0:s2.Kind=0
  ·obtain⟨-,hF,hW⟩:=hE.resolve_right (by omega);obtain⟨ρr,hTr,hY⟩:=w0R m hm f CE (N-1) Γ r a τ hTa sa.1 sa.2 hR hr;have ia:idx t.L 0=some a:=by rw[hL];rfl
   cases hTr with
   |rule _ _ p _ _ _ hne hpl _ hRR=>cases hRR<;>omega
   |alone _ _ _ _ _ _ _ hA=>
    cases hA with
    |num k'=>omega
    |tru k' _=>omega
    |coni _ _ k' _ _ _=>omega
    |conb _ _ k' _ _ _=>omega
    |read k'=>omega
    |glob d x k' hd' hx=>
     obtain⟨n,hN',hdn,hdk⟩:=hd'.nat;have hlt:n<s2.Globals.length:=by rw[hs2.gl];exact(List.getElem?_eq_some_iff.1 hdn).1
     have hgv:=List.getElem?_eq_getElem hlt;obtain⟨p,s3,hG3,hM3,hs3,hf3,hk3,hwl,ψ,hpath,hψ⟩:=hY x s2.Globals[n] s2 (z6B x).symm (hs2.gf n d x _ hdn hdk hx hgv) hs2 h0 (by omega);have run:∀o' s',Run m (.on s3 o0 (.opt (y9o s3.Globals r.N) fun u=>.opt (uA u p.w o.v) fun x=>.ret o0 {s3 with Globals:=s3.Globals.set r.N.toNat x})) o' s'→Run m (y0Z m t s1) o' s':=fun o' s' h=>run _ _ (run_on.2 (.inl ⟨h0,by
      rw[zq1 k',hN',y1D,hgv,←hN'];exact .call _ _ _ p s3 _ _ hG3 h⟩))
     have mod:∀q,(if s3.Kind=0 then idx s3.Globals r.N>>=fun x5=>uA x5 p.w o.v>>=fun q2=>z4P s3.Globals r.N q2>>=fun q3=>some ({s3 with Globals:=q3})else some s3)=some q→zY m s t=some q:=fun q h=>mod _ (by
      rw[zq1 h0,z6t];unfold z0C;rw[zq0 (by omega),zq0 (by omega),zq1 k',ia,zB,hN',wG hlt,zB,hM3,zB,←hN'];exact h)
     by_cases h3:s3.Kind=0
     ·have hlt3:n<s3.Globals.length:=by rw[hs3.gl,←hs2.gl];exact hlt
      have hgv3:=List.getElem?_eq_getElem hlt3;obtain⟨u,eu,hu,huw⟩:=v4S hpath s3.Globals[n] o.v (hs3.gf n d x _ hdn hdk hx hgv3) (hs3.gw _ (List.getElem_mem hlt3)) (hF.congr _ (by rw[hψ h3,hbare])) hW;refine⟨o0,{s3 with Globals:=s3.Globals.set n u},run _ _ (run_on.2 (.inl ⟨h3,?_⟩)),mod _ ?_,by simp only;omega,.inl ⟨h3,mono (hs3.setG hdn hx hu huw)⟩,.inl h3⟩
      ·rw[hN',y1D,hgv3];show Run m (P.opt (uA s3.Globals[n] p.w o.v) _) _ _;rw[eu];exact .ret _ _
      ·rw[zq1 h3,hN',wG hlt3,zB,eu,zB,v7r hlt3 (by rw[hs3.gl];omega)];rfl
     ·exact⟨o0,s3,run _ _ (run_on.2 (.inr ⟨h3,rfl,rfl⟩)),mod _ (by rw[zq0 h3]),by omega,.inr ⟨h3,mono hs3⟩,.inr (.inr (hk3.resolve_left h3))⟩
    |loc n x k' hN' hn hx=>
     have hll:=hs2.ll;have hlt:n<s2.Locals.length:=by omega
     have hlt':s2.Locals.length-1-n<s2.Locals.length:=by omega
     obtain⟨p,s3,hG3,hM3,hs3,hf3,hk3,hwl,ψ,hpath,hψ⟩:=hY x s2.Locals[s2.Locals.length-1-n] s2 (z6B x).symm (hs2.lf (s2.Locals.length-1-n) x _ (by rw[hll];exact hx) (List.getElem?_eq_getElem hlt')) hs2 h0 (by omega);have hll3:s3.Locals.length=s2.Locals.length:=by rw[hs3.ll,hll]
     have run:∀o' s',Run m (.on s3 o0 (.opt (y0b s3.Locals r.N) fun u=>.opt (uA u p.w o.v) fun x=>.ret o0 {s3 with Locals:=(s3.Locals.reverse.set r.N.toNat x).reverse})) o' s'→Run m (y0Z m t s1) o' s':=fun o' s' h=>run _ _ (run_on.2 (.inl ⟨h0,by
      rw[zq0 (by omega),hN',y3X hlt,←hN'];exact .call _ _ _ p s3 _ _ hG3 h⟩))
     have mod:∀q,(if s3.Kind=0 then idx s3.Locals (IntKind.wrap .i64 ((IntKind.wrap .i64 ((List.length s2.Locals:Int)-1))-r.N))>>=fun x5=>uA x5 p.w o.v>>=fun q2=>z4P s3.Locals (IntKind.wrap .i64 ((IntKind.wrap .i64 ((List.length s2.Locals:Int)-1))-r.N)) q2>>=fun q3=>some ({s3 with Locals:=q3})else some s3)=some q→zY m s t=some q:=fun q h=>mod _ (by
      rw[zq1 h0,z6t];unfold z0C;rw[zq0 (by omega),zq0 (by omega),zq0 (by omega),ia,zB,hN',v1w hlt hs2.locals_le,zB,hM3,zB,←hN'];exact h)
     by_cases h3:s3.Kind=0
     ·have hlt3:n<s3.Locals.length:=by omega
      have hlt3':s3.Locals.length-1-n<s3.Locals.length:=by omega
      obtain⟨u,eu,hu,huw⟩:=v4S hpath s3.Locals[s3.Locals.length-1-n] o.v (hs3.lf (s3.Locals.length-1-n) x _ (by rw[hs3.ll];exact hx) (List.getElem?_eq_getElem hlt3')) (hs3.lw _ (List.getElem_mem hlt3')) (hF.congr _ (by rw[hψ h3,hbare])) hW;have ewr:IntKind.wrap .i64 (IntKind.wrap .i64 ((s2.Locals.length:Int)-1)-n)=((s3.Locals.length-1-n:Nat):Int):=by
       have:=hs2.locals_le;rw[z1H (n:=(s2.Locals.length:Int)-1) (by omega) (by omega),z1H (by omega) (by omega)];omega
      refine⟨o0,{s3 with Locals:=s3.Locals.set (s3.Locals.length-1-n) u},run _ _ (run_on.2 (.inl ⟨h3,?_⟩)),mod _ ?_,by simp only;omega,.inl ⟨h3,mono (hs3.setL (by rw[hs3.ll];exact hx) hu huw)⟩,.inl h3⟩
      ·rw[hN',y3X hlt3];show Run m (P.opt (uA s3.Locals[s3.Locals.length-1-n] p.w o.v) _) _ _;rw[eu,←w0n hlt3];exact .ret _ _
      ·rw[zq1 h3,hN',ewr,wG hlt3',zB,eu,zB,v7r hlt3' (by have:=hs3.locals_le;omega)];rfl
     ·exact⟨o0,s3,run _ _ (run_on.2 (.inr ⟨h3,rfl,rfl⟩)),mod _ (by rw[zq0 h3]),by omega,.inr ⟨h3,mono hs3⟩,.inr (.inr (hk3.resolve_left h3))⟩
  ·refine⟨o0,s2,run _ _ (run_on.2 (.inr ⟨h0,rfl,rfl⟩)),mod _ (by rw[zq0 h0]),by omega,.inr ⟨h0,mono hs2⟩,(endE hE h0).1⟩
theorem v3O(m:zA)(hm:ModOk m)(hms:zI m≤100000000)(hmw:zA.Wf m)(f:Nat):y7g m f∧y7h m f:=by
 induction f with
 |zero=>
  refine⟨fun N Γ t τ s hT hw hts hs hk hf=>?_,fun N ρ Γ Γ' t s hT hw hts hs hk hf=>?_⟩
  ·by_cases k0:s.Kind=0
   ·refine⟨o0,{s with Kind:=3},.dry _ _ k0 hf,?_,hs.same rfl rfl rfl rfl rfl rfl hs.rt,Int.le_refl _,fun h=>absurd h (show ¬(3:Int)=0 by decide),.inr ⟨.inr rfl,rfl⟩⟩;rw[jD];unfold uF;rw[y5Z k0 hf,zB,zq0 (show ¬(3:Int)=0 by decide)];rfl
   ·have e:=y2v (m:=m) (t:=t) k0;exact⟨o0,s,e.1,e.2,hs,Int.le_refl _,fun h=>absurd h k0,.inr ⟨by omega,rfl⟩⟩
  ·refine⟨o0,{s with Kind:=3},.dry _ _ hk hf,?_,Int.le_refl _,.inr ⟨show(3:Int)≠0 by decide,hs.same rfl rfl rfl rfl rfl rfl hs.rt⟩,.inr (.inr (.inr rfl))⟩;rw[z1j];unfold jX;rw[y5Z hk hf,zB,zq0 (show ¬(3:Int)=0 by decide)]
 |succ f ih=>
  obtain⟨CE,CS⟩:=ih;have CL:=w0H m f CE;have CC:=w0F m hms hmw f CS;have CB:=w0E m f CS;refine⟨fun N Γ t τ s hT hw hts hs hk hf=>?_,fun N ρ Γ Γ' t s hT hw hts hs hk hf=>?_⟩
  ·by_cases k0:s.Kind=0
   ·by_cases hd':s.Fuel≤0
    ·refine⟨o0,{s with Kind:=3},.dry _ _ k0 hd',?_,hs.same rfl rfl rfl rfl rfl rfl hs.rt,Int.le_refl _,fun h=>absurd h (show ¬(3:Int)=0 by decide),.inr ⟨.inr rfl,rfl⟩⟩;rw[jD];unfold uF;rw[y5Z k0 hd',zB,zq0 (show ¬(3:Int)=0 by decide)];rfl
    ·have hs1:=hs.pay (by omega:0<s.Fuel);obtain⟨o,s',hR,hM,hs',hf',hE⟩:=v6V m hm hms hmw f CE CL CC (N-1) Γ t τ s _ (v7F k0 (by omega) hs.fuel1) k0 hT hw hts hs1 (by simp only;omega);simp only at hf';exact⟨o,s',.pay _ _ _ _ k0 (by omega) hR,hM,hs'.mono (by omega) hs.trN,by omega,fun _=>⟨by omega,hs'⟩,hE⟩
   ·have e:=y2v (m:=m) (t:=t) k0;exact⟨o0,s,e.1,e.2,hs,Int.le_refl _,fun h=>absurd h k0,.inr ⟨by omega,rfl⟩⟩
  ·by_cases hd':s.Fuel≤0
   ·refine⟨o0,{s with Kind:=3},.dry _ _ hk hd',?_,Int.le_refl _,.inr ⟨show(3:Int)≠0 by decide,hs.same rfl rfl rfl rfl rfl rfl hs.rt⟩,.inr (.inr (.inr rfl))⟩;rw[z1j];unfold jX;rw[y5Z hk hd',zB,zq0 (show ¬(3:Int)=0 by decide)]
   ·have hs1:=hs.pay (by omega:0<s.Fuel);have hroom:=hs.room;have hll:=hs.ll;obtain⟨o,s',hR,hM,hf',hs',hE⟩:=v8a m hm hms hmw f CE CS CB N ρ Γ Γ' t s _ (v7F hk (by omega) hs.fuel1) hk hT hw hts hs1 hs.trN (by simp only;omega) (by simp only;omega);simp only at hf';exact⟨o,s',.pay _ _ _ _ hk (by omega) hR,hM,by omega,hs'.elim (fun h=>.inl ⟨h.1,by omega,h.2⟩) .inr,hE⟩
theorem y9C{n k:Nat}(h:n<k)(hk:k≤9223372036854775807):IntKind.wrap .i64 ((n:Int)+1)=((n+1:Nat):Int):=by rw[z6Y];exact z1H (by omega) (by omega)
theorem v8l(v:Value):Value.Wf v→∀left levels:Int,0≤left→left≤1000000→levels≤1000000→∃n,uJ v left levels=some n∧-1≤n∧n≤left:=by
 induction v using Value.ind with
 |h v ih=>
  intro hw left levels h0 h1 h2;rw[y9v];unfold z3j;by_cases c:levels≤0
  ·rw[zq1 c];exact⟨_,rfl,by omega,by omega⟩
  rw[zq0 c,z1H (n:=left-1) (by omega) (by omega)];have loop:∀(k i:Nat) (l:Int),i+k=v.L.length→-1≤l→l≤left→∃n,yW l levels i v=some n∧-1≤n∧n≤l:=by
   intro k;induction k with
   |zero=>
    intro i l hi hl hl';rw[z8j];unfold z0q;rw[zq0 (by omega)];exact⟨_,rfl,hl,Int.le_refl _⟩
   |succ k ihk=>
    intro i l hi hl hl';have hlt:i<v.L.length:=by omega
    rw[z8j];unfold z0q;rw[zq1 (by omega)];by_cases c2:l≥0
    ·have hm:=List.getElem_mem hlt;obtain⟨n,en,n0,n1⟩:=ih _ hm (hw.L_.2 _ hm) l (levels-1) c2 (by omega) (by omega);rw[zq1 c2,wG hlt,zB,z1H (n:=levels-1) (by omega) (by omega),en,zB,y9C hlt hw.L_.1];obtain⟨n',en',h1',h2'⟩:=ihk (i+1) n (by omega) n0 (by omega);exact⟨n',en',h1',by omega⟩
    ·rw[zq0 c2];exact⟨_,rfl,hl,Int.le_refl _⟩
  obtain⟨n,en,n0,n1⟩:=loop v.L.length 0 (left-1) (by omega) (by omega) (by omega);exact⟨n,en,n0,by omega⟩
theorem v2b(v:Value)(hw:Value.Wf v):∃b,z5u v=some b:=by
 obtain⟨n,en,-⟩:=v8l v hw 300 60 (by omega) (by omega) (by omega);unfold z5u;rw[en];exact⟨_,rfl⟩
theorem v4w(l:List Value)(hw:∀v∈l,Value.Wf v)(hl:l.length≤9223372036854775807):∃b,z5v l=some b∧(b=false→l.length≤40):=by
 have loop:∀(k i:Nat),i+k=l.length→∃b,vK l i=some b∧(b=false→l.length≤40):=by
  intro k;induction k with
  |zero=>
   intro i hi;rw[z8l];unfold z0s;rw[zq0 (by omega)];exact⟨_,rfl,fun h=>by have:=of_decide_eq_false h;omega⟩
  |succ k ih=>
   intro i hi;have hlt:i<l.length:=by omega
   rw[z8l];unfold z0s;rw[zq1 (by omega)];by_cases c:(i:Int)<40
   ·obtain⟨b,eb⟩:=v2b l[i] (hw _ (List.getElem_mem hlt));rw[zq1 c,wG hlt,zB,eb,zB,y9C hlt hl];cases b with
    |true=>rw[zq1 rfl];exact⟨_,rfl,fun h=>Bool.noConfusion h⟩
    |false=>rw[zq0 (by decide)];exact ih (i+1) (by omega)
   ·rw[zq0 c];exact⟨_,rfl,fun h=>by have:=of_decide_eq_false h;omega⟩
 unfold z5v;exact loop l.length 0 (by omega)
structure v2q(s:State):Prop where
 g:s.Globals.length≤40
 l:s.Locals.length≤40
 i:s.Input.length≤100
 t:s.Trace.length≤200
 f:s.Fuel≤3000
theorem v7V(s:State)(hw:State.Wf s):∃b,z4t s=some b∧(b=false→v2q s):=by
 unfold z4t;by_cases c1:(List.length s.Globals:Int)>40
 ·rw[zq1 c1];exact⟨_,rfl,fun h=>Bool.noConfusion h⟩
 rw[zq0 c1];by_cases c2:(List.length s.Locals:Int)>40
 ·rw[zq1 c2];exact⟨_,rfl,fun h=>Bool.noConfusion h⟩
 rw[zq0 c2];by_cases c3:(List.length s.Input:Int)>100
 ·rw[zq1 c3];exact⟨_,rfl,fun h=>Bool.noConfusion h⟩
 rw[zq0 c3];by_cases c4:(List.length s.Trace:Int)>200
 ·rw[zq1 c4];exact⟨_,rfl,fun h=>Bool.noConfusion h⟩
 rw[zq0 c4];by_cases c5:s.Fuel>3000
 ·rw[zq1 c5];exact⟨_,rfl,fun h=>Bool.noConfusion h⟩
 rw[zq0 c5];obtain⟨b1,e1⟩:=v2b s.Ret hw.Ret_;obtain⟨b2,e2,-⟩:=v4w s.Globals hw.Globals_.2 hw.Globals_.1;obtain⟨b3,e3,-⟩:=v4w s.Locals hw.Locals_.2 hw.Locals_.1;have sm:v2q s:=⟨by omega,by omega,by omega,by omega,by omega⟩;rw[e1,zB];cases b1 with
 |true=>rw[zq1 rfl];exact⟨_,rfl,fun h=>Bool.noConfusion h⟩
 |false=>
  rw[zq0 (by decide),e2,zB];cases b2 with
  |true=>rw[zq1 rfl];exact⟨_,rfl,fun h=>Bool.noConfusion h⟩
  |false=>rw[zq0 (by decide),e3,zB];exact⟨_,rfl,fun _=>sm⟩
theorem v4R(a:Value):∃b,wW a v0=some b∧(b=true↔a=v0):=by
 rw[y3f];unfold z2R;by_cases h1:a.N=0
 ·rw[zq1 h1];by_cases h2:(List.length a.L:Int)=((List.length ([]:List Value):Nat):Int)
  ·rw[zq1 h2,z6a];unfold z0b;rw[zq0 (by rw[h2];simp)];exact⟨_,rfl,fun _=>y6q h1 (List.length_eq_zero_iff.1 (by simpa using h2)),fun _=>rfl⟩
  ·rw[zq0 h2];exact⟨_,rfl,fun h=>Bool.noConfusion h,fun h=>absurd (by rw[h]) h2⟩
 ·rw[zq0 h1];exact⟨_,rfl,fun h=>Bool.noConfusion h,fun h=>absurd (by rw[h]) h1⟩
theorem w0m(m:zA)(Γ:List zA)(l:List Value)(hm:zI m≤1000000000)(hΓ:∀x∈Γ,zI x≤1000000000)(hl:l.length≤9223372036854775807):∃b,z6l m Γ l=some b∧(b=true↔l.length=Γ.length∧∀(i:Nat) τ v,Γ[i]?=some τ→l[i]?=some v→Fit m τ v):=by
 have loop:∀(k i:Nat),i+k=l.length→Γ.length=l.length→∃b,wO Γ l i m=some b∧(b=true↔∀(j:Nat) τ v,i≤j→Γ[j]?=some τ→l[j]?=some v→Fit m τ v):=by
  intro k;induction k with
  |zero=>
   intro i hi hle;rw[y0o];unfold z1t;rw[zq0 (by omega)];exact⟨_,rfl,fun _ j τ v hj hx hy=>absurd (List.getElem?_eq_some_iff.1 hy).1 (by omega),fun _=>rfl⟩
  |succ k ih=>
   intro i hi hle;have hlt:i<l.length:=by omega
   have hlt':i<Γ.length:=by omega
   obtain⟨b,eb,hb⟩:=v6Z hm l[i] Γ[i] (hΓ _ (List.getElem_mem hlt'));rw[y0o];unfold z1t;rw[zq1 (by omega),wG hlt',zB,wG hlt,zB,eb,zB,y9C hlt hl];cases b with
   |true=>
    rw[zq1 rfl];obtain⟨c,ec,hc⟩:=ih (i+1) (by omega) hle;refine⟨c,ec,hc.trans ⟨fun h j τ v hj hx hy=>?_,fun h j τ v hj hx hy=>h j τ v (by omega) hx hy⟩⟩;by_cases e:j=i
    ·subst e;rw[List.getElem?_eq_getElem hlt']at hx;rw[List.getElem?_eq_getElem hlt]at hy;cases hx;cases hy;exact hb.1 rfl
    ·exact h j τ v (by omega) hx hy
   |false=>
    rw[zq0 (by decide)];exact⟨_,rfl,fun h=>Bool.noConfusion h,fun h=>absurd (hb.2 (h i _ _ (Nat.le_refl _) (List.getElem?_eq_getElem hlt') (List.getElem?_eq_getElem hlt))) (by decide)⟩
 unfold z6l;by_cases c:(List.length Γ:Int)=(List.length l:Int)
 ·rw[zq1 c];obtain⟨b,eb,hb⟩:=loop l.length 0 (by omega) (by omega);exact⟨b,eb,hb.trans ⟨fun h=>⟨by omega,fun i τ v hx hy=>h i τ v (by omega) hx hy⟩,fun h i τ v _ hx hy=>h.2 i τ v hx hy⟩⟩
 ·rw[zq0 c];exact⟨_,rfl,fun h=>Bool.noConfusion h,fun h=>absurd h.1 (by omega)⟩
structure v9K(m:zA)(s:State):Prop where
 gl:s.Globals.length=m.L.length
 at0:0≤s.At
 at1:s.At≤(s.Input.length:Int)
 f0:0≤s.Fuel
 f1:s.Fuel≤65536
 k:s.Kind=0
 n:s.N=0
 r:s.Ret=v0
 gf:∀(i:Nat) d v,m.L[i]?=some d→s.Globals[i]?=some v→(d.K=32→∀x,d.L=[x]→Fit m x v)∧(d.K≠32→v=v0)
theorem v9o(m:zA)(s:State)(hm:ModOk m)(hms:zI m≤1000000000):∃b,z0Z m s=some b∧(b=true→v9K m s):=by
 have hml:=vN m;have no:∃b,some false=some b∧(b=true→v9K m s):=⟨_,rfl,fun h=>Bool.noConfusion h⟩;unfold z0Z;by_cases c1:(List.length s.Globals:Int)=(List.length m.L:Int)
 ·rw[zq1 c1];by_cases c2:s.At<0
  ·rw[zq1 c2];exact no
  rw[zq0 c2];by_cases c3:s.At>(List.length s.Input:Int)
  ·rw[zq1 c3];exact no
  rw[zq0 c3];by_cases c4:s.Fuel<0
  ·rw[zq1 c4];exact no
  rw[zq0 c4];by_cases c5:s.Fuel>65536
  ·rw[zq1 c5];exact no
  rw[zq0 c5];by_cases c6:s.Kind=0
  ·rw[zq1 c6];by_cases c7:s.N=0
   ·rw[zq1 c7];obtain⟨b,eb,hb⟩:=v4R s.Ret;rw[eb,zB];cases b with
    |false=>rw[zq0 (by decide)];exact no
    |true=>
     rw[zq1 rfl];have loop:∀(k i:Nat),i+k=m.L.length→∃b,yN i m s=some b∧(b=true→∀(j:Nat) d v,i≤j→m.L[j]?=some d→s.Globals[j]?=some v→(d.K=32→∀x,d.L=[x]→Fit m x v)∧(d.K≠32→v=v0)):=by
      intro k;induction k with
      |zero=>
       intro i hi;rw[z1a];unfold jZ;rw[zq0 (by omega)];exact⟨_,rfl,fun _ j d v hj hd'=>absurd (List.getElem?_eq_some_iff.1 hd').1 (by omega)⟩
      |succ k ih=>
       intro i hi;have hlt:i<m.L.length:=by omega
       have hlt':i<s.Globals.length:=by omega
       have gm:=List.getElem?_eq_getElem hlt;have gg:=List.getElem?_eq_getElem hlt';obtain⟨b,eb,hb⟩:=ih (i+1) (by omega);have ext:(m.L[i].K=32→∀x,m.L[i].L=[x]→Fit m x s.Globals[i])→(m.L[i].K≠32→s.Globals[i]=v0)→b=true→∀(j:Nat) d v,i≤j→m.L[j]?=some d→s.Globals[j]?=some v→(d.K=32→∀x,d.L=[x]→Fit m x v)∧(d.K≠32→v=v0):=fun h1 h2 hbt j d v hj hd' hv=>by
        by_cases e:j=i
        ·subst e;rw[gm]at hd';rw[gg]at hv;cases hd';cases hv;exact⟨h1,h2⟩
        ·exact hb hbt j d v (by omega) hd' hv
       rw[z1a];unfold jZ;simp only[wG hlt,wG hlt',zB];rw[zq1 (by omega),z1C (by omega)];by_cases k:m.L[i].K=32
       ·obtain⟨x,hx,-⟩:=hm.vartype gm k;have s1:=zM (List.mem_of_getElem? gm);have s2:=z1A hx;obtain⟨b',eb',hb'⟩:=v6Z hms s.Globals[i] x (by omega);rw[zq1 k,hx,show idx [x] 0=some x from rfl,zB,eb',zB];cases b' with
        |true=>
         rw[zq1 rfl,zq1 k];exact⟨b,eb,ext (fun _ y hy=>by rw[hx]at hy;injection hy with hy;subst hy;exact hb'.1 rfl) (fun h=>absurd k h)⟩
        |false=>rw[zq0 (by decide)];exact⟨_,rfl,fun h=>Bool.noConfusion h⟩
       ·obtain⟨b',eb',hb'⟩:=v4R s.Globals[i];rw[zq0 k,zq0 k,eb',zB];cases b' with
        |true=>rw[zq1 rfl];exact⟨b,eb,ext (fun h=>absurd h k) (fun _=>hb'.1 rfl)⟩
        |false=>rw[zq0 (by decide)];exact⟨_,rfl,fun h=>Bool.noConfusion h⟩
     obtain⟨b,eb,hb'⟩:=loop m.L.length 0 (by omega);exact⟨b,eb,fun h=>⟨by omega,by omega,by omega,by omega,by omega,c6,c7,hb.1 rfl,fun i d v=>hb' h i d v (by omega)⟩⟩
   ·rw[zq0 c7];exact no
  ·rw[zq0 c6];exact no
 ·rw[zq0 c1];exact no
theorem w1m{m:zA}{Γ:List zA}{s:State}(hm:ModOk m)(hms:zI m≤1000000000)(hΓ:∀x∈Γ,zI x≤1000000000)(hw:State.Wf s)(hs:v2q s)(hf:v9K m s)(hl:s.Locals.length=Γ.length∧∀(i:Nat) τ v,Γ[i]?=some τ→s.Locals[i]?=some v→Fit m τ v):StOk m 1000000000 Γ s where
 gl:=hf.gl
 gf:=fun i d x v h1 h2 h3 h4=>(hf.gf i d v h1 h4).1 h2 x h3
 gw:=fun v hv=>by
  obtain⟨i,hi⟩:=List.getElem?_of_mem hv;have hlt:i<m.L.length:=by rw[←hf.gl];exact(List.getElem?_eq_some_iff.1 hi).1
  have gm:=List.getElem?_eq_getElem hlt;have s1:=zM (List.mem_of_getElem? gm);obtain⟨h1,h2⟩:=hf.gf i _ v gm hi;by_cases k:m.L[i].K=32
  ·obtain⟨x,hx,-⟩:=hm.vartype gm k;have s2:=z1A hx;exact .of ((h1 k x hx).vok hms (by omega)) (hw.Globals_.2 v hv)
  ·rw[h2 k];exact v8m
 ll:=hl.1
 lf:=hl.2
 lw:=fun v hv=>by
  obtain⟨i,hi⟩:=List.getElem?_of_mem hv;have hlt:i<Γ.length:=by rw[←hl.1];exact(List.getElem?_eq_some_iff.1 hi).1
  exact .of ((hl.2 i _ v (List.getElem?_eq_getElem hlt) hi).vok hms (hΓ _ (List.getElem_mem hlt))) (hw.Locals_.2 v hv)
 at0:=hf.at0
 at1:=hf.at1
 inl:=by have:=hs.i;omega
 inw:=hw.Input_.2
 fuel0:=hf.f0
 fuel1:=by have:=hs.f;omega
 room:=by have:=hs.l;have:=hs.f;omega
 tr:=by have:=hs.t;have:=hs.f;omega
 trN:=by omega
 rt:=by rw[hf.r];exact v8m
theorem StOk.fuel{m:zA}{N:Int}{Γ:List zA}{s:State}(h:StOk m N Γ s){f:Int}(h0:0≤f)(h1:f≤1000000)(h2:(s.Locals.length:Int)+f≤1000000000)(h3:(s.Trace.length:Int)+f≤N):StOk m N Γ {s with Fuel:=f}:=
 {h with fuel0:=h0,fuel1:=h1,room:=h2,tr:=h3}
inductive Fl:State→P→Prop
 |ret (s:State) (o:Out) (s':State):s'.Fuel≤s.Fuel→(s.Kind=3→s'.Kind=3)→Fl s (.ret o s')
 |call (s:State) (j:Job) (s1:State) (k:Out→State→P):s1.Fuel≤s.Fuel→(s.Kind=3→s1.Kind=3)→(∀o s2,s2.Fuel≤s1.Fuel→(s1.Kind=3→s2.Kind=3)→Fl s2 (k o s2))→Fl s (.call j s1 k)
 |pay (s s1:State) (k:State→P):s1.Fuel≤s.Fuel→(s.Kind=3→s1.Kind=3)→(∀s2,s2.Kind=0→Fl s2 (k s2))→Fl s (.pay s1 k)
 |bad (s:State):Fl s .bad
theorem Fl.opt{α:Type}{s:State}{x:Option α}{k:α→P}(h:∀a,Fl s (k a)):Fl s (.opt x k):=by
 cases x with
 |none=>exact .bad s
 |some a=>exact h a
theorem Fl.on{s s':State}{o:Out}{k:P}(h:Fl s (.ret o s'))(h':s'.Kind=0→Fl s k):Fl s (.on s' o k):=by
 unfold P.on;split
 ·exact h' (by assumption)
 ·exact h
theorem Fl.ite{c:Prop}[Decidable c]{s:State}{p q:P}(h:c→Fl s p)(h':¬c→Fl s q):Fl s (if c then p else q):=by
 split
 ·exact h (by assumption)
 ·exact h' (by assumption)
theorem Fl.cut{s s':State}{n:Nat}{k:State→P}(h:Fl s (k {s' with Locals:=s'.Locals.take n})):Fl s (cut s' n k):=by
 unfold M.cut;split
 ·exact h
 ·exact .bad s
theorem z9C(m:zA)(j:Job)(s:State):Fl s (step m j s):=by
 cases j with
 |E t=>
  refine .pay _ _ _ (Int.le_refl _) id fun s1 h0=>?_;unfold z1G
  (repeat' (first|assumption|exact id|exact Int.le_refl _|exact Fl.bad _|(refine Fl.ret _ _ _ ?_ ?_)|(refine Fl.call _ _ _ _ ?_ ?_ ?_)|(refine Fl.pay _ _ _ ?_ ?_ ?_)|(apply Fl.on)|(apply Fl.cut)|(apply Fl.opt)|(apply Fl.ite)|(intro _)|(simp only[y1a]at *;omega)))
 |L l=>
  cases l with
  |nil=>exact .ret _ _ _ (Int.le_refl _) id
  |cons x r=>show Fl s (P.call _ _ _);(repeat' (first|assumption|exact id|exact Int.le_refl _|exact Fl.bad _|(refine Fl.ret _ _ _ ?_ ?_)|(refine Fl.call _ _ _ _ ?_ ?_ ?_)|(refine Fl.pay _ _ _ ?_ ?_ ?_)|(apply Fl.on)|(apply Fl.cut)|(apply Fl.opt)|(apply Fl.ite)|(intro _)|(simp only[y1a]at *;omega)))
 |C f a=>
  show Fl s (v6x m f a s);unfold v6x
  (repeat' (first|assumption|exact id|exact Int.le_refl _|exact Fl.bad _|(refine Fl.ret _ _ _ ?_ ?_)|(refine Fl.call _ _ _ _ ?_ ?_ ?_)|(refine Fl.pay _ _ _ ?_ ?_ ?_)|(apply Fl.on)|(apply Fl.cut)|(apply Fl.opt)|(apply Fl.ite)|(intro _)|(simp only[y1a]at *;omega)))
 |S t=>
  refine .pay _ _ _ (Int.le_refl _) id fun s1 h0=>?_;unfold y0Z
  (repeat' (first|assumption|exact id|exact Int.le_refl _|exact Fl.bad _|(refine Fl.ret _ _ _ ?_ ?_)|(refine Fl.call _ _ _ _ ?_ ?_ ?_)|(refine Fl.pay _ _ _ ?_ ?_ ?_)|(apply Fl.on)|(apply Fl.cut)|(apply Fl.opt)|(apply Fl.ite)|(intro _)|(simp only[y1a]at *;omega)))
 |B l=>
  cases l with
  |nil=>exact .ret _ _ _ (Int.le_refl _) id
  |cons x r=>show Fl s (P.call _ _ _);(repeat' (first|assumption|exact id|exact Int.le_refl _|exact Fl.bad _|(refine Fl.ret _ _ _ ?_ ?_)|(refine Fl.call _ _ _ _ ?_ ?_ ?_)|(refine Fl.pay _ _ _ ?_ ?_ ?_)|(apply Fl.on)|(apply Fl.cut)|(apply Fl.opt)|(apply Fl.ite)|(intro _)|(simp only[y1a]at *;omega)))
 |W v t=>show Fl s (P.on _ _ _);(repeat' (first|assumption|exact id|exact Int.le_refl _|exact Fl.bad _|(refine Fl.ret _ _ _ ?_ ?_)|(refine Fl.call _ _ _ _ ?_ ?_ ?_)|(refine Fl.pay _ _ _ ?_ ?_ ?_)|(apply Fl.on)|(apply Fl.cut)|(apply Fl.opt)|(apply Fl.ite)|(intro _)|(simp only[y1a]at *;omega)))
 |F n i hi x=>show Fl s (P.pay _ _);(repeat' (first|assumption|exact id|exact Int.le_refl _|exact Fl.bad _|(refine Fl.ret _ _ _ ?_ ?_)|(refine Fl.call _ _ _ _ ?_ ?_ ?_)|(refine Fl.pay _ _ _ ?_ ?_ ?_)|(apply Fl.on)|(apply Fl.cut)|(apply Fl.opt)|(apply Fl.ite)|(intro _)|(simp only[y1a]at *;omega)))
 |Y t kept=>
  show Fl s (if _ then _ else _)
  (repeat' (first|assumption|exact id|exact Int.le_refl _|exact Fl.bad _|(refine Fl.ret _ _ _ ?_ ?_)|(refine Fl.call _ _ _ _ ?_ ?_ ?_)|(refine Fl.pay _ _ _ ?_ ?_ ?_)|(apply Fl.on)|(apply Fl.cut)|(apply Fl.opt)|(apply Fl.ite)|(intro _)|(simp only[y1a]at *;omega)))
theorem y7G{m:zA}{p:P}{o:Out}{s':State}(h:Run m p o s'):∀s,Fl s p→s'.Fuel≤s.Fuel∧(s.Kind=3→s'.Kind=3):=by
 induction h with
 |ret o s' =>
  intro s hf;cases hf with|ret _ _ _ a b=>exact⟨a,b⟩
 |call j s1 k o1 s2 o s' _ _ ih1 ih2=>
  intro s hf;cases hf with
  |call _ _ _ _ a b c=>
   obtain⟨a1,b1⟩:=ih1 s1 (z9C m j s1);obtain⟨a2,b2⟩:=ih2 s2 (c o1 s2 a1 b1);exact⟨by omega,fun h=>b2 (b1 (b h))⟩
 |ended s1 k h=>
  intro s hf;cases hf with|pay _ _ _ a b _=>exact⟨a,b⟩
 |dry s1 k h1 h2=>
  intro s hf;cases hf with|pay _ _ _ a b _=>exact⟨a,fun _=>rfl⟩
 |pay s1 k o s' h1 h2 _ ih=>
  intro s hf;cases hf with
  |pay _ _ _ a b c=>
   obtain⟨a1,b1⟩:=ih _ (c {s1 with Fuel:=s1.Fuel-1} h1);exact⟨by simp only at a1;omega,fun h=>by have:=b h;omega⟩
abbrev v0a(s:State)(d:Int):State:={s with Fuel:=s.Fuel+d}
inductive SimF(d:Int):P→P→Prop
 |ret (o:Out) (s:State):SimF d (.ret o s) (.ret o (v0a s d))
 |call (j:Job) (s:State) (k k':Out→State→P):(∀o s1,SimF d (k o s1) (k' o (v0a s1 d)))→SimF d (.call j s k) (.call j (v0a s d) k')
 |pay (s:State) (k k':State→P):(∀s1,SimF d (k s1) (k' (v0a s1 d)))→SimF d (.pay s k) (.pay (v0a s d) k')
 |bad:SimF d .bad .bad
theorem SimF.opt{d:Int}{α:Type}{x:Option α}{k k':α→P}(h:∀a,SimF d (k a) (k' a)):SimF d (.opt x k) (.opt x k'):=by
 cases x with
 |none=>exact .bad
 |some a=>exact h a
theorem SimF.on{d:Int}{s:State}{o:Out}{k k':P}(h:SimF d k k'):SimF d (.on s o k) (.on (v0a s d) o k'):=by
 unfold P.on;show SimF d (if s.Kind=0 then k else .ret o s) (if s.Kind=0 then k' else .ret o (v0a s d));split
 ·exact h
 ·exact .ret _ _
theorem SimF.ite{d:Int}{c:Prop}[Decidable c]{p p' q q':P}(h:SimF d p p')(h':SimF d q q'):SimF d (if c then p else q) (if c then p' else q'):=by
 split
 ·exact h
 ·exact h'
theorem SimF.cut{d:Int}{s:State}{n:Nat}{k k':State→P}(h:∀s,SimF d (k s) (k' (v0a s d))):SimF d (cut s n k) (cut (v0a s d) n k'):=by
 unfold M.cut;show SimF d (if n≤s.Locals.length then _ else .bad) (if n≤s.Locals.length then _ else .bad);split
 ·exact h _
 ·exact .bad
theorem v4U(m:zA)(d:Int)(j:Job)(s:State):SimF d (step m j s) (step m j (v0a s d)):=by
 cases j with
 |E t=>refine .pay _ _ _ fun s1=>?_;unfold z1G;(repeat' (first|exact SimF.bad|exact SimF.ret _ _|(refine SimF.call _ _ _ _ ?_)|(refine SimF.pay _ _ _ ?_)|(apply SimF.on)|(apply SimF.cut)|(apply SimF.opt)|(apply SimF.ite)|(intro _)))
 |L l=>
  cases l with
  |nil=>exact .ret _ _
  |cons x r=>show SimF d (P.call _ _ _) (P.call _ _ _);(repeat' (first|exact SimF.bad|exact SimF.ret _ _|(refine SimF.call _ _ _ _ ?_)|(refine SimF.pay _ _ _ ?_)|(apply SimF.on)|(apply SimF.cut)|(apply SimF.opt)|(apply SimF.ite)|(intro _)))
 |C f a=>show SimF d (v6x m f a s) (v6x m f a _);unfold v6x;(repeat' (first|exact SimF.bad|exact SimF.ret _ _|(refine SimF.call _ _ _ _ ?_)|(refine SimF.pay _ _ _ ?_)|(apply SimF.on)|(apply SimF.cut)|(apply SimF.opt)|(apply SimF.ite)|(intro _)))
 |S t=>refine .pay _ _ _ fun s1=>?_;unfold y0Z;(repeat' (first|exact SimF.bad|exact SimF.ret _ _|(refine SimF.call _ _ _ _ ?_)|(refine SimF.pay _ _ _ ?_)|(apply SimF.on)|(apply SimF.cut)|(apply SimF.opt)|(apply SimF.ite)|(intro _)))
 |B l=>
  cases l with
  |nil=>exact .ret _ _
  |cons x r=>show SimF d (P.call _ _ _) (P.call _ _ _);(repeat' (first|exact SimF.bad|exact SimF.ret _ _|(refine SimF.call _ _ _ _ ?_)|(refine SimF.pay _ _ _ ?_)|(apply SimF.on)|(apply SimF.cut)|(apply SimF.opt)|(apply SimF.ite)|(intro _)))
 |W v t=>show SimF d (P.on _ _ _) (P.on _ _ _);(repeat' (first|exact SimF.bad|exact SimF.ret _ _|(refine SimF.call _ _ _ _ ?_)|(refine SimF.pay _ _ _ ?_)|(apply SimF.on)|(apply SimF.cut)|(apply SimF.opt)|(apply SimF.ite)|(intro _)))
 |F n i hi x=>show SimF d (P.pay _ _) (P.pay _ _);(repeat' (first|exact SimF.bad|exact SimF.ret _ _|(refine SimF.call _ _ _ _ ?_)|(refine SimF.pay _ _ _ ?_)|(apply SimF.on)|(apply SimF.cut)|(apply SimF.opt)|(apply SimF.ite)|(intro _)))
 |Y t kept=>show SimF d (if _ then _ else _) (if _ then _ else _);(repeat' (first|exact SimF.bad|exact SimF.ret _ _|(refine SimF.call _ _ _ _ ?_)|(refine SimF.pay _ _ _ ?_)|(apply SimF.on)|(apply SimF.cut)|(apply SimF.opt)|(apply SimF.ite)|(intro _)))
theorem v7P{m:zA}{p:P}{o:Out}{s':State}(d:Int)(h:Run m p o s'):∀s p',Fl s p→SimF d p p'→s'.Kind≠3→0≤s'.Fuel+d→Run m p' o (v0a s' d):=by
 induction h with
 |ret o s' =>
  intro s p' hf hs h3 h0;cases hs;exact .ret _ _
 |call j s1 k o1 s2 o s' hr1 hr2 ih1 ih2=>
  intro s p' hf hs h3 h0;cases hf with
  |call _ _ _ _ a b c=>
   obtain⟨a1,b1⟩:=y7G hr1 s1 (z9C m j s1);obtain⟨a2,b2⟩:=y7G hr2 s2 (c o1 s2 a1 b1);cases hs with
   |call _ _ _ k' hk=>
    exact .call _ _ _ o1 (v0a s2 d) _ _ (ih1 s1 _ (z9C m j s1) (v4U m d j s1) (fun h=>h3 (b2 h)) (by omega)) (ih2 s2 _ (c o1 s2 a1 b1) (hk o1 s2) h3 h0)
 |ended s1 k h=>
  intro s p' hf hs h3 h0;cases hs with
  |pay _ _ k' hk=>exact .ended _ _ h
 |dry s1 k h1 h2=>
  intro s p' hf hs h3 h0;exact absurd rfl h3
 |pay s1 k o s' h1 h2 hr ih=>
  intro s p' hf hs h3 h0;cases hf with
  |pay _ _ _ a b c=>
   have hc:=c {s1 with Fuel:=s1.Fuel-1} h1;obtain⟨a1,b1⟩:=y7G hr _ hc;simp only at a1;cases hs with
   |pay _ _ k' hk=>
    refine .pay _ _ _ _ h1 (by show 0<s1.Fuel+d;omega) ?_;have:=ih _ _ hc (hk _) h3 h0;have e:({(v0a s1 d)with Fuel:=(v0a s1 d).Fuel-1}:State)=v0a {s1 with Fuel:=s1.Fuel-1} d:=by
     show({s1 with Fuel:=s1.Fuel+d-1}:State)={s1 with Fuel:=s1.Fuel-1+d};congr 1;omega
    rw[e];exact this
abbrev at_(s:State)(f:Int):State:={s with Fuel:=f}
def z1I(m:zA)(j:Job)(s:State)(o:Out)(a:State)(c:Int):Prop:=0≤c∧a.Kind≠3∧∀f,c≤f→G m j (at_ s f) o (at_ a (f-c))
theorem v6M{m:zA}{j:Job}{s a:State}{o:Out}(h:G m j s o a)(h3:a.Kind≠3)(h0:0≤a.Fuel):z1I m j s o a (s.Fuel-a.Fuel):=by
 have hf:=(y7G h s (z9C m j s)).1;refine⟨by omega,h3,fun f hf'=>?_⟩;have:=v7P (f-s.Fuel) h s _ (z9C m j s) (v4U m (f-s.Fuel) j s) h3 (by omega);have e1:v0a s (f-s.Fuel)=at_ s f:=by show({s with Fuel:=_}:State)={s with Fuel:=f};congr 1;omega
 have e2:v0a a (f-s.Fuel)=at_ a (f-(s.Fuel-a.Fuel)):=by show({a with Fuel:=_}:State)={a with Fuel:=_};congr 1;omega
 rw[e1,e2]at this;exact this
theorem y1u{m:zA}{j:Job}{s a a':State}{o o':Out}{c c':Int}(h:z1I m j s o a c)(h':z1I m j s o' a' c'):o'=o∧at_ a' 0=at_ a 0∧c'=c:=by
 have g:=h.2.2 (max c c') (by omega);have g':=h'.2.2 (max c c') (by omega);obtain⟨e1,e2⟩:=g.det g';have e3:max c c'-c'=max c c'-c:=congrArg State.Fuel e2;refine⟨e1,?_,by omega⟩;have:at_ (at_ a' (max c c'-c')) 0=at_ (at_ a (max c c'-c)) 0:=by rw[e2]
 exact this
theorem StOk.less{m:zA}{N:Int}{Γ:List zA}{s:State}{C c:Int}(h:StOk m N Γ (at_ s C))(h0:0≤c)(h1:c≤C):StOk m N Γ (at_ s c):=
 {h with fuel0:=h0,fuel1:=by have:=h.fuel1;simp only at *;omega,room:=by have:=h.room;simp only at *;omega,tr:=by have:=h.tr;simp only at *;omega}
theorem VW.vok{v:Value}(h:VW v):Vok v:=by
 induction h with
 |mk y _ h1 _ ih=>exact .mk y h1 ih
theorem y6r(l:List Value)(h:∀v∈l,VW v)(hl:l.length≤1000000000):z4v l l=some true:=by
 have loop:∀(k i:Nat),i+k=l.length→yS l l i=some true:=by
  intro k;induction k with
  |zero=>
   intro i hi;rw[z6U];unfold gO;rw[zq0 (by omega)]
  |succ k ih=>
   intro i hi;have hlt:i<l.length:=by omega
   obtain⟨c,ec,hc⟩:=y9B l[i] (h _ (List.getElem_mem hlt)).vok l[i];rw[z6U];unfold gO;rw[zq1 (by omega),wG hlt,zB,zB,ec,zB,hc.2 rfl,zq1 rfl,z1C (by omega)];exact ih (i+1) (by omega)
 unfold z4v;rw[zq1 rfl];exact loop l.length 0 (by omega)
theorem y3e(l:List Int)(hl:l.length≤1000000000):z3l l l=some true:=by
 have loop:∀(k i:Nat),i+k=l.length→yG l l i=some true:=by
  intro k;induction k with
  |zero=>
   intro i hi;rw[z6m];unfold jW;rw[zq0 (by omega)]
  |succ k ih=>
   intro i hi;have hlt:i<l.length:=by omega
   rw[z6m];unfold jW;rw[zq1 (by omega),wG hlt,zB,zB,zq1 rfl,z1C (by omega)];exact ih (i+1) (by omega)
 unfold z3l;rw[zq1 rfl];exact loop l.length 0 (by omega)
theorem z4N{m t:zA}{s:State}(k:t.K=5∨t.K=6)(k0:s.Kind=0):z1I m (.E t) s (oN t.N) s 1:=by
 refine⟨by omega,by omega,fun f hf=>.pay _ _ _ _ k0 (show 0<f by omega) ?_⟩;show Run m (z1G m t (at_ s (f-1))) _ _;unfold z1G;rw[zq1 k];exact .ret _ _
theorem z5U{m:zA}{s:State}(k3:s.Kind≠3):z1I m (.L []) s o0 s 0:=⟨Int.le_refl _,k3,fun f _=>by rw[Int.sub_zero];exact .ret _ _⟩
theorem z0w{m x:zA}{r:List zA}{s s1 a:State}{o1 o2:Out}{c1 c2:Int}(h1:z1I m (.E x) s o1 s1 c1)(h2:z1I m (.L r) s1 o2 a c2):z1I m (.L (x::r)) s ⟨v0,o1.v::o2.l,[]⟩ a (c1+c2):=by
 have p1:=h1.1;have p2:=h2.1;refine⟨by omega,h2.2.1,fun f hf=>?_⟩;have g2:=h2.2.2 (f-c1) (by omega);rw[show f-c1-c2=f-(c1+c2)by omega]at g2;exact .call _ _ _ o1 _ _ _ (h1.2.2 f (by omega)) (.call _ _ _ o2 _ _ _ g2 (.ret _ _))
theorem z5t {m t:zA} {s s1 a:State} {ol o:Out} {c1 c2:Int} (k:t.K=11∨t.K=12∨t.K=13∨t.K=14∨t.K=15∨t.K=16) (k0:s.Kind=0) (h:z1I m (.L t.L) s ol s1 c1) (h0:0≤c2) (h3:a.Kind≠3)
  (hr:∀f,c2≤f→Run m (.on (at_ s1 f) o0
  (if t.K=11 then .opt ol.l[0]? fun v=>.opt (z1D t.N v.N) fun n=>.ret (oN n) (at_ s1 f)
   else if t.K=12 then .opt ol.l[0]? fun v=>.opt ol.l[1]? fun i=>if i.N<0∨i.N≥(v.L.length:Int)then .ret o0 (y1a 2 (at_ s1 f))else .opt v.L[i.N.toNat]? fun x=>.ret (oV x) (at_ s1 f)
   else if t.K=13 then .opt ol.l[0]? fun v=>.opt v.L[(Int.tmod t.N 64).toNat]? fun x=>.ret (oV x) (at_ s1 f)
   else if t.K=16 then .call (.C t.N ol.l) (at_ s1 f) fun o s=>.ret (oV o.v) s
   else .ret (oV ⟨0,ol.l⟩) (at_ s1 f))) o (at_ a (f-c2))):z1I m (.E t) s o a (1+c1+c2):=by
 have p1:=h.1;refine⟨by omega,h3,fun f hf=>.pay _ _ _ _ k0 (show 0<f by omega) ?_⟩;show Run m (z1G m t (at_ s (f-1))) _ _;unfold z1G;rw[zq0 (by omega),zq0 (by omega),zq0 (by omega),zq0 (by omega),zq0 (by omega),zq0 (by omega)];have:=hr (f-1-c1) (by omega);rw[show f-1-c1-c2=f-(1+c1+c2)by omega]at this;exact .call _ _ _ ol (at_ s1 (f-1-c1)) _ _ (h.2.2 (f-1) (by omega)) this
theorem w0Y{m:zA}(hm:ModOk m)(hms:zI m≤100000000)(hmw:zA.Wf m){N f c:Int}{Γ:List zA}{t τ:zA}{s a:State}{o:Out}(hT:TE m Γ t τ)(hw:zA.Wf t)(hts:zI t≤100000000)(hs:StOk m N Γ (at_ s f))(hc:c≤f)(k0:s.Kind=0)(h:z1I m (.E t) s o a c):StOk m N Γ (at_ a (f-c))∧v8u m τ o a:=by
 obtain⟨o',s',hG,-,h1,-,-,h2⟩:=(v3O m hm hms hmw f.toNat).1 N Γ t τ _ hT hw hts hs (.inl k0) (by have:=h.1;simp only;omega);have g:=h.2.2 f hc;obtain⟨e1,e⟩:=hG.det g;subst e;subst e1;exact⟨h1,h2⟩
def Qt(t:zA):Prop:=(nds t).all q1=true
theorem v4N:∀(l:List zA),(y7z l).all q1=true→∀x∈l,Qt x
 |[],_,x,hx=>by cases hx
 |y::r,h,x,hx=>by
  rw[y7z,List.all_append,Bool.and_eq_true]at h;rcases List.mem_cons.1 hx with rfl|hx
  ·exact h.1
  ·exact v4N r h.2 x hx
theorem Qt.inv{t:zA}(h:Qt t):q1 t=true∧∀x∈t.L,Qt x:=by
 unfold Qt at h;rw[v7y,List.all_cons,Bool.and_eq_true]at h;exact⟨h.1,v4N t.L h.2⟩
theorem v4O{m t:zA}{s:State}{o:Out}(k0:s.Kind=0)(h:∀f,0≤f→Run m (z1G m t (at_ s f)) o (at_ s f)):z1I m (.E t) s o s 1:=
 ⟨by omega,by omega,fun f hf=>.pay _ _ _ _ k0 (show 0<f by omega) (h (f-1) (by omega))⟩
theorem v4v {m t a b:zA} {s s1 s2:State} {o1 o2:Out} {c1 c2:Int} (k:t.K=10) (hL:t.L=[a,b]) (k0:s.Kind=0) (h1:z1I m (.E a) s o1 s1 c1) (k1:s1.Kind=0) (hn:¬(t.N=2∧o1.v.N=0)) (hn':¬(t.N=1∧o1.v.N≠0)) (h2:z1I m (.E b) s1 o2 s2 c2) (k2:s2.Kind=0)
  {n:Int} (hq:t.N≠1→t.N≠2→z2N t.N o1.v.N o2.v.N=some (n,0)):z1I m (.E t) s (if t.N=1∨t.N=2 then oV o2.v else oN n) s2 (1+c1+c2):=by
 have p1:=h1.1;have p2:=h2.1;refine⟨by omega,h2.2.1,fun f hf=>.pay _ _ _ _ k0 (show 0<f by omega) ?_⟩;show Run m (z1G m t (at_ s (f-1))) _ _;unfold z1G;rw[zq0 (by omega),zq0 (by omega),zq0 (by omega),zq0 (by omega),zq0 (by omega),zq1 k,hL];refine .call _ _ _ o1 (at_ s1 (f-1-c1)) _ _ (h1.2.2 (f-1) (by omega)) (run_on.2 (.inl ⟨k1,?_⟩));rw[zq0 hn,zq0 hn'];have g2:=h2.2.2 (f-1-c1) (by omega);rw[show f-1-c1-c2=f-(1+c1+c2)by omega]at g2;refine .call _ _ _ o2 _ _ _ g2 (run_on.2 (.inl ⟨k2,?_⟩))
 by_cases z:t.N=1∨t.N=2
 ·rw[zq1 z,zq1 z];exact .ret _ _
 ·rw[zq0 z,zq0 z,hq (by omega) (by omega)];exact run_opt.2 ⟨(n,0),rfl,by rw[zq1 rfl];exact .ret _ _⟩
theorem v0i{m t a b:zA}{s s1:State}{o1:Out}{c1:Int}(k:t.K=10)(hL:t.L=[a,b])(k0:s.Kind=0)(h1:z1I m (.E a) s o1 s1 c1)(k1:s1.Kind=0)(hn:(t.N=2∧o1.v.N=0)∨(t.N=1∧o1.v.N≠0)):z1I m (.E t) s (if t.N=2 then oN 0 else oN 1) s1 (1+c1):=by
 have p1:=h1.1;refine⟨by omega,h1.2.1,fun f hf=>.pay _ _ _ _ k0 (show 0<f by omega) ?_⟩;show Run m (z1G m t (at_ s (f-1))) _ _;unfold z1G;rw[zq0 (by omega),zq0 (by omega),zq0 (by omega),zq0 (by omega),zq0 (by omega),zq1 k,hL];have g1:=h1.2.2 (f-1) (by omega);rw[show f-1-c1=f-(1+c1)by omega]at g1;refine .call _ _ _ o1 _ _ _ g1 (run_on.2 (.inl ⟨k1,?_⟩));by_cases z:t.N=2∧o1.v.N=0
 ·rw[zq1 z,zq1 z.1];exact .ret _ _
 ·rw[zq0 z,zq1 (hn.resolve_left z),zq0 (by omega)];exact .ret _ _
theorem y2F{m:zA}(hm:ModOk m)(hms:zI m≤100000000)(hmw:zA.Wf m){N:Int}{Γ:List zA}{t τ:zA}{s:State}{f:Int}(hT:TE m Γ t τ):Qt t→zA.Wf t→zI t≤100000000→StOk m N Γ (at_ s f)→s.Kind=0→(zI t:Int)≤f→∃o c,z1I m (.E t) s o s c∧c≤zI t:=by
 induction hT with
 |alone t τ _ _ _ hL h16 hA=>
  intro hq hw hts hs k0 hf;have pos:=z1B t;have q:=hq.inv.1;have fin:∀o,(∀f,0≤f→Run m (z1G m t (at_ s f)) o (at_ s f))→∃o c,z1I m (.E t) s o s c∧c≤zI t:=fun o h=>⟨o,1,v4O k0 h,by omega⟩;cases hA with
  |num k=>exact⟨_,1,z4N (.inl k) k0,by omega⟩
  |tru k _=>exact⟨_,1,z4N (.inr k) k0,by omega⟩
  |loc n x k hN hn hx=>
   have hll:s.Locals.length=Γ.length:=hs.ll;have hlt:n<s.Locals.length:=by omega
   refine fin (oV (s.Locals[s.Locals.length-1-n]'(by omega))) fun f _=>?_;unfold z1G;rw[zq0 (by omega),zq1 k,hN];show Run m (P.opt (y0b s.Locals n) _) _ _;rw[y3X hlt];exact .ret _ _
  |coni d x k hd' hx h5=>
   obtain⟨n,hN,hdn,-⟩:=hd'.nat;refine fin (oN x.N) fun f _=>?_;unfold z1G;rw[zq0 (by omega),zq0 (by omega),zq0 (by omega),zq1 k,hN];show Run m (P.opt m.L[n]? _) _ _;rw[hdn];show Run m (P.opt d.L[0]? _) _ _;rw[hx];exact .ret _ _
  |conb d x k hd' hx h6=>
   obtain⟨n,hN,hdn,-⟩:=hd'.nat;refine fin (oN x.N) fun f _=>?_;unfold z1G;rw[zq0 (by omega),zq0 (by omega),zq0 (by omega),zq1 k,hN];show Run m (P.opt m.L[n]? _) _ _;rw[hdn];show Run m (P.opt d.L[0]? _) _ _;rw[hx];exact .ret _ _
  |glob d x k hd' hx=>
   obtain⟨n,hN,hdn,hdk⟩:=hd'.nat;have hgl:s.Globals.length=m.L.length:=hs.gl;have hlt:n<s.Globals.length:=by rw[hgl];exact(List.getElem?_eq_some_iff.1 hdn).1
   refine fin (oV s.Globals[n]) fun f _=>?_;unfold z1G;rw[zq0 (by omega),zq0 (by omega),zq1 k,hN];show Run m (P.opt (y9o s.Globals n) _) _ _;rw[y1D,List.getElem?_eq_getElem hlt];exact .ret _ _
  |read k=>
   unfold q1 at q;rw[zq0 (by omega),zq0 (by omega)]at q;cases q
 |rule t τ p hS hF hTo hne hpl hP hR ih=>
  intro hq hw hts hs k0 hf;have hte:=jH t;have q:=hq.inv.1;have sub:∀(i:Nat) x y,t.L[i]?=some x→p[i]?=some y→∃o c,z1I m (.E x) s o s c∧c≤zI x∧Fit m y o.v∧VW o.v:=fun i x y hx hy=>by
   have hm':=List.mem_of_getElem? hx;have hsz:=zM hm';obtain⟨o,c,h1,h2⟩:=ih i x y hx hy (hq.inv.2 x hm') (hw.L_.2 x hm') (by omega) hs k0 (by omega);have h3:=(w0Y hm hms hmw (hP i x y hx hy) (hw.L_.2 x hm') (by omega) hs (by omega) k0 h1).2;obtain⟨-,h4,h5⟩:=h3.resolve_right (by omega);exact⟨o,c,h1,h2,h4,h5⟩
  by_cases k10:t.K=10
  ·cases hR with
   |un _ k _ _=>omega
   |index _ _ _ k _ _ _ _ _=>omega
   |field _ _ _ k _ _ _ _=>omega
   |make _ k _ _=>omega
   |call _ _ _ _ k _ _ _=>omega
   |list _ _ k _ _ _=>omega
   |bin ta tb _ k hp h2=>
    obtain⟨a,b,hL⟩:∃a b,t.L=[a,b]:=v9G (by rw[←hpl,hp];rfl);have h2s:=z7b hL;obtain⟨oa,ca,ha1,ha2,ha3,ha4⟩:=sub 0 a ta (by rw[hL];rfl) (by rw[hp];rfl);obtain⟨ob,cb,hb1,hb2,hb3,hb4⟩:=sub 1 b tb (by rw[hL];rfl) (by rw[hp];rfl);by_cases hn:(t.N=2∧oa.v.N=0)∨(t.N=1∧oa.v.N≠0)
    ·exact⟨_,_,v0i k hL k0 ha1 k0 hn,by omega⟩
    ·refine⟨_,_,v4v k hL k0 ha1 k0 (fun h=>hn (.inl h)) (fun h=>hn (.inr h)) hb1 k0 (n:=(y3U t.N oa.v.N ob.v.N).1) (fun n1 n2=>?_),by omega⟩;rw[y6f _ _ _ (y9b ha4.N_) (y9b hb4.N_)];congr 1;refine Prod.ext rfl ?_;show(y3U t.N oa.v.N ob.v.N).2=0;unfold q1 at q;rw[zq0 (by omega),zq1 k]at q;unfold y3U;rw[zq0 n1,zq0 n2];split
     ·rfl
     split
     ·rfl
     split
     ·rfl
     split
     ·rfl
     have bnz:t.N=12∨t.N=13→ob.v.N≠0:=fun h=>by
      rw[zq1 h,hL]at q;simp only[Bool.and_eq_true,decide_eq_true_eq,Bool.not_eq_true',decide_eq_false_iff_not]at q;obtain⟨e1,-,-⟩:=y1u (z4N (m:=m) (t:=b) (s:=s) (.inl q.1) k0) hb1;rw[e1];exact q.2
     split
     ·rw[zq0 (bnz (by omega))]
     split
     ·rw[zq0 (bnz (by omega))]
     ·rfl
  ·have list:∀(l:List zA) (j:Nat),t.L.drop j=l→∃ol c,z1I m (.L l) s ol s c∧c≤wE l∧ol.l.length=l.length∧∀(i:Nat) y v,p[j+i]?=some y→ol.l[i]?=some v→Fit m y v∧VW v:=by
    intro l;induction l with
    |nil=>intro j _;exact⟨o0,0,z5U (by omega),by simp[wE],rfl,fun i y v _ hv=>by simp at hv⟩
    |cons x r ihl=>
     intro j hj;have hlt:j<t.L.length:=by
      have:=congrArg List.length hj;simp at this;omega
     have e1:=List.drop_eq_getElem_cons hlt;rw[hj]at e1;injection e1 with e1 e2;obtain⟨o2,c2,h2,h3,h4,h5⟩:=ihl (j+1) e2.symm;have gp:=List.getElem?_eq_getElem (l:=p) (i:=j) (by omega);obtain⟨o1,c1,g1,g2,g3,g4⟩:=sub j x _ (by rw[e1];exact List.getElem?_eq_getElem hlt) gp;refine⟨_,_,z0w g1 h2,by simp only[wE];omega,by simp[h4],fun i y v hy hv=>?_⟩;cases i with
     |zero=>rw[Nat.add_zero,gp]at hy;cases hy;cases hv;exact⟨g3,g4⟩
     |succ i=>exact h5 i y v (by rw[show j+1+i=j+(i+1)by omega];exact hy) hv
   obtain⟨ol,cl,hl1,hl2,hl3,hl4⟩:=list t.L 0 rfl;have kinds:t.K=11∨t.K=12∨t.K=13∨t.K=14∨t.K=15∨t.K=16:=by cases hR<;>omega
   have fin:∀o,(∀f:Int,0≤f→Run m (if t.K=11 then .opt ol.l[0]? fun v=>.opt (z1D t.N v.N) fun n=>.ret (oN n) (at_ s f)
     else if t.K=12 then .opt ol.l[0]? fun v=>.opt ol.l[1]? fun i=>if i.N<0∨i.N≥(v.L.length:Int)then .ret o0 (y1a 2 (at_ s f))else .opt v.L[i.N.toNat]? fun x=>.ret (oV x) (at_ s f)
     else if t.K=13 then .opt ol.l[0]? fun v=>.opt v.L[(Int.tmod t.N 64).toNat]? fun x=>.ret (oV x) (at_ s f)
     else if t.K=16 then .call (.C t.N ol.l) (at_ s f) fun o s=>.ret (oV o.v) s
     else .ret (oV ⟨0,ol.l⟩) (at_ s f)) o (at_ s f))→∃o c,z1I m (.E t) s o s c∧c≤zI t:=fun o h=>
    ⟨o,_,z5t (c2:=0) kinds k0 hl1 (Int.le_refl _) (by omega) (fun f hf=>by rw[Int.sub_zero];exact run_on.2 (.inl ⟨k0,h f hf⟩)),by omega⟩
   have val:∀(i:Nat) y,p[i]?=some y→∃v,ol.l[i]?=some v∧Fit m y v∧VW v:=fun i y hy=>by
    have hlt:i<ol.l.length:=by have:=(List.getElem?_eq_some_iff.1 hy).1;omega
    have g:=List.getElem?_eq_getElem hlt;obtain⟨h1,h2⟩:=hl4 i y _ (by rw[Nat.zero_add];exact hy) g;exact⟨_,g,h1,h2⟩
   unfold q1 at q;cases hR with
   |bin _ _ _ k _ _=>exact absurd k k10
   |un a k hp hN=>
    obtain⟨v,g1,hFv,hWv⟩:=val 0 τ (by rw[hp];rfl);refine fin (oN (v7A t.N v.N)) fun f _=>?_;rw[zq1 k,g1];show Run m (P.opt (z1D t.N v.N) _) _ _;rw[z9T];exact .ret _ _
   |index a b k hp ka la kb lb=>rw[zq0 (by omega),zq0 (by omega)]at q;cases q
   |call d ps r b k hd' hdL hfit=>rw[zq0 (by omega),zq0 (by omega)]at q;cases q
   |field a x n k hp ka la hfr=>
    obtain⟨v,g1,hFv,hWv⟩:=val 0 a (by rw[hp];rfl);obtain⟨d,fd,k',i,e1,e2,e3,e4,e5,e6,e7⟩:=hfr;have em:Int.tmod t.N 64=(i:Int):=by rw[Int.tmod_eq_emod_of_nonneg (by omega)];omega
    have hpp:=y1K ka e1 e2;have hpl':=hFv.inv.2.2.1;have hid:=(List.getElem?_eq_some_iff.1 e4).1;have hlt:i<v.L.length:=by rw[←hpl',hpp,zq3];exact hid
    refine fin (oV v.L[i]) fun f _=>?_;rw[zq0 (by omega),zq0 (by omega),zq1 k,g1];show Run m (P.opt v.L[(Int.tmod t.N 64).toNat]? _) _ _;rw[em];show Run m (P.opt v.L[i]? _) _ _;rw[List.getElem?_eq_getElem hlt];exact .ret _ _
   |make d k hd' hfit=>
    refine fin (oV ⟨0,ol.l⟩) fun f _=>?_;rw[zq0 (by omega),zq0 (by omega),zq0 (by omega),zq0 (by omega)];exact .ret _ _
   |list a r k hp hall hg=>
    refine fin (oV ⟨0,ol.l⟩) fun f _=>?_;rw[zq0 (by omega),zq0 (by omega),zq0 (by omega),zq0 (by omega)];exact .ret _ _
inductive SideE(m l w:zA):Prop
 |two (a b:zA):l.K=10→l.L=[a,b]→(a.K=5∨a.K=6)→(b.K=5∨b.K=6)→(l.N=1∨l.N=2→(a.N=0∨a.N=1)∧(b.N=0∨b.N=1))→(y3U l.N a.N b.N).2=0→(w.K=5∨w.K=6)→w.N=(y3U l.N a.N b.N).1→SideE m l w
 |one (a:zA):l.K=11→l.L=[a]→(a.K=5∨a.K=6)→(w.K=5∨w.K=6)→w.N=v7A l.N a.N→SideE m l w
 |const (d x:zA):l.K=8→0≤l.N→m.L[l.N.toNat]?=some d→d.L=[x]→w.N=x.N→(w.K=5∨w.K=6)→SideE m l w
 |field (x:zA) (i:Nat):l.K=13→l.L=[x]→x.K=15→Int.tmod l.N 64=i→x.L[i]?=some w→(∀(j:Nat) y,j≠i→x.L[j]?=some y→Qt y)→SideE m l w
 |index (x j:zA) (i:Nat):l.K=12→l.L=[x,j]→x.K=14→j.K=5→j.N=i→x.L[i]?=some w→(∀(j:Nat) y,j≠i→x.L[j]?=some y→Qt y)→SideE m l w
theorem v1p{t:zA}(h:y2x t 6=true):t.N=0∨t.N=1:=by
 unfold y2x at h;simp only[Bool.and_eq_true,Bool.or_eq_true,decide_eq_true_eq]at h;omega
theorem v9k{n:Int}{b5 b6:Bool}(h:y9E n b5 b6≠0):(y9E n b5 b6=5∨y9E n b5 b6=6)∧(b5=true∨b6=true)∧(n=1∨n=2→b6=true):=by
 unfold y9E at *;cases b5<;>cases b6<;>simp at *<;>(repeat' split at h)<;>(try simp at *)<;>(repeat' split)<;>(try simp at *)<;>omega
theorem v7b(m l:zA):∀p,v3R l=p→p.2=true→SideE m l p.1:=by
 intro p hp h2;unfold v3R at hp;split at hp
 case isFalse=>subst hp;cases h2
 split at hp
 ·rename_i x hL
  split at hp
  case isFalse=>subst hp;cases h2
  rename_i k
  split at hp
  ·rename_i h
   subst hp;have hk:=z3I h.2;exact .one x k hL (.inl hk) (.inl hk) (by rw[h.1])
  split at hp
  ·rename_i h
   subst hp;have hk:=z3I h.2;exact .one x k hL (.inr hk) (.inr hk) (by rw[h.1])
  ·subst hp;cases h2
 ·rename_i x y hL
  split at hp
  case isFalse=>subst hp;cases h2
  rename_i k
  split at hp
  ·subst hp;cases h2
  rename_i hr
  split at hp
  case isFalse=>subst hp;cases h2
  rename_i h0
  subst hp;obtain⟨h3,h4,h5⟩:=v9k hr;simp only[Bool.and_eq_true]at h4 h5;have kx:(x.K=5∨x.K=6)∧(y.K=5∨y.K=6):=by
   rcases h4 with⟨a,b⟩|⟨a,b⟩
   ·exact⟨.inl (z3I a),.inl (z3I b)⟩
   ·exact⟨.inr (z3I a),.inr (z3I b)⟩
  exact .two x y k hL kx.1 kx.2 (fun h=>⟨v1p (h5 h).1,v1p (h5 h).2⟩) h0 h3 rfl
 ·subst hp;cases h2
theorem v1L{l:List zA}{i:Int}(h:(y9r l i).2=true):∃k:Nat,i=k∧l[k]?=some (y9r l i).1∧∀(j:Nat) y,j≠k→l[j]?=some y→Qt y:=by
 unfold y9r at h ⊢;split at h
 case isFalse=>cases h
 rename_i hi
 have hlt:i.toNat<l.length:=by omega
 refine⟨i.toNat,by omega,?_,fun j y hj hy=>v8B h j y hj hy⟩;rw[zq1 hi,List.getD_eq_getElem?_getD,List.getElem?_eq_getElem hlt];rfl
theorem v9r(m:zA)(rule:Int)(l:zA):∀p,v4k m rule l=p→p.2=true→SideE m l p.1:=by
 intro p hp h2;unfold v4k at hp;split at hp
 ·exact v7b m l p hp h2
 split at hp
 case isFalse=>subst hp;cases h2
 split at hp
 ·split at hp
  case isFalse=>subst hp;cases h2
  rename_i hc
  split at hp
  ·rename_i d hd
   split at hp
   ·rename_i x hx
    split at hp
    ·subst hp;simp only[Bool.or_eq_true]at h2;exact .const d x hc.1 hc.2.2.1 hd hx rfl (h2.imp z3I z3I)
    ·subst hp;cases h2
   ·subst hp;cases h2
  ·subst hp;cases h2
 split at hp
 ·split at hp
  ·rename_i x hL
   split at hp
   case isFalse=>subst hp;cases h2
   rename_i hc
   subst hp;obtain⟨k,h3,h4,h5⟩:=v1L h2;exact .field x k hc.1 hL hc.2.1 h3 h4 h5
  ·subst hp;cases h2
 split at hp
 ·split at hp
  ·rename_i x j hL
   split at hp
   case isFalse=>subst hp;cases h2
   rename_i hc
   subst hp;obtain⟨k,h3,h4,h5⟩:=v1L h2;exact .index x j k hc.1 hL hc.2.1 (z3I hc.2.2.2) h3 h4 h5
  ·subst hp;cases h2
 ·subst hp;cases h2
theorem v8M(m t:zA)(s:State)(h:s.Kind=0):Fl s (z1G m t s):=by
 have:=z9C m (.E t) s;cases this with|pay _ _ _ _ _ c=>exact c s h
theorem w0X{m t:zA}{s a:State}{o:Out}{c:Int}(h:z1I m (.E t) s o a c)(k0:s.Kind=0):0<c∧Run m (z1G m t (at_ s (c-1))) o (at_ a 0):=by
 obtain⟨h0,h3,h⟩:=h;have:=h c (Int.le_refl _);rw[Int.sub_self]at this;rcases run_pay.1 this with g|g|g
 ·exact absurd k0 g.1
 ·have e:=congrArg State.Kind g.2.2.2;exact absurd e h3
 ·exact⟨g.2.1,g.2.2⟩
theorem y8r{m:zA}{j:Job}{s s0 a:State}{k:Out→State→P}{o:Out}(h:Run m (.call j s k) o a)(hf:Fl s0 (.call j s k))(h3:a.Kind≠3)(h0:0≤a.Fuel):
  ∃o1 s1 c1,z1I m j s o1 s1 c1∧s1.Fuel=s.Fuel-c1∧0≤s1.Fuel∧Run m (k o1 s1) o a∧Fl s1 (k o1 s1):=by
 obtain⟨o1,s1,h1,h2⟩:=run_call.1 h;cases hf with
 |call _ _ _ _ a1 a2 a3=>
  obtain⟨b1,b2⟩:=y7G h1 s (z9C m j s);have f1:=a3 o1 s1 b1 b2;obtain⟨c1,c2⟩:=y7G h2 s1 f1;exact⟨o1,s1,s.Fuel-s1.Fuel,v6M h1 (fun e=>h3 (c2 e)) (by omega),by omega,by omega,h2,f1⟩
theorem y3a{m t:zA}{s:State}(k:s.Kind≠0)(k3:s.Kind≠3):z1I m (.E t) s o0 s 0:=⟨Int.le_refl _,k3,fun f _=>by rw[Int.sub_zero];exact .ended _ _ k⟩
theorem w1d{a b:State}(h:at_ a 0=b):at_ a 0=at_ b 0∧b.Fuel=0:=by
 subst h;exact⟨rfl,rfl⟩
theorem z9H{m:zA}{j:Job}{s a b:State}{o:Out}{c:Int}(e:at_ a 0=at_ b 0)(h:z1I m j s o a c):z1I m j s o b c:=by
 refine⟨h.1,?_,fun f hf=>?_⟩
 ·have:a.Kind=b.Kind:=(congrArg State.Kind e:(at_ a 0).Kind=(at_ b 0).Kind);rw[←this];exact h.2.1
 ·have:=h.2.2 f hf;have e2:at_ a (f-c)=at_ b (f-c):=by
   have:at_ (at_ a 0) (f-c)=at_ (at_ b 0) (f-c):=by rw[e]
   exact this
  rw[←e2];exact this
theorem v3f{m:zA}{j:Job}{s s' a:State}{o:Out}{c:Int}(e:at_ s 0=at_ s' 0)(h:z1I m j s o a c):z1I m j s' o a c:=by
 refine⟨h.1,h.2.1,fun f hf=>?_⟩;have:=h.2.2 f hf;have e2:at_ s f=at_ s' f:=by
  have:at_ (at_ s 0) f=at_ (at_ s' 0) f:=by rw[e]
  exact this
 rw[←e2];exact this
theorem v9U{m:zA}{N:Int}{Γ:List zA}{a b:State}(h:StOk m N Γ (at_ a 0))(hml:m.L.length≤1000000000)(e:at_ a 0=at_ b 0):z9A a b=some true:=by
 have hl:a.Locals.length≤1000000000:=h.locals_le;have hg:a.Globals.length≤1000000000:=by have:=h.gl;simp only at this;omega
 have ht:a.Trace.length≤1000000000:=by have:=h.tr;have:=h.trN;simp only at *;omega
 unfold z9A;rw[show({b with Fuel:=0}:State)={a with Fuel:=0}from e.symm];obtain⟨c,ec,hc⟩:=y9B a.Ret (show VW a.Ret from h.rt).vok a.Ret;unfold y1O;simp only;rw[y6r a.Globals h.gw hg,zB,zq1 rfl,y6r a.Locals h.lw hl,zB,zq1 rfl,y3e a.Input h.inl,zB,zq1 rfl,zq1 trivial,y3e a.Trace ht,zB,zq1 rfl,zq1 trivial,zq1 trivial,zq1 trivial,ec,zB,hc.2 rfl];rfl
theorem y5N{m x:zA}{r:List zA}{s a:State}{o:Out}{c:Int}(h:z1I m (.L (x::r)) s o a c):∃o1 s1 c1 o2 c2,z1I m (.E x) s o1 s1 c1∧z1I m (.L r) s1 o2 a c2∧c=c1+c2∧o=⟨v0,o1.v::o2.l,[]⟩:=by
 have g:=h.2.2 c (Int.le_refl _);rw[Int.sub_self]at g;have hf:=z9C m (.L (x::r)) (at_ s c);obtain⟨o1,s1,c1,g1,g2,g3,g4,g5⟩:=y8r g hf h.2.1 (Int.le_refl _);obtain⟨o2,s2,c2,b1,b2,b3,b4,b5⟩:=y8r g4 g5 h.2.1 (Int.le_refl _);obtain⟨e1,e2⟩:=run_ret.1 b4;have g2:s1.Fuel=c-c1:=g2;obtain⟨e3,e4⟩:=w1d e2;exact⟨o1,s1,c1,o2,c2,g1,z9H e3.symm b1,by omega,e1⟩
def Rich(m:zA)(Γ:List zA)(s:State):Prop:=∀f,0≤f→f≤100000→StOk m 1000000000 Γ (at_ s f)
theorem Rich.of{m:zA}{Γ:List zA}{s:State}(h:StOk m 1000000000 Γ s)(hl:s.Locals.length≤1000000)(ht:s.Trace.length≤1000000):Rich m Γ s:=fun f h0 h1=>h.fuel h0 (by omega) (by omega) (by omega)
structure w0v(m:zA)(Γ:List zA)(x:zA):Prop where
 t:∃τ,TE m Γ x τ
 w:zA.Wf x
 s:zI x≤400
theorem y7y{m:zA}{s:State}(k:s.Kind≠0)(k3:s.Kind≠3):∀L:List zA,∃ol,z1I m (.L L) s ol s 0
 |[]=>⟨o0,z5U k3⟩
 |x::r=>by
  obtain⟨ol,h⟩:=y7y k k3 r;exact⟨_,by simpa using z0w (y3a (m:=m) (t:=x) k k3) h⟩
theorem v1F{m:zA}(hm:ModOk m)(hms:zI m≤100000000)(hmw:zA.Wf m){Γ:List zA}{s:State}(hs:StOk m 1000000000 Γ (at_ s 400))(k0:s.Kind=0):∀L:List zA,(∀x∈L,w0v m Γ x∧Qt x)→∃ol c,z1I m (.L L) s ol s c∧0≤c∧c≤wE L∧ol.l.length=L.length
 |[],_=>⟨o0,0,z5U (by omega),Int.le_refl _,by simp[wE],rfl⟩
 |x::r,h=>by
  obtain⟨ol,c,h1,h2,h3,h4⟩:=v1F hm hms hmw hs k0 r (fun y hy=>h y (by simp[hy]));obtain⟨⟨⟨τ,hT⟩,hw,hz⟩,hq⟩:=h x (by simp);obtain⟨o1,c1,g1,g2⟩:=y2F hm hms hmw hT hq hw (by omega) hs k0 (by omega);have p:=g1.1;exact⟨_,_,z0w g1 h1,by omega,by simp only[wE];omega,by simp[h4]⟩
theorem v4J{m:zA}(hm:ModOk m)(hms:zI m≤100000000)(hmw:zA.Wf m){Γ:List zA}{s a:State}{o:Out}{c:Int}{x:zA}(hs:Rich m Γ s)(k0:s.Kind=0)(h:z1I m (.E x) s o a c)(hc:c≤50000):
  ∀(L:List zA) (i:Nat),L[i]?=some x→(∀y∈L,w0v m Γ y)→(∀(j:Nat) y,j≠i→L[j]?=some y→Qt y)→∃ol c',z1I m (.L L) s ol a c'∧c≤c'∧c'≤c+wE L∧(a.Kind=0→ol.l.length=L.length∧ol.l[i]?=some o.v)
 |[],i,hx,_,_=>by simp at hx
 |y::r,0,hx,hP,hQ=>by
  simp at hx;subst hx;have p:=h.1;by_cases k:a.Kind=0
  ·obtain⟨⟨τ,hT⟩,hw,hz⟩:=hP y (by simp);have ha:=(w0Y hm hms hmw hT hw (by omega) (hs (c+400) (by omega) (by omega)) (by omega) k0 h).1;rw[show c+400-c=400 by omega]at ha;obtain⟨ol,c',h1,h2,h3,h4⟩:=v1F hm hms hmw ha k r (fun z hz=>⟨hP z (by simp[hz]),by
    obtain⟨j,hj⟩:=List.getElem?_of_mem hz;exact hQ (j+1) z (by omega) (by simpa using hj)⟩)
   exact⟨_,_,z0w h h1,by omega,by simp only[wE];omega,fun _=>⟨by simp[h4],rfl⟩⟩
  ·obtain⟨ol,h1⟩:=y7y (m:=m) k h.2.1 r;exact⟨_,_,z0w h h1,by omega,by simp only[wE];omega,fun e=>absurd e k⟩
 |y::r,i+1,hx,hP,hQ=>by
  obtain⟨ol,c',h1,h2,h3,h4⟩:=v4J hm hms hmw hs k0 h hc r i (by simpa using hx) (fun z hz=>hP z (by simp[hz])) (fun j z hj hz=>hQ (j+1) z (by omega) (by simpa using hz));obtain⟨⟨τ,hT⟩,hw,hz⟩:=hP y (by simp);obtain⟨o1,c1,g1,g2⟩:=y2F hm hms hmw hT (hQ 0 y (by omega) rfl) hw (by omega) (hs 400 (by omega) (by omega)) k0 (by omega);have p:=g1.1;exact⟨_,_,z0w g1 h1,by omega,by simp only[wE];omega,fun e=>by
   obtain⟨e1,e2⟩:=h4 e;exact⟨by simp[e1],by simpa using e2⟩⟩
theorem v4I{m:zA}(hm:ModOk m)(hms:zI m≤100000000)(hmw:zA.Wf m){Γ:List zA}{x:zA}:∀(L:List zA) (i:Nat) {s a:State} {o:Out} {c:Int},Rich m Γ s→s.Kind=0→z1I m (.L L) s o a c→L[i]?=some x→(∀y∈L,w0v m Γ y)→(∀(j:Nat) y,j≠i→L[j]?=some y→Qt y)→c≤50000→∃ox a' cx,z1I m (.E x) s ox a' cx∧cx≤c
 |[],i,s,a,o,c,hs,k0,h,hx,_,_,_=>by simp at hx
 |y::r,0,s,a,o,c,hs,k0,h,hx,hP,hQ,hc=>by
  simp at hx;subst hx;obtain⟨o1,s1,c1,o2,c2,h1,h2,h3,h4⟩:=y5N h;have p:=h2.1;exact⟨o1,s1,c1,h1,by omega⟩
 |y::r,i+1,s,a,o,c,hs,k0,h,hx,hP,hQ,hc=>by
  obtain⟨o1,s1,c1,o2,c2,h1,h2,h3,h4⟩:=y5N h;obtain⟨⟨τ,hT⟩,hw,hz⟩:=hP y (by simp);obtain⟨oy,cy,g1,g2⟩:=y2F hm hms hmw hT (hQ 0 y (by omega) rfl) hw (by omega) (hs 400 (by omega) (by omega)) k0 (by omega);obtain⟨-,e2,e3⟩:=y1u g1 h1;have p:=h1.1;obtain⟨ox,a',cx,q1,q2⟩:=v4I hm hms hmw r i hs k0 (v3f e2 h2) (by simpa using hx) (fun z hz=>hP z (by simp[hz])) (fun j z hj hz=>hQ (j+1) z (by omega) (by simpa using hz)) (by omega);exact⟨ox,a',cx,q1,by omega⟩
theorem y7B{m t:zA}{s a:State}{o:Out}{c:Int}(k:t.K=11∨t.K=12∨t.K=13∨t.K=14∨t.K=15∨t.K=16)(k0:s.Kind=0)(h:z1I m (.E t) s o a c):∃ol s1 c1,z1I m (.L t.L) s ol s1 c1∧c1≤c:=by
 obtain⟨hc,hr⟩:=w0X h k0;have hf:=v8M m t (at_ s (c-1)) k0;unfold z1G at hr hf;rw[zq0 (by omega),zq0 (by omega),zq0 (by omega),zq0 (by omega),zq0 (by omega),zq0 (by omega)]at hr hf;obtain⟨ol,s1,c1,g1,g2,g3,-⟩:=y8r hr hf h.2.1 (Int.le_refl _);refine⟨ol,s1,c1,g1,?_⟩;simp only[at_]at g2;omega
theorem v7s{m t:zA}{s a:State}{ol:Out}{c1:Int}(k:t.K=14∨t.K=15)(k0:s.Kind=0)(h:z1I m (.L t.L) s ol a c1):z1I m (.E t) s (if a.Kind=0 then oV ⟨0,ol.l⟩else o0) a (1+c1):=by
 have:=z5t (m:=m) (t:=t) (a:=a) (o:=if a.Kind=0 then oV ⟨0,ol.l⟩else o0) (c2:=0) (by omega) k0 h (Int.le_refl _) h.2.1 (fun f hf=>by
  rw[Int.sub_zero];by_cases k1:a.Kind=0
  ·rw[zq1 k1];refine run_on.2 (.inl ⟨k1,?_⟩);rw[zq0 (by omega),zq0 (by omega),zq0 (by omega),zq0 (by omega)];exact .ret _ _
  ·rw[zq0 k1];exact run_on.2 (.inr ⟨k1,rfl,rfl⟩))
 rw[show 1+c1=1+c1+0 by omega];exact this
theorem v8O{m t x:zA}{s a:State}{ox:Out}{c1:Int}{i:Nat}{u:Value}(k:t.K=13)(hL:t.L=[x])(hN:Int.tmod t.N 64=i)(k0:s.Kind=0)(h:z1I m (.E x) s ox a c1)(hu:a.Kind=0→ox.v.L[i]?=some u):
  ∃c,z1I m (.E t) s (if a.Kind=0 then oV u else o0) a c∧c1≤c∧c≤c1+2:=by
 have hl:=z0w h (z5U (m:=m) h.2.1);rw[←hL]at hl;have:=z5t (m:=m) (t:=t) (a:=a) (o:=if a.Kind=0 then oV u else o0) (c2:=0) (by omega) k0 hl (Int.le_refl _) h.2.1 (fun f hf=>by
  rw[Int.sub_zero];by_cases k1:a.Kind=0
  ·rw[zq1 k1];refine run_on.2 (.inl ⟨k1,?_⟩);rw[zq0 (by omega),zq0 (by omega),zq1 k,hN];show Run m (P.opt ox.v.L[i]? _) _ _;rw[hu k1];exact .ret _ _
  ·rw[zq0 k1];exact run_on.2 (.inr ⟨k1,rfl,rfl⟩))
 exact⟨_,this,by omega,by omega⟩
theorem v8U{m t x j:zA}{s a:State}{ox:Out}{c1:Int}{i:Nat}{u:Value}(k:t.K=12)(hL:t.L=[x,j])(kj:j.K=5)(hN:j.N=i)(k0:s.Kind=0)(h:z1I m (.E x) s ox a c1)(hu:a.Kind=0→ox.v.L[i]?=some u):
  ∃c,z1I m (.E t) s (if a.Kind=0 then oV u else o0) a c∧c1≤c∧c≤c1+2:=by
 by_cases k1:a.Kind=0
 ·have hl:=z0w h (z0w (z4N (m:=m) (t:=j) (.inl kj) k1) (z5U (m:=m) h.2.1));rw[←hL]at hl;have hlt:=(List.getElem?_eq_some_iff.1 (hu k1)).1;have:=z5t (m:=m) (t:=t) (a:=a) (o:=oV u) (c2:=0) (by omega) k0 hl (Int.le_refl _) h.2.1 (fun f hf=>by
   rw[Int.sub_zero];refine run_on.2 (.inl ⟨k1,?_⟩);rw[zq0 (by omega),zq1 k];show Run m (if j.N<0∨j.N≥(ox.v.L.length:Int)then _ else _) _ _;rw[zq0 (by omega),hN];show Run m (P.opt ox.v.L[i]? _) _ _;rw[hu k1];exact .ret _ _)
  rw[zq1 k1];exact⟨_,this,by omega,by omega⟩
 ·have hl:=z0w h (z0w (y3a (m:=m) (t:=j) k1 h.2.1) (z5U (m:=m) h.2.1));rw[←hL]at hl;have:=z5t (m:=m) (t:=t) (a:=a) (o:=o0) (c2:=0) (by omega) k0 hl (Int.le_refl _) h.2.1 (fun f hf=>by
   rw[Int.sub_zero];exact run_on.2 (.inr ⟨k1,rfl,rfl⟩))
  rw[zq0 k1];exact⟨_,this,by omega,by omega⟩
theorem v4P {m:zA} (hm:ModOk m) (hms:zI m≤100000000) (hmw:zA.Wf m) {Γ:List zA} {l x w:zA} {i:Nat} {s a:State} {o:Out} {c:Int}
  (wrap:∀{s a:State} {ox:Out} {c1:Int} {u:Value},s.Kind=0→z1I m (.E x) s ox a c1→(a.Kind=0→ox.v.L[i]?=some u)→∃c,z1I m (.E l) s (if a.Kind=0 then oV u else o0) a c∧c1≤c∧c≤c1+2)
  (kx:x.K=14∨x.K=15) (hx:x.L[i]?=some w) (hP:∀y∈x.L,w0v m Γ y) (hQ:∀(j:Nat) y,j≠i→x.L[j]?=some y→Qt y) (hs:Rich m Γ s) (k0:s.Kind=0) (h:z1I m (.E w) s o a c) (hc:c≤50000):
  ∃o' c',z1I m (.E l) s o' a c'∧o'.v=o.v∧c≤c'∧c'≤c+wE x.L+3:=by
 obtain⟨ol,c1,h1,h2,h3,h4⟩:=v4J hm hms hmw hs k0 h hc x.L i hx hP hQ;have h5:=v7s kx k0 h1;obtain⟨c2,h6,h7,h8⟩:=wrap (u:=o.v) k0 h5 (fun k=>by rw[zq1 k];exact(h4 k).2);refine⟨_,c2,h6,?_,by omega,by omega⟩;by_cases k:a.Kind=0
 ·rw[zq1 k]
 ·rw[zq0 k];obtain⟨⟨τ,hT⟩,hw,hz⟩:=hP w (List.mem_of_getElem? hx);have p:=h.1;rcases(w0Y hm hms hmw hT hw (by omega) (hs c (by omega) (by omega)) (Int.le_refl _) k0 h).2 with⟨e,-⟩|⟨-,e⟩
  ·exact absurd e k
  ·rw[e]
theorem v9h {m:zA} (hm:ModOk m) (hms:zI m≤100000000) (hmw:zA.Wf m) {Γ:List zA} {l x w:zA} {i:Nat} {s a:State} {o:Out} {c:Int}
  (wrap:∀{s a:State} {ox:Out} {c1:Int} {u:Value},s.Kind=0→z1I m (.E x) s ox a c1→(a.Kind=0→ox.v.L[i]?=some u)→∃c,z1I m (.E l) s (if a.Kind=0 then oV u else o0) a c∧c1≤c∧c≤c1+2)
  (kl:l.K=12∨l.K=13) (hl:∃r,l.L=x::r) (kx:x.K=14∨x.K=15) (hx:x.L[i]?=some w) (hP:∀y∈x.L,w0v m Γ y) (hQ:∀(j:Nat) y,j≠i→x.L[j]?=some y→Qt y) (hs:Rich m Γ s) (k0:s.Kind=0) (h:z1I m (.E l) s o a c) (hc:c≤50000):
  ∃o' c',z1I m (.E w) s o' a c'∧o'.v=o.v∧c'≤c:=by
 obtain⟨r,hr⟩:=hl;obtain⟨ol,s1,c1,h1,p1⟩:=y7B (by omega) k0 h;rw[hr]at h1;obtain⟨o2,s2,c2,o3,c3,h2,h3,h4,-⟩:=y5N h1;have q3:=h3.1;obtain⟨o4,s4,c4,h5,p5⟩:=y7B (by omega) k0 h2;obtain⟨ox,a',cx,h6,p6⟩:=v4I hm hms hmw x.L i hs k0 h5 hx hP hQ (by omega);obtain⟨o',c',g1,g2,g3,g4⟩:=v4P hm hms hmw wrap kx hx hP hQ hs k0 h6 (by omega);obtain⟨e1,e2,e3⟩:=y1u h g1;exact⟨ox,cx,z9H e2 h6,by rw[←g2,e1],by omega⟩
theorem v4X{n a b:Int}(h1:n=1∨n=2)(ha:a=0∨a=1)(hb:b=0∨b=1):(y3U n a b).1=if(n=2∧a=0)then 0 else if(n=1∧a≠0)then 1 else b:=by
 rcases h1 with rfl|rfl<;>rcases ha with rfl|rfl<;>rcases hb with rfl|rfl<;>decide
theorem v9s{m:zA}{l w:zA}{s:State}(hw:zA.Wf l)(hS:SideE m l w)(k0:s.Kind=0):(l.K=12∨l.K=13)∨((w.K=5∨w.K=6)∧∃c,z1I m (.E l) s (oN w.N) s c∧c≤3):=by
 cases hS with
 |two a b k hL ka kb hz h0 kw hN=>
  refine .inr ⟨kw,?_⟩;have ca:=z4N (m:=m) (t:=a) (s:=s) ka k0;have cb:=z4N (m:=m) (t:=b) (s:=s) kb k0;have wa:=i64_iff.1 ((hw.L_.2 a (by rw[hL];simp)).N_);have wb:=i64_iff.1 ((hw.L_.2 b (by rw[hL];simp)).N_);by_cases hn:(l.N=2∧a.N=0)∨(l.N=1∧a.N≠0)
  ·have:=v0i k hL k0 ca k0 hn;refine⟨_,?_,(by omega:(1:Int)+1≤3)⟩;have e:(if l.N=2 then oN 0 else oN 1)=oN w.N:=by
    obtain⟨za,zb⟩:=hz (by omega);rw[hN,v4X (by omega) za zb];by_cases c:l.N=2
    ·rw[zq1 c,zq1 (by omega)]
    ·rw[zq0 c,zq0 (by omega),zq1 (by omega)]
   rw[←e];exact this
  ·have:=v4v k hL k0 ca k0 (fun h=>hn (.inl h)) (fun h=>hn (.inr h)) cb k0 (n:=w.N) (fun n1 n2=>by
    show z2N l.N a.N b.N=_;rw[y6f _ _ _ wa wb,hN];exact congrArg some (Prod.ext rfl h0))
   refine⟨_,?_,(by omega:(1:Int)+1+1≤3)⟩;have e:(if l.N=1∨l.N=2 then oV (oN b.N).v else oN w.N)=oN w.N:=by
    by_cases c:l.N=1∨l.N=2
    ·obtain⟨za,zb⟩:=hz c;rw[zq1 c,hN,v4X c za zb,zq0 (fun h=>hn (.inl h)),zq0 (fun h=>hn (.inr h))]
    ·rw[zq0 c]
   rw[←e];exact this
 |one a k hL ka kw hN=>
  refine .inr ⟨kw,?_⟩;have ca:=z4N (m:=m) (t:=a) (s:=s) ka k0;have hl:=z0w ca (z5U (m:=m) (show s.Kind≠3 by omega));rw[←hL]at hl;have:=z5t (m:=m) (t:=l) (a:=s) (o:=oN w.N) (c2:=0) (.inl k) k0 hl (Int.le_refl _) (by omega) (fun f hf=>by
   rw[Int.sub_zero];refine run_on.2 (.inl ⟨k0,?_⟩);rw[zq1 k];show Run m (P.opt (z1D l.N a.N) _) _ _;rw[z9T,hN];exact .ret _ _)
  exact⟨_,this,by omega⟩
 |const d x k hN hd hx hwN kw=>
  refine .inr ⟨kw,1,v4O k0 fun f _=>?_,by omega⟩;unfold z1G;rw[zq0 (by omega),zq0 (by omega),zq0 (by omega),zq1 k];show Run m (P.opt m.L[l.N.toNat]? _) _ _;rw[hd];show Run m (P.opt d.L[0]? _) _ _;rw[hx,hwN];exact .ret _ _
 |field x i k _ _ _ _ _=>exact .inl (.inr k)
 |index x j i k _ _ _ _ _ _=>exact .inl (.inl k)
theorem v0h{t x:zA}(h:uO t=t)(hx:x∈t.L):uO x=x:=by
 obtain⟨i,hi⟩:=List.getElem?_of_mem hx;have e:t.L.map uO=t.L:=by
  have:=congrArg zA.L h
  rwa [z2i]at this
 have:(t.L.map uO)[i]?=t.L[i]?:=by rw[e]
 rw[List.getElem?_map,hi]at this;exact Option.some.inj this
theorem SideE.to{m l w r:zA}(h:SideE m l w)(e:uO w=uO r)(hl:uO l=l)(hr:uO r=r):SideE m l r:=by
 obtain⟨e1,e2,-,-⟩:=z5r e;have same:∀x∈l.L,∀i,x.L[i]?=some w→w=r:=fun x hx i hi=>by
  rw[←v0h (v0h hl hx) (List.mem_of_getElem? hi),e,hr]
 cases h with
 |two a b k hL ka kb hz h0 kw hN=>exact .two a b k hL ka kb hz h0 (by rw[←e1];exact kw) (by rw[←e2];exact hN)
 |one a k hL ka kw hN=>exact .one a k hL ka (by rw[←e1];exact kw) (by rw[←e2];exact hN)
 |const d x k hN hd hx hwN kw=>exact .const d x k hN hd hx (by rw[←e2];exact hwN) (by rw[←e1];exact kw)
 |field x i k hL kx hN hx hQ=>exact .field x i k hL kx hN (by rw[←same x (by rw[hL];simp) i hx];exact hx) hQ
 |index x j i k hL kx kj hN hx hQ=>exact .index x j i k hL kx kj hN (by rw[←same x (by rw[hL];simp) i hx];exact hx) hQ
theorem TE.parts{m t τ:zA}{Γ:List zA}(h:TE m Γ t τ):∀x∈t.L,∃σ,TE m Γ x σ:=by
 cases h with
 |alone _ _ _ _ _ hL _ _=>rw[hL];simp
 |rule _ _ p hS hF hTo hne hpl hP hR=>
  intro x hx;obtain⟨i,hi⟩:=List.getElem?_of_mem hx;have hlt:=(List.getElem?_eq_some_iff.1 hi).1;exact⟨_,hP i x _ hi (List.getElem?_eq_getElem (l:=p) (i:=i) (by omega))⟩
theorem w0V{c K:Int}(h0:0≤c)(h1:1≤K):c+K≤(c+1)*K:=by
 have:=Int.mul_le_mul_of_nonneg_left h1 h0;rw[Int.add_mul,Int.one_mul];omega
theorem v9q{m:zA}(hm:ModOk m)(hms:zI m≤100000000)(hmw:zA.Wf m){Γ:List zA}{l r τ:zA}{s:State}(hl:TE m Γ l τ)(hlw:zA.Wf l)(hls:zI l≤400)(hs:Rich m Γ s)(k0:s.Kind=0)(side:SideE m l r):
  (∀o a c,z1I m (.E l) s o a c→c≤50000→∃o' c',z1I m (.E r) s o' a c'∧o'.v=o.v∧c'≤(c+1)*(2+zI l+zI r)) ∧
  (∀o a c,z1I m (.E r) s o a c→c≤50000→∃o' c',z1I m (.E l) s o' a c'∧o'.v=o.v∧c'≤(c+1)*(2+zI r+zI l)):=by
 have pl:=z1B l;have pr:=z1B r;have pick:∀(x:zA) (i:Nat) (rest:List zA),l.L=x::rest→(l.K=12∨l.K=13)→(x.K=14∨x.K=15)→x.L[i]?=some r→(∀(j:Nat) y,j≠i→x.L[j]?=some y→Qt y) →
   (∀{s a:State} {ox:Out} {c1:Int} {u:Value},s.Kind=0→z1I m (.E x) s ox a c1→(a.Kind=0→ox.v.L[i]?=some u)→∃c,z1I m (.E l) s (if a.Kind=0 then oV u else o0) a c∧c1≤c∧c≤c1+2) →
   (∀o a c,z1I m (.E l) s o a c→c≤50000→∃o' c',z1I m (.E r) s o' a c'∧o'.v=o.v∧c'≤(c+1)*(2+zI l+zI r)) ∧
   (∀o a c,z1I m (.E r) s o a c→c≤50000→∃o' c',z1I m (.E l) s o' a c'∧o'.v=o.v∧c'≤(c+1)*(2+zI r+zI l)):=by
  intro x i rest hL kl kx hx hQ wrap;have hxl:x∈l.L:=by rw[hL];simp
  have h1:=zM hxl;have h2:=jH x;obtain⟨σ,hTx⟩:=hl.parts x hxl;have hP:∀y∈x.L,w0v m Γ y:=fun y hy=>⟨hTx.parts y hy,(hlw.L_.2 x hxl).L_.2 y hy,by have:=zM hy;omega⟩;refine⟨fun o a c h hc=>?_,fun o a c h hc=>?_⟩
  ·have p:=h.1;obtain⟨o',c',g1,g2,g3⟩:=v9h hm hms hmw wrap kl ⟨rest,hL⟩ kx hx hP hQ hs k0 h hc;have:=w0V (K:=2+zI l+zI r) p (by omega);exact⟨o',c',g1,g2,by omega⟩
  ·have p:=h.1;obtain⟨o',c',g1,g2,g3,g4⟩:=v4P hm hms hmw wrap kx hx hP hQ hs k0 h hc;have:=w0V (K:=2+zI r+zI l) p (by omega);exact⟨o',c',g1,g2,by omega⟩
 rcases v9s hlw side k0 with kl|⟨kr,c0,g1,g2⟩
 ·cases side with
  |two a b k _ _ _ _ _ _ _=>omega
  |one a k _ _ _ _=>omega
  |const d x k _ _ _ _ _=>omega
  |field x i k hL kx hN hx hQ=>exact pick x i [] hL (.inr k) (.inr kx) hx hQ fun k1 h1 h2=>v8O k hL hN k1 h1 h2
  |index x j i k hL kx kj hN hx hQ=>exact pick x i [j] hL (.inl k) (.inl kx) hx hQ fun k1 h1 h2=>v8U k hL kj hN k1 h1 h2
 ·have g3:=z4N (m:=m) (t:=r) (s:=s) kr k0;have g1p:=g1.1;refine⟨fun o a c h hc=>?_,fun o a c h hc=>?_⟩
  ·have p:=h.1;obtain⟨e1,e2,e3⟩:=y1u h g1;have:=w0V (K:=2+zI l+zI r) p (by omega);exact⟨_,_,z9H e2 g3,by rw[e1],by omega⟩
  ·have p:=h.1;obtain⟨e1,e2,e3⟩:=y1u h g3;have:=w0V (K:=2+zI r+zI l) p (by omega);exact⟨_,_,z9H e2 g1,by rw[e1],by omega⟩
theorem v6Y(m:zA)(s:State)(F:Int)(h0:0≤F)(h1:F≤65536)(g0:0≤s.Fuel)(g1:s.Fuel≤65536)(hml:m.L.length≤1000000000):z0Z m {s with Fuel:=F}=z0Z m s:=by
 have loop:∀(k i:Nat),i+k=m.L.length→yN (i:Int) m {s with Fuel:=F}=yN (i:Int) m s:=by
  intro k;induction k with
  |zero=>
   intro i hi;rw[z1a _ m {s with Fuel:=F},z1a _ m s];unfold jZ;rw[zq0 (by omega),zq0 (by omega)]
  |succ k ih=>
   intro i hi;rw[z1a _ m {s with Fuel:=F},z1a _ m s];unfold jZ;simp only[z1C (show i<2000000000 by omega),ih (i+1) (by omega)]
 have l0:=loop m.L.length 0 (by omega);rw[show((0:Nat):Int)=0 from rfl]at l0;unfold z0Z;simp only[l0];rw[zq0 (show ¬F<0 by omega),zq0 (show ¬F>65536 by omega),zq0 (show ¬s.Fuel<0 by omega),zq0 (show ¬s.Fuel>65536 by omega)]
theorem v6R{m t:zA}{Γ:List zA}{s a:State}{v:Value}{g:Ref15Got}(e2:z0X m=some true)(e3:z0Z m s=some true)(e4:z6l m Γ s.Locals=some true)(eg:uD m Γ t=some g)(g0:g.E=0)(e5:vB g.Form t=some true)(hM:zK m s t=some ⟨v,a⟩):z1Z m Γ s t=some (v,a,0):=by
 unfold z1Z;rw[e2,zB,zq1 rfl,e3,zB,zq1 rfl,e4,zB,zq1 rfl,eg,zB,zq1 g0,e5,zB,zq1 rfl,hM,zB]
theorem v8H{m τ:zA}{o:Out}{s:State}(h:v8u m τ o s):VW o.v:=by
 rcases h with⟨-,-,h⟩|⟨-,h⟩
 ·exact h
 ·rw[h];exact v8m
theorem v8o {m:zA} (hm:ModOk m) (hms:zI m≤400) (hmw:zA.Wf m) {Γ:List zA} {l r τ σ:zA} {s:State} {gl gr:Ref15Got} (hl:TE m Γ l τ) (hr:TE m Γ r σ) (hlw:zA.Wf l) (hrw:zA.Wf r) (hls:zI l≤400) (hrs:zI r≤400)
  (hs:StOk m 1000000000 Γ s) (k0:s.Kind=0) (hf:s.Fuel≤3000) (hL:Γ.length≤1000) (hT:s.Trace.length≤1000)
  (e2:z0X m=some true) (e3:z0Z m s=some true) (e4:z6l m Γ s.Locals=some true) (el:uD m Γ l=some gl) (el0:gl.E=0) (el5:vB gl.Form l=some true) (er:uD m Γ r=some gr) (er0:gr.E=0) (er5:vB gr.Form r=some true)
  (dir:∀o a c,z1I m (.E l) s o a c→c≤50000→∃o' c',z1I m (.E r) s o' a c'∧o'.v=o.v∧c'≤(c+1)*(2+zI l+zI r)):z2a m Γ s l r=some true:=by
 have f0:=hs.fuel0;obtain⟨o,a,hG,hM,hst,hfa,-,hE⟩:=(v3O m hm (by omega) hmw s.Fuel.toNat).1 _ Γ l τ s hl hlw (by omega) hs (.inl k0) (by omega);unfold z2a;rw[v6R e2 e3 e4 el el0 el5 hM,zB];simp only;rw[zq1 trivial];by_cases k3:a.Kind=3
 ·rw[zq1 k3]
 rw[zq0 k3,v7S l (by omega),v7S r (by omega),zB,zB];have fa:=hst.fuel0;have hc:=v6M hG k3 fa;obtain⟨o',c',hc',hv,hle⟩:=dir _ _ _ hc (by omega);have e1:IntKind.wrap .i64 (s.Fuel-a.Fuel)=s.Fuel-a.Fuel:=z1H (by omega) (by omega);have e2':IntKind.wrap .i64 (s.Fuel-a.Fuel+1)=s.Fuel-a.Fuel+1:=z1H (by omega) (by omega);have e3':IntKind.wrap .i64 (2+(zI l:Int))=2+zI l:=z1H (by omega) (by omega);have e4':IntKind.wrap .i64 (2+(zI l:Int)+zI r)=2+zI l+zI r:=z1H (by omega) (by omega)
 have hmul:0≤(s.Fuel-a.Fuel+1)*(2+(zI l:Int)+zI r)∧(s.Fuel-a.Fuel+1)*(2+(zI l:Int)+zI r)≤3001*802:=
  ⟨Int.mul_nonneg (by omega) (by omega),Int.mul_le_mul (by omega) (by omega) (by omega) (by omega)⟩
 rw[e1,e2',e3',e4',z1H (by omega) (by omega)];generalize (s.Fuel-a.Fuel+1)*(2+(zI l:Int)+zI r)=F at *;by_cases cF:F>65536
 ·rw[zq1 cF]
 rw[zq0 cF];have hsF:StOk m 1000000000 Γ (at_ s F):=hs.fuel hmul.1 (by omega) (by have:=hs.ll;omega) (by omega);obtain⟨o2,b,hG2,hM2,-,-,-,-⟩:=(v3O m hm (by omega) hmw F.toNat).1 _ Γ r σ (at_ s F) hr hrw (by omega) hsF (.inl k0) (by simp only;omega);have hml:=vN m;have e3F:z0Z m (at_ s F)=some true:=(v6Y m s F hmul.1 (by omega) f0 (by omega) (by omega)).trans e3;rw[show({s with Fuel:=F}:State)=at_ s F from rfl,v6R e2 e3F e4 er er0 er5 hM2,zB];simp only;rw[zq1 trivial];have g:=hc'.2.2 F hle
 obtain⟨eo,e⟩:=hG2.det g;have ev:o2.v=o.v:=by rw[←hv,eo]
 have eb:at_ a 0=at_ b 0:=by rw[←e]
 have ha0:StOk m 1000000000 Γ (at_ a 0):=StOk.less (C:=a.Fuel) hst (Int.le_refl _) fa;obtain⟨d,ed,hd⟩:=y9B o.v (v8H hE).vok o2.v;rw[ed,zB,hd.2 ev.symm,zq1 rfl,v9U ha0 (by omega) eb];rfl
theorem v6d(t:zA):zI (v3R t).1≤1:=by
 unfold v3R
 repeat' split
 all_goals exact y2I _ _
theorem y7C(l:List zA)(i:Int):zI (y9r l i).1≤wE l+1:=by
 unfold y9r;split
 ·rename_i h
  have hi:i.toNat<l.length:=by omega
  simp only;rw[List.getD_eq_getElem?_getD,List.getElem?_eq_getElem hi];have:=zM (t:=⟨0,0,[],l,0,0⟩) (List.getElem_mem hi);rw[jH ⟨0,0,[],l,0,0⟩]at this;show zI l[i.toNat]≤_;simp only at this;omega
 ·have:zI zT≤1:=y2I 0 0;simp only;omega
theorem v6w(m:zA)(rule:Int)(l:zA):zI (v4k m rule l).1≤zI m+zI l+1:=by
 have z:zI zT≤1:=y2I 0 0;unfold v4k;split
 ·have:=v6d l;omega
 split
 ·split
  ·split
   ·split
    ·rename_i d hd
     have h1:=zM (List.mem_of_getElem? hd);split
     ·rename_i x hx
      have h2:=z1A hx;split
      ·simp only;omega
      ·simp only;omega
     ·simp only;omega
    ·simp only;omega
   ·simp only;omega
  ·split
   ·split
    ·rename_i x hx
     have h1:=z1A hx;have h2:=jH x;split
     ·have:=y7C x.L (Int.tmod l.N 64);omega
     ·simp only;omega
    ·simp only;omega
   ·split
    ·split
     ·rename_i x y hx
      have h1:=z7b hx;have h2:=jH x;split
      ·have:=y7C x.L y.N;omega
      ·simp only;omega
     ·simp only;omega
    ·simp only;omega
 ·simp only;omega
theorem v9w(a:zA):∀b:zA,zI a≤1000000000→∃c,jF a b=some c∧(c=true↔uO a=uO b):=by
 induction a using zA.ind with
 |h a ih=>
  intro b h;have hl:=vN a;have loop:∀(k i:Nat),i+k=a.L.length→a.L.length=b.L.length→∃c,slices_EqualFunc_G120Same_L4 b.L a.L (a.L.length:Int) i=some c∧(c=true↔(a.L.drop i).map uO=(b.L.drop i).map uO):=by
   intro k;induction k with
   |zero=>
    intro i hi hab;rw[z1b];unfold vE;rw[zq0 (by omega),List.drop_eq_nil_of_le (by omega),List.drop_eq_nil_of_le (by omega)];exact⟨_,rfl,by simp⟩
   |succ k ihk=>
    intro i hi hab;have hlt:i<a.L.length:=by omega
    have hlt':i<b.L.length:=by omega
    have hm:=List.getElem_mem hlt;rw[z1b];unfold vE;obtain⟨c,e,hc⟩:=ih _ hm b.L[i] (by have:=zM hm;omega);rw[zq1 (by omega),wG hlt,zB,wG hlt',zB,e,zB,z1C (by omega),List.drop_eq_getElem_cons hlt,List.drop_eq_getElem_cons hlt',List.map_cons,List.map_cons];cases c with
    |true=>
     obtain⟨c',e',hc'⟩:=ihk (i+1) (by omega) hab;rw[zq1 rfl];exact⟨c',e',by rw[hc'];simp[hc.1 rfl]⟩
    |false=>
     rw[zq0 (by decide)];exact⟨false,rfl,by simp;intro h;exact absurd (hc.2 h) (by simp)⟩
  rw[v1W];unfold z4w;rw[z2i a,z2i b];by_cases h1:a.K=b.K
  ·rw[zq1 h1];by_cases h2:a.N=b.N
   ·rw[zq1 h2];by_cases h3:a.S=b.S
    ·rw[zq1 h3,z5p];unfold wP;by_cases h4:(List.length a.L:Int)=(List.length b.L:Int)
     ·rw[zq1 h4];obtain⟨c,e,hc⟩:=loop a.L.length 0 (by omega) (by omega);have e:slices_EqualFunc_G120Same_L4 b.L a.L (a.L.length:Int) 0=some c:=e;rw[e];exact⟨c,rfl,by rw[hc];simp[h1,h2,h3]⟩
     ·rw[zq0 h4];refine⟨_,rfl,by simp;intro _ _ _ hx;exact h4 (by have:=congrArg List.length hx;simp at this;omega)⟩
    ·rw[zq0 h3];exact⟨_,rfl,by simp;intro _ _ hx;exact absurd hx h3⟩
   ·rw[zq0 h2];exact⟨_,rfl,by simp;intro _ hx;exact absurd hx h2⟩
  ·rw[zq0 h1];exact⟨_,rfl,by simp;intro hx;exact absurd hx h1⟩
theorem v6o(c:Ref25Rule)(hT:c.Types.length≤9223372036854775807∧∀x∈c.Types,zA.Wf x)(hM:zA.Wf c.M)(hL:zA.Wf c.L)(hR:zA.Wf c.R)(hS:State.Wf c.S):
  ∃b,z6V c=some b∧(b=false→c.Types.length≤40∧(∀x∈c.Types,zI x≤400)∧zI c.M≤400∧zI c.L≤400∧zI c.R≤400∧v2q c.S):=by
 have tail:∀(h:c.Types.length≤40→∀x∈c.Types,zI x≤400),∃b,(if(List.length c.Types:Int)>40 then some true else gE c.M>>=fun q2=>if q2=true then some true else gE c.L>>=fun q3=>if q3=true then some true else gE c.R>>=fun q4=>if q4=true then some true else z4t c.S>>=fun q5=>some q5)=some b ∧
   (b=false→c.Types.length≤40∧(∀x∈c.Types,zI x≤400)∧zI c.M≤400∧zI c.L≤400∧zI c.R≤400∧v2q c.S):=by
  intro h;have no:∀{P:Prop},∃b,some true=some b∧(b=false→P):=⟨_,rfl,fun h=>Bool.noConfusion h⟩;by_cases c1:(List.length c.Types:Int)>40
  ·rw[zq1 c1];exact no
  rw[zq0 c1];obtain⟨b1,e1,h1⟩:=y3W c.M hM;obtain⟨b2,e2,h2⟩:=y3W c.L hL;obtain⟨b3,e3,h3⟩:=y3W c.R hR;obtain⟨b4,e4,h4⟩:=v7V c.S hS;rw[e1,zB];cases b1 with
  |true=>rw[zq1 rfl];exact no
  |false=>
   rw[zq0 (by decide),e2,zB];cases b2 with
   |true=>rw[zq1 rfl];exact no
   |false=>
    rw[zq0 (by decide),e3,zB];cases b3 with
    |true=>rw[zq1 rfl];exact no
    |false=>
     rw[zq0 (by decide),e4,zB];exact⟨b4,rfl,fun hb=>⟨by omega,h (by omega),h1 rfl,h2 rfl,h3 rfl,h4 hb⟩⟩
 have loop:∀(k i:Nat),i+k=c.Types.length→(∀x∈c.Types.take i,zI x≤400)→∃b,vM i c=some b∧(b=false→c.Types.length≤40∧(∀x∈c.Types,zI x≤400)∧zI c.M≤400∧zI c.L≤400∧zI c.R≤400∧v2q c.S):=by
  intro k;induction k with
  |zero=>
   intro i hi ht;rw[z8m];unfold z0t;rw[zq0 (by omega)];rw[List.take_of_length_le (by omega)]at ht;exact tail (fun _=>ht)
  |succ k ih=>
   intro i hi ht;have hlt:i<c.Types.length:=by omega
   rw[z8m];unfold z0t;rw[zq1 (by omega)];by_cases c4:(i:Int)<40
   ·obtain⟨b,eb,hb⟩:=y3W c.Types[i] (hT.2 _ (List.getElem_mem hlt));rw[zq1 c4,wG hlt,zB,eb,zB,y9C hlt hT.1];cases b with
    |true=>rw[zq1 rfl];exact⟨_,rfl,fun h=>Bool.noConfusion h⟩
    |false=>
     rw[zq0 (by decide)];refine ih (i+1) (by omega) fun x hx=>?_;rw[List.take_succ_eq_append_getElem hlt,List.mem_append]at hx;rcases hx with hx|hx
     ·exact ht x hx
     ·rw[List.mem_singleton.1 hx];exact hb rfl
   ·rw[zq0 c4];exact tail (fun h=>by omega)
 unfold z6V;exact loop c.Types.length 0 (by omega) (by simp)
theorem z9Y{m l r:zA}{Γ:List zA}{s:State}{q:Value×State×Int}(e:z1Z m Γ s l=some q)(h:q.2.2≠0):z2a m Γ s l r=some true:=by
 unfold z2a;rw[e,zB,zq0 h]
theorem v1i{m t:zA}{Γ:List zA}{s:State}(e2:z0X m=some true)(e3:z0Z m s=some false):∃q,z1Z m Γ s t=some q∧q.2.2≠0:=by
 unfold z1Z;rw[e2,zB,zq1 rfl,e3,zB,zq0 (by decide)];exact⟨_,rfl,by decide⟩
theorem v1j{m t:zA}{Γ:List zA}{s:State}(e2:z0X m=some true)(e3:z0Z m s=some true)(e4:z6l m Γ s.Locals=some false):∃q,z1Z m Γ s t=some q∧q.2.2≠0:=by
 unfold z1Z;rw[e2,zB,zq1 rfl,e3,zB,zq1 rfl,e4,zB,zq0 (by decide)];exact⟨_,rfl,by decide⟩
theorem v9u (M:zA) (Types:List zA) (S:State) (L R:zA) (wM:zA.Wf M) (wT:Types.length≤9223372036854775807∧∀x∈Types,zA.Wf x) (wL:zA.Wf L) (wR:zA.Wf R) (wS:State.Wf S) (sn:Types.length≤40) (st:∀x∈Types,zI x≤400) (sm:zI M≤400) (sl:zI L≤400) (sr:zI R≤400) (ss:v2q S) (e1:z0X M=some true)
  (hm:ModOk M) (dirs:∀τ σ,TE M Types L τ→TE M Types R σ→Rich M Types S→S.Kind=0 →
   (∀o a c,z1I M (.E L) S o a c→c≤50000→∃o' c',z1I M (.E R) S o' a c'∧o'.v=o.v∧c'≤(c+1)*(2+zI L+zI R)) ∧
   (∀o a c,z1I M (.E R) S o a c→c≤50000→∃o' c',z1I M (.E L) S o' a c'∧o'.v=o.v∧c'≤(c+1)*(2+zI R+zI L))):z6W M Types S L R=some true:=by
 unfold z6W;obtain⟨gl,el,hl⟩:=w0g M Types 400 sm st (by omega) L wL (by omega);obtain⟨gr,er,hr⟩:=w0g M Types 400 sm st (by omega) R wR (by omega);rw[el,er,zB,zB];by_cases z1:gl.E=0
 case neg=>rw[zq0 z1]
 by_cases z2:gr.E=0
 case neg=>rw[zq1 z1,zq0 z2]
 obtain⟨b2,p2,q2⟩:=y2E L gl.Form (by omega);obtain⟨b3,p3,q3⟩:=y2E R gr.Form (by omega);obtain⟨d,ed,-⟩:=y6h gl.Type_ gr.Type_ (by have:=(hl z1).1;omega);rw[zq1 z1,zq1 z2,p2,zB];cases b2 with
 |false=>rw[zq0 (by decide)]
 |true=>
  rw[zq1 rfl,p3,zB];cases b3 with
  |false=>rw[zq0 (by decide)]
  |true=>
   rw[zq1 rfl,ed,zB];cases d with
   |false=>rw[zq0 (by decide)]
   |true=>
    rw[zq1 rfl];obtain⟨b4,e4,h4⟩:=v9o M S hm (by omega);cases b4 with
    |false=>
     obtain⟨q,f1,f2⟩:=v1i (t:=L) (Γ:=Types) e1 e4;obtain⟨q',f3,f4⟩:=v1i (t:=R) (Γ:=Types) e1 e4;rw[z9Y f1 f2,zB,zq1 rfl,z9Y f3 f4,zB]
    |true=>
     obtain⟨b5,e5,h5⟩:=w0m M Types S.Locals (by omega) (fun x hx=>by have:=st x hx;omega) wS.Locals_.1;cases b5 with
     |false=>
      obtain⟨q,f1,f2⟩:=v1j (t:=L) (Γ:=Types) e1 e4 e5;obtain⟨q',f3,f4⟩:=v1j (t:=R) (Γ:=Types) e1 e4 e5;rw[z9Y f1 f2,zB,zq1 rfl,z9Y f3 f4,zB]
     |true=>
      have hfit:=h4 rfl;have hs:=w1m hm (by omega) (fun x hx=>by have:=st x hx;omega) wS ss hfit (h5.1 rfl);have k0:=hfit.k;have hf:=ss.f;have ht:=ss.t;have hll:=ss.l;have hTl:=(hl z1).2 (q2.1 rfl);have hTr:=(hr z2).2 (q3.1 rfl);obtain⟨d1,d2⟩:=dirs _ _ hTl hTr (Rich.of hs (by omega) (by omega)) k0;rw[v8o hm sm wM hTl hTr wL wR sl sr hs k0 hf (by omega) (by omega) e1 e4 e5 el z1 p2 er z2 p3 d1,zB,zq1 rfl,
       v8o hm sm wM hTr hTl wR wL sr sl hs k0 hf (by omega) (by omega) e1 e4 e5 er z2 p3 el z1 p2 d2,zB]
theorem v1r(x0:Ref25Rule)(w0:Ref25Rule.Wf x0):z4D x0=some true:=by
 unfold z4D;obtain⟨b,e,hb⟩:=v6o x0 w0.Types_ w0.M_ w0.L_ w0.R_ w0.S_;rw[e,zB,v1q];simp only[zB];cases b with
 |true=>rw[zq1 rfl]
 |false=>
  obtain⟨sn,st,sm,sl,sr,ss⟩:=hb rfl;rw[zq0 (by decide)];obtain⟨b1,e1,h1⟩:=v9m x0.M (by omega) w0.M_;rw[e1,zB];cases b1 with
  |false=>rw[zq0 (by decide)]
  |true=>
   rw[zq1 rfl];have hm:=h1 rfl;have e3:=w0o x0.M x0.Rule x0.L sl w0.L_;have hi:=v9r x0.M x0.Rule x0.L _ rfl;have hz:=v6w x0.M x0.Rule x0.L;unfold z9I;rw[e3,zB];generalize v4k x0.M x0.Rule x0.L=p at *;cases hp:p.2 with
   |false=>rw[zq0 (by decide),zB,zq0 (by decide)]
   |true=>
    obtain⟨c,ec,hc⟩:=v9w p.1 x0.R (by omega);rw[zq1 rfl,ec,zB,zB];cases c with
    |false=>rw[zq0 (by decide)]
    |true=>
     rw[zq1 rfl,v9u x0.M x0.Types x0.S x0.L x0.R w0.M_ w0.Types_ w0.L_ w0.R_ w0.S_ sn st sm sl sr ss e1 hm fun τ σ hTl hTr hs k0=>
      v9q hm (by omega) w0.M_ hTl w0.L_ sl hs k0 ((hi hp).to (hc.1 rfl) hTl.bare.1 hTr.bare.1),zB,zq1 rfl]
end Go.Proofs.YtcpblelppecabaaGreat.M

