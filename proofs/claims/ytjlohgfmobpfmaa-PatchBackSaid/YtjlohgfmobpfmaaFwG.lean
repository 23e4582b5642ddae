import Derived.Test.YtjlohgfmobpfmaaFwF
namespace Nt
open Go
set_option linter.unusedVariables false
set_option linter.unusedSimpArgs false
section
variable {P:Program} {X:Ctx} {κ:Kap} {s:St} {a:Act} {w:World}
theorem zY{t:TypeId}{n:Nat}(h:yO P t=some n):∃i d,P.info? t=some i∧i.size=n∧P.underlying t=some d:=by
 unfold yO at h;split at h
 ·rename_i i d h1 h2;injection h with h;exact⟨i,d,h1,h,h2⟩
 ·cases h
theorem z3g{t:TypeId}{d:TypeDesc}(h:P.underlying t=some d):uD P t=d.isRow:=by
 unfold uD;rw[h];cases d<;>rfl
theorem vC{t:TypeId}{n:Nat}(h:yO P t=some n):(Go.sizeOf t).run P w=.ok n w:=by
 obtain⟨i,d,h1,h2,h3⟩:=zY h;simp[Go.sizeOf,typeInfo,h1,h2]
def Lies(w:World)(M:Nat→Nat→Prop)(b o:Nat)(cs:List D):Prop:=
 ∀i c,cs[i]?=some c→∃v,zJ w b (o+i)=some v∧c.sc=true∧RelV w M v c
theorem RelC.lies{M:Nat→Nat→Prop}{b o:Nat}{cs:List D}(h:RelC w M b o cs):Lies w M b o cs:=fun i c hi=>by
 obtain⟨v,h1,-,h2,h3⟩:=h.get i c hi;exact⟨v,h1,h2,h3⟩
theorem Box.lies{M:Nat→Nat→Prop}{b:Nat}{cs:List D}(h:Box w M b cs):Lies w M b 0 cs:=fun i c hi=>by
 obtain⟨v,h1,-,h2,h3,-⟩:=h i c hi;exact⟨v,by rw[Nat.zero_add];exact h1,h2,h3⟩
theorem Lies.part{M:Nat→Nat→Prop}{b o:Nat}{cs:List D}(h:Lies w M b o cs)(off n:Nat):Lies w M b (o+off) ((cs.drop off).take n):=fun i c hi=>by
 have:cs[off+i]?=some c:=by
  rw[List.getElem?_take]at hi;split at hi
  ·rw[List.getElem?_drop]at hi;exact hi
  ·cases hi
 obtain⟨v,h1,h2,h3⟩:=h _ c this;exact⟨v,by rw[Nat.add_assoc];exact h1,h2,h3⟩
theorem Lies.list{M:Nat→Nat→Prop}{b:Nat}:∀{cs:List D} {o:Nat},Lies w M b o cs→∃vs:List Value,vs.length=cs.length∧w.rangeAt b o vs∧RelVs w M vs cs
 |[],o,_=>⟨[],rfl,fun j v h=>by simp at h,.nil⟩
 |c::cs,o,h=>by
  obtain⟨v,h1,h2,h3⟩:=h 0 c rfl;obtain⟨vs,g1,g2,g3⟩:=Lies.list (b:=b) (cs:=cs) (o:=o+1) (fun i c' hi=>by
   have:=h (i+1) c' (by simpa using hi);simpa [Nat.add_assoc,Nat.add_comm 1]using this)
  refine⟨v::vs,by simp[g1],fun j u hu=>?_,.cons v c vs cs h2 h3 g3⟩;cases j with
  |zero=>simp at hu;subst hu;exact h1
  |succ j=>have:=g2 j u (by simpa using hu);simpa [Nat.add_assoc,Nat.add_comm 1]using this
theorem z0r{M:Nat→Nat→Prop}{b o:Nat}{cs:List D}{t:TypeId}(h:Lies w M b o cs)(hs:yO P t=some cs.length)(ha:uD P t=true):
  ∃vs:List Value,(loadVar t ⟨b,o,none⟩).run P w=.ok (.agg ⟨vs⟩) w∧RelVs w M vs cs:=by
 obtain⟨i,d,h1,h2,h3⟩:=zY hs;obtain⟨vs,g1,g2,g3⟩:=Lies.list (b:=b) (o:=o) h;exact⟨vs,run_loadVar_mid w b o t vs d g2 h3 (by rw[←z3g h3];exact ha) (by rw[h1];simp[h2,g1]),g3⟩
theorem z3f{b o:Nat}{v:Value}(h:zJ w b o=some v):(load ⟨b,o,none⟩).run P w=.ok v w:=by
 change w.cell? _=some v at h;simp only[load,Sem.run,h]
theorem gT{b o:Nat}{v:Value}{t:TypeId}{n:Nat}(hs:yO P t=some n)(ha:uD P t=false)(h:zJ w b o=some v):(loadVar t ⟨b,o,none⟩).run P w=.ok v w:=by
 obtain⟨i,d,h1,h2,h3⟩:=zY hs;unfold loadVar;rw[Sem.run_bind,z0d h3,ha];rw[Result.andThen_ok];simp only[Bool.false_eq_true,if_false];exact z3f h
theorem jP{n:Nat}{x:D}{k:Prop}(h:kWhole n x k):∃cs,x=.agg cs∧cs.length=n∧k:=by
 cases x<;>first|exact h.elim|exact⟨_,rfl,vX (zG h).1,(zG h).2⟩
theorem z3Q{x:D}{off n:Nat}{k:D→Prop}(h:kPart x off n k):∃cs,x=.agg cs∧off+n≤cs.length∧k (.agg ((cs.drop off).take n)):=by
 cases x<;>first|exact h.elim|exact⟨_,rfl,z7s (zG h).1,(zG h).2⟩
theorem z3P{M:Nat→Nat→Prop}{b o off:Nat}{x:D}{t:TypeId}{n:Nat}{k:D→Prop}(hs:yO P t=some n)(hk:kPartT P t n x off k)(h:Lies w M b o x.cells):
  ∃u y,(loadVar t ⟨b,o+off,none⟩).run P w=.ok u w∧RelV w M u y∧k y:=by
 rcases zT hk with⟨ha,hk⟩|⟨ha,hk⟩
 ·rcases zT hk with⟨h0,hk2⟩|⟨-,hk⟩
  ·simp only[Bool.and_eq_true]at h0;clear hk;obtain rfl:=vX h0.1;obtain⟨cs,rfl,hl,h3⟩:=jP hk2;subst hl;obtain⟨vs,g1,g2⟩:=z0r h hs ha;exact⟨_,_,g1,.agg vs cs g2,h3⟩
  ·obtain⟨cs,rfl,hl,h3⟩:=z3Q hk;have:=h.part off n;obtain⟨vs,g1,g2⟩:=z0r this (by rw[hs];simp[D.cells];omega) ha;exact⟨_,_,g1,.agg vs _ g2,h3⟩
 ·obtain⟨c,hc,hk⟩:=zD hk;obtain⟨v,h1,-,h2⟩:=h off c hc;exact⟨v,c,gT hs ha h1,h2,hk⟩
theorem z5G{M:Nat→Nat→Prop}{b o off:Nat}{x y:D}{t:TypeId}{n:Nat}(hs:yO P t=some n)(hk:z6Q P t n x off y)(h:Lies w M b o x.cells):
  ∃u,(loadVar t ⟨b,o+off,none⟩).run P w=.ok u w∧RelV w M u y:=by
 rcases zT hk with⟨ha,h1,h2,h3⟩|⟨ha,hc⟩
 ·cases y with
  |agg cs=>
   have:=h.part off n;rw[h3]at this;have h2:cs.length=n:=h2;obtain⟨vs,g1,g2⟩:=z0r (P:=P) (cs:=cs) this (by rw[hs,h2]) ha;exact⟨_,g1,.agg vs cs g2⟩
  |_=>simp[D.sc]at h1
 ·obtain⟨v,h1,-,h2⟩:=h off y hc;exact⟨v,gT hs ha h1,h2⟩
theorem z2N{n:Nat}:∀{xs:List D},yB n xs→∀{i:Nat} {x:D},xs[i]?=some x→∀j c,x.cells[j]?=some c→(yC xs)[i*n+j]?=some c
 |[],_,i,x,h,_,_,_=>by simp at h
 |y::ys,hs,0,x,h,j,c,hc=>by
  simp at h;subst h;simp only[yC,Nat.zero_mul,Nat.zero_add];rw[List.getElem?_append_left (List.getElem?_eq_some_iff.1 hc).1];exact hc
 |y::ys,hs,i+1,x,h,j,c,hc=>by
  have h1:=hs y (by simp);have:=z2N (xs:=ys) (n:=n) (fun z hz=>hs z (List.mem_cons_of_mem _ hz)) (by simpa using h) j c hc;simp only[yC];rw[List.getElem?_append_right (by rw[h1];rw[Nat.succ_mul];omega),h1,Nat.succ_mul];rw[show i*n+n+j-n=i*n+j by omega];exact this
theorem Lies.elem{M:Nat→Nat→Prop}{b o n:Nat}{xs:List D}(h:Lies w M b o (yC xs))(hs:yB n xs){i:Nat}{x:D}(hx:xs[i]?=some x):Lies w M b (o+i*n) x.cells:=fun j c hc=>by
 obtain⟨v,h1,h2,h3⟩:=h _ c (z2N hs hx j c hc);exact⟨v,by rw[Nat.add_assoc];exact h1,h2,h3⟩
theorem RelC.elem{M:Nat→Nat→Prop}{b o n:Nat}{xs:List D}(h:RelC w M b o (yC xs))(hs:yB n xs){i:Nat}{x:D}(hx:xs[i]?=some x):RelC w M b (o+i*n) x.cells:=
 RelC.mk _ fun j c hc=>by
  obtain⟨v,h1,h0,h2,h3⟩:=h.get _ c (z2N hs hx j c hc);exact⟨v,by rw[Nat.add_assoc];exact h1,by rw[Nat.add_assoc];exact h0,h2,h3⟩
theorem z4q{M:Nat→Nat→Prop}{E:Env}:∀{svs:List Sv} {k:List D→Prop} {vs:List Value},kDs svs k→RelSs w M κ E vs svs →
  ∃xs,xs.length=svs.length∧vs.length=svs.length∧(∀(i:Nat) v x,vs[i]?=some v→xs[i]?=some x→RelV w M v x)∧k xs
 |[],k,_,h,.nil=>⟨[],rfl,rfl,by simp,h⟩
 |sv::svs,k,_,h,.cons v _ vs _ hv hvs=>by
  obtain⟨x,hx,h⟩:=yA h hv;obtain⟨xs,h1,h2,h3,h4⟩:=z4q h hvs;refine⟨x::xs,by simp[h1],by simp[h2],fun i u y hu hy=>?_,h4⟩;cases i with
  |zero=>simp at hu hy;subst hu;subst hy;exact hx
  |succ i=>exact h3 i u y (by simpa using hu) (by simpa using hy)
theorem RelV.sc_of{M:Nat→Nat→Prop}{v:Value}{x:D}(h:RelV w M v x)(hv:v.oneCell'=true):x.sc=true:=by
 cases h<;>first|rfl|simp[Value.oneCell']at hv
def LiesS(w:World)(M:Nat→Nat→Prop)(κ:Kap)(E:Env)(b:Nat)(cs:List Sv):Prop:=
 ∀i c,cs[i]?=some c→∃v,zJ w b i=some v∧v.oneCell'=true∧RelS w M κ E v c
theorem LiesS.list{M:Nat→Nat→Prop}{E:Env}{b:Nat}:∀{cs:List Sv} {o:Nat},(∀(i:Nat) c,cs[i]?=some c→∃v,zJ w b (o+i)=some v∧v.oneCell'=true∧RelS w M κ E v c) →
  ∃vs:List Value,vs.length=cs.length∧w.rangeAt b o vs∧(∀v∈vs,v.oneCell'=true)∧RelSs w M κ E vs cs
 |[],o,_=>⟨[],rfl,fun j v h=>by simp at h,by simp,.nil⟩
 |c::cs,o,h=>by
  obtain⟨v,h1,h2,h3⟩:=h 0 c rfl;obtain⟨vs,g1,g2,g3,g4⟩:=LiesS.list (b:=b) (cs:=cs) (o:=o+1) (fun i c' hi=>by
   have:=h (i+1) c' (by simpa using hi);simpa [Nat.add_assoc,Nat.add_comm 1]using this)
  refine⟨v::vs,by simp[g1],fun j u hu=>?_,?_,.cons v c vs cs h3 g4⟩
  ·cases j with
   |zero=>simp at hu;subst hu;exact h1
   |succ j=>have:=g2 j u (by simpa using hu);simpa [Nat.add_assoc,Nat.add_comm 1]using this
  ·intro u hu;rcases List.mem_cons.1 hu with rfl|hu
   ·exact h2
   ·exact g3 u hu
theorem z0w:∀l:List Sv,z0F l=l.map unOwn
 |[]=>rfl
 |v::r=>by rw[z0F,List.map_cons,z0w r]
theorem z2z{l:List Sv}{i:Nat}{c:Sv}(h:(z0F l)[i]?=some c):∃x,l[i]?=some x∧c=unOwn x:=by
 rw[z0w,List.getElem?_map]at h;cases hx:l[i]? with
 |none=>rw[hx]at h;cases h
 |some x=>rw[hx]at h;cases h;exact⟨x,rfl,rfl⟩
theorem z2A(l:List Sv):(z0F l).length=l.length:=by rw[z0w,zq3]
theorem RelS.unOwn{M:Nat→Nat→Prop}{E:Env}{v:Value}{c:Sv}(h:RelS w M κ E v c):RelS w M κ E v (Nt.unOwn c):=by
 cases c with
 |own n xs=>cases h
 |_=>exact h
theorem z7G {M:Nat→Nat→Prop} {E:Env} {b off n:Nat} {cs:List Sv} {t:TypeId} {ld:Sv→Sv} {k:Sv→Prop} (hs:yO P t=some n) (hk:kBoxT P t n cs off ld k)
  (h:LiesS w M κ E b cs) (hld:∀c v,cs[off]?=some c→zJ w b off=some v→RelS w M κ E v c→RelS w M κ E v (ld c)):
  ∃u y,(loadVar t ⟨b,off,none⟩).run P w=.ok u w∧RelS w M κ E u y∧k y:=by
 rcases zT hk with⟨ha,hk⟩|⟨ha,hk⟩
 ·obtain⟨hl,hk⟩:=zG hk;have hl:=z7s hl;obtain⟨vs,g1,g2,g3,g4⟩:=LiesS.list (b:=b) (cs:=z0F ((cs.drop off).take n)) (o:=off) (fun i c hi=>by
   obtain⟨x,hi2,rfl⟩:=z2z hi;have:cs[off+i]?=some x:=by
    rw[List.getElem?_take]at hi2;split at hi2
    ·rw[List.getElem?_drop]at hi2;exact hi2
    ·cases hi2
   obtain⟨v,q1,q2,q3⟩:=h _ x this;exact⟨v,q1,q2,q3.unOwn⟩)
  rw[z2A]at g1;obtain⟨xs,q1,q2,q3,q4⟩:=z4q hk g4;obtain⟨i,d,h1,h2,h3⟩:=zY hs;refine⟨.agg ⟨vs⟩,_,run_loadVar_mid w b off t vs d g2 h3 (by rw[←z3g h3];exact ha) (by rw[h1];simp[h2,g1];omega),.d _ _ (.agg vs xs (RelVs.mk (by rw[q2,q1]) (fun i v c hv hc=>?_))),q4⟩;have:=q3 i v c hv hc;exact⟨this.sc_of (g3 v (List.mem_of_getElem? hv)),this⟩
 ·obtain⟨c,hc,hk⟩:=zD hk;obtain⟨v,h1,-,h2⟩:=h off c hc;exact⟨v,_,gT hs ha h1,hld c v hc h1 h2,hk⟩
theorem RelHc.relS{M:Nat→Nat→Prop}{E:Env}{id off:Nat}{v:Value}{c:Sv}(h:RelHc w M κ E id off v c)(hc:∀n xs,c≠.own n xs):RelS w M κ E v c:=by
 cases c with
 |own n xs=>exact absurd rfl (hc n xs)
 |_=>exact h.2
theorem z4X(R:Rel X κ s a w){t:TypeId}{u:Value}{v:Sv}{k:Sv→Prop}(hk:kLoad P t s v k)(hv:RelS w (Mut X.M0 κ) κ s.env u v):
  ∃u' y,(Instr.loadAt t u).run P w=.ok u' w∧RelS w (Mut X.M0 κ) κ s.env u' y∧k y:=by
 obtain⟨n,hs,k1⟩:=zD hk;clear hk;have at_:∀b o,Instr.loadAt t (.pointer (some ⟨b,o,none⟩))=loadVar t ⟨b,o,none⟩:=fun b o=>rfl;cases v with
 |ref r g off=>
  obtain⟨ob,ho,k2⟩:=zD k1;cases hv with|ref _ _ _ _ _ hv=>
  cases ob with
  |agg x=>
   obtain⟨b,hb,rfl⟩:=hv _ ho rfl;obtain⟨b',hb',hbox⟩:=R.obs r g _ ho;rw[hb]at hb';injection hb' with hb';injection hb' with hb';subst hb';obtain⟨u',y,h1,h2,h3⟩:=z3P (o:=0) hs k2 hbox.lies;rw[Nat.zero_add]at h1;exact⟨u',_,by rw[at_];exact h1,.d _ _ h2,h3⟩
  |box cs=>
   obtain⟨b,hb,rfl⟩:=hv _ ho rfl;obtain⟨b',hb',hbox⟩:=R.obs r g _ ho;rw[hb]at hb';injection hb' with hb';injection hb' with hb';subst hb';obtain⟨u',y,h1,h2,h3⟩:=z7G hs k2 (fun i c hc=>by obtain⟨v,q1,q2,q3,q4⟩:=hbox i c hc;exact⟨v,q1,q2,q3⟩) (fun c v _ _ h=>h);exact⟨u',_,by rw[at_];exact h1,h2,h3⟩
  |_=>exact k2.elim
 |rref r g m i off=>
  obtain⟨ob,ho,k2⟩:=zD k1;cases hv with|rref _ _ _ _ _ _ _ hv=>
  cases ob with
  |row n' xs=>
   obtain⟨hm,k3⟩:=zG k2;obtain rfl:=vX hm;obtain⟨x,hx,k4⟩:=k3;obtain⟨sh,-,k5⟩:=zD k4;obtain⟨y,k6,k7⟩:=z4m k5;obtain⟨b,hb,rfl⟩:=hv _ ho rfl;obtain⟨b',hb',hbox,hsz⟩:=R.obs r g _ ho;rw[hb]at hb';injection hb' with hb';injection hb' with hb';subst hb';have:=(hbox.lies).elem hsz hx;obtain⟨u',h1,h2⟩:=z5G (o:=0+i*m) hs k6 this;rw[Nat.zero_add]at h1;exact⟨u',_,by rw[at_];exact h1,.d _ _ h2,k7⟩
  |_=>exact k2.elim
 |iel x off=>
  cases hv with|iel b o _ _ hv=>
  obtain⟨u',y,h1,h2,h3⟩:=z3P hs k1 hv.lies;exact⟨u',_,by rw[at_];exact h1,.d _ _ h2,h3⟩
 |hp id off=>
  obtain⟨cs,hc,k2⟩:=zD k1;cases hv with|hp b _ _ hv=>
  obtain⟨b',hb',hcells⟩:=R.heap id cs hc;rw[hv]at hb';injection hb' with hb';injection hb' with hb';subst hb';rcases zT k2 with⟨ha,k3⟩|⟨ha,k3⟩
  ·obtain⟨hl,k4⟩:=zG k3;have hl:=z7s hl;obtain⟨vs,g1,g2,g3,g4⟩:=LiesS.list (w:=w) (M:=Mut X.M0 κ) (κ:=κ) (E:=s.env) (b:=b) (cs:=z0F ((cs.drop off).take n)) (o:=off) (fun i c hi=>by
    obtain⟨x,hi2,rfl⟩:=z2z hi;have hi':cs[off+i]?=some x:=by
     rw[List.getElem?_take]at hi2;split at hi2
     ·rw[List.getElem?_drop]at hi2;exact hi2
     ·cases hi2
    obtain⟨v,q1,q2,q3,q4⟩:=hcells _ x hi';refine⟨v,q1,q2,?_⟩;cases x with
    |own m xs=>exact .d _ _ q4.1
    |_=>exact q4.2)
   rw[z2A]at g1;obtain⟨xs,q1,q2,q3,q4⟩:=z4q k4 g4;obtain⟨i,d,h1,h2,h3⟩:=zY hs;refine⟨.agg ⟨vs⟩,_,by rw[at_];exact run_loadVar_mid w b off t vs d g2 h3 (by rw[←z3g h3];exact ha) (by rw[h1];simp[h2,g1];omega),.d _ _ (.agg vs xs (RelVs.mk (by rw[q2,q1]) (fun i v c hv hc=>?_))),q4⟩;have:=q3 i v c hv hc;exact⟨this.sc_of (g3 v (List.mem_of_getElem? hv)),this⟩
  ·obtain⟨c,hcc,k4⟩:=zD k3;obtain⟨v,q1,q2,q3,q4⟩:=hcells off c hcc;refine⟨v,_,by rw[at_];exact gT hs ha q1,?_,k4⟩;cases c with
   |own m xs=>
    refine .lent v id off s.hv m xs q4.1 (Nat.le_refl _) (fun _ b2 cs2 n' xs' hb2 hcs2 hown=>?_);rw[hv]at hb2;injection hb2 with hb2;injection hb2 with hb2;subst hb2;exact q1
   |_=>exact q4.2
 |_=>exact k1.elim
end
end Nt

