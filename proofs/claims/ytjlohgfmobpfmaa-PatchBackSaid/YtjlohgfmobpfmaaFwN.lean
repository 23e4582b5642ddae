import Derived.Test.YtjlohgfmobpfmaaFwM
namespace Nt
open Go
set_option linter.unusedVariables false
set_option linter.unusedSimpArgs false
section
variable {P:Program} {X:Ctx} {κ:Kap} {s:St} {a:Act} {w:World}
theorem z4p{x:D}{k:List D→Prop}(h:kCs x k):∃cs,x=.agg cs∧k cs:=by
 cases x<;>first|exact h.elim|exact⟨_,rfl,h⟩
theorem z5x{n:Nat}{x:D}{k:List Sv→Prop}(h:kCells n x k):∃cs,x=.agg cs∧cs.length=n∧k (cs.map .d):=by
 cases x<;>first|exact h.elim|exact⟨_,rfl,vX (zG h).1,(zG h).2⟩
theorem Rel.store1 (R:Rel X κ s a w) {t:TypeId} {n r g:Nat} {ob ob':Ob} {b off:Nat} {u:Value} (hs:yO P t=some n) (ho:s.ob r g=some ob) (hb:κ (.ar r)=some (b,0)) (hsh:ob.shape=ob'.shape)
  (hn:u.cells.size=n) (h1:∀v∈u.cells.toList,v.oneCell'=true) (hex:∀j,j<n→(∃u,zJ w b (off+j)=some u)∧icy w b (off+j)=false)
  (hnew:∀E',E'=(s.app (z1Y r g (some ob'))).env→Stays w (Mut X.M0 κ) κ s.env (w.setCells b off u.cells.toList) (Mut X.M0 κ) κ E'→RelOb (w.setCells b off u.cells.toList) (Mut X.M0 κ) κ E' r ob'):
  ∃w',(Instr.storeAt t (.pointer (some ⟨b,off,none⟩)) u).run P w=.ok () w'∧Rel X κ (s.app (z1Y r g (some ob'))) a w' :=
 ⟨_,uM hs hn h1 hex,R.setOb ho hb hsh _ off (fun j hj=>(hex j (by simp at hj;omega)).1) hnew⟩
theorem z3V:∀(l:List (Nat×Nat)) (ws:List Sv) (i:Nat) (c:Sv),(z4u l ws)[i]?=some c→(ws[i]?=some c∨∃n,(i,n)∈l∧c=.own n [])
 |[],ws,i,c,h=>.inl h
 |(j,n)::r,ws,i,c,h=>by
  rcases z3V r _ i c h with g|⟨m,h1,h2⟩
  ·clear h;rw[List.getElem?_set]at g;split at g
   ·rename_i e;subst e
    split at g
    ·injection g with g;exact .inr ⟨n,by simp,g.symm⟩
    ·cases g
   ·exact .inl g
  ·exact .inr ⟨m,List.mem_cons_of_mem _ h1,h2⟩
theorem z1J:∀(l:List (Nat×Nat)) (ws:List Sv),(z4u l ws).length=ws.length
 |[],ws=>rfl
 |(j,n)::r,ws=>by rw[z4u,z1J r];simp
theorem z4U{M:Nat→Nat→Prop}{κ:Kap}{E:Env}{n:Nat}{v:Value}{sv:Sv}{k:List Sv→Prop}(h:kBld n sv k)(hv:RelS w M κ E v sv):
  ∃ws,k ws∧ws.length=n∧v.cells.toList.length=ws.length∧∀(i:Nat) u c,v.cells.toList[i]?=some u→ws[i]?=some c →
   u.oneCell'=true∧((∃m,c=.own m []∧Emp u)∨((∀m xs,c≠.own m xs)∧c.plain=true∧RelS w M κ E u c)):=by
 have base:∀{x:D} {k:List Sv→Prop},RelV w M v x→kCells n x k→∃cs,x=.agg cs∧cs.length=n∧k (cs.map .d)∧v.cells.toList.length=(cs.map Sv.d).length∧∀(i:Nat) u c,v.cells.toList[i]?=some u→(cs.map Sv.d)[i]?=some c→u.oneCell'=true∧(∀m xs,c≠.own m xs)∧c.plain=true∧RelS w M κ E u c:=by
  intro x k hx hk;obtain⟨cs,rfl,hn,hk⟩:=z5x hk;have hc:=hx.cells;refine⟨cs,rfl,hn,hk,by simpa [D.cells]using hc.length,fun i u c hu hcc=>?_⟩;rw[List.getElem?_map]at hcc;cases hi:cs[i]? with
  |none=>rw[hi]at hcc;cases hcc
  |some d=>
   rw[hi]at hcc;cases hcc;obtain⟨u',g1,g2,g3⟩:=hc.get i d hi;rw[hu]at g1;cases g1;exact⟨g3.one g2,by simp,rfl,.d _ _ g3⟩
 cases sv with
 |bld x l=>
  cases hv with|bld _ _ _ hx hn=>
  obtain⟨cs,rfl,hn0,hk,h1,h2⟩:=base (k:=fun ws=>k (z4u l ws)) hx h;refine⟨_,hk,by rw[z1J];simpa using hn0,by rw[z1J];exact h1,fun i u c hu hcc=>?_⟩;rcases z3V l _ i c hcc with hcc|⟨m,hm,rfl⟩
  ·obtain⟨q1,q2,q3,q4⟩:=h2 i u c hu hcc;exact⟨q1,.inr ⟨q2,q3,q4⟩⟩
  ·obtain⟨vs,u',rfl,hvs,he⟩:=hn i m hm;have:u=u':=by
    have e:(Value.agg ⟨vs⟩).cells.toList[i]?=vs[i]?:=rfl;rw[e,hvs]at hu;cases hu;rfl
   subst this;exact⟨he.one,.inl ⟨m,rfl,he⟩⟩
 |_=>
  simp only[kBld]at h;obtain⟨x,hx,hk⟩:=yA h hv;obtain⟨cs,rfl,hn0,hk,h1,h2⟩:=base hx hk;exact⟨_,hk,by simpa using hn0,h1,fun i u c hu hcc=>by obtain⟨q1,q2,q3,q4⟩:=h2 i u c hu hcc;exact⟨q1,.inr ⟨q2,q3,q4⟩⟩⟩
theorem z6u(R:Rel X κ s a w){t:TypeId}{ua uv:Value}{va vv:Sv}{k:zQ→Prop}(hk:jD P t s va vv k)(ha:RelS w (Mut X.M0 κ) κ s.env ua va)(hv:RelS w (Mut X.M0 κ) κ s.env uv vv):
  ∃p κ' w',(Instr.storeAt t ua uv).run P w=.ok () w'∧k p∧Rel X κ' (s.app p) a w':=by
 obtain⟨n,hs,k1⟩:=zD hk;clear hk;cases va with
 |ref r g off=>
  obtain⟨ob,ho,k2⟩:=zD k1;cases ob with
  |agg x=>
   obtain⟨b,hb,rfl⟩:=z8f ha ho rfl;obtain⟨b',hb',hbox⟩:=R.obs r g _ ho;rw[hb]at hb';injection hb' with hb';injection hb' with hb';subst hb';rcases zT k2 with⟨-,k3⟩|⟨-,k3⟩
   ·by_cases hcell:∃ws,vv=.cells ws
    ·obtain⟨ws,rfl⟩:=hcell;obtain⟨cs,rfl,k4⟩:=z4p k3;obtain⟨hl,k5⟩:=zG k4;simp only[Bool.and_eq_true]at hl;obtain⟨⟨⟨hl1,hl2⟩,hl3⟩,hl4⟩:=hl;have hl1:=vX hl1;have hl2:=vX hl2;have hl3:=vX hl3;subst hl1;cases hv with
     |cells vs _ hvs=>
      have hvl:vs.length=ws.length:=RelSs.len' hvs;have hget:=RelSs.get' hvs;have hone:∀(i:Nat) u c,vs[i]?=some u→ws[i]?=some c→u.oneCell'=true:=fun i u c hu hc=>by
       obtain⟨u',h1,h2⟩:=hget i c hc;rw[hu]at h1;injection h1 with h1;subst h1;have hk:=List.all_eq_true.1 hl4 c (List.mem_of_getElem? hc);cases h2 with
       |d _ _ h=>exact h.one hk
       |row _ k' g' q1 q2=>
        unfold z1G at hk;dsimp only at hk;split at hk
        ·rename_i n' xs' ho'
         obtain⟨b',cap,rfl,-⟩:=q2 _ _ ho';rfl
        ·cases hk
       |_=>cases hk
      have hones:∀u∈(Value.agg ⟨vs⟩).cells.toList,u.oneCell'=true:=fun u hu=>by
       have hu:u∈vs:=hu;obtain⟨i,hi⟩:=List.getElem?_of_mem hu;have hlt:=(List.getElem?_eq_some_iff.1 hi).1;exact hone i u ws[i] hi (List.getElem?_eq_getElem (by omega))
      obtain⟨w',h1,h2⟩:=R.store1 (ob':=.box ws) (off:=0) hs ho hb rfl (by show vs.length=n;omega) hones (fun j hj=>hbox.ex _ (by simp[D.cells];omega)) (fun E' _ T=>by
       refine⟨b,hb,fun i c hi=>?_⟩;obtain⟨u,q1,q2⟩:=hget i c hi;have hlt:=(List.getElem?_eq_some_iff.1 q1).1;have hin:=vP vs 0 w (fun j hj=>(hbox.ex _ (by simp[D.cells];omega)).1) i hlt;rw[Nat.zero_add]at hin;have e:vs[i]=u:=by rw[List.getElem?_eq_getElem hlt]at q1;exact Option.some.inj q1
       rw[e]at hin;exact⟨u,hin,hone i u c q1 hi,RelS.stay T q2,by rw[zS];exact(hbox.ex i (by simp[D.cells];omega)).2⟩)
      exact⟨_,_,w',h1,k5,h2⟩
    replace k3:kCs x fun cs=>kIf (Nat.ble (off+n) cs.length) (kD vv fun y=>kCs y fun ds=>kIf (Nat.beq ds.length n) (k (z1Y r g (some (.agg (.agg (setMany cs off ds))))))):=by
     cases vv with
     |cells ws=>exact absurd ⟨ws,rfl⟩ hcell
     |_=>exact k3
    obtain⟨cs,rfl,k4⟩:=z4p k3;obtain⟨hl,k5⟩:=zG k4;have hl:=z7s hl;obtain⟨y,hy,k6⟩:=yA k5 hv;obtain⟨ds,rfl,k7⟩:=z4p k6;obtain⟨hl2,k8⟩:=zG k7;have hl2:=vX hl2;have hyc:=hy.cells;obtain⟨w',h1,h2⟩:=R.store1 (ob':=.agg (.agg (setMany cs off ds))) (off:=off) hs ho hb rfl (by have:=hyc.length;simp[D.cells]at this;omega) hyc.one (fun j hj=>hbox.ex _ (by simp[D.cells];omega)) (fun E' _ T=>by
     have:=hbox.set (o:=off) hyc (by simp[D.cells];omega) T.keeps;simp only[D.cells]at this;exact⟨b,hb,this⟩)
    exact⟨_,_,w',h1,k8,h2⟩
   ·obtain⟨hn,k4⟩:=zG k3;obtain rfl:=vX hn;obtain⟨hlt,k5⟩:=zG k4;have hlt:=z3b hlt;obtain⟨y,k6,hy,hone,hsc⟩:=z2n k5 hv;have hc1:=wP hone;have hyc:RelVs w (Mut X.M0 κ) uv.cells.toList [y]:=by rw[hc1];exact .cons _ _ _ _ hsc hy .nil
    obtain⟨w',h1,h2⟩:=R.store1 (ob':=.agg (x.setC off y)) (off:=off) hs ho hb rfl (by rw[hc1];rfl) hyc.one (fun j hj=>hbox.ex _ (by omega)) (fun E' _ T=>by
     have:=hbox.set (o:=off) hyc (by simp;omega) T.keeps;rw[←z5H hlt hsc]at this;exact⟨b,hb,this⟩)
    exact⟨_,_,w',h1,k6,h2⟩
  |box cs=>
   obtain⟨b,hb,rfl⟩:=z8f ha ho rfl;obtain⟨b',hb',hbox⟩:=R.obs r g _ ho;rw[hb]at hb';injection hb' with hb';injection hb' with hb';subst hb';rcases zT k2 with⟨-,k3⟩|⟨-,k3⟩
   ·exact k3.elim
   ·obtain⟨hn,k4⟩:=zG k3;obtain rfl:=vX hn;obtain⟨hlt,k5⟩:=zG k4;have hlt:=z3b hlt;obtain⟨y,k6,hy,hone,-⟩:=jC k5 hv;have hc1:=wP hone;have hex:∀i,i<cs.length→(∃u,zJ w b i=some u)∧icy w b i=false:=fun i hi=>by
     obtain⟨v,q1,-,-,q2⟩:=hbox i cs[i] (by simp[hi]);exact⟨⟨v,q1⟩,q2⟩
    obtain⟨w',h1,h2⟩:=R.store1 (ob':=.box (cs.set off y)) (off:=off) hs ho hb rfl (by rw[hc1];rfl) (by rw[hc1];simpa using hone) (fun j hj=>hex _ (by omega)) (fun E' _ T=>by
     refine⟨b,hb,fun i c hi=>?_⟩;rw[hc1];by_cases e:off=i
     ·subst e;simp[hlt]at hi;subst hi;have:=vP [uv] off w (fun j hj=>by simp at hj;subst hj;exact(hex _ hlt).1) 0 (by simp);simp at this;refine⟨uv,this,hone,?_,by rw[zS];exact(hex _ hlt).2⟩;have:=RelS.stay T hy;rw[hc1]at this;exact this
     ·rw[List.getElem?_set_ne e]at hi;obtain⟨v,q1,q2,q3,q4⟩:=hbox i c hi;refine⟨v,by rw[yL _ _ _ _ _ (by simp;omega)];exact q1,q2,?_,by rw[zS];exact q4⟩;have:=RelS.stay T q3;rw[hc1]at this;exact this)
    exact⟨_,_,w',h1,k6,h2⟩
  |_=>exact k2.elim
 |rref r g m i off=>
  obtain⟨ob,ho,k2⟩:=zD k1;cases ob with
  |row n' xs=>
   obtain⟨hm,k3⟩:=zG k2;obtain rfl:=vX hm;obtain⟨h0,k4⟩:=zG k3;obtain rfl:=vX h0;obtain⟨hmn,hi,k5⟩:=zG k4;obtain rfl:=vX hmn;obtain⟨b,hb,rfl⟩:=z8z ha ho rfl;obtain⟨b',hb',hbox,hsz⟩:=R.obs r g _ ho;rw[hb]at hb';injection hb' with hb';injection hb' with hb';subst hb';have hfl:=yZ hsz;have hle:(i+1)*m≤xs.length*m:=Nat.mul_le_mul_right _ hi;rw[Nat.succ_mul]at hle
   have fin:∀y:D,RelVs w (Mut X.M0 κ) uv.cells.toList y.cells→y.cells.length=m→(nam (xs.set i y) fun zs=>k (z1Y r g (some (.row m zs))))→∃p κ' w',(Instr.storeAt t (.pointer (some ⟨b,i*m+0,none⟩)) uv).run P w=.ok () w'∧k p∧Rel X κ' (s.app p) a w':=by
    intro y hyc hyl hk0;have hk:=yF hk0;obtain⟨w',h1,h2⟩:=R.store1 (ob':=.row m (xs.set i y)) (off:=i*m+0) hs ho hb (by simp[Ob.shape]) (by have:=hyc.length;simp at this;omega) hyc.one (fun j hj=>hbox.ex _ (by omega)) (fun E' _ T=>by
     have:=hbox.set (o:=i*m+0) hyc (by omega) T.keeps;refine⟨b,hb,?_,z6U hsz hyl⟩;rw[z4R hyl hsz hi];exact this)
    exact⟨_,_,w',h1,hk,h2⟩
   rcases zT k5 with⟨-,k6⟩|⟨-,k6⟩
   ·obtain⟨y,hy,k7⟩:=yA k6 hv;obtain⟨ds,rfl,hl2,k8⟩:=jP k7;exact fin _ hy.cells hl2 k8
   ·obtain⟨hn,k7⟩:=zG k6;obtain rfl:=vX hn;obtain⟨y,k8,hy,hone,hsc⟩:=z2n k7 hv;exact fin y hy.cells (by cases y<;>first|rfl|simp[D.sc]at hsc) k8
  |_=>exact k2.elim
 |hp id off=>
  obtain⟨cs,hc,k2⟩:=zD k1;cases ha with|hp b _ _ hb=>
  obtain⟨b',hb',hcells⟩:=R.heap id cs hc;rw[hb]at hb';injection hb' with hb';injection hb' with hb';subst hb';have hex:∀i,i<cs.length→(∃u,zJ w b i=some u)∧icy w b i=false:=fun i hi=>by
   obtain⟨v,q1,-,q2,-⟩:=hcells i cs[i] (by simp[hi]);exact⟨⟨v,q1⟩,q2⟩
  rcases zT k2 with⟨-,k3⟩|⟨-,k3⟩
  ·obtain⟨hle,k4⟩:=zG k3;have hle:=z7s hle;obtain⟨ws,k6,hl,hlen,hws⟩:=z4U k4 hv;have hone:∀v∈uv.cells.toList,v.oneCell'=true:=fun v hv=>by
    obtain⟨i,hi,hvi⟩:=List.getElem_of_mem hv;have h1:ws[i]?=some ws[i]:=List.getElem?_eq_getElem (by omega);exact(hws i v _ (by rw[List.getElem?_eq_getElem hi,hvi]) h1).1
   refine⟨_,κ,_,uM (o:=off) hs (by simp at hlen;omega) hone (fun j hj=>hex _ (by simp at hlen;omega)),k6,R.setHp hc hb hlen (by omega) hws⟩
  ·obtain⟨hn,k4⟩:=zG k3;obtain rfl:=vX hn;obtain⟨hlt,k5⟩:=zG k4;have hlt:=z3b hlt;have keep:kKeep vv (fun w=>k ⟨[],[],some (s.h.set id (cs.set off w))⟩)→∃p κ' w',(Instr.storeAt t (.pointer (some ⟨b,off,none⟩)) uv).run P w=.ok () w'∧k p∧Rel X κ' (s.app p) a w':=by
    intro hk;obtain⟨y,k6,hy,hone,hno,hpl⟩:=jC hk hv;have hc1:=wP hone;have hrun:=uM (o:=off) hs (by rw[hc1];rfl) (by rw[hc1];simpa using hone) (fun j hj=>hex (off+j) (by omega));rw[hc1]at hrun;refine⟨_,κ,_,hrun,k6,?_⟩;exact R.setHp (ws:=[y]) hc hb rfl (by simp;omega) (fun i v c hi hci=>by
     cases i with
     |zero=>simp at hi hci;subst hi;subst hci;exact⟨hone,.inr ⟨hno,hpl,hy⟩⟩
     |succ i=>simp at hi)
   cases vv with
   |right r g m xs=>
    obtain⟨ob,ho,k6⟩:=zD k5;cases ob with
    |tok m' l=>
     obtain⟨hm,hl,k7⟩:=zG k6;obtain rfl:=vX hm;subst hl;cases hv with|right _ _ _ _ _ hv hg hr=>
     obtain⟨-,-,hr⟩:=hr _ _ ho;have hone:=hv.one rfl;have hc1:=wP hone;have hrun:=uM (o:=off) hs (by rw[hc1];rfl) (by rw[hc1];simpa using hone) (fun j hj=>hex (off+j) (by omega));rw[hc1]at hrun;exact⟨_,_,_,hrun,k7,R.setOwn hc hb hlt ho hv (hr rfl)⟩
    |_=>exact k6.elim
   |_=>exact keep k5
 |_=>exact k1.elim
end
end Nt

