import Derived.Test.YtjlohgfmobpfmaaFwL
namespace Nt
open Go
set_option linter.unusedVariables false
set_option linter.unusedSimpArgs false
section
variable {P:Program} {X:Ctx} {κ:Kap} {s:St} {a:Act} {w:World}
theorem uM {t:TypeId} {n b o:Nat} {v:Value} (hs:yO P t=some n) (hv:v.cells.size=n) (h1:∀u∈v.cells.toList,u.oneCell'=true)
  (hc:∀j,j<n→(∃u,zJ w b (o+j)=some u)∧icy w b (o+j)=false):
  (Instr.storeAt t (.pointer (some ⟨b,o,none⟩)) v).run P w=.ok () (w.setCells b o v.cells.toList):=by
 have:=run_storeCells_cells (P:=P) b o v.cells.toList 0 w (fun j hj=>by
   obtain⟨u,hu⟩:=(hc j (by simp at hj;omega)).1;rw[Nat.add_zero];exact Option.isSome_iff_exists.2 ⟨u,hu⟩) (fun j hj=>by
   rw[Nat.add_zero];exact(hc j (by simp at hj;omega)).2) h1
 simp only[Nat.add_zero]at this;simp[Instr.storeAt,Instr.sureAddr,storeVar,Sem.run_bind,vC hs,hv,this]
theorem jC{M:Nat→Nat→Prop}{E:Env}{u:Value}{v:Sv}{k:Sv→Prop}(h:kKeep v k)(hv:RelS w M κ E u v):
  ∃y,k y∧RelS w M κ E u y∧u.oneCell'=true∧(∀n xs,y≠.own n xs)∧y.plain=true:=by
 cases v with
 |d x=>
  obtain⟨h1,h2⟩:=zG h;cases hv with|d _ _ hx=>exact⟨_,h2,.d _ _ hx,hx.one h1,by simp,rfl⟩
 |nilS=>cases hv with|nilS _ he=>exact⟨_,h,.d _ _ he.relV,he.one,by simp,rfl⟩
 |right r g n xs=>cases hv with|right _ _ _ _ _ hx _ _=>exact⟨_,h,.d _ _ hx,hx.one rfl,by simp,rfl⟩
 |lent id off ver n xs=>cases hv with|lent _ _ _ _ _ _ hx _ _=>exact⟨_,h,.d _ _ hx,hx.one rfl,by simp,rfl⟩
 |hp i o=>cases hv with|hp b _ _ hb=>exact⟨_,h,.hp b i o hb,rfl,by simp,rfl⟩
 |fn f x y=>cases hv with|fn _ vs ws _ _ p1 p2 h1 h2=>exact⟨_,h,.fn f vs ws x y p1 p2 h1 h2,rfl,by simp,by simp[Sv.plain,p1,p2]⟩
 |_=>exact h.elim
theorem z2n{M:Nat→Nat→Prop}{E:Env}{u:Value}{v:Sv}{k:D→Prop}(h:kKeep v fun w=>kData w k)(hv:RelS w M κ E u v):
  ∃y,k y∧RelV w M u y∧u.oneCell'=true∧y.sc=true:=by
 obtain⟨y,h1,h2,h3,-⟩:=jC h hv;cases y with
 |d y=>cases h2 with|d _ _ h2=>exact⟨y,h1,h2,h3,h2.sc_of h3⟩
 |_=>exact h1.elim
theorem wP{u:Value}(h:u.oneCell'=true):u.cells=#[u]:=by cases u<;>first|rfl|simp[Value.oneCell']at h
theorem Box.ex{M:Nat→Nat→Prop}{b:Nat}{cs:List D}(h:Box w M b cs)(i:Nat)(hi:i<cs.length):(∃u,zJ w b i=some u)∧icy w b i=false:=by
 obtain⟨v,h1,-,-,-,h2⟩:=h i cs[i] (by simp[hi]);exact⟨⟨v,h1⟩,h2⟩
theorem Box.set {M:Nat→Nat→Prop} {b:Nat} {cs ds:List D} {vs:List Value} {o:Nat} (h:Box w M b cs) (hv:RelVs w M vs ds) (hl:o+ds.length≤cs.length)
  (K:Keeps w M (w.setCells b o vs) M):Box (w.setCells b o vs) M b (setMany cs o ds):=by
 intro i c hc;rw[vF]at hc;have hlen:=hv.length;have hex:∀j,j<vs.length→∃u,zJ w b (o+j)=some u:=fun j hj=>(h.ex _ (by omega)).1;split at hc
 ·rename_i e
  obtain⟨v,g1,g2,g3⟩:=hv.get _ c hc;have hj:i-o<vs.length:=by omega
  have:=vP vs o w hex (i-o) hj;rw[show o+(i-o)=i by omega]at this;have e2:vs[i-o]=v:=by rw[List.getElem?_eq_getElem hj]at g1;exact Option.some.inj g1
  refine⟨v,by rw[this,e2],hv.one v (List.mem_of_getElem? g1),g2,g3.keep K,?_⟩;rw[zS];exact(h.ex i e.2.2).2
 ·rename_i e
  obtain⟨v,g1,g2,g3,g4,g5⟩:=h i c hc;have hi:=(List.getElem?_eq_some_iff.1 hc).1;exact⟨v,by rw[yL _ _ _ _ _ (by omega)];exact g1,g2,g3,g4.keep K,by rw[zS];exact g5⟩
theorem z5H{x:D}{off:Nat}{y:D}(h:off<x.cells.length)(hy:y.sc=true):(x.setC off y).cells=setMany x.cells off [y]:=by
 cases x with
 |agg cs=>rfl
 |_=>
  simp[D.cells]at h;subst h;simp[D.setC,D.cells,setMany];cases y<;>first|rfl|simp[D.sc]at hy
theorem z4R{n:Nat}{y:D}(hy:y.cells.length=n):∀{xs:List D} {i:Nat},yB n xs→i<xs.length→yC (xs.set i y)=setMany (yC xs) (i*n) y.cells
 |[],i,_,h=>by simp at h
 |x::xs,0,hs,h=>by
  have h1:=hs x (by simp);simp only[List.set_cons_zero,yC,Nat.zero_mul];apply List.ext_getElem?;intro k;rw[vF];by_cases hk:k<n
  ·rw[List.getElem?_append_left (by omega),zq1 (by simp;omega)];simp
  ·rw[List.getElem?_append_right (by omega),zq0 (by omega),List.getElem?_append_right (by omega),hy,h1]
 |x::xs,i+1,hs,h=>by
  have h1:=hs x (by simp);have hs':yB n xs:=fun z hz=>hs z (List.mem_cons_of_mem _ hz);simp only[List.set_cons_succ,yC];rw[z4R hy hs' (by simpa using h)];apply List.ext_getElem?;intro k;rw[vF];by_cases hk:k<n
  ·rw[List.getElem?_append_left (by omega),zq0 (by rw[Nat.succ_mul];omega),List.getElem?_append_left (by omega)]
  ·rw[List.getElem?_append_right (by omega),vF,h1];have hfl:=yZ hs';by_cases e:i*n≤k-n∧k-n<i*n+y.cells.length∧k-n<(yC xs).length
   ·rw[zq1 e,zq1 (by rw[Nat.succ_mul,List.length_append,h1];omega),Nat.succ_mul];congr 1;omega
   ·rw[zq0 e,zq0 (by rw[Nat.succ_mul,List.length_append,h1];omega),List.getElem?_append_right (by omega),h1]
theorem z6U{n:Nat}{xs:List D}{i:Nat}{y:D}(h:yB n xs)(hy:y.cells.length=n):yB n (xs.set i y):=fun x hx=>by
 rcases List.mem_or_eq_of_mem_set hx with h1|h1
 ·exact h x h1
 ·rw[h1];exact hy
theorem z8f{M:Nat→Nat→Prop}{E:Env}{u:Value}{r g off:Nat}{ob:Ob}(hv:RelS w M κ E u (.ref r g off))(ho:E.ob r g=some ob)(ht:ob.isTok=false):
  ∃b,κ (.ar r)=some (b,0)∧u=.pointer (some ⟨b,off,none⟩):=by
 cases hv with|ref _ _ _ _ _ hv=>exact hv ob ho ht
theorem z8z{M:Nat→Nat→Prop}{E:Env}{u:Value}{r g n i off:Nat}{ob:Ob}(hv:RelS w M κ E u (.rref r g n i off))(ho:E.ob r g=some ob)(ht:ob.isTok=false):
  ∃b,κ (.ar r)=some (b,0)∧u=.pointer (some ⟨b,i*n+off,none⟩):=by
 cases hv with|rref _ _ _ _ _ _ _ hv=>exact hv ob ho ht
theorem Rel.setHp (R:Rel X κ s a w) {id b off:Nat} {cs ws:List Sv} {vs:List Value} (hc:s.h[id]?=some cs) (hb:κ (.hp id)=some (b,0)) (hl:vs.length=ws.length) (hoff:off+ws.length≤cs.length)
  (hw:∀(i:Nat) v c,vs[i]?=some v→ws[i]?=some c→v.oneCell'=true∧((∃m,c=.own m []∧Emp v)∨((∀n xs,c≠.own n xs)∧c.plain=true∧RelS w (Mut X.M0 κ) κ s.env v c))):
  Rel X κ (s.app ⟨[],[],some (s.h.set id (setMany cs off ws))⟩) a (w.setCells b off vs):=by
 obtain⟨b',hb',hcells⟩:=R.heap id cs hc;rw[hb]at hb';injection hb' with hb';injection hb' with hb';subst hb';have hid:=(List.getElem?_eq_some_iff.1 hc).1;have hex:∀j,j<vs.length→∃u,zJ w b (off+j)=some u:=fun j hj=>by
  obtain⟨v,h1,-⟩:=hcells (off+j) cs[off+j] (by simp[show off+j<cs.length by omega]);exact⟨v,h1⟩
 have T:Stays w (Mut X.M0 κ) κ s.env (w.setCells b off vs) (Mut X.M0 κ) κ (s.app ⟨[],[],some (s.h.set id (setMany cs off ws))⟩).env:=
  Stays.touch R hb vs off hex (fun _=>Nat.le_refl _) (fun k g ob' h=>⟨ob',h,rfl⟩) (.inr (Nat.lt_succ_self _))
 refine R.step T (wL (R.kb _ _ _ hb).2 vs off w) (fun key b' lo h=>by rw[vJ];exact R.kb key b' lo h) R.ki (fun i r h=>?_) (.inl ⟨rfl,rfl⟩) (fun k g ob h=>?_) (fun id' cs' hc'=>?_)
 ·show i<(s.h.set id (setMany cs off ws)).length;rw[List.length_set];exact R.hn i r h
 ·exact RelOb.stay T (R.obs k g ob h) rfl (fun b' lo h'=>vD (fun e=>by subst e;have:=R.ki _ _ _ _ _ h' hb;cases this) vs off w)
 ·change (s.h.set id (setMany cs off ws))[id']?=some cs' at hc';by_cases e:id=id'
  ·subst e;simp[hid]at hc';subst hc';refine⟨b,hb,fun i c hi=>?_⟩;rw[vF]at hi;split at hi
   ·rename_i e
    have hj:i-off<vs.length:=by omega
    obtain⟨h1,hh⟩:=hw _ vs[i-off] c (by simp[hj]) hi;have:=vP vs off w hex (i-off) hj;rw[show off+(i-off)=i by omega]at this;obtain⟨v0,-,-,g3,-⟩:=hcells i cs[i] (by simp[e.2.2]);refine⟨_,this,h1,by rw[zS];exact g3,?_⟩;rcases hh with⟨m,rfl,hv⟩|⟨h3,hpl,h2⟩
    ·exact⟨hv.relV,hv.right⟩
    ·have h4:=RelS.stay T h2;cases c<;>first|exact⟨hpl,h4⟩|exact absurd rfl (h3 _ _)
   ·rename_i e
    obtain⟨v,g1,g2,g3,g4⟩:=hcells i c hi;have hi':=(List.getElem?_eq_some_iff.1 hi).1;exact⟨v,by rw[yL _ _ _ _ _ (by omega)];exact g1,g2,by rw[zS];exact g3,g4.stay T rfl⟩
  ·rw[List.getElem?_set_ne e]at hc';obtain⟨b',h1,h2⟩:=R.heap id' cs' hc';refine⟨b',h1,fun i c hi=>?_⟩;obtain⟨v,g1,g2,g3,g4⟩:=h2 i c hi;have hbl:(w.setCells b off vs).heap[b']?=w.heap[b']?:=vD (fun e'=>by subst e';have:=R.ki _ _ _ _ _ h1 hb;injection this with this;exact e this.symm) vs off w;exact⟨v,by rw[zL hbl];exact g1,g2,by rw[vH hbl];exact g3,g4.stay T rfl⟩
theorem Rel.setOwn (R:Rel X κ s a w) {id b off r g m:Nat} {cs:List Sv} {xs:List D} {v:Value} (hc:s.h[id]?=some cs) (hb:κ (.hp id)=some (b,0)) (hoff:off<cs.length)
  (ho:s.ob r g=some (.tok m xs.length)) (hv:RelV w (Mut X.M0 κ) v (.sl xs)) (hr:RightOK w κ (.ar r) m v xs):
  Rel X (upK (upK κ (.ar r) none) (.ho id off) (κ (.ar r))) (s.app ⟨[],[(r,g,none)],some (s.h.set id (cs.set off (.own m xs)))⟩) a (w.setCells b off [v]):=by
 obtain⟨b',hb',hcells⟩:=R.heap id cs hc;rw[hb]at hb';injection hb' with hb';injection hb' with hb';subst hb';have hid:=(List.getElem?_eq_some_iff.1 hc).1;have hl:=ob_iff.1 (show s.env.ob r g=some (.tok m xs.length)from ho);have hex:∀j,j<[v].length→∃u,zJ w b (off+j)=some u:=fun j hj=>by
  simp at hj;subst hj;obtain⟨v,h1,-⟩:=hcells off cs[off] (by simp[hoff]);exact⟨v,h1⟩
 have hκ:∀k q,upK (upK κ (.ar r) none) (.ho id off) (κ (.ar r)) k=some q→(k=.ho id off∧κ (.ar r)=some q)∨(k≠.ho id off∧k≠.ar r∧κ k=some q):=fun k q h=>by
  by_cases e:k=.ho id off
  ·subst e;rw[yV]at h;exact .inl ⟨rfl,h⟩
  ·rw[zI _ _ e]at h;by_cases e':k=.ar r
   ·subst e';simp at h
   ·rw[zI _ _ e']at h;exact .inr ⟨e,e',h⟩
 have hκne:∀k,k≠.ho id off→k≠.ar r→upK (upK κ (.ar r) none) (.ho id off) (κ (.ar r)) k=κ k:=fun k h1 h2=>by rw[zI _ _ h1,zI _ _ h2]
 have T:Stays w (Mut X.M0 κ) κ s.env (w.setCells b off [v]) (Mut X.M0 (upK (upK κ (.ar r) none) (.ho id off) (κ (.ar r)))) (upK (upK κ (.ar r) none) (.ho id off) (κ (.ar r)))
   (s.app ⟨[],[(r,g,none)],some (s.h.set id (cs.set off (.own m xs)))⟩).env:=
  {keeps:=⟨fun b' o' v' h hm=>by
     have:b'≠b:=fun e=>hm (by subst e;exact .inr ⟨_,0,hb,Nat.zero_le _⟩);rw[yL _ _ _ _ _ (.inl this)];exact h,fun b' o' v' _ hm hm'=>hm (by
     rcases hm' with h|⟨k,lo,hk,hlo⟩
     ·exact .inl h
     ·rcases hκ k _ hk with⟨-,h⟩|⟨-,-,h⟩
      ·exact .inr ⟨_,lo,h,hlo⟩
      ·exact .inr ⟨_,lo,h,hlo⟩)⟩
   hp:=fun i b' h=>by rw[hκne _ (by simp) (by simp)];exact h
   gen:=fun k=>by
    show(zC s.ar k).1≤(zC ((r,g,none)::s.ar) k).1;rw[zA];split
    ·rename_i e;subst e;change zC s.ar r=_ at hl;rw[hl];exact Nat.le_refl _
    ·exact Nat.le_refl _
   ob:=fun k g' ob' _ h=>by
    rw[ob_iff]at h;change zC ((r,g,none)::s.ar) k=(g',some ob')at h;rw[zA]at h;split at h
    ·injection h with _ h;cases h
    ·rename_i e;exact⟨ob',ob_iff.2 h,.inl ⟨rfl,hκne _ (by simp) (by intro h;injection h with h;exact e h.symm)⟩⟩
   ex:=fun b' o' v' h=>uN _ _ _ hex b' o' v' h
   ic:=fun b' o' v' h hi=>by rw[zS];exact hi
   hvle:=Nat.le_succ _
   lent:=fun e=>by change s.hv+1=s.hv at e;omega}
 have hne:∀b',(∃k lo,κ k=some (b',lo)∧k≠.hp id)→(w.setCells b off [v]).heap[b']?=w.heap[b']?:=fun b' ⟨k,lo,hk,hkn⟩=>vD (fun e=>by subst e;exact hkn (R.ki _ _ _ _ _ hk hb)) _ _ _;refine R.step T (wL (R.kb _ _ _ hb).2 _ _ _) (fun key b' lo h=>?_) (fun k1 k2 b' l1 l2 h1 h2=>?_) (fun i q h=>?_) (.inl ⟨rfl,rfl⟩) (fun k g' ob h=>?_) (fun id' cs' hc'=>?_)
 ·rw[vJ];rcases hκ key _ h with⟨-,h⟩|⟨-,-,h⟩<;>exact R.kb _ _ _ h
 ·rcases hκ k1 _ h1 with⟨e1,h1⟩|⟨n1,m1,h1⟩<;>rcases hκ k2 _ h2 with⟨e2,h2⟩|⟨n2,m2,h2⟩
  ·rw[e1,e2]
  ·exact absurd (R.ki _ _ _ _ _ h2 h1) m2
  ·exact absurd (R.ki _ _ _ _ _ h1 h2) m1
  ·exact R.ki _ _ _ _ _ h1 h2
 ·show i<(s.h.set id (cs.set off (.own m xs))).length;rw[List.length_set];rw[hκne _ (by simp) (by simp)]at h;exact R.hn i q h
 ·have h':=ob_iff.1 (show(s.app ⟨[],[(r,g,none)],some (s.h.set id (cs.set off (.own m xs)))⟩).env.ob k g'=some ob from h);change zC ((r,g,none)::s.ar) k=(g',some ob)at h';rw[zA]at h';split at h'
  ·injection h' with _ h';cases h'
  ·rename_i e
   have hkr:Key.ar k≠.ar r:=by intro h;injection h with h;exact e h.symm
   exact RelOb.stay T (R.obs k g' ob (show s.env.ob k g'=some ob from ob_iff.2 h')) (hκne _ (by simp) hkr) (fun b' lo hb'=>hne b' ⟨_,lo,hb',by simp⟩)
 ·change (s.h.set id (cs.set off (.own m xs)))[id']?=some cs' at hc';have hother:∀i c b1,κ (.hp id')=some (b1,0)→(∃v,zJ w b1 i=some v∧v.oneCell'=true∧icy w b1 i=false∧RelHc w (Mut X.M0 κ) κ s.env id' i v c)→(id'≠id∨i≠off) →
    ∃v',zJ (w.setCells b off [v]) b1 i=some v'∧v'.oneCell'=true∧icy (w.setCells b off [v]) b1 i=false∧RelHc (w.setCells b off [v]) (Mut X.M0 (upK (upK κ (.ar r) none) (.ho id off) (κ (.ar r)))) (upK (upK κ (.ar r) none) (.ho id off) (κ (.ar r)))
     (s.app ⟨[],[(r,g,none)],some (s.h.set id (cs.set off (.own m xs)))⟩).env id' i v' c:=by
   intro i c b1 hb1 ⟨v',g1,g2,g3,g4⟩ hdiff;refine⟨v',?_,g2,by rw[zS];exact g3,g4.stay T (hκne _ (by intro h;injection h with h1 h2;exact hdiff.elim (fun h=>h h1) (fun h=>h h2)) (by simp))⟩;rw[yL];exact g1;by_cases e:b1=b
   ·subst e;have:=R.ki _ _ _ _ _ hb1 hb;injection this with this;rcases hdiff with h|h
    ·exact absurd this h
    ·simp;omega
   ·exact .inl e
  by_cases e:id=id'
  ·subst e;simp[hid]at hc';subst hc';refine⟨b,by rw[hκne _ (by simp) (by simp)];exact hb,fun i c hi=>?_⟩;by_cases ei:off=i
   ·subst ei;simp[hoff]at hi;subst hi;have:=vP [v] off w hex 0 (by simp);simp at this;obtain⟨v0,-,-,g3,-⟩:=hcells off cs[off] (by simp[hoff]);refine⟨v,this,hv.one rfl,by rw[zS];exact g3,hv.keep T.keeps,hr.1,?_⟩;rcases hr.2 with h|h|⟨b1,o1,cap,h1,h|⟨h2,h3⟩⟩
    ·exact .inl h
    ·exact .inr (.inl h)
    ·exact .inr (.inr ⟨b1,o1,cap,h1,.inl h⟩)
    ·exact .inr (.inr ⟨b1,o1,cap,h1,.inr ⟨by rw[yV];exact h2,fun j hj=>let ⟨⟨u,hu⟩,hi⟩:=h3 j hj;⟨T.ex _ _ u hu,T.ic _ _ u hu hi⟩⟩⟩)
   ·rw[List.getElem?_set_ne ei]at hi;exact hother i c b hb (hcells i c hi) (.inr (fun h=>ei h.symm))
  ·rw[List.getElem?_set_ne e]at hc';obtain⟨b',h1,h2⟩:=R.heap id' cs' hc';exact⟨b',by rw[hκne _ (by simp) (by simp)];exact h1,fun i c hi=>hother i c b' h1 (h2 i c hi) (.inl (fun h=>e h.symm))⟩
end
end Nt

