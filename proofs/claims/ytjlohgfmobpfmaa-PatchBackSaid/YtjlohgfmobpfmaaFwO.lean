import Derived.Test.YtjlohgfmobpfmaaFwN
namespace Nt
open Go
set_option linter.unusedVariables false
set_option linter.unusedSimpArgs false
section
variable {P:Program} {X:Ctx} {κ:Kap} {s:St} {a:Act} {w:World}
theorem Rel.drew(R:Rel X κ s a w):Rel X κ s a w.drew:=by
 have K:Keeps w (Mut X.M0 κ) w.drew (Mut X.M0 κ):=⟨fun _ _ _ h _=>h,fun _ _ _ _ h=>h⟩;have T:Stays w (Mut X.M0 κ) κ s.env w.drew (Mut X.M0 κ) κ s.env:=
  {keeps:=K,hp:=fun _ _ h=>h,gen:=fun _=>Nat.le_refl _,ob:=fun k g ob' _ h=>⟨ob',h,.inl ⟨rfl,rfl⟩⟩,
   ex:=fun _ _ v h=>⟨v,h⟩,ic:=fun _ _ _ _ h=>h,hvle:=Nat.le_refl _,lent:=fun _=>⟨rfl,fun _ _ _ _ _ _ _ h _ _=>⟨h,fun h=>h⟩⟩}
 have:=R.step (p:=⟨[],[],none⟩) (a':=a) T ⟨rfl,rfl,rfl,Nat.le_refl _,fun _ _ _=>rfl⟩ R.kb R.ki R.hn (.inl ⟨rfl,rfl⟩) (fun k g ob h=>RelOb.stay T (R.obs k g ob h) rfl (fun _ _ _=>rfl)) (RelH.stay T R.heap rfl (fun _ _=>rfl) (fun _ _ _ _=>rfl));exact this
theorem z5l (R:Rel X κ s a w) {t tx ty e e':TypeId} {i:TypeInfo} {z:Value} {n:Nat} (ht:P.underlying t=some (.slice e)) (htx:P.underlying tx=some (.slice e')) (hi:P.info? e=some i) (hn:i.size=n) (hz:i.zero=some z) (hzn:z.cells.size=n)
  {v x:Value} {ys:List D} (hv:Emp v) (hx:RelV w (Mut X.M0 κ) x (.sl ys)) (hys:yB n ys) (hpos:0<ys.length) (hroom:z3e i.bytes ys.length) {d:Nat} (hd:d<s.n):
  ∃κ' v' w',(Builtin.append_ #[t,tx] ty #[v,x]).run P w=.ok v' w'∧Rel X κ' (s.app ⟨[(d,.row d (s.gen d+1))],[(d,s.gen d+1,some (.row n ys))],none⟩) (a.put (some d) v') w':=by
 subst hn;obtain⟨hr1,hr2⟩:=hroom;obtain⟨news,hsrc,hl,hnews⟩:=z6X htx hx hys;have hfy:=yZ hys;have go:∀cap,ys.length≤cap→∀rest:Array Value,∃κ',Rel X κ' (s.app ⟨[(d,.row d (s.gen d+1))],[(d,s.gen d+1,some (.row i.size ys))],none⟩) (a.put (some d) (.slice (some ⟨w.heap.size,0,none⟩) (0+ys.length) cap)) (zH w.drew ((([]:List Value)++news).toArray++rest) e):=by
  intro cap hcap rest;refine R.drew.newAr hd _ e 0 (.row i.size ys) _ _ (fun κ' M' E' hκ hM hE K T=>?_);subst hκ;refine⟨⟨w.heap.size,by rw[yV];rfl,fun j c hc=>?_,hys⟩,?_⟩
  ·have hj:j<news.length:=by rw[hl];exact(List.getElem?_eq_some_iff.1 hc).1
   have hu:news[j]?=some news[j]:=List.getElem?_eq_getElem hj;obtain⟨h1,h2⟩:=hnews j _ c hu hc;refine⟨news[j],?_,?_,h1,?_,wH (w:=w.drew) j⟩
   ·have:=vI (w:=w.drew) (cs:=(([]:List Value)++news).toArray++rest) (e:=e) j;rw[show w.drew.heap.size=w.heap.size from rfl]at this;rw[this,Array.getElem?_append_left (by simpa using hj)];simp[hj]
   ·exact h2.one h1
   ·exact(RelV.keep (w:=w) (M:=Mut X.M0 κ) (w':=w.drew) (M':=Mut X.M0 κ) ⟨fun _ _ _ h _=>h,fun _ _ _ _ h=>h⟩ h2).keep K
  ·refine .row _ _ _ (by rw[hE,z0p];exact Nat.le_refl _) (fun n' xs' h'=>?_);rw[hE,ob_iff]at h';change zC ((d,s.gen d+1,some (.row i.size ys))::s.ar) d=_ at h';rw[zA,zq1 rfl]at h';injection h' with _ h';injection h' with h';injection h' with h1 h2;subst h2;exact⟨w.heap.size,cap,by rw[Nat.zero_add],by rw[yV];rfl,hcap⟩
 rcases hv with rfl|⟨a0,rfl⟩
 ·have hold:(Builtin.firstCells i.size 0 (.slice none 0 0)).run P w.drew=.ok ([]:List Value).toArray w.drew:=by simpa using run_firstCells_none w.drew i.size 0 0 0
  have hg:=run_append_grow_src w t tx ty e i z ht hi hz none 0 0 [] hold x ys.length news hsrc (by omega) (by simp;omega) (growslice_fits (by omega) (by simpa using hr1));obtain⟨κ',R'⟩:=go (grownCap w (0+ys.length) 0 e) (by have:=grownCap_ge w (0+ys.length) 0 e;omega) (Builtin.zeroCells z.cells (grownCap w (0+ys.length) 0 e-(0+ys.length)));exact⟨κ',_,_,hg,R'⟩
 ·have hold:(Builtin.firstCells i.size 0 (.slice (some a0) 0 0)).run P w.drew=.ok ([]:List Value).toArray w.drew:=run_firstCells_some w.drew i.size 0 a0 0 0 [] (by simp) (by simp);have hg:=run_append_grow_src w t tx ty e i z ht hi hz (some a0) 0 0 [] hold x ys.length news hsrc (by omega) (by simp;omega) (growslice_fits (by omega) (by simpa using hr1))
  obtain⟨κ',R'⟩:=go (grownCap w (0+ys.length) 0 e) (by have:=grownCap_ge w (0+ys.length) 0 e;omega) (Builtin.zeroCells z.cells (grownCap w (0+ys.length) 0 e-(0+ys.length)));exact⟨κ',_,_,hg,R'⟩
theorem z4j {t tx ty e e':TypeId} {i:TypeInfo} {n:Nat} {M:Nat→Nat→Prop} (ht:P.underlying t=some (.slice e)) (htx:P.underlying tx=some (.slice e')) (hi:P.info? e=some i) (hn:i.size=n)
  {v x:Value} {xs:List D} (hv:RelV w M v (.sl xs)) (hx:RelV w M x (.sl [])):(Builtin.append_ #[t,tx] ty #[v,x]).run P w=.ok v w:=by
 subst hn;obtain⟨news,hsrc,hl,-⟩:=z6X (n:=i.size) htx hx (fun x hx=>by simp at hx);have hnil:news=[]:=List.length_eq_zero_iff.1 (by rw[hl];rfl);subst hnil;have hc0:=hsrc.cells;have hl0:=hsrc.len;simp at hc0 hl0;rcases hv.sl_inv with⟨rfl|⟨a0,rfl⟩,rfl⟩|⟨b,o,cap,rfl,hc,hle⟩
 rotate_left
 ·rcases hsrc.kind with⟨e2,hk⟩|hk<;>simp[Builtin.append_,run_underlying ht,run_underlying hk,Go.sizeOf,typeInfo,hi,hl0,hc0,storeCells]
 rotate_left
 ·rcases hsrc.kind with⟨e2,hk⟩|hk<;>simp[Builtin.append_,run_underlying ht,run_underlying hk,Go.sizeOf,typeInfo,hi,hl0,hc0]
 ·have:=run_append_room_src w t tx ty e i ht hi b o xs.length cap x _ [] hsrc (by simpa using hle) (by simp) (by simp);simpa [World.setCells]using this
theorem Rel.again (R:Rel X κ s a w) {r g:Nat} {ob:Ob} (ho:s.ob r g=some ob) {p:zQ} {a':Act} (hp:p.ars=[(r,g,some ob)]) (hh:p.h=none)
  (sl:(p.puts=[]∧a'=a)∨∃d v sv,d<s.n∧p.puts=[(d,sv)]∧a'=a.put (some d) v∧RelS w (Mut X.M0 κ) κ s.env v sv):Rel X κ (s.app p) a' w:=by
 obtain⟨puts,ars,h⟩:=p;simp only at hp hh sl;subst hp;subst hh;have hl:=ob_iff.1 (show s.env.ob r g=some ob from ho);have hlook:∀k,zC ((r,g,some ob)::s.ar) k=zC s.ar k:=fun k=>by
  rw[zA];split
  ·rename_i e;subst e;exact hl.symm
  ·rfl
 have hob:∀k g',(s.app ⟨puts,[(r,g,some ob)],none⟩).env.ob k g'=s.env.ob k g':=fun k g'=>by
  unfold Env.ob;show(match zC ((r,g,some ob)::s.ar) k with|(g'',o)=>cond (Nat.beq g'' g') o none)=_;rw[hlook]
 have T:Stays w (Mut X.M0 κ) κ s.env w (Mut X.M0 κ) κ (s.app ⟨puts,[(r,g,some ob)],none⟩).env:=
  {keeps:=.refl _ _,hp:=fun _ _ h=>h
   gen:=fun k=>by show(zC s.ar k).1≤(zC ((r,g,some ob)::s.ar) k).1;rw[hlook];exact Nat.le_refl _
   ob:=fun k g' ob' _ h=>⟨ob',by rw[hob]at h;exact h,.inl ⟨rfl,rfl⟩⟩
   ex:=fun _ _ v h=>⟨v,h⟩,ic:=fun _ _ _ _ h=>h,hvle:=Nat.le_refl _,lent:=fun _=>⟨rfl,fun _ _ _ _ _ _ _ h _ _=>⟨h,fun h=>h⟩⟩}
 refine R.step T (.refl _ _ _) R.kb R.ki R.hn ?_ (fun k g' ob' h=>?_) (RelH.stay T R.heap rfl (fun _ _=>rfl) (fun _ _ _ _=>rfl))
 ·rcases sl with⟨h1,h2⟩|⟨d,v,sv,h1,h2,h3,h4⟩
  ·exact .inl ⟨h1,h2⟩
  ·exact .inr ⟨d,v,sv,h1,h2,h3,h4.stay T⟩
 ·exact RelOb.stay T (R.obs k g' ob' (by rw[←St.env_ob,←hob];exact h)) rfl (fun _ _ _=>rfl)
theorem Rel.grew (R:Rel X κ s a w) {Kold:Key} {K g d n:Nat} {zs:List D} {κ':Kap} {v':Value} {w':World} {hnew:Option H} (G:z8J X κ w Kold (.ar K) n zs κ' v' w') (hd:d<s.n)
  (hg:(g=s.gen K+1)∨(∃l,s.ob K g=some (.tok n l)∧l<zs.length))
  (hold:(Kold=.ar K∧hnew=none)∨∃id off cs xs m,Kold=.ho id off∧s.h[id]?=some cs∧cs[off]?=some (.own m xs)∧hnew=some (s.h.set id (cs.set off (.d (.sl xs))))):
  Rel X κ' (s.app ⟨[(d,.right K g n zs)],[(K,g,some (.tok n zs.length))],hnew⟩) (a.put (some d) v') w':=by
 have hKold:∀id,Kold≠.hp id:=fun id e=>by rcases hold with⟨h,-⟩|⟨_,_,_,_,_,h,-⟩<;>(rw[h]at e;cases e)
 have hhp:∀id,κ' (.hp id)=κ (.hp id):=fun id=>G.other _ (fun e=>hKold id e.symm) (by simp);have har:∀k,k≠K→κ' (.ar k)=κ (.ar k):=fun k hk=>G.other _ (fun e=>by rcases hold with⟨h,-⟩|⟨_,_,_,_,_,h,-⟩<;>(rw[h]at e;first|(injection e with e;exact hk e)|cases e)) (fun e=>by injection e with e;exact hk e);have hsame:∀key b lo,key≠Kold→κ key=some (b,lo)→w'.heap[b]?=w.heap[b]?:=fun key b lo hk hb=>G.same b (R.kb _ _ _ hb).1 (fun lo' h'=>hk (R.ki _ _ _ _ _ hb h'));have hgen:g≤s.gen K+1∧s.gen K≤g:=by
  rcases hg with rfl|⟨l,ho,-⟩
  ·omega
  ·have:=z3U (E:=s.env) ho;change s.gen K=g at this;omega
 have T:Stays w (Mut X.M0 κ) κ s.env w' (Mut X.M0 κ') κ' (s.app ⟨[(d,.right K g n zs)],[(K,g,some (.tok n zs.length))],hnew⟩).env:=
  {keeps:=G.keeps
   hp:=fun id b h=>by rw[hhp];exact h
   gen:=fun k=>by
    show(zC s.ar k).1≤(zC ((K,g,some (.tok n zs.length))::s.ar) k).1;rw[zA];split
    ·rename_i e;subst e;exact hgen.2
    ·exact Nat.le_refl _
   ob:=fun k g' ob' hg' h=>by
    rw[ob_iff]at h;change zC ((K,g,some (.tok n zs.length))::s.ar) k=(g',some ob')at h;rw[zA]at h;split at h
    ·rename_i e;subst e
     injection h with h1 h2;injection h2 with h2;subst h1;subst h2;rcases hg with rfl|⟨l,ho,hlt⟩
     ·change s.gen K+1≤s.gen K at hg';omega
     ·exact⟨_,ho,.inr ⟨n,l,zs.length,rfl,rfl,hlt⟩⟩
    ·rename_i e;exact⟨ob',ob_iff.2 h,.inl ⟨rfl,har k (fun h=>e h.symm)⟩⟩
   ex:=G.ex
   ic:=G.ic
   hvle:=by cases hnew<;>first|exact Nat.le_refl _|exact Nat.le_succ _
   lent:=fun e=>by
    rcases hold with⟨rfl,rfl⟩|⟨id,off,cs,xs,m,rfl,-,-,rfl⟩
    ·refine⟨rfl,fun id b off v cs n xs hb _ _=>⟨by rw[hhp]at hb;exact hb,fun h=>?_⟩⟩;rw[zL (hsame (.hp id) b 0 (by simp) (by rw[hhp]at hb;exact hb))];exact h
    ·change s.hv+1=s.hv at e;omega}
 refine R.step T G.kept G.kb G.ki (fun id r h=>?_) (.inr ⟨d,v',_,hd,rfl,rfl,.right _ _ _ _ _ G.rel ?_ ?_⟩) (fun k g' ob' h=>?_) ?_
 ·rw[hhp]at h;have:=R.hn id r h;rcases hold with⟨-,rfl⟩|⟨id,off,cs,xs,m,-,-,-,rfl⟩
  ·exact this
  ·show _<(s.h.set _ _).length;rw[List.length_set];exact this
 ·show g≤(zC ((K,g,some (.tok n zs.length))::s.ar) K).1;rw[zA,zq1 rfl];exact Nat.le_refl _
 ·intro n' l h;rw[ob_iff]at h;change zC ((K,g,some (.tok n zs.length))::s.ar) K=_ at h;rw[zA,zq1 rfl]at h;injection h with _ h;injection h with h;injection h with h1 h2;subst h1;subst h2;exact⟨rfl,Nat.le_refl _,fun _=>G.right⟩
 ·have h':=ob_iff.1 (show(s.app ⟨[(d,.right K g n zs)],[(K,g,some (.tok n zs.length))],hnew⟩).env.ob k g'=some ob' from h);change zC ((K,g,some (.tok n zs.length))::s.ar) k=(g',some ob')at h';rw[zA]at h';split at h'
  ·injection h' with _ h';injection h' with h';subst h';trivial
  ·rename_i e
   have hne:k≠K:=fun h=>e h.symm;refine RelOb.stay T (R.obs k g' ob' (show s.env.ob k g'=some ob' from ob_iff.2 h')) (har k hne) (fun b lo hb=>hsame _ b lo ?_ hb);intro e2;rcases hold with⟨h,-⟩|⟨_,_,_,_,_,h,-⟩<;>(rw[h]at e2;first|(injection e2 with e2;exact hne e2)|cases e2)
 ·rcases hold with⟨rfl,rfl⟩|⟨id,off,cs,xs,m,rfl,hcs,hown,rfl⟩
  ·exact RelH.stay T R.heap rfl (fun id off=>G.other _ (by simp) (by simp)) (fun id b lo hb=>hsame _ b lo (by simp) hb)
  ·intro id' cs' hc';change (s.h.set id (cs.set off (.d (.sl xs))))[id']?=some cs' at hc';have hid:=(List.getElem?_eq_some_iff.1 hcs).1;have hoff:=(List.getElem?_eq_some_iff.1 hown).1;have hcell:∀b,κ (.hp id')=some (b,0)→w'.heap[b]?=w.heap[b]?:=fun b hb=>hsame _ b 0 (by simp) hb;by_cases e:id=id'
   ·subst e;simp[hid]at hc';subst hc';obtain⟨b,h1,h2⟩:=R.heap id cs hcs;refine⟨b,by rw[hhp];exact h1,fun i c hi=>?_⟩;by_cases ei:off=i
    ·subst ei;simp[hoff]at hi;subst hi;obtain⟨v,g1,g2,g3,g4⟩:=h2 off _ hown;exact⟨v,by rw[zL (hcell b h1)];exact g1,g2,by rw[vH (hcell b h1)];exact g3,rfl,.d _ _ (g4.1.keep T.keeps)⟩
    ·rw[List.getElem?_set_ne ei]at hi;obtain⟨v,g1,g2,g3,g4⟩:=h2 i c hi;exact⟨v,by rw[zL (hcell b h1)];exact g1,g2,by rw[vH (hcell b h1)];exact g3,g4.stay T (G.other _ (by intro h;injection h with _ h;exact ei h.symm) (by simp))⟩
   ·rw[List.getElem?_set_ne e]at hc';obtain⟨b,h1,h2⟩:=R.heap id' cs' hc';refine⟨b,by rw[hhp];exact h1,fun i c hi=>?_⟩;obtain⟨v,g1,g2,g3,g4⟩:=h2 i c hi;exact⟨v,by rw[zL (hcell b h1)];exact g1,g2,by rw[vH (hcell b h1)];exact g3,g4.stay T (G.other _ (by intro h;injection h with h _;exact e h.symm) (by simp))⟩
theorem wU{t:TypeId}{n:Nat}{i:TypeInfo}(h:z5h P t=some n)(hi:P.info? t=some i):i.bytes=n:=by
 unfold z5h at h;rw[hi]at h;simpa using h
theorem wM{t:TypeId}{z:Value}{i:TypeInfo}(h:z1V P t=some z)(hi:P.info? t=some i):i.zero=some z:=by
 unfold z1V at h;rw[hi]at h;simpa using h
theorem z5w (R:Rel X κ s a w) {t tx ty e':TypeId} {rw:Bool} {dst:Option Nat} {uv ux:Value} {vv vx:Sv} {k:zQ→Prop} (htx:P.underlying tx=some (.slice e')) (hk:gG P t s rw dst vv vx k)
  (hv:RelS w (Mut X.M0 κ) κ s.env uv vv) (hx:RelS w (Mut X.M0 κ) κ s.env ux vx):
  ∃p κ' u' w',(Builtin.append_ #[t,tx] ty #[uv,ux]).run P w=.ok u' w'∧k p∧Rel X κ' (s.app p) (a.put dst u') w':=by
 obtain⟨e,he,k1⟩:=zD hk;obtain⟨n,hn,k2⟩:=zD k1;obtain⟨bb,hb,k3⟩:=zD k2;obtain⟨z,hz,k4⟩:=zD k3;obtain⟨hzn,k5⟩:=zG k4;obtain⟨y,hy,k6⟩:=yA k5 hx;obtain⟨ys,rfl,hys,k7⟩:=z1u k6;have ht:=uG he;obtain⟨i,d0,hi,hin,-⟩:=zY hn;have hbi:=wU hb hi;have hzi:=wM hz hi;have hzn:=vX hzn;clear hk k1 k2 k3 k4 k5 k6;cases vv with
 |nilS=>
  cases hv with|nilS _ hemp=>
  obtain⟨hroom,k7⟩:=k7;rcases zT k7 with⟨-,hpos,k8⟩|⟨-,k8⟩
  ·obtain⟨d,rfl,hd,k9⟩:=yH k8;obtain⟨κ',v',w',h1,R'⟩:=z5l (ty:=ty) R ht htx hi hin hzi hzn hemp hy hys hpos (by rw[hbi];exact hroom) hd;exact⟨_,κ',v',w',h1,k9,R'⟩
  obtain⟨d,rfl,hd,k9⟩:=yH k8;obtain⟨κ',v',w',h1,G⟩:=gF (ty:=ty) (Knew:=.ar d) R ht htx hi hin hzi hzn (xs:=[]) (Kold:=.ar d) hemp.relV hemp.right hy hys (by rw[hbi];simpa using hroom);exact⟨_,κ',v',w',h1,k9,R.grew (hnew:=none) G hd (.inl rfl) (.inl ⟨rfl,rfl⟩)⟩
 |right r g n' xs=>
  obtain⟨hnn,k8⟩:=zG k7;obtain rfl:=vX hnn;split at k8
  ·rename_i n'' m ho
   obtain⟨hnn',hm,hroom,k90⟩:=zG k8;have k9:=yF k90;obtain rfl:=vX hnn';subst hm;cases hv with|right _ _ _ _ _ hv hg hr=>
   obtain⟨-,-,hr'⟩:=hr _ _ ho;have hr':=hr' rfl;cases dst with
   |none=>
    exact k9.elim
   |some d=>
    obtain⟨hd,k10⟩:=zG k9;have hd:=z3b hd;by_cases h0:ys=[]
    ·subst h0;refine⟨_,κ,uv,w,z4j ht htx hi hin hv hy,k10,?_⟩;simp only[List.append_nil];exact R.again ho rfl rfl (.inr ⟨d,uv,_,hd,rfl,rfl,.right _ _ _ _ _ hv hg hr⟩)
    ·obtain⟨κ',v',w',h1,G⟩:=gF (ty:=ty) (Knew:=.ar r) R ht htx hi hin hzi hzn (Kold:=.ar r) hv hr' hy hys (by rw[hbi];exact hroom);have hlen:(xs++ys).length=xs.length+ys.length:=by simp
     have hpos:0<ys.length:=List.length_pos_iff.2 h0;have:=R.grew (hnew:=none) (g:=g) (d:=d) G hd (.inr ⟨_,ho,by rw[hlen];omega⟩) (.inl ⟨rfl,rfl⟩);exact⟨_,κ',v',w',h1,k10,this⟩
  ·exact k8.elim
 |lent id off ver n' xs=>
  obtain⟨hnn,k8⟩:=zG k7;obtain rfl:=vX hnn;obtain⟨hver,k9⟩:=zG k8;have hver:=vX hver;obtain⟨cs,hcs,k10⟩:=zD k9;obtain⟨u,hu,k11⟩:=zD k10;cases u with
  |own n'' xs' =>
   obtain⟨hnn',hxs,hroom,k120⟩:=zG k11;have k12:=yF k120;obtain rfl:=vX hnn';subst hxs;obtain⟨d,rfl,hd,k13⟩:=yH k12;cases hv with|lent _ _ _ _ _ _ hv hle hl=>
   obtain⟨b,hb1,hcells⟩:=R.heap id cs hcs;obtain⟨v,g1,g2,g3,g4⟩:=hcells off _ hu;have hcell:=hl hver.symm b cs _ _ hb1 hcs hu;rw[g1]at hcell;injection hcell with hcell;subst hcell;obtain⟨κ',v',w',h1,G⟩:=gF (ty:=ty) (Knew:=.ar d) R ht htx hi hin hzi hzn (Kold:=.ho id off) g4.1 g4.2 hy hys (by rw[hbi];exact hroom);have hlen:(xs'++ys).length=xs'.length+ys.length:=by simp
   have:=R.grew (hnew:=some (s.h.set id (cs.set off (.d (.sl xs'))))) (g:=s.gen d+1) (d:=d) G hd (.inl rfl) (.inr ⟨id,off,cs,xs',n,rfl,hcs,hu,rfl⟩);exact⟨_,κ',v',w',h1,k13,this⟩
  |_=>exact k11.elim
 |_=>exact k7.elim
end
end Nt

