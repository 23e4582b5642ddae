import Derived.Test.YtjlohgfmobpfmaaFwR
namespace Nt
open Go
set_option linter.unusedVariables false
set_option linter.unusedSimpArgs false
section
variable {P:Program} {X:Ctx} {κ:Kap} {s:St} {a:Act} {w:World}
def z8d(κ κ':Kap):Kap
 |.ar k=>κ (.ar k)
 |k=>κ' k
theorem Rel.heapCall (R:Rel X κ s a w) {h':H} {w':World} {κ':Kap} {v:Value} {rs:List Sv} {dst:Option Nat} {k:zQ→Prop} (A:z3m w (z7E X κ) (z0J κ) h' w' κ') (hr:ResRel w' (Mut (z7E X κ) κ') κ' v rs)
  (hk:wZ s dst rs (some h') k):∃p κn,k p∧Rel X κn (s.app p) (a.put dst v) w':=by
 have hnot:∀i b lo,κ (.ar i)=some (b,lo)→∀key lo',z0J κ key≠some (b,lo'):=fun i b lo h key lo' h'=>by
  obtain⟨h1,h2⟩:=vG h';exact h1 i (R.ki _ _ _ _ _ h2 h)
 have hold:∀i b lo,κ (.ar i)=some (b,lo)→w'.heap[b]?=w.heap[b]?:=fun i b lo h=>A.kept.block b (R.kb _ _ _ h).1 (fun⟨key,lo',h'⟩=>hnot i b lo h key lo' h');have hSc:∀key b lo,z0J κ key=some (b,lo)→∃k,κ k=some (b,lo):=fun key b lo h=>⟨key,(vG h).2⟩;have heap:∀{κn:Kap} {E:Env},E.h=h'→(∀id,κn (.hp id)=κ' (.hp id))→(∀id off,κn (.ho id off)=κ' (.ho id off))→Keeps w' (Mut (z7E X κ) κ') w' (Mut X.M0 κn)→RelH w' (Mut X.M0 κn) κn E:=by
  intro κn E hE h1 h2 K id cs hc;rw[hE]at hc;obtain⟨b,q1,q2⟩:=A.heap id cs hc;refine⟨b,by rw[h1];exact q1,fun i c hi=>?_⟩;obtain⟨u,g1,g2,g3,g4⟩:=q2 i c hi;exact⟨u,g1,g2,g3,RelHc.conv K (.refl _) (fun id b h=>by rw[h1];exact h) (h2 id i) g4⟩
 have cls:∀k b lo,z8d κ κ' k=some (b,lo)→((κ k=some (b,lo)∧w'.heap[b]?=w.heap[b]?∧(∀key lo',z0J κ key≠some (b,lo'))∧∀o,lo≤o→z7E X κ b o)∨(κ' k=some (b,lo)∧∀i,k≠.ar i)):=fun k b lo h=>by
  cases k with
  |ar i=>exact .inl ⟨h,hold i b lo h,hnot i b lo h,fun o ho=>.inr ⟨i,lo,h,ho⟩⟩
  |hp id=>exact .inr ⟨h,by simp⟩
  |ho id off=>exact .inr ⟨h,by simp⟩
 rcases z2u hk with⟨n,xs,r,d,rfl,rfl,hdn,k1⟩|⟨n,xs,sv,d,hw,rfl,hdn,k1⟩|⟨hno,hnw,y,hy,hd2⟩
 ·refine⟨_,upK (z8d κ κ') (.ar d) (κ' (.ar 0)),k1,R.call A (some d) (gV X κ) (fun b o h=>.inl h) hSc (fun k b lo h=>?_) (fun k hk=>by rw[zI _ _ (by intro e;injection e with e;subst e;exact hk rfl)];rfl) hold
   (fun id b h=>by rw[zI _ _ (by simp)];exact A.hp id b h) (fun id r h=>by rw[zI _ _ (by simp)]at h;exact A.hn id r h) (fun h=>by cases h) (.inr ⟨d,_,rfl,rfl⟩) (fun d' o' e1 e2 K=>by injection e2 with e2 _;injection e2 with _ e2;injection e2 with _ e2;injection e2 with e2;subst e2;trivial) (fun T K=>⟨.inr ⟨d,v,_,hdn,rfl,rfl,?_⟩,?_⟩)⟩
  ·by_cases e:k=.ar d
   ·subst e;rw[yV]at h;exact .inl ⟨d,rfl,rfl,h⟩
   ·rw[zI _ _ e]at h;rcases cls k b lo h with h|h
    ·exact .inr (.inl ⟨fun d' h'=>by injection h' with h';subst h';exact e,h⟩)
    ·exact .inr (.inr h)
  ·exact z2o K hr (yV _ _ _) (by show zC ((d,s.gen d+1,some (.tok n xs.length))::s.ar) d=_;rw[zA,zq1 rfl]) (fun u x hx h=>RelR2.relS (κ:=κ') K (fun id b h=>by rw[zI _ _ (by simp)];exact h) h)
  ·exact heap rfl (fun id=>zI _ _ (by simp)) (fun id off=>zI _ _ (by simp)) K
 ·refine⟨_,upK (z8d κ κ') (.ar d) (κ' (.ar 0)),k1,R.call A (some d) (gV X κ) (fun b o h=>.inl h) hSc (fun k b lo h=>?_) (fun k hk=>by rw[zI _ _ (by intro e;injection e with e;subst e;exact hk rfl)];rfl) hold
   (fun id b h=>by rw[zI _ _ (by simp)];exact A.hp id b h) (fun id r h=>by rw[zI _ _ (by simp)]at h;exact A.hn id r h) (fun h=>by cases h) (.inr ⟨d,_,rfl,rfl⟩) (fun d' o' e1 e2 K=>by injection e1 with e1;subst e1;injection e2 with e2 _;injection e2 with _ e2;injection e2 with _ e2;injection e2 with e2;subst e2;exact(z0j (E:=(s.app ⟨[(d,sv)],[(d,s.gen d+1,some (.row n xs))],some h'⟩).env) K hr hw (yV _ _ _) (by show zC ((d,s.gen d+1,some (.row n xs))::s.ar) d=_;rw[zA,zq1 rfl])).2) (fun T K=>⟨.inr ⟨d,v,_,hdn,rfl,rfl,?_⟩,?_⟩)⟩
  ·by_cases e:k=.ar d
   ·subst e;rw[yV]at h;exact .inl ⟨d,rfl,rfl,h⟩
   ·rw[zI _ _ e]at h;rcases cls k b lo h with h|h
    ·exact .inr (.inl ⟨fun d' h'=>by injection h' with h';subst h';exact e,h⟩)
    ·exact .inr (.inr h)
  ·exact(z0j K hr hw (yV _ _ _) (by show zC ((d,s.gen d+1,some (.row n xs))::s.ar) d=_;rw[zA,zq1 rfl])).1
  ·exact heap rfl (fun id=>zI _ _ (by simp)) (fun id off=>zI _ _ (by simp)) K
 ·have go:∀{p:zQ} {a':Act},p.ars=[]→p.h=some h'→(Keeps w' (Mut (z7E X κ) κ') w' (Mut X.M0 (z8d κ κ')) →
    ((p.puts=[]∧a'=a)∨∃d v sv,d<s.n∧p.puts=[(d,sv)]∧a'=a.put (some d) v∧RelS w' (Mut X.M0 (z8d κ κ')) (z8d κ κ') (s.app p).env v sv))→Rel X (z8d κ κ') (s.app p) a' w':=fun {p a'} h1 h2 h3=>
   R.call A none (gV X κ) (fun b o h=>.inl h) hSc (fun k b lo h=>by
     rcases cls k b lo h with h|h
     ·exact .inr (.inl ⟨fun d' h'=>(by cases h'),h⟩)
     ·exact .inr (.inr h)) (fun k hk=>rfl) hold
    (fun id b h=>A.hp id b h) (fun id r h=>by show id<(p.h.getD s.h).length;rw[h2];exact A.hn id r h) (fun h=>by rw[h2]at h;cases h) (.inl ⟨rfl,h1⟩) (fun _ _ e=>by cases e) (fun T K=>⟨h3 K,heap (by show p.h.getD s.h=h';rw[h2];rfl) (fun id=>rfl) (fun _ _=>rfl) K⟩)
  rcases hd2 with⟨rfl,k1⟩|⟨d,rfl,hdn,k1⟩
  ·exact⟨_,_,k1,go rfl rfl (fun K=>.inl ⟨rfl,rfl⟩)⟩
  ·exact⟨_,_,k1,go rfl rfl (fun K=>.inr ⟨d,v,y,hdn,rfl,rfl,ResRel.relS (κ:=κ') (κ':=z8d κ κ') K (fun id b h=>h) hr hno hnw hy⟩)⟩
theorem z7I {c:Cx} (hT:∀f vs h rs h',c.trip f vs h rs h'→Trip c.P f vs h rs h') (R:Rel X κ s a w) {dst:Option Nat} {f:FuncId} {us:List Value} {svs:List Sv} {k:zQ→Prop} (hk:z2c c s dst f svs k)
  (hv:RelSs w (Mut X.M0 κ) κ s.env us svs):
  Enters c.P f∧Calls c.P f ⟨us⟩ w fun e w'=>∃v p κ',e=.returned v∧k p∧Rel X κ' (s.app p) (a.put dst v) w':=by
 unfold z2c at hk;obtain⟨ys,hp,hys,k1⟩:=gS hk hv;rcases zT k1 with⟨-,k2⟩|⟨-,k2⟩
 ·obtain⟨hd,k3⟩:=zG k2;obtain⟨rs,k4⟩:=uZ k3;obtain⟨hrd,⟨h'',ht⟩,k5⟩:=zG k4;obtain⟨he,ht⟩:=hT _ _ _ _ _ ht;refine⟨he,(ht w (Mut X.M0 κ) (fun _=>none) us R.before0 (z0W ⟨fun _ _ _ h _=>h,fun b o v _ hm hm'=>hm ((z5d _ b o).1 hm')⟩ hd hys)).mono ?_⟩;rintro e w' ⟨v,κ',rfl,A,hr⟩;obtain⟨p,κn,h1,h2⟩:=R.pureCall A hr hrd k5;exact⟨v,p,κn,rfl,h1,h2⟩
 ·obtain⟨rs,k3⟩:=uZ k2;have k4:∃h',c.trip f ys s.h rs h'∧wZ s dst rs (some h') k:=by
   rcases zT k3 with⟨-,k3⟩|⟨-,k3⟩
   ·exact⟨s.h,k3⟩
   ·exact z5W k3
  obtain⟨h',ht,k5⟩:=k4;obtain⟨he,ht⟩:=hT _ _ _ _ _ ht;refine⟨he,(ht w (z7E X κ) (z0J κ) us R.before (RelSs.conv (κ:=κ) (κ':=z0J κ) ⟨fun _ _ _ h _=>h,fun b o v _ hm hm'=>hm ((gV X κ b o).1 hm')⟩ (fun _ _ h=>h) hp hys)).mono ?_⟩;rintro e w' ⟨v,κ',rfl,A,hr⟩;obtain⟨p,κn,h1,h2⟩:=R.heapCall A hr k5;exact⟨v,p,κn,rfl,h1,h2⟩
end
end Nt

