import Derived.Test.YtjlohgfmobpfmaaFwK
namespace Nt
open Go
set_option linter.unusedVariables false
set_option linter.unusedSimpArgs false
section
variable {P:Program} {X:Ctx} {κ:Kap} {s:St} {a:Act} {w:World}
theorem z2v(t:TypeId)(v:Value):(newVar t v).run P w=.ok ⟨w.heap.size,0,none⟩ (zH w v.cells t):=rfl
theorem RelVs.one{M:Nat→Nat→Prop}:∀{vs:List Value} {cs:List D},RelVs w M vs cs→∀v∈vs,v.oneCell'=true
 |_,_,.nil,v,h=>by simp at h
 |_,_,.cons v c vs cs hs h r,u,hu=>by
  rcases List.mem_cons.1 hu with rfl|hu
  ·exact h.one hs
  ·exact RelVs.one r u hu
theorem Box.new{M M':Nat→Nat→Prop}{vs:List Value}{cs:List D}{t:TypeId}(h:RelVs w M vs cs)(K:Keeps w M (zH w ⟨vs⟩ t) M'):Box (zH w ⟨vs⟩ t) M' w.heap.size cs:=by
 intro i c hc;obtain⟨v,h1,h2,h3⟩:=h.get i c hc;exact⟨v,by rw[vI];simpa using h1,h.one v (List.mem_of_getElem? h1),h2,h3.keep K,wH i⟩
theorem yH{dst:Option Nat}{ob:Ob}{v:Nat→Nat→Sv}{k:zQ→Prop}(h:newAr s dst ob v k):
  ∃d,dst=some d∧d<s.n∧k ⟨[(d,v d (s.gen d+1))],[(d,s.gen d+1,some ob)],none⟩:=by
 cases dst with
 |none=>exact h.elim
 |some d=>obtain⟨h1,h2⟩:=zG h;exact⟨d,rfl,z3b h1,h2⟩
theorem z1E{dst:Option Nat}{cs:List Sv}{k:zQ→Prop}(h:newHp s dst cs k):
  ∃d,dst=some d∧d<s.n∧k ⟨[(d,.hp s.h.length 0)],[],some (s.h++[cs])⟩:=by
 cases dst with
 |none=>exact h.elim
 |some d=>obtain⟨h1,h2⟩:=zG h;exact⟨d,rfl,z3b h1,h2⟩
theorem z0p(d:Nat)(sv:Sv)(ob:Ob):(s.app ⟨[(d,sv)],[(d,s.gen d+1,some ob)],none⟩).env.gen d=s.gen d+1:=by
 show(zC ((d,s.gen d+1,some ob)::s.ar) d).1=_;rw[zA,zq1 rfl]
theorem Rel.newAgg(R:Rel X κ s a w){d:Nat}(hd:d<s.n){vs:List Value}{x:D}(t:TypeId)(h:RelVs w (Mut X.M0 κ) vs x.cells):
  ∃κ',Rel X κ' (s.app ⟨[(d,.ref d (s.gen d+1) 0)],[(d,s.gen d+1,some (.agg x))],none⟩) (a.put (some d) (.pointer (some ⟨w.heap.size,0,none⟩))) (zH w ⟨vs⟩ t):=by
 refine R.newAr hd ⟨vs⟩ t 0 (.agg x) _ _ (fun κ' M' E' hκ hM hE K T=>?_);subst hκ;refine⟨⟨_,by simp,Box.new h K⟩,.ref _ _ _ _ (by rw[hE,z0p];exact Nat.le_refl _) (fun _ _ _=>⟨_,by simp,rfl⟩)⟩
theorem Rel.newRowOb (R:Rel X κ s a w) {d:Nat} (hd:d<s.n) {vs:List Value} {n:Nat} {xs:List D} (t:TypeId) (h:RelVs w (Mut X.M0 κ) vs (yC xs)) (hs:yB n xs) (sv:Sv) (v:Value)
  (hv:(sv=.ref d (s.gen d+1) 0∧v=.pointer (some ⟨w.heap.size,0,none⟩))∨(sv=.row d (s.gen d+1)∧∃cap,xs.length≤cap∧v=.slice (some ⟨w.heap.size,0,none⟩) xs.length cap)):
  ∃κ',Rel X κ' (s.app ⟨[(d,sv)],[(d,s.gen d+1,some (.row n xs))],none⟩) (a.put (some d) v) (zH w ⟨vs⟩ t):=by
 refine R.newAr hd ⟨vs⟩ t 0 (.row n xs) _ _ (fun κ' M' E' hκ hM hE K T=>?_);subst hκ;refine⟨⟨_,by simp,Box.new h K,hs⟩,?_⟩;rcases hv with⟨rfl,rfl⟩|⟨rfl,cap,hc,rfl⟩
 ·exact .ref _ _ _ _ (by rw[hE,z0p];exact Nat.le_refl _) (fun _ _ _=>⟨_,by simp,rfl⟩)
 ·refine .row _ _ _ (by rw[hE,z0p];exact Nat.le_refl _) (fun n' xs' h'=>?_);rw[hE,ob_iff]at h';change zC ((d,s.gen d+1,some (.row n xs))::s.ar) d=_ at h';rw[zA,zq1 rfl]at h';injection h' with _ h';injection h' with h';injection h' with h1 h2;subst h2;exact⟨_,cap,rfl,by simp,hc⟩
theorem Rel.newBox (R:Rel X κ s a w) {d:Nat} (hd:d<s.n) {vs:List Value} {cs:List Sv} (t:TypeId) (hl:vs.length=cs.length)
  (h:∀(i:Nat) v c,vs[i]?=some v→cs[i]?=some c→v.oneCell'=true∧RelS w (Mut X.M0 κ) κ s.env v c):
  ∃κ',Rel X κ' (s.app ⟨[(d,.ref d (s.gen d+1) 0)],[(d,s.gen d+1,some (.box cs))],none⟩) (a.put (some d) (.pointer (some ⟨w.heap.size,0,none⟩))) (zH w ⟨vs⟩ t):=by
 refine R.newAr hd ⟨vs⟩ t 0 (.box cs) _ _ (fun κ' M' E' hκ hM hE K T=>?_);subst hκ;refine⟨⟨w.heap.size,by simp,fun i c hc=>?_⟩,.ref _ _ _ _ (by rw[hE,z0p];exact Nat.le_refl _) (fun _ _ _=>⟨_,by simp,rfl⟩)⟩;have hi:i<vs.length:=by rw[hl];exact(List.getElem?_eq_some_iff.1 hc).1
 obtain⟨h1,h2⟩:=h i vs[i] c (by simp[hi]) hc;exact⟨vs[i],by rw[vI];simp[hi],h1,h2.stay T,wH i⟩
theorem Rel.newHp (R:Rel X κ s a w) {d:Nat} (hd:d<s.n) {vs:List Value} {cs:List Sv} (t:TypeId) (hl:vs.length=cs.length)
  (h:∀(i:Nat) v c,vs[i]?=some v→cs[i]?=some c→v.oneCell'=true∧((∃n,c=.own n []∧Emp v)∨((∀n xs,c≠.own n xs)∧c.plain=true∧RelS w (Mut X.M0 κ) κ s.env v c))):
  ∃κ',Rel X κ' (s.app ⟨[(d,.hp s.h.length 0)],[],some (s.h++[cs])⟩) (a.put (some d) (.pointer (some ⟨w.heap.size,0,none⟩))) (zH w ⟨vs⟩ t):=by
 have K:=gD R ⟨vs⟩ t (.hp s.h.length) 0;have hnone:∀id b,κ (.hp id)=some (b,0)→id≠s.h.length→upK κ (.hp s.h.length) (some (w.heap.size,0)) (.hp id)=some (b,0):=fun id b h hne=>by
  rw[zI _ _ (by intro e;injection e with e;exact hne e)];exact h
 have hfree:κ (.hp s.h.length)=none:=by
  cases h:κ (.hp s.h.length)with
  |none=>rfl
  |some r=>have:=R.hn _ _ h;omega
 ·have T:Stays w (Mut X.M0 κ) κ s.env (zH w ⟨vs⟩ t) (Mut X.M0 (upK κ (.hp s.h.length) (some (w.heap.size,0)))) (upK κ (.hp s.h.length) (some (w.heap.size,0))) (s.app ⟨[(d,.hp s.h.length 0)],[],some (s.h++[cs])⟩).env:=
   {keeps:=K
    hp:=fun id b h=>hnone id b h (fun e=>by rw[e,hfree]at h;cases h)
    gen:=fun _=>Nat.le_refl _
    ob:=fun k g ob' _ h=>⟨ob',h,.inl ⟨rfl,zI _ _ (by simp)⟩⟩
    ex:=fun b o v h=>⟨v,by rw[zL (zV (yX h))];exact h⟩
    ic:=fun b o v h hi=>by rw[vH (zV (yX h))];exact hi
    hvle:=Nat.le_succ _
    lent:=fun e=>by change s.hv+1=s.hv at e;omega}
  refine⟨_,R.step T (gW R.kept.size) (z1B R _ _ _ _) (z1C R _ _) (fun id r h=>?_) (.inr ⟨d,_,_,hd,rfl,rfl,.hp _ _ _ (by simp)⟩) (fun k g ob' h=>?_) (fun id cs' hc=>?_)⟩
  ·show id<(s.h++[cs]).length;rw[List.length_append];by_cases e:Key.hp id=.hp s.h.length
   ·injection e with e;simp[e]
   ·rw[zI _ _ e]at h;have:=R.hn id r h;omega
  ·exact RelOb.stay T (R.obs k g ob' h) (zI _ _ (by simp)) (fun b l hb=>zV (R.kb _ b l hb).1)
  ·change (s.h++[cs])[id]?=some cs' at hc;by_cases hid:id<s.h.length
   ·rw[List.getElem?_append_left hid]at hc;obtain⟨b,h1,h2⟩:=R.heap id cs' hc;refine⟨b,hnone id b h1 (by omega),fun i c hi=>?_⟩;obtain⟨v,g1,g2,g3,g4⟩:=h2 i c hi;have hbl:=zV (cs:=⟨vs⟩) (e:=t) (R.kb _ b 0 h1).1;exact⟨v,by rw[zL hbl];exact g1,g2,by rw[vH hbl];exact g3,g4.stay T (zI _ _ (by simp))⟩
   ·rw[List.getElem?_append_right (by omega)]at hc;have hid':id=s.h.length:=by have:=(List.getElem?_eq_some_iff.1 hc).1;simp at this;omega
    subst hid';simp at hc;subst hc;refine⟨w.heap.size,by simp,fun i c hi=>?_⟩;have hi':i<vs.length:=by rw[hl];exact(List.getElem?_eq_some_iff.1 hi).1
    obtain⟨h1,h2⟩:=h i vs[i] c (by simp[hi']) hi;refine⟨vs[i],by rw[vI];simp[hi'],h1,wH i,?_⟩;rcases h2 with⟨n,rfl,hv⟩|⟨hno,hpl,h2⟩
    ·exact⟨hv.relV,hv.right⟩
    ·have:=RelS.stay T h2;cases c<;>first|exact⟨hpl,this⟩|exact absurd rfl (hno _ _)
end
end Nt

