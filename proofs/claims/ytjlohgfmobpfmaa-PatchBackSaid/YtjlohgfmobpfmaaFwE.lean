import Derived.Test.YtjlohgfmobpfmaaFwC
namespace Nt
open Go
set_option linter.unusedVariables false
set_option linter.unusedSimpArgs false
def swK(κ:Kap)(Kold Knew:Key)(r:Option (Nat×Nat)):Kap:=upK (upK κ Kold none) Knew r
theorem z7d(κ:Kap)(Kold Knew:Key)(r:Option (Nat×Nat)):swK κ Kold Knew r Knew=r:=by simp[swK]
theorem z4E(κ:Kap){Kold Knew:Key}(r:Option (Nat×Nat))(h:Kold≠Knew):swK κ Kold Knew r Kold=none:=by
 unfold swK;rw[zI _ _ h];simp
theorem z7c(κ:Kap){Kold Knew k:Key}(r:Option (Nat×Nat))(h:k≠Kold)(h':k≠Knew):swK κ Kold Knew r k=κ k:=by
 unfold swK;rw[zI _ _ h',zI _ _ h]
theorem yW(κ:Kap){Kold Knew k:Key}{r:Option (Nat×Nat)}{q:Nat×Nat}(h:swK κ Kold Knew r k=some q):(k=Knew∧r=some q)∨(k≠Kold∧k≠Knew∧κ k=some q):=by
 unfold swK at h;by_cases e:k=Knew
 ·subst e;simp at h;exact .inl ⟨rfl,h⟩
 ·rw[zI _ _ e]at h;by_cases e':k=Kold
  ·subst e';simp at h
  ·rw[zI _ _ e']at h;exact .inr ⟨e',e,h⟩
section
variable {P:Program} {X:Ctx} {κ:Kap} {s:St} {a:Act} {w:World}
theorem RelV.here{w:World}{M:Nat→Nat→Prop}{b o cap:Nat}{xs:List D}(h:RelV w M (.slice (some ⟨b,o,none⟩) xs.length cap) (.sl xs)):RelC w M b o (yC xs)∧xs.length≤cap:=by
 generalize hl:xs.length=l at h;cases h with
 |emp a=>exact⟨.nil _ _,by simp⟩
 |sl _ _ _ _ hc hle=>exact⟨hc,by omega⟩
theorem z6X{w:World}{M:Nat→Nat→Prop}{x:Value}{ys:List D}{n:Nat}{tx e':TypeId}(htx:P.underlying tx=some (.slice e'))(hx:RelV w M x (.sl ys))(hys:yB n ys):
  ∃news:List Value,Src P n tx x ys.length news w∧news.length=(yC ys).length∧∀(j:Nat) (u:Value) (c:D),news[j]?=some u→(yC ys)[j]?=some c→c.sc=true∧RelV w M u c:=by
 cases hx with
 |nil=>exact⟨[],Src.ofNil w htx 0,rfl,by simp⟩
 |emp a=>exact⟨[],Src.ofSlice w htx a 0 0 [] (by simp) (by simp) (by simp),rfl,by simp⟩
 |sl b o cap xs hc hl=>
  obtain⟨vs,h1,h2,h3,h4⟩:=hc.list;refine⟨vs,Src.ofSlice w htx ⟨b,o,none⟩ ys.length cap vs (by rw[h1,yZ hys]) (fun j u hu=>?_) h3,h1,h4⟩;rw[Addr.add_mid];exact h2 j u hu
theorem z1s (R:Rel X κ s a w) {Kold Knew:Key} {n:Nat} {v:Value} {zs:List D} (hnew:Kold=Knew∨∀lo b,κ Kold=some (b,lo)→True)
  (hv:RelV w (Mut X.M0 κ) v (.sl zs)) (hr:yB n zs∧(v=.slice none 0 0∨(∃a,v=.slice (some a) 0 0∧zs=[])∨∃b o,v=.slice (some ⟨b,o,none⟩) zs.length zs.length)):
  z8J X κ w Kold Knew n zs (swK κ Kold Knew none) v w:=by
 have K:Keeps w (Mut X.M0 κ) w (Mut X.M0 (swK κ Kold Knew none)):=by
  refine⟨fun _ _ _ h _=>h,fun b o v _ hm hm'=>hm ?_⟩;rcases hm' with h|⟨k,lo,hk,hl⟩
  ·exact .inl h
  ·rcases yW κ hk with⟨-,h⟩|⟨-,-,h⟩
   ·cases h
   ·exact .inr ⟨k,lo,h,hl⟩
 refine⟨.refl _ _ _,fun key b lo h=>?_,fun k1 k2 b l1 l2 h1 h2=>?_,fun key h1 h2=>z7c κ _ h1 h2,fun h=>z4E κ _ h,K,fun _ _ v h=>⟨v,h⟩,fun _ _ _ _ h=>h,fun _ _ _=>rfl,hv.keep K,hr.1,?_⟩
 ·rcases yW κ h with⟨-,h⟩|⟨-,-,h⟩
  ·cases h
  ·exact R.kb _ _ _ h
 ·rcases yW κ h1 with⟨-,h⟩|⟨-,-,h1⟩
  ·cases h
  ·rcases yW κ h2 with⟨-,h⟩|⟨-,-,h2⟩
   ·cases h
   ·exact R.ki _ _ _ _ _ h1 h2
 ·rcases hr.2 with h|h|⟨b,o,h⟩
  ·exact .inl h
  ·exact .inr (.inl h)
  ·exact .inr (.inr ⟨b,o,_,h,.inl rfl⟩)
theorem z6f (R:Rel X κ s a w) {Kold Knew:Key} {n:Nat} {xs ys:List D} {b o cap:Nat} {news:List Value}
  (hc:RelC w (Mut X.M0 κ) b o (yC xs)) (hs:yB n xs) (hκ:κ Kold=some (b,o+(yC xs).length)) (hsp:∀j,j<cap*n→(∃u,zJ w b (o+j)=some u)∧icy w b (o+j)=false)
  (hys:yB n ys) (hroom:xs.length+ys.length≤cap) (hl:news.length=(yC ys).length)
  (hnews:∀(j:Nat) (u:Value) (c:D),news[j]?=some u→(yC ys)[j]?=some c→c.sc=true∧RelV w (Mut X.M0 κ) u c):
  z8J X κ w Kold Knew n (xs++ys) (swK κ Kold Knew (some (b,o+(yC (xs++ys)).length))) (.slice (some ⟨b,o,none⟩) (xs.length+ys.length) cap) (w.setCells b (o+(yC xs).length) news):=by
 have hfx:=yZ hs;have hfy:=yZ hys;have hle:(xs.length+ys.length)*n≤cap*n:=Nat.mul_le_mul_right n hroom;rw[Nat.add_mul]at hle;have hex:∀j,j<news.length→∃u,zJ w b (o+(yC xs).length+j)=some u:=fun j hj=>by
  have:=(hsp ((yC xs).length+j) (by omega)).1
  rwa [←Nat.add_assoc]at this
 have hmut:∀o',o+(yC xs).length≤o'→Mut X.M0 κ b o':=fun o' h=>.inr ⟨Kold,_,hκ,h⟩;have hb:=(R.kb _ _ _ hκ).2;have K:Keeps w (Mut X.M0 κ) (w.setCells b (o+(yC xs).length) news) (Mut X.M0 (swK κ Kold Knew (some (b,o+(yC (xs++ys)).length)))):=by
  refine⟨fun b' o' v h hm=>?_,fun b' o' v h hm hm'=>hm ?_⟩
  ·rw[yL];exact h;by_cases e:b'=b
   ·subst e;by_cases e':o+(yC xs).length≤o'
    ·exact absurd (hmut o' e') hm
    ·exact .inr (.inl (by omega))
   ·exact .inl e
  ·rcases hm' with h0|⟨k,lo,hk,hlo⟩
   ·exact .inl h0
   ·rcases yW κ hk with⟨-,h⟩|⟨-,-,h⟩
    ·injection h with h;injection h with h1 h2;subst h1;subst h2;rw[vZ,List.length_append]at hlo;exact hmut o' (by omega)
    ·exact .inr ⟨k,lo,h,hlo⟩
 have hlen:(yC (xs++ys)).length=(yC xs).length+(yC ys).length:=by rw[vZ,List.length_append]
 refine⟨wL hb _ _ _,fun key b' lo h=>?_,fun k1 k2 b' l1 l2 h1 h2=>?_,fun key h1 h2=>z7c κ _ h1 h2,fun h=>z4E κ _ h,K,
  fun b' o' v h=>uN _ _ _ hex b' o' v h,fun b' o' v h hi=>by rw[zS];exact hi,fun b' _ h=>vD (fun e=>h (o+(yC xs).length) (by rw[e];exact hκ)) _ _ _,?_,z0D hs hys,.inr (.inr ⟨b,o,cap,by simp,.inr ⟨z7d _ _ _ _,fun j hj=>?_⟩⟩)⟩
 ·rw[vJ];rcases yW κ h with⟨-,h⟩|⟨-,-,h⟩
  ·injection h with h;injection h with h1 h2;subst h1;exact R.kb _ _ _ hκ
  ·exact R.kb _ _ _ h
 ·rcases yW κ h1 with⟨e1,h1⟩|⟨n1,m1,h1⟩<;>rcases yW κ h2 with⟨e2,h2⟩|⟨n2,m2,h2⟩
  ·rw[e1,e2]
  ·injection h1 with h1;injection h1 with h1 _;subst h1;exact absurd (R.ki _ _ _ _ _ h2 hκ) n2
  ·injection h2 with h2;injection h2 with h2 _;subst h2;exact absurd (R.ki _ _ _ _ _ h1 hκ) n1
  ·exact R.ki _ _ _ _ _ h1 h2
 ·have:RelC (w.setCells b (o+(yC xs).length) news) (Mut X.M0 (swK κ Kold Knew (some (b,o+(yC (xs++ys)).length)))) b o (yC (xs++ys)):=by
   refine(show ∀zs,zs=yC xs++yC ys→RelC (w.setCells b (o+(yC xs).length) news) (Mut X.M0 (swK κ Kold Knew (some (b,o+(yC (xs++ys)).length)))) b o zs from ?_) _ (vZ xs ys);rintro zs rfl;refine RelC.append (hc.keep K) (RelC.mk _ (fun i c hi=>?_));have hi':i<news.length:=by rw[hl];exact(List.getElem?_eq_some_iff.1 hi).1
   obtain⟨h1,h2⟩:=hnews i news[i] c (by simp[hi']) hi;refine⟨news[i],vP _ _ _ hex i hi',?_,h1,h2.keep K⟩;intro hm;rcases hm with h0|⟨k,lo,hk,hlo⟩
   ·exact R.notM0 hb _ h0
   ·rcases yW κ hk with⟨-,h⟩|⟨n1,-,h⟩
    ·injection h with h;injection h with _ h2;subst h2;rw[hlen]at hlo;omega
    ·exact n1 (R.ki _ _ _ _ _ h hκ)
  have:=RelV.sl b o cap (xs++ys) this (by simpa using hroom);simpa using this
 ·obtain⟨⟨u,hu⟩,hi⟩:=hsp j hj;exact⟨uN _ _ _ hex _ _ u hu,by rw[zS];exact hi⟩
theorem z2O (R:Rel X κ s a w) {Kold Knew:Key} {n:Nat} {xs ys:List D} {cap:Nat} {olds news:List Value} (rest:Array Value) (e:TypeId)
  (hs:yB n xs) (hys:yB n ys) (hlo:olds.length=(yC xs).length) (holds:∀(j:Nat) (u:Value) (c:D),olds[j]?=some u→(yC xs)[j]?=some c→c.sc=true∧RelV w (Mut X.M0 κ) u c)
  (hl:news.length=(yC ys).length) (hnews:∀(j:Nat) (u:Value) (c:D),news[j]?=some u→(yC ys)[j]?=some c→c.sc=true∧RelV w (Mut X.M0 κ) u c)
  (hcap:xs.length+ys.length≤cap) (hrest:(yC (xs++ys)).length+rest.size=cap*n):
  z8J X κ w Kold Knew n (xs++ys) (swK κ Kold Knew (some (w.heap.size,0+(yC (xs++ys)).length))) (.slice (some ⟨w.heap.size,0,none⟩) (xs.length+ys.length) cap) (zH w.drew ((olds++news).toArray++rest) e):=by
 have hb:X.base≤w.heap.size:=R.kept.size;have hds:w.drew.heap=w.heap:=rfl;have hcell:∀i,zJ (zH w.drew ((olds++news).toArray++rest) e) w.heap.size i=((olds++news).toArray++rest)[i]?:=fun i=>vI (w:=w.drew) i;have hold:∀b,b<w.heap.size→(zH w.drew ((olds++news).toArray++rest) e).heap[b]?=w.heap[b]?:=fun b h=>zV (w:=w.drew) h;have K:Keeps w (Mut X.M0 κ) (zH w.drew ((olds++news).toArray++rest) e) (Mut X.M0 (swK κ Kold Knew (some (w.heap.size,0+(yC (xs++ys)).length)))):=by
  refine⟨fun b' o' v h hm=>by rw[zL (hold b' (yX h))];exact h,fun b' o' v h hm hm'=>hm ?_⟩;rcases hm' with h0|⟨k,lo,hk,hlo⟩
  ·exact .inl h0
  ·rcases yW κ hk with⟨-,h'⟩|⟨-,-,h'⟩
   ·injection h' with h';injection h' with h1 h2;subst h1;have:=yX h;omega
   ·exact .inr ⟨k,lo,h',hlo⟩
 have hlen:(yC (xs++ys)).length=(yC xs).length+(yC ys).length:=by rw[vZ,List.length_append]
 refine⟨⟨rfl,rfl,rfl,by rw[uL];exact Nat.le_succ _,fun k hk _=>hold k (by omega)⟩,fun key b' lo h=>?_,fun k1 k2 b' l1 l2 h1 h2=>?_,fun key h1 h2=>z7c κ _ h1 h2,fun h=>z4E κ _ h,K,
  fun b' o' v h=>⟨v,by rw[zL (hold b' (yX h))];exact h⟩,fun b' o' v h hi=>by rw[vH (hold b' (yX h))];exact hi,fun b' h _=>hold b' h,?_,z0D hs hys,
  .inr (.inr ⟨w.heap.size,0,cap,by simp,.inr ⟨z7d _ _ _ _,fun j hj=>?_⟩⟩)⟩
 ·rw[uL];show b'<w.heap.size+1∧_;rcases yW κ h with⟨-,h⟩|⟨-,-,h⟩
  ·injection h with h;injection h with h1 h2;subst h1;exact⟨by omega,.inl hb⟩
  ·obtain⟨g1,g2⟩:=R.kb _ _ _ h;exact⟨by omega,g2⟩
 ·rcases yW κ h1 with⟨e1,h1⟩|⟨n1,m1,h1⟩<;>rcases yW κ h2 with⟨e2,h2⟩|⟨n2,m2,h2⟩
  ·rw[e1,e2]
  ·injection h1 with h1;injection h1 with h1 _;subst h1;have:=(R.kb _ _ _ h2).1;omega
  ·injection h2 with h2;injection h2 with h2 _;subst h2;have:=(R.kb _ _ _ h1).1;omega
  ·exact R.ki _ _ _ _ _ h1 h2
 ·have:RelC (zH w.drew ((olds++news).toArray++rest) e) (Mut X.M0 (swK κ Kold Knew (some (w.heap.size,0+(yC (xs++ys)).length)))) w.heap.size 0 (yC (xs++ys)):=by
   refine RelC.mk _ (fun i c hi=>?_);have hi1:i<(yC (xs++ys)).length:=(List.getElem?_eq_some_iff.1 hi).1;have hi2:i<(olds++news).length:=by rw[List.length_append,hlo,hl];omega
   have hval:((olds++news).toArray++rest)[i]?=(olds++news)[i]?:=by
    rw[Array.getElem?_append_left (by simpa using hi2)];simp
   obtain⟨u,hu⟩:∃u,(olds++news)[i]?=some u:=⟨_,List.getElem?_eq_getElem hi2⟩;have hrel:c.sc=true∧RelV w (Mut X.M0 κ) u c:=by
    rw[vZ]at hi;by_cases h:i<(yC xs).length
    ·rw[List.getElem?_append_left (by omega)]at hu;rw[List.getElem?_append_left h]at hi;exact holds i u c hu hi
    ·rw[List.getElem?_append_right (by omega),hlo]at hu;rw[List.getElem?_append_right (by omega)]at hi;exact hnews _ u c hu hi
   refine⟨u,by rw[Nat.zero_add,hcell,hval,hu],?_,hrel.1,hrel.2.keep K⟩;intro hm;rcases hm with h0|⟨k,lo,hk,hlo⟩
   ·exact R.notM0 (.inl hb) _ h0
   ·rcases yW κ hk with⟨-,h⟩|⟨n1,-,h⟩
    ·injection h with h;injection h with _ h2;subst h2;omega
    ·have:=(R.kb _ _ _ h).1;omega
  have:=RelV.sl w.heap.size 0 cap (xs++ys) this (by simpa using hcap);simpa using this
 ·refine⟨⟨((olds++news).toArray++rest)[j]'?_,?_⟩,wH (w:=w.drew) _⟩
  ·simp[hlo,hl];rw[hlen]at hrest;omega
  ·rw[Nat.zero_add,hcell];exact Array.getElem?_eq_getElem _
theorem gF (R:Rel X κ s a w) {t tx ty e e':TypeId} {i:TypeInfo} {z:Value} {n:Nat} (ht:P.underlying t=some (.slice e)) (htx:P.underlying tx=some (.slice e')) (hi:P.info? e=some i) (hn:i.size=n) (hz:i.zero=some z) (hzn:z.cells.size=n)
  {v x:Value} {xs ys:List D} {Kold Knew:Key} (hv:RelV w (Mut X.M0 κ) v (.sl xs)) (hr:RightOK w κ Kold n v xs) (hx:RelV w (Mut X.M0 κ) x (.sl ys)) (hys:yB n ys)
  (hroom:z3e i.bytes (xs.length+ys.length)):∃κ' v' w',(Builtin.append_ #[t,tx] ty #[v,x]).run P w=.ok v' w'∧z8J X κ w Kold Knew n (xs++ys) κ' v' w':=by
 obtain⟨hs,hr⟩:=hr;subst hn;obtain⟨hr1,hr2⟩:=hroom;obtain⟨news,hsrc,hl,hnews⟩:=z6X htx hx hys;have hfx:=yZ hs;have hfy:=yZ hys;rcases hr with rfl|⟨a0,rfl,rfl⟩|⟨b,o,cap,rfl,hr⟩
 ·cases hv with
  |nil=>
   by_cases h0:ys.length=0
   ·obtain rfl:ys=[]:=List.length_eq_zero_iff.1 h0;have hnil:news=[]:=List.length_eq_zero_iff.1 (by rw[hl];rfl);subst hnil;refine⟨swK κ Kold Knew none,_,w,?_,z1s R (.inr fun _ _ _=>trivial) .nil ⟨by simpa using hs,.inl rfl⟩⟩;have hl0:=hsrc.len w;have hc0:=hsrc.cells;rcases hsrc.kind with⟨e2,hk⟩|hk<;>(simp at hc0;simp[Builtin.append_,run_underlying ht,run_underlying hk,Go.sizeOf,typeInfo,hi,hsrc.len,hc0])
   ·have hold:(Builtin.firstCells i.size 0 (.slice none 0 0)).run P w.drew=.ok ([]:List Value).toArray w.drew:=by simpa using run_firstCells_none w.drew i.size 0 0 0
    have hg:=run_append_grow_src w t tx ty e i z ht hi hz none 0 0 [] hold x ys.length news hsrc (by omega) (by simp;omega) (growslice_fits (by omega) (by simpa using hr1));refine⟨swK κ Kold Knew (some (w.heap.size,0+(yC ([]++ys)).length)),_,_,hg,?_⟩;have:=z2O R (Kold:=Kold) (Knew:=Knew) (n:=i.size) (xs:=[]) (ys:=ys) (cap:=grownCap w (0+ys.length) 0 e) (olds:=[]) (news:=news)
     (Builtin.zeroCells z.cells (grownCap w (0+ys.length) 0 e-(0+ys.length))) e hs hys rfl (by simp) hl hnews (by simpa using grownCap_ge w _ _ e)
     (by
      have:=grownCap_ge w (0+ys.length) 0 e;simp only[List.nil_append,Builtin.zeroCells,Array.size_map,Array.size_range,hzn,hfy];rw[←Nat.add_mul];congr 1;omega)
    exact this
 ·by_cases h0:ys.length=0
  ·obtain rfl:ys=[]:=List.length_eq_zero_iff.1 h0;have hnil:news=[]:=List.length_eq_zero_iff.1 (by rw[hl];rfl);subst hnil;refine⟨swK κ Kold Knew none,_,w,?_,z1s R (.inr fun _ _ _=>trivial) (.emp a0) ⟨by simpa using hs,.inr (.inl ⟨a0,rfl,rfl⟩)⟩⟩;have hl0:=hsrc.len w;have hc0:=hsrc.cells;rcases hsrc.kind with⟨e2,hk⟩|hk<;>(simp at hc0;simp[Builtin.append_,run_underlying ht,run_underlying hk,Go.sizeOf,typeInfo,hi,hsrc.len,hc0,storeCells])
  ·have hold:(Builtin.firstCells i.size 0 (.slice (some a0) 0 0)).run P w.drew=.ok ([]:List Value).toArray w.drew:=run_firstCells_some w.drew i.size 0 a0 0 0 [] (by simp) (by simp);have hg:=run_append_grow_src w t tx ty e i z ht hi hz (some a0) 0 0 [] hold x ys.length news hsrc (by omega) (by simp;omega) (growslice_fits (by omega) (by simpa using hr1));refine⟨swK κ Kold Knew (some (w.heap.size,0+(yC ([]++ys)).length)),_,_,hg,?_⟩
   have:=z2O R (Kold:=Kold) (Knew:=Knew) (n:=i.size) (xs:=[]) (ys:=ys) (cap:=grownCap w (0+ys.length) 0 e) (olds:=[]) (news:=news)
    (Builtin.zeroCells z.cells (grownCap w (0+ys.length) 0 e-(0+ys.length))) e hs hys rfl (by simp) hl hnews (by simpa using grownCap_ge w _ _ e)
    (by
     have:=grownCap_ge w (0+ys.length) 0 e;simp only[List.nil_append,Builtin.zeroCells,Array.size_map,Array.size_range,hzn,hfy];rw[←Nat.add_mul];congr 1;omega)
   exact this
 ·obtain⟨hc,hle⟩:=hv.here;by_cases hfit:xs.length+ys.length≤cap
  ·rcases hr with hcap|⟨hκ,hsp⟩
   ·have h0:ys.length=0:=by omega
    obtain rfl:ys=[]:=List.length_eq_zero_iff.1 h0;have hnil:news=[]:=List.length_eq_zero_iff.1 (by rw[hl];rfl);subst hnil;have:=run_append_room_src w t tx ty e i ht hi b o xs.length cap x _ [] hsrc hfit (by simp) (by simp);refine⟨swK κ Kold Knew none,_,_,this,?_⟩;have:=z1s R (Kold:=Kold) (Knew:=Knew) (n:=i.size) (v:=.slice (some ⟨b,o,none⟩) xs.length cap) (zs:=xs) (.inr fun _ _ _=>trivial) (.sl b o cap xs hc hle) ⟨hs,.inr (.inr ⟨b,o,by rw[hcap]⟩)⟩;simpa [World.setCells]using this
   ·have hle2:(xs.length+ys.length)*i.size≤cap*i.size:=Nat.mul_le_mul_right _ hfit;rw[Nat.add_mul]at hle2;have:=run_append_room_src w t tx ty e i ht hi b o xs.length cap x _ news hsrc hfit
     (fun j hj=>by
      obtain⟨u,hu⟩:=(hsp (xs.length*i.size+j) (by omega)).1;rw[Nat.add_assoc];exact Option.isSome_iff_exists.2 ⟨u,hu⟩)
     (fun j hj=>by
      have:=(hsp (xs.length*i.size+j) (by omega)).2;rw[Nat.add_assoc];exact this)
    refine⟨swK κ Kold Knew (some (b,o+(yC (xs++ys)).length)),_,_,this,?_⟩;have:=z6f R (Knew:=Knew) hc hs hκ hsp hys hfit hl hnews;rw[hfx]at this;exact this
  ·obtain⟨vs,h1,h2,h3,h4⟩:=hc.list;have hold:(Builtin.firstCells i.size xs.length (.slice (some ⟨b,o,none⟩) xs.length cap)).run P w.drew=.ok vs.toArray w.drew:=
    run_firstCells_some w.drew i.size xs.length ⟨b,o,none⟩ xs.length cap vs (by rw[h1,hfx]) (fun j u hu=>by rw[Addr.add_mid];exact h2 j u hu)
   have hg:=run_append_grow_src w t tx ty e i z ht hi hz (some ⟨b,o,none⟩) xs.length cap vs hold x ys.length news hsrc (by omega) (by omega) (growslice_fits (by omega) hr1);refine⟨swK κ Kold Knew (some (w.heap.size,0+(yC (xs++ys)).length)),_,_,hg,?_⟩;have:=z2O R (Kold:=Kold) (Knew:=Knew) (n:=i.size) (xs:=xs) (ys:=ys) (cap:=grownCap w (xs.length+ys.length) cap e) (olds:=vs) (news:=news)
    (Builtin.zeroCells z.cells (grownCap w (xs.length+ys.length) cap e-(xs.length+ys.length))) e hs hys h1 h4 hl hnews (grownCap_ge w _ _ e)
    (by
     have:=grownCap_ge w (xs.length+ys.length) cap e;simp only[Builtin.zeroCells,Array.size_map,Array.size_range,hzn,vZ,List.length_append,hfx,hfy];rw[←Nat.add_mul,←Nat.add_mul];congr 1;omega)
   exact this
end
end Nt

