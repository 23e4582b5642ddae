import Derived.Test.YtcpblelppecabaaGreatFwZA
import Derived.Shelf.Spec.SlicesGrow
import Derived.Laws.AppendOwnNone
namespace Nt
open Go Go.Proofs Go.RowKit Go.Shelf
set_option linter.unusedVariables false
set_option linter.unusedSimpArgs false
theorem v9t{w:World}{M:Nat→Nat→Prop}{v:Go.Value}:∀{l:List D},RelV w M v (.sl l)→(v=.slice none 0 0∧l=[])∨∃ad c,v=.slice (some ad) l.length c∧(l=[]∨∃b o,ad=⟨b,o,none⟩∧RelC w M b o (jP l))
 |_,.nil=>.inl ⟨rfl,rfl⟩
 |_,.emp a=>.inr ⟨a,0,rfl,.inl rfl⟩
 |_,.sl b o c _ h _=>.inr ⟨_,c,rfl,.inr ⟨b,o,rfl,h⟩⟩
theorem y7e(z:Array Go.Value)(n:Nat):(Builtin.zeroCells z n).size=n*z.size:=by
 simp[Builtin.zeroCells]
theorem v8S {P:Program} {ρ:Ren} (L:Lays8.n4 P ρ) {T:TypeId} (hT:ρ.t 25=T) {size bytes:Nat} (i0:TypeInfo) (z:Go.Value) (hi:P.info? T=some i0) (hz:i0.zero=some z) (hs:i0.size=size) (hb:i0.bytes=bytes) (hzc:z.cells.size=size) (h0:0<size) (n:Nat) (w:World)
  (hbig:n*bytes≤140737488355328) (h63:n≤4611686018427387904):Calls P (ρ.f 4) #[.slice none 0 0,.int .i64 n] w fun e w'=>∃v,e=.returned v∧w'.ownsRow w.heap.size T size v 0 []∧Below w.heap.size w w':=by
 subst hT;subst hs;subst hb;by_cases hn:n=0
 ·subst hn;refine(Any8.slices_Grow_room L none 0 0 0 w (Nat.le_refl _) (by omega) (by omega) (by omega)).mono ?_;rintro e w' ⟨rfl,rfl⟩;exact⟨_,rfl,World.ownsRow_nil _ _ _ _,Below.refl _ _⟩
 ·refine(Any8.slices_Grow_grow L i0 z hi hz h0 none 0 0 n [] w (Nat.le_refl _) (by omega) (by rw[Nat.zero_add];exact hbig) (by omega) (by simp) (fun _=>rfl) (fun a h=>by cases h)).mono ?_;rintro e w' ⟨rfl,rfl⟩;have g1:=grownCap_ge w (0+n) 0 (ρ.t 25);have g2:=grownCap_le_maxLen w (0+n) 0 (ρ.t 25) (by unfold maxLen;omega)
  refine⟨_,rfl,⟨by simp,.inr ⟨w.heap.size,_,_,rfl,Nat.le_refl _,(by show(w.drew.heap.push _)[w.drew.heap.size]?=_;rw[Array.getElem?_push_size]),by omega,g2,?_,by simp⟩⟩,(Below.refl _ w).drew.alloc (Nat.le_refl _) _⟩;simp only[Array.size_append,y7e,hzc];rw[show(#[]:Array Go.Value).size=0 from rfl,Nat.zero_add,←Nat.add_mul];congr 1;omega
def Stand(w:World)(M:Nat→Nat→Prop)(us:List Go.Value)(cs:List D):Prop:=us.length=cs.length∧∀(j:Nat) u c,us[j]?=some u→cs[j]?=some c→c.sc=true∧RelV w M u c
theorem Stand.app{w:World}{M:Nat→Nat→Prop}{us vs:List Go.Value}{cs ds:List D}(h:Stand w M us cs)(g:Stand w M vs ds):Stand w M (us++vs) (cs++ds):=by
 refine⟨by simp[h.1,g.1],fun j u c hu hc=>?_⟩;by_cases hj:j<us.length
 ·rw[List.getElem?_append_left hj]at hu;rw[List.getElem?_append_left (by have:=h.1;omega)]at hc;exact h.2 j u c hu hc
 ·rw[List.getElem?_append_right (by omega)]at hu;rw[List.getElem?_append_right (by have:=h.1;omega),←h.1]at hc;exact g.2 _ u c hu hc
theorem v8C{w:World}{p:Addr}{u:Go.Value}(h:w.cell? p=some u):p.block<w.heap.size:=by
 by_cases hb:p.block<w.heap.size
 ·exact hb
 ·have e:w.heap[p.block]?=none:=Array.getElem?_eq_none (by omega);simp[World.cell?,e]at h
theorem v7U{w:World}{M:Nat→Nat→Prop}{n:Nat}{ad:Addr}{l:List D}(hs:zE n l)(h:l=[]∨∃b o,ad=⟨b,o,none⟩∧RelC w M b o (jP l)):
  ∃us:List Go.Value,us.length=l.length*n∧(∀j u,us[j]?=some u→w.cell? (ad.add j)=some u)∧(∀u∈us,u.oneCell'=true)∧Stand w M us (jP l):=by
 rcases h with rfl|⟨b,o,rfl,h⟩
 ·exact⟨[],by simp,by simp,by simp,rfl,by simp⟩
 ·obtain⟨us,h1,h2,h3,h4⟩:=h.list;exact⟨us,by rw[h1,z0i hs],fun j u hj=>by
   have:=h2 j u hj;unfold vZ at this;simp only[Addr.add];split
   ·rename_i e;subst e;exact this
   ·exact this,h3,h1,h4⟩
theorem v7C{w W:World}{M:Nat→Nat→Prop}{base e n:Nat}{v:Go.Value}{us:List Go.Value}{xs:List D}(h:W.ownsRow base e n v xs.length us)(hs:zE n xs)(hu:Stand w M us (jP xs))(K:Keeps w M W M)(hM:∀b o,base≤b→¬M b o):RelV W M v (.sl xs):=by
 rcases h with⟨hl,⟨rfl,h0⟩|⟨g,cap,cur,rfl,hb,hh,h1,h2,h3,h4⟩⟩
 ·have:xs=[]:=List.eq_nil_of_length_eq_zero h0;subst this;exact .nil
 ·refine RelV.sl g 0 cap xs (RelC.mk 0 fun i c hc=>?_) h1;have hlt:i<us.length:=by rw[hu.1];exact(List.getElem?_eq_some_iff.1 hc).1
  have gu:=List.getElem?_eq_getElem hlt;obtain⟨c1,c2⟩:=hu.2 i _ c gu hc;refine⟨us[i],?_,hM g _ hb,c1,c2.keep K⟩;have e1:(cur.toList.take (xs.length*n))[i]?=us[i]?:=by rw[h4]
  rw[List.getElem?_take_of_lt (by omega),gu]at e1;rw[Nat.zero_add];exact(yC hh).trans (by rw[←Array.getElem?_toList];exact e1)
end Nt

