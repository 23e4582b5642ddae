import Derived.Test.YtjlohgfmobpfmaaFwZA
import Derived.Shelf.Spec.SlicesGrow
import Derived.Laws.AppendOwnNone
namespace Nt
open Go Go.Proofs Go.RowKit Go.Shelf
set_option linter.unusedVariables false
set_option linter.unusedSimpArgs false
def Stand(w:World)(M:Nat→Nat→Prop)(us:List Go.Value)(cs:List D):Prop:=us.length=cs.length∧∀(j:Nat) u c,us[j]?=some u→cs[j]?=some c→c.sc=true∧RelV w M u c
theorem Stand.app{w:World}{M:Nat→Nat→Prop}{us vs:List Go.Value}{cs ds:List D}(h:Stand w M us cs)(g:Stand w M vs ds):Stand w M (us++vs) (cs++ds):=by
 refine⟨by simp[h.1,g.1],fun j u c hu hc=>?_⟩;by_cases hj:j<us.length
 ·rw[List.getElem?_append_left hj]at hu;rw[List.getElem?_append_left (by have:=h.1;omega)]at hc;exact h.2 j u c hu hc
 ·rw[List.getElem?_append_right (by omega)]at hu;rw[List.getElem?_append_right (by have:=h.1;omega),←h.1]at hc;exact g.2 _ u c hu hc
theorem z3W{w W:World}{M:Nat→Nat→Prop}{base e n:Nat}{v:Go.Value}{us:List Go.Value}{xs:List D}(h:W.ownsRow base e n v xs.length us)(hs:yB n xs)(hu:Stand w M us (yC xs))(K:Keeps w M W M)(hM:∀b o,base≤b→¬M b o):RelV W M v (.sl xs):=by
 rcases h with⟨hl,⟨rfl,h0⟩|⟨g,cap,cur,rfl,hb,hh,h1,h2,h3,h4⟩⟩
 ·have:xs=[]:=List.eq_nil_of_length_eq_zero h0;subst this;exact .nil
 ·refine RelV.sl g 0 cap xs (RelC.mk 0 fun i c hc=>?_) h1;have hlt:i<us.length:=by rw[hu.1];exact(List.getElem?_eq_some_iff.1 hc).1
  have gu:=List.getElem?_eq_getElem hlt;obtain⟨c1,c2⟩:=hu.2 i _ c gu hc;refine⟨us[i],?_,hM g _ hb,c1,c2.keep K⟩;have e1:(cur.toList.take (xs.length*n))[i]?=us[i]?:=by rw[h4]
  rw[List.getElem?_take_of_lt (by omega),gu]at e1;rw[Nat.zero_add];exact(zB hh).trans (by rw[←Array.getElem?_toList];exact e1)
end Nt

