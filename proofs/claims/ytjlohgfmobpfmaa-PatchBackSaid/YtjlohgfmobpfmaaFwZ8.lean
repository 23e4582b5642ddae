import Derived.Test.YtjlohgfmobpfmaaFwZ7
import Derived.Shelf.Strings.BuilderK
import Derived.Lib.OthersKept
import Derived.WalkKit
import Derived.BigCall
namespace Nt
open Go Go.Proofs Go.RowKit Go.Shelf
set_option linter.unusedVariables false
set_option linter.unusedSimpArgs false
theorem z1f{T e:TypeId}{B b:Nat}{bs:List Value}{w w':World}(h:Lib.IsBuilderF T e B b bs w)(hb:Below w.heap.size w w'):Lib.IsBuilderF T e B b bs w':=by
 have one:∀p,Lib.BuilderAtF T e B b p bs w→Lib.BuilderAtF T e B b p bs w':=fun p ⟨h1,v,h2,h3,h4⟩=>by
  have hlt:b<w.heap.size:=by
   rcases Nat.lt_or_ge b w.heap.size with h'|h'
   ·exact h'
   ·simp[Array.getElem?_eq_none h']at h2
  refine⟨h1,v,by rw[hb.block b hlt];exact h2,h3.kept (row:=none) ⟨hb.os,hb.tape,hb.output,hb.size,fun k hk _=>hb.block k hk⟩ ?_,h4⟩;cases v.ownBlock with
  |none=>exact .inl rfl
  |some k=>exact .inr (by simp)
 exact h.elim (fun x=>.inl (one _ x)) (fun x=>.inr (one _ x))
theorem z4C{w:World}{M:Nat→Nat→Prop}{v:Value}:∀{l:List D},RelV w M v (.sl l)→∃a c,v=.slice a l.length c∧(l≠[]→∃b o,a=some ⟨b,o,none⟩∧RelC w M b o (yC l))
 |_,.nil=>⟨_,_,rfl,fun h=>absurd rfl h⟩
 |_,.emp _=>⟨_,_,rfl,fun h=>absurd rfl h⟩
 |_,.sl b o _ _ h _=>⟨_,_,rfl,fun _=>⟨b,o,rfl,h⟩⟩
end Nt

