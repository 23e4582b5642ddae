import Derived.Test.YtcpblelppecabaaGreatFwZ8
import Derived.Sort.OwnSortedInts
import Derived.Lib.SlicesCompact
import Derived.Deep.QuietTactic
import Derived.BigQuiet
import Derived.Deep.RegionLaw
import Derived.BigRegion
namespace Nt
open Go Go.Proofs Go.RowKit
set_option linter.unusedVariables false
set_option linter.unusedSimpArgs false
def kN:Kap:=fun _=>none
theorem w0Q{M:Nat→Nat→Prop}{b o:Nat}(h:¬M b o):¬Mut M kN b o:=fun hm=>hm.elim h (fun⟨_,_,h,_⟩=>by cases h)
theorem v5q{W:World}{M0:Nat→Nat→Prop}(h:∀b o,M0 b o→b<W.heap.size):Before W M0 kN [] where
 m0:=fun b o hb=>⟨h b o hb,fun _ _ hk=>by cases hk⟩
 kb:=fun _ _ _ hk=>by cases hk
 ki:=fun _ _ _ _ _ hk=>by cases hk
 hn:=fun _ _ hk=>by cases hk
 noar:=fun _=>rfl
 heap:=fun id cs hc=>by simp at hc
theorem v3Z{W W':World}{M0:Nat→Nat→Prop}{κ':Kap}{h':H}(A:v0S W M0 kN h' W' κ'):Below W.heap.size W W' :=
 ⟨A.kept.os,A.kept.tape,A.kept.output,A.kept.size,fun k hk=>A.kept.block k hk (fun⟨_,_,h⟩=>by cases h)⟩
theorem v3j{w w':World}{base e size n:Nat}{v:Value}{xs:List Value}(h:w.ownsRow base e size v n xs)(hb:Below w.heap.size w w'):w'.ownsRow base e size v n xs:=
 h.kept (row:=none) ⟨hb.os,hb.tape,hb.output,hb.size,fun k hk _=>hb.block k hk⟩ (by
  cases v.ownBlock with
  |none=>exact .inl rfl
  |some k=>exact .inr (by simp))
theorem v6I(w:World)(B:Nat):Below B w w.drew:=⟨rfl,rfl,rfl,Nat.le_refl _,fun _ _=>rfl⟩
end Nt

