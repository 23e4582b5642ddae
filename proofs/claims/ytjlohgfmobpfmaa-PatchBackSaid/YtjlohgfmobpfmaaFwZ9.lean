import Derived.Test.YtjlohgfmobpfmaaFwZ8
import Derived.Sort.OwnSortedInts
import Derived.Lib.SlicesCompact
import Derived.Deep.QuietTactic
import Derived.BigQuiet
import Derived.Deep.RegionLaw
import Derived.BigRegion
namespace Nt
open Go Go.Proofs Go.RowKit
set_option linter.unusedVariables false
set_option linter.unusedSimpArgs false
def kN:Kap:=fun _=>none
theorem z7O{M:Nat→Nat→Prop}{b o:Nat}(h:¬M b o):¬Mut M kN b o:=fun hm=>hm.elim h (fun⟨_,_,h,_⟩=>by cases h)
theorem z4z{W:World}{M0:Nat→Nat→Prop}(h:∀b o,M0 b o→b<W.heap.size):Before W M0 kN [] where
 m0:=fun b o hb=>⟨h b o hb,fun _ _ hk=>by cases hk⟩
 kb:=fun _ _ _ hk=>by cases hk
 ki:=fun _ _ _ _ _ hk=>by cases hk
 hn:=fun _ _ hk=>by cases hk
 noar:=fun _=>rfl
 heap:=fun id cs hc=>by simp at hc
theorem z3Y{W:World}:Before W noM kN []:=z4z (fun _ _ h=>h.elim)
theorem z4h{W W':World}{M0:Nat→Nat→Prop}{κ':Kap}{h':H}(A:z3m W M0 kN h' W' κ'):Below W.heap.size W W' :=
 ⟨A.kept.os,A.kept.tape,A.kept.output,A.kept.size,fun k hk=>A.kept.block k hk (fun⟨_,_,h⟩=>by cases h)⟩
theorem z7K{w W:World}{M:Nat→Nat→Prop}(h:Below w.heap.size w W):Keeps w M W (Mut noM kN):=
 ⟨fun b o v hv _=>by rw[zL (h.block b (yY hv))];exact hv,fun b o v hv _ hm=>z7O (fun h=>h.elim) hm⟩
theorem z3K{w:World}{M0:Nat→Nat→Prop}{κ:Kap}{h:H}(B:Before w M0 κ h){b o:Nat}(hb:w.heap.size≤b):¬Mut M0 κ b o:=fun hm=>hm.elim
 (fun h=>by have:=(B.m0 _ _ h).1;omega) (fun⟨_,_,h,_⟩=>by have:=B.kb _ _ _ h;omega)
theorem z1K{w w':World}{base e size n:Nat}{v:Value}{xs:List Value}(h:w.ownsRow base e size v n xs)(hb:Below w.heap.size w w'):w'.ownsRow base e size v n xs:=
 h.kept (row:=none) ⟨hb.os,hb.tape,hb.output,hb.size,fun k hk _=>hb.block k hk⟩ (by
  cases v.ownBlock with
  |none=>exact .inl rfl
  |some k=>exact .inr (by simp))
theorem z5o(w:World)(B:Nat):Below B w w.drew:=⟨rfl,rfl,rfl,Nat.le_refl _,fun _ _=>rfl⟩
end Nt

