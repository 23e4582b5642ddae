import Derived.Test.YtjlohgfmobpfmaaFwZ5
import Derived.Shelf.Strings.OnBuilder
namespace Nt
open Go Go.Proofs Go.Shelf Go.RowKit
set_option linter.unusedVariables false
set_option linter.unusedSimpArgs false
theorem yY{w:World}{b o:Nat}{v:Value}(h:zJ w b o=some v):b<w.heap.size:=by
 by_cases hb:b<w.heap.size
 ·exact hb
 ·have e:w.heap[b]?=none:=Array.getElem?_eq_none (by omega);simp[zJ,World.cell?,e]at h
theorem z1d{w w':World}(h:Below w.heap.size w w')(M:Nat→Nat→Prop):Keeps w M w' M:=
 ⟨fun b o v hv _=>by rw[zL (h.block b (yY hv))];exact hv,fun _ _ _ _ hm=>hm⟩
theorem z1c{w w':World}(h:Below w.heap.size w w'):Grows w w' :=
 ⟨fun b o v hv=>⟨v,by rw[zL (h.block b (yY hv))];exact hv⟩,fun b o v hv hi=>by rw[vH (h.block b (yY hv))];exact hi⟩
theorem yT{w w':World}{M0:Nat→Nat→Prop}{κ:Kap}{hp:H}(B:Before w M0 κ hp)(h:Below w.heap.size w w'):z3m w M0 κ hp w' κ where
 kept:=⟨h.os,h.tape,h.output,h.size,fun k hk _=>h.block k hk⟩
 k0:=z1d h _
 g0:=z1c h
 kb:=fun key b lo hk=>⟨Nat.lt_of_lt_of_le (B.kb key b lo hk) h.size,.inr ⟨key,lo,hk⟩⟩
 ki:=B.ki
 hn:=B.hn
 hp:=fun _ _ h=>h
 heap:=by
  intro id cs hc;obtain⟨b,h1,h2⟩:=B.heap id cs hc;refine⟨b,h1,fun i c hi=>?_⟩;obtain⟨v,g1,g2,g3,g4⟩:=h2 i c hi;have hb:=h.block b (yY g1);exact⟨v,by rw[zL hb];exact g1,g2,by rw[vH hb];exact g3,RelHc.conv (z1d h _) (z1c h) (fun _ _ h=>h) rfl g4⟩
end Nt

