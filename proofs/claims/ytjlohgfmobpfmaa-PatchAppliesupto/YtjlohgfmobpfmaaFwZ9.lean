import Derived.Test.YtjlohgfmobpfmaaFwZ8
import Derived.Sort.OwnSortedInts
import Derived.Lib.SlicesCompact
import Derived.Deep.QuietTactic
import Derived.BigQuiet
import Derived.Deep.RegionLaw
import Derived.BigRegion
namespace Nt
open Go Go.Proofs Go.RowKit
set_option linter.unusedVariables false
set_option linter.unusedSimpArgs false
def kN:Kap:=fun _=>none
theorem z9r{M:Nat→Nat→Prop}{b o:Nat}(h:¬M b o):¬Mut M kN b o:=fun hm=>hm.elim h (fun⟨_,_,h,_⟩=>by cases h)
theorem z6c{W:World}{M0:Nat→Nat→Prop}(h:∀b o,M0 b o→b<W.heap.size):Before W M0 kN [] where
 m0:=fun b o hb=>⟨h b o hb,fun _ _ hk=>by cases hk⟩
 kb:=fun _ _ _ hk=>by cases hk
 ki:=fun _ _ _ _ _ hk=>by cases hk
 hn:=fun _ _ hk=>by cases hk
 noar:=fun _=>rfl
 heap:=fun id cs hc=>by simp at hc
theorem z5z{W:World}:Before W noM kN []:=z6c (fun _ _ h=>h.elim)
theorem z5J{W W':World}{M0:Nat→Nat→Prop}{κ':Kap}{h':H}(A:z4K W M0 kN h' W' κ'):Below W.heap.size W W' :=
 ⟨A.kept.os,A.kept.tape,A.kept.output,A.kept.size,fun k hk=>A.kept.block k hk (fun⟨_,_,h⟩=>by cases h)⟩
theorem z9n{w W:World}{M:Nat→Nat→Prop}(h:Below w.heap.size w W):Keeps w M W (Mut noM kN):=
 ⟨fun b o v hv _=>by rw[zR (h.block b (vS hv))];exact hv,fun b o v hv _ hm=>z9r (fun h=>h.elim) hm⟩
theorem z2H{w:World}{M0:Nat→Nat→Prop}{κ:Kap}{h:H}(B:Before w M0 κ h){b o:Nat}(hb:w.heap.size≤b):¬Mut M0 κ b o:=fun hm=>hm.elim
 (fun h=>by have:=(B.m0 _ _ h).1;omega) (fun⟨_,_,h,_⟩=>by have:=B.kb _ _ _ h;omega)
theorem wZ {P:Program} {ops:Array Oper} {o:Oper} {a:Act} {w:World} {K:Act→World→Prop} {Q:Exit→Act→World→Prop} {E:Prop} (hg:o.guard=none) (s x:Operand) (t:TypeId)
  (ho:o.op=.call {callee:=.builtin .append,args:=#[s,x],argTypes:=#[t,t]})
  (base:Nat) (e:TypeId) (i:TypeInfo) (z:Value) (size bytes:Nat) (ht:P.underlying t=some (.slice e)) (hi:P.info? e=some i) (hz:i.zero=some z)
  (hsize:i.size=size) (hby:i.bytes=bytes) (hzs:z.cells.size=size) (hsz:0<size)
  (v:Value) (n:Nat) (xs:List Value) (hs:a.eval s=v) (hown:w.ownsRow base e size v n xs)
  (ad:Addr) (m c:Nat) (news:List Value) (hx:a.eval x=.slice (some ad) m c) (hl:news.length=m*size) (hnews:∀j u,news[j]?=some u→w.cell? (ad.add j)=some u) (h1:∀u∈news,u.oneCell'=true)
  (h63:n+m≤maxLen) (hbytes:(n+m)*bytes≤140737488355328) (hbase:base≤w.heap.size)
  (h:∀v' w',w'.ownsRow base e size v' (n+m) (xs++news)→w.grownBy w' v.ownBlock→(v'=.slice none 0 0↔v=.slice none 0 0∧m=0)→K (a.put o.dst v') w'):
  if Region.wanted o (yielded ops a.tmps)=true then Oper.wp P o a w K Q else E:=by
 have hw:Region.wanted o (yielded ops a.tmps)=true:=by simp[Region.wanted,hg]
 rw[zq1 hw];exact wp_append_own w s x t ho base e i z size bytes ht hi hz hsize hby hzs hsz v n xs hs hown ad m c news hx hl hnews h1 h63 hbytes hbase h
theorem wN{w w':World}{base e size n:Nat}{v:Value}{xs:List Value}(h:w.ownsRow base e size v n xs)(hb:Below w.heap.size w w'):w'.ownsRow base e size v n xs:=
 h.kept (row:=none) ⟨hb.os,hb.tape,hb.output,hb.size,fun k hk _=>hb.block k hk⟩ (by
  cases v.ownBlock with
  |none=>exact .inl rfl
  |some k=>exact .inr (by simp))
theorem uE(w:World)(n B:Nat):Below B w (w.drewN n):=⟨rfl,rfl,rfl,Nat.le_refl _,fun _ _=>rfl⟩
theorem uD(w:World)(B:Nat):Below B w w.drew:=⟨rfl,rfl,rfl,Nat.le_refl _,fun _ _=>rfl⟩
theorem yT{w w':World}{p:Addr}{u:Value}(h:w.cell? p=some u)(hb:Below w.heap.size w w'):w'.cell? p=some u:=by
 have hlt:p.block<w.heap.size:=by
  rcases Nat.lt_or_ge p.block w.heap.size with h'|h'
  ·exact h'
  ·simp[World.cell?,Array.getElem?_eq_none h']at h
 rw[hb.cell hlt];exact h
end Nt

