import Derived.Test.YtcpblelppecabaaGreatFwZ8
import Derived.Sort.OwnSortedInts
import Derived.Lib.SlicesCompact
import Derived.Deep.QuietTactic
import Derived.BigQuiet
import Derived.Deep.RegionLaw
import Derived.BigRegion
namespace Nt
open Go Go.Proofs Go.RowKit
set_option linter.unusedVariables false
set_option linter.unusedSimpArgs false
def kN:Kap:=fun _=>none
theorem v1S{M:Nat→Nat→Prop}{b o:Nat}(h:¬M b o):¬Mut M kN b o:=fun hm=>hm.elim h (fun⟨_,_,h,_⟩=>by cases h)
theorem y4s{W:World}{M0:Nat→Nat→Prop}(h:∀b o,M0 b o→b<W.heap.size):Before W M0 kN [] where
 m0:=fun b o hb=>⟨h b o hb,fun _ _ hk=>by cases hk⟩
 kb:=fun _ _ _ hk=>by cases hk
 ki:=fun _ _ _ _ _ hk=>by cases hk
 hn:=fun _ _ hk=>by cases hk
 noar:=fun _=>rfl
 heap:=fun id cs hc=>by simp at hc
theorem y9w{W:World}:Before W noM kN []:=y4s (fun _ _ h=>h.elim)
theorem y3l{W W':World}{M0:Nat→Nat→Prop}{κ':Kap}{h':H}(A:y7C W M0 kN h' W' κ'):Below W.heap.size W W' :=
 ⟨A.kept.os,A.kept.tape,A.kept.output,A.kept.size,fun k hk=>A.kept.block k hk (fun⟨_,_,h⟩=>by cases h)⟩
theorem v5O{w W:World}{M:Nat→Nat→Prop}(h:Below w.heap.size w W):Keeps w M W (Mut noM kN):=
 ⟨fun b o v hv _=>by rw[yN (h.block b (z4d hv))];exact hv,fun b o v hv _ hm=>v1S (fun h=>h.elim) hm⟩
theorem v4e{w:World}{M0:Nat→Nat→Prop}{κ:Kap}{h:H}(B:Before w M0 κ h){b o:Nat}(hb:w.heap.size≤b):¬Mut M0 κ b o:=fun hm=>hm.elim
 (fun h=>by have:=(B.m0 _ _ h).1;omega) (fun⟨_,_,h,_⟩=>by have:=B.kb _ _ _ h;omega)
theorem y9i{W:World}{M:Nat→Nat→Prop}{g:Nat}(hM:∀o,¬M g o):∀(l:List Int) (o:Nat),(∀k (hk:k<l.length),W.cell? ⟨g,o+k,none⟩=some (.int .i64 l[k]))→RelC W M g o (jF (l.map (D.int .i64)))
 |[],o,_=>.nil g o
 |x::l,o,h=>.cons _ _ _ _ _ (h 0 (by simp)) (hM o) rfl (.int _ _) (y9i hM l (o+1) fun k hk=>by
   have:=h (k+1) (by simpa using hk);rw[show o+1+k=o+(k+1)by omega];simpa using this)
theorem v6R{w:World}{base e:Nat}{v:Value}{n:Nat}{l:List Int}(h:w.ownsRow base e 1 v n (l.map (Value.int .i64))):n=l.length:=by
 have:=h.1;simp at this;exact this.symm
theorem v5V{W:World}{M:Nat→Nat→Prop}{base e:Nat}{v:Value}{n:Nat}{l:List Int}(h:W.ownsRow base e 1 v n (l.map (Value.int .i64)))(hM:∀b o,base≤b→¬M b o):RelV W M v (.sl (l.map (D.int .i64))):=by
 have hn:=v6R h;subst hn;rcases h with⟨-,⟨rfl,h0⟩|⟨g,cap,cur,rfl,hb,hh,h1,h2,h3,h4⟩⟩
 ·have:l=[]:=List.eq_nil_of_length_eq_zero h0;subst this;exact .nil
 ·have hc:∀k (hk:k<l.length),W.cell? ⟨g,0+k,none⟩=some (.int .i64 l[k]):=fun k hk=>by
   have e1:(cur.toList.take (l.length*1))[k]?=(l.map (Value.int .i64))[k]?:=by rw[h4]
   rw[List.getElem?_take_of_lt (by omega),List.getElem?_map,List.getElem?_eq_getElem hk]at e1;simp only[World.cell?,hh,Nat.zero_add,Option.isSome_none,Bool.false_eq_true,if_false];rw[←Array.getElem?_toList];exact e1
  have:=RelV.sl (w:=W) (M:=M) g 0 cap (l.map (D.int .i64)) (y9i (fun o=>hM g o hb) l 0 hc) (by rw[zq3];exact h1);rw[zq3]at this;exact this
def cpt(l:List Int):List Int:=l.foldl (fun acc x=>if acc.getLast?=some x then acc else acc++[x]) []
theorem y1F(l:List Int):Lib.compact l=cpt l:=by
 have key:∀m,m≤l.length→Lib.compactUpTo l.toArray m=(l.take m).foldl (fun acc x=>if acc.getLast?=some x then acc else acc++[x]) []∧(0<m→(Lib.compactUpTo l.toArray m).getLast?=l[m-1]?):=by
  intro m;induction m with
  |zero=>intro _;exact⟨by simp[Lib.compactUpTo],fun h=>absurd h (by omega)⟩
  |succ m ih=>
   intro hm;obtain⟨h1,h2⟩:=ih (by omega);have e:l.take (m+1)=l.take m++[l[m]'(by omega)]:=by rw[List.take_succ_eq_append_getElem]
   rw[Lib.compactUpTo_succ,e,List.foldl_append,←h1];have hx:l.toArray[m]! = l[m]'(by omega):=by rw[getElem!_pos l.toArray m (by simp;omega)];simp
   by_cases h0:m=0
   ·subst h0;have:Lib.keeps l.toArray 0=true:=by simp[Lib.keeps]
    rw[this,zq1 rfl];have e0:Lib.compactUpTo l.toArray 0=[]:=by simp[Lib.compactUpTo]
    rw[e0];rw[hx];refine⟨by simp,fun _=>?_⟩;rw[List.getElem?_eq_getElem (show 0+1-1<l.length by omega)];simp
   ·have hl:=h2 (by omega);have hy:l.toArray[m-1]! = l[m-1]'(by omega):=by rw[getElem!_pos l.toArray (m-1) (by simp;omega)];simp
    have hk:Lib.keeps l.toArray m=true↔l[m]'(by omega)≠l[m-1]'(by omega):=by
     simp only[Lib.keeps];rw[hx,hy];simp[h0]
    have hl':(Lib.compactUpTo l.toArray m).getLast?=some (l[m-1]'(by omega)):=by rw[hl,List.getElem?_eq_getElem (show m-1<l.length by omega)]
    by_cases hne:l[m]'(by omega)=l[m-1]'(by omega)
    ·have hkf:¬Lib.keeps l.toArray m=true:=fun g=>(hk.1 g) hne;rw[zq0 hkf,List.append_nil];refine⟨?_,fun _=>?_⟩
     ·simp only[List.foldl_cons,List.foldl_nil];rw[hl',hne,zq1 rfl]
     ·rw[hl',Nat.add_sub_cancel,List.getElem?_eq_getElem (show m<l.length by omega),hne]
    ·rw[zq1 (hk.2 hne),hx];refine⟨?_,fun _=>?_⟩
     ·simp only[List.foldl_cons,List.foldl_nil];rw[hl',zq0 (fun g=>hne (by injection g with g;exact g.symm))]
     ·rw[List.getLast?_concat,Nat.add_sub_cancel,List.getElem?_eq_getElem (show m<l.length by omega)]
 have:=(key l.length (Nat.le_refl _)).1;rw[List.take_length]at this;exact this
theorem v3w{w:World}{base e g n cap k:Nat}{xs:List Value}(h:w.ownsRow base e 1 (.slice (some ⟨g,0,none⟩) n cap) n xs)(hk:k≤n):w.ownsRow base e 1 (.slice (some ⟨g,0,none⟩) k cap) k (xs.take k):=by
 obtain⟨hl,⟨h0,-⟩|⟨g',cap',cur,h0,hb,hh,h1,h2,h3,h4⟩⟩:=h
 ·cases h0
 ·injection h0 with e1 e2 e3;injection e1 with e1;injection e1 with e1;subst e1;subst e3;refine⟨by rw[List.length_take,hl];omega,.inr ⟨g,cap,cur,rfl,hb,hh,by omega,h2,h3,?_⟩⟩;rw[←h4,List.take_take];congr 1;omega
theorem y9v{w w':World}{base e size n:Nat}{v:Value}{xs:List Value}(h:w.ownsRow base e size v n xs)(hb:Below w.heap.size w w'):w'.ownsRow base e size v n xs:=
 h.kept (row:=none) ⟨hb.os,hb.tape,hb.output,hb.size,fun k hk _=>hb.block k hk⟩ (by
  cases v.ownBlock with
  |none=>exact .inl rfl
  |some k=>exact .inr (by simp))
theorem v2t(w:World)(B:Nat):Below B w w.drew:=⟨rfl,rfl,rfl,Nat.le_refl _,fun _ _=>rfl⟩
end Nt

