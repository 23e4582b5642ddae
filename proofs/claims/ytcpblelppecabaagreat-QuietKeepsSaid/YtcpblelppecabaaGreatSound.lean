import Derived.Test.YtcpblelppecabaaGreatMod
import Derived.Test.YtcpblelppecabaaGreatEv
import Derived.Test.YtcpblelppecabaaGreatLay
import Derived.Test.YtcpblelppecabaaGreatFwZA
namespace Go.Proofs.YtcpblelppecabaaGreat.M
open Go Nt Go.Proofs
set_option linter.unusedVariables false
set_option linter.unusedSimpArgs false
set_option linter.unnecessarySimpa false
set_option maxRecDepth 100000
def z6K:(i:I_quiet_Quiet_L3)→z3V i→Prop
 |.quiet_Quiet_L3 quiet v7 v8 v9,r=>Ok (z6h (Trip Tryz.prog) [(nB r)] []) (kL Tryz.f15 3) ⟨57,[(3,(nB quiet)),(7,.d (.sl (List.map zA.toD v7))),(8,(nI v8)),(9,(nI v9))],[],[],0⟩
theorem y1O:∀i r,uQ z1K i=some r→z6K i r:=by
 refine zP z6C fun g ih i=>?_;cases i with
 |quiet_Quiet_L3 quiet v7 v8 v9=>
  have v8k:=fun quiet v7 v8 v9 r h=>ih (.quiet_Quiet_L3 quiet v7 v8 v9) r h;intro r h;replace h:uW (fun quiet v7 v8 v9=>g (I_quiet_Quiet_L3.quiet_Quiet_L3 quiet v7 v8 v9)) quiet v7 v8 v9=some r:=h;unfold uW at h;refine uZ 1000 (y2f _ _ _ _ quiet v7 v8 v9) ?_;rintro _ rfl;refine zD decide_eq_true_iff h (fun _ h=>?_) (fun _ h=>?_)
  ·obtain⟨x,hx,h⟩:=zC h;refine⟨zF (l:=v7) (zA.sz),vZ hx,x.K,x.N,x.S,List.map zA.toD x.L,x.From,x.To,zL (zA.toD_eq x) hx,?_⟩;rintro _ rfl;refine zD zq2 h (fun hc2 h=>?_) (fun hc2 h=>?_)
   ·refine z2g zq2 hc2 ?_;rintro _ rfl;exact v8k _ _ _ _ _ h
   rintro _ rfl;refine zD zq2 h (fun hc3 h=>?_) (fun hc3 h=>?_)
   ·refine z2g zq2 hc3 ?_;rintro _ rfl;exact v8k _ _ _ _ _ h
   rintro _ rfl;refine zD zq2 h (fun hc4 h=>?_) (fun hc4 h=>?_)
   ·refine z2g zq2 hc4 ?_;rintro _ rfl;exact v8k _ _ _ _ _ h
   rintro _ rfl;refine zD zq2 h (fun hc5 h=>?_) (fun hc5 h=>?_)
   ·refine z2g zq2 hc5 ?_;rintro _ rfl;exact v8k _ _ _ _ _ h
   rintro _ rfl;refine zD zq2 h (fun hc6 h=>?_) (fun hc6 h=>?_)
   ·refine z2g zq2 hc6 ?_;rintro _ rfl;exact v8k _ _ _ _ _ h
   rintro _ rfl;refine zD zq2 h (fun hc7 h=>?_) (fun hc7 h=>?_)
   ·refine z2g zq2 hc7 ?_;rintro _ rfl;exact v8k _ _ _ _ _ h
   rintro _ rfl;refine zD zq2 h (fun hc8 h=>?_) (fun hc8 h=>?_)
   ·refine z2g zq2 hc8 ?_;rintro _ rfl;exact v8k _ _ _ _ _ h
   rintro _ rfl;refine zD zq2 h (fun hc9 h=>?_) (fun hc9 h=>?_)
   ·refine z2g zq2 hc9 ?_;rintro _ rfl;exact v8k _ _ _ _ _ h
   rintro _ rfl;refine zD zq2 h (fun _ h=>?_) (fun _ h=>?_)
   ·rintro _ rfl;exact v8k _ _ _ _ _ h
   rintro _ rfl;refine zD zq2 h (fun _ h=>?_) (fun _ h=>?_)
   ·rintro _ rfl;refine zD zq2 h (fun _ h=>?_) (fun _ h=>?_)
    ·refine zV (e':=(List.length x.L:Int)) (by first|rfl|rw[zq3]) ?_;rintro _ rfl;refine zD decide_eq_true_iff h (fun _ h=>?_) (fun _ h=>?_)
     ·cases h;exact⟨rfl,rfl⟩
     obtain⟨x33,hx,h⟩:=zC h;refine⟨zF (l:=x.L) (zA.sz),vZ hx,x33.K,x33.N,x33.S,List.map zA.toD x33.L,x33.From,x33.To,zL (zA.toD_eq x33) hx,?_⟩;rintro _ rfl;refine zG zq2 h (fun _ h=>?_) (fun _ h=>?_)
     ·obtain⟨x34,hx,h⟩:=zC h;refine⟨zF (l:=x.L) (zA.sz),vZ hx,x34.K,x34.N,x34.S,List.map zA.toD x34.L,x34.From,x34.To,zL (zA.toD_eq x34) hx,?_⟩;rintro _ rfl;refine zD zq2 h (fun _ h=>?_) (fun _ h=>?_)
      ·cases h;exact⟨rfl,rfl⟩
      rintro _ rfl;exact v8k _ _ _ _ _ h
     cases h;exact⟨rfl,rfl⟩
    rintro _ rfl;refine zD zq2 h (fun _ h=>?_) (fun _ h=>?_)
    ·refine zV (e':=(List.length x.L:Int)) (by first|rfl|rw[zq3]) ?_;rintro _ rfl;refine zD decide_eq_true_iff h (fun _ h=>?_) (fun _ h=>?_)
     ·cases h;exact⟨rfl,rfl⟩
     obtain⟨x35,hx,h⟩:=zC h;refine⟨zF (l:=x.L) (zA.sz),vZ hx,x35.K,x35.N,x35.S,List.map zA.toD x35.L,x35.From,x35.To,zL (zA.toD_eq x35) hx,?_⟩;rintro _ rfl;refine zG zq2 h (fun _ h=>?_) (fun _ h=>?_)
     ·obtain⟨x36,hx,h⟩:=zC h;refine⟨zF (l:=x.L) (zA.sz),vZ hx,x36.K,x36.N,x36.S,List.map zA.toD x36.L,x36.From,x36.To,zL (zA.toD_eq x36) hx,?_⟩;rintro _ rfl;refine zD zq2 h (fun _ h=>?_) (fun _ h=>?_)
      ·cases h;exact⟨rfl,rfl⟩
      rintro _ rfl;exact v8k _ _ _ _ _ h
     cases h;exact⟨rfl,rfl⟩
    rintro _ rfl;exact v8k _ _ _ _ _ h
   cases h;exact⟨rfl,rfl⟩
  cases h;exact⟨rfl,rfl⟩
theorem y1W(quiet:Bool)(v7:List zA)(v8 v9:Int)(r:Bool)(h:quiet_Quiet_L3 quiet v7 v8 v9=some r):z6K (.quiet_Quiet_L3 quiet v7 v8 v9) r:=y1O (.quiet_Quiet_L3 quiet v7 v8 v9) r h
def z5j:(i:I_quiet_all_L3)→z5k i→Prop
 |.quiet_all_L3 out i,r=>Ok (z9r (Trip Tryz.prog) [.d (.sl (List.map zA.toD r))] []) (kL Tryz.f49 3) ⟨21,[(3,.right 6 1 6 (List.map zA.toD out)),(4,(nI i))],[(6,1,some (.tok 6 (List.length (List.map zA.toD out))))],[],0⟩
theorem y4P:∀i r,uQ z3F i=some r→z5j i r:=by
 refine zP z8K fun g ih i=>?_;cases i with
 |quiet_all_L3 out i=>
  have v8l:=fun out i r h=>ih (.quiet_all_L3 out i) r h;intro r h;replace h:gB (fun out i=>g (I_quiet_all_L3.quiet_all_L3 out i)) out i=some r:=h;unfold gB at h;refine uZ 1000 (y4U _ _ _ _ out i) ?_;refine zV (e':=(List.length out:Int)) (by first|rfl|rw[zq3]) ?_;rintro _ rfl;refine zD decide_eq_true_iff h (fun _ h=>?_) (fun _ h=>?_)
  ·obtain⟨x,hx,h⟩:=zC h;refine⟨zF (l:=out) (zA.sz),vZ hx,x.K,x.N,x.S,List.map zA.toD x.L,x.From,x.To,zL (zA.toD_eq x) hx,?_⟩;refine⟨zF (l:=x.L) (zA.sz),?_⟩;refine⟨by first|rfl|decide|simp only[zq3,List.length_cons,List.length_nil,List.map_append,List.length_append],?_⟩;obtain⟨hP,h⟩:=uP h;refine⟨by first|exact hP|simpa using hP,?_⟩
   refine zV (e':=List.map zA.toD (out++x.L)) (by first|rfl|simp only[List.map_append,List.map_cons,List.map_nil,List.map_take,List.map_drop,List.map_set,List.map_replicate,zq3,zA.toD_eq]) ?_;rintro _ rfl;exact v8l _ _ _ h
  cases h;exact⟨rfl,rfl⟩
theorem y4R(out:List zA)(i:Int)(r:List zA)(h:quiet_all_L3 out i=some r):z5j (.quiet_all_L3 out i) r:=y4P (.quiet_all_L3 out i) r h
theorem y2Y(t:zA)(r:List zA)(h:z5A t=some r):Trip Tryz.prog 49 [.d (tT t)] [] [.d (.sl (List.map zA.toD r))] []:=by
 unfold z5A at h;refine zI 1000 (v0z _ _ _ _ t) ?_;have hT:=y4R _ _ _ h;unfold z5j at hT;dsimp only at hT;simp only[List.map_cons,List.map_nil,List.length_cons,List.length_nil,tT,tV,tS,tG,zA.toD_eq,Value.toD_eq]at hT;exact hT
theorem z9T(t:zA)(r:Bool)(h:z3p t=some r):Trip Tryz.prog 15 [.d (tT t)] [] [(nB r)] []:=by
 unfold z3p at h;refine zI 1000 (y6s _ _ _ _ t) ?_;obtain⟨q1,g,h⟩:=zC h;refine⟨_,⟨_,y2Y _ _ g⟩,?_⟩;refine zV (e':=(List.length q1:Int)) (by first|rfl|rw[zq3]) ?_;exact y1W _ _ _ _ _ h
open Go.RowKit in
theorem v3b{w:World}{M:Nat→Nat→Prop}{b o:Nat}{l:List zA}(hc:RelC w M b o (jF (l.map zA.toD))){k:Nat}(hk:k<l.length):
  ∃v3,w.cell? ⟨b,o+k*6,none⟩=some (.int .i64 l[k].K)∧w.cell? ⟨b,o+k*6+1,none⟩=some (.int .i64 l[k].N)∧w.cell? ⟨b,o+k*6+2,none⟩=some (.string ⟨⟨l[k].S⟩⟩) ∧
   w.cell? ⟨b,o+k*6+3,none⟩=some v3∧w.cell? ⟨b,o+k*6+4,none⟩=some (.int .i64 l[k].From)∧w.cell? ⟨b,o+k*6+5,none⟩=some (.int .i64 l[k].To)∧RelV w M v3 (.sl (l[k].L.map zA.toD)):=by
 have hs:zE 6 (l.map zA.toD):=zF (fun x=>by rw[zA.toD_eq];rfl);have h:=hc.elem hs (i:=k) (x:=l[k].toD) (by rw[List.getElem?_map,List.getElem?_eq_getElem hk];rfl);rw[zA.toD_eq]at h;cases h with
 |cons _ _ v0 _ _ c0 _ _ r0 h=>cases h with
 |cons _ _ v1 _ _ c1 _ _ r1 h=>cases h with
 |cons _ _ v2 _ _ c2 _ _ r2 h=>cases h with
 |cons _ _ v3 _ _ c3 _ _ r3 h=>cases h with
 |cons _ _ v4 _ _ c4 _ _ r4 h=>cases h with
 |cons _ _ v5 _ _ c5 _ _ r5 h=>
  cases r0;cases r1;cases r2;cases r4;cases r5;exact⟨v3,c0,c1,c2,c3,c4,c5,r3⟩
set_option maxHeartbeats 4000000 in
set_option maxRecDepth 1000000 in
open Go.RowKit Go.Shelf in
theorem y6d(t:zA)(r:List Int)(h:z6u t=some r):Trip Tryz.prog 50 [.d (tT t)] [] [.d (.sl (List.map (D.int .i64) r))] []:=by
 refine⟨⟨_,Tryz.func50,by rfl,by rfl⟩,fun w M0 κ vs B hv=>?_⟩;obtain⟨q,g,h⟩:=zC h;obtain⟨l,hgo0,h⟩:=zC h;obtain⟨hq9,h⟩:=uP h;have hr:cpt (l.mergeSort fun x y=>decide (x≤y))=r:=Option.some.inj h;clear h;cases hv with
 |cons v _ vs _ g1 hv=>
  cases hv;cases g1 with
  |d _ _ g1=>
   cases g1 with
   |agg vs _ g1=>
    cases g1 with
    |cons v0 _ _ _ s0 h0 g1=>
    cases g1 with
    |cons v1 _ _ _ s1 h1 g1=>
    cases g1 with
    |cons v2 _ _ _ s2 h2 g1=>
    cases g1 with
    |cons v3 _ _ _ s3 h3 g1=>
    cases g1 with
    |cons v4 _ _ _ s4 h4 g1=>
    cases g1 with
    |cons v5 _ _ _ s5 h5 g1=>
    cases g1;cases h0;cases h1;cases h2;cases h4;cases h5;obtain⟨ad,n0,cap,rfl⟩:=v1Y h3
    go_enter Tryz.func50,Tryz.ntmps50
    go_wp2_with fail
    generalize hW1:(w.alloc (Obj.cells #[Go.Value.int IntKind.i64 t.K,Go.Value.int IntKind.i64 t.N,Go.Value.string {data:={toList:=t.S}},Go.Value.slice ad n0 cap,Go.Value.int IntKind.i64 t.From,Go.Value.int IntKind.i64 t.To] 24))=W1;have bel1:Below w.heap.size w W1:=by rw[←hW1];exact(Below.refl _ w).alloc (Nat.le_refl _) _
    refine((y2Y t q g).2 W1 noM kN _ y9w (.cons _ _ _ _ (.d _ _ (.agg _ _ (.cons _ _ _ _ rfl (.int _ _) (.cons _ _ _ _ rfl (.int _ _) (.cons _ _ _ _ rfl (.str _) (.cons _ _ _ _ rfl (h3.keep (v5O bel1)) (.cons _ _ _ _ rfl (.int _ _) (.cons _ _ _ _ rfl (.int _ _) .nil)))))))) .nil)).mono ?_;rintro e W2 ⟨v,κ2,rfl,A2,hres⟩;have hv2:RelV W2 (Mut noM κ2) v (.sl (q.map zA.toD)):=by
     have h9:=hres.2;cases h9 with
     |d _ _ h=>exact h
    obtain⟨a2,cap2,rfl,hopen⟩:=v4T hv2;have bel2:=y3l A2;rw[zq3]at *;clear hres hv2;obtain⟨i0,hi,hz0,hz1,hz2⟩:=info_parts jlay20.i3;have hi:Tryz.prog.info? 3=some i0:=hi
    go_wp2
    go_loopw [3,9] (fun o i wr=>∃(k:Nat) (acc:List Int),i=.int .i64 (k:Int)∧k≤q.length∧wr.ownsRow W2.heap.size 3 1 o acc.length (acc.map (Go.Value.int .i64))∧Below W2.heap.size W2 wr∧gA (q.drop k) acc=some l∧acc.length≤k) (fun _ i _=>q.length-(intOf i).toNat)
    case atStart=>exact⟨0,[],rfl,Nat.zero_le _,World.ownsRow_nil _ _ _ _,Below.refl _ _,hgo0,Nat.zero_le _⟩
    case round=>
     obtain⟨k,acc,rfl,hk,hown,hbw,hgo,hka⟩:=hrel;by_cases hlt:k<q.length
     ·obtain⟨b,o,rfl,hc⟩:=hopen (fun e=>by have:=congrArg List.length e;simp at this;rw[this]at hlt;simp at hlt);obtain⟨u3,c0,c1,c2,c3,c4,c5,r3⟩:=v3b hc hlt;have hbs:b<W2.heap.size:=z4d c0;have tr:∀{p:Nat} {v:Go.Value},W2.cell? ⟨b,p,none⟩=some v→‹World›.cell? ⟨b,p,none⟩=some v:=fun {p v} hcv=>by
       have:=yN (hbw.block b hbs) p;exact this.trans hcv
      have d0:=tr c0;have d1:=tr c1;have d2:=tr c2;have d3:=tr c3;have d4:=tr c4;have d5:=tr c5;obtain⟨ua,un,uc,rfl⟩:=v1Y r3;rw[List.drop_eq_getElem_cons hlt,gA]at hgo;by_cases h9:q[k].K=9
      ·rw[zq1 h9]at hgo;obtain⟨hroom,hgo⟩:=uP hgo
       go_wp2_with (first
        |(at_builtin;refine wpList_append_own _ rfl _ _ 49 rfl W2.heap.size 3 i0 (.int .i64 0) 1 8 Tryz.underlying49 hi hz0 hz1 hz2 rfl (by decide) _ _ _ rfl ((hown.alloc _).alloc _) ⟨wr.heap.size+1,0,none⟩ 1 1 [.int .i64 q[k].N] rfl rfl ?c1 ?c2 ?c3 ?c4 ?c5 ?_)
        |fail)
       case c1=>
        intro j u hj
        match j,hj with
        |0,hj=>simp at hj;subst hj;simp[Addr.add]
       case c2=>intro u hu;simp at hu;subst hu;rfl
       case c3=>unfold maxLen;omega
       case c4=>omega
       case c5=>have:=hbw.size;simp;omega
       ·intro v' w1 hown' hgrow _;have hb1:Below W2.heap.size W2 w1:=(((hbw.alloc hbw.size _).alloc (by have:=hbw.size;simp;omega) _)).grown hgrow (by have:=hbw.size;simp;omega) (fun j hj=>(hown.lt j hj).1);have hown2:w1.ownsRow W2.heap.size 3 1 v' (acc++[q[k].N]).length ((acc++[q[k].N]).map (Go.Value.int .i64)):=by
         rw[List.map_append,List.length_append];exact hown'
        have hlen:(acc++[q[k].N]).length≤k+1:=by simp;exact hka
        clear hown' hgrow hown hbw hroom
        go_wp2
        go_roundw
        case rel=>exact⟨k+1,acc++[q[k].N],by go_num,hlt,hown2,hb1,hgo,hlen⟩
        case measure=>simp[intOf];omega
      ·rw[zq0 h9]at hgo
       go_wp2_with fail
       go_roundw
       case rel=>exact⟨k+1,acc,by go_num,hlt,hown.alloc _,hbw.alloc hbw.size _,hgo,by omega⟩
       case measure=>simp[intOf];omega
     ·have hke:k=q.length:=by omega
      subst hke;rw[List.drop_eq_nil_of_le (Nat.le_refl _)]at hgo;have hr2:acc=l:=by simpa [gA]using hgo
      subst hr2;have hb0:Below w.heap.size w wr:=(bel1.trans (bel2.mono bel1.size)).trans (hbw.mono (by have:=bel1.size;have:=bel2.size;omega));rcases hown.2 with⟨rfl,h0⟩|⟨g,cap9,cur,rfl,hbase,hb,h1,h2,h3',h4⟩
      ·have hn:acc=[]:=List.eq_nil_of_length_eq_zero h0;subst hn
       go_wp2_with fail
       refine(Any.slices_Sort_int_none v4m none 0 wr).mono ?_;rintro e W3 ⟨rfl,rfl⟩
       go_wp2_with fail
       refine(Any.slices_Compact_int_empty jlay20 none 0 _).mono ?_;rintro e W4 ⟨rfl,rfl⟩
       go_wp2
       go_ret
       have hr0:r=[]:=by rw[←hr];simp[cpt]
       subst hr0;exact⟨_,κ,rfl,z9q B hb0,rfl,.d _ _ .nil⟩
      ·have hH:=holds_of_blockI hb (by simpa using h4);have hgl:g<wr.heap.size:=(Array.getElem?_eq_some_iff.1 hb).1
       go_wp2_with fail
       refine(Any.slices_Sort_int v4m g 0 cap9 acc wr hH hgl (by omega)).mono ?_;rintro e W3 ⟨rfl,nn,os,rfl⟩;obtain⟨ts,hts⟩:∃ts,ts=acc.mergeSort fun x y=>decide (x≤y):=⟨_,rfl⟩;rw[←hts]at hr ⊢;have hsl:ts.length=acc.length:=by rw[hts];simp
       have hs3:=ownsRow_sortedI (w:=wr) (n:=nn) (os:=os) (ts:=ts) hsl hbase hb h1 h2 h3';have hg3:wr.grownBy _ (some g):=grownBy_sortedI (n:=nn) (os:=os) ts.toArray;have hb3:=hbw.grown hg3 hbw.size (fun j hj=>by cases hj;exact hbase);generalize Sort.grow (Sort.putRow (Go.Value.int IntKind.i64) (Sort.ahead wr nn) g 0 ts.toArray) os=W3 at hs3 hg3 hb3 ⊢;clear hb h3' h4 hH hts hown hgo;rcases hs3.2 with⟨h0,-⟩|⟨g',cap',cur',h0,-,hb',k1,k2,k3,k4⟩
       ·cases h0
       injection h0 with e1 e2 e3;injection e1 with e1;injection e1 with e1;subst e1;subst e3;have hc:=Any.slices_Compact_int jlay20 g 0 cap9 ts W3 (holds_of_blockI hb' (by rw[hsl];simpa using k4)) (by omega) (by omega);rw[hsl]at hc
       go_wp2_with fail
       refine hc.mono ?_;rintro e W4 ⟨rfl,qq,rfl⟩;have hcl:(Lib.compact ts).length≤acc.length:=by
        have e9:(Lib.compact ts).length≤ts.length:=by
         unfold Lib.compact Lib.compactUpTo;rw[zq3];refine Nat.le_trans (List.length_filter_le _ _) ?_;simp
        omega
       have hs4:=ownsRow_sortedI (w:=W3) (n:=qq) (os:=#[]) (ss:=acc) (ts:=Lib.compact ts++List.replicate (acc.length-(Lib.compact ts).length) 0) (by simp;omega) hbase hb' k1 k2 k3;have hg4:W3.grownBy _ (some g):=grownBy_sortedI (n:=qq) (os:=#[]) (Lib.compact ts++List.replicate (acc.length-(Lib.compact ts).length) 0).toArray;have hb4:=hb3.grown hg4 hb3.size (fun j hj=>by cases hj;exact hbase);rw[Sort.grow_empty]at hs4 hb4
       generalize Sort.putRow (Go.Value.int IntKind.i64) (Sort.ahead W3 qq) g 0 (Lib.compact ts++List.replicate (acc.length-(Lib.compact ts).length) 0).toArray=W4 at hs4 hb4 ⊢;have hs5:=v3w hs4 hcl;rw[←List.map_take,List.take_left,y1F,hr]at hs5;have hbe:Below w.heap.size w W4:=(bel1.trans (bel2.mono bel1.size)).trans (hb4.mono (by have:=bel1.size;have:=bel2.size;omega))
       go_wp2
       go_ret
       rw[y1F,hr];exact⟨_,κ,rfl,z9q B hbe,rfl,.d _ _ (v5V hs5 fun b o hb=>v4e B (by have:=bel1.size;have:=bel2.size;omega))⟩
theorem z3O (r:Bool)(h:z1u=some r):Trip Tryz.prog 16 [] [] [(nB r)] []:=by
 unfold z1u at h;refine zI 1000 (y8w _ _ _ _ ) ?_;obtain⟨q1,g,h⟩:=zC h;refine⟨_,⟨_,z9T _ _ g⟩,?_⟩;refine zD Iff.rfl h (fun _ h=>?_) (fun _ h=>?_)
 ·obtain⟨q2,g,h⟩:=zC h;refine⟨_,⟨_,y6d _ _ g⟩,?_⟩;refine zV (e':=(List.length q2:Int)) (by first|rfl|rw[zq3]) ?_;rintro _ rfl;cases h;exact⟨rfl,rfl⟩
 cases h;exact⟨rfl,rfl⟩
def y1t:(i:z0z)→z7v i→Prop
 |.wV t left levels,r=>Trip Tryz.prog 89 [.d (tT t),(nI left),(nI levels)] [] [(nI r)] []
 |.yS left levels i t,r=>Ok (z7K (Trip Tryz.prog) [(nI r)] []) (kL Tryz.f89 5) ⟨33,[(1,(nI left)),(2,(nI levels)),(3,.ref 3 1 0),(7,(nI i))],[(3,1,some (.agg (tT t)))],[],0⟩
theorem y7E:∀i r,uQ z2i i=some r→y1t i r:=by
 refine zP z7e fun g ih i=>?_;cases i with
 |wV t left levels=>
  have v8p:=fun left levels i t r h=>ih (.yS left levels i t) r h;intro r h;replace h:z2q (fun left levels i t=>g (z0z.yS left levels i t)) t left levels=some r:=h;unfold z2q at h;refine zI 1000 (y8z _ _ _ _ t left levels) ?_;rintro _ rfl;refine zD decide_eq_true_iff h (fun _ h=>?_) (fun _ h=>?_)
  ·cases h;exact⟨rfl,rfl⟩
  rintro _ rfl;exact v8p _ _ _ _ _ h
 |yS left levels i t=>
  have v8o:=fun t left levels r h=>ih (.wV t left levels) r h;have v8p:=fun left levels i t r h=>ih (.yS left levels i t) r h;intro r h;replace h:gK (fun t left levels=>g (z0z.wV t left levels)) (fun left levels i t=>g (z0z.yS left levels i t)) left levels i t=some r:=h;unfold gK at h;refine uZ 1000 (y3D _ _ _ _ left levels i t) ?_;refine zV (e':=(List.length t.L:Int)) (by first|rfl|rw[zq3]) ?_;rintro _ rfl;refine zD decide_eq_true_iff h (fun _ h=>?_) (fun _ h=>?_)
  ·rintro _ rfl;refine zD decide_eq_true_iff h (fun _ h=>?_) (fun _ h=>?_)
   ·obtain⟨x,hx,h⟩:=zC h;refine⟨zF (l:=t.L) (zA.sz),vZ hx,x.K,x.N,x.S,List.map zA.toD x.L,x.From,x.To,zL (zA.toD_eq x) hx,?_⟩;rintro _ rfl;obtain⟨q1,g,h⟩:=zC h;refine⟨_,⟨_,v8o _ _ _ _ g⟩,?_⟩;rintro _ rfl;exact v8p _ _ _ _ _ h
   cases h;exact⟨rfl,rfl⟩
  cases h;exact⟨rfl,rfl⟩
theorem y7L(t:zA)(left levels r:Int)(h:wV t left levels=some r):y1t (.wV t left levels) r:=y7E (.wV t left levels) r h
def y1u:(i:z0A)→z7w i→Prop
 |.wW t,r=>Trip Tryz.prog 90 [.d (tT t)] [] [(nB r)] []
 |.yT i t,r=>Ok (z7L (Trip Tryz.prog) [(nB r)] []) (kL Tryz.f90 4) ⟨21,[(1,.ref 1 1 0),(3,(nI i))],[(1,1,some (.agg (tT t)))],[],0⟩
theorem y7F:∀i r,uQ z2j i=some r→y1u i r:=by
 refine zP z7f fun g ih i=>?_;cases i with
 |wW t=>
  have v8r:=fun i t r h=>ih (.yT i t) r h;intro r h;replace h:z2r (fun i t=>g (z0A.yT i t)) t=some r:=h;unfold z2r at h;refine zI 1000 (y8B _ _ _ _ t) ?_;rintro _ rfl;rintro _ rfl;refine zD decide_eq_true_iff h (fun _ h=>?_) (fun _ h=>?_)
  ·cases h;exact⟨rfl,rfl⟩
  exact v8r _ _ _ h
 |yT i t=>
  have v8q:=fun t r h=>ih (.wW t) r h;have v8r:=fun i t r h=>ih (.yT i t) r h;intro r h;replace h:gL (fun t=>g (z0A.wW t)) (fun i t=>g (z0A.yT i t)) i t=some r:=h;unfold gL at h;refine uZ 1000 (y3E _ _ _ _ i t) ?_;refine zV (e':=(List.length t.L:Int)) (by first|rfl|rw[zq3]) ?_;rintro _ rfl;refine zD decide_eq_true_iff h (fun _ h=>?_) (fun _ h=>?_)
  ·obtain⟨x,hx,h⟩:=zC h;refine⟨zF (l:=t.L) (zA.sz),vZ hx,x.K,x.N,x.S,List.map zA.toD x.L,x.From,x.To,zL (zA.toD_eq x) hx,?_⟩;obtain⟨q1,g,h⟩:=zC h;refine⟨_,⟨_,v8q _ _ g⟩,?_⟩;refine zD Iff.rfl h (fun _ h=>?_) (fun _ h=>?_)
   ·cases h;exact⟨rfl,rfl⟩
   rintro _ rfl;exact v8r _ _ _ h
  cases h;exact⟨rfl,rfl⟩
theorem y7M(t:zA)(r:Bool)(h:wW t=some r):y1u (.wW t) r:=y7F (.wW t) r h
theorem z1e(t:zA)(r:Bool)(h:jK t=some r):Trip Tryz.prog 38 [.d (tT t)] [] [(nB r)] []:=by
 unfold jK at h;refine zI 1000 (y8A _ _ _ _ t) ?_;obtain⟨q1,g,h⟩:=zC h;refine⟨_,⟨_,y7L _ _ _ _ g⟩,?_⟩;rintro _ rfl;refine zD decide_eq_true_iff h (fun _ h=>?_) (fun _ h=>?_)
 ·cases h;exact⟨rfl,rfl⟩
 obtain⟨q2,g,h⟩:=zC h;refine⟨_,⟨_,y7M _ _ g⟩,?_⟩;cases h;exact⟨rfl,rfl⟩
def y1x:(i:z0B)→z7z i→Prop
 |.wX v left levels,r=>Trip Tryz.prog 161 [.d (tV v),(nI left),(nI levels)] [] [(nI r)] []
 |.yV left levels i v,r=>Ok (z7R (Trip Tryz.prog) [(nI r)] []) (kL Tryz.f161 5) ⟨33,[(1,(nI left)),(2,(nI levels)),(3,.ref 3 1 0),(7,(nI i))],[(3,1,some (.agg (tV v)))],[],0⟩
theorem y7I:∀i r,uQ z2k i=some r→y1x i r:=by
 refine zP z7j fun g ih i=>?_;cases i with
 |wX v left levels=>
  have v8Y:=fun left levels i v r h=>ih (.yV left levels i v) r h;intro r h;replace h:z2w (fun left levels i v=>g (z0B.yV left levels i v)) v left levels=some r:=h;unfold z2w at h;refine zI 1000 (y8O _ _ _ _ v left levels) ?_;rintro _ rfl;refine zD decide_eq_true_iff h (fun _ h=>?_) (fun _ h=>?_)
  ·cases h;exact⟨rfl,rfl⟩
  rintro _ rfl;exact v8Y _ _ _ _ _ h
 |yV left levels i v=>
  have v8X:=fun v left levels r h=>ih (.wX v left levels) r h;have v8Y:=fun left levels i v r h=>ih (.yV left levels i v) r h;intro r h;replace h:gR (fun v left levels=>g (z0B.wX v left levels)) (fun left levels i v=>g (z0B.yV left levels i v)) left levels i v=some r:=h;unfold gR at h;refine uZ 1000 (y3O _ _ _ _ left levels i v) ?_;refine zV (e':=(List.length v.L:Int)) (by first|rfl|rw[zq3]) ?_;rintro _ rfl;refine zD decide_eq_true_iff h (fun _ h=>?_) (fun _ h=>?_)
  ·rintro _ rfl;refine zD decide_eq_true_iff h (fun _ h=>?_) (fun _ h=>?_)
   ·obtain⟨x,hx,h⟩:=zC h;refine⟨zF (l:=v.L) (Value.sz),vZ hx,x.N,List.map Value.toD x.L,zL (Value.toD_eq x) hx,?_⟩;rintro _ rfl;obtain⟨q1,g,h⟩:=zC h;refine⟨_,⟨_,v8X _ _ _ _ g⟩,?_⟩;rintro _ rfl;exact v8Y _ _ _ _ _ h
   cases h;exact⟨rfl,rfl⟩
  cases h;exact⟨rfl,rfl⟩
theorem y7U(v:Value)(left levels r:Int)(h:wX v left levels=some r):y1x (.wX v left levels) r:=y7I (.wX v left levels) r h
theorem y1B(v:Value)(r:Bool)(h:z4t v=some r):Trip Tryz.prog 99 [.d (tV v)] [] [(nB r)] []:=by
 unfold z4t at h;refine zI 1000 (y8P _ _ _ _ v) ?_;obtain⟨q1,g,h⟩:=zC h;refine⟨_,⟨_,y7U _ _ _ _ g⟩,?_⟩;rintro _ rfl;cases h;exact⟨rfl,rfl⟩
def z7u:(i:z2O)→z4G i→Prop
 |.vH l i,r=>Ok (z7T (Trip Tryz.prog) [(nB r)] []) (kL Tryz.f100 2) ⟨22,[(0,.d (.sl (List.map Value.toD l))),(3,(nI i))],[],[],0⟩
theorem y2K:∀i r,uQ z2H i=some r→z7u i r:=by
 refine zP z7m fun g ih i=>?_;cases i with
 |vH l i=>
  have v9n:=fun l i r h=>ih (.vH l i) r h;intro r h;replace h:gW (fun l i=>g (z2O.vH l i)) l i=some r:=h;unfold gW at h;refine uZ 1000 (y3S _ _ _ _ l i) ?_;refine zV (e':=(List.length l:Int)) (by first|rfl|rw[zq3]) ?_;rintro _ rfl;refine zD decide_eq_true_iff h (fun _ h=>?_) (fun _ h=>?_)
  ·rintro _ rfl;refine zD decide_eq_true_iff h (fun _ h=>?_) (fun _ h=>?_)
   ·obtain⟨x,hx,h⟩:=zC h;refine⟨zF (l:=l) (Value.sz),vZ hx,x.N,List.map Value.toD x.L,zL (Value.toD_eq x) hx,?_⟩;obtain⟨q1,g,h⟩:=zC h;refine⟨_,⟨_,y1B _ _ g⟩,?_⟩;refine zD Iff.rfl h (fun _ h=>?_) (fun _ h=>?_)
    ·cases h;exact⟨rfl,rfl⟩
    rintro _ rfl;exact v9n _ _ _ h
   refine zV (e':=(List.length l:Int)) (by first|rfl|rw[zq3]) ?_;rintro _ rfl;cases h;exact⟨rfl,rfl⟩
  refine zV (e':=(List.length l:Int)) (by first|rfl|rw[zq3]) ?_;rintro _ rfl;cases h;exact⟨rfl,rfl⟩
theorem y3i(l:List Value)(i:Int)(r:Bool)(h:vH l i=some r):z7u (.vH l i) r:=y2K (.vH l i) r h
theorem y1C(l:List Value)(r:Bool)(h:z4u l=some r):Trip Tryz.prog 100 [.d (.sl (List.map Value.toD l))] [] [(nB r)] []:=by
 unfold z4u at h;refine zI 1000 (y8S _ _ _ _ l) ?_;exact y3i _ _ _ h
theorem y1D(s:State)(r:Bool)(h:z3C s=some r):Trip Tryz.prog 48 [.d (tS s)] [] [(nB r)] []:=by
 unfold z3C at h;refine zI 1000 (y8U _ _ _ _ s) ?_;refine zV (e':=(List.length s.Globals:Int)) (by first|rfl|rw[zq3]) ?_;rintro _ rfl;refine zD decide_eq_true_iff h (fun _ h=>?_) (fun _ h=>?_)
 ·cases h;exact⟨rfl,rfl⟩
 refine zV (e':=(List.length s.Locals:Int)) (by first|rfl|rw[zq3]) ?_;rintro _ rfl;refine zD decide_eq_true_iff h (fun _ h=>?_) (fun _ h=>?_)
 ·cases h;exact⟨rfl,rfl⟩
 refine zV (e':=(List.length s.Input:Int)) (by first|rfl|rw[zq3]) ?_;rintro _ rfl;refine zD decide_eq_true_iff h (fun _ h=>?_) (fun _ h=>?_)
 ·cases h;exact⟨rfl,rfl⟩
 refine zV (e':=(List.length s.Trace:Int)) (by first|rfl|rw[zq3]) ?_;rintro _ rfl;refine zD decide_eq_true_iff h (fun _ h=>?_) (fun _ h=>?_)
 ·cases h;exact⟨rfl,rfl⟩
 rintro _ rfl;refine zD decide_eq_true_iff h (fun _ h=>?_) (fun _ h=>?_)
 ·cases h;exact⟨rfl,rfl⟩
 obtain⟨q1,g,h⟩:=zC h;refine⟨_,⟨_,y1B _ _ g⟩,?_⟩;refine zD Iff.rfl h (fun _ h=>?_) (fun _ h=>?_)
 ·cases h;exact⟨rfl,rfl⟩
 obtain⟨q2,g,h⟩:=zC h;refine⟨_,⟨_,y1C _ _ g⟩,?_⟩;refine zD Iff.rfl h (fun _ h=>?_) (fun _ h=>?_)
 ·cases h;exact⟨rfl,rfl⟩
 obtain⟨q3,g,h⟩:=zC h;refine⟨_,⟨_,y1C _ _ g⟩,?_⟩;cases h;exact⟨rfl,rfl⟩
def z7n:(i:z2I)→z4z i→Prop
 |.vC i c,r=>Ok (z7J (Trip Tryz.prog) [(nB r)] []) (kL Tryz.f14 2) ⟨45,[(1,.ref 1 1 0),(3,(nI i))],[(1,1,some (.agg (.agg [(.int .i64 c.M.K),(.int .i64 c.M.N),(.str c.M.S),(.sl (List.map zA.toD c.M.L)),(.int .i64 c.M.From),(.int .i64 c.M.To),(.sl (List.map zA.toD c.Types)),(.sl (List.map Value.toD c.S.Globals)),(.sl (List.map Value.toD c.S.Locals)),(.sl (List.map (D.int .i64) c.S.Input)),(.int .i64 c.S.At),(.sl (List.map (D.int .i64) c.S.Trace)),(.int .i64 c.S.Fuel),(.int .i64 c.S.Kind),(.int .i64 c.S.N),(.int .i64 c.S.Ret.N),(.sl (List.map Value.toD c.S.Ret.L)),(.int .i64 c.A.K),(.int .i64 c.A.N),(.str c.A.S),(.sl (List.map zA.toD c.A.L)),(.int .i64 c.A.From),(.int .i64 c.A.To),(.int .i64 c.B_.K),(.int .i64 c.B_.N),(.str c.B_.S),(.sl (List.map zA.toD c.B_.L)),(.int .i64 c.B_.From),(.int .i64 c.B_.To)])))],[],0⟩
theorem y2D:∀i r,uQ z2B i=some r→z7n i r:=by
 refine zP z7d fun g ih i=>?_;cases i with
 |vC i c=>
  have v8j:=fun i c r h=>ih (.vC i c) r h;intro r h;replace h:gJ (fun i c=>g (z2I.vC i c)) i c=some r:=h;unfold gJ at h;refine uZ 1000 (y3C _ _ _ _ i c) ?_;refine zV (e':=(List.length c.Types:Int)) (by first|rfl|rw[zq3]) ?_;rintro _ rfl;refine zD decide_eq_true_iff h (fun _ h=>?_) (fun _ h=>?_)
  ·rintro _ rfl;refine zD decide_eq_true_iff h (fun _ h=>?_) (fun _ h=>?_)
   ·obtain⟨x,hx,h⟩:=zC h;refine⟨zF (l:=c.Types) (zA.sz),vZ hx,x.K,x.N,x.S,List.map zA.toD x.L,x.From,x.To,zL (zA.toD_eq x) hx,?_⟩;obtain⟨q1,g,h⟩:=zC h;refine⟨_,⟨_,z1e _ _ g⟩,?_⟩;refine zD Iff.rfl h (fun _ h=>?_) (fun _ h=>?_)
    ·cases h;exact⟨rfl,rfl⟩
    rintro _ rfl;exact v8j _ _ _ h
   refine zV (e':=(List.length c.Types:Int)) (by first|rfl|rw[zq3]) ?_;rintro _ rfl;refine zD decide_eq_true_iff h (fun _ h=>?_) (fun _ h=>?_)
   ·cases h;exact⟨rfl,rfl⟩
   obtain⟨q2,g,h⟩:=zC h;refine⟨_,⟨_,z1e _ _ g⟩,?_⟩;refine zD Iff.rfl h (fun _ h=>?_) (fun _ h=>?_)
   ·cases h;exact⟨rfl,rfl⟩
   obtain⟨q3,g,h⟩:=zC h;refine⟨_,⟨_,z1e _ _ g⟩,?_⟩;refine zD Iff.rfl h (fun _ h=>?_) (fun _ h=>?_)
   ·cases h;exact⟨rfl,rfl⟩
   obtain⟨q4,g,h⟩:=zC h;refine⟨_,⟨_,z1e _ _ g⟩,?_⟩;refine zD Iff.rfl h (fun _ h=>?_) (fun _ h=>?_)
   ·cases h;exact⟨rfl,rfl⟩
   obtain⟨q5,g,h⟩:=zC h;refine⟨_,⟨_,y1D _ _ g⟩,?_⟩;cases h;exact⟨rfl,rfl⟩
  refine zV (e':=(List.length c.Types:Int)) (by first|rfl|rw[zq3]) ?_;rintro _ rfl;refine zD decide_eq_true_iff h (fun _ h=>?_) (fun _ h=>?_)
  ·cases h;exact⟨rfl,rfl⟩
  obtain⟨q6,g,h⟩:=zC h;refine⟨_,⟨_,z1e _ _ g⟩,?_⟩;refine zD Iff.rfl h (fun _ h=>?_) (fun _ h=>?_)
  ·cases h;exact⟨rfl,rfl⟩
  obtain⟨q7,g,h⟩:=zC h;refine⟨_,⟨_,z1e _ _ g⟩,?_⟩;refine zD Iff.rfl h (fun _ h=>?_) (fun _ h=>?_)
  ·cases h;exact⟨rfl,rfl⟩
  obtain⟨q8,g,h⟩:=zC h;refine⟨_,⟨_,z1e _ _ g⟩,?_⟩;refine zD Iff.rfl h (fun _ h=>?_) (fun _ h=>?_)
  ·cases h;exact⟨rfl,rfl⟩
  obtain⟨q9,g,h⟩:=zC h;refine⟨_,⟨_,y1D _ _ g⟩,?_⟩;cases h;exact⟨rfl,rfl⟩
theorem y2X(i:Int)(c:Law24Eval)(r:Bool)(h:vC i c=some r):z7n (.vC i c) r:=y2D (.vC i c) r h
theorem y7K(c:Law24Eval)(r:Bool)(h:z5y c=some r):Trip Tryz.prog 14 [.d (.agg [(.int .i64 c.M.K),(.int .i64 c.M.N),(.str c.M.S),(.sl (List.map zA.toD c.M.L)),(.int .i64 c.M.From),(.int .i64 c.M.To),(.sl (List.map zA.toD c.Types)),(.sl (List.map Value.toD c.S.Globals)),(.sl (List.map Value.toD c.S.Locals)),(.sl (List.map (D.int .i64) c.S.Input)),(.int .i64 c.S.At),(.sl (List.map (D.int .i64) c.S.Trace)),(.int .i64 c.S.Fuel),(.int .i64 c.S.Kind),(.int .i64 c.S.N),(.int .i64 c.S.Ret.N),(.sl (List.map Value.toD c.S.Ret.L)),(.int .i64 c.A.K),(.int .i64 c.A.N),(.str c.A.S),(.sl (List.map zA.toD c.A.L)),(.int .i64 c.A.From),(.int .i64 c.A.To),(.int .i64 c.B_.K),(.int .i64 c.B_.N),(.str c.B_.S),(.sl (List.map zA.toD c.B_.L)),(.int .i64 c.B_.From),(.int .i64 c.B_.To)])] [] [(nB r)] []:=by
 unfold z5y at h;refine zI 1000 (y8x _ _ _ _ c) ?_;exact y2X _ _ _ h
theorem z5a(s:State)(fuel:Int)(r:State)(h:z2o s fuel=some r):Trip Tryz.prog 20 [.d (tS s),(nI fuel)] [] [.d (tS r)] []:=by
 unfold z2o at h;refine zI 1000 (y8y _ _ _ _ s fuel) ?_;cases h;exact⟨rfl,rfl⟩
def y2N:(i:z0Z)→z9i i→Prop
 |.uH t,r=>Trip Tryz.prog 18 [.d (tT t)] [] [(nI r)] []
 |.vM n i t,r=>Ok (z9u (Trip Tryz.prog) [(nI r)] []) (kL Tryz.f18 3) ⟨21,[(1,.ref 1 1 0),(3,(nI n)),(4,(nI i))],[(1,1,some (.agg (tT t)))],[],0⟩
theorem y9R:∀i r,uQ z3h i=some r→y2N i r:=by
 refine zP z9b fun g ih i=>?_;cases i with
 |uH t=>
  have v8x:=fun n i t r h=>ih (.vM n i t) r h;intro r h;replace h:z3s (fun n i t=>g (z0Z.vM n i t)) t=some r:=h;unfold z3s at h;refine zI 1000 (v0C _ _ _ _ t) ?_;exact v8x _ _ _ _ h
 |vM n i t=>
  have v8w:=fun t r h=>ih (.uH t) r h;have v8x:=fun n i t r h=>ih (.vM n i t) r h;intro r h;replace h:z0o (fun t=>g (z0Z.uH t)) (fun n i t=>g (z0Z.vM n i t)) n i t=some r:=h;unfold z0o at h;refine uZ 1000 (y4X _ _ _ _ n i t) ?_;refine zV (e':=(List.length t.L:Int)) (by first|rfl|rw[zq3]) ?_;rintro _ rfl;refine zD decide_eq_true_iff h (fun _ h=>?_) (fun _ h=>?_)
  ·obtain⟨x,hx,h⟩:=zC h;refine⟨zF (l:=t.L) (zA.sz),vZ hx,x.K,x.N,x.S,List.map zA.toD x.L,x.From,x.To,zL (zA.toD_eq x) hx,?_⟩;obtain⟨q1,g,h⟩:=zC h;refine⟨_,⟨_,v8w _ _ g⟩,?_⟩;rintro _ rfl;rintro _ rfl;exact v8x _ _ _ _ h
  cases h;exact⟨rfl,rfl⟩
theorem y9Z(t:zA)(r:Int)(h:uH t=some r):y2N (.uH t) r:=y9R (.uH t) r h
def z9O:(i:z0b)→z6a i→Prop
 |.wA a b,r=>Trip Tryz.prog 54 [.d (tT a),.d (tT b)] [] [(nB r)] []
 |.yD i a b,r=>Ok (z6i (Trip Tryz.prog) [(nB r)] []) (kL Tryz.f54 4) ⟨67,[(2,.ref 2 1 0),(3,.ref 3 1 0),(5,(nI i))],[(2,1,some (.agg (tT a))),(3,1,some (.agg (tT b)))],[],0⟩
theorem y5Y:∀i r,uQ z1o i=some r→z9O i r:=by
 refine zP z5X fun g ih i=>?_;cases i with
 |wA a b=>
  have v8t:=fun i a b r h=>ih (.yD i a b) r h;intro r h;replace h:z1w (fun i a b=>g (z0b.yD i a b)) a b=some r:=h;unfold z1w at h;refine zI 1000 (y6t _ _ _ _ a b) ?_;rintro _ rfl;refine zG zq2 h (fun _ h=>?_) (fun _ h=>?_)
  ·rintro _ rfl;refine zG zq2 h (fun _ h=>?_) (fun _ h=>?_)
   ·rintro _ rfl;refine zG zq2 h (fun _ h=>?_) (fun _ h=>?_)
    ·rintro _ rfl;refine zG zq2 h (fun _ h=>?_) (fun _ h=>?_)
     ·rintro _ rfl;refine zG zq2 h (fun _ h=>?_) (fun _ h=>?_)
      ·refine zV (e':=(List.length a.L:Int)) (by first|rfl|rw[zq3]) ?_;refine zV (e':=(List.length b.L:Int)) (by first|rfl|rw[zq3]) ?_;rintro _ rfl;refine zG zq2 h (fun _ h=>?_) (fun _ h=>?_)
       ·exact v8t _ _ _ _ h
       cases h;exact⟨rfl,rfl⟩
      cases h;exact⟨rfl,rfl⟩
     cases h;exact⟨rfl,rfl⟩
    cases h;exact⟨rfl,rfl⟩
   cases h;exact⟨rfl,rfl⟩
  cases h;exact⟨rfl,rfl⟩
 |yD i a b=>
  have v8s:=fun a b r h=>ih (.wA a b) r h;have v8t:=fun i a b r h=>ih (.yD i a b) r h;intro r h;replace h:jL (fun a b=>g (z0b.wA a b)) (fun i a b=>g (z0b.yD i a b)) i a b=some r:=h;unfold jL at h;refine uZ 1000 (y2g _ _ _ _ i a b) ?_;refine zV (e':=(List.length a.L:Int)) (by first|rfl|rw[zq3]) ?_;rintro _ rfl;refine zD decide_eq_true_iff h (fun _ h=>?_) (fun _ h=>?_)
  ·obtain⟨x,hx,h⟩:=zC h;refine⟨zF (l:=a.L) (zA.sz),vZ hx,x.K,x.N,x.S,List.map zA.toD x.L,x.From,x.To,zL (zA.toD_eq x) hx,?_⟩;obtain⟨x1,hx,h⟩:=zC h;refine⟨zF (l:=b.L) (zA.sz),vZ hx,x1.K,x1.N,x1.S,List.map zA.toD x1.L,x1.From,x1.To,zL (zA.toD_eq x1) hx,?_⟩;obtain⟨q1,g,h⟩:=zC h;refine⟨_,⟨_,v8s _ _ _ g⟩,?_⟩;refine zG Iff.rfl h (fun _ h=>?_) (fun _ h=>?_)
   ·rintro _ rfl;exact v8t _ _ _ _ h
   cases h;exact⟨rfl,rfl⟩
  cases h;exact⟨rfl,rfl⟩
theorem z9U(a b:zA)(r:Bool)(h:wA a b=some r):z9O (.wA a b) r:=y5Y (.wA a b) r h
def y2L:(i:z0X)→z9g i→Prop
 |.wL t,r=>Trip Tryz.prog 167 [.d (tT t)] [] [.d (tT r)] []
 |.vJ out i t o2,r=>Ok (z9s (Trip Tryz.prog) [.d (tT r)] []) (kL Tryz.f167 3) ⟨30,[(1,.ref 1 1 0),(2,.ref 2 1 0),(3,.right 5 1 6 (List.map zA.toD out)),(4,(nI i))],[(1,1,some (.agg (tT t))),(2,1,some (.agg (tT o2))),(5,1,some (.tok 6 (List.length (List.map zA.toD out))))],[],0⟩
theorem y9P:∀i r,uQ z3f i=some r→y2L i r:=by
 refine zP z8Z fun g ih i=>?_;cases i with
 |wL t=>
  have v8n:=fun out i t o2 r h=>ih (.vJ out i t o2) r h;intro r h;replace h:z3q (fun out i t o2=>g (z0X.vJ out i t o2)) t=some r:=h;unfold z3q at h;refine zI 1000 (v0A _ _ _ _ t) ?_;exact v8n _ _ _ _ _ h
 |vJ out i t o2=>
  have v8m:=fun t r h=>ih (.wL t) r h;have v8n:=fun out i t o2 r h=>ih (.vJ out i t o2) r h;intro r h;replace h:z0m (fun t=>g (z0X.wL t)) (fun out i t o2=>g (z0X.vJ out i t o2)) out i t o2=some r:=h;unfold z0m at h;refine uZ 1000 (y4V _ _ _ _ out i t o2) ?_;refine zV (e':=(List.length t.L:Int)) (by first|rfl|rw[zq3]) ?_;rintro _ rfl;refine zD decide_eq_true_iff h (fun _ h=>?_) (fun _ h=>?_)
  ·obtain⟨x,hx,h⟩:=zC h;refine⟨zF (l:=t.L) (zA.sz),vZ hx,x.K,x.N,x.S,List.map zA.toD x.L,x.From,x.To,zL (zA.toD_eq x) hx,?_⟩;obtain⟨q1,g,h⟩:=zC h;refine⟨_,_,_,_,_,_,⟨_,v8m _ _ g⟩,?_⟩;refine⟨by simp[zE,D.cells],?_⟩;refine⟨by first|rfl|decide|simp only[zq3,List.length_cons,List.length_nil,List.map_append,List.length_append],?_⟩;obtain⟨hP,h⟩:=uP h;refine⟨by first|exact hP|simpa using hP,?_⟩
   refine zV (e':=List.map zA.toD (out++[q1])) (by first|rfl|simp only[List.map_append,List.map_cons,List.map_nil,List.map_take,List.map_drop,List.map_set,List.map_replicate,zq3,zA.toD_eq]) ?_;rintro _ rfl;exact v8n _ _ _ _ _ h
  cases h;exact⟨rfl,rfl⟩
theorem z3n(t r:zA)(h:wL t=some r):y2L (.wL t) r:=y9P (.wL t) r h
theorem y0O (r:zA)(h:z5g=some r):Trip Tryz.prog 169 [] [] [.d (tT r)] []:=by
 unfold z5g at h;refine zI 1000 (v2M _ _ _ _ ) ?_;cases h;exact⟨rfl,rfl⟩
theorem gH (r:zA)(h:jU=some r):Trip Tryz.prog 230 [] [] [.d (tT r)] []:=by
 unfold jU at h;refine zI 1000 (v0F _ _ _ _ ) ?_;cases h;exact⟨rfl,rfl⟩
theorem z3I(t r:zA)(h:z0D t=some r):Trip Tryz.prog 168 [.d (tT t)] [] [.d (tT r)] []:=by
 unfold z0D at h;refine zI 1000 (y4Z _ _ _ _ t) ?_;rintro _ rfl;refine zD zq2 h (fun _ h=>?_) (fun _ h=>?_)
 ·obtain⟨q1,g,h⟩:=zC h;refine⟨_,_,_,_,_,_,⟨_,y0O _ g⟩,?_⟩;cases h;exact⟨rfl,rfl⟩
 rintro _ rfl;refine zD zq2 h (fun _ h=>?_) (fun _ h=>?_)
 ·obtain⟨q2,g,h⟩:=zC h;refine⟨_,_,_,_,_,_,⟨_,gH _ g⟩,?_⟩;cases h;exact⟨rfl,rfl⟩
 cases h;exact⟨rfl,rfl⟩
theorem y7O(m:zA)(locals:List zA)(t r:zA)(h:z5E m locals t=some r):Trip Tryz.prog 107 [.d (tT m),.d (.sl (List.map zA.toD locals)),.d (tT t)] [] [.d (tT r)] []:=by
 unfold z5E at h;refine zI 1000 (y8F _ _ _ _ m locals t) ?_;rintro _ rfl;refine zD zq2 h (fun _ h=>?_) (fun _ h=>?_)
 ·refine zV (e':=(List.length locals:Int)) (by first|rfl|rw[zq3]) ?_;rintro _ rfl;rintro _ rfl;obtain⟨x,hx,h⟩:=zC h;refine⟨zF (l:=locals) (zA.sz),vZ hx,x.K,x.N,x.S,List.map zA.toD x.L,x.From,x.To,zL (zA.toD_eq x) hx,?_⟩;obtain⟨q1,g,h⟩:=zC h;refine⟨_,_,_,_,_,_,⟨_,z3n _ _ g⟩,?_⟩;cases h;exact⟨rfl,rfl⟩
 rintro _ rfl;refine zD zq2 h (fun _ h=>?_) (fun _ h=>?_)
 ·obtain⟨x1,hx,h⟩:=zC h;refine⟨zF (l:=m.L) (zA.sz),vZ hx,x1.K,x1.N,x1.S,List.map zA.toD x1.L,x1.From,x1.To,zL (zA.toD_eq x1) hx,?_⟩;obtain⟨x2,hx,h⟩:=zC h;refine⟨zF (l:=x1.L) (zA.sz),vZ hx,x2.K,x2.N,x2.S,List.map zA.toD x2.L,x2.From,x2.To,zL (zA.toD_eq x2) hx,?_⟩;obtain⟨q2,g,h⟩:=zC h;refine⟨_,_,_,_,_,_,⟨_,z3I _ _ g⟩,?_⟩;cases h;exact⟨rfl,rfl⟩
 rintro _ rfl;refine zD zq2 h (fun _ h=>?_) (fun _ h=>?_)
 ·obtain⟨x3,hx,h⟩:=zC h;refine⟨zF (l:=m.L) (zA.sz),vZ hx,x3.K,x3.N,x3.S,List.map zA.toD x3.L,x3.From,x3.To,zL (zA.toD_eq x3) hx,?_⟩;obtain⟨x4,hx,h⟩:=zC h;refine⟨zF (l:=x3.L) (zA.sz),vZ hx,x4.K,x4.N,x4.S,List.map zA.toD x4.L,x4.From,x4.To,zL (zA.toD_eq x4) hx,?_⟩;obtain⟨q3,g,h⟩:=zC h;refine⟨_,_,_,_,_,_,⟨_,z3n _ _ g⟩,?_⟩;cases h;exact⟨rfl,rfl⟩
 rintro _ rfl;refine zD zq2 h (fun _ h=>?_) (fun _ h=>?_)
 ·obtain⟨q4,g,h⟩:=zC h;refine⟨_,_,_,_,_,_,⟨_,y0O _ g⟩,?_⟩;cases h;exact⟨rfl,rfl⟩
 obtain⟨q5,g,h⟩:=zC h;refine⟨_,_,_,_,_,_,⟨_,z3I _ _ g⟩,?_⟩;cases h;exact⟨rfl,rfl⟩
theorem y0N(t:zA)(e:Int)(r:Ref15Got)(h:z6v t e=some r):Trip Tryz.prog 105 [.d (tT t),(nI e)] [] [.d (.agg [(.int .i64 r.Type_.K),(.int .i64 r.Type_.N),(.str r.Type_.S),(.sl (List.map zA.toD r.Type_.L)),(.int .i64 r.Type_.From),(.int .i64 r.Type_.To),(.int .i64 r.Form.K),(.int .i64 r.Form.N),(.str r.Form.S),(.sl (List.map zA.toD r.Form.L)),(.int .i64 r.Form.From),(.int .i64 r.Form.To),(.int .i64 r.At),(.int .i64 r.E)])] []:=by
 unfold z6v at h;refine zI 1000 (v2J _ _ _ _ t e) ?_;cases h;exact⟨rfl,rfl⟩
def z6L:(i:z1S)→z3W i→Prop
 |.yO i d,r=>Ok (z6j (Trip Tryz.prog) [(nB r)] []) (kL Tryz.f179 4) ⟨37,[(1,.ref 1 1 0),(3,(nI i))],[(1,1,some (.agg (tT d)))],[],0⟩
theorem y1P:∀i r,uQ z1L i=some r→z6L i r:=by
 refine zP z6D fun g ih i=>?_;cases i with
 |yO i d=>
  have v8A:=fun i d r h=>ih (.yO i d) r h;intro r h;replace h:jM (fun i d=>g (z1S.yO i d)) i d=some r:=h;unfold jM at h;refine uZ 1000 (y2h _ _ _ _ i d) ?_;refine zV (e':=(List.length d.L:Int)) (by first|rfl|rw[zq3]) ?_;rintro _ rfl;refine zD decide_eq_true_iff h (fun _ h=>?_) (fun _ h=>?_)
  ·obtain⟨x,hx,h⟩:=zC h;refine⟨zF (l:=d.L) (zA.sz),vZ hx,x.K,x.N,x.S,List.map zA.toD x.L,x.From,x.To,zL (zA.toD_eq x) hx,?_⟩;rintro _ rfl;refine zG zq2 h (fun _ h=>?_) (fun _ h=>?_)
   ·obtain⟨x1,hx,h⟩:=zC h;refine⟨zF (l:=d.L) (zA.sz),vZ hx,x1.K,x1.N,x1.S,List.map zA.toD x1.L,x1.From,x1.To,zL (zA.toD_eq x1) hx,?_⟩;refine zV (e':=(List.length x1.L:Int)) (by first|rfl|rw[zq3]) ?_;rintro _ rfl;refine zG zq2 h (fun _ h=>?_) (fun _ h=>?_)
    ·rintro _ rfl;exact v8A _ _ _ h
    cases h;exact⟨rfl,rfl⟩
   cases h;exact⟨rfl,rfl⟩
  cases h;exact⟨rfl,rfl⟩
theorem y1X(i:Int)(d:zA)(r:Bool)(h:yO i d=some r):z6L (.yO i d) r:=y1P (.yO i d) r h
theorem z6f(d:zA)(r:Bool)(h:z1g d=some r):Trip Tryz.prog 179 [.d (tT d)] [] [(nB r)] []:=by
 unfold z1g at h;refine zI 1000 (y6u _ _ _ _ d) ?_;rintro _ rfl;refine zG zq2 h (fun _ h=>?_) (fun _ h=>?_)
 ·refine zV (e':=(List.length d.L:Int)) (by first|rfl|rw[zq3]) ?_;rintro _ rfl;refine zD zq2 h (fun _ h=>?_) (fun _ h=>?_)
  ·cases h;exact⟨rfl,rfl⟩
  exact y1X _ _ _ h
 cases h;exact⟨rfl,rfl⟩
theorem z5u(m:zA)(n kind:Int)(r:Bool)(h:z4p m n kind=some r):Trip Tryz.prog 166 [.d (tT m),(nI n),(nI kind)] [] [(nB r)] []:=by
 unfold z4p at h;refine zI 1000 (v2L _ _ _ _ m n kind) ?_;rintro _ rfl;refine zD decide_eq_true_iff h (fun _ h=>?_) (fun _ h=>?_)
 ·cases h;exact⟨rfl,rfl⟩
 refine zV (e':=(List.length m.L:Int)) (by first|rfl|rw[zq3]) ?_;rintro _ rfl;refine zD decide_eq_true_iff h (fun _ h=>?_) (fun _ h=>?_)
 ·cases h;exact⟨rfl,rfl⟩
 obtain⟨x,hx,h⟩:=zC h;refine⟨zF (l:=m.L) (zA.sz),vZ hx,x.K,x.N,x.S,List.map zA.toD x.L,x.From,x.To,zL (zA.toD_eq x) hx,?_⟩;rintro _ rfl;refine zG zq2 h (fun _ h=>?_) (fun _ h=>?_)
 ·rintro _ rfl;refine zD zq2 h (fun _ h=>?_) (fun _ h=>?_)
  ·refine zV (e':=(List.length x.L:Int)) (by first|rfl|rw[zq3]) ?_;rintro _ rfl;refine zD zq2 h (fun _ h=>?_) (fun _ h=>?_)
   ·obtain⟨x1,hx,h⟩:=zC h;refine⟨zF (l:=x.L) (zA.sz),vZ hx,x1.K,x1.N,x1.S,List.map zA.toD x1.L,x1.From,x1.To,zL (zA.toD_eq x1) hx,?_⟩;obtain⟨q1,g,h⟩:=zC h;refine⟨_,_,_,_,_,_,⟨_,z3I _ _ g⟩,?_⟩;rintro _ rfl;cases h;exact⟨rfl,rfl⟩
   cases h;exact⟨rfl,rfl⟩
  rintro _ rfl;refine zD zq2 h (fun _ h=>?_) (fun _ h=>?_)
  ·refine zV (e':=(List.length x.L:Int)) (by first|rfl|rw[zq3]) ?_;rintro _ rfl;cases h;exact⟨rfl,rfl⟩
  rintro _ rfl;refine zD zq2 h (fun _ h=>?_) (fun _ h=>?_)
  ·refine zV (e':=(List.length x.L:Int)) (by first|rfl|rw[zq3]) ?_;rintro _ rfl;cases h;exact⟨rfl,rfl⟩
  obtain⟨q2,g,h⟩:=zC h;refine⟨_,⟨_,z6f _ _ g⟩,?_⟩;cases h;exact⟨rfl,rfl⟩
 cases h;exact⟨rfl,rfl⟩
theorem y7Q(m:zA)(locals:List zA)(t:zA)(r:Bool)(h:z5H m locals t=some r):Trip Tryz.prog 106 [.d (tT m),.d (.sl (List.map zA.toD locals)),.d (tT t)] [] [(nB r)] []:=by
 unfold z5H at h;refine zI 1000 (y8H _ _ _ _ m locals t) ?_;rintro _ rfl;refine zD zq2 h (fun _ h=>?_) (fun _ h=>?_)
 ·rintro _ rfl;refine zD decide_eq_true_iff h (fun _ h=>?_) (fun _ h=>?_)
  ·refine zV (e':=(List.length locals:Int)) (by first|rfl|rw[zq3]) ?_;rintro _ rfl;cases h;exact⟨rfl,rfl⟩
  cases h;exact⟨rfl,rfl⟩
 rintro _ rfl;refine zD zq2 h (fun _ h=>?_) (fun _ h=>?_)
 ·obtain⟨q1,g,h⟩:=zC h;refine⟨_,⟨_,z5u _ _ _ _ g⟩,?_⟩;cases h;exact⟨rfl,rfl⟩
 rintro _ rfl;refine zD zq2 h (fun _ h=>?_) (fun _ h=>?_)
 ·obtain⟨q2,g,h⟩:=zC h;refine⟨_,⟨_,z5u _ _ _ _ g⟩,?_⟩;cases h;exact⟨rfl,rfl⟩
 rintro _ rfl;refine zD zq2 h (fun _ h=>?_) (fun _ h=>?_)
 ·obtain⟨q3,g,h⟩:=zC h;refine⟨_,⟨_,z5u _ _ _ _ g⟩,?_⟩;cases h;exact⟨rfl,rfl⟩
 rintro _ rfl;refine zD zq2 h (fun _ h=>?_) (fun _ h=>?_)
 ·obtain⟨q4,g,h⟩:=zC h;refine⟨_,⟨_,z5u _ _ _ _ g⟩,?_⟩;cases h;exact⟨rfl,rfl⟩
 rintro _ rfl;cases h;exact⟨rfl,rfl⟩
theorem z2P(t:zA)(kind:Int)(r:Bool)(h:z3u t kind=some r):Trip Tryz.prog 171 [.d (tT t),(nI kind)] [] [(nB r)] []:=by
 unfold z3u at h;refine zI 1000 (v3S _ _ _ _ t kind) ?_;rintro _ rfl;refine zD zq2 h (fun _ h=>?_) (fun _ h=>?_)
 ·refine zV (e':=(List.length t.L:Int)) (by first|rfl|rw[zq3]) ?_;rintro _ rfl;cases h;exact⟨rfl,rfl⟩
 cases h;exact⟨rfl,rfl⟩
theorem y1y(m:zA)(n:Int)(r:zA×Bool)(h:z2s m n=some r):Trip Tryz.prog 173 [.d (tT m),(nI n)] [] [.d (tT r.1),(nB r.2)] []:=by
 unfold z2s at h;refine zI 1000 (y8D _ _ _ _ m n) ?_;rintro _ rfl;refine zD decide_eq_true_iff h (fun _ h=>?_) (fun _ h=>?_)
 ·cases h;exact⟨rfl,rfl⟩
 obtain⟨hP,h⟩:=uP h;refine⟨by first|exact hP|simpa using hP,?_⟩;rintro _ rfl;refine zV (e':=(List.length m.L:Int)) (by first|rfl|rw[zq3]) ?_;rintro _ rfl;refine zD decide_eq_true_iff h (fun _ h=>?_) (fun _ h=>?_)
 ·cases h;exact⟨rfl,rfl⟩
 obtain⟨hP,h⟩:=uP h;refine⟨by first|exact hP|simpa using hP,?_⟩;rintro _ rfl;obtain⟨x,hx,h⟩:=zC h;refine⟨zF (l:=m.L) (zA.sz),vZ hx,x.K,x.N,x.S,List.map zA.toD x.L,x.From,x.To,zL (zA.toD_eq x) hx,?_⟩;obtain⟨hP,h⟩:=uP h;refine⟨by first|exact hP|simpa using hP,?_⟩;rintro _ rfl;rintro _ rfl;refine zG zq2 h (fun _ h=>?_) (fun _ h=>?_)
 ·refine zV (e':=(List.length x.L:Int)) (by first|rfl|rw[zq3]) ?_;rintro _ rfl;refine zD decide_eq_true_iff h (fun _ h=>?_) (fun _ h=>?_)
  ·cases h;exact⟨rfl,rfl⟩
  obtain⟨x1,hx,h⟩:=zC h;refine⟨zF (l:=x.L) (zA.sz),vZ hx,x1.K,x1.N,x1.S,List.map zA.toD x1.L,x1.From,x1.To,zL (zA.toD_eq x1) hx,?_⟩;rintro _ rfl;refine zG zq2 h (fun _ h=>?_) (fun _ h=>?_)
  ·obtain⟨x2,hx,h⟩:=zC h;refine⟨zF (l:=x.L) (zA.sz),vZ hx,x2.K,x2.N,x2.S,List.map zA.toD x2.L,x2.From,x2.To,zL (zA.toD_eq x2) hx,?_⟩;refine zV (e':=(List.length x2.L:Int)) (by first|rfl|rw[zq3]) ?_;rintro _ rfl;refine zG zq2 h (fun _ h=>?_) (fun _ h=>?_)
   ·obtain⟨x3,hx,h⟩:=zC h;refine⟨zF (l:=x.L) (zA.sz),vZ hx,x3.K,x3.N,x3.S,List.map zA.toD x3.L,x3.From,x3.To,zL (zA.toD_eq x3) hx,?_⟩;obtain⟨x4,hx,h⟩:=zC h;refine⟨zF (l:=x3.L) (zA.sz),vZ hx,x4.K,x4.N,x4.S,List.map zA.toD x4.L,x4.From,x4.To,zL (zA.toD_eq x4) hx,?_⟩;cases h;exact⟨rfl,rfl⟩
   cases h;exact⟨rfl,rfl⟩
  cases h;exact⟨rfl,rfl⟩
 cases h;exact⟨rfl,rfl⟩
def z6M:(i:z1T)→z3X i→Prop
 |.yP n i t d,r=>Ok (z7M (Trip Tryz.prog) [(nI r)] []) (kL Tryz.f172 10) ⟨65,[(2,(nI n)),(4,.ref 4 1 0),(9,.ref 9 1 0),(10,(nI i))],[(4,1,some (.agg (tT t))),(9,1,some (.agg (tT d)))],[],0⟩
theorem y1Q:∀i r,uQ z1M i=some r→z6M i r:=by
 refine zP z6E fun g ih i=>?_;cases i with
 |yP n i t d=>
  have v8H:=fun n i t d r h=>ih (.yP n i t d) r h;intro r h;replace h:jN (fun n i t d=>g (z1T.yP n i t d)) n i t d=some r:=h;unfold jN at h;refine uZ 1000 (y2i _ _ _ _ n i t d) ?_;refine zV (e':=(List.length d.L:Int)) (by first|rfl|rw[zq3]) ?_;rintro _ rfl;refine zD decide_eq_true_iff h (fun _ h=>?_) (fun _ h=>?_)
  ·rintro _ rfl;refine zD decide_eq_true_iff h (fun _ h=>?_) (fun _ h=>?_)
   ·obtain⟨x,hx,h⟩:=zC h;refine⟨zF (l:=d.L) (zA.sz),vZ hx,x.K,x.N,x.S,List.map zA.toD x.L,x.From,x.To,zL (zA.toD_eq x) hx,?_⟩;rintro _ rfl;refine zD zq2 h (fun _ h=>?_) (fun _ h=>?_)
    ·rintro _ rfl;rintro _ rfl;cases h;exact⟨rfl,rfl⟩
    rintro _ rfl;exact v8H _ _ _ _ _ h
   cases h;exact⟨rfl,rfl⟩
  cases h;exact⟨rfl,rfl⟩
theorem y1Y(n i:Int)(t d:zA)(r:Int)(h:yP n i t d=some r):z6M (.yP n i t d) r:=y1Q (.yP n i t d) r h
theorem y7P(m t:zA)(n r:Int)(h:z5F m t n=some r):Trip Tryz.prog 172 [.d (tT m),.d (tT t),(nI n)] [] [(nI r)] []:=by
 unfold z5F at h;refine zI 1000 (y8G _ _ _ _ m t n) ?_;obtain⟨q1,g,h⟩:=zC h;refine⟨_,⟨_,z5u _ _ _ _ g⟩,?_⟩;refine zG Iff.rfl h (fun _ h=>?_) (fun _ h=>?_)
 ·rintro _ rfl;refine zD zq2 h (fun _ h=>?_) (fun _ h=>?_)
  ·obtain⟨q2,g,h⟩:=zC h;refine⟨_,_,_,_,_,_,_,⟨_,y1y _ _ _ g⟩,?_⟩;refine zG Iff.rfl h (fun _ h=>?_) (fun _ h=>?_)
   ·obtain⟨hP,h⟩:=uP h;refine⟨by first|exact hP|simpa using hP,?_⟩;rintro _ rfl;rintro _ rfl;refine zG zq2 h (fun _ h=>?_) (fun _ h=>?_)
    ·cases h;exact⟨rfl,rfl⟩
    cases h;exact⟨rfl,rfl⟩
   cases h;exact⟨rfl,rfl⟩
  obtain⟨x,hx,h⟩:=zC h;refine⟨zF (l:=m.L) (zA.sz),vZ hx,x.K,x.N,x.S,List.map zA.toD x.L,x.From,x.To,zL (zA.toD_eq x) hx,?_⟩;exact y1Y _ _ _ _ _ h
 cases h;exact⟨rfl,rfl⟩
def y2M:(i:z0Y)→z9h i→Prop
 |.wP a b,r=>Trip Tryz.prog 45 [.d (tT a),.d (tT b)] [] [(nB r)] []
 |.vK i a b,r=>Ok (z9t (Trip Tryz.prog) [(nB r)] []) (kL Tryz.f45 4) ⟨53,[(2,.ref 2 1 0),(3,.ref 3 1 0),(5,(nI i))],[(2,1,some (.agg (tT a))),(3,1,some (.agg (tT b)))],[],0⟩
theorem y9Q:∀i r,uQ z3g i=some r→y2M i r:=by
 refine zP z9a fun g ih i=>?_;cases i with
 |wP a b=>
  have v8v:=fun i a b r h=>ih (.vK i a b) r h;intro r h;replace h:z3r (fun i a b=>g (z0Y.vK i a b)) a b=some r:=h;unfold z3r at h;refine zI 1000 (v0B _ _ _ _ a b) ?_;rintro _ rfl;refine zG zq2 h (fun _ h=>?_) (fun _ h=>?_)
  ·rintro _ rfl;refine zG zq2 h (fun _ h=>?_) (fun _ h=>?_)
   ·rintro _ rfl;refine zG zq2 h (fun _ h=>?_) (fun _ h=>?_)
    ·refine zV (e':=(List.length a.L:Int)) (by first|rfl|rw[zq3]) ?_;refine zV (e':=(List.length b.L:Int)) (by first|rfl|rw[zq3]) ?_;rintro _ rfl;refine zG zq2 h (fun _ h=>?_) (fun _ h=>?_)
     ·exact v8v _ _ _ _ h
     cases h;exact⟨rfl,rfl⟩
    cases h;exact⟨rfl,rfl⟩
   cases h;exact⟨rfl,rfl⟩
  cases h;exact⟨rfl,rfl⟩
 |vK i a b=>
  have v8u:=fun a b r h=>ih (.wP a b) r h;have v8v:=fun i a b r h=>ih (.vK i a b) r h;intro r h;replace h:z0n (fun a b=>g (z0Y.wP a b)) (fun i a b=>g (z0Y.vK i a b)) i a b=some r:=h;unfold z0n at h;refine uZ 1000 (y4W _ _ _ _ i a b) ?_;refine zV (e':=(List.length a.L:Int)) (by first|rfl|rw[zq3]) ?_;rintro _ rfl;refine zD decide_eq_true_iff h (fun _ h=>?_) (fun _ h=>?_)
  ·obtain⟨x,hx,h⟩:=zC h;refine⟨zF (l:=a.L) (zA.sz),vZ hx,x.K,x.N,x.S,List.map zA.toD x.L,x.From,x.To,zL (zA.toD_eq x) hx,?_⟩;obtain⟨x1,hx,h⟩:=zC h;refine⟨zF (l:=b.L) (zA.sz),vZ hx,x1.K,x1.N,x1.S,List.map zA.toD x1.L,x1.From,x1.To,zL (zA.toD_eq x1) hx,?_⟩;obtain⟨q1,g,h⟩:=zC h;refine⟨_,⟨_,v8u _ _ _ g⟩,?_⟩;refine zG Iff.rfl h (fun _ h=>?_) (fun _ h=>?_)
   ·rintro _ rfl;exact v8v _ _ _ _ h
   cases h;exact⟨rfl,rfl⟩
  cases h;exact⟨rfl,rfl⟩
theorem z4H(a b:zA)(r:Bool)(h:wP a b=some r):y2M (.wP a b) r:=y9Q (.wP a b) r h
def z9Q:(i:z4l)→z6c i→Prop
 |.wH types parts i,r=>Ok (y0U (Trip Tryz.prog) [(nB r)] []) (kL Tryz.f174 4) ⟨40,[(0,.d (.sl (List.map zA.toD types))),(1,.d (.sl (List.map zA.toD parts))),(5,(nI i))],[],[],0⟩
theorem y6a:∀i r,uQ z4i i=some r→z9Q i r:=by
 refine zP z9L fun g ih i=>?_;cases i with
 |wH types parts i=>
  have v8I:=fun types parts i r h=>ih (.wH types parts i) r h;intro r h;replace h:z0I (fun types parts i=>g (z4l.wH types parts i)) types parts i=some r:=h;unfold z0I at h;refine uZ 1000 (y6w _ _ _ _ types parts i) ?_;refine zV (e':=(List.length parts:Int)) (by first|rfl|rw[zq3]) ?_;rintro _ rfl;refine zD decide_eq_true_iff h (fun _ h=>?_) (fun _ h=>?_)
  ·obtain⟨x,hx,h⟩:=zC h;refine⟨zF (l:=parts) (zA.sz),vZ hx,x.K,x.N,x.S,List.map zA.toD x.L,x.From,x.To,zL (zA.toD_eq x) hx,?_⟩;refine zV (e':=(List.length x.L:Int)) (by first|rfl|rw[zq3]) ?_;rintro _ rfl;refine zG zq2 h (fun _ h=>?_) (fun _ h=>?_)
   ·obtain⟨x1,hx,h⟩:=zC h;refine⟨zF (l:=types) (zA.sz),vZ hx,x1.K,x1.N,x1.S,List.map zA.toD x1.L,x1.From,x1.To,zL (zA.toD_eq x1) hx,?_⟩;obtain⟨x2,hx,h⟩:=zC h;refine⟨zF (l:=parts) (zA.sz),vZ hx,x2.K,x2.N,x2.S,List.map zA.toD x2.L,x2.From,x2.To,zL (zA.toD_eq x2) hx,?_⟩;obtain⟨x3,hx,h⟩:=zC h;refine⟨zF (l:=x2.L) (zA.sz),vZ hx,x3.K,x3.N,x3.S,List.map zA.toD x3.L,x3.From,x3.To,zL (zA.toD_eq x3) hx,?_⟩;obtain⟨q1,g,h⟩:=zC h;refine⟨_,_,_,_,_,_,⟨_,z3n _ _ g⟩,?_⟩;obtain⟨q2,g,h⟩:=zC h
    refine⟨_,⟨_,z4H _ _ _ g⟩,?_⟩;refine zG Iff.rfl h (fun _ h=>?_) (fun _ h=>?_)
    ·rintro _ rfl;exact v8I _ _ _ _ h
    cases h;exact⟨rfl,rfl⟩
   cases h;exact⟨rfl,rfl⟩
  cases h;exact⟨rfl,rfl⟩
theorem y6f(types parts:List zA)(i:Int)(r:Bool)(h:wH types parts i=some r):z9Q (.wH types parts i) r:=y6a (.wH types parts i) r h
theorem y5z(types parts:List zA)(r:Bool)(h:z8C types parts=some r):Trip Tryz.prog 174 [.d (.sl (List.map zA.toD types)),.d (.sl (List.map zA.toD parts))] [] [(nB r)] []:=by
 unfold z8C at h;refine zI 1000 (v2K _ _ _ _ types parts) ?_;refine zV (e':=(List.length types:Int)) (by first|rfl|rw[zq3]) ?_;refine zV (e':=(List.length parts:Int)) (by first|rfl|rw[zq3]) ?_;rintro _ rfl;refine zG zq2 h (fun _ h=>?_) (fun _ h=>?_)
 ·exact y6f _ _ _ _ h
 cases h;exact⟨rfl,rfl⟩
def z9P:(i:wU)→z6b i→Prop
 |.zM m t in_,r=>Trip Tryz.prog 229 [.d (tT m),.d (tT t),.d (.sl (List.map (D.int .i64) in_))] [] [(nI r)] []
 |.zZ in_ at_ i m,r=>Ok (z2T (Trip Tryz.prog) [(nI r)] []) (kL Tryz.f229 12) ⟨137,[(2,.d (.sl (List.map (D.int .i64) in_))),(3,.ref 3 1 0),(8,(nI at_)),(9,(nI i))],[(3,1,some (.agg (tT m)))],[],0⟩
 |.zO in_ at_ sum i m d,r=>Ok (z2T (Trip Tryz.prog) [(nI r)] []) (kL Tryz.f229 21) ⟨137,[(2,.d (.sl (List.map (D.int .i64) in_))),(3,.ref 3 1 0),(8,(nI at_)),(10,.ref 10 1 0),(11,(nI sum)),(12,(nI i))],[(3,1,some (.agg (tT m))),(10,1,some (.agg (tT d)))],[],0⟩
theorem y5Z:∀i r,uQ z0a i=some r→z9P i r:=by
 refine zP z4h fun g ih i=>?_;cases i with
 |zM m t in_=>
  have v8B:=fun m t in_ r h=>ih (.zM m t in_) r h;have v8C:=fun in_ at_ i m r h=>ih (.zZ in_ at_ i m) r h;intro r h;replace h:wG (fun m t in_=>g (wU.zM m t in_)) (fun in_ at_ i m=>g (wU.zZ in_ at_ i m)) m t in_=some r:=h;unfold wG at h;refine zI 1000 (y6v _ _ _ _ m t in_) ?_;rintro _ rfl;refine zD zq2 h (fun hc111 h=>?_) (fun hc111 h=>?_)
  ·refine zV (e':=(List.length t.L:Int)) (by first|rfl|rw[zq3]) ?_;rintro _ rfl;refine zD zq2 h (fun _ h=>?_) (fun _ h=>?_)
   ·cases h;exact⟨rfl,rfl⟩
   rintro _ rfl;refine jE zq2 (fun e=>absurd (hc111.symm.trans e) (by decide)) ?_;rintro _ rfl;refine z6B zq2 (fun e=>absurd (hc111.symm.trans e) (by decide)) ?_;cases h;exact⟨rfl,rfl⟩
  rintro _ rfl;refine zD zq2 h (fun hc113 h=>?_) (fun hc113 h=>?_)
  ·refine zV (e':=(List.length t.L:Int)) (by first|rfl|rw[zq3]) ?_;rintro _ rfl;refine zD zq2 h (fun _ h=>?_) (fun _ h=>?_)
   ·cases h;exact⟨rfl,rfl⟩
   rintro _ rfl;refine jE zq2 (fun e=>absurd (hc113.symm.trans e) (by decide)) ?_;rintro _ rfl;refine z6B zq2 (fun e=>absurd (hc113.symm.trans e) (by decide)) ?_;cases h;exact⟨rfl,rfl⟩
  rintro _ rfl;refine zD zq2 h (fun hc115 h=>?_) (fun hc115 h=>?_)
  ·refine zV (e':=(List.length t.L:Int)) (by first|rfl|rw[zq3]) ?_;rintro _ rfl;refine zD zq2 h (fun _ h=>?_) (fun _ h=>?_)
   ·rintro _ rfl;refine zD decide_eq_true_iff h (fun _ h=>?_) (fun _ h=>?_)
    ·rintro _ rfl;refine zD decide_eq_true_iff h (fun _ h=>?_) (fun _ h=>?_)
     ·obtain⟨x2,hx,h⟩:=zC h;refine⟨zF (l:=t.L) (zA.sz),vZ hx,x2.K,x2.N,x2.S,List.map zA.toD x2.L,x2.From,x2.To,zL (zA.toD_eq x2) hx,?_⟩;obtain⟨q3,g,h⟩:=zC h;refine⟨_,⟨_,v8B _ _ _ _ g⟩,?_⟩;rintro _ rfl;rintro _ rfl;refine zD decide_eq_true_iff h (fun _ h=>?_) (fun _ h=>?_)
      ·cases h;exact⟨rfl,rfl⟩
      cases h;exact⟨rfl,rfl⟩
     rintro _ rfl;refine z6B zq2 (fun e=>absurd (hc115.symm.trans e) (by decide)) ?_;cases h;exact⟨rfl,rfl⟩
    rintro _ rfl;refine z6B zq2 (fun e=>absurd (hc115.symm.trans e) (by decide)) ?_;cases h;exact⟨rfl,rfl⟩
   rintro _ rfl;refine z6B zq2 (fun e=>absurd (hc115.symm.trans e) (by decide)) ?_;cases h;exact⟨rfl,rfl⟩
  rintro _ rfl;refine zG zq2 h (fun _ h=>?_) (fun _ h=>?_)
  ·refine zV (e':=(List.length t.L:Int)) (by first|rfl|rw[zq3]) ?_;rintro _ rfl;refine zG zq2 h (fun _ h=>?_) (fun _ h=>?_)
   ·rintro _ rfl;refine zD decide_eq_true_iff h (fun _ h=>?_) (fun _ h=>?_)
    ·cases h;exact⟨rfl,rfl⟩
    refine zV (e':=(List.length m.L:Int)) (by first|rfl|rw[zq3]) ?_;rintro _ rfl;refine zD decide_eq_true_iff h (fun _ h=>?_) (fun _ h=>?_)
    ·cases h;exact⟨rfl,rfl⟩
    exact v8C _ _ _ _ _ h
   cases h;exact⟨rfl,rfl⟩
  cases h;exact⟨rfl,rfl⟩
 |zZ in_ at_ i m=>
  have v8C:=fun in_ at_ i m r h=>ih (.zZ in_ at_ i m) r h;have v8D:=fun in_ at_ sum i m d r h=>ih (.zO in_ at_ sum i m d) r h;intro r h;replace h:uJ (fun in_ at_ i m=>g (wU.zZ in_ at_ i m)) (fun in_ at_ sum i m d=>g (wU.zO in_ at_ sum i m d)) in_ at_ i m=some r:=h;unfold uJ at h;refine uZ 1000 (y1c _ _ _ _ in_ at_ i m) ?_;refine zV (e':=(List.length in_:Int)) (by first|rfl|rw[zq3]) ?_;rintro _ rfl;refine zD decide_eq_true_iff h (fun _ h=>?_) (fun _ h=>?_)
  ·obtain⟨x,hx,h⟩:=zC h;refine⟨zF (l:=in_) (fun _=>rfl),vZ hx,x,zL rfl hx,?_⟩;rintro _ rfl;refine zD zq2 h (fun _ h=>?_) (fun _ h=>?_)
   ·cases h;exact⟨rfl,rfl⟩
   rintro _ rfl;exact v8C _ _ _ _ _ h
  obtain⟨x1,hx,h⟩:=zC h;refine⟨zF (l:=m.L) (zA.sz),vZ hx,x1.K,x1.N,x1.S,List.map zA.toD x1.L,x1.From,x1.To,zL (zA.toD_eq x1) hx,?_⟩;obtain⟨q1,g,h⟩:=zC h;refine⟨_,⟨_,z6f _ _ g⟩,?_⟩;refine zG Iff.rfl h (fun _ h=>?_) (fun _ h=>?_)
  ·exact v8D _ _ _ _ _ _ _ h
  cases h;exact⟨rfl,rfl⟩
 |zO in_ at_ sum i m d=>
  have v8B:=fun m t in_ r h=>ih (.zM m t in_) r h;have v8D:=fun in_ at_ sum i m d r h=>ih (.zO in_ at_ sum i m d) r h;intro r h;replace h:uK (fun m t in_=>g (wU.zM m t in_)) (fun in_ at_ sum i m d=>g (wU.zO in_ at_ sum i m d)) in_ at_ sum i m d=some r:=h;unfold uK at h;refine uZ 1000 (y1d _ _ _ _ in_ at_ sum i m d) ?_;refine zV (e':=(List.length d.L:Int)) (by first|rfl|rw[zq3]) ?_;rintro _ rfl;refine zD decide_eq_true_iff h (fun _ h=>?_) (fun _ h=>?_)
  ·obtain⟨x,hx,h⟩:=zC h;refine⟨zF (l:=d.L) (zA.sz),vZ hx,x.K,x.N,x.S,List.map zA.toD x.L,x.From,x.To,zL (zA.toD_eq x) hx,?_⟩;obtain⟨x1,hx,h⟩:=zC h;refine⟨zF (l:=x.L) (zA.sz),vZ hx,x1.K,x1.N,x1.S,List.map zA.toD x1.L,x1.From,x1.To,zL (zA.toD_eq x1) hx,?_⟩;refine⟨zF (l:=in_) (fun _=>rfl),?_⟩;refine⟨by first|rfl|decide|simp only[zq3,List.length_cons,List.length_nil,List.map_append,List.length_append],?_⟩;obtain⟨hP,h⟩:=uP h;refine⟨by first|exact hP|simpa using hP,?_⟩
   refine zV (e':=List.map (D.int .i64) (([]:List Int)++in_)) (by first|rfl|simp only[List.map_append,List.map_cons,List.map_nil,List.map_take,List.map_drop,List.map_set,List.map_replicate,zq3]) ?_;refine⟨by simp[zE,D.cells],?_⟩;refine⟨by first|rfl|decide|simp only[zq3,List.length_cons,List.length_nil,List.map_append,List.length_append],?_⟩;obtain⟨hP,h⟩:=uP h;refine⟨by first|exact hP|simpa using hP,?_⟩
   refine zV (e':=List.map (D.int .i64) ((([]:List Int)++in_)++[at_])) (by first|rfl|simp only[List.map_append,List.map_cons,List.map_nil,List.map_take,List.map_drop,List.map_set,List.map_replicate,zq3]) ?_;obtain⟨q1,g,h⟩:=zC h;refine⟨_,⟨_,v8B _ _ _ _ g⟩,?_⟩;rintro _ rfl;rintro _ rfl;refine zD zq2 h (fun _ h=>?_) (fun _ h=>?_)
   ·cases h;exact⟨rfl,rfl⟩
   rintro _ rfl;refine zD decide_eq_true_iff h (fun _ h=>?_) (fun _ h=>?_)
   ·cases h;exact⟨rfl,rfl⟩
   rintro _ rfl;exact v8D _ _ _ _ _ _ _ h
  cases h;exact⟨rfl,rfl⟩
theorem y6e(m t:zA)(in_:List Int)(r:Int)(h:zM m t in_=some r):z9P (.zM m t in_) r:=y5Z (.zM m t in_) r h
theorem z0C(m t:zA)(r:Int)(h:gE m t=some r):Trip Tryz.prog 164 [.d (tT m),.d (tT t)] [] [(nI r)] []:=by
 unfold gE at h;refine zI 1000 (y8C _ _ _ _ m t) ?_;obtain⟨q1,g,h⟩:=zC h;refine⟨_,⟨_,y6e _ _ _ _ g⟩,?_⟩;cases h;exact⟨rfl,rfl⟩
def z7p:(i:z2J)→z4B i→Prop
 |.vE p i m t o6,r=>Ok (wY (Trip Tryz.prog) [.d (tT r.1),(nI r.2.1),(nI r.2.2)] []) (kL Tryz.f108 20) ⟨223,[(2,.d (.sl (List.map zA.toD p))),(3,.ref 3 1 0),(4,.ref 4 1 0),(6,.ref 6 1 0),(12,(nI i))],[(3,1,some (.agg (tT m))),(4,1,some (.agg (tT t))),(6,1,some (.agg (tT o6)))],[],0⟩
theorem y2F:∀i r,uQ z2C i=some r→z7p i r:=by
 refine zP z7g fun g ih i=>?_;cases i with
 |vE p i m t o6=>
  have v8L:=fun p i m t o6 r h=>ih (.vE p i m t o6) r h;intro r h;replace h:gM (fun p i m t o6=>g (z2J.vE p i m t o6)) p i m t o6=some r:=h;unfold gM at h;refine uZ 1000 (y3K _ _ _ _ p i m t o6) ?_;refine zV (e':=(List.length p:Int)) (by first|rfl|rw[zq3]) ?_;rintro _ rfl;refine zD decide_eq_true_iff h (fun _ h=>?_) (fun _ h=>?_)
  ·obtain⟨x,hx,h⟩:=zC h;refine⟨zF (l:=p) (zA.sz),vZ hx,x.K,x.N,x.S,List.map zA.toD x.L,x.From,x.To,zL (zA.toD_eq x) hx,?_⟩;obtain⟨x1,hx,h⟩:=zC h;refine⟨zF (l:=p) (zA.sz),vZ hx,x1.K,x1.N,x1.S,List.map zA.toD x1.L,x1.From,x1.To,zL (zA.toD_eq x1) hx,?_⟩;obtain⟨q1,g,h⟩:=zC h;refine⟨_,⟨_,z4H _ _ _ g⟩,?_⟩;refine zG Iff.rfl h (fun _ h=>?_) (fun _ h=>?_)
   ·rintro _ rfl;exact v8L _ _ _ _ _ _ h
   cases h;exact⟨rfl,rfl⟩
  refine zV (e':=(List.length p:Int)) (by first|rfl|rw[zq3]) ?_;obtain⟨x2,hx,h⟩:=zC h;refine⟨zF (l:=p) (zA.sz),vZ hx,x2.K,x2.N,x2.S,List.map zA.toD x2.L,x2.From,x2.To,zL (zA.toD_eq x2) hx,?_⟩;obtain⟨q2,g,h⟩:=zC h;have hT:=z0C _ _ _ g;simp only[List.map_cons,List.map_nil,tT,tV,tS,tG,zA.toD_eq,Value.toD_eq]at hT;refine⟨_,⟨_,hT⟩,?_⟩;rintro _ rfl;refine zD zq2 h (fun _ h=>?_) (fun _ h=>?_)
  ·cases h;exact⟨rfl,rfl⟩
  cases h;refine⟨?_,rfl⟩;simp only[List.map_cons,List.map_nil,tT,tV,tS,tG,zA.toD_eq,Value.toD_eq]
theorem y3a(p:List zA)(i:Int)(m t o6:zA)(r:zA×Int×Int)(h:vE p i m t o6=some r):z7p (.vE p i m t o6) r:=y2F (.vE p i m t o6) r h
theorem y2Z(p:List zA)(m t o6:zA)(r:zA×Int×Int)(h:z4q p m t o6=some r):Ok (wY (Trip Tryz.prog) [.d (tT r.1),(nI r.2.1),(nI r.2.2)] []) (kJ Tryz.f108 19) ⟨223,[(2,.d (.sl (List.map zA.toD p))),(3,.ref 3 1 0),(4,.ref 4 1 0),(6,.ref 6 1 0)],[(3,1,some (.agg (tT m))),(4,1,some (.agg (tT t))),(6,1,some (.agg (tT o6)))],[],0⟩:=by
 unfold z4q at h;refine uZ 1000 (y3J _ _ _ _ p m t o6) ?_;exact y3a _ _ _ _ _ _ h
theorem z7C(p:List zA)(m t o6:zA)(r:zA×Int×Int)(h:z1y p m t o6=some r):Ok (wY (Trip Tryz.prog) [.d (tT r.1),(nI r.2.1),(nI r.2.2)] []) (kJ Tryz.f108 17) ⟨223,[(2,.d (.sl (List.map zA.toD p))),(3,.ref 3 1 0),(4,.ref 4 1 0),(6,.ref 6 1 0)],[(3,1,some (.agg (tT m))),(4,1,some (.agg (tT t))),(6,1,some (.agg (tT o6)))],[],0⟩:=by
 unfold z1y at h;refine uZ 1000 (y3I _ _ _ _ p m t o6) ?_;rintro _ rfl;refine zG zq2 h (fun _ h=>?_) (fun _ h=>?_)
 ·exact y2Z _ _ _ _ _ h
 cases h;exact⟨rfl,rfl⟩
theorem z7B(p:List zA)(m t o6:zA)(r:zA×Int×Int)(h:z1x p m t o6=some r):Ok (wY (Trip Tryz.prog) [.d (tT r.1),(nI r.2.1),(nI r.2.2)] []) (kJ Tryz.f108 15) ⟨223,[(2,.d (.sl (List.map zA.toD p))),(3,.ref 3 1 0),(4,.ref 4 1 0),(6,.ref 6 1 0)],[(3,1,some (.agg (tT m))),(4,1,some (.agg (tT t))),(6,1,some (.agg (tT o6)))],[],0⟩:=by
 unfold z1x at h;refine uZ 1000 (y3H _ _ _ _ p m t o6) ?_;rintro _ rfl;refine zD zq2 h (fun _ h=>?_) (fun _ h=>?_)
 ·obtain⟨x,hx,h⟩:=zC h;refine⟨zF (l:=m.L) (zA.sz),vZ hx,x.K,x.N,x.S,List.map zA.toD x.L,x.From,x.To,zL (zA.toD_eq x) hx,?_⟩;obtain⟨x1,hx,h⟩:=zC h;refine⟨zF (l:=x.L) (zA.sz),vZ hx,x1.K,x1.N,x1.S,List.map zA.toD x1.L,x1.From,x1.To,zL (zA.toD_eq x1) hx,?_⟩;obtain⟨q1,g,h⟩:=zC h;refine⟨_,⟨_,y5z _ _ _ g⟩,?_⟩;refine zD Iff.rfl h (fun _ h=>?_) (fun _ h=>?_)
  ·obtain⟨x2,hx,h⟩:=zC h;refine⟨zF (l:=m.L) (zA.sz),vZ hx,x2.K,x2.N,x2.S,List.map zA.toD x2.L,x2.From,x2.To,zL (zA.toD_eq x2) hx,?_⟩;obtain⟨x3,hx,h⟩:=zC h;refine⟨zF (l:=x2.L) (zA.sz),vZ hx,x3.K,x3.N,x3.S,List.map zA.toD x3.L,x3.From,x3.To,zL (zA.toD_eq x3) hx,?_⟩;obtain⟨q2,g,h⟩:=zC h;refine⟨_,_,_,_,_,_,⟨_,z3n _ _ g⟩,?_⟩;cases h;exact⟨rfl,rfl⟩
  exact z7C _ _ _ _ _ h
 exact z7C _ _ _ _ _ h
theorem z4I(p:List zA)(m t o6:zA)(r:zA×Int×Int)(h:z0K p m t o6=some r):Ok (wY (Trip Tryz.prog) [.d (tT r.1),(nI r.2.1),(nI r.2.2)] []) (kJ Tryz.f108 13) ⟨223,[(2,.d (.sl (List.map zA.toD p))),(3,.ref 3 1 0),(4,.ref 4 1 0),(6,.ref 6 1 0)],[(3,1,some (.agg (tT m))),(4,1,some (.agg (tT t))),(6,1,some (.agg (tT o6)))],[],0⟩:=by
 unfold z0K at h;refine uZ 1000 (y3G _ _ _ _ p m t o6) ?_;rintro _ rfl;refine zD zq2 h (fun _ h=>?_) (fun _ h=>?_)
 ·obtain⟨x,hx,h⟩:=zC h;refine⟨zF (l:=m.L) (zA.sz),vZ hx,x.K,x.N,x.S,List.map zA.toD x.L,x.From,x.To,zL (zA.toD_eq x) hx,?_⟩;obtain⟨q1,g,h⟩:=zC h;refine⟨_,⟨_,y5z _ _ _ g⟩,?_⟩;refine zD Iff.rfl h (fun _ h=>?_) (fun _ h=>?_)
  ·cases h;exact⟨rfl,rfl⟩
  exact z7B _ _ _ _ _ h
 exact z7B _ _ _ _ _ h
theorem z3K(p:List zA)(m t o6:zA)(r:zA×Int×Int)(h:z0F p m t o6=some r):Ok (wY (Trip Tryz.prog) [.d (tT r.1),(nI r.2.1),(nI r.2.2)] []) (kJ Tryz.f108 7) ⟨223,[(2,.d (.sl (List.map zA.toD p))),(3,.ref 3 1 0),(4,.ref 4 1 0),(6,.ref 6 1 0)],[(3,1,some (.agg (tT m))),(4,1,some (.agg (tT t))),(6,1,some (.agg (tT o6)))],[],0⟩:=by
 unfold z0F at h;refine uZ 1000 (y5c _ _ _ _ p m t o6) ?_;rintro _ rfl;refine zD zq2 h (fun _ h=>?_) (fun _ h=>?_)
 ·obtain⟨x,hx,h⟩:=zC h;refine⟨zF (l:=p) (zA.sz),vZ hx,x.K,x.N,x.S,List.map zA.toD x.L,x.From,x.To,zL (zA.toD_eq x) hx,?_⟩;rintro _ rfl;refine zD zq2 h (fun _ h=>?_) (fun _ h=>?_)
  ·obtain⟨x1,hx,h⟩:=zC h;refine⟨zF (l:=p) (zA.sz),vZ hx,x1.K,x1.N,x1.S,List.map zA.toD x1.L,x1.From,x1.To,zL (zA.toD_eq x1) hx,?_⟩;refine zV (e':=(List.length x1.L:Int)) (by first|rfl|rw[zq3]) ?_;rintro _ rfl;refine zD zq2 h (fun _ h=>?_) (fun _ h=>?_)
   ·obtain⟨x2,hx,h⟩:=zC h;refine⟨zF (l:=p) (zA.sz),vZ hx,x2.K,x2.N,x2.S,List.map zA.toD x2.L,x2.From,x2.To,zL (zA.toD_eq x2) hx,?_⟩;obtain⟨q1,g,h⟩:=zC h;refine⟨_,⟨_,y7P _ _ _ _ g⟩,?_⟩;rintro _ rfl;refine zD decide_eq_true_iff h (fun _ h=>?_) (fun _ h=>?_)
    ·cases h;exact⟨rfl,rfl⟩
    obtain⟨q2,g,h⟩:=zC h;refine⟨_,_,_,_,_,_,_,⟨_,y1y _ _ _ g⟩,?_⟩;obtain⟨q3,g,h⟩:=zC h;refine⟨_,_,_,_,_,_,⟨_,z3n _ _ g⟩,?_⟩;cases h;exact⟨rfl,rfl⟩
   exact z4I _ _ _ _ _ h
  exact z4I _ _ _ _ _ h
 exact z4I _ _ _ _ _ h
theorem z3J(p:List zA)(m t o6:zA)(r:zA×Int×Int)(h:z0E p m t o6=some r):Ok (wY (Trip Tryz.prog) [.d (tT r.1),(nI r.2.1),(nI r.2.2)] []) (kJ Tryz.f108 5) ⟨223,[(2,.d (.sl (List.map zA.toD p))),(3,.ref 3 1 0),(4,.ref 4 1 0),(6,.ref 6 1 0)],[(3,1,some (.agg (tT m))),(4,1,some (.agg (tT t))),(6,1,some (.agg (tT o6)))],[],0⟩:=by
 unfold z0E at h;refine uZ 1000 (y5b _ _ _ _ p m t o6) ?_;rintro _ rfl;refine zD zq2 h (fun _ h=>?_) (fun _ h=>?_)
 ·obtain⟨x,hx,h⟩:=zC h;refine⟨zF (l:=p) (zA.sz),vZ hx,x.K,x.N,x.S,List.map zA.toD x.L,x.From,x.To,zL (zA.toD_eq x) hx,?_⟩;rintro _ rfl;refine zD zq2 h (fun _ h=>?_) (fun _ h=>?_)
  ·obtain⟨x1,hx,h⟩:=zC h;refine⟨zF (l:=p) (zA.sz),vZ hx,x1.K,x1.N,x1.S,List.map zA.toD x1.L,x1.From,x1.To,zL (zA.toD_eq x1) hx,?_⟩;refine zV (e':=(List.length x1.L:Int)) (by first|rfl|rw[zq3]) ?_;rintro _ rfl;refine zD zq2 h (fun _ h=>?_) (fun _ h=>?_)
   ·obtain⟨x2,hx,h⟩:=zC h;refine⟨zF (l:=p) (zA.sz),vZ hx,x2.K,x2.N,x2.S,List.map zA.toD x2.L,x2.From,x2.To,zL (zA.toD_eq x2) hx,?_⟩;obtain⟨q1,g,h⟩:=zC h;refine⟨_,⟨_,z2P _ _ _ g⟩,?_⟩;refine zD Iff.rfl h (fun _ h=>?_) (fun _ h=>?_)
    ·obtain⟨x3,hx,h⟩:=zC h;refine⟨zF (l:=p) (zA.sz),vZ hx,x3.K,x3.N,x3.S,List.map zA.toD x3.L,x3.From,x3.To,zL (zA.toD_eq x3) hx,?_⟩;obtain⟨x4,hx,h⟩:=zC h;refine⟨zF (l:=x3.L) (zA.sz),vZ hx,x4.K,x4.N,x4.S,List.map zA.toD x4.L,x4.From,x4.To,zL (zA.toD_eq x4) hx,?_⟩;cases h;exact⟨rfl,rfl⟩
    exact z3K _ _ _ _ _ h
   exact z3K _ _ _ _ _ h
  exact z3K _ _ _ _ _ h
 exact z3K _ _ _ _ _ h
theorem z8N(p:List zA)(m t o6:zA)(r:zA×Int×Int)(h:z2t p m t o6=some r):Ok (wY (Trip Tryz.prog) [.d (tT r.1),(nI r.2.1),(nI r.2.2)] []) (kJ Tryz.f108 3) ⟨223,[(2,.d (.sl (List.map zA.toD p))),(3,.ref 3 1 0),(4,.ref 4 1 0),(6,.ref 6 1 0)],[(3,1,some (.agg (tT m))),(4,1,some (.agg (tT t))),(6,1,some (.agg (tT o6)))],[],0⟩:=by
 unfold z2t at h;refine uZ 1000 (y5a _ _ _ _ p m t o6) ?_;rintro _ rfl;refine zD zq2 h (fun _ h=>?_) (fun _ h=>?_)
 ·rintro _ rfl;refine zD zq2 h (fun hc147 h=>?_) (fun hc147 h=>?_)
  ·obtain⟨x,hx,h⟩:=zC h;refine⟨zF (l:=p) (zA.sz),vZ hx,x.K,x.N,x.S,List.map zA.toD x.L,x.From,x.To,zL (zA.toD_eq x) hx,?_⟩;obtain⟨q1,g,h⟩:=zC h;refine⟨_,⟨_,z2P _ _ _ g⟩,?_⟩;refine zD Iff.rfl h (fun _ h=>?_) (fun _ h=>?_)
   ·obtain⟨x1,hx,h⟩:=zC h;refine⟨zF (l:=p) (zA.sz),vZ hx,x1.K,x1.N,x1.S,List.map zA.toD x1.L,x1.From,x1.To,zL (zA.toD_eq x1) hx,?_⟩;cases h;exact⟨rfl,rfl⟩
   rintro _ rfl;refine jE zq2 (fun e=>absurd (hc147.symm.trans e) (by decide)) ?_;exact z3J _ _ _ _ _ h
  rintro _ rfl;refine zD zq2 h (fun _ h=>?_) (fun _ h=>?_)
  ·obtain⟨x4,hx,h⟩:=zC h;refine⟨zF (l:=p) (zA.sz),vZ hx,x4.K,x4.N,x4.S,List.map zA.toD x4.L,x4.From,x4.To,zL (zA.toD_eq x4) hx,?_⟩;obtain⟨q3,g,h⟩:=zC h;refine⟨_,⟨_,z2P _ _ _ g⟩,?_⟩;refine zD Iff.rfl h (fun _ h=>?_) (fun _ h=>?_)
   ·obtain⟨x5,hx,h⟩:=zC h;refine⟨zF (l:=p) (zA.sz),vZ hx,x5.K,x5.N,x5.S,List.map zA.toD x5.L,x5.From,x5.To,zL (zA.toD_eq x5) hx,?_⟩;cases h;exact⟨rfl,rfl⟩
   exact z3J _ _ _ _ _ h
  exact z3J _ _ _ _ _ h
 exact z3J _ _ _ _ _ h
theorem z2S(op:Int)(ints:Bool)(o6 r:zA)(h:z0L op ints o6=some r):Ok (z1r (Trip Tryz.prog) [.d (tT r)] []) (kJ Tryz.f170 7) ⟨70,[(0,(nI op)),(6,.ref 6 1 0),(7,(nB ints))],[(6,1,some (.agg (tT o6)))],[],0⟩:=by
 unfold z0L at h;refine uZ 1000 (y6C _ _ _ _ op ints o6) ?_;rintro _ rfl;refine zD decide_eq_true_iff h (fun _ h=>?_) (fun _ h=>?_)
 ·refine zD Iff.rfl h (fun _ h=>?_) (fun _ h=>?_)
  ·obtain⟨q1,g,h⟩:=zC h;refine⟨_,_,_,_,_,_,⟨_,y0O _ g⟩,?_⟩;cases h;exact⟨rfl,rfl⟩
  cases h;exact⟨rfl,rfl⟩
 cases h;exact⟨rfl,rfl⟩
theorem z2R(op:Int)(ints:Bool)(o6 r:zA)(h:gN op ints o6=some r):Ok (z1r (Trip Tryz.prog) [.d (tT r)] []) (kJ Tryz.f170 5) ⟨70,[(0,(nI op)),(6,.ref 6 1 0),(7,(nB ints))],[(6,1,some (.agg (tT o6)))],[],0⟩:=by
 unfold gN at h;refine uZ 1000 (y6B _ _ _ _ op ints o6) ?_;rintro _ rfl;refine zD zq2 h (fun _ h=>?_) (fun _ h=>?_)
 ·refine zD Iff.rfl h (fun _ h=>?_) (fun _ h=>?_)
  ·obtain⟨q1,g,h⟩:=zC h;refine⟨_,_,_,_,_,_,⟨_,gH _ g⟩,?_⟩;cases h;exact⟨rfl,rfl⟩
  exact z2S _ _ _ _ h
 rintro _ rfl;refine zD zq2 h (fun _ h=>?_) (fun _ h=>?_)
 ·refine zD Iff.rfl h (fun _ h=>?_) (fun _ h=>?_)
  ·obtain⟨q2,g,h⟩:=zC h;refine⟨_,_,_,_,_,_,⟨_,gH _ g⟩,?_⟩;cases h;exact⟨rfl,rfl⟩
  exact z2S _ _ _ _ h
 rintro _ rfl;refine zD zq2 h (fun _ h=>?_) (fun _ h=>?_)
 ·refine zD Iff.rfl h (fun _ h=>?_) (fun _ h=>?_)
  ·obtain⟨q3,g,h⟩:=zC h;refine⟨_,_,_,_,_,_,⟨_,gH _ g⟩,?_⟩;cases h;exact⟨rfl,rfl⟩
  exact z2S _ _ _ _ h
 rintro _ rfl;refine zD zq2 h (fun _ h=>?_) (fun _ h=>?_)
 ·refine zD Iff.rfl h (fun _ h=>?_) (fun _ h=>?_)
  ·obtain⟨q4,g,h⟩:=zC h;refine⟨_,_,_,_,_,_,⟨_,gH _ g⟩,?_⟩;cases h;exact⟨rfl,rfl⟩
  exact z2S _ _ _ _ h
 exact z2S _ _ _ _ h
theorem z9W(op:Int)(ints bools:Bool)(o6 r:zA)(h:z3w op ints bools o6=some r):Ok (z1r (Trip Tryz.prog) [.d (tT r)] []) (kJ Tryz.f170 3) ⟨70,[(0,(nI op)),(6,.ref 6 1 0),(7,(nB ints)),(8,(nB bools))],[(6,1,some (.agg (tT o6)))],[],0⟩:=by
 unfold z3w at h;refine uZ 1000 (y6A _ _ _ _ op ints bools o6) ?_;rintro _ rfl;refine zD zq2 h (fun hc161 h=>?_) (fun hc161 h=>?_)
 ·refine zD Iff.rfl h (fun _ h=>?_) (fun _ h=>?_)
  ·obtain⟨q1,g,h⟩:=zC h;refine⟨_,_,_,_,_,_,⟨_,gH _ g⟩,?_⟩;cases h;exact⟨rfl,rfl⟩
  rintro _ rfl;refine jE zq2 (fun e=>absurd (hc161.symm.trans e) (by decide)) ?_;rintro _ rfl;refine jE zq2 (fun e=>absurd (hc161.symm.trans e) (by decide)) ?_;exact z2R _ _ _ _ h
 rintro _ rfl;refine zD zq2 h (fun hc163 h=>?_) (fun hc163 h=>?_)
 ·refine zD Iff.rfl h (fun _ h=>?_) (fun _ h=>?_)
  ·obtain⟨q6,g,h⟩:=zC h;refine⟨_,_,_,_,_,_,⟨_,gH _ g⟩,?_⟩;cases h;exact⟨rfl,rfl⟩
  rintro _ rfl;refine jE zq2 (fun e=>absurd (hc163.symm.trans e) (by decide)) ?_;rintro _ rfl;refine jE zq2 (fun e=>absurd (hc163.symm.trans e) (by decide)) ?_;exact z2R _ _ _ _ h
 rintro _ rfl;refine zD zq2 h (fun _ h=>?_) (fun _ h=>?_)
 ·refine zD Iff.rfl h (fun _ h=>?_) (fun _ h=>?_)
  ·obtain⟨q11,g,h⟩:=zC h;refine⟨_,_,_,_,_,_,⟨_,gH _ g⟩,?_⟩;cases h;exact⟨rfl,rfl⟩
  refine zD Iff.rfl h (fun _ h=>?_) (fun _ h=>?_)
  ·obtain⟨q12,g,h⟩:=zC h;refine⟨_,_,_,_,_,_,⟨_,gH _ g⟩,?_⟩;cases h;exact⟨rfl,rfl⟩
  exact z2R _ _ _ _ h
 rintro _ rfl;refine zD zq2 h (fun _ h=>?_) (fun _ h=>?_)
 ·refine zD Iff.rfl h (fun _ h=>?_) (fun _ h=>?_)
  ·obtain⟨q13,g,h⟩:=zC h;refine⟨_,_,_,_,_,_,⟨_,gH _ g⟩,?_⟩;cases h;exact⟨rfl,rfl⟩
  refine zD Iff.rfl h (fun _ h=>?_) (fun _ h=>?_)
  ·obtain⟨q14,g,h⟩:=zC h;refine⟨_,_,_,_,_,_,⟨_,gH _ g⟩,?_⟩;cases h;exact⟨rfl,rfl⟩
  exact z2R _ _ _ _ h
 exact z2R _ _ _ _ h
theorem z9V(op:Int)(ints:Bool)(a b o6 r:zA)(h:z3v op ints a b o6=some r):Ok (z1r (Trip Tryz.prog) [.d (tT r)] []) (kJ Tryz.f170 2) ⟨70,[(0,(nI op)),(4,.ref 4 1 0),(5,.ref 5 1 0),(6,.ref 6 1 0),(7,(nB ints))],[(4,1,some (.agg (tT a))),(5,1,some (.agg (tT b))),(6,1,some (.agg (tT o6)))],[],0⟩:=by
 unfold z3v at h;refine uZ 1000 (y6z _ _ _ _ op ints a b o6) ?_;obtain⟨q1,g,h⟩:=zC h;refine⟨_,⟨_,z2P _ _ _ g⟩,?_⟩;refine zD Iff.rfl h (fun _ h=>?_) (fun _ h=>?_)
 ·obtain⟨q2,g,h⟩:=zC h;refine⟨_,⟨_,z2P _ _ _ g⟩,?_⟩;exact z9W _ _ _ _ _ h
 exact z9W _ _ _ _ _ h
theorem y5A(op:Int)(a b r:zA)(h:z8D op a b=some r):Trip Tryz.prog 170 [(nI op),.d (tT a),.d (tT b)] [] [.d (tT r)] []:=by
 unfold z8D at h;refine zI 1000 (v2N _ _ _ _ op a b) ?_;obtain⟨q1,g,h⟩:=zC h;refine⟨_,⟨_,z2P _ _ _ g⟩,?_⟩;refine zD Iff.rfl h (fun _ h=>?_) (fun _ h=>?_)
 ·obtain⟨q2,g,h⟩:=zC h;refine⟨_,⟨_,z2P _ _ _ g⟩,?_⟩;exact z9V _ _ _ _ _ _ h
 exact z9V _ _ _ _ _ _ h
theorem v0c(m t:zA)(p:List zA)(r:zA×Int×Int)(h:z8j m t p=some r):Trip Tryz.prog 108 [.d (tT m),.d (tT t),.d (.sl (List.map zA.toD p))] [] [.d (tT r.1),(nI r.2.1),(nI r.2.2)] []:=by
 unfold z8j at h;refine zI 1000 (v0G _ _ _ _ m t p) ?_;rintro _ rfl;refine zD zq2 h (fun _ h=>?_) (fun _ h=>?_)
 ·obtain⟨x,hx,h⟩:=zC h;refine⟨zF (l:=p) (zA.sz),vZ hx,x.K,x.N,x.S,List.map zA.toD x.L,x.From,x.To,zL (zA.toD_eq x) hx,?_⟩;obtain⟨x1,hx,h⟩:=zC h;refine⟨zF (l:=p) (zA.sz),vZ hx,x1.K,x1.N,x1.S,List.map zA.toD x1.L,x1.From,x1.To,zL (zA.toD_eq x1) hx,?_⟩;obtain⟨q1,g,h⟩:=zC h;refine⟨_,_,_,_,_,_,⟨_,y5A _ _ _ _ g⟩,?_⟩;rintro _ rfl;refine zG zq2 h (fun _ h=>?_) (fun _ h=>?_)
  ·exact z8N _ _ _ _ _ h
  obtain⟨x2,hx,h⟩:=zC h;refine⟨zF (l:=p) (zA.sz),vZ hx,x2.K,x2.N,x2.S,List.map zA.toD x2.L,x2.From,x2.To,zL (zA.toD_eq x2) hx,?_⟩;obtain⟨x3,hx,h⟩:=zC h;refine⟨zF (l:=p) (zA.sz),vZ hx,x3.K,x3.N,x3.S,List.map zA.toD x3.L,x3.From,x3.To,zL (zA.toD_eq x3) hx,?_⟩;obtain⟨q2,g,h⟩:=zC h;refine⟨_,_,_,_,_,_,⟨_,y5A _ _ _ _ g⟩,?_⟩;cases h;exact⟨rfl,rfl⟩
 exact z8N _ _ _ _ _ h
theorem y6g(t:zA)(r:Bool)(h:z4T t=some r):Trip Tryz.prog 104 [.d (tT t)] [] [(nB r)] []:=by
 unfold z4T at h;refine zI 1000 (y6y _ _ _ _ t) ?_;refine zV (e':=(List.length t.L:Int)) (by first|rfl|rw[zq3]) ?_;rintro _ rfl;refine zD zq2 h (fun _ h=>?_) (fun _ h=>?_)
 ·rintro _ rfl;cases h;exact⟨rfl,rfl⟩
 rintro _ rfl;refine zD zq2 h (fun _ h=>?_) (fun _ h=>?_)
 ·rintro _ rfl;cases h;exact⟨rfl,rfl⟩
 rintro _ rfl;refine zD zq2 h (fun _ h=>?_) (fun _ h=>?_)
 ·rintro _ rfl;cases h;exact⟨rfl,rfl⟩
 rintro _ rfl;refine zD zq2 h (fun _ h=>?_) (fun _ h=>?_)
 ·rintro _ rfl;cases h;exact⟨rfl,rfl⟩
 rintro _ rfl;refine zD zq2 h (fun _ h=>?_) (fun _ h=>?_)
 ·rintro _ rfl;cases h;exact⟨rfl,rfl⟩
 rintro _ rfl;refine zD zq2 h (fun _ h=>?_) (fun _ h=>?_)
 ·rintro _ rfl;refine zD zq2 h (fun _ h=>?_) (fun _ h=>?_)
  ·rintro _ rfl;refine zD zq2 h (fun _ h=>?_) (fun _ h=>?_)
   ·cases h;exact⟨rfl,rfl⟩
   rintro _ rfl;cases h;exact⟨rfl,rfl⟩
  cases h;exact⟨rfl,rfl⟩
 rintro _ rfl;refine zD zq2 h (fun _ h=>?_) (fun _ h=>?_)
 ·rintro _ rfl;refine zD zq2 h (fun _ h=>?_) (fun _ h=>?_)
  ·rintro _ rfl;refine zD zq2 h (fun _ h=>?_) (fun _ h=>?_)
   ·cases h;exact⟨rfl,rfl⟩
   rintro _ rfl;cases h;exact⟨rfl,rfl⟩
  cases h;exact⟨rfl,rfl⟩
 rintro _ rfl;refine zD zq2 h (fun _ h=>?_) (fun _ h=>?_)
 ·rintro _ rfl;refine zD zq2 h (fun _ h=>?_) (fun _ h=>?_)
  ·rintro _ rfl;refine zD decide_eq_true_iff h (fun _ h=>?_) (fun _ h=>?_)
   ·rintro _ rfl;cases h;exact⟨rfl,rfl⟩
   cases h;exact⟨rfl,rfl⟩
  cases h;exact⟨rfl,rfl⟩
 rintro _ rfl;refine zD zq2 h (fun _ h=>?_) (fun _ h=>?_)
 ·rintro _ rfl;cases h;exact⟨rfl,rfl⟩
 rintro _ rfl;refine zD zq2 h (fun _ h=>?_) (fun _ h=>?_)
 ·rintro _ rfl;cases h;exact⟨rfl,rfl⟩
 rintro _ rfl;refine zD zq2 h (fun _ h=>?_) (fun _ h=>?_)
 ·rintro _ rfl;cases h;exact⟨rfl,rfl⟩
 rintro _ rfl;refine zD zq2 h (fun _ h=>?_) (fun _ h=>?_)
 ·rintro _ rfl;cases h;exact⟨rfl,rfl⟩
 rintro _ rfl;refine zD zq2 h (fun _ h=>?_) (fun _ h=>?_)
 ·cases h;exact⟨rfl,rfl⟩
 rintro _ rfl;cases h;exact⟨rfl,rfl⟩
def y7J:(i:z3N)→y2V i→Prop
 |.uB m locals t,r=>Trip Tryz.prog 53 [.d (tT m),.d (.sl (List.map zA.toD locals)),.d (tT t)] [] [.d (.agg [(.int .i64 r.Type_.K),(.int .i64 r.Type_.N),(.str r.Type_.S),(.sl (List.map zA.toD r.Type_.L)),(.int .i64 r.Type_.From),(.int .i64 r.Type_.To),(.int .i64 r.Form.K),(.int .i64 r.Form.N),(.str r.Form.S),(.sl (List.map zA.toD r.Form.L)),(.int .i64 r.Form.From),(.int .i64 r.Form.To),(.int .i64 r.At),(.int .i64 r.E)])] []
 |.vV locals types forms i m t o6,r=>Ok (y3w (Trip Tryz.prog) [.d (.agg [(.int .i64 r.Type_.K),(.int .i64 r.Type_.N),(.str r.Type_.S),(.sl (List.map zA.toD r.Type_.L)),(.int .i64 r.Type_.From),(.int .i64 r.Type_.To),(.int .i64 r.Form.K),(.int .i64 r.Form.N),(.str r.Form.S),(.sl (List.map zA.toD r.Form.L)),(.int .i64 r.Form.From),(.int .i64 r.Form.To),(.int .i64 r.At),(.int .i64 r.E)])] []) (kL Tryz.f53 10) ⟨96,[(1,.d (.sl (List.map zA.toD locals))),(3,.ref 3 1 0),(5,.ref 5 1 0),(6,.ref 6 1 0),(7,.right 45 1 6 (List.map zA.toD types)),(8,.right 46 1 6 (List.map zA.toD forms)),(9,(nI i))],[(3,1,some (.agg (tT m))),(5,1,some (.agg (tT t))),(6,1,some (.agg (.agg [(.int .i64 o6.Type_.K),(.int .i64 o6.Type_.N),(.str o6.Type_.S),(.sl (List.map zA.toD o6.Type_.L)),(.int .i64 o6.Type_.From),(.int .i64 o6.Type_.To),(.int .i64 o6.Form.K),(.int .i64 o6.Form.N),(.str o6.Form.S),(.sl (List.map zA.toD o6.Form.L)),(.int .i64 o6.Form.From),(.int .i64 o6.Form.To),(.int .i64 o6.At),(.int .i64 o6.E)]))),(45,1,some (.tok 6 (List.length (List.map zA.toD types)))),(46,1,some (.tok 6 (List.length (List.map zA.toD forms))))],[],0⟩
theorem v3H:∀i r,uQ z5s i=some r→y7J i r:=by
 refine zP y2B fun g ih i=>?_;cases i with
 |uB m locals t=>
  have v8K:=fun locals types forms i m t o6 r h=>ih (.vV locals types forms i m t o6) r h;intro r h;replace h:z5I (fun locals types forms i m t o6=>g (z3N.vV locals types forms i m t o6)) m locals t=some r:=h;unfold z5I at h;refine zI 1000 (v3T _ _ _ _ m locals t) ?_;obtain⟨q1,g,h⟩:=zC h;refine⟨_,⟨_,y6g _ _ g⟩,?_⟩;refine zG Iff.rfl h (fun _ h=>?_) (fun _ h=>?_)
  ·obtain⟨q3,g,h⟩:=zC h;refine⟨_,⟨_,y7Q _ _ _ _ g⟩,?_⟩;refine zG Iff.rfl h (fun _ h=>?_) (fun _ h=>?_)
   ·refine zV (e':=(List.length t.L:Int)) (by first|rfl|rw[zq3]) ?_;rintro _ rfl;refine zD zq2 h (fun _ h=>?_) (fun _ h=>?_)
    ·rintro _ rfl;refine zG zq2 h (fun _ h=>?_) (fun _ h=>?_)
     ·exact v8K _ _ _ _ _ _ _ _ h
     obtain⟨q5,g,h⟩:=zC h;refine⟨_,_,_,_,_,_,⟨_,y7O _ _ _ _ g⟩,?_⟩;cases h;exact⟨rfl,rfl⟩
    exact v8K _ _ _ _ _ _ _ _ h
   obtain⟨q4,g,h⟩:=zC h;refine⟨_,_,_,_,_,_,_,_,_,_,_,_,_,_,⟨_,y0N _ _ _ g⟩,?_⟩;cases h;exact⟨rfl,rfl⟩
  obtain⟨q2,g,h⟩:=zC h;refine⟨_,_,_,_,_,_,_,_,_,_,_,_,_,_,⟨_,y0N _ _ _ g⟩,?_⟩;cases h;exact⟨rfl,rfl⟩
 |vV locals types forms i m t o6=>
  have v8J:=fun m locals t r h=>ih (.uB m locals t) r h;have v8K:=fun locals types forms i m t o6 r h=>ih (.vV locals types forms i m t o6) r h;intro r h;replace h:z0J (fun m locals t=>g (z3N.uB m locals t)) (fun locals types forms i m t o6=>g (z3N.vV locals types forms i m t o6)) locals types forms i m t o6=some r:=h;unfold z0J at h;refine uZ 1000 (y6x _ _ _ _ locals types forms i m t o6) ?_;refine zV (e':=(List.length t.L:Int)) (by first|rfl|rw[zq3]) ?_;rintro _ rfl
  refine zD decide_eq_true_iff h (fun _ h=>?_) (fun _ h=>?_)
  ·obtain⟨x,hx,h⟩:=zC h;refine⟨zF (l:=t.L) (zA.sz),vZ hx,x.K,x.N,x.S,List.map zA.toD x.L,x.From,x.To,zL (zA.toD_eq x) hx,?_⟩;obtain⟨q1,g,h⟩:=zC h;refine⟨_,_,_,_,_,_,_,_,_,_,_,_,_,_,⟨_,v8J _ _ _ _ g⟩,?_⟩;rintro _ rfl;refine zG zq2 h (fun _ h=>?_) (fun _ h=>?_)
   ·refine⟨by simp[zE,D.cells],?_⟩;refine⟨by first|rfl|decide|simp only[zq3,List.length_cons,List.length_nil,List.map_append,List.length_append],?_⟩;obtain⟨hP,h⟩:=uP h;refine⟨by first|exact hP|simpa using hP,?_⟩;refine zV (e':=List.map zA.toD (types++[q1.Type_])) (by first|rfl|simp only[List.map_append,List.map_cons,List.map_nil,List.map_take,List.map_drop,List.map_set,List.map_replicate,zq3,zA.toD_eq]) ?_;refine⟨by simp[zE,D.cells],?_⟩
    refine⟨by first|rfl|decide|simp only[zq3,List.length_cons,List.length_nil,List.map_append,List.length_append],?_⟩;obtain⟨hP,h⟩:=uP h;refine⟨by first|exact hP|simpa using hP,?_⟩;refine zV (e':=List.map zA.toD (forms++[q1.Form])) (by first|rfl|simp only[List.map_append,List.map_cons,List.map_nil,List.map_take,List.map_drop,List.map_set,List.map_replicate,zq3,zA.toD_eq]) ?_;rintro _ rfl;exact v8K _ _ _ _ _ _ _ _ h
   cases h;exact⟨rfl,rfl⟩
  obtain⟨q2,g,h⟩:=zC h;refine⟨_,_,_,_,_,_,_,_,⟨_,v0c _ _ _ _ g⟩,?_⟩;rintro _ rfl;refine zG zq2 h (fun _ h=>?_) (fun _ h=>?_)
  ·cases h;exact⟨rfl,rfl⟩
  obtain⟨q3,g,h⟩:=zC h;refine⟨_,_,_,_,_,_,_,_,_,_,_,_,_,_,⟨_,y0N _ _ _ g⟩,?_⟩;cases h;exact⟨rfl,rfl⟩
theorem z2Q(m:zA)(locals:List zA)(t:zA)(r:Ref15Got)(h:uB m locals t=some r):y7J (.uB m locals t) r:=v3H (.uB m locals t) r h
def z7o:(i:jI)→z4A i→Prop
 |.yA t,r=>Trip Tryz.prog 181 [.d (tT t)] [] [.d (tT r)] []
 |.zX i t o2 K N S L From To,r=>Ok (z4K (Trip Tryz.prog) [.d (tT r)] []) (kL Tryz.f181 3) ⟨29,[(1,.ref 1 1 0),(2,.ref 2 1 0),(3,.hp 0 0),(4,(nI i))],[(1,1,some (.agg (tT t))),(2,1,some (.agg (tT o2)))],[(hM K N S (List.map zA.toD L) From To)],0⟩
theorem y2E:∀i r,uQ z0v i=some r→z7o i r:=by
 refine zP z4y fun g ih i=>?_;cases i with
 |yA t=>
  have v8F:=fun i t o2 K N S L From To r h=>ih (.zX i t o2 K N S L From To) r h;intro r h;replace h:z0x (fun i t o2 K N S L From To=>g (jI.zX i t o2 K N S L From To)) t=some r:=h;unfold z0x at h;refine zI 1000 (y3F _ _ _ _ t) ?_;exact v8F _ _ _ _ _ _ _ _ _ _ h
 |zX i t o2 K N S L From To=>
  have v8E:=fun t r h=>ih (.yA t) r h;have v8F:=fun i t o2 K N S L From To r h=>ih (.zX i t o2 K N S L From To) r h;intro r h;replace h:uS (fun t=>g (jI.yA t)) (fun i t o2 K N S L From To=>g (jI.zX i t o2 K N S L From To)) i t o2 K N S L From To=some r:=h;unfold uS at h;refine uZ 1000 (y0d _ _ _ _ i t o2 K N S L From To) ?_;refine zV (e':=(List.length t.L:Int)) (by first|rfl|rw[zq3]) ?_;rintro _ rfl;refine zD decide_eq_true_iff h (fun _ h=>?_) (fun _ h=>?_)
  ·obtain⟨x,hx,h⟩:=zC h;refine⟨zF (l:=t.L) (zA.sz),vZ hx,x.K,x.N,x.S,List.map zA.toD x.L,x.From,x.To,zL (zA.toD_eq x) hx,?_⟩;obtain⟨q1,g,h⟩:=zC h;refine⟨_,_,_,_,_,_,⟨_,v8E _ _ g⟩,?_⟩;refine⟨by simp[zE,D.cells],?_⟩;refine⟨by first|rfl|decide|simp only[zq3,List.length_cons,List.length_nil,List.map_append,List.length_append],?_⟩;obtain⟨hP,h⟩:=uP h;refine⟨by first|exact hP|simpa using hP,?_⟩
   refine zV (e':=List.map zA.toD (L++[q1])) (by first|rfl|simp only[List.map_append,List.map_cons,List.map_nil,List.map_take,List.map_drop,List.map_set,List.map_replicate,zq3,zA.toD_eq]) ?_;refine⟨by first|rfl|decide|simp only[zq3,List.length_cons,List.length_nil,List.map_append,List.length_append],?_⟩;rintro _ rfl;exact v8F _ _ _ _ _ _ _ _ _ _ h
  cases h;exact⟨rfl,rfl⟩
theorem gF(t r:zA)(h:yA t=some r):z7o (.yA t) r:=y2E (.yA t) r h
theorem vS(t:zA)(e:Int)(r:Ref16Got)(h:vB t e=some r):Trip Tryz.prog 180 [.d (tT t),(nI e)] [] [.d (.agg [(.int .i64 r.T_.K),(.int .i64 r.T_.N),(.str r.T_.S),(.sl (List.map zA.toD r.T_.L)),(.int .i64 r.T_.From),(.int .i64 r.T_.To),(.int .i64 r.At),(.int .i64 r.E)])] []:=by
 unfold vB at h;refine zI 1000 (v2O _ _ _ _ t e) ?_;cases h;exact⟨rfl,rfl⟩
def y2O:(i:z1a)→z9j i→Prop
 |.uI t,r=>Trip Tryz.prog 262 [.d (tT t)] [] [(nB r)] []
 |.vN i t,r=>Ok (z9v (Trip Tryz.prog) [(nB r)] []) (kL Tryz.f262 4) ⟨21,[(1,.ref 1 1 0),(3,(nI i))],[(1,1,some (.agg (tT t)))],[],0⟩
theorem y9S:∀i r,uQ z3i i=some r→y2O i r:=by
 refine zP z9c fun g ih i=>?_;cases i with
 |uI t=>
  have v8z:=fun i t r h=>ih (.vN i t) r h;intro r h;replace h:z3t (fun i t=>g (z1a.vN i t)) t=some r:=h;unfold z3t at h;refine zI 1000 (v0D _ _ _ _ t) ?_;rintro _ rfl;refine zD zq2 h (fun _ h=>?_) (fun _ h=>?_)
  ·cases h;exact⟨rfl,rfl⟩
  exact v8z _ _ _ h
 |vN i t=>
  have v8y:=fun t r h=>ih (.uI t) r h;have v8z:=fun i t r h=>ih (.vN i t) r h;intro r h;replace h:z0p (fun t=>g (z1a.uI t)) (fun i t=>g (z1a.vN i t)) i t=some r:=h;unfold z0p at h;refine uZ 1000 (y4Y _ _ _ _ i t) ?_;refine zV (e':=(List.length t.L:Int)) (by first|rfl|rw[zq3]) ?_;rintro _ rfl;refine zD decide_eq_true_iff h (fun _ h=>?_) (fun _ h=>?_)
  ·obtain⟨x,hx,h⟩:=zC h;refine⟨zF (l:=t.L) (zA.sz),vZ hx,x.K,x.N,x.S,List.map zA.toD x.L,x.From,x.To,zL (zA.toD_eq x) hx,?_⟩;obtain⟨q1,g,h⟩:=zC h;refine⟨_,⟨_,v8y _ _ g⟩,?_⟩;refine zG Iff.rfl h (fun _ h=>?_) (fun _ h=>?_)
   ·rintro _ rfl;exact v8z _ _ _ h
   cases h;exact⟨rfl,rfl⟩
  cases h;exact⟨rfl,rfl⟩
theorem v0a(t:zA)(r:Bool)(h:uI t=some r):y2O (.uI t) r:=y9S (.uI t) r h
theorem y7N(m t:zA)(r:Bool)(h:z5C m t=some r):Trip Tryz.prog 235 [.d (tT m),.d (tT t)] [] [(nB r)] []:=by
 unfold z5C at h;refine zI 1000 (y8E _ _ _ _ m t) ?_;obtain⟨q1,g,h⟩:=zC h;refine⟨_,⟨_,z0C _ _ _ g⟩,?_⟩;rintro _ rfl;refine zD decide_eq_true_iff h (fun _ h=>?_) (fun _ h=>?_)
 ·obtain⟨q2,g,h⟩:=zC h;refine⟨_,⟨_,v0a _ _ g⟩,?_⟩;cases h;exact⟨rfl,rfl⟩
 cases h;exact⟨rfl,rfl⟩
open Go.RowKit in
theorem v0Z{w:World}{M:Nat→Nat→Prop}{b o:Nat}{l:List zA}(hc:RelC w M b o (jF (l.map zA.toD))){k:Nat}(hk:k<l.length):
  ∃v3,w.cell? ⟨b,o+k*6,none⟩=some (.int .i64 l[k].K)∧w.cell? ⟨b,o+k*6+1,none⟩=some (.int .i64 l[k].N)∧w.cell? ⟨b,o+k*6+2,none⟩=some (.string ⟨⟨l[k].S⟩⟩) ∧
   w.cell? ⟨b,o+k*6+3,none⟩=some v3∧w.cell? ⟨b,o+k*6+4,none⟩=some (.int .i64 l[k].From)∧w.cell? ⟨b,o+k*6+5,none⟩=some (.int .i64 l[k].To)∧RelV w M v3 (.sl (l[k].L.map zA.toD)):=by
 have hs:zE 6 (l.map zA.toD):=zF (fun x=>by rw[zA.toD_eq];rfl);have h:=hc.elem hs (i:=k) (x:=l[k].toD) (by rw[List.getElem?_map,List.getElem?_eq_getElem hk];rfl);rw[zA.toD_eq]at h;cases h with
 |cons _ _ v0 _ _ c0 _ _ r0 h=>cases h with
 |cons _ _ v1 _ _ c1 _ _ r1 h=>cases h with
 |cons _ _ v2 _ _ c2 _ _ r2 h=>cases h with
 |cons _ _ v3 _ _ c3 _ _ r3 h=>cases h with
 |cons _ _ v4 _ _ c4 _ _ r4 h=>cases h with
 |cons _ _ v5 _ _ c5 _ _ r5 h=>
  cases r0;cases r1;cases r2;cases r4;cases r5;exact⟨v3,c0,c1,c2,c3,c4,c5,r3⟩
set_option maxHeartbeats 4000000 in
set_option maxRecDepth 1000000 in
open Go.RowKit Go.Shelf in
theorem y0M(t r:zA)(h:z1h t=some r):Trip Tryz.prog 181 [.d (tT t)] [] [.cells [(nI r.K),(nI r.N),(nS r.S),.wr 6 (List.map zA.toD r.L),(nI r.From),(nI r.To)]] []:=by
 have T_en:Nt.Enters Tryz.prog 181:=⟨_,Tryz.func181,by rfl,by rfl⟩;refine⟨T_en,fun w M0 κ vs B hv=>?_⟩;unfold z1h at h;obtain⟨hne,h⟩:=uP h;obtain⟨l,hgo0,h⟩:=zC h;have hr:=Option.some.inj h;subst hr;clear h;cases hv with
 |cons v _ vs _ g1 hv=>
  cases hv;cases g1 with
  |d _ _ g1=>
   cases g1 with
   |agg vs _ g1=>
    cases g1 with
    |cons v0 _ _ _ s0 h0 g1=>
    cases g1 with
    |cons v1 _ _ _ s1 h1 g1=>
    cases g1 with
    |cons v2 _ _ _ s2 h2 g1=>
    cases g1 with
    |cons v3 _ _ _ s3 h3 g1=>
    cases g1 with
    |cons v4 _ _ _ s4 h4 g1=>
    cases g1 with
    |cons v5 _ _ _ s5 h5 g1=>
    cases g1;cases h0;cases h1;cases h2;cases h4;cases h5;obtain⟨ad,cap,rfl,hopen⟩:=v4T h3;obtain⟨b,o,rfl,hc⟩:=hopen (fun e=>by have:=congrArg List.length e;rw[zq3]at this;simp at this;rw[this]at hne;simp at hne);rw[zq3]at *
    go_enter Tryz.func181,Tryz.ntmps181
    go_wp2_with fail
    have hb1:b<w.heap.size:=by
     have:=hc;cases hl:t.L with
     |nil=>rw[hl]at hne;simp at hne
     |cons x xs=>
      rw[hl]at this;rw[List.map_cons,jF]at this;rw[zA.toD_eq]at this;cases this with
      |cons _ _ _ _ _ h _ _ _ _=>exact z0U h
    obtain⟨i0,dd,hi,hz1,-⟩:=gZ (P:=Tryz.prog) (t:=24) (n:=6) (by kernel_rfl);have hz2:=z9I (P:=Tryz.prog) (t:=24) (n:=72) (by kernel_rfl) hi;have hz0:=z8E (P:=Tryz.prog) (t:=24) (z:=.agg #[.int .i64 0,.int .i64 0,.string ⟨#[]⟩,.slice none 0 0,.int .i64 0,.int .i64 0]) (by kernel_rfl) hi
    go_loopw [4] (fun i wr=>∃(k:Nat) (acc:List zA) (v:Go.Value) (us:List Go.Value),i=.int .i64 (k:Int)∧k≤t.L.length∧acc.length=k∧uX (t.L.drop k) acc=some l ∧
     wr.ownsRow (w.heap.size+3) 24 6 v k us∧(∀(j:Nat) u c,us[j]?=some u→(jF (acc.map zA.toD))[j]?=some c→u.oneCell'=true∧c.sc=true∧RelV wr (OM M0 w.heap.size v) u c) ∧
     wr.cell? ⟨w.heap.size,3,none⟩=some (.slice (some ⟨b,o,none⟩) t.L.length cap) ∧
     wr.heap[w.heap.size+1+1]?=some (.cells #[.int .i64 t.K,.int .i64 t.N,.string ⟨#[]⟩,v,.int .i64 0,.int .i64 0] 24) ∧
     wr.heap[w.heap.size+1]?=some (.cells #[.int .i64 0,.int .i64 0,.string ⟨#[]⟩,.slice none 0 0,.int .i64 0,.int .i64 0] 24) ∧
     Below w.heap.size w wr∧w.heap.size+3≤wr.heap.size) (fun i _=>t.L.length-(intOf i).toNat)
    case atStart=>
     refine⟨0,[],.slice none 0 0,[],rfl,Nat.zero_le _,rfl,hgo0,⟨rfl,.inl ⟨rfl,rfl⟩⟩,fun j u c h=>by simp at h,?_,?_,?_,?_,?_⟩
     ·rw[yB (v1y w _ _ _).1];rfl
     ·exact(v1y w _ _ _).2.2.1
     ·exact(v1y w _ _ _).2.1
     ·exact(((Below.refl _ w).alloc (Nat.le_refl _) _).alloc (by simp) _).alloc (by simp;omega) _
     ·exact Nat.le_of_eq (v1y w _ _ _).2.2.2.symm
    case round=>
     obtain⟨k,acc,v,us,rfl,hk,hka,hgo,hown,hus,c1,c2,c3,hbw,hsz⟩:=hrel;by_cases hlt:k<t.L.length
     ·obtain⟨v3,d0,d1,d2,d3,d4,d5,hv3⟩:=v0Z hc hlt;have up:∀j u,w.cell? ⟨b,j,none⟩=some u→wr.cell? ⟨b,j,none⟩=some u:=fun j u h=>(yN (hbw.block b hb1) _).trans h;have e0:=up _ _ d0;have e1:=up _ _ d1;have e2:=up _ _ d2;have e3:=up _ _ d3;have e4:=up _ _ d4;have e5:=up _ _ d5;have f3:wr.cell? ⟨w.heap.size+1+1,3,none⟩=some v:=by rw[yB c2];rfl
      have hOM:∀b' o',OM M0 w.heap.size v b' o'→b'<wr.heap.size:=fun b' o' h=>by
       rcases h with h|h|h
       ·have:=(B.m0 _ _ h).1;omega
       ·omega
       ·exact(hown.lt _ h).2
      have hvb:∀b',v.ownBlock=some b'→w.heap.size+3≤b':=fun b' h=>(hown.lt _ h).1;rw[List.drop_eq_getElem_cons hlt,uX]at hgo;obtain⟨q,g,hgo⟩:=zC hgo;obtain⟨hroom,hgo⟩:=uP hgo;have kw:Keeps w (Mut M0 κ) wr.drew (Mut (OM M0 w.heap.size v) kN):=⟨fun b' o' u hu _=>(yN (w':=wr.drew) (hbw.block b' (z4d hu)) o').trans hu,fun b' o' u hu hm=>v1S (fun h=>by
       have hb':=z4d hu;rcases h with h|h|h
       ·exact hm (.inl h)
       ·omega
       ·have:=hvb _ h;omega)⟩
      have hcall:Calls Tryz.prog 181 #[.agg #[.int .i64 t.L[k].K,.int .i64 t.L[k].N,.string ⟨⟨t.L[k].S⟩⟩,v3,.int .i64 t.L[k].From,.int .i64 t.L[k].To]] wr.drew (fun e w'=>∃vq,e=.returned vq ∧
        (∃vL,vq=.agg #[.int .i64 q.K,.int .i64 q.N,.string ⟨⟨q.S⟩⟩,vL,.int .i64 q.From,.int .i64 q.To]∧RelV w' (OM M0 w.heap.size v) vL (.sl (q.L.map zA.toD))∧Below wr.heap.size wr w')):=by
       have T:Trip Tryz.prog 181 [.d (.agg [.int .i64 t.L[k].K,.int .i64 t.L[k].N,.str t.L[k].S,.sl (List.map zA.toD t.L[k].L),.int .i64 t.L[k].From,.int .i64 t.L[k].To])] [] [.d (.agg [.int .i64 q.K,.int .i64 q.N,.str q.S,.sl (List.map zA.toD q.L),.int .i64 q.From,.int .i64 q.To])] []:=gF t.L[k] q g
       refine(T.2 wr.drew (OM M0 w.heap.size v) kN _ (y4s hOM) (.cons _ _ _ _ (.d _ _ (.agg _ _ (.cons _ _ _ _ rfl (.int _ _) (.cons _ _ _ _ rfl (.int _ _) (.cons _ _ _ _ rfl (.str _) (.cons _ _ _ _ rfl (hv3.keep kw) (.cons _ _ _ _ rfl (.int _ _) (.cons _ _ _ _ rfl (.int _ _) .nil)))))))) .nil)).mono ?_;rintro e W3 ⟨vq,κ3,rfl,A3,hres⟩;have h9:=hres.2;refine⟨vq,rfl,?_⟩;cases h9 with
       |d _ _ h9=>cases h9 with
        |agg vs _ h9=>
         cases h9 with
         |cons _ _ _ _ _ g0 h9=>
         cases h9 with
         |cons _ _ _ _ _ g1 h9=>
         cases h9 with
         |cons _ _ _ _ _ g2 h9=>
         cases h9 with
         |cons _ _ _ _ _ g3 h9=>
         cases h9 with
         |cons _ _ _ _ _ g4 h9=>
         cases h9 with
         |cons _ _ _ _ _ g5 h9=>
          cases h9;cases g0;cases g1;cases g2;cases g4;cases g5;exact⟨_,rfl,g3.keep ⟨fun _ _ _ h _=>h,fun _ _ _ _ hm h=>hm (.inl h)⟩,(v2t wr _).trans (y3l A3)⟩
      obtain⟨hr1,hr2⟩:=hroom;rw[hka]at hr1 hr2;have hk63:k+1≤maxLen:=by unfold maxLen;omega
      have hk64:(k+1)*72≤140737488355328:=hr1
      go_wp2_with fail
      go_region_law (first
       |(refine v4Y rfl 181 (.tmp 23) _ rfl T_en (by simp[Act.eval,Act.put];exact hcall) ?_
         rintro vq W3 ⟨vL,rfl,hL,hb3⟩;have hsz3:=hb3.size;have hown3:=y9v hown hb3;have f33:W3.cell? ⟨w.heap.size+1+1,3,none⟩=some v:=(hb3.cell (show w.heap.size+1+1<wr.heap.size by omega)).trans f3;obtain⟨news,hnews⟩:∃news,news=[.int .i64 q.K,.int .i64 q.N,.string ⟨⟨q.S⟩⟩,vL,.int .i64 q.From,.int .i64 q.To]:=⟨_,rfl⟩;have hb4:Below wr.heap.size wr (W3.alloc (.cells #[.int .i64 q.K,.int .i64 q.N,.string ⟨⟨q.S⟩⟩,vL,.int .i64 q.From,.int .i64 q.To] 24)):=hb3.alloc hsz3 _;have hown4:=y9v hown hb4
         have f34:(W3.alloc (.cells #[.int .i64 q.K,.int .i64 q.N,.string ⟨⟨q.S⟩⟩,vL,.int .i64 q.From,.int .i64 q.To] 24)).cell? ⟨w.heap.size+1+1,3,none⟩=some v:=(hb4.cell (show w.heap.size+1+1<wr.heap.size by omega)).trans f3
         have hba:w.heap.size+3≤(W3.alloc (.cells #[.int .i64 q.K,.int .i64 q.N,.string ⟨⟨q.S⟩⟩,vL,.int .i64 q.From,.int .i64 q.To] 24)).heap.size:=by rw[show(W3.alloc (.cells #[.int .i64 q.K,.int .i64 q.N,.string ⟨⟨q.S⟩⟩,vL,.int .i64 q.From,.int .i64 q.To] 24)).heap.size=W3.heap.size+1 from Array.size_push ..];omega
         have hvL1:vL.oneCell'=true:=hL.one rfl;have hnc:∀j u,news[j]?=some u→(W3.alloc (.cells #[.int .i64 q.K,.int .i64 q.N,.string ⟨⟨q.S⟩⟩,vL,.int .i64 q.From,.int .i64 q.To] 24)).cell? ((⟨W3.heap.size,0,none⟩:Addr).add j)=some u:=by
          intro j u hj;have e9:(W3.alloc (.cells #[.int .i64 q.K,.int .i64 q.N,.string ⟨⟨q.S⟩⟩,vL,.int .i64 q.From,.int .i64 q.To] 24)).heap[W3.heap.size]?=some (.cells #[.int .i64 q.K,.int .i64 q.N,.string ⟨⟨q.S⟩⟩,vL,.int .i64 q.From,.int .i64 q.To] 24):=Array.getElem?_push_size;rw[hnews]at hj
          match j,hj with
          |0,hj=>exact(yB e9).trans hj
          |1,hj=>exact(yB e9).trans hj
          |2,hj=>exact(yB e9).trans hj
          |3,hj=>exact(yB e9).trans hj
          |4,hj=>exact(yB e9).trans hj
          |5,hj=>exact(yB e9).trans hj
         have hn1:∀u∈news,u.oneCell'=true:=by
          rw[hnews];intro u hu;simp only[List.mem_cons,List.not_mem_nil,or_false]at hu;rcases hu with rfl|rfl|rfl|rfl|rfl|rfl<;>first|rfl|exact hvL1)
       |(refine y5r rfl (.tmp 18) (.tmp 25) 22 rfl (w.heap.size+3) 24 i0 _ 6 72 Tryz.underlying22 hi hz0 hz1 hz2 rfl (by decide) v k us (by simp[Act.eval,Act.put]) ‹_› ⟨‹World›.heap.size,0,none⟩ 1 1 ‹List Go.Value› (by simp[Act.eval,Act.put]) (by simp[*]) ‹_› ‹_› hk63 hk64 ‹_› ?_
         intro v9 W9 hown9 hgrow9 hnil9;have g2:W9.heap[w.heap.size+1+1]?=some (.cells #[.int .i64 t.K,.int .i64 t.N,.string ⟨#[]⟩,v,.int .i64 0,.int .i64 0] 24):=by
          rw[hgrow9.block _ (by omega) (fun e=>by have:=hvb _ e.symm;omega),‹Below wr.heap.size wr (World.alloc _ _)›.block _ (by omega)];exact c2
         have f93:W9.cell? ⟨w.heap.size+1+1,3,none⟩=some v:=by rw[yB g2];rfl
         have f94:W9.frozen? ⟨w.heap.size+1+1,3,none⟩=false:=z5n g2;rcases hown9.2 with⟨-,h0⟩|⟨g9,cap9,cur9,rfl,hg90,hg91,hg92,hg93,hg94,hg95⟩
         ·exact absurd h0 (by omega)))
      all_goals
       have hAs:W3.heap.size≤W3.heap.size+1:=Nat.le_succ _;have hba9:=‹w.heap.size+3≤(World.alloc _ _).heap.size›;have hb4:=‹Below wr.heap.size wr (World.alloc _ _)›;have hf:∀j,j≠w.heap.size+1+1→(W9.setCell ⟨w.heap.size+1+1,3,none⟩ (.slice (some ⟨g9,0,none⟩) (k+1) cap9)).heap[j]?=W9.heap[j]?:=fun j hj=>heap_setCell_other _ _ _ _ hj;have h93:∀j,j<W3.heap.size→v.ownBlock≠some j→W9.heap[j]?=W3.heap[j]?:=fun j hj hne=>by
        rw[hgrow9.block j (by rw[show(World.alloc W3 _).heap.size=W3.heap.size+1 from Array.size_push ..];omega) (fun e=>hne e.symm)];exact(show(W3.heap.push _)[j]?=_ by rw[Array.getElem?_push_lt hj,←Array.getElem?_eq_getElem])
       have h9r:∀j,j<wr.heap.size→v.ownBlock≠some j→W9.heap[j]?=wr.heap[j]?:=fun j hj hne=>by
        rw[h93 j (by omega) hne];exact hb3.block j hj
       have hg9n:g9≠w.heap.size+1+1:=by omega
       have hsame9:=heap_setCell_same W9 (w.heap.size+1+1) 3 _ 24 (.slice (some ⟨g9,0,none⟩) (k+1) cap9) g2;have hlt9:∀j,j<W9.heap.size→j<(W9.setCell ⟨w.heap.size+1+1,3,none⟩ (.slice (some ⟨g9,0,none⟩) (k+1) cap9)).heap.size:=fun j hj=>by simpa [World.setCell]using hj
       have hs9:W3.heap.size+1≤W9.heap.size:=by have:=hgrow9.size;rw[show(World.alloc W3 _).heap.size=W3.heap.size+1 from Array.size_push ..]at this;exact this
       have K3:Keeps W3 (OM M0 w.heap.size v) (W9.setCell ⟨w.heap.size+1+1,3,none⟩ (.slice (some ⟨g9,0,none⟩) (k+1) cap9)) (OM M0 w.heap.size (.slice (some ⟨g9,0,none⟩) (k+1) cap9)):=by
        refine⟨fun b' o' u hu hm=>?_,fun b' o' u hu hm hm'=>?_⟩
        ·have hb':=z4d hu;have n1:b'≠w.heap.size+1+1:=fun e=>hm (.inr (.inl (by omega)));have n2:v.ownBlock≠some b':=fun e=>hm (.inr (.inr e));rw[yN (hf b' n1),yN (h93 b' hb' n2)];exact hu
        ·have hb':=z4d hu;rcases hm' with h|h|h
         ·exact hm (.inl h)
         ·exact hm (.inr (.inl h))
         ·rcases hnil9 with h9|h9
          ·exact hm (.inr (.inr (h9.symm.trans h)))
          ·rw[h9]at h;rw[show(World.alloc W3 _).heap.size=W3.heap.size+1 from Array.size_push ..]at h;injection h with h;omega
       have KK:Keeps wr (OM M0 w.heap.size v) (W9.setCell ⟨w.heap.size+1+1,3,none⟩ (.slice (some ⟨g9,0,none⟩) (k+1) cap9)) (OM M0 w.heap.size (.slice (some ⟨g9,0,none⟩) (k+1) cap9)):=
        Keeps.trans ⟨fun b' o' u hu _=>by rw[yN (hb3.block b' (z4d hu))];exact hu,fun _ _ _ _ h=>h⟩ K3
       have hul:us.length=(jF (acc.map zA.toD)).length:=by
        rw[hown.1,z0k (n:=6) (zF fun x=>zA.sz x),zq3,hka]
       have hbel:Below w.heap.size w (W9.setCell ⟨w.heap.size+1+1,3,none⟩ (.slice (some ⟨g9,0,none⟩) (k+1) cap9)):=
        (((hbw.trans (hb4.mono (by omega))).grown hgrow9 (by omega) (fun j hj=>by have:=hvb j hj;omega)).setCell (by show w.heap.size≤w.heap.size+1+1;omega) _)
       have hus9:∀(j:Nat) u c,(us++[.int .i64 q.K,.int .i64 q.N,.string ⟨⟨q.S⟩⟩,vL,.int .i64 q.From,.int .i64 q.To])[j]?=some u→(jF ((acc++[q]).map zA.toD))[j]?=some c→u.oneCell'=true∧c.sc=true∧RelV (W9.setCell ⟨w.heap.size+1+1,3,none⟩ (.slice (some ⟨g9,0,none⟩) (k+1) cap9)) (OM M0 w.heap.size (.slice (some ⟨g9,0,none⟩) (k+1) cap9)) u c:=by
        intro j u c hu hcc;rw[List.map_append,z2b]at hcc;by_cases hj:j<us.length
        ·rw[List.getElem?_append_left hj]at hu;rw[List.getElem?_append_left (by omega)]at hcc;obtain⟨z1,z2,z3⟩:=hus j u c hu hcc;exact⟨z1,z2,z3.keep KK⟩
        ·rw[List.getElem?_append_right (by omega)]at hu;rw[List.getElem?_append_right (by omega),←hul]at hcc;have e9:jF ([q].map zA.toD)=[.int .i64 q.K,.int .i64 q.N,.str q.S,.sl (q.L.map zA.toD),.int .i64 q.From,.int .i64 q.To]:=by
          rw[List.map_cons,List.map_nil,jF,jF,zA.toD_eq];rfl
         rw[e9]at hcc
         match j-us.length,hu,hcc with
         |0,hu,hcc=>cases hu;cases hcc;exact⟨rfl,rfl,.int _ _⟩
         |1,hu,hcc=>cases hu;cases hcc;exact⟨rfl,rfl,.int _ _⟩
         |2,hu,hcc=>cases hu;cases hcc;exact⟨rfl,rfl,.str _⟩
         |3,hu,hcc=>cases hu;cases hcc;exact⟨hvL1,rfl,hL.keep K3⟩
         |4,hu,hcc=>cases hu;cases hcc;exact⟨rfl,rfl,.int _ _⟩
         |5,hu,hcc=>cases hu;cases hcc;exact⟨rfl,rfl,.int _ _⟩
         |n+6,hu,hcc=>simp at hu
       subst hnews
       go_wp2_with fail
       go_roundw
       case rel=>
        refine⟨k+1,acc++[q],_,_,by go_num,hlt,by simp[hka],hgo,⟨hown9.1,.inr ⟨g9,cap9,cur9,rfl,hg90,by rw[hf g9 hg9n];exact hg91,hg92,hg93,hg94,hg95⟩⟩,hus9,?_,hsame9,?_,hbel,?_⟩
        ·exact(yN ((hf _ (by omega)).trans (h9r _ (by omega) (fun e=>by have:=hvb _ e;omega))) 3).trans c1
        ·rw[hf _ (by omega),h9r _ (by omega) (fun e=>by have:=hvb _ e;omega)];exact c3
        ·have:=hlt9 (w.heap.size+2) (by omega);omega
       case measure=>simp[intOf];omega
     ·have hke:k=t.L.length:=by omega
      subst hke;rw[List.drop_eq_nil_of_le (Nat.le_refl _),uX]at hgo;have hl:=Option.some.inj hgo;subst hl;rcases hown.2 with⟨-,h0⟩|⟨g,cp,cur,rfl,hg0,hg1,hg2,hg3,hg4,hg5⟩
      ·exact absurd h0 (by omega)
      have k0:wr.cell? ⟨w.heap.size+1+1,0,none⟩=some (.int .i64 t.K):=by rw[yB c2];rfl
      have k1:wr.cell? ⟨w.heap.size+1+1,1,none⟩=some (.int .i64 t.N):=by rw[yB c2];rfl
      have k2:wr.cell? ⟨w.heap.size+1+1,2,none⟩=some (.string ⟨#[]⟩):=by rw[yB c2];rfl
      have k3:wr.cell? ⟨w.heap.size+1+1,3,none⟩=some (.slice (some ⟨g,0,none⟩) t.L.length cp):=by rw[yB c2];rfl
      have k4:wr.cell? ⟨w.heap.size+1+1,4,none⟩=some (.int .i64 0):=by rw[yB c2];rfl
      have k5:wr.cell? ⟨w.heap.size+1+1,5,none⟩=some (.int .i64 0):=by rw[yB c2];rfl
      have m0:wr.cell? ⟨w.heap.size+1,0,none⟩=some (.int .i64 0):=by rw[yB c3];rfl
      have m1:wr.cell? ⟨w.heap.size+1,1,none⟩=some (.int .i64 0):=by rw[yB c3];rfl
      have m2:wr.cell? ⟨w.heap.size+1,2,none⟩=some (.string ⟨#[]⟩):=by rw[yB c3];rfl
      have m3:wr.cell? ⟨w.heap.size+1,3,none⟩=some (.slice none 0 0):=by rw[yB c3];rfl
      have m4:wr.cell? ⟨w.heap.size+1,4,none⟩=some (.int .i64 0):=by rw[yB c3];rfl
      have m5:wr.cell? ⟨w.heap.size+1,5,none⟩=some (.int .i64 0):=by rw[yB c3];rfl
      have z:∀i,wr.frozen? ⟨w.heap.size+1,i,none⟩=false:=fun i=>z5n c3
      go_wp2_with fail
      obtain⟨Wz,hWz⟩:∃Wz,Wz=((((((wr.setCell ⟨w.heap.size+1,0,none⟩ (.int .i64 t.K)).setCell ⟨w.heap.size+1,1,none⟩ (.int .i64 t.N)).setCell ⟨w.heap.size+1,2,none⟩ (.string ⟨#[]⟩)).setCell ⟨w.heap.size+1,3,none⟩ (.slice (some ⟨g,0,none⟩) t.L.length cp)).setCell ⟨w.heap.size+1,4,none⟩ (.int .i64 0)).setCell ⟨w.heap.size+1,5,none⟩ (.int .i64 0)):=⟨_,rfl⟩
      have hz1:Wz.heap[w.heap.size+1]?=some (.cells #[.int .i64 t.K,.int .i64 t.N,.string ⟨#[]⟩,.slice (some ⟨g,0,none⟩) t.L.length cp,.int .i64 0,.int .i64 0] 24):=by
       rw[hWz];exact heap_setCell_same _ _ 5 _ 24 _ (heap_setCell_same _ _ 4 _ 24 _ (heap_setCell_same _ _ 3 _ 24 _ (heap_setCell_same _ _ 2 _ 24 _ (heap_setCell_same _ _ 1 _ 24 _ (heap_setCell_same _ _ 0 _ 24 _ c3)))))
      have hz2:∀j,j≠w.heap.size+1→Wz.heap[j]?=wr.heap[j]?:=fun j hj=>by
       rw[hWz];rw[heap_setCell_other _ _ _ _ hj,heap_setCell_other _ _ _ _ hj,heap_setCell_other _ _ _ _ hj,heap_setCell_other _ _ _ _ hj,heap_setCell_other _ _ _ _ hj,heap_setCell_other _ _ _ _ hj]
      have hz3:Below w.heap.size w Wz:=by
       rw[hWz];have hle:w.heap.size≤w.heap.size+1:=Nat.le_succ _;exact(((((hbw.setCell hle _).setCell hle _).setCell hle _).setCell hle _).setCell hle _).setCell hle _
      have hz4:g<Wz.heap.size:=by
       have:=hz2 g (by omega);rw[hg1]at this;exact(Array.getElem?_eq_some_iff.1 this).1
      rw[←hWz];have y0:Wz.cell? ⟨w.heap.size+1,0,none⟩=some (.int .i64 t.K):=by rw[yB hz1];rfl
      have y1:Wz.cell? ⟨w.heap.size+1,1,none⟩=some (.int .i64 t.N):=by rw[yB hz1];rfl
      have y2:Wz.cell? ⟨w.heap.size+1,2,none⟩=some (.string ⟨#[]⟩):=by rw[yB hz1];rfl
      have y3:Wz.cell? ⟨w.heap.size+1,3,none⟩=some (.slice (some ⟨g,0,none⟩) t.L.length cp):=by rw[yB hz1];rfl
      have y4:Wz.cell? ⟨w.heap.size+1,4,none⟩=some (.int .i64 0):=by rw[yB hz1];rfl
      have y5:Wz.cell? ⟨w.heap.size+1,5,none⟩=some (.int .i64 0):=by rw[yB hz1];rfl
      clear hWz;refine bodyPost_ret (results_cell_row (p:=2) (ty:=24) rfl _ _ (w.heap.size+1) 24 _ (0,0) _ rfl hz1 Tryz.underlying24 rfl (by kernel_rfl)) rfl ?_;have A0:=z9q B hz3;have hul:us.length=(jF (acc.map zA.toD)).length:=by
       rw[hown.1,z0k (n:=6) (zF fun x=>zA.sz x),zq3,hka]
      have kz:Keeps wr (OM M0 w.heap.size (.slice (some ⟨g,0,none⟩) t.L.length cp)) Wz (Mut M0 (upK kN (.ar 0) (some (g,0)))):=by
       refine⟨fun b' o' u hu hm=>?_,fun b' o' u hu hm hm'=>?_⟩
       ·have n1:b'≠w.heap.size+1:=fun e=>hm (.inr (.inl (by omega)));rw[yN (hz2 b' n1)];exact hu
       ·rcases hm' with h|⟨key,lo,h,-⟩
        ·exact hm (.inl h)
        ·by_cases e:key=.ar 0
         ·subst e;rw[gX]at h;injection h with h;injection h with h;subst h;exact hm (.inr (.inr rfl))
         ·rw[vQ _ _ e]at h;cases h
      refine⟨_,rfl,upK kN (.ar 0) (some (g,0)),?_,?_⟩
      ·have key1:∀key b' lo,upK kN (.ar 0) (some (g,0)) key=some (b',lo)→key=.ar 0∧b'=g:=fun key b' lo h=>by
        by_cases e:key=.ar 0
        ·subst e;rw[gX]at h;injection h with h;injection h with h _;exact⟨rfl,h.symm⟩
        ·rw[vQ _ _ e]at h;cases h
       exact {kept:=A0.kept
              k0:=⟨A0.k0.cell,fun b' o' u hu hm hm'=>by
               rcases hm' with h|⟨key,lo,h,-⟩
               ·exact hm (.inl h)
               ·have:=(key1 _ _ _ h).2;have:=z4d hu;omega⟩
              g0:=A0.g0
              kb:=fun key b' lo h=>by obtain⟨-,rfl⟩:=key1 _ _ _ h;exact⟨hz4,.inl (by omega)⟩
              ki:=fun k1 k2 b' l1 l2 h1 h2=>by rw[(key1 _ _ _ h1).1,(key1 _ _ _ h2).1]
              hn:=fun id r h=>by have:=(key1 _ r.1 r.2 h).1;cases this
              hp:=fun id b' h=>by have:=B.hn _ _ h;simp at this
              heap:=fun id cs hcs=>by simp at hcs}
      ·refine⟨_,rfl,rfl,fun i u c hu hcc=>?_⟩
       match i,hu,hcc with
       |0,hu,hcc=>cases hu;cases hcc;exact .inl ⟨_,rfl,.int _ _⟩
       |1,hu,hcc=>cases hu;cases hcc;exact .inl ⟨_,rfl,.int _ _⟩
       |2,hu,hcc=>cases hu;cases hcc;exact .inl ⟨_,rfl,.str _⟩
       |3,hu,hcc=>
        cases hu;cases hcc;refine .inr ⟨6,_,rfl,zF (fun x=>zA.sz x),g,cp,by rw[zq3,hka],by rw[zq3,hka];exact hg2,gX _ _ _,fun j c hc'=>?_⟩;have hj:j<us.length:=by rw[hul];exact(List.getElem?_eq_some_iff.1 hc').1
        have hu':us[j]?=some us[j]:=List.getElem?_eq_getElem hj;obtain⟨z1,z2,z3⟩:=hus j _ c hu' hc';have hg':Wz.heap[g]?=some (.cells cur 24 (0,0)):=(hz2 g (by omega)).trans hg1;have hcur:cur[j]?=some us[j]:=by
         have e1:(cur.toList.take (t.L.length*6))[j]?=us[j]?:=by rw[hg5]
         rw[List.getElem?_take_of_lt (by rw[←hown.1];exact hj)]at e1;rw[←Array.getElem?_toList,e1,hu']
        exact⟨us[j],(yB hg').trans hcur,z1,z2,z3.keep kz,z5n hg'⟩
       |4,hu,hcc=>cases hu;cases hcc;exact .inl ⟨_,rfl,.int _ _⟩
       |5,hu,hcc=>cases hu;cases hcc;exact .inl ⟨_,rfl,.int _ _⟩
       |n+6,hu,hcc=>simp at hcc
theorem y6h(m:zA)(locals:List zA)(t:zA)(r:List zA)(h:z0M m locals t=some r):Trip Tryz.prog 240 [.d (tT m),.d (.sl (List.map zA.toD locals)),.d (tT t)] [] [.d (.sl (List.map zA.toD r))] []:=by
 unfold z0M at h;refine zI 1000 (y6D _ _ _ _ m locals t) ?_;rintro _ rfl;refine zD zq2 h (fun hc206 h=>?_) (fun hc206 h=>?_)
 ·refine zV (e':=(List.length t.L:Int)) (by first|rfl|rw[zq3]) ?_;rintro _ rfl;refine zD zq2 h (fun _ h=>?_) (fun _ h=>?_)
  ·refine⟨zF (l:=locals) (zA.sz),?_⟩;refine⟨by first|rfl|decide|simp only[zq3,List.length_cons,List.length_nil,List.map_append,List.length_append],?_⟩;obtain⟨hP,h⟩:=uP h;refine⟨by first|exact hP|simpa using hP,?_⟩;refine zV (e':=List.map zA.toD (([]:List zA)++locals)) (by first|rfl|simp only[List.map_append,List.map_cons,List.map_nil,List.map_take,List.map_drop,List.map_set,List.map_replicate,zq3,zA.toD_eq]) ?_;obtain⟨x,hx,h⟩:=zC h
   refine⟨zF (l:=t.L) (zA.sz),vZ hx,x.K,x.N,x.S,List.map zA.toD x.L,x.From,x.To,zL (zA.toD_eq x) hx,?_⟩;obtain⟨q1,g,h⟩:=zC h;refine⟨_,_,_,_,_,_,_,_,_,_,_,_,_,_,⟨_,z2Q _ _ _ _ g⟩,?_⟩;refine⟨by simp[zE,D.cells],?_⟩;refine⟨by first|rfl|decide|simp only[zq3,List.length_cons,List.length_nil,List.map_append,List.length_append],?_⟩;obtain⟨hP,h⟩:=uP h;refine⟨by first|exact hP|simpa using hP,?_⟩
   refine zV (e':=List.map zA.toD ((([]:List zA)++locals)++[q1.Type_])) (by first|rfl|simp only[List.map_append,List.map_cons,List.map_nil,List.map_take,List.map_drop,List.map_set,List.map_replicate,zq3,zA.toD_eq]) ?_;cases h;exact⟨rfl,rfl⟩
  rintro _ rfl;refine jE zq2 (fun e=>absurd (hc206.symm.trans e) (by decide)) ?_;cases h;exact⟨rfl,rfl⟩
 rintro _ rfl;refine zD zq2 h (fun _ h=>?_) (fun _ h=>?_)
 ·refine zV (e':=(List.length t.L:Int)) (by first|rfl|rw[zq3]) ?_;rintro _ rfl;refine zD zq2 h (fun _ h=>?_) (fun _ h=>?_)
  ·refine⟨zF (l:=locals) (zA.sz),?_⟩;refine⟨by first|rfl|decide|simp only[zq3,List.length_cons,List.length_nil,List.map_append,List.length_append],?_⟩;obtain⟨hP,h⟩:=uP h;refine⟨by first|exact hP|simpa using hP,?_⟩;refine zV (e':=List.map zA.toD (([]:List zA)++locals)) (by first|rfl|simp only[List.map_append,List.map_cons,List.map_nil,List.map_take,List.map_drop,List.map_set,List.map_replicate,zq3,zA.toD_eq]) ?_;obtain⟨x2,hx,h⟩:=zC h
   refine⟨zF (l:=t.L) (zA.sz),vZ hx,x2.K,x2.N,x2.S,List.map zA.toD x2.L,x2.From,x2.To,zL (zA.toD_eq x2) hx,?_⟩;refine⟨by simp[zE,D.cells],?_⟩;refine⟨by first|rfl|decide|simp only[zq3,List.length_cons,List.length_nil,List.map_append,List.length_append],?_⟩;obtain⟨hP,h⟩:=uP h;refine⟨by first|exact hP|simpa using hP,?_⟩
   refine zV (e':=List.map zA.toD ((([]:List zA)++locals)++[x2])) (by first|rfl|simp only[List.map_append,List.map_cons,List.map_nil,List.map_take,List.map_drop,List.map_set,List.map_replicate,zq3,zA.toD_eq]) ?_;cases h;exact⟨rfl,rfl⟩
  cases h;exact⟨rfl,rfl⟩
 cases h;exact⟨rfl,rfl⟩
theorem y1A(k:Int)(r:Int×Int)(h:uL k=some r):Trip Tryz.prog 239 [(nI k)] [] [(nI r.1),(nI r.2)] []:=by
 unfold uL at h;refine zI 1000 (y8K _ _ _ _ k) ?_;rintro _ rfl;refine zD zq2 h (fun _ h=>?_) (fun _ h=>?_)
 ·cases h;exact⟨rfl,rfl⟩
 rintro _ rfl;refine zD zq2 h (fun _ h=>?_) (fun _ h=>?_)
 ·cases h;exact⟨rfl,rfl⟩
 rintro _ rfl;refine zD zq2 h (fun _ h=>?_) (fun _ h=>?_)
 ·cases h;exact⟨rfl,rfl⟩
 rintro _ rfl;refine zD zq2 h (fun _ h=>?_) (fun _ h=>?_)
 ·cases h;exact⟨rfl,rfl⟩
 rintro _ rfl;refine zD zq2 h (fun _ h=>?_) (fun _ h=>?_)
 ·cases h;exact⟨rfl,rfl⟩
 rintro _ rfl;refine zD zq2 h (fun _ h=>?_) (fun _ h=>?_)
 ·cases h;exact⟨rfl,rfl⟩
 rintro _ rfl;refine zD zq2 h (fun _ h=>?_) (fun _ h=>?_)
 ·cases h;exact⟨rfl,rfl⟩
 rintro _ rfl;refine zD zq2 h (fun _ h=>?_) (fun _ h=>?_)
 ·cases h;exact⟨rfl,rfl⟩
 rintro _ rfl;refine zD zq2 h (fun _ h=>?_) (fun _ h=>?_)
 ·cases h;exact⟨rfl,rfl⟩
 cases h;exact⟨rfl,rfl⟩
def z7q:(i:z2K)→z4C i→Prop
 |.yK n i t,r=>Ok (z7P (Trip Tryz.prog) [(nB r)] []) (kL Tryz.f191 7) ⟨35,[(1,.ref 1 1 0),(3,(nI n)),(5,(nI i))],[(1,1,some (.agg (tT t)))],[],0⟩
theorem y2G:∀i r,uQ z2D i=some r→z7q i r:=by
 refine zP z7h fun g ih i=>?_;cases i with
 |yK n i t=>
  have v8T:=fun n i t r h=>ih (.yK n i t) r h;intro r h;replace h:gP (fun n i t=>g (z2K.yK n i t)) n i t=some r:=h;unfold gP at h;refine uZ 1000 (y3M _ _ _ _ n i t) ?_;rintro _ rfl;refine zD decide_eq_true_iff h (fun _ h=>?_) (fun _ h=>?_)
  ·obtain⟨x,hx,h⟩:=zC h;refine⟨zF (l:=t.L) (zA.sz),vZ hx,x.K,x.N,x.S,List.map zA.toD x.L,x.From,x.To,zL (zA.toD_eq x) hx,?_⟩;rintro _ rfl;refine zG zq2 h (fun _ h=>?_) (fun _ h=>?_)
   ·rintro _ rfl;exact v8T _ _ _ _ h
   cases h;exact⟨rfl,rfl⟩
  cases h;exact⟨rfl,rfl⟩
theorem y3b(n i:Int)(t:zA)(r:Bool)(h:yK n i t=some r):z7q (.yK n i t) r:=y2G (.yK n i t) r h
theorem y7T(t:zA)(r:Bool)(h:z5M t=some r):Trip Tryz.prog 191 [.d (tT t)] [] [(nB r)] []:=by
 unfold z5M at h;refine zI 1000 (y8M _ _ _ _ t) ?_;rintro _ rfl;refine zD zq2 h (fun _ h=>?_) (fun _ h=>?_)
 ·cases h;exact⟨rfl,rfl⟩
 obtain⟨q1,g,h⟩:=zC h;refine⟨_,_,⟨_,y1A _ _ g⟩,?_⟩;refine zV (e':=(List.length t.L:Int)) (by first|rfl|rw[zq3]) ?_;rintro _ rfl;refine zG zq2 h (fun _ h=>?_) (fun _ h=>?_)
 ·rintro _ rfl;exact y3b _ _ _ _ h
 cases h;exact⟨rfl,rfl⟩
def y2P:(i:z5Z)→z9k i→Prop
 |.wQ t,r=>Trip Tryz.prog 194 [.d (tT t)] [] [.d (tT r)] []
theorem y9T:∀i r,uQ z5Y i=some r→y2P i r:=by
 refine zP y2A fun g ih i=>?_;cases i with
 |wQ t=>
  have v8G:=fun t r h=>ih (.wQ t) r h;intro r h;replace h:z1i (fun t=>g (z5Z.wQ t)) t=some r:=h;unfold z1i at h;refine zI 1000 (v0E _ _ _ _ t) ?_;rintro _ rfl;refine zD zq2 h (fun _ h=>?_) (fun _ h=>?_)
  ·refine zV (e':=(List.length t.L:Int)) (by first|rfl|rw[zq3]) ?_;rintro _ rfl;refine zD decide_eq_true_iff h (fun _ h=>?_) (fun _ h=>?_)
   ·obtain⟨x,hx,h⟩:=zC h;refine⟨zF (l:=t.L) (zA.sz),vZ hx,x.K,x.N,x.S,List.map zA.toD x.L,x.From,x.To,zL (zA.toD_eq x) hx,?_⟩;obtain⟨q1,g,h⟩:=zC h;refine⟨_,_,_,_,_,_,⟨_,v8G _ _ g⟩,?_⟩;cases h;exact⟨rfl,rfl⟩
   cases h;exact⟨rfl,rfl⟩
  rintro _ rfl;refine zD zq2 h (fun _ h=>?_) (fun _ h=>?_)
  ·refine zV (e':=(List.length t.L:Int)) (by first|rfl|rw[zq3]) ?_;rintro _ rfl;refine zD decide_eq_true_iff h (fun _ h=>?_) (fun _ h=>?_)
   ·obtain⟨x1,hx,h⟩:=zC h;refine⟨zF (l:=t.L) (zA.sz),vZ hx,x1.K,x1.N,x1.S,List.map zA.toD x1.L,x1.From,x1.To,zL (zA.toD_eq x1) hx,?_⟩;obtain⟨q2,g,h⟩:=zC h;refine⟨_,_,_,_,_,_,⟨_,v8G _ _ g⟩,?_⟩;cases h;exact⟨rfl,rfl⟩
   cases h;exact⟨rfl,rfl⟩
  cases h;exact⟨rfl,rfl⟩
theorem v0b(t r:zA)(h:wQ t=some r):y2P (.wQ t) r:=y9T (.wQ t) r h
theorem z1Z(x:Ref15Got)(r:Ref16Got)(h:z0d x=some r):Trip Tryz.prog 242 [.d (.agg [(.int .i64 x.Type_.K),(.int .i64 x.Type_.N),(.str x.Type_.S),(.sl (List.map zA.toD x.Type_.L)),(.int .i64 x.Type_.From),(.int .i64 x.Type_.To),(.int .i64 x.Form.K),(.int .i64 x.Form.N),(.str x.Form.S),(.sl (List.map zA.toD x.Form.L)),(.int .i64 x.Form.From),(.int .i64 x.Form.To),(.int .i64 x.At),(.int .i64 x.E)])] [] [.d (.agg [(.int .i64 r.T_.K),(.int .i64 r.T_.N),(.str r.T_.S),(.sl (List.map zA.toD r.T_.L)),(.int .i64 r.T_.From),(.int .i64 r.T_.To),(.int .i64 r.At),(.int .i64 r.E)])] []:=by
 unfold z0d at h;refine zI 1000 (v0I _ _ _ _ x) ?_;cases h;exact⟨rfl,rfl⟩
theorem z6g(m:zA)(locals:List zA)(t:zA)(a b:Int)(r:Ref16Got)(h:z0V m locals t a b=some r):Trip Tryz.prog 241 [.d (tT m),.d (.sl (List.map zA.toD locals)),.d (tT t),(nI a),(nI b)] [] [.d (.agg [(.int .i64 r.T_.K),(.int .i64 r.T_.N),(.str r.T_.S),(.sl (List.map zA.toD r.T_.L)),(.int .i64 r.T_.From),(.int .i64 r.T_.To),(.int .i64 r.At),(.int .i64 r.E)])] []:=by
 unfold z0V at h;refine zI 1000 (v0J _ _ _ _ m locals t a b) ?_;obtain⟨q1,g,h⟩:=zC h;refine⟨_,_,_,_,_,_,_,_,_,_,_,_,_,_,⟨_,z2Q _ _ _ _ g⟩,?_⟩;rintro _ rfl;refine zD zq2 h (fun _ h=>?_) (fun _ h=>?_)
 ·obtain⟨q2,g,h⟩:=zC h;refine⟨_,⟨_,z2P _ _ _ g⟩,?_⟩;refine zG Iff.rfl h (fun _ h=>?_) (fun _ h=>?_)
  ·obtain⟨q6,g,h⟩:=zC h;refine⟨_,_,_,_,_,_,_,_,⟨_,z1Z _ _ g⟩,?_⟩;cases h;exact⟨rfl,rfl⟩
  obtain⟨q3,g,h⟩:=zC h;refine⟨_,⟨_,z2P _ _ _ g⟩,?_⟩;refine zG Iff.rfl h (fun _ h=>?_) (fun _ h=>?_)
  ·obtain⟨q5,g,h⟩:=zC h;refine⟨_,_,_,_,_,_,_,_,⟨_,z1Z _ _ g⟩,?_⟩;cases h;exact⟨rfl,rfl⟩
  obtain⟨q4,g,h⟩:=zC h;refine⟨_,_,_,_,_,_,_,_,⟨_,vS _ _ _ g⟩,?_⟩;cases h;exact⟨rfl,rfl⟩
 obtain⟨q7,g,h⟩:=zC h;refine⟨_,_,_,_,_,_,_,_,⟨_,z1Z _ _ g⟩,?_⟩;cases h;exact⟨rfl,rfl⟩
def y1v:(i:wE)→z7x i→Prop
 |.yW m locals ret t,r=>Trip Tryz.prog 192 [.d (tT m),.d (.sl (List.map zA.toD locals)),.d (tT ret),.d (tT t)] [] [.d (.agg [(.int .i64 r.T_.K),(.int .i64 r.T_.N),(.str r.T_.S),(.sl (List.map zA.toD r.T_.L)),(.int .i64 r.T_.From),(.int .i64 r.T_.To),(.int .i64 r.At),(.int .i64 r.E)])] []
 |.yU locals i m ret t o8 K N S L From To,r=>Ok (z7N (Trip Tryz.prog) [.d (.agg [(.int .i64 r.T_.K),(.int .i64 r.T_.N),(.str r.T_.S),(.sl (List.map zA.toD r.T_.L)),(.int .i64 r.T_.From),(.int .i64 r.T_.To),(.int .i64 r.At),(.int .i64 r.E)])] []) (kL Tryz.f192 3) ⟨55,[(1,.d (.sl (List.map zA.toD locals))),(4,.ref 4 1 0),(6,.ref 6 1 0),(7,.ref 7 1 0),(8,.ref 8 1 0),(9,.hp 0 0),(10,(nI i))],[(4,1,some (.agg (tT m))),(6,1,some (.agg (tT ret))),(7,1,some (.agg (tT t))),(8,1,some (.agg (.agg [(.int .i64 o8.T_.K),(.int .i64 o8.T_.N),(.str o8.T_.S),(.sl (List.map zA.toD o8.T_.L)),(.int .i64 o8.T_.From),(.int .i64 o8.T_.To),(.int .i64 o8.At),(.int .i64 o8.E)])))],[(hM K N S (List.map zA.toD L) From To)],0⟩
 |.jV m locals ret t,r=>Trip Tryz.prog 129 [.d (tT m),.d (.sl (List.map zA.toD locals)),.d (tT ret),.d (tT t)] [] [.d (.agg [(.int .i64 r.T_.K),(.int .i64 r.T_.N),(.str r.T_.S),(.sl (List.map zA.toD r.T_.L)),(.int .i64 r.T_.From),(.int .i64 r.T_.To),(.int .i64 r.At),(.int .i64 r.E)])] []
 |.yL locals i m ret t o8 K N S L From To,r=>Ok (z9w (Trip Tryz.prog) [.d (.agg [(.int .i64 r.T_.K),(.int .i64 r.T_.N),(.str r.T_.S),(.sl (List.map zA.toD r.T_.L)),(.int .i64 r.T_.From),(.int .i64 r.T_.To),(.int .i64 r.At),(.int .i64 r.E)])] []) (kL Tryz.f129 7) ⟨99,[(1,.d (.sl (List.map zA.toD locals))),(4,.ref 4 1 0),(6,.ref 6 1 0),(7,.ref 7 1 0),(8,.ref 8 1 0),(9,.hp 0 0),(10,(nI i))],[(4,1,some (.agg (tT m))),(6,1,some (.agg (tT ret))),(7,1,some (.agg (tT t))),(8,1,some (.agg (.agg [(.int .i64 o8.T_.K),(.int .i64 o8.T_.N),(.str o8.T_.S),(.sl (List.map zA.toD o8.T_.L)),(.int .i64 o8.T_.From),(.int .i64 o8.T_.To),(.int .i64 o8.At),(.int .i64 o8.E)])))],[(hM K N S (List.map zA.toD L) From To)],0⟩
 |.jA m locals ret t i,r=>Trip Tryz.prog 193 [.d (tT m),.d (.sl (List.map zA.toD locals)),.d (tT ret),.d (tT t),(nI i)] [] [.d (.agg [(.int .i64 r.T_.K),(.int .i64 r.T_.N),(.str r.T_.S),(.sl (List.map zA.toD r.T_.L)),(.int .i64 r.T_.From),(.int .i64 r.T_.To),(.int .i64 r.At),(.int .i64 r.E)])] []
theorem y7G:∀i r,uQ uU i=some r→y1v i r:=by
 refine zP z2h fun g ih i=>?_;cases i with
 |yW m locals ret t=>
  have v8N:=fun locals i m ret t o8 K N S L From To r h=>ih (.yU locals i m ret t o8 K N S L From To) r h;intro r h;replace h:z2u (fun locals i m ret t o8 K N S L From To=>g (wE.yU locals i m ret t o8 K N S L From To)) m locals ret t=some r:=h;unfold z2u at h;refine zI 1000 (y8I _ _ _ _ m locals ret t) ?_;exact v8N _ _ _ _ _ _ _ _ _ _ _ _ _ h
 |yU locals i m ret t o8 K N S L From To=>
  have v8N:=fun locals i m ret t o8 K N S L From To r h=>ih (.yU locals i m ret t o8 K N S L From To) r h;have v8U:=fun m locals ret t r h=>ih (.jV m locals ret t) r h;intro r h;replace h:gO (fun locals i m ret t o8 K N S L From To=>g (wE.yU locals i m ret t o8 K N S L From To)) (fun m locals ret t=>g (wE.jV m locals ret t)) locals i m ret t o8 K N S L From To=some r:=h;unfold gO at h;refine uZ 1000 (y3L _ _ _ _ locals i m ret t o8 K N S L From To) ?_
  refine zV (e':=(List.length t.L:Int)) (by first|rfl|rw[zq3]) ?_;rintro _ rfl;refine zD decide_eq_true_iff h (fun _ h=>?_) (fun _ h=>?_)
  ·obtain⟨x,hx,h⟩:=zC h;refine⟨zF (l:=t.L) (zA.sz),vZ hx,x.K,x.N,x.S,List.map zA.toD x.L,x.From,x.To,zL (zA.toD_eq x) hx,?_⟩;obtain⟨q1,g,h⟩:=zC h;refine⟨_,_,_,_,_,_,_,_,⟨_,v8U _ _ _ _ _ g⟩,?_⟩;rintro _ rfl;refine zG zq2 h (fun _ h=>?_) (fun _ h=>?_)
   ·refine⟨by simp[zE,D.cells],?_⟩;refine⟨by first|rfl|decide|simp only[zq3,List.length_cons,List.length_nil,List.map_append,List.length_append],?_⟩;obtain⟨hP,h⟩:=uP h;refine⟨by first|exact hP|simpa using hP,?_⟩;refine zV (e':=List.map zA.toD (L++[q1.T_])) (by first|rfl|simp only[List.map_append,List.map_cons,List.map_nil,List.map_take,List.map_drop,List.map_set,List.map_replicate,zq3,zA.toD_eq]) ?_
    refine⟨by first|rfl|decide|simp only[zq3,List.length_cons,List.length_nil,List.map_append,List.length_append],?_⟩;obtain⟨x1,hx,h⟩:=zC h;refine⟨zF (l:=t.L) (zA.sz),vZ hx,x1.K,x1.N,x1.S,List.map zA.toD x1.L,x1.From,x1.To,zL (zA.toD_eq x1) hx,?_⟩;obtain⟨q2,g,h⟩:=zC h;refine⟨_,⟨_,y6h _ _ _ _ g⟩,?_⟩;rintro _ rfl;exact v8N _ _ _ _ _ _ _ _ _ _ _ _ _ h
   cases h;exact⟨rfl,rfl⟩
  cases h;exact⟨rfl,rfl⟩
 |jV m locals ret t=>
  have v8M:=fun m locals ret t r h=>ih (.yW m locals ret t) r h;have v8V:=fun locals i m ret t o8 K N S L From To r h=>ih (.yL locals i m ret t o8 K N S L From To) r h;intro r h;replace h:z3y (fun m locals ret t=>g (wE.yW m locals ret t)) (fun locals i m ret t o8 K N S L From To=>g (wE.yL locals i m ret t o8 K N S L From To)) m locals ret t=some r:=h;unfold z3y at h;refine zI 1000 (v0L _ _ _ _ m locals ret t) ?_;obtain⟨q1,g,h⟩:=zC h;refine⟨_,⟨_,y7T _ _ g⟩,?_⟩
  refine zG Iff.rfl h (fun _ h=>?_) (fun _ h=>?_)
  ·rintro _ rfl;refine zD zq2 h (fun _ h=>?_) (fun _ h=>?_)
   ·obtain⟨q3,g,h⟩:=zC h;refine⟨_,_,_,_,_,_,_,_,⟨_,v8M _ _ _ _ _ g⟩,?_⟩;cases h;exact⟨rfl,rfl⟩
   exact v8V _ _ _ _ _ _ _ _ _ _ _ _ _ h
  obtain⟨q2,g,h⟩:=zC h;refine⟨_,_,_,_,_,_,_,_,⟨_,vS _ _ _ g⟩,?_⟩;cases h;exact⟨rfl,rfl⟩
 |yL locals i m ret t o8 K N S L From To=>
  have v8V:=fun locals i m ret t o8 K N S L From To r h=>ih (.yL locals i m ret t o8 K N S L From To) r h;have v8R:=fun m locals ret t i r h=>ih (.jA m locals ret t i) r h;intro r h;replace h:gC (fun locals i m ret t o8 K N S L From To=>g (wE.yL locals i m ret t o8 K N S L From To)) (fun m locals ret t i=>g (wE.jA m locals ret t i)) locals i m ret t o8 K N S L From To=some r:=h;unfold gC at h;refine uZ 1000 (y5d _ _ _ _ locals i m ret t o8 K N S L From To) ?_
  refine zV (e':=(List.length t.L:Int)) (by first|rfl|rw[zq3]) ?_;rintro _ rfl;refine zD decide_eq_true_iff h (fun _ h=>?_) (fun _ h=>?_)
  ·obtain⟨q1,g,h⟩:=zC h;refine⟨_,_,_,_,_,_,_,_,⟨_,v8R _ _ _ _ _ _ g⟩,?_⟩;rintro _ rfl;refine zG zq2 h (fun _ h=>?_) (fun _ h=>?_)
   ·refine⟨by simp[zE,D.cells],?_⟩;refine⟨by first|rfl|decide|simp only[zq3,List.length_cons,List.length_nil,List.map_append,List.length_append],?_⟩;obtain⟨hP,h⟩:=uP h;refine⟨by first|exact hP|simpa using hP,?_⟩;refine zV (e':=List.map zA.toD (L++[q1.T_])) (by first|rfl|simp only[List.map_append,List.map_cons,List.map_nil,List.map_take,List.map_drop,List.map_set,List.map_replicate,zq3,zA.toD_eq]) ?_
    refine⟨by first|rfl|decide|simp only[zq3,List.length_cons,List.length_nil,List.map_append,List.length_append],?_⟩;rintro _ rfl;exact v8V _ _ _ _ _ _ _ _ _ _ _ _ _ h
   cases h;exact⟨rfl,rfl⟩
  rintro _ rfl;refine zD zq2 h (fun _ h=>?_) (fun _ h=>?_)
  ·obtain⟨x,hx,h⟩:=zC h;refine⟨zF (l:=t.L) (zA.sz),vZ hx,x.K,x.N,x.S,List.map zA.toD x.L,x.From,x.To,zL (zA.toD_eq x) hx,?_⟩;obtain⟨q2,g,h⟩:=zC h;refine⟨_,_,_,_,_,_,⟨_,v0b _ _ g⟩,?_⟩;rintro _ rfl;refine zG zq2 h (fun _ h=>?_) (fun _ h=>?_)
   ·obtain⟨x4,hx,h⟩:=zC h;refine⟨zF (l:=t.L) (zA.sz),vZ hx,x4.K,x4.N,x4.S,List.map zA.toD x4.L,x4.From,x4.To,zL (zA.toD_eq x4) hx,?_⟩;obtain⟨q8,g,h⟩:=zC h;refine⟨_,_,_,_,_,_,_,_,_,_,_,_,_,_,⟨_,z2Q _ _ _ _ g⟩,?_⟩;obtain⟨x5,hx,h⟩:=zC h;refine⟨zF (l:=t.L) (zA.sz),vZ hx,x5.K,x5.N,x5.S,List.map zA.toD x5.L,x5.From,x5.To,zL (zA.toD_eq x5) hx,?_⟩;obtain⟨q9,g,h⟩:=zC h;refine⟨_,_,_,_,_,_,_,_,_,_,_,_,_,_,⟨_,z2Q _ _ _ _ g⟩,?_⟩;obtain⟨q10,g,h⟩:=zC h;refine⟨_,⟨_,z4H _ _ _ g⟩,?_⟩
    refine zG Iff.rfl h (fun _ h=>?_) (fun _ h=>?_)
    ·cases h;exact⟨rfl,rfl⟩
    obtain⟨q11,g,h⟩:=zC h;refine⟨_,_,_,_,_,_,_,_,⟨_,vS _ _ _ g⟩,?_⟩;cases h;exact⟨rfl,rfl⟩
   rintro _ rfl;refine zG zq2 h (fun _ h=>?_) (fun _ h=>?_)
   ·obtain⟨x2,hx,h⟩:=zC h;refine⟨zF (l:=t.L) (zA.sz),vZ hx,x2.K,x2.N,x2.S,List.map zA.toD x2.L,x2.From,x2.To,zL (zA.toD_eq x2) hx,?_⟩;obtain⟨q4,g,h⟩:=zC h;refine⟨_,_,_,_,_,_,_,_,_,_,_,_,_,_,⟨_,z2Q _ _ _ _ g⟩,?_⟩;obtain⟨x3,hx,h⟩:=zC h;refine⟨zF (l:=t.L) (zA.sz),vZ hx,x3.K,x3.N,x3.S,List.map zA.toD x3.L,x3.From,x3.To,zL (zA.toD_eq x3) hx,?_⟩;obtain⟨q5,g,h⟩:=zC h;refine⟨_,_,_,_,_,_,_,_,_,_,_,_,_,_,⟨_,z2Q _ _ _ _ g⟩,?_⟩;obtain⟨q6,g,h⟩:=zC h;refine⟨_,⟨_,z4H _ _ _ g⟩,?_⟩
    refine zG Iff.rfl h (fun _ h=>?_) (fun _ h=>?_)
    ·cases h;exact⟨rfl,rfl⟩
    obtain⟨q7,g,h⟩:=zC h;refine⟨_,_,_,_,_,_,_,_,⟨_,vS _ _ _ g⟩,?_⟩;cases h;exact⟨rfl,rfl⟩
   obtain⟨x1,hx,h⟩:=zC h;refine⟨zF (l:=t.L) (zA.sz),vZ hx,x1.K,x1.N,x1.S,List.map zA.toD x1.L,x1.From,x1.To,zL (zA.toD_eq x1) hx,?_⟩;obtain⟨q3,g,h⟩:=zC h;refine⟨_,_,_,_,_,_,_,_,⟨_,vS _ _ _ g⟩,?_⟩;cases h;exact⟨rfl,rfl⟩
  cases h;exact⟨rfl,rfl⟩
 |jA m locals ret t i=>
  have v8M:=fun m locals ret t r h=>ih (.yW m locals ret t) r h;intro r h;replace h:z3x (fun m locals ret t=>g (wE.yW m locals ret t)) m locals ret t i=some r:=h;unfold z3x at h;refine zI 1000 (v0K _ _ _ _ m locals ret t i) ?_;obtain⟨x,hx,h⟩:=zC h;refine⟨zF (l:=t.L) (zA.sz),vZ hx,x.K,x.N,x.S,List.map zA.toD x.L,x.From,x.To,zL (zA.toD_eq x) hx,?_⟩;obtain⟨q1,g,h⟩:=zC h;refine⟨_,_,⟨_,y1A _ _ g⟩,?_⟩;rintro _ rfl;rintro _ rfl;refine zD decide_eq_true_iff h (fun _ h=>?_) (fun _ h=>?_)
  ·rintro _ rfl;refine zD zq2 h (fun _ h=>?_) (fun _ h=>?_)
   ·refine⟨zF (l:=locals) (zA.sz),?_⟩;refine⟨by first|rfl|decide|simp only[zq3,List.length_cons,List.length_nil,List.map_append,List.length_append],?_⟩;obtain⟨hP,h⟩:=uP h;refine⟨by first|exact hP|simpa using hP,?_⟩;refine zV (e':=List.map zA.toD (([]:List zA)++locals)) (by first|rfl|simp only[List.map_append,List.map_cons,List.map_nil,List.map_take,List.map_drop,List.map_set,List.map_replicate,zq3,zA.toD_eq]) ?_;refine⟨by simp[zE,D.cells],?_⟩
    refine⟨by first|rfl|decide|simp only[zq3,List.length_cons,List.length_nil,List.map_append,List.length_append],?_⟩;obtain⟨hP,h⟩:=uP h;refine⟨by first|exact hP|simpa using hP,?_⟩;refine zV (e':=List.map zA.toD ((([]:List zA)++locals)++[(zA.mk 1 0 [] [] 0 0)])) (by first|rfl|simp only[List.map_append,List.map_cons,List.map_nil,List.map_take,List.map_drop,List.map_set,List.map_replicate,zq3,zA.toD_eq]) ?_;obtain⟨q2,g,h⟩:=zC h;refine⟨_,_,_,_,_,_,_,_,⟨_,v8M _ _ _ _ _ g⟩,?_⟩;cases h;exact⟨rfl,rfl⟩
   obtain⟨q3,g,h⟩:=zC h;refine⟨_,_,_,_,_,_,_,_,⟨_,v8M _ _ _ _ _ g⟩,?_⟩;cases h;exact⟨rfl,rfl⟩
  rintro _ rfl;refine zD zq2 h (fun _ h=>?_) (fun _ h=>?_)
  ·obtain⟨q4,g,h⟩:=zC h;refine⟨_,⟨_,z0C _ _ _ g⟩,?_⟩;rintro _ rfl;refine zD zq2 h (fun _ h=>?_) (fun _ h=>?_)
   ·obtain⟨q5,g,h⟩:=zC h;refine⟨_,_,_,_,_,_,_,_,⟨_,vS _ _ _ g⟩,?_⟩;cases h;exact⟨rfl,rfl⟩
   obtain⟨q6,g,h⟩:=zC h;refine⟨_,_,_,_,_,_,⟨_,gF _ _ g⟩,?_⟩;cases h;exact⟨rfl,rfl⟩
  rintro _ rfl;refine zD zq2 h (fun _ h=>?_) (fun _ h=>?_)
  ·obtain⟨q7,g,h⟩:=zC h;refine⟨_,_,_,_,_,_,_,_,⟨_,z6g _ _ _ _ _ _ g⟩,?_⟩;cases h;exact⟨rfl,rfl⟩
  rintro _ rfl;refine zD zq2 h (fun _ h=>?_) (fun _ h=>?_)
  ·obtain⟨q8,g,h⟩:=zC h;refine⟨_,_,_,_,_,_,_,_,⟨_,z6g _ _ _ _ _ _ g⟩,?_⟩;cases h;exact⟨rfl,rfl⟩
  rintro _ rfl;refine zD zq2 h (fun _ h=>?_) (fun _ h=>?_)
  ·obtain⟨q9,g,h⟩:=zC h;refine⟨_,_,_,_,_,_,_,_,⟨_,z6g _ _ _ _ _ _ g⟩,?_⟩;cases h;exact⟨rfl,rfl⟩
  rintro _ rfl;refine zD zq2 h (fun _ h=>?_) (fun _ h=>?_)
  ·obtain⟨q10,g,h⟩:=zC h;refine⟨_,_,_,_,_,_,_,_,⟨_,z6g _ _ _ _ _ _ g⟩,?_⟩;cases h;exact⟨rfl,rfl⟩
  rintro _ rfl;refine zD zq2 h (fun hc249 h=>?_) (fun hc249 h=>?_)
  ·rintro _ rfl;refine zG zq2 h (fun _ h=>?_) (fun _ h=>?_)
   ·obtain⟨q12,g,h⟩:=zC h;refine⟨_,_,_,_,_,_,_,_,_,_,_,_,_,_,⟨_,z2Q _ _ _ _ g⟩,?_⟩;rintro _ rfl;refine jE zq2 (fun e=>absurd (hc249.symm.trans e) (by decide)) ?_;obtain⟨q18,g,h⟩:=zC h;refine⟨_,_,_,_,_,_,_,_,⟨_,z1Z _ _ g⟩,?_⟩;cases h;exact⟨rfl,rfl⟩
   obtain⟨q11,g,h⟩:=zC h;refine⟨_,_,_,_,_,_,_,_,⟨_,vS _ _ _ g⟩,?_⟩;cases h;exact⟨rfl,rfl⟩
  obtain⟨q19,g,h⟩:=zC h;refine⟨_,_,_,_,_,_,_,_,_,_,_,_,_,_,⟨_,z2Q _ _ _ _ g⟩,?_⟩;rintro _ rfl;refine zD zq2 h (fun _ h=>?_) (fun _ h=>?_)
  ·rintro _ rfl;refine zD zq2 h (fun _ h=>?_) (fun _ h=>?_)
   ·obtain⟨q20,g,h⟩:=zC h;refine⟨_,_,_,_,_,_,⟨_,z3n _ _ g⟩,?_⟩;obtain⟨q21,g,h⟩:=zC h;refine⟨_,⟨_,z4H _ _ _ g⟩,?_⟩;refine zG Iff.rfl h (fun _ h=>?_) (fun _ h=>?_)
    ·obtain⟨q23,g,h⟩:=zC h;refine⟨_,_,_,_,_,_,_,_,⟨_,z1Z _ _ g⟩,?_⟩;cases h;exact⟨rfl,rfl⟩
    obtain⟨q22,g,h⟩:=zC h;refine⟨_,_,_,_,_,_,_,_,⟨_,vS _ _ _ g⟩,?_⟩;cases h;exact⟨rfl,rfl⟩
   obtain⟨q24,g,h⟩:=zC h;refine⟨_,_,_,_,_,_,_,_,⟨_,z1Z _ _ g⟩,?_⟩;cases h;exact⟨rfl,rfl⟩
  obtain⟨q25,g,h⟩:=zC h;refine⟨_,_,_,_,_,_,_,_,⟨_,z1Z _ _ g⟩,?_⟩;cases h;exact⟨rfl,rfl⟩
theorem y7R(m:zA)(locals:List zA)(ret t:zA)(r:Ref16Got)(h:yW m locals ret t=some r):y1v (.yW m locals ret t) r:=y7G (.yW m locals ret t) r h
def z7r:(i:z2L)→z4D i→Prop
 |.vF out i f,r=>Ok (z7Q (Trip Tryz.prog) [.own 6 (List.map zA.toD r)] []) (kL Tryz.f234 3) ⟨31,[(1,.ref 1 1 0),(3,.right 5 1 6 (List.map zA.toD out)),(4,(nI i))],[(1,1,some (.agg (tT f))),(5,1,some (.tok 6 (List.length (List.map zA.toD out))))],[],0⟩
theorem y2H:∀i r,uQ z2E i=some r→z7r i r:=by
 refine zP z7i fun g ih i=>?_;cases i with
 |vF out i f=>
  have v8W:=fun out i f r h=>ih (.vF out i f) r h;intro r h;replace h:gQ (fun out i f=>g (z2L.vF out i f)) out i f=some r:=h;unfold gQ at h;refine uZ 1000 (y3N _ _ _ _ out i f) ?_;obtain⟨x,hx,h⟩:=zC h;refine⟨zF (l:=f.L) (zA.sz),vZ hx,x.K,x.N,x.S,List.map zA.toD x.L,x.From,x.To,zL (zA.toD_eq x) hx,?_⟩;refine zV (e':=(List.length x.L:Int)) (by first|rfl|rw[zq3]) ?_;rintro _ rfl;refine zD decide_eq_true_iff h (fun _ h=>?_) (fun _ h=>?_)
  ·obtain⟨x1,hx,h⟩:=zC h;refine⟨zF (l:=f.L) (zA.sz),vZ hx,x1.K,x1.N,x1.S,List.map zA.toD x1.L,x1.From,x1.To,zL (zA.toD_eq x1) hx,?_⟩;obtain⟨x2,hx,h⟩:=zC h;refine⟨zF (l:=x1.L) (zA.sz),vZ hx,x2.K,x2.N,x2.S,List.map zA.toD x2.L,x2.From,x2.To,zL (zA.toD_eq x2) hx,?_⟩;obtain⟨x3,hx,h⟩:=zC h;refine⟨zF (l:=x2.L) (zA.sz),vZ hx,x3.K,x3.N,x3.S,List.map zA.toD x3.L,x3.From,x3.To,zL (zA.toD_eq x3) hx,?_⟩;refine⟨by simp[zE,D.cells],?_⟩
   refine⟨by first|rfl|decide|simp only[zq3,List.length_cons,List.length_nil,List.map_append,List.length_append],?_⟩;obtain⟨hP,h⟩:=uP h;refine⟨by first|exact hP|simpa using hP,?_⟩;refine zV (e':=List.map zA.toD (out++[x3])) (by first|rfl|simp only[List.map_append,List.map_cons,List.map_nil,List.map_take,List.map_drop,List.map_set,List.map_replicate,zq3,zA.toD_eq]) ?_;rintro _ rfl;exact v8W _ _ _ _ h
  refine⟨by first|rfl|decide|simp only[zq3,List.length_cons,List.length_nil,List.map_append,List.length_append],?_⟩;cases h;exact⟨rfl,rfl⟩
theorem y3c(out:List zA)(i:Int)(f:zA)(r:List zA)(h:vF out i f=some r):z7r (.vF out i f) r:=y2H (.vF out i f) r h
theorem z7D(f:zA)(r:List zA)(h:z2v f=some r):Trip Tryz.prog 234 [.d (tT f)] [] [.own 6 (List.map zA.toD r)] []:=by
 unfold z2v at h;refine zI 1000 (y8N _ _ _ _ f) ?_;exact y3c _ _ _ _ h
def z9R:(i:z4m)→z6d i→Prop
 |.wD all i m t o4,r=>Ok (z7O (Trip Tryz.prog) [.d (.agg [(.int .i64 r.T_.K),(.int .i64 r.T_.N),(.str r.T_.S),(.sl (List.map zA.toD r.T_.L)),(.int .i64 r.T_.From),(.int .i64 r.T_.To),(.int .i64 r.At),(.int .i64 r.E)])] []) (kL Tryz.f178 10) ⟨125,[(2,.ref 2 1 0),(3,.ref 3 1 0),(4,.ref 4 1 0),(5,.right 52 1 6 (List.map zA.toD all)),(7,(nI i))],[(2,1,some (.agg (tT m))),(3,1,some (.agg (tT t))),(4,1,some (.agg (.agg [(.int .i64 o4.T_.K),(.int .i64 o4.T_.N),(.str o4.T_.S),(.sl (List.map zA.toD o4.T_.L)),(.int .i64 o4.T_.From),(.int .i64 o4.T_.To),(.int .i64 o4.At),(.int .i64 o4.E)]))),(52,1,some (.tok 6 (List.length (List.map zA.toD all))))],[],0⟩
theorem y6b:∀i r,uQ z4j i=some r→z9R i r:=by
 refine zP z9M fun g ih i=>?_;cases i with
 |wD all i m t o4=>
  have v8O:=fun all i m t o4 r h=>ih (.wD all i m t o4) r h;intro r h;replace h:z0N (fun all i m t o4=>g (z4m.wD all i m t o4)) all i m t o4=some r:=h;unfold z0N at h;refine uZ 1000 (y6E _ _ _ _ all i m t o4) ?_;refine zV (e':=(List.length all:Int)) (by first|rfl|rw[zq3]) ?_;rintro _ rfl;refine zD decide_eq_true_iff h (fun _ h=>?_) (fun _ h=>?_)
  ·rintro _ rfl;refine zD zq2 h (fun _ h=>?_) (fun _ h=>?_)
   ·obtain⟨x,hx,h⟩:=zC h;refine⟨zF (l:=all) (zA.sz),vZ hx,x.K,x.N,x.S,List.map zA.toD x.L,x.From,x.To,zL (zA.toD_eq x) hx,?_⟩;obtain⟨q1,g,h⟩:=zC h;refine⟨_,⟨_,y7N _ _ _ g⟩,?_⟩;refine zG Iff.rfl h (fun _ h=>?_) (fun _ h=>?_)
    ·rintro _ rfl;exact v8O _ _ _ _ _ _ h
    obtain⟨x1,hx,h⟩:=zC h;refine⟨zF (l:=all) (zA.sz),vZ hx,x1.K,x1.N,x1.S,List.map zA.toD x1.L,x1.From,x1.To,zL (zA.toD_eq x1) hx,?_⟩;obtain⟨q2,g,h⟩:=zC h;refine⟨_,_,_,_,_,_,_,_,⟨_,vS _ _ _ g⟩,?_⟩;cases h;exact⟨rfl,rfl⟩
   rintro _ rfl;exact v8O _ _ _ _ _ _ h
  obtain⟨q3,g,h⟩:=zC h;refine⟨_,⟨_,z7D _ _ g⟩,?_⟩;obtain⟨x2,hx,h⟩:=zC h;refine⟨zF (l:=t.L) (zA.sz),vZ hx,x2.K,x2.N,x2.S,List.map zA.toD x2.L,x2.From,x2.To,zL (zA.toD_eq x2) hx,?_⟩;obtain⟨x3,hx,h⟩:=zC h;refine⟨zF (l:=t.L) (zA.sz),vZ hx,x3.K,x3.N,x3.S,List.map zA.toD x3.L,x3.From,x3.To,zL (zA.toD_eq x3) hx,?_⟩;obtain⟨q4,g,h⟩:=zC h;refine⟨_,_,_,_,_,_,_,_,⟨_,y7R _ _ _ _ _ g⟩,?_⟩;rintro _ rfl;refine zG zq2 h (fun _ h=>?_) (fun _ h=>?_)
  ·obtain⟨q5,g,h⟩:=zC h;refine⟨_,_,_,_,_,_,⟨_,y0M _ _ g⟩,?_⟩;obtain⟨hP,h⟩:=uP h;refine⟨hP.1,by first|exact hP.2|(simp only[zq3]at hP ⊢;exact hP.2),?_⟩;obtain⟨hP,h⟩:=uP h;refine⟨by first|exact hP|(rw[zq3];exact hP),?_⟩;refine zV (e':=List.map zA.toD (q5.L.set (Int.toNat 2) q4.T_)) (v7G (zA.toD_eq q4.T_)) ?_;cases h;exact⟨rfl,rfl⟩
  cases h;exact⟨rfl,rfl⟩
theorem y6i(all:List zA)(i:Int)(m t:zA)(o4 r:Ref16Got)(h:wD all i m t o4=some r):z9R (.wD all i m t o4) r:=y6b (.wD all i m t o4) r h
def y1w:(i:z4Z)→z7y i→Prop
 |.wM all i m t o4,r=>Ok (z7O (Trip Tryz.prog) [.d (.agg [(.int .i64 r.T_.K),(.int .i64 r.T_.N),(.str r.T_.S),(.sl (List.map zA.toD r.T_.L)),(.int .i64 r.T_.From),(.int .i64 r.T_.To),(.int .i64 r.At),(.int .i64 r.E)])] []) (kL Tryz.f178 5) ⟨125,[(2,.ref 2 1 0),(3,.ref 3 1 0),(4,.ref 4 1 0),(5,.right 52 1 6 (List.map zA.toD all)),(6,(nI i))],[(2,1,some (.agg (tT m))),(3,1,some (.agg (tT t))),(4,1,some (.agg (.agg [(.int .i64 o4.T_.K),(.int .i64 o4.T_.N),(.str o4.T_.S),(.sl (List.map zA.toD o4.T_.L)),(.int .i64 o4.T_.From),(.int .i64 o4.T_.To),(.int .i64 o4.At),(.int .i64 o4.E)]))),(52,1,some (.tok 6 (List.length (List.map zA.toD all))))],[],0⟩
theorem y7H:∀i r,uQ z4Y i=some r→y1w i r:=by
 refine zP y1s fun g ih i=>?_;cases i with
 |wM all i m t o4=>
  have v8P:=fun all i m t o4 r h=>ih (.wM all i m t o4) r h;intro r h;replace h:z1j (fun all i m t o4=>g (z4Z.wM all i m t o4)) all i m t o4=some r:=h;unfold z1j at h;refine uZ 1000 (y8J _ _ _ _ all i m t o4) ?_;refine zV (e':=(List.length all:Int)) (by first|rfl|rw[zq3]) ?_;rintro _ rfl;refine zD decide_eq_true_iff h (fun _ h=>?_) (fun _ h=>?_)
  ·obtain⟨x,hx,h⟩:=zC h;refine⟨zF (l:=all) (zA.sz),vZ hx,x.K,x.N,x.S,List.map zA.toD x.L,x.From,x.To,zL (zA.toD_eq x) hx,?_⟩;obtain⟨q1,g,h⟩:=zC h;refine⟨_,⟨_,z0C _ _ _ g⟩,?_⟩;rintro _ rfl;refine zD zq2 h (fun _ h=>?_) (fun _ h=>?_)
   ·obtain⟨x1,hx,h⟩:=zC h;refine⟨zF (l:=all) (zA.sz),vZ hx,x1.K,x1.N,x1.S,List.map zA.toD x1.L,x1.From,x1.To,zL (zA.toD_eq x1) hx,?_⟩;obtain⟨q2,g,h⟩:=zC h;refine⟨_,_,_,_,_,_,_,_,⟨_,vS _ _ _ g⟩,?_⟩;cases h;exact⟨rfl,rfl⟩
   rintro _ rfl;exact v8P _ _ _ _ _ _ h
  exact y6i _ _ _ _ _ _ h
theorem y1z(all:List zA)(i:Int)(m t:zA)(o4 r:Ref16Got)(h:wM all i m t o4=some r):y1w (.wM all i m t o4) r:=y7H (.wM all i m t o4) r h
def z6O:(i:z1V)→z3Z i→Prop
 |.yQ l i,r=>Ok (z6l (Trip Tryz.prog) [(nB r)] []) (kL Tryz.f233 2) ⟨25,[(0,.d (.sl (List.map zA.toD l))),(3,(nI i))],[],[],0⟩
theorem y1S:∀i r,uQ z1O i=some r→z6O i r:=by
 refine zP z6G fun g ih i=>?_;cases i with
 |yQ l i=>
  have v8S:=fun l i r h=>ih (.yQ l i) r h;intro r h;replace h:jP (fun l i=>g (z1V.yQ l i)) l i=some r:=h;unfold jP at h;refine uZ 1000 (y2k _ _ _ _ l i) ?_;refine zV (e':=(List.length l:Int)) (by first|rfl|rw[zq3]) ?_;rintro _ rfl;refine zD decide_eq_true_iff h (fun _ h=>?_) (fun _ h=>?_)
  ·obtain⟨x,hx,h⟩:=zC h;refine⟨zF (l:=l) (zA.sz),vZ hx,x.K,x.N,x.S,List.map zA.toD x.L,x.From,x.To,zL (zA.toD_eq x) hx,?_⟩;rintro _ rfl;refine zG zq2 h (fun _ h=>?_) (fun _ h=>?_)
   ·obtain⟨x1,hx,h⟩:=zC h;refine⟨zF (l:=l) (zA.sz),vZ hx,x1.K,x1.N,x1.S,List.map zA.toD x1.L,x1.From,x1.To,zL (zA.toD_eq x1) hx,?_⟩;refine zV (e':=(List.length x1.L:Int)) (by first|rfl|rw[zq3]) ?_;rintro _ rfl;refine zG zq2 h (fun _ h=>?_) (fun _ h=>?_)
    ·rintro _ rfl;exact v8S _ _ _ h
    cases h;exact⟨rfl,rfl⟩
   cases h;exact⟨rfl,rfl⟩
  cases h;exact⟨rfl,rfl⟩
theorem y2a(l:List zA)(i:Int)(r:Bool)(h:yQ l i=some r):z6O (.yQ l i) r:=y1S (.yQ l i) r h
theorem z9X(l:List zA)(r:Bool)(h:z2c l=some r):Trip Tryz.prog 233 [.d (.sl (List.map zA.toD l))] [] [(nB r)] []:=by
 unfold z2c at h;refine zI 1000 (y6G _ _ _ _ l) ?_;exact y2a _ _ _ h
theorem v3K(m t:zA)(r:Ref16Got)(h:y4u m t=some r):Trip Tryz.prog 178 [.d (tT m),.d (tT t)] [] [.d (.agg [(.int .i64 r.T_.K),(.int .i64 r.T_.N),(.str r.T_.S),(.sl (List.map zA.toD r.T_.L)),(.int .i64 r.T_.From),(.int .i64 r.T_.To),(.int .i64 r.At),(.int .i64 r.E)])] []:=by
 unfold y4u at h;refine zI 1000 (v3U _ _ _ _ m t) ?_;rintro _ rfl;refine zG zq2 h (fun _ h=>?_) (fun _ h=>?_)
 ·refine zV (e':=(List.length t.L:Int)) (by first|rfl|rw[zq3]) ?_;rintro _ rfl;refine zG zq2 h (fun _ h=>?_) (fun _ h=>?_)
  ·obtain⟨x4,hx,h⟩:=zC h;refine⟨zF (l:=t.L) (zA.sz),vZ hx,x4.K,x4.N,x4.S,List.map zA.toD x4.L,x4.From,x4.To,zL (zA.toD_eq x4) hx,?_⟩;rintro _ rfl;refine zG zq2 h (fun _ h=>?_) (fun _ h=>?_)
   ·obtain⟨x5,hx,h⟩:=zC h;refine⟨zF (l:=t.L) (zA.sz),vZ hx,x5.K,x5.N,x5.S,List.map zA.toD x5.L,x5.From,x5.To,zL (zA.toD_eq x5) hx,?_⟩;obtain⟨q10,g,h⟩:=zC h;refine⟨_,⟨_,z9X _ _ g⟩,?_⟩;refine zG Iff.rfl h (fun _ h=>?_) (fun _ h=>?_)
    ·obtain⟨x6,hx,h⟩:=zC h;refine⟨zF (l:=t.L) (zA.sz),vZ hx,x6.K,x6.N,x6.S,List.map zA.toD x6.L,x6.From,x6.To,zL (zA.toD_eq x6) hx,?_⟩;rintro _ rfl;refine zG zq2 h (fun _ h=>?_) (fun _ h=>?_)
     ·obtain⟨q13,g,h⟩:=zC h;refine⟨_,⟨_,z7D _ _ g⟩,?_⟩;obtain⟨x7,hx,h⟩:=zC h;refine⟨zF (l:=t.L) (zA.sz),vZ hx,x7.K,x7.N,x7.S,List.map zA.toD x7.L,x7.From,x7.To,zL (zA.toD_eq x7) hx,?_⟩;refine⟨by simp[zE,D.cells],?_⟩;refine⟨by first|rfl|decide|simp only[zq3,List.length_cons,List.length_nil,List.map_append,List.length_append],?_⟩;obtain⟨hP,h⟩:=uP h;refine⟨by first|exact hP|simpa using hP,?_⟩
      refine zV (e':=List.map zA.toD (q13++[x7])) (by first|rfl|simp only[List.map_append,List.map_cons,List.map_nil,List.map_take,List.map_drop,List.map_set,List.map_replicate,zq3,zA.toD_eq]) ?_;exact y1z _ _ _ _ _ _ h
     obtain⟨q12,g,h⟩:=zC h;refine⟨_,_,_,_,_,_,_,_,⟨_,vS _ _ _ g⟩,?_⟩;cases h;exact⟨rfl,rfl⟩
    obtain⟨q11,g,h⟩:=zC h;refine⟨_,_,_,_,_,_,_,_,⟨_,vS _ _ _ g⟩,?_⟩;cases h;exact⟨rfl,rfl⟩
   obtain⟨q9,g,h⟩:=zC h;refine⟨_,_,_,_,_,_,_,_,⟨_,vS _ _ _ g⟩,?_⟩;cases h;exact⟨rfl,rfl⟩
  obtain⟨q8,g,h⟩:=zC h;refine⟨_,_,_,_,_,_,_,_,⟨_,vS _ _ _ g⟩,?_⟩;cases h;exact⟨rfl,rfl⟩
 rintro _ rfl;refine zG zq2 h (fun _ h=>?_) (fun _ h=>?_)
 ·refine zV (e':=(List.length t.L:Int)) (by first|rfl|rw[zq3]) ?_;rintro _ rfl;refine zG zq2 h (fun _ h=>?_) (fun _ h=>?_)
  ·obtain⟨x,hx,h⟩:=zC h;refine⟨zF (l:=t.L) (zA.sz),vZ hx,x.K,x.N,x.S,List.map zA.toD x.L,x.From,x.To,zL (zA.toD_eq x) hx,?_⟩;rintro _ rfl;refine zG zq2 h (fun _ h=>?_) (fun _ h=>?_)
   ·obtain⟨x1,hx,h⟩:=zC h;refine⟨zF (l:=t.L) (zA.sz),vZ hx,x1.K,x1.N,x1.S,List.map zA.toD x1.L,x1.From,x1.To,zL (zA.toD_eq x1) hx,?_⟩;obtain⟨q4,g,h⟩:=zC h;refine⟨_,⟨_,z9X _ _ g⟩,?_⟩;refine zG Iff.rfl h (fun _ h=>?_) (fun _ h=>?_)
    ·obtain⟨x2,hx,h⟩:=zC h;refine⟨zF (l:=t.L) (zA.sz),vZ hx,x2.K,x2.N,x2.S,List.map zA.toD x2.L,x2.From,x2.To,zL (zA.toD_eq x2) hx,?_⟩;rintro _ rfl;refine zG zq2 h (fun _ h=>?_) (fun _ h=>?_)
     ·obtain⟨q7,g,h⟩:=zC h;refine⟨_,⟨_,z7D _ _ g⟩,?_⟩;obtain⟨x3,hx,h⟩:=zC h;refine⟨zF (l:=t.L) (zA.sz),vZ hx,x3.K,x3.N,x3.S,List.map zA.toD x3.L,x3.From,x3.To,zL (zA.toD_eq x3) hx,?_⟩;refine⟨by simp[zE,D.cells],?_⟩;refine⟨by first|rfl|decide|simp only[zq3,List.length_cons,List.length_nil,List.map_append,List.length_append],?_⟩;obtain⟨hP,h⟩:=uP h;refine⟨by first|exact hP|simpa using hP,?_⟩
      refine zV (e':=List.map zA.toD (q7++[x3])) (by first|rfl|simp only[List.map_append,List.map_cons,List.map_nil,List.map_take,List.map_drop,List.map_set,List.map_replicate,zq3,zA.toD_eq]) ?_;exact y1z _ _ _ _ _ _ h
     obtain⟨q6,g,h⟩:=zC h;refine⟨_,_,_,_,_,_,_,_,⟨_,vS _ _ _ g⟩,?_⟩;cases h;exact⟨rfl,rfl⟩
    obtain⟨q5,g,h⟩:=zC h;refine⟨_,_,_,_,_,_,_,_,⟨_,vS _ _ _ g⟩,?_⟩;cases h;exact⟨rfl,rfl⟩
   obtain⟨q3,g,h⟩:=zC h;refine⟨_,_,_,_,_,_,_,_,⟨_,vS _ _ _ g⟩,?_⟩;cases h;exact⟨rfl,rfl⟩
  obtain⟨q2,g,h⟩:=zC h;refine⟨_,_,_,_,_,_,_,_,⟨_,vS _ _ _ g⟩,?_⟩;cases h;exact⟨rfl,rfl⟩
 obtain⟨q1,g,h⟩:=zC h;refine⟨_,_,_,_,_,_,_,_,⟨_,vS _ _ _ g⟩,?_⟩;cases h;exact⟨rfl,rfl⟩
theorem v0d(m:zA)(i:Int)(r:Ref16Got)(h:z8k m i=some r):Trip Tryz.prog 117 [.d (tT m),(nI i)] [] [.d (.agg [(.int .i64 r.T_.K),(.int .i64 r.T_.N),(.str r.T_.S),(.sl (List.map zA.toD r.T_.L)),(.int .i64 r.T_.From),(.int .i64 r.T_.To),(.int .i64 r.At),(.int .i64 r.E)])] []:=by
 unfold z8k at h;refine zI 1000 (v0H _ _ _ _ m i) ?_;obtain⟨x,hx,h⟩:=zC h;refine⟨zF (l:=m.L) (zA.sz),vZ hx,x.K,x.N,x.S,List.map zA.toD x.L,x.From,x.To,zL (zA.toD_eq x) hx,?_⟩;rintro _ rfl;refine zD zq2 h (fun _ h=>?_) (fun _ h=>?_)
 ·obtain⟨q1,g,h⟩:=zC h;refine⟨_,_,_,_,_,_,_,_,⟨_,v3K _ _ _ g⟩,?_⟩;cases h;exact⟨rfl,rfl⟩
 rintro _ rfl;refine zD zq2 h (fun _ h=>?_) (fun _ h=>?_)
 ·obtain⟨q2,g,h⟩:=zC h;refine⟨_,⟨_,z6f _ _ g⟩,?_⟩;refine zG Iff.rfl h (fun _ h=>?_) (fun _ h=>?_)
  ·obtain⟨q4,g,h⟩:=zC h;refine⟨_,⟨_,z0C _ _ _ g⟩,?_⟩;rintro _ rfl;refine zD zq2 h (fun _ h=>?_) (fun _ h=>?_)
   ·obtain⟨q5,g,h⟩:=zC h;refine⟨_,_,_,_,_,_,_,_,⟨_,vS _ _ _ g⟩,?_⟩;cases h;exact⟨rfl,rfl⟩
   obtain⟨q6,g,h⟩:=zC h;refine⟨_,_,_,_,_,_,⟨_,gF _ _ g⟩,?_⟩;cases h;exact⟨rfl,rfl⟩
  obtain⟨q3,g,h⟩:=zC h;refine⟨_,_,_,_,_,_,_,_,⟨_,vS _ _ _ g⟩,?_⟩;cases h;exact⟨rfl,rfl⟩
 rintro _ rfl;refine zD zq2 h (fun hc278 h=>?_) (fun hc278 h=>?_)
 ·refine zV (e':=(List.length x.L:Int)) (by first|rfl|rw[zq3]) ?_;rintro _ rfl;refine zD zq2 h (fun _ h=>?_) (fun _ h=>?_)
  ·obtain⟨x1,hx,h⟩:=zC h;refine⟨zF (l:=x.L) (zA.sz),vZ hx,x1.K,x1.N,x1.S,List.map zA.toD x1.L,x1.From,x1.To,zL (zA.toD_eq x1) hx,?_⟩;obtain⟨q7,g,h⟩:=zC h;refine⟨_,⟨_,z0C _ _ _ g⟩,?_⟩;rintro _ rfl;refine zD zq2 h (fun _ h=>?_) (fun _ h=>?_)
   ·obtain⟨x2,hx,h⟩:=zC h;refine⟨zF (l:=x.L) (zA.sz),vZ hx,x2.K,x2.N,x2.S,List.map zA.toD x2.L,x2.From,x2.To,zL (zA.toD_eq x2) hx,?_⟩;obtain⟨q8,g,h⟩:=zC h;refine⟨_,_,_,_,_,_,_,_,⟨_,vS _ _ _ g⟩,?_⟩;cases h;exact⟨rfl,rfl⟩
   obtain⟨q9,g,h⟩:=zC h;refine⟨_,_,_,_,_,_,⟨_,gF _ _ g⟩,?_⟩;cases h;exact⟨rfl,rfl⟩
  rintro _ rfl;refine z6B zq2 (fun e=>absurd (hc278.symm.trans e) (by decide)) ?_;obtain⟨q10,g,h⟩:=zC h;refine⟨_,_,_,_,_,_,_,_,⟨_,vS _ _ _ g⟩,?_⟩;cases h;exact⟨rfl,rfl⟩
 rintro _ rfl;refine zG zq2 h (fun _ h=>?_) (fun _ h=>?_)
 ·refine zV (e':=(List.length x.L:Int)) (by first|rfl|rw[zq3]) ?_;rintro _ rfl;refine zG zq2 h (fun _ h=>?_) (fun _ h=>?_)
  ·obtain⟨x8,hx,h⟩:=zC h;refine⟨zF (l:=x.L) (zA.sz),vZ hx,x8.K,x8.N,x8.S,List.map zA.toD x8.L,x8.From,x8.To,zL (zA.toD_eq x8) hx,?_⟩;refine zV (e':=(List.length x8.L:Int)) (by first|rfl|rw[zq3]) ?_;rintro _ rfl;refine zD decide_eq_true_iff h (fun _ h=>?_) (fun _ h=>?_)
   ·obtain⟨q21,g,h⟩:=zC h;refine⟨_,_,_,_,_,_,_,_,⟨_,vS _ _ _ g⟩,?_⟩;cases h;exact⟨rfl,rfl⟩
   obtain⟨x9,hx,h⟩:=zC h;refine⟨zF (l:=x.L) (zA.sz),vZ hx,x9.K,x9.N,x9.S,List.map zA.toD x9.L,x9.From,x9.To,zL (zA.toD_eq x9) hx,?_⟩;obtain⟨q22,g,h⟩:=zC h;refine⟨_,_,_,_,_,_,⟨_,z3I _ _ g⟩,?_⟩;rintro _ rfl;refine zD zq2 h (fun _ h=>?_) (fun _ h=>?_)
   ·obtain⟨q23,g,h⟩:=zC h;refine⟨_,_,_,_,_,_,_,_,⟨_,vS _ _ _ g⟩,?_⟩;cases h;exact⟨rfl,rfl⟩
   obtain⟨x10,hx,h⟩:=zC h;refine⟨zF (l:=x.L) (zA.sz),vZ hx,x10.K,x10.N,x10.S,List.map zA.toD x10.L,x10.From,x10.To,zL (zA.toD_eq x10) hx,?_⟩;rintro _ rfl;refine zD zq2 h (fun _ h=>?_) (fun _ h=>?_)
   ·obtain⟨x11,hx,h⟩:=zC h;refine⟨zF (l:=x.L) (zA.sz),vZ hx,x11.K,x11.N,x11.S,List.map zA.toD x11.L,x11.From,x11.To,zL (zA.toD_eq x11) hx,?_⟩;rintro _ rfl;refine zG zq2 h (fun _ h=>?_) (fun _ h=>?_)
    ·obtain⟨q26,g,h⟩:=zC h;refine⟨_,_,_,_,_,_,⟨_,gF _ _ g⟩,?_⟩;cases h;exact⟨rfl,rfl⟩
    obtain⟨x12,hx,h⟩:=zC h;refine⟨zF (l:=x.L) (zA.sz),vZ hx,x12.K,x12.N,x12.S,List.map zA.toD x12.L,x12.From,x12.To,zL (zA.toD_eq x12) hx,?_⟩;rintro _ rfl;refine zG zq2 h (fun _ h=>?_) (fun _ h=>?_)
    ·obtain⟨q25,g,h⟩:=zC h;refine⟨_,_,_,_,_,_,⟨_,gF _ _ g⟩,?_⟩;cases h;exact⟨rfl,rfl⟩
    obtain⟨q24,g,h⟩:=zC h;refine⟨_,_,_,_,_,_,_,_,⟨_,vS _ _ _ g⟩,?_⟩;cases h;exact⟨rfl,rfl⟩
   obtain⟨q27,g,h⟩:=zC h;refine⟨_,_,_,_,_,_,⟨_,gF _ _ g⟩,?_⟩;cases h;exact⟨rfl,rfl⟩
  obtain⟨q20,g,h⟩:=zC h;refine⟨_,_,_,_,_,_,_,_,⟨_,vS _ _ _ g⟩,?_⟩;cases h;exact⟨rfl,rfl⟩
 obtain⟨q19,g,h⟩:=zC h;refine⟨_,_,_,_,_,_,_,_,⟨_,vS _ _ _ g⟩,?_⟩;cases h;exact⟨rfl,rfl⟩
def z6N:(i:z1U)→z3Y i→Prop
 |.yI i m o2 K N S L From To,r=>Ok (z6k (Trip Tryz.prog) [.d (tT r.1),(nI r.2.1),(nI r.2.2)] []) (kL Tryz.f59 5) ⟨46,[(1,.ref 1 1 0),(2,.ref 2 1 0),(5,.hp 0 0),(6,(nI i))],[(1,1,some (.agg (tT m))),(2,1,some (.agg (tT o2)))],[(hM K N S (List.map zA.toD L) From To)],0⟩
theorem y1R:∀i r,uQ z1N i=some r→z6N i r:=by
 refine zP z6F fun g ih i=>?_;cases i with
 |yI i m o2 K N S L From To=>
  have v8Q:=fun i m o2 K N S L From To r h=>ih (.yI i m o2 K N S L From To) r h;intro r h;replace h:jO (fun i m o2 K N S L From To=>g (z1U.yI i m o2 K N S L From To)) i m o2 K N S L From To=some r:=h;unfold jO at h;refine uZ 1000 (y2j _ _ _ _ i m o2 K N S L From To) ?_;refine zV (e':=(List.length m.L:Int)) (by first|rfl|rw[zq3]) ?_;rintro _ rfl;refine zD decide_eq_true_iff h (fun _ h=>?_) (fun _ h=>?_)
  ·obtain⟨q1,g,h⟩:=zC h;refine⟨_,_,_,_,_,_,_,_,⟨_,v0d _ _ _ g⟩,?_⟩;rintro _ rfl;refine zG zq2 h (fun _ h=>?_) (fun _ h=>?_)
   ·refine⟨by simp[zE,D.cells],?_⟩;refine⟨by first|rfl|decide|simp only[zq3,List.length_cons,List.length_nil,List.map_append,List.length_append],?_⟩;obtain⟨hP,h⟩:=uP h;refine⟨by first|exact hP|simpa using hP,?_⟩;refine zV (e':=List.map zA.toD (L++[q1.T_])) (by first|rfl|simp only[List.map_append,List.map_cons,List.map_nil,List.map_take,List.map_drop,List.map_set,List.map_replicate,zq3,zA.toD_eq]) ?_
    refine⟨by first|rfl|decide|simp only[zq3,List.length_cons,List.length_nil,List.map_append,List.length_append],?_⟩;rintro _ rfl;exact v8Q _ _ _ _ _ _ _ _ _ _ h
   cases h;exact⟨rfl,rfl⟩
  cases h;exact⟨rfl,rfl⟩
theorem y1Z(i:Int)(m o2:zA)(K N:Int)(S:Str)(L:List zA)(From To:Int)(r:zA×Int×Int)(h:yI i m o2 K N S L From To=some r):z6N (.yI i m o2 K N S L From To) r:=y1R (.yI i m o2 K N S L From To) r h
theorem y6j(m:zA)(r:zA×Int×Int)(h:z6w m=some r):Trip Tryz.prog 59 [.d (tT m)] [] [.d (tT r.1),(nI r.2.1),(nI r.2.2)] []:=by
 unfold z6w at h;refine zI 1000 (y6F _ _ _ _ m) ?_;rintro _ rfl;refine zG zq2 h (fun _ h=>?_) (fun _ h=>?_)
 ·exact y1Z _ _ _ _ _ _ _ _ _ _ h
 cases h;exact⟨rfl,rfl⟩
theorem y7S(m:zA)(r:Bool)(h:z5L m=some r):Trip Tryz.prog 24 [.d (tT m)] [] [(nB r)] []:=by
 unfold z5L at h;refine zI 1000 (y8L _ _ _ _ m) ?_;obtain⟨q1,g,h⟩:=zC h;refine⟨_,_,_,_,_,_,_,_,⟨_,y6j _ _ g⟩,?_⟩;rintro _ rfl;refine zD zq2 h (fun _ h=>?_) (fun _ h=>?_)
 ·obtain⟨q2,g,h⟩:=zC h;refine⟨_,⟨_,z9U _ _ _ g⟩,?_⟩;cases h;exact⟨rfl,rfl⟩
 cases h;exact⟨rfl,rfl⟩
def z6P:(i:z1W)→z4a i→Prop
 |.yJ out l i,r=>Ok (z3R (Trip Tryz.prog) [.d (.sl (List.map zA.toD r))] []) (kL Tryz.f165 10) ⟨53,[(5,.right 9 1 6 (List.map zA.toD out)),(7,.d (.sl (List.map zA.toD l))),(8,(nI i))],[(9,1,some (.tok 6 (List.length (List.map zA.toD out))))],[],0⟩
theorem y1T:∀i r,uQ z1P i=some r→z6P i r:=by
 refine zP z6H fun g ih i=>?_;cases i with
 |yJ out l i=>
  have v9c:=fun out l i r h=>ih (.yJ out l i) r h;intro r h;replace h:jQ (fun out l i=>g (z1W.yJ out l i)) out l i=some r:=h;unfold jQ at h;refine uZ 1000 (y2l _ _ _ _ out l i) ?_;refine zV (e':=(List.length l:Int)) (by first|rfl|rw[zq3]) ?_;rintro _ rfl;refine zD decide_eq_true_iff h (fun _ h=>?_) (fun _ h=>?_)
  ·obtain⟨x,hx,h⟩:=zC h;refine⟨zF (l:=l) (zA.sz),vZ hx,x.K,x.N,x.S,List.map zA.toD x.L,x.From,x.To,zL (zA.toD_eq x) hx,?_⟩;obtain⟨x1,hx,h⟩:=zC h;refine⟨zF (l:=x.L) (zA.sz),vZ hx,x1.K,x1.N,x1.S,List.map zA.toD x1.L,x1.From,x1.To,zL (zA.toD_eq x1) hx,?_⟩;refine⟨by simp[zE,D.cells],?_⟩;refine⟨by first|rfl|decide|simp only[zq3,List.length_cons,List.length_nil,List.map_append,List.length_append],?_⟩;obtain⟨hP,h⟩:=uP h;refine⟨by first|exact hP|simpa using hP,?_⟩
   refine zV (e':=List.map zA.toD (out++[x1])) (by first|rfl|simp only[List.map_append,List.map_cons,List.map_nil,List.map_take,List.map_drop,List.map_set,List.map_replicate,zq3,zA.toD_eq]) ?_;rintro _ rfl;exact v9c _ _ _ _ h
  cases h;exact⟨rfl,rfl⟩
theorem z6S(out l:List zA)(i:Int)(r:List zA)(h:yJ out l i=some r):z6P (.yJ out l i) r:=y1T (.yJ out l i) r h
def z7s:(i:z2M)→z4E i→Prop
 |.vG out i m t,r=>Ok (z3R (Trip Tryz.prog) [.d (.sl (List.map zA.toD r))] []) (kL Tryz.f165 4) ⟨53,[(2,.ref 2 1 0),(3,.ref 3 1 0),(5,.right 9 1 6 (List.map zA.toD out)),(6,(nI i))],[(2,1,some (.agg (tT m))),(3,1,some (.agg (tT t))),(9,1,some (.tok 6 (List.length (List.map zA.toD out))))],[],0⟩
theorem y2I:∀i r,uQ z2F i=some r→z7s i r:=by
 refine zP z7k fun g ih i=>?_;cases i with
 |vG out i m t=>
  have v9d:=fun out i m t r h=>ih (.vG out i m t) r h;intro r h;replace h:gU (fun out i m t=>g (z2M.vG out i m t)) out i m t=some r:=h;unfold gU at h;refine uZ 1000 (y3P _ _ _ _ out i m t) ?_;rintro _ rfl;refine zD decide_eq_true_iff h (fun _ h=>?_) (fun _ h=>?_)
  ·obtain⟨x,hx,h⟩:=zC h;refine⟨zF (l:=t.L) (zA.sz),vZ hx,x.K,x.N,x.S,List.map zA.toD x.L,x.From,x.To,zL (zA.toD_eq x) hx,?_⟩;refine⟨by simp[zE,D.cells],?_⟩;refine⟨by first|rfl|decide|simp only[zq3,List.length_cons,List.length_nil,List.map_append,List.length_append],?_⟩;obtain⟨hP,h⟩:=uP h;refine⟨by first|exact hP|simpa using hP,?_⟩
   refine zV (e':=List.map zA.toD (out++[x])) (by first|rfl|simp only[List.map_append,List.map_cons,List.map_nil,List.map_take,List.map_drop,List.map_set,List.map_replicate,zq3,zA.toD_eq]) ?_;rintro _ rfl;exact v9d _ _ _ _ _ h
  rintro _ rfl;refine zD zq2 h (fun _ h=>?_) (fun _ h=>?_)
  ·obtain⟨x1,hx,h⟩:=zC h;refine⟨zF (l:=m.L) (zA.sz),vZ hx,x1.K,x1.N,x1.S,List.map zA.toD x1.L,x1.From,x1.To,zL (zA.toD_eq x1) hx,?_⟩;exact z6S _ _ _ _ h
  cases h;exact⟨rfl,rfl⟩
theorem y3e(out:List zA)(i:Int)(m t:zA)(r:List zA)(h:vG out i m t=some r):z7s (.vG out i m t) r:=y2I (.vG out i m t) r h
theorem z3P(m t:zA)(r:List zA)(h:z1z m t=some r):Trip Tryz.prog 165 [.d (tT m),.d (tT t)] [] [.d (.sl (List.map zA.toD r))] []:=by
 unfold z1z at h;refine zI 1000 (y8Q _ _ _ _ m t) ?_;rintro _ rfl;refine zD zq2 h (fun _ h=>?_) (fun _ h=>?_)
 ·exact y3e _ _ _ _ _ h
 rintro _ rfl;refine zD zq2 h (fun _ h=>?_) (fun _ h=>?_)
 ·obtain⟨x,hx,h⟩:=zC h;refine⟨zF (l:=m.L) (zA.sz),vZ hx,x.K,x.N,x.S,List.map zA.toD x.L,x.From,x.To,zL (zA.toD_eq x) hx,?_⟩;exact z6S _ _ _ _ h
 cases h;exact⟨rfl,rfl⟩
def y2Q:(i:z1b)→z9l i→Prop
 |.uD m t v,r=>Trip Tryz.prog 103 [.d (tT m),.d (tT t),.d (tV v)] [] [(nB r)] []
 |.yH p i m v,r=>Ok (z9x (Trip Tryz.prog) [(nB r)] []) (kL Tryz.f103 9) ⟨68,[(3,.ref 3 1 0),(5,.ref 5 1 0),(7,.d (.sl (List.map zA.toD p))),(8,(nI i))],[(3,1,some (.agg (tT m))),(5,1,some (.agg (tV v)))],[],0⟩
theorem y9U:∀i r,uQ z3j i=some r→y2Q i r:=by
 refine zP z9d fun g ih i=>?_;cases i with
 |uD m t v=>
  have v9a:=fun p i m v r h=>ih (.yH p i m v) r h;intro r h;replace h:z3z (fun p i m v=>g (z1b.yH p i m v)) m t v=some r:=h;unfold z3z at h;refine zI 1000 (v0M _ _ _ _ m t v) ?_;obtain⟨q1,g,h⟩:=zC h;refine⟨_,⟨_,z0C _ _ _ g⟩,?_⟩;rintro _ rfl;refine zD zq2 h (fun _ h=>?_) (fun _ h=>?_)
  ·cases h;exact⟨rfl,rfl⟩
  rintro _ rfl;refine zD zq2 h (fun hc298 h=>?_) (fun hc298 h=>?_)
  ·rintro _ rfl;refine zG zq2 h (fun _ h=>?_) (fun _ h=>?_)
   ·rintro _ rfl;refine v2f zq2 hc298 ?_;obtain⟨q7,g,h⟩:=zC h;refine⟨_,⟨_,z3P _ _ _ g⟩,?_⟩;refine zV (e':=(List.length q7:Int)) (by first|rfl|rw[zq3]) ?_;refine zV (e':=(List.length v.L:Int)) (by first|rfl|rw[zq3]) ?_;rintro _ rfl;refine zG zq2 h (fun _ h=>?_) (fun _ h=>?_)
    ·exact v9a _ _ _ _ _ h
    cases h;exact⟨rfl,rfl⟩
   rintro _ rfl;refine zG zq2 h (fun _ h=>?_) (fun _ h=>?_)
   ·rintro _ rfl;refine v2f zq2 hc298 ?_;obtain⟨q4,g,h⟩:=zC h;refine⟨_,⟨_,z3P _ _ _ g⟩,?_⟩;refine zV (e':=(List.length q4:Int)) (by first|rfl|rw[zq3]) ?_;refine zV (e':=(List.length v.L:Int)) (by first|rfl|rw[zq3]) ?_;rintro _ rfl;refine zG zq2 h (fun _ h=>?_) (fun _ h=>?_)
    ·exact v9a _ _ _ _ _ h
    cases h;exact⟨rfl,rfl⟩
   cases h;exact⟨rfl,rfl⟩
  rintro _ rfl;refine z6B zq2 hc298 ?_;rintro _ rfl;refine zG zq2 h (fun _ h=>?_) (fun _ h=>?_)
  ·obtain⟨q9,g,h⟩:=zC h;refine⟨_,⟨_,z3P _ _ _ g⟩,?_⟩;refine zV (e':=(List.length q9:Int)) (by first|rfl|rw[zq3]) ?_;refine zV (e':=(List.length v.L:Int)) (by first|rfl|rw[zq3]) ?_;rintro _ rfl;refine zG zq2 h (fun _ h=>?_) (fun _ h=>?_)
   ·exact v9a _ _ _ _ _ h
   cases h;exact⟨rfl,rfl⟩
  rintro _ rfl;refine zG zq2 h (fun _ h=>?_) (fun _ h=>?_)
  ·obtain⟨q8,g,h⟩:=zC h;refine⟨_,⟨_,z3P _ _ _ g⟩,?_⟩;refine zV (e':=(List.length q8:Int)) (by first|rfl|rw[zq3]) ?_;refine zV (e':=(List.length v.L:Int)) (by first|rfl|rw[zq3]) ?_;rintro _ rfl;refine zG zq2 h (fun _ h=>?_) (fun _ h=>?_)
   ·exact v9a _ _ _ _ _ h
   cases h;exact⟨rfl,rfl⟩
  cases h;exact⟨rfl,rfl⟩
 |yH p i m v=>
  have v8Z:=fun m t v r h=>ih (.uD m t v) r h;have v9a:=fun p i m v r h=>ih (.yH p i m v) r h;intro r h;replace h:z0q (fun m t v=>g (z1b.uD m t v)) (fun p i m v=>g (z1b.yH p i m v)) p i m v=some r:=h;unfold z0q at h;refine uZ 1000 (y5e _ _ _ _ p i m v) ?_;refine zV (e':=(List.length p:Int)) (by first|rfl|rw[zq3]) ?_;rintro _ rfl;refine zD decide_eq_true_iff h (fun _ h=>?_) (fun _ h=>?_)
  ·obtain⟨x,hx,h⟩:=zC h;refine⟨zF (l:=p) (zA.sz),vZ hx,x.K,x.N,x.S,List.map zA.toD x.L,x.From,x.To,zL (zA.toD_eq x) hx,?_⟩;obtain⟨x1,hx,h⟩:=zC h;refine⟨zF (l:=v.L) (Value.sz),vZ hx,x1.N,List.map Value.toD x1.L,zL (Value.toD_eq x1) hx,?_⟩;obtain⟨q1,g,h⟩:=zC h;refine⟨_,⟨_,v8Z _ _ _ _ g⟩,?_⟩;refine zG Iff.rfl h (fun _ h=>?_) (fun _ h=>?_)
   ·rintro _ rfl;exact v9a _ _ _ _ _ h
   cases h;exact⟨rfl,rfl⟩
  cases h;exact⟨rfl,rfl⟩
theorem y3d(m t:zA)(v:Value)(r:Bool)(h:uD m t v=some r):y2Q (.uD m t v) r:=y9U (.uD m t v) r h
def z9S:(i:z4n)→z6e i→Prop
 |.wI types l i m,r=>Ok (y0W (Trip Tryz.prog) [(nB r)] []) (kL Tryz.f52 4) ⟨30,[(1,.d (.sl (List.map zA.toD types))),(2,.d (.sl (List.map Value.toD l))),(3,.ref 3 1 0),(7,(nI i))],[(3,1,some (.agg (tT m)))],[],0⟩
theorem y6c:∀i r,uQ z4k i=some r→z9S i r:=by
 refine zP z9N fun g ih i=>?_;cases i with
 |wI types l i m=>
  have v9m:=fun types l i m r h=>ih (.wI types l i m) r h;intro r h;replace h:z0P (fun types l i m=>g (z4n.wI types l i m)) types l i m=some r:=h;unfold z0P at h;refine uZ 1000 (y6J _ _ _ _ types l i m) ?_;refine zV (e':=(List.length l:Int)) (by first|rfl|rw[zq3]) ?_;rintro _ rfl;refine zD decide_eq_true_iff h (fun _ h=>?_) (fun _ h=>?_)
  ·obtain⟨x,hx,h⟩:=zC h;refine⟨zF (l:=types) (zA.sz),vZ hx,x.K,x.N,x.S,List.map zA.toD x.L,x.From,x.To,zL (zA.toD_eq x) hx,?_⟩;obtain⟨x1,hx,h⟩:=zC h;refine⟨zF (l:=l) (Value.sz),vZ hx,x1.N,List.map Value.toD x1.L,zL (Value.toD_eq x1) hx,?_⟩;obtain⟨q1,g,h⟩:=zC h;refine⟨_,⟨_,y3d _ _ _ _ g⟩,?_⟩;refine zG Iff.rfl h (fun _ h=>?_) (fun _ h=>?_)
   ·rintro _ rfl;exact v9m _ _ _ _ _ h
   cases h;exact⟨rfl,rfl⟩
  cases h;exact⟨rfl,rfl⟩
theorem y6l(types:List zA)(l:List Value)(i:Int)(m:zA)(r:Bool)(h:wI types l i m=some r):z9S (.wI types l i m) r:=y6c (.wI types l i m) r h
theorem v2n(m:zA)(types:List zA)(l:List Value)(r:Bool)(h:y0w m types l=some r):Trip Tryz.prog 52 [.d (tT m),.d (.sl (List.map zA.toD types)),.d (.sl (List.map Value.toD l))] [] [(nB r)] []:=by
 unfold y0w at h;refine zI 1000 (v2T _ _ _ _ m types l) ?_;refine zV (e':=(List.length types:Int)) (by first|rfl|rw[zq3]) ?_;refine zV (e':=(List.length l:Int)) (by first|rfl|rw[zq3]) ?_;rintro _ rfl;refine zG zq2 h (fun _ h=>?_) (fun _ h=>?_)
 ·exact y6l _ _ _ _ _ h
 cases h;exact⟨rfl,rfl⟩
theorem gI(b:Bool)(r:Int)(h:z0e b=some r):Trip Tryz.prog 176 [(nB b)] [] [(nI r)] []:=by
 unfold z0e at h;refine zI 1000 (v0P _ _ _ _ b) ?_;refine zD Iff.rfl h (fun _ h=>?_) (fun _ h=>?_)
 ·cases h;exact⟨rfl,rfl⟩
 cases h;exact⟨rfl,rfl⟩
theorem v2l(op a r:Int)(h:z1A op a=some r):Trip Tryz.prog 115 [(nI op),(nI a)] [] [(nI r)] []:=by
 unfold z1A at h;refine zI 1000 (v2R _ _ _ _ op a) ?_;rintro _ rfl;refine zD zq2 h (fun _ h=>?_) (fun _ h=>?_)
 ·rintro _ rfl;rintro _ rfl;rintro _ rfl;cases h;exact⟨rfl,rfl⟩
 rintro _ rfl;refine zD zq2 h (fun _ h=>?_) (fun _ h=>?_)
 ·rintro _ rfl;obtain⟨q1,g,h⟩:=zC h;refine⟨_,⟨_,gI _ _ g⟩,?_⟩;cases h;exact⟨rfl,rfl⟩
 cases h;exact⟨rfl,rfl⟩
def y2S:(i:z1d)→z9n i→Prop
 |.yY m t,r=>Trip Tryz.prog 177 [.d (tT m),.d (tT t)] [] [.d (tV r)] []
 |.yZ p i m o4 N L,r=>Ok (z9z (Trip Tryz.prog) [.d (tV r)] []) (kL Tryz.f177 6) ⟨35,[(2,.ref 2 1 0),(4,.ref 4 1 0),(5,.hp 0 0),(6,.d (.sl (List.map zA.toD p))),(7,(nI i))],[(2,1,some (.agg (tT m))),(4,1,some (.agg (tV o4)))],[[(nI N),.own 2 (List.map Value.toD L)]],0⟩
theorem y9W:∀i r,uQ z3l i=some r→y2S i r:=by
 refine zP z9f fun g ih i=>?_;cases i with
 |yY m t=>
  have v9j:=fun p i m o4 N L r h=>ih (.yZ p i m o4 N L) r h;intro r h;replace h:z2e (fun p i m o4 N L=>g (z1d.yZ p i m o4 N L)) m t=some r:=h;unfold z2e at h;refine zI 1000 (v0O _ _ _ _ m t) ?_;obtain⟨q1,g,h⟩:=zC h;refine⟨_,⟨_,z0C _ _ _ g⟩,?_⟩;rintro _ rfl;refine zD zq2 h (fun _ h=>?_) (fun _ h=>?_)
  ·cases h;exact⟨rfl,rfl⟩
  obtain⟨q2,g,h⟩:=zC h;refine⟨_,⟨_,z3P _ _ _ g⟩,?_⟩;exact v9j _ _ _ _ _ _ _ h
 |yZ p i m o4 N L=>
  have v9i:=fun m t r h=>ih (.yY m t) r h;have v9j:=fun p i m o4 N L r h=>ih (.yZ p i m o4 N L) r h;intro r h;replace h:jG (fun m t=>g (z1d.yY m t)) (fun p i m o4 N L=>g (z1d.yZ p i m o4 N L)) p i m o4 N L=some r:=h;unfold jG at h;refine uZ 1000 (y5g _ _ _ _ p i m o4 N L) ?_;refine zV (e':=(List.length p:Int)) (by first|rfl|rw[zq3]) ?_;rintro _ rfl;refine zD decide_eq_true_iff h (fun _ h=>?_) (fun _ h=>?_)
  ·obtain⟨x,hx,h⟩:=zC h;refine⟨zF (l:=p) (zA.sz),vZ hx,x.K,x.N,x.S,List.map zA.toD x.L,x.From,x.To,zL (zA.toD_eq x) hx,?_⟩;obtain⟨q1,g,h⟩:=zC h;refine⟨_,_,⟨_,v9i _ _ _ g⟩,?_⟩;refine⟨by simp[zE,D.cells],?_⟩;refine⟨by first|rfl|decide|simp only[zq3,List.length_cons,List.length_nil,List.map_append,List.length_append],?_⟩;obtain⟨hP,h⟩:=uP h;refine⟨by first|exact hP|simpa using hP,?_⟩
   refine zV (e':=List.map Value.toD (L++[q1])) (by first|rfl|simp only[List.map_append,List.map_cons,List.map_nil,List.map_take,List.map_drop,List.map_set,List.map_replicate,zq3,Value.toD_eq]) ?_;refine⟨by first|rfl|decide|simp only[zq3,List.length_cons,List.length_nil,List.map_append,List.length_append],?_⟩;rintro _ rfl;exact v9j _ _ _ _ _ _ _ h
  cases h;exact⟨rfl,rfl⟩
theorem y3f(m t:zA)(r:Value)(h:yY m t=some r):y2S (.yY m t) r:=y9W (.yY m t) r h
theorem z5b(s:State)(r:Ref21Got)(h:z1D s=some r):Trip Tryz.prog 110 [.d (tS s)] [] [.d (tG r)] []:=by
 unfold z1D at h;refine zI 1000 (y8T _ _ _ _ s) ?_;cases h;exact⟨rfl,rfl⟩
theorem y5C(s:State)(n:Int)(r:State)(h:z3L s n=some r):Trip Tryz.prog 195 [.d (tS s),(nI n)] [] [.d (tS r)] []:=by
 unfold z3L at h;refine zI 1000 (v2U _ _ _ _ s n) ?_;refine⟨zF (l:=s.Locals) (Value.sz),?_⟩;obtain⟨hP,h⟩:=uP h;refine⟨by first|exact hP|simpa using hP,?_⟩;obtain⟨hP,h⟩:=uP h;refine⟨by first|exact hP|simpa using hP,?_⟩;obtain⟨hP,h⟩:=uP h;refine⟨by first|exact hP|simpa using hP,?_⟩
 refine zV (e':=List.map Value.toD (List.drop 0 (List.take (Int.toNat n) s.Locals))) (by first|rfl|simp only[List.map_append,List.map_cons,List.map_nil,List.map_take,List.map_drop,List.map_set,List.map_replicate,zq3,Value.toD_eq]) ?_;cases h;exact⟨rfl,rfl⟩
theorem z7F(s:State)(v:Value)(r:State)(h:z2x s v=some r):Trip Tryz.prog 196 [.d (tS s),.d (tV v)] [] [.d (tS r)] []:=by
 unfold z2x at h;refine zI 1000 (y8V _ _ _ _ s v) ?_;refine⟨zF (l:=s.Locals) (Value.sz),?_⟩;refine⟨by first|rfl|decide|simp only[zq3,List.length_cons,List.length_nil,List.map_append,List.length_append],?_⟩;obtain⟨hP,h⟩:=uP h;refine⟨by first|exact hP|simpa using hP,?_⟩;refine zV (e':=List.map Value.toD (([]:List Value)++s.Locals)) (by first|rfl|simp only[List.map_append,List.map_cons,List.map_nil,List.map_take,List.map_drop,List.map_set,List.map_replicate,zq3,Value.toD_eq]) ?_
 refine⟨by simp[zE,D.cells],?_⟩;refine⟨by first|rfl|decide|simp only[zq3,List.length_cons,List.length_nil,List.map_append,List.length_append],?_⟩;obtain⟨hP,h⟩:=uP h;refine⟨by first|exact hP|simpa using hP,?_⟩;refine zV (e':=List.map Value.toD ((([]:List Value)++s.Locals)++[v])) (by first|rfl|simp only[List.map_append,List.map_cons,List.map_nil,List.map_take,List.map_drop,List.map_set,List.map_replicate,zq3,Value.toD_eq]) ?_;cases h;exact⟨rfl,rfl⟩
theorem y0Q(s r:State)(h:z0R s=some r):Trip Tryz.prog 109 [.d (tS s)] [] [.d (tS r)] []:=by
 unfold z0R at h;refine zI 1000 (v2X _ _ _ _ s) ?_;rintro _ rfl;refine zD zq2 h (fun hc317 h=>?_) (fun hc317 h=>?_)
 ·rintro _ rfl;refine zD decide_eq_true_iff h (fun _ h=>?_) (fun _ h=>?_)
  ·cases h;exact⟨rfl,rfl⟩
  rintro _ rfl;refine z2g zq2 hc317 ?_;rintro _ rfl;cases h;exact⟨rfl,rfl⟩
 rintro _ rfl;refine jE zq2 hc317 ?_;cases h;exact⟨rfl,rfl⟩
def y5y:(i:z2l)→y0K i→Prop
 |.wO v way x,r=>Trip Tryz.prog 245 [.d (tV v),.d (.sl (List.map (D.int .i64) way)),.d (tV x)] [] [.d (tV r)] []
 |.vW way out i v x o6,r=>Ok (y0V (Trip Tryz.prog) [.d (tV r)] []) (kL Tryz.f245 5) ⟨50,[(1,.d (.sl (List.map (D.int .i64) way))),(3,.ref 3 1 0),(5,.ref 5 1 0),(6,.ref 6 1 0),(7,.right 13 1 2 (List.map Value.toD out)),(8,(nI i))],[(3,1,some (.agg (tV v))),(5,1,some (.agg (tV x))),(6,1,some (.agg (tV o6))),(13,1,some (.tok 2 (List.length (List.map Value.toD out))))],[],0⟩
theorem v2i:∀i r,uQ z4s i=some r→y5y i r:=by
 refine zP y0H fun g ih i=>?_;cases i with
 |wO v way x=>
  have v9h:=fun way out i v x o6 r h=>ih (.vW way out i v x o6) r h;intro r h;replace h:z3B (fun way out i v x o6=>g (z2l.vW way out i v x o6)) v way x=some r:=h;unfold z3B at h;refine zI 1000 (v2Q _ _ _ _ v way x) ?_;refine zV (e':=(List.length way:Int)) (by first|rfl|rw[zq3]) ?_;rintro _ rfl;refine zD zq2 h (fun _ h=>?_) (fun _ h=>?_)
  ·cases h;exact⟨rfl,rfl⟩
  exact v9h _ _ _ _ _ _ _ h
 |vW way out i v x o6=>
  have v9g:=fun v way x r h=>ih (.wO v way x) r h;have v9h:=fun way out i v x o6 r h=>ih (.vW way out i v x o6) r h;intro r h;replace h:z0O (fun v way x=>g (z2l.wO v way x)) (fun way out i v x o6=>g (z2l.vW way out i v x o6)) way out i v x o6=some r:=h;unfold z0O at h;refine uZ 1000 (y6H _ _ _ _ way out i v x o6) ?_;refine zV (e':=(List.length v.L:Int)) (by first|rfl|rw[zq3]) ?_;rintro _ rfl;refine zD decide_eq_true_iff h (fun _ h=>?_) (fun _ h=>?_)
  ·obtain⟨x1,hx,h⟩:=zC h;refine⟨zF (l:=way) (fun _=>rfl),vZ hx,x1,zL rfl hx,?_⟩;rintro _ rfl;refine zD zq2 h (fun _ h=>?_) (fun _ h=>?_)
   ·obtain⟨x2,hx,h⟩:=zC h;refine⟨zF (l:=v.L) (Value.sz),vZ hx,x2.N,List.map Value.toD x2.L,zL (Value.toD_eq x2) hx,?_⟩;refine⟨zF (l:=way) (fun _=>rfl),?_⟩;obtain⟨hP,h⟩:=uP h;refine⟨by first|exact hP|simpa using hP,?_⟩;obtain⟨hP,h⟩:=uP h;refine⟨by first|exact hP|simpa using hP,?_⟩;obtain⟨hP,h⟩:=uP h;refine⟨by first|exact hP|simpa using hP,?_⟩
    refine zV (e':=List.map (D.int .i64) (List.drop (Int.toNat 1) (List.take (List.length way) way))) (by first|rfl|simp only[List.map_append,List.map_cons,List.map_nil,List.map_take,List.map_drop,List.map_set,List.map_replicate,zq3]) ?_;obtain⟨q1,g,h⟩:=zC h;refine⟨_,_,⟨_,v9g _ _ _ _ g⟩,?_⟩;refine⟨by simp[zE,D.cells],?_⟩;refine⟨by first|rfl|decide|simp only[zq3,List.length_cons,List.length_nil,List.map_append,List.length_append],?_⟩;obtain⟨hP,h⟩:=uP h;refine⟨by first|exact hP|simpa using hP,?_⟩
    refine zV (e':=List.map Value.toD (out++[q1])) (by first|rfl|simp only[List.map_append,List.map_cons,List.map_nil,List.map_take,List.map_drop,List.map_set,List.map_replicate,zq3,Value.toD_eq]) ?_;rintro _ rfl;exact v9h _ _ _ _ _ _ _ h
   obtain⟨x3,hx,h⟩:=zC h;refine⟨zF (l:=v.L) (Value.sz),vZ hx,x3.N,List.map Value.toD x3.L,zL (Value.toD_eq x3) hx,?_⟩;refine⟨by simp[zE,D.cells],?_⟩;refine⟨by first|rfl|decide|simp only[zq3,List.length_cons,List.length_nil,List.map_append,List.length_append],?_⟩;obtain⟨hP,h⟩:=uP h;refine⟨by first|exact hP|simpa using hP,?_⟩
   refine zV (e':=List.map Value.toD (out++[x3])) (by first|rfl|simp only[List.map_append,List.map_cons,List.map_nil,List.map_take,List.map_drop,List.map_set,List.map_replicate,zq3,Value.toD_eq]) ?_;rintro _ rfl;exact v9h _ _ _ _ _ _ _ h
  cases h;exact⟨rfl,rfl⟩
theorem y5B(v:Value)(way:List Int)(x r:Value)(h:wO v way x=some r):y5y (.wO v way x) r:=v2i (.wO v way x) r h
theorem y3j(l:List Value)(at_:Int)(v:Value)(r:List Value)(h:z3U l at_ v=some r):Trip Tryz.prog 244 [.d (.sl (List.map Value.toD l)),(nI at_),.d (tV v)] [] [.d (.sl (List.map Value.toD r))] []:=by
 unfold z3U at h;refine zI 1000 (v0U _ _ _ _ l at_ v) ?_;refine⟨zF (l:=l) (Value.sz),?_⟩;obtain⟨hP,h⟩:=uP h;refine⟨by first|exact hP|simpa using hP,?_⟩;obtain⟨hP,h⟩:=uP h;refine⟨by first|exact hP|simpa using hP,?_⟩;obtain⟨hP,h⟩:=uP h;refine⟨hP.1,by first|exact hP.2|(simp only[zq3]at hP ⊢;exact hP.2),?_⟩;obtain⟨hP,h⟩:=uP h;refine⟨by first|exact hP|(rw[zq3];exact hP),?_⟩;refine zV (e':=List.map Value.toD (l.set (Int.toNat at_) v)) (v7G (Value.toD_eq v)) ?_;cases h;exact⟨rfl,rfl⟩
def y5x:(i:z8s)→y0J i→Prop
 |.uE v way,r=>Trip Tryz.prog 263 [.d (tV v),.d (.sl (List.map (D.int .i64) way))] [] [.d (tV r)] []
theorem v2h:∀i r,uQ z8r i=some r→y5x i r:=by
 refine zP y5w fun g ih i=>?_;cases i with
 |uE v way=>
  have v9b:=fun v way r h=>ih (.uE v way) r h;intro r h;replace h:z3A (fun v way=>g (z8s.uE v way)) v way=some r:=h;unfold z3A at h;refine zI 1000 (v2P _ _ _ _ v way) ?_;refine zV (e':=(List.length way:Int)) (by first|rfl|rw[zq3]) ?_;rintro _ rfl;refine zD zq2 h (fun _ h=>?_) (fun _ h=>?_)
  ·cases h;exact⟨rfl,rfl⟩
  obtain⟨x,hx,h⟩:=zC h;refine⟨zF (l:=way) (fun _=>rfl),vZ hx,x,zL rfl hx,?_⟩;obtain⟨x1,hx,h⟩:=zC h;refine⟨zF (l:=v.L) (Value.sz),vZ hx,x1.N,List.map Value.toD x1.L,zL (Value.toD_eq x1) hx,?_⟩;refine⟨zF (l:=way) (fun _=>rfl),?_⟩;obtain⟨hP,h⟩:=uP h;refine⟨by first|exact hP|simpa using hP,?_⟩;obtain⟨hP,h⟩:=uP h;refine⟨by first|exact hP|simpa using hP,?_⟩;obtain⟨hP,h⟩:=uP h;refine⟨by first|exact hP|simpa using hP,?_⟩
  refine zV (e':=List.map (D.int .i64) (List.drop (Int.toNat 1) (List.take (List.length way) way))) (by first|rfl|simp only[List.map_append,List.map_cons,List.map_nil,List.map_take,List.map_drop,List.map_set,List.map_replicate,zq3]) ?_;obtain⟨q1,g,h⟩:=zC h;refine⟨_,_,⟨_,v9b _ _ _ g⟩,?_⟩;cases h;exact⟨rfl,rfl⟩
theorem v2k(v:Value)(way:List Int)(r:Value)(h:uE v way=some r):y5x (.uE v way) r:=v2h (.uE v way) r h
theorem z3o(n:Int)(s:State)(r:Ref21Got)(h:z0g n s=some r):Trip Tryz.prog 112 [(nI n),.d (tS s)] [] [.d (tG r)] []:=by
 unfold z0g at h;refine zI 1000 (v0Y _ _ _ _ n s) ?_;cases h;exact⟨rfl,rfl⟩
theorem z2m(n:Int)(s:State)(r:Ref21Got)(h:z0Q n s=some r):Trip Tryz.prog 111 [(nI n),.d (tS s)] [] [.d (tG r)] []:=by
 unfold z0Q at h;refine zI 1000 (v2W _ _ _ _ n s) ?_;cases h;exact⟨rfl,rfl⟩
def z6Q:(i:z1X)→z4b i→Prop
 |.yE a b q left i,r=>Ok (z6m (Trip Tryz.prog) [.d (.int .u64 r.1),.d (.int .u64 r.2)] []) (kL Tryz.f260 4) ⟨39,[(0,.d (.int .u64 a)),(1,.d (.int .u64 b)),(6,.d (.int .u64 q)),(7,.d (.int .u64 left)),(8,(nI i))],[],[],0⟩
theorem y1U:∀i r,uQ z1Q i=some r→z6Q i r:=by
 refine zP z6I fun g ih i=>?_;cases i with
 |yE a b q left i=>
  have v9k:=fun a b q left i r h=>ih (.yE a b q left i) r h;intro r h;replace h:jR (fun a b q left i=>g (z1X.yE a b q left i)) a b q left i=some r:=h;unfold jR at h;refine uZ 1000 (y2m _ _ _ _ a b q left i) ?_;rintro _ rfl;refine zD decide_eq_true_iff h (fun _ h=>?_) (fun _ h=>?_)
  ·rintro _ rfl;rintro _ rfl;rintro _ rfl;obtain⟨hP,h⟩:=uP h;refine⟨by first|exact hP|simpa using hP,?_⟩;rintro _ rfl;obtain⟨hP,h⟩:=uP h;refine⟨by first|exact hP|simpa using hP,?_⟩;rintro _ rfl;rintro _ rfl;rintro _ rfl;refine zD decide_eq_true_iff h (fun _ h=>?_) (fun _ h=>?_)
   ·rintro _ rfl;rintro _ rfl;rintro _ rfl;exact v9k _ _ _ _ _ _ h
   rintro _ rfl;refine zD decide_eq_true_iff h (fun _ h=>?_) (fun _ h=>?_)
   ·rintro _ rfl;rintro _ rfl;rintro _ rfl;exact v9k _ _ _ _ _ _ h
   rintro _ rfl;exact v9k _ _ _ _ _ _ h
  cases h;exact⟨rfl,rfl⟩
theorem y2b(a b q left i:Int)(r:Int×Int)(h:yE a b q left i=some r):z6Q (.yE a b q left i) r:=y1U (.yE a b q left i) r h
theorem y6k(a b:Int)(r:Int×Int)(h:z4W a b=some r):Trip Tryz.prog 260 [.d (.int .u64 a),.d (.int .u64 b)] [] [.d (.int .u64 r.1),.d (.int .u64 r.2)] []:=by
 unfold z4W at h;refine zI 1000 (y6I _ _ _ _ a b) ?_;exact y2b _ _ _ _ _ _ h
theorem y3g(a r:Int)(h:z5P a=some r):Trip Tryz.prog 261 [(nI a)] [] [.d (.int .u64 r)] []:=by
 unfold z5P at h;refine zI 1000 (v0Q _ _ _ _ a) ?_;rintro _ rfl;refine zD decide_eq_true_iff h (fun _ h=>?_) (fun _ h=>?_)
 ·rintro _ rfl;rintro _ rfl;rintro _ rfl;rintro _ rfl;cases h;exact⟨rfl,rfl⟩
 rintro _ rfl;cases h;exact⟨rfl,rfl⟩
theorem z7E(a b:Int)(r:Int×Int)(h:z1B a b=some r):Trip Tryz.prog 232 [(nI a),(nI b)] [] [(nI r.1),(nI r.2)] []:=by
 unfold z1B at h;refine zI 1000 (y3Q _ _ _ _ a b) ?_;obtain⟨q1,g,h⟩:=zC h;refine⟨_,⟨_,y3g _ _ g⟩,?_⟩;obtain⟨q2,g,h⟩:=zC h;refine⟨_,⟨_,y3g _ _ g⟩,?_⟩;obtain⟨q3,g,h⟩:=zC h;refine⟨_,_,⟨_,y6k _ _ _ g⟩,?_⟩;rintro _ rfl;rintro _ rfl;rintro _ rfl;rintro _ rfl;rintro _ rfl;refine zG zq2 h (fun _ h=>?_) (fun _ h=>?_)
 ·rintro _ rfl;refine zD decide_eq_true_iff h (fun _ h=>?_) (fun _ h=>?_)
  ·rintro _ rfl;rintro _ rfl;cases h;exact⟨rfl,rfl⟩
  cases h;exact⟨rfl,rfl⟩
 rintro _ rfl;rintro _ rfl;rintro _ rfl;refine zD decide_eq_true_iff h (fun _ h=>?_) (fun _ h=>?_)
 ·rintro _ rfl;rintro _ rfl;cases h;exact⟨rfl,rfl⟩
 cases h;exact⟨rfl,rfl⟩
def z7t:(i:z2N)→z4F i→Prop
 |.yX x y out,r=>Ok (z7S (Trip Tryz.prog) [(nI r)] []) (kL Tryz.f231 4) ⟨27,[(5,.d (.int .u64 x)),(6,.d (.int .u64 y)),(7,.d (.int .u64 out))],[],[],0⟩
theorem y2J:∀i r,uQ z2G i=some r→z7t i r:=by
 refine zP z7l fun g ih i=>?_;cases i with
 |yX x y out=>
  have v9l:=fun x y out r h=>ih (.yX x y out) r h;intro r h;replace h:z0y (fun x y out=>g (z2N.yX x y out)) x y out=some r:=h;unfold z0y at h;refine uZ 1000 (y3R _ _ _ _ x y out) ?_;rintro _ rfl;refine zD decide_eq_true_iff h (fun _ h=>?_) (fun _ h=>?_)
  ·obtain⟨hP,h⟩:=uP h;refine⟨by first|exact hP|simpa using hP,?_⟩;rintro _ rfl;rintro _ rfl;refine zD zq2 h (fun _ h=>?_) (fun _ h=>?_)
   ·rintro _ rfl;rintro _ rfl;obtain⟨hP,h⟩:=uP h;refine⟨by first|exact hP|simpa using hP,?_⟩;rintro _ rfl;exact v9l _ _ _ _ h
   rintro _ rfl;obtain⟨hP,h⟩:=uP h;refine⟨by first|exact hP|simpa using hP,?_⟩;rintro _ rfl;exact v9l _ _ _ _ h
  rintro _ rfl;cases h;exact⟨rfl,rfl⟩
theorem y3h(x y out r:Int)(h:yX x y out=some r):z7t (.yX x y out) r:=y2J (.yX x y out) r h
theorem y7V(a b r:Int)(h:z5Q a b=some r):Trip Tryz.prog 231 [(nI a),(nI b)] [] [(nI r)] []:=by
 unfold z5Q at h;refine zI 1000 (y8R _ _ _ _ a b) ?_;rintro _ rfl;rintro _ rfl;exact y3h _ _ _ _ h
theorem v2m(op a b:Int)(r:Int×Int)(h:z2Z op a b=some r):Trip Tryz.prog 175 [(nI op),(nI a),(nI b)] [] [(nI r.1),(nI r.2)] []:=by
 unfold z2Z at h;refine zI 1000 (v2S _ _ _ _ op a b) ?_;rintro _ rfl;refine zD zq2 h (fun _ h=>?_) (fun _ h=>?_)
 ·rintro _ rfl;refine zD zq2 h (fun _ h=>?_) (fun _ h=>?_)
  ·rintro _ rfl;obtain⟨q1,g,h⟩:=zC h;refine⟨_,⟨_,gI _ _ g⟩,?_⟩;cases h;exact⟨rfl,rfl⟩
  obtain⟨q2,g,h⟩:=zC h;refine⟨_,⟨_,gI _ _ g⟩,?_⟩;cases h;exact⟨rfl,rfl⟩
 rintro _ rfl;refine zD zq2 h (fun _ h=>?_) (fun _ h=>?_)
 ·rintro _ rfl;refine zD zq2 h (fun _ h=>?_) (fun _ h=>?_)
  ·obtain⟨q3,g,h⟩:=zC h;refine⟨_,⟨_,gI _ _ g⟩,?_⟩;cases h;exact⟨rfl,rfl⟩
  rintro _ rfl;obtain⟨q4,g,h⟩:=zC h;refine⟨_,⟨_,gI _ _ g⟩,?_⟩;cases h;exact⟨rfl,rfl⟩
 rintro _ rfl;refine zD zq2 h (fun _ h=>?_) (fun _ h=>?_)
 ·rintro _ rfl;rintro _ rfl;rintro _ rfl;obtain⟨q5,g,h⟩:=zC h;refine⟨_,⟨_,gI _ _ g⟩,?_⟩;cases h;exact⟨rfl,rfl⟩
 rintro _ rfl;refine zD zq2 h (fun _ h=>?_) (fun _ h=>?_)
 ·rintro _ rfl;rintro _ rfl;rintro _ rfl;obtain⟨q6,g,h⟩:=zC h;refine⟨_,⟨_,gI _ _ g⟩,?_⟩;cases h;exact⟨rfl,rfl⟩
 rintro _ rfl;refine zD zq2 h (fun _ h=>?_) (fun _ h=>?_)
 ·rintro _ rfl;rintro _ rfl;rintro _ rfl;obtain⟨q7,g,h⟩:=zC h;refine⟨_,⟨_,gI _ _ g⟩,?_⟩;cases h;exact⟨rfl,rfl⟩
 rintro _ rfl;refine zD zq2 h (fun _ h=>?_) (fun _ h=>?_)
 ·rintro _ rfl;rintro _ rfl;rintro _ rfl;obtain⟨q8,g,h⟩:=zC h;refine⟨_,⟨_,gI _ _ g⟩,?_⟩;cases h;exact⟨rfl,rfl⟩
 rintro _ rfl;refine zD zq2 h (fun _ h=>?_) (fun _ h=>?_)
 ·rintro _ rfl;rintro _ rfl;rintro _ rfl;obtain⟨q9,g,h⟩:=zC h;refine⟨_,⟨_,gI _ _ g⟩,?_⟩;cases h;exact⟨rfl,rfl⟩
 rintro _ rfl;refine zD zq2 h (fun _ h=>?_) (fun _ h=>?_)
 ·rintro _ rfl;rintro _ rfl;rintro _ rfl;obtain⟨q10,g,h⟩:=zC h;refine⟨_,⟨_,gI _ _ g⟩,?_⟩;cases h;exact⟨rfl,rfl⟩
 rintro _ rfl;refine zD zq2 h (fun _ h=>?_) (fun _ h=>?_)
 ·rintro _ rfl;rintro _ rfl;rintro _ rfl;rintro _ rfl;cases h;exact⟨rfl,rfl⟩
 rintro _ rfl;refine zD zq2 h (fun _ h=>?_) (fun _ h=>?_)
 ·rintro _ rfl;rintro _ rfl;rintro _ rfl;rintro _ rfl;cases h;exact⟨rfl,rfl⟩
 rintro _ rfl;refine zD zq2 h (fun _ h=>?_) (fun _ h=>?_)
 ·obtain⟨q11,g,h⟩:=zC h;refine⟨_,⟨_,y7V _ _ _ g⟩,?_⟩;cases h;exact⟨rfl,rfl⟩
 rintro _ rfl;refine zG zq2 h (fun hc345 h=>?_) (fun hc345 h=>?_)
 ·rintro _ rfl;refine zD zq2 h (fun _ h=>?_) (fun _ h=>?_)
  ·cases h;exact⟨rfl,rfl⟩
  obtain⟨q13,g,h⟩:=zC h;refine⟨_,_,⟨_,z7E _ _ _ g⟩,?_⟩;rintro _ rfl;refine z2g zq2 hc345 ?_;cases h;exact⟨rfl,rfl⟩
 rintro _ rfl;refine zG zq2 h (fun _ h=>?_) (fun _ h=>?_)
 ·rintro _ rfl;refine zD zq2 h (fun _ h=>?_) (fun _ h=>?_)
  ·cases h;exact⟨rfl,rfl⟩
  obtain⟨q12,g,h⟩:=zC h;refine⟨_,_,⟨_,z7E _ _ _ g⟩,?_⟩;rintro _ rfl;refine jE zq2 hc345 ?_;cases h;exact⟨rfl,rfl⟩
 cases h;exact⟨rfl,rfl⟩
def y2T:(i:zH)→z9o i→Prop
 |.zK m s t,r=>Trip Tryz.prog 55 [.d (tT m),.d (tS s),.d (tT t)] [] [.d (tG r)] []
 |.z0T m s t,r=>Trip Tryz.prog 113 [.d (tT m),.d (tS s),.d (tT t)] [] [.d (tG r)] []
 |.jW m s l,r=>Trip Tryz.prog 114 [.d (tT m),.d (tS s),.d (.sl (List.map zA.toD l))] [] [.d (.sl (List.map Value.toD r.1)),.d (tS r.2)] []
 |.vP l out i m s o7,r=>Ok (z9B (Trip Tryz.prog) [.d (.sl (List.map Value.toD r.1)),.d (tS r.2)] []) (kL Tryz.f114 3) ⟨34,[(2,.d (.sl (List.map zA.toD l))),(3,.ref 3 1 0),(4,.ref 4 1 0),(7,.ref 7 1 0),(8,.right 11 1 2 (List.map Value.toD out)),(9,(nI i))],[(3,1,some (.agg (tT m))),(4,1,some (.agg (tS s))),(7,1,some (.agg (tS o7))),(11,1,some (.tok 2 (List.length (List.map Value.toD out))))],[],0⟩
 |.wS m s f args,r=>Trip Tryz.prog 116 [.d (tT m),.d (tS s),(nI f),.d (.sl (List.map Value.toD args))] [] [.d (tG r)] []
 |.zU m s t,r=>Trip Tryz.prog 130 [.d (tT m),.d (tS s),.d (tT t)] [] [.d (tS r)] []
 |.yM n i m s t o6,r=>Ok (z9C (Trip Tryz.prog) [.d (tS r)] []) (kL Tryz.f130 7) ⟨139,[(3,.ref 3 1 0),(4,.ref 4 1 0),(5,.ref 5 1 0),(6,.ref 6 1 0),(7,(nI n)),(8,(nI i))],[(3,1,some (.agg (tT m))),(4,1,some (.agg (tS s))),(5,1,some (.agg (tT t))),(6,1,some (.agg (tS o6)))],[],0⟩
 |.z0S m s t,r=>Trip Tryz.prog 197 [.d (tT m),.d (tS s),.d (tT t)] [] [.d (tS r)] []
 |.vI m s t o6 x root,r=>Ok (y0Y (Trip Tryz.prog) [.d (tS r)] []) (kL Tryz.f197 6) ⟨123,[(3,.ref 3 1 0),(4,.ref 4 1 0),(5,.ref 5 1 0),(6,.ref 6 1 0),(7,.ref 7 1 0),(8,.ref 8 1 0)],[(3,1,some (.agg (tT m))),(4,1,some (.agg (tS s))),(5,1,some (.agg (tT t))),(6,1,some (.agg (tS o6))),(7,1,some (.agg (tG x))),(8,1,some (.agg (tT root)))],[],0⟩
 |.uT m x t,r=>Trip Tryz.prog 198 [.d (tT m),.d (tG x),.d (tT t)] [] [.d (tS r)] []
 |.yC m x t o6,r=>Ok (z7U (Trip Tryz.prog) [.d (tS r)] []) (kL Tryz.f198 1) ⟨36,[(3,.ref 3 1 0),(4,.ref 4 1 0),(5,.ref 5 1 0),(6,.ref 6 1 0)],[(3,1,some (.agg (tT m))),(4,1,some (.agg (tG x))),(5,1,some (.agg (tT t))),(6,1,some (.agg (tS o6)))],[],0⟩
 |.z0u m from_ t,r=>Trip Tryz.prog 199 [.d (tT m),.d (tG from_),.d (tT t)] [] [.d (tS r)] []
 |.vX n i m t o6 to_ s,r=>Ok (y0X (Trip Tryz.prog) [.d (tS r)] []) (kL Tryz.f199 7) ⟨58,[(3,.ref 3 1 0),(5,.ref 5 1 0),(6,.ref 6 1 0),(7,.ref 7 1 0),(8,.ref 8 1 0),(9,(nI n)),(10,(nI i))],[(3,1,some (.agg (tT m))),(5,1,some (.agg (tT t))),(6,1,some (.agg (tS o6))),(7,1,some (.agg (tG to_))),(8,1,some (.agg (tS s)))],[],0⟩
 |.uC m s t kept,r=>Trip Tryz.prog 243 [.d (tT m),.d (tS s),.d (tT t),.d (tV kept)] [] [.own 1 (List.map (D.int .i64) r.1),.d (tS r.2)] []
theorem y9X:∀i r,uQ yG i=some r→y2T i r:=by
 refine zP uF fun g ih i=>?_;cases i with
 |zK m s t=>
  have v9A:=fun m s t r h=>ih (.z0T m s t) r h;have v9t:=fun m s l r h=>ih (.jW m s l) r h;have v9o:=fun m s f args r h=>ih (.wS m s f args) r h;intro r h;replace h:wT (fun m s t=>g (zH.z0T m s t)) (fun m s l=>g (zH.jW m s l)) (fun m s f args=>g (zH.wS m s f args)) m s t=some r:=h;unfold wT at h;refine zI 1000 (v0S _ _ _ _ m s t) ?_;obtain⟨q1,g,h⟩:=zC h;refine⟨_,_,_,_,_,_,_,_,_,_,⟨_,y0Q _ _ g⟩,?_⟩;rintro _ rfl;refine zG zq2 h (fun _ h=>?_) (fun _ h=>?_)
  ·rintro _ rfl;refine zD zq2 h (fun _ h=>?_) (fun _ h=>?_)
   ·obtain⟨q3,g,h⟩:=zC h;refine⟨_,_,_,_,_,_,_,_,_,_,_,_,⟨_,z2m _ _ _ g⟩,?_⟩;cases h;exact⟨rfl,rfl⟩
   rintro _ rfl;refine zD zq2 h (fun _ h=>?_) (fun _ h=>?_)
   ·obtain⟨q4,g,h⟩:=zC h;refine⟨_,_,_,_,_,_,_,_,_,_,_,_,⟨_,z2m _ _ _ g⟩,?_⟩;cases h;exact⟨rfl,rfl⟩
   rintro _ rfl;refine zD zq2 h (fun _ h=>?_) (fun _ h=>?_)
   ·refine zV (e':=(List.length q1.Locals:Int)) (by first|rfl|rw[zq3]) ?_;rintro _ rfl;rintro _ rfl;obtain⟨x,hx,h⟩:=zC h;refine⟨zF (l:=q1.Locals) (Value.sz),vZ hx,x.N,List.map Value.toD x.L,zL (Value.toD_eq x) hx,?_⟩;cases h;exact⟨rfl,rfl⟩
   rintro _ rfl;refine zD zq2 h (fun _ h=>?_) (fun _ h=>?_)
   ·obtain⟨x1,hx,h⟩:=zC h;refine⟨zF (l:=q1.Globals) (Value.sz),vZ hx,x1.N,List.map Value.toD x1.L,zL (Value.toD_eq x1) hx,?_⟩;cases h;exact⟨rfl,rfl⟩
   rintro _ rfl;refine zD zq2 h (fun _ h=>?_) (fun _ h=>?_)
   ·obtain⟨x2,hx,h⟩:=zC h;refine⟨zF (l:=m.L) (zA.sz),vZ hx,x2.K,x2.N,x2.S,List.map zA.toD x2.L,x2.From,x2.To,zL (zA.toD_eq x2) hx,?_⟩;obtain⟨x3,hx,h⟩:=zC h;refine⟨zF (l:=x2.L) (zA.sz),vZ hx,x3.K,x3.N,x3.S,List.map zA.toD x3.L,x3.From,x3.To,zL (zA.toD_eq x3) hx,?_⟩;obtain⟨q5,g,h⟩:=zC h;refine⟨_,_,_,_,_,_,_,_,_,_,_,_,⟨_,z2m _ _ _ g⟩,?_⟩;cases h;exact⟨rfl,rfl⟩
   rintro _ rfl;refine zD zq2 h (fun hc355 h=>?_) (fun hc355 h=>?_)
   ·refine zV (e':=(List.length q1.Input:Int)) (by first|rfl|rw[zq3]) ?_;rintro _ rfl;refine zD decide_eq_true_iff h (fun _ h=>?_) (fun _ h=>?_)
    ·obtain⟨q6,g,h⟩:=zC h;refine⟨_,_,_,_,_,_,_,_,_,_,_,_,⟨_,z3o _ _ _ g⟩,?_⟩;cases h;exact⟨rfl,rfl⟩
    rintro _ rfl;refine z2g zq2 hc355 ?_;rintro _ rfl;rintro _ rfl;obtain⟨x4,hx,h⟩:=zC h;refine⟨zF (l:=q1.Input) (fun _=>rfl),vZ hx,x4,zL rfl hx,?_⟩;obtain⟨q7,g,h⟩:=zC h;refine⟨_,_,_,_,_,_,_,_,_,_,_,_,⟨_,z2m _ _ _ g⟩,?_⟩;cases h;exact⟨rfl,rfl⟩
   rintro _ rfl;refine jE zq2 hc355 ?_;rintro _ rfl;refine zD zq2 h (fun _ h=>?_) (fun _ h=>?_)
   ·obtain⟨q17,g,h⟩:=zC h;refine⟨_,_,_,_,_,_,_,_,_,_,_,_,⟨_,v9A _ _ _ _ g⟩,?_⟩;cases h;exact⟨rfl,rfl⟩
   obtain⟨q18,g,h⟩:=zC h;refine⟨_,_,_,_,_,_,_,_,_,_,_,⟨_,v9t _ _ _ _ g⟩,?_⟩;rintro _ rfl;refine zG zq2 h (fun _ h=>?_) (fun _ h=>?_)
   ·rintro _ rfl;refine zD zq2 h (fun _ h=>?_) (fun _ h=>?_)
    ·obtain⟨x15,hx,h⟩:=zC h;refine⟨zF (l:=q18.1) (Value.sz),vZ hx,x15.N,List.map Value.toD x15.L,zL (Value.toD_eq x15) hx,?_⟩;obtain⟨q20,g,h⟩:=zC h;refine⟨_,⟨_,v2l _ _ _ g⟩,?_⟩;obtain⟨q21,g,h⟩:=zC h;refine⟨_,_,_,_,_,_,_,_,_,_,_,_,⟨_,z2m _ _ _ g⟩,?_⟩;cases h;exact⟨rfl,rfl⟩
    rintro _ rfl;refine zD zq2 h (fun _ h=>?_) (fun _ h=>?_)
    ·obtain⟨x16,hx,h⟩:=zC h;refine⟨zF (l:=q18.1) (Value.sz),vZ hx,x16.N,List.map Value.toD x16.L,zL (Value.toD_eq x16) hx,?_⟩;rintro _ rfl;refine zD decide_eq_true_iff h (fun _ h=>?_) (fun _ h=>?_)
     ·obtain⟨q22,g,h⟩:=zC h;refine⟨_,_,_,_,_,_,_,_,_,_,_,_,⟨_,z3o _ _ _ g⟩,?_⟩;cases h;exact⟨rfl,rfl⟩
     obtain⟨x17,hx,h⟩:=zC h;refine⟨zF (l:=q18.1) (Value.sz),vZ hx,x17.N,List.map Value.toD x17.L,zL (Value.toD_eq x17) hx,?_⟩;obtain⟨x18,hx,h⟩:=zC h;refine⟨zF (l:=q18.1) (Value.sz),vZ hx,x18.N,List.map Value.toD x18.L,zL (Value.toD_eq x18) hx,?_⟩;refine zV (e':=(List.length x18.L:Int)) (by first|rfl|rw[zq3]) ?_;rintro _ rfl;refine zD decide_eq_true_iff h (fun _ h=>?_) (fun _ h=>?_)
     ·obtain⟨q23,g,h⟩:=zC h;refine⟨_,_,_,_,_,_,_,_,_,_,_,_,⟨_,z3o _ _ _ g⟩,?_⟩;cases h;exact⟨rfl,rfl⟩
     obtain⟨x19,hx,h⟩:=zC h;refine⟨zF (l:=q18.1) (Value.sz),vZ hx,x19.N,List.map Value.toD x19.L,zL (Value.toD_eq x19) hx,?_⟩;obtain⟨x20,hx,h⟩:=zC h;refine⟨zF (l:=q18.1) (Value.sz),vZ hx,x20.N,List.map Value.toD x20.L,zL (Value.toD_eq x20) hx,?_⟩;obtain⟨x21,hx,h⟩:=zC h;refine⟨zF (l:=x19.L) (Value.sz),vZ hx,x21.N,List.map Value.toD x21.L,zL (Value.toD_eq x21) hx,?_⟩;cases h;exact⟨rfl,rfl⟩
    rintro _ rfl;refine zD zq2 h (fun _ h=>?_) (fun _ h=>?_)
    ·obtain⟨x22,hx,h⟩:=zC h;refine⟨zF (l:=q18.1) (Value.sz),vZ hx,x22.N,List.map Value.toD x22.L,zL (Value.toD_eq x22) hx,?_⟩;obtain⟨hP,h⟩:=uP h;refine⟨by first|exact hP|simpa using hP,?_⟩;rintro _ rfl;obtain⟨x23,hx,h⟩:=zC h;refine⟨zF (l:=x22.L) (Value.sz),vZ hx,x23.N,List.map Value.toD x23.L,zL (Value.toD_eq x23) hx,?_⟩;cases h;exact⟨rfl,rfl⟩
    rintro _ rfl;refine zD zq2 h (fun _ h=>?_) (fun _ h=>?_)
    ·obtain⟨q24,g,h⟩:=zC h;refine⟨_,_,_,_,_,_,_,_,_,_,_,_,⟨_,v9o _ _ _ _ _ g⟩,?_⟩;cases h;exact⟨rfl,rfl⟩
    cases h;exact⟨rfl,rfl⟩
   obtain⟨q19,g,h⟩:=zC h;refine⟨_,_,_,_,_,_,_,_,_,_,_,_,⟨_,z5b _ _ g⟩,?_⟩;cases h;exact⟨rfl,rfl⟩
  obtain⟨q2,g,h⟩:=zC h;refine⟨_,_,_,_,_,_,_,_,_,_,_,_,⟨_,z5b _ _ g⟩,?_⟩;cases h;exact⟨rfl,rfl⟩
 |z0T m s t=>
  have v9p:=fun m s t r h=>ih (.zK m s t) r h;intro r h;replace h:z4x (fun m s t=>g (zH.zK m s t)) m s t=some r:=h;unfold z4x at h;refine zI 1000 (v2Z _ _ _ _ m s t) ?_;obtain⟨x,hx,h⟩:=zC h;refine⟨zF (l:=t.L) (zA.sz),vZ hx,x.K,x.N,x.S,List.map zA.toD x.L,x.From,x.To,zL (zA.toD_eq x) hx,?_⟩;obtain⟨q1,g,h⟩:=zC h;refine⟨_,_,_,_,_,_,_,_,_,_,_,_,⟨_,v9p _ _ _ _ g⟩,?_⟩;rintro _ rfl;refine zG zq2 h (fun _ h=>?_) (fun _ h=>?_)
  ·rintro _ rfl;refine zD zq2 h (fun hc366 h=>?_) (fun hc366 h=>?_)
   ·rintro _ rfl;refine zD zq2 h (fun _ h=>?_) (fun _ h=>?_)
    ·obtain⟨q3,g,h⟩:=zC h;refine⟨_,_,_,_,_,_,_,_,_,_,_,_,⟨_,z2m _ _ _ g⟩,?_⟩;cases h;exact⟨rfl,rfl⟩
    rintro _ rfl;refine jE zq2 (fun e=>absurd (hc366.symm.trans e) (by decide)) ?_;obtain⟨x2,hx,h⟩:=zC h;refine⟨zF (l:=t.L) (zA.sz),vZ hx,x2.K,x2.N,x2.S,List.map zA.toD x2.L,x2.From,x2.To,zL (zA.toD_eq x2) hx,?_⟩;obtain⟨q9,g,h⟩:=zC h;refine⟨_,_,_,_,_,_,_,_,_,_,_,_,⟨_,v9p _ _ _ _ g⟩,?_⟩;rintro _ rfl;refine zG zq2 h (fun _ h=>?_) (fun _ h=>?_)
    ·rintro _ rfl;refine z2g zq2 hc366 ?_;cases h;exact⟨rfl,rfl⟩
    cases h;exact⟨rfl,rfl⟩
   rintro _ rfl;refine zD zq2 h (fun hc369 h=>?_) (fun hc369 h=>?_)
   ·rintro _ rfl;refine zG zq2 h (fun _ h=>?_) (fun _ h=>?_)
    ·obtain⟨x3,hx,h⟩:=zC h;refine⟨zF (l:=t.L) (zA.sz),vZ hx,x3.K,x3.N,x3.S,List.map zA.toD x3.L,x3.From,x3.To,zL (zA.toD_eq x3) hx,?_⟩;obtain⟨q14,g,h⟩:=zC h;refine⟨_,_,_,_,_,_,_,_,_,_,_,_,⟨_,v9p _ _ _ _ g⟩,?_⟩;rintro _ rfl;refine zG zq2 h (fun _ h=>?_) (fun _ h=>?_)
     ·rintro _ rfl;refine jE zq2 hc366 ?_;rintro _ rfl;refine z2g zq2 hc369 ?_;cases h;exact⟨rfl,rfl⟩
     cases h;exact⟨rfl,rfl⟩
    obtain⟨q13,g,h⟩:=zC h;refine⟨_,_,_,_,_,_,_,_,_,_,_,_,⟨_,z2m _ _ _ g⟩,?_⟩;cases h;exact⟨rfl,rfl⟩
   obtain⟨x4,hx,h⟩:=zC h;refine⟨zF (l:=t.L) (zA.sz),vZ hx,x4.K,x4.N,x4.S,List.map zA.toD x4.L,x4.From,x4.To,zL (zA.toD_eq x4) hx,?_⟩;obtain⟨q18,g,h⟩:=zC h;refine⟨_,_,_,_,_,_,_,_,_,_,_,_,⟨_,v9p _ _ _ _ g⟩,?_⟩;rintro _ rfl;refine zG zq2 h (fun _ h=>?_) (fun _ h=>?_)
   ·rintro _ rfl;refine jE zq2 hc366 ?_;rintro _ rfl;refine jE zq2 hc369 ?_;obtain⟨q19,g,h⟩:=zC h;refine⟨_,_,⟨_,v2m _ _ _ _ g⟩,?_⟩;rintro _ rfl;refine zG zq2 h (fun _ h=>?_) (fun _ h=>?_)
    ·obtain⟨q21,g,h⟩:=zC h;refine⟨_,_,_,_,_,_,_,_,_,_,_,_,⟨_,z2m _ _ _ g⟩,?_⟩;cases h;exact⟨rfl,rfl⟩
    obtain⟨q20,g,h⟩:=zC h;refine⟨_,_,_,_,_,_,_,_,_,_,_,_,⟨_,z3o _ _ _ g⟩,?_⟩;cases h;exact⟨rfl,rfl⟩
   cases h;exact⟨rfl,rfl⟩
  obtain⟨q2,g,h⟩:=zC h;refine⟨_,_,_,_,_,_,_,_,_,_,_,_,⟨_,z5b _ _ g⟩,?_⟩;cases h;exact⟨rfl,rfl⟩
 |jW m s l=>
  have v9u:=fun l out i m s o7 r h=>ih (.vP l out i m s o7) r h;intro r h;replace h:z3D (fun l out i m s o7=>g (zH.vP l out i m s o7)) m s l=some r:=h;unfold z3D at h;refine zI 1000 (v0V _ _ _ _ m s l) ?_;exact v9u _ _ _ _ _ _ _ h
 |vP l out i m s o7=>
  have v9p:=fun m s t r h=>ih (.zK m s t) r h;have v9u:=fun l out i m s o7 r h=>ih (.vP l out i m s o7) r h;intro r h;replace h:z0s (fun m s t=>g (zH.zK m s t)) (fun l out i m s o7=>g (zH.vP l out i m s o7)) l out i m s o7=some r:=h;unfold z0s at h;refine uZ 1000 (y5i _ _ _ _ l out i m s o7) ?_;refine zV (e':=(List.length l:Int)) (by first|rfl|rw[zq3]) ?_;rintro _ rfl;refine zD decide_eq_true_iff h (fun _ h=>?_) (fun _ h=>?_)
  ·obtain⟨x,hx,h⟩:=zC h;refine⟨zF (l:=l) (zA.sz),vZ hx,x.K,x.N,x.S,List.map zA.toD x.L,x.From,x.To,zL (zA.toD_eq x) hx,?_⟩;obtain⟨q1,g,h⟩:=zC h;refine⟨_,_,_,_,_,_,_,_,_,_,_,_,⟨_,v9p _ _ _ _ g⟩,?_⟩;refine⟨by simp[zE,D.cells],?_⟩;refine⟨by first|rfl|decide|simp only[zq3,List.length_cons,List.length_nil,List.map_append,List.length_append],?_⟩;obtain⟨hP,h⟩:=uP h;refine⟨by first|exact hP|simpa using hP,?_⟩
   refine zV (e':=List.map Value.toD (out++[q1.V])) (by first|rfl|simp only[List.map_append,List.map_cons,List.map_nil,List.map_take,List.map_drop,List.map_set,List.map_replicate,zq3,Value.toD_eq]) ?_;rintro _ rfl;exact v9u _ _ _ _ _ _ _ h
  cases h;exact⟨rfl,rfl⟩
 |wS m s f args=>
  have v9y:=fun m s t r h=>ih (.zU m s t) r h;intro r h;replace h:z1C (fun m s t=>g (zH.zU m s t)) m s f args=some r:=h;unfold z1C at h;refine zI 1000 (y6K _ _ _ _ m s f args) ?_;obtain⟨x,hx,h⟩:=zC h;refine⟨zF (l:=m.L) (zA.sz),vZ hx,x.K,x.N,x.S,List.map zA.toD x.L,x.From,x.To,zL (zA.toD_eq x) hx,?_⟩;obtain⟨x1,hx,h⟩:=zC h;refine⟨zF (l:=x.L) (zA.sz),vZ hx,x1.K,x1.N,x1.S,List.map zA.toD x1.L,x1.From,x1.To,zL (zA.toD_eq x1) hx,?_⟩;obtain⟨q1,g,h⟩:=zC h;refine⟨_,_,_,_,_,_,_,_,_,_,⟨_,v9y _ _ _ _ g⟩,?_⟩
  rintro _ rfl;refine zD zq2 h (fun _ h=>?_) (fun _ h=>?_)
  ·cases h;exact⟨rfl,rfl⟩
  rintro _ rfl;refine zG zq2 h (fun _ h=>?_) (fun _ h=>?_)
  ·obtain⟨x2,hx,h⟩:=zC h;refine⟨zF (l:=m.L) (zA.sz),vZ hx,x2.K,x2.N,x2.S,List.map zA.toD x2.L,x2.From,x2.To,zL (zA.toD_eq x2) hx,?_⟩;obtain⟨x3,hx,h⟩:=zC h;refine⟨zF (l:=x2.L) (zA.sz),vZ hx,x3.K,x3.N,x3.S,List.map zA.toD x3.L,x3.From,x3.To,zL (zA.toD_eq x3) hx,?_⟩;obtain⟨q3,g,h⟩:=zC h;refine⟨_,_,⟨_,y3f _ _ _ g⟩,?_⟩;cases h;exact⟨rfl,rfl⟩
  obtain⟨q2,g,h⟩:=zC h;refine⟨_,_,_,_,_,_,_,_,_,_,_,_,⟨_,z5b _ _ g⟩,?_⟩;cases h;exact⟨rfl,rfl⟩
 |zU m s t=>
  have v9p:=fun m s t r h=>ih (.zK m s t) r h;have v9y:=fun m s t r h=>ih (.zU m s t) r h;have v9z:=fun n i m s t o6 r h=>ih (.yM n i m s t o6) r h;have v9w:=fun m s t r h=>ih (.z0S m s t) r h;have v9D:=fun m x t r h=>ih (.uT m x t) r h;have v9r:=fun m from_ t r h=>ih (.z0u m from_ t) r h;intro r h
  replace h:jD (fun m s t=>g (zH.zK m s t)) (fun m s t=>g (zH.zU m s t)) (fun n i m s t o6=>g (zH.yM n i m s t o6)) (fun m s t=>g (zH.z0S m s t)) (fun m x t=>g (zH.uT m x t)) (fun m from_ t=>g (zH.z0u m from_ t)) m s t=some r:=h;unfold jD at h;refine zI 1000 (v0X _ _ _ _ m s t) ?_;obtain⟨q1,g,h⟩:=zC h;refine⟨_,_,_,_,_,_,_,_,_,_,⟨_,y0Q _ _ g⟩,?_⟩;rintro _ rfl;refine zG zq2 h (fun _ h=>?_) (fun _ h=>?_)
  ·rintro _ rfl;refine zD zq2 h (fun _ h=>?_) (fun _ h=>?_)
   ·refine zV (e':=(List.length q1.Locals:Int)) (by first|rfl|rw[zq3]) ?_;exact v9z _ _ _ _ _ _ _ h
   rintro _ rfl;refine zD zq2 h (fun _ h=>?_) (fun _ h=>?_)
   ·obtain⟨x,hx,h⟩:=zC h;refine⟨zF (l:=t.L) (zA.sz),vZ hx,x.K,x.N,x.S,List.map zA.toD x.L,x.From,x.To,zL (zA.toD_eq x) hx,?_⟩;obtain⟨q2,g,h⟩:=zC h;refine⟨_,_,⟨_,y3f _ _ _ g⟩,?_⟩;obtain⟨q3,g,h⟩:=zC h;refine⟨_,_,_,_,_,_,_,_,_,_,⟨_,z7F _ _ _ g⟩,?_⟩;cases h;exact⟨rfl,rfl⟩
   rintro _ rfl;refine zD zq2 h (fun _ h=>?_) (fun _ h=>?_)
   ·obtain⟨q4,g,h⟩:=zC h;refine⟨_,_,_,_,_,_,_,_,_,_,⟨_,v9w _ _ _ _ g⟩,?_⟩;cases h;exact⟨rfl,rfl⟩
   obtain⟨x1,hx,h⟩:=zC h;refine⟨zF (l:=t.L) (zA.sz),vZ hx,x1.K,x1.N,x1.S,List.map zA.toD x1.L,x1.From,x1.To,zL (zA.toD_eq x1) hx,?_⟩;obtain⟨q5,g,h⟩:=zC h;refine⟨_,_,_,_,_,_,_,_,_,_,_,_,⟨_,v9p _ _ _ _ g⟩,?_⟩;rintro _ rfl;refine zG zq2 h (fun _ h=>?_) (fun _ h=>?_)
   ·rintro _ rfl;refine zD zq2 h (fun _ h=>?_) (fun _ h=>?_)
    ·obtain⟨q6,g,h⟩:=zC h;refine⟨_,_,_,_,_,_,_,_,_,_,⟨_,z7F _ _ _ g⟩,?_⟩;cases h;exact⟨rfl,rfl⟩
    rintro _ rfl;refine zD zq2 h (fun hc383 h=>?_) (fun hc383 h=>?_)
    ·refine⟨zF (l:=q5.S.Trace) (fun _=>rfl),?_⟩;refine⟨by first|rfl|decide|simp only[zq3,List.length_cons,List.length_nil,List.map_append,List.length_append],?_⟩;obtain⟨hP,h⟩:=uP h;refine⟨by first|exact hP|simpa using hP,?_⟩;refine zV (e':=List.map (D.int .i64) (([]:List Int)++q5.S.Trace)) (by first|rfl|simp only[List.map_append,List.map_cons,List.map_nil,List.map_take,List.map_drop,List.map_set,List.map_replicate,zq3]) ?_;refine⟨by simp[zE,D.cells],?_⟩
     refine⟨by first|rfl|decide|simp only[zq3,List.length_cons,List.length_nil,List.map_append,List.length_append],?_⟩;obtain⟨hP,h⟩:=uP h;refine⟨by first|exact hP|simpa using hP,?_⟩;refine zV (e':=List.map (D.int .i64) ((([]:List Int)++q5.S.Trace)++[q5.V.N])) (by first|rfl|simp only[List.map_append,List.map_cons,List.map_nil,List.map_take,List.map_drop,List.map_set,List.map_replicate,zq3]) ?_;rintro _ rfl;refine jE zq2 (fun e=>absurd (hc383.symm.trans e) (by decide)) ?_;rintro _ rfl
     refine jE zq2 (fun e=>absurd (hc383.symm.trans e) (by decide)) ?_;rintro _ rfl;refine jE zq2 (fun e=>absurd (hc383.symm.trans e) (by decide)) ?_;rintro _ rfl;refine jE zq2 (fun e=>absurd (hc383.symm.trans e) (by decide)) ?_;rintro _ rfl;refine jE zq2 (fun e=>absurd (hc383.symm.trans e) (by decide)) ?_;cases h;exact⟨rfl,rfl⟩
    rintro _ rfl;refine zD zq2 h (fun hc384 h=>?_) (fun hc384 h=>?_)
    ·rintro _ rfl;refine jE zq2 (fun e=>absurd (hc384.symm.trans e) (by decide)) ?_;rintro _ rfl;refine jE zq2 (fun e=>absurd (hc384.symm.trans e) (by decide)) ?_;rintro _ rfl;refine jE zq2 (fun e=>absurd (hc384.symm.trans e) (by decide)) ?_;rintro _ rfl;refine jE zq2 (fun e=>absurd (hc384.symm.trans e) (by decide)) ?_;cases h;exact⟨rfl,rfl⟩
    rintro _ rfl;refine zD zq2 h (fun hc385 h=>?_) (fun hc385 h=>?_)
    ·rintro _ rfl;refine zG zq2 h (fun _ h=>?_) (fun _ h=>?_)
     ·rintro _ rfl;refine z2g zq2 hc385 ?_;obtain⟨x12,hx,h⟩:=zC h;refine⟨zF (l:=t.L) (zA.sz),vZ hx,x12.K,x12.N,x12.S,List.map zA.toD x12.L,x12.From,x12.To,zL (zA.toD_eq x12) hx,?_⟩;obtain⟨q29,g,h⟩:=zC h;refine⟨_,_,_,_,_,_,_,_,_,_,⟨_,v9y _ _ _ _ g⟩,?_⟩;cases h;exact⟨rfl,rfl⟩
     obtain⟨x11,hx,h⟩:=zC h;refine⟨zF (l:=t.L) (zA.sz),vZ hx,x11.K,x11.N,x11.S,List.map zA.toD x11.L,x11.From,x11.To,zL (zA.toD_eq x11) hx,?_⟩;obtain⟨q28,g,h⟩:=zC h;refine⟨_,_,_,_,_,_,_,_,_,_,⟨_,v9y _ _ _ _ g⟩,?_⟩;cases h;exact⟨rfl,rfl⟩
    rintro _ rfl;refine jE zq2 hc385 ?_;rintro _ rfl;refine zD zq2 h (fun _ h=>?_) (fun _ h=>?_)
    ·obtain⟨q33,g,h⟩:=zC h;refine⟨_,_,_,_,_,_,_,_,_,_,⟨_,v9D _ _ _ _ g⟩,?_⟩;cases h;exact⟨rfl,rfl⟩
    rintro _ rfl;refine zD zq2 h (fun _ h=>?_) (fun _ h=>?_)
    ·obtain⟨q34,g,h⟩:=zC h;refine⟨_,_,_,_,_,_,_,_,_,_,⟨_,v9r _ _ _ _ g⟩,?_⟩;cases h;exact⟨rfl,rfl⟩
    cases h;exact⟨rfl,rfl⟩
   cases h;exact⟨rfl,rfl⟩
  cases h;exact⟨rfl,rfl⟩
 |yM n i m s t o6=>
  have v9y:=fun m s t r h=>ih (.zU m s t) r h;have v9z:=fun n i m s t o6 r h=>ih (.yM n i m s t o6) r h;intro r h;replace h:jH (fun m s t=>g (zH.zU m s t)) (fun n i m s t o6=>g (zH.yM n i m s t o6)) n i m s t o6=some r:=h;unfold jH at h;refine uZ 1000 (y5k _ _ _ _ n i m s t o6) ?_;refine zV (e':=(List.length t.L:Int)) (by first|rfl|rw[zq3]) ?_;rintro _ rfl;refine zD decide_eq_true_iff h (fun _ h=>?_) (fun _ h=>?_)
  ·obtain⟨x,hx,h⟩:=zC h;refine⟨zF (l:=t.L) (zA.sz),vZ hx,x.K,x.N,x.S,List.map zA.toD x.L,x.From,x.To,zL (zA.toD_eq x) hx,?_⟩;obtain⟨q1,g,h⟩:=zC h;refine⟨_,_,_,_,_,_,_,_,_,_,⟨_,v9y _ _ _ _ g⟩,?_⟩;rintro _ rfl;exact v9z _ _ _ _ _ _ _ h
  obtain⟨q2,g,h⟩:=zC h;refine⟨_,_,_,_,_,_,_,_,_,_,⟨_,y5C _ _ _ g⟩,?_⟩;cases h;exact⟨rfl,rfl⟩
 |z0S m s t=>
  have v9p:=fun m s t r h=>ih (.zK m s t) r h;have v9x:=fun m s t o6 x root r h=>ih (.vI m s t o6 x root) r h;intro r h;replace h:z4w (fun m s t=>g (zH.zK m s t)) (fun m s t o6 x root=>g (zH.vI m s t o6 x root)) m s t=some r:=h;unfold z4w at h;refine zI 1000 (v2Y _ _ _ _ m s t) ?_;obtain⟨x,hx,h⟩:=zC h;refine⟨zF (l:=t.L) (zA.sz),vZ hx,x.K,x.N,x.S,List.map zA.toD x.L,x.From,x.To,zL (zA.toD_eq x) hx,?_⟩;obtain⟨q1,g,h⟩:=zC h;refine⟨_,_,_,_,_,_,_,_,_,_,_,_,⟨_,v9p _ _ _ _ g⟩,?_⟩;rintro _ rfl
  refine zG zq2 h (fun _ h=>?_) (fun _ h=>?_)
  ·obtain⟨x1,hx,h⟩:=zC h;refine⟨zF (l:=t.L) (zA.sz),vZ hx,x1.K,x1.N,x1.S,List.map zA.toD x1.L,x1.From,x1.To,zL (zA.toD_eq x1) hx,?_⟩;exact v9x _ _ _ _ _ _ _ h
  cases h;exact⟨rfl,rfl⟩
 |vI m s t o6 x root=>
  have v9x:=fun m s t o6 x root r h=>ih (.vI m s t o6 x root) r h;have v9C:=fun m s t kept r h=>ih (.uC m s t kept) r h;intro r h;replace h:z0f (fun m s t o6 x root=>g (zH.vI m s t o6 x root)) (fun m s t kept=>g (zH.uC m s t kept)) m s t o6 x root=some r:=h;unfold z0f at h;refine uZ 1000 (y6M _ _ _ _ m s t o6 x root) ?_;rintro _ rfl;refine zD zq2 h (fun _ h=>?_) (fun _ h=>?_)
  ·obtain⟨x1,hx,h⟩:=zC h;refine⟨zF (l:=root.L) (zA.sz),vZ hx,x1.K,x1.N,x1.S,List.map zA.toD x1.L,x1.From,x1.To,zL (zA.toD_eq x1) hx,?_⟩;exact v9x _ _ _ _ _ _ _ h
  rintro _ rfl;refine zD zq2 h (fun _ h=>?_) (fun _ h=>?_)
  ·obtain⟨x2,hx,h⟩:=zC h;refine⟨zF (l:=root.L) (zA.sz),vZ hx,x2.K,x2.N,x2.S,List.map zA.toD x2.L,x2.From,x2.To,zL (zA.toD_eq x2) hx,?_⟩;exact v9x _ _ _ _ _ _ _ h
  rintro _ rfl;refine zD zq2 h (fun _ h=>?_) (fun _ h=>?_)
  ·obtain⟨x3,hx,h⟩:=zC h;refine⟨zF (l:=t.L) (zA.sz),vZ hx,x3.K,x3.N,x3.S,List.map zA.toD x3.L,x3.From,x3.To,zL (zA.toD_eq x3) hx,?_⟩;obtain⟨x4,hx,h⟩:=zC h;refine⟨zF (l:=s.Globals) (Value.sz),vZ hx,x4.N,List.map Value.toD x4.L,zL (Value.toD_eq x4) hx,?_⟩;obtain⟨q1,g,h⟩:=zC h;refine⟨_,_,_,_,_,_,_,_,_,_,_,⟨_,v9C _ _ _ _ _ g⟩,?_⟩;rintro _ rfl;refine zD zq2 h (fun _ h=>?_) (fun _ h=>?_)
   ·obtain⟨x5,hx,h⟩:=zC h;refine⟨zF (l:=q1.2.Globals) (Value.sz),vZ hx,x5.N,List.map Value.toD x5.L,zL (Value.toD_eq x5) hx,?_⟩;obtain⟨q2,g,h⟩:=zC h;refine⟨_,_,⟨_,y5B _ _ _ _ g⟩,?_⟩;obtain⟨q3,g,h⟩:=zC h;refine⟨_,⟨_,y3j _ _ _ _ g⟩,?_⟩;cases h;exact⟨rfl,rfl⟩
   cases h;exact⟨rfl,rfl⟩
  refine zV (e':=(List.length s.Locals:Int)) (by first|rfl|rw[zq3]) ?_;rintro _ rfl;rintro _ rfl;obtain⟨x6,hx,h⟩:=zC h;refine⟨zF (l:=t.L) (zA.sz),vZ hx,x6.K,x6.N,x6.S,List.map zA.toD x6.L,x6.From,x6.To,zL (zA.toD_eq x6) hx,?_⟩;obtain⟨x7,hx,h⟩:=zC h;refine⟨zF (l:=s.Locals) (Value.sz),vZ hx,x7.N,List.map Value.toD x7.L,zL (Value.toD_eq x7) hx,?_⟩;obtain⟨q4,g,h⟩:=zC h;refine⟨_,_,_,_,_,_,_,_,_,_,_,⟨_,v9C _ _ _ _ _ g⟩,?_⟩;rintro _ rfl;refine zD zq2 h (fun _ h=>?_) (fun _ h=>?_)
  ·obtain⟨x8,hx,h⟩:=zC h;refine⟨zF (l:=q4.2.Locals) (Value.sz),vZ hx,x8.N,List.map Value.toD x8.L,zL (Value.toD_eq x8) hx,?_⟩;obtain⟨q5,g,h⟩:=zC h;refine⟨_,_,⟨_,y5B _ _ _ _ g⟩,?_⟩;obtain⟨q6,g,h⟩:=zC h;refine⟨_,⟨_,y3j _ _ _ _ g⟩,?_⟩;cases h;exact⟨rfl,rfl⟩
  cases h;exact⟨rfl,rfl⟩
 |uT m x t=>
  have v9E:=fun m x t o6 r h=>ih (.yC m x t o6) r h;intro r h;replace h:z2A (fun m x t o6=>g (zH.yC m x t o6)) m x t=some r:=h;unfold z2A at h;refine zI 1000 (y8W _ _ _ _ m x t) ?_;exact v9E _ _ _ _ _ h
 |yC m x t o6=>
  have v9p:=fun m s t r h=>ih (.zK m s t) r h;have v9y:=fun m s t r h=>ih (.zU m s t) r h;have v9E:=fun m x t o6 r h=>ih (.yC m x t o6) r h;intro r h;replace h:jJ (fun m s t=>g (zH.zK m s t)) (fun m s t=>g (zH.zU m s t)) (fun m x t o6=>g (zH.yC m x t o6)) m x t o6=some r:=h;unfold jJ at h;refine uZ 1000 (y3T _ _ _ _ m x t o6) ?_;rintro _ rfl;refine zD zq2 h (fun _ h=>?_) (fun _ h=>?_)
  ·rintro _ rfl;refine zG zq2 h (fun _ h=>?_) (fun _ h=>?_)
   ·cases h;exact⟨rfl,rfl⟩
   obtain⟨x1,hx,h⟩:=zC h;refine⟨zF (l:=t.L) (zA.sz),vZ hx,x1.K,x1.N,x1.S,List.map zA.toD x1.L,x1.From,x1.To,zL (zA.toD_eq x1) hx,?_⟩;obtain⟨q1,g,h⟩:=zC h;refine⟨_,_,_,_,_,_,_,_,_,_,⟨_,v9y _ _ _ _ g⟩,?_⟩;obtain⟨x2,hx,h⟩:=zC h;refine⟨zF (l:=t.L) (zA.sz),vZ hx,x2.K,x2.N,x2.S,List.map zA.toD x2.L,x2.From,x2.To,zL (zA.toD_eq x2) hx,?_⟩;obtain⟨q2,g,h⟩:=zC h;refine⟨_,_,_,_,_,_,_,_,_,_,_,_,⟨_,v9p _ _ _ _ g⟩,?_⟩;exact v9E _ _ _ _ _ h
  cases h;exact⟨rfl,rfl⟩
 |z0u m from_ t=>
  have v9p:=fun m s t r h=>ih (.zK m s t) r h;have v9s:=fun n i m t o6 to_ s r h=>ih (.vX n i m t o6 to_ s) r h;intro r h;replace h:z4v (fun m s t=>g (zH.zK m s t)) (fun n i m t o6 to_ s=>g (zH.vX n i m t o6 to_ s)) m from_ t=some r:=h;unfold z4v at h;refine zI 1000 (v2V _ _ _ _ m from_ t) ?_;obtain⟨x,hx,h⟩:=zC h;refine⟨zF (l:=t.L) (zA.sz),vZ hx,x.K,x.N,x.S,List.map zA.toD x.L,x.From,x.To,zL (zA.toD_eq x) hx,?_⟩;obtain⟨q1,g,h⟩:=zC h;refine⟨_,_,_,_,_,_,_,_,_,_,_,_,⟨_,v9p _ _ _ _ g⟩,?_⟩
  rintro _ rfl;refine zG zq2 h (fun _ h=>?_) (fun _ h=>?_)
  ·refine zV (e':=(List.length q1.S.Locals:Int)) (by first|rfl|rw[zq3]) ?_;exact v9s _ _ _ _ _ _ _ _ h
  cases h;exact⟨rfl,rfl⟩
 |vX n i m t o6 to_ s=>
  have v9y:=fun m s t r h=>ih (.zU m s t) r h;have v9s:=fun n i m t o6 to_ s r h=>ih (.vX n i m t o6 to_ s) r h;intro r h;replace h:jZ (fun m s t=>g (zH.zU m s t)) (fun n i m t o6 to_ s=>g (zH.vX n i m t o6 to_ s)) n i m t o6 to_ s=some r:=h;unfold jZ at h;refine uZ 1000 (y6L _ _ _ _ n i m t o6 to_ s) ?_;obtain⟨q1,g,h⟩:=zC h;refine⟨_,_,_,_,_,_,_,_,_,_,⟨_,y0Q _ _ g⟩,?_⟩;rintro _ rfl;refine zG zq2 h (fun _ h=>?_) (fun _ h=>?_)
  ·rintro _ rfl;refine zD decide_eq_true_iff h (fun _ h=>?_) (fun _ h=>?_)
   ·cases h;exact⟨rfl,rfl⟩
   obtain⟨q2,g,h⟩:=zC h;refine⟨_,_,_,_,_,_,_,_,_,_,⟨_,z7F _ _ _ g⟩,?_⟩;obtain⟨x,hx,h⟩:=zC h;refine⟨zF (l:=t.L) (zA.sz),vZ hx,x.K,x.N,x.S,List.map zA.toD x.L,x.From,x.To,zL (zA.toD_eq x) hx,?_⟩;obtain⟨q3,g,h⟩:=zC h;refine⟨_,_,_,_,_,_,_,_,_,_,⟨_,v9y _ _ _ _ g⟩,?_⟩;obtain⟨q4,g,h⟩:=zC h;refine⟨_,_,_,_,_,_,_,_,_,_,⟨_,y5C _ _ _ g⟩,?_⟩;rintro _ rfl;exact v9s _ _ _ _ _ _ _ _ h
  cases h;exact⟨rfl,rfl⟩
 |uC m s t kept=>
  have v9p:=fun m s t r h=>ih (.zK m s t) r h;have v9C:=fun m s t kept r h=>ih (.uC m s t kept) r h;intro r h;replace h:z2z (fun m s t=>g (zH.zK m s t)) (fun m s t kept=>g (zH.uC m s t kept)) m s t kept=some r:=h;unfold z2z at h;refine zI 1000 (v3a _ _ _ _ m s t kept) ?_;rintro _ rfl;refine zG zq2 h (fun hc401 h=>?_) (fun hc401 h=>?_)
  ·obtain⟨x2,hx,h⟩:=zC h;refine⟨zF (l:=t.L) (zA.sz),vZ hx,x2.K,x2.N,x2.S,List.map zA.toD x2.L,x2.From,x2.To,zL (zA.toD_eq x2) hx,?_⟩;obtain⟨q6,g,h⟩:=zC h;refine⟨_,_,_,_,_,_,_,_,_,_,_,⟨_,v9C _ _ _ _ _ g⟩,?_⟩;rintro _ rfl;refine zG zq2 h (fun _ h=>?_) (fun _ h=>?_)
   ·rintro _ rfl;refine jE zq2 (fun e=>absurd (hc401.symm.trans e) (by decide)) ?_;obtain⟨x3,hx,h⟩:=zC h;refine⟨zF (l:=t.L) (zA.sz),vZ hx,x3.K,x3.N,x3.S,List.map zA.toD x3.L,x3.From,x3.To,zL (zA.toD_eq x3) hx,?_⟩;obtain⟨q7,g,h⟩:=zC h;refine⟨_,_,_,_,_,_,_,_,_,_,_,_,⟨_,v9p _ _ _ _ g⟩,?_⟩;rintro _ rfl;refine zG zq2 h (fun _ h=>?_) (fun _ h=>?_)
    ·rintro _ rfl;refine zD decide_eq_true_iff h (fun _ h=>?_) (fun _ h=>?_)
     ·obtain⟨q8,g,h⟩:=zC h;refine⟨_,_,_,_,_,_,_,_,_,_,_,_,⟨_,z3o _ _ _ g⟩,?_⟩;refine⟨by first|rfl|decide|simp only[zq3,List.length_cons,List.length_nil,List.map_append,List.length_append],?_⟩;cases h;exact⟨rfl,rfl⟩
     obtain⟨q9,g,h⟩:=zC h;refine⟨_,_,⟨_,v2k _ _ _ g⟩,?_⟩;refine zV (e':=(List.length q9.L:Int)) (by first|rfl|rw[zq3]) ?_;rintro _ rfl;refine zD decide_eq_true_iff h (fun _ h=>?_) (fun _ h=>?_)
     ·obtain⟨q10,g,h⟩:=zC h;refine⟨_,_,_,_,_,_,_,_,_,_,_,_,⟨_,z3o _ _ _ g⟩,?_⟩;refine⟨by first|rfl|decide|simp only[zq3,List.length_cons,List.length_nil,List.map_append,List.length_append],?_⟩;cases h;exact⟨rfl,rfl⟩
     refine⟨by simp[zE,D.cells],?_⟩;refine⟨by first|rfl|decide|simp only[zq3,List.length_cons,List.length_nil,List.map_append,List.length_append],?_⟩;obtain⟨hP,h⟩:=uP h;refine⟨by first|exact hP|simpa using hP,?_⟩;refine zV (e':=List.map (D.int .i64) (q6.1++[q7.V.N])) (by first|rfl|simp only[List.map_append,List.map_cons,List.map_nil,List.map_take,List.map_drop,List.map_set,List.map_replicate,zq3]) ?_
     refine⟨by first|rfl|decide|simp only[zq3,List.length_cons,List.length_nil,List.map_append,List.length_append],?_⟩;cases h;exact⟨rfl,rfl⟩
    refine⟨by first|rfl|decide|simp only[zq3,List.length_cons,List.length_nil,List.map_append,List.length_append],?_⟩;cases h;exact⟨rfl,rfl⟩
   refine⟨by first|rfl|decide|simp only[zq3,List.length_cons,List.length_nil,List.map_append,List.length_append],?_⟩;cases h;exact⟨rfl,rfl⟩
  rintro _ rfl;refine zG zq2 h (fun hc406 h=>?_) (fun hc406 h=>?_)
  ·obtain⟨x,hx,h⟩:=zC h;refine⟨zF (l:=t.L) (zA.sz),vZ hx,x.K,x.N,x.S,List.map zA.toD x.L,x.From,x.To,zL (zA.toD_eq x) hx,?_⟩;obtain⟨q1,g,h⟩:=zC h;refine⟨_,_,_,_,_,_,_,_,_,_,_,⟨_,v9C _ _ _ _ _ g⟩,?_⟩;rintro _ rfl;refine zG zq2 h (fun _ h=>?_) (fun _ h=>?_)
   ·rintro _ rfl;refine z2g zq2 hc406 ?_;obtain⟨hP,h⟩:=uP h;refine⟨by first|exact hP|simpa using hP,?_⟩;rintro _ rfl;refine⟨by simp[zE,D.cells],?_⟩;refine⟨by first|rfl|decide|simp only[zq3,List.length_cons,List.length_nil,List.map_append,List.length_append],?_⟩;obtain⟨hP,h⟩:=uP h;refine⟨by first|exact hP|simpa using hP,?_⟩
    refine zV (e':=List.map (D.int .i64) (q1.1++[Int.tmod t.N 64])) (by first|rfl|simp only[List.map_append,List.map_cons,List.map_nil,List.map_take,List.map_drop,List.map_set,List.map_replicate,zq3]) ?_;refine⟨by first|rfl|decide|simp only[zq3,List.length_cons,List.length_nil,List.map_append,List.length_append],?_⟩;cases h;exact⟨rfl,rfl⟩
   refine⟨by first|rfl|decide|simp only[zq3,List.length_cons,List.length_nil,List.map_append,List.length_append],?_⟩;cases h;exact⟨rfl,rfl⟩
  refine⟨by first|rfl|decide|simp only[zq3,List.length_cons,List.length_nil,List.map_append,List.length_append],?_⟩;cases h;exact⟨rfl,rfl⟩
theorem v0f(m:zA)(s:State)(t:zA)(r:Ref21Got)(h:zK m s t=some r):y2T (.zK m s t) r:=y9X (.zK m s t) r h
def y2R:(i:z1c)→z9m i→Prop
 |.wR a b,r=>Trip Tryz.prog 22 [.d (tV a),.d (tV b)] [] [(nB r)] []
 |.vO i a b,r=>Ok (z9y (Trip Tryz.prog) [(nB r)] []) (kL Tryz.f22 4) ⟨39,[(2,.ref 2 1 0),(3,.ref 3 1 0),(5,(nI i))],[(2,1,some (.agg (tV a))),(3,1,some (.agg (tV b)))],[],0⟩
theorem y9V:∀i r,uQ z3k i=some r→y2R i r:=by
 refine zP z9e fun g ih i=>?_;cases i with
 |wR a b=>
  have v9f:=fun i a b r h=>ih (.vO i a b) r h;intro r h;replace h:z2d (fun i a b=>g (z1c.vO i a b)) a b=some r:=h;unfold z2d at h;refine zI 1000 (v0N _ _ _ _ a b) ?_;rintro _ rfl;refine zG zq2 h (fun _ h=>?_) (fun _ h=>?_)
  ·refine zV (e':=(List.length a.L:Int)) (by first|rfl|rw[zq3]) ?_;refine zV (e':=(List.length b.L:Int)) (by first|rfl|rw[zq3]) ?_;rintro _ rfl;refine zG zq2 h (fun _ h=>?_) (fun _ h=>?_)
   ·exact v9f _ _ _ _ h
   cases h;exact⟨rfl,rfl⟩
  cases h;exact⟨rfl,rfl⟩
 |vO i a b=>
  have v9e:=fun a b r h=>ih (.wR a b) r h;have v9f:=fun i a b r h=>ih (.vO i a b) r h;intro r h;replace h:gD (fun a b=>g (z1c.wR a b)) (fun i a b=>g (z1c.vO i a b)) i a b=some r:=h;unfold gD at h;refine uZ 1000 (y5f _ _ _ _ i a b) ?_;refine zV (e':=(List.length a.L:Int)) (by first|rfl|rw[zq3]) ?_;rintro _ rfl;refine zD decide_eq_true_iff h (fun _ h=>?_) (fun _ h=>?_)
  ·obtain⟨x,hx,h⟩:=zC h;refine⟨zF (l:=a.L) (Value.sz),vZ hx,x.N,List.map Value.toD x.L,zL (Value.toD_eq x) hx,?_⟩;obtain⟨x1,hx,h⟩:=zC h;refine⟨zF (l:=b.L) (Value.sz),vZ hx,x1.N,List.map Value.toD x1.L,zL (Value.toD_eq x1) hx,?_⟩;obtain⟨q1,g,h⟩:=zC h;refine⟨_,⟨_,v9e _ _ _ g⟩,?_⟩;refine zG Iff.rfl h (fun _ h=>?_) (fun _ h=>?_)
   ·rintro _ rfl;exact v9f _ _ _ _ h
   cases h;exact⟨rfl,rfl⟩
  cases h;exact⟨rfl,rfl⟩
theorem z4J(a b:Value)(r:Bool)(h:wR a b=some r):y2R (.wR a b) r:=y9V (.wR a b) r h
def z8M:(i:z3H)→z5l i→Prop
 |.vA i m s,r=>Ok (z9A (Trip Tryz.prog) [(nB r)] []) (kL Tryz.f51 4) ⟨104,[(2,.ref 2 1 0),(3,.ref 3 1 0),(5,(nI i))],[(2,1,some (.agg (tT m))),(3,1,some (.agg (tS s)))],[],0⟩
theorem y4Q:∀i r,uQ z3G i=some r→z8M i r:=by
 refine zP z8L fun g ih i=>?_;cases i with
 |vA i m s=>
  have v9q:=fun i m s r h=>ih (.vA i m s) r h;intro r h;replace h:z0r (fun i m s=>g (z3H.vA i m s)) i m s=some r:=h;unfold z0r at h;refine uZ 1000 (y5h _ _ _ _ i m s) ?_;refine zV (e':=(List.length m.L:Int)) (by first|rfl|rw[zq3]) ?_;rintro _ rfl;refine zD decide_eq_true_iff h (fun _ h=>?_) (fun _ h=>?_)
  ·obtain⟨x,hx,h⟩:=zC h;refine⟨zF (l:=m.L) (zA.sz),vZ hx,x.K,x.N,x.S,List.map zA.toD x.L,x.From,x.To,zL (zA.toD_eq x) hx,?_⟩;rintro _ rfl;refine zD zq2 h (fun _ h=>?_) (fun _ h=>?_)
   ·obtain⟨x1,hx,h⟩:=zC h;refine⟨zF (l:=m.L) (zA.sz),vZ hx,x1.K,x1.N,x1.S,List.map zA.toD x1.L,x1.From,x1.To,zL (zA.toD_eq x1) hx,?_⟩;obtain⟨x2,hx,h⟩:=zC h;refine⟨zF (l:=x1.L) (zA.sz),vZ hx,x2.K,x2.N,x2.S,List.map zA.toD x2.L,x2.From,x2.To,zL (zA.toD_eq x2) hx,?_⟩;obtain⟨x3,hx,h⟩:=zC h;refine⟨zF (l:=s.Globals) (Value.sz),vZ hx,x3.N,List.map Value.toD x3.L,zL (Value.toD_eq x3) hx,?_⟩;obtain⟨q1,g,h⟩:=zC h;refine⟨_,⟨_,y3d _ _ _ _ g⟩,?_⟩;refine zG Iff.rfl h (fun _ h=>?_) (fun _ h=>?_)
    ·obtain⟨x4,hx,h⟩:=zC h;refine⟨zF (l:=m.L) (zA.sz),vZ hx,x4.K,x4.N,x4.S,List.map zA.toD x4.L,x4.From,x4.To,zL (zA.toD_eq x4) hx,?_⟩;rintro _ rfl;refine zG zq2 h (fun _ h=>?_) (fun _ h=>?_)
     ·rintro _ rfl;exact v9q _ _ _ _ h
     obtain⟨x5,hx,h⟩:=zC h;refine⟨zF (l:=s.Globals) (Value.sz),vZ hx,x5.N,List.map Value.toD x5.L,zL (Value.toD_eq x5) hx,?_⟩;obtain⟨q2,g,h⟩:=zC h;refine⟨_,⟨_,z4J _ _ _ g⟩,?_⟩;refine zG Iff.rfl h (fun _ h=>?_) (fun _ h=>?_)
     ·rintro _ rfl;exact v9q _ _ _ _ h
     cases h;exact⟨rfl,rfl⟩
    cases h;exact⟨rfl,rfl⟩
   obtain⟨x6,hx,h⟩:=zC h;refine⟨zF (l:=m.L) (zA.sz),vZ hx,x6.K,x6.N,x6.S,List.map zA.toD x6.L,x6.From,x6.To,zL (zA.toD_eq x6) hx,?_⟩;rintro _ rfl;refine zG zq2 h (fun _ h=>?_) (fun _ h=>?_)
   ·rintro _ rfl;exact v9q _ _ _ _ h
   obtain⟨x7,hx,h⟩:=zC h;refine⟨zF (l:=s.Globals) (Value.sz),vZ hx,x7.N,List.map Value.toD x7.L,zL (Value.toD_eq x7) hx,?_⟩;obtain⟨q3,g,h⟩:=zC h;refine⟨_,⟨_,z4J _ _ _ g⟩,?_⟩;refine zG Iff.rfl h (fun _ h=>?_) (fun _ h=>?_)
   ·rintro _ rfl;exact v9q _ _ _ _ h
   cases h;exact⟨rfl,rfl⟩
  cases h;exact⟨rfl,rfl⟩
theorem y4S(i:Int)(m:zA)(s:State)(r:Bool)(h:vA i m s=some r):z8M (.vA i m s) r:=y4Q (.vA i m s) r h
theorem v0g(m:zA)(s:State)(r:Bool)(h:z8m m s=some r):Trip Tryz.prog 51 [.d (tT m),.d (tS s)] [] [(nB r)] []:=by
 unfold z8m at h;refine zI 1000 (v0T _ _ _ _ m s) ?_;refine zV (e':=(List.length s.Globals:Int)) (by first|rfl|rw[zq3]) ?_;refine zV (e':=(List.length m.L:Int)) (by first|rfl|rw[zq3]) ?_;rintro _ rfl;refine zG zq2 h (fun _ h=>?_) (fun _ h=>?_)
 ·rintro _ rfl;refine zD decide_eq_true_iff h (fun _ h=>?_) (fun _ h=>?_)
  ·cases h;exact⟨rfl,rfl⟩
  refine zV (e':=(List.length s.Input:Int)) (by first|rfl|rw[zq3]) ?_;rintro _ rfl;refine zD decide_eq_true_iff h (fun _ h=>?_) (fun _ h=>?_)
  ·cases h;exact⟨rfl,rfl⟩
  rintro _ rfl;refine zD decide_eq_true_iff h (fun _ h=>?_) (fun _ h=>?_)
  ·cases h;exact⟨rfl,rfl⟩
  rintro _ rfl;refine zD decide_eq_true_iff h (fun _ h=>?_) (fun _ h=>?_)
  ·cases h;exact⟨rfl,rfl⟩
  rintro _ rfl;refine zG zq2 h (fun _ h=>?_) (fun _ h=>?_)
  ·rintro _ rfl;refine zG zq2 h (fun _ h=>?_) (fun _ h=>?_)
   ·obtain⟨q1,g,h⟩:=zC h;refine⟨_,⟨_,z4J _ _ _ g⟩,?_⟩;refine zG Iff.rfl h (fun _ h=>?_) (fun _ h=>?_)
    ·exact y4S _ _ _ _ h
    cases h;exact⟨rfl,rfl⟩
   cases h;exact⟨rfl,rfl⟩
  cases h;exact⟨rfl,rfl⟩
 cases h;exact⟨rfl,rfl⟩
theorem v0e(m:zA)(types:List zA)(s:State)(e:zA)(r:Value×State×Int)(h:y0x m types s e=some r):Trip Tryz.prog 17 [.d (tT m),.d (.sl (List.map zA.toD types)),.d (tS s),.d (tT e)] [] [.d (tV r.1),.d (tS r.2.1),(nI r.2.2)] []:=by
 unfold y0x at h;refine zI 1000 (v0R _ _ _ _ m types s e) ?_;obtain⟨q1,g,h⟩:=zC h;refine⟨_,⟨_,y7S _ _ g⟩,?_⟩;refine zG Iff.rfl h (fun _ h=>?_) (fun _ h=>?_)
 ·obtain⟨q2,g,h⟩:=zC h;refine⟨_,⟨_,v0g _ _ _ g⟩,?_⟩;refine zG Iff.rfl h (fun _ h=>?_) (fun _ h=>?_)
  ·obtain⟨q3,g,h⟩:=zC h;refine⟨_,⟨_,v2n _ _ _ _ g⟩,?_⟩;refine zG Iff.rfl h (fun _ h=>?_) (fun _ h=>?_)
   ·obtain⟨q4,g,h⟩:=zC h;refine⟨_,_,_,_,_,_,_,_,_,_,_,_,_,_,⟨_,z2Q _ _ _ _ g⟩,?_⟩;rintro _ rfl;refine zG zq2 h (fun _ h=>?_) (fun _ h=>?_)
    ·obtain⟨q5,g,h⟩:=zC h;refine⟨_,⟨_,z9U _ _ _ g⟩,?_⟩;refine zG Iff.rfl h (fun _ h=>?_) (fun _ h=>?_)
     ·obtain⟨q6,g,h⟩:=zC h;refine⟨_,_,_,_,_,_,_,_,_,_,_,_,⟨_,v0f _ _ _ _ g⟩,?_⟩;cases h;exact⟨rfl,rfl⟩
     cases h;exact⟨rfl,rfl⟩
    cases h;exact⟨rfl,rfl⟩
   cases h;exact⟨rfl,rfl⟩
  cases h;exact⟨rfl,rfl⟩
 cases h;exact⟨rfl,rfl⟩
def z5t:(i:z1q)→z3m i→Prop
 |.yF a b i,r=>Ok (z5m (Trip Tryz.prog) [(nB r)] []) (kL Tryz.f57 4) ⟨26,[(0,.d (.sl (List.map (D.int .i64) a))),(1,.d (.sl (List.map (D.int .i64) b))),(5,(nI i))],[],[],0⟩
theorem y0I:∀i r,uQ z1p i=some r→z5t i r:=by
 refine zP z5r fun g ih i=>?_;cases i with
 |yF a b i=>
  have v9v:=fun a b i r h=>ih (.yF a b i) r h;intro r h;replace h:jC (fun a b i=>g (z1q.yF a b i)) a b i=some r:=h;unfold jC at h;refine uZ 1000 (y1e _ _ _ _ a b i) ?_;refine zV (e':=(List.length a:Int)) (by first|rfl|rw[zq3]) ?_;rintro _ rfl;refine zD decide_eq_true_iff h (fun _ h=>?_) (fun _ h=>?_)
  ·obtain⟨x,hx,h⟩:=zC h;refine⟨zF (l:=a) (fun _=>rfl),vZ hx,x,zL rfl hx,?_⟩;obtain⟨x1,hx,h⟩:=zC h;refine⟨zF (l:=b) (fun _=>rfl),vZ hx,x1,zL rfl hx,?_⟩;rintro _ rfl;refine zG zq2 h (fun _ h=>?_) (fun _ h=>?_)
   ·rintro _ rfl;exact v9v _ _ _ _ h
   cases h;exact⟨rfl,rfl⟩
  cases h;exact⟨rfl,rfl⟩
theorem y0P(a b:List Int)(i:Int)(r:Bool)(h:yF a b i=some r):z5t (.yF a b i) r:=y0I (.yF a b i) r h
theorem z8O(a b:List Int)(r:Bool)(h:z2y a b=some r):Trip Tryz.prog 57 [.d (.sl (List.map (D.int .i64) a)),.d (.sl (List.map (D.int .i64) b))] [] [(nB r)] []:=by
 unfold z2y at h;refine zI 1000 (y5j _ _ _ _ a b) ?_;refine zV (e':=(List.length a:Int)) (by first|rfl|rw[zq3]) ?_;refine zV (e':=(List.length b:Int)) (by first|rfl|rw[zq3]) ?_;rintro _ rfl;refine zG zq2 h (fun _ h=>?_) (fun _ h=>?_)
 ·exact y0P _ _ _ _ h
 cases h;exact⟨rfl,rfl⟩
def z6R:(i:z1Y)→z4c i→Prop
 |.yR a b i,r=>Ok (z6n (Trip Tryz.prog) [(nB r)] []) (kL Tryz.f56 4) ⟨27,[(0,.d (.sl (List.map Value.toD a))),(1,.d (.sl (List.map Value.toD b))),(5,(nI i))],[],[],0⟩
theorem y1V:∀i r,uQ z1R i=some r→z6R i r:=by
 refine zP z6J fun g ih i=>?_;cases i with
 |yR a b i=>
  have v9B:=fun a b i r h=>ih (.yR a b i) r h;intro r h;replace h:jS (fun a b i=>g (z1Y.yR a b i)) a b i=some r:=h;unfold jS at h;refine uZ 1000 (y2n _ _ _ _ a b i) ?_;refine zV (e':=(List.length a:Int)) (by first|rfl|rw[zq3]) ?_;rintro _ rfl;refine zD decide_eq_true_iff h (fun _ h=>?_) (fun _ h=>?_)
  ·obtain⟨x,hx,h⟩:=zC h;refine⟨zF (l:=a) (Value.sz),vZ hx,x.N,List.map Value.toD x.L,zL (Value.toD_eq x) hx,?_⟩;obtain⟨x1,hx,h⟩:=zC h;refine⟨zF (l:=b) (Value.sz),vZ hx,x1.N,List.map Value.toD x1.L,zL (Value.toD_eq x1) hx,?_⟩;obtain⟨q1,g,h⟩:=zC h;refine⟨_,⟨_,z4J _ _ _ g⟩,?_⟩;refine zG Iff.rfl h (fun _ h=>?_) (fun _ h=>?_)
   ·rintro _ rfl;exact v9B _ _ _ _ h
   cases h;exact⟨rfl,rfl⟩
  cases h;exact⟨rfl,rfl⟩
theorem y2c(a b:List Value)(i:Int)(r:Bool)(h:yR a b i=some r):z6R (.yR a b i) r:=y1V (.yR a b i) r h
theorem z9Y(a b:List Value)(r:Bool)(h:z3E a b=some r):Trip Tryz.prog 56 [.d (.sl (List.map Value.toD a)),.d (.sl (List.map Value.toD b))] [] [(nB r)] []:=by
 unfold z3E at h;refine zI 1000 (y6N _ _ _ _ a b) ?_;refine zV (e':=(List.length a:Int)) (by first|rfl|rw[zq3]) ?_;refine zV (e':=(List.length b:Int)) (by first|rfl|rw[zq3]) ?_;rintro _ rfl;refine zG zq2 h (fun _ h=>?_) (fun _ h=>?_)
 ·exact y2c _ _ _ _ h
 cases h;exact⟨rfl,rfl⟩
theorem y3k(a b:State)(r:Bool)(h:z5R a b=some r):Trip Tryz.prog 19 [.d (tS a),.d (tS b)] [] [(nB r)] []:=by
 unfold z5R at h;refine zI 1000 (v0W _ _ _ _ a b) ?_;obtain⟨q1,g,h⟩:=zC h;refine⟨_,⟨_,z9Y _ _ _ g⟩,?_⟩;refine zD Iff.rfl h (fun _ h=>?_) (fun _ h=>?_)
 ·obtain⟨q2,g,h⟩:=zC h;refine⟨_,⟨_,z9Y _ _ _ g⟩,?_⟩;refine zD Iff.rfl h (fun _ h=>?_) (fun _ h=>?_)
  ·obtain⟨q3,g,h⟩:=zC h;refine⟨_,⟨_,z8O _ _ _ g⟩,?_⟩;refine zD Iff.rfl h (fun _ h=>?_) (fun _ h=>?_)
   ·rintro _ rfl;refine zD zq2 h (fun _ h=>?_) (fun _ h=>?_)
    ·obtain⟨q4,g,h⟩:=zC h;refine⟨_,⟨_,z8O _ _ _ g⟩,?_⟩;refine zD Iff.rfl h (fun _ h=>?_) (fun _ h=>?_)
     ·rintro _ rfl;refine zD zq2 h (fun _ h=>?_) (fun _ h=>?_)
      ·rintro _ rfl;refine zD zq2 h (fun _ h=>?_) (fun _ h=>?_)
       ·rintro _ rfl;refine zD zq2 h (fun _ h=>?_) (fun _ h=>?_)
        ·obtain⟨q5,g,h⟩:=zC h;refine⟨_,⟨_,z4J _ _ _ g⟩,?_⟩;cases h;exact⟨rfl,rfl⟩
        cases h;exact⟨rfl,rfl⟩
       cases h;exact⟨rfl,rfl⟩
      cases h;exact⟨rfl,rfl⟩
     cases h;exact⟨rfl,rfl⟩
    cases h;exact⟨rfl,rfl⟩
   cases h;exact⟨rfl,rfl⟩
  cases h;exact⟨rfl,rfl⟩
 cases h;exact⟨rfl,rfl⟩
theorem y0L(c:Law24Eval)(r:Bool)(h:z2V c=some r):Trip Tryz.prog 3 [.d (.agg [(.int .i64 c.M.K),(.int .i64 c.M.N),(.str c.M.S),(.sl (List.map zA.toD c.M.L)),(.int .i64 c.M.From),(.int .i64 c.M.To),(.sl (List.map zA.toD c.Types)),(.sl (List.map Value.toD c.S.Globals)),(.sl (List.map Value.toD c.S.Locals)),(.sl (List.map (D.int .i64) c.S.Input)),(.int .i64 c.S.At),(.sl (List.map (D.int .i64) c.S.Trace)),(.int .i64 c.S.Fuel),(.int .i64 c.S.Kind),(.int .i64 c.S.N),(.int .i64 c.S.Ret.N),(.sl (List.map Value.toD c.S.Ret.L)),(.int .i64 c.A.K),(.int .i64 c.A.N),(.str c.A.S),(.sl (List.map zA.toD c.A.L)),(.int .i64 c.A.From),(.int .i64 c.A.To),(.int .i64 c.B_.K),(.int .i64 c.B_.N),(.str c.B_.S),(.sl (List.map zA.toD c.B_.L)),(.int .i64 c.B_.From),(.int .i64 c.B_.To)])] [] [(nB r)] []:=by
 unfold z2V at h;refine zI 1000 (y1b _ _ _ _ c) ?_;obtain⟨q1,g,h⟩:=zC h;refine⟨_,⟨_,y7K _ _ g⟩,?_⟩;refine zD Iff.rfl h (fun _ h=>?_) (fun _ h=>?_)
 ·obtain⟨q2,g,h⟩:=zC h;refine⟨_,⟨_,z3O _ g⟩,?_⟩;cases h;exact⟨rfl,rfl⟩
 obtain⟨q3,g,h⟩:=zC h;refine⟨_,⟨_,z9T _ _ g⟩,?_⟩;refine zG Iff.rfl h (fun _ h=>?_) (fun _ h=>?_)
 ·obtain⟨q5,g,h⟩:=zC h;refine⟨_,_,_,_,_,_,_,_,_,_,_,_,_,⟨_,v0e _ _ _ _ _ g⟩,?_⟩;rintro _ rfl;refine zG zq2 h (fun _ h=>?_) (fun _ h=>?_)
  ·obtain⟨q7,g,h⟩:=zC h;refine⟨_,⟨_,y9Z _ _ g⟩,?_⟩;rintro _ rfl;refine zD zq2 h (fun _ h=>?_) (fun _ h=>?_)
   ·rintro _ rfl;refine zD decide_eq_true_iff h (fun _ h=>?_) (fun _ h=>?_)
    ·rintro _ rfl;refine zD zq2 h (fun _ h=>?_) (fun _ h=>?_)
     ·obtain⟨q8,g,h⟩:=zC h;refine⟨_,_,_,_,_,_,_,_,_,_,⟨_,z5a _ _ _ g⟩,?_⟩;obtain⟨q9,g,h⟩:=zC h;refine⟨_,_,_,_,_,_,_,_,_,_,⟨_,z5a _ _ _ g⟩,?_⟩;obtain⟨q10,g,h⟩:=zC h;refine⟨_,⟨_,y3k _ _ _ g⟩,?_⟩;refine zD Iff.rfl h (fun _ h=>?_) (fun _ h=>?_)
      ·obtain⟨q11,g,h⟩:=zC h;refine⟨_,⟨_,z3O _ g⟩,?_⟩;cases h;exact⟨rfl,rfl⟩
      cases h;exact⟨rfl,rfl⟩
     cases h;exact⟨rfl,rfl⟩
    cases h;exact⟨rfl,rfl⟩
   rintro _ rfl;rintro _ rfl;refine zD decide_eq_true_iff h (fun _ h=>?_) (fun _ h=>?_)
   ·obtain⟨q12,g,h⟩:=zC h;refine⟨_,_,_,_,_,_,_,_,_,_,⟨_,z5a _ _ _ g⟩,?_⟩;obtain⟨q13,g,h⟩:=zC h;refine⟨_,_,_,_,_,_,_,_,_,_,⟨_,z5a _ _ _ g⟩,?_⟩;obtain⟨q14,g,h⟩:=zC h;refine⟨_,⟨_,y3k _ _ _ g⟩,?_⟩;refine zD Iff.rfl h (fun _ h=>?_) (fun _ h=>?_)
    ·obtain⟨q15,g,h⟩:=zC h;refine⟨_,⟨_,z3O _ g⟩,?_⟩;cases h;exact⟨rfl,rfl⟩
    cases h;exact⟨rfl,rfl⟩
   cases h;exact⟨rfl,rfl⟩
  obtain⟨q6,g,h⟩:=zC h;refine⟨_,⟨_,z3O _ g⟩,?_⟩;cases h;exact⟨rfl,rfl⟩
 obtain⟨q4,g,h⟩:=zC h;refine⟨_,⟨_,z3O _ g⟩,?_⟩;cases h;exact⟨rfl,rfl⟩
end Go.Proofs.YtcpblelppecabaaGreat.M

