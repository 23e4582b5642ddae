import Derived.Test.YtcpblelppecabaaGreatMod
import Derived.Test.YtcpblelppecabaaGreatEv
import Derived.Test.YtcpblelppecabaaGreatFwZA
namespace Go.Proofs.YtcpblelppecabaaGreat.M
open Go Nt Go.Proofs
set_option linter.unusedVariables false
set_option linter.unusedSimpArgs false
set_option linter.unnecessarySimpa false
set_option maxRecDepth 100000
def y3G:(i:I_flow_is_L4)→z9c i→Prop
 |.flow_is_L4 v37 v38 v39,r=>Ok (y6g (Trip Tryz.prog) [(nB r)] []) (kL Tryz.f65 4) ⟨47,[(37,.d (.sl (List.map zA.toD v37))),(38,(nI v38)),(39,(nI v39))],[],[],0⟩
theorem v0U:∀i r,uO z6p i=some r→y3G i r:=by
 refine zN y3E fun g ih i=>?_;cases i with
 |flow_is_L4 v37 v38 v39=>
  have w3C:=fun v37 v38 v39 r h=>ih (.flow_is_L4 v37 v38 v39) r h;intro r h;replace h:z1P (fun v37 v38 v39=>g (I_flow_is_L4.flow_is_L4 v37 v38 v39)) v37 v38 v39=some r:=h;unfold z1P at h;refine jF 1000 (v2a _ _ _ _ v37 v38 v39) ?_;rintro _ rfl;refine zD decide_eq_true_iff h (fun _ h=>?_) (fun _ h=>?_)
  ·obtain⟨x,hx,h⟩:=zC h;refine⟨zF (l:=v37) (zA.sz),vO hx,x.K,x.N,x.S,List.map zA.toD x.L,x.From,x.To,zK (zA.toD_eq x) hx,?_⟩;rintro _ rfl;refine zI zq2 h (fun _ h=>?_) (fun _ h=>?_)
   ·rintro _ rfl;exact w3C _ _ _ _ h
   cases h;exact⟨rfl,rfl⟩
  cases h;exact⟨rfl,rfl⟩
theorem v1a(v37:List zA)(v38 v39:Int)(r:Bool)(h:flow_is_L4 v37 v38 v39=some r):y3G (.flow_is_L4 v37 v38 v39) r:=v0U (.flow_is_L4 v37 v38 v39) r h
theorem z9i(t:zA)(kind parts blocks:Int)(r:Bool)(h:z6D t kind parts blocks=some r):Trip Tryz.prog 65 [.d (tT t),(nI kind),(nI parts),(nI blocks)] [] [(nB r)] []:=by
 unfold z6D at h;refine zG 1000 (v8o _ _ _ _ t kind parts blocks) ?_;rintro _ rfl;refine zI zq2 h (fun _ h=>?_) (fun _ h=>?_)
 ·rintro _ rfl;refine zI zq2 h (fun _ h=>?_) (fun _ h=>?_)
  ·rintro _ rfl;refine zI zq2 h (fun _ h=>?_) (fun _ h=>?_)
   ·refine zR (e':=(List.length t.L:Int)) (by first|rfl|rw[zq3]) ?_;rintro _ rfl;refine zI zq2 h (fun _ h=>?_) (fun _ h=>?_)
    ·rintro _ rfl;refine⟨zF (l:=t.L) (zA.sz),?_⟩;obtain⟨hP,h⟩:=wY h;refine⟨by first|exact hP|simpa using hP,?_⟩;obtain⟨hP,h⟩:=wY h;refine⟨by first|exact hP|simpa using hP,?_⟩;obtain⟨hP,h⟩:=wY h;refine⟨by first|exact hP|simpa using hP,?_⟩
     refine zR (e':=List.map zA.toD (List.drop (Int.toNat (IntKind.wrap .i64 (parts-blocks))) (List.take (List.length t.L) t.L))) (by first|rfl|simp only[List.map_append,List.map_cons,List.map_nil,List.map_take,List.map_drop,List.map_set,List.map_replicate,zq3,zA.toD_eq]) ?_;refine zR (e':=(List.length (List.drop (Int.toNat (IntKind.wrap .i64 (parts-blocks))) (List.take (List.length t.L) t.L)):Int)) (by first|rfl|rw[zq3]) ?_;exact v1a _ _ _ _ h
    cases h;exact⟨rfl,rfl⟩
   cases h;exact⟨rfl,rfl⟩
  cases h;exact⟨rfl,rfl⟩
 cases h;exact⟨rfl,rfl⟩
theorem z4N(l:List zA)(r:zA)(h:z1B l=some r):Trip Tryz.prog 127 [.d (.sl (List.map zA.toD l))] [] [.d (tT r)] []:=by
 unfold z1B at h;refine zG 1000 (v1Z _ _ _ _ l) ?_;cases h;exact⟨rfl,rfl⟩
theorem z4O(n:Int)(r:zA)(h:z4i n=some r):Trip Tryz.prog 190 [(nI n)] [] [.d (tT r)] []:=by
 unfold z4i at h;refine zG 1000 (v2b _ _ _ _ n) ?_;cases h;exact⟨rfl,rfl⟩
theorem y1W(t:zA)(depth by_ from_:Int)(lost:Bool)(r:zA×Int×Int×Bool)(h:z1A t depth by_ from_ lost=some r):Trip Tryz.prog 238 [.hp 0 0,.d (tT t),(nI depth)] [[(nI by_),(nI from_),(nB lost)]] [.d (tT r.1)] [[(nI r.2.1),(nI r.2.2.1),(nB r.2.2.2)]]:=by
 unfold z1A at h;refine zG 1000 (y2e _ _ _ _ t depth by_ from_ lost) ?_;rintro _ rfl;refine zD decide_eq_true_iff h (fun _ h=>?_) (fun _ h=>?_)
 ·cases h;exact⟨rfl,rfl⟩
 rintro _ rfl;rintro _ rfl;refine zD decide_eq_true_iff h (fun _ h=>?_) (fun _ h=>?_)
 ·cases h;exact⟨rfl,rfl⟩
 rintro _ rfl;refine zD decide_eq_true_iff h (fun _ h=>?_) (fun _ h=>?_)
 ·rintro _ rfl;rintro _ rfl;rintro _ rfl;refine zD decide_eq_true_iff h (fun _ h=>?_) (fun _ h=>?_)
  ·rintro _ rfl;cases h;exact⟨rfl,rfl⟩
  rintro _ rfl;cases h;exact⟨rfl,rfl⟩
 rintro _ rfl;cases h;exact⟨rfl,rfl⟩
theorem y1V(t:zA)(r:Bool)(h:z4A t=some r):Trip Tryz.prog 200 [.d (tT t)] [] [(nB r)] []:=by
 unfold z4A at h;refine zG 1000 (v0c _ _ _ _ t) ?_;rintro _ rfl;refine zD zq2 h (fun _ h=>?_) (fun _ h=>?_)
 ·cases h;exact⟨rfl,rfl⟩
 rintro _ rfl;cases h;exact⟨rfl,rfl⟩
def y1M:(i:I_shift_In_L7)→z7E i→Prop
 |.shift_In_L7 n v24 v25 v26,r=>Ok (y3k (Trip Tryz.prog) [(nI r)] []) (kL Tryz.f133 7) ⟨50,[(5,(nI n)),(24,.d (.sl (List.map zA.toD v24))),(25,(nI v25)),(26,(nI v26))],[],[],0⟩
theorem y9e:∀i r,uO z5s i=some r→y1M i r:=by
 refine zN y1G fun g ih i=>?_;cases i with
 |shift_In_L7 n v24 v25 v26=>
  have w4Z:=fun n v24 v25 v26 r h=>ih (.shift_In_L7 n v24 v25 v26) r h;intro r h;replace h:z1v (fun n v24 v25 v26=>g (I_shift_In_L7.shift_In_L7 n v24 v25 v26)) n v24 v25 v26=some r:=h;unfold z1v at h;refine jF 1000 (v0a _ _ _ _ n v24 v25 v26) ?_;rintro _ rfl;refine zD decide_eq_true_iff h (fun _ h=>?_) (fun _ h=>?_)
  ·obtain⟨x,hx,h⟩:=zC h;refine⟨zF (l:=v24) (zA.sz),vO hx,x.K,x.N,x.S,List.map zA.toD x.L,x.From,x.To,zK (zA.toD_eq x) hx,?_⟩;obtain⟨q1,g,h⟩:=zC h;refine⟨_,⟨_,y1V _ _ g⟩,?_⟩;refine zD Iff.rfl h (fun _ h=>?_) (fun _ h=>?_)
   ·rintro _ rfl;rintro _ rfl;exact w4Z _ _ _ _ _ h
   rintro _ rfl;exact w4Z _ _ _ _ _ h
  cases h;exact⟨rfl,rfl⟩
theorem y9p(n:Int)(v24:List zA)(v25 v26 r:Int)(h:shift_In_L7 n v24 v25 v26=some r):y1M (.shift_In_L7 n v24 v25 v26) r:=y9e (.shift_In_L7 n v24 v25 v26) r h
theorem v6A(t:zA)(i r:Int)(h:y2K t i=some r):Trip Tryz.prog 133 [.d (tT t),(nI i)] [] [(nI r)] []:=by
 unfold y2K at h;refine zG 1000 (v7s _ _ _ _ t i) ?_;rintro _ rfl;refine zD decide_eq_true_iff h (fun _ h=>?_) (fun _ h=>?_)
 ·cases h;exact⟨rfl,rfl⟩
 refine zR (e':=(List.length t.L:Int)) (by first|rfl|rw[zq3]) ?_;rintro _ rfl;refine zD decide_eq_true_iff h (fun _ h=>?_) (fun _ h=>?_)
 ·cases h;exact⟨rfl,rfl⟩
 rintro _ rfl;refine zD zq2 h (fun _ h=>?_) (fun _ h=>?_)
 ·refine⟨zF (l:=t.L) (zA.sz),?_⟩;obtain⟨hP,h⟩:=wY h;refine⟨by first|exact hP|simpa using hP,?_⟩;obtain⟨hP,h⟩:=wY h;refine⟨by first|exact hP|simpa using hP,?_⟩;obtain⟨hP,h⟩:=wY h;refine⟨by first|exact hP|simpa using hP,?_⟩;refine zR (e':=List.map zA.toD (List.drop 0 (List.take (Int.toNat i) t.L))) (by first|rfl|simp only[List.map_append,List.map_cons,List.map_nil,List.map_take,List.map_drop,List.map_set,List.map_replicate,zq3,zA.toD_eq]) ?_
  refine zR (e':=(List.length (List.drop 0 (List.take (Int.toNat i) t.L)):Int)) (by first|rfl|rw[zq3]) ?_;exact y9p _ _ _ _ _ h
 rintro _ rfl;refine zD zq2 h (fun _ h=>?_) (fun _ h=>?_)
 ·rintro _ rfl;refine zD zq2 h (fun _ h=>?_) (fun _ h=>?_)
  ·cases h;exact⟨rfl,rfl⟩
  cases h;exact⟨rfl,rfl⟩
 rintro _ rfl;refine zD zq2 h (fun _ h=>?_) (fun _ h=>?_)
 ·rintro _ rfl;refine zD zq2 h (fun _ h=>?_) (fun _ h=>?_)
  ·obtain⟨x,hx,h⟩:=zC h;refine⟨zF (l:=t.L) (zA.sz),vO hx,x.K,x.N,x.S,List.map zA.toD x.L,x.From,x.To,zK (zA.toD_eq x) hx,?_⟩;refine zR (e':=(List.length x.L:Int)) (by first|rfl|rw[zq3]) ?_;cases h;exact⟨rfl,rfl⟩
  cases h;exact⟨rfl,rfl⟩
 cases h;exact⟨rfl,rfl⟩
def z3D:(i:I_shift_walk_mover_turn)→z1d i→Prop
 |.shift_walk_mover_turn t depth by_ from_ lost,r=>Trip Tryz.prog 237 [.d (tT t),(nI depth),.fn 238 [.hp 0 0] []] [[(nI by_),(nI from_),(nB lost)]] [.d (tT r.1)] [[(nI r.2.1),(nI r.2.2.1),(nB r.2.2.2)]]
 |.shift_walk_mover_turn_L8 depth more v28 v29 v30 t o6 o26 by_ from_ lost,r=>Ok (z1f (Trip Tryz.prog) [.d (tT r.1)] [[(nI r.2.1),(nI r.2.2.1),(nB r.2.2.2)]]) (kL Tryz.f237 8) ⟨63,[(1,(nI depth)),(2,.fn 238 [.hp 0 0] []),(3,.ref 3 1 0),(6,.ref 6 1 0),(7,.row 26 1),(8,(nI more)),(28,.d (.sl (List.map zA.toD v28))),(29,(nI v29)),(30,(nI v30))],[(3,1,some (.agg (tT t))),(6,1,some (.agg (tT o6))),(26,1,some (.row 6 (List.map zA.toD o26)))],[[(nI by_),(nI from_),(nB lost)]],0⟩
theorem z7w:∀i r,uO uK i=some r→z3D i r:=by
 refine zN z1c fun g ih i=>?_;cases i with
 |shift_walk_mover_turn t depth by_ from_ lost=>
  have w5b:=fun depth more v28 v29 v30 t o6 o26 by_ from_ lost r h=>ih (.shift_walk_mover_turn_L8 depth more v28 v29 v30 t o6 o26 by_ from_ lost) r h;intro r h;replace h:uM (fun depth more v28 v29 v30 t o6 o26 by_ from_ lost=>g (I_shift_walk_mover_turn.shift_walk_mover_turn_L8 depth more v28 v29 v30 t o6 o26 by_ from_ lost)) t depth by_ from_ lost=some r:=h;unfold uM at h;refine zG 1000 (z7R _ _ _ _ t depth by_ from_ lost) ?_;rintro _ rfl;refine zD zq2 h (fun _ h=>?_) (fun _ h=>?_)
  ·obtain⟨q1,g,h⟩:=zC h;refine⟨_,_,_,_,_,_,_,_,_,y1W _ _ _ _ _ _ g,?_⟩;cases h;exact⟨rfl,rfl⟩
  refine zR (e':=(List.length t.L:Int)) (by first|rfl|rw[zq3]) ?_;rintro _ rfl;refine zD zq2 h (fun _ h=>?_) (fun _ h=>?_)
  ·cases h;exact⟨rfl,rfl⟩
  refine zR (e':=(List.length t.L:Int)) (by first|rfl|rw[zq3]) ?_;obtain⟨hP,h⟩:=wY h;refine⟨by first|exact hP|simpa using hP,?_⟩;refine zR (e':=List.map zA.toD (List.replicate (Int.toNat (List.length t.L:Int)) (zA.mk 0 0 [] [] 0 0))) (by first|rfl|simp only[List.map_append,List.map_cons,List.map_nil,List.map_take,List.map_drop,List.map_set,List.map_replicate,zq3,zA.toD_eq]) ?_;refine zR (e':=(List.length t.L:Int)) (by first|rfl|rw[zq3]) ?_;exact w5b _ _ _ _ _ _ _ _ _ _ _ _ h
 |shift_walk_mover_turn_L8 depth more v28 v29 v30 t o6 o26 by_ from_ lost=>
  have w5a:=fun t depth by_ from_ lost r h=>ih (.shift_walk_mover_turn t depth by_ from_ lost) r h;have w5b:=fun depth more v28 v29 v30 t o6 o26 by_ from_ lost r h=>ih (.shift_walk_mover_turn_L8 depth more v28 v29 v30 t o6 o26 by_ from_ lost) r h;intro r h
  replace h:wJ (fun t depth by_ from_ lost=>g (I_shift_walk_mover_turn.shift_walk_mover_turn t depth by_ from_ lost)) (fun depth more v28 v29 v30 t o6 o26 by_ from_ lost=>g (I_shift_walk_mover_turn.shift_walk_mover_turn_L8 depth more v28 v29 v30 t o6 o26 by_ from_ lost)) depth more v28 v29 v30 t o6 o26 by_ from_ lost=some r:=h;unfold wJ at h;refine jF 1000 (z6o _ _ _ _ depth more v28 v29 v30 t o6 o26 by_ from_ lost) ?_;rintro _ rfl;refine zD decide_eq_true_iff h (fun _ h=>?_) (fun _ h=>?_)
  ·obtain⟨x,hx,h⟩:=zC h;refine⟨zF (l:=v28) (zA.sz),vO hx,x.K,x.N,x.S,List.map zA.toD x.L,x.From,x.To,zK (zA.toD_eq x) hx,?_⟩;rintro _ rfl;refine zI zq2 h (fun hc24 h=>?_) (fun hc24 h=>?_)
   ·rintro _ rfl;obtain⟨q4,g,h⟩:=zC h;refine⟨_,_,_,_,_,_,_,_,_,w5a _ _ _ _ _ _ g,?_⟩;obtain⟨hP,h⟩:=wY h;refine⟨hP.1,by first|exact hP.2|(simp only[zq3]at hP ⊢;exact hP.2),?_⟩;obtain⟨hP,h⟩:=wY h;refine⟨by first|exact hP|(rw[zq3];exact hP),?_⟩;refine zR (e':=List.map zA.toD (o26.set (Int.toNat v30) q4.1)) (w1h (zA.toD_eq q4.1)) ?_;rintro _ rfl;refine z2r zq2 hc24 ?_;obtain⟨q5,g,h⟩:=zC h;refine⟨_,⟨_,y1V _ _ g⟩,?_⟩;refine zD Iff.rfl h (fun _ h=>?_) (fun _ h=>?_)
    ·rintro _ rfl;rintro _ rfl;exact w5b _ _ _ _ _ _ _ _ _ _ _ _ h
    rintro _ rfl;exact w5b _ _ _ _ _ _ _ _ _ _ _ _ h
   obtain⟨q1,g,h⟩:=zC h;refine⟨_,⟨_,v6A _ _ _ g⟩,?_⟩;rintro _ rfl;obtain⟨q2,g,h⟩:=zC h;refine⟨_,_,_,_,_,_,_,_,_,w5a _ _ _ _ _ _ g,?_⟩;obtain⟨hP,h⟩:=wY h;refine⟨hP.1,by first|exact hP.2|(simp only[zq3]at hP ⊢;exact hP.2),?_⟩;obtain⟨hP,h⟩:=wY h;refine⟨by first|exact hP|(rw[zq3];exact hP),?_⟩;refine zR (e':=List.map zA.toD (o26.set (Int.toNat v30) q2.1)) (w1h (zA.toD_eq q2.1)) ?_;rintro _ rfl;refine jM zq2 hc24 ?_;rintro _ rfl;exact w5b _ _ _ _ _ _ _ _ _ _ _ _ h
  cases h;exact⟨rfl,rfl⟩
theorem z7H(t:zA)(depth by_ from_:Int)(lost:Bool)(r:zA×Int×Int×Bool)(h:shift_walk_mover_turn t depth by_ from_ lost=some r):z3D (.shift_walk_mover_turn t depth by_ from_ lost) r:=z7w (.shift_walk_mover_turn t depth by_ from_ lost) r h
theorem y1U(t:zA)(by_ from_:Int)(r:zA×Bool)(h:z4z t by_ from_=some r):Trip Tryz.prog 189 [.d (tT t),(nI by_),(nI from_)] [] [.d (tT r.1),(nB r.2)] []:=by
 unfold z4z at h;refine zG 1000 (v0b _ _ _ _ t by_ from_) ?_;rintro _ rfl;refine zD decide_eq_true_iff h (fun _ h=>?_) (fun _ h=>?_)
 ·cases h;exact⟨rfl,rfl⟩
 rintro _ rfl;refine zD decide_eq_true_iff h (fun _ h=>?_) (fun _ h=>?_)
 ·cases h;exact⟨rfl,rfl⟩
 rintro _ rfl;refine zD decide_eq_true_iff h (fun _ h=>?_) (fun _ h=>?_)
 ·cases h;exact⟨rfl,rfl⟩
 rintro _ rfl;refine zD decide_eq_true_iff h (fun _ h=>?_) (fun _ h=>?_)
 ·cases h;exact⟨rfl,rfl⟩
 obtain⟨q1,g,h⟩:=zC h;refine⟨_,_,_,_,_,_,_,_,_,z7H _ _ _ _ _ _ g,?_⟩;refine zD Iff.rfl h (fun _ h=>?_) (fun _ h=>?_)
 ·cases h;exact⟨rfl,rfl⟩
 cases h;exact⟨rfl,rfl⟩
theorem v3P(t:zA)(r:zA×Bool)(h:z9I t=some r):Trip Tryz.prog 128 [.d (tT t)] [] [.d (tT r.1),(nB r.2)] []:=by
 unfold z9I at h;refine zG 1000 (v4x _ _ _ _ t) ?_;obtain⟨q1,g,h⟩:=zC h;refine⟨_,⟨_,z9i _ _ _ _ _ g⟩,?_⟩;refine zI Iff.rfl h (fun _ h=>?_) (fun _ h=>?_)
 ·obtain⟨x,hx,h⟩:=zC h;refine⟨zF (l:=t.L) (zA.sz),vO hx,x.K,x.N,x.S,List.map zA.toD x.L,x.From,x.To,zK (zA.toD_eq x) hx,?_⟩;obtain⟨q2,g,h⟩:=zC h;refine⟨_,_,_,_,_,_,_,⟨_,y1U _ _ _ _ g⟩,?_⟩;obtain⟨x1,hx,h⟩:=zC h;refine⟨zF (l:=t.L) (zA.sz),vO hx,x1.K,x1.N,x1.S,List.map zA.toD x1.L,x1.From,x1.To,zK (zA.toD_eq x1) hx,?_⟩;obtain⟨q3,g,h⟩:=zC h;refine⟨_,_,_,_,_,_,_,⟨_,y1U _ _ _ _ g⟩,?_⟩;obtain⟨q4,g,h⟩:=zC h;refine⟨_,_,_,_,_,_,⟨_,z4O _ _ g⟩,?_⟩;obtain⟨q5,g,h⟩:=zC h;refine⟨_,_,_,_,_,_,⟨_,z4O _ _ g⟩,?_⟩
  obtain⟨q6,g,h⟩:=zC h;refine⟨_,_,_,_,_,_,⟨_,z4O _ _ g⟩,?_⟩;obtain⟨q7,g,h⟩:=zC h;have hT:=z4N _ _ g;simp only[List.map_cons,List.map_nil,tT,tV,tS,tG,zA.toD_eq,Value.toD_eq]at hT;refine⟨_,_,_,_,_,_,⟨_,hT⟩,?_⟩;obtain⟨q8,g,h⟩:=zC h;refine⟨_,_,_,_,_,_,⟨_,z4O _ _ g⟩,?_⟩;obtain⟨q9,g,h⟩:=zC h;refine⟨_,_,_,_,_,_,⟨_,z4O _ _ g⟩,?_⟩;refine⟨zF (l:=t.L) (zA.sz),?_⟩;obtain⟨hP,h⟩:=wY h;refine⟨by first|exact hP|simpa using hP,?_⟩;obtain⟨hP,h⟩:=wY h;refine⟨by first|exact hP|simpa using hP,?_⟩;obtain⟨hP,h⟩:=wY h
  refine⟨by first|exact hP|simpa using hP,?_⟩;obtain⟨hP,h⟩:=wY h;refine⟨by first|exact hP|simpa using hP,?_⟩;obtain⟨hP,h⟩:=wY h;refine⟨by first|exact hP|simpa using hP,?_⟩;refine zR (e':=List.map zA.toD (List.drop 0 (List.take (Int.toNat 1) t.L))) (by first|rfl|simp only[List.map_append,List.map_cons,List.map_nil,List.map_take,List.map_drop,List.map_set,List.map_replicate,zq3,zA.toD_eq]) ?_;obtain⟨q10,g,h⟩:=zC h;have hT:=z4N _ _ g
  simp only[List.map_cons,List.map_nil,tT,tV,tS,tG,zA.toD_eq,Value.toD_eq]at hT;refine⟨_,_,_,_,_,_,⟨_,hT⟩,?_⟩;cases h;exact⟨rfl,rfl⟩
 cases h;exact⟨rfl,rfl⟩
def z7y:(i:z0z)→y1h i→Prop
 |.wH a b,r=>Trip Tryz.prog 61 [.d (tT a),.d (tT b)] [] [(nB r)] []
 |.slices_EqualFunc_G120Same s1 s2,r=>Trip Tryz.prog 120 [.d (.sl (List.map zA.toD s1)),.d (.sl (List.map zA.toD s2)),.fn 61 [] []] [] [(nB r)] []
 |.slices_EqualFunc_G120Same_L4 s2 v15 v16 v17,r=>Ok (gZ (Trip Tryz.prog) [(nB r)] []) (kL Tryz.f120 4) ⟨32,[(1,.d (.sl (List.map zA.toD s2))),(2,.fn 61 [] []),(15,.d (.sl (List.map zA.toD v15))),(16,(nI v16)),(17,(nI v17))],[],[],0⟩
theorem v3L:∀i r,uO z1H i=some r→z7y i r:=by
 refine zN z7u fun g ih i=>?_;cases i with
 |wH a b=>
  have w5c:=fun s1 s2 r h=>ih (.slices_EqualFunc_G120Same s1 s2) r h;intro r h;replace h:z2S (fun s1 s2=>g (z0z.slices_EqualFunc_G120Same s1 s2)) a b=some r:=h;unfold z2S at h;refine zG 1000 (v5a _ _ _ _ a b) ?_;rintro _ rfl;refine zD zq2 h (fun _ h=>?_) (fun _ h=>?_)
  ·rintro _ rfl;refine zD zq2 h (fun _ h=>?_) (fun _ h=>?_)
   ·rintro _ rfl;refine zD zq2 h (fun _ h=>?_) (fun _ h=>?_)
    ·obtain⟨q1,g,h⟩:=zC h;refine⟨_,⟨_,w5c _ _ _ g⟩,?_⟩;cases h;exact⟨rfl,rfl⟩
    cases h;exact⟨rfl,rfl⟩
   cases h;exact⟨rfl,rfl⟩
  cases h;exact⟨rfl,rfl⟩
 |slices_EqualFunc_G120Same s1 s2=>
  have w5d:=fun s2 v15 v16 v17 r h=>ih (.slices_EqualFunc_G120Same_L4 s2 v15 v16 v17) r h;intro r h;replace h:wE (fun s2 v15 v16 v17=>g (z0z.slices_EqualFunc_G120Same_L4 s2 v15 v16 v17)) s1 s2=some r:=h;unfold wE at h;refine zG 1000 (z6a _ _ _ _ s1 s2) ?_;refine zR (e':=(List.length s1:Int)) (by first|rfl|rw[zq3]) ?_;refine zR (e':=(List.length s2:Int)) (by first|rfl|rw[zq3]) ?_;rintro _ rfl;refine zI zq2 h (fun _ h=>?_) (fun _ h=>?_)
  ·refine zR (e':=(List.length s1:Int)) (by first|rfl|rw[zq3]) ?_;exact w5d _ _ _ _ _ h
  cases h;exact⟨rfl,rfl⟩
 |slices_EqualFunc_G120Same_L4 s2 v15 v16 v17=>
  have w5e:=fun a b r h=>ih (.wH a b) r h;have w5d:=fun s2 v15 v16 v17 r h=>ih (.slices_EqualFunc_G120Same_L4 s2 v15 v16 v17) r h;intro r h;replace h:yJ (fun a b=>g (z0z.wH a b)) (fun s2 v15 v16 v17=>g (z0z.slices_EqualFunc_G120Same_L4 s2 v15 v16 v17)) s2 v15 v16 v17=some r:=h;unfold yJ at h;refine jF 1000 (z4U _ _ _ _ s2 v15 v16 v17) ?_;rintro _ rfl;refine zD decide_eq_true_iff h (fun _ h=>?_) (fun _ h=>?_)
  ·obtain⟨x,hx,h⟩:=zC h;refine⟨zF (l:=v15) (zA.sz),vO hx,x.K,x.N,x.S,List.map zA.toD x.L,x.From,x.To,zK (zA.toD_eq x) hx,?_⟩;obtain⟨x1,hx,h⟩:=zC h;refine⟨zF (l:=s2) (zA.sz),vO hx,x1.K,x1.N,x1.S,List.map zA.toD x1.L,x1.From,x1.To,zK (zA.toD_eq x1) hx,?_⟩;obtain⟨q1,g,h⟩:=zC h;refine⟨_,⟨_,w5e _ _ _ g⟩,?_⟩;refine zI Iff.rfl h (fun _ h=>?_) (fun _ h=>?_)
   ·rintro _ rfl;exact w5d _ _ _ _ _ h
   cases h;exact⟨rfl,rfl⟩
  cases h;exact⟨rfl,rfl⟩
theorem z1e(a b:zA)(r:Bool)(h:wH a b=some r):z7y (.wH a b) r:=v3L (.wH a b) r h
theorem y4o(u:FlowUse)(r:Bool)(h:z4H u=some r):Trip Tryz.prog 72 [.d (.agg [(.int .i64 u.l.K),(.int .i64 u.l.N),(.str u.l.S),(.sl (List.map zA.toD u.l.L)),(.int .i64 u.l.From),(.int .i64 u.l.To),(.int .i64 u.r_.K),(.int .i64 u.r_.N),(.str u.r_.S),(.sl (List.map zA.toD u.r_.L)),(.int .i64 u.r_.From),(.int .i64 u.r_.To)])] [] [(nB r)] []:=by
 unfold z4H at h;refine zG 1000 (y4D _ _ _ _ u) ?_;obtain⟨q1,g,h⟩:=zC h;refine⟨_,_,_,_,_,_,_,⟨_,v3P _ _ g⟩,?_⟩;refine zD Iff.rfl h (fun _ h=>?_) (fun _ h=>?_)
 ·obtain⟨q2,g,h⟩:=zC h;refine⟨_,⟨_,z1e _ _ _ g⟩,?_⟩;cases h;exact⟨rfl,rfl⟩
 cases h;exact⟨rfl,rfl⟩
theorem y2V(u:FlowUse)(r:Bool)(h:z1Q u=some r):Trip Tryz.prog 66 [.d (.agg [(.int .i64 u.l.K),(.int .i64 u.l.N),(.str u.l.S),(.sl (List.map zA.toD u.l.L)),(.int .i64 u.l.From),(.int .i64 u.l.To),(.int .i64 u.r_.K),(.int .i64 u.r_.N),(.str u.r_.S),(.sl (List.map zA.toD u.r_.L)),(.int .i64 u.r_.From),(.int .i64 u.r_.To)])] [] [(nB r)] []:=by
 unfold z1Q at h;refine zG 1000 (y3o _ _ _ _ u) ?_;refine⟨zF (l:=u.l.L) (zA.sz),?_⟩;obtain⟨hP,h⟩:=wY h;refine⟨by first|exact hP|simpa using hP,?_⟩;obtain⟨hP,h⟩:=wY h;refine⟨by first|exact hP|simpa using hP,?_⟩;obtain⟨hP,h⟩:=wY h;refine⟨by first|exact hP|simpa using hP,?_⟩;refine zR (e':=List.map zA.toD (List.drop 0 (List.take (Int.toNat 1) u.l.L))) (by first|rfl|simp only[List.map_append,List.map_cons,List.map_nil,List.map_take,List.map_drop,List.map_set,List.map_replicate,zq3,zA.toD_eq]) ?_
 obtain⟨x,hx,h⟩:=zC h;refine⟨zF (l:=u.l.L) (zA.sz),vO hx,x.K,x.N,x.S,List.map zA.toD x.L,x.From,x.To,zK (zA.toD_eq x) hx,?_⟩;obtain⟨x1,hx,h⟩:=zC h;refine⟨zF (l:=u.l.L) (zA.sz),vO hx,x1.K,x1.N,x1.S,List.map zA.toD x1.L,x1.From,x1.To,zK (zA.toD_eq x1) hx,?_⟩;obtain⟨q1,g,h⟩:=zC h;have hT:=z1e _ _ _ g;unfold z7y at hT;dsimp only at hT;simp only[List.map_cons,List.map_nil,tT,tV,tS,tG,zA.toD_eq,Value.toD_eq]at hT;refine⟨_,⟨_,hT⟩,?_⟩;cases h;exact⟨rfl,rfl⟩
theorem z9j(t:zA)(n:Int)(r:Bool)(h:z2Z t n=some r):Trip Tryz.prog 125 [.d (tT t),(nI n)] [] [(nB r)] []:=by
 unfold z2Z at h;refine zG 1000 (v2c _ _ _ _ t n) ?_;obtain⟨q1,g,h⟩:=zC h;refine⟨_,⟨_,z1e _ _ _ g⟩,?_⟩;cases h;exact⟨rfl,rfl⟩
theorem y4p(u:FlowUse)(r:Bool)(h:z0C u=some r):Trip Tryz.prog 70 [.d (.agg [(.int .i64 u.l.K),(.int .i64 u.l.N),(.str u.l.S),(.sl (List.map zA.toD u.l.L)),(.int .i64 u.l.From),(.int .i64 u.l.To),(.int .i64 u.r_.K),(.int .i64 u.r_.N),(.str u.r_.S),(.sl (List.map zA.toD u.r_.L)),(.int .i64 u.r_.From),(.int .i64 u.r_.To)])] [] [(nB r)] []:=by
 unfold z0C at h;refine zG 1000 (y4E _ _ _ _ u) ?_;obtain⟨x,hx,h⟩:=zC h;refine⟨zF (l:=u.l.L) (zA.sz),vO hx,x.K,x.N,x.S,List.map zA.toD x.L,x.From,x.To,zK (zA.toD_eq x) hx,?_⟩;obtain⟨q1,g,h⟩:=zC h;refine⟨_,⟨_,z9j _ _ _ g⟩,?_⟩;refine zD Iff.rfl h (fun _ h=>?_) (fun _ h=>?_)
 ·obtain⟨q2,g,h⟩:=zC h;refine⟨_,_,_,_,_,_,⟨_,z4N _ _ g⟩,?_⟩;obtain⟨q3,g,h⟩:=zC h;refine⟨_,⟨_,z1e _ _ _ g⟩,?_⟩;cases h;exact⟨rfl,rfl⟩
 cases h;exact⟨rfl,rfl⟩
theorem y9f(u:FlowUse)(r:Bool)(h:z6b u=some r):Trip Tryz.prog 68 [.d (.agg [(.int .i64 u.l.K),(.int .i64 u.l.N),(.str u.l.S),(.sl (List.map zA.toD u.l.L)),(.int .i64 u.l.From),(.int .i64 u.l.To),(.int .i64 u.r_.K),(.int .i64 u.r_.N),(.str u.r_.S),(.sl (List.map zA.toD u.r_.L)),(.int .i64 u.r_.From),(.int .i64 u.r_.To)])] [] [(nB r)] []:=by
 unfold z6b at h;refine zG 1000 (y9C _ _ _ _ u) ?_;obtain⟨x,hx,h⟩:=zC h;refine⟨zF (l:=u.l.L) (zA.sz),vO hx,x.K,x.N,x.S,List.map zA.toD x.L,x.From,x.To,zK (zA.toD_eq x) hx,?_⟩;obtain⟨q1,g,h⟩:=zC h;refine⟨_,⟨_,z9j _ _ _ g⟩,?_⟩;refine zD Iff.rfl h (fun _ h=>?_) (fun _ h=>?_)
 ·obtain⟨x1,hx,h⟩:=zC h;refine⟨zF (l:=u.l.L) (zA.sz),vO hx,x1.K,x1.N,x1.S,List.map zA.toD x1.L,x1.From,x1.To,zK (zA.toD_eq x1) hx,?_⟩;obtain⟨q2,g,h⟩:=zC h;refine⟨_,⟨_,z1e _ _ _ g⟩,?_⟩;cases h;exact⟨rfl,rfl⟩
 cases h;exact⟨rfl,rfl⟩
theorem y5A(u:FlowUse)(r:Bool)(h:z3K u=some r):Trip Tryz.prog 71 [.d (.agg [(.int .i64 u.l.K),(.int .i64 u.l.N),(.str u.l.S),(.sl (List.map zA.toD u.l.L)),(.int .i64 u.l.From),(.int .i64 u.l.To),(.int .i64 u.r_.K),(.int .i64 u.r_.N),(.str u.r_.S),(.sl (List.map zA.toD u.r_.L)),(.int .i64 u.r_.From),(.int .i64 u.r_.To)])] [] [(nB r)] []:=by
 unfold z3K at h;refine zG 1000 (y6p _ _ _ _ u) ?_;obtain⟨x,hx,h⟩:=zC h;refine⟨zF (l:=u.l.L) (zA.sz),vO hx,x.K,x.N,x.S,List.map zA.toD x.L,x.From,x.To,zK (zA.toD_eq x) hx,?_⟩;obtain⟨q1,g,h⟩:=zC h;have hT:=z4N _ _ g;simp only[List.map_cons,List.map_nil,tT,tV,tS,tG,zA.toD_eq,Value.toD_eq]at hT;refine⟨_,_,_,_,_,_,⟨_,hT⟩,?_⟩;obtain⟨x1,hx,h⟩:=zC h;refine⟨zF (l:=u.l.L) (zA.sz),vO hx,x1.K,x1.N,x1.S,List.map zA.toD x1.L,x1.From,x1.To,zK (zA.toD_eq x1) hx,?_⟩;obtain⟨q2,g,h⟩:=zC h
 refine⟨_,_,_,_,_,_,⟨_,z4N _ _ g⟩,?_⟩;obtain⟨q3,g,h⟩:=zC h;have hT:=z1e _ _ _ g;unfold z7y at hT;dsimp only at hT;simp only[List.map_cons,List.map_nil,tT,tV,tS,tG,zA.toD_eq,Value.toD_eq]at hT;refine⟨_,⟨_,hT⟩,?_⟩;cases h;exact⟨rfl,rfl⟩
theorem y2U(u:FlowUse)(r:Bool)(h:z3J u=some r):Trip Tryz.prog 126 [.d (.agg [(.int .i64 u.l.K),(.int .i64 u.l.N),(.str u.l.S),(.sl (List.map zA.toD u.l.L)),(.int .i64 u.l.From),(.int .i64 u.l.To),(.int .i64 u.r_.K),(.int .i64 u.r_.N),(.str u.r_.S),(.sl (List.map zA.toD u.r_.L)),(.int .i64 u.r_.From),(.int .i64 u.r_.To)])] [] [(nB r)] []:=by
 unfold z3J at h;refine zG 1000 (y3n _ _ _ _ u) ?_;obtain⟨x,hx,h⟩:=zC h;refine⟨zF (l:=u.l.L) (zA.sz),vO hx,x.K,x.N,x.S,List.map zA.toD x.L,x.From,x.To,zK (zA.toD_eq x) hx,?_⟩;obtain⟨x1,hx,h⟩:=zC h;refine⟨zF (l:=u.l.L) (zA.sz),vO hx,x1.K,x1.N,x1.S,List.map zA.toD x1.L,x1.From,x1.To,zK (zA.toD_eq x1) hx,?_⟩;obtain⟨q1,g,h⟩:=zC h;refine⟨_,⟨_,z1e _ _ _ g⟩,?_⟩;refine zD Iff.rfl h (fun _ h=>?_) (fun _ h=>?_)
 ·obtain⟨x2,hx,h⟩:=zC h;refine⟨zF (l:=u.l.L) (zA.sz),vO hx,x2.K,x2.N,x2.S,List.map zA.toD x2.L,x2.From,x2.To,zK (zA.toD_eq x2) hx,?_⟩;obtain⟨q2,g,h⟩:=zC h;refine⟨_,⟨_,z1e _ _ _ g⟩,?_⟩;cases h;exact⟨rfl,rfl⟩
 cases h;exact⟨rfl,rfl⟩
def z8p:(i:I_quiet_Quiet_L3)→z5b i→Prop
 |.quiet_Quiet_L3 quiet v7 v8 v9,r=>Ok (z7J (Trip Tryz.prog) [(nB r)] []) (kL Tryz.f15 3) ⟨57,[(3,(nB quiet)),(7,.d (.sl (List.map zA.toD v7))),(8,(nI v8)),(9,(nI v9))],[],[],0⟩
theorem y4g:∀i r,uO z2v i=some r→z8p i r:=by
 refine zN z8h fun g ih i=>?_;cases i with
 |quiet_Quiet_L3 quiet v7 v8 v9=>
  have w3D:=fun quiet v7 v8 v9 r h=>ih (.quiet_Quiet_L3 quiet v7 v8 v9) r h;intro r h;replace h:jK (fun quiet v7 v8 v9=>g (I_quiet_Quiet_L3.quiet_Quiet_L3 quiet v7 v8 v9)) quiet v7 v8 v9=some r:=h;unfold jK at h;refine jF 1000 (y4G _ _ _ _ quiet v7 v8 v9) ?_;rintro _ rfl;refine zD decide_eq_true_iff h (fun _ h=>?_) (fun _ h=>?_)
  ·obtain⟨x,hx,h⟩:=zC h;refine⟨zF (l:=v7) (zA.sz),vO hx,x.K,x.N,x.S,List.map zA.toD x.L,x.From,x.To,zK (zA.toD_eq x) hx,?_⟩;rintro _ rfl;refine zD zq2 h (fun hc43 h=>?_) (fun hc43 h=>?_)
   ·refine z2r zq2 hc43 ?_;rintro _ rfl;exact w3D _ _ _ _ _ h
   rintro _ rfl;refine zD zq2 h (fun hc44 h=>?_) (fun hc44 h=>?_)
   ·refine z2r zq2 hc44 ?_;rintro _ rfl;exact w3D _ _ _ _ _ h
   rintro _ rfl;refine zD zq2 h (fun hc45 h=>?_) (fun hc45 h=>?_)
   ·refine z2r zq2 hc45 ?_;rintro _ rfl;exact w3D _ _ _ _ _ h
   rintro _ rfl;refine zD zq2 h (fun hc46 h=>?_) (fun hc46 h=>?_)
   ·refine z2r zq2 hc46 ?_;rintro _ rfl;exact w3D _ _ _ _ _ h
   rintro _ rfl;refine zD zq2 h (fun hc47 h=>?_) (fun hc47 h=>?_)
   ·refine z2r zq2 hc47 ?_;rintro _ rfl;exact w3D _ _ _ _ _ h
   rintro _ rfl;refine zD zq2 h (fun hc48 h=>?_) (fun hc48 h=>?_)
   ·refine z2r zq2 hc48 ?_;rintro _ rfl;exact w3D _ _ _ _ _ h
   rintro _ rfl;refine zD zq2 h (fun hc49 h=>?_) (fun hc49 h=>?_)
   ·refine z2r zq2 hc49 ?_;rintro _ rfl;exact w3D _ _ _ _ _ h
   rintro _ rfl;refine zD zq2 h (fun hc50 h=>?_) (fun hc50 h=>?_)
   ·refine z2r zq2 hc50 ?_;rintro _ rfl;exact w3D _ _ _ _ _ h
   rintro _ rfl;refine zD zq2 h (fun _ h=>?_) (fun _ h=>?_)
   ·rintro _ rfl;exact w3D _ _ _ _ _ h
   rintro _ rfl;refine zD zq2 h (fun _ h=>?_) (fun _ h=>?_)
   ·rintro _ rfl;refine zD zq2 h (fun _ h=>?_) (fun _ h=>?_)
    ·refine zR (e':=(List.length x.L:Int)) (by first|rfl|rw[zq3]) ?_;rintro _ rfl;refine zD decide_eq_true_iff h (fun _ h=>?_) (fun _ h=>?_)
     ·cases h;exact⟨rfl,rfl⟩
     obtain⟨x33,hx,h⟩:=zC h;refine⟨zF (l:=x.L) (zA.sz),vO hx,x33.K,x33.N,x33.S,List.map zA.toD x33.L,x33.From,x33.To,zK (zA.toD_eq x33) hx,?_⟩;rintro _ rfl;refine zI zq2 h (fun _ h=>?_) (fun _ h=>?_)
     ·obtain⟨x34,hx,h⟩:=zC h;refine⟨zF (l:=x.L) (zA.sz),vO hx,x34.K,x34.N,x34.S,List.map zA.toD x34.L,x34.From,x34.To,zK (zA.toD_eq x34) hx,?_⟩;rintro _ rfl;refine zD zq2 h (fun _ h=>?_) (fun _ h=>?_)
      ·cases h;exact⟨rfl,rfl⟩
      rintro _ rfl;exact w3D _ _ _ _ _ h
     cases h;exact⟨rfl,rfl⟩
    rintro _ rfl;refine zD zq2 h (fun _ h=>?_) (fun _ h=>?_)
    ·refine zR (e':=(List.length x.L:Int)) (by first|rfl|rw[zq3]) ?_;rintro _ rfl;refine zD decide_eq_true_iff h (fun _ h=>?_) (fun _ h=>?_)
     ·cases h;exact⟨rfl,rfl⟩
     obtain⟨x35,hx,h⟩:=zC h;refine⟨zF (l:=x.L) (zA.sz),vO hx,x35.K,x35.N,x35.S,List.map zA.toD x35.L,x35.From,x35.To,zK (zA.toD_eq x35) hx,?_⟩;rintro _ rfl;refine zI zq2 h (fun _ h=>?_) (fun _ h=>?_)
     ·obtain⟨x36,hx,h⟩:=zC h;refine⟨zF (l:=x.L) (zA.sz),vO hx,x36.K,x36.N,x36.S,List.map zA.toD x36.L,x36.From,x36.To,zK (zA.toD_eq x36) hx,?_⟩;rintro _ rfl;refine zD zq2 h (fun _ h=>?_) (fun _ h=>?_)
      ·cases h;exact⟨rfl,rfl⟩
      rintro _ rfl;exact w3D _ _ _ _ _ h
     cases h;exact⟨rfl,rfl⟩
    rintro _ rfl;exact w3D _ _ _ _ _ h
   cases h;exact⟨rfl,rfl⟩
  cases h;exact⟨rfl,rfl⟩
theorem y4r(quiet:Bool)(v7:List zA)(v8 v9:Int)(r:Bool)(h:quiet_Quiet_L3 quiet v7 v8 v9=some r):z8p (.quiet_Quiet_L3 quiet v7 v8 v9) r:=y4g (.quiet_Quiet_L3 quiet v7 v8 v9) r h
def z6y:(i:I_quiet_all_L3)→z6z i→Prop
 |.quiet_all_L3 out i,r=>Ok (y1j (Trip Tryz.prog) [.d (.sl (List.map zA.toD r))] []) (kL Tryz.f49 3) ⟨21,[(3,.right 6 1 6 (List.map zA.toD out)),(4,(nI i))],[(6,1,some (.tok 6 (List.length (List.map zA.toD out))))],[],0⟩
theorem y7C:∀i r,uO z4B i=some r→z6y i r:=by
 refine zN y0A fun g ih i=>?_;cases i with
 |quiet_all_L3 out i=>
  have w3E:=fun out i r h=>ih (.quiet_all_L3 out i) r h;intro r h;replace h:gP (fun out i=>g (I_quiet_all_L3.quiet_all_L3 out i)) out i=some r:=h;unfold gP at h;refine jF 1000 (y7L _ _ _ _ out i) ?_;refine zR (e':=(List.length out:Int)) (by first|rfl|rw[zq3]) ?_;rintro _ rfl;refine zD decide_eq_true_iff h (fun _ h=>?_) (fun _ h=>?_)
  ·obtain⟨x,hx,h⟩:=zC h;refine⟨zF (l:=out) (zA.sz),vO hx,x.K,x.N,x.S,List.map zA.toD x.L,x.From,x.To,zK (zA.toD_eq x) hx,?_⟩;refine⟨zF (l:=x.L) (zA.sz),?_⟩;refine⟨by first|rfl|decide|simp only[zq3,List.length_cons,List.length_nil,List.map_append,List.length_append],?_⟩;obtain⟨hP,h⟩:=wY h;refine⟨by first|exact hP|simpa using hP,?_⟩
   refine zR (e':=List.map zA.toD (out++x.L)) (by first|rfl|simp only[List.map_append,List.map_cons,List.map_nil,List.map_take,List.map_drop,List.map_set,List.map_replicate,zq3,zA.toD_eq]) ?_;rintro _ rfl;exact w3E _ _ _ h
  cases h;exact⟨rfl,rfl⟩
theorem y7F(out:List zA)(i:Int)(r:List zA)(h:quiet_all_L3 out i=some r):z6y (.quiet_all_L3 out i) r:=y7C (.quiet_all_L3 out i) r h
theorem v3Q(t:zA)(r:List zA)(h:z9R t=some r):Trip Tryz.prog 49 [.d (tT t)] [] [.d (.sl (List.map zA.toD r))] []:=by
 unfold z9R at h;refine zG 1000 (v4y _ _ _ _ t) ?_;have hT:=y7F _ _ _ h;unfold z6y at hT;dsimp only at hT;simp only[List.map_cons,List.map_nil,List.length_cons,List.length_nil,tT,tV,tS,tG,zA.toD_eq,Value.toD_eq]at hT;exact hT
theorem y9g(t:zA)(r:Bool)(h:z6f t=some r):Trip Tryz.prog 15 [.d (tT t)] [] [(nB r)] []:=by
 unfold z6f at h;refine zG 1000 (y9D _ _ _ _ t) ?_;obtain⟨q1,g,h⟩:=zC h;refine⟨_,⟨_,v3Q _ _ g⟩,?_⟩;refine zR (e':=(List.length q1:Int)) (by first|rfl|rw[zq3]) ?_;exact y4r _ _ _ _ _ h
theorem y5B(u:FlowUse)(r:Bool)(h:z3L u=some r):Trip Tryz.prog 69 [.d (.agg [(.int .i64 u.l.K),(.int .i64 u.l.N),(.str u.l.S),(.sl (List.map zA.toD u.l.L)),(.int .i64 u.l.From),(.int .i64 u.l.To),(.int .i64 u.r_.K),(.int .i64 u.r_.N),(.str u.r_.S),(.sl (List.map zA.toD u.r_.L)),(.int .i64 u.r_.From),(.int .i64 u.r_.To)])] [] [(nB r)] []:=by
 unfold z3L at h;refine zG 1000 (y6q _ _ _ _ u) ?_;obtain⟨x,hx,h⟩:=zC h;refine⟨zF (l:=u.l.L) (zA.sz),vO hx,x.K,x.N,x.S,List.map zA.toD x.L,x.From,x.To,zK (zA.toD_eq x) hx,?_⟩;obtain⟨q1,g,h⟩:=zC h;refine⟨_,⟨_,y9g _ _ g⟩,?_⟩;refine zD Iff.rfl h (fun _ h=>?_) (fun _ h=>?_)
 ·obtain⟨q2,g,h⟩:=zC h;refine⟨_,⟨_,y2U _ _ g⟩,?_⟩;cases h;exact⟨rfl,rfl⟩
 cases h;exact⟨rfl,rfl⟩
theorem y7E(u:FlowUse)(r:Bool)(h:z4X u=some r):Trip Tryz.prog 67 [.d (.agg [(.int .i64 u.l.K),(.int .i64 u.l.N),(.str u.l.S),(.sl (List.map zA.toD u.l.L)),(.int .i64 u.l.From),(.int .i64 u.l.To),(.int .i64 u.r_.K),(.int .i64 u.r_.N),(.str u.r_.S),(.sl (List.map zA.toD u.r_.L)),(.int .i64 u.r_.From),(.int .i64 u.r_.To)])] [] [(nB r)] []:=by
 unfold z4X at h;refine zG 1000 (y7K _ _ _ _ u) ?_;obtain⟨x,hx,h⟩:=zC h;refine⟨zF (l:=u.l.L) (zA.sz),vO hx,x.K,x.N,x.S,List.map zA.toD x.L,x.From,x.To,zK (zA.toD_eq x) hx,?_⟩;obtain⟨q1,g,h⟩:=zC h;refine⟨_,⟨_,z9j _ _ _ g⟩,?_⟩;refine zD Iff.rfl h (fun _ h=>?_) (fun _ h=>?_)
 ·obtain⟨x1,hx,h⟩:=zC h;refine⟨zF (l:=u.l.L) (zA.sz),vO hx,x1.K,x1.N,x1.S,List.map zA.toD x1.L,x1.From,x1.To,zK (zA.toD_eq x1) hx,?_⟩;obtain⟨q2,g,h⟩:=zC h;refine⟨_,⟨_,z1e _ _ _ g⟩,?_⟩;cases h;exact⟨rfl,rfl⟩
 cases h;exact⟨rfl,rfl⟩
theorem y3L(rule:Int)(l r_:zA)(r:Bool)(h:z4h rule l r_=some r):Trip Tryz.prog 29 [(nI rule),.d (tT l),.d (tT r_)] [] [(nB r)] []:=by
 unfold z4h at h;refine zG 1000 (v1Y _ _ _ _ rule l r_) ?_;obtain⟨q1,g,h⟩:=zC h;refine⟨_,⟨_,z9i _ _ _ _ _ g⟩,?_⟩;rintro _ rfl;refine zD zq2 h (fun _ h=>?_) (fun _ h=>?_)
 ·refine zD Iff.rfl h (fun _ h=>?_) (fun _ h=>?_)
  ·obtain⟨q2,g,h⟩:=zC h;refine⟨_,⟨_,y2V _ _ g⟩,?_⟩;cases h;exact⟨rfl,rfl⟩
  cases h;exact⟨rfl,rfl⟩
 rintro _ rfl;refine zD zq2 h (fun _ h=>?_) (fun _ h=>?_)
 ·refine zD Iff.rfl h (fun _ h=>?_) (fun _ h=>?_)
  ·obtain⟨q3,g,h⟩:=zC h;refine⟨_,⟨_,y7E _ _ g⟩,?_⟩;cases h;exact⟨rfl,rfl⟩
  cases h;exact⟨rfl,rfl⟩
 rintro _ rfl;refine zD zq2 h (fun _ h=>?_) (fun _ h=>?_)
 ·refine zD Iff.rfl h (fun _ h=>?_) (fun _ h=>?_)
  ·obtain⟨q4,g,h⟩:=zC h;refine⟨_,⟨_,y9f _ _ g⟩,?_⟩;cases h;exact⟨rfl,rfl⟩
  cases h;exact⟨rfl,rfl⟩
 rintro _ rfl;refine zD zq2 h (fun _ h=>?_) (fun _ h=>?_)
 ·refine zD Iff.rfl h (fun _ h=>?_) (fun _ h=>?_)
  ·obtain⟨q5,g,h⟩:=zC h;refine⟨_,⟨_,y5B _ _ g⟩,?_⟩;cases h;exact⟨rfl,rfl⟩
  cases h;exact⟨rfl,rfl⟩
 rintro _ rfl;refine zD zq2 h (fun _ h=>?_) (fun _ h=>?_)
 ·obtain⟨q6,g,h⟩:=zC h;refine⟨_,⟨_,z9i _ _ _ _ _ g⟩,?_⟩;refine zD Iff.rfl h (fun _ h=>?_) (fun _ h=>?_)
  ·obtain⟨q7,g,h⟩:=zC h;refine⟨_,⟨_,y4p _ _ g⟩,?_⟩;cases h;exact⟨rfl,rfl⟩
  cases h;exact⟨rfl,rfl⟩
 rintro _ rfl;refine zD zq2 h (fun _ h=>?_) (fun _ h=>?_)
 ·obtain⟨q8,g,h⟩:=zC h;refine⟨_,⟨_,z9i _ _ _ _ _ g⟩,?_⟩;refine zD Iff.rfl h (fun _ h=>?_) (fun _ h=>?_)
  ·obtain⟨q9,g,h⟩:=zC h;refine⟨_,⟨_,y5A _ _ g⟩,?_⟩;cases h;exact⟨rfl,rfl⟩
  cases h;exact⟨rfl,rfl⟩
 rintro _ rfl;refine zD zq2 h (fun _ h=>?_) (fun _ h=>?_)
 ·obtain⟨q10,g,h⟩:=zC h;refine⟨_,⟨_,z9i _ _ _ _ _ g⟩,?_⟩;refine zD Iff.rfl h (fun _ h=>?_) (fun _ h=>?_)
  ·obtain⟨q11,g,h⟩:=zC h;refine⟨_,⟨_,y4o _ _ g⟩,?_⟩;cases h;exact⟨rfl,rfl⟩
  cases h;exact⟨rfl,rfl⟩
 cases h;exact⟨rfl,rfl⟩
theorem y5R(kind:Int)(l:List zA)(r:zA)(h:y0e kind l=some r):Trip Tryz.prog 73 [(nI kind),.d (.sl (List.map zA.toD l))] [] [.d (tT r)] []:=by
 unfold y0e at h;refine zG 1000 (v4Z _ _ _ _ kind l) ?_;cases h;exact⟨rfl,rfl⟩
theorem y3S(l:List zA)(r:zA)(h:z7k l=some r):Trip Tryz.prog 74 [.d (.sl (List.map zA.toD l))] [] [.d (tT r)] []:=by
 unfold z7k at h;refine zG 1000 (v2D _ _ _ _ l) ?_;obtain⟨q1,g,h⟩:=zC h;refine⟨_,_,_,_,_,_,⟨_,y5R _ _ _ g⟩,?_⟩;cases h;exact⟨rfl,rfl⟩
theorem z9k (r:Bool)(h:z4j=some r):Trip Tryz.prog 30 [] [] [(nB r)] []:=by
 unfold z4j at h;refine zG 1000 (v2d _ _ _ _ ) ?_;obtain⟨q1,g,h⟩:=zC h;refine⟨_,_,_,_,_,_,⟨_,y3S _ _ g⟩,?_⟩;obtain⟨q2,g,h⟩:=zC h;have hT:=y5R _ _ _ g;simp only[List.map_cons,List.map_nil,tT,tV,tS,tG,zA.toD_eq,Value.toD_eq]at hT;refine⟨_,_,_,_,_,_,⟨_,hT⟩,?_⟩;obtain⟨q3,g,h⟩:=zC h;refine⟨_,_,_,_,_,_,⟨_,y3S _ _ g⟩,?_⟩;obtain⟨q4,g,h⟩:=zC h;refine⟨_,⟨_,y3L _ _ _ _ g⟩,?_⟩;cases h;exact⟨rfl,rfl⟩
def y3H:(i:z0T)→z9d i→Prop
 |.uF t left levels,r=>Trip Tryz.prog 89 [.d (tT t),(nI left),(nI levels)] [] [(nI r)] []
 |.yT left levels i t,r=>Ok (z9t (Trip Tryz.prog) [(nI r)] []) (kL Tryz.f89 5) ⟨33,[(1,(nI left)),(2,(nI levels)),(3,.ref 3 1 0),(7,(nI i))],[(3,1,some (.agg (tT t)))],[],0⟩
theorem v0V:∀i r,uO z2U i=some r→y3H i r:=by
 refine zN z8K fun g ih i=>?_;cases i with
 |uF t left levels=>
  have w3I:=fun left levels i t r h=>ih (.yT left levels i t) r h;intro r h;replace h:z3d (fun left levels i t=>g (z0T.yT left levels i t)) t left levels=some r:=h;unfold z3d at h;refine zG 1000 (v2e _ _ _ _ t left levels) ?_;rintro _ rfl;refine zD decide_eq_true_iff h (fun _ h=>?_) (fun _ h=>?_)
  ·cases h;exact⟨rfl,rfl⟩
  rintro _ rfl;exact w3I _ _ _ _ _ h
 |yT left levels i t=>
  have w3H:=fun t left levels r h=>ih (.uF t left levels) r h;have w3I:=fun left levels i t r h=>ih (.yT left levels i t) r h;intro r h;replace h:z0a (fun t left levels=>g (z0T.uF t left levels)) (fun left levels i t=>g (z0T.yT left levels i t)) left levels i t=some r:=h;unfold z0a at h;refine jF 1000 (y6r _ _ _ _ left levels i t) ?_;refine zR (e':=(List.length t.L:Int)) (by first|rfl|rw[zq3]) ?_;rintro _ rfl;refine zD decide_eq_true_iff h (fun _ h=>?_) (fun _ h=>?_)
  ·rintro _ rfl;refine zD decide_eq_true_iff h (fun _ h=>?_) (fun _ h=>?_)
   ·obtain⟨x,hx,h⟩:=zC h;refine⟨zF (l:=t.L) (zA.sz),vO hx,x.K,x.N,x.S,List.map zA.toD x.L,x.From,x.To,zK (zA.toD_eq x) hx,?_⟩;rintro _ rfl;obtain⟨q1,g,h⟩:=zC h;refine⟨_,⟨_,w3H _ _ _ _ g⟩,?_⟩;rintro _ rfl;exact w3I _ _ _ _ _ h
   cases h;exact⟨rfl,rfl⟩
  cases h;exact⟨rfl,rfl⟩
theorem v1b(t:zA)(left levels r:Int)(h:uF t left levels=some r):y3H (.uF t left levels) r:=v0V (.uF t left levels) r h
def y3I:(i:z0U)→z9e i→Prop
 |.uG t,r=>Trip Tryz.prog 90 [.d (tT t)] [] [(nB r)] []
 |.yU i t,r=>Ok (z9u (Trip Tryz.prog) [(nB r)] []) (kL Tryz.f90 4) ⟨21,[(1,.ref 1 1 0),(3,(nI i))],[(1,1,some (.agg (tT t)))],[],0⟩
theorem v0W:∀i r,uO z2V i=some r→y3I i r:=by
 refine zN z8L fun g ih i=>?_;cases i with
 |uG t=>
  have w3K:=fun i t r h=>ih (.yU i t) r h;intro r h;replace h:z3e (fun i t=>g (z0U.yU i t)) t=some r:=h;unfold z3e at h;refine zG 1000 (v2g _ _ _ _ t) ?_;rintro _ rfl;rintro _ rfl;refine zD decide_eq_true_iff h (fun _ h=>?_) (fun _ h=>?_)
  ·cases h;exact⟨rfl,rfl⟩
  exact w3K _ _ _ h
 |yU i t=>
  have w3J:=fun t r h=>ih (.uG t) r h;have w3K:=fun i t r h=>ih (.yU i t) r h;intro r h;replace h:z0b (fun t=>g (z0U.uG t)) (fun i t=>g (z0U.yU i t)) i t=some r:=h;unfold z0b at h;refine jF 1000 (y6s _ _ _ _ i t) ?_;refine zR (e':=(List.length t.L:Int)) (by first|rfl|rw[zq3]) ?_;rintro _ rfl;refine zD decide_eq_true_iff h (fun _ h=>?_) (fun _ h=>?_)
  ·obtain⟨x,hx,h⟩:=zC h;refine⟨zF (l:=t.L) (zA.sz),vO hx,x.K,x.N,x.S,List.map zA.toD x.L,x.From,x.To,zK (zA.toD_eq x) hx,?_⟩;obtain⟨q1,g,h⟩:=zC h;refine⟨_,⟨_,w3J _ _ g⟩,?_⟩;refine zD Iff.rfl h (fun _ h=>?_) (fun _ h=>?_)
   ·cases h;exact⟨rfl,rfl⟩
   rintro _ rfl;exact w3K _ _ _ h
  cases h;exact⟨rfl,rfl⟩
theorem v1c(t:zA)(r:Bool)(h:uG t=some r):y3I (.uG t) r:=v0W (.uG t) r h
theorem z0W(t:zA)(r:Bool)(h:jP t=some r):Trip Tryz.prog 38 [.d (tT t)] [] [(nB r)] []:=by
 unfold jP at h;refine zG 1000 (v2f _ _ _ _ t) ?_;obtain⟨q1,g,h⟩:=zC h;refine⟨_,⟨_,v1b _ _ _ _ g⟩,?_⟩;rintro _ rfl;refine zD decide_eq_true_iff h (fun _ h=>?_) (fun _ h=>?_)
 ·cases h;exact⟨rfl,rfl⟩
 obtain⟨q2,g,h⟩:=zC h;refine⟨_,⟨_,v1c _ _ g⟩,?_⟩;cases h;exact⟨rfl,rfl⟩
def y3K:(i:z0V)→z9g i→Prop
 |.uH v left levels,r=>Trip Tryz.prog 161 [.d (tV v),(nI left),(nI levels)] [] [(nI r)] []
 |.yW left levels i v,r=>Ok (z9A (Trip Tryz.prog) [(nI r)] []) (kL Tryz.f161 5) ⟨33,[(1,(nI left)),(2,(nI levels)),(3,.ref 3 1 0),(7,(nI i))],[(3,1,some (.agg (tV v)))],[],0⟩
theorem v0Y:∀i r,uO z2W i=some r→y3K i r:=by
 refine zN z8P fun g ih i=>?_;cases i with
 |uH v left levels=>
  have w4r:=fun left levels i v r h=>ih (.yW left levels i v) r h;intro r h;replace h:z3j (fun left levels i v=>g (z0V.yW left levels i v)) v left levels=some r:=h;unfold z3j at h;refine zG 1000 (v2t _ _ _ _ v left levels) ?_;rintro _ rfl;refine zD decide_eq_true_iff h (fun _ h=>?_) (fun _ h=>?_)
  ·cases h;exact⟨rfl,rfl⟩
  rintro _ rfl;exact w4r _ _ _ _ _ h
 |yW left levels i v=>
  have w4q:=fun v left levels r h=>ih (.uH v left levels) r h;have w4r:=fun left levels i v r h=>ih (.yW left levels i v) r h;intro r h;replace h:z0h (fun v left levels=>g (z0V.uH v left levels)) (fun left levels i v=>g (z0V.yW left levels i v)) left levels i v=some r:=h;unfold z0h at h;refine jF 1000 (y6C _ _ _ _ left levels i v) ?_;refine zR (e':=(List.length v.L:Int)) (by first|rfl|rw[zq3]) ?_;rintro _ rfl;refine zD decide_eq_true_iff h (fun _ h=>?_) (fun _ h=>?_)
  ·rintro _ rfl;refine zD decide_eq_true_iff h (fun _ h=>?_) (fun _ h=>?_)
   ·obtain⟨x,hx,h⟩:=zC h;refine⟨zF (l:=v.L) (Value.sz),vO hx,x.N,List.map Value.toD x.L,zK (Value.toD_eq x) hx,?_⟩;rintro _ rfl;obtain⟨q1,g,h⟩:=zC h;refine⟨_,⟨_,w4q _ _ _ _ g⟩,?_⟩;rintro _ rfl;exact w4r _ _ _ _ _ h
   cases h;exact⟨rfl,rfl⟩
  cases h;exact⟨rfl,rfl⟩
theorem v1k(v:Value)(left levels r:Int)(h:uH v left levels=some r):y3K (.uH v left levels) r:=v0Y (.uH v left levels) r h
theorem y3P(v:Value)(r:Bool)(h:z5C v=some r):Trip Tryz.prog 99 [.d (tV v)] [] [(nB r)] []:=by
 unfold z5C at h;refine zG 1000 (v2u _ _ _ _ v) ?_;obtain⟨q1,g,h⟩:=zC h;refine⟨_,⟨_,v1k _ _ _ _ g⟩,?_⟩;rintro _ rfl;cases h;exact⟨rfl,rfl⟩
def z9a:(i:z3B)→z5Q i→Prop
 |.vI l i,r=>Ok (z9C (Trip Tryz.prog) [(nB r)] []) (kL Tryz.f100 2) ⟨22,[(0,.d (.sl (List.map Value.toD l))),(3,(nI i))],[],[],0⟩
theorem y5m:∀i r,uO z3u i=some r→z9a i r:=by
 refine zN z8S fun g ih i=>?_;cases i with
 |vI l i=>
  have w4G:=fun l i r h=>ih (.vI l i) r h;intro r h;replace h:z0j (fun l i=>g (z3B.vI l i)) l i=some r:=h;unfold z0j at h;refine jF 1000 (y6G _ _ _ _ l i) ?_;refine zR (e':=(List.length l:Int)) (by first|rfl|rw[zq3]) ?_;rintro _ rfl;refine zD decide_eq_true_iff h (fun _ h=>?_) (fun _ h=>?_)
  ·rintro _ rfl;refine zD decide_eq_true_iff h (fun _ h=>?_) (fun _ h=>?_)
   ·obtain⟨x,hx,h⟩:=zC h;refine⟨zF (l:=l) (Value.sz),vO hx,x.N,List.map Value.toD x.L,zK (Value.toD_eq x) hx,?_⟩;obtain⟨q1,g,h⟩:=zC h;refine⟨_,⟨_,y3P _ _ g⟩,?_⟩;refine zD Iff.rfl h (fun _ h=>?_) (fun _ h=>?_)
    ·cases h;exact⟨rfl,rfl⟩
    rintro _ rfl;exact w4G _ _ _ h
   refine zR (e':=(List.length l:Int)) (by first|rfl|rw[zq3]) ?_;rintro _ rfl;cases h;exact⟨rfl,rfl⟩
  refine zR (e':=(List.length l:Int)) (by first|rfl|rw[zq3]) ?_;rintro _ rfl;cases h;exact⟨rfl,rfl⟩
theorem y5M(l:List Value)(i:Int)(r:Bool)(h:vI l i=some r):z9a (.vI l i) r:=y5m (.vI l i) r h
theorem y3Q(l:List Value)(r:Bool)(h:z5D l=some r):Trip Tryz.prog 100 [.d (.sl (List.map Value.toD l))] [] [(nB r)] []:=by
 unfold z5D at h;refine zG 1000 (v2x _ _ _ _ l) ?_;exact y5M _ _ _ h
theorem y3R(s:State)(r:Bool)(h:z4v s=some r):Trip Tryz.prog 48 [.d (tS s)] [] [(nB r)] []:=by
 unfold z4v at h;refine zG 1000 (v2z _ _ _ _ s) ?_;refine zR (e':=(List.length s.Globals:Int)) (by first|rfl|rw[zq3]) ?_;rintro _ rfl;refine zD decide_eq_true_iff h (fun _ h=>?_) (fun _ h=>?_)
 ·cases h;exact⟨rfl,rfl⟩
 refine zR (e':=(List.length s.Locals:Int)) (by first|rfl|rw[zq3]) ?_;rintro _ rfl;refine zD decide_eq_true_iff h (fun _ h=>?_) (fun _ h=>?_)
 ·cases h;exact⟨rfl,rfl⟩
 refine zR (e':=(List.length s.Input:Int)) (by first|rfl|rw[zq3]) ?_;rintro _ rfl;refine zD decide_eq_true_iff h (fun _ h=>?_) (fun _ h=>?_)
 ·cases h;exact⟨rfl,rfl⟩
 refine zR (e':=(List.length s.Trace:Int)) (by first|rfl|rw[zq3]) ?_;rintro _ rfl;refine zD decide_eq_true_iff h (fun _ h=>?_) (fun _ h=>?_)
 ·cases h;exact⟨rfl,rfl⟩
 rintro _ rfl;refine zD decide_eq_true_iff h (fun _ h=>?_) (fun _ h=>?_)
 ·cases h;exact⟨rfl,rfl⟩
 obtain⟨q1,g,h⟩:=zC h;refine⟨_,⟨_,y3P _ _ g⟩,?_⟩;refine zD Iff.rfl h (fun _ h=>?_) (fun _ h=>?_)
 ·cases h;exact⟨rfl,rfl⟩
 obtain⟨q2,g,h⟩:=zC h;refine⟨_,⟨_,y3Q _ _ g⟩,?_⟩;refine zD Iff.rfl h (fun _ h=>?_) (fun _ h=>?_)
 ·cases h;exact⟨rfl,rfl⟩
 obtain⟨q3,g,h⟩:=zC h;refine⟨_,⟨_,y3Q _ _ g⟩,?_⟩;cases h;exact⟨rfl,rfl⟩
def z9b:(i:z3C)→z5R i→Prop
 |.vJ i c,r=>Ok (z9E (Trip Tryz.prog) [(nB r)] []) (kL Tryz.f23 2) ⟨45,[(1,.ref 1 1 0),(3,(nI i))],[(1,1,some (.agg (.agg [(.int .i64 c.M.K),(.int .i64 c.M.N),(.str c.M.S),(.sl (List.map zA.toD c.M.L)),(.int .i64 c.M.From),(.int .i64 c.M.To),(.sl (List.map zA.toD c.Types)),(.sl (List.map Value.toD c.S.Globals)),(.sl (List.map Value.toD c.S.Locals)),(.sl (List.map (D.int .i64) c.S.Input)),(.int .i64 c.S.At),(.sl (List.map (D.int .i64) c.S.Trace)),(.int .i64 c.S.Fuel),(.int .i64 c.S.Kind),(.int .i64 c.S.N),(.int .i64 c.S.Ret.N),(.sl (List.map Value.toD c.S.Ret.L)),(.int .i64 c.Rule),(.int .i64 c.L.K),(.int .i64 c.L.N),(.str c.L.S),(.sl (List.map zA.toD c.L.L)),(.int .i64 c.L.From),(.int .i64 c.L.To),(.int .i64 c.R.K),(.int .i64 c.R.N),(.str c.R.S),(.sl (List.map zA.toD c.R.L)),(.int .i64 c.R.From),(.int .i64 c.R.To)])))],[],0⟩
theorem y5n:∀i r,uO z3v i=some r→z9b i r:=by
 refine zN z8T fun g ih i=>?_;cases i with
 |vJ i c=>
  have w4Y:=fun i c r h=>ih (.vJ i c) r h;intro r h;replace h:z0k (fun i c=>g (z3C.vJ i c)) i c=some r:=h;unfold z0k at h;refine jF 1000 (y6I _ _ _ _ i c) ?_;refine zR (e':=(List.length c.Types:Int)) (by first|rfl|rw[zq3]) ?_;rintro _ rfl;refine zD decide_eq_true_iff h (fun _ h=>?_) (fun _ h=>?_)
  ·rintro _ rfl;refine zD decide_eq_true_iff h (fun _ h=>?_) (fun _ h=>?_)
   ·obtain⟨x,hx,h⟩:=zC h;refine⟨zF (l:=c.Types) (zA.sz),vO hx,x.K,x.N,x.S,List.map zA.toD x.L,x.From,x.To,zK (zA.toD_eq x) hx,?_⟩;obtain⟨q1,g,h⟩:=zC h;refine⟨_,⟨_,z0W _ _ g⟩,?_⟩;refine zD Iff.rfl h (fun _ h=>?_) (fun _ h=>?_)
    ·cases h;exact⟨rfl,rfl⟩
    rintro _ rfl;exact w4Y _ _ _ h
   refine zR (e':=(List.length c.Types:Int)) (by first|rfl|rw[zq3]) ?_;rintro _ rfl;refine zD decide_eq_true_iff h (fun _ h=>?_) (fun _ h=>?_)
   ·cases h;exact⟨rfl,rfl⟩
   obtain⟨q2,g,h⟩:=zC h;refine⟨_,⟨_,z0W _ _ g⟩,?_⟩;refine zD Iff.rfl h (fun _ h=>?_) (fun _ h=>?_)
   ·cases h;exact⟨rfl,rfl⟩
   obtain⟨q3,g,h⟩:=zC h;refine⟨_,⟨_,z0W _ _ g⟩,?_⟩;refine zD Iff.rfl h (fun _ h=>?_) (fun _ h=>?_)
   ·cases h;exact⟨rfl,rfl⟩
   obtain⟨q4,g,h⟩:=zC h;refine⟨_,⟨_,z0W _ _ g⟩,?_⟩;refine zD Iff.rfl h (fun _ h=>?_) (fun _ h=>?_)
   ·cases h;exact⟨rfl,rfl⟩
   obtain⟨q5,g,h⟩:=zC h;refine⟨_,⟨_,y3R _ _ g⟩,?_⟩;cases h;exact⟨rfl,rfl⟩
  refine zR (e':=(List.length c.Types:Int)) (by first|rfl|rw[zq3]) ?_;rintro _ rfl;refine zD decide_eq_true_iff h (fun _ h=>?_) (fun _ h=>?_)
  ·cases h;exact⟨rfl,rfl⟩
  obtain⟨q6,g,h⟩:=zC h;refine⟨_,⟨_,z0W _ _ g⟩,?_⟩;refine zD Iff.rfl h (fun _ h=>?_) (fun _ h=>?_)
  ·cases h;exact⟨rfl,rfl⟩
  obtain⟨q7,g,h⟩:=zC h;refine⟨_,⟨_,z0W _ _ g⟩,?_⟩;refine zD Iff.rfl h (fun _ h=>?_) (fun _ h=>?_)
  ·cases h;exact⟨rfl,rfl⟩
  obtain⟨q8,g,h⟩:=zC h;refine⟨_,⟨_,z0W _ _ g⟩,?_⟩;refine zD Iff.rfl h (fun _ h=>?_) (fun _ h=>?_)
  ·cases h;exact⟨rfl,rfl⟩
  obtain⟨q9,g,h⟩:=zC h;refine⟨_,⟨_,y3R _ _ g⟩,?_⟩;cases h;exact⟨rfl,rfl⟩
theorem y5P(i:Int)(c:Ref25Rule)(r:Bool)(h:vJ i c=some r):z9b (.vJ i c) r:=y5n (.vJ i c) r h
theorem v1m(c:Ref25Rule)(r:Bool)(h:z7j c=some r):Trip Tryz.prog 23 [.d (.agg [(.int .i64 c.M.K),(.int .i64 c.M.N),(.str c.M.S),(.sl (List.map zA.toD c.M.L)),(.int .i64 c.M.From),(.int .i64 c.M.To),(.sl (List.map zA.toD c.Types)),(.sl (List.map Value.toD c.S.Globals)),(.sl (List.map Value.toD c.S.Locals)),(.sl (List.map (D.int .i64) c.S.Input)),(.int .i64 c.S.At),(.sl (List.map (D.int .i64) c.S.Trace)),(.int .i64 c.S.Fuel),(.int .i64 c.S.Kind),(.int .i64 c.S.N),(.int .i64 c.S.Ret.N),(.sl (List.map Value.toD c.S.Ret.L)),(.int .i64 c.Rule),(.int .i64 c.L.K),(.int .i64 c.L.N),(.str c.L.S),(.sl (List.map zA.toD c.L.L)),(.int .i64 c.L.From),(.int .i64 c.L.To),(.int .i64 c.R.K),(.int .i64 c.R.N),(.str c.R.S),(.sl (List.map zA.toD c.R.L)),(.int .i64 c.R.From),(.int .i64 c.R.To)])] [] [(nB r)] []:=by
 unfold z7j at h;refine zG 1000 (v2C _ _ _ _ c) ?_;exact y5P _ _ _ h
theorem v1n(c:Ref28Rule)(r:Bool)(h:z7m c=some r):Trip Tryz.prog 28 [.d (.agg [(.int .i64 c.M.K),(.int .i64 c.M.N),(.str c.M.S),(.sl (List.map zA.toD c.M.L)),(.int .i64 c.M.From),(.int .i64 c.M.To),(.sl (List.map zA.toD c.Types)),(.int .i64 c.Ret.K),(.int .i64 c.Ret.N),(.str c.Ret.S),(.sl (List.map zA.toD c.Ret.L)),(.int .i64 c.Ret.From),(.int .i64 c.Ret.To),(.sl (List.map Value.toD c.S.Globals)),(.sl (List.map Value.toD c.S.Locals)),(.sl (List.map (D.int .i64) c.S.Input)),(.int .i64 c.S.At),(.sl (List.map (D.int .i64) c.S.Trace)),(.int .i64 c.S.Fuel),(.int .i64 c.S.Kind),(.int .i64 c.S.N),(.int .i64 c.S.Ret.N),(.sl (List.map Value.toD c.S.Ret.L)),(.int .i64 c.Rule),(.sl (List.map (D.int .i64) c.Nums)),(.int .i64 c.L.K),(.int .i64 c.L.N),(.str c.L.S),(.sl (List.map zA.toD c.L.L)),(.int .i64 c.L.From),(.int .i64 c.L.To),(.int .i64 c.R.K),(.int .i64 c.R.N),(.str c.R.S),(.sl (List.map zA.toD c.R.L)),(.int .i64 c.R.From),(.int .i64 c.R.To)])] [] [(nB r)] []:=by
 unfold z7m at h;refine zG 1000 (v2E _ _ _ _ c) ?_;obtain⟨q1,g,h⟩:=zC h;refine⟨_,⟨_,v1m _ _ g⟩,?_⟩;refine zD Iff.rfl h (fun _ h=>?_) (fun _ h=>?_)
 ·cases h;exact⟨rfl,rfl⟩
 obtain⟨q2,g,h⟩:=zC h;refine⟨_,⟨_,z0W _ _ g⟩,?_⟩;refine zD Iff.rfl h (fun _ h=>?_) (fun _ h=>?_)
 ·cases h;exact⟨rfl,rfl⟩
 refine zR (e':=(List.length c.Nums:Int)) (by first|rfl|rw[zq3]) ?_;rintro _ rfl;cases h;exact⟨rfl,rfl⟩
def y1H:(i:z0q)→z7z i→Prop
 |.wL a b,r=>Trip Tryz.prog 54 [.d (tT a),.d (tT b)] [] [(nB r)] []
 |.yE i a b,r=>Ok (z7K (Trip Tryz.prog) [(nB r)] []) (kL Tryz.f54 4) ⟨67,[(2,.ref 2 1 0),(3,.ref 3 1 0),(5,(nI i))],[(2,1,some (.agg (tT a))),(3,1,some (.agg (tT b)))],[],0⟩
theorem y8Z:∀i r,uO z2a i=some r→y1H i r:=by
 refine zN z7t fun g ih i=>?_;cases i with
 |wL a b=>
  have w3M:=fun i a b r h=>ih (.yE i a b) r h;intro r h;replace h:z2h (fun i a b=>g (z0q.yE i a b)) a b=some r:=h;unfold z2h at h;refine zG 1000 (y9E _ _ _ _ a b) ?_;rintro _ rfl;refine zI zq2 h (fun _ h=>?_) (fun _ h=>?_)
  ·rintro _ rfl;refine zI zq2 h (fun _ h=>?_) (fun _ h=>?_)
   ·rintro _ rfl;refine zI zq2 h (fun _ h=>?_) (fun _ h=>?_)
    ·rintro _ rfl;refine zI zq2 h (fun _ h=>?_) (fun _ h=>?_)
     ·rintro _ rfl;refine zI zq2 h (fun _ h=>?_) (fun _ h=>?_)
      ·refine zR (e':=(List.length a.L:Int)) (by first|rfl|rw[zq3]) ?_;refine zR (e':=(List.length b.L:Int)) (by first|rfl|rw[zq3]) ?_;rintro _ rfl;refine zI zq2 h (fun _ h=>?_) (fun _ h=>?_)
       ·exact w3M _ _ _ _ h
       cases h;exact⟨rfl,rfl⟩
      cases h;exact⟨rfl,rfl⟩
     cases h;exact⟨rfl,rfl⟩
    cases h;exact⟨rfl,rfl⟩
   cases h;exact⟨rfl,rfl⟩
  cases h;exact⟨rfl,rfl⟩
 |yE i a b=>
  have w3L:=fun a b r h=>ih (.wL a b) r h;have w3M:=fun i a b r h=>ih (.yE i a b) r h;intro r h;replace h:gB (fun a b=>g (z0q.wL a b)) (fun i a b=>g (z0q.yE i a b)) i a b=some r:=h;unfold gB at h;refine jF 1000 (y4H _ _ _ _ i a b) ?_;refine zR (e':=(List.length a.L:Int)) (by first|rfl|rw[zq3]) ?_;rintro _ rfl;refine zD decide_eq_true_iff h (fun _ h=>?_) (fun _ h=>?_)
  ·obtain⟨x,hx,h⟩:=zC h;refine⟨zF (l:=a.L) (zA.sz),vO hx,x.K,x.N,x.S,List.map zA.toD x.L,x.From,x.To,zK (zA.toD_eq x) hx,?_⟩;obtain⟨x1,hx,h⟩:=zC h;refine⟨zF (l:=b.L) (zA.sz),vO hx,x1.K,x1.N,x1.S,List.map zA.toD x1.L,x1.From,x1.To,zK (zA.toD_eq x1) hx,?_⟩;obtain⟨q1,g,h⟩:=zC h;refine⟨_,⟨_,w3L _ _ _ g⟩,?_⟩;refine zI Iff.rfl h (fun _ h=>?_) (fun _ h=>?_)
   ·rintro _ rfl;exact w3M _ _ _ _ h
   cases h;exact⟨rfl,rfl⟩
  cases h;exact⟨rfl,rfl⟩
theorem y1O(a b:zA)(r:Bool)(h:wL a b=some r):y1H (.wL a b) r:=y8Z (.wL a b) r h
def z8q:(i:z2D)→z5c i→Prop
 |.yP i d,r=>Ok (z7L (Trip Tryz.prog) [(nB r)] []) (kL Tryz.f179 4) ⟨37,[(1,.ref 1 1 0),(3,(nI i))],[(1,1,some (.agg (tT d)))],[],0⟩
theorem y4h:∀i r,uO z2w i=some r→z8q i r:=by
 refine zN z8i fun g ih i=>?_;cases i with
 |yP i d=>
  have w3T:=fun i d r h=>ih (.yP i d) r h;intro r h;replace h:gC (fun i d=>g (z2D.yP i d)) i d=some r:=h;unfold gC at h;refine jF 1000 (y4I _ _ _ _ i d) ?_;refine zR (e':=(List.length d.L:Int)) (by first|rfl|rw[zq3]) ?_;rintro _ rfl;refine zD decide_eq_true_iff h (fun _ h=>?_) (fun _ h=>?_)
  ·obtain⟨x,hx,h⟩:=zC h;refine⟨zF (l:=d.L) (zA.sz),vO hx,x.K,x.N,x.S,List.map zA.toD x.L,x.From,x.To,zK (zA.toD_eq x) hx,?_⟩;rintro _ rfl;refine zI zq2 h (fun _ h=>?_) (fun _ h=>?_)
   ·obtain⟨x1,hx,h⟩:=zC h;refine⟨zF (l:=d.L) (zA.sz),vO hx,x1.K,x1.N,x1.S,List.map zA.toD x1.L,x1.From,x1.To,zK (zA.toD_eq x1) hx,?_⟩;refine zR (e':=(List.length x1.L:Int)) (by first|rfl|rw[zq3]) ?_;rintro _ rfl;refine zI zq2 h (fun _ h=>?_) (fun _ h=>?_)
    ·rintro _ rfl;exact w3T _ _ _ h
    cases h;exact⟨rfl,rfl⟩
   cases h;exact⟨rfl,rfl⟩
  cases h;exact⟨rfl,rfl⟩
theorem y4s(i:Int)(d:zA)(r:Bool)(h:yP i d=some r):z8q (.yP i d) r:=y4h (.yP i d) r h
theorem z7F(d:zA)(r:Bool)(h:z1S d=some r):Trip Tryz.prog 179 [.d (tT d)] [] [(nB r)] []:=by
 unfold z1S at h;refine zG 1000 (y9F _ _ _ _ d) ?_;rintro _ rfl;refine zI zq2 h (fun _ h=>?_) (fun _ h=>?_)
 ·refine zR (e':=(List.length d.L:Int)) (by first|rfl|rw[zq3]) ?_;rintro _ rfl;refine zD zq2 h (fun _ h=>?_) (fun _ h=>?_)
  ·cases h;exact⟨rfl,rfl⟩
  exact y4s _ _ _ h
 cases h;exact⟨rfl,rfl⟩
def y1I:(i:uE)→z7A i→Prop
 |.zO m t in_,r=>Trip Tryz.prog 229 [.d (tT m),.d (tT t),.d (.sl (List.map (D.int .i64) in_))] [] [(nI r)] []
 |.yA in_ at_ i m,r=>Ok (z3H (Trip Tryz.prog) [(nI r)] []) (kL Tryz.f229 12) ⟨137,[(2,.d (.sl (List.map (D.int .i64) in_))),(3,.ref 3 1 0),(8,(nI at_)),(9,(nI i))],[(3,1,some (.agg (tT m)))],[],0⟩
 |.zQ in_ at_ sum i m d,r=>Ok (z3H (Trip Tryz.prog) [(nI r)] []) (kL Tryz.f229 21) ⟨137,[(2,.d (.sl (List.map (D.int .i64) in_))),(3,.ref 3 1 0),(8,(nI at_)),(10,.ref 10 1 0),(11,(nI sum)),(12,(nI i))],[(3,1,some (.agg (tT m))),(10,1,some (.agg (tT d)))],[],0⟩
theorem y9a:∀i r,uO z0p i=some r→y1I i r:=by
 refine zN z5o fun g ih i=>?_;cases i with
 |zO m t in_=>
  have w3U:=fun m t in_ r h=>ih (.zO m t in_) r h;have w3V:=fun in_ at_ i m r h=>ih (.yA in_ at_ i m) r h;intro r h;replace h:wO (fun m t in_=>g (uE.zO m t in_)) (fun in_ at_ i m=>g (uE.yA in_ at_ i m)) m t in_=some r:=h;unfold wO at h;refine zG 1000 (y9G _ _ _ _ m t in_) ?_;rintro _ rfl;refine zD zq2 h (fun hc124 h=>?_) (fun hc124 h=>?_)
  ·refine zR (e':=(List.length t.L:Int)) (by first|rfl|rw[zq3]) ?_;rintro _ rfl;refine zD zq2 h (fun _ h=>?_) (fun _ h=>?_)
   ·cases h;exact⟨rfl,rfl⟩
   rintro _ rfl;refine jM zq2 (fun e=>absurd (hc124.symm.trans e) (by decide)) ?_;rintro _ rfl;refine z8g zq2 (fun e=>absurd (hc124.symm.trans e) (by decide)) ?_;cases h;exact⟨rfl,rfl⟩
  rintro _ rfl;refine zD zq2 h (fun hc126 h=>?_) (fun hc126 h=>?_)
  ·refine zR (e':=(List.length t.L:Int)) (by first|rfl|rw[zq3]) ?_;rintro _ rfl;refine zD zq2 h (fun _ h=>?_) (fun _ h=>?_)
   ·cases h;exact⟨rfl,rfl⟩
   rintro _ rfl;refine jM zq2 (fun e=>absurd (hc126.symm.trans e) (by decide)) ?_;rintro _ rfl;refine z8g zq2 (fun e=>absurd (hc126.symm.trans e) (by decide)) ?_;cases h;exact⟨rfl,rfl⟩
  rintro _ rfl;refine zD zq2 h (fun hc128 h=>?_) (fun hc128 h=>?_)
  ·refine zR (e':=(List.length t.L:Int)) (by first|rfl|rw[zq3]) ?_;rintro _ rfl;refine zD zq2 h (fun _ h=>?_) (fun _ h=>?_)
   ·rintro _ rfl;refine zD decide_eq_true_iff h (fun _ h=>?_) (fun _ h=>?_)
    ·rintro _ rfl;refine zD decide_eq_true_iff h (fun _ h=>?_) (fun _ h=>?_)
     ·obtain⟨x2,hx,h⟩:=zC h;refine⟨zF (l:=t.L) (zA.sz),vO hx,x2.K,x2.N,x2.S,List.map zA.toD x2.L,x2.From,x2.To,zK (zA.toD_eq x2) hx,?_⟩;obtain⟨q3,g,h⟩:=zC h;refine⟨_,⟨_,w3U _ _ _ _ g⟩,?_⟩;rintro _ rfl;rintro _ rfl;refine zD decide_eq_true_iff h (fun _ h=>?_) (fun _ h=>?_)
      ·cases h;exact⟨rfl,rfl⟩
      cases h;exact⟨rfl,rfl⟩
     rintro _ rfl;refine z8g zq2 (fun e=>absurd (hc128.symm.trans e) (by decide)) ?_;cases h;exact⟨rfl,rfl⟩
    rintro _ rfl;refine z8g zq2 (fun e=>absurd (hc128.symm.trans e) (by decide)) ?_;cases h;exact⟨rfl,rfl⟩
   rintro _ rfl;refine z8g zq2 (fun e=>absurd (hc128.symm.trans e) (by decide)) ?_;cases h;exact⟨rfl,rfl⟩
  rintro _ rfl;refine zI zq2 h (fun _ h=>?_) (fun _ h=>?_)
  ·refine zR (e':=(List.length t.L:Int)) (by first|rfl|rw[zq3]) ?_;rintro _ rfl;refine zI zq2 h (fun _ h=>?_) (fun _ h=>?_)
   ·rintro _ rfl;refine zD decide_eq_true_iff h (fun _ h=>?_) (fun _ h=>?_)
    ·cases h;exact⟨rfl,rfl⟩
    refine zR (e':=(List.length m.L:Int)) (by first|rfl|rw[zq3]) ?_;rintro _ rfl;refine zD decide_eq_true_iff h (fun _ h=>?_) (fun _ h=>?_)
    ·cases h;exact⟨rfl,rfl⟩
    exact w3V _ _ _ _ _ h
   cases h;exact⟨rfl,rfl⟩
  cases h;exact⟨rfl,rfl⟩
 |yA in_ at_ i m=>
  have w3V:=fun in_ at_ i m r h=>ih (.yA in_ at_ i m) r h;have w3W:=fun in_ at_ sum i m d r h=>ih (.zQ in_ at_ sum i m d) r h;intro r h;replace h:uY (fun in_ at_ i m=>g (uE.yA in_ at_ i m)) (fun in_ at_ sum i m d=>g (uE.zQ in_ at_ sum i m d)) in_ at_ i m=some r:=h;unfold uY at h;refine jF 1000 (y3p _ _ _ _ in_ at_ i m) ?_;refine zR (e':=(List.length in_:Int)) (by first|rfl|rw[zq3]) ?_;rintro _ rfl;refine zD decide_eq_true_iff h (fun _ h=>?_) (fun _ h=>?_)
  ·obtain⟨x,hx,h⟩:=zC h;refine⟨zF (l:=in_) (fun _=>rfl),vO hx,x,zK rfl hx,?_⟩;rintro _ rfl;refine zD zq2 h (fun _ h=>?_) (fun _ h=>?_)
   ·cases h;exact⟨rfl,rfl⟩
   rintro _ rfl;exact w3V _ _ _ _ _ h
  obtain⟨x1,hx,h⟩:=zC h;refine⟨zF (l:=m.L) (zA.sz),vO hx,x1.K,x1.N,x1.S,List.map zA.toD x1.L,x1.From,x1.To,zK (zA.toD_eq x1) hx,?_⟩;obtain⟨q1,g,h⟩:=zC h;refine⟨_,⟨_,z7F _ _ g⟩,?_⟩;refine zI Iff.rfl h (fun _ h=>?_) (fun _ h=>?_)
  ·exact w3W _ _ _ _ _ _ _ h
  cases h;exact⟨rfl,rfl⟩
 |zQ in_ at_ sum i m d=>
  have w3U:=fun m t in_ r h=>ih (.zO m t in_) r h;have w3W:=fun in_ at_ sum i m d r h=>ih (.zQ in_ at_ sum i m d) r h;intro r h;replace h:uZ (fun m t in_=>g (uE.zO m t in_)) (fun in_ at_ sum i m d=>g (uE.zQ in_ at_ sum i m d)) in_ at_ sum i m d=some r:=h;unfold uZ at h;refine jF 1000 (y3q _ _ _ _ in_ at_ sum i m d) ?_;refine zR (e':=(List.length d.L:Int)) (by first|rfl|rw[zq3]) ?_;rintro _ rfl;refine zD decide_eq_true_iff h (fun _ h=>?_) (fun _ h=>?_)
  ·obtain⟨x,hx,h⟩:=zC h;refine⟨zF (l:=d.L) (zA.sz),vO hx,x.K,x.N,x.S,List.map zA.toD x.L,x.From,x.To,zK (zA.toD_eq x) hx,?_⟩;obtain⟨x1,hx,h⟩:=zC h;refine⟨zF (l:=x.L) (zA.sz),vO hx,x1.K,x1.N,x1.S,List.map zA.toD x1.L,x1.From,x1.To,zK (zA.toD_eq x1) hx,?_⟩;refine⟨zF (l:=in_) (fun _=>rfl),?_⟩;refine⟨by first|rfl|decide|simp only[zq3,List.length_cons,List.length_nil,List.map_append,List.length_append],?_⟩;obtain⟨hP,h⟩:=wY h;refine⟨by first|exact hP|simpa using hP,?_⟩
   refine zR (e':=List.map (D.int .i64) (([]:List Int)++in_)) (by first|rfl|simp only[List.map_append,List.map_cons,List.map_nil,List.map_take,List.map_drop,List.map_set,List.map_replicate,zq3]) ?_;refine⟨by simp[zE,D.cells],?_⟩;refine⟨by first|rfl|decide|simp only[zq3,List.length_cons,List.length_nil,List.map_append,List.length_append],?_⟩;obtain⟨hP,h⟩:=wY h;refine⟨by first|exact hP|simpa using hP,?_⟩
   refine zR (e':=List.map (D.int .i64) ((([]:List Int)++in_)++[at_])) (by first|rfl|simp only[List.map_append,List.map_cons,List.map_nil,List.map_take,List.map_drop,List.map_set,List.map_replicate,zq3]) ?_;obtain⟨q1,g,h⟩:=zC h;refine⟨_,⟨_,w3U _ _ _ _ g⟩,?_⟩;rintro _ rfl;rintro _ rfl;refine zD zq2 h (fun _ h=>?_) (fun _ h=>?_)
   ·cases h;exact⟨rfl,rfl⟩
   rintro _ rfl;refine zD decide_eq_true_iff h (fun _ h=>?_) (fun _ h=>?_)
   ·cases h;exact⟨rfl,rfl⟩
   rintro _ rfl;exact w3W _ _ _ _ _ _ _ h
  cases h;exact⟨rfl,rfl⟩
theorem y9h(m t:zA)(in_:List Int)(r:Int)(h:zO m t in_=some r):y1I (.zO m t in_) r:=y9a (.zO m t in_) r h
theorem z0X(m t:zA)(r:Int)(h:gU m t=some r):Trip Tryz.prog 164 [.d (tT m),.d (tT t)] [] [(nI r)] []:=by
 unfold gU at h;refine zG 1000 (v2h _ _ _ _ m t) ?_;obtain⟨q1,g,h⟩:=zC h;refine⟨_,⟨_,y9h _ _ _ _ g⟩,?_⟩;cases h;exact⟨rfl,rfl⟩
def z8U:(i:jX)→z5K i→Prop
 |.yB t,r=>Trip Tryz.prog 181 [.d (tT t)] [] [.d (tT r)] []
 |.zZ i t o2 K N S L From To,r=>Ok (z5W (Trip Tryz.prog) [.d (tT r)] []) (kL Tryz.f181 3) ⟨29,[(1,.ref 1 1 0),(2,.ref 2 1 0),(3,.hp 0 0),(4,(nI i))],[(1,1,some (.agg (tT t))),(2,1,some (.agg (tT o2)))],[(hM K N S (List.map zA.toD L) From To)],0⟩
theorem y5f:∀i r,uO z0O i=some r→z8U i r:=by
 refine zN z5J fun g ih i=>?_;cases i with
 |yB t=>
  have w3Y:=fun i t o2 K N S L From To r h=>ih (.zZ i t o2 K N S L From To) r h;intro r h;replace h:z0R (fun i t o2 K N S L From To=>g (jX.zZ i t o2 K N S L From To)) t=some r:=h;unfold z0R at h;refine zG 1000 (y6t _ _ _ _ t) ?_;exact w3Y _ _ _ _ _ _ _ _ _ _ h
 |zZ i t o2 K N S L From To=>
  have w3X:=fun t r h=>ih (.yB t) r h;have w3Y:=fun i t o2 K N S L From To r h=>ih (.zZ i t o2 K N S L From To) r h;intro r h;replace h:jH (fun t=>g (jX.yB t)) (fun i t o2 K N S L From To=>g (jX.zZ i t o2 K N S L From To)) i t o2 K N S L From To=some r:=h;unfold jH at h;refine jF 1000 (y2d _ _ _ _ i t o2 K N S L From To) ?_;refine zR (e':=(List.length t.L:Int)) (by first|rfl|rw[zq3]) ?_;rintro _ rfl;refine zD decide_eq_true_iff h (fun _ h=>?_) (fun _ h=>?_)
  ·obtain⟨x,hx,h⟩:=zC h;refine⟨zF (l:=t.L) (zA.sz),vO hx,x.K,x.N,x.S,List.map zA.toD x.L,x.From,x.To,zK (zA.toD_eq x) hx,?_⟩;obtain⟨q1,g,h⟩:=zC h;refine⟨_,_,_,_,_,_,⟨_,w3X _ _ g⟩,?_⟩;refine⟨by simp[zE,D.cells],?_⟩;refine⟨by first|rfl|decide|simp only[zq3,List.length_cons,List.length_nil,List.map_append,List.length_append],?_⟩;obtain⟨hP,h⟩:=wY h;refine⟨by first|exact hP|simpa using hP,?_⟩
   refine zR (e':=List.map zA.toD (L++[q1])) (by first|rfl|simp only[List.map_append,List.map_cons,List.map_nil,List.map_take,List.map_drop,List.map_set,List.map_replicate,zq3,zA.toD_eq]) ?_;refine⟨by first|rfl|decide|simp only[zq3,List.length_cons,List.length_nil,List.map_append,List.length_append],?_⟩;rintro _ rfl;exact w3Y _ _ _ _ _ _ _ _ _ _ h
  cases h;exact⟨rfl,rfl⟩
theorem gW(t r:zA)(h:yB t=some r):z8U (.yB t) r:=y5f (.yB t) r h
theorem gX (r:zA)(h:gL=some r):Trip Tryz.prog 230 [] [] [.d (tT r)] []:=by
 unfold gL at h;refine zG 1000 (v4E _ _ _ _ ) ?_;cases h;exact⟨rfl,rfl⟩
theorem y2Y (r:zA)(h:z6v=some r):Trip Tryz.prog 169 [] [] [.d (tT r)] []:=by
 unfold z6v at h;refine zG 1000 (v7d _ _ _ _ ) ?_;cases h;exact⟨rfl,rfl⟩
theorem z4E(t r:zA)(h:z0Y t=some r):Trip Tryz.prog 168 [.d (tT t)] [] [.d (tT r)] []:=by
 unfold z0Y at h;refine zG 1000 (y7Q _ _ _ _ t) ?_;rintro _ rfl;refine zD zq2 h (fun _ h=>?_) (fun _ h=>?_)
 ·obtain⟨q1,g,h⟩:=zC h;refine⟨_,_,_,_,_,_,⟨_,y2Y _ g⟩,?_⟩;cases h;exact⟨rfl,rfl⟩
 rintro _ rfl;refine zD zq2 h (fun _ h=>?_) (fun _ h=>?_)
 ·obtain⟨q2,g,h⟩:=zC h;refine⟨_,_,_,_,_,_,⟨_,gX _ g⟩,?_⟩;cases h;exact⟨rfl,rfl⟩
 cases h;exact⟨rfl,rfl⟩
theorem vW(t:zA)(e:Int)(r:Ref16Got)(h:vD t e=some r):Trip Tryz.prog 180 [.d (tT t),(nI e)] [] [.d (.agg [(.int .i64 r.T_.K),(.int .i64 r.T_.N),(.str r.T_.S),(.sl (List.map zA.toD r.T_.L)),(.int .i64 r.T_.From),(.int .i64 r.T_.To),(.int .i64 r.At),(.int .i64 r.E)])] []:=by
 unfold vD at h;refine zG 1000 (v7f _ _ _ _ t e) ?_;cases h;exact⟨rfl,rfl⟩
def y5r:(i:z1L)→y1a i→Prop
 |.uX t,r=>Trip Tryz.prog 262 [.d (tT t)] [] [(nB r)] []
 |.vS i t,r=>Ok (y1n (Trip Tryz.prog) [(nB r)] []) (kL Tryz.f262 4) ⟨21,[(1,.ref 1 1 0),(3,(nI i))],[(1,1,some (.agg (tT t)))],[],0⟩
theorem v3F:∀i r,uO z3Z i=some r→y5r i r:=by
 refine zN y0S fun g ih i=>?_;cases i with
 |uX t=>
  have w3S:=fun i t r h=>ih (.vS i t) r h;intro r h;replace h:z4n (fun i t=>g (z1L.vS i t)) t=some r:=h;unfold z4n at h;refine zG 1000 (v4C _ _ _ _ t) ?_;rintro _ rfl;refine zD zq2 h (fun _ h=>?_) (fun _ h=>?_)
  ·cases h;exact⟨rfl,rfl⟩
  exact w3S _ _ _ h
 |vS i t=>
  have w3R:=fun t r h=>ih (.uX t) r h;have w3S:=fun i t r h=>ih (.vS i t) r h;intro r h;replace h:z0H (fun t=>g (z1L.uX t)) (fun i t=>g (z1L.vS i t)) i t=some r:=h;unfold z0H at h;refine jF 1000 (y7P _ _ _ _ i t) ?_;refine zR (e':=(List.length t.L:Int)) (by first|rfl|rw[zq3]) ?_;rintro _ rfl;refine zD decide_eq_true_iff h (fun _ h=>?_) (fun _ h=>?_)
  ·obtain⟨x,hx,h⟩:=zC h;refine⟨zF (l:=t.L) (zA.sz),vO hx,x.K,x.N,x.S,List.map zA.toD x.L,x.From,x.To,zK (zA.toD_eq x) hx,?_⟩;obtain⟨q1,g,h⟩:=zC h;refine⟨_,⟨_,w3R _ _ g⟩,?_⟩;refine zI Iff.rfl h (fun _ h=>?_) (fun _ h=>?_)
   ·rintro _ rfl;exact w3S _ _ _ h
   cases h;exact⟨rfl,rfl⟩
  cases h;exact⟨rfl,rfl⟩
theorem v3R(t:zA)(r:Bool)(h:uX t=some r):y5r (.uX t) r:=v3F (.uX t) r h
theorem v1d(m t:zA)(r:Bool)(h:z6T m t=some r):Trip Tryz.prog 235 [.d (tT m),.d (tT t)] [] [(nB r)] []:=by
 unfold z6T at h;refine zG 1000 (v2j _ _ _ _ m t) ?_;obtain⟨q1,g,h⟩:=zC h;refine⟨_,⟨_,z0X _ _ _ g⟩,?_⟩;rintro _ rfl;refine zD decide_eq_true_iff h (fun _ h=>?_) (fun _ h=>?_)
 ·obtain⟨q2,g,h⟩:=zC h;refine⟨_,⟨_,v3R _ _ g⟩,?_⟩;cases h;exact⟨rfl,rfl⟩
 cases h;exact⟨rfl,rfl⟩
open Go.RowKit in
theorem v5b{w:World}{M:Nat→Nat→Prop}{b o:Nat}{l:List zA}(hc:RelC w M b o (jW (l.map zA.toD))){k:Nat}(hk:k<l.length):
  ∃v3,w.cell? ⟨b,o+k*6,none⟩=some (.int .i64 l[k].K)∧w.cell? ⟨b,o+k*6+1,none⟩=some (.int .i64 l[k].N)∧w.cell? ⟨b,o+k*6+2,none⟩=some (.string ⟨⟨l[k].S⟩⟩) ∧
   w.cell? ⟨b,o+k*6+3,none⟩=some v3∧w.cell? ⟨b,o+k*6+4,none⟩=some (.int .i64 l[k].From)∧w.cell? ⟨b,o+k*6+5,none⟩=some (.int .i64 l[k].To)∧RelV w M v3 (.sl (l[k].L.map zA.toD)):=by
 have hs:zE 6 (l.map zA.toD):=zF (fun x=>by rw[zA.toD_eq];rfl);have h:=hc.elem hs (i:=k) (x:=l[k].toD) (by rw[List.getElem?_map,List.getElem?_eq_getElem hk];rfl);rw[zA.toD_eq]at h;cases h with
 |cons _ _ v0 _ _ c0 _ _ r0 h=>cases h with
 |cons _ _ v1 _ _ c1 _ _ r1 h=>cases h with
 |cons _ _ v2 _ _ c2 _ _ r2 h=>cases h with
 |cons _ _ v3 _ _ c3 _ _ r3 h=>cases h with
 |cons _ _ v4 _ _ c4 _ _ r4 h=>cases h with
 |cons _ _ v5 _ _ c5 _ _ r5 h=>
  cases r0;cases r1;cases r2;cases r4;cases r5;exact⟨v3,c0,c1,c2,c3,c4,c5,r3⟩
set_option maxHeartbeats 4000000 in
set_option maxRecDepth 1000000 in
open Go.RowKit Go.Shelf in
theorem y2W(t r:zA)(h:z1T t=some r):Trip Tryz.prog 181 [.d (tT t)] [] [.cells [(nI r.K),(nI r.N),(nS r.S),.wr 6 (List.map zA.toD r.L),(nI r.From),(nI r.To)]] []:=by
 have T_en:Nt.Enters Tryz.prog 181:=⟨_,Tryz.func181,by rfl,by rfl⟩;refine⟨T_en,fun w M0 κ vs B hv=>?_⟩;unfold z1T at h;obtain⟨hne,h⟩:=wY h;obtain⟨l,hgo0,h⟩:=zC h;have hr:=Option.some.inj h;subst hr;clear h;cases hv with
 |cons v _ vs _ g1 hv=>
  cases hv;cases g1 with
  |d _ _ g1=>
   cases g1 with
   |agg vs _ g1=>
    cases g1 with
    |cons v0 _ _ _ s0 h0 g1=>
    cases g1 with
    |cons v1 _ _ _ s1 h1 g1=>
    cases g1 with
    |cons v2 _ _ _ s2 h2 g1=>
    cases g1 with
    |cons v3 _ _ _ s3 h3 g1=>
    cases g1 with
    |cons v4 _ _ _ s4 h4 g1=>
    cases g1 with
    |cons v5 _ _ _ s5 h5 g1=>
    cases g1;cases h0;cases h1;cases h2;cases h4;cases h5;obtain⟨ad,cap,rfl,hopen⟩:=w2k h3;obtain⟨b,o,rfl,hc⟩:=hopen (fun e=>by have:=congrArg List.length e;rw[zq3]at this;simp at this;rw[this]at hne;simp at hne);rw[zq3]at *
    go_enter Tryz.func181,Tryz.ntmps181
    go_wp2_with fail
    have hb1:b<w.heap.size:=by
     have:=hc;cases hl:t.L with
     |nil=>rw[hl]at hne;simp at hne
     |cons x xs=>
      rw[hl]at this;rw[List.map_cons,jW]at this;rw[zA.toD_eq]at this;cases this with
      |cons _ _ _ _ _ h _ _ _ _=>exact z1y h
    obtain⟨i0,dd,hi,hz1,-⟩:=z0o (P:=Tryz.prog) (t:=24) (n:=6) (by kernel_rfl);have hz2:=y1B (P:=Tryz.prog) (t:=24) (n:=72) (by kernel_rfl) hi;have hz0:=y0v (P:=Tryz.prog) (t:=24) (z:=.agg #[.int .i64 0,.int .i64 0,.string ⟨#[]⟩,.slice none 0 0,.int .i64 0,.int .i64 0]) (by kernel_rfl) hi
    go_loopw [4] (fun i wr=>∃(k:Nat) (acc:List zA) (v:Go.Value) (us:List Go.Value),i=.int .i64 (k:Int)∧k≤t.L.length∧acc.length=k∧jL (t.L.drop k) acc=some l ∧
     wr.ownsRow (w.heap.size+3) 24 6 v k us∧(∀(j:Nat) u c,us[j]?=some u→(jW (acc.map zA.toD))[j]?=some c→u.oneCell'=true∧c.sc=true∧RelV wr (OM M0 w.heap.size v) u c) ∧
     wr.cell? ⟨w.heap.size,3,none⟩=some (.slice (some ⟨b,o,none⟩) t.L.length cap) ∧
     wr.heap[w.heap.size+1+1]?=some (.cells #[.int .i64 t.K,.int .i64 t.N,.string ⟨#[]⟩,v,.int .i64 0,.int .i64 0] 24) ∧
     wr.heap[w.heap.size+1]?=some (.cells #[.int .i64 0,.int .i64 0,.string ⟨#[]⟩,.slice none 0 0,.int .i64 0,.int .i64 0] 24) ∧
     Below w.heap.size w wr∧w.heap.size+3≤wr.heap.size) (fun i _=>t.L.length-(intOf i).toNat)
    case atStart=>
     refine⟨0,[],.slice none 0 0,[],rfl,Nat.zero_le _,rfl,hgo0,⟨rfl,.inl ⟨rfl,rfl⟩⟩,fun j u c h=>by simp at h,?_,?_,?_,?_,?_⟩
     ·rw[yC (v5I w _ _ _).1];rfl
     ·exact(v5I w _ _ _).2.2.1
     ·exact(v5I w _ _ _).2.1
     ·exact(((Below.refl _ w).alloc (Nat.le_refl _) _).alloc (by simp) _).alloc (by simp;omega) _
     ·exact Nat.le_of_eq (v5I w _ _ _).2.2.2.symm
    case round=>
     obtain⟨k,acc,v,us,rfl,hk,hka,hgo,hown,hus,c1,c2,c3,hbw,hsz⟩:=hrel;by_cases hlt:k<t.L.length
     ·obtain⟨v3,d0,d1,d2,d3,d4,d5,hv3⟩:=v5b hc hlt;have up:∀j u,w.cell? ⟨b,j,none⟩=some u→wr.cell? ⟨b,j,none⟩=some u:=fun j u h=>(yZ (hbw.block b hb1) _).trans h;have e0:=up _ _ d0;have e1:=up _ _ d1;have e2:=up _ _ d2;have e3:=up _ _ d3;have e4:=up _ _ d4;have e5:=up _ _ d5;have f3:wr.cell? ⟨w.heap.size+1+1,3,none⟩=some v:=by rw[yC c2];rfl
      have hOM:∀b' o',OM M0 w.heap.size v b' o'→b'<wr.heap.size:=fun b' o' h=>by
       rcases h with h|h|h
       ·have:=(B.m0 _ _ h).1;omega
       ·omega
       ·exact(hown.lt _ h).2
      have hvb:∀b',v.ownBlock=some b'→w.heap.size+3≤b':=fun b' h=>(hown.lt _ h).1;rw[List.drop_eq_getElem_cons hlt,jL]at hgo;obtain⟨q,g,hgo⟩:=zC hgo;obtain⟨hroom,hgo⟩:=wY hgo;have kw:Keeps w (Mut M0 κ) wr.drew (Mut (OM M0 w.heap.size v) kN):=⟨fun b' o' u hu _=>(yZ (w':=wr.drew) (hbw.block b' (z6C hu)) o').trans hu,fun b' o' u hu hm=>w0Q (fun h=>by
       have hb':=z6C hu;rcases h with h|h|h
       ·exact hm (.inl h)
       ·omega
       ·have:=hvb _ h;omega)⟩
      have hcall:Calls Tryz.prog 181 #[.agg #[.int .i64 t.L[k].K,.int .i64 t.L[k].N,.string ⟨⟨t.L[k].S⟩⟩,v3,.int .i64 t.L[k].From,.int .i64 t.L[k].To]] wr.drew (fun e w'=>∃vq,e=.returned vq ∧
        (∃vL,vq=.agg #[.int .i64 q.K,.int .i64 q.N,.string ⟨⟨q.S⟩⟩,vL,.int .i64 q.From,.int .i64 q.To]∧RelV w' (OM M0 w.heap.size v) vL (.sl (q.L.map zA.toD))∧Below wr.heap.size wr w')):=by
       have T:Trip Tryz.prog 181 [.d (.agg [.int .i64 t.L[k].K,.int .i64 t.L[k].N,.str t.L[k].S,.sl (List.map zA.toD t.L[k].L),.int .i64 t.L[k].From,.int .i64 t.L[k].To])] [] [.d (.agg [.int .i64 q.K,.int .i64 q.N,.str q.S,.sl (List.map zA.toD q.L),.int .i64 q.From,.int .i64 q.To])] []:=gW t.L[k] q g
       refine(T.2 wr.drew (OM M0 w.heap.size v) kN _ (v5q hOM) (.cons _ _ _ _ (.d _ _ (.agg _ _ (.cons _ _ _ _ rfl (.int _ _) (.cons _ _ _ _ rfl (.int _ _) (.cons _ _ _ _ rfl (.str _) (.cons _ _ _ _ rfl (hv3.keep kw) (.cons _ _ _ _ rfl (.int _ _) (.cons _ _ _ _ rfl (.int _ _) .nil)))))))) .nil)).mono ?_;rintro e W3 ⟨vq,κ3,rfl,A3,hres⟩;have h9:=hres.2;refine⟨vq,rfl,?_⟩;cases h9 with
       |d _ _ h9=>cases h9 with
        |agg vs _ h9=>
         cases h9 with
         |cons _ _ _ _ _ g0 h9=>
         cases h9 with
         |cons _ _ _ _ _ g1 h9=>
         cases h9 with
         |cons _ _ _ _ _ g2 h9=>
         cases h9 with
         |cons _ _ _ _ _ g3 h9=>
         cases h9 with
         |cons _ _ _ _ _ g4 h9=>
         cases h9 with
         |cons _ _ _ _ _ g5 h9=>
          cases h9;cases g0;cases g1;cases g2;cases g4;cases g5;exact⟨_,rfl,g3.keep ⟨fun _ _ _ h _=>h,fun _ _ _ _ hm h=>hm (.inl h)⟩,(v6I wr _).trans (v3Z A3)⟩
      obtain⟨hr1,hr2⟩:=hroom;rw[hka]at hr1 hr2;have hk63:k+1≤maxLen:=by unfold maxLen;omega
      have hk64:(k+1)*72≤140737488355328:=hr1
      go_wp2_with fail
      go_region_law (first
       |(refine v9G rfl 181 (.tmp 23) _ rfl T_en (by simp[Act.eval,Act.put];exact hcall) ?_
         rintro vq W3 ⟨vL,rfl,hL,hb3⟩;have hsz3:=hb3.size;have hown3:=v3j hown hb3;have f33:W3.cell? ⟨w.heap.size+1+1,3,none⟩=some v:=(hb3.cell (show w.heap.size+1+1<wr.heap.size by omega)).trans f3;obtain⟨news,hnews⟩:∃news,news=[.int .i64 q.K,.int .i64 q.N,.string ⟨⟨q.S⟩⟩,vL,.int .i64 q.From,.int .i64 q.To]:=⟨_,rfl⟩;have hb4:Below wr.heap.size wr (W3.alloc (.cells #[.int .i64 q.K,.int .i64 q.N,.string ⟨⟨q.S⟩⟩,vL,.int .i64 q.From,.int .i64 q.To] 24)):=hb3.alloc hsz3 _;have hown4:=v3j hown hb4
         have f34:(W3.alloc (.cells #[.int .i64 q.K,.int .i64 q.N,.string ⟨⟨q.S⟩⟩,vL,.int .i64 q.From,.int .i64 q.To] 24)).cell? ⟨w.heap.size+1+1,3,none⟩=some v:=(hb4.cell (show w.heap.size+1+1<wr.heap.size by omega)).trans f3
         have hba:w.heap.size+3≤(W3.alloc (.cells #[.int .i64 q.K,.int .i64 q.N,.string ⟨⟨q.S⟩⟩,vL,.int .i64 q.From,.int .i64 q.To] 24)).heap.size:=by rw[show(W3.alloc (.cells #[.int .i64 q.K,.int .i64 q.N,.string ⟨⟨q.S⟩⟩,vL,.int .i64 q.From,.int .i64 q.To] 24)).heap.size=W3.heap.size+1 from Array.size_push ..];omega
         have hvL1:vL.oneCell'=true:=hL.one rfl;have hnc:∀j u,news[j]?=some u→(W3.alloc (.cells #[.int .i64 q.K,.int .i64 q.N,.string ⟨⟨q.S⟩⟩,vL,.int .i64 q.From,.int .i64 q.To] 24)).cell? ((⟨W3.heap.size,0,none⟩:Addr).add j)=some u:=by
          intro j u hj;have e9:(W3.alloc (.cells #[.int .i64 q.K,.int .i64 q.N,.string ⟨⟨q.S⟩⟩,vL,.int .i64 q.From,.int .i64 q.To] 24)).heap[W3.heap.size]?=some (.cells #[.int .i64 q.K,.int .i64 q.N,.string ⟨⟨q.S⟩⟩,vL,.int .i64 q.From,.int .i64 q.To] 24):=Array.getElem?_push_size;rw[hnews]at hj
          match j,hj with
          |0,hj=>exact(yC e9).trans hj
          |1,hj=>exact(yC e9).trans hj
          |2,hj=>exact(yC e9).trans hj
          |3,hj=>exact(yC e9).trans hj
          |4,hj=>exact(yC e9).trans hj
          |5,hj=>exact(yC e9).trans hj
         have hn1:∀u∈news,u.oneCell'=true:=by
          rw[hnews];intro u hu;simp only[List.mem_cons,List.not_mem_nil,or_false]at hu;rcases hu with rfl|rfl|rfl|rfl|rfl|rfl<;>first|rfl|exact hvL1)
       |(refine y8i rfl (.tmp 18) (.tmp 25) 22 rfl (w.heap.size+3) 24 i0 _ 6 72 Tryz.underlying22 hi hz0 hz1 hz2 rfl (by decide) v k us (by simp[Act.eval,Act.put]) ‹_› ⟨‹World›.heap.size,0,none⟩ 1 1 ‹List Go.Value› (by simp[Act.eval,Act.put]) (by simp[*]) ‹_› ‹_› hk63 hk64 ‹_› ?_
         intro v9 W9 hown9 hgrow9 hnil9;have g2:W9.heap[w.heap.size+1+1]?=some (.cells #[.int .i64 t.K,.int .i64 t.N,.string ⟨#[]⟩,v,.int .i64 0,.int .i64 0] 24):=by
          rw[hgrow9.block _ (by omega) (fun e=>by have:=hvb _ e.symm;omega),‹Below wr.heap.size wr (World.alloc _ _)›.block _ (by omega)];exact c2
         have f93:W9.cell? ⟨w.heap.size+1+1,3,none⟩=some v:=by rw[yC g2];rfl
         have f94:W9.frozen? ⟨w.heap.size+1+1,3,none⟩=false:=z6E g2;rcases hown9.2 with⟨-,h0⟩|⟨g9,cap9,cur9,rfl,hg90,hg91,hg92,hg93,hg94,hg95⟩
         ·exact absurd h0 (by omega)))
      all_goals
       have hAs:W3.heap.size≤W3.heap.size+1:=Nat.le_succ _;have hba9:=‹w.heap.size+3≤(World.alloc _ _).heap.size›;have hb4:=‹Below wr.heap.size wr (World.alloc _ _)›;have hf:∀j,j≠w.heap.size+1+1→(W9.setCell ⟨w.heap.size+1+1,3,none⟩ (.slice (some ⟨g9,0,none⟩) (k+1) cap9)).heap[j]?=W9.heap[j]?:=fun j hj=>heap_setCell_other _ _ _ _ hj;have h93:∀j,j<W3.heap.size→v.ownBlock≠some j→W9.heap[j]?=W3.heap[j]?:=fun j hj hne=>by
        rw[hgrow9.block j (by rw[show(World.alloc W3 _).heap.size=W3.heap.size+1 from Array.size_push ..];omega) (fun e=>hne e.symm)];exact(show(W3.heap.push _)[j]?=_ by rw[Array.getElem?_push_lt hj,←Array.getElem?_eq_getElem])
       have h9r:∀j,j<wr.heap.size→v.ownBlock≠some j→W9.heap[j]?=wr.heap[j]?:=fun j hj hne=>by
        rw[h93 j (by omega) hne];exact hb3.block j hj
       have hg9n:g9≠w.heap.size+1+1:=by omega
       have hsame9:=heap_setCell_same W9 (w.heap.size+1+1) 3 _ 24 (.slice (some ⟨g9,0,none⟩) (k+1) cap9) g2;have hlt9:∀j,j<W9.heap.size→j<(W9.setCell ⟨w.heap.size+1+1,3,none⟩ (.slice (some ⟨g9,0,none⟩) (k+1) cap9)).heap.size:=fun j hj=>by simpa [World.setCell]using hj
       have hs9:W3.heap.size+1≤W9.heap.size:=by have:=hgrow9.size;rw[show(World.alloc W3 _).heap.size=W3.heap.size+1 from Array.size_push ..]at this;exact this
       have K3:Keeps W3 (OM M0 w.heap.size v) (W9.setCell ⟨w.heap.size+1+1,3,none⟩ (.slice (some ⟨g9,0,none⟩) (k+1) cap9)) (OM M0 w.heap.size (.slice (some ⟨g9,0,none⟩) (k+1) cap9)):=by
        refine⟨fun b' o' u hu hm=>?_,fun b' o' u hu hm hm'=>?_⟩
        ·have hb':=z6C hu;have n1:b'≠w.heap.size+1+1:=fun e=>hm (.inr (.inl (by omega)));have n2:v.ownBlock≠some b':=fun e=>hm (.inr (.inr e));rw[yZ (hf b' n1),yZ (h93 b' hb' n2)];exact hu
        ·have hb':=z6C hu;rcases hm' with h|h|h
         ·exact hm (.inl h)
         ·exact hm (.inr (.inl h))
         ·rcases hnil9 with h9|h9
          ·exact hm (.inr (.inr (h9.symm.trans h)))
          ·rw[h9]at h;rw[show(World.alloc W3 _).heap.size=W3.heap.size+1 from Array.size_push ..]at h;injection h with h;omega
       have KK:Keeps wr (OM M0 w.heap.size v) (W9.setCell ⟨w.heap.size+1+1,3,none⟩ (.slice (some ⟨g9,0,none⟩) (k+1) cap9)) (OM M0 w.heap.size (.slice (some ⟨g9,0,none⟩) (k+1) cap9)):=
        Keeps.trans ⟨fun b' o' u hu _=>by rw[yZ (hb3.block b' (z6C hu))];exact hu,fun _ _ _ _ h=>h⟩ K3
       have hul:us.length=(jW (acc.map zA.toD)).length:=by
        rw[hown.1,z0B (n:=6) (zF fun x=>zA.sz x),zq3,hka]
       have hbel:Below w.heap.size w (W9.setCell ⟨w.heap.size+1+1,3,none⟩ (.slice (some ⟨g9,0,none⟩) (k+1) cap9)):=
        (((hbw.trans (hb4.mono (by omega))).grown hgrow9 (by omega) (fun j hj=>by have:=hvb j hj;omega)).setCell (by show w.heap.size≤w.heap.size+1+1;omega) _)
       have hus9:∀(j:Nat) u c,(us++[.int .i64 q.K,.int .i64 q.N,.string ⟨⟨q.S⟩⟩,vL,.int .i64 q.From,.int .i64 q.To])[j]?=some u→(jW ((acc++[q]).map zA.toD))[j]?=some c→u.oneCell'=true∧c.sc=true∧RelV (W9.setCell ⟨w.heap.size+1+1,3,none⟩ (.slice (some ⟨g9,0,none⟩) (k+1) cap9)) (OM M0 w.heap.size (.slice (some ⟨g9,0,none⟩) (k+1) cap9)) u c:=by
        intro j u c hu hcc;rw[List.map_append,z2N]at hcc;by_cases hj:j<us.length
        ·rw[List.getElem?_append_left hj]at hu;rw[List.getElem?_append_left (by omega)]at hcc;obtain⟨z1,z2,z3⟩:=hus j u c hu hcc;exact⟨z1,z2,z3.keep KK⟩
        ·rw[List.getElem?_append_right (by omega)]at hu;rw[List.getElem?_append_right (by omega),←hul]at hcc;have e9:jW ([q].map zA.toD)=[.int .i64 q.K,.int .i64 q.N,.str q.S,.sl (q.L.map zA.toD),.int .i64 q.From,.int .i64 q.To]:=by
          rw[List.map_cons,List.map_nil,jW,jW,zA.toD_eq];rfl
         rw[e9]at hcc
         match j-us.length,hu,hcc with
         |0,hu,hcc=>cases hu;cases hcc;exact⟨rfl,rfl,.int _ _⟩
         |1,hu,hcc=>cases hu;cases hcc;exact⟨rfl,rfl,.int _ _⟩
         |2,hu,hcc=>cases hu;cases hcc;exact⟨rfl,rfl,.str _⟩
         |3,hu,hcc=>cases hu;cases hcc;exact⟨hvL1,rfl,hL.keep K3⟩
         |4,hu,hcc=>cases hu;cases hcc;exact⟨rfl,rfl,.int _ _⟩
         |5,hu,hcc=>cases hu;cases hcc;exact⟨rfl,rfl,.int _ _⟩
         |n+6,hu,hcc=>simp at hu
       subst hnews
       go_wp2_with fail
       go_roundw
       case rel=>
        refine⟨k+1,acc++[q],_,_,by go_num,hlt,by simp[hka],hgo,⟨hown9.1,.inr ⟨g9,cap9,cur9,rfl,hg90,by rw[hf g9 hg9n];exact hg91,hg92,hg93,hg94,hg95⟩⟩,hus9,?_,hsame9,?_,hbel,?_⟩
        ·exact(yZ ((hf _ (by omega)).trans (h9r _ (by omega) (fun e=>by have:=hvb _ e;omega))) 3).trans c1
        ·rw[hf _ (by omega),h9r _ (by omega) (fun e=>by have:=hvb _ e;omega)];exact c3
        ·have:=hlt9 (w.heap.size+2) (by omega);omega
       case measure=>simp[intOf];omega
     ·have hke:k=t.L.length:=by omega
      subst hke;rw[List.drop_eq_nil_of_le (Nat.le_refl _),jL]at hgo;have hl:=Option.some.inj hgo;subst hl;rcases hown.2 with⟨-,h0⟩|⟨g,cp,cur,rfl,hg0,hg1,hg2,hg3,hg4,hg5⟩
      ·exact absurd h0 (by omega)
      have k0:wr.cell? ⟨w.heap.size+1+1,0,none⟩=some (.int .i64 t.K):=by rw[yC c2];rfl
      have k1:wr.cell? ⟨w.heap.size+1+1,1,none⟩=some (.int .i64 t.N):=by rw[yC c2];rfl
      have k2:wr.cell? ⟨w.heap.size+1+1,2,none⟩=some (.string ⟨#[]⟩):=by rw[yC c2];rfl
      have k3:wr.cell? ⟨w.heap.size+1+1,3,none⟩=some (.slice (some ⟨g,0,none⟩) t.L.length cp):=by rw[yC c2];rfl
      have k4:wr.cell? ⟨w.heap.size+1+1,4,none⟩=some (.int .i64 0):=by rw[yC c2];rfl
      have k5:wr.cell? ⟨w.heap.size+1+1,5,none⟩=some (.int .i64 0):=by rw[yC c2];rfl
      have m0:wr.cell? ⟨w.heap.size+1,0,none⟩=some (.int .i64 0):=by rw[yC c3];rfl
      have m1:wr.cell? ⟨w.heap.size+1,1,none⟩=some (.int .i64 0):=by rw[yC c3];rfl
      have m2:wr.cell? ⟨w.heap.size+1,2,none⟩=some (.string ⟨#[]⟩):=by rw[yC c3];rfl
      have m3:wr.cell? ⟨w.heap.size+1,3,none⟩=some (.slice none 0 0):=by rw[yC c3];rfl
      have m4:wr.cell? ⟨w.heap.size+1,4,none⟩=some (.int .i64 0):=by rw[yC c3];rfl
      have m5:wr.cell? ⟨w.heap.size+1,5,none⟩=some (.int .i64 0):=by rw[yC c3];rfl
      have z:∀i,wr.frozen? ⟨w.heap.size+1,i,none⟩=false:=fun i=>z6E c3
      go_wp2_with fail
      obtain⟨Wz,hWz⟩:∃Wz,Wz=((((((wr.setCell ⟨w.heap.size+1,0,none⟩ (.int .i64 t.K)).setCell ⟨w.heap.size+1,1,none⟩ (.int .i64 t.N)).setCell ⟨w.heap.size+1,2,none⟩ (.string ⟨#[]⟩)).setCell ⟨w.heap.size+1,3,none⟩ (.slice (some ⟨g,0,none⟩) t.L.length cp)).setCell ⟨w.heap.size+1,4,none⟩ (.int .i64 0)).setCell ⟨w.heap.size+1,5,none⟩ (.int .i64 0)):=⟨_,rfl⟩
      have hz1:Wz.heap[w.heap.size+1]?=some (.cells #[.int .i64 t.K,.int .i64 t.N,.string ⟨#[]⟩,.slice (some ⟨g,0,none⟩) t.L.length cp,.int .i64 0,.int .i64 0] 24):=by
       rw[hWz];exact heap_setCell_same _ _ 5 _ 24 _ (heap_setCell_same _ _ 4 _ 24 _ (heap_setCell_same _ _ 3 _ 24 _ (heap_setCell_same _ _ 2 _ 24 _ (heap_setCell_same _ _ 1 _ 24 _ (heap_setCell_same _ _ 0 _ 24 _ c3)))))
      have hz2:∀j,j≠w.heap.size+1→Wz.heap[j]?=wr.heap[j]?:=fun j hj=>by
       rw[hWz];rw[heap_setCell_other _ _ _ _ hj,heap_setCell_other _ _ _ _ hj,heap_setCell_other _ _ _ _ hj,heap_setCell_other _ _ _ _ hj,heap_setCell_other _ _ _ _ hj,heap_setCell_other _ _ _ _ hj]
      have hz3:Below w.heap.size w Wz:=by
       rw[hWz];have hle:w.heap.size≤w.heap.size+1:=Nat.le_succ _;exact(((((hbw.setCell hle _).setCell hle _).setCell hle _).setCell hle _).setCell hle _).setCell hle _
      have hz4:g<Wz.heap.size:=by
       have:=hz2 g (by omega);rw[hg1]at this;exact(Array.getElem?_eq_some_iff.1 this).1
      rw[←hWz];have y0:Wz.cell? ⟨w.heap.size+1,0,none⟩=some (.int .i64 t.K):=by rw[yC hz1];rfl
      have y1:Wz.cell? ⟨w.heap.size+1,1,none⟩=some (.int .i64 t.N):=by rw[yC hz1];rfl
      have y2:Wz.cell? ⟨w.heap.size+1,2,none⟩=some (.string ⟨#[]⟩):=by rw[yC hz1];rfl
      have y3:Wz.cell? ⟨w.heap.size+1,3,none⟩=some (.slice (some ⟨g,0,none⟩) t.L.length cp):=by rw[yC hz1];rfl
      have y4:Wz.cell? ⟨w.heap.size+1,4,none⟩=some (.int .i64 0):=by rw[yC hz1];rfl
      have y5:Wz.cell? ⟨w.heap.size+1,5,none⟩=some (.int .i64 0):=by rw[yC hz1];rfl
      clear hWz;refine bodyPost_ret (results_cell_row (p:=2) (ty:=24) rfl _ _ (w.heap.size+1) 24 _ (0,0) _ rfl hz1 Tryz.underlying24 rfl (by kernel_rfl)) rfl ?_;have A0:=v4d B hz3;have hul:us.length=(jW (acc.map zA.toD)).length:=by
       rw[hown.1,z0B (n:=6) (zF fun x=>zA.sz x),zq3,hka]
      have kz:Keeps wr (OM M0 w.heap.size (.slice (some ⟨g,0,none⟩) t.L.length cp)) Wz (Mut M0 (upK kN (.ar 0) (some (g,0)))):=by
       refine⟨fun b' o' u hu hm=>?_,fun b' o' u hu hm hm'=>?_⟩
       ·have n1:b'≠w.heap.size+1:=fun e=>hm (.inr (.inl (by omega)));rw[yZ (hz2 b' n1)];exact hu
       ·rcases hm' with h|⟨key,lo,h,-⟩
        ·exact hm (.inl h)
        ·by_cases e:key=.ar 0
         ·subst e;rw[z0m]at h;injection h with h;injection h with h;subst h;exact hm (.inr (.inr rfl))
         ·rw[vV _ _ e]at h;cases h
      refine⟨_,rfl,upK kN (.ar 0) (some (g,0)),?_,?_⟩
      ·have key1:∀key b' lo,upK kN (.ar 0) (some (g,0)) key=some (b',lo)→key=.ar 0∧b'=g:=fun key b' lo h=>by
        by_cases e:key=.ar 0
        ·subst e;rw[z0m]at h;injection h with h;injection h with h _;exact⟨rfl,h.symm⟩
        ·rw[vV _ _ e]at h;cases h
       exact {kept:=A0.kept
              k0:=⟨A0.k0.cell,fun b' o' u hu hm hm'=>by
               rcases hm' with h|⟨key,lo,h,-⟩
               ·exact hm (.inl h)
               ·have:=(key1 _ _ _ h).2;have:=z6C hu;omega⟩
              g0:=A0.g0
              kb:=fun key b' lo h=>by obtain⟨-,rfl⟩:=key1 _ _ _ h;exact⟨hz4,.inl (by omega)⟩
              ki:=fun k1 k2 b' l1 l2 h1 h2=>by rw[(key1 _ _ _ h1).1,(key1 _ _ _ h2).1]
              hn:=fun id r h=>by have:=(key1 _ r.1 r.2 h).1;cases this
              hp:=fun id b' h=>by have:=B.hn _ _ h;simp at this
              heap:=fun id cs hcs=>by simp at hcs}
      ·refine⟨_,rfl,rfl,fun i u c hu hcc=>?_⟩
       match i,hu,hcc with
       |0,hu,hcc=>cases hu;cases hcc;exact .inl ⟨_,rfl,.int _ _⟩
       |1,hu,hcc=>cases hu;cases hcc;exact .inl ⟨_,rfl,.int _ _⟩
       |2,hu,hcc=>cases hu;cases hcc;exact .inl ⟨_,rfl,.str _⟩
       |3,hu,hcc=>
        cases hu;cases hcc;refine .inr ⟨6,_,rfl,zF (fun x=>zA.sz x),g,cp,by rw[zq3,hka],by rw[zq3,hka];exact hg2,z0m _ _ _,fun j c hc'=>?_⟩;have hj:j<us.length:=by rw[hul];exact(List.getElem?_eq_some_iff.1 hc').1
        have hu':us[j]?=some us[j]:=List.getElem?_eq_getElem hj;obtain⟨z1,z2,z3⟩:=hus j _ c hu' hc';have hg':Wz.heap[g]?=some (.cells cur 24 (0,0)):=(hz2 g (by omega)).trans hg1;have hcur:cur[j]?=some us[j]:=by
         have e1:(cur.toList.take (t.L.length*6))[j]?=us[j]?:=by rw[hg5]
         rw[List.getElem?_take_of_lt (by rw[←hown.1];exact hj)]at e1;rw[←Array.getElem?_toList,e1,hu']
        exact⟨us[j],(yC hg').trans hcur,z1,z2,z3.keep kz,z6E hg'⟩
       |4,hu,hcc=>cases hu;cases hcc;exact .inl ⟨_,rfl,.int _ _⟩
       |5,hu,hcc=>cases hu;cases hcc;exact .inl ⟨_,rfl,.int _ _⟩
       |n+6,hu,hcc=>simp at hcc
def y5o:(i:z1I)→y0X i→Prop
 |.wU t,r=>Trip Tryz.prog 167 [.d (tT t)] [] [.d (tT r)] []
 |.vP out i t o2,r=>Ok (y1k (Trip Tryz.prog) [.d (tT r)] []) (kL Tryz.f167 3) ⟨30,[(1,.ref 1 1 0),(2,.ref 2 1 0),(3,.right 5 1 6 (List.map zA.toD out)),(4,(nI i))],[(1,1,some (.agg (tT t))),(2,1,some (.agg (tT o2))),(5,1,some (.tok 6 (List.length (List.map zA.toD out))))],[],0⟩
theorem v3C:∀i r,uO z3W i=some r→y5o i r:=by
 refine zN y0P fun g ih i=>?_;cases i with
 |wU t=>
  have w3G:=fun out i t o2 r h=>ih (.vP out i t o2) r h;intro r h;replace h:z4k (fun out i t o2=>g (z1I.vP out i t o2)) t=some r:=h;unfold z4k at h;refine zG 1000 (v4z _ _ _ _ t) ?_;exact w3G _ _ _ _ _ h
 |vP out i t o2=>
  have w3F:=fun t r h=>ih (.wU t) r h;have w3G:=fun out i t o2 r h=>ih (.vP out i t o2) r h;intro r h;replace h:z0E (fun t=>g (z1I.wU t)) (fun out i t o2=>g (z1I.vP out i t o2)) out i t o2=some r:=h;unfold z0E at h;refine jF 1000 (y7M _ _ _ _ out i t o2) ?_;refine zR (e':=(List.length t.L:Int)) (by first|rfl|rw[zq3]) ?_;rintro _ rfl;refine zD decide_eq_true_iff h (fun _ h=>?_) (fun _ h=>?_)
  ·obtain⟨x,hx,h⟩:=zC h;refine⟨zF (l:=t.L) (zA.sz),vO hx,x.K,x.N,x.S,List.map zA.toD x.L,x.From,x.To,zK (zA.toD_eq x) hx,?_⟩;obtain⟨q1,g,h⟩:=zC h;refine⟨_,_,_,_,_,_,⟨_,w3F _ _ g⟩,?_⟩;refine⟨by simp[zE,D.cells],?_⟩;refine⟨by first|rfl|decide|simp only[zq3,List.length_cons,List.length_nil,List.map_append,List.length_append],?_⟩;obtain⟨hP,h⟩:=wY h;refine⟨by first|exact hP|simpa using hP,?_⟩
   refine zR (e':=List.map zA.toD (out++[q1])) (by first|rfl|simp only[List.map_append,List.map_cons,List.map_nil,List.map_take,List.map_drop,List.map_set,List.map_replicate,zq3,zA.toD_eq]) ?_;rintro _ rfl;exact w3G _ _ _ _ _ h
  cases h;exact⟨rfl,rfl⟩
theorem z4e(t r:zA)(h:wU t=some r):y5o (.wU t) r:=v3C (.wU t) r h
theorem v1e(m:zA)(locals:List zA)(t r:zA)(h:z6V m locals t=some r):Trip Tryz.prog 107 [.d (tT m),.d (.sl (List.map zA.toD locals)),.d (tT t)] [] [.d (tT r)] []:=by
 unfold z6V at h;refine zG 1000 (v2k _ _ _ _ m locals t) ?_;rintro _ rfl;refine zD zq2 h (fun _ h=>?_) (fun _ h=>?_)
 ·refine zR (e':=(List.length locals:Int)) (by first|rfl|rw[zq3]) ?_;rintro _ rfl;rintro _ rfl;obtain⟨x,hx,h⟩:=zC h;refine⟨zF (l:=locals) (zA.sz),vO hx,x.K,x.N,x.S,List.map zA.toD x.L,x.From,x.To,zK (zA.toD_eq x) hx,?_⟩;obtain⟨q1,g,h⟩:=zC h;refine⟨_,_,_,_,_,_,⟨_,z4e _ _ g⟩,?_⟩;cases h;exact⟨rfl,rfl⟩
 rintro _ rfl;refine zD zq2 h (fun _ h=>?_) (fun _ h=>?_)
 ·obtain⟨x1,hx,h⟩:=zC h;refine⟨zF (l:=m.L) (zA.sz),vO hx,x1.K,x1.N,x1.S,List.map zA.toD x1.L,x1.From,x1.To,zK (zA.toD_eq x1) hx,?_⟩;obtain⟨x2,hx,h⟩:=zC h;refine⟨zF (l:=x1.L) (zA.sz),vO hx,x2.K,x2.N,x2.S,List.map zA.toD x2.L,x2.From,x2.To,zK (zA.toD_eq x2) hx,?_⟩;obtain⟨q2,g,h⟩:=zC h;refine⟨_,_,_,_,_,_,⟨_,z4E _ _ g⟩,?_⟩;cases h;exact⟨rfl,rfl⟩
 rintro _ rfl;refine zD zq2 h (fun _ h=>?_) (fun _ h=>?_)
 ·obtain⟨x3,hx,h⟩:=zC h;refine⟨zF (l:=m.L) (zA.sz),vO hx,x3.K,x3.N,x3.S,List.map zA.toD x3.L,x3.From,x3.To,zK (zA.toD_eq x3) hx,?_⟩;obtain⟨x4,hx,h⟩:=zC h;refine⟨zF (l:=x3.L) (zA.sz),vO hx,x4.K,x4.N,x4.S,List.map zA.toD x4.L,x4.From,x4.To,zK (zA.toD_eq x4) hx,?_⟩;obtain⟨q3,g,h⟩:=zC h;refine⟨_,_,_,_,_,_,⟨_,z4e _ _ g⟩,?_⟩;cases h;exact⟨rfl,rfl⟩
 rintro _ rfl;refine zD zq2 h (fun _ h=>?_) (fun _ h=>?_)
 ·obtain⟨q4,g,h⟩:=zC h;refine⟨_,_,_,_,_,_,⟨_,y2Y _ g⟩,?_⟩;cases h;exact⟨rfl,rfl⟩
 obtain⟨q5,g,h⟩:=zC h;refine⟨_,_,_,_,_,_,⟨_,z4E _ _ g⟩,?_⟩;cases h;exact⟨rfl,rfl⟩
theorem y2X(t:zA)(e:Int)(r:Ref15Got)(h:z7Y t e=some r):Trip Tryz.prog 105 [.d (tT t),(nI e)] [] [.d (.agg [(.int .i64 r.Type_.K),(.int .i64 r.Type_.N),(.str r.Type_.S),(.sl (List.map zA.toD r.Type_.L)),(.int .i64 r.Type_.From),(.int .i64 r.Type_.To),(.int .i64 r.Form.K),(.int .i64 r.Form.N),(.str r.Form.S),(.sl (List.map zA.toD r.Form.L)),(.int .i64 r.Form.From),(.int .i64 r.Form.To),(.int .i64 r.At),(.int .i64 r.E)])] []:=by
 unfold z7Y at h;refine zG 1000 (v7a _ _ _ _ t e) ?_;cases h;exact⟨rfl,rfl⟩
theorem z6N(m:zA)(n kind:Int)(r:Bool)(h:z5y m n kind=some r):Trip Tryz.prog 166 [.d (tT m),(nI n),(nI kind)] [] [(nB r)] []:=by
 unfold z5y at h;refine zG 1000 (v7c _ _ _ _ m n kind) ?_;rintro _ rfl;refine zD decide_eq_true_iff h (fun _ h=>?_) (fun _ h=>?_)
 ·cases h;exact⟨rfl,rfl⟩
 refine zR (e':=(List.length m.L:Int)) (by first|rfl|rw[zq3]) ?_;rintro _ rfl;refine zD decide_eq_true_iff h (fun _ h=>?_) (fun _ h=>?_)
 ·cases h;exact⟨rfl,rfl⟩
 obtain⟨x,hx,h⟩:=zC h;refine⟨zF (l:=m.L) (zA.sz),vO hx,x.K,x.N,x.S,List.map zA.toD x.L,x.From,x.To,zK (zA.toD_eq x) hx,?_⟩;rintro _ rfl;refine zI zq2 h (fun _ h=>?_) (fun _ h=>?_)
 ·rintro _ rfl;refine zD zq2 h (fun _ h=>?_) (fun _ h=>?_)
  ·refine zR (e':=(List.length x.L:Int)) (by first|rfl|rw[zq3]) ?_;rintro _ rfl;refine zD zq2 h (fun _ h=>?_) (fun _ h=>?_)
   ·obtain⟨x1,hx,h⟩:=zC h;refine⟨zF (l:=x.L) (zA.sz),vO hx,x1.K,x1.N,x1.S,List.map zA.toD x1.L,x1.From,x1.To,zK (zA.toD_eq x1) hx,?_⟩;obtain⟨q1,g,h⟩:=zC h;refine⟨_,_,_,_,_,_,⟨_,z4E _ _ g⟩,?_⟩;rintro _ rfl;cases h;exact⟨rfl,rfl⟩
   cases h;exact⟨rfl,rfl⟩
  rintro _ rfl;refine zD zq2 h (fun _ h=>?_) (fun _ h=>?_)
  ·refine zR (e':=(List.length x.L:Int)) (by first|rfl|rw[zq3]) ?_;rintro _ rfl;cases h;exact⟨rfl,rfl⟩
  rintro _ rfl;refine zD zq2 h (fun _ h=>?_) (fun _ h=>?_)
  ·refine zR (e':=(List.length x.L:Int)) (by first|rfl|rw[zq3]) ?_;rintro _ rfl;cases h;exact⟨rfl,rfl⟩
  obtain⟨q2,g,h⟩:=zC h;refine⟨_,⟨_,z7F _ _ g⟩,?_⟩;cases h;exact⟨rfl,rfl⟩
 cases h;exact⟨rfl,rfl⟩
theorem v1g(m:zA)(locals:List zA)(t:zA)(r:Bool)(h:z6Y m locals t=some r):Trip Tryz.prog 106 [.d (tT m),.d (.sl (List.map zA.toD locals)),.d (tT t)] [] [(nB r)] []:=by
 unfold z6Y at h;refine zG 1000 (v2m _ _ _ _ m locals t) ?_;rintro _ rfl;refine zD zq2 h (fun _ h=>?_) (fun _ h=>?_)
 ·rintro _ rfl;refine zD decide_eq_true_iff h (fun _ h=>?_) (fun _ h=>?_)
  ·refine zR (e':=(List.length locals:Int)) (by first|rfl|rw[zq3]) ?_;rintro _ rfl;cases h;exact⟨rfl,rfl⟩
  cases h;exact⟨rfl,rfl⟩
 rintro _ rfl;refine zD zq2 h (fun _ h=>?_) (fun _ h=>?_)
 ·obtain⟨q1,g,h⟩:=zC h;refine⟨_,⟨_,z6N _ _ _ _ g⟩,?_⟩;cases h;exact⟨rfl,rfl⟩
 rintro _ rfl;refine zD zq2 h (fun _ h=>?_) (fun _ h=>?_)
 ·obtain⟨q2,g,h⟩:=zC h;refine⟨_,⟨_,z6N _ _ _ _ g⟩,?_⟩;cases h;exact⟨rfl,rfl⟩
 rintro _ rfl;refine zD zq2 h (fun _ h=>?_) (fun _ h=>?_)
 ·obtain⟨q3,g,h⟩:=zC h;refine⟨_,⟨_,z6N _ _ _ _ g⟩,?_⟩;cases h;exact⟨rfl,rfl⟩
 rintro _ rfl;refine zD zq2 h (fun _ h=>?_) (fun _ h=>?_)
 ·obtain⟨q4,g,h⟩:=zC h;refine⟨_,⟨_,z6N _ _ _ _ g⟩,?_⟩;cases h;exact⟨rfl,rfl⟩
 rintro _ rfl;cases h;exact⟨rfl,rfl⟩
theorem z3E(t:zA)(kind:Int)(r:Bool)(h:z4o t kind=some r):Trip Tryz.prog 171 [.d (tT t),(nI kind)] [] [(nB r)] []:=by
 unfold z4o at h;refine zG 1000 (v8p _ _ _ _ t kind) ?_;rintro _ rfl;refine zD zq2 h (fun _ h=>?_) (fun _ h=>?_)
 ·refine zR (e':=(List.length t.L:Int)) (by first|rfl|rw[zq3]) ?_;rintro _ rfl;cases h;exact⟨rfl,rfl⟩
 cases h;exact⟨rfl,rfl⟩
theorem y3M(m:zA)(n:Int)(r:zA×Bool)(h:z3f m n=some r):Trip Tryz.prog 173 [.d (tT m),(nI n)] [] [.d (tT r.1),(nB r.2)] []:=by
 unfold z3f at h;refine zG 1000 (v2i _ _ _ _ m n) ?_;rintro _ rfl;refine zD decide_eq_true_iff h (fun _ h=>?_) (fun _ h=>?_)
 ·cases h;exact⟨rfl,rfl⟩
 obtain⟨hP,h⟩:=wY h;refine⟨by first|exact hP|simpa using hP,?_⟩;rintro _ rfl;refine zR (e':=(List.length m.L:Int)) (by first|rfl|rw[zq3]) ?_;rintro _ rfl;refine zD decide_eq_true_iff h (fun _ h=>?_) (fun _ h=>?_)
 ·cases h;exact⟨rfl,rfl⟩
 obtain⟨hP,h⟩:=wY h;refine⟨by first|exact hP|simpa using hP,?_⟩;rintro _ rfl;obtain⟨x,hx,h⟩:=zC h;refine⟨zF (l:=m.L) (zA.sz),vO hx,x.K,x.N,x.S,List.map zA.toD x.L,x.From,x.To,zK (zA.toD_eq x) hx,?_⟩;obtain⟨hP,h⟩:=wY h;refine⟨by first|exact hP|simpa using hP,?_⟩;rintro _ rfl;rintro _ rfl;refine zI zq2 h (fun _ h=>?_) (fun _ h=>?_)
 ·refine zR (e':=(List.length x.L:Int)) (by first|rfl|rw[zq3]) ?_;rintro _ rfl;refine zD decide_eq_true_iff h (fun _ h=>?_) (fun _ h=>?_)
  ·cases h;exact⟨rfl,rfl⟩
  obtain⟨x1,hx,h⟩:=zC h;refine⟨zF (l:=x.L) (zA.sz),vO hx,x1.K,x1.N,x1.S,List.map zA.toD x1.L,x1.From,x1.To,zK (zA.toD_eq x1) hx,?_⟩;rintro _ rfl;refine zI zq2 h (fun _ h=>?_) (fun _ h=>?_)
  ·obtain⟨x2,hx,h⟩:=zC h;refine⟨zF (l:=x.L) (zA.sz),vO hx,x2.K,x2.N,x2.S,List.map zA.toD x2.L,x2.From,x2.To,zK (zA.toD_eq x2) hx,?_⟩;refine zR (e':=(List.length x2.L:Int)) (by first|rfl|rw[zq3]) ?_;rintro _ rfl;refine zI zq2 h (fun _ h=>?_) (fun _ h=>?_)
   ·obtain⟨x3,hx,h⟩:=zC h;refine⟨zF (l:=x.L) (zA.sz),vO hx,x3.K,x3.N,x3.S,List.map zA.toD x3.L,x3.From,x3.To,zK (zA.toD_eq x3) hx,?_⟩;obtain⟨x4,hx,h⟩:=zC h;refine⟨zF (l:=x3.L) (zA.sz),vO hx,x4.K,x4.N,x4.S,List.map zA.toD x4.L,x4.From,x4.To,zK (zA.toD_eq x4) hx,?_⟩;cases h;exact⟨rfl,rfl⟩
   cases h;exact⟨rfl,rfl⟩
  cases h;exact⟨rfl,rfl⟩
 cases h;exact⟨rfl,rfl⟩
def z8r:(i:z2E)→z5d i→Prop
 |.yQ n i t d,r=>Ok (z9v (Trip Tryz.prog) [(nI r)] []) (kL Tryz.f172 10) ⟨65,[(2,(nI n)),(4,.ref 4 1 0),(9,.ref 9 1 0),(10,(nI i))],[(4,1,some (.agg (tT t))),(9,1,some (.agg (tT d)))],[],0⟩
theorem y4i:∀i r,uO z2x i=some r→z8r i r:=by
 refine zN z8j fun g ih i=>?_;cases i with
 |yQ n i t d=>
  have w4a:=fun n i t d r h=>ih (.yQ n i t d) r h;intro r h;replace h:gD (fun n i t d=>g (z2E.yQ n i t d)) n i t d=some r:=h;unfold gD at h;refine jF 1000 (y4J _ _ _ _ n i t d) ?_;refine zR (e':=(List.length d.L:Int)) (by first|rfl|rw[zq3]) ?_;rintro _ rfl;refine zD decide_eq_true_iff h (fun _ h=>?_) (fun _ h=>?_)
  ·rintro _ rfl;refine zD decide_eq_true_iff h (fun _ h=>?_) (fun _ h=>?_)
   ·obtain⟨x,hx,h⟩:=zC h;refine⟨zF (l:=d.L) (zA.sz),vO hx,x.K,x.N,x.S,List.map zA.toD x.L,x.From,x.To,zK (zA.toD_eq x) hx,?_⟩;rintro _ rfl;refine zD zq2 h (fun _ h=>?_) (fun _ h=>?_)
    ·rintro _ rfl;rintro _ rfl;cases h;exact⟨rfl,rfl⟩
    rintro _ rfl;exact w4a _ _ _ _ _ h
   cases h;exact⟨rfl,rfl⟩
  cases h;exact⟨rfl,rfl⟩
theorem y4t(n i:Int)(t d:zA)(r:Int)(h:yQ n i t d=some r):z8r (.yQ n i t d) r:=y4i (.yQ n i t d) r h
theorem v1f(m t:zA)(n r:Int)(h:z6W m t n=some r):Trip Tryz.prog 172 [.d (tT m),.d (tT t),(nI n)] [] [(nI r)] []:=by
 unfold z6W at h;refine zG 1000 (v2l _ _ _ _ m t n) ?_;obtain⟨q1,g,h⟩:=zC h;refine⟨_,⟨_,z6N _ _ _ _ g⟩,?_⟩;refine zI Iff.rfl h (fun _ h=>?_) (fun _ h=>?_)
 ·rintro _ rfl;refine zD zq2 h (fun _ h=>?_) (fun _ h=>?_)
  ·obtain⟨q2,g,h⟩:=zC h;refine⟨_,_,_,_,_,_,_,⟨_,y3M _ _ _ g⟩,?_⟩;refine zI Iff.rfl h (fun _ h=>?_) (fun _ h=>?_)
   ·obtain⟨hP,h⟩:=wY h;refine⟨by first|exact hP|simpa using hP,?_⟩;rintro _ rfl;rintro _ rfl;refine zI zq2 h (fun _ h=>?_) (fun _ h=>?_)
    ·cases h;exact⟨rfl,rfl⟩
    cases h;exact⟨rfl,rfl⟩
   cases h;exact⟨rfl,rfl⟩
  obtain⟨x,hx,h⟩:=zC h;refine⟨zF (l:=m.L) (zA.sz),vO hx,x.K,x.N,x.S,List.map zA.toD x.L,x.From,x.To,zK (zA.toD_eq x) hx,?_⟩;exact y4t _ _ _ _ _ h
 cases h;exact⟨rfl,rfl⟩
def y5p:(i:z1J)→y0Y i→Prop
 |.wZ a b,r=>Trip Tryz.prog 45 [.d (tT a),.d (tT b)] [] [(nB r)] []
 |.vQ i a b,r=>Ok (y1l (Trip Tryz.prog) [(nB r)] []) (kL Tryz.f45 4) ⟨53,[(2,.ref 2 1 0),(3,.ref 3 1 0),(5,(nI i))],[(2,1,some (.agg (tT a))),(3,1,some (.agg (tT b)))],[],0⟩
theorem v3D:∀i r,uO z3X i=some r→y5p i r:=by
 refine zN y0Q fun g ih i=>?_;cases i with
 |wZ a b=>
  have w3O:=fun i a b r h=>ih (.vQ i a b) r h;intro r h;replace h:z4l (fun i a b=>g (z1J.vQ i a b)) a b=some r:=h;unfold z4l at h;refine zG 1000 (v4A _ _ _ _ a b) ?_;rintro _ rfl;refine zI zq2 h (fun _ h=>?_) (fun _ h=>?_)
  ·rintro _ rfl;refine zI zq2 h (fun _ h=>?_) (fun _ h=>?_)
   ·rintro _ rfl;refine zI zq2 h (fun _ h=>?_) (fun _ h=>?_)
    ·refine zR (e':=(List.length a.L:Int)) (by first|rfl|rw[zq3]) ?_;refine zR (e':=(List.length b.L:Int)) (by first|rfl|rw[zq3]) ?_;rintro _ rfl;refine zI zq2 h (fun _ h=>?_) (fun _ h=>?_)
     ·exact w3O _ _ _ _ h
     cases h;exact⟨rfl,rfl⟩
    cases h;exact⟨rfl,rfl⟩
   cases h;exact⟨rfl,rfl⟩
  cases h;exact⟨rfl,rfl⟩
 |vQ i a b=>
  have w3N:=fun a b r h=>ih (.wZ a b) r h;have w3O:=fun i a b r h=>ih (.vQ i a b) r h;intro r h;replace h:z0F (fun a b=>g (z1J.wZ a b)) (fun i a b=>g (z1J.vQ i a b)) i a b=some r:=h;unfold z0F at h;refine jF 1000 (y7N _ _ _ _ i a b) ?_;refine zR (e':=(List.length a.L:Int)) (by first|rfl|rw[zq3]) ?_;rintro _ rfl;refine zD decide_eq_true_iff h (fun _ h=>?_) (fun _ h=>?_)
  ·obtain⟨x,hx,h⟩:=zC h;refine⟨zF (l:=a.L) (zA.sz),vO hx,x.K,x.N,x.S,List.map zA.toD x.L,x.From,x.To,zK (zA.toD_eq x) hx,?_⟩;obtain⟨x1,hx,h⟩:=zC h;refine⟨zF (l:=b.L) (zA.sz),vO hx,x1.K,x1.N,x1.S,List.map zA.toD x1.L,x1.From,x1.To,zK (zA.toD_eq x1) hx,?_⟩;obtain⟨q1,g,h⟩:=zC h;refine⟨_,⟨_,w3N _ _ _ g⟩,?_⟩;refine zI Iff.rfl h (fun _ h=>?_) (fun _ h=>?_)
   ·rintro _ rfl;exact w3O _ _ _ _ h
   cases h;exact⟨rfl,rfl⟩
  cases h;exact⟨rfl,rfl⟩
theorem z5S(a b:zA)(r:Bool)(h:wZ a b=some r):y5p (.wZ a b) r:=v3D (.wZ a b) r h
def y1J:(i:z5t)→z7B i→Prop
 |.wQ types parts i,r=>Ok (y3f (Trip Tryz.prog) [(nB r)] []) (kL Tryz.f174 4) ⟨40,[(0,.d (.sl (List.map zA.toD types))),(1,.d (.sl (List.map zA.toD parts))),(5,(nI i))],[],[],0⟩
theorem y9b:∀i r,uO z5p i=some r→y1J i r:=by
 refine zN y1D fun g ih i=>?_;cases i with
 |wQ types parts i=>
  have w4b:=fun types parts i r h=>ih (.wQ types parts i) r h;intro r h;replace h:z1j (fun types parts i=>g (z5t.wQ types parts i)) types parts i=some r:=h;unfold z1j at h;refine jF 1000 (y9H _ _ _ _ types parts i) ?_;refine zR (e':=(List.length parts:Int)) (by first|rfl|rw[zq3]) ?_;rintro _ rfl;refine zD decide_eq_true_iff h (fun _ h=>?_) (fun _ h=>?_)
  ·obtain⟨x,hx,h⟩:=zC h;refine⟨zF (l:=parts) (zA.sz),vO hx,x.K,x.N,x.S,List.map zA.toD x.L,x.From,x.To,zK (zA.toD_eq x) hx,?_⟩;refine zR (e':=(List.length x.L:Int)) (by first|rfl|rw[zq3]) ?_;rintro _ rfl;refine zI zq2 h (fun _ h=>?_) (fun _ h=>?_)
   ·obtain⟨x1,hx,h⟩:=zC h;refine⟨zF (l:=types) (zA.sz),vO hx,x1.K,x1.N,x1.S,List.map zA.toD x1.L,x1.From,x1.To,zK (zA.toD_eq x1) hx,?_⟩;obtain⟨x2,hx,h⟩:=zC h;refine⟨zF (l:=parts) (zA.sz),vO hx,x2.K,x2.N,x2.S,List.map zA.toD x2.L,x2.From,x2.To,zK (zA.toD_eq x2) hx,?_⟩;obtain⟨x3,hx,h⟩:=zC h;refine⟨zF (l:=x2.L) (zA.sz),vO hx,x3.K,x3.N,x3.S,List.map zA.toD x3.L,x3.From,x3.To,zK (zA.toD_eq x3) hx,?_⟩;obtain⟨q1,g,h⟩:=zC h;refine⟨_,_,_,_,_,_,⟨_,z4e _ _ g⟩,?_⟩;obtain⟨q2,g,h⟩:=zC h
    refine⟨_,⟨_,z5S _ _ _ g⟩,?_⟩;refine zI Iff.rfl h (fun _ h=>?_) (fun _ h=>?_)
    ·rintro _ rfl;exact w4b _ _ _ _ h
    cases h;exact⟨rfl,rfl⟩
   cases h;exact⟨rfl,rfl⟩
  cases h;exact⟨rfl,rfl⟩
theorem y9i(types parts:List zA)(i:Int)(r:Bool)(h:wQ types parts i=some r):y1J (.wQ types parts i) r:=y9b (.wQ types parts i) r h
theorem y8q(types parts:List zA)(r:Bool)(h:y0r types parts=some r):Trip Tryz.prog 174 [.d (.sl (List.map zA.toD types)),.d (.sl (List.map zA.toD parts))] [] [(nB r)] []:=by
 unfold y0r at h;refine zG 1000 (v7b _ _ _ _ types parts) ?_;refine zR (e':=(List.length types:Int)) (by first|rfl|rw[zq3]) ?_;refine zR (e':=(List.length parts:Int)) (by first|rfl|rw[zq3]) ?_;rintro _ rfl;refine zI zq2 h (fun _ h=>?_) (fun _ h=>?_)
 ·exact y9i _ _ _ _ h
 cases h;exact⟨rfl,rfl⟩
def z8V:(i:z3w)→z5L i→Prop
 |.vF p i m t o6,r=>Ok (uI (Trip Tryz.prog) [.d (tT r.1),(nI r.2.1),(nI r.2.2)] []) (kL Tryz.f108 20) ⟨223,[(2,.d (.sl (List.map zA.toD p))),(3,.ref 3 1 0),(4,.ref 4 1 0),(6,.ref 6 1 0),(12,(nI i))],[(3,1,some (.agg (tT m))),(4,1,some (.agg (tT t))),(6,1,some (.agg (tT o6)))],[],0⟩
theorem y5g:∀i r,uO z3p i=some r→z8V i r:=by
 refine zN z8M fun g ih i=>?_;cases i with
 |vF p i m t o6=>
  have w4e:=fun p i m t o6 r h=>ih (.vF p i m t o6) r h;intro r h;replace h:z0c (fun p i m t o6=>g (z3w.vF p i m t o6)) p i m t o6=some r:=h;unfold z0c at h;refine jF 1000 (y6y _ _ _ _ p i m t o6) ?_;refine zR (e':=(List.length p:Int)) (by first|rfl|rw[zq3]) ?_;rintro _ rfl;refine zD decide_eq_true_iff h (fun _ h=>?_) (fun _ h=>?_)
  ·obtain⟨x,hx,h⟩:=zC h;refine⟨zF (l:=p) (zA.sz),vO hx,x.K,x.N,x.S,List.map zA.toD x.L,x.From,x.To,zK (zA.toD_eq x) hx,?_⟩;obtain⟨x1,hx,h⟩:=zC h;refine⟨zF (l:=p) (zA.sz),vO hx,x1.K,x1.N,x1.S,List.map zA.toD x1.L,x1.From,x1.To,zK (zA.toD_eq x1) hx,?_⟩;obtain⟨q1,g,h⟩:=zC h;refine⟨_,⟨_,z5S _ _ _ g⟩,?_⟩;refine zI Iff.rfl h (fun _ h=>?_) (fun _ h=>?_)
   ·rintro _ rfl;exact w4e _ _ _ _ _ _ h
   cases h;exact⟨rfl,rfl⟩
  refine zR (e':=(List.length p:Int)) (by first|rfl|rw[zq3]) ?_;obtain⟨x2,hx,h⟩:=zC h;refine⟨zF (l:=p) (zA.sz),vO hx,x2.K,x2.N,x2.S,List.map zA.toD x2.L,x2.From,x2.To,zK (zA.toD_eq x2) hx,?_⟩;obtain⟨q2,g,h⟩:=zC h;have hT:=z0X _ _ _ g;simp only[List.map_cons,List.map_nil,tT,tV,tS,tG,zA.toD_eq,Value.toD_eq]at hT;refine⟨_,⟨_,hT⟩,?_⟩;rintro _ rfl;refine zD zq2 h (fun _ h=>?_) (fun _ h=>?_)
  ·cases h;exact⟨rfl,rfl⟩
  cases h;refine⟨?_,rfl⟩;simp only[List.map_cons,List.map_nil,tT,tV,tS,tG,zA.toD_eq,Value.toD_eq]
theorem y5E(p:List zA)(i:Int)(m t o6:zA)(r:zA×Int×Int)(h:vF p i m t o6=some r):z8V (.vF p i m t o6) r:=y5g (.vF p i m t o6) r h
theorem y5D(p:List zA)(m t o6:zA)(r:zA×Int×Int)(h:z5z p m t o6=some r):Ok (uI (Trip Tryz.prog) [.d (tT r.1),(nI r.2.1),(nI r.2.2)] []) (kJ Tryz.f108 19) ⟨223,[(2,.d (.sl (List.map zA.toD p))),(3,.ref 3 1 0),(4,.ref 4 1 0),(6,.ref 6 1 0)],[(3,1,some (.agg (tT m))),(4,1,some (.agg (tT t))),(6,1,some (.agg (tT o6)))],[],0⟩:=by
 unfold z5z at h;refine jF 1000 (y6x _ _ _ _ p m t o6) ?_;exact y5E _ _ _ _ _ _ h
theorem z9m(p:List zA)(m t o6:zA)(r:zA×Int×Int)(h:z2j p m t o6=some r):Ok (uI (Trip Tryz.prog) [.d (tT r.1),(nI r.2.1),(nI r.2.2)] []) (kJ Tryz.f108 17) ⟨223,[(2,.d (.sl (List.map zA.toD p))),(3,.ref 3 1 0),(4,.ref 4 1 0),(6,.ref 6 1 0)],[(3,1,some (.agg (tT m))),(4,1,some (.agg (tT t))),(6,1,some (.agg (tT o6)))],[],0⟩:=by
 unfold z2j at h;refine jF 1000 (y6w _ _ _ _ p m t o6) ?_;rintro _ rfl;refine zI zq2 h (fun _ h=>?_) (fun _ h=>?_)
 ·exact y5D _ _ _ _ _ h
 cases h;exact⟨rfl,rfl⟩
theorem z9l(p:List zA)(m t o6:zA)(r:zA×Int×Int)(h:z2i p m t o6=some r):Ok (uI (Trip Tryz.prog) [.d (tT r.1),(nI r.2.1),(nI r.2.2)] []) (kJ Tryz.f108 15) ⟨223,[(2,.d (.sl (List.map zA.toD p))),(3,.ref 3 1 0),(4,.ref 4 1 0),(6,.ref 6 1 0)],[(3,1,some (.agg (tT m))),(4,1,some (.agg (tT t))),(6,1,some (.agg (tT o6)))],[],0⟩:=by
 unfold z2i at h;refine jF 1000 (y6v _ _ _ _ p m t o6) ?_;rintro _ rfl;refine zD zq2 h (fun _ h=>?_) (fun _ h=>?_)
 ·obtain⟨x,hx,h⟩:=zC h;refine⟨zF (l:=m.L) (zA.sz),vO hx,x.K,x.N,x.S,List.map zA.toD x.L,x.From,x.To,zK (zA.toD_eq x) hx,?_⟩;obtain⟨x1,hx,h⟩:=zC h;refine⟨zF (l:=x.L) (zA.sz),vO hx,x1.K,x1.N,x1.S,List.map zA.toD x1.L,x1.From,x1.To,zK (zA.toD_eq x1) hx,?_⟩;obtain⟨q1,g,h⟩:=zC h;refine⟨_,⟨_,y8q _ _ _ g⟩,?_⟩;refine zD Iff.rfl h (fun _ h=>?_) (fun _ h=>?_)
  ·obtain⟨x2,hx,h⟩:=zC h;refine⟨zF (l:=m.L) (zA.sz),vO hx,x2.K,x2.N,x2.S,List.map zA.toD x2.L,x2.From,x2.To,zK (zA.toD_eq x2) hx,?_⟩;obtain⟨x3,hx,h⟩:=zC h;refine⟨zF (l:=x2.L) (zA.sz),vO hx,x3.K,x3.N,x3.S,List.map zA.toD x3.L,x3.From,x3.To,zK (zA.toD_eq x3) hx,?_⟩;obtain⟨q2,g,h⟩:=zC h;refine⟨_,_,_,_,_,_,⟨_,z4e _ _ g⟩,?_⟩;cases h;exact⟨rfl,rfl⟩
  exact z9m _ _ _ _ _ h
 exact z9m _ _ _ _ _ h
theorem z5T(p:List zA)(m t o6:zA)(r:zA×Int×Int)(h:z1l p m t o6=some r):Ok (uI (Trip Tryz.prog) [.d (tT r.1),(nI r.2.1),(nI r.2.2)] []) (kJ Tryz.f108 13) ⟨223,[(2,.d (.sl (List.map zA.toD p))),(3,.ref 3 1 0),(4,.ref 4 1 0),(6,.ref 6 1 0)],[(3,1,some (.agg (tT m))),(4,1,some (.agg (tT t))),(6,1,some (.agg (tT o6)))],[],0⟩:=by
 unfold z1l at h;refine jF 1000 (y6u _ _ _ _ p m t o6) ?_;rintro _ rfl;refine zD zq2 h (fun _ h=>?_) (fun _ h=>?_)
 ·obtain⟨x,hx,h⟩:=zC h;refine⟨zF (l:=m.L) (zA.sz),vO hx,x.K,x.N,x.S,List.map zA.toD x.L,x.From,x.To,zK (zA.toD_eq x) hx,?_⟩;obtain⟨q1,g,h⟩:=zC h;refine⟨_,⟨_,y8q _ _ _ g⟩,?_⟩;refine zD Iff.rfl h (fun _ h=>?_) (fun _ h=>?_)
  ·cases h;exact⟨rfl,rfl⟩
  exact z9l _ _ _ _ _ h
 exact z9l _ _ _ _ _ h
theorem z4G(p:List zA)(m t o6:zA)(r:zA×Int×Int)(h:z1a p m t o6=some r):Ok (uI (Trip Tryz.prog) [.d (tT r.1),(nI r.2.1),(nI r.2.2)] []) (kJ Tryz.f108 7) ⟨223,[(2,.d (.sl (List.map zA.toD p))),(3,.ref 3 1 0),(4,.ref 4 1 0),(6,.ref 6 1 0)],[(3,1,some (.agg (tT m))),(4,1,some (.agg (tT t))),(6,1,some (.agg (tT o6)))],[],0⟩:=by
 unfold z1a at h;refine jF 1000 (y7T _ _ _ _ p m t o6) ?_;rintro _ rfl;refine zD zq2 h (fun _ h=>?_) (fun _ h=>?_)
 ·obtain⟨x,hx,h⟩:=zC h;refine⟨zF (l:=p) (zA.sz),vO hx,x.K,x.N,x.S,List.map zA.toD x.L,x.From,x.To,zK (zA.toD_eq x) hx,?_⟩;rintro _ rfl;refine zD zq2 h (fun _ h=>?_) (fun _ h=>?_)
  ·obtain⟨x1,hx,h⟩:=zC h;refine⟨zF (l:=p) (zA.sz),vO hx,x1.K,x1.N,x1.S,List.map zA.toD x1.L,x1.From,x1.To,zK (zA.toD_eq x1) hx,?_⟩;refine zR (e':=(List.length x1.L:Int)) (by first|rfl|rw[zq3]) ?_;rintro _ rfl;refine zD zq2 h (fun _ h=>?_) (fun _ h=>?_)
   ·obtain⟨x2,hx,h⟩:=zC h;refine⟨zF (l:=p) (zA.sz),vO hx,x2.K,x2.N,x2.S,List.map zA.toD x2.L,x2.From,x2.To,zK (zA.toD_eq x2) hx,?_⟩;obtain⟨q1,g,h⟩:=zC h;refine⟨_,⟨_,v1f _ _ _ _ g⟩,?_⟩;rintro _ rfl;refine zD decide_eq_true_iff h (fun _ h=>?_) (fun _ h=>?_)
    ·cases h;exact⟨rfl,rfl⟩
    obtain⟨q2,g,h⟩:=zC h;refine⟨_,_,_,_,_,_,_,⟨_,y3M _ _ _ g⟩,?_⟩;obtain⟨q3,g,h⟩:=zC h;refine⟨_,_,_,_,_,_,⟨_,z4e _ _ g⟩,?_⟩;cases h;exact⟨rfl,rfl⟩
   exact z5T _ _ _ _ _ h
  exact z5T _ _ _ _ _ h
 exact z5T _ _ _ _ _ h
theorem z4F(p:List zA)(m t o6:zA)(r:zA×Int×Int)(h:z0Z p m t o6=some r):Ok (uI (Trip Tryz.prog) [.d (tT r.1),(nI r.2.1),(nI r.2.2)] []) (kJ Tryz.f108 5) ⟨223,[(2,.d (.sl (List.map zA.toD p))),(3,.ref 3 1 0),(4,.ref 4 1 0),(6,.ref 6 1 0)],[(3,1,some (.agg (tT m))),(4,1,some (.agg (tT t))),(6,1,some (.agg (tT o6)))],[],0⟩:=by
 unfold z0Z at h;refine jF 1000 (y7S _ _ _ _ p m t o6) ?_;rintro _ rfl;refine zD zq2 h (fun _ h=>?_) (fun _ h=>?_)
 ·obtain⟨x,hx,h⟩:=zC h;refine⟨zF (l:=p) (zA.sz),vO hx,x.K,x.N,x.S,List.map zA.toD x.L,x.From,x.To,zK (zA.toD_eq x) hx,?_⟩;rintro _ rfl;refine zD zq2 h (fun _ h=>?_) (fun _ h=>?_)
  ·obtain⟨x1,hx,h⟩:=zC h;refine⟨zF (l:=p) (zA.sz),vO hx,x1.K,x1.N,x1.S,List.map zA.toD x1.L,x1.From,x1.To,zK (zA.toD_eq x1) hx,?_⟩;refine zR (e':=(List.length x1.L:Int)) (by first|rfl|rw[zq3]) ?_;rintro _ rfl;refine zD zq2 h (fun _ h=>?_) (fun _ h=>?_)
   ·obtain⟨x2,hx,h⟩:=zC h;refine⟨zF (l:=p) (zA.sz),vO hx,x2.K,x2.N,x2.S,List.map zA.toD x2.L,x2.From,x2.To,zK (zA.toD_eq x2) hx,?_⟩;obtain⟨q1,g,h⟩:=zC h;refine⟨_,⟨_,z3E _ _ _ g⟩,?_⟩;refine zD Iff.rfl h (fun _ h=>?_) (fun _ h=>?_)
    ·obtain⟨x3,hx,h⟩:=zC h;refine⟨zF (l:=p) (zA.sz),vO hx,x3.K,x3.N,x3.S,List.map zA.toD x3.L,x3.From,x3.To,zK (zA.toD_eq x3) hx,?_⟩;obtain⟨x4,hx,h⟩:=zC h;refine⟨zF (l:=x3.L) (zA.sz),vO hx,x4.K,x4.N,x4.S,List.map zA.toD x4.L,x4.From,x4.To,zK (zA.toD_eq x4) hx,?_⟩;cases h;exact⟨rfl,rfl⟩
    exact z4G _ _ _ _ _ h
   exact z4G _ _ _ _ _ h
  exact z4G _ _ _ _ _ h
 exact z4G _ _ _ _ _ h
theorem y0D(p:List zA)(m t o6:zA)(r:zA×Int×Int)(h:z3g p m t o6=some r):Ok (uI (Trip Tryz.prog) [.d (tT r.1),(nI r.2.1),(nI r.2.2)] []) (kJ Tryz.f108 3) ⟨223,[(2,.d (.sl (List.map zA.toD p))),(3,.ref 3 1 0),(4,.ref 4 1 0),(6,.ref 6 1 0)],[(3,1,some (.agg (tT m))),(4,1,some (.agg (tT t))),(6,1,some (.agg (tT o6)))],[],0⟩:=by
 unfold z3g at h;refine jF 1000 (y7R _ _ _ _ p m t o6) ?_;rintro _ rfl;refine zD zq2 h (fun _ h=>?_) (fun _ h=>?_)
 ·rintro _ rfl;refine zD zq2 h (fun hc209 h=>?_) (fun hc209 h=>?_)
  ·obtain⟨x,hx,h⟩:=zC h;refine⟨zF (l:=p) (zA.sz),vO hx,x.K,x.N,x.S,List.map zA.toD x.L,x.From,x.To,zK (zA.toD_eq x) hx,?_⟩;obtain⟨q1,g,h⟩:=zC h;refine⟨_,⟨_,z3E _ _ _ g⟩,?_⟩;refine zD Iff.rfl h (fun _ h=>?_) (fun _ h=>?_)
   ·obtain⟨x1,hx,h⟩:=zC h;refine⟨zF (l:=p) (zA.sz),vO hx,x1.K,x1.N,x1.S,List.map zA.toD x1.L,x1.From,x1.To,zK (zA.toD_eq x1) hx,?_⟩;cases h;exact⟨rfl,rfl⟩
   rintro _ rfl;refine jM zq2 (fun e=>absurd (hc209.symm.trans e) (by decide)) ?_;exact z4F _ _ _ _ _ h
  rintro _ rfl;refine zD zq2 h (fun _ h=>?_) (fun _ h=>?_)
  ·obtain⟨x4,hx,h⟩:=zC h;refine⟨zF (l:=p) (zA.sz),vO hx,x4.K,x4.N,x4.S,List.map zA.toD x4.L,x4.From,x4.To,zK (zA.toD_eq x4) hx,?_⟩;obtain⟨q3,g,h⟩:=zC h;refine⟨_,⟨_,z3E _ _ _ g⟩,?_⟩;refine zD Iff.rfl h (fun _ h=>?_) (fun _ h=>?_)
   ·obtain⟨x5,hx,h⟩:=zC h;refine⟨zF (l:=p) (zA.sz),vO hx,x5.K,x5.N,x5.S,List.map zA.toD x5.L,x5.From,x5.To,zK (zA.toD_eq x5) hx,?_⟩;cases h;exact⟨rfl,rfl⟩
   exact z4F _ _ _ _ _ h
  exact z4F _ _ _ _ _ h
 exact z4F _ _ _ _ _ h
theorem z3G(op:Int)(ints:Bool)(o6 r:zA)(h:z1m op ints o6=some r):Ok (z2d (Trip Tryz.prog) [.d (tT r)] []) (kJ Tryz.f170 7) ⟨70,[(0,(nI op)),(6,.ref 6 1 0),(7,(nB ints))],[(6,1,some (.agg (tT o6)))],[],0⟩:=by
 unfold z1m at h;refine jF 1000 (y9N _ _ _ _ op ints o6) ?_;rintro _ rfl;refine zD decide_eq_true_iff h (fun _ h=>?_) (fun _ h=>?_)
 ·refine zD Iff.rfl h (fun _ h=>?_) (fun _ h=>?_)
  ·obtain⟨q1,g,h⟩:=zC h;refine⟨_,_,_,_,_,_,⟨_,y2Y _ g⟩,?_⟩;cases h;exact⟨rfl,rfl⟩
  cases h;exact⟨rfl,rfl⟩
 cases h;exact⟨rfl,rfl⟩
theorem z3F(op:Int)(ints:Bool)(o6 r:zA)(h:z0d op ints o6=some r):Ok (z2d (Trip Tryz.prog) [.d (tT r)] []) (kJ Tryz.f170 5) ⟨70,[(0,(nI op)),(6,.ref 6 1 0),(7,(nB ints))],[(6,1,some (.agg (tT o6)))],[],0⟩:=by
 unfold z0d at h;refine jF 1000 (y9M _ _ _ _ op ints o6) ?_;rintro _ rfl;refine zD zq2 h (fun _ h=>?_) (fun _ h=>?_)
 ·refine zD Iff.rfl h (fun _ h=>?_) (fun _ h=>?_)
  ·obtain⟨q1,g,h⟩:=zC h;refine⟨_,_,_,_,_,_,⟨_,gX _ g⟩,?_⟩;cases h;exact⟨rfl,rfl⟩
  exact z3G _ _ _ _ h
 rintro _ rfl;refine zD zq2 h (fun _ h=>?_) (fun _ h=>?_)
 ·refine zD Iff.rfl h (fun _ h=>?_) (fun _ h=>?_)
  ·obtain⟨q2,g,h⟩:=zC h;refine⟨_,_,_,_,_,_,⟨_,gX _ g⟩,?_⟩;cases h;exact⟨rfl,rfl⟩
  exact z3G _ _ _ _ h
 rintro _ rfl;refine zD zq2 h (fun _ h=>?_) (fun _ h=>?_)
 ·refine zD Iff.rfl h (fun _ h=>?_) (fun _ h=>?_)
  ·obtain⟨q3,g,h⟩:=zC h;refine⟨_,_,_,_,_,_,⟨_,gX _ g⟩,?_⟩;cases h;exact⟨rfl,rfl⟩
  exact z3G _ _ _ _ h
 rintro _ rfl;refine zD zq2 h (fun _ h=>?_) (fun _ h=>?_)
 ·refine zD Iff.rfl h (fun _ h=>?_) (fun _ h=>?_)
  ·obtain⟨q4,g,h⟩:=zC h;refine⟨_,_,_,_,_,_,⟨_,gX _ g⟩,?_⟩;cases h;exact⟨rfl,rfl⟩
  exact z3G _ _ _ _ h
 exact z3G _ _ _ _ h
theorem y1Q(op:Int)(ints bools:Bool)(o6 r:zA)(h:z4q op ints bools o6=some r):Ok (z2d (Trip Tryz.prog) [.d (tT r)] []) (kJ Tryz.f170 3) ⟨70,[(0,(nI op)),(6,.ref 6 1 0),(7,(nB ints)),(8,(nB bools))],[(6,1,some (.agg (tT o6)))],[],0⟩:=by
 unfold z4q at h;refine jF 1000 (y9L _ _ _ _ op ints bools o6) ?_;rintro _ rfl;refine zD zq2 h (fun hc223 h=>?_) (fun hc223 h=>?_)
 ·refine zD Iff.rfl h (fun _ h=>?_) (fun _ h=>?_)
  ·obtain⟨q1,g,h⟩:=zC h;refine⟨_,_,_,_,_,_,⟨_,gX _ g⟩,?_⟩;cases h;exact⟨rfl,rfl⟩
  rintro _ rfl;refine jM zq2 (fun e=>absurd (hc223.symm.trans e) (by decide)) ?_;rintro _ rfl;refine jM zq2 (fun e=>absurd (hc223.symm.trans e) (by decide)) ?_;exact z3F _ _ _ _ h
 rintro _ rfl;refine zD zq2 h (fun hc225 h=>?_) (fun hc225 h=>?_)
 ·refine zD Iff.rfl h (fun _ h=>?_) (fun _ h=>?_)
  ·obtain⟨q6,g,h⟩:=zC h;refine⟨_,_,_,_,_,_,⟨_,gX _ g⟩,?_⟩;cases h;exact⟨rfl,rfl⟩
  rintro _ rfl;refine jM zq2 (fun e=>absurd (hc225.symm.trans e) (by decide)) ?_;rintro _ rfl;refine jM zq2 (fun e=>absurd (hc225.symm.trans e) (by decide)) ?_;exact z3F _ _ _ _ h
 rintro _ rfl;refine zD zq2 h (fun _ h=>?_) (fun _ h=>?_)
 ·refine zD Iff.rfl h (fun _ h=>?_) (fun _ h=>?_)
  ·obtain⟨q11,g,h⟩:=zC h;refine⟨_,_,_,_,_,_,⟨_,gX _ g⟩,?_⟩;cases h;exact⟨rfl,rfl⟩
  refine zD Iff.rfl h (fun _ h=>?_) (fun _ h=>?_)
  ·obtain⟨q12,g,h⟩:=zC h;refine⟨_,_,_,_,_,_,⟨_,gX _ g⟩,?_⟩;cases h;exact⟨rfl,rfl⟩
  exact z3F _ _ _ _ h
 rintro _ rfl;refine zD zq2 h (fun _ h=>?_) (fun _ h=>?_)
 ·refine zD Iff.rfl h (fun _ h=>?_) (fun _ h=>?_)
  ·obtain⟨q13,g,h⟩:=zC h;refine⟨_,_,_,_,_,_,⟨_,gX _ g⟩,?_⟩;cases h;exact⟨rfl,rfl⟩
  refine zD Iff.rfl h (fun _ h=>?_) (fun _ h=>?_)
  ·obtain⟨q14,g,h⟩:=zC h;refine⟨_,_,_,_,_,_,⟨_,gX _ g⟩,?_⟩;cases h;exact⟨rfl,rfl⟩
  exact z3F _ _ _ _ h
 exact z3F _ _ _ _ h
theorem y1P(op:Int)(ints:Bool)(a b o6 r:zA)(h:z4p op ints a b o6=some r):Ok (z2d (Trip Tryz.prog) [.d (tT r)] []) (kJ Tryz.f170 2) ⟨70,[(0,(nI op)),(4,.ref 4 1 0),(5,.ref 5 1 0),(6,.ref 6 1 0),(7,(nB ints))],[(4,1,some (.agg (tT a))),(5,1,some (.agg (tT b))),(6,1,some (.agg (tT o6)))],[],0⟩:=by
 unfold z4p at h;refine jF 1000 (y9K _ _ _ _ op ints a b o6) ?_;obtain⟨q1,g,h⟩:=zC h;refine⟨_,⟨_,z3E _ _ _ g⟩,?_⟩;refine zD Iff.rfl h (fun _ h=>?_) (fun _ h=>?_)
 ·obtain⟨q2,g,h⟩:=zC h;refine⟨_,⟨_,z3E _ _ _ g⟩,?_⟩;exact y1Q _ _ _ _ _ h
 exact y1Q _ _ _ _ _ h
theorem y8r(op:Int)(a b r:zA)(h:y0s op a b=some r):Trip Tryz.prog 170 [(nI op),.d (tT a),.d (tT b)] [] [.d (tT r)] []:=by
 unfold y0s at h;refine zG 1000 (v7e _ _ _ _ op a b) ?_;obtain⟨q1,g,h⟩:=zC h;refine⟨_,⟨_,z3E _ _ _ g⟩,?_⟩;refine zD Iff.rfl h (fun _ h=>?_) (fun _ h=>?_)
 ·obtain⟨q2,g,h⟩:=zC h;refine⟨_,⟨_,z3E _ _ _ g⟩,?_⟩;exact y1P _ _ _ _ _ _ h
 exact y1P _ _ _ _ _ _ h
theorem v3T(m t:zA)(p:List zA)(r:zA×Int×Int)(h:z9X m t p=some r):Trip Tryz.prog 108 [.d (tT m),.d (tT t),.d (.sl (List.map zA.toD p))] [] [.d (tT r.1),(nI r.2.1),(nI r.2.2)] []:=by
 unfold z9X at h;refine zG 1000 (v4F _ _ _ _ m t p) ?_;rintro _ rfl;refine zD zq2 h (fun _ h=>?_) (fun _ h=>?_)
 ·obtain⟨x,hx,h⟩:=zC h;refine⟨zF (l:=p) (zA.sz),vO hx,x.K,x.N,x.S,List.map zA.toD x.L,x.From,x.To,zK (zA.toD_eq x) hx,?_⟩;obtain⟨x1,hx,h⟩:=zC h;refine⟨zF (l:=p) (zA.sz),vO hx,x1.K,x1.N,x1.S,List.map zA.toD x1.L,x1.From,x1.To,zK (zA.toD_eq x1) hx,?_⟩;obtain⟨q1,g,h⟩:=zC h;refine⟨_,_,_,_,_,_,⟨_,y8r _ _ _ _ g⟩,?_⟩;rintro _ rfl;refine zI zq2 h (fun _ h=>?_) (fun _ h=>?_)
  ·exact y0D _ _ _ _ _ h
  obtain⟨x2,hx,h⟩:=zC h;refine⟨zF (l:=p) (zA.sz),vO hx,x2.K,x2.N,x2.S,List.map zA.toD x2.L,x2.From,x2.To,zK (zA.toD_eq x2) hx,?_⟩;obtain⟨x3,hx,h⟩:=zC h;refine⟨zF (l:=p) (zA.sz),vO hx,x3.K,x3.N,x3.S,List.map zA.toD x3.L,x3.From,x3.To,zK (zA.toD_eq x3) hx,?_⟩;obtain⟨q2,g,h⟩:=zC h;refine⟨_,_,_,_,_,_,⟨_,y8r _ _ _ _ g⟩,?_⟩;cases h;exact⟨rfl,rfl⟩
 exact y0D _ _ _ _ _ h
theorem y9j(t:zA)(r:Bool)(h:z6i t=some r):Trip Tryz.prog 104 [.d (tT t)] [] [(nB r)] []:=by
 unfold z6i at h;refine zG 1000 (y9J _ _ _ _ t) ?_;refine zR (e':=(List.length t.L:Int)) (by first|rfl|rw[zq3]) ?_;rintro _ rfl;refine zD zq2 h (fun _ h=>?_) (fun _ h=>?_)
 ·rintro _ rfl;cases h;exact⟨rfl,rfl⟩
 rintro _ rfl;refine zD zq2 h (fun _ h=>?_) (fun _ h=>?_)
 ·rintro _ rfl;cases h;exact⟨rfl,rfl⟩
 rintro _ rfl;refine zD zq2 h (fun _ h=>?_) (fun _ h=>?_)
 ·rintro _ rfl;cases h;exact⟨rfl,rfl⟩
 rintro _ rfl;refine zD zq2 h (fun _ h=>?_) (fun _ h=>?_)
 ·rintro _ rfl;cases h;exact⟨rfl,rfl⟩
 rintro _ rfl;refine zD zq2 h (fun _ h=>?_) (fun _ h=>?_)
 ·rintro _ rfl;cases h;exact⟨rfl,rfl⟩
 rintro _ rfl;refine zD zq2 h (fun _ h=>?_) (fun _ h=>?_)
 ·rintro _ rfl;refine zD zq2 h (fun _ h=>?_) (fun _ h=>?_)
  ·rintro _ rfl;refine zD zq2 h (fun _ h=>?_) (fun _ h=>?_)
   ·cases h;exact⟨rfl,rfl⟩
   rintro _ rfl;cases h;exact⟨rfl,rfl⟩
  cases h;exact⟨rfl,rfl⟩
 rintro _ rfl;refine zD zq2 h (fun _ h=>?_) (fun _ h=>?_)
 ·rintro _ rfl;refine zD zq2 h (fun _ h=>?_) (fun _ h=>?_)
  ·rintro _ rfl;refine zD zq2 h (fun _ h=>?_) (fun _ h=>?_)
   ·cases h;exact⟨rfl,rfl⟩
   rintro _ rfl;cases h;exact⟨rfl,rfl⟩
  cases h;exact⟨rfl,rfl⟩
 rintro _ rfl;refine zD zq2 h (fun _ h=>?_) (fun _ h=>?_)
 ·rintro _ rfl;refine zD zq2 h (fun _ h=>?_) (fun _ h=>?_)
  ·rintro _ rfl;refine zD decide_eq_true_iff h (fun _ h=>?_) (fun _ h=>?_)
   ·rintro _ rfl;cases h;exact⟨rfl,rfl⟩
   cases h;exact⟨rfl,rfl⟩
  cases h;exact⟨rfl,rfl⟩
 rintro _ rfl;refine zD zq2 h (fun _ h=>?_) (fun _ h=>?_)
 ·rintro _ rfl;cases h;exact⟨rfl,rfl⟩
 rintro _ rfl;refine zD zq2 h (fun _ h=>?_) (fun _ h=>?_)
 ·rintro _ rfl;cases h;exact⟨rfl,rfl⟩
 rintro _ rfl;refine zD zq2 h (fun _ h=>?_) (fun _ h=>?_)
 ·rintro _ rfl;cases h;exact⟨rfl,rfl⟩
 rintro _ rfl;refine zD zq2 h (fun _ h=>?_) (fun _ h=>?_)
 ·rintro _ rfl;cases h;exact⟨rfl,rfl⟩
 rintro _ rfl;refine zD zq2 h (fun _ h=>?_) (fun _ h=>?_)
 ·cases h;exact⟨rfl,rfl⟩
 rintro _ rfl;cases h;exact⟨rfl,rfl⟩
def v0Z:(i:z4M)→y5y i→Prop
 |.uU m locals t,r=>Trip Tryz.prog 53 [.d (tT m),.d (.sl (List.map zA.toD locals)),.d (tT t)] [] [.d (.agg [(.int .i64 r.Type_.K),(.int .i64 r.Type_.N),(.str r.Type_.S),(.sl (List.map zA.toD r.Type_.L)),(.int .i64 r.Type_.From),(.int .i64 r.Type_.To),(.int .i64 r.Form.K),(.int .i64 r.Form.N),(.str r.Form.S),(.sl (List.map zA.toD r.Form.L)),(.int .i64 r.Form.From),(.int .i64 r.Form.To),(.int .i64 r.At),(.int .i64 r.E)])] []
 |.wB locals types forms i m t o6,r=>Ok (y6j (Trip Tryz.prog) [.d (.agg [(.int .i64 r.Type_.K),(.int .i64 r.Type_.N),(.str r.Type_.S),(.sl (List.map zA.toD r.Type_.L)),(.int .i64 r.Type_.From),(.int .i64 r.Type_.To),(.int .i64 r.Form.K),(.int .i64 r.Form.N),(.str r.Form.S),(.sl (List.map zA.toD r.Form.L)),(.int .i64 r.Form.From),(.int .i64 r.Form.To),(.int .i64 r.At),(.int .i64 r.E)])] []) (kL Tryz.f53 10) ⟨96,[(1,.d (.sl (List.map zA.toD locals))),(3,.ref 3 1 0),(5,.ref 5 1 0),(6,.ref 6 1 0),(7,.right 45 1 6 (List.map zA.toD types)),(8,.right 46 1 6 (List.map zA.toD forms)),(9,(nI i))],[(3,1,some (.agg (tT m))),(5,1,some (.agg (tT t))),(6,1,some (.agg (.agg [(.int .i64 o6.Type_.K),(.int .i64 o6.Type_.N),(.str o6.Type_.S),(.sl (List.map zA.toD o6.Type_.L)),(.int .i64 o6.Type_.From),(.int .i64 o6.Type_.To),(.int .i64 o6.Form.K),(.int .i64 o6.Form.N),(.str o6.Form.S),(.sl (List.map zA.toD o6.Form.L)),(.int .i64 o6.Form.From),(.int .i64 o6.Form.To),(.int .i64 o6.At),(.int .i64 o6.E)]))),(45,1,some (.tok 6 (List.length (List.map zA.toD types)))),(46,1,some (.tok 6 (List.length (List.map zA.toD forms))))],[],0⟩
theorem v8a:∀i r,uO z6L i=some r→v0Z i r:=by
 refine zN y5d fun g ih i=>?_;cases i with
 |uU m locals t=>
  have w4d:=fun locals types forms i m t o6 r h=>ih (.wB locals types forms i m t o6) r h;intro r h;replace h:z6Z (fun locals types forms i m t o6=>g (z4M.wB locals types forms i m t o6)) m locals t=some r:=h;unfold z6Z at h;refine zG 1000 (v8q _ _ _ _ m locals t) ?_;obtain⟨q1,g,h⟩:=zC h;refine⟨_,⟨_,y9j _ _ g⟩,?_⟩;refine zI Iff.rfl h (fun _ h=>?_) (fun _ h=>?_)
  ·obtain⟨q3,g,h⟩:=zC h;refine⟨_,⟨_,v1g _ _ _ _ g⟩,?_⟩;refine zI Iff.rfl h (fun _ h=>?_) (fun _ h=>?_)
   ·refine zR (e':=(List.length t.L:Int)) (by first|rfl|rw[zq3]) ?_;rintro _ rfl;refine zD zq2 h (fun _ h=>?_) (fun _ h=>?_)
    ·rintro _ rfl;refine zI zq2 h (fun _ h=>?_) (fun _ h=>?_)
     ·exact w4d _ _ _ _ _ _ _ _ h
     obtain⟨q5,g,h⟩:=zC h;refine⟨_,_,_,_,_,_,⟨_,v1e _ _ _ _ g⟩,?_⟩;cases h;exact⟨rfl,rfl⟩
    exact w4d _ _ _ _ _ _ _ _ h
   obtain⟨q4,g,h⟩:=zC h;refine⟨_,_,_,_,_,_,_,_,_,_,_,_,_,_,⟨_,y2X _ _ _ g⟩,?_⟩;cases h;exact⟨rfl,rfl⟩
  obtain⟨q2,g,h⟩:=zC h;refine⟨_,_,_,_,_,_,_,_,_,_,_,_,_,_,⟨_,y2X _ _ _ g⟩,?_⟩;cases h;exact⟨rfl,rfl⟩
 |wB locals types forms i m t o6=>
  have w4c:=fun m locals t r h=>ih (.uU m locals t) r h;have w4d:=fun locals types forms i m t o6 r h=>ih (.wB locals types forms i m t o6) r h;intro r h;replace h:z1k (fun m locals t=>g (z4M.uU m locals t)) (fun locals types forms i m t o6=>g (z4M.wB locals types forms i m t o6)) locals types forms i m t o6=some r:=h;unfold z1k at h;refine jF 1000 (y9I _ _ _ _ locals types forms i m t o6) ?_;refine zR (e':=(List.length t.L:Int)) (by first|rfl|rw[zq3]) ?_;rintro _ rfl
  refine zD decide_eq_true_iff h (fun _ h=>?_) (fun _ h=>?_)
  ·obtain⟨x,hx,h⟩:=zC h;refine⟨zF (l:=t.L) (zA.sz),vO hx,x.K,x.N,x.S,List.map zA.toD x.L,x.From,x.To,zK (zA.toD_eq x) hx,?_⟩;obtain⟨q1,g,h⟩:=zC h;refine⟨_,_,_,_,_,_,_,_,_,_,_,_,_,_,⟨_,w4c _ _ _ _ g⟩,?_⟩;rintro _ rfl;refine zI zq2 h (fun _ h=>?_) (fun _ h=>?_)
   ·refine⟨by simp[zE,D.cells],?_⟩;refine⟨by first|rfl|decide|simp only[zq3,List.length_cons,List.length_nil,List.map_append,List.length_append],?_⟩;obtain⟨hP,h⟩:=wY h;refine⟨by first|exact hP|simpa using hP,?_⟩;refine zR (e':=List.map zA.toD (types++[q1.Type_])) (by first|rfl|simp only[List.map_append,List.map_cons,List.map_nil,List.map_take,List.map_drop,List.map_set,List.map_replicate,zq3,zA.toD_eq]) ?_;refine⟨by simp[zE,D.cells],?_⟩
    refine⟨by first|rfl|decide|simp only[zq3,List.length_cons,List.length_nil,List.map_append,List.length_append],?_⟩;obtain⟨hP,h⟩:=wY h;refine⟨by first|exact hP|simpa using hP,?_⟩;refine zR (e':=List.map zA.toD (forms++[q1.Form])) (by first|rfl|simp only[List.map_append,List.map_cons,List.map_nil,List.map_take,List.map_drop,List.map_set,List.map_replicate,zq3,zA.toD_eq]) ?_;rintro _ rfl;exact w4d _ _ _ _ _ _ _ _ h
   cases h;exact⟨rfl,rfl⟩
  obtain⟨q2,g,h⟩:=zC h;refine⟨_,_,_,_,_,_,_,_,⟨_,v3T _ _ _ _ g⟩,?_⟩;rintro _ rfl;refine zI zq2 h (fun _ h=>?_) (fun _ h=>?_)
  ·cases h;exact⟨rfl,rfl⟩
  obtain⟨q3,g,h⟩:=zC h;refine⟨_,_,_,_,_,_,_,_,_,_,_,_,_,_,⟨_,y2X _ _ _ g⟩,?_⟩;cases h;exact⟨rfl,rfl⟩
theorem z4P(m:zA)(locals:List zA)(t:zA)(r:Ref15Got)(h:uU m locals t=some r):v0Z (.uU m locals t) r:=v8a (.uU m locals t) r h
theorem y9k(m:zA)(locals:List zA)(t:zA)(r:List zA)(h:z1n m locals t=some r):Trip Tryz.prog 240 [.d (tT m),.d (.sl (List.map zA.toD locals)),.d (tT t)] [] [.d (.sl (List.map zA.toD r))] []:=by
 unfold z1n at h;refine zG 1000 (y9O _ _ _ _ m locals t) ?_;rintro _ rfl;refine zD zq2 h (fun hc263 h=>?_) (fun hc263 h=>?_)
 ·refine zR (e':=(List.length t.L:Int)) (by first|rfl|rw[zq3]) ?_;rintro _ rfl;refine zD zq2 h (fun _ h=>?_) (fun _ h=>?_)
  ·refine⟨zF (l:=locals) (zA.sz),?_⟩;refine⟨by first|rfl|decide|simp only[zq3,List.length_cons,List.length_nil,List.map_append,List.length_append],?_⟩;obtain⟨hP,h⟩:=wY h;refine⟨by first|exact hP|simpa using hP,?_⟩;refine zR (e':=List.map zA.toD (([]:List zA)++locals)) (by first|rfl|simp only[List.map_append,List.map_cons,List.map_nil,List.map_take,List.map_drop,List.map_set,List.map_replicate,zq3,zA.toD_eq]) ?_;obtain⟨x,hx,h⟩:=zC h
   refine⟨zF (l:=t.L) (zA.sz),vO hx,x.K,x.N,x.S,List.map zA.toD x.L,x.From,x.To,zK (zA.toD_eq x) hx,?_⟩;obtain⟨q1,g,h⟩:=zC h;refine⟨_,_,_,_,_,_,_,_,_,_,_,_,_,_,⟨_,z4P _ _ _ _ g⟩,?_⟩;refine⟨by simp[zE,D.cells],?_⟩;refine⟨by first|rfl|decide|simp only[zq3,List.length_cons,List.length_nil,List.map_append,List.length_append],?_⟩;obtain⟨hP,h⟩:=wY h;refine⟨by first|exact hP|simpa using hP,?_⟩
   refine zR (e':=List.map zA.toD ((([]:List zA)++locals)++[q1.Type_])) (by first|rfl|simp only[List.map_append,List.map_cons,List.map_nil,List.map_take,List.map_drop,List.map_set,List.map_replicate,zq3,zA.toD_eq]) ?_;cases h;exact⟨rfl,rfl⟩
  rintro _ rfl;refine jM zq2 (fun e=>absurd (hc263.symm.trans e) (by decide)) ?_;cases h;exact⟨rfl,rfl⟩
 rintro _ rfl;refine zD zq2 h (fun _ h=>?_) (fun _ h=>?_)
 ·refine zR (e':=(List.length t.L:Int)) (by first|rfl|rw[zq3]) ?_;rintro _ rfl;refine zD zq2 h (fun _ h=>?_) (fun _ h=>?_)
  ·refine⟨zF (l:=locals) (zA.sz),?_⟩;refine⟨by first|rfl|decide|simp only[zq3,List.length_cons,List.length_nil,List.map_append,List.length_append],?_⟩;obtain⟨hP,h⟩:=wY h;refine⟨by first|exact hP|simpa using hP,?_⟩;refine zR (e':=List.map zA.toD (([]:List zA)++locals)) (by first|rfl|simp only[List.map_append,List.map_cons,List.map_nil,List.map_take,List.map_drop,List.map_set,List.map_replicate,zq3,zA.toD_eq]) ?_;obtain⟨x2,hx,h⟩:=zC h
   refine⟨zF (l:=t.L) (zA.sz),vO hx,x2.K,x2.N,x2.S,List.map zA.toD x2.L,x2.From,x2.To,zK (zA.toD_eq x2) hx,?_⟩;refine⟨by simp[zE,D.cells],?_⟩;refine⟨by first|rfl|decide|simp only[zq3,List.length_cons,List.length_nil,List.map_append,List.length_append],?_⟩;obtain⟨hP,h⟩:=wY h;refine⟨by first|exact hP|simpa using hP,?_⟩
   refine zR (e':=List.map zA.toD ((([]:List zA)++locals)++[x2])) (by first|rfl|simp only[List.map_append,List.map_cons,List.map_nil,List.map_take,List.map_drop,List.map_set,List.map_replicate,zq3,zA.toD_eq]) ?_;cases h;exact⟨rfl,rfl⟩
  cases h;exact⟨rfl,rfl⟩
 cases h;exact⟨rfl,rfl⟩
theorem y3O(k:Int)(r:Int×Int)(h:jA k=some r):Trip Tryz.prog 239 [(nI k)] [] [(nI r.1),(nI r.2)] []:=by
 unfold jA at h;refine zG 1000 (v2p _ _ _ _ k) ?_;rintro _ rfl;refine zD zq2 h (fun _ h=>?_) (fun _ h=>?_)
 ·cases h;exact⟨rfl,rfl⟩
 rintro _ rfl;refine zD zq2 h (fun _ h=>?_) (fun _ h=>?_)
 ·cases h;exact⟨rfl,rfl⟩
 rintro _ rfl;refine zD zq2 h (fun _ h=>?_) (fun _ h=>?_)
 ·cases h;exact⟨rfl,rfl⟩
 rintro _ rfl;refine zD zq2 h (fun _ h=>?_) (fun _ h=>?_)
 ·cases h;exact⟨rfl,rfl⟩
 rintro _ rfl;refine zD zq2 h (fun _ h=>?_) (fun _ h=>?_)
 ·cases h;exact⟨rfl,rfl⟩
 rintro _ rfl;refine zD zq2 h (fun _ h=>?_) (fun _ h=>?_)
 ·cases h;exact⟨rfl,rfl⟩
 rintro _ rfl;refine zD zq2 h (fun _ h=>?_) (fun _ h=>?_)
 ·cases h;exact⟨rfl,rfl⟩
 rintro _ rfl;refine zD zq2 h (fun _ h=>?_) (fun _ h=>?_)
 ·cases h;exact⟨rfl,rfl⟩
 rintro _ rfl;refine zD zq2 h (fun _ h=>?_) (fun _ h=>?_)
 ·cases h;exact⟨rfl,rfl⟩
 cases h;exact⟨rfl,rfl⟩
def z8W:(i:z3x)→z5M i→Prop
 |.yM n i t,r=>Ok (z9y (Trip Tryz.prog) [(nB r)] []) (kL Tryz.f191 7) ⟨35,[(1,.ref 1 1 0),(3,(nI n)),(5,(nI i))],[(1,1,some (.agg (tT t)))],[],0⟩
theorem y5h:∀i r,uO z3q i=some r→z8W i r:=by
 refine zN z8N fun g ih i=>?_;cases i with
 |yM n i t=>
  have w4m:=fun n i t r h=>ih (.yM n i t) r h;intro r h;replace h:z0f (fun n i t=>g (z3x.yM n i t)) n i t=some r:=h;unfold z0f at h;refine jF 1000 (y6A _ _ _ _ n i t) ?_;rintro _ rfl;refine zD decide_eq_true_iff h (fun _ h=>?_) (fun _ h=>?_)
  ·obtain⟨x,hx,h⟩:=zC h;refine⟨zF (l:=t.L) (zA.sz),vO hx,x.K,x.N,x.S,List.map zA.toD x.L,x.From,x.To,zK (zA.toD_eq x) hx,?_⟩;rintro _ rfl;refine zI zq2 h (fun _ h=>?_) (fun _ h=>?_)
   ·rintro _ rfl;exact w4m _ _ _ _ h
   cases h;exact⟨rfl,rfl⟩
  cases h;exact⟨rfl,rfl⟩
theorem y5F(n i:Int)(t:zA)(r:Bool)(h:yM n i t=some r):z8W (.yM n i t) r:=y5h (.yM n i t) r h
theorem v1j(t:zA)(r:Bool)(h:z7d t=some r):Trip Tryz.prog 191 [.d (tT t)] [] [(nB r)] []:=by
 unfold z7d at h;refine zG 1000 (v2r _ _ _ _ t) ?_;rintro _ rfl;refine zD zq2 h (fun _ h=>?_) (fun _ h=>?_)
 ·cases h;exact⟨rfl,rfl⟩
 obtain⟨q1,g,h⟩:=zC h;refine⟨_,_,⟨_,y3O _ _ g⟩,?_⟩;refine zR (e':=(List.length t.L:Int)) (by first|rfl|rw[zq3]) ?_;rintro _ rfl;refine zI zq2 h (fun _ h=>?_) (fun _ h=>?_)
 ·rintro _ rfl;exact y5F _ _ _ _ h
 cases h;exact⟨rfl,rfl⟩
def y5s:(i:z7x)→y1b i→Prop
 |.wP t,r=>Trip Tryz.prog 194 [.d (tT t)] [] [.d (tT r)] []
theorem v3G:∀i r,uO z7v i=some r→y5s i r:=by
 refine zN y5c fun g ih i=>?_;cases i with
 |wP t=>
  have w3Z:=fun t r h=>ih (.wP t) r h;intro r h;replace h:z1U (fun t=>g (z7x.wP t)) t=some r:=h;unfold z1U at h;refine zG 1000 (v4D _ _ _ _ t) ?_;rintro _ rfl;refine zD zq2 h (fun _ h=>?_) (fun _ h=>?_)
  ·refine zR (e':=(List.length t.L:Int)) (by first|rfl|rw[zq3]) ?_;rintro _ rfl;refine zD decide_eq_true_iff h (fun _ h=>?_) (fun _ h=>?_)
   ·obtain⟨x,hx,h⟩:=zC h;refine⟨zF (l:=t.L) (zA.sz),vO hx,x.K,x.N,x.S,List.map zA.toD x.L,x.From,x.To,zK (zA.toD_eq x) hx,?_⟩;obtain⟨q1,g,h⟩:=zC h;refine⟨_,_,_,_,_,_,⟨_,w3Z _ _ g⟩,?_⟩;cases h;exact⟨rfl,rfl⟩
   cases h;exact⟨rfl,rfl⟩
  rintro _ rfl;refine zD zq2 h (fun _ h=>?_) (fun _ h=>?_)
  ·refine zR (e':=(List.length t.L:Int)) (by first|rfl|rw[zq3]) ?_;rintro _ rfl;refine zD decide_eq_true_iff h (fun _ h=>?_) (fun _ h=>?_)
   ·obtain⟨x1,hx,h⟩:=zC h;refine⟨zF (l:=t.L) (zA.sz),vO hx,x1.K,x1.N,x1.S,List.map zA.toD x1.L,x1.From,x1.To,zK (zA.toD_eq x1) hx,?_⟩;obtain⟨q2,g,h⟩:=zC h;refine⟨_,_,_,_,_,_,⟨_,w3Z _ _ g⟩,?_⟩;cases h;exact⟨rfl,rfl⟩
   cases h;exact⟨rfl,rfl⟩
  cases h;exact⟨rfl,rfl⟩
theorem v3S(t r:zA)(h:wP t=some r):y5s (.wP t) r:=v3G (.wP t) r h
theorem z2K(x:Ref15Got)(r:Ref16Got)(h:z0s x=some r):Trip Tryz.prog 242 [.d (.agg [(.int .i64 x.Type_.K),(.int .i64 x.Type_.N),(.str x.Type_.S),(.sl (List.map zA.toD x.Type_.L)),(.int .i64 x.Type_.From),(.int .i64 x.Type_.To),(.int .i64 x.Form.K),(.int .i64 x.Form.N),(.str x.Form.S),(.sl (List.map zA.toD x.Form.L)),(.int .i64 x.Form.From),(.int .i64 x.Form.To),(.int .i64 x.At),(.int .i64 x.E)])] [] [.d (.agg [(.int .i64 r.T_.K),(.int .i64 r.T_.N),(.str r.T_.S),(.sl (List.map zA.toD r.T_.L)),(.int .i64 r.T_.From),(.int .i64 r.T_.To),(.int .i64 r.At),(.int .i64 r.E)])] []:=by
 unfold z0s at h;refine zG 1000 (v4H _ _ _ _ x) ?_;cases h;exact⟨rfl,rfl⟩
theorem z7G(m:zA)(locals:List zA)(t:zA)(a b:Int)(r:Ref16Got)(h:z1z m locals t a b=some r):Trip Tryz.prog 241 [.d (tT m),.d (.sl (List.map zA.toD locals)),.d (tT t),(nI a),(nI b)] [] [.d (.agg [(.int .i64 r.T_.K),(.int .i64 r.T_.N),(.str r.T_.S),(.sl (List.map zA.toD r.T_.L)),(.int .i64 r.T_.From),(.int .i64 r.T_.To),(.int .i64 r.At),(.int .i64 r.E)])] []:=by
 unfold z1z at h;refine zG 1000 (v4I _ _ _ _ m locals t a b) ?_;obtain⟨q1,g,h⟩:=zC h;refine⟨_,_,_,_,_,_,_,_,_,_,_,_,_,_,⟨_,z4P _ _ _ _ g⟩,?_⟩;rintro _ rfl;refine zD zq2 h (fun _ h=>?_) (fun _ h=>?_)
 ·obtain⟨q2,g,h⟩:=zC h;refine⟨_,⟨_,z3E _ _ _ g⟩,?_⟩;refine zI Iff.rfl h (fun _ h=>?_) (fun _ h=>?_)
  ·obtain⟨q6,g,h⟩:=zC h;refine⟨_,_,_,_,_,_,_,_,⟨_,z2K _ _ g⟩,?_⟩;cases h;exact⟨rfl,rfl⟩
  obtain⟨q3,g,h⟩:=zC h;refine⟨_,⟨_,z3E _ _ _ g⟩,?_⟩;refine zI Iff.rfl h (fun _ h=>?_) (fun _ h=>?_)
  ·obtain⟨q5,g,h⟩:=zC h;refine⟨_,_,_,_,_,_,_,_,⟨_,z2K _ _ g⟩,?_⟩;cases h;exact⟨rfl,rfl⟩
  obtain⟨q4,g,h⟩:=zC h;refine⟨_,_,_,_,_,_,_,_,⟨_,vW _ _ _ g⟩,?_⟩;cases h;exact⟨rfl,rfl⟩
 obtain⟨q7,g,h⟩:=zC h;refine⟨_,_,_,_,_,_,_,_,⟨_,z2K _ _ g⟩,?_⟩;cases h;exact⟨rfl,rfl⟩
def y0W:(i:uB)→y1c i→Prop
 |.jB m locals ret t,r=>Trip Tryz.prog 129 [.d (tT m),.d (.sl (List.map zA.toD locals)),.d (tT ret),.d (tT t)] [] [.d (.agg [(.int .i64 r.T_.K),(.int .i64 r.T_.N),(.str r.T_.S),(.sl (List.map zA.toD r.T_.L)),(.int .i64 r.T_.From),(.int .i64 r.T_.To),(.int .i64 r.At),(.int .i64 r.E)])] []
 |.yN locals i m ret t o8 K N S L From To,r=>Ok (y1o (Trip Tryz.prog) [.d (.agg [(.int .i64 r.T_.K),(.int .i64 r.T_.N),(.str r.T_.S),(.sl (List.map zA.toD r.T_.L)),(.int .i64 r.T_.From),(.int .i64 r.T_.To),(.int .i64 r.At),(.int .i64 r.E)])] []) (kL Tryz.f129 7) ⟨99,[(1,.d (.sl (List.map zA.toD locals))),(4,.ref 4 1 0),(6,.ref 6 1 0),(7,.ref 7 1 0),(8,.ref 8 1 0),(9,.hp 0 0),(10,(nI i))],[(4,1,some (.agg (tT m))),(6,1,some (.agg (tT ret))),(7,1,some (.agg (tT t))),(8,1,some (.agg (.agg [(.int .i64 o8.T_.K),(.int .i64 o8.T_.N),(.str o8.T_.S),(.sl (List.map zA.toD o8.T_.L)),(.int .i64 o8.T_.From),(.int .i64 o8.T_.To),(.int .i64 o8.At),(.int .i64 o8.E)])))],[(hM K N S (List.map zA.toD L) From To)],0⟩
 |.yX m locals ret t,r=>Trip Tryz.prog 192 [.d (tT m),.d (.sl (List.map zA.toD locals)),.d (tT ret),.d (tT t)] [] [.d (.agg [(.int .i64 r.T_.K),(.int .i64 r.T_.N),(.str r.T_.S),(.sl (List.map zA.toD r.T_.L)),(.int .i64 r.T_.From),(.int .i64 r.T_.To),(.int .i64 r.At),(.int .i64 r.E)])] []
 |.yV locals i m ret t o8 K N S L From To,r=>Ok (z9w (Trip Tryz.prog) [.d (.agg [(.int .i64 r.T_.K),(.int .i64 r.T_.N),(.str r.T_.S),(.sl (List.map zA.toD r.T_.L)),(.int .i64 r.T_.From),(.int .i64 r.T_.To),(.int .i64 r.At),(.int .i64 r.E)])] []) (kL Tryz.f192 3) ⟨55,[(1,.d (.sl (List.map zA.toD locals))),(4,.ref 4 1 0),(6,.ref 6 1 0),(7,.ref 7 1 0),(8,.ref 8 1 0),(9,.hp 0 0),(10,(nI i))],[(4,1,some (.agg (tT m))),(6,1,some (.agg (tT ret))),(7,1,some (.agg (tT t))),(8,1,some (.agg (.agg [(.int .i64 o8.T_.K),(.int .i64 o8.T_.N),(.str o8.T_.S),(.sl (List.map zA.toD o8.T_.L)),(.int .i64 o8.T_.From),(.int .i64 o8.T_.To),(.int .i64 o8.At),(.int .i64 o8.E)])))],[(hM K N S (List.map zA.toD L) From To)],0⟩
 |.jN m locals ret t i,r=>Trip Tryz.prog 193 [.d (tT m),.d (.sl (List.map zA.toD locals)),.d (tT ret),.d (tT t),(nI i)] [] [.d (.agg [(.int .i64 r.T_.K),(.int .i64 r.T_.N),(.str r.T_.S),(.sl (List.map zA.toD r.T_.L)),(.int .i64 r.T_.From),(.int .i64 r.T_.To),(.int .i64 r.At),(.int .i64 r.E)])] []
theorem y5i:∀i r,uO gA i=some r→y0W i r:=by
 refine zN z3V fun g ih i=>?_;cases i with
 |jB m locals ret t=>
  have w4o:=fun locals i m ret t o8 K N S L From To r h=>ih (.yN locals i m ret t o8 K N S L From To) r h;have w4f:=fun m locals ret t r h=>ih (.yX m locals ret t) r h;intro r h;replace h:z4s (fun locals i m ret t o8 K N S L From To=>g (uB.yN locals i m ret t o8 K N S L From To)) (fun m locals ret t=>g (uB.yX m locals ret t)) m locals ret t=some r:=h;unfold z4s at h;refine zG 1000 (v4K _ _ _ _ m locals ret t) ?_;obtain⟨q1,g,h⟩:=zC h;refine⟨_,⟨_,v1j _ _ g⟩,?_⟩
  refine zI Iff.rfl h (fun _ h=>?_) (fun _ h=>?_)
  ·rintro _ rfl;refine zD zq2 h (fun _ h=>?_) (fun _ h=>?_)
   ·obtain⟨q3,g,h⟩:=zC h;refine⟨_,_,_,_,_,_,_,_,⟨_,w4f _ _ _ _ _ g⟩,?_⟩;cases h;exact⟨rfl,rfl⟩
   exact w4o _ _ _ _ _ _ _ _ _ _ _ _ _ h
  obtain⟨q2,g,h⟩:=zC h;refine⟨_,_,_,_,_,_,_,_,⟨_,vW _ _ _ g⟩,?_⟩;cases h;exact⟨rfl,rfl⟩
 |yN locals i m ret t o8 K N S L From To=>
  have w4o:=fun locals i m ret t o8 K N S L From To r h=>ih (.yN locals i m ret t o8 K N S L From To) r h;have w4k:=fun m locals ret t i r h=>ih (.jN m locals ret t i) r h;intro r h;replace h:gQ (fun locals i m ret t o8 K N S L From To=>g (uB.yN locals i m ret t o8 K N S L From To)) (fun m locals ret t i=>g (uB.jN m locals ret t i)) locals i m ret t o8 K N S L From To=some r:=h;unfold gQ at h;refine jF 1000 (y7U _ _ _ _ locals i m ret t o8 K N S L From To) ?_
  refine zR (e':=(List.length t.L:Int)) (by first|rfl|rw[zq3]) ?_;rintro _ rfl;refine zD decide_eq_true_iff h (fun _ h=>?_) (fun _ h=>?_)
  ·obtain⟨q1,g,h⟩:=zC h;refine⟨_,_,_,_,_,_,_,_,⟨_,w4k _ _ _ _ _ _ g⟩,?_⟩;rintro _ rfl;refine zI zq2 h (fun _ h=>?_) (fun _ h=>?_)
   ·refine⟨by simp[zE,D.cells],?_⟩;refine⟨by first|rfl|decide|simp only[zq3,List.length_cons,List.length_nil,List.map_append,List.length_append],?_⟩;obtain⟨hP,h⟩:=wY h;refine⟨by first|exact hP|simpa using hP,?_⟩;refine zR (e':=List.map zA.toD (L++[q1.T_])) (by first|rfl|simp only[List.map_append,List.map_cons,List.map_nil,List.map_take,List.map_drop,List.map_set,List.map_replicate,zq3,zA.toD_eq]) ?_
    refine⟨by first|rfl|decide|simp only[zq3,List.length_cons,List.length_nil,List.map_append,List.length_append],?_⟩;rintro _ rfl;exact w4o _ _ _ _ _ _ _ _ _ _ _ _ _ h
   cases h;exact⟨rfl,rfl⟩
  rintro _ rfl;refine zD zq2 h (fun _ h=>?_) (fun _ h=>?_)
  ·obtain⟨x,hx,h⟩:=zC h;refine⟨zF (l:=t.L) (zA.sz),vO hx,x.K,x.N,x.S,List.map zA.toD x.L,x.From,x.To,zK (zA.toD_eq x) hx,?_⟩;obtain⟨q2,g,h⟩:=zC h;refine⟨_,_,_,_,_,_,⟨_,v3S _ _ g⟩,?_⟩;rintro _ rfl;refine zI zq2 h (fun _ h=>?_) (fun _ h=>?_)
   ·obtain⟨x4,hx,h⟩:=zC h;refine⟨zF (l:=t.L) (zA.sz),vO hx,x4.K,x4.N,x4.S,List.map zA.toD x4.L,x4.From,x4.To,zK (zA.toD_eq x4) hx,?_⟩;obtain⟨q8,g,h⟩:=zC h;refine⟨_,_,_,_,_,_,_,_,_,_,_,_,_,_,⟨_,z4P _ _ _ _ g⟩,?_⟩;obtain⟨x5,hx,h⟩:=zC h;refine⟨zF (l:=t.L) (zA.sz),vO hx,x5.K,x5.N,x5.S,List.map zA.toD x5.L,x5.From,x5.To,zK (zA.toD_eq x5) hx,?_⟩;obtain⟨q9,g,h⟩:=zC h;refine⟨_,_,_,_,_,_,_,_,_,_,_,_,_,_,⟨_,z4P _ _ _ _ g⟩,?_⟩;obtain⟨q10,g,h⟩:=zC h;refine⟨_,⟨_,z5S _ _ _ g⟩,?_⟩
    refine zI Iff.rfl h (fun _ h=>?_) (fun _ h=>?_)
    ·cases h;exact⟨rfl,rfl⟩
    obtain⟨q11,g,h⟩:=zC h;refine⟨_,_,_,_,_,_,_,_,⟨_,vW _ _ _ g⟩,?_⟩;cases h;exact⟨rfl,rfl⟩
   rintro _ rfl;refine zI zq2 h (fun _ h=>?_) (fun _ h=>?_)
   ·obtain⟨x2,hx,h⟩:=zC h;refine⟨zF (l:=t.L) (zA.sz),vO hx,x2.K,x2.N,x2.S,List.map zA.toD x2.L,x2.From,x2.To,zK (zA.toD_eq x2) hx,?_⟩;obtain⟨q4,g,h⟩:=zC h;refine⟨_,_,_,_,_,_,_,_,_,_,_,_,_,_,⟨_,z4P _ _ _ _ g⟩,?_⟩;obtain⟨x3,hx,h⟩:=zC h;refine⟨zF (l:=t.L) (zA.sz),vO hx,x3.K,x3.N,x3.S,List.map zA.toD x3.L,x3.From,x3.To,zK (zA.toD_eq x3) hx,?_⟩;obtain⟨q5,g,h⟩:=zC h;refine⟨_,_,_,_,_,_,_,_,_,_,_,_,_,_,⟨_,z4P _ _ _ _ g⟩,?_⟩;obtain⟨q6,g,h⟩:=zC h;refine⟨_,⟨_,z5S _ _ _ g⟩,?_⟩
    refine zI Iff.rfl h (fun _ h=>?_) (fun _ h=>?_)
    ·cases h;exact⟨rfl,rfl⟩
    obtain⟨q7,g,h⟩:=zC h;refine⟨_,_,_,_,_,_,_,_,⟨_,vW _ _ _ g⟩,?_⟩;cases h;exact⟨rfl,rfl⟩
   obtain⟨x1,hx,h⟩:=zC h;refine⟨zF (l:=t.L) (zA.sz),vO hx,x1.K,x1.N,x1.S,List.map zA.toD x1.L,x1.From,x1.To,zK (zA.toD_eq x1) hx,?_⟩;obtain⟨q3,g,h⟩:=zC h;refine⟨_,_,_,_,_,_,_,_,⟨_,vW _ _ _ g⟩,?_⟩;cases h;exact⟨rfl,rfl⟩
  cases h;exact⟨rfl,rfl⟩
 |yX m locals ret t=>
  have w4g:=fun locals i m ret t o8 K N S L From To r h=>ih (.yV locals i m ret t o8 K N S L From To) r h;intro r h;replace h:z3h (fun locals i m ret t o8 K N S L From To=>g (uB.yV locals i m ret t o8 K N S L From To)) m locals ret t=some r:=h;unfold z3h at h;refine zG 1000 (v2n _ _ _ _ m locals ret t) ?_;exact w4g _ _ _ _ _ _ _ _ _ _ _ _ _ h
 |yV locals i m ret t o8 K N S L From To=>
  have w4n:=fun m locals ret t r h=>ih (.jB m locals ret t) r h;have w4g:=fun locals i m ret t o8 K N S L From To r h=>ih (.yV locals i m ret t o8 K N S L From To) r h;intro r h;replace h:z0e (fun m locals ret t=>g (uB.jB m locals ret t)) (fun locals i m ret t o8 K N S L From To=>g (uB.yV locals i m ret t o8 K N S L From To)) locals i m ret t o8 K N S L From To=some r:=h;unfold z0e at h;refine jF 1000 (y6z _ _ _ _ locals i m ret t o8 K N S L From To) ?_
  refine zR (e':=(List.length t.L:Int)) (by first|rfl|rw[zq3]) ?_;rintro _ rfl;refine zD decide_eq_true_iff h (fun _ h=>?_) (fun _ h=>?_)
  ·obtain⟨x,hx,h⟩:=zC h;refine⟨zF (l:=t.L) (zA.sz),vO hx,x.K,x.N,x.S,List.map zA.toD x.L,x.From,x.To,zK (zA.toD_eq x) hx,?_⟩;obtain⟨q1,g,h⟩:=zC h;refine⟨_,_,_,_,_,_,_,_,⟨_,w4n _ _ _ _ _ g⟩,?_⟩;rintro _ rfl;refine zI zq2 h (fun _ h=>?_) (fun _ h=>?_)
   ·refine⟨by simp[zE,D.cells],?_⟩;refine⟨by first|rfl|decide|simp only[zq3,List.length_cons,List.length_nil,List.map_append,List.length_append],?_⟩;obtain⟨hP,h⟩:=wY h;refine⟨by first|exact hP|simpa using hP,?_⟩;refine zR (e':=List.map zA.toD (L++[q1.T_])) (by first|rfl|simp only[List.map_append,List.map_cons,List.map_nil,List.map_take,List.map_drop,List.map_set,List.map_replicate,zq3,zA.toD_eq]) ?_
    refine⟨by first|rfl|decide|simp only[zq3,List.length_cons,List.length_nil,List.map_append,List.length_append],?_⟩;obtain⟨x1,hx,h⟩:=zC h;refine⟨zF (l:=t.L) (zA.sz),vO hx,x1.K,x1.N,x1.S,List.map zA.toD x1.L,x1.From,x1.To,zK (zA.toD_eq x1) hx,?_⟩;obtain⟨q2,g,h⟩:=zC h;refine⟨_,⟨_,y9k _ _ _ _ g⟩,?_⟩;rintro _ rfl;exact w4g _ _ _ _ _ _ _ _ _ _ _ _ _ h
   cases h;exact⟨rfl,rfl⟩
  cases h;exact⟨rfl,rfl⟩
 |jN m locals ret t i=>
  have w4f:=fun m locals ret t r h=>ih (.yX m locals ret t) r h;intro r h;replace h:z4r (fun m locals ret t=>g (uB.yX m locals ret t)) m locals ret t i=some r:=h;unfold z4r at h;refine zG 1000 (v4J _ _ _ _ m locals ret t i) ?_;obtain⟨x,hx,h⟩:=zC h;refine⟨zF (l:=t.L) (zA.sz),vO hx,x.K,x.N,x.S,List.map zA.toD x.L,x.From,x.To,zK (zA.toD_eq x) hx,?_⟩;obtain⟨q1,g,h⟩:=zC h;refine⟨_,_,⟨_,y3O _ _ g⟩,?_⟩;rintro _ rfl;rintro _ rfl;refine zD decide_eq_true_iff h (fun _ h=>?_) (fun _ h=>?_)
  ·rintro _ rfl;refine zD zq2 h (fun _ h=>?_) (fun _ h=>?_)
   ·refine⟨zF (l:=locals) (zA.sz),?_⟩;refine⟨by first|rfl|decide|simp only[zq3,List.length_cons,List.length_nil,List.map_append,List.length_append],?_⟩;obtain⟨hP,h⟩:=wY h;refine⟨by first|exact hP|simpa using hP,?_⟩;refine zR (e':=List.map zA.toD (([]:List zA)++locals)) (by first|rfl|simp only[List.map_append,List.map_cons,List.map_nil,List.map_take,List.map_drop,List.map_set,List.map_replicate,zq3,zA.toD_eq]) ?_;refine⟨by simp[zE,D.cells],?_⟩
    refine⟨by first|rfl|decide|simp only[zq3,List.length_cons,List.length_nil,List.map_append,List.length_append],?_⟩;obtain⟨hP,h⟩:=wY h;refine⟨by first|exact hP|simpa using hP,?_⟩;refine zR (e':=List.map zA.toD ((([]:List zA)++locals)++[(zA.mk 1 0 [] [] 0 0)])) (by first|rfl|simp only[List.map_append,List.map_cons,List.map_nil,List.map_take,List.map_drop,List.map_set,List.map_replicate,zq3,zA.toD_eq]) ?_;obtain⟨q2,g,h⟩:=zC h;refine⟨_,_,_,_,_,_,_,_,⟨_,w4f _ _ _ _ _ g⟩,?_⟩;cases h;exact⟨rfl,rfl⟩
   obtain⟨q3,g,h⟩:=zC h;refine⟨_,_,_,_,_,_,_,_,⟨_,w4f _ _ _ _ _ g⟩,?_⟩;cases h;exact⟨rfl,rfl⟩
  rintro _ rfl;refine zD zq2 h (fun _ h=>?_) (fun _ h=>?_)
  ·obtain⟨q4,g,h⟩:=zC h;refine⟨_,⟨_,z0X _ _ _ g⟩,?_⟩;rintro _ rfl;refine zD zq2 h (fun _ h=>?_) (fun _ h=>?_)
   ·obtain⟨q5,g,h⟩:=zC h;refine⟨_,_,_,_,_,_,_,_,⟨_,vW _ _ _ g⟩,?_⟩;cases h;exact⟨rfl,rfl⟩
   obtain⟨q6,g,h⟩:=zC h;refine⟨_,_,_,_,_,_,⟨_,gW _ _ g⟩,?_⟩;cases h;exact⟨rfl,rfl⟩
  rintro _ rfl;refine zD zq2 h (fun _ h=>?_) (fun _ h=>?_)
  ·obtain⟨q7,g,h⟩:=zC h;refine⟨_,_,_,_,_,_,_,_,⟨_,z7G _ _ _ _ _ _ g⟩,?_⟩;cases h;exact⟨rfl,rfl⟩
  rintro _ rfl;refine zD zq2 h (fun _ h=>?_) (fun _ h=>?_)
  ·obtain⟨q8,g,h⟩:=zC h;refine⟨_,_,_,_,_,_,_,_,⟨_,z7G _ _ _ _ _ _ g⟩,?_⟩;cases h;exact⟨rfl,rfl⟩
  rintro _ rfl;refine zD zq2 h (fun _ h=>?_) (fun _ h=>?_)
  ·obtain⟨q9,g,h⟩:=zC h;refine⟨_,_,_,_,_,_,_,_,⟨_,z7G _ _ _ _ _ _ g⟩,?_⟩;cases h;exact⟨rfl,rfl⟩
  rintro _ rfl;refine zD zq2 h (fun _ h=>?_) (fun _ h=>?_)
  ·obtain⟨q10,g,h⟩:=zC h;refine⟨_,_,_,_,_,_,_,_,⟨_,z7G _ _ _ _ _ _ g⟩,?_⟩;cases h;exact⟨rfl,rfl⟩
  rintro _ rfl;refine zD zq2 h (fun hc306 h=>?_) (fun hc306 h=>?_)
  ·rintro _ rfl;refine zI zq2 h (fun _ h=>?_) (fun _ h=>?_)
   ·obtain⟨q12,g,h⟩:=zC h;refine⟨_,_,_,_,_,_,_,_,_,_,_,_,_,_,⟨_,z4P _ _ _ _ g⟩,?_⟩;rintro _ rfl;refine jM zq2 (fun e=>absurd (hc306.symm.trans e) (by decide)) ?_;obtain⟨q18,g,h⟩:=zC h;refine⟨_,_,_,_,_,_,_,_,⟨_,z2K _ _ g⟩,?_⟩;cases h;exact⟨rfl,rfl⟩
   obtain⟨q11,g,h⟩:=zC h;refine⟨_,_,_,_,_,_,_,_,⟨_,vW _ _ _ g⟩,?_⟩;cases h;exact⟨rfl,rfl⟩
  obtain⟨q19,g,h⟩:=zC h;refine⟨_,_,_,_,_,_,_,_,_,_,_,_,_,_,⟨_,z4P _ _ _ _ g⟩,?_⟩;rintro _ rfl;refine zD zq2 h (fun _ h=>?_) (fun _ h=>?_)
  ·rintro _ rfl;refine zD zq2 h (fun _ h=>?_) (fun _ h=>?_)
   ·obtain⟨q20,g,h⟩:=zC h;refine⟨_,_,_,_,_,_,⟨_,z4e _ _ g⟩,?_⟩;obtain⟨q21,g,h⟩:=zC h;refine⟨_,⟨_,z5S _ _ _ g⟩,?_⟩;refine zI Iff.rfl h (fun _ h=>?_) (fun _ h=>?_)
    ·obtain⟨q23,g,h⟩:=zC h;refine⟨_,_,_,_,_,_,_,_,⟨_,z2K _ _ g⟩,?_⟩;cases h;exact⟨rfl,rfl⟩
    obtain⟨q22,g,h⟩:=zC h;refine⟨_,_,_,_,_,_,_,_,⟨_,vW _ _ _ g⟩,?_⟩;cases h;exact⟨rfl,rfl⟩
   obtain⟨q24,g,h⟩:=zC h;refine⟨_,_,_,_,_,_,_,_,⟨_,z2K _ _ g⟩,?_⟩;cases h;exact⟨rfl,rfl⟩
  obtain⟨q25,g,h⟩:=zC h;refine⟨_,_,_,_,_,_,_,_,⟨_,z2K _ _ g⟩,?_⟩;cases h;exact⟨rfl,rfl⟩
theorem v3V(m:zA)(locals:List zA)(ret t:zA)(r:Ref16Got)(h:jB m locals ret t=some r):y0W (.jB m locals ret t) r:=y5i (.jB m locals ret t) r h
theorem v1h(m:zA)(locals:List zA)(ret t:zA)(r:Ref16Got)(h:yX m locals ret t=some r):y0W (.yX m locals ret t) r:=y5i (.yX m locals ret t) r h
def z8X:(i:z3y)→z5N i→Prop
 |.vG out i f,r=>Ok (z9z (Trip Tryz.prog) [.own 6 (List.map zA.toD r)] []) (kL Tryz.f234 3) ⟨31,[(1,.ref 1 1 0),(3,.right 5 1 6 (List.map zA.toD out)),(4,(nI i))],[(1,1,some (.agg (tT f))),(5,1,some (.tok 6 (List.length (List.map zA.toD out))))],[],0⟩
theorem y5j:∀i r,uO z3r i=some r→z8X i r:=by
 refine zN z8O fun g ih i=>?_;cases i with
 |vG out i f=>
  have w4p:=fun out i f r h=>ih (.vG out i f) r h;intro r h;replace h:z0g (fun out i f=>g (z3y.vG out i f)) out i f=some r:=h;unfold z0g at h;refine jF 1000 (y6B _ _ _ _ out i f) ?_;obtain⟨x,hx,h⟩:=zC h;refine⟨zF (l:=f.L) (zA.sz),vO hx,x.K,x.N,x.S,List.map zA.toD x.L,x.From,x.To,zK (zA.toD_eq x) hx,?_⟩;refine zR (e':=(List.length x.L:Int)) (by first|rfl|rw[zq3]) ?_;rintro _ rfl;refine zD decide_eq_true_iff h (fun _ h=>?_) (fun _ h=>?_)
  ·obtain⟨x1,hx,h⟩:=zC h;refine⟨zF (l:=f.L) (zA.sz),vO hx,x1.K,x1.N,x1.S,List.map zA.toD x1.L,x1.From,x1.To,zK (zA.toD_eq x1) hx,?_⟩;obtain⟨x2,hx,h⟩:=zC h;refine⟨zF (l:=x1.L) (zA.sz),vO hx,x2.K,x2.N,x2.S,List.map zA.toD x2.L,x2.From,x2.To,zK (zA.toD_eq x2) hx,?_⟩;obtain⟨x3,hx,h⟩:=zC h;refine⟨zF (l:=x2.L) (zA.sz),vO hx,x3.K,x3.N,x3.S,List.map zA.toD x3.L,x3.From,x3.To,zK (zA.toD_eq x3) hx,?_⟩;refine⟨by simp[zE,D.cells],?_⟩
   refine⟨by first|rfl|decide|simp only[zq3,List.length_cons,List.length_nil,List.map_append,List.length_append],?_⟩;obtain⟨hP,h⟩:=wY h;refine⟨by first|exact hP|simpa using hP,?_⟩;refine zR (e':=List.map zA.toD (out++[x3])) (by first|rfl|simp only[List.map_append,List.map_cons,List.map_nil,List.map_take,List.map_drop,List.map_set,List.map_replicate,zq3,zA.toD_eq]) ?_;rintro _ rfl;exact w4p _ _ _ _ h
  refine⟨by first|rfl|decide|simp only[zq3,List.length_cons,List.length_nil,List.map_append,List.length_append],?_⟩;cases h;exact⟨rfl,rfl⟩
theorem y5G(out:List zA)(i:Int)(f:zA)(r:List zA)(h:vG out i f=some r):z8X (.vG out i f) r:=y5j (.vG out i f) r h
theorem z9n(f:zA)(r:List zA)(h:z3i f=some r):Trip Tryz.prog 234 [.d (tT f)] [] [.own 6 (List.map zA.toD r)] []:=by
 unfold z3i at h;refine zG 1000 (v2s _ _ _ _ f) ?_;exact y5G _ _ _ _ h
def y1K:(i:z5u)→z7C i→Prop
 |.wM all i m t o4,r=>Ok (z9x (Trip Tryz.prog) [.d (.agg [(.int .i64 r.T_.K),(.int .i64 r.T_.N),(.str r.T_.S),(.sl (List.map zA.toD r.T_.L)),(.int .i64 r.T_.From),(.int .i64 r.T_.To),(.int .i64 r.At),(.int .i64 r.E)])] []) (kL Tryz.f178 10) ⟨125,[(2,.ref 2 1 0),(3,.ref 3 1 0),(4,.ref 4 1 0),(5,.right 52 1 6 (List.map zA.toD all)),(7,(nI i))],[(2,1,some (.agg (tT m))),(3,1,some (.agg (tT t))),(4,1,some (.agg (.agg [(.int .i64 o4.T_.K),(.int .i64 o4.T_.N),(.str o4.T_.S),(.sl (List.map zA.toD o4.T_.L)),(.int .i64 o4.T_.From),(.int .i64 o4.T_.To),(.int .i64 o4.At),(.int .i64 o4.E)]))),(52,1,some (.tok 6 (List.length (List.map zA.toD all))))],[],0⟩
theorem y9c:∀i r,uO z5q i=some r→y1K i r:=by
 refine zN y1E fun g ih i=>?_;cases i with
 |wM all i m t o4=>
  have w4h:=fun all i m t o4 r h=>ih (.wM all i m t o4) r h;intro r h;replace h:z1o (fun all i m t o4=>g (z5u.wM all i m t o4)) all i m t o4=some r:=h;unfold z1o at h;refine jF 1000 (y9P _ _ _ _ all i m t o4) ?_;refine zR (e':=(List.length all:Int)) (by first|rfl|rw[zq3]) ?_;rintro _ rfl;refine zD decide_eq_true_iff h (fun _ h=>?_) (fun _ h=>?_)
  ·rintro _ rfl;refine zD zq2 h (fun _ h=>?_) (fun _ h=>?_)
   ·obtain⟨x,hx,h⟩:=zC h;refine⟨zF (l:=all) (zA.sz),vO hx,x.K,x.N,x.S,List.map zA.toD x.L,x.From,x.To,zK (zA.toD_eq x) hx,?_⟩;obtain⟨q1,g,h⟩:=zC h;refine⟨_,⟨_,v1d _ _ _ g⟩,?_⟩;refine zI Iff.rfl h (fun _ h=>?_) (fun _ h=>?_)
    ·rintro _ rfl;exact w4h _ _ _ _ _ _ h
    obtain⟨x1,hx,h⟩:=zC h;refine⟨zF (l:=all) (zA.sz),vO hx,x1.K,x1.N,x1.S,List.map zA.toD x1.L,x1.From,x1.To,zK (zA.toD_eq x1) hx,?_⟩;obtain⟨q2,g,h⟩:=zC h;refine⟨_,_,_,_,_,_,_,_,⟨_,vW _ _ _ g⟩,?_⟩;cases h;exact⟨rfl,rfl⟩
   rintro _ rfl;exact w4h _ _ _ _ _ _ h
  obtain⟨q3,g,h⟩:=zC h;refine⟨_,⟨_,z9n _ _ g⟩,?_⟩;obtain⟨x2,hx,h⟩:=zC h;refine⟨zF (l:=t.L) (zA.sz),vO hx,x2.K,x2.N,x2.S,List.map zA.toD x2.L,x2.From,x2.To,zK (zA.toD_eq x2) hx,?_⟩;obtain⟨x3,hx,h⟩:=zC h;refine⟨zF (l:=t.L) (zA.sz),vO hx,x3.K,x3.N,x3.S,List.map zA.toD x3.L,x3.From,x3.To,zK (zA.toD_eq x3) hx,?_⟩;obtain⟨q4,g,h⟩:=zC h;refine⟨_,_,_,_,_,_,_,_,⟨_,v1h _ _ _ _ _ g⟩,?_⟩;rintro _ rfl;refine zI zq2 h (fun _ h=>?_) (fun _ h=>?_)
  ·obtain⟨q5,g,h⟩:=zC h;refine⟨_,_,_,_,_,_,⟨_,y2W _ _ g⟩,?_⟩;obtain⟨hP,h⟩:=wY h;refine⟨hP.1,by first|exact hP.2|(simp only[zq3]at hP ⊢;exact hP.2),?_⟩;obtain⟨hP,h⟩:=wY h;refine⟨by first|exact hP|(rw[zq3];exact hP),?_⟩;refine zR (e':=List.map zA.toD (q5.L.set (Int.toNat 2) q4.T_)) (w1h (zA.toD_eq q4.T_)) ?_;cases h;exact⟨rfl,rfl⟩
  cases h;exact⟨rfl,rfl⟩
theorem y9l(all:List zA)(i:Int)(m t:zA)(o4 r:Ref16Got)(h:wM all i m t o4=some r):y1K (.wM all i m t o4) r:=y9c (.wM all i m t o4) r h
def y3J:(i:z6r)→z9f i→Prop
 |.wV all i m t o4,r=>Ok (z9x (Trip Tryz.prog) [.d (.agg [(.int .i64 r.T_.K),(.int .i64 r.T_.N),(.str r.T_.S),(.sl (List.map zA.toD r.T_.L)),(.int .i64 r.T_.From),(.int .i64 r.T_.To),(.int .i64 r.At),(.int .i64 r.E)])] []) (kL Tryz.f178 5) ⟨125,[(2,.ref 2 1 0),(3,.ref 3 1 0),(4,.ref 4 1 0),(5,.right 52 1 6 (List.map zA.toD all)),(6,(nI i))],[(2,1,some (.agg (tT m))),(3,1,some (.agg (tT t))),(4,1,some (.agg (.agg [(.int .i64 o4.T_.K),(.int .i64 o4.T_.N),(.str o4.T_.S),(.sl (List.map zA.toD o4.T_.L)),(.int .i64 o4.T_.From),(.int .i64 o4.T_.To),(.int .i64 o4.At),(.int .i64 o4.E)]))),(52,1,some (.tok 6 (List.length (List.map zA.toD all))))],[],0⟩
theorem v0X:∀i r,uO z6q i=some r→y3J i r:=by
 refine zN y3F fun g ih i=>?_;cases i with
 |wV all i m t o4=>
  have w4i:=fun all i m t o4 r h=>ih (.wV all i m t o4) r h;intro r h;replace h:z1V (fun all i m t o4=>g (z6r.wV all i m t o4)) all i m t o4=some r:=h;unfold z1V at h;refine jF 1000 (v2o _ _ _ _ all i m t o4) ?_;refine zR (e':=(List.length all:Int)) (by first|rfl|rw[zq3]) ?_;rintro _ rfl;refine zD decide_eq_true_iff h (fun _ h=>?_) (fun _ h=>?_)
  ·obtain⟨x,hx,h⟩:=zC h;refine⟨zF (l:=all) (zA.sz),vO hx,x.K,x.N,x.S,List.map zA.toD x.L,x.From,x.To,zK (zA.toD_eq x) hx,?_⟩;obtain⟨q1,g,h⟩:=zC h;refine⟨_,⟨_,z0X _ _ _ g⟩,?_⟩;rintro _ rfl;refine zD zq2 h (fun _ h=>?_) (fun _ h=>?_)
   ·obtain⟨x1,hx,h⟩:=zC h;refine⟨zF (l:=all) (zA.sz),vO hx,x1.K,x1.N,x1.S,List.map zA.toD x1.L,x1.From,x1.To,zK (zA.toD_eq x1) hx,?_⟩;obtain⟨q2,g,h⟩:=zC h;refine⟨_,_,_,_,_,_,_,_,⟨_,vW _ _ _ g⟩,?_⟩;cases h;exact⟨rfl,rfl⟩
   rintro _ rfl;exact w4i _ _ _ _ _ _ h
  exact y9l _ _ _ _ _ _ h
theorem y3N(all:List zA)(i:Int)(m t:zA)(o4 r:Ref16Got)(h:wV all i m t o4=some r):y3J (.wV all i m t o4) r:=v0X (.wV all i m t o4) r h
def z8t:(i:z2G)→z5f i→Prop
 |.yR l i,r=>Ok (z7N (Trip Tryz.prog) [(nB r)] []) (kL Tryz.f233 2) ⟨25,[(0,.d (.sl (List.map zA.toD l))),(3,(nI i))],[],[],0⟩
theorem y4k:∀i r,uO z2z i=some r→z8t i r:=by
 refine zN z8l fun g ih i=>?_;cases i with
 |yR l i=>
  have w4l:=fun l i r h=>ih (.yR l i) r h;intro r h;replace h:gF (fun l i=>g (z2G.yR l i)) l i=some r:=h;unfold gF at h;refine jF 1000 (y4L _ _ _ _ l i) ?_;refine zR (e':=(List.length l:Int)) (by first|rfl|rw[zq3]) ?_;rintro _ rfl;refine zD decide_eq_true_iff h (fun _ h=>?_) (fun _ h=>?_)
  ·obtain⟨x,hx,h⟩:=zC h;refine⟨zF (l:=l) (zA.sz),vO hx,x.K,x.N,x.S,List.map zA.toD x.L,x.From,x.To,zK (zA.toD_eq x) hx,?_⟩;rintro _ rfl;refine zI zq2 h (fun _ h=>?_) (fun _ h=>?_)
   ·obtain⟨x1,hx,h⟩:=zC h;refine⟨zF (l:=l) (zA.sz),vO hx,x1.K,x1.N,x1.S,List.map zA.toD x1.L,x1.From,x1.To,zK (zA.toD_eq x1) hx,?_⟩;refine zR (e':=(List.length x1.L:Int)) (by first|rfl|rw[zq3]) ?_;rintro _ rfl;refine zI zq2 h (fun _ h=>?_) (fun _ h=>?_)
    ·rintro _ rfl;exact w4l _ _ _ h
    cases h;exact⟨rfl,rfl⟩
   cases h;exact⟨rfl,rfl⟩
  cases h;exact⟨rfl,rfl⟩
theorem y4v(l:List zA)(i:Int)(r:Bool)(h:yR l i=some r):z8t (.yR l i) r:=y4k (.yR l i) r h
theorem y1R(l:List zA)(r:Bool)(h:z2O l=some r):Trip Tryz.prog 233 [.d (.sl (List.map zA.toD l))] [] [(nB r)] []:=by
 unfold z2O at h;refine zG 1000 (y9R _ _ _ _ l) ?_;exact y4v _ _ _ h
theorem v8e(m t:zA)(r:Ref16Got)(h:y7j m t=some r):Trip Tryz.prog 178 [.d (tT m),.d (tT t)] [] [.d (.agg [(.int .i64 r.T_.K),(.int .i64 r.T_.N),(.str r.T_.S),(.sl (List.map zA.toD r.T_.L)),(.int .i64 r.T_.From),(.int .i64 r.T_.To),(.int .i64 r.At),(.int .i64 r.E)])] []:=by
 unfold y7j at h;refine zG 1000 (v8r _ _ _ _ m t) ?_;rintro _ rfl;refine zI zq2 h (fun _ h=>?_) (fun _ h=>?_)
 ·refine zR (e':=(List.length t.L:Int)) (by first|rfl|rw[zq3]) ?_;rintro _ rfl;refine zI zq2 h (fun _ h=>?_) (fun _ h=>?_)
  ·obtain⟨x4,hx,h⟩:=zC h;refine⟨zF (l:=t.L) (zA.sz),vO hx,x4.K,x4.N,x4.S,List.map zA.toD x4.L,x4.From,x4.To,zK (zA.toD_eq x4) hx,?_⟩;rintro _ rfl;refine zI zq2 h (fun _ h=>?_) (fun _ h=>?_)
   ·obtain⟨x5,hx,h⟩:=zC h;refine⟨zF (l:=t.L) (zA.sz),vO hx,x5.K,x5.N,x5.S,List.map zA.toD x5.L,x5.From,x5.To,zK (zA.toD_eq x5) hx,?_⟩;obtain⟨q10,g,h⟩:=zC h;refine⟨_,⟨_,y1R _ _ g⟩,?_⟩;refine zI Iff.rfl h (fun _ h=>?_) (fun _ h=>?_)
    ·obtain⟨x6,hx,h⟩:=zC h;refine⟨zF (l:=t.L) (zA.sz),vO hx,x6.K,x6.N,x6.S,List.map zA.toD x6.L,x6.From,x6.To,zK (zA.toD_eq x6) hx,?_⟩;rintro _ rfl;refine zI zq2 h (fun _ h=>?_) (fun _ h=>?_)
     ·obtain⟨q13,g,h⟩:=zC h;refine⟨_,⟨_,z9n _ _ g⟩,?_⟩;obtain⟨x7,hx,h⟩:=zC h;refine⟨zF (l:=t.L) (zA.sz),vO hx,x7.K,x7.N,x7.S,List.map zA.toD x7.L,x7.From,x7.To,zK (zA.toD_eq x7) hx,?_⟩;refine⟨by simp[zE,D.cells],?_⟩;refine⟨by first|rfl|decide|simp only[zq3,List.length_cons,List.length_nil,List.map_append,List.length_append],?_⟩;obtain⟨hP,h⟩:=wY h;refine⟨by first|exact hP|simpa using hP,?_⟩
      refine zR (e':=List.map zA.toD (q13++[x7])) (by first|rfl|simp only[List.map_append,List.map_cons,List.map_nil,List.map_take,List.map_drop,List.map_set,List.map_replicate,zq3,zA.toD_eq]) ?_;exact y3N _ _ _ _ _ _ h
     obtain⟨q12,g,h⟩:=zC h;refine⟨_,_,_,_,_,_,_,_,⟨_,vW _ _ _ g⟩,?_⟩;cases h;exact⟨rfl,rfl⟩
    obtain⟨q11,g,h⟩:=zC h;refine⟨_,_,_,_,_,_,_,_,⟨_,vW _ _ _ g⟩,?_⟩;cases h;exact⟨rfl,rfl⟩
   obtain⟨q9,g,h⟩:=zC h;refine⟨_,_,_,_,_,_,_,_,⟨_,vW _ _ _ g⟩,?_⟩;cases h;exact⟨rfl,rfl⟩
  obtain⟨q8,g,h⟩:=zC h;refine⟨_,_,_,_,_,_,_,_,⟨_,vW _ _ _ g⟩,?_⟩;cases h;exact⟨rfl,rfl⟩
 rintro _ rfl;refine zI zq2 h (fun _ h=>?_) (fun _ h=>?_)
 ·refine zR (e':=(List.length t.L:Int)) (by first|rfl|rw[zq3]) ?_;rintro _ rfl;refine zI zq2 h (fun _ h=>?_) (fun _ h=>?_)
  ·obtain⟨x,hx,h⟩:=zC h;refine⟨zF (l:=t.L) (zA.sz),vO hx,x.K,x.N,x.S,List.map zA.toD x.L,x.From,x.To,zK (zA.toD_eq x) hx,?_⟩;rintro _ rfl;refine zI zq2 h (fun _ h=>?_) (fun _ h=>?_)
   ·obtain⟨x1,hx,h⟩:=zC h;refine⟨zF (l:=t.L) (zA.sz),vO hx,x1.K,x1.N,x1.S,List.map zA.toD x1.L,x1.From,x1.To,zK (zA.toD_eq x1) hx,?_⟩;obtain⟨q4,g,h⟩:=zC h;refine⟨_,⟨_,y1R _ _ g⟩,?_⟩;refine zI Iff.rfl h (fun _ h=>?_) (fun _ h=>?_)
    ·obtain⟨x2,hx,h⟩:=zC h;refine⟨zF (l:=t.L) (zA.sz),vO hx,x2.K,x2.N,x2.S,List.map zA.toD x2.L,x2.From,x2.To,zK (zA.toD_eq x2) hx,?_⟩;rintro _ rfl;refine zI zq2 h (fun _ h=>?_) (fun _ h=>?_)
     ·obtain⟨q7,g,h⟩:=zC h;refine⟨_,⟨_,z9n _ _ g⟩,?_⟩;obtain⟨x3,hx,h⟩:=zC h;refine⟨zF (l:=t.L) (zA.sz),vO hx,x3.K,x3.N,x3.S,List.map zA.toD x3.L,x3.From,x3.To,zK (zA.toD_eq x3) hx,?_⟩;refine⟨by simp[zE,D.cells],?_⟩;refine⟨by first|rfl|decide|simp only[zq3,List.length_cons,List.length_nil,List.map_append,List.length_append],?_⟩;obtain⟨hP,h⟩:=wY h;refine⟨by first|exact hP|simpa using hP,?_⟩
      refine zR (e':=List.map zA.toD (q7++[x3])) (by first|rfl|simp only[List.map_append,List.map_cons,List.map_nil,List.map_take,List.map_drop,List.map_set,List.map_replicate,zq3,zA.toD_eq]) ?_;exact y3N _ _ _ _ _ _ h
     obtain⟨q6,g,h⟩:=zC h;refine⟨_,_,_,_,_,_,_,_,⟨_,vW _ _ _ g⟩,?_⟩;cases h;exact⟨rfl,rfl⟩
    obtain⟨q5,g,h⟩:=zC h;refine⟨_,_,_,_,_,_,_,_,⟨_,vW _ _ _ g⟩,?_⟩;cases h;exact⟨rfl,rfl⟩
   obtain⟨q3,g,h⟩:=zC h;refine⟨_,_,_,_,_,_,_,_,⟨_,vW _ _ _ g⟩,?_⟩;cases h;exact⟨rfl,rfl⟩
  obtain⟨q2,g,h⟩:=zC h;refine⟨_,_,_,_,_,_,_,_,⟨_,vW _ _ _ g⟩,?_⟩;cases h;exact⟨rfl,rfl⟩
 obtain⟨q1,g,h⟩:=zC h;refine⟨_,_,_,_,_,_,_,_,⟨_,vW _ _ _ g⟩,?_⟩;cases h;exact⟨rfl,rfl⟩
theorem v3U(m:zA)(i:Int)(r:Ref16Got)(h:z9Y m i=some r):Trip Tryz.prog 117 [.d (tT m),(nI i)] [] [.d (.agg [(.int .i64 r.T_.K),(.int .i64 r.T_.N),(.str r.T_.S),(.sl (List.map zA.toD r.T_.L)),(.int .i64 r.T_.From),(.int .i64 r.T_.To),(.int .i64 r.At),(.int .i64 r.E)])] []:=by
 unfold z9Y at h;refine zG 1000 (v4G _ _ _ _ m i) ?_;obtain⟨x,hx,h⟩:=zC h;refine⟨zF (l:=m.L) (zA.sz),vO hx,x.K,x.N,x.S,List.map zA.toD x.L,x.From,x.To,zK (zA.toD_eq x) hx,?_⟩;rintro _ rfl;refine zD zq2 h (fun _ h=>?_) (fun _ h=>?_)
 ·obtain⟨q1,g,h⟩:=zC h;refine⟨_,_,_,_,_,_,_,_,⟨_,v8e _ _ _ g⟩,?_⟩;cases h;exact⟨rfl,rfl⟩
 rintro _ rfl;refine zD zq2 h (fun _ h=>?_) (fun _ h=>?_)
 ·obtain⟨q2,g,h⟩:=zC h;refine⟨_,⟨_,z7F _ _ g⟩,?_⟩;refine zI Iff.rfl h (fun _ h=>?_) (fun _ h=>?_)
  ·obtain⟨q4,g,h⟩:=zC h;refine⟨_,⟨_,z0X _ _ _ g⟩,?_⟩;rintro _ rfl;refine zD zq2 h (fun _ h=>?_) (fun _ h=>?_)
   ·obtain⟨q5,g,h⟩:=zC h;refine⟨_,_,_,_,_,_,_,_,⟨_,vW _ _ _ g⟩,?_⟩;cases h;exact⟨rfl,rfl⟩
   obtain⟨q6,g,h⟩:=zC h;refine⟨_,_,_,_,_,_,⟨_,gW _ _ g⟩,?_⟩;cases h;exact⟨rfl,rfl⟩
  obtain⟨q3,g,h⟩:=zC h;refine⟨_,_,_,_,_,_,_,_,⟨_,vW _ _ _ g⟩,?_⟩;cases h;exact⟨rfl,rfl⟩
 rintro _ rfl;refine zD zq2 h (fun hc335 h=>?_) (fun hc335 h=>?_)
 ·refine zR (e':=(List.length x.L:Int)) (by first|rfl|rw[zq3]) ?_;rintro _ rfl;refine zD zq2 h (fun _ h=>?_) (fun _ h=>?_)
  ·obtain⟨x1,hx,h⟩:=zC h;refine⟨zF (l:=x.L) (zA.sz),vO hx,x1.K,x1.N,x1.S,List.map zA.toD x1.L,x1.From,x1.To,zK (zA.toD_eq x1) hx,?_⟩;obtain⟨q7,g,h⟩:=zC h;refine⟨_,⟨_,z0X _ _ _ g⟩,?_⟩;rintro _ rfl;refine zD zq2 h (fun _ h=>?_) (fun _ h=>?_)
   ·obtain⟨x2,hx,h⟩:=zC h;refine⟨zF (l:=x.L) (zA.sz),vO hx,x2.K,x2.N,x2.S,List.map zA.toD x2.L,x2.From,x2.To,zK (zA.toD_eq x2) hx,?_⟩;obtain⟨q8,g,h⟩:=zC h;refine⟨_,_,_,_,_,_,_,_,⟨_,vW _ _ _ g⟩,?_⟩;cases h;exact⟨rfl,rfl⟩
   obtain⟨q9,g,h⟩:=zC h;refine⟨_,_,_,_,_,_,⟨_,gW _ _ g⟩,?_⟩;cases h;exact⟨rfl,rfl⟩
  rintro _ rfl;refine z8g zq2 (fun e=>absurd (hc335.symm.trans e) (by decide)) ?_;obtain⟨q10,g,h⟩:=zC h;refine⟨_,_,_,_,_,_,_,_,⟨_,vW _ _ _ g⟩,?_⟩;cases h;exact⟨rfl,rfl⟩
 rintro _ rfl;refine zI zq2 h (fun _ h=>?_) (fun _ h=>?_)
 ·refine zR (e':=(List.length x.L:Int)) (by first|rfl|rw[zq3]) ?_;rintro _ rfl;refine zI zq2 h (fun _ h=>?_) (fun _ h=>?_)
  ·obtain⟨x8,hx,h⟩:=zC h;refine⟨zF (l:=x.L) (zA.sz),vO hx,x8.K,x8.N,x8.S,List.map zA.toD x8.L,x8.From,x8.To,zK (zA.toD_eq x8) hx,?_⟩;refine zR (e':=(List.length x8.L:Int)) (by first|rfl|rw[zq3]) ?_;rintro _ rfl;refine zD decide_eq_true_iff h (fun _ h=>?_) (fun _ h=>?_)
   ·obtain⟨q21,g,h⟩:=zC h;refine⟨_,_,_,_,_,_,_,_,⟨_,vW _ _ _ g⟩,?_⟩;cases h;exact⟨rfl,rfl⟩
   obtain⟨x9,hx,h⟩:=zC h;refine⟨zF (l:=x.L) (zA.sz),vO hx,x9.K,x9.N,x9.S,List.map zA.toD x9.L,x9.From,x9.To,zK (zA.toD_eq x9) hx,?_⟩;obtain⟨q22,g,h⟩:=zC h;refine⟨_,_,_,_,_,_,⟨_,z4E _ _ g⟩,?_⟩;rintro _ rfl;refine zD zq2 h (fun _ h=>?_) (fun _ h=>?_)
   ·obtain⟨q23,g,h⟩:=zC h;refine⟨_,_,_,_,_,_,_,_,⟨_,vW _ _ _ g⟩,?_⟩;cases h;exact⟨rfl,rfl⟩
   obtain⟨x10,hx,h⟩:=zC h;refine⟨zF (l:=x.L) (zA.sz),vO hx,x10.K,x10.N,x10.S,List.map zA.toD x10.L,x10.From,x10.To,zK (zA.toD_eq x10) hx,?_⟩;rintro _ rfl;refine zD zq2 h (fun _ h=>?_) (fun _ h=>?_)
   ·obtain⟨x11,hx,h⟩:=zC h;refine⟨zF (l:=x.L) (zA.sz),vO hx,x11.K,x11.N,x11.S,List.map zA.toD x11.L,x11.From,x11.To,zK (zA.toD_eq x11) hx,?_⟩;rintro _ rfl;refine zI zq2 h (fun _ h=>?_) (fun _ h=>?_)
    ·obtain⟨q26,g,h⟩:=zC h;refine⟨_,_,_,_,_,_,⟨_,gW _ _ g⟩,?_⟩;cases h;exact⟨rfl,rfl⟩
    obtain⟨x12,hx,h⟩:=zC h;refine⟨zF (l:=x.L) (zA.sz),vO hx,x12.K,x12.N,x12.S,List.map zA.toD x12.L,x12.From,x12.To,zK (zA.toD_eq x12) hx,?_⟩;rintro _ rfl;refine zI zq2 h (fun _ h=>?_) (fun _ h=>?_)
    ·obtain⟨q25,g,h⟩:=zC h;refine⟨_,_,_,_,_,_,⟨_,gW _ _ g⟩,?_⟩;cases h;exact⟨rfl,rfl⟩
    obtain⟨q24,g,h⟩:=zC h;refine⟨_,_,_,_,_,_,_,_,⟨_,vW _ _ _ g⟩,?_⟩;cases h;exact⟨rfl,rfl⟩
   obtain⟨q27,g,h⟩:=zC h;refine⟨_,_,_,_,_,_,⟨_,gW _ _ g⟩,?_⟩;cases h;exact⟨rfl,rfl⟩
  obtain⟨q20,g,h⟩:=zC h;refine⟨_,_,_,_,_,_,_,_,⟨_,vW _ _ _ g⟩,?_⟩;cases h;exact⟨rfl,rfl⟩
 obtain⟨q19,g,h⟩:=zC h;refine⟨_,_,_,_,_,_,_,_,⟨_,vW _ _ _ g⟩,?_⟩;cases h;exact⟨rfl,rfl⟩
def z8s:(i:z2F)→z5e i→Prop
 |.yK i m o2 K N S L From To,r=>Ok (z7M (Trip Tryz.prog) [.d (tT r.1),(nI r.2.1),(nI r.2.2)] []) (kL Tryz.f59 5) ⟨46,[(1,.ref 1 1 0),(2,.ref 2 1 0),(5,.hp 0 0),(6,(nI i))],[(1,1,some (.agg (tT m))),(2,1,some (.agg (tT o2)))],[(hM K N S (List.map zA.toD L) From To)],0⟩
theorem y4j:∀i r,uO z2y i=some r→z8s i r:=by
 refine zN z8k fun g ih i=>?_;cases i with
 |yK i m o2 K N S L From To=>
  have w4j:=fun i m o2 K N S L From To r h=>ih (.yK i m o2 K N S L From To) r h;intro r h;replace h:gE (fun i m o2 K N S L From To=>g (z2F.yK i m o2 K N S L From To)) i m o2 K N S L From To=some r:=h;unfold gE at h;refine jF 1000 (y4K _ _ _ _ i m o2 K N S L From To) ?_;refine zR (e':=(List.length m.L:Int)) (by first|rfl|rw[zq3]) ?_;rintro _ rfl;refine zD decide_eq_true_iff h (fun _ h=>?_) (fun _ h=>?_)
  ·obtain⟨q1,g,h⟩:=zC h;refine⟨_,_,_,_,_,_,_,_,⟨_,v3U _ _ _ g⟩,?_⟩;rintro _ rfl;refine zI zq2 h (fun _ h=>?_) (fun _ h=>?_)
   ·refine⟨by simp[zE,D.cells],?_⟩;refine⟨by first|rfl|decide|simp only[zq3,List.length_cons,List.length_nil,List.map_append,List.length_append],?_⟩;obtain⟨hP,h⟩:=wY h;refine⟨by first|exact hP|simpa using hP,?_⟩;refine zR (e':=List.map zA.toD (L++[q1.T_])) (by first|rfl|simp only[List.map_append,List.map_cons,List.map_nil,List.map_take,List.map_drop,List.map_set,List.map_replicate,zq3,zA.toD_eq]) ?_
    refine⟨by first|rfl|decide|simp only[zq3,List.length_cons,List.length_nil,List.map_append,List.length_append],?_⟩;rintro _ rfl;exact w4j _ _ _ _ _ _ _ _ _ _ h
   cases h;exact⟨rfl,rfl⟩
  cases h;exact⟨rfl,rfl⟩
theorem y4u(i:Int)(m o2:zA)(K N:Int)(S:Str)(L:List zA)(From To:Int)(r:zA×Int×Int)(h:yK i m o2 K N S L From To=some r):z8s (.yK i m o2 K N S L From To) r:=y4j (.yK i m o2 K N S L From To) r h
theorem y9m(m:zA)(r:zA×Int×Int)(h:z7Z m=some r):Trip Tryz.prog 59 [.d (tT m)] [] [.d (tT r.1),(nI r.2.1),(nI r.2.2)] []:=by
 unfold z7Z at h;refine zG 1000 (y9Q _ _ _ _ m) ?_;rintro _ rfl;refine zI zq2 h (fun _ h=>?_) (fun _ h=>?_)
 ·exact y4u _ _ _ _ _ _ _ _ _ _ h
 cases h;exact⟨rfl,rfl⟩
theorem v1i(m:zA)(r:Bool)(h:z7c m=some r):Trip Tryz.prog 24 [.d (tT m)] [] [(nB r)] []:=by
 unfold z7c at h;refine zG 1000 (v2q _ _ _ _ m) ?_;obtain⟨q1,g,h⟩:=zC h;refine⟨_,_,_,_,_,_,_,_,⟨_,y9m _ _ g⟩,?_⟩;rintro _ rfl;refine zD zq2 h (fun _ h=>?_) (fun _ h=>?_)
 ·obtain⟨q2,g,h⟩:=zC h;refine⟨_,⟨_,y1O _ _ _ g⟩,?_⟩;cases h;exact⟨rfl,rfl⟩
 cases h;exact⟨rfl,rfl⟩
def z8u:(i:z2H)→z5g i→Prop
 |.yL out l i,r=>Ok (z4S (Trip Tryz.prog) [.d (.sl (List.map zA.toD r))] []) (kL Tryz.f165 10) ⟨53,[(5,.right 9 1 6 (List.map zA.toD out)),(7,.d (.sl (List.map zA.toD l))),(8,(nI i))],[(9,1,some (.tok 6 (List.length (List.map zA.toD out))))],[],0⟩
theorem y4l:∀i r,uO z2A i=some r→z8u i r:=by
 refine zN z8m fun g ih i=>?_;cases i with
 |yL out l i=>
  have w4v:=fun out l i r h=>ih (.yL out l i) r h;intro r h;replace h:gH (fun out l i=>g (z2H.yL out l i)) out l i=some r:=h;unfold gH at h;refine jF 1000 (y4M _ _ _ _ out l i) ?_;refine zR (e':=(List.length l:Int)) (by first|rfl|rw[zq3]) ?_;rintro _ rfl;refine zD decide_eq_true_iff h (fun _ h=>?_) (fun _ h=>?_)
  ·obtain⟨x,hx,h⟩:=zC h;refine⟨zF (l:=l) (zA.sz),vO hx,x.K,x.N,x.S,List.map zA.toD x.L,x.From,x.To,zK (zA.toD_eq x) hx,?_⟩;obtain⟨x1,hx,h⟩:=zC h;refine⟨zF (l:=x.L) (zA.sz),vO hx,x1.K,x1.N,x1.S,List.map zA.toD x1.L,x1.From,x1.To,zK (zA.toD_eq x1) hx,?_⟩;refine⟨by simp[zE,D.cells],?_⟩;refine⟨by first|rfl|decide|simp only[zq3,List.length_cons,List.length_nil,List.map_append,List.length_append],?_⟩;obtain⟨hP,h⟩:=wY h;refine⟨by first|exact hP|simpa using hP,?_⟩
   refine zR (e':=List.map zA.toD (out++[x1])) (by first|rfl|simp only[List.map_append,List.map_cons,List.map_nil,List.map_take,List.map_drop,List.map_set,List.map_replicate,zq3,zA.toD_eq]) ?_;rintro _ rfl;exact w4v _ _ _ _ h
  cases h;exact⟨rfl,rfl⟩
theorem z8x(out l:List zA)(i:Int)(r:List zA)(h:yL out l i=some r):z8u (.yL out l i) r:=y4l (.yL out l i) r h
def z8Y:(i:z3z)→z5O i→Prop
 |.vH out i m t,r=>Ok (z4S (Trip Tryz.prog) [.d (.sl (List.map zA.toD r))] []) (kL Tryz.f165 4) ⟨53,[(2,.ref 2 1 0),(3,.ref 3 1 0),(5,.right 9 1 6 (List.map zA.toD out)),(6,(nI i))],[(2,1,some (.agg (tT m))),(3,1,some (.agg (tT t))),(9,1,some (.tok 6 (List.length (List.map zA.toD out))))],[],0⟩
theorem y5k:∀i r,uO z3s i=some r→z8Y i r:=by
 refine zN z8Q fun g ih i=>?_;cases i with
 |vH out i m t=>
  have w4w:=fun out i m t r h=>ih (.vH out i m t) r h;intro r h;replace h:z0i (fun out i m t=>g (z3z.vH out i m t)) out i m t=some r:=h;unfold z0i at h;refine jF 1000 (y6D _ _ _ _ out i m t) ?_;rintro _ rfl;refine zD decide_eq_true_iff h (fun _ h=>?_) (fun _ h=>?_)
  ·obtain⟨x,hx,h⟩:=zC h;refine⟨zF (l:=t.L) (zA.sz),vO hx,x.K,x.N,x.S,List.map zA.toD x.L,x.From,x.To,zK (zA.toD_eq x) hx,?_⟩;refine⟨by simp[zE,D.cells],?_⟩;refine⟨by first|rfl|decide|simp only[zq3,List.length_cons,List.length_nil,List.map_append,List.length_append],?_⟩;obtain⟨hP,h⟩:=wY h;refine⟨by first|exact hP|simpa using hP,?_⟩
   refine zR (e':=List.map zA.toD (out++[x])) (by first|rfl|simp only[List.map_append,List.map_cons,List.map_nil,List.map_take,List.map_drop,List.map_set,List.map_replicate,zq3,zA.toD_eq]) ?_;rintro _ rfl;exact w4w _ _ _ _ _ h
  rintro _ rfl;refine zD zq2 h (fun _ h=>?_) (fun _ h=>?_)
  ·obtain⟨x1,hx,h⟩:=zC h;refine⟨zF (l:=m.L) (zA.sz),vO hx,x1.K,x1.N,x1.S,List.map zA.toD x1.L,x1.From,x1.To,zK (zA.toD_eq x1) hx,?_⟩;exact z8x _ _ _ _ h
  cases h;exact⟨rfl,rfl⟩
theorem y5I(out:List zA)(i:Int)(m t:zA)(r:List zA)(h:vH out i m t=some r):z8Y (.vH out i m t) r:=y5k (.vH out i m t) r h
theorem z4Q(m t:zA)(r:List zA)(h:z2k m t=some r):Trip Tryz.prog 165 [.d (tT m),.d (tT t)] [] [.d (.sl (List.map zA.toD r))] []:=by
 unfold z2k at h;refine zG 1000 (v2v _ _ _ _ m t) ?_;rintro _ rfl;refine zD zq2 h (fun _ h=>?_) (fun _ h=>?_)
 ·exact y5I _ _ _ _ _ h
 rintro _ rfl;refine zD zq2 h (fun _ h=>?_) (fun _ h=>?_)
 ·obtain⟨x,hx,h⟩:=zC h;refine⟨zF (l:=m.L) (zA.sz),vO hx,x.K,x.N,x.S,List.map zA.toD x.L,x.From,x.To,zK (zA.toD_eq x) hx,?_⟩;exact z8x _ _ _ _ h
 cases h;exact⟨rfl,rfl⟩
def y5t:(i:z1M)→y1d i→Prop
 |.uQ m t v,r=>Trip Tryz.prog 103 [.d (tT m),.d (tT t),.d (tV v)] [] [(nB r)] []
 |.yI p i m v,r=>Ok (y1p (Trip Tryz.prog) [(nB r)] []) (kL Tryz.f103 9) ⟨68,[(3,.ref 3 1 0),(5,.ref 5 1 0),(7,.d (.sl (List.map zA.toD p))),(8,(nI i))],[(3,1,some (.agg (tT m))),(5,1,some (.agg (tV v)))],[],0⟩
theorem v3H:∀i r,uO z4a i=some r→y5t i r:=by
 refine zN y0T fun g ih i=>?_;cases i with
 |uQ m t v=>
  have w4t:=fun p i m v r h=>ih (.yI p i m v) r h;intro r h;replace h:z4t (fun p i m v=>g (z1M.yI p i m v)) m t v=some r:=h;unfold z4t at h;refine zG 1000 (v4L _ _ _ _ m t v) ?_;obtain⟨q1,g,h⟩:=zC h;refine⟨_,⟨_,z0X _ _ _ g⟩,?_⟩;rintro _ rfl;refine zD zq2 h (fun _ h=>?_) (fun _ h=>?_)
  ·cases h;exact⟨rfl,rfl⟩
  rintro _ rfl;refine zD zq2 h (fun hc355 h=>?_) (fun hc355 h=>?_)
  ·rintro _ rfl;refine zI zq2 h (fun _ h=>?_) (fun _ h=>?_)
   ·rintro _ rfl;refine v6s zq2 hc355 ?_;obtain⟨q7,g,h⟩:=zC h;refine⟨_,⟨_,z4Q _ _ _ g⟩,?_⟩;refine zR (e':=(List.length q7:Int)) (by first|rfl|rw[zq3]) ?_;refine zR (e':=(List.length v.L:Int)) (by first|rfl|rw[zq3]) ?_;rintro _ rfl;refine zI zq2 h (fun _ h=>?_) (fun _ h=>?_)
    ·exact w4t _ _ _ _ _ h
    cases h;exact⟨rfl,rfl⟩
   rintro _ rfl;refine zI zq2 h (fun _ h=>?_) (fun _ h=>?_)
   ·rintro _ rfl;refine v6s zq2 hc355 ?_;obtain⟨q4,g,h⟩:=zC h;refine⟨_,⟨_,z4Q _ _ _ g⟩,?_⟩;refine zR (e':=(List.length q4:Int)) (by first|rfl|rw[zq3]) ?_;refine zR (e':=(List.length v.L:Int)) (by first|rfl|rw[zq3]) ?_;rintro _ rfl;refine zI zq2 h (fun _ h=>?_) (fun _ h=>?_)
    ·exact w4t _ _ _ _ _ h
    cases h;exact⟨rfl,rfl⟩
   cases h;exact⟨rfl,rfl⟩
  rintro _ rfl;refine z8g zq2 hc355 ?_;rintro _ rfl;refine zI zq2 h (fun _ h=>?_) (fun _ h=>?_)
  ·obtain⟨q9,g,h⟩:=zC h;refine⟨_,⟨_,z4Q _ _ _ g⟩,?_⟩;refine zR (e':=(List.length q9:Int)) (by first|rfl|rw[zq3]) ?_;refine zR (e':=(List.length v.L:Int)) (by first|rfl|rw[zq3]) ?_;rintro _ rfl;refine zI zq2 h (fun _ h=>?_) (fun _ h=>?_)
   ·exact w4t _ _ _ _ _ h
   cases h;exact⟨rfl,rfl⟩
  rintro _ rfl;refine zI zq2 h (fun _ h=>?_) (fun _ h=>?_)
  ·obtain⟨q8,g,h⟩:=zC h;refine⟨_,⟨_,z4Q _ _ _ g⟩,?_⟩;refine zR (e':=(List.length q8:Int)) (by first|rfl|rw[zq3]) ?_;refine zR (e':=(List.length v.L:Int)) (by first|rfl|rw[zq3]) ?_;rintro _ rfl;refine zI zq2 h (fun _ h=>?_) (fun _ h=>?_)
   ·exact w4t _ _ _ _ _ h
   cases h;exact⟨rfl,rfl⟩
  cases h;exact⟨rfl,rfl⟩
 |yI p i m v=>
  have w4s:=fun m t v r h=>ih (.uQ m t v) r h;have w4t:=fun p i m v r h=>ih (.yI p i m v) r h;intro r h;replace h:z0I (fun m t v=>g (z1M.uQ m t v)) (fun p i m v=>g (z1M.yI p i m v)) p i m v=some r:=h;unfold z0I at h;refine jF 1000 (y7V _ _ _ _ p i m v) ?_;refine zR (e':=(List.length p:Int)) (by first|rfl|rw[zq3]) ?_;rintro _ rfl;refine zD decide_eq_true_iff h (fun _ h=>?_) (fun _ h=>?_)
  ·obtain⟨x,hx,h⟩:=zC h;refine⟨zF (l:=p) (zA.sz),vO hx,x.K,x.N,x.S,List.map zA.toD x.L,x.From,x.To,zK (zA.toD_eq x) hx,?_⟩;obtain⟨x1,hx,h⟩:=zC h;refine⟨zF (l:=v.L) (Value.sz),vO hx,x1.N,List.map Value.toD x1.L,zK (Value.toD_eq x1) hx,?_⟩;obtain⟨q1,g,h⟩:=zC h;refine⟨_,⟨_,w4s _ _ _ _ g⟩,?_⟩;refine zI Iff.rfl h (fun _ h=>?_) (fun _ h=>?_)
   ·rintro _ rfl;exact w4t _ _ _ _ _ h
   cases h;exact⟨rfl,rfl⟩
  cases h;exact⟨rfl,rfl⟩
theorem y5H(m t:zA)(v:Value)(r:Bool)(h:uQ m t v=some r):y5t (.uQ m t v) r:=v3H (.uQ m t v) r h
def y1L:(i:z5v)→z7D i→Prop
 |.wR types l i m,r=>Ok (y3h (Trip Tryz.prog) [(nB r)] []) (kL Tryz.f52 4) ⟨30,[(1,.d (.sl (List.map zA.toD types))),(2,.d (.sl (List.map Value.toD l))),(3,.ref 3 1 0),(7,(nI i))],[(3,1,some (.agg (tT m)))],[],0⟩
theorem y9d:∀i r,uO z5r i=some r→y1L i r:=by
 refine zN y1F fun g ih i=>?_;cases i with
 |wR types l i m=>
  have w4F:=fun types l i m r h=>ih (.wR types l i m) r h;intro r h;replace h:z1q (fun types l i m=>g (z5v.wR types l i m)) types l i m=some r:=h;unfold z1q at h;refine jF 1000 (y9U _ _ _ _ types l i m) ?_;refine zR (e':=(List.length l:Int)) (by first|rfl|rw[zq3]) ?_;rintro _ rfl;refine zD decide_eq_true_iff h (fun _ h=>?_) (fun _ h=>?_)
  ·obtain⟨x,hx,h⟩:=zC h;refine⟨zF (l:=types) (zA.sz),vO hx,x.K,x.N,x.S,List.map zA.toD x.L,x.From,x.To,zK (zA.toD_eq x) hx,?_⟩;obtain⟨x1,hx,h⟩:=zC h;refine⟨zF (l:=l) (Value.sz),vO hx,x1.N,List.map Value.toD x1.L,zK (Value.toD_eq x1) hx,?_⟩;obtain⟨q1,g,h⟩:=zC h;refine⟨_,⟨_,y5H _ _ _ _ g⟩,?_⟩;refine zI Iff.rfl h (fun _ h=>?_) (fun _ h=>?_)
   ·rintro _ rfl;exact w4F _ _ _ _ _ h
   cases h;exact⟨rfl,rfl⟩
  cases h;exact⟨rfl,rfl⟩
theorem y9o(types:List zA)(l:List Value)(i:Int)(m:zA)(r:Bool)(h:wR types l i m=some r):y1L (.wR types l i m) r:=y9d (.wR types l i m) r h
theorem v6z(m:zA)(types:List zA)(l:List Value)(r:Bool)(h:y2D m types l=some r):Trip Tryz.prog 52 [.d (tT m),.d (.sl (List.map zA.toD types)),.d (.sl (List.map Value.toD l))] [] [(nB r)] []:=by
 unfold y2D at h;refine zG 1000 (v7k _ _ _ _ m types l) ?_;refine zR (e':=(List.length types:Int)) (by first|rfl|rw[zq3]) ?_;refine zR (e':=(List.length l:Int)) (by first|rfl|rw[zq3]) ?_;rintro _ rfl;refine zI zq2 h (fun _ h=>?_) (fun _ h=>?_)
 ·exact y9o _ _ _ _ _ h
 cases h;exact⟨rfl,rfl⟩
def y5u:(i:z1N)→y1e i→Prop
 |.uA a b,r=>Trip Tryz.prog 22 [.d (tV a),.d (tV b)] [] [(nB r)] []
 |.vT i a b,r=>Ok (y1q (Trip Tryz.prog) [(nB r)] []) (kL Tryz.f22 4) ⟨39,[(2,.ref 2 1 0),(3,.ref 3 1 0),(5,(nI i))],[(2,1,some (.agg (tV a))),(3,1,some (.agg (tV b)))],[],0⟩
theorem v3I:∀i r,uO z4b i=some r→y5u i r:=by
 refine zN y0U fun g ih i=>?_;cases i with
 |uA a b=>
  have w4y:=fun i a b r h=>ih (.vT i a b) r h;intro r h;replace h:z2P (fun i a b=>g (z1N.vT i a b)) a b=some r:=h;unfold z2P at h;refine zG 1000 (v4M _ _ _ _ a b) ?_;rintro _ rfl;refine zI zq2 h (fun _ h=>?_) (fun _ h=>?_)
  ·refine zR (e':=(List.length a.L:Int)) (by first|rfl|rw[zq3]) ?_;refine zR (e':=(List.length b.L:Int)) (by first|rfl|rw[zq3]) ?_;rintro _ rfl;refine zI zq2 h (fun _ h=>?_) (fun _ h=>?_)
   ·exact w4y _ _ _ _ h
   cases h;exact⟨rfl,rfl⟩
  cases h;exact⟨rfl,rfl⟩
 |vT i a b=>
  have w4x:=fun a b r h=>ih (.uA a b) r h;have w4y:=fun i a b r h=>ih (.vT i a b) r h;intro r h;replace h:gR (fun a b=>g (z1N.uA a b)) (fun i a b=>g (z1N.vT i a b)) i a b=some r:=h;unfold gR at h;refine jF 1000 (y7W _ _ _ _ i a b) ?_;refine zR (e':=(List.length a.L:Int)) (by first|rfl|rw[zq3]) ?_;rintro _ rfl;refine zD decide_eq_true_iff h (fun _ h=>?_) (fun _ h=>?_)
  ·obtain⟨x,hx,h⟩:=zC h;refine⟨zF (l:=a.L) (Value.sz),vO hx,x.N,List.map Value.toD x.L,zK (Value.toD_eq x) hx,?_⟩;obtain⟨x1,hx,h⟩:=zC h;refine⟨zF (l:=b.L) (Value.sz),vO hx,x1.N,List.map Value.toD x1.L,zK (Value.toD_eq x1) hx,?_⟩;obtain⟨q1,g,h⟩:=zC h;refine⟨_,⟨_,w4x _ _ _ g⟩,?_⟩;refine zI Iff.rfl h (fun _ h=>?_) (fun _ h=>?_)
   ·rintro _ rfl;exact w4y _ _ _ _ h
   cases h;exact⟨rfl,rfl⟩
  cases h;exact⟨rfl,rfl⟩
theorem z5U(a b:Value)(r:Bool)(h:uA a b=some r):y5u (.uA a b) r:=v3I (.uA a b) r h
def y0C:(i:z4D)→z6A i→Prop
 |.vC i m s,r=>Ok (y1s (Trip Tryz.prog) [(nB r)] []) (kL Tryz.f51 4) ⟨104,[(2,.ref 2 1 0),(3,.ref 3 1 0),(5,(nI i))],[(2,1,some (.agg (tT m))),(3,1,some (.agg (tS s)))],[],0⟩
theorem y7D:∀i r,uO z4C i=some r→y0C i r:=by
 refine zN y0B fun g ih i=>?_;cases i with
 |vC i m s=>
  have w4J:=fun i m s r h=>ih (.vC i m s) r h;intro r h;replace h:z0J (fun i m s=>g (z4D.vC i m s)) i m s=some r:=h;unfold z0J at h;refine jF 1000 (y7Y _ _ _ _ i m s) ?_;refine zR (e':=(List.length m.L:Int)) (by first|rfl|rw[zq3]) ?_;rintro _ rfl;refine zD decide_eq_true_iff h (fun _ h=>?_) (fun _ h=>?_)
  ·obtain⟨x,hx,h⟩:=zC h;refine⟨zF (l:=m.L) (zA.sz),vO hx,x.K,x.N,x.S,List.map zA.toD x.L,x.From,x.To,zK (zA.toD_eq x) hx,?_⟩;rintro _ rfl;refine zD zq2 h (fun _ h=>?_) (fun _ h=>?_)
   ·obtain⟨x1,hx,h⟩:=zC h;refine⟨zF (l:=m.L) (zA.sz),vO hx,x1.K,x1.N,x1.S,List.map zA.toD x1.L,x1.From,x1.To,zK (zA.toD_eq x1) hx,?_⟩;obtain⟨x2,hx,h⟩:=zC h;refine⟨zF (l:=x1.L) (zA.sz),vO hx,x2.K,x2.N,x2.S,List.map zA.toD x2.L,x2.From,x2.To,zK (zA.toD_eq x2) hx,?_⟩;obtain⟨x3,hx,h⟩:=zC h;refine⟨zF (l:=s.Globals) (Value.sz),vO hx,x3.N,List.map Value.toD x3.L,zK (Value.toD_eq x3) hx,?_⟩;obtain⟨q1,g,h⟩:=zC h;refine⟨_,⟨_,y5H _ _ _ _ g⟩,?_⟩;refine zI Iff.rfl h (fun _ h=>?_) (fun _ h=>?_)
    ·obtain⟨x4,hx,h⟩:=zC h;refine⟨zF (l:=m.L) (zA.sz),vO hx,x4.K,x4.N,x4.S,List.map zA.toD x4.L,x4.From,x4.To,zK (zA.toD_eq x4) hx,?_⟩;rintro _ rfl;refine zI zq2 h (fun _ h=>?_) (fun _ h=>?_)
     ·rintro _ rfl;exact w4J _ _ _ _ h
     obtain⟨x5,hx,h⟩:=zC h;refine⟨zF (l:=s.Globals) (Value.sz),vO hx,x5.N,List.map Value.toD x5.L,zK (Value.toD_eq x5) hx,?_⟩;obtain⟨q2,g,h⟩:=zC h;refine⟨_,⟨_,z5U _ _ _ g⟩,?_⟩;refine zI Iff.rfl h (fun _ h=>?_) (fun _ h=>?_)
     ·rintro _ rfl;exact w4J _ _ _ _ h
     cases h;exact⟨rfl,rfl⟩
    cases h;exact⟨rfl,rfl⟩
   obtain⟨x6,hx,h⟩:=zC h;refine⟨zF (l:=m.L) (zA.sz),vO hx,x6.K,x6.N,x6.S,List.map zA.toD x6.L,x6.From,x6.To,zK (zA.toD_eq x6) hx,?_⟩;rintro _ rfl;refine zI zq2 h (fun _ h=>?_) (fun _ h=>?_)
   ·rintro _ rfl;exact w4J _ _ _ _ h
   obtain⟨x7,hx,h⟩:=zC h;refine⟨zF (l:=s.Globals) (Value.sz),vO hx,x7.N,List.map Value.toD x7.L,zK (Value.toD_eq x7) hx,?_⟩;obtain⟨q3,g,h⟩:=zC h;refine⟨_,⟨_,z5U _ _ _ g⟩,?_⟩;refine zI Iff.rfl h (fun _ h=>?_) (fun _ h=>?_)
   ·rintro _ rfl;exact w4J _ _ _ _ h
   cases h;exact⟨rfl,rfl⟩
  cases h;exact⟨rfl,rfl⟩
theorem y7G(i:Int)(m:zA)(s:State)(r:Bool)(h:vC i m s=some r):y0C (.vC i m s) r:=y7D (.vC i m s) r h
theorem v3W(m:zA)(s:State)(r:Bool)(h:y0a m s=some r):Trip Tryz.prog 51 [.d (tT m),.d (tS s)] [] [(nB r)] []:=by
 unfold y0a at h;refine zG 1000 (v4R _ _ _ _ m s) ?_;refine zR (e':=(List.length s.Globals:Int)) (by first|rfl|rw[zq3]) ?_;refine zR (e':=(List.length m.L:Int)) (by first|rfl|rw[zq3]) ?_;rintro _ rfl;refine zI zq2 h (fun _ h=>?_) (fun _ h=>?_)
 ·rintro _ rfl;refine zD decide_eq_true_iff h (fun _ h=>?_) (fun _ h=>?_)
  ·cases h;exact⟨rfl,rfl⟩
  refine zR (e':=(List.length s.Input:Int)) (by first|rfl|rw[zq3]) ?_;rintro _ rfl;refine zD decide_eq_true_iff h (fun _ h=>?_) (fun _ h=>?_)
  ·cases h;exact⟨rfl,rfl⟩
  rintro _ rfl;refine zD decide_eq_true_iff h (fun _ h=>?_) (fun _ h=>?_)
  ·cases h;exact⟨rfl,rfl⟩
  rintro _ rfl;refine zD decide_eq_true_iff h (fun _ h=>?_) (fun _ h=>?_)
  ·cases h;exact⟨rfl,rfl⟩
  rintro _ rfl;refine zI zq2 h (fun _ h=>?_) (fun _ h=>?_)
  ·rintro _ rfl;refine zI zq2 h (fun _ h=>?_) (fun _ h=>?_)
   ·obtain⟨q1,g,h⟩:=zC h;refine⟨_,⟨_,z5U _ _ _ g⟩,?_⟩;refine zI Iff.rfl h (fun _ h=>?_) (fun _ h=>?_)
    ·exact y7G _ _ _ _ h
    cases h;exact⟨rfl,rfl⟩
   cases h;exact⟨rfl,rfl⟩
  cases h;exact⟨rfl,rfl⟩
 cases h;exact⟨rfl,rfl⟩
theorem y5Q(c:Ref28Rule)(t:zA)(r:Bool)(h:z7l c t=some r):Trip Tryz.prog 75 [.d (.agg [(.int .i64 c.M.K),(.int .i64 c.M.N),(.str c.M.S),(.sl (List.map zA.toD c.M.L)),(.int .i64 c.M.From),(.int .i64 c.M.To),(.sl (List.map zA.toD c.Types)),(.int .i64 c.Ret.K),(.int .i64 c.Ret.N),(.str c.Ret.S),(.sl (List.map zA.toD c.Ret.L)),(.int .i64 c.Ret.From),(.int .i64 c.Ret.To),(.sl (List.map Value.toD c.S.Globals)),(.sl (List.map Value.toD c.S.Locals)),(.sl (List.map (D.int .i64) c.S.Input)),(.int .i64 c.S.At),(.sl (List.map (D.int .i64) c.S.Trace)),(.int .i64 c.S.Fuel),(.int .i64 c.S.Kind),(.int .i64 c.S.N),(.int .i64 c.S.Ret.N),(.sl (List.map Value.toD c.S.Ret.L)),(.int .i64 c.Rule),(.sl (List.map (D.int .i64) c.Nums)),(.int .i64 c.L.K),(.int .i64 c.L.N),(.str c.L.S),(.sl (List.map zA.toD c.L.L)),(.int .i64 c.L.From),(.int .i64 c.L.To),(.int .i64 c.R.K),(.int .i64 c.R.N),(.str c.R.S),(.sl (List.map zA.toD c.R.L)),(.int .i64 c.R.From),(.int .i64 c.R.To)]),.d (tT t)] [] [(nB r)] []:=by
 unfold z7l at h;refine zG 1000 (v4Y _ _ _ _ c t) ?_;obtain⟨q1,g,h⟩:=zC h;refine⟨_,_,_,_,_,_,_,_,⟨_,v3V _ _ _ _ _ g⟩,?_⟩;rintro _ rfl;refine zD zq2 h (fun _ h=>?_) (fun _ h=>?_)
 ·obtain⟨q2,g,h⟩:=zC h;refine⟨_,⟨_,y1O _ _ _ g⟩,?_⟩;refine zD Iff.rfl h (fun _ h=>?_) (fun _ h=>?_)
  ·rintro _ rfl;refine zI zq2 h (fun _ h=>?_) (fun _ h=>?_)
   ·cases h;exact⟨rfl,rfl⟩
   rintro _ rfl;cases h;exact⟨rfl,rfl⟩
  cases h;exact⟨rfl,rfl⟩
 cases h;exact⟨rfl,rfl⟩
def y5q:(i:z1K)→y0Z i→Prop
 |.uP t,r=>Trip Tryz.prog 18 [.d (tT t)] [] [(nI r)] []
 |.vR n i t,r=>Ok (y1m (Trip Tryz.prog) [(nI r)] []) (kL Tryz.f18 3) ⟨21,[(1,.ref 1 1 0),(3,(nI n)),(4,(nI i))],[(1,1,some (.agg (tT t)))],[],0⟩
theorem v3E:∀i r,uO z3Y i=some r→y5q i r:=by
 refine zN y0R fun g ih i=>?_;cases i with
 |uP t=>
  have w3Q:=fun n i t r h=>ih (.vR n i t) r h;intro r h;replace h:z4m (fun n i t=>g (z1K.vR n i t)) t=some r:=h;unfold z4m at h;refine zG 1000 (v4B _ _ _ _ t) ?_;exact w3Q _ _ _ _ h
 |vR n i t=>
  have w3P:=fun t r h=>ih (.uP t) r h;have w3Q:=fun n i t r h=>ih (.vR n i t) r h;intro r h;replace h:z0G (fun t=>g (z1K.uP t)) (fun n i t=>g (z1K.vR n i t)) n i t=some r:=h;unfold z0G at h;refine jF 1000 (y7O _ _ _ _ n i t) ?_;refine zR (e':=(List.length t.L:Int)) (by first|rfl|rw[zq3]) ?_;rintro _ rfl;refine zD decide_eq_true_iff h (fun _ h=>?_) (fun _ h=>?_)
  ·obtain⟨x,hx,h⟩:=zC h;refine⟨zF (l:=t.L) (zA.sz),vO hx,x.K,x.N,x.S,List.map zA.toD x.L,x.From,x.To,zK (zA.toD_eq x) hx,?_⟩;obtain⟨q1,g,h⟩:=zC h;refine⟨_,⟨_,w3P _ _ g⟩,?_⟩;rintro _ rfl;rintro _ rfl;exact w3Q _ _ _ _ h
  cases h;exact⟨rfl,rfl⟩
theorem y5C(t:zA)(r:Int)(h:uP t=some r):y5q (.uP t) r:=v3E (.uP t) r h
def y5v:(i:z1O)→y1f i→Prop
 |.vA m t,r=>Trip Tryz.prog 177 [.d (tT m),.d (tT t)] [] [.d (tV r)] []
 |.vB p i m o4 N L,r=>Ok (y1r (Trip Tryz.prog) [.d (tV r)] []) (kL Tryz.f177 6) ⟨35,[(2,.ref 2 1 0),(4,.ref 4 1 0),(5,.hp 0 0),(6,.d (.sl (List.map zA.toD p))),(7,(nI i))],[(2,1,some (.agg (tT m))),(4,1,some (.agg (tV o4)))],[[(nI N),.own 2 (List.map Value.toD L)]],0⟩
theorem v3J:∀i r,uO z4c i=some r→y5v i r:=by
 refine zN y0V fun g ih i=>?_;cases i with
 |vA m t=>
  have w4C:=fun p i m o4 N L r h=>ih (.vB p i m o4 N L) r h;intro r h;replace h:z2Q (fun p i m o4 N L=>g (z1O.vB p i m o4 N L)) m t=some r:=h;unfold z2Q at h;refine zG 1000 (v4N _ _ _ _ m t) ?_;obtain⟨q1,g,h⟩:=zC h;refine⟨_,⟨_,z0X _ _ _ g⟩,?_⟩;rintro _ rfl;refine zD zq2 h (fun _ h=>?_) (fun _ h=>?_)
  ·cases h;exact⟨rfl,rfl⟩
  obtain⟨q2,g,h⟩:=zC h;refine⟨_,⟨_,z4Q _ _ _ g⟩,?_⟩;exact w4C _ _ _ _ _ _ _ h
 |vB p i m o4 N L=>
  have w4B:=fun m t r h=>ih (.vA m t) r h;have w4C:=fun p i m o4 N L r h=>ih (.vB p i m o4 N L) r h;intro r h;replace h:jT (fun m t=>g (z1O.vA m t)) (fun p i m o4 N L=>g (z1O.vB p i m o4 N L)) p i m o4 N L=some r:=h;unfold jT at h;refine jF 1000 (y7X _ _ _ _ p i m o4 N L) ?_;refine zR (e':=(List.length p:Int)) (by first|rfl|rw[zq3]) ?_;rintro _ rfl;refine zD decide_eq_true_iff h (fun _ h=>?_) (fun _ h=>?_)
  ·obtain⟨x,hx,h⟩:=zC h;refine⟨zF (l:=p) (zA.sz),vO hx,x.K,x.N,x.S,List.map zA.toD x.L,x.From,x.To,zK (zA.toD_eq x) hx,?_⟩;obtain⟨q1,g,h⟩:=zC h;refine⟨_,_,⟨_,w4B _ _ _ g⟩,?_⟩;refine⟨by simp[zE,D.cells],?_⟩;refine⟨by first|rfl|decide|simp only[zq3,List.length_cons,List.length_nil,List.map_append,List.length_append],?_⟩;obtain⟨hP,h⟩:=wY h;refine⟨by first|exact hP|simpa using hP,?_⟩
   refine zR (e':=List.map Value.toD (L++[q1])) (by first|rfl|simp only[List.map_append,List.map_cons,List.map_nil,List.map_take,List.map_drop,List.map_set,List.map_replicate,zq3,Value.toD_eq]) ?_;refine⟨by first|rfl|decide|simp only[zq3,List.length_cons,List.length_nil,List.map_append,List.length_append],?_⟩;rintro _ rfl;exact w4C _ _ _ _ _ _ _ h
  cases h;exact⟨rfl,rfl⟩
theorem y5J(m t:zA)(r:Value)(h:vA m t=some r):y5v (.vA m t) r:=v3J (.vA m t) r h
theorem gY(b:Bool)(r:Int)(h:z0t b=some r):Trip Tryz.prog 176 [(nB b)] [] [(nI r)] []:=by
 unfold z0t at h;refine zG 1000 (v4O _ _ _ _ b) ?_;refine zD Iff.rfl h (fun _ h=>?_) (fun _ h=>?_)
 ·cases h;exact⟨rfl,rfl⟩
 cases h;exact⟨rfl,rfl⟩
theorem v6x(op a r:Int)(h:z1D op a=some r):Trip Tryz.prog 115 [(nI op),(nI a)] [] [(nI r)] []:=by
 unfold z1D at h;refine zG 1000 (v7i _ _ _ _ op a) ?_;rintro _ rfl;refine zD zq2 h (fun _ h=>?_) (fun _ h=>?_)
 ·rintro _ rfl;rintro _ rfl;rintro _ rfl;cases h;exact⟨rfl,rfl⟩
 rintro _ rfl;refine zD zq2 h (fun _ h=>?_) (fun _ h=>?_)
 ·rintro _ rfl;obtain⟨q1,g,h⟩:=zC h;refine⟨_,⟨_,gY _ _ g⟩,?_⟩;cases h;exact⟨rfl,rfl⟩
 cases h;exact⟨rfl,rfl⟩
theorem z6s(s:State)(r:Ref21Got)(h:z2o s=some r):Trip Tryz.prog 110 [.d (tS s)] [] [.d (tG r)] []:=by
 unfold z2o at h;refine zG 1000 (v2y _ _ _ _ s) ?_;cases h;exact⟨rfl,rfl⟩
theorem z2Y(n:Int)(s:State)(r:Ref21Got)(h:z1r n s=some r):Trip Tryz.prog 111 [(nI n),.d (tS s)] [] [.d (tG r)] []:=by
 unfold z1r at h;refine zG 1000 (v7n _ _ _ _ n s) ?_;cases h;exact⟨rfl,rfl⟩
theorem y3a(s r:State)(h:z1s s=some r):Trip Tryz.prog 109 [.d (tS s)] [] [.d (tS r)] []:=by
 unfold z1s at h;refine zG 1000 (v7o _ _ _ _ s) ?_;rintro _ rfl;refine zD zq2 h (fun hc397 h=>?_) (fun hc397 h=>?_)
 ·rintro _ rfl;refine zD decide_eq_true_iff h (fun _ h=>?_) (fun _ h=>?_)
  ·cases h;exact⟨rfl,rfl⟩
  rintro _ rfl;refine z2r zq2 hc397 ?_;rintro _ rfl;cases h;exact⟨rfl,rfl⟩
 rintro _ rfl;refine jM zq2 hc397 ?_;cases h;exact⟨rfl,rfl⟩
theorem z4f(n:Int)(s:State)(r:Ref21Got)(h:z0v n s=some r):Trip Tryz.prog 112 [(nI n),.d (tS s)] [] [.d (tG r)] []:=by
 unfold z0v at h;refine zG 1000 (v4W _ _ _ _ n s) ?_;cases h;exact⟨rfl,rfl⟩
def z8v:(i:z2I)→z5h i→Prop
 |.yF a b q left i,r=>Ok (z7O (Trip Tryz.prog) [.d (.int .u64 r.1),.d (.int .u64 r.2)] []) (kL Tryz.f260 4) ⟨39,[(0,.d (.int .u64 a)),(1,.d (.int .u64 b)),(6,.d (.int .u64 q)),(7,.d (.int .u64 left)),(8,(nI i))],[],[],0⟩
theorem y4m:∀i r,uO z2B i=some r→z8v i r:=by
 refine zN z8n fun g ih i=>?_;cases i with
 |yF a b q left i=>
  have w4D:=fun a b q left i r h=>ih (.yF a b q left i) r h;intro r h;replace h:gI (fun a b q left i=>g (z2I.yF a b q left i)) a b q left i=some r:=h;unfold gI at h;refine jF 1000 (y4N _ _ _ _ a b q left i) ?_;rintro _ rfl;refine zD decide_eq_true_iff h (fun _ h=>?_) (fun _ h=>?_)
  ·rintro _ rfl;rintro _ rfl;rintro _ rfl;obtain⟨hP,h⟩:=wY h;refine⟨by first|exact hP|simpa using hP,?_⟩;rintro _ rfl;obtain⟨hP,h⟩:=wY h;refine⟨by first|exact hP|simpa using hP,?_⟩;rintro _ rfl;rintro _ rfl;rintro _ rfl;refine zD decide_eq_true_iff h (fun _ h=>?_) (fun _ h=>?_)
   ·rintro _ rfl;rintro _ rfl;rintro _ rfl;exact w4D _ _ _ _ _ _ h
   rintro _ rfl;refine zD decide_eq_true_iff h (fun _ h=>?_) (fun _ h=>?_)
   ·rintro _ rfl;rintro _ rfl;rintro _ rfl;exact w4D _ _ _ _ _ _ h
   rintro _ rfl;exact w4D _ _ _ _ _ _ h
  cases h;exact⟨rfl,rfl⟩
theorem y4w(a b q left i:Int)(r:Int×Int)(h:yF a b q left i=some r):z8v (.yF a b q left i) r:=y4m (.yF a b q left i) r h
theorem y9n(a b:Int)(r:Int×Int)(h:z6l a b=some r):Trip Tryz.prog 260 [.d (.int .u64 a),.d (.int .u64 b)] [] [.d (.int .u64 r.1),.d (.int .u64 r.2)] []:=by
 unfold z6l at h;refine zG 1000 (y9T _ _ _ _ a b) ?_;exact y4w _ _ _ _ _ _ h
theorem y5K(a r:Int)(h:z7g a=some r):Trip Tryz.prog 261 [(nI a)] [] [.d (.int .u64 r)] []:=by
 unfold z7g at h;refine zG 1000 (v4P _ _ _ _ a) ?_;rintro _ rfl;refine zD decide_eq_true_iff h (fun _ h=>?_) (fun _ h=>?_)
 ·rintro _ rfl;rintro _ rfl;rintro _ rfl;rintro _ rfl;cases h;exact⟨rfl,rfl⟩
 rintro _ rfl;cases h;exact⟨rfl,rfl⟩
theorem z9o(a b:Int)(r:Int×Int)(h:z2l a b=some r):Trip Tryz.prog 232 [(nI a),(nI b)] [] [(nI r.1),(nI r.2)] []:=by
 unfold z2l at h;refine zG 1000 (y6E _ _ _ _ a b) ?_;obtain⟨q1,g,h⟩:=zC h;refine⟨_,⟨_,y5K _ _ g⟩,?_⟩;obtain⟨q2,g,h⟩:=zC h;refine⟨_,⟨_,y5K _ _ g⟩,?_⟩;obtain⟨q3,g,h⟩:=zC h;refine⟨_,_,⟨_,y9n _ _ _ g⟩,?_⟩;rintro _ rfl;rintro _ rfl;rintro _ rfl;rintro _ rfl;rintro _ rfl;refine zI zq2 h (fun _ h=>?_) (fun _ h=>?_)
 ·rintro _ rfl;refine zD decide_eq_true_iff h (fun _ h=>?_) (fun _ h=>?_)
  ·rintro _ rfl;rintro _ rfl;cases h;exact⟨rfl,rfl⟩
  cases h;exact⟨rfl,rfl⟩
 rintro _ rfl;rintro _ rfl;rintro _ rfl;refine zD decide_eq_true_iff h (fun _ h=>?_) (fun _ h=>?_)
 ·rintro _ rfl;rintro _ rfl;cases h;exact⟨rfl,rfl⟩
 cases h;exact⟨rfl,rfl⟩
def z8Z:(i:z3A)→z5P i→Prop
 |.yY x y out,r=>Ok (z9B (Trip Tryz.prog) [(nI r)] []) (kL Tryz.f231 4) ⟨27,[(5,.d (.int .u64 x)),(6,.d (.int .u64 y)),(7,.d (.int .u64 out))],[],[],0⟩
theorem y5l:∀i r,uO z3t i=some r→z8Z i r:=by
 refine zN z8R fun g ih i=>?_;cases i with
 |yY x y out=>
  have w4E:=fun x y out r h=>ih (.yY x y out) r h;intro r h;replace h:z0S (fun x y out=>g (z3A.yY x y out)) x y out=some r:=h;unfold z0S at h;refine jF 1000 (y6F _ _ _ _ x y out) ?_;rintro _ rfl;refine zD decide_eq_true_iff h (fun _ h=>?_) (fun _ h=>?_)
  ·obtain⟨hP,h⟩:=wY h;refine⟨by first|exact hP|simpa using hP,?_⟩;rintro _ rfl;rintro _ rfl;refine zD zq2 h (fun _ h=>?_) (fun _ h=>?_)
   ·rintro _ rfl;rintro _ rfl;obtain⟨hP,h⟩:=wY h;refine⟨by first|exact hP|simpa using hP,?_⟩;rintro _ rfl;exact w4E _ _ _ _ h
   rintro _ rfl;obtain⟨hP,h⟩:=wY h;refine⟨by first|exact hP|simpa using hP,?_⟩;rintro _ rfl;exact w4E _ _ _ _ h
  rintro _ rfl;cases h;exact⟨rfl,rfl⟩
theorem y5L(x y out r:Int)(h:yY x y out=some r):z8Z (.yY x y out) r:=y5l (.yY x y out) r h
theorem v1l(a b r:Int)(h:z7h a b=some r):Trip Tryz.prog 231 [(nI a),(nI b)] [] [(nI r)] []:=by
 unfold z7h at h;refine zG 1000 (v2w _ _ _ _ a b) ?_;rintro _ rfl;rintro _ rfl;exact y5L _ _ _ _ h
theorem v6y(op a b:Int)(r:Int×Int)(h:z2m op a b=some r):Trip Tryz.prog 175 [(nI op),(nI a),(nI b)] [] [(nI r.1),(nI r.2)] []:=by
 unfold z2m at h;refine zG 1000 (v7j _ _ _ _ op a b) ?_;rintro _ rfl;refine zD zq2 h (fun _ h=>?_) (fun _ h=>?_)
 ·rintro _ rfl;refine zD zq2 h (fun _ h=>?_) (fun _ h=>?_)
  ·rintro _ rfl;obtain⟨q1,g,h⟩:=zC h;refine⟨_,⟨_,gY _ _ g⟩,?_⟩;cases h;exact⟨rfl,rfl⟩
  obtain⟨q2,g,h⟩:=zC h;refine⟨_,⟨_,gY _ _ g⟩,?_⟩;cases h;exact⟨rfl,rfl⟩
 rintro _ rfl;refine zD zq2 h (fun _ h=>?_) (fun _ h=>?_)
 ·rintro _ rfl;refine zD zq2 h (fun _ h=>?_) (fun _ h=>?_)
  ·obtain⟨q3,g,h⟩:=zC h;refine⟨_,⟨_,gY _ _ g⟩,?_⟩;cases h;exact⟨rfl,rfl⟩
  rintro _ rfl;obtain⟨q4,g,h⟩:=zC h;refine⟨_,⟨_,gY _ _ g⟩,?_⟩;cases h;exact⟨rfl,rfl⟩
 rintro _ rfl;refine zD zq2 h (fun _ h=>?_) (fun _ h=>?_)
 ·rintro _ rfl;rintro _ rfl;rintro _ rfl;obtain⟨q5,g,h⟩:=zC h;refine⟨_,⟨_,gY _ _ g⟩,?_⟩;cases h;exact⟨rfl,rfl⟩
 rintro _ rfl;refine zD zq2 h (fun _ h=>?_) (fun _ h=>?_)
 ·rintro _ rfl;rintro _ rfl;rintro _ rfl;obtain⟨q6,g,h⟩:=zC h;refine⟨_,⟨_,gY _ _ g⟩,?_⟩;cases h;exact⟨rfl,rfl⟩
 rintro _ rfl;refine zD zq2 h (fun _ h=>?_) (fun _ h=>?_)
 ·rintro _ rfl;rintro _ rfl;rintro _ rfl;obtain⟨q7,g,h⟩:=zC h;refine⟨_,⟨_,gY _ _ g⟩,?_⟩;cases h;exact⟨rfl,rfl⟩
 rintro _ rfl;refine zD zq2 h (fun _ h=>?_) (fun _ h=>?_)
 ·rintro _ rfl;rintro _ rfl;rintro _ rfl;obtain⟨q8,g,h⟩:=zC h;refine⟨_,⟨_,gY _ _ g⟩,?_⟩;cases h;exact⟨rfl,rfl⟩
 rintro _ rfl;refine zD zq2 h (fun _ h=>?_) (fun _ h=>?_)
 ·rintro _ rfl;rintro _ rfl;rintro _ rfl;obtain⟨q9,g,h⟩:=zC h;refine⟨_,⟨_,gY _ _ g⟩,?_⟩;cases h;exact⟨rfl,rfl⟩
 rintro _ rfl;refine zD zq2 h (fun _ h=>?_) (fun _ h=>?_)
 ·rintro _ rfl;rintro _ rfl;rintro _ rfl;obtain⟨q10,g,h⟩:=zC h;refine⟨_,⟨_,gY _ _ g⟩,?_⟩;cases h;exact⟨rfl,rfl⟩
 rintro _ rfl;refine zD zq2 h (fun _ h=>?_) (fun _ h=>?_)
 ·rintro _ rfl;rintro _ rfl;rintro _ rfl;rintro _ rfl;cases h;exact⟨rfl,rfl⟩
 rintro _ rfl;refine zD zq2 h (fun _ h=>?_) (fun _ h=>?_)
 ·rintro _ rfl;rintro _ rfl;rintro _ rfl;rintro _ rfl;cases h;exact⟨rfl,rfl⟩
 rintro _ rfl;refine zD zq2 h (fun _ h=>?_) (fun _ h=>?_)
 ·obtain⟨q11,g,h⟩:=zC h;refine⟨_,⟨_,v1l _ _ _ g⟩,?_⟩;cases h;exact⟨rfl,rfl⟩
 rintro _ rfl;refine zI zq2 h (fun hc421 h=>?_) (fun hc421 h=>?_)
 ·rintro _ rfl;refine zD zq2 h (fun _ h=>?_) (fun _ h=>?_)
  ·cases h;exact⟨rfl,rfl⟩
  obtain⟨q13,g,h⟩:=zC h;refine⟨_,_,⟨_,z9o _ _ _ g⟩,?_⟩;rintro _ rfl;refine z2r zq2 hc421 ?_;cases h;exact⟨rfl,rfl⟩
 rintro _ rfl;refine zI zq2 h (fun _ h=>?_) (fun _ h=>?_)
 ·rintro _ rfl;refine zD zq2 h (fun _ h=>?_) (fun _ h=>?_)
  ·cases h;exact⟨rfl,rfl⟩
  obtain⟨q12,g,h⟩:=zC h;refine⟨_,_,⟨_,z9o _ _ _ g⟩,?_⟩;rintro _ rfl;refine jM zq2 hc421 ?_;cases h;exact⟨rfl,rfl⟩
 cases h;exact⟨rfl,rfl⟩
theorem y8t(s:State)(n:Int)(r:State)(h:z4K s n=some r):Trip Tryz.prog 195 [.d (tS s),(nI n)] [] [.d (tS r)] []:=by
 unfold z4K at h;refine zG 1000 (v7l _ _ _ _ s n) ?_;refine⟨zF (l:=s.Locals) (Value.sz),?_⟩;obtain⟨hP,h⟩:=wY h;refine⟨by first|exact hP|simpa using hP,?_⟩;obtain⟨hP,h⟩:=wY h;refine⟨by first|exact hP|simpa using hP,?_⟩;obtain⟨hP,h⟩:=wY h;refine⟨by first|exact hP|simpa using hP,?_⟩
 refine zR (e':=List.map Value.toD (List.drop 0 (List.take (Int.toNat n) s.Locals))) (by first|rfl|simp only[List.map_append,List.map_cons,List.map_nil,List.map_take,List.map_drop,List.map_set,List.map_replicate,zq3,Value.toD_eq]) ?_;cases h;exact⟨rfl,rfl⟩
theorem z9p(s:State)(v:Value)(r:State)(h:z3l s v=some r):Trip Tryz.prog 196 [.d (tS s),.d (tV v)] [] [.d (tS r)] []:=by
 unfold z3l at h;refine zG 1000 (v2A _ _ _ _ s v) ?_;refine⟨zF (l:=s.Locals) (Value.sz),?_⟩;refine⟨by first|rfl|decide|simp only[zq3,List.length_cons,List.length_nil,List.map_append,List.length_append],?_⟩;obtain⟨hP,h⟩:=wY h;refine⟨by first|exact hP|simpa using hP,?_⟩;refine zR (e':=List.map Value.toD (([]:List Value)++s.Locals)) (by first|rfl|simp only[List.map_append,List.map_cons,List.map_nil,List.map_take,List.map_drop,List.map_set,List.map_replicate,zq3,Value.toD_eq]) ?_
 refine⟨by simp[zE,D.cells],?_⟩;refine⟨by first|rfl|decide|simp only[zq3,List.length_cons,List.length_nil,List.map_append,List.length_append],?_⟩;obtain⟨hP,h⟩:=wY h;refine⟨by first|exact hP|simpa using hP,?_⟩;refine zR (e':=List.map Value.toD ((([]:List Value)++s.Locals)++[v])) (by first|rfl|simp only[List.map_append,List.map_cons,List.map_nil,List.map_take,List.map_drop,List.map_set,List.map_replicate,zq3,Value.toD_eq]) ?_;cases h;exact⟨rfl,rfl⟩
def y8p:(i:z2X)→y2T i→Prop
 |.wX v way x,r=>Trip Tryz.prog 245 [.d (tV v),.d (.sl (List.map (D.int .i64) way)),.d (tV x)] [] [.d (tV r)] []
 |.wC way out i v x o6,r=>Ok (y3g (Trip Tryz.prog) [.d (tV r)] []) (kL Tryz.f245 5) ⟨50,[(1,.d (.sl (List.map (D.int .i64) way))),(3,.ref 3 1 0),(5,.ref 5 1 0),(6,.ref 6 1 0),(7,.right 13 1 2 (List.map Value.toD out)),(8,(nI i))],[(3,1,some (.agg (tV v))),(5,1,some (.agg (tV x))),(6,1,some (.agg (tV o6))),(13,1,some (.tok 2 (List.length (List.map Value.toD out))))],[],0⟩
theorem v6v:∀i r,uO z5B i=some r→y8p i r:=by
 refine zN y2Q fun g ih i=>?_;cases i with
 |wX v way x=>
  have w4A:=fun way out i v x o6 r h=>ih (.wC way out i v x o6) r h;intro r h;replace h:z3k (fun way out i v x o6=>g (z2X.wC way out i v x o6)) v way x=some r:=h;unfold z3k at h;refine zG 1000 (v7h _ _ _ _ v way x) ?_;refine zR (e':=(List.length way:Int)) (by first|rfl|rw[zq3]) ?_;rintro _ rfl;refine zD zq2 h (fun _ h=>?_) (fun _ h=>?_)
  ·cases h;exact⟨rfl,rfl⟩
  exact w4A _ _ _ _ _ _ _ h
 |wC way out i v x o6=>
  have w4z:=fun v way x r h=>ih (.wX v way x) r h;have w4A:=fun way out i v x o6 r h=>ih (.wC way out i v x o6) r h;intro r h;replace h:z1p (fun v way x=>g (z2X.wX v way x)) (fun way out i v x o6=>g (z2X.wC way out i v x o6)) way out i v x o6=some r:=h;unfold z1p at h;refine jF 1000 (y9S _ _ _ _ way out i v x o6) ?_;refine zR (e':=(List.length v.L:Int)) (by first|rfl|rw[zq3]) ?_;rintro _ rfl;refine zD decide_eq_true_iff h (fun _ h=>?_) (fun _ h=>?_)
  ·obtain⟨x1,hx,h⟩:=zC h;refine⟨zF (l:=way) (fun _=>rfl),vO hx,x1,zK rfl hx,?_⟩;rintro _ rfl;refine zD zq2 h (fun _ h=>?_) (fun _ h=>?_)
   ·obtain⟨x2,hx,h⟩:=zC h;refine⟨zF (l:=v.L) (Value.sz),vO hx,x2.N,List.map Value.toD x2.L,zK (Value.toD_eq x2) hx,?_⟩;refine⟨zF (l:=way) (fun _=>rfl),?_⟩;obtain⟨hP,h⟩:=wY h;refine⟨by first|exact hP|simpa using hP,?_⟩;obtain⟨hP,h⟩:=wY h;refine⟨by first|exact hP|simpa using hP,?_⟩;obtain⟨hP,h⟩:=wY h;refine⟨by first|exact hP|simpa using hP,?_⟩
    refine zR (e':=List.map (D.int .i64) (List.drop (Int.toNat 1) (List.take (List.length way) way))) (by first|rfl|simp only[List.map_append,List.map_cons,List.map_nil,List.map_take,List.map_drop,List.map_set,List.map_replicate,zq3]) ?_;obtain⟨q1,g,h⟩:=zC h;refine⟨_,_,⟨_,w4z _ _ _ _ g⟩,?_⟩;refine⟨by simp[zE,D.cells],?_⟩;refine⟨by first|rfl|decide|simp only[zq3,List.length_cons,List.length_nil,List.map_append,List.length_append],?_⟩;obtain⟨hP,h⟩:=wY h;refine⟨by first|exact hP|simpa using hP,?_⟩
    refine zR (e':=List.map Value.toD (out++[q1])) (by first|rfl|simp only[List.map_append,List.map_cons,List.map_nil,List.map_take,List.map_drop,List.map_set,List.map_replicate,zq3,Value.toD_eq]) ?_;rintro _ rfl;exact w4A _ _ _ _ _ _ _ h
   obtain⟨x3,hx,h⟩:=zC h;refine⟨zF (l:=v.L) (Value.sz),vO hx,x3.N,List.map Value.toD x3.L,zK (Value.toD_eq x3) hx,?_⟩;refine⟨by simp[zE,D.cells],?_⟩;refine⟨by first|rfl|decide|simp only[zq3,List.length_cons,List.length_nil,List.map_append,List.length_append],?_⟩;obtain⟨hP,h⟩:=wY h;refine⟨by first|exact hP|simpa using hP,?_⟩
   refine zR (e':=List.map Value.toD (out++[x3])) (by first|rfl|simp only[List.map_append,List.map_cons,List.map_nil,List.map_take,List.map_drop,List.map_set,List.map_replicate,zq3,Value.toD_eq]) ?_;rintro _ rfl;exact w4A _ _ _ _ _ _ _ h
  cases h;exact⟨rfl,rfl⟩
theorem y8s(v:Value)(way:List Int)(x r:Value)(h:wX v way x=some r):y8p (.wX v way x) r:=v6v (.wX v way x) r h
theorem y5N(l:List Value)(at_:Int)(v:Value)(r:List Value)(h:z5a l at_ v=some r):Trip Tryz.prog 244 [.d (.sl (List.map Value.toD l)),(nI at_),.d (tV v)] [] [.d (.sl (List.map Value.toD r))] []:=by
 unfold z5a at h;refine zG 1000 (v4S _ _ _ _ l at_ v) ?_;refine⟨zF (l:=l) (Value.sz),?_⟩;obtain⟨hP,h⟩:=wY h;refine⟨by first|exact hP|simpa using hP,?_⟩;obtain⟨hP,h⟩:=wY h;refine⟨by first|exact hP|simpa using hP,?_⟩;obtain⟨hP,h⟩:=wY h;refine⟨hP.1,by first|exact hP.2|(simp only[zq3]at hP ⊢;exact hP.2),?_⟩;obtain⟨hP,h⟩:=wY h;refine⟨by first|exact hP|(rw[zq3];exact hP),?_⟩;refine zR (e':=List.map Value.toD (l.set (Int.toNat at_) v)) (w1h (Value.toD_eq v)) ?_;cases h;exact⟨rfl,rfl⟩
def y8o:(i:y0i)→y2S i→Prop
 |.uR v way,r=>Trip Tryz.prog 263 [.d (tV v),.d (.sl (List.map (D.int .i64) way))] [] [.d (tV r)] []
theorem v6u:∀i r,uO y0h i=some r→y8o i r:=by
 refine zN y8n fun g ih i=>?_;cases i with
 |uR v way=>
  have w4u:=fun v way r h=>ih (.uR v way) r h;intro r h;replace h:z4u (fun v way=>g (y0i.uR v way)) v way=some r:=h;unfold z4u at h;refine zG 1000 (v7g _ _ _ _ v way) ?_;refine zR (e':=(List.length way:Int)) (by first|rfl|rw[zq3]) ?_;rintro _ rfl;refine zD zq2 h (fun _ h=>?_) (fun _ h=>?_)
  ·cases h;exact⟨rfl,rfl⟩
  obtain⟨x,hx,h⟩:=zC h;refine⟨zF (l:=way) (fun _=>rfl),vO hx,x,zK rfl hx,?_⟩;obtain⟨x1,hx,h⟩:=zC h;refine⟨zF (l:=v.L) (Value.sz),vO hx,x1.N,List.map Value.toD x1.L,zK (Value.toD_eq x1) hx,?_⟩;refine⟨zF (l:=way) (fun _=>rfl),?_⟩;obtain⟨hP,h⟩:=wY h;refine⟨by first|exact hP|simpa using hP,?_⟩;obtain⟨hP,h⟩:=wY h;refine⟨by first|exact hP|simpa using hP,?_⟩;obtain⟨hP,h⟩:=wY h;refine⟨by first|exact hP|simpa using hP,?_⟩
  refine zR (e':=List.map (D.int .i64) (List.drop (Int.toNat 1) (List.take (List.length way) way))) (by first|rfl|simp only[List.map_append,List.map_cons,List.map_nil,List.map_take,List.map_drop,List.map_set,List.map_replicate,zq3]) ?_;obtain⟨q1,g,h⟩:=zC h;refine⟨_,_,⟨_,w4u _ _ _ g⟩,?_⟩;cases h;exact⟨rfl,rfl⟩
theorem v6w(v:Value)(way:List Int)(r:Value)(h:uR v way=some r):y8o (.uR v way) r:=v6u (.uR v way) r h
def y5w:(i:zJ)→y1g i→Prop
 |.zU m s t,r=>Trip Tryz.prog 130 [.d (tT m),.d (tS s),.d (tT t)] [] [.d (tS r)] []
 |.yO n i m s t o6,r=>Ok (y1u (Trip Tryz.prog) [.d (tS r)] []) (kL Tryz.f130 7) ⟨139,[(3,.ref 3 1 0),(4,.ref 4 1 0),(5,.ref 5 1 0),(6,.ref 6 1 0),(7,(nI n)),(8,(nI i))],[(3,1,some (.agg (tT m))),(4,1,some (.agg (tS s))),(5,1,some (.agg (tT t))),(6,1,some (.agg (tS o6)))],[],0⟩
 |.z1t m s t,r=>Trip Tryz.prog 197 [.d (tT m),.d (tS s),.d (tT t)] [] [.d (tS r)] []
 |.vM m s t o6 x root,r=>Ok (y3j (Trip Tryz.prog) [.d (tS r)] []) (kL Tryz.f197 6) ⟨123,[(3,.ref 3 1 0),(4,.ref 4 1 0),(5,.ref 5 1 0),(6,.ref 6 1 0),(7,.ref 7 1 0),(8,.ref 8 1 0)],[(3,1,some (.agg (tT m))),(4,1,some (.agg (tS s))),(5,1,some (.agg (tT t))),(6,1,some (.agg (tS o6))),(7,1,some (.agg (tG x))),(8,1,some (.agg (tT root)))],[],0⟩
 |.zL m s t,r=>Trip Tryz.prog 55 [.d (tT m),.d (tS s),.d (tT t)] [] [.d (tG r)] []
 |.jI m x t,r=>Trip Tryz.prog 198 [.d (tT m),.d (tG x),.d (tT t)] [] [.d (tS r)] []
 |.yD m x t o6,r=>Ok (z9D (Trip Tryz.prog) [.d (tS r)] []) (kL Tryz.f198 1) ⟨36,[(3,.ref 3 1 0),(4,.ref 4 1 0),(5,.ref 5 1 0),(6,.ref 6 1 0)],[(3,1,some (.agg (tT m))),(4,1,some (.agg (tG x))),(5,1,some (.agg (tT t))),(6,1,some (.agg (tS o6)))],[],0⟩
 |.z0N m from_ t,r=>Trip Tryz.prog 199 [.d (tT m),.d (tG from_),.d (tT t)] [] [.d (tS r)] []
 |.wD n i m t o6 to_ s,r=>Ok (y3i (Trip Tryz.prog) [.d (tS r)] []) (kL Tryz.f199 7) ⟨58,[(3,.ref 3 1 0),(5,.ref 5 1 0),(6,.ref 6 1 0),(7,.ref 7 1 0),(8,.ref 8 1 0),(9,(nI n)),(10,(nI i))],[(3,1,some (.agg (tT m))),(5,1,some (.agg (tT t))),(6,1,some (.agg (tS o6))),(7,1,some (.agg (tG to_))),(8,1,some (.agg (tS s)))],[],0⟩
 |.uN m s t kept,r=>Trip Tryz.prog 243 [.d (tT m),.d (tS s),.d (tT t),.d (tV kept)] [] [.own 1 (List.map (D.int .i64) r.1),.d (tS r.2)] []
 |.z1u m s t,r=>Trip Tryz.prog 113 [.d (tT m),.d (tS s),.d (tT t)] [] [.d (tG r)] []
 |.gM m s l,r=>Trip Tryz.prog 114 [.d (tT m),.d (tS s),.d (.sl (List.map zA.toD l))] [] [.d (.sl (List.map Value.toD r.1)),.d (tS r.2)] []
 |.vU l out i m s o7,r=>Ok (y1t (Trip Tryz.prog) [.d (.sl (List.map Value.toD r.1)),.d (tS r.2)] []) (kL Tryz.f114 3) ⟨34,[(2,.d (.sl (List.map zA.toD l))),(3,.ref 3 1 0),(4,.ref 4 1 0),(7,.ref 7 1 0),(8,.right 11 1 2 (List.map Value.toD out)),(9,(nI i))],[(3,1,some (.agg (tT m))),(4,1,some (.agg (tS s))),(7,1,some (.agg (tS o7))),(11,1,some (.tok 2 (List.length (List.map Value.toD out))))],[],0⟩
 |.uC m s f args,r=>Trip Tryz.prog 116 [.d (tT m),.d (tS s),(nI f),.d (.sl (List.map Value.toD args))] [] [.d (tG r)] []
theorem v3K:∀i r,uO yH i=some r→y5w i r:=by
 refine zN uS fun g ih i=>?_;cases i with
 |zU m s t=>
  have w4R:=fun m s t r h=>ih (.zU m s t) r h;have w4S:=fun n i m s t o6 r h=>ih (.yO n i m s t o6) r h;have w4P:=fun m s t r h=>ih (.z1t m s t) r h;have w4I:=fun m s t r h=>ih (.zL m s t) r h;have w4W:=fun m x t r h=>ih (.jI m x t) r h;have w4K:=fun m from_ t r h=>ih (.z0N m from_ t) r h;intro r h
  replace h:jR (fun m s t=>g (zJ.zU m s t)) (fun n i m s t o6=>g (zJ.yO n i m s t o6)) (fun m s t=>g (zJ.z1t m s t)) (fun m s t=>g (zJ.zL m s t)) (fun m x t=>g (zJ.jI m x t)) (fun m from_ t=>g (zJ.z0N m from_ t)) m s t=some r:=h;unfold jR at h;refine zG 1000 (v4V _ _ _ _ m s t) ?_;obtain⟨q1,g,h⟩:=zC h;refine⟨_,_,_,_,_,_,_,_,_,_,⟨_,y3a _ _ g⟩,?_⟩;rintro _ rfl;refine zI zq2 h (fun _ h=>?_) (fun _ h=>?_)
  ·rintro _ rfl;refine zD zq2 h (fun _ h=>?_) (fun _ h=>?_)
   ·refine zR (e':=(List.length q1.Locals:Int)) (by first|rfl|rw[zq3]) ?_;exact w4S _ _ _ _ _ _ _ h
   rintro _ rfl;refine zD zq2 h (fun _ h=>?_) (fun _ h=>?_)
   ·obtain⟨x,hx,h⟩:=zC h;refine⟨zF (l:=t.L) (zA.sz),vO hx,x.K,x.N,x.S,List.map zA.toD x.L,x.From,x.To,zK (zA.toD_eq x) hx,?_⟩;obtain⟨q2,g,h⟩:=zC h;refine⟨_,_,⟨_,y5J _ _ _ g⟩,?_⟩;obtain⟨q3,g,h⟩:=zC h;refine⟨_,_,_,_,_,_,_,_,_,_,⟨_,z9p _ _ _ g⟩,?_⟩;cases h;exact⟨rfl,rfl⟩
   rintro _ rfl;refine zD zq2 h (fun _ h=>?_) (fun _ h=>?_)
   ·obtain⟨q4,g,h⟩:=zC h;refine⟨_,_,_,_,_,_,_,_,_,_,⟨_,w4P _ _ _ _ g⟩,?_⟩;cases h;exact⟨rfl,rfl⟩
   obtain⟨x1,hx,h⟩:=zC h;refine⟨zF (l:=t.L) (zA.sz),vO hx,x1.K,x1.N,x1.S,List.map zA.toD x1.L,x1.From,x1.To,zK (zA.toD_eq x1) hx,?_⟩;obtain⟨q5,g,h⟩:=zC h;refine⟨_,_,_,_,_,_,_,_,_,_,_,_,⟨_,w4I _ _ _ _ g⟩,?_⟩;rintro _ rfl;refine zI zq2 h (fun _ h=>?_) (fun _ h=>?_)
   ·rintro _ rfl;refine zD zq2 h (fun _ h=>?_) (fun _ h=>?_)
    ·obtain⟨q6,g,h⟩:=zC h;refine⟨_,_,_,_,_,_,_,_,_,_,⟨_,z9p _ _ _ g⟩,?_⟩;cases h;exact⟨rfl,rfl⟩
    rintro _ rfl;refine zD zq2 h (fun hc435 h=>?_) (fun hc435 h=>?_)
    ·refine⟨zF (l:=q5.S.Trace) (fun _=>rfl),?_⟩;refine⟨by first|rfl|decide|simp only[zq3,List.length_cons,List.length_nil,List.map_append,List.length_append],?_⟩;obtain⟨hP,h⟩:=wY h;refine⟨by first|exact hP|simpa using hP,?_⟩;refine zR (e':=List.map (D.int .i64) (([]:List Int)++q5.S.Trace)) (by first|rfl|simp only[List.map_append,List.map_cons,List.map_nil,List.map_take,List.map_drop,List.map_set,List.map_replicate,zq3]) ?_;refine⟨by simp[zE,D.cells],?_⟩
     refine⟨by first|rfl|decide|simp only[zq3,List.length_cons,List.length_nil,List.map_append,List.length_append],?_⟩;obtain⟨hP,h⟩:=wY h;refine⟨by first|exact hP|simpa using hP,?_⟩;refine zR (e':=List.map (D.int .i64) ((([]:List Int)++q5.S.Trace)++[q5.V.N])) (by first|rfl|simp only[List.map_append,List.map_cons,List.map_nil,List.map_take,List.map_drop,List.map_set,List.map_replicate,zq3]) ?_;rintro _ rfl;refine jM zq2 (fun e=>absurd (hc435.symm.trans e) (by decide)) ?_;rintro _ rfl
     refine jM zq2 (fun e=>absurd (hc435.symm.trans e) (by decide)) ?_;rintro _ rfl;refine jM zq2 (fun e=>absurd (hc435.symm.trans e) (by decide)) ?_;rintro _ rfl;refine jM zq2 (fun e=>absurd (hc435.symm.trans e) (by decide)) ?_;rintro _ rfl;refine jM zq2 (fun e=>absurd (hc435.symm.trans e) (by decide)) ?_;cases h;exact⟨rfl,rfl⟩
    rintro _ rfl;refine zD zq2 h (fun hc436 h=>?_) (fun hc436 h=>?_)
    ·rintro _ rfl;refine jM zq2 (fun e=>absurd (hc436.symm.trans e) (by decide)) ?_;rintro _ rfl;refine jM zq2 (fun e=>absurd (hc436.symm.trans e) (by decide)) ?_;rintro _ rfl;refine jM zq2 (fun e=>absurd (hc436.symm.trans e) (by decide)) ?_;rintro _ rfl;refine jM zq2 (fun e=>absurd (hc436.symm.trans e) (by decide)) ?_;cases h;exact⟨rfl,rfl⟩
    rintro _ rfl;refine zD zq2 h (fun hc437 h=>?_) (fun hc437 h=>?_)
    ·rintro _ rfl;refine zI zq2 h (fun _ h=>?_) (fun _ h=>?_)
     ·rintro _ rfl;refine z2r zq2 hc437 ?_;obtain⟨x12,hx,h⟩:=zC h;refine⟨zF (l:=t.L) (zA.sz),vO hx,x12.K,x12.N,x12.S,List.map zA.toD x12.L,x12.From,x12.To,zK (zA.toD_eq x12) hx,?_⟩;obtain⟨q29,g,h⟩:=zC h;refine⟨_,_,_,_,_,_,_,_,_,_,⟨_,w4R _ _ _ _ g⟩,?_⟩;cases h;exact⟨rfl,rfl⟩
     obtain⟨x11,hx,h⟩:=zC h;refine⟨zF (l:=t.L) (zA.sz),vO hx,x11.K,x11.N,x11.S,List.map zA.toD x11.L,x11.From,x11.To,zK (zA.toD_eq x11) hx,?_⟩;obtain⟨q28,g,h⟩:=zC h;refine⟨_,_,_,_,_,_,_,_,_,_,⟨_,w4R _ _ _ _ g⟩,?_⟩;cases h;exact⟨rfl,rfl⟩
    rintro _ rfl;refine jM zq2 hc437 ?_;rintro _ rfl;refine zD zq2 h (fun _ h=>?_) (fun _ h=>?_)
    ·obtain⟨q33,g,h⟩:=zC h;refine⟨_,_,_,_,_,_,_,_,_,_,⟨_,w4W _ _ _ _ g⟩,?_⟩;cases h;exact⟨rfl,rfl⟩
    rintro _ rfl;refine zD zq2 h (fun _ h=>?_) (fun _ h=>?_)
    ·obtain⟨q34,g,h⟩:=zC h;refine⟨_,_,_,_,_,_,_,_,_,_,⟨_,w4K _ _ _ _ g⟩,?_⟩;cases h;exact⟨rfl,rfl⟩
    cases h;exact⟨rfl,rfl⟩
   cases h;exact⟨rfl,rfl⟩
  cases h;exact⟨rfl,rfl⟩
 |yO n i m s t o6=>
  have w4R:=fun m s t r h=>ih (.zU m s t) r h;have w4S:=fun n i m s t o6 r h=>ih (.yO n i m s t o6) r h;intro r h;replace h:jU (fun m s t=>g (zJ.zU m s t)) (fun n i m s t o6=>g (zJ.yO n i m s t o6)) n i m s t o6=some r:=h;unfold jU at h;refine jF 1000 (y8b _ _ _ _ n i m s t o6) ?_;refine zR (e':=(List.length t.L:Int)) (by first|rfl|rw[zq3]) ?_;rintro _ rfl;refine zD decide_eq_true_iff h (fun _ h=>?_) (fun _ h=>?_)
  ·obtain⟨x,hx,h⟩:=zC h;refine⟨zF (l:=t.L) (zA.sz),vO hx,x.K,x.N,x.S,List.map zA.toD x.L,x.From,x.To,zK (zA.toD_eq x) hx,?_⟩;obtain⟨q1,g,h⟩:=zC h;refine⟨_,_,_,_,_,_,_,_,_,_,⟨_,w4R _ _ _ _ g⟩,?_⟩;rintro _ rfl;exact w4S _ _ _ _ _ _ _ h
  obtain⟨q2,g,h⟩:=zC h;refine⟨_,_,_,_,_,_,_,_,_,_,⟨_,y8t _ _ _ g⟩,?_⟩;cases h;exact⟨rfl,rfl⟩
 |z1t m s t=>
  have w4Q:=fun m s t o6 x root r h=>ih (.vM m s t o6 x root) r h;have w4I:=fun m s t r h=>ih (.zL m s t) r h;intro r h;replace h:z5F (fun m s t o6 x root=>g (zJ.vM m s t o6 x root)) (fun m s t=>g (zJ.zL m s t)) m s t=some r:=h;unfold z5F at h;refine zG 1000 (v7p _ _ _ _ m s t) ?_;obtain⟨x,hx,h⟩:=zC h;refine⟨zF (l:=t.L) (zA.sz),vO hx,x.K,x.N,x.S,List.map zA.toD x.L,x.From,x.To,zK (zA.toD_eq x) hx,?_⟩;obtain⟨q1,g,h⟩:=zC h;refine⟨_,_,_,_,_,_,_,_,_,_,_,_,⟨_,w4I _ _ _ _ g⟩,?_⟩;rintro _ rfl
  refine zI zq2 h (fun _ h=>?_) (fun _ h=>?_)
  ·obtain⟨x1,hx,h⟩:=zC h;refine⟨zF (l:=t.L) (zA.sz),vO hx,x1.K,x1.N,x1.S,List.map zA.toD x1.L,x1.From,x1.To,zK (zA.toD_eq x1) hx,?_⟩;exact w4Q _ _ _ _ _ _ _ h
  cases h;exact⟨rfl,rfl⟩
 |vM m s t o6 x root=>
  have w4Q:=fun m s t o6 x root r h=>ih (.vM m s t o6 x root) r h;have w4V:=fun m s t kept r h=>ih (.uN m s t kept) r h;intro r h;replace h:z0u (fun m s t o6 x root=>g (zJ.vM m s t o6 x root)) (fun m s t kept=>g (zJ.uN m s t kept)) m s t o6 x root=some r:=h;unfold z0u at h;refine jF 1000 (y9X _ _ _ _ m s t o6 x root) ?_;rintro _ rfl;refine zD zq2 h (fun _ h=>?_) (fun _ h=>?_)
  ·obtain⟨x1,hx,h⟩:=zC h;refine⟨zF (l:=root.L) (zA.sz),vO hx,x1.K,x1.N,x1.S,List.map zA.toD x1.L,x1.From,x1.To,zK (zA.toD_eq x1) hx,?_⟩;exact w4Q _ _ _ _ _ _ _ h
  rintro _ rfl;refine zD zq2 h (fun _ h=>?_) (fun _ h=>?_)
  ·obtain⟨x2,hx,h⟩:=zC h;refine⟨zF (l:=root.L) (zA.sz),vO hx,x2.K,x2.N,x2.S,List.map zA.toD x2.L,x2.From,x2.To,zK (zA.toD_eq x2) hx,?_⟩;exact w4Q _ _ _ _ _ _ _ h
  rintro _ rfl;refine zD zq2 h (fun _ h=>?_) (fun _ h=>?_)
  ·obtain⟨x3,hx,h⟩:=zC h;refine⟨zF (l:=t.L) (zA.sz),vO hx,x3.K,x3.N,x3.S,List.map zA.toD x3.L,x3.From,x3.To,zK (zA.toD_eq x3) hx,?_⟩;obtain⟨x4,hx,h⟩:=zC h;refine⟨zF (l:=s.Globals) (Value.sz),vO hx,x4.N,List.map Value.toD x4.L,zK (Value.toD_eq x4) hx,?_⟩;obtain⟨q1,g,h⟩:=zC h;refine⟨_,_,_,_,_,_,_,_,_,_,_,⟨_,w4V _ _ _ _ _ g⟩,?_⟩;rintro _ rfl;refine zD zq2 h (fun _ h=>?_) (fun _ h=>?_)
   ·obtain⟨x5,hx,h⟩:=zC h;refine⟨zF (l:=q1.2.Globals) (Value.sz),vO hx,x5.N,List.map Value.toD x5.L,zK (Value.toD_eq x5) hx,?_⟩;obtain⟨q2,g,h⟩:=zC h;refine⟨_,_,⟨_,y8s _ _ _ _ g⟩,?_⟩;obtain⟨q3,g,h⟩:=zC h;refine⟨_,⟨_,y5N _ _ _ _ g⟩,?_⟩;cases h;exact⟨rfl,rfl⟩
   cases h;exact⟨rfl,rfl⟩
  refine zR (e':=(List.length s.Locals:Int)) (by first|rfl|rw[zq3]) ?_;rintro _ rfl;rintro _ rfl;obtain⟨x6,hx,h⟩:=zC h;refine⟨zF (l:=t.L) (zA.sz),vO hx,x6.K,x6.N,x6.S,List.map zA.toD x6.L,x6.From,x6.To,zK (zA.toD_eq x6) hx,?_⟩;obtain⟨x7,hx,h⟩:=zC h;refine⟨zF (l:=s.Locals) (Value.sz),vO hx,x7.N,List.map Value.toD x7.L,zK (Value.toD_eq x7) hx,?_⟩;obtain⟨q4,g,h⟩:=zC h;refine⟨_,_,_,_,_,_,_,_,_,_,_,⟨_,w4V _ _ _ _ _ g⟩,?_⟩;rintro _ rfl;refine zD zq2 h (fun _ h=>?_) (fun _ h=>?_)
  ·obtain⟨x8,hx,h⟩:=zC h;refine⟨zF (l:=q4.2.Locals) (Value.sz),vO hx,x8.N,List.map Value.toD x8.L,zK (Value.toD_eq x8) hx,?_⟩;obtain⟨q5,g,h⟩:=zC h;refine⟨_,_,⟨_,y8s _ _ _ _ g⟩,?_⟩;obtain⟨q6,g,h⟩:=zC h;refine⟨_,⟨_,y5N _ _ _ _ g⟩,?_⟩;cases h;exact⟨rfl,rfl⟩
  cases h;exact⟨rfl,rfl⟩
 |zL m s t=>
  have w4T:=fun m s t r h=>ih (.z1u m s t) r h;have w4M:=fun m s l r h=>ih (.gM m s l) r h;have w4H:=fun m s f args r h=>ih (.uC m s f args) r h;intro r h;replace h:uD (fun m s t=>g (zJ.z1u m s t)) (fun m s l=>g (zJ.gM m s l)) (fun m s f args=>g (zJ.uC m s f args)) m s t=some r:=h;unfold uD at h;refine zG 1000 (v4Q _ _ _ _ m s t) ?_;obtain⟨q1,g,h⟩:=zC h;refine⟨_,_,_,_,_,_,_,_,_,_,⟨_,y3a _ _ g⟩,?_⟩;rintro _ rfl;refine zI zq2 h (fun _ h=>?_) (fun _ h=>?_)
  ·rintro _ rfl;refine zD zq2 h (fun _ h=>?_) (fun _ h=>?_)
   ·obtain⟨q3,g,h⟩:=zC h;refine⟨_,_,_,_,_,_,_,_,_,_,_,_,⟨_,z2Y _ _ _ g⟩,?_⟩;cases h;exact⟨rfl,rfl⟩
   rintro _ rfl;refine zD zq2 h (fun _ h=>?_) (fun _ h=>?_)
   ·obtain⟨q4,g,h⟩:=zC h;refine⟨_,_,_,_,_,_,_,_,_,_,_,_,⟨_,z2Y _ _ _ g⟩,?_⟩;cases h;exact⟨rfl,rfl⟩
   rintro _ rfl;refine zD zq2 h (fun _ h=>?_) (fun _ h=>?_)
   ·refine zR (e':=(List.length q1.Locals:Int)) (by first|rfl|rw[zq3]) ?_;rintro _ rfl;rintro _ rfl;obtain⟨x,hx,h⟩:=zC h;refine⟨zF (l:=q1.Locals) (Value.sz),vO hx,x.N,List.map Value.toD x.L,zK (Value.toD_eq x) hx,?_⟩;cases h;exact⟨rfl,rfl⟩
   rintro _ rfl;refine zD zq2 h (fun _ h=>?_) (fun _ h=>?_)
   ·obtain⟨x1,hx,h⟩:=zC h;refine⟨zF (l:=q1.Globals) (Value.sz),vO hx,x1.N,List.map Value.toD x1.L,zK (Value.toD_eq x1) hx,?_⟩;cases h;exact⟨rfl,rfl⟩
   rintro _ rfl;refine zD zq2 h (fun _ h=>?_) (fun _ h=>?_)
   ·obtain⟨x2,hx,h⟩:=zC h;refine⟨zF (l:=m.L) (zA.sz),vO hx,x2.K,x2.N,x2.S,List.map zA.toD x2.L,x2.From,x2.To,zK (zA.toD_eq x2) hx,?_⟩;obtain⟨x3,hx,h⟩:=zC h;refine⟨zF (l:=x2.L) (zA.sz),vO hx,x3.K,x3.N,x3.S,List.map zA.toD x3.L,x3.From,x3.To,zK (zA.toD_eq x3) hx,?_⟩;obtain⟨q5,g,h⟩:=zC h;refine⟨_,_,_,_,_,_,_,_,_,_,_,_,⟨_,z2Y _ _ _ g⟩,?_⟩;cases h;exact⟨rfl,rfl⟩
   rintro _ rfl;refine zD zq2 h (fun hc454 h=>?_) (fun hc454 h=>?_)
   ·refine zR (e':=(List.length q1.Input:Int)) (by first|rfl|rw[zq3]) ?_;rintro _ rfl;refine zD decide_eq_true_iff h (fun _ h=>?_) (fun _ h=>?_)
    ·obtain⟨q6,g,h⟩:=zC h;refine⟨_,_,_,_,_,_,_,_,_,_,_,_,⟨_,z4f _ _ _ g⟩,?_⟩;cases h;exact⟨rfl,rfl⟩
    rintro _ rfl;refine z2r zq2 hc454 ?_;rintro _ rfl;rintro _ rfl;obtain⟨x4,hx,h⟩:=zC h;refine⟨zF (l:=q1.Input) (fun _=>rfl),vO hx,x4,zK rfl hx,?_⟩;obtain⟨q7,g,h⟩:=zC h;refine⟨_,_,_,_,_,_,_,_,_,_,_,_,⟨_,z2Y _ _ _ g⟩,?_⟩;cases h;exact⟨rfl,rfl⟩
   rintro _ rfl;refine jM zq2 hc454 ?_;rintro _ rfl;refine zD zq2 h (fun _ h=>?_) (fun _ h=>?_)
   ·obtain⟨q17,g,h⟩:=zC h;refine⟨_,_,_,_,_,_,_,_,_,_,_,_,⟨_,w4T _ _ _ _ g⟩,?_⟩;cases h;exact⟨rfl,rfl⟩
   obtain⟨q18,g,h⟩:=zC h;refine⟨_,_,_,_,_,_,_,_,_,_,_,⟨_,w4M _ _ _ _ g⟩,?_⟩;rintro _ rfl;refine zI zq2 h (fun _ h=>?_) (fun _ h=>?_)
   ·rintro _ rfl;refine zD zq2 h (fun _ h=>?_) (fun _ h=>?_)
    ·obtain⟨x15,hx,h⟩:=zC h;refine⟨zF (l:=q18.1) (Value.sz),vO hx,x15.N,List.map Value.toD x15.L,zK (Value.toD_eq x15) hx,?_⟩;obtain⟨q20,g,h⟩:=zC h;refine⟨_,⟨_,v6x _ _ _ g⟩,?_⟩;obtain⟨q21,g,h⟩:=zC h;refine⟨_,_,_,_,_,_,_,_,_,_,_,_,⟨_,z2Y _ _ _ g⟩,?_⟩;cases h;exact⟨rfl,rfl⟩
    rintro _ rfl;refine zD zq2 h (fun _ h=>?_) (fun _ h=>?_)
    ·obtain⟨x16,hx,h⟩:=zC h;refine⟨zF (l:=q18.1) (Value.sz),vO hx,x16.N,List.map Value.toD x16.L,zK (Value.toD_eq x16) hx,?_⟩;rintro _ rfl;refine zD decide_eq_true_iff h (fun _ h=>?_) (fun _ h=>?_)
     ·obtain⟨q22,g,h⟩:=zC h;refine⟨_,_,_,_,_,_,_,_,_,_,_,_,⟨_,z4f _ _ _ g⟩,?_⟩;cases h;exact⟨rfl,rfl⟩
     obtain⟨x17,hx,h⟩:=zC h;refine⟨zF (l:=q18.1) (Value.sz),vO hx,x17.N,List.map Value.toD x17.L,zK (Value.toD_eq x17) hx,?_⟩;obtain⟨x18,hx,h⟩:=zC h;refine⟨zF (l:=q18.1) (Value.sz),vO hx,x18.N,List.map Value.toD x18.L,zK (Value.toD_eq x18) hx,?_⟩;refine zR (e':=(List.length x18.L:Int)) (by first|rfl|rw[zq3]) ?_;rintro _ rfl;refine zD decide_eq_true_iff h (fun _ h=>?_) (fun _ h=>?_)
     ·obtain⟨q23,g,h⟩:=zC h;refine⟨_,_,_,_,_,_,_,_,_,_,_,_,⟨_,z4f _ _ _ g⟩,?_⟩;cases h;exact⟨rfl,rfl⟩
     obtain⟨x19,hx,h⟩:=zC h;refine⟨zF (l:=q18.1) (Value.sz),vO hx,x19.N,List.map Value.toD x19.L,zK (Value.toD_eq x19) hx,?_⟩;obtain⟨x20,hx,h⟩:=zC h;refine⟨zF (l:=q18.1) (Value.sz),vO hx,x20.N,List.map Value.toD x20.L,zK (Value.toD_eq x20) hx,?_⟩;obtain⟨x21,hx,h⟩:=zC h;refine⟨zF (l:=x19.L) (Value.sz),vO hx,x21.N,List.map Value.toD x21.L,zK (Value.toD_eq x21) hx,?_⟩;cases h;exact⟨rfl,rfl⟩
    rintro _ rfl;refine zD zq2 h (fun _ h=>?_) (fun _ h=>?_)
    ·obtain⟨x22,hx,h⟩:=zC h;refine⟨zF (l:=q18.1) (Value.sz),vO hx,x22.N,List.map Value.toD x22.L,zK (Value.toD_eq x22) hx,?_⟩;obtain⟨hP,h⟩:=wY h;refine⟨by first|exact hP|simpa using hP,?_⟩;rintro _ rfl;obtain⟨x23,hx,h⟩:=zC h;refine⟨zF (l:=x22.L) (Value.sz),vO hx,x23.N,List.map Value.toD x23.L,zK (Value.toD_eq x23) hx,?_⟩;cases h;exact⟨rfl,rfl⟩
    rintro _ rfl;refine zD zq2 h (fun _ h=>?_) (fun _ h=>?_)
    ·obtain⟨q24,g,h⟩:=zC h;refine⟨_,_,_,_,_,_,_,_,_,_,_,_,⟨_,w4H _ _ _ _ _ g⟩,?_⟩;cases h;exact⟨rfl,rfl⟩
    cases h;exact⟨rfl,rfl⟩
   obtain⟨q19,g,h⟩:=zC h;refine⟨_,_,_,_,_,_,_,_,_,_,_,_,⟨_,z6s _ _ g⟩,?_⟩;cases h;exact⟨rfl,rfl⟩
  obtain⟨q2,g,h⟩:=zC h;refine⟨_,_,_,_,_,_,_,_,_,_,_,_,⟨_,z6s _ _ g⟩,?_⟩;cases h;exact⟨rfl,rfl⟩
 |jI m x t=>
  have w4X:=fun m x t o6 r h=>ih (.yD m x t o6) r h;intro r h;replace h:z3o (fun m x t o6=>g (zJ.yD m x t o6)) m x t=some r:=h;unfold z3o at h;refine zG 1000 (v2B _ _ _ _ m x t) ?_;exact w4X _ _ _ _ _ h
 |yD m x t o6=>
  have w4R:=fun m s t r h=>ih (.zU m s t) r h;have w4I:=fun m s t r h=>ih (.zL m s t) r h;have w4X:=fun m x t o6 r h=>ih (.yD m x t o6) r h;intro r h;replace h:jY (fun m s t=>g (zJ.zU m s t)) (fun m s t=>g (zJ.zL m s t)) (fun m x t o6=>g (zJ.yD m x t o6)) m x t o6=some r:=h;unfold jY at h;refine jF 1000 (y6H _ _ _ _ m x t o6) ?_;rintro _ rfl;refine zD zq2 h (fun _ h=>?_) (fun _ h=>?_)
  ·rintro _ rfl;refine zI zq2 h (fun _ h=>?_) (fun _ h=>?_)
   ·cases h;exact⟨rfl,rfl⟩
   obtain⟨x1,hx,h⟩:=zC h;refine⟨zF (l:=t.L) (zA.sz),vO hx,x1.K,x1.N,x1.S,List.map zA.toD x1.L,x1.From,x1.To,zK (zA.toD_eq x1) hx,?_⟩;obtain⟨q1,g,h⟩:=zC h;refine⟨_,_,_,_,_,_,_,_,_,_,⟨_,w4R _ _ _ _ g⟩,?_⟩;obtain⟨x2,hx,h⟩:=zC h;refine⟨zF (l:=t.L) (zA.sz),vO hx,x2.K,x2.N,x2.S,List.map zA.toD x2.L,x2.From,x2.To,zK (zA.toD_eq x2) hx,?_⟩;obtain⟨q2,g,h⟩:=zC h;refine⟨_,_,_,_,_,_,_,_,_,_,_,_,⟨_,w4I _ _ _ _ g⟩,?_⟩;exact w4X _ _ _ _ _ h
  cases h;exact⟨rfl,rfl⟩
 |z0N m from_ t=>
  have w4I:=fun m s t r h=>ih (.zL m s t) r h;have w4L:=fun n i m t o6 to_ s r h=>ih (.wD n i m t o6 to_ s) r h;intro r h;replace h:z5E (fun m s t=>g (zJ.zL m s t)) (fun n i m t o6 to_ s=>g (zJ.wD n i m t o6 to_ s)) m from_ t=some r:=h;unfold z5E at h;refine zG 1000 (v7m _ _ _ _ m from_ t) ?_;obtain⟨x,hx,h⟩:=zC h;refine⟨zF (l:=t.L) (zA.sz),vO hx,x.K,x.N,x.S,List.map zA.toD x.L,x.From,x.To,zK (zA.toD_eq x) hx,?_⟩;obtain⟨q1,g,h⟩:=zC h;refine⟨_,_,_,_,_,_,_,_,_,_,_,_,⟨_,w4I _ _ _ _ g⟩,?_⟩
  rintro _ rfl;refine zI zq2 h (fun _ h=>?_) (fun _ h=>?_)
  ·refine zR (e':=(List.length q1.S.Locals:Int)) (by first|rfl|rw[zq3]) ?_;exact w4L _ _ _ _ _ _ _ _ h
  cases h;exact⟨rfl,rfl⟩
 |wD n i m t o6 to_ s=>
  have w4R:=fun m s t r h=>ih (.zU m s t) r h;have w4L:=fun n i m t o6 to_ s r h=>ih (.wD n i m t o6 to_ s) r h;intro r h;replace h:gO (fun m s t=>g (zJ.zU m s t)) (fun n i m t o6 to_ s=>g (zJ.wD n i m t o6 to_ s)) n i m t o6 to_ s=some r:=h;unfold gO at h;refine jF 1000 (y9W _ _ _ _ n i m t o6 to_ s) ?_;obtain⟨q1,g,h⟩:=zC h;refine⟨_,_,_,_,_,_,_,_,_,_,⟨_,y3a _ _ g⟩,?_⟩;rintro _ rfl;refine zI zq2 h (fun _ h=>?_) (fun _ h=>?_)
  ·rintro _ rfl;refine zD decide_eq_true_iff h (fun _ h=>?_) (fun _ h=>?_)
   ·cases h;exact⟨rfl,rfl⟩
   obtain⟨q2,g,h⟩:=zC h;refine⟨_,_,_,_,_,_,_,_,_,_,⟨_,z9p _ _ _ g⟩,?_⟩;obtain⟨x,hx,h⟩:=zC h;refine⟨zF (l:=t.L) (zA.sz),vO hx,x.K,x.N,x.S,List.map zA.toD x.L,x.From,x.To,zK (zA.toD_eq x) hx,?_⟩;obtain⟨q3,g,h⟩:=zC h;refine⟨_,_,_,_,_,_,_,_,_,_,⟨_,w4R _ _ _ _ g⟩,?_⟩;obtain⟨q4,g,h⟩:=zC h;refine⟨_,_,_,_,_,_,_,_,_,_,⟨_,y8t _ _ _ g⟩,?_⟩;rintro _ rfl;exact w4L _ _ _ _ _ _ _ _ h
  cases h;exact⟨rfl,rfl⟩
 |uN m s t kept=>
  have w4I:=fun m s t r h=>ih (.zL m s t) r h;have w4V:=fun m s t kept r h=>ih (.uN m s t kept) r h;intro r h;replace h:z3n (fun m s t=>g (zJ.zL m s t)) (fun m s t kept=>g (zJ.uN m s t kept)) m s t kept=some r:=h;unfold z3n at h;refine zG 1000 (v7r _ _ _ _ m s t kept) ?_;rintro _ rfl;refine zI zq2 h (fun hc469 h=>?_) (fun hc469 h=>?_)
  ·obtain⟨x2,hx,h⟩:=zC h;refine⟨zF (l:=t.L) (zA.sz),vO hx,x2.K,x2.N,x2.S,List.map zA.toD x2.L,x2.From,x2.To,zK (zA.toD_eq x2) hx,?_⟩;obtain⟨q6,g,h⟩:=zC h;refine⟨_,_,_,_,_,_,_,_,_,_,_,⟨_,w4V _ _ _ _ _ g⟩,?_⟩;rintro _ rfl;refine zI zq2 h (fun _ h=>?_) (fun _ h=>?_)
   ·rintro _ rfl;refine jM zq2 (fun e=>absurd (hc469.symm.trans e) (by decide)) ?_;obtain⟨x3,hx,h⟩:=zC h;refine⟨zF (l:=t.L) (zA.sz),vO hx,x3.K,x3.N,x3.S,List.map zA.toD x3.L,x3.From,x3.To,zK (zA.toD_eq x3) hx,?_⟩;obtain⟨q7,g,h⟩:=zC h;refine⟨_,_,_,_,_,_,_,_,_,_,_,_,⟨_,w4I _ _ _ _ g⟩,?_⟩;rintro _ rfl;refine zI zq2 h (fun _ h=>?_) (fun _ h=>?_)
    ·rintro _ rfl;refine zD decide_eq_true_iff h (fun _ h=>?_) (fun _ h=>?_)
     ·obtain⟨q8,g,h⟩:=zC h;refine⟨_,_,_,_,_,_,_,_,_,_,_,_,⟨_,z4f _ _ _ g⟩,?_⟩;refine⟨by first|rfl|decide|simp only[zq3,List.length_cons,List.length_nil,List.map_append,List.length_append],?_⟩;cases h;exact⟨rfl,rfl⟩
     obtain⟨q9,g,h⟩:=zC h;refine⟨_,_,⟨_,v6w _ _ _ g⟩,?_⟩;refine zR (e':=(List.length q9.L:Int)) (by first|rfl|rw[zq3]) ?_;rintro _ rfl;refine zD decide_eq_true_iff h (fun _ h=>?_) (fun _ h=>?_)
     ·obtain⟨q10,g,h⟩:=zC h;refine⟨_,_,_,_,_,_,_,_,_,_,_,_,⟨_,z4f _ _ _ g⟩,?_⟩;refine⟨by first|rfl|decide|simp only[zq3,List.length_cons,List.length_nil,List.map_append,List.length_append],?_⟩;cases h;exact⟨rfl,rfl⟩
     refine⟨by simp[zE,D.cells],?_⟩;refine⟨by first|rfl|decide|simp only[zq3,List.length_cons,List.length_nil,List.map_append,List.length_append],?_⟩;obtain⟨hP,h⟩:=wY h;refine⟨by first|exact hP|simpa using hP,?_⟩;refine zR (e':=List.map (D.int .i64) (q6.1++[q7.V.N])) (by first|rfl|simp only[List.map_append,List.map_cons,List.map_nil,List.map_take,List.map_drop,List.map_set,List.map_replicate,zq3]) ?_
     refine⟨by first|rfl|decide|simp only[zq3,List.length_cons,List.length_nil,List.map_append,List.length_append],?_⟩;cases h;exact⟨rfl,rfl⟩
    refine⟨by first|rfl|decide|simp only[zq3,List.length_cons,List.length_nil,List.map_append,List.length_append],?_⟩;cases h;exact⟨rfl,rfl⟩
   refine⟨by first|rfl|decide|simp only[zq3,List.length_cons,List.length_nil,List.map_append,List.length_append],?_⟩;cases h;exact⟨rfl,rfl⟩
  rintro _ rfl;refine zI zq2 h (fun hc474 h=>?_) (fun hc474 h=>?_)
  ·obtain⟨x,hx,h⟩:=zC h;refine⟨zF (l:=t.L) (zA.sz),vO hx,x.K,x.N,x.S,List.map zA.toD x.L,x.From,x.To,zK (zA.toD_eq x) hx,?_⟩;obtain⟨q1,g,h⟩:=zC h;refine⟨_,_,_,_,_,_,_,_,_,_,_,⟨_,w4V _ _ _ _ _ g⟩,?_⟩;rintro _ rfl;refine zI zq2 h (fun _ h=>?_) (fun _ h=>?_)
   ·rintro _ rfl;refine z2r zq2 hc474 ?_;obtain⟨hP,h⟩:=wY h;refine⟨by first|exact hP|simpa using hP,?_⟩;rintro _ rfl;refine⟨by simp[zE,D.cells],?_⟩;refine⟨by first|rfl|decide|simp only[zq3,List.length_cons,List.length_nil,List.map_append,List.length_append],?_⟩;obtain⟨hP,h⟩:=wY h;refine⟨by first|exact hP|simpa using hP,?_⟩
    refine zR (e':=List.map (D.int .i64) (q1.1++[Int.tmod t.N 64])) (by first|rfl|simp only[List.map_append,List.map_cons,List.map_nil,List.map_take,List.map_drop,List.map_set,List.map_replicate,zq3]) ?_;refine⟨by first|rfl|decide|simp only[zq3,List.length_cons,List.length_nil,List.map_append,List.length_append],?_⟩;cases h;exact⟨rfl,rfl⟩
   refine⟨by first|rfl|decide|simp only[zq3,List.length_cons,List.length_nil,List.map_append,List.length_append],?_⟩;cases h;exact⟨rfl,rfl⟩
  refine⟨by first|rfl|decide|simp only[zq3,List.length_cons,List.length_nil,List.map_append,List.length_append],?_⟩;cases h;exact⟨rfl,rfl⟩
 |z1u m s t=>
  have w4I:=fun m s t r h=>ih (.zL m s t) r h;intro r h;replace h:z5G (fun m s t=>g (zJ.zL m s t)) m s t=some r:=h;unfold z5G at h;refine zG 1000 (v7q _ _ _ _ m s t) ?_;obtain⟨x,hx,h⟩:=zC h;refine⟨zF (l:=t.L) (zA.sz),vO hx,x.K,x.N,x.S,List.map zA.toD x.L,x.From,x.To,zK (zA.toD_eq x) hx,?_⟩;obtain⟨q1,g,h⟩:=zC h;refine⟨_,_,_,_,_,_,_,_,_,_,_,_,⟨_,w4I _ _ _ _ g⟩,?_⟩;rintro _ rfl;refine zI zq2 h (fun _ h=>?_) (fun _ h=>?_)
  ·rintro _ rfl;refine zD zq2 h (fun hc477 h=>?_) (fun hc477 h=>?_)
   ·rintro _ rfl;refine zD zq2 h (fun _ h=>?_) (fun _ h=>?_)
    ·obtain⟨q3,g,h⟩:=zC h;refine⟨_,_,_,_,_,_,_,_,_,_,_,_,⟨_,z2Y _ _ _ g⟩,?_⟩;cases h;exact⟨rfl,rfl⟩
    rintro _ rfl;refine jM zq2 (fun e=>absurd (hc477.symm.trans e) (by decide)) ?_;obtain⟨x2,hx,h⟩:=zC h;refine⟨zF (l:=t.L) (zA.sz),vO hx,x2.K,x2.N,x2.S,List.map zA.toD x2.L,x2.From,x2.To,zK (zA.toD_eq x2) hx,?_⟩;obtain⟨q9,g,h⟩:=zC h;refine⟨_,_,_,_,_,_,_,_,_,_,_,_,⟨_,w4I _ _ _ _ g⟩,?_⟩;rintro _ rfl;refine zI zq2 h (fun _ h=>?_) (fun _ h=>?_)
    ·rintro _ rfl;refine z2r zq2 hc477 ?_;cases h;exact⟨rfl,rfl⟩
    cases h;exact⟨rfl,rfl⟩
   rintro _ rfl;refine zD zq2 h (fun hc480 h=>?_) (fun hc480 h=>?_)
   ·rintro _ rfl;refine zI zq2 h (fun _ h=>?_) (fun _ h=>?_)
    ·obtain⟨x3,hx,h⟩:=zC h;refine⟨zF (l:=t.L) (zA.sz),vO hx,x3.K,x3.N,x3.S,List.map zA.toD x3.L,x3.From,x3.To,zK (zA.toD_eq x3) hx,?_⟩;obtain⟨q14,g,h⟩:=zC h;refine⟨_,_,_,_,_,_,_,_,_,_,_,_,⟨_,w4I _ _ _ _ g⟩,?_⟩;rintro _ rfl;refine zI zq2 h (fun _ h=>?_) (fun _ h=>?_)
     ·rintro _ rfl;refine jM zq2 hc477 ?_;rintro _ rfl;refine z2r zq2 hc480 ?_;cases h;exact⟨rfl,rfl⟩
     cases h;exact⟨rfl,rfl⟩
    obtain⟨q13,g,h⟩:=zC h;refine⟨_,_,_,_,_,_,_,_,_,_,_,_,⟨_,z2Y _ _ _ g⟩,?_⟩;cases h;exact⟨rfl,rfl⟩
   obtain⟨x4,hx,h⟩:=zC h;refine⟨zF (l:=t.L) (zA.sz),vO hx,x4.K,x4.N,x4.S,List.map zA.toD x4.L,x4.From,x4.To,zK (zA.toD_eq x4) hx,?_⟩;obtain⟨q18,g,h⟩:=zC h;refine⟨_,_,_,_,_,_,_,_,_,_,_,_,⟨_,w4I _ _ _ _ g⟩,?_⟩;rintro _ rfl;refine zI zq2 h (fun _ h=>?_) (fun _ h=>?_)
   ·rintro _ rfl;refine jM zq2 hc477 ?_;rintro _ rfl;refine jM zq2 hc480 ?_;obtain⟨q19,g,h⟩:=zC h;refine⟨_,_,⟨_,v6y _ _ _ _ g⟩,?_⟩;rintro _ rfl;refine zI zq2 h (fun _ h=>?_) (fun _ h=>?_)
    ·obtain⟨q21,g,h⟩:=zC h;refine⟨_,_,_,_,_,_,_,_,_,_,_,_,⟨_,z2Y _ _ _ g⟩,?_⟩;cases h;exact⟨rfl,rfl⟩
    obtain⟨q20,g,h⟩:=zC h;refine⟨_,_,_,_,_,_,_,_,_,_,_,_,⟨_,z4f _ _ _ g⟩,?_⟩;cases h;exact⟨rfl,rfl⟩
   cases h;exact⟨rfl,rfl⟩
  obtain⟨q2,g,h⟩:=zC h;refine⟨_,_,_,_,_,_,_,_,_,_,_,_,⟨_,z6s _ _ g⟩,?_⟩;cases h;exact⟨rfl,rfl⟩
 |gM m s l=>
  have w4N:=fun l out i m s o7 r h=>ih (.vU l out i m s o7) r h;intro r h;replace h:z4w (fun l out i m s o7=>g (zJ.vU l out i m s o7)) m s l=some r:=h;unfold z4w at h;refine zG 1000 (v4T _ _ _ _ m s l) ?_;exact w4N _ _ _ _ _ _ _ h
 |vU l out i m s o7=>
  have w4I:=fun m s t r h=>ih (.zL m s t) r h;have w4N:=fun l out i m s o7 r h=>ih (.vU l out i m s o7) r h;intro r h;replace h:z0K (fun m s t=>g (zJ.zL m s t)) (fun l out i m s o7=>g (zJ.vU l out i m s o7)) l out i m s o7=some r:=h;unfold z0K at h;refine jF 1000 (y7Z _ _ _ _ l out i m s o7) ?_;refine zR (e':=(List.length l:Int)) (by first|rfl|rw[zq3]) ?_;rintro _ rfl;refine zD decide_eq_true_iff h (fun _ h=>?_) (fun _ h=>?_)
  ·obtain⟨x,hx,h⟩:=zC h;refine⟨zF (l:=l) (zA.sz),vO hx,x.K,x.N,x.S,List.map zA.toD x.L,x.From,x.To,zK (zA.toD_eq x) hx,?_⟩;obtain⟨q1,g,h⟩:=zC h;refine⟨_,_,_,_,_,_,_,_,_,_,_,_,⟨_,w4I _ _ _ _ g⟩,?_⟩;refine⟨by simp[zE,D.cells],?_⟩;refine⟨by first|rfl|decide|simp only[zq3,List.length_cons,List.length_nil,List.map_append,List.length_append],?_⟩;obtain⟨hP,h⟩:=wY h;refine⟨by first|exact hP|simpa using hP,?_⟩
   refine zR (e':=List.map Value.toD (out++[q1.V])) (by first|rfl|simp only[List.map_append,List.map_cons,List.map_nil,List.map_take,List.map_drop,List.map_set,List.map_replicate,zq3,Value.toD_eq]) ?_;rintro _ rfl;exact w4N _ _ _ _ _ _ _ h
  cases h;exact⟨rfl,rfl⟩
 |uC m s f args=>
  have w4R:=fun m s t r h=>ih (.zU m s t) r h;intro r h;replace h:z2n (fun m s t=>g (zJ.zU m s t)) m s f args=some r:=h;unfold z2n at h;refine zG 1000 (y9V _ _ _ _ m s f args) ?_;obtain⟨x,hx,h⟩:=zC h;refine⟨zF (l:=m.L) (zA.sz),vO hx,x.K,x.N,x.S,List.map zA.toD x.L,x.From,x.To,zK (zA.toD_eq x) hx,?_⟩;obtain⟨x1,hx,h⟩:=zC h;refine⟨zF (l:=x.L) (zA.sz),vO hx,x1.K,x1.N,x1.S,List.map zA.toD x1.L,x1.From,x1.To,zK (zA.toD_eq x1) hx,?_⟩;obtain⟨q1,g,h⟩:=zC h;refine⟨_,_,_,_,_,_,_,_,_,_,⟨_,w4R _ _ _ _ g⟩,?_⟩
  rintro _ rfl;refine zD zq2 h (fun _ h=>?_) (fun _ h=>?_)
  ·cases h;exact⟨rfl,rfl⟩
  rintro _ rfl;refine zI zq2 h (fun _ h=>?_) (fun _ h=>?_)
  ·obtain⟨x2,hx,h⟩:=zC h;refine⟨zF (l:=m.L) (zA.sz),vO hx,x2.K,x2.N,x2.S,List.map zA.toD x2.L,x2.From,x2.To,zK (zA.toD_eq x2) hx,?_⟩;obtain⟨x3,hx,h⟩:=zC h;refine⟨zF (l:=x2.L) (zA.sz),vO hx,x3.K,x3.N,x3.S,List.map zA.toD x3.L,x3.From,x3.To,zK (zA.toD_eq x3) hx,?_⟩;obtain⟨q3,g,h⟩:=zC h;refine⟨_,_,⟨_,y5J _ _ _ g⟩,?_⟩;cases h;exact⟨rfl,rfl⟩
  obtain⟨q2,g,h⟩:=zC h;refine⟨_,_,_,_,_,_,_,_,_,_,_,_,⟨_,z6s _ _ g⟩,?_⟩;cases h;exact⟨rfl,rfl⟩
theorem y5O(m:zA)(s:State)(t:zA)(r:State)(h:zU m s t=some r):y5w (.zU m s t) r:=v3K (.zU m s t) r h
def z6M:(i:z2c)→z4d i→Prop
 |.yG a b i,r=>Ok (z6B (Trip Tryz.prog) [(nB r)] []) (kL Tryz.f57 4) ⟨26,[(0,.d (.sl (List.map (D.int .i64) a))),(1,.d (.sl (List.map (D.int .i64) b))),(5,(nI i))],[],[],0⟩
theorem y2R:∀i r,uO z2b i=some r→z6M i r:=by
 refine zN z6K fun g ih i=>?_;cases i with
 |yG a b i=>
  have w4O:=fun a b i r h=>ih (.yG a b i) r h;intro r h;replace h:jQ (fun a b i=>g (z2c.yG a b i)) a b i=some r:=h;unfold jQ at h;refine jF 1000 (y3r _ _ _ _ a b i) ?_;refine zR (e':=(List.length a:Int)) (by first|rfl|rw[zq3]) ?_;rintro _ rfl;refine zD decide_eq_true_iff h (fun _ h=>?_) (fun _ h=>?_)
  ·obtain⟨x,hx,h⟩:=zC h;refine⟨zF (l:=a) (fun _=>rfl),vO hx,x,zK rfl hx,?_⟩;obtain⟨x1,hx,h⟩:=zC h;refine⟨zF (l:=b) (fun _=>rfl),vO hx,x1,zK rfl hx,?_⟩;rintro _ rfl;refine zI zq2 h (fun _ h=>?_) (fun _ h=>?_)
   ·rintro _ rfl;exact w4O _ _ _ _ h
   cases h;exact⟨rfl,rfl⟩
  cases h;exact⟨rfl,rfl⟩
theorem y2Z(a b:List Int)(i:Int)(r:Bool)(h:yG a b i=some r):z6M (.yG a b i) r:=y2R (.yG a b i) r h
theorem y0E(a b:List Int)(r:Bool)(h:z3m a b=some r):Trip Tryz.prog 57 [.d (.sl (List.map (D.int .i64) a)),.d (.sl (List.map (D.int .i64) b))] [] [(nB r)] []:=by
 unfold z3m at h;refine zG 1000 (y8a _ _ _ _ a b) ?_;refine zR (e':=(List.length a:Int)) (by first|rfl|rw[zq3]) ?_;refine zR (e':=(List.length b:Int)) (by first|rfl|rw[zq3]) ?_;rintro _ rfl;refine zI zq2 h (fun _ h=>?_) (fun _ h=>?_)
 ·exact y2Z _ _ _ _ h
 cases h;exact⟨rfl,rfl⟩
def z8w:(i:z2J)→z5i i→Prop
 |.yS a b i,r=>Ok (z7P (Trip Tryz.prog) [(nB r)] []) (kL Tryz.f56 4) ⟨27,[(0,.d (.sl (List.map Value.toD a))),(1,.d (.sl (List.map Value.toD b))),(5,(nI i))],[],[],0⟩
theorem y4n:∀i r,uO z2C i=some r→z8w i r:=by
 refine zN z8o fun g ih i=>?_;cases i with
 |yS a b i=>
  have w4U:=fun a b i r h=>ih (.yS a b i) r h;intro r h;replace h:gJ (fun a b i=>g (z2J.yS a b i)) a b i=some r:=h;unfold gJ at h;refine jF 1000 (y4O _ _ _ _ a b i) ?_;refine zR (e':=(List.length a:Int)) (by first|rfl|rw[zq3]) ?_;rintro _ rfl;refine zD decide_eq_true_iff h (fun _ h=>?_) (fun _ h=>?_)
  ·obtain⟨x,hx,h⟩:=zC h;refine⟨zF (l:=a) (Value.sz),vO hx,x.N,List.map Value.toD x.L,zK (Value.toD_eq x) hx,?_⟩;obtain⟨x1,hx,h⟩:=zC h;refine⟨zF (l:=b) (Value.sz),vO hx,x1.N,List.map Value.toD x1.L,zK (Value.toD_eq x1) hx,?_⟩;obtain⟨q1,g,h⟩:=zC h;refine⟨_,⟨_,z5U _ _ _ g⟩,?_⟩;refine zI Iff.rfl h (fun _ h=>?_) (fun _ h=>?_)
   ·rintro _ rfl;exact w4U _ _ _ _ h
   cases h;exact⟨rfl,rfl⟩
  cases h;exact⟨rfl,rfl⟩
theorem y4x(a b:List Value)(i:Int)(r:Bool)(h:yS a b i=some r):z8w (.yS a b i) r:=y4n (.yS a b i) r h
theorem y1S(a b:List Value)(r:Bool)(h:z4x a b=some r):Trip Tryz.prog 56 [.d (.sl (List.map Value.toD a)),.d (.sl (List.map Value.toD b))] [] [(nB r)] []:=by
 unfold z4x at h;refine zG 1000 (y9Y _ _ _ _ a b) ?_;refine zR (e':=(List.length a:Int)) (by first|rfl|rw[zq3]) ?_;refine zR (e':=(List.length b:Int)) (by first|rfl|rw[zq3]) ?_;rintro _ rfl;refine zI zq2 h (fun _ h=>?_) (fun _ h=>?_)
 ·exact y4x _ _ _ _ h
 cases h;exact⟨rfl,rfl⟩
theorem v3X(a b:State)(r:Bool)(h:y2E a b=some r):Trip Tryz.prog 19 [.d (tS a),.d (tS b)] [] [(nB r)] []:=by
 unfold y2E at h;refine zG 1000 (v4U _ _ _ _ a b) ?_;obtain⟨q1,g,h⟩:=zC h;refine⟨_,⟨_,y1S _ _ _ g⟩,?_⟩;refine zD Iff.rfl h (fun _ h=>?_) (fun _ h=>?_)
 ·obtain⟨q2,g,h⟩:=zC h;refine⟨_,⟨_,y1S _ _ _ g⟩,?_⟩;refine zD Iff.rfl h (fun _ h=>?_) (fun _ h=>?_)
  ·obtain⟨q3,g,h⟩:=zC h;refine⟨_,⟨_,y0E _ _ _ g⟩,?_⟩;refine zD Iff.rfl h (fun _ h=>?_) (fun _ h=>?_)
   ·rintro _ rfl;refine zD zq2 h (fun _ h=>?_) (fun _ h=>?_)
    ·obtain⟨q4,g,h⟩:=zC h;refine⟨_,⟨_,y0E _ _ _ g⟩,?_⟩;refine zD Iff.rfl h (fun _ h=>?_) (fun _ h=>?_)
     ·rintro _ rfl;refine zD zq2 h (fun _ h=>?_) (fun _ h=>?_)
      ·rintro _ rfl;refine zD zq2 h (fun _ h=>?_) (fun _ h=>?_)
       ·rintro _ rfl;refine zD zq2 h (fun _ h=>?_) (fun _ h=>?_)
        ·obtain⟨q5,g,h⟩:=zC h;refine⟨_,⟨_,z5U _ _ _ g⟩,?_⟩;cases h;exact⟨rfl,rfl⟩
        cases h;exact⟨rfl,rfl⟩
       cases h;exact⟨rfl,rfl⟩
      cases h;exact⟨rfl,rfl⟩
     cases h;exact⟨rfl,rfl⟩
    cases h;exact⟨rfl,rfl⟩
   cases h;exact⟨rfl,rfl⟩
  cases h;exact⟨rfl,rfl⟩
 cases h;exact⟨rfl,rfl⟩
theorem v3Y(a b:State)(r:Bool)(h:y0d a b=some r):Trip Tryz.prog 124 [.d (tS a),.d (tS b)] [] [(nB r)] []:=by
 unfold y0d at h;refine zG 1000 (v4X _ _ _ _ a b) ?_;obtain⟨q1,g,h⟩:=zC h;refine⟨_,⟨_,v3X _ _ _ g⟩,?_⟩;cases h;exact⟨rfl,rfl⟩
theorem y1T(m:zA)(s:State)(l r_:zA)(r:Bool)(h:z4y m s l r_=some r):Trip Tryz.prog 76 [.d (tT m),.d (tS s),.d (tT l),.d (tT r_)] [] [(nB r)] []:=by
 unfold z4y at h;refine zG 1000 (y9Z _ _ _ _ m s l r_) ?_;obtain⟨q1,g,h⟩:=zC h;refine⟨_,_,_,_,_,_,_,_,_,_,⟨_,y5O _ _ _ _ g⟩,?_⟩;rintro _ rfl;refine zD zq2 h (fun _ h=>?_) (fun _ h=>?_)
 ·cases h;exact⟨rfl,rfl⟩
 rintro _ rfl;rintro _ rfl;obtain⟨q2,g,h⟩:=zC h;refine⟨_,⟨_,y5C _ _ g⟩,?_⟩;rintro _ rfl;obtain⟨q3,g,h⟩:=zC h;refine⟨_,⟨_,y5C _ _ g⟩,?_⟩;rintro _ rfl;rintro _ rfl;rintro _ rfl;refine zD decide_eq_true_iff h (fun _ h=>?_) (fun _ h=>?_)
 ·cases h;exact⟨rfl,rfl⟩
 obtain⟨q4,g,h⟩:=zC h;refine⟨_,_,_,_,_,_,_,_,_,_,⟨_,y5O _ _ _ _ g⟩,?_⟩;obtain⟨q5,g,h⟩:=zC h;refine⟨_,⟨_,v3Y _ _ _ g⟩,?_⟩;cases h;exact⟨rfl,rfl⟩
theorem v1o(c:Ref28Rule)(r:Bool)(h:z7n c=some r):Trip Tryz.prog 31 [.d (.agg [(.int .i64 c.M.K),(.int .i64 c.M.N),(.str c.M.S),(.sl (List.map zA.toD c.M.L)),(.int .i64 c.M.From),(.int .i64 c.M.To),(.sl (List.map zA.toD c.Types)),(.int .i64 c.Ret.K),(.int .i64 c.Ret.N),(.str c.Ret.S),(.sl (List.map zA.toD c.Ret.L)),(.int .i64 c.Ret.From),(.int .i64 c.Ret.To),(.sl (List.map Value.toD c.S.Globals)),(.sl (List.map Value.toD c.S.Locals)),(.sl (List.map (D.int .i64) c.S.Input)),(.int .i64 c.S.At),(.sl (List.map (D.int .i64) c.S.Trace)),(.int .i64 c.S.Fuel),(.int .i64 c.S.Kind),(.int .i64 c.S.N),(.int .i64 c.S.Ret.N),(.sl (List.map Value.toD c.S.Ret.L)),(.int .i64 c.Rule),(.sl (List.map (D.int .i64) c.Nums)),(.int .i64 c.L.K),(.int .i64 c.L.N),(.str c.L.S),(.sl (List.map zA.toD c.L.L)),(.int .i64 c.L.From),(.int .i64 c.L.To),(.int .i64 c.R.K),(.int .i64 c.R.N),(.str c.R.S),(.sl (List.map zA.toD c.R.L)),(.int .i64 c.R.From),(.int .i64 c.R.To)])] [] [(nB r)] []:=by
 unfold z7n at h;refine zG 1000 (v2F _ _ _ _ c) ?_;obtain⟨q1,g,h⟩:=zC h;refine⟨_,⟨_,v1i _ _ g⟩,?_⟩;refine zI Iff.rfl h (fun _ h=>?_) (fun _ h=>?_)
 ·obtain⟨q2,g,h⟩:=zC h;refine⟨_,⟨_,v3W _ _ _ g⟩,?_⟩;refine zI Iff.rfl h (fun _ h=>?_) (fun _ h=>?_)
  ·obtain⟨q3,g,h⟩:=zC h;refine⟨_,⟨_,v6z _ _ _ _ g⟩,?_⟩;refine zI Iff.rfl h (fun _ h=>?_) (fun _ h=>?_)
   ·obtain⟨q4,g,h⟩:=zC h;refine⟨_,⟨_,y5Q _ _ _ g⟩,?_⟩;refine zI Iff.rfl h (fun _ h=>?_) (fun _ h=>?_)
    ·obtain⟨q5,g,h⟩:=zC h;refine⟨_,⟨_,y5Q _ _ _ g⟩,?_⟩;refine zI Iff.rfl h (fun _ h=>?_) (fun _ h=>?_)
     ·obtain⟨q6,g,h⟩:=zC h;refine⟨_,⟨_,y1T _ _ _ _ _ g⟩,?_⟩;refine zD Iff.rfl h (fun _ h=>?_) (fun _ h=>?_)
      ·obtain⟨q7,g,h⟩:=zC h;refine⟨_,⟨_,y1T _ _ _ _ _ g⟩,?_⟩;cases h;exact⟨rfl,rfl⟩
      cases h;exact⟨rfl,rfl⟩
     cases h;exact⟨rfl,rfl⟩
    cases h;exact⟨rfl,rfl⟩
   cases h;exact⟨rfl,rfl⟩
  cases h;exact⟨rfl,rfl⟩
 cases h;exact⟨rfl,rfl⟩
theorem y4q(c:Ref28Rule)(r:Bool)(h:z4J c=some r):Trip Tryz.prog 6 [.d (.agg [(.int .i64 c.M.K),(.int .i64 c.M.N),(.str c.M.S),(.sl (List.map zA.toD c.M.L)),(.int .i64 c.M.From),(.int .i64 c.M.To),(.sl (List.map zA.toD c.Types)),(.int .i64 c.Ret.K),(.int .i64 c.Ret.N),(.str c.Ret.S),(.sl (List.map zA.toD c.Ret.L)),(.int .i64 c.Ret.From),(.int .i64 c.Ret.To),(.sl (List.map Value.toD c.S.Globals)),(.sl (List.map Value.toD c.S.Locals)),(.sl (List.map (D.int .i64) c.S.Input)),(.int .i64 c.S.At),(.sl (List.map (D.int .i64) c.S.Trace)),(.int .i64 c.S.Fuel),(.int .i64 c.S.Kind),(.int .i64 c.S.N),(.int .i64 c.S.Ret.N),(.sl (List.map Value.toD c.S.Ret.L)),(.int .i64 c.Rule),(.sl (List.map (D.int .i64) c.Nums)),(.int .i64 c.L.K),(.int .i64 c.L.N),(.str c.L.S),(.sl (List.map zA.toD c.L.L)),(.int .i64 c.L.From),(.int .i64 c.L.To),(.int .i64 c.R.K),(.int .i64 c.R.N),(.str c.R.S),(.sl (List.map zA.toD c.R.L)),(.int .i64 c.R.From),(.int .i64 c.R.To)])] [] [(nB r)] []:=by
 unfold z4J at h;refine zG 1000 (y4F _ _ _ _ c) ?_;obtain⟨q1,g,h⟩:=zC h;refine⟨_,⟨_,v1n _ _ g⟩,?_⟩;refine zD Iff.rfl h (fun _ h=>?_) (fun _ h=>?_)
 ·obtain⟨q2,g,h⟩:=zC h;refine⟨_,⟨_,z9k _ g⟩,?_⟩;cases h;exact⟨rfl,rfl⟩
 obtain⟨q3,g,h⟩:=zC h;refine⟨_,⟨_,y3L _ _ _ _ g⟩,?_⟩;refine zI Iff.rfl h (fun _ h=>?_) (fun _ h=>?_)
 ·obtain⟨q5,g,h⟩:=zC h;refine⟨_,⟨_,v1o _ _ g⟩,?_⟩;refine zD Iff.rfl h (fun _ h=>?_) (fun _ h=>?_)
  ·obtain⟨q6,g,h⟩:=zC h;refine⟨_,⟨_,z9k _ g⟩,?_⟩;cases h;exact⟨rfl,rfl⟩
  cases h;exact⟨rfl,rfl⟩
 obtain⟨q4,g,h⟩:=zC h;refine⟨_,⟨_,z9k _ g⟩,?_⟩;cases h;exact⟨rfl,rfl⟩
end Go.Proofs.YtcpblelppecabaaGreat.M

