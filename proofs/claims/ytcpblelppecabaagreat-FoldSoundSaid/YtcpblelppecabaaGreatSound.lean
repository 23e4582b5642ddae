import Derived.Test.YtcpblelppecabaaGreatMod
import Derived.Test.YtcpblelppecabaaGreatEvb
import Derived.Test.YtcpblelppecabaaGreatLay
import Derived.Test.YtcpblelppecabaaGreatFwZA
namespace Go.Proofs.YtcpblelppecabaaGreat.M
open Go Nt Go.Proofs
set_option linter.unusedVariables false
set_option linter.unusedSimpArgs false
set_option linter.unnecessarySimpa false
set_option maxRecDepth 100000
theorem z2h(b:Bool)(r:Int)(h:z1k b=some r):Trip Tryz.prog 186 [(nB b)] [] [(nI r)] []:=by
 unfold z1k at h;refine zH 1000 (y8t _ _ _ _ b) ?_;refine zD Iff.rfl h (fun _ h=>?_) (fun _ h=>?_)
 ·cases h;exact⟨rfl,rfl⟩
 cases h;exact⟨rfl,rfl⟩
theorem y4A(op a:Int)(r:Int×Int)(h:z6A op a=some r):Trip Tryz.prog 123 [(nI op),(nI a)] [] [(nI r.1),(nI r.2)] []:=by
 unfold z6A at h;refine zH 1000 (v3g _ _ _ _ op a) ?_;rintro _ rfl;refine zD zq2 h (fun _ h=>?_) (fun _ h=>?_)
 ·rintro _ rfl;cases h;exact⟨rfl,rfl⟩
 rintro _ rfl;refine zD zq2 h (fun _ h=>?_) (fun _ h=>?_)
 ·rintro _ rfl;obtain⟨q1,g,h⟩:=zC h;refine⟨_,⟨_,z2h _ _ g⟩,?_⟩;cases h;exact⟨rfl,rfl⟩
 cases h;exact⟨rfl,rfl⟩
theorem y7U(op r:Int)(h:z5J op=some r):Trip Tryz.prog 185 [(nI op)] [] [(nI r)] []:=by
 unfold z5J at h;refine zH 1000 (y8s _ _ _ _ op) ?_;rintro _ rfl;refine zD zq2 h (fun _ h=>?_) (fun _ h=>?_)
 ·cases h;exact⟨rfl,rfl⟩
 rintro _ rfl;refine zD zq2 h (fun _ h=>?_) (fun _ h=>?_)
 ·cases h;exact⟨rfl,rfl⟩
 rintro _ rfl;refine zD decide_eq_true_iff h (fun _ h=>?_) (fun _ h=>?_)
 ·rintro _ rfl;refine zD decide_eq_true_iff h (fun _ h=>?_) (fun _ h=>?_)
  ·cases h;exact⟨rfl,rfl⟩
  rintro _ rfl;refine zD decide_eq_true_iff h (fun _ h=>?_) (fun _ h=>?_)
  ·rintro _ rfl;refine zD decide_eq_true_iff h (fun _ h=>?_) (fun _ h=>?_)
   ·cases h;exact⟨rfl,rfl⟩
   cases h;exact⟨rfl,rfl⟩
  cases h;exact⟨rfl,rfl⟩
 rintro _ rfl;refine zD decide_eq_true_iff h (fun _ h=>?_) (fun _ h=>?_)
 ·rintro _ rfl;refine zD decide_eq_true_iff h (fun _ h=>?_) (fun _ h=>?_)
  ·cases h;exact⟨rfl,rfl⟩
  cases h;exact⟨rfl,rfl⟩
 cases h;exact⟨rfl,rfl⟩
theorem y4B(op a b:Int)(r:Bool)(h:z3F op a b=some r):Trip Tryz.prog 187 [(nI op),(nI a),(nI b)] [] [(nB r)] []:=by
 unfold z3F at h;refine zH 1000 (y5i _ _ _ _ op a b) ?_;rintro _ rfl;refine zD zq2 h (fun _ h=>?_) (fun _ h=>?_)
 ·rintro _ rfl;cases h;exact⟨rfl,rfl⟩
 rintro _ rfl;refine zD zq2 h (fun _ h=>?_) (fun _ h=>?_)
 ·rintro _ rfl;cases h;exact⟨rfl,rfl⟩
 rintro _ rfl;refine zD zq2 h (fun _ h=>?_) (fun _ h=>?_)
 ·rintro _ rfl;cases h;exact⟨rfl,rfl⟩
 rintro _ rfl;refine zD zq2 h (fun _ h=>?_) (fun _ h=>?_)
 ·rintro _ rfl;cases h;exact⟨rfl,rfl⟩
 rintro _ rfl;refine zD zq2 h (fun _ h=>?_) (fun _ h=>?_)
 ·rintro _ rfl;cases h;exact⟨rfl,rfl⟩
 rintro _ rfl;cases h;exact⟨rfl,rfl⟩
theorem y6y(op a b:Int)(r:Int×Int)(h:z4I op a b=some r):Trip Tryz.prog 188 [(nI op),(nI a),(nI b)] [] [(nI r.1),(nI r.2)] []:=by
 unfold z4I at h;refine zH 1000 (y6E _ _ _ _ op a b) ?_;rintro _ rfl;refine zD zq2 h (fun _ h=>?_) (fun _ h=>?_)
 ·rintro _ rfl;cases h;exact⟨rfl,rfl⟩
 rintro _ rfl;refine zD zq2 h (fun _ h=>?_) (fun _ h=>?_)
 ·rintro _ rfl;cases h;exact⟨rfl,rfl⟩
 rintro _ rfl;refine zD zq2 h (fun _ h=>?_) (fun _ h=>?_)
 ·rintro _ rfl;cases h;exact⟨rfl,rfl⟩
 rintro _ rfl;refine zD zq2 h (fun _ h=>?_) (fun _ h=>?_)
 ·cases h;exact⟨rfl,rfl⟩
 rintro _ rfl;refine zD zq2 h (fun _ h=>?_) (fun _ h=>?_)
 ·obtain⟨hP,h⟩:=uN h;refine⟨by first|exact hP|simpa using hP,?_⟩;rintro _ rfl;cases h;exact⟨rfl,rfl⟩
 obtain⟨hP,h⟩:=uN h;refine⟨by first|exact hP|simpa using hP,?_⟩;rintro _ rfl;cases h;exact⟨rfl,rfl⟩
theorem v2r(op a b:Int)(r:Int×Int)(h:z8R op a b=some r):Trip Tryz.prog 122 [(nI op),(nI a),(nI b)] [] [(nI r.1),(nI r.2)] []:=by
 unfold z8R at h;refine zH 1000 (v3h _ _ _ _ op a b) ?_;obtain⟨q1,g,h⟩:=zC h;refine⟨_,⟨_,y7U _ _ g⟩,?_⟩;rintro _ rfl;refine zD zq2 h (fun _ h=>?_) (fun _ h=>?_)
 ·rintro _ rfl;refine zD zq2 h (fun _ h=>?_) (fun _ h=>?_)
  ·rintro _ rfl;refine zG zq2 h (fun _ h=>?_) (fun _ h=>?_)
   ·rintro _ rfl;obtain⟨q3,g,h⟩:=zC h;refine⟨_,⟨_,z2h _ _ g⟩,?_⟩;cases h;exact⟨rfl,rfl⟩
   obtain⟨q2,g,h⟩:=zC h;refine⟨_,⟨_,z2h _ _ g⟩,?_⟩;cases h;exact⟨rfl,rfl⟩
  rintro _ rfl;refine zG zq2 h (fun _ h=>?_) (fun _ h=>?_)
  ·obtain⟨q5,g,h⟩:=zC h;refine⟨_,⟨_,z2h _ _ g⟩,?_⟩;cases h;exact⟨rfl,rfl⟩
  rintro _ rfl;obtain⟨q4,g,h⟩:=zC h;refine⟨_,⟨_,z2h _ _ g⟩,?_⟩;cases h;exact⟨rfl,rfl⟩
 rintro _ rfl;refine zD zq2 h (fun _ h=>?_) (fun _ h=>?_)
 ·obtain⟨q6,g,h⟩:=zC h;refine⟨_,⟨_,y4B _ _ _ _ g⟩,?_⟩;obtain⟨q7,g,h⟩:=zC h;refine⟨_,⟨_,z2h _ _ g⟩,?_⟩;cases h;exact⟨rfl,rfl⟩
 rintro _ rfl;refine zD zq2 h (fun _ h=>?_) (fun _ h=>?_)
 ·obtain⟨q8,g,h⟩:=zC h;refine⟨_,_,⟨_,y6y _ _ _ _ g⟩,?_⟩;cases h;exact⟨rfl,rfl⟩
 cases h;exact⟨rfl,rfl⟩
theorem z0G(t:zA)(kind:Int)(r:Bool)(h:gC t kind=some r):Trip Tryz.prog 118 [.d (tT t),(nI kind)] [] [(nB r)] []:=by
 unfold gC at h;refine zH 1000 (y6F _ _ _ _ t kind) ?_;rintro _ rfl;refine zD zq2 h (fun _ h=>?_) (fun _ h=>?_)
 ·rintro _ rfl;refine zD zq2 h (fun _ h=>?_) (fun _ h=>?_)
  ·refine zU (e':=(List.length t.L:Int)) (by first|rfl|rw[zq3]) ?_;rintro _ rfl;refine zD zq2 h (fun _ h=>?_) (fun _ h=>?_)
   ·rintro _ rfl;refine zD zq2 h (fun _ h=>?_) (fun _ h=>?_)
    ·cases h;exact⟨rfl,rfl⟩
    rintro _ rfl;refine zD zq2 h (fun _ h=>?_) (fun _ h=>?_)
    ·cases h;exact⟨rfl,rfl⟩
    rintro _ rfl;cases h;exact⟨rfl,rfl⟩
   cases h;exact⟨rfl,rfl⟩
  cases h;exact⟨rfl,rfl⟩
 cases h;exact⟨rfl,rfl⟩
theorem uX(t:zA)(kind:Int)(r:Bool)(h:uL t kind=some r):Trip Tryz.prog 184 [.d (tT t),(nI kind)] [] [(nB r)] []:=by
 unfold uL at h;refine zH 1000 (v3i _ _ _ _ t kind) ?_;refine zU (e':=(List.length t.L:Int)) (by first|rfl|rw[zq3]) ?_;rintro _ rfl;refine zD zq2 h (fun _ h=>?_) (fun _ h=>?_)
 ·obtain⟨x,hx,h⟩:=zC h;refine⟨zF (l:=t.L) (zA.sz),vO hx,x.K,x.N,x.S,List.map zA.toD x.L,x.From,x.To,zL (zA.toD_eq x) hx,?_⟩;obtain⟨q1,g,h⟩:=zC h;refine⟨_,⟨_,z0G _ _ _ g⟩,?_⟩;refine zD Iff.rfl h (fun _ h=>?_) (fun _ h=>?_)
  ·obtain⟨x1,hx,h⟩:=zC h;refine⟨zF (l:=t.L) (zA.sz),vO hx,x1.K,x1.N,x1.S,List.map zA.toD x1.L,x1.From,x1.To,zL (zA.toD_eq x1) hx,?_⟩;obtain⟨q2,g,h⟩:=zC h;refine⟨_,⟨_,z0G _ _ _ g⟩,?_⟩;cases h;exact⟨rfl,rfl⟩
  cases h;exact⟨rfl,rfl⟩
 cases h;exact⟨rfl,rfl⟩
theorem y7W(t:zA)(r:Int)(h:z5Q t=some r):Trip Tryz.prog 121 [.d (tT t)] [] [(nI r)] []:=by
 unfold z5Q at h;refine zH 1000 (y8v _ _ _ _ t) ?_;rintro _ rfl;refine zD zq2 h (fun hc35 h=>?_) (fun hc35 h=>?_)
 ·refine gY zq2 hc35 ?_;obtain⟨q1,g,h⟩:=zC h;refine⟨_,⟨_,uX _ _ _ g⟩,?_⟩;refine zD Iff.rfl h (fun _ h=>?_) (fun _ h=>?_)
  ·cases h;exact⟨rfl,rfl⟩
  obtain⟨q2,g,h⟩:=zC h;refine⟨_,⟨_,uX _ _ _ g⟩,?_⟩;refine zD Iff.rfl h (fun _ h=>?_) (fun _ h=>?_)
  ·cases h;exact⟨rfl,rfl⟩
  cases h;exact⟨rfl,rfl⟩
 rintro _ rfl;refine zD zq2 h (fun _ h=>?_) (fun _ h=>?_)
 ·obtain⟨q53,g,h⟩:=zC h;refine⟨_,⟨_,uX _ _ _ g⟩,?_⟩;refine zD Iff.rfl h (fun _ h=>?_) (fun _ h=>?_)
  ·cases h;exact⟨rfl,rfl⟩
  obtain⟨q54,g,h⟩:=zC h;refine⟨_,⟨_,uX _ _ _ g⟩,?_⟩;refine zD Iff.rfl h (fun _ h=>?_) (fun _ h=>?_)
  ·cases h;exact⟨rfl,rfl⟩
  cases h;exact⟨rfl,rfl⟩
 rintro _ rfl;refine zD zq2 h (fun hc41 h=>?_) (fun hc41 h=>?_)
 ·refine gY zq2 hc41 ?_;obtain⟨q55,g,h⟩:=zC h;refine⟨_,⟨_,uX _ _ _ g⟩,?_⟩;refine zD Iff.rfl h (fun _ h=>?_) (fun _ h=>?_)
  ·cases h;exact⟨rfl,rfl⟩
  cases h;exact⟨rfl,rfl⟩
 rintro _ rfl;refine zD zq2 h (fun _ h=>?_) (fun _ h=>?_)
 ·obtain⟨q80,g,h⟩:=zC h;refine⟨_,⟨_,uX _ _ _ g⟩,?_⟩;refine zD Iff.rfl h (fun _ h=>?_) (fun _ h=>?_)
  ·cases h;exact⟨rfl,rfl⟩
  cases h;exact⟨rfl,rfl⟩
 rintro _ rfl;refine zD zq2 h (fun hc45 h=>?_) (fun hc45 h=>?_)
 ·refine gY zq2 hc45 ?_;obtain⟨q81,g,h⟩:=zC h;refine⟨_,⟨_,uX _ _ _ g⟩,?_⟩;refine zD Iff.rfl h (fun _ h=>?_) (fun _ h=>?_)
  ·cases h;exact⟨rfl,rfl⟩
  cases h;exact⟨rfl,rfl⟩
 rintro _ rfl;refine zD zq2 h (fun hc47 h=>?_) (fun hc47 h=>?_)
 ·refine gY zq2 hc47 ?_;obtain⟨q87,g,h⟩:=zC h;refine⟨_,⟨_,uX _ _ _ g⟩,?_⟩;refine zD Iff.rfl h (fun _ h=>?_) (fun _ h=>?_)
  ·cases h;exact⟨rfl,rfl⟩
  cases h;exact⟨rfl,rfl⟩
 rintro _ rfl;refine zD zq2 h (fun hc49 h=>?_) (fun hc49 h=>?_)
 ·refine gY zq2 hc49 ?_;obtain⟨q93,g,h⟩:=zC h;refine⟨_,⟨_,uX _ _ _ g⟩,?_⟩;refine zD Iff.rfl h (fun _ h=>?_) (fun _ h=>?_)
  ·cases h;exact⟨rfl,rfl⟩
  cases h;exact⟨rfl,rfl⟩
 rintro _ rfl;refine zD zq2 h (fun _ h=>?_) (fun _ h=>?_)
 ·obtain⟨q99,g,h⟩:=zC h;refine⟨_,⟨_,uX _ _ _ g⟩,?_⟩;refine zD Iff.rfl h (fun _ h=>?_) (fun _ h=>?_)
  ·cases h;exact⟨rfl,rfl⟩
  cases h;exact⟨rfl,rfl⟩
 rintro _ rfl;refine zD zq2 h (fun hc53 h=>?_) (fun hc53 h=>?_)
 ·refine gY zq2 hc53 ?_;obtain⟨q100,g,h⟩:=zC h;refine⟨_,⟨_,uX _ _ _ g⟩,?_⟩;refine zD Iff.rfl h (fun _ h=>?_) (fun _ h=>?_)
  ·cases h;exact⟨rfl,rfl⟩
  cases h;exact⟨rfl,rfl⟩
 rintro _ rfl;refine zD zq2 h (fun hc55 h=>?_) (fun hc55 h=>?_)
 ·refine gY zq2 hc55 ?_;obtain⟨q101,g,h⟩:=zC h;refine⟨_,⟨_,uX _ _ _ g⟩,?_⟩;refine zD Iff.rfl h (fun _ h=>?_) (fun _ h=>?_)
  ·cases h;exact⟨rfl,rfl⟩
  cases h;exact⟨rfl,rfl⟩
 rintro _ rfl;refine zD zq2 h (fun hc57 h=>?_) (fun hc57 h=>?_)
 ·refine gY zq2 hc57 ?_;obtain⟨q102,g,h⟩:=zC h;refine⟨_,⟨_,uX _ _ _ g⟩,?_⟩;refine zD Iff.rfl h (fun _ h=>?_) (fun _ h=>?_)
  ·cases h;exact⟨rfl,rfl⟩
  cases h;exact⟨rfl,rfl⟩
 rintro _ rfl;refine zD zq2 h (fun hc59 h=>?_) (fun hc59 h=>?_)
 ·refine gY zq2 hc59 ?_;obtain⟨q103,g,h⟩:=zC h;refine⟨_,⟨_,uX _ _ _ g⟩,?_⟩;refine zD Iff.rfl h (fun _ h=>?_) (fun _ h=>?_)
  ·cases h;exact⟨rfl,rfl⟩
  cases h;exact⟨rfl,rfl⟩
 rintro _ rfl;refine zD zq2 h (fun _ h=>?_) (fun _ h=>?_)
 ·obtain⟨q104,g,h⟩:=zC h;refine⟨_,⟨_,uX _ _ _ g⟩,?_⟩;refine zD Iff.rfl h (fun _ h=>?_) (fun _ h=>?_)
  ·cases h;exact⟨rfl,rfl⟩
  cases h;exact⟨rfl,rfl⟩
 cases h;exact⟨rfl,rfl⟩
theorem y2R(t:zA)(r:zA×Bool)(h:z5s t=some r):Trip Tryz.prog 62 [.d (tT t)] [] [.d (tT r.1),(nB r.2)] []:=by
 unfold z5s at h;refine zH 1000 (v0F _ _ _ _ t) ?_;rintro _ rfl;refine zG zq2 h (fun _ h=>?_) (fun _ h=>?_)
 ·rintro _ rfl;refine zD zq2 h (fun _ h=>?_) (fun _ h=>?_)
  ·obtain⟨q1,g,h⟩:=zC h;refine⟨_,⟨_,y7W _ _ g⟩,?_⟩;rintro _ rfl;refine zD zq2 h (fun _ h=>?_) (fun _ h=>?_)
   ·cases h;exact⟨rfl,rfl⟩
   obtain⟨x,hx,h⟩:=zC h;refine⟨zF (l:=t.L) (zA.sz),vO hx,x.K,x.N,x.S,List.map zA.toD x.L,x.From,x.To,zL (zA.toD_eq x) hx,?_⟩;obtain⟨x1,hx,h⟩:=zC h;refine⟨zF (l:=t.L) (zA.sz),vO hx,x1.K,x1.N,x1.S,List.map zA.toD x1.L,x1.From,x1.To,zL (zA.toD_eq x1) hx,?_⟩;obtain⟨q2,g,h⟩:=zC h;refine⟨_,_,⟨_,v2r _ _ _ _ g⟩,?_⟩;rintro _ rfl;refine zG zq2 h (fun _ h=>?_) (fun _ h=>?_)
   ·cases h;exact⟨rfl,rfl⟩
   cases h;exact⟨rfl,rfl⟩
  rintro _ rfl;refine zD zq2 h (fun _ h=>?_) (fun _ h=>?_)
  ·refine zU (e':=(List.length t.L:Int)) (by first|rfl|rw[zq3]) ?_;rintro _ rfl;refine zD zq2 h (fun _ h=>?_) (fun _ h=>?_)
   ·rintro _ rfl;refine zD zq2 h (fun hc69 h=>?_) (fun hc69 h=>?_)
    ·obtain⟨x2,hx,h⟩:=zC h;refine⟨zF (l:=t.L) (zA.sz),vO hx,x2.K,x2.N,x2.S,List.map zA.toD x2.L,x2.From,x2.To,zL (zA.toD_eq x2) hx,?_⟩;obtain⟨q3,g,h⟩:=zC h;refine⟨_,⟨_,z0G _ _ _ g⟩,?_⟩;refine zD Iff.rfl h (fun _ h=>?_) (fun _ h=>?_)
     ·obtain⟨x3,hx,h⟩:=zC h;refine⟨zF (l:=t.L) (zA.sz),vO hx,x3.K,x3.N,x3.S,List.map zA.toD x3.L,x3.From,x3.To,zL (zA.toD_eq x3) hx,?_⟩;obtain⟨q4,g,h⟩:=zC h;refine⟨_,_,⟨_,y4A _ _ _ g⟩,?_⟩;obtain⟨x4,hx,h⟩:=zC h;refine⟨zF (l:=t.L) (zA.sz),vO hx,x4.K,x4.N,x4.S,List.map zA.toD x4.L,x4.From,x4.To,zL (zA.toD_eq x4) hx,?_⟩;cases h;exact⟨rfl,rfl⟩
     rintro _ rfl;refine uC zq2 (fun e=>absurd (hc69.symm.trans e) (by decide)) ?_;cases h;exact⟨rfl,rfl⟩
    rintro _ rfl;refine zD zq2 h (fun _ h=>?_) (fun _ h=>?_)
    ·obtain⟨x8,hx,h⟩:=zC h;refine⟨zF (l:=t.L) (zA.sz),vO hx,x8.K,x8.N,x8.S,List.map zA.toD x8.L,x8.From,x8.To,zL (zA.toD_eq x8) hx,?_⟩;obtain⟨q7,g,h⟩:=zC h;refine⟨_,⟨_,z0G _ _ _ g⟩,?_⟩;refine zD Iff.rfl h (fun _ h=>?_) (fun _ h=>?_)
     ·obtain⟨x9,hx,h⟩:=zC h;refine⟨zF (l:=t.L) (zA.sz),vO hx,x9.K,x9.N,x9.S,List.map zA.toD x9.L,x9.From,x9.To,zL (zA.toD_eq x9) hx,?_⟩;obtain⟨q8,g,h⟩:=zC h;refine⟨_,_,⟨_,y4A _ _ _ g⟩,?_⟩;obtain⟨x10,hx,h⟩:=zC h;refine⟨zF (l:=t.L) (zA.sz),vO hx,x10.K,x10.N,x10.S,List.map zA.toD x10.L,x10.From,x10.To,zL (zA.toD_eq x10) hx,?_⟩;cases h;exact⟨rfl,rfl⟩
     cases h;exact⟨rfl,rfl⟩
    cases h;exact⟨rfl,rfl⟩
   cases h;exact⟨rfl,rfl⟩
  cases h;exact⟨rfl,rfl⟩
 cases h;exact⟨rfl,rfl⟩
open Go.RowKit in
theorem y5B{w:World}{M:Nat→Nat→Prop}{b o:Nat}{ls:List (List zA)}(hc:RelC w M b o (jP (ls.map (eS zA.toD)))){k:Nat}(hk:k<ls.length):
  ∃v,w.cell? ⟨b,o+k,none⟩=some v∧RelV w M v (.sl (ls[k].map zA.toD)):=by
 have hs:zE 1 (ls.map (eS zA.toD)):=zF (fun x=>rfl);have h:=hc.elem hs (i:=k) (x:=eS zA.toD ls[k]) (by rw[List.getElem?_map,List.getElem?_eq_getElem hk];rfl);rw[Nat.mul_one]at h;cases h with
 |cons _ _ v _ _ c0 _ _ r0 _=>exact⟨v,c0,r0⟩
theorem v1U{α:Type}(l:List (List α)){k:Nat}(h:k<l.length):(l.take (k+1)).flatten=(l.take k).flatten++l[k]:=by
 rw[List.take_succ_eq_append_getElem h,List.flatten_append];simp
theorem v1V{α:Type}(l:List (List α))(k:Nat):(l.take k).flatten.length≤l.flatten.length:=by
 have:=congrArg List.flatten (List.take_append_drop k l);rw[List.flatten_append]at this;rw[←this,List.length_append];omega
def w1t(l:List (List zA))(k:Nat):Nat:=(l.take k).flatten.length
set_option maxHeartbeats 4000000 in
set_option maxRecDepth 1000000 in
open Go.RowKit Go.Shelf in
theorem y0a(slices:List (List zA))(r:List zA)(h:z1E slices=some r):Trip Tryz.prog 135 [.d (.sl (List.map (eS zA.toD) slices))] [] [.d (.sl (List.map zA.toD r))] []:=by
 refine⟨⟨_,Tryz.func135,by rfl,by rfl⟩,fun w M0 κ vs B hv=>?_⟩;unfold z1E at h;obtain⟨hsl,h⟩:=uN h;obtain⟨hroom,h⟩:=uN h;have hr:=Option.some.inj h;subst hr;clear h;obtain⟨i0,dd,hi,hz1,-⟩:=z0d (P:=Tryz.prog) (t:=24) (n:=6) (by kernel_rfl);have hz2:=z7J (P:=Tryz.prog) (t:=24) (n:=72) (by kernel_rfl) hi;have hz0:=z7a (P:=Tryz.prog) (t:=24) (z:=.agg #[.int .i64 0,.int .i64 0,.string ⟨#[]⟩,.slice none 0 0,.int .i64 0,.int .i64 0]) (by kernel_rfl) hi;obtain⟨len,hlen9⟩:∃len,len=w1t slices:=⟨_,rfl⟩
 have hlen:∀k,len k=(slices.take k).flatten.length:=fun k=>by rw[hlen9];rfl
 clear hlen9;have hlen0:len 0=0:=by rw[hlen];rfl
 have hlenN:len slices.length=slices.flatten.length:=by rw[hlen,List.take_length]
 have hlenS:∀k (hk:k<slices.length),len (k+1)=len k+slices[k].length:=fun k hk=>by rw[hlen,hlen,v1U slices hk,List.length_append]
 have hlenM:∀k,len k≤len slices.length:=fun k=>by rw[hlenN,hlen];exact v1V slices k
 rw[←hlenN]at hroom;have hlenX:(slices.take slices.length).flatten.length=len slices.length:=(hlen _).symm;clear hlenN;have hfl:∀k,(slices.take k).flatten.length=len k:=fun k=>(hlen k).symm;clear hlen hlenX;cases hv with
 |cons v _ vs _ g1 hv=>
  cases hv;cases g1 with
  |d _ _ g1=>
   obtain⟨ad,cap,rfl,hopen⟩:=v4l g1;rw[zq3]at *
   go_enter Tryz.func135,Tryz.ntmps135
   go_wp2_with fail
   go_loopw [3,11] (fun sz i wr=>∃(k:Nat),i=.int .i64 (k:Int)∧k≤slices.length∧sz=.int .i64 ((len k:Nat):Int)∧wr=w) (fun _ i _=>slices.length-(intOf i).toNat)
   case atStart=>exact⟨0,rfl,Nat.zero_le _,by rw[hlen0];rfl,rfl⟩
   case round=>
    obtain⟨k,rfl,hk,rfl,hww⟩:=hrel;have hww:=hww.symm;subst hww;by_cases hlt:k<slices.length
    ·obtain⟨b,o,rfl,hc⟩:=hopen (fun e=>by have:=congrArg List.length e;simp at this;rw[this]at hlt;simp at hlt);obtain⟨vk,ck,hvk⟩:=y5B hc hlt;obtain⟨ak,capk,rfl,-⟩:=v4l hvk;have h1:=hlenS k hlt;have h2:=hlenM (k+1);rw[zq3]at ck;have e0:wrap64 ((len k:Int)+(slices[k].length:Int))=((len (k+1):Nat):Int):=by unfold wrap64;omega
     have e1:¬(((len (k+1):Nat):Int)<0):=Int.not_lt.2 (Int.natCast_nonneg _)
     go_wp2_with fail
     go_roundw
     case rel=>exact⟨k+1,by go_num,hlt,by rw[h1];go_num,trivial⟩
     case measure=>simp[intOf];omega
    ·have hke:k=slices.length:=by omega
     subst hke
     go_wp2_with fail
     refine(v8S w1g (T:=24) rfl i0 _ hi hz0 hz1 hz2 rfl (by decide) (len slices.length) _ (by omega) (by omega)).mono ?_;rintro e W1 ⟨v1,rfl,hown0,hb0⟩
     go_wp2_with fail
     go_loopw [6,27] (fun v i w2=>∃(k:Nat) (us:List Go.Value),i=.int .i64 (k:Int)∧k≤slices.length∧w2.ownsRow w.heap.size 24 6 v (len k) us∧Stand w (Mut M0 κ) us (jP ((slices.take k).flatten.map zA.toD))∧Below w.heap.size w w2) (fun _ i _=>slices.length-(intOf i).toNat)
     case atStart=>exact⟨0,[],rfl,Nat.zero_le _,by rw[hlen0];exact hown0,⟨rfl,fun j u c h=>by simp at h⟩,hb0⟩
     case round=>
      obtain⟨k,us,rfl,hk,hown,hst,hbw⟩:=hrel;by_cases hlt:k<slices.length
      ·obtain⟨b,o,rfl,hc⟩:=hopen (fun e=>by have:=congrArg List.length e;simp at this;rw[this]at hlt;simp at hlt);obtain⟨vk,ck,hvk⟩:=y5B hc hlt;have ck':=(hbw.cell (p:=⟨b,o+k,none⟩) (z5L ck)).trans ck;have h1:=hlenS k hlt;have h2:=hlenM (k+1);have hst2:∀news,Stand w (Mut M0 κ) news (jP (slices[k].map zA.toD))→Stand w (Mut M0 κ) (us++news) (jP ((slices.take (k+1)).flatten.map zA.toD)):=fun news hn=>by
        rw[v1U slices hlt,List.map_append,z1T];exact hst.app hn
       rcases v9t hvk with⟨rfl,he⟩|⟨adk,capk,rfl,hsrc⟩
       ·have hl0:slices[k].length=0:=by rw[←zq3 (f:=zA.toD),he];rfl
        have hst3:=hst2 [] (by rw[he];exact⟨rfl,fun j u c h=>by simp at h⟩);rw[List.append_nil]at hst3
        go_wp2_with (at_builtin;refine wpList_append_own_none rfl _ _ 22 rfl w.heap.size 24 i0 6 Tryz.underlying22 hi _ _ _ rfl hown rfl ?_)
        go_roundw
        case rel=>exact⟨k+1,us,by go_num,hlt,by rw[h1,hl0];exact hown,hst3,hbw⟩
        case measure=>simp[intOf];omega
       ·rw[zq3]at ck';obtain⟨news,n1,n2,n3,n4⟩:=v7U (zF fun x=>zA.sz x) hsrc;rw[zq3]at n1;have hst3:=hst2 news n4
        go_wp2_with (first
         |(at_builtin;refine wpList_append_own _ rfl _ _ 22 rfl w.heap.size 24 i0 (.agg #[.int .i64 0,.int .i64 0,.string ⟨#[]⟩,.slice none 0 0,.int .i64 0,.int .i64 0]) 6 72 Tryz.underlying22 hi hz0 hz1 hz2 rfl (by decide) _ _ _ rfl hown adk slices[k].length capk news rfl n1 ?c1 n3 ?c3 ?c4 ?c5 ?_)
         |fail)
        case c1=>intro j u hj;have:=n2 j u hj;exact(hbw.cell (v8C this)).trans this
        case c3=>unfold maxLen;omega
        case c4=>omega
        case c5=>exact hbw.size
        ·intro v' w3 hown' hgrow _;have hb3:Below w.heap.size w w3:=hbw.grown hgrow hbw.size (fun j hj=>(hown.lt j hj).1);rw[←h1]at hown';clear hgrow hown hbw
         go_wp2
         go_roundw
         case rel=>exact⟨k+1,us++news,by go_num,hlt,hown',hst3,hb3⟩
         case measure=>simp[intOf];omega
      ·have hke:k=slices.length:=by omega
       subst hke;rw[List.take_length]at hst;have hlN:(slices.flatten.map zA.toD).length=len slices.length:=by rw[zq3,←hfl,List.take_length]
       rw[←hlN]at hown
       go_wp2_with fail
       go_ret
       exact⟨_,κ,rfl,y4X B hbw,rfl,.d _ _ (v7C hown (zF fun x=>zA.sz x) hst (y0I hbw _) fun b o hb=>v7c B hb)⟩
def z7U:(i:I_quiet_Quiet_L3)→z4Q i→Prop
 |.quiet_Quiet_L3 quiet v7 v8 v9,r=>Ok (z7q (Trip Tryz.prog) [(nB r)] []) (kL Tryz.f15 3) ⟨57,[(3,(nB quiet)),(7,.d (.sl (List.map zA.toD v7))),(8,(nI v8)),(9,(nI v9))],[],[],0⟩
theorem y3k:∀i r,uV z2y i=some r→z7U i r:=by
 refine zP z7M fun g ih i=>?_;cases i with
 |quiet_Quiet_L3 quiet v7 v8 v9=>
  have w1z:=fun quiet v7 v8 v9 r h=>ih (.quiet_Quiet_L3 quiet v7 v8 v9) r h;intro r h;replace h:jR (fun quiet v7 v8 v9=>g (I_quiet_Quiet_L3.quiet_Quiet_L3 quiet v7 v8 v9)) quiet v7 v8 v9=some r:=h;unfold jR at h;refine jN 1000 (y3E _ _ _ _ quiet v7 v8 v9) ?_;rintro _ rfl;refine zD decide_eq_true_iff h (fun _ h=>?_) (fun _ h=>?_)
  ·obtain⟨x,hx,h⟩:=zC h;refine⟨zF (l:=v7) (zA.sz),vO hx,x.K,x.N,x.S,List.map zA.toD x.L,x.From,x.To,zL (zA.toD_eq x) hx,?_⟩;rintro _ rfl;refine zD zq2 h (fun hc74 h=>?_) (fun hc74 h=>?_)
   ·refine gY zq2 hc74 ?_;rintro _ rfl;exact w1z _ _ _ _ _ h
   rintro _ rfl;refine zD zq2 h (fun hc75 h=>?_) (fun hc75 h=>?_)
   ·refine gY zq2 hc75 ?_;rintro _ rfl;exact w1z _ _ _ _ _ h
   rintro _ rfl;refine zD zq2 h (fun hc76 h=>?_) (fun hc76 h=>?_)
   ·refine gY zq2 hc76 ?_;rintro _ rfl;exact w1z _ _ _ _ _ h
   rintro _ rfl;refine zD zq2 h (fun hc77 h=>?_) (fun hc77 h=>?_)
   ·refine gY zq2 hc77 ?_;rintro _ rfl;exact w1z _ _ _ _ _ h
   rintro _ rfl;refine zD zq2 h (fun hc78 h=>?_) (fun hc78 h=>?_)
   ·refine gY zq2 hc78 ?_;rintro _ rfl;exact w1z _ _ _ _ _ h
   rintro _ rfl;refine zD zq2 h (fun hc79 h=>?_) (fun hc79 h=>?_)
   ·refine gY zq2 hc79 ?_;rintro _ rfl;exact w1z _ _ _ _ _ h
   rintro _ rfl;refine zD zq2 h (fun hc80 h=>?_) (fun hc80 h=>?_)
   ·refine gY zq2 hc80 ?_;rintro _ rfl;exact w1z _ _ _ _ _ h
   rintro _ rfl;refine zD zq2 h (fun hc81 h=>?_) (fun hc81 h=>?_)
   ·refine gY zq2 hc81 ?_;rintro _ rfl;exact w1z _ _ _ _ _ h
   rintro _ rfl;refine zD zq2 h (fun _ h=>?_) (fun _ h=>?_)
   ·rintro _ rfl;exact w1z _ _ _ _ _ h
   rintro _ rfl;refine zD zq2 h (fun _ h=>?_) (fun _ h=>?_)
   ·rintro _ rfl;refine zD zq2 h (fun _ h=>?_) (fun _ h=>?_)
    ·refine zU (e':=(List.length x.L:Int)) (by first|rfl|rw[zq3]) ?_;rintro _ rfl;refine zD decide_eq_true_iff h (fun _ h=>?_) (fun _ h=>?_)
     ·cases h;exact⟨rfl,rfl⟩
     obtain⟨x33,hx,h⟩:=zC h;refine⟨zF (l:=x.L) (zA.sz),vO hx,x33.K,x33.N,x33.S,List.map zA.toD x33.L,x33.From,x33.To,zL (zA.toD_eq x33) hx,?_⟩;rintro _ rfl;refine zG zq2 h (fun _ h=>?_) (fun _ h=>?_)
     ·obtain⟨x34,hx,h⟩:=zC h;refine⟨zF (l:=x.L) (zA.sz),vO hx,x34.K,x34.N,x34.S,List.map zA.toD x34.L,x34.From,x34.To,zL (zA.toD_eq x34) hx,?_⟩;rintro _ rfl;refine zD zq2 h (fun _ h=>?_) (fun _ h=>?_)
      ·cases h;exact⟨rfl,rfl⟩
      rintro _ rfl;exact w1z _ _ _ _ _ h
     cases h;exact⟨rfl,rfl⟩
    rintro _ rfl;refine zD zq2 h (fun _ h=>?_) (fun _ h=>?_)
    ·refine zU (e':=(List.length x.L:Int)) (by first|rfl|rw[zq3]) ?_;rintro _ rfl;refine zD decide_eq_true_iff h (fun _ h=>?_) (fun _ h=>?_)
     ·cases h;exact⟨rfl,rfl⟩
     obtain⟨x35,hx,h⟩:=zC h;refine⟨zF (l:=x.L) (zA.sz),vO hx,x35.K,x35.N,x35.S,List.map zA.toD x35.L,x35.From,x35.To,zL (zA.toD_eq x35) hx,?_⟩;rintro _ rfl;refine zG zq2 h (fun _ h=>?_) (fun _ h=>?_)
     ·obtain⟨x36,hx,h⟩:=zC h;refine⟨zF (l:=x.L) (zA.sz),vO hx,x36.K,x36.N,x36.S,List.map zA.toD x36.L,x36.From,x36.To,zL (zA.toD_eq x36) hx,?_⟩;rintro _ rfl;refine zD zq2 h (fun _ h=>?_) (fun _ h=>?_)
      ·cases h;exact⟨rfl,rfl⟩
      rintro _ rfl;exact w1z _ _ _ _ _ h
     cases h;exact⟨rfl,rfl⟩
    rintro _ rfl;exact w1z _ _ _ _ _ h
   cases h;exact⟨rfl,rfl⟩
  cases h;exact⟨rfl,rfl⟩
theorem y3t(quiet:Bool)(v7:List zA)(v8 v9:Int)(r:Bool)(h:quiet_Quiet_L3 quiet v7 v8 v9=some r):z7U (.quiet_Quiet_L3 quiet v7 v8 v9) r:=y3k (.quiet_Quiet_L3 quiet v7 v8 v9) r h
def z6o:(i:I_quiet_all_L3)→z6p i→Prop
 |.quiet_all_L3 out i,r=>Ok (y0J (Trip Tryz.prog) [.d (.sl (List.map zA.toD r))] []) (kL Tryz.f49 3) ⟨21,[(3,.right 6 1 6 (List.map zA.toD out)),(4,(nI i))],[(6,1,some (.tok 6 (List.length (List.map zA.toD out))))],[],0⟩
theorem y6w:∀i r,uV z4x i=some r→z6o i r:=by
 refine zP y0c fun g ih i=>?_;cases i with
 |quiet_all_L3 out i=>
  have w1A:=fun out i r h=>ih (.quiet_all_L3 out i) r h;intro r h;replace h:gZ (fun out i=>g (I_quiet_all_L3.quiet_all_L3 out i)) out i=some r:=h;unfold gZ at h;refine jN 1000 (y6G _ _ _ _ out i) ?_;refine zU (e':=(List.length out:Int)) (by first|rfl|rw[zq3]) ?_;rintro _ rfl;refine zD decide_eq_true_iff h (fun _ h=>?_) (fun _ h=>?_)
  ·obtain⟨x,hx,h⟩:=zC h;refine⟨zF (l:=out) (zA.sz),vO hx,x.K,x.N,x.S,List.map zA.toD x.L,x.From,x.To,zL (zA.toD_eq x) hx,?_⟩;refine⟨zF (l:=x.L) (zA.sz),?_⟩;refine⟨by first|rfl|decide|simp only[zq3,List.length_cons,List.length_nil,List.map_append,List.length_append],?_⟩;obtain⟨hP,h⟩:=uN h;refine⟨by first|exact hP|simpa using hP,?_⟩
   refine zU (e':=List.map zA.toD (out++x.L)) (by first|rfl|simp only[List.map_append,List.map_cons,List.map_nil,List.map_take,List.map_drop,List.map_set,List.map_replicate,zq3,zA.toD_eq]) ?_;rintro _ rfl;exact w1A _ _ _ h
  cases h;exact⟨rfl,rfl⟩
theorem y6z(out:List zA)(i:Int)(r:List zA)(h:quiet_all_L3 out i=some r):z6o (.quiet_all_L3 out i) r:=y6w (.quiet_all_L3 out i) r h
theorem v2t(t:zA)(r:List zA)(h:z9q t=some r):Trip Tryz.prog 49 [.d (tT t)] [] [.d (.sl (List.map zA.toD r))] []:=by
 unfold z9q at h;refine zH 1000 (v3l _ _ _ _ t) ?_;have hT:=y6z _ _ _ h;unfold z6o at hT;dsimp only at hT;simp only[List.map_cons,List.map_nil,List.length_cons,List.length_nil,tT,tV,tS,tG,zA.toD_eq,Value.toD_eq]at hT;exact hT
theorem y7X(t:zA)(r:Bool)(h:z5V t=some r):Trip Tryz.prog 15 [.d (tT t)] [] [(nB r)] []:=by
 unfold z5V at h;refine zH 1000 (y8w _ _ _ _ t) ?_;obtain⟨q1,g,h⟩:=zC h;refine⟨_,⟨_,v2t _ _ g⟩,?_⟩;refine zU (e':=(List.length q1:Int)) (by first|rfl|rw[zq3]) ?_;exact y3t _ _ _ _ _ h
theorem y7V(t:zA)(r:Bool)(h:z7z t=some r):Trip Tryz.prog 183 [.d (tT t)] [] [(nB r)] []:=by
 unfold z7z at h;refine zH 1000 (y8u _ _ _ _ t) ?_;obtain⟨q1,g,h⟩:=zC h;refine⟨_,⟨_,y7X _ _ g⟩,?_⟩;cases h;exact⟨rfl,rfl⟩
def z0U:(i:I_slices_IndexFunc_G236pick_1L2)→jU i→Prop
 |.slices_IndexFunc_G236pick_1L2 s v7 v8,r=>Ok (gF (Trip Tryz.prog) [(nI r)] []) (kL Tryz.f236 2) ⟨19,[(0,.d (.sl (List.map zA.toD s))),(1,.fn 183 [] []),(7,(nI v7)),(8,(nI v8))],[],[],0⟩
theorem z3Z:∀i r,uV uP i=some r→z0U i r:=by
 refine zP z0S fun g ih i=>?_;cases i with
 |slices_IndexFunc_G236pick_1L2 s v7 v8=>
  have w2X:=fun s v7 v8 r h=>ih (.slices_IndexFunc_G236pick_1L2 s v7 v8) r h;intro r h;replace h:yY (fun s v7 v8=>g (I_slices_IndexFunc_G236pick_1L2.slices_IndexFunc_G236pick_1L2 s v7 v8)) s v7 v8=some r:=h;unfold yY at h;refine jN 1000 (z4g _ _ _ _ s v7 v8) ?_;rintro _ rfl;refine zD decide_eq_true_iff h (fun _ h=>?_) (fun _ h=>?_)
  ·obtain⟨x,hx,h⟩:=zC h;refine⟨zF (l:=s) (zA.sz),vO hx,x.K,x.N,x.S,List.map zA.toD x.L,x.From,x.To,zL (zA.toD_eq x) hx,?_⟩;obtain⟨q1,g,h⟩:=zC h;refine⟨_,⟨_,y7V _ _ g⟩,?_⟩;refine zD Iff.rfl h (fun _ h=>?_) (fun _ h=>?_)
   ·cases h;exact⟨rfl,rfl⟩
   rintro _ rfl;exact w2X _ _ _ _ h
  cases h;exact⟨rfl,rfl⟩
theorem z4f(s:List zA)(v7 v8 r:Int)(h:slices_IndexFunc_G236pick_1L2 s v7 v8=some r):z0U (.slices_IndexFunc_G236pick_1L2 s v7 v8) r:=z3Z (.slices_IndexFunc_G236pick_1L2 s v7 v8) r h
theorem z4Y(s:List zA)(r:Int)(h:jL s=some r):Trip Tryz.prog 236 [.d (.sl (List.map zA.toD s)),.fn 183 [] []] [] [(nI r)] []:=by
 unfold jL at h;refine zH 1000 (z4Z _ _ _ _ s) ?_;refine zU (e':=(List.length s:Int)) (by first|rfl|rw[zq3]) ?_;exact z4f _ _ _ _ h
theorem z3N(s:List zA)(r:Bool)(h:wX s=some r):Trip Tryz.prog 182 [.d (.sl (List.map zA.toD s)),.fn 183 [] []] [] [(nB r)] []:=by
 unfold wX at h;refine zH 1000 (z3P _ _ _ _ s) ?_;obtain⟨q1,g,h⟩:=zC h;refine⟨_,⟨_,z4Y _ _ g⟩,?_⟩;rintro _ rfl;cases h;exact⟨rfl,rfl⟩
theorem y4C(l:List zA)(i:Int)(r:zA×Bool)(h:z6C l i=some r):Trip Tryz.prog 119 [.d (.sl (List.map zA.toD l)),(nI i)] [] [.d (tT r.1),(nB r.2)] []:=by
 unfold z6C at h;refine zH 1000 (v3j _ _ _ _ l i) ?_;rintro _ rfl;refine zD decide_eq_true_iff h (fun _ h=>?_) (fun _ h=>?_)
 ·cases h;exact⟨rfl,rfl⟩
 refine zU (e':=(List.length l:Int)) (by first|rfl|rw[zq3]) ?_;rintro _ rfl;refine zD decide_eq_true_iff h (fun _ h=>?_) (fun _ h=>?_)
 ·cases h;exact⟨rfl,rfl⟩
 refine⟨zF (l:=l) (zA.sz),?_⟩;obtain⟨hP,h⟩:=uN h;refine⟨by first|exact hP|simpa using hP,?_⟩;obtain⟨hP,h⟩:=uN h;refine⟨by first|exact hP|simpa using hP,?_⟩;obtain⟨hP,h⟩:=uN h;refine⟨by first|exact hP|simpa using hP,?_⟩;refine zU (e':=List.map zA.toD (List.drop 0 (List.take (Int.toNat i) l))) (by first|rfl|simp only[List.map_append,List.map_cons,List.map_nil,List.map_take,List.map_drop,List.map_set,List.map_replicate,zq3,zA.toD_eq]) ?_;rintro _ rfl;refine⟨zF (l:=l) (zA.sz),?_⟩;obtain⟨hP,h⟩:=uN h
 refine⟨by first|exact hP|simpa using hP,?_⟩;obtain⟨hP,h⟩:=uN h;refine⟨by first|exact hP|simpa using hP,?_⟩;obtain⟨hP,h⟩:=uN h;refine⟨by first|exact hP|simpa using hP,?_⟩;refine zU (e':=List.map zA.toD (List.drop (Int.toNat (IntKind.wrap .i64 (i+1))) (List.take (List.length l) l))) (by first|rfl|simp only[List.map_append,List.map_cons,List.map_nil,List.map_take,List.map_drop,List.map_set,List.map_replicate,zq3,zA.toD_eq]) ?_;obtain⟨q1,g,h⟩:=zC h;refine⟨_,⟨_,y0a _ _ g⟩,?_⟩;obtain⟨q2,g,h⟩:=zC h
 refine⟨_,⟨_,z3N _ _ g⟩,?_⟩;obtain⟨x,hx,h⟩:=zC h;refine⟨zF (l:=l) (zA.sz),vO hx,x.K,x.N,x.S,List.map zA.toD x.L,x.From,x.To,zL (zA.toD_eq x) hx,?_⟩;cases h;exact⟨rfl,rfl⟩
theorem v2s(m:zA)(rule:Int)(l:zA)(r:zA×Bool)(h:z9j m rule l=some r):Trip Tryz.prog 60 [.d (tT m),(nI rule),.d (tT l)] [] [.d (tT r.1),(nB r.2)] []:=by
 unfold z9j at h;refine zH 1000 (v3k _ _ _ _ m rule l) ?_;rintro _ rfl;refine zD zq2 h (fun _ h=>?_) (fun _ h=>?_)
 ·obtain⟨q1,g,h⟩:=zC h;refine⟨_,_,_,_,_,_,_,⟨_,y2R _ _ g⟩,?_⟩;cases h;exact⟨rfl,rfl⟩
 rintro _ rfl;refine zG zq2 h (fun _ h=>?_) (fun _ h=>?_)
 ·rintro _ rfl;refine zD zq2 h (fun hc99 h=>?_) (fun hc99 h=>?_)
  ·rintro _ rfl;refine zD zq2 h (fun _ h=>?_) (fun _ h=>?_)
   ·refine zU (e':=(List.length l.L:Int)) (by first|rfl|rw[zq3]) ?_;rintro _ rfl;refine zD zq2 h (fun _ h=>?_) (fun _ h=>?_)
    ·rintro _ rfl;refine zD decide_eq_true_iff h (fun _ h=>?_) (fun _ h=>?_)
     ·refine zU (e':=(List.length m.L:Int)) (by first|rfl|rw[zq3]) ?_;rintro _ rfl;refine zD decide_eq_true_iff h (fun _ h=>?_) (fun _ h=>?_)
      ·obtain⟨x,hx,h⟩:=zC h;refine⟨zF (l:=m.L) (zA.sz),vO hx,x.K,x.N,x.S,List.map zA.toD x.L,x.From,x.To,zL (zA.toD_eq x) hx,?_⟩;rintro _ rfl;refine zG zq2 h (fun _ h=>?_) (fun _ h=>?_)
       ·refine zU (e':=(List.length x.L:Int)) (by first|rfl|rw[zq3]) ?_;rintro _ rfl;refine zG zq2 h (fun _ h=>?_) (fun _ h=>?_)
        ·obtain⟨x1,hx,h⟩:=zC h;refine⟨zF (l:=x.L) (zA.sz),vO hx,x1.K,x1.N,x1.S,List.map zA.toD x1.L,x1.From,x1.To,zL (zA.toD_eq x1) hx,?_⟩;obtain⟨x2,hx,h⟩:=zC h;refine⟨zF (l:=x.L) (zA.sz),vO hx,x2.K,x2.N,x2.S,List.map zA.toD x2.L,x2.From,x2.To,zL (zA.toD_eq x2) hx,?_⟩;obtain⟨q2,g,h⟩:=zC h;refine⟨_,⟨_,z0G _ _ _ g⟩,?_⟩;refine zD Iff.rfl h (fun _ h=>?_) (fun _ h=>?_)
         ·cases h;exact⟨rfl,rfl⟩
         obtain⟨x3,hx,h⟩:=zC h;refine⟨zF (l:=x.L) (zA.sz),vO hx,x3.K,x3.N,x3.S,List.map zA.toD x3.L,x3.From,x3.To,zL (zA.toD_eq x3) hx,?_⟩;obtain⟨q3,g,h⟩:=zC h;refine⟨_,⟨_,z0G _ _ _ g⟩,?_⟩;cases h;exact⟨rfl,rfl⟩
        cases h;exact⟨rfl,rfl⟩
       cases h;exact⟨rfl,rfl⟩
      rintro _ rfl;refine uC zq2 (fun e=>absurd (hc99.symm.trans e) (by decide)) ?_;rintro _ rfl;refine uC zq2 (fun e=>absurd (hc99.symm.trans e) (by decide)) ?_;cases h;exact⟨rfl,rfl⟩
     rintro _ rfl;refine uC zq2 (fun e=>absurd (hc99.symm.trans e) (by decide)) ?_;rintro _ rfl;refine uC zq2 (fun e=>absurd (hc99.symm.trans e) (by decide)) ?_;cases h;exact⟨rfl,rfl⟩
    rintro _ rfl;refine uC zq2 (fun e=>absurd (hc99.symm.trans e) (by decide)) ?_;rintro _ rfl;refine uC zq2 (fun e=>absurd (hc99.symm.trans e) (by decide)) ?_;cases h;exact⟨rfl,rfl⟩
   rintro _ rfl;refine uC zq2 (fun e=>absurd (hc99.symm.trans e) (by decide)) ?_;rintro _ rfl;refine uC zq2 (fun e=>absurd (hc99.symm.trans e) (by decide)) ?_;cases h;exact⟨rfl,rfl⟩
  rintro _ rfl;refine zD zq2 h (fun hc107 h=>?_) (fun hc107 h=>?_)
  ·rintro _ rfl;refine zD zq2 h (fun _ h=>?_) (fun _ h=>?_)
   ·refine zU (e':=(List.length l.L:Int)) (by first|rfl|rw[zq3]) ?_;rintro _ rfl;refine zD zq2 h (fun _ h=>?_) (fun _ h=>?_)
    ·obtain⟨x44,hx,h⟩:=zC h;refine⟨zF (l:=l.L) (zA.sz),vO hx,x44.K,x44.N,x44.S,List.map zA.toD x44.L,x44.From,x44.To,zL (zA.toD_eq x44) hx,?_⟩;rintro _ rfl;refine zG zq2 h (fun _ h=>?_) (fun _ h=>?_)
     ·rintro _ rfl;refine zG zq2 h (fun _ h=>?_) (fun _ h=>?_)
      ·rintro _ rfl;refine zD decide_eq_true_iff h (fun _ h=>?_) (fun _ h=>?_)
       ·cases h;exact⟨rfl,rfl⟩
       obtain⟨hP,h⟩:=uN h;refine⟨by first|exact hP|simpa using hP,?_⟩;rintro _ rfl;rintro _ rfl;refine zG zq2 h (fun _ h=>?_) (fun _ h=>?_)
       ·obtain⟨hP,h⟩:=uN h;refine⟨by first|exact hP|simpa using hP,?_⟩;rintro _ rfl;obtain⟨q32,g,h⟩:=zC h;refine⟨_,_,_,_,_,_,_,⟨_,y4C _ _ _ g⟩,?_⟩;cases h;exact⟨rfl,rfl⟩
       cases h;exact⟨rfl,rfl⟩
      cases h;exact⟨rfl,rfl⟩
     cases h;exact⟨rfl,rfl⟩
    rintro _ rfl;refine uC zq2 (fun e=>absurd (hc107.symm.trans e) (by decide)) ?_;cases h;exact⟨rfl,rfl⟩
   rintro _ rfl;refine uC zq2 (fun e=>absurd (hc107.symm.trans e) (by decide)) ?_;cases h;exact⟨rfl,rfl⟩
  rintro _ rfl;refine zD zq2 h (fun _ h=>?_) (fun _ h=>?_)
  ·rintro _ rfl;refine zD zq2 h (fun _ h=>?_) (fun _ h=>?_)
   ·refine zU (e':=(List.length l.L:Int)) (by first|rfl|rw[zq3]) ?_;rintro _ rfl;refine zD zq2 h (fun _ h=>?_) (fun _ h=>?_)
    ·obtain⟨x51,hx,h⟩:=zC h;refine⟨zF (l:=l.L) (zA.sz),vO hx,x51.K,x51.N,x51.S,List.map zA.toD x51.L,x51.From,x51.To,zL (zA.toD_eq x51) hx,?_⟩;rintro _ rfl;refine zG zq2 h (fun _ h=>?_) (fun _ h=>?_)
     ·rintro _ rfl;refine zG zq2 h (fun _ h=>?_) (fun _ h=>?_)
      ·obtain⟨x52,hx,h⟩:=zC h;refine⟨zF (l:=l.L) (zA.sz),vO hx,x52.K,x52.N,x52.S,List.map zA.toD x52.L,x52.From,x52.To,zL (zA.toD_eq x52) hx,?_⟩;obtain⟨q37,g,h⟩:=zC h;refine⟨_,⟨_,z0G _ _ _ g⟩,?_⟩;refine zG Iff.rfl h (fun _ h=>?_) (fun _ h=>?_)
       ·obtain⟨x53,hx,h⟩:=zC h;refine⟨zF (l:=l.L) (zA.sz),vO hx,x53.K,x53.N,x53.S,List.map zA.toD x53.L,x53.From,x53.To,zL (zA.toD_eq x53) hx,?_⟩;obtain⟨q38,g,h⟩:=zC h;refine⟨_,_,_,_,_,_,_,⟨_,y4C _ _ _ g⟩,?_⟩;cases h;exact⟨rfl,rfl⟩
       cases h;exact⟨rfl,rfl⟩
      cases h;exact⟨rfl,rfl⟩
     cases h;exact⟨rfl,rfl⟩
    cases h;exact⟨rfl,rfl⟩
   cases h;exact⟨rfl,rfl⟩
  cases h;exact⟨rfl,rfl⟩
 cases h;exact⟨rfl,rfl⟩
def y4w:(i:z0F)→y0G i→Prop
 |.jF a b,r=>Trip Tryz.prog 61 [.d (tT a),.d (tT b)] [] [(nB r)] []
 |.slices_EqualFunc_G120Same s1 s2,r=>Trip Tryz.prog 120 [.d (.sl (List.map zA.toD s1)),.d (.sl (List.map zA.toD s2)),.fn 61 [] []] [] [(nB r)] []
 |.slices_EqualFunc_G120Same_L4 s2 v15 v16 v17,r=>Ok (z0h (Trip Tryz.prog) [(nB r)] []) (kL Tryz.f120 4) ⟨32,[(1,.d (.sl (List.map zA.toD s2))),(2,.fn 61 [] []),(15,.d (.sl (List.map zA.toD v15))),(16,(nI v16)),(17,(nI v17))],[],[],0⟩
theorem v2o:∀i r,uV z1J i=some r→y4w i r:=by
 refine zP z7g fun g ih i=>?_;cases i with
 |jF a b=>
  have w2V:=fun s1 s2 r h=>ih (.slices_EqualFunc_G120Same s1 s2) r h;intro r h;replace h:z4w (fun s1 s2=>g (z0F.slices_EqualFunc_G120Same s1 s2)) a b=some r:=h;unfold z4w at h;refine zH 1000 (v3M _ _ _ _ a b) ?_;rintro _ rfl;refine zD zq2 h (fun _ h=>?_) (fun _ h=>?_)
  ·rintro _ rfl;refine zD zq2 h (fun _ h=>?_) (fun _ h=>?_)
   ·rintro _ rfl;refine zD zq2 h (fun _ h=>?_) (fun _ h=>?_)
    ·obtain⟨q1,g,h⟩:=zC h;refine⟨_,⟨_,w2V _ _ _ g⟩,?_⟩;cases h;exact⟨rfl,rfl⟩
    cases h;exact⟨rfl,rfl⟩
   cases h;exact⟨rfl,rfl⟩
  cases h;exact⟨rfl,rfl⟩
 |slices_EqualFunc_G120Same s1 s2=>
  have w2W:=fun s2 v15 v16 v17 r h=>ih (.slices_EqualFunc_G120Same_L4 s2 v15 v16 v17) r h;intro r h;replace h:wP (fun s2 v15 v16 v17=>g (z0F.slices_EqualFunc_G120Same_L4 s2 v15 v16 v17)) s1 s2=some r:=h;unfold wP at h;refine zH 1000 (z5P _ _ _ _ s1 s2) ?_;refine zU (e':=(List.length s1:Int)) (by first|rfl|rw[zq3]) ?_;refine zU (e':=(List.length s2:Int)) (by first|rfl|rw[zq3]) ?_;rintro _ rfl;refine zG zq2 h (fun _ h=>?_) (fun _ h=>?_)
  ·refine zU (e':=(List.length s1:Int)) (by first|rfl|rw[zq3]) ?_;exact w2W _ _ _ _ _ h
  cases h;exact⟨rfl,rfl⟩
 |slices_EqualFunc_G120Same_L4 s2 v15 v16 v17=>
  have w2Y:=fun a b r h=>ih (.jF a b) r h;have w2W:=fun s2 v15 v16 v17 r h=>ih (.slices_EqualFunc_G120Same_L4 s2 v15 v16 v17) r h;intro r h;replace h:vE (fun a b=>g (z0F.jF a b)) (fun s2 v15 v16 v17=>g (z0F.slices_EqualFunc_G120Same_L4 s2 v15 v16 v17)) s2 v15 v16 v17=some r:=h;unfold vE at h;refine jN 1000 (z4L _ _ _ _ s2 v15 v16 v17) ?_;rintro _ rfl;refine zD decide_eq_true_iff h (fun _ h=>?_) (fun _ h=>?_)
  ·obtain⟨x,hx,h⟩:=zC h;refine⟨zF (l:=v15) (zA.sz),vO hx,x.K,x.N,x.S,List.map zA.toD x.L,x.From,x.To,zL (zA.toD_eq x) hx,?_⟩;obtain⟨x1,hx,h⟩:=zC h;refine⟨zF (l:=s2) (zA.sz),vO hx,x1.K,x1.N,x1.S,List.map zA.toD x1.L,x1.From,x1.To,zL (zA.toD_eq x1) hx,?_⟩;obtain⟨q1,g,h⟩:=zC h;refine⟨_,⟨_,w2Y _ _ _ g⟩,?_⟩;refine zG Iff.rfl h (fun _ h=>?_) (fun _ h=>?_)
   ·rintro _ rfl;exact w2W _ _ _ _ _ h
   cases h;exact⟨rfl,rfl⟩
  cases h;exact⟨rfl,rfl⟩
theorem v2C(a b:zA)(r:Bool)(h:jF a b=some r):y4w (.jF a b) r:=v2o (.jF a b) r h
theorem y9N(m:zA)(rule:Int)(l r_:zA)(r:Bool)(h:z9I m rule l r_=some r):Trip Tryz.prog 25 [.d (tT m),(nI rule),.d (tT l),.d (tT r_)] [] [(nB r)] []:=by
 unfold z9I at h;refine zH 1000 (v0E _ _ _ _ m rule l r_) ?_;obtain⟨q1,g,h⟩:=zC h;refine⟨_,_,_,_,_,_,_,⟨_,v2s _ _ _ _ g⟩,?_⟩;refine zD Iff.rfl h (fun _ h=>?_) (fun _ h=>?_)
 ·obtain⟨q2,g,h⟩:=zC h;refine⟨_,⟨_,v2C _ _ _ g⟩,?_⟩;cases h;exact⟨rfl,rfl⟩
 cases h;exact⟨rfl,rfl⟩
theorem v5h(op:Int)(a b r:zA)(h:y3Z op a b=some r):Trip Tryz.prog 40 [(nI op),.d (tT a),.d (tT b)] [] [.d (tT r)] []:=by
 unfold y3Z at h;refine zH 1000 (v5X _ _ _ _ op a b) ?_;cases h;refine⟨?_,rfl⟩;simp only[List.map_cons,List.map_nil,tT,tV,tS,tG,zA.toD_eq,Value.toD_eq]
theorem y7p(n:Int)(r:zA)(h:z9S n=some r):Trip Tryz.prog 63 [(nI n)] [] [.d (tT r)] []:=by
 unfold z9S at h;refine zH 1000 (v5Y _ _ _ _ n) ?_;cases h;exact⟨rfl,rfl⟩
theorem z6f (r:Bool)(h:z3b=some r):Trip Tryz.prog 26 [] [] [(nB r)] []:=by
 unfold z3b at h;refine zH 1000 (v0G _ _ _ _ ) ?_;obtain⟨q1,g,h⟩:=zC h;refine⟨_,_,_,_,_,_,⟨_,y7p _ _ g⟩,?_⟩;obtain⟨q2,g,h⟩:=zC h;refine⟨_,_,_,_,_,_,⟨_,y7p _ _ g⟩,?_⟩;obtain⟨q3,g,h⟩:=zC h;refine⟨_,_,_,_,_,_,⟨_,v5h _ _ _ _ g⟩,?_⟩;obtain⟨q4,g,h⟩:=zC h;refine⟨_,_,_,_,_,_,_,⟨_,y2R _ _ g⟩,?_⟩;refine zD Iff.rfl h (fun _ h=>?_) (fun _ h=>?_)
 ·rintro _ rfl;refine zD zq2 h (fun _ h=>?_) (fun _ h=>?_)
  ·rintro _ rfl;cases h;exact⟨rfl,rfl⟩
  cases h;exact⟨rfl,rfl⟩
 cases h;exact⟨rfl,rfl⟩
def y1g:(i:z0y)→z7j i→Prop
 |.vB a b,r=>Trip Tryz.prog 54 [.d (tT a),.d (tT b)] [] [(nB r)] []
 |.yE i a b,r=>Ok (z7r (Trip Tryz.prog) [(nB r)] []) (kL Tryz.f54 4) ⟨67,[(2,.ref 2 1 0),(3,.ref 3 1 0),(5,(nI i))],[(2,1,some (.agg (tT a))),(3,1,some (.agg (tT b)))],[],0⟩
theorem y7P:∀i r,uV z2e i=some r→y1g i r:=by
 refine zP z7f fun g ih i=>?_;cases i with
 |vB a b=>
  have w1I:=fun i a b r h=>ih (.yE i a b) r h;intro r h;replace h:z2n (fun i a b=>g (z0y.yE i a b)) a b=some r:=h;unfold z2n at h;refine zH 1000 (y8x _ _ _ _ a b) ?_;rintro _ rfl;refine zG zq2 h (fun _ h=>?_) (fun _ h=>?_)
  ·rintro _ rfl;refine zG zq2 h (fun _ h=>?_) (fun _ h=>?_)
   ·rintro _ rfl;refine zG zq2 h (fun _ h=>?_) (fun _ h=>?_)
    ·rintro _ rfl;refine zG zq2 h (fun _ h=>?_) (fun _ h=>?_)
     ·rintro _ rfl;refine zG zq2 h (fun _ h=>?_) (fun _ h=>?_)
      ·refine zU (e':=(List.length a.L:Int)) (by first|rfl|rw[zq3]) ?_;refine zU (e':=(List.length b.L:Int)) (by first|rfl|rw[zq3]) ?_;rintro _ rfl;refine zG zq2 h (fun _ h=>?_) (fun _ h=>?_)
       ·exact w1I _ _ _ _ h
       cases h;exact⟨rfl,rfl⟩
      cases h;exact⟨rfl,rfl⟩
     cases h;exact⟨rfl,rfl⟩
    cases h;exact⟨rfl,rfl⟩
   cases h;exact⟨rfl,rfl⟩
  cases h;exact⟨rfl,rfl⟩
 |yE i a b=>
  have w1H:=fun a b r h=>ih (.vB a b) r h;have w1I:=fun i a b r h=>ih (.yE i a b) r h;intro r h;replace h:gH (fun a b=>g (z0y.vB a b)) (fun i a b=>g (z0y.yE i a b)) i a b=some r:=h;unfold gH at h;refine jN 1000 (y3F _ _ _ _ i a b) ?_;refine zU (e':=(List.length a.L:Int)) (by first|rfl|rw[zq3]) ?_;rintro _ rfl;refine zD decide_eq_true_iff h (fun _ h=>?_) (fun _ h=>?_)
  ·obtain⟨x,hx,h⟩:=zC h;refine⟨zF (l:=a.L) (zA.sz),vO hx,x.K,x.N,x.S,List.map zA.toD x.L,x.From,x.To,zL (zA.toD_eq x) hx,?_⟩;obtain⟨x1,hx,h⟩:=zC h;refine⟨zF (l:=b.L) (zA.sz),vO hx,x1.K,x1.N,x1.S,List.map zA.toD x1.L,x1.From,x1.To,zL (zA.toD_eq x1) hx,?_⟩;obtain⟨q1,g,h⟩:=zC h;refine⟨_,⟨_,w1H _ _ _ g⟩,?_⟩;refine zG Iff.rfl h (fun _ h=>?_) (fun _ h=>?_)
   ·rintro _ rfl;exact w1I _ _ _ _ h
   cases h;exact⟨rfl,rfl⟩
  cases h;exact⟨rfl,rfl⟩
theorem z5k(a b:zA)(r:Bool)(h:vB a b=some r):y1g (.vB a b) r:=y7P (.vB a b) r h
def z7V:(i:z2G)→z4R i→Prop
 |.yP i d,r=>Ok (z7s (Trip Tryz.prog) [(nB r)] []) (kL Tryz.f179 4) ⟨37,[(1,.ref 1 1 0),(3,(nI i))],[(1,1,some (.agg (tT d)))],[],0⟩
theorem y3l:∀i r,uV z2z i=some r→z7V i r:=by
 refine zP z7N fun g ih i=>?_;cases i with
 |yP i d=>
  have w1P:=fun i d r h=>ih (.yP i d) r h;intro r h;replace h:gI (fun i d=>g (z2G.yP i d)) i d=some r:=h;unfold gI at h;refine jN 1000 (y3G _ _ _ _ i d) ?_;refine zU (e':=(List.length d.L:Int)) (by first|rfl|rw[zq3]) ?_;rintro _ rfl;refine zD decide_eq_true_iff h (fun _ h=>?_) (fun _ h=>?_)
  ·obtain⟨x,hx,h⟩:=zC h;refine⟨zF (l:=d.L) (zA.sz),vO hx,x.K,x.N,x.S,List.map zA.toD x.L,x.From,x.To,zL (zA.toD_eq x) hx,?_⟩;rintro _ rfl;refine zG zq2 h (fun _ h=>?_) (fun _ h=>?_)
   ·obtain⟨x1,hx,h⟩:=zC h;refine⟨zF (l:=d.L) (zA.sz),vO hx,x1.K,x1.N,x1.S,List.map zA.toD x1.L,x1.From,x1.To,zL (zA.toD_eq x1) hx,?_⟩;refine zU (e':=(List.length x1.L:Int)) (by first|rfl|rw[zq3]) ?_;rintro _ rfl;refine zG zq2 h (fun _ h=>?_) (fun _ h=>?_)
    ·rintro _ rfl;exact w1P _ _ _ h
    cases h;exact⟨rfl,rfl⟩
   cases h;exact⟨rfl,rfl⟩
  cases h;exact⟨rfl,rfl⟩
theorem y3u(i:Int)(d:zA)(r:Bool)(h:yP i d=some r):z7V (.yP i d) r:=y3l (.yP i d) r h
theorem z7o(d:zA)(r:Bool)(h:z1V d=some r):Trip Tryz.prog 179 [.d (tT d)] [] [(nB r)] []:=by
 unfold z1V at h;refine zH 1000 (y8y _ _ _ _ d) ?_;rintro _ rfl;refine zG zq2 h (fun _ h=>?_) (fun _ h=>?_)
 ·refine zU (e':=(List.length d.L:Int)) (by first|rfl|rw[zq3]) ?_;rintro _ rfl;refine zD zq2 h (fun _ h=>?_) (fun _ h=>?_)
  ·cases h;exact⟨rfl,rfl⟩
  exact y3u _ _ _ h
 cases h;exact⟨rfl,rfl⟩
def y1h:(i:uG)→z7k i→Prop
 |.zN m t in_,r=>Trip Tryz.prog 229 [.d (tT m),.d (tT t),.d (.sl (List.map (D.int .i64) in_))] [] [(nI r)] []
 |.yA in_ at_ i m,r=>Ok (z3G (Trip Tryz.prog) [(nI r)] []) (kL Tryz.f229 12) ⟨137,[(2,.d (.sl (List.map (D.int .i64) in_))),(3,.ref 3 1 0),(8,(nI at_)),(9,(nI i))],[(3,1,some (.agg (tT m)))],[],0⟩
 |.zR in_ at_ sum i m d,r=>Ok (z3G (Trip Tryz.prog) [(nI r)] []) (kL Tryz.f229 21) ⟨137,[(2,.d (.sl (List.map (D.int .i64) in_))),(3,.ref 3 1 0),(8,(nI at_)),(10,.ref 10 1 0),(11,(nI sum)),(12,(nI i))],[(3,1,some (.agg (tT m))),(10,1,some (.agg (tT d)))],[],0⟩
theorem y7Q:∀i r,uV z0x i=some r→y1h i r:=by
 refine zP z5d fun g ih i=>?_;cases i with
 |zN m t in_=>
  have w1Q:=fun m t in_ r h=>ih (.zN m t in_) r h;have w1R:=fun in_ at_ i m r h=>ih (.yA in_ at_ i m) r h;intro r h;replace h:wK (fun m t in_=>g (uG.zN m t in_)) (fun in_ at_ i m=>g (uG.yA in_ at_ i m)) m t in_=some r:=h;unfold wK at h;refine zH 1000 (y8z _ _ _ _ m t in_) ?_;rintro _ rfl;refine zD zq2 h (fun hc142 h=>?_) (fun hc142 h=>?_)
  ·refine zU (e':=(List.length t.L:Int)) (by first|rfl|rw[zq3]) ?_;rintro _ rfl;refine zD zq2 h (fun _ h=>?_) (fun _ h=>?_)
   ·cases h;exact⟨rfl,rfl⟩
   rintro _ rfl;refine uC zq2 (fun e=>absurd (hc142.symm.trans e) (by decide)) ?_;rintro _ rfl;refine z7L zq2 (fun e=>absurd (hc142.symm.trans e) (by decide)) ?_;cases h;exact⟨rfl,rfl⟩
  rintro _ rfl;refine zD zq2 h (fun hc144 h=>?_) (fun hc144 h=>?_)
  ·refine zU (e':=(List.length t.L:Int)) (by first|rfl|rw[zq3]) ?_;rintro _ rfl;refine zD zq2 h (fun _ h=>?_) (fun _ h=>?_)
   ·cases h;exact⟨rfl,rfl⟩
   rintro _ rfl;refine uC zq2 (fun e=>absurd (hc144.symm.trans e) (by decide)) ?_;rintro _ rfl;refine z7L zq2 (fun e=>absurd (hc144.symm.trans e) (by decide)) ?_;cases h;exact⟨rfl,rfl⟩
  rintro _ rfl;refine zD zq2 h (fun hc146 h=>?_) (fun hc146 h=>?_)
  ·refine zU (e':=(List.length t.L:Int)) (by first|rfl|rw[zq3]) ?_;rintro _ rfl;refine zD zq2 h (fun _ h=>?_) (fun _ h=>?_)
   ·rintro _ rfl;refine zD decide_eq_true_iff h (fun _ h=>?_) (fun _ h=>?_)
    ·rintro _ rfl;refine zD decide_eq_true_iff h (fun _ h=>?_) (fun _ h=>?_)
     ·obtain⟨x2,hx,h⟩:=zC h;refine⟨zF (l:=t.L) (zA.sz),vO hx,x2.K,x2.N,x2.S,List.map zA.toD x2.L,x2.From,x2.To,zL (zA.toD_eq x2) hx,?_⟩;obtain⟨q3,g,h⟩:=zC h;refine⟨_,⟨_,w1Q _ _ _ _ g⟩,?_⟩;rintro _ rfl;rintro _ rfl;refine zD decide_eq_true_iff h (fun _ h=>?_) (fun _ h=>?_)
      ·cases h;exact⟨rfl,rfl⟩
      cases h;exact⟨rfl,rfl⟩
     rintro _ rfl;refine z7L zq2 (fun e=>absurd (hc146.symm.trans e) (by decide)) ?_;cases h;exact⟨rfl,rfl⟩
    rintro _ rfl;refine z7L zq2 (fun e=>absurd (hc146.symm.trans e) (by decide)) ?_;cases h;exact⟨rfl,rfl⟩
   rintro _ rfl;refine z7L zq2 (fun e=>absurd (hc146.symm.trans e) (by decide)) ?_;cases h;exact⟨rfl,rfl⟩
  rintro _ rfl;refine zG zq2 h (fun _ h=>?_) (fun _ h=>?_)
  ·refine zU (e':=(List.length t.L:Int)) (by first|rfl|rw[zq3]) ?_;rintro _ rfl;refine zG zq2 h (fun _ h=>?_) (fun _ h=>?_)
   ·rintro _ rfl;refine zD decide_eq_true_iff h (fun _ h=>?_) (fun _ h=>?_)
    ·cases h;exact⟨rfl,rfl⟩
    refine zU (e':=(List.length m.L:Int)) (by first|rfl|rw[zq3]) ?_;rintro _ rfl;refine zD decide_eq_true_iff h (fun _ h=>?_) (fun _ h=>?_)
    ·cases h;exact⟨rfl,rfl⟩
    exact w1R _ _ _ _ _ h
   cases h;exact⟨rfl,rfl⟩
  cases h;exact⟨rfl,rfl⟩
 |yA in_ at_ i m=>
  have w1R:=fun in_ at_ i m r h=>ih (.yA in_ at_ i m) r h;have w1S:=fun in_ at_ sum i m d r h=>ih (.zR in_ at_ sum i m d) r h;intro r h;replace h:jA (fun in_ at_ i m=>g (uG.yA in_ at_ i m)) (fun in_ at_ sum i m d=>g (uG.zR in_ at_ sum i m d)) in_ at_ i m=some r:=h;unfold jA at h;refine jN 1000 (y2s _ _ _ _ in_ at_ i m) ?_;refine zU (e':=(List.length in_:Int)) (by first|rfl|rw[zq3]) ?_;rintro _ rfl;refine zD decide_eq_true_iff h (fun _ h=>?_) (fun _ h=>?_)
  ·obtain⟨x,hx,h⟩:=zC h;refine⟨zF (l:=in_) (fun _=>rfl),vO hx,x,zL rfl hx,?_⟩;rintro _ rfl;refine zD zq2 h (fun _ h=>?_) (fun _ h=>?_)
   ·cases h;exact⟨rfl,rfl⟩
   rintro _ rfl;exact w1R _ _ _ _ _ h
  obtain⟨x1,hx,h⟩:=zC h;refine⟨zF (l:=m.L) (zA.sz),vO hx,x1.K,x1.N,x1.S,List.map zA.toD x1.L,x1.From,x1.To,zL (zA.toD_eq x1) hx,?_⟩;obtain⟨q1,g,h⟩:=zC h;refine⟨_,⟨_,z7o _ _ g⟩,?_⟩;refine zG Iff.rfl h (fun _ h=>?_) (fun _ h=>?_)
  ·exact w1S _ _ _ _ _ _ _ h
  cases h;exact⟨rfl,rfl⟩
 |zR in_ at_ sum i m d=>
  have w1Q:=fun m t in_ r h=>ih (.zN m t in_) r h;have w1S:=fun in_ at_ sum i m d r h=>ih (.zR in_ at_ sum i m d) r h;intro r h;replace h:jB (fun m t in_=>g (uG.zN m t in_)) (fun in_ at_ sum i m d=>g (uG.zR in_ at_ sum i m d)) in_ at_ sum i m d=some r:=h;unfold jB at h;refine jN 1000 (y2t _ _ _ _ in_ at_ sum i m d) ?_;refine zU (e':=(List.length d.L:Int)) (by first|rfl|rw[zq3]) ?_;rintro _ rfl;refine zD decide_eq_true_iff h (fun _ h=>?_) (fun _ h=>?_)
  ·obtain⟨x,hx,h⟩:=zC h;refine⟨zF (l:=d.L) (zA.sz),vO hx,x.K,x.N,x.S,List.map zA.toD x.L,x.From,x.To,zL (zA.toD_eq x) hx,?_⟩;obtain⟨x1,hx,h⟩:=zC h;refine⟨zF (l:=x.L) (zA.sz),vO hx,x1.K,x1.N,x1.S,List.map zA.toD x1.L,x1.From,x1.To,zL (zA.toD_eq x1) hx,?_⟩;refine⟨zF (l:=in_) (fun _=>rfl),?_⟩;refine⟨by first|rfl|decide|simp only[zq3,List.length_cons,List.length_nil,List.map_append,List.length_append],?_⟩;obtain⟨hP,h⟩:=uN h;refine⟨by first|exact hP|simpa using hP,?_⟩
   refine zU (e':=List.map (D.int .i64) (([]:List Int)++in_)) (by first|rfl|simp only[List.map_append,List.map_cons,List.map_nil,List.map_take,List.map_drop,List.map_set,List.map_replicate,zq3]) ?_;refine⟨by simp[zE,D.cells],?_⟩;refine⟨by first|rfl|decide|simp only[zq3,List.length_cons,List.length_nil,List.map_append,List.length_append],?_⟩;obtain⟨hP,h⟩:=uN h;refine⟨by first|exact hP|simpa using hP,?_⟩
   refine zU (e':=List.map (D.int .i64) ((([]:List Int)++in_)++[at_])) (by first|rfl|simp only[List.map_append,List.map_cons,List.map_nil,List.map_take,List.map_drop,List.map_set,List.map_replicate,zq3]) ?_;obtain⟨q1,g,h⟩:=zC h;refine⟨_,⟨_,w1Q _ _ _ _ g⟩,?_⟩;rintro _ rfl;rintro _ rfl;refine zD zq2 h (fun _ h=>?_) (fun _ h=>?_)
   ·cases h;exact⟨rfl,rfl⟩
   rintro _ rfl;refine zD decide_eq_true_iff h (fun _ h=>?_) (fun _ h=>?_)
   ·cases h;exact⟨rfl,rfl⟩
   rintro _ rfl;exact w1S _ _ _ _ _ _ _ h
  cases h;exact⟨rfl,rfl⟩
theorem y7Y(m t:zA)(in_:List Int)(r:Int)(h:zN m t in_=some r):y1h (.zN m t in_) r:=y7Q (.zN m t in_) r h
theorem z1f(m t:zA)(r:Int)(h:z0c m t=some r):Trip Tryz.prog 164 [.d (tT m),.d (tT t)] [] [(nI r)] []:=by
 unfold z0c at h;refine zH 1000 (v0K _ _ _ _ m t) ?_;obtain⟨q1,g,h⟩:=zC h;refine⟨_,⟨_,y7Y _ _ _ _ g⟩,?_⟩;cases h;exact⟨rfl,rfl⟩
def z8x:(i:gB)→z5A i→Prop
 |.yB t,r=>Trip Tryz.prog 181 [.d (tT t)] [] [.d (tT r)] []
 |.zZ i t o2 K N S L From To,r=>Ok (z5K (Trip Tryz.prog) [.d (tT r)] []) (kL Tryz.f181 3) ⟨29,[(1,.ref 1 1 0),(2,.ref 2 1 0),(3,.hp 0 0),(4,(nI i))],[(1,1,some (.agg (tT t))),(2,1,some (.agg (tT o2)))],[(hM K N S (List.map zA.toD L) From To)],0⟩
theorem y4f:∀i r,uV z0T i=some r→z8x i r:=by
 refine zP z5z fun g ih i=>?_;cases i with
 |yB t=>
  have w1U:=fun i t o2 K N S L From To r h=>ih (.zZ i t o2 K N S L From To) r h;intro r h;replace h:z0W (fun i t o2 K N S L From To=>g (gB.zZ i t o2 K N S L From To)) t=some r:=h;unfold z0W at h;refine zH 1000 (y5l _ _ _ _ t) ?_;exact w1U _ _ _ _ _ _ _ _ _ _ h
 |zZ i t o2 K N S L From To=>
  have w1T:=fun t r h=>ih (.yB t) r h;have w1U:=fun i t o2 K N S L From To r h=>ih (.zZ i t o2 K N S L From To) r h;intro r h;replace h:jK (fun t=>g (gB.yB t)) (fun i t o2 K N S L From To=>g (gB.zZ i t o2 K N S L From To)) i t o2 K N S L From To=some r:=h;unfold jK at h;refine jN 1000 (y1v _ _ _ _ i t o2 K N S L From To) ?_;refine zU (e':=(List.length t.L:Int)) (by first|rfl|rw[zq3]) ?_;rintro _ rfl;refine zD decide_eq_true_iff h (fun _ h=>?_) (fun _ h=>?_)
  ·obtain⟨x,hx,h⟩:=zC h;refine⟨zF (l:=t.L) (zA.sz),vO hx,x.K,x.N,x.S,List.map zA.toD x.L,x.From,x.To,zL (zA.toD_eq x) hx,?_⟩;obtain⟨q1,g,h⟩:=zC h;refine⟨_,_,_,_,_,_,⟨_,w1T _ _ g⟩,?_⟩;refine⟨by simp[zE,D.cells],?_⟩;refine⟨by first|rfl|decide|simp only[zq3,List.length_cons,List.length_nil,List.map_append,List.length_append],?_⟩;obtain⟨hP,h⟩:=uN h;refine⟨by first|exact hP|simpa using hP,?_⟩
   refine zU (e':=List.map zA.toD (L++[q1])) (by first|rfl|simp only[List.map_append,List.map_cons,List.map_nil,List.map_take,List.map_drop,List.map_set,List.map_replicate,zq3,zA.toD_eq]) ?_;refine⟨by first|rfl|decide|simp only[zq3,List.length_cons,List.length_nil,List.map_append,List.length_append],?_⟩;rintro _ rfl;exact w1U _ _ _ _ _ _ _ _ _ _ h
  cases h;exact⟨rfl,rfl⟩
theorem z0e(t r:zA)(h:yB t=some r):z8x (.yB t) r:=y4f (.yB t) r h
theorem z0f (r:zA)(h:gQ=some r):Trip Tryz.prog 230 [] [] [.d (tT r)] []:=by
 unfold gQ at h;refine zH 1000 (v3r _ _ _ _ ) ?_;cases h;exact⟨rfl,rfl⟩
theorem y2f (r:zA)(h:z6k=some r):Trip Tryz.prog 169 [] [] [.d (tT r)] []:=by
 unfold z6k at h;refine zH 1000 (v5I _ _ _ _ ) ?_;cases h;exact⟨rfl,rfl⟩
theorem z4A(t r:zA)(h:z1g t=some r):Trip Tryz.prog 168 [.d (tT t)] [] [.d (tT r)] []:=by
 unfold z1g at h;refine zH 1000 (y6L _ _ _ _ t) ?_;rintro _ rfl;refine zD zq2 h (fun _ h=>?_) (fun _ h=>?_)
 ·obtain⟨q1,g,h⟩:=zC h;refine⟨_,_,_,_,_,_,⟨_,y2f _ g⟩,?_⟩;cases h;exact⟨rfl,rfl⟩
 rintro _ rfl;refine zD zq2 h (fun _ h=>?_) (fun _ h=>?_)
 ·obtain⟨q2,g,h⟩:=zC h;refine⟨_,_,_,_,_,_,⟨_,z0f _ g⟩,?_⟩;cases h;exact⟨rfl,rfl⟩
 cases h;exact⟨rfl,rfl⟩
theorem vX(t:zA)(e:Int)(r:Ref16Got)(h:vF t e=some r):Trip Tryz.prog 180 [.d (tT t),(nI e)] [] [.d (.agg [(.int .i64 r.T_.K),(.int .i64 r.T_.N),(.str r.T_.S),(.sl (List.map zA.toD r.T_.L)),(.int .i64 r.T_.From),(.int .i64 r.T_.To),(.int .i64 r.At),(.int .i64 r.E)])] []:=by
 unfold vF at h;refine zH 1000 (v5K _ _ _ _ t e) ?_;cases h;exact⟨rfl,rfl⟩
def y4q:(i:z1N)→y0A i→Prop
 |.uZ t,r=>Trip Tryz.prog 262 [.d (tT t)] [] [(nB r)] []
 |.vT i t,r=>Ok (y0N (Trip Tryz.prog) [(nB r)] []) (kL Tryz.f262 4) ⟨21,[(1,.ref 1 1 0),(3,(nI i))],[(1,1,some (.agg (tT t)))],[],0⟩
theorem v2i:∀i r,uV z3V i=some r→y4q i r:=by
 refine zP y0t fun g ih i=>?_;cases i with
 |uZ t=>
  have w1O:=fun i t r h=>ih (.vT i t) r h;intro r h;replace h:z4k (fun i t=>g (z1N.vT i t)) t=some r:=h;unfold z4k at h;refine zH 1000 (v3p _ _ _ _ t) ?_;rintro _ rfl;refine zD zq2 h (fun _ h=>?_) (fun _ h=>?_)
  ·cases h;exact⟨rfl,rfl⟩
  exact w1O _ _ _ h
 |vT i t=>
  have w1N:=fun t r h=>ih (.uZ t) r h;have w1O:=fun i t r h=>ih (.vT i t) r h;intro r h;replace h:z0M (fun t=>g (z1N.uZ t)) (fun i t=>g (z1N.vT i t)) i t=some r:=h;unfold z0M at h;refine jN 1000 (y6K _ _ _ _ i t) ?_;refine zU (e':=(List.length t.L:Int)) (by first|rfl|rw[zq3]) ?_;rintro _ rfl;refine zD decide_eq_true_iff h (fun _ h=>?_) (fun _ h=>?_)
  ·obtain⟨x,hx,h⟩:=zC h;refine⟨zF (l:=t.L) (zA.sz),vO hx,x.K,x.N,x.S,List.map zA.toD x.L,x.From,x.To,zL (zA.toD_eq x) hx,?_⟩;obtain⟨q1,g,h⟩:=zC h;refine⟨_,⟨_,w1N _ _ g⟩,?_⟩;refine zG Iff.rfl h (fun _ h=>?_) (fun _ h=>?_)
   ·rintro _ rfl;exact w1O _ _ _ h
   cases h;exact⟨rfl,rfl⟩
  cases h;exact⟨rfl,rfl⟩
theorem v2u(t:zA)(r:Bool)(h:uZ t=some r):y4q (.uZ t) r:=v2i (.uZ t) r h
theorem y9Q(m t:zA)(r:Bool)(h:z6G m t=some r):Trip Tryz.prog 235 [.d (tT m),.d (tT t)] [] [(nB r)] []:=by
 unfold z6G at h;refine zH 1000 (v0M _ _ _ _ m t) ?_;obtain⟨q1,g,h⟩:=zC h;refine⟨_,⟨_,z1f _ _ _ g⟩,?_⟩;rintro _ rfl;refine zD decide_eq_true_iff h (fun _ h=>?_) (fun _ h=>?_)
 ·obtain⟨q2,g,h⟩:=zC h;refine⟨_,⟨_,v2u _ _ g⟩,?_⟩;cases h;exact⟨rfl,rfl⟩
 cases h;exact⟨rfl,rfl⟩
open Go.RowKit in
theorem v3N{w:World}{M:Nat→Nat→Prop}{b o:Nat}{l:List zA}(hc:RelC w M b o (jP (l.map zA.toD))){k:Nat}(hk:k<l.length):
  ∃v3,w.cell? ⟨b,o+k*6,none⟩=some (.int .i64 l[k].K)∧w.cell? ⟨b,o+k*6+1,none⟩=some (.int .i64 l[k].N)∧w.cell? ⟨b,o+k*6+2,none⟩=some (.string ⟨⟨l[k].S⟩⟩) ∧
   w.cell? ⟨b,o+k*6+3,none⟩=some v3∧w.cell? ⟨b,o+k*6+4,none⟩=some (.int .i64 l[k].From)∧w.cell? ⟨b,o+k*6+5,none⟩=some (.int .i64 l[k].To)∧RelV w M v3 (.sl (l[k].L.map zA.toD)):=by
 have hs:zE 6 (l.map zA.toD):=zF (fun x=>by rw[zA.toD_eq];rfl);have h:=hc.elem hs (i:=k) (x:=l[k].toD) (by rw[List.getElem?_map,List.getElem?_eq_getElem hk];rfl);rw[zA.toD_eq]at h;cases h with
 |cons _ _ v0 _ _ c0 _ _ r0 h=>cases h with
 |cons _ _ v1 _ _ c1 _ _ r1 h=>cases h with
 |cons _ _ v2 _ _ c2 _ _ r2 h=>cases h with
 |cons _ _ v3 _ _ c3 _ _ r3 h=>cases h with
 |cons _ _ v4 _ _ c4 _ _ r4 h=>cases h with
 |cons _ _ v5 _ _ c5 _ _ r5 h=>
  cases r0;cases r1;cases r2;cases r4;cases r5;exact⟨v3,c0,c1,c2,c3,c4,c5,r3⟩
set_option maxHeartbeats 4000000 in
set_option maxRecDepth 1000000 in
open Go.RowKit Go.Shelf in
theorem y2d(t r:zA)(h:z1W t=some r):Trip Tryz.prog 181 [.d (tT t)] [] [.cells [(nI r.K),(nI r.N),(nS r.S),.wr 6 (List.map zA.toD r.L),(nI r.From),(nI r.To)]] []:=by
 have T_en:Nt.Enters Tryz.prog 181:=⟨_,Tryz.func181,by rfl,by rfl⟩;refine⟨T_en,fun w M0 κ vs B hv=>?_⟩;unfold z1W at h;obtain⟨hne,h⟩:=uN h;obtain⟨l,hgo0,h⟩:=zC h;have hr:=Option.some.inj h;subst hr;clear h;cases hv with
 |cons v _ vs _ g1 hv=>
  cases hv;cases g1 with
  |d _ _ g1=>
   cases g1 with
   |agg vs _ g1=>
    cases g1 with
    |cons v0 _ _ _ s0 h0 g1=>
    cases g1 with
    |cons v1 _ _ _ s1 h1 g1=>
    cases g1 with
    |cons v2 _ _ _ s2 h2 g1=>
    cases g1 with
    |cons v3 _ _ _ s3 h3 g1=>
    cases g1 with
    |cons v4 _ _ _ s4 h4 g1=>
    cases g1 with
    |cons v5 _ _ _ s5 h5 g1=>
    cases g1;cases h0;cases h1;cases h2;cases h4;cases h5;obtain⟨ad,cap,rfl,hopen⟩:=v4l h3;obtain⟨b,o,rfl,hc⟩:=hopen (fun e=>by have:=congrArg List.length e;rw[zq3]at this;simp at this;rw[this]at hne;simp at hne);rw[zq3]at *
    go_enter Tryz.func181,Tryz.ntmps181
    go_wp2_with fail
    have hb1:b<w.heap.size:=by
     have:=hc;cases hl:t.L with
     |nil=>rw[hl]at hne;simp at hne
     |cons x xs=>
      rw[hl]at this;rw[List.map_cons,jP]at this;rw[zA.toD_eq]at this;cases this with
      |cons _ _ _ _ _ h _ _ _ _=>exact z1y h
    obtain⟨i0,dd,hi,hz1,-⟩:=z0d (P:=Tryz.prog) (t:=24) (n:=6) (by kernel_rfl);have hz2:=z7J (P:=Tryz.prog) (t:=24) (n:=72) (by kernel_rfl) hi;have hz0:=z7a (P:=Tryz.prog) (t:=24) (z:=.agg #[.int .i64 0,.int .i64 0,.string ⟨#[]⟩,.slice none 0 0,.int .i64 0,.int .i64 0]) (by kernel_rfl) hi
    go_loopw [4] (fun i wr=>∃(k:Nat) (acc:List zA) (v:Go.Value) (us:List Go.Value),i=.int .i64 (k:Int)∧k≤t.L.length∧acc.length=k∧jS (t.L.drop k) acc=some l ∧
     wr.ownsRow (w.heap.size+3) 24 6 v k us∧(∀(j:Nat) u c,us[j]?=some u→(jP (acc.map zA.toD))[j]?=some c→u.oneCell'=true∧c.sc=true∧RelV wr (OM M0 w.heap.size v) u c) ∧
     wr.cell? ⟨w.heap.size,3,none⟩=some (.slice (some ⟨b,o,none⟩) t.L.length cap) ∧
     wr.heap[w.heap.size+1+1]?=some (.cells #[.int .i64 t.K,.int .i64 t.N,.string ⟨#[]⟩,v,.int .i64 0,.int .i64 0] 24) ∧
     wr.heap[w.heap.size+1]?=some (.cells #[.int .i64 0,.int .i64 0,.string ⟨#[]⟩,.slice none 0 0,.int .i64 0,.int .i64 0] 24) ∧
     Below w.heap.size w wr∧w.heap.size+3≤wr.heap.size) (fun i _=>t.L.length-(intOf i).toNat)
    case atStart=>
     refine⟨0,[],.slice none 0 0,[],rfl,Nat.zero_le _,rfl,hgo0,⟨rfl,.inl ⟨rfl,rfl⟩⟩,fun j u c h=>by simp at h,?_,?_,?_,?_,?_⟩
     ·rw[yC (v4s w _ _ _).1];rfl
     ·exact(v4s w _ _ _).2.2.1
     ·exact(v4s w _ _ _).2.1
     ·exact(((Below.refl _ w).alloc (Nat.le_refl _) _).alloc (by simp) _).alloc (by simp;omega) _
     ·exact Nat.le_of_eq (v4s w _ _ _).2.2.2.symm
    case round=>
     obtain⟨k,acc,v,us,rfl,hk,hka,hgo,hown,hus,c1,c2,c3,hbw,hsz⟩:=hrel;by_cases hlt:k<t.L.length
     ·obtain⟨v3,d0,d1,d2,d3,d4,d5,hv3⟩:=v3N hc hlt;have up:∀j u,w.cell? ⟨b,j,none⟩=some u→wr.cell? ⟨b,j,none⟩=some u:=fun j u h=>(vA (hbw.block b hb1) _).trans h;have e0:=up _ _ d0;have e1:=up _ _ d1;have e2:=up _ _ d2;have e3:=up _ _ d3;have e4:=up _ _ d4;have e5:=up _ _ d5;have f3:wr.cell? ⟨w.heap.size+1+1,3,none⟩=some v:=by rw[yC c2];rfl
      have hOM:∀b' o',OM M0 w.heap.size v b' o'→b'<wr.heap.size:=fun b' o' h=>by
       rcases h with h|h|h
       ·have:=(B.m0 _ _ h).1;omega
       ·omega
       ·exact(hown.lt _ h).2
      have hvb:∀b',v.ownBlock=some b'→w.heap.size+3≤b':=fun b' h=>(hown.lt _ h).1;rw[List.drop_eq_getElem_cons hlt,jS]at hgo;obtain⟨q,g,hgo⟩:=zC hgo;obtain⟨hroom,hgo⟩:=uN hgo;have kw:Keeps w (Mut M0 κ) wr.drew (Mut (OM M0 w.heap.size v) kN):=⟨fun b' o' u hu _=>(vA (w':=wr.drew) (hbw.block b' (z5L hu)) o').trans hu,fun b' o' u hu hm=>v9e (fun h=>by
       have hb':=z5L hu;rcases h with h|h|h
       ·exact hm (.inl h)
       ·omega
       ·have:=hvb _ h;omega)⟩
      have hcall:Calls Tryz.prog 181 #[.agg #[.int .i64 t.L[k].K,.int .i64 t.L[k].N,.string ⟨⟨t.L[k].S⟩⟩,v3,.int .i64 t.L[k].From,.int .i64 t.L[k].To]] wr.drew (fun e w'=>∃vq,e=.returned vq ∧
        (∃vL,vq=.agg #[.int .i64 q.K,.int .i64 q.N,.string ⟨⟨q.S⟩⟩,vL,.int .i64 q.From,.int .i64 q.To]∧RelV w' (OM M0 w.heap.size v) vL (.sl (q.L.map zA.toD))∧Below wr.heap.size wr w')):=by
       have T:Trip Tryz.prog 181 [.d (.agg [.int .i64 t.L[k].K,.int .i64 t.L[k].N,.str t.L[k].S,.sl (List.map zA.toD t.L[k].L),.int .i64 t.L[k].From,.int .i64 t.L[k].To])] [] [.d (.agg [.int .i64 q.K,.int .i64 q.N,.str q.S,.sl (List.map zA.toD q.L),.int .i64 q.From,.int .i64 q.To])] []:=z0e t.L[k] q g
       refine(T.2 wr.drew (OM M0 w.heap.size v) kN _ (v4c hOM) (.cons _ _ _ _ (.d _ _ (.agg _ _ (.cons _ _ _ _ rfl (.int _ _) (.cons _ _ _ _ rfl (.int _ _) (.cons _ _ _ _ rfl (.str _) (.cons _ _ _ _ rfl (hv3.keep kw) (.cons _ _ _ _ rfl (.int _ _) (.cons _ _ _ _ rfl (.int _ _) .nil)))))))) .nil)).mono ?_;rintro e W3 ⟨vq,κ3,rfl,A3,hres⟩;have h9:=hres.2;refine⟨vq,rfl,?_⟩;cases h9 with
       |d _ _ h9=>cases h9 with
        |agg vs _ h9=>
         cases h9 with
         |cons _ _ _ _ _ g0 h9=>
         cases h9 with
         |cons _ _ _ _ _ g1 h9=>
         cases h9 with
         |cons _ _ _ _ _ g2 h9=>
         cases h9 with
         |cons _ _ _ _ _ g3 h9=>
         cases h9 with
         |cons _ _ _ _ _ g4 h9=>
         cases h9 with
         |cons _ _ _ _ _ g5 h9=>
          cases h9;cases g0;cases g1;cases g2;cases g4;cases g5;exact⟨_,rfl,g3.keep ⟨fun _ _ _ h _=>h,fun _ _ _ _ hm h=>hm (.inl h)⟩,(v5n wr _).trans (v2D A3)⟩
      obtain⟨hr1,hr2⟩:=hroom;rw[hka]at hr1 hr2;have hk63:k+1≤maxLen:=by unfold maxLen;omega
      have hk64:(k+1)*72≤140737488355328:=hr1
      go_wp2_with fail
      go_region_law (first
       |(refine v7Z rfl 181 (.tmp 23) _ rfl T_en (by simp[Act.eval,Act.put];exact hcall) ?_
         rintro vq W3 ⟨vL,rfl,hL,hb3⟩;have hsz3:=hb3.size;have hown3:=v1K hown hb3;have f33:W3.cell? ⟨w.heap.size+1+1,3,none⟩=some v:=(hb3.cell (show w.heap.size+1+1<wr.heap.size by omega)).trans f3;obtain⟨news,hnews⟩:∃news,news=[.int .i64 q.K,.int .i64 q.N,.string ⟨⟨q.S⟩⟩,vL,.int .i64 q.From,.int .i64 q.To]:=⟨_,rfl⟩;have hb4:Below wr.heap.size wr (W3.alloc (.cells #[.int .i64 q.K,.int .i64 q.N,.string ⟨⟨q.S⟩⟩,vL,.int .i64 q.From,.int .i64 q.To] 24)):=hb3.alloc hsz3 _;have hown4:=v1K hown hb4
         have f34:(W3.alloc (.cells #[.int .i64 q.K,.int .i64 q.N,.string ⟨⟨q.S⟩⟩,vL,.int .i64 q.From,.int .i64 q.To] 24)).cell? ⟨w.heap.size+1+1,3,none⟩=some v:=(hb4.cell (show w.heap.size+1+1<wr.heap.size by omega)).trans f3
         have hba:w.heap.size+3≤(W3.alloc (.cells #[.int .i64 q.K,.int .i64 q.N,.string ⟨⟨q.S⟩⟩,vL,.int .i64 q.From,.int .i64 q.To] 24)).heap.size:=by rw[show(W3.alloc (.cells #[.int .i64 q.K,.int .i64 q.N,.string ⟨⟨q.S⟩⟩,vL,.int .i64 q.From,.int .i64 q.To] 24)).heap.size=W3.heap.size+1 from Array.size_push ..];omega
         have hvL1:vL.oneCell'=true:=hL.one rfl;have hnc:∀j u,news[j]?=some u→(W3.alloc (.cells #[.int .i64 q.K,.int .i64 q.N,.string ⟨⟨q.S⟩⟩,vL,.int .i64 q.From,.int .i64 q.To] 24)).cell? ((⟨W3.heap.size,0,none⟩:Addr).add j)=some u:=by
          intro j u hj;have e9:(W3.alloc (.cells #[.int .i64 q.K,.int .i64 q.N,.string ⟨⟨q.S⟩⟩,vL,.int .i64 q.From,.int .i64 q.To] 24)).heap[W3.heap.size]?=some (.cells #[.int .i64 q.K,.int .i64 q.N,.string ⟨⟨q.S⟩⟩,vL,.int .i64 q.From,.int .i64 q.To] 24):=Array.getElem?_push_size;rw[hnews]at hj
          match j,hj with
          |0,hj=>exact(yC e9).trans hj
          |1,hj=>exact(yC e9).trans hj
          |2,hj=>exact(yC e9).trans hj
          |3,hj=>exact(yC e9).trans hj
          |4,hj=>exact(yC e9).trans hj
          |5,hj=>exact(yC e9).trans hj
         have hn1:∀u∈news,u.oneCell'=true:=by
          rw[hnews];intro u hu;simp only[List.mem_cons,List.not_mem_nil,or_false]at hu;rcases hu with rfl|rfl|rfl|rfl|rfl|rfl<;>first|rfl|exact hvL1)
       |(refine y7c rfl (.tmp 18) (.tmp 25) 22 rfl (w.heap.size+3) 24 i0 _ 6 72 Tryz.underlying22 hi hz0 hz1 hz2 rfl (by decide) v k us (by simp[Act.eval,Act.put]) ‹_› ⟨‹World›.heap.size,0,none⟩ 1 1 ‹List Go.Value› (by simp[Act.eval,Act.put]) (by simp[*]) ‹_› ‹_› hk63 hk64 ‹_› ?_
         intro v9 W9 hown9 hgrow9 hnil9;have g2:W9.heap[w.heap.size+1+1]?=some (.cells #[.int .i64 t.K,.int .i64 t.N,.string ⟨#[]⟩,v,.int .i64 0,.int .i64 0] 24):=by
          rw[hgrow9.block _ (by omega) (fun e=>by have:=hvb _ e.symm;omega),‹Below wr.heap.size wr (World.alloc _ _)›.block _ (by omega)];exact c2
         have f93:W9.cell? ⟨w.heap.size+1+1,3,none⟩=some v:=by rw[yC g2];rfl
         have f94:W9.frozen? ⟨w.heap.size+1+1,3,none⟩=false:=z6s g2;rcases hown9.2 with⟨-,h0⟩|⟨g9,cap9,cur9,rfl,hg90,hg91,hg92,hg93,hg94,hg95⟩
         ·exact absurd h0 (by omega)))
      all_goals
       have hAs:W3.heap.size≤W3.heap.size+1:=Nat.le_succ _;have hba9:=‹w.heap.size+3≤(World.alloc _ _).heap.size›;have hb4:=‹Below wr.heap.size wr (World.alloc _ _)›;have hf:∀j,j≠w.heap.size+1+1→(W9.setCell ⟨w.heap.size+1+1,3,none⟩ (.slice (some ⟨g9,0,none⟩) (k+1) cap9)).heap[j]?=W9.heap[j]?:=fun j hj=>heap_setCell_other _ _ _ _ hj;have h93:∀j,j<W3.heap.size→v.ownBlock≠some j→W9.heap[j]?=W3.heap[j]?:=fun j hj hne=>by
        rw[hgrow9.block j (by rw[show(World.alloc W3 _).heap.size=W3.heap.size+1 from Array.size_push ..];omega) (fun e=>hne e.symm)];exact(show(W3.heap.push _)[j]?=_ by rw[Array.getElem?_push_lt hj,←Array.getElem?_eq_getElem])
       have h9r:∀j,j<wr.heap.size→v.ownBlock≠some j→W9.heap[j]?=wr.heap[j]?:=fun j hj hne=>by
        rw[h93 j (by omega) hne];exact hb3.block j hj
       have hg9n:g9≠w.heap.size+1+1:=by omega
       have hsame9:=heap_setCell_same W9 (w.heap.size+1+1) 3 _ 24 (.slice (some ⟨g9,0,none⟩) (k+1) cap9) g2;have hlt9:∀j,j<W9.heap.size→j<(W9.setCell ⟨w.heap.size+1+1,3,none⟩ (.slice (some ⟨g9,0,none⟩) (k+1) cap9)).heap.size:=fun j hj=>by simpa [World.setCell]using hj
       have hs9:W3.heap.size+1≤W9.heap.size:=by have:=hgrow9.size;rw[show(World.alloc W3 _).heap.size=W3.heap.size+1 from Array.size_push ..]at this;exact this
       have K3:Keeps W3 (OM M0 w.heap.size v) (W9.setCell ⟨w.heap.size+1+1,3,none⟩ (.slice (some ⟨g9,0,none⟩) (k+1) cap9)) (OM M0 w.heap.size (.slice (some ⟨g9,0,none⟩) (k+1) cap9)):=by
        refine⟨fun b' o' u hu hm=>?_,fun b' o' u hu hm hm'=>?_⟩
        ·have hb':=z5L hu;have n1:b'≠w.heap.size+1+1:=fun e=>hm (.inr (.inl (by omega)));have n2:v.ownBlock≠some b':=fun e=>hm (.inr (.inr e));rw[vA (hf b' n1),vA (h93 b' hb' n2)];exact hu
        ·have hb':=z5L hu;rcases hm' with h|h|h
         ·exact hm (.inl h)
         ·exact hm (.inr (.inl h))
         ·rcases hnil9 with h9|h9
          ·exact hm (.inr (.inr (h9.symm.trans h)))
          ·rw[h9]at h;rw[show(World.alloc W3 _).heap.size=W3.heap.size+1 from Array.size_push ..]at h;injection h with h;omega
       have KK:Keeps wr (OM M0 w.heap.size v) (W9.setCell ⟨w.heap.size+1+1,3,none⟩ (.slice (some ⟨g9,0,none⟩) (k+1) cap9)) (OM M0 w.heap.size (.slice (some ⟨g9,0,none⟩) (k+1) cap9)):=
        Keeps.trans ⟨fun b' o' u hu _=>by rw[vA (hb3.block b' (z5L hu))];exact hu,fun _ _ _ _ h=>h⟩ K3
       have hul:us.length=(jP (acc.map zA.toD)).length:=by
        rw[hown.1,z0i (n:=6) (zF fun x=>zA.sz x),zq3,hka]
       have hbel:Below w.heap.size w (W9.setCell ⟨w.heap.size+1+1,3,none⟩ (.slice (some ⟨g9,0,none⟩) (k+1) cap9)):=
        (((hbw.trans (hb4.mono (by omega))).grown hgrow9 (by omega) (fun j hj=>by have:=hvb j hj;omega)).setCell (by show w.heap.size≤w.heap.size+1+1;omega) _)
       have hus9:∀(j:Nat) u c,(us++[.int .i64 q.K,.int .i64 q.N,.string ⟨⟨q.S⟩⟩,vL,.int .i64 q.From,.int .i64 q.To])[j]?=some u→(jP ((acc++[q]).map zA.toD))[j]?=some c→u.oneCell'=true∧c.sc=true∧RelV (W9.setCell ⟨w.heap.size+1+1,3,none⟩ (.slice (some ⟨g9,0,none⟩) (k+1) cap9)) (OM M0 w.heap.size (.slice (some ⟨g9,0,none⟩) (k+1) cap9)) u c:=by
        intro j u c hu hcc;rw[List.map_append,z1T]at hcc;by_cases hj:j<us.length
        ·rw[List.getElem?_append_left hj]at hu;rw[List.getElem?_append_left (by omega)]at hcc;obtain⟨z1,z2,z3⟩:=hus j u c hu hcc;exact⟨z1,z2,z3.keep KK⟩
        ·rw[List.getElem?_append_right (by omega)]at hu;rw[List.getElem?_append_right (by omega),←hul]at hcc;have e9:jP ([q].map zA.toD)=[.int .i64 q.K,.int .i64 q.N,.str q.S,.sl (q.L.map zA.toD),.int .i64 q.From,.int .i64 q.To]:=by
          rw[List.map_cons,List.map_nil,jP,jP,zA.toD_eq];rfl
         rw[e9]at hcc
         match j-us.length,hu,hcc with
         |0,hu,hcc=>cases hu;cases hcc;exact⟨rfl,rfl,.int _ _⟩
         |1,hu,hcc=>cases hu;cases hcc;exact⟨rfl,rfl,.int _ _⟩
         |2,hu,hcc=>cases hu;cases hcc;exact⟨rfl,rfl,.str _⟩
         |3,hu,hcc=>cases hu;cases hcc;exact⟨hvL1,rfl,hL.keep K3⟩
         |4,hu,hcc=>cases hu;cases hcc;exact⟨rfl,rfl,.int _ _⟩
         |5,hu,hcc=>cases hu;cases hcc;exact⟨rfl,rfl,.int _ _⟩
         |n+6,hu,hcc=>simp at hu
       subst hnews
       go_wp2_with fail
       go_roundw
       case rel=>
        refine⟨k+1,acc++[q],_,_,by go_num,hlt,by simp[hka],hgo,⟨hown9.1,.inr ⟨g9,cap9,cur9,rfl,hg90,by rw[hf g9 hg9n];exact hg91,hg92,hg93,hg94,hg95⟩⟩,hus9,?_,hsame9,?_,hbel,?_⟩
        ·exact(vA ((hf _ (by omega)).trans (h9r _ (by omega) (fun e=>by have:=hvb _ e;omega))) 3).trans c1
        ·rw[hf _ (by omega),h9r _ (by omega) (fun e=>by have:=hvb _ e;omega)];exact c3
        ·have:=hlt9 (w.heap.size+2) (by omega);omega
       case measure=>simp[intOf];omega
     ·have hke:k=t.L.length:=by omega
      subst hke;rw[List.drop_eq_nil_of_le (Nat.le_refl _),jS]at hgo;have hl:=Option.some.inj hgo;subst hl;rcases hown.2 with⟨-,h0⟩|⟨g,cp,cur,rfl,hg0,hg1,hg2,hg3,hg4,hg5⟩
      ·exact absurd h0 (by omega)
      have k0:wr.cell? ⟨w.heap.size+1+1,0,none⟩=some (.int .i64 t.K):=by rw[yC c2];rfl
      have k1:wr.cell? ⟨w.heap.size+1+1,1,none⟩=some (.int .i64 t.N):=by rw[yC c2];rfl
      have k2:wr.cell? ⟨w.heap.size+1+1,2,none⟩=some (.string ⟨#[]⟩):=by rw[yC c2];rfl
      have k3:wr.cell? ⟨w.heap.size+1+1,3,none⟩=some (.slice (some ⟨g,0,none⟩) t.L.length cp):=by rw[yC c2];rfl
      have k4:wr.cell? ⟨w.heap.size+1+1,4,none⟩=some (.int .i64 0):=by rw[yC c2];rfl
      have k5:wr.cell? ⟨w.heap.size+1+1,5,none⟩=some (.int .i64 0):=by rw[yC c2];rfl
      have m0:wr.cell? ⟨w.heap.size+1,0,none⟩=some (.int .i64 0):=by rw[yC c3];rfl
      have m1:wr.cell? ⟨w.heap.size+1,1,none⟩=some (.int .i64 0):=by rw[yC c3];rfl
      have m2:wr.cell? ⟨w.heap.size+1,2,none⟩=some (.string ⟨#[]⟩):=by rw[yC c3];rfl
      have m3:wr.cell? ⟨w.heap.size+1,3,none⟩=some (.slice none 0 0):=by rw[yC c3];rfl
      have m4:wr.cell? ⟨w.heap.size+1,4,none⟩=some (.int .i64 0):=by rw[yC c3];rfl
      have m5:wr.cell? ⟨w.heap.size+1,5,none⟩=some (.int .i64 0):=by rw[yC c3];rfl
      have z:∀i,wr.frozen? ⟨w.heap.size+1,i,none⟩=false:=fun i=>z6s c3
      go_wp2_with fail
      obtain⟨Wz,hWz⟩:∃Wz,Wz=((((((wr.setCell ⟨w.heap.size+1,0,none⟩ (.int .i64 t.K)).setCell ⟨w.heap.size+1,1,none⟩ (.int .i64 t.N)).setCell ⟨w.heap.size+1,2,none⟩ (.string ⟨#[]⟩)).setCell ⟨w.heap.size+1,3,none⟩ (.slice (some ⟨g,0,none⟩) t.L.length cp)).setCell ⟨w.heap.size+1,4,none⟩ (.int .i64 0)).setCell ⟨w.heap.size+1,5,none⟩ (.int .i64 0)):=⟨_,rfl⟩
      have hz1:Wz.heap[w.heap.size+1]?=some (.cells #[.int .i64 t.K,.int .i64 t.N,.string ⟨#[]⟩,.slice (some ⟨g,0,none⟩) t.L.length cp,.int .i64 0,.int .i64 0] 24):=by
       rw[hWz];exact heap_setCell_same _ _ 5 _ 24 _ (heap_setCell_same _ _ 4 _ 24 _ (heap_setCell_same _ _ 3 _ 24 _ (heap_setCell_same _ _ 2 _ 24 _ (heap_setCell_same _ _ 1 _ 24 _ (heap_setCell_same _ _ 0 _ 24 _ c3)))))
      have hz2:∀j,j≠w.heap.size+1→Wz.heap[j]?=wr.heap[j]?:=fun j hj=>by
       rw[hWz];rw[heap_setCell_other _ _ _ _ hj,heap_setCell_other _ _ _ _ hj,heap_setCell_other _ _ _ _ hj,heap_setCell_other _ _ _ _ hj,heap_setCell_other _ _ _ _ hj,heap_setCell_other _ _ _ _ hj]
      have hz3:Below w.heap.size w Wz:=by
       rw[hWz];have hle:w.heap.size≤w.heap.size+1:=Nat.le_succ _;exact(((((hbw.setCell hle _).setCell hle _).setCell hle _).setCell hle _).setCell hle _).setCell hle _
      have hz4:g<Wz.heap.size:=by
       have:=hz2 g (by omega);rw[hg1]at this;exact(Array.getElem?_eq_some_iff.1 this).1
      rw[←hWz];have y0:Wz.cell? ⟨w.heap.size+1,0,none⟩=some (.int .i64 t.K):=by rw[yC hz1];rfl
      have y1:Wz.cell? ⟨w.heap.size+1,1,none⟩=some (.int .i64 t.N):=by rw[yC hz1];rfl
      have y2:Wz.cell? ⟨w.heap.size+1,2,none⟩=some (.string ⟨#[]⟩):=by rw[yC hz1];rfl
      have y3:Wz.cell? ⟨w.heap.size+1,3,none⟩=some (.slice (some ⟨g,0,none⟩) t.L.length cp):=by rw[yC hz1];rfl
      have y4:Wz.cell? ⟨w.heap.size+1,4,none⟩=some (.int .i64 0):=by rw[yC hz1];rfl
      have y5:Wz.cell? ⟨w.heap.size+1,5,none⟩=some (.int .i64 0):=by rw[yC hz1];rfl
      clear hWz;refine bodyPost_ret (results_cell_row (p:=2) (ty:=24) rfl _ _ (w.heap.size+1) 24 _ (0,0) _ rfl hz1 Tryz.underlying24 rfl (by kernel_rfl)) rfl ?_;have A0:=y4X B hz3;have hul:us.length=(jP (acc.map zA.toD)).length:=by
       rw[hown.1,z0i (n:=6) (zF fun x=>zA.sz x),zq3,hka]
      have kz:Keeps wr (OM M0 w.heap.size (.slice (some ⟨g,0,none⟩) t.L.length cp)) Wz (Mut M0 (upK kN (.ar 0) (some (g,0)))):=by
       refine⟨fun b' o' u hu hm=>?_,fun b' o' u hu hm hm'=>?_⟩
       ·have n1:b'≠w.heap.size+1:=fun e=>hm (.inr (.inl (by omega)));rw[vA (hz2 b' n1)];exact hu
       ·rcases hm' with h|⟨key,lo,h,-⟩
        ·exact hm (.inl h)
        ·by_cases e:key=.ar 0
         ·subst e;rw[z0u]at h;injection h with h;injection h with h;subst h;exact hm (.inr (.inr rfl))
         ·rw[vW _ _ e]at h;cases h
      refine⟨_,rfl,upK kN (.ar 0) (some (g,0)),?_,?_⟩
      ·have key1:∀key b' lo,upK kN (.ar 0) (some (g,0)) key=some (b',lo)→key=.ar 0∧b'=g:=fun key b' lo h=>by
        by_cases e:key=.ar 0
        ·subst e;rw[z0u]at h;injection h with h;injection h with h _;exact⟨rfl,h.symm⟩
        ·rw[vW _ _ e]at h;cases h
       exact {kept:=A0.kept
              k0:=⟨A0.k0.cell,fun b' o' u hu hm hm'=>by
               rcases hm' with h|⟨key,lo,h,-⟩
               ·exact hm (.inl h)
               ·have:=(key1 _ _ _ h).2;have:=z5L hu;omega⟩
              g0:=A0.g0
              kb:=fun key b' lo h=>by obtain⟨-,rfl⟩:=key1 _ _ _ h;exact⟨hz4,.inl (by omega)⟩
              ki:=fun k1 k2 b' l1 l2 h1 h2=>by rw[(key1 _ _ _ h1).1,(key1 _ _ _ h2).1]
              hn:=fun id r h=>by have:=(key1 _ r.1 r.2 h).1;cases this
              hp:=fun id b' h=>by have:=B.hn _ _ h;simp at this
              heap:=fun id cs hcs=>by simp at hcs}
      ·refine⟨_,rfl,rfl,fun i u c hu hcc=>?_⟩
       match i,hu,hcc with
       |0,hu,hcc=>cases hu;cases hcc;exact .inl ⟨_,rfl,.int _ _⟩
       |1,hu,hcc=>cases hu;cases hcc;exact .inl ⟨_,rfl,.int _ _⟩
       |2,hu,hcc=>cases hu;cases hcc;exact .inl ⟨_,rfl,.str _⟩
       |3,hu,hcc=>
        cases hu;cases hcc;refine .inr ⟨6,_,rfl,zF (fun x=>zA.sz x),g,cp,by rw[zq3,hka],by rw[zq3,hka];exact hg2,z0u _ _ _,fun j c hc'=>?_⟩;have hj:j<us.length:=by rw[hul];exact(List.getElem?_eq_some_iff.1 hc').1
        have hu':us[j]?=some us[j]:=List.getElem?_eq_getElem hj;obtain⟨z1,z2,z3⟩:=hus j _ c hu' hc';have hg':Wz.heap[g]?=some (.cells cur 24 (0,0)):=(hz2 g (by omega)).trans hg1;have hcur:cur[j]?=some us[j]:=by
         have e1:(cur.toList.take (t.L.length*6))[j]?=us[j]?:=by rw[hg5]
         rw[List.getElem?_take_of_lt (by rw[←hown.1];exact hj)]at e1;rw[←Array.getElem?_toList,e1,hu']
        exact⟨us[j],(yC hg').trans hcur,z1,z2,z3.keep kz,z6s hg'⟩
       |4,hu,hcc=>cases hu;cases hcc;exact .inl ⟨_,rfl,.int _ _⟩
       |5,hu,hcc=>cases hu;cases hcc;exact .inl ⟨_,rfl,.int _ _⟩
       |n+6,hu,hcc=>simp at hcc
def y4n:(i:z1K)→y0x i→Prop
 |.wU t,r=>Trip Tryz.prog 167 [.d (tT t)] [] [.d (tT r)] []
 |.vQ out i t o2,r=>Ok (y0K (Trip Tryz.prog) [.d (tT r)] []) (kL Tryz.f167 3) ⟨30,[(1,.ref 1 1 0),(2,.ref 2 1 0),(3,.right 5 1 6 (List.map zA.toD out)),(4,(nI i))],[(1,1,some (.agg (tT t))),(2,1,some (.agg (tT o2))),(5,1,some (.tok 6 (List.length (List.map zA.toD out))))],[],0⟩
theorem v2f:∀i r,uV z3S i=some r→y4n i r:=by
 refine zP y0q fun g ih i=>?_;cases i with
 |wU t=>
  have w1C:=fun out i t o2 r h=>ih (.vQ out i t o2) r h;intro r h;replace h:z4h (fun out i t o2=>g (z1K.vQ out i t o2)) t=some r:=h;unfold z4h at h;refine zH 1000 (v3m _ _ _ _ t) ?_;exact w1C _ _ _ _ _ h
 |vQ out i t o2=>
  have w1B:=fun t r h=>ih (.wU t) r h;have w1C:=fun out i t o2 r h=>ih (.vQ out i t o2) r h;intro r h;replace h:z0J (fun t=>g (z1K.wU t)) (fun out i t o2=>g (z1K.vQ out i t o2)) out i t o2=some r:=h;unfold z0J at h;refine jN 1000 (y6H _ _ _ _ out i t o2) ?_;refine zU (e':=(List.length t.L:Int)) (by first|rfl|rw[zq3]) ?_;rintro _ rfl;refine zD decide_eq_true_iff h (fun _ h=>?_) (fun _ h=>?_)
  ·obtain⟨x,hx,h⟩:=zC h;refine⟨zF (l:=t.L) (zA.sz),vO hx,x.K,x.N,x.S,List.map zA.toD x.L,x.From,x.To,zL (zA.toD_eq x) hx,?_⟩;obtain⟨q1,g,h⟩:=zC h;refine⟨_,_,_,_,_,_,⟨_,w1B _ _ g⟩,?_⟩;refine⟨by simp[zE,D.cells],?_⟩;refine⟨by first|rfl|decide|simp only[zq3,List.length_cons,List.length_nil,List.map_append,List.length_append],?_⟩;obtain⟨hP,h⟩:=uN h;refine⟨by first|exact hP|simpa using hP,?_⟩
   refine zU (e':=List.map zA.toD (out++[q1])) (by first|rfl|simp only[List.map_append,List.map_cons,List.map_nil,List.map_take,List.map_drop,List.map_set,List.map_replicate,zq3,zA.toD_eq]) ?_;rintro _ rfl;exact w1C _ _ _ _ _ h
  cases h;exact⟨rfl,rfl⟩
theorem z4b(t r:zA)(h:wU t=some r):y4n (.wU t) r:=v2f (.wU t) r h
theorem y9R(m:zA)(locals:List zA)(t r:zA)(h:z6I m locals t=some r):Trip Tryz.prog 107 [.d (tT m),.d (.sl (List.map zA.toD locals)),.d (tT t)] [] [.d (tT r)] []:=by
 unfold z6I at h;refine zH 1000 (v0N _ _ _ _ m locals t) ?_;rintro _ rfl;refine zD zq2 h (fun _ h=>?_) (fun _ h=>?_)
 ·refine zU (e':=(List.length locals:Int)) (by first|rfl|rw[zq3]) ?_;rintro _ rfl;rintro _ rfl;obtain⟨x,hx,h⟩:=zC h;refine⟨zF (l:=locals) (zA.sz),vO hx,x.K,x.N,x.S,List.map zA.toD x.L,x.From,x.To,zL (zA.toD_eq x) hx,?_⟩;obtain⟨q1,g,h⟩:=zC h;refine⟨_,_,_,_,_,_,⟨_,z4b _ _ g⟩,?_⟩;cases h;exact⟨rfl,rfl⟩
 rintro _ rfl;refine zD zq2 h (fun _ h=>?_) (fun _ h=>?_)
 ·obtain⟨x1,hx,h⟩:=zC h;refine⟨zF (l:=m.L) (zA.sz),vO hx,x1.K,x1.N,x1.S,List.map zA.toD x1.L,x1.From,x1.To,zL (zA.toD_eq x1) hx,?_⟩;obtain⟨x2,hx,h⟩:=zC h;refine⟨zF (l:=x1.L) (zA.sz),vO hx,x2.K,x2.N,x2.S,List.map zA.toD x2.L,x2.From,x2.To,zL (zA.toD_eq x2) hx,?_⟩;obtain⟨q2,g,h⟩:=zC h;refine⟨_,_,_,_,_,_,⟨_,z4A _ _ g⟩,?_⟩;cases h;exact⟨rfl,rfl⟩
 rintro _ rfl;refine zD zq2 h (fun _ h=>?_) (fun _ h=>?_)
 ·obtain⟨x3,hx,h⟩:=zC h;refine⟨zF (l:=m.L) (zA.sz),vO hx,x3.K,x3.N,x3.S,List.map zA.toD x3.L,x3.From,x3.To,zL (zA.toD_eq x3) hx,?_⟩;obtain⟨x4,hx,h⟩:=zC h;refine⟨zF (l:=x3.L) (zA.sz),vO hx,x4.K,x4.N,x4.S,List.map zA.toD x4.L,x4.From,x4.To,zL (zA.toD_eq x4) hx,?_⟩;obtain⟨q3,g,h⟩:=zC h;refine⟨_,_,_,_,_,_,⟨_,z4b _ _ g⟩,?_⟩;cases h;exact⟨rfl,rfl⟩
 rintro _ rfl;refine zD zq2 h (fun _ h=>?_) (fun _ h=>?_)
 ·obtain⟨q4,g,h⟩:=zC h;refine⟨_,_,_,_,_,_,⟨_,y2f _ g⟩,?_⟩;cases h;exact⟨rfl,rfl⟩
 obtain⟨q5,g,h⟩:=zC h;refine⟨_,_,_,_,_,_,⟨_,z4A _ _ g⟩,?_⟩;cases h;exact⟨rfl,rfl⟩
theorem y2e(t:zA)(e:Int)(r:Ref15Got)(h:z7E t e=some r):Trip Tryz.prog 105 [.d (tT t),(nI e)] [] [.d (.agg [(.int .i64 r.Type_.K),(.int .i64 r.Type_.N),(.str r.Type_.S),(.sl (List.map zA.toD r.Type_.L)),(.int .i64 r.Type_.From),(.int .i64 r.Type_.To),(.int .i64 r.Form.K),(.int .i64 r.Form.N),(.str r.Form.S),(.sl (List.map zA.toD r.Form.L)),(.int .i64 r.Form.From),(.int .i64 r.Form.To),(.int .i64 r.At),(.int .i64 r.E)])] []:=by
 unfold z7E at h;refine zH 1000 (v5F _ _ _ _ t e) ?_;cases h;exact⟨rfl,rfl⟩
theorem z6z(m:zA)(n kind:Int)(r:Bool)(h:z5m m n kind=some r):Trip Tryz.prog 166 [.d (tT m),(nI n),(nI kind)] [] [(nB r)] []:=by
 unfold z5m at h;refine zH 1000 (v5H _ _ _ _ m n kind) ?_;rintro _ rfl;refine zD decide_eq_true_iff h (fun _ h=>?_) (fun _ h=>?_)
 ·cases h;exact⟨rfl,rfl⟩
 refine zU (e':=(List.length m.L:Int)) (by first|rfl|rw[zq3]) ?_;rintro _ rfl;refine zD decide_eq_true_iff h (fun _ h=>?_) (fun _ h=>?_)
 ·cases h;exact⟨rfl,rfl⟩
 obtain⟨x,hx,h⟩:=zC h;refine⟨zF (l:=m.L) (zA.sz),vO hx,x.K,x.N,x.S,List.map zA.toD x.L,x.From,x.To,zL (zA.toD_eq x) hx,?_⟩;rintro _ rfl;refine zG zq2 h (fun _ h=>?_) (fun _ h=>?_)
 ·rintro _ rfl;refine zD zq2 h (fun _ h=>?_) (fun _ h=>?_)
  ·refine zU (e':=(List.length x.L:Int)) (by first|rfl|rw[zq3]) ?_;rintro _ rfl;refine zD zq2 h (fun _ h=>?_) (fun _ h=>?_)
   ·obtain⟨x1,hx,h⟩:=zC h;refine⟨zF (l:=x.L) (zA.sz),vO hx,x1.K,x1.N,x1.S,List.map zA.toD x1.L,x1.From,x1.To,zL (zA.toD_eq x1) hx,?_⟩;obtain⟨q1,g,h⟩:=zC h;refine⟨_,_,_,_,_,_,⟨_,z4A _ _ g⟩,?_⟩;rintro _ rfl;cases h;exact⟨rfl,rfl⟩
   cases h;exact⟨rfl,rfl⟩
  rintro _ rfl;refine zD zq2 h (fun _ h=>?_) (fun _ h=>?_)
  ·refine zU (e':=(List.length x.L:Int)) (by first|rfl|rw[zq3]) ?_;rintro _ rfl;cases h;exact⟨rfl,rfl⟩
  rintro _ rfl;refine zD zq2 h (fun _ h=>?_) (fun _ h=>?_)
  ·refine zU (e':=(List.length x.L:Int)) (by first|rfl|rw[zq3]) ?_;rintro _ rfl;cases h;exact⟨rfl,rfl⟩
  obtain⟨q2,g,h⟩:=zC h;refine⟨_,⟨_,z7o _ _ g⟩,?_⟩;cases h;exact⟨rfl,rfl⟩
 cases h;exact⟨rfl,rfl⟩
theorem y9T(m:zA)(locals:List zA)(t:zA)(r:Bool)(h:z6L m locals t=some r):Trip Tryz.prog 106 [.d (tT m),.d (.sl (List.map zA.toD locals)),.d (tT t)] [] [(nB r)] []:=by
 unfold z6L at h;refine zH 1000 (v0P _ _ _ _ m locals t) ?_;rintro _ rfl;refine zD zq2 h (fun _ h=>?_) (fun _ h=>?_)
 ·rintro _ rfl;refine zD decide_eq_true_iff h (fun _ h=>?_) (fun _ h=>?_)
  ·refine zU (e':=(List.length locals:Int)) (by first|rfl|rw[zq3]) ?_;rintro _ rfl;cases h;exact⟨rfl,rfl⟩
  cases h;exact⟨rfl,rfl⟩
 rintro _ rfl;refine zD zq2 h (fun _ h=>?_) (fun _ h=>?_)
 ·obtain⟨q1,g,h⟩:=zC h;refine⟨_,⟨_,z6z _ _ _ _ g⟩,?_⟩;cases h;exact⟨rfl,rfl⟩
 rintro _ rfl;refine zD zq2 h (fun _ h=>?_) (fun _ h=>?_)
 ·obtain⟨q2,g,h⟩:=zC h;refine⟨_,⟨_,z6z _ _ _ _ g⟩,?_⟩;cases h;exact⟨rfl,rfl⟩
 rintro _ rfl;refine zD zq2 h (fun _ h=>?_) (fun _ h=>?_)
 ·obtain⟨q3,g,h⟩:=zC h;refine⟨_,⟨_,z6z _ _ _ _ g⟩,?_⟩;cases h;exact⟨rfl,rfl⟩
 rintro _ rfl;refine zD zq2 h (fun _ h=>?_) (fun _ h=>?_)
 ·obtain⟨q4,g,h⟩:=zC h;refine⟨_,⟨_,z6z _ _ _ _ g⟩,?_⟩;cases h;exact⟨rfl,rfl⟩
 rintro _ rfl;cases h;exact⟨rfl,rfl⟩
theorem z3C(t:zA)(kind:Int)(r:Bool)(h:z4l t kind=some r):Trip Tryz.prog 171 [.d (tT t),(nI kind)] [] [(nB r)] []:=by
 unfold z4l at h;refine zH 1000 (v6O _ _ _ _ t kind) ?_;rintro _ rfl;refine zD zq2 h (fun _ h=>?_) (fun _ h=>?_)
 ·refine zU (e':=(List.length t.L:Int)) (by first|rfl|rw[zq3]) ?_;rintro _ rfl;cases h;exact⟨rfl,rfl⟩
 cases h;exact⟨rfl,rfl⟩
theorem y2S(m:zA)(n:Int)(r:zA×Bool)(h:z3f m n=some r):Trip Tryz.prog 173 [.d (tT m),(nI n)] [] [.d (tT r.1),(nB r.2)] []:=by
 unfold z3f at h;refine zH 1000 (v0L _ _ _ _ m n) ?_;rintro _ rfl;refine zD decide_eq_true_iff h (fun _ h=>?_) (fun _ h=>?_)
 ·cases h;exact⟨rfl,rfl⟩
 obtain⟨hP,h⟩:=uN h;refine⟨by first|exact hP|simpa using hP,?_⟩;rintro _ rfl;refine zU (e':=(List.length m.L:Int)) (by first|rfl|rw[zq3]) ?_;rintro _ rfl;refine zD decide_eq_true_iff h (fun _ h=>?_) (fun _ h=>?_)
 ·cases h;exact⟨rfl,rfl⟩
 obtain⟨hP,h⟩:=uN h;refine⟨by first|exact hP|simpa using hP,?_⟩;rintro _ rfl;obtain⟨x,hx,h⟩:=zC h;refine⟨zF (l:=m.L) (zA.sz),vO hx,x.K,x.N,x.S,List.map zA.toD x.L,x.From,x.To,zL (zA.toD_eq x) hx,?_⟩;obtain⟨hP,h⟩:=uN h;refine⟨by first|exact hP|simpa using hP,?_⟩;rintro _ rfl;rintro _ rfl;refine zG zq2 h (fun _ h=>?_) (fun _ h=>?_)
 ·refine zU (e':=(List.length x.L:Int)) (by first|rfl|rw[zq3]) ?_;rintro _ rfl;refine zD decide_eq_true_iff h (fun _ h=>?_) (fun _ h=>?_)
  ·cases h;exact⟨rfl,rfl⟩
  obtain⟨x1,hx,h⟩:=zC h;refine⟨zF (l:=x.L) (zA.sz),vO hx,x1.K,x1.N,x1.S,List.map zA.toD x1.L,x1.From,x1.To,zL (zA.toD_eq x1) hx,?_⟩;rintro _ rfl;refine zG zq2 h (fun _ h=>?_) (fun _ h=>?_)
  ·obtain⟨x2,hx,h⟩:=zC h;refine⟨zF (l:=x.L) (zA.sz),vO hx,x2.K,x2.N,x2.S,List.map zA.toD x2.L,x2.From,x2.To,zL (zA.toD_eq x2) hx,?_⟩;refine zU (e':=(List.length x2.L:Int)) (by first|rfl|rw[zq3]) ?_;rintro _ rfl;refine zG zq2 h (fun _ h=>?_) (fun _ h=>?_)
   ·obtain⟨x3,hx,h⟩:=zC h;refine⟨zF (l:=x.L) (zA.sz),vO hx,x3.K,x3.N,x3.S,List.map zA.toD x3.L,x3.From,x3.To,zL (zA.toD_eq x3) hx,?_⟩;obtain⟨x4,hx,h⟩:=zC h;refine⟨zF (l:=x3.L) (zA.sz),vO hx,x4.K,x4.N,x4.S,List.map zA.toD x4.L,x4.From,x4.To,zL (zA.toD_eq x4) hx,?_⟩;cases h;exact⟨rfl,rfl⟩
   cases h;exact⟨rfl,rfl⟩
  cases h;exact⟨rfl,rfl⟩
 cases h;exact⟨rfl,rfl⟩
def z7W:(i:z2H)→z4S i→Prop
 |.yQ n i t d,r=>Ok (z8W (Trip Tryz.prog) [(nI r)] []) (kL Tryz.f172 10) ⟨65,[(2,(nI n)),(4,.ref 4 1 0),(9,.ref 9 1 0),(10,(nI i))],[(4,1,some (.agg (tT t))),(9,1,some (.agg (tT d)))],[],0⟩
theorem y3m:∀i r,uV z2A i=some r→z7W i r:=by
 refine zP z7O fun g ih i=>?_;cases i with
 |yQ n i t d=>
  have w1W:=fun n i t d r h=>ih (.yQ n i t d) r h;intro r h;replace h:gJ (fun n i t d=>g (z2H.yQ n i t d)) n i t d=some r:=h;unfold gJ at h;refine jN 1000 (y3H _ _ _ _ n i t d) ?_;refine zU (e':=(List.length d.L:Int)) (by first|rfl|rw[zq3]) ?_;rintro _ rfl;refine zD decide_eq_true_iff h (fun _ h=>?_) (fun _ h=>?_)
  ·rintro _ rfl;refine zD decide_eq_true_iff h (fun _ h=>?_) (fun _ h=>?_)
   ·obtain⟨x,hx,h⟩:=zC h;refine⟨zF (l:=d.L) (zA.sz),vO hx,x.K,x.N,x.S,List.map zA.toD x.L,x.From,x.To,zL (zA.toD_eq x) hx,?_⟩;rintro _ rfl;refine zD zq2 h (fun _ h=>?_) (fun _ h=>?_)
    ·rintro _ rfl;rintro _ rfl;cases h;exact⟨rfl,rfl⟩
    rintro _ rfl;exact w1W _ _ _ _ _ h
   cases h;exact⟨rfl,rfl⟩
  cases h;exact⟨rfl,rfl⟩
theorem y3v(n i:Int)(t d:zA)(r:Int)(h:yQ n i t d=some r):z7W (.yQ n i t d) r:=y3m (.yQ n i t d) r h
theorem y9S(m t:zA)(n r:Int)(h:z6J m t n=some r):Trip Tryz.prog 172 [.d (tT m),.d (tT t),(nI n)] [] [(nI r)] []:=by
 unfold z6J at h;refine zH 1000 (v0O _ _ _ _ m t n) ?_;obtain⟨q1,g,h⟩:=zC h;refine⟨_,⟨_,z6z _ _ _ _ g⟩,?_⟩;refine zG Iff.rfl h (fun _ h=>?_) (fun _ h=>?_)
 ·rintro _ rfl;refine zD zq2 h (fun _ h=>?_) (fun _ h=>?_)
  ·obtain⟨q2,g,h⟩:=zC h;refine⟨_,_,_,_,_,_,_,⟨_,y2S _ _ _ g⟩,?_⟩;refine zG Iff.rfl h (fun _ h=>?_) (fun _ h=>?_)
   ·obtain⟨hP,h⟩:=uN h;refine⟨by first|exact hP|simpa using hP,?_⟩;rintro _ rfl;rintro _ rfl;refine zG zq2 h (fun _ h=>?_) (fun _ h=>?_)
    ·cases h;exact⟨rfl,rfl⟩
    cases h;exact⟨rfl,rfl⟩
   cases h;exact⟨rfl,rfl⟩
  obtain⟨x,hx,h⟩:=zC h;refine⟨zF (l:=m.L) (zA.sz),vO hx,x.K,x.N,x.S,List.map zA.toD x.L,x.From,x.To,zL (zA.toD_eq x) hx,?_⟩;exact y3v _ _ _ _ _ h
 cases h;exact⟨rfl,rfl⟩
def y4o:(i:z1L)→y0y i→Prop
 |.wV a b,r=>Trip Tryz.prog 45 [.d (tT a),.d (tT b)] [] [(nB r)] []
 |.vR i a b,r=>Ok (y0L (Trip Tryz.prog) [(nB r)] []) (kL Tryz.f45 4) ⟨53,[(2,.ref 2 1 0),(3,.ref 3 1 0),(5,(nI i))],[(2,1,some (.agg (tT a))),(3,1,some (.agg (tT b)))],[],0⟩
theorem v2g:∀i r,uV z3T i=some r→y4o i r:=by
 refine zP y0r fun g ih i=>?_;cases i with
 |wV a b=>
  have w1K:=fun i a b r h=>ih (.vR i a b) r h;intro r h;replace h:z4i (fun i a b=>g (z1L.vR i a b)) a b=some r:=h;unfold z4i at h;refine zH 1000 (v3n _ _ _ _ a b) ?_;rintro _ rfl;refine zG zq2 h (fun _ h=>?_) (fun _ h=>?_)
  ·rintro _ rfl;refine zG zq2 h (fun _ h=>?_) (fun _ h=>?_)
   ·rintro _ rfl;refine zG zq2 h (fun _ h=>?_) (fun _ h=>?_)
    ·refine zU (e':=(List.length a.L:Int)) (by first|rfl|rw[zq3]) ?_;refine zU (e':=(List.length b.L:Int)) (by first|rfl|rw[zq3]) ?_;rintro _ rfl;refine zG zq2 h (fun _ h=>?_) (fun _ h=>?_)
     ·exact w1K _ _ _ _ h
     cases h;exact⟨rfl,rfl⟩
    cases h;exact⟨rfl,rfl⟩
   cases h;exact⟨rfl,rfl⟩
  cases h;exact⟨rfl,rfl⟩
 |vR i a b=>
  have w1J:=fun a b r h=>ih (.wV a b) r h;have w1K:=fun i a b r h=>ih (.vR i a b) r h;intro r h;replace h:z0K (fun a b=>g (z1L.wV a b)) (fun i a b=>g (z1L.vR i a b)) i a b=some r:=h;unfold z0K at h;refine jN 1000 (y6I _ _ _ _ i a b) ?_;refine zU (e':=(List.length a.L:Int)) (by first|rfl|rw[zq3]) ?_;rintro _ rfl;refine zD decide_eq_true_iff h (fun _ h=>?_) (fun _ h=>?_)
  ·obtain⟨x,hx,h⟩:=zC h;refine⟨zF (l:=a.L) (zA.sz),vO hx,x.K,x.N,x.S,List.map zA.toD x.L,x.From,x.To,zL (zA.toD_eq x) hx,?_⟩;obtain⟨x1,hx,h⟩:=zC h;refine⟨zF (l:=b.L) (zA.sz),vO hx,x1.K,x1.N,x1.S,List.map zA.toD x1.L,x1.From,x1.To,zL (zA.toD_eq x1) hx,?_⟩;obtain⟨q1,g,h⟩:=zC h;refine⟨_,⟨_,w1J _ _ _ g⟩,?_⟩;refine zG Iff.rfl h (fun _ h=>?_) (fun _ h=>?_)
   ·rintro _ rfl;exact w1K _ _ _ _ h
   cases h;exact⟨rfl,rfl⟩
  cases h;exact⟨rfl,rfl⟩
theorem z4c(a b:zA)(r:Bool)(h:wV a b=some r):y4o (.wV a b) r:=v2g (.wV a b) r h
def y1i:(i:z5h)→z7l i→Prop
 |.wN types parts i,r=>Ok (y2l (Trip Tryz.prog) [(nB r)] []) (kL Tryz.f174 4) ⟨40,[(0,.d (.sl (List.map zA.toD types))),(1,.d (.sl (List.map zA.toD parts))),(5,(nI i))],[],[],0⟩
theorem y7R:∀i r,uV z5e i=some r→y1i i r:=by
 refine zP y1d fun g ih i=>?_;cases i with
 |wN types parts i=>
  have w1X:=fun types parts i r h=>ih (.wN types parts i) r h;intro r h;replace h:z1m (fun types parts i=>g (z5h.wN types parts i)) types parts i=some r:=h;unfold z1m at h;refine jN 1000 (y8A _ _ _ _ types parts i) ?_;refine zU (e':=(List.length parts:Int)) (by first|rfl|rw[zq3]) ?_;rintro _ rfl;refine zD decide_eq_true_iff h (fun _ h=>?_) (fun _ h=>?_)
  ·obtain⟨x,hx,h⟩:=zC h;refine⟨zF (l:=parts) (zA.sz),vO hx,x.K,x.N,x.S,List.map zA.toD x.L,x.From,x.To,zL (zA.toD_eq x) hx,?_⟩;refine zU (e':=(List.length x.L:Int)) (by first|rfl|rw[zq3]) ?_;rintro _ rfl;refine zG zq2 h (fun _ h=>?_) (fun _ h=>?_)
   ·obtain⟨x1,hx,h⟩:=zC h;refine⟨zF (l:=types) (zA.sz),vO hx,x1.K,x1.N,x1.S,List.map zA.toD x1.L,x1.From,x1.To,zL (zA.toD_eq x1) hx,?_⟩;obtain⟨x2,hx,h⟩:=zC h;refine⟨zF (l:=parts) (zA.sz),vO hx,x2.K,x2.N,x2.S,List.map zA.toD x2.L,x2.From,x2.To,zL (zA.toD_eq x2) hx,?_⟩;obtain⟨x3,hx,h⟩:=zC h;refine⟨zF (l:=x2.L) (zA.sz),vO hx,x3.K,x3.N,x3.S,List.map zA.toD x3.L,x3.From,x3.To,zL (zA.toD_eq x3) hx,?_⟩;obtain⟨q1,g,h⟩:=zC h;refine⟨_,_,_,_,_,_,⟨_,z4b _ _ g⟩,?_⟩;obtain⟨q2,g,h⟩:=zC h
    refine⟨_,⟨_,z4c _ _ _ g⟩,?_⟩;refine zG Iff.rfl h (fun _ h=>?_) (fun _ h=>?_)
    ·rintro _ rfl;exact w1X _ _ _ _ h
    cases h;exact⟨rfl,rfl⟩
   cases h;exact⟨rfl,rfl⟩
  cases h;exact⟨rfl,rfl⟩
theorem y7Z(types parts:List zA)(i:Int)(r:Bool)(h:wN types parts i=some r):y1i (.wN types parts i) r:=y7R (.wN types parts i) r h
theorem y7l(types parts:List zA)(r:Bool)(h:z9Q types parts=some r):Trip Tryz.prog 174 [.d (.sl (List.map zA.toD types)),.d (.sl (List.map zA.toD parts))] [] [(nB r)] []:=by
 unfold z9Q at h;refine zH 1000 (v5G _ _ _ _ types parts) ?_;refine zU (e':=(List.length types:Int)) (by first|rfl|rw[zq3]) ?_;refine zU (e':=(List.length parts:Int)) (by first|rfl|rw[zq3]) ?_;rintro _ rfl;refine zG zq2 h (fun _ h=>?_) (fun _ h=>?_)
 ·exact y7Z _ _ _ _ h
 cases h;exact⟨rfl,rfl⟩
def z8y:(i:z3v)→z5B i→Prop
 |.vH p i m t o6,r=>Ok (uK (Trip Tryz.prog) [.d (tT r.1),(nI r.2.1),(nI r.2.2)] []) (kL Tryz.f108 20) ⟨223,[(2,.d (.sl (List.map zA.toD p))),(3,.ref 3 1 0),(4,.ref 4 1 0),(6,.ref 6 1 0),(12,(nI i))],[(3,1,some (.agg (tT m))),(4,1,some (.agg (tT t))),(6,1,some (.agg (tT o6)))],[],0⟩
theorem y4g:∀i r,uV z3o i=some r→z8y i r:=by
 refine zP z8p fun g ih i=>?_;cases i with
 |vH p i m t o6=>
  have w2a:=fun p i m t o6 r h=>ih (.vH p i m t o6) r h;intro r h;replace h:z0l (fun p i m t o6=>g (z3v.vH p i m t o6)) p i m t o6=some r:=h;unfold z0l at h;refine jN 1000 (y5q _ _ _ _ p i m t o6) ?_;refine zU (e':=(List.length p:Int)) (by first|rfl|rw[zq3]) ?_;rintro _ rfl;refine zD decide_eq_true_iff h (fun _ h=>?_) (fun _ h=>?_)
  ·obtain⟨x,hx,h⟩:=zC h;refine⟨zF (l:=p) (zA.sz),vO hx,x.K,x.N,x.S,List.map zA.toD x.L,x.From,x.To,zL (zA.toD_eq x) hx,?_⟩;obtain⟨x1,hx,h⟩:=zC h;refine⟨zF (l:=p) (zA.sz),vO hx,x1.K,x1.N,x1.S,List.map zA.toD x1.L,x1.From,x1.To,zL (zA.toD_eq x1) hx,?_⟩;obtain⟨q1,g,h⟩:=zC h;refine⟨_,⟨_,z4c _ _ _ g⟩,?_⟩;refine zG Iff.rfl h (fun _ h=>?_) (fun _ h=>?_)
   ·rintro _ rfl;exact w2a _ _ _ _ _ _ h
   cases h;exact⟨rfl,rfl⟩
  refine zU (e':=(List.length p:Int)) (by first|rfl|rw[zq3]) ?_;obtain⟨x2,hx,h⟩:=zC h;refine⟨zF (l:=p) (zA.sz),vO hx,x2.K,x2.N,x2.S,List.map zA.toD x2.L,x2.From,x2.To,zL (zA.toD_eq x2) hx,?_⟩;obtain⟨q2,g,h⟩:=zC h;have hT:=z1f _ _ _ g;simp only[List.map_cons,List.map_nil,tT,tV,tS,tG,zA.toD_eq,Value.toD_eq]at hT;refine⟨_,⟨_,hT⟩,?_⟩;rintro _ rfl;refine zD zq2 h (fun _ h=>?_) (fun _ h=>?_)
  ·cases h;exact⟨rfl,rfl⟩
  cases h;refine⟨?_,rfl⟩;simp only[List.map_cons,List.map_nil,tT,tV,tS,tG,zA.toD_eq,Value.toD_eq]
theorem y4F(p:List zA)(i:Int)(m t o6:zA)(r:zA×Int×Int)(h:vH p i m t o6=some r):z8y (.vH p i m t o6) r:=y4g (.vH p i m t o6) r h
theorem y4E(p:List zA)(m t o6:zA)(r:zA×Int×Int)(h:z5n p m t o6=some r):Ok (uK (Trip Tryz.prog) [.d (tT r.1),(nI r.2.1),(nI r.2.2)] []) (kJ Tryz.f108 19) ⟨223,[(2,.d (.sl (List.map zA.toD p))),(3,.ref 3 1 0),(4,.ref 4 1 0),(6,.ref 6 1 0)],[(3,1,some (.agg (tT m))),(4,1,some (.agg (tT t))),(6,1,some (.agg (tT o6)))],[],0⟩:=by
 unfold z5n at h;refine jN 1000 (y5p _ _ _ _ p m t o6) ?_;exact y4F _ _ _ _ _ _ h
theorem z8M(p:List zA)(m t o6:zA)(r:zA×Int×Int)(h:z2p p m t o6=some r):Ok (uK (Trip Tryz.prog) [.d (tT r.1),(nI r.2.1),(nI r.2.2)] []) (kJ Tryz.f108 17) ⟨223,[(2,.d (.sl (List.map zA.toD p))),(3,.ref 3 1 0),(4,.ref 4 1 0),(6,.ref 6 1 0)],[(3,1,some (.agg (tT m))),(4,1,some (.agg (tT t))),(6,1,some (.agg (tT o6)))],[],0⟩:=by
 unfold z2p at h;refine jN 1000 (y5o _ _ _ _ p m t o6) ?_;rintro _ rfl;refine zG zq2 h (fun _ h=>?_) (fun _ h=>?_)
 ·exact y4E _ _ _ _ _ h
 cases h;exact⟨rfl,rfl⟩
theorem z8L(p:List zA)(m t o6:zA)(r:zA×Int×Int)(h:z2o p m t o6=some r):Ok (uK (Trip Tryz.prog) [.d (tT r.1),(nI r.2.1),(nI r.2.2)] []) (kJ Tryz.f108 15) ⟨223,[(2,.d (.sl (List.map zA.toD p))),(3,.ref 3 1 0),(4,.ref 4 1 0),(6,.ref 6 1 0)],[(3,1,some (.agg (tT m))),(4,1,some (.agg (tT t))),(6,1,some (.agg (tT o6)))],[],0⟩:=by
 unfold z2o at h;refine jN 1000 (y5n _ _ _ _ p m t o6) ?_;rintro _ rfl;refine zD zq2 h (fun _ h=>?_) (fun _ h=>?_)
 ·obtain⟨x,hx,h⟩:=zC h;refine⟨zF (l:=m.L) (zA.sz),vO hx,x.K,x.N,x.S,List.map zA.toD x.L,x.From,x.To,zL (zA.toD_eq x) hx,?_⟩;obtain⟨x1,hx,h⟩:=zC h;refine⟨zF (l:=x.L) (zA.sz),vO hx,x1.K,x1.N,x1.S,List.map zA.toD x1.L,x1.From,x1.To,zL (zA.toD_eq x1) hx,?_⟩;obtain⟨q1,g,h⟩:=zC h;refine⟨_,⟨_,y7l _ _ _ g⟩,?_⟩;refine zD Iff.rfl h (fun _ h=>?_) (fun _ h=>?_)
  ·obtain⟨x2,hx,h⟩:=zC h;refine⟨zF (l:=m.L) (zA.sz),vO hx,x2.K,x2.N,x2.S,List.map zA.toD x2.L,x2.From,x2.To,zL (zA.toD_eq x2) hx,?_⟩;obtain⟨x3,hx,h⟩:=zC h;refine⟨zF (l:=x2.L) (zA.sz),vO hx,x3.K,x3.N,x3.S,List.map zA.toD x3.L,x3.From,x3.To,zL (zA.toD_eq x3) hx,?_⟩;obtain⟨q2,g,h⟩:=zC h;refine⟨_,_,_,_,_,_,⟨_,z4b _ _ g⟩,?_⟩;cases h;exact⟨rfl,rfl⟩
  exact z8M _ _ _ _ _ h
 exact z8M _ _ _ _ _ h
theorem z5I(p:List zA)(m t o6:zA)(r:zA×Int×Int)(h:z1o p m t o6=some r):Ok (uK (Trip Tryz.prog) [.d (tT r.1),(nI r.2.1),(nI r.2.2)] []) (kJ Tryz.f108 13) ⟨223,[(2,.d (.sl (List.map zA.toD p))),(3,.ref 3 1 0),(4,.ref 4 1 0),(6,.ref 6 1 0)],[(3,1,some (.agg (tT m))),(4,1,some (.agg (tT t))),(6,1,some (.agg (tT o6)))],[],0⟩:=by
 unfold z1o at h;refine jN 1000 (y5m _ _ _ _ p m t o6) ?_;rintro _ rfl;refine zD zq2 h (fun _ h=>?_) (fun _ h=>?_)
 ·obtain⟨x,hx,h⟩:=zC h;refine⟨zF (l:=m.L) (zA.sz),vO hx,x.K,x.N,x.S,List.map zA.toD x.L,x.From,x.To,zL (zA.toD_eq x) hx,?_⟩;obtain⟨q1,g,h⟩:=zC h;refine⟨_,⟨_,y7l _ _ _ g⟩,?_⟩;refine zD Iff.rfl h (fun _ h=>?_) (fun _ h=>?_)
  ·cases h;exact⟨rfl,rfl⟩
  exact z8L _ _ _ _ _ h
 exact z8L _ _ _ _ _ h
theorem z4C(p:List zA)(m t o6:zA)(r:zA×Int×Int)(h:z1i p m t o6=some r):Ok (uK (Trip Tryz.prog) [.d (tT r.1),(nI r.2.1),(nI r.2.2)] []) (kJ Tryz.f108 7) ⟨223,[(2,.d (.sl (List.map zA.toD p))),(3,.ref 3 1 0),(4,.ref 4 1 0),(6,.ref 6 1 0)],[(3,1,some (.agg (tT m))),(4,1,some (.agg (tT t))),(6,1,some (.agg (tT o6)))],[],0⟩:=by
 unfold z1i at h;refine jN 1000 (y6O _ _ _ _ p m t o6) ?_;rintro _ rfl;refine zD zq2 h (fun _ h=>?_) (fun _ h=>?_)
 ·obtain⟨x,hx,h⟩:=zC h;refine⟨zF (l:=p) (zA.sz),vO hx,x.K,x.N,x.S,List.map zA.toD x.L,x.From,x.To,zL (zA.toD_eq x) hx,?_⟩;rintro _ rfl;refine zD zq2 h (fun _ h=>?_) (fun _ h=>?_)
  ·obtain⟨x1,hx,h⟩:=zC h;refine⟨zF (l:=p) (zA.sz),vO hx,x1.K,x1.N,x1.S,List.map zA.toD x1.L,x1.From,x1.To,zL (zA.toD_eq x1) hx,?_⟩;refine zU (e':=(List.length x1.L:Int)) (by first|rfl|rw[zq3]) ?_;rintro _ rfl;refine zD zq2 h (fun _ h=>?_) (fun _ h=>?_)
   ·obtain⟨x2,hx,h⟩:=zC h;refine⟨zF (l:=p) (zA.sz),vO hx,x2.K,x2.N,x2.S,List.map zA.toD x2.L,x2.From,x2.To,zL (zA.toD_eq x2) hx,?_⟩;obtain⟨q1,g,h⟩:=zC h;refine⟨_,⟨_,y9S _ _ _ _ g⟩,?_⟩;rintro _ rfl;refine zD decide_eq_true_iff h (fun _ h=>?_) (fun _ h=>?_)
    ·cases h;exact⟨rfl,rfl⟩
    obtain⟨q2,g,h⟩:=zC h;refine⟨_,_,_,_,_,_,_,⟨_,y2S _ _ _ g⟩,?_⟩;obtain⟨q3,g,h⟩:=zC h;refine⟨_,_,_,_,_,_,⟨_,z4b _ _ g⟩,?_⟩;cases h;exact⟨rfl,rfl⟩
   exact z5I _ _ _ _ _ h
  exact z5I _ _ _ _ _ h
 exact z5I _ _ _ _ _ h
theorem z4B(p:List zA)(m t o6:zA)(r:zA×Int×Int)(h:z1h p m t o6=some r):Ok (uK (Trip Tryz.prog) [.d (tT r.1),(nI r.2.1),(nI r.2.2)] []) (kJ Tryz.f108 5) ⟨223,[(2,.d (.sl (List.map zA.toD p))),(3,.ref 3 1 0),(4,.ref 4 1 0),(6,.ref 6 1 0)],[(3,1,some (.agg (tT m))),(4,1,some (.agg (tT t))),(6,1,some (.agg (tT o6)))],[],0⟩:=by
 unfold z1h at h;refine jN 1000 (y6N _ _ _ _ p m t o6) ?_;rintro _ rfl;refine zD zq2 h (fun _ h=>?_) (fun _ h=>?_)
 ·obtain⟨x,hx,h⟩:=zC h;refine⟨zF (l:=p) (zA.sz),vO hx,x.K,x.N,x.S,List.map zA.toD x.L,x.From,x.To,zL (zA.toD_eq x) hx,?_⟩;rintro _ rfl;refine zD zq2 h (fun _ h=>?_) (fun _ h=>?_)
  ·obtain⟨x1,hx,h⟩:=zC h;refine⟨zF (l:=p) (zA.sz),vO hx,x1.K,x1.N,x1.S,List.map zA.toD x1.L,x1.From,x1.To,zL (zA.toD_eq x1) hx,?_⟩;refine zU (e':=(List.length x1.L:Int)) (by first|rfl|rw[zq3]) ?_;rintro _ rfl;refine zD zq2 h (fun _ h=>?_) (fun _ h=>?_)
   ·obtain⟨x2,hx,h⟩:=zC h;refine⟨zF (l:=p) (zA.sz),vO hx,x2.K,x2.N,x2.S,List.map zA.toD x2.L,x2.From,x2.To,zL (zA.toD_eq x2) hx,?_⟩;obtain⟨q1,g,h⟩:=zC h;refine⟨_,⟨_,z3C _ _ _ g⟩,?_⟩;refine zD Iff.rfl h (fun _ h=>?_) (fun _ h=>?_)
    ·obtain⟨x3,hx,h⟩:=zC h;refine⟨zF (l:=p) (zA.sz),vO hx,x3.K,x3.N,x3.S,List.map zA.toD x3.L,x3.From,x3.To,zL (zA.toD_eq x3) hx,?_⟩;obtain⟨x4,hx,h⟩:=zC h;refine⟨zF (l:=x3.L) (zA.sz),vO hx,x4.K,x4.N,x4.S,List.map zA.toD x4.L,x4.From,x4.To,zL (zA.toD_eq x4) hx,?_⟩;cases h;exact⟨rfl,rfl⟩
    exact z4C _ _ _ _ _ h
   exact z4C _ _ _ _ _ h
  exact z4C _ _ _ _ _ h
 exact z4C _ _ _ _ _ h
theorem y0f(p:List zA)(m t o6:zA)(r:zA×Int×Int)(h:z3g p m t o6=some r):Ok (uK (Trip Tryz.prog) [.d (tT r.1),(nI r.2.1),(nI r.2.2)] []) (kJ Tryz.f108 3) ⟨223,[(2,.d (.sl (List.map zA.toD p))),(3,.ref 3 1 0),(4,.ref 4 1 0),(6,.ref 6 1 0)],[(3,1,some (.agg (tT m))),(4,1,some (.agg (tT t))),(6,1,some (.agg (tT o6)))],[],0⟩:=by
 unfold z3g at h;refine jN 1000 (y6M _ _ _ _ p m t o6) ?_;rintro _ rfl;refine zD zq2 h (fun _ h=>?_) (fun _ h=>?_)
 ·rintro _ rfl;refine zD zq2 h (fun hc227 h=>?_) (fun hc227 h=>?_)
  ·obtain⟨x,hx,h⟩:=zC h;refine⟨zF (l:=p) (zA.sz),vO hx,x.K,x.N,x.S,List.map zA.toD x.L,x.From,x.To,zL (zA.toD_eq x) hx,?_⟩;obtain⟨q1,g,h⟩:=zC h;refine⟨_,⟨_,z3C _ _ _ g⟩,?_⟩;refine zD Iff.rfl h (fun _ h=>?_) (fun _ h=>?_)
   ·obtain⟨x1,hx,h⟩:=zC h;refine⟨zF (l:=p) (zA.sz),vO hx,x1.K,x1.N,x1.S,List.map zA.toD x1.L,x1.From,x1.To,zL (zA.toD_eq x1) hx,?_⟩;cases h;exact⟨rfl,rfl⟩
   rintro _ rfl;refine uC zq2 (fun e=>absurd (hc227.symm.trans e) (by decide)) ?_;exact z4B _ _ _ _ _ h
  rintro _ rfl;refine zD zq2 h (fun _ h=>?_) (fun _ h=>?_)
  ·obtain⟨x4,hx,h⟩:=zC h;refine⟨zF (l:=p) (zA.sz),vO hx,x4.K,x4.N,x4.S,List.map zA.toD x4.L,x4.From,x4.To,zL (zA.toD_eq x4) hx,?_⟩;obtain⟨q3,g,h⟩:=zC h;refine⟨_,⟨_,z3C _ _ _ g⟩,?_⟩;refine zD Iff.rfl h (fun _ h=>?_) (fun _ h=>?_)
   ·obtain⟨x5,hx,h⟩:=zC h;refine⟨zF (l:=p) (zA.sz),vO hx,x5.K,x5.N,x5.S,List.map zA.toD x5.L,x5.From,x5.To,zL (zA.toD_eq x5) hx,?_⟩;cases h;exact⟨rfl,rfl⟩
   exact z4B _ _ _ _ _ h
  exact z4B _ _ _ _ _ h
 exact z4B _ _ _ _ _ h
theorem z3E(op:Int)(ints:Bool)(o6 r:zA)(h:z1p op ints o6=some r):Ok (z2j (Trip Tryz.prog) [.d (tT r)] []) (kJ Tryz.f170 7) ⟨70,[(0,(nI op)),(6,.ref 6 1 0),(7,(nB ints))],[(6,1,some (.agg (tT o6)))],[],0⟩:=by
 unfold z1p at h;refine jN 1000 (y8G _ _ _ _ op ints o6) ?_;rintro _ rfl;refine zD decide_eq_true_iff h (fun _ h=>?_) (fun _ h=>?_)
 ·refine zD Iff.rfl h (fun _ h=>?_) (fun _ h=>?_)
  ·obtain⟨q1,g,h⟩:=zC h;refine⟨_,_,_,_,_,_,⟨_,y2f _ g⟩,?_⟩;cases h;exact⟨rfl,rfl⟩
  cases h;exact⟨rfl,rfl⟩
 cases h;exact⟨rfl,rfl⟩
theorem z3D(op:Int)(ints:Bool)(o6 r:zA)(h:z0m op ints o6=some r):Ok (z2j (Trip Tryz.prog) [.d (tT r)] []) (kJ Tryz.f170 5) ⟨70,[(0,(nI op)),(6,.ref 6 1 0),(7,(nB ints))],[(6,1,some (.agg (tT o6)))],[],0⟩:=by
 unfold z0m at h;refine jN 1000 (y8F _ _ _ _ op ints o6) ?_;rintro _ rfl;refine zD zq2 h (fun _ h=>?_) (fun _ h=>?_)
 ·refine zD Iff.rfl h (fun _ h=>?_) (fun _ h=>?_)
  ·obtain⟨q1,g,h⟩:=zC h;refine⟨_,_,_,_,_,_,⟨_,z0f _ g⟩,?_⟩;cases h;exact⟨rfl,rfl⟩
  exact z3E _ _ _ _ h
 rintro _ rfl;refine zD zq2 h (fun _ h=>?_) (fun _ h=>?_)
 ·refine zD Iff.rfl h (fun _ h=>?_) (fun _ h=>?_)
  ·obtain⟨q2,g,h⟩:=zC h;refine⟨_,_,_,_,_,_,⟨_,z0f _ g⟩,?_⟩;cases h;exact⟨rfl,rfl⟩
  exact z3E _ _ _ _ h
 rintro _ rfl;refine zD zq2 h (fun _ h=>?_) (fun _ h=>?_)
 ·refine zD Iff.rfl h (fun _ h=>?_) (fun _ h=>?_)
  ·obtain⟨q3,g,h⟩:=zC h;refine⟨_,_,_,_,_,_,⟨_,z0f _ g⟩,?_⟩;cases h;exact⟨rfl,rfl⟩
  exact z3E _ _ _ _ h
 rintro _ rfl;refine zD zq2 h (fun _ h=>?_) (fun _ h=>?_)
 ·refine zD Iff.rfl h (fun _ h=>?_) (fun _ h=>?_)
  ·obtain⟨q4,g,h⟩:=zC h;refine⟨_,_,_,_,_,_,⟨_,z0f _ g⟩,?_⟩;cases h;exact⟨rfl,rfl⟩
  exact z3E _ _ _ _ h
 exact z3E _ _ _ _ h
theorem y1m(op:Int)(ints bools:Bool)(o6 r:zA)(h:z4n op ints bools o6=some r):Ok (z2j (Trip Tryz.prog) [.d (tT r)] []) (kJ Tryz.f170 3) ⟨70,[(0,(nI op)),(6,.ref 6 1 0),(7,(nB ints)),(8,(nB bools))],[(6,1,some (.agg (tT o6)))],[],0⟩:=by
 unfold z4n at h;refine jN 1000 (y8E _ _ _ _ op ints bools o6) ?_;rintro _ rfl;refine zD zq2 h (fun hc241 h=>?_) (fun hc241 h=>?_)
 ·refine zD Iff.rfl h (fun _ h=>?_) (fun _ h=>?_)
  ·obtain⟨q1,g,h⟩:=zC h;refine⟨_,_,_,_,_,_,⟨_,z0f _ g⟩,?_⟩;cases h;exact⟨rfl,rfl⟩
  rintro _ rfl;refine uC zq2 (fun e=>absurd (hc241.symm.trans e) (by decide)) ?_;rintro _ rfl;refine uC zq2 (fun e=>absurd (hc241.symm.trans e) (by decide)) ?_;exact z3D _ _ _ _ h
 rintro _ rfl;refine zD zq2 h (fun hc243 h=>?_) (fun hc243 h=>?_)
 ·refine zD Iff.rfl h (fun _ h=>?_) (fun _ h=>?_)
  ·obtain⟨q6,g,h⟩:=zC h;refine⟨_,_,_,_,_,_,⟨_,z0f _ g⟩,?_⟩;cases h;exact⟨rfl,rfl⟩
  rintro _ rfl;refine uC zq2 (fun e=>absurd (hc243.symm.trans e) (by decide)) ?_;rintro _ rfl;refine uC zq2 (fun e=>absurd (hc243.symm.trans e) (by decide)) ?_;exact z3D _ _ _ _ h
 rintro _ rfl;refine zD zq2 h (fun _ h=>?_) (fun _ h=>?_)
 ·refine zD Iff.rfl h (fun _ h=>?_) (fun _ h=>?_)
  ·obtain⟨q11,g,h⟩:=zC h;refine⟨_,_,_,_,_,_,⟨_,z0f _ g⟩,?_⟩;cases h;exact⟨rfl,rfl⟩
  refine zD Iff.rfl h (fun _ h=>?_) (fun _ h=>?_)
  ·obtain⟨q12,g,h⟩:=zC h;refine⟨_,_,_,_,_,_,⟨_,z0f _ g⟩,?_⟩;cases h;exact⟨rfl,rfl⟩
  exact z3D _ _ _ _ h
 rintro _ rfl;refine zD zq2 h (fun _ h=>?_) (fun _ h=>?_)
 ·refine zD Iff.rfl h (fun _ h=>?_) (fun _ h=>?_)
  ·obtain⟨q13,g,h⟩:=zC h;refine⟨_,_,_,_,_,_,⟨_,z0f _ g⟩,?_⟩;cases h;exact⟨rfl,rfl⟩
  refine zD Iff.rfl h (fun _ h=>?_) (fun _ h=>?_)
  ·obtain⟨q14,g,h⟩:=zC h;refine⟨_,_,_,_,_,_,⟨_,z0f _ g⟩,?_⟩;cases h;exact⟨rfl,rfl⟩
  exact z3D _ _ _ _ h
 exact z3D _ _ _ _ h
theorem y1l(op:Int)(ints:Bool)(a b o6 r:zA)(h:z4m op ints a b o6=some r):Ok (z2j (Trip Tryz.prog) [.d (tT r)] []) (kJ Tryz.f170 2) ⟨70,[(0,(nI op)),(4,.ref 4 1 0),(5,.ref 5 1 0),(6,.ref 6 1 0),(7,(nB ints))],[(4,1,some (.agg (tT a))),(5,1,some (.agg (tT b))),(6,1,some (.agg (tT o6)))],[],0⟩:=by
 unfold z4m at h;refine jN 1000 (y8D _ _ _ _ op ints a b o6) ?_;obtain⟨q1,g,h⟩:=zC h;refine⟨_,⟨_,z3C _ _ _ g⟩,?_⟩;refine zD Iff.rfl h (fun _ h=>?_) (fun _ h=>?_)
 ·obtain⟨q2,g,h⟩:=zC h;refine⟨_,⟨_,z3C _ _ _ g⟩,?_⟩;exact y1m _ _ _ _ _ h
 exact y1m _ _ _ _ _ h
theorem y7m(op:Int)(a b r:zA)(h:z9R op a b=some r):Trip Tryz.prog 170 [(nI op),.d (tT a),.d (tT b)] [] [.d (tT r)] []:=by
 unfold z9R at h;refine zH 1000 (v5J _ _ _ _ op a b) ?_;obtain⟨q1,g,h⟩:=zC h;refine⟨_,⟨_,z3C _ _ _ g⟩,?_⟩;refine zD Iff.rfl h (fun _ h=>?_) (fun _ h=>?_)
 ·obtain⟨q2,g,h⟩:=zC h;refine⟨_,⟨_,z3C _ _ _ g⟩,?_⟩;exact y1l _ _ _ _ _ _ h
 exact y1l _ _ _ _ _ _ h
theorem v2w(m t:zA)(p:List zA)(r:zA×Int×Int)(h:z9w m t p=some r):Trip Tryz.prog 108 [.d (tT m),.d (tT t),.d (.sl (List.map zA.toD p))] [] [.d (tT r.1),(nI r.2.1),(nI r.2.2)] []:=by
 unfold z9w at h;refine zH 1000 (v3s _ _ _ _ m t p) ?_;rintro _ rfl;refine zD zq2 h (fun _ h=>?_) (fun _ h=>?_)
 ·obtain⟨x,hx,h⟩:=zC h;refine⟨zF (l:=p) (zA.sz),vO hx,x.K,x.N,x.S,List.map zA.toD x.L,x.From,x.To,zL (zA.toD_eq x) hx,?_⟩;obtain⟨x1,hx,h⟩:=zC h;refine⟨zF (l:=p) (zA.sz),vO hx,x1.K,x1.N,x1.S,List.map zA.toD x1.L,x1.From,x1.To,zL (zA.toD_eq x1) hx,?_⟩;obtain⟨q1,g,h⟩:=zC h;refine⟨_,_,_,_,_,_,⟨_,y7m _ _ _ _ g⟩,?_⟩;rintro _ rfl;refine zG zq2 h (fun _ h=>?_) (fun _ h=>?_)
  ·exact y0f _ _ _ _ _ h
  obtain⟨x2,hx,h⟩:=zC h;refine⟨zF (l:=p) (zA.sz),vO hx,x2.K,x2.N,x2.S,List.map zA.toD x2.L,x2.From,x2.To,zL (zA.toD_eq x2) hx,?_⟩;obtain⟨x3,hx,h⟩:=zC h;refine⟨zF (l:=p) (zA.sz),vO hx,x3.K,x3.N,x3.S,List.map zA.toD x3.L,x3.From,x3.To,zL (zA.toD_eq x3) hx,?_⟩;obtain⟨q2,g,h⟩:=zC h;refine⟨_,_,_,_,_,_,⟨_,y7m _ _ _ _ g⟩,?_⟩;cases h;exact⟨rfl,rfl⟩
 exact y0f _ _ _ _ _ h
theorem y8a(t:zA)(r:Bool)(h:z5Y t=some r):Trip Tryz.prog 104 [.d (tT t)] [] [(nB r)] []:=by
 unfold z5Y at h;refine zH 1000 (y8C _ _ _ _ t) ?_;refine zU (e':=(List.length t.L:Int)) (by first|rfl|rw[zq3]) ?_;rintro _ rfl;refine zD zq2 h (fun _ h=>?_) (fun _ h=>?_)
 ·rintro _ rfl;cases h;exact⟨rfl,rfl⟩
 rintro _ rfl;refine zD zq2 h (fun _ h=>?_) (fun _ h=>?_)
 ·rintro _ rfl;cases h;exact⟨rfl,rfl⟩
 rintro _ rfl;refine zD zq2 h (fun _ h=>?_) (fun _ h=>?_)
 ·rintro _ rfl;cases h;exact⟨rfl,rfl⟩
 rintro _ rfl;refine zD zq2 h (fun _ h=>?_) (fun _ h=>?_)
 ·rintro _ rfl;cases h;exact⟨rfl,rfl⟩
 rintro _ rfl;refine zD zq2 h (fun _ h=>?_) (fun _ h=>?_)
 ·rintro _ rfl;cases h;exact⟨rfl,rfl⟩
 rintro _ rfl;refine zD zq2 h (fun _ h=>?_) (fun _ h=>?_)
 ·rintro _ rfl;refine zD zq2 h (fun _ h=>?_) (fun _ h=>?_)
  ·rintro _ rfl;refine zD zq2 h (fun _ h=>?_) (fun _ h=>?_)
   ·cases h;exact⟨rfl,rfl⟩
   rintro _ rfl;cases h;exact⟨rfl,rfl⟩
  cases h;exact⟨rfl,rfl⟩
 rintro _ rfl;refine zD zq2 h (fun _ h=>?_) (fun _ h=>?_)
 ·rintro _ rfl;refine zD zq2 h (fun _ h=>?_) (fun _ h=>?_)
  ·rintro _ rfl;refine zD zq2 h (fun _ h=>?_) (fun _ h=>?_)
   ·cases h;exact⟨rfl,rfl⟩
   rintro _ rfl;cases h;exact⟨rfl,rfl⟩
  cases h;exact⟨rfl,rfl⟩
 rintro _ rfl;refine zD zq2 h (fun _ h=>?_) (fun _ h=>?_)
 ·rintro _ rfl;refine zD zq2 h (fun _ h=>?_) (fun _ h=>?_)
  ·rintro _ rfl;refine zD decide_eq_true_iff h (fun _ h=>?_) (fun _ h=>?_)
   ·rintro _ rfl;cases h;exact⟨rfl,rfl⟩
   cases h;exact⟨rfl,rfl⟩
  cases h;exact⟨rfl,rfl⟩
 rintro _ rfl;refine zD zq2 h (fun _ h=>?_) (fun _ h=>?_)
 ·rintro _ rfl;cases h;exact⟨rfl,rfl⟩
 rintro _ rfl;refine zD zq2 h (fun _ h=>?_) (fun _ h=>?_)
 ·rintro _ rfl;cases h;exact⟨rfl,rfl⟩
 rintro _ rfl;refine zD zq2 h (fun _ h=>?_) (fun _ h=>?_)
 ·rintro _ rfl;cases h;exact⟨rfl,rfl⟩
 rintro _ rfl;refine zD zq2 h (fun _ h=>?_) (fun _ h=>?_)
 ·rintro _ rfl;cases h;exact⟨rfl,rfl⟩
 rintro _ rfl;refine zD zq2 h (fun _ h=>?_) (fun _ h=>?_)
 ·cases h;exact⟨rfl,rfl⟩
 rintro _ rfl;cases h;exact⟨rfl,rfl⟩
def y9M:(i:z4G)→y4y i→Prop
 |.uD m locals t,r=>Trip Tryz.prog 53 [.d (tT m),.d (.sl (List.map zA.toD locals)),.d (tT t)] [] [.d (.agg [(.int .i64 r.Type_.K),(.int .i64 r.Type_.N),(.str r.Type_.S),(.sl (List.map zA.toD r.Type_.L)),(.int .i64 r.Type_.From),(.int .i64 r.Type_.To),(.int .i64 r.Form.K),(.int .i64 r.Form.N),(.str r.Form.S),(.sl (List.map zA.toD r.Form.L)),(.int .i64 r.Form.From),(.int .i64 r.Form.To),(.int .i64 r.At),(.int .i64 r.E)])] []
 |.wA locals types forms i m t o6,r=>Ok (y5c (Trip Tryz.prog) [.d (.agg [(.int .i64 r.Type_.K),(.int .i64 r.Type_.N),(.str r.Type_.S),(.sl (List.map zA.toD r.Type_.L)),(.int .i64 r.Type_.From),(.int .i64 r.Type_.To),(.int .i64 r.Form.K),(.int .i64 r.Form.N),(.str r.Form.S),(.sl (List.map zA.toD r.Form.L)),(.int .i64 r.Form.From),(.int .i64 r.Form.To),(.int .i64 r.At),(.int .i64 r.E)])] []) (kL Tryz.f53 10) ⟨96,[(1,.d (.sl (List.map zA.toD locals))),(3,.ref 3 1 0),(5,.ref 5 1 0),(6,.ref 6 1 0),(7,.right 45 1 6 (List.map zA.toD types)),(8,.right 46 1 6 (List.map zA.toD forms)),(9,(nI i))],[(3,1,some (.agg (tT m))),(5,1,some (.agg (tT t))),(6,1,some (.agg (.agg [(.int .i64 o6.Type_.K),(.int .i64 o6.Type_.N),(.str o6.Type_.S),(.sl (List.map zA.toD o6.Type_.L)),(.int .i64 o6.Type_.From),(.int .i64 o6.Type_.To),(.int .i64 o6.Form.K),(.int .i64 o6.Form.N),(.str o6.Form.S),(.sl (List.map zA.toD o6.Form.L)),(.int .i64 o6.Form.From),(.int .i64 o6.Form.To),(.int .i64 o6.At),(.int .i64 o6.E)]))),(45,1,some (.tok 6 (List.length (List.map zA.toD types)))),(46,1,some (.tok 6 (List.length (List.map zA.toD forms))))],[],0⟩
theorem v6C:∀i r,uV z6x i=some r→y9M i r:=by
 refine zP y4d fun g ih i=>?_;cases i with
 |uD m locals t=>
  have w1Z:=fun locals types forms i m t o6 r h=>ih (.wA locals types forms i m t o6) r h;intro r h;replace h:z6M (fun locals types forms i m t o6=>g (z4G.wA locals types forms i m t o6)) m locals t=some r:=h;unfold z6M at h;refine zH 1000 (v6P _ _ _ _ m locals t) ?_;obtain⟨q1,g,h⟩:=zC h;refine⟨_,⟨_,y8a _ _ g⟩,?_⟩;refine zG Iff.rfl h (fun _ h=>?_) (fun _ h=>?_)
  ·obtain⟨q3,g,h⟩:=zC h;refine⟨_,⟨_,y9T _ _ _ _ g⟩,?_⟩;refine zG Iff.rfl h (fun _ h=>?_) (fun _ h=>?_)
   ·refine zU (e':=(List.length t.L:Int)) (by first|rfl|rw[zq3]) ?_;rintro _ rfl;refine zD zq2 h (fun _ h=>?_) (fun _ h=>?_)
    ·rintro _ rfl;refine zG zq2 h (fun _ h=>?_) (fun _ h=>?_)
     ·exact w1Z _ _ _ _ _ _ _ _ h
     obtain⟨q5,g,h⟩:=zC h;refine⟨_,_,_,_,_,_,⟨_,y9R _ _ _ _ g⟩,?_⟩;cases h;exact⟨rfl,rfl⟩
    exact w1Z _ _ _ _ _ _ _ _ h
   obtain⟨q4,g,h⟩:=zC h;refine⟨_,_,_,_,_,_,_,_,_,_,_,_,_,_,⟨_,y2e _ _ _ g⟩,?_⟩;cases h;exact⟨rfl,rfl⟩
  obtain⟨q2,g,h⟩:=zC h;refine⟨_,_,_,_,_,_,_,_,_,_,_,_,_,_,⟨_,y2e _ _ _ g⟩,?_⟩;cases h;exact⟨rfl,rfl⟩
 |wA locals types forms i m t o6=>
  have w1Y:=fun m locals t r h=>ih (.uD m locals t) r h;have w1Z:=fun locals types forms i m t o6 r h=>ih (.wA locals types forms i m t o6) r h;intro r h;replace h:z1n (fun m locals t=>g (z4G.uD m locals t)) (fun locals types forms i m t o6=>g (z4G.wA locals types forms i m t o6)) locals types forms i m t o6=some r:=h;unfold z1n at h;refine jN 1000 (y8B _ _ _ _ locals types forms i m t o6) ?_;refine zU (e':=(List.length t.L:Int)) (by first|rfl|rw[zq3]) ?_;rintro _ rfl
  refine zD decide_eq_true_iff h (fun _ h=>?_) (fun _ h=>?_)
  ·obtain⟨x,hx,h⟩:=zC h;refine⟨zF (l:=t.L) (zA.sz),vO hx,x.K,x.N,x.S,List.map zA.toD x.L,x.From,x.To,zL (zA.toD_eq x) hx,?_⟩;obtain⟨q1,g,h⟩:=zC h;refine⟨_,_,_,_,_,_,_,_,_,_,_,_,_,_,⟨_,w1Y _ _ _ _ g⟩,?_⟩;rintro _ rfl;refine zG zq2 h (fun _ h=>?_) (fun _ h=>?_)
   ·refine⟨by simp[zE,D.cells],?_⟩;refine⟨by first|rfl|decide|simp only[zq3,List.length_cons,List.length_nil,List.map_append,List.length_append],?_⟩;obtain⟨hP,h⟩:=uN h;refine⟨by first|exact hP|simpa using hP,?_⟩;refine zU (e':=List.map zA.toD (types++[q1.Type_])) (by first|rfl|simp only[List.map_append,List.map_cons,List.map_nil,List.map_take,List.map_drop,List.map_set,List.map_replicate,zq3,zA.toD_eq]) ?_;refine⟨by simp[zE,D.cells],?_⟩
    refine⟨by first|rfl|decide|simp only[zq3,List.length_cons,List.length_nil,List.map_append,List.length_append],?_⟩;obtain⟨hP,h⟩:=uN h;refine⟨by first|exact hP|simpa using hP,?_⟩;refine zU (e':=List.map zA.toD (forms++[q1.Form])) (by first|rfl|simp only[List.map_append,List.map_cons,List.map_nil,List.map_take,List.map_drop,List.map_set,List.map_replicate,zq3,zA.toD_eq]) ?_;rintro _ rfl;exact w1Z _ _ _ _ _ _ _ _ h
   cases h;exact⟨rfl,rfl⟩
  obtain⟨q2,g,h⟩:=zC h;refine⟨_,_,_,_,_,_,_,_,⟨_,v2w _ _ _ _ g⟩,?_⟩;rintro _ rfl;refine zG zq2 h (fun _ h=>?_) (fun _ h=>?_)
  ·cases h;exact⟨rfl,rfl⟩
  obtain⟨q3,g,h⟩:=zC h;refine⟨_,_,_,_,_,_,_,_,_,_,_,_,_,_,⟨_,y2e _ _ _ g⟩,?_⟩;cases h;exact⟨rfl,rfl⟩
theorem z1S(m:zA)(locals:List zA)(t:zA)(r:Ref15Got)(h:uD m locals t=some r):y9M (.uD m locals t) r:=v6C (.uD m locals t) r h
theorem y8b(m:zA)(locals:List zA)(t:zA)(r:List zA)(h:z1q m locals t=some r):Trip Tryz.prog 240 [.d (tT m),.d (.sl (List.map zA.toD locals)),.d (tT t)] [] [.d (.sl (List.map zA.toD r))] []:=by
 unfold z1q at h;refine zH 1000 (y8H _ _ _ _ m locals t) ?_;rintro _ rfl;refine zD zq2 h (fun hc281 h=>?_) (fun hc281 h=>?_)
 ·refine zU (e':=(List.length t.L:Int)) (by first|rfl|rw[zq3]) ?_;rintro _ rfl;refine zD zq2 h (fun _ h=>?_) (fun _ h=>?_)
  ·refine⟨zF (l:=locals) (zA.sz),?_⟩;refine⟨by first|rfl|decide|simp only[zq3,List.length_cons,List.length_nil,List.map_append,List.length_append],?_⟩;obtain⟨hP,h⟩:=uN h;refine⟨by first|exact hP|simpa using hP,?_⟩;refine zU (e':=List.map zA.toD (([]:List zA)++locals)) (by first|rfl|simp only[List.map_append,List.map_cons,List.map_nil,List.map_take,List.map_drop,List.map_set,List.map_replicate,zq3,zA.toD_eq]) ?_;obtain⟨x,hx,h⟩:=zC h
   refine⟨zF (l:=t.L) (zA.sz),vO hx,x.K,x.N,x.S,List.map zA.toD x.L,x.From,x.To,zL (zA.toD_eq x) hx,?_⟩;obtain⟨q1,g,h⟩:=zC h;refine⟨_,_,_,_,_,_,_,_,_,_,_,_,_,_,⟨_,z1S _ _ _ _ g⟩,?_⟩;refine⟨by simp[zE,D.cells],?_⟩;refine⟨by first|rfl|decide|simp only[zq3,List.length_cons,List.length_nil,List.map_append,List.length_append],?_⟩;obtain⟨hP,h⟩:=uN h;refine⟨by first|exact hP|simpa using hP,?_⟩
   refine zU (e':=List.map zA.toD ((([]:List zA)++locals)++[q1.Type_])) (by first|rfl|simp only[List.map_append,List.map_cons,List.map_nil,List.map_take,List.map_drop,List.map_set,List.map_replicate,zq3,zA.toD_eq]) ?_;cases h;exact⟨rfl,rfl⟩
  rintro _ rfl;refine uC zq2 (fun e=>absurd (hc281.symm.trans e) (by decide)) ?_;cases h;exact⟨rfl,rfl⟩
 rintro _ rfl;refine zD zq2 h (fun _ h=>?_) (fun _ h=>?_)
 ·refine zU (e':=(List.length t.L:Int)) (by first|rfl|rw[zq3]) ?_;rintro _ rfl;refine zD zq2 h (fun _ h=>?_) (fun _ h=>?_)
  ·refine⟨zF (l:=locals) (zA.sz),?_⟩;refine⟨by first|rfl|decide|simp only[zq3,List.length_cons,List.length_nil,List.map_append,List.length_append],?_⟩;obtain⟨hP,h⟩:=uN h;refine⟨by first|exact hP|simpa using hP,?_⟩;refine zU (e':=List.map zA.toD (([]:List zA)++locals)) (by first|rfl|simp only[List.map_append,List.map_cons,List.map_nil,List.map_take,List.map_drop,List.map_set,List.map_replicate,zq3,zA.toD_eq]) ?_;obtain⟨x2,hx,h⟩:=zC h
   refine⟨zF (l:=t.L) (zA.sz),vO hx,x2.K,x2.N,x2.S,List.map zA.toD x2.L,x2.From,x2.To,zL (zA.toD_eq x2) hx,?_⟩;refine⟨by simp[zE,D.cells],?_⟩;refine⟨by first|rfl|decide|simp only[zq3,List.length_cons,List.length_nil,List.map_append,List.length_append],?_⟩;obtain⟨hP,h⟩:=uN h;refine⟨by first|exact hP|simpa using hP,?_⟩
   refine zU (e':=List.map zA.toD ((([]:List zA)++locals)++[x2])) (by first|rfl|simp only[List.map_append,List.map_cons,List.map_nil,List.map_take,List.map_drop,List.map_set,List.map_replicate,zq3,zA.toD_eq]) ?_;cases h;exact⟨rfl,rfl⟩
  cases h;exact⟨rfl,rfl⟩
 cases h;exact⟨rfl,rfl⟩
theorem y2U(k:Int)(r:Int×Int)(h:jC k=some r):Trip Tryz.prog 239 [(nI k)] [] [(nI r.1),(nI r.2)] []:=by
 unfold jC at h;refine zH 1000 (v0S _ _ _ _ k) ?_;rintro _ rfl;refine zD zq2 h (fun _ h=>?_) (fun _ h=>?_)
 ·cases h;exact⟨rfl,rfl⟩
 rintro _ rfl;refine zD zq2 h (fun _ h=>?_) (fun _ h=>?_)
 ·cases h;exact⟨rfl,rfl⟩
 rintro _ rfl;refine zD zq2 h (fun _ h=>?_) (fun _ h=>?_)
 ·cases h;exact⟨rfl,rfl⟩
 rintro _ rfl;refine zD zq2 h (fun _ h=>?_) (fun _ h=>?_)
 ·cases h;exact⟨rfl,rfl⟩
 rintro _ rfl;refine zD zq2 h (fun _ h=>?_) (fun _ h=>?_)
 ·cases h;exact⟨rfl,rfl⟩
 rintro _ rfl;refine zD zq2 h (fun _ h=>?_) (fun _ h=>?_)
 ·cases h;exact⟨rfl,rfl⟩
 rintro _ rfl;refine zD zq2 h (fun _ h=>?_) (fun _ h=>?_)
 ·cases h;exact⟨rfl,rfl⟩
 rintro _ rfl;refine zD zq2 h (fun _ h=>?_) (fun _ h=>?_)
 ·cases h;exact⟨rfl,rfl⟩
 rintro _ rfl;refine zD zq2 h (fun _ h=>?_) (fun _ h=>?_)
 ·cases h;exact⟨rfl,rfl⟩
 cases h;exact⟨rfl,rfl⟩
def z8z:(i:z3w)→z5C i→Prop
 |.yL n i t,r=>Ok (z8Z (Trip Tryz.prog) [(nB r)] []) (kL Tryz.f191 7) ⟨35,[(1,.ref 1 1 0),(3,(nI n)),(5,(nI i))],[(1,1,some (.agg (tT t)))],[],0⟩
theorem y4h:∀i r,uV z3p i=some r→z8z i r:=by
 refine zP z8q fun g ih i=>?_;cases i with
 |yL n i t=>
  have w2i:=fun n i t r h=>ih (.yL n i t) r h;intro r h;replace h:z0o (fun n i t=>g (z3w.yL n i t)) n i t=some r:=h;unfold z0o at h;refine jN 1000 (y5s _ _ _ _ n i t) ?_;rintro _ rfl;refine zD decide_eq_true_iff h (fun _ h=>?_) (fun _ h=>?_)
  ·obtain⟨x,hx,h⟩:=zC h;refine⟨zF (l:=t.L) (zA.sz),vO hx,x.K,x.N,x.S,List.map zA.toD x.L,x.From,x.To,zL (zA.toD_eq x) hx,?_⟩;rintro _ rfl;refine zG zq2 h (fun _ h=>?_) (fun _ h=>?_)
   ·rintro _ rfl;exact w2i _ _ _ _ h
   cases h;exact⟨rfl,rfl⟩
  cases h;exact⟨rfl,rfl⟩
theorem y4G(n i:Int)(t:zA)(r:Bool)(h:yL n i t=some r):z8z (.yL n i t) r:=y4h (.yL n i t) r h
theorem y9V(t:zA)(r:Bool)(h:z6P t=some r):Trip Tryz.prog 191 [.d (tT t)] [] [(nB r)] []:=by
 unfold z6P at h;refine zH 1000 (v0U _ _ _ _ t) ?_;rintro _ rfl;refine zD zq2 h (fun _ h=>?_) (fun _ h=>?_)
 ·cases h;exact⟨rfl,rfl⟩
 obtain⟨q1,g,h⟩:=zC h;refine⟨_,_,⟨_,y2U _ _ g⟩,?_⟩;refine zU (e':=(List.length t.L:Int)) (by first|rfl|rw[zq3]) ?_;rintro _ rfl;refine zG zq2 h (fun _ h=>?_) (fun _ h=>?_)
 ·rintro _ rfl;exact y4G _ _ _ _ h
 cases h;exact⟨rfl,rfl⟩
def y4r:(i:z7i)→y0B i→Prop
 |.uB t,r=>Trip Tryz.prog 194 [.d (tT t)] [] [.d (tT r)] []
theorem v2j:∀i r,uV z7h i=some r→y4r i r:=by
 refine zP y4c fun g ih i=>?_;cases i with
 |uB t=>
  have w1V:=fun t r h=>ih (.uB t) r h;intro r h;replace h:z1X (fun t=>g (z7i.uB t)) t=some r:=h;unfold z1X at h;refine zH 1000 (v3q _ _ _ _ t) ?_;rintro _ rfl;refine zD zq2 h (fun _ h=>?_) (fun _ h=>?_)
  ·refine zU (e':=(List.length t.L:Int)) (by first|rfl|rw[zq3]) ?_;rintro _ rfl;refine zD decide_eq_true_iff h (fun _ h=>?_) (fun _ h=>?_)
   ·obtain⟨x,hx,h⟩:=zC h;refine⟨zF (l:=t.L) (zA.sz),vO hx,x.K,x.N,x.S,List.map zA.toD x.L,x.From,x.To,zL (zA.toD_eq x) hx,?_⟩;obtain⟨q1,g,h⟩:=zC h;refine⟨_,_,_,_,_,_,⟨_,w1V _ _ g⟩,?_⟩;cases h;exact⟨rfl,rfl⟩
   cases h;exact⟨rfl,rfl⟩
  rintro _ rfl;refine zD zq2 h (fun _ h=>?_) (fun _ h=>?_)
  ·refine zU (e':=(List.length t.L:Int)) (by first|rfl|rw[zq3]) ?_;rintro _ rfl;refine zD decide_eq_true_iff h (fun _ h=>?_) (fun _ h=>?_)
   ·obtain⟨x1,hx,h⟩:=zC h;refine⟨zF (l:=t.L) (zA.sz),vO hx,x1.K,x1.N,x1.S,List.map zA.toD x1.L,x1.From,x1.To,zL (zA.toD_eq x1) hx,?_⟩;obtain⟨q2,g,h⟩:=zC h;refine⟨_,_,_,_,_,_,⟨_,w1V _ _ g⟩,?_⟩;cases h;exact⟨rfl,rfl⟩
   cases h;exact⟨rfl,rfl⟩
  cases h;exact⟨rfl,rfl⟩
theorem v2v(t r:zA)(h:uB t=some r):y4r (.uB t) r:=v2j (.uB t) r h
theorem z2O(x:Ref15Got)(r:Ref16Got)(h:z0A x=some r):Trip Tryz.prog 242 [.d (.agg [(.int .i64 x.Type_.K),(.int .i64 x.Type_.N),(.str x.Type_.S),(.sl (List.map zA.toD x.Type_.L)),(.int .i64 x.Type_.From),(.int .i64 x.Type_.To),(.int .i64 x.Form.K),(.int .i64 x.Form.N),(.str x.Form.S),(.sl (List.map zA.toD x.Form.L)),(.int .i64 x.Form.From),(.int .i64 x.Form.To),(.int .i64 x.At),(.int .i64 x.E)])] [] [.d (.agg [(.int .i64 r.T_.K),(.int .i64 r.T_.N),(.str r.T_.S),(.sl (List.map zA.toD r.T_.L)),(.int .i64 r.T_.From),(.int .i64 r.T_.To),(.int .i64 r.At),(.int .i64 r.E)])] []:=by
 unfold z0A at h;refine zH 1000 (v3u _ _ _ _ x) ?_;cases h;exact⟨rfl,rfl⟩
theorem z7p(m:zA)(locals:List zA)(t:zA)(a b:Int)(r:Ref16Got)(h:z1z m locals t a b=some r):Trip Tryz.prog 241 [.d (tT m),.d (.sl (List.map zA.toD locals)),.d (tT t),(nI a),(nI b)] [] [.d (.agg [(.int .i64 r.T_.K),(.int .i64 r.T_.N),(.str r.T_.S),(.sl (List.map zA.toD r.T_.L)),(.int .i64 r.T_.From),(.int .i64 r.T_.To),(.int .i64 r.At),(.int .i64 r.E)])] []:=by
 unfold z1z at h;refine zH 1000 (v3v _ _ _ _ m locals t a b) ?_;obtain⟨q1,g,h⟩:=zC h;refine⟨_,_,_,_,_,_,_,_,_,_,_,_,_,_,⟨_,z1S _ _ _ _ g⟩,?_⟩;rintro _ rfl;refine zD zq2 h (fun _ h=>?_) (fun _ h=>?_)
 ·obtain⟨q2,g,h⟩:=zC h;refine⟨_,⟨_,z3C _ _ _ g⟩,?_⟩;refine zG Iff.rfl h (fun _ h=>?_) (fun _ h=>?_)
  ·obtain⟨q6,g,h⟩:=zC h;refine⟨_,_,_,_,_,_,_,_,⟨_,z2O _ _ g⟩,?_⟩;cases h;exact⟨rfl,rfl⟩
  obtain⟨q3,g,h⟩:=zC h;refine⟨_,⟨_,z3C _ _ _ g⟩,?_⟩;refine zG Iff.rfl h (fun _ h=>?_) (fun _ h=>?_)
  ·obtain⟨q5,g,h⟩:=zC h;refine⟨_,_,_,_,_,_,_,_,⟨_,z2O _ _ g⟩,?_⟩;cases h;exact⟨rfl,rfl⟩
  obtain⟨q4,g,h⟩:=zC h;refine⟨_,_,_,_,_,_,_,_,⟨_,vX _ _ _ g⟩,?_⟩;cases h;exact⟨rfl,rfl⟩
 obtain⟨q7,g,h⟩:=zC h;refine⟨_,_,_,_,_,_,_,_,⟨_,z2O _ _ g⟩,?_⟩;cases h;exact⟨rfl,rfl⟩
def y2O:(i:wJ)→z8H i→Prop
 |.yX m locals ret t,r=>Trip Tryz.prog 192 [.d (tT m),.d (.sl (List.map zA.toD locals)),.d (tT ret),.d (tT t)] [] [.d (.agg [(.int .i64 r.T_.K),(.int .i64 r.T_.N),(.str r.T_.S),(.sl (List.map zA.toD r.T_.L)),(.int .i64 r.T_.From),(.int .i64 r.T_.To),(.int .i64 r.At),(.int .i64 r.E)])] []
 |.yV locals i m ret t o8 K N S L From To,r=>Ok (z8X (Trip Tryz.prog) [.d (.agg [(.int .i64 r.T_.K),(.int .i64 r.T_.N),(.str r.T_.S),(.sl (List.map zA.toD r.T_.L)),(.int .i64 r.T_.From),(.int .i64 r.T_.To),(.int .i64 r.At),(.int .i64 r.E)])] []) (kL Tryz.f192 3) ⟨55,[(1,.d (.sl (List.map zA.toD locals))),(4,.ref 4 1 0),(6,.ref 6 1 0),(7,.ref 7 1 0),(8,.ref 8 1 0),(9,.hp 0 0),(10,(nI i))],[(4,1,some (.agg (tT m))),(6,1,some (.agg (tT ret))),(7,1,some (.agg (tT t))),(8,1,some (.agg (.agg [(.int .i64 o8.T_.K),(.int .i64 o8.T_.N),(.str o8.T_.S),(.sl (List.map zA.toD o8.T_.L)),(.int .i64 o8.T_.From),(.int .i64 o8.T_.To),(.int .i64 o8.At),(.int .i64 o8.E)])))],[(hM K N S (List.map zA.toD L) From To)],0⟩
 |.gR m locals ret t,r=>Trip Tryz.prog 129 [.d (tT m),.d (.sl (List.map zA.toD locals)),.d (tT ret),.d (tT t)] [] [.d (.agg [(.int .i64 r.T_.K),(.int .i64 r.T_.N),(.str r.T_.S),(.sl (List.map zA.toD r.T_.L)),(.int .i64 r.T_.From),(.int .i64 r.T_.To),(.int .i64 r.At),(.int .i64 r.E)])] []
 |.yM locals i m ret t o8 K N S L From To,r=>Ok (y0O (Trip Tryz.prog) [.d (.agg [(.int .i64 r.T_.K),(.int .i64 r.T_.N),(.str r.T_.S),(.sl (List.map zA.toD r.T_.L)),(.int .i64 r.T_.From),(.int .i64 r.T_.To),(.int .i64 r.At),(.int .i64 r.E)])] []) (kL Tryz.f129 7) ⟨99,[(1,.d (.sl (List.map zA.toD locals))),(4,.ref 4 1 0),(6,.ref 6 1 0),(7,.ref 7 1 0),(8,.ref 8 1 0),(9,.hp 0 0),(10,(nI i))],[(4,1,some (.agg (tT m))),(6,1,some (.agg (tT ret))),(7,1,some (.agg (tT t))),(8,1,some (.agg (.agg [(.int .i64 o8.T_.K),(.int .i64 o8.T_.N),(.str o8.T_.S),(.sl (List.map zA.toD o8.T_.L)),(.int .i64 o8.T_.From),(.int .i64 o8.T_.To),(.int .i64 o8.At),(.int .i64 o8.E)])))],[(hM K N S (List.map zA.toD L) From To)],0⟩
 |.jT m locals ret t i,r=>Trip Tryz.prog 193 [.d (tT m),.d (.sl (List.map zA.toD locals)),.d (tT ret),.d (tT t),(nI i)] [] [.d (.agg [(.int .i64 r.T_.K),(.int .i64 r.T_.N),(.str r.T_.S),(.sl (List.map zA.toD r.T_.L)),(.int .i64 r.T_.From),(.int .i64 r.T_.To),(.int .i64 r.At),(.int .i64 r.E)])] []
theorem y9J:∀i r,uV jO i=some r→y2O i r:=by
 refine zP z2U fun g ih i=>?_;cases i with
 |yX m locals ret t=>
  have w2c:=fun locals i m ret t o8 K N S L From To r h=>ih (.yV locals i m ret t o8 K N S L From To) r h;intro r h;replace h:z3h (fun locals i m ret t o8 K N S L From To=>g (wJ.yV locals i m ret t o8 K N S L From To)) m locals ret t=some r:=h;unfold z3h at h;refine zH 1000 (v0Q _ _ _ _ m locals ret t) ?_;exact w2c _ _ _ _ _ _ _ _ _ _ _ _ _ h
 |yV locals i m ret t o8 K N S L From To=>
  have w2c:=fun locals i m ret t o8 K N S L From To r h=>ih (.yV locals i m ret t o8 K N S L From To) r h;have w2j:=fun m locals ret t r h=>ih (.gR m locals ret t) r h;intro r h;replace h:z0n (fun locals i m ret t o8 K N S L From To=>g (wJ.yV locals i m ret t o8 K N S L From To)) (fun m locals ret t=>g (wJ.gR m locals ret t)) locals i m ret t o8 K N S L From To=some r:=h;unfold z0n at h;refine jN 1000 (y5r _ _ _ _ locals i m ret t o8 K N S L From To) ?_
  refine zU (e':=(List.length t.L:Int)) (by first|rfl|rw[zq3]) ?_;rintro _ rfl;refine zD decide_eq_true_iff h (fun _ h=>?_) (fun _ h=>?_)
  ·obtain⟨x,hx,h⟩:=zC h;refine⟨zF (l:=t.L) (zA.sz),vO hx,x.K,x.N,x.S,List.map zA.toD x.L,x.From,x.To,zL (zA.toD_eq x) hx,?_⟩;obtain⟨q1,g,h⟩:=zC h;refine⟨_,_,_,_,_,_,_,_,⟨_,w2j _ _ _ _ _ g⟩,?_⟩;rintro _ rfl;refine zG zq2 h (fun _ h=>?_) (fun _ h=>?_)
   ·refine⟨by simp[zE,D.cells],?_⟩;refine⟨by first|rfl|decide|simp only[zq3,List.length_cons,List.length_nil,List.map_append,List.length_append],?_⟩;obtain⟨hP,h⟩:=uN h;refine⟨by first|exact hP|simpa using hP,?_⟩;refine zU (e':=List.map zA.toD (L++[q1.T_])) (by first|rfl|simp only[List.map_append,List.map_cons,List.map_nil,List.map_take,List.map_drop,List.map_set,List.map_replicate,zq3,zA.toD_eq]) ?_
    refine⟨by first|rfl|decide|simp only[zq3,List.length_cons,List.length_nil,List.map_append,List.length_append],?_⟩;obtain⟨x1,hx,h⟩:=zC h;refine⟨zF (l:=t.L) (zA.sz),vO hx,x1.K,x1.N,x1.S,List.map zA.toD x1.L,x1.From,x1.To,zL (zA.toD_eq x1) hx,?_⟩;obtain⟨q2,g,h⟩:=zC h;refine⟨_,⟨_,y8b _ _ _ _ g⟩,?_⟩;rintro _ rfl;exact w2c _ _ _ _ _ _ _ _ _ _ _ _ _ h
   cases h;exact⟨rfl,rfl⟩
  cases h;exact⟨rfl,rfl⟩
 |gR m locals ret t=>
  have w2b:=fun m locals ret t r h=>ih (.yX m locals ret t) r h;have w2k:=fun locals i m ret t o8 K N S L From To r h=>ih (.yM locals i m ret t o8 K N S L From To) r h;intro r h;replace h:z4p (fun m locals ret t=>g (wJ.yX m locals ret t)) (fun locals i m ret t o8 K N S L From To=>g (wJ.yM locals i m ret t o8 K N S L From To)) m locals ret t=some r:=h;unfold z4p at h;refine zH 1000 (v3x _ _ _ _ m locals ret t) ?_;obtain⟨q1,g,h⟩:=zC h;refine⟨_,⟨_,y9V _ _ g⟩,?_⟩
  refine zG Iff.rfl h (fun _ h=>?_) (fun _ h=>?_)
  ·rintro _ rfl;refine zD zq2 h (fun _ h=>?_) (fun _ h=>?_)
   ·obtain⟨q3,g,h⟩:=zC h;refine⟨_,_,_,_,_,_,_,_,⟨_,w2b _ _ _ _ _ g⟩,?_⟩;cases h;exact⟨rfl,rfl⟩
   exact w2k _ _ _ _ _ _ _ _ _ _ _ _ _ h
  obtain⟨q2,g,h⟩:=zC h;refine⟨_,_,_,_,_,_,_,_,⟨_,vX _ _ _ g⟩,?_⟩;cases h;exact⟨rfl,rfl⟩
 |yM locals i m ret t o8 K N S L From To=>
  have w2k:=fun locals i m ret t o8 K N S L From To r h=>ih (.yM locals i m ret t o8 K N S L From To) r h;have w2g:=fun m locals ret t i r h=>ih (.jT m locals ret t i) r h;intro r h;replace h:z0a (fun locals i m ret t o8 K N S L From To=>g (wJ.yM locals i m ret t o8 K N S L From To)) (fun m locals ret t i=>g (wJ.jT m locals ret t i)) locals i m ret t o8 K N S L From To=some r:=h;unfold z0a at h;refine jN 1000 (y6P _ _ _ _ locals i m ret t o8 K N S L From To) ?_
  refine zU (e':=(List.length t.L:Int)) (by first|rfl|rw[zq3]) ?_;rintro _ rfl;refine zD decide_eq_true_iff h (fun _ h=>?_) (fun _ h=>?_)
  ·obtain⟨q1,g,h⟩:=zC h;refine⟨_,_,_,_,_,_,_,_,⟨_,w2g _ _ _ _ _ _ g⟩,?_⟩;rintro _ rfl;refine zG zq2 h (fun _ h=>?_) (fun _ h=>?_)
   ·refine⟨by simp[zE,D.cells],?_⟩;refine⟨by first|rfl|decide|simp only[zq3,List.length_cons,List.length_nil,List.map_append,List.length_append],?_⟩;obtain⟨hP,h⟩:=uN h;refine⟨by first|exact hP|simpa using hP,?_⟩;refine zU (e':=List.map zA.toD (L++[q1.T_])) (by first|rfl|simp only[List.map_append,List.map_cons,List.map_nil,List.map_take,List.map_drop,List.map_set,List.map_replicate,zq3,zA.toD_eq]) ?_
    refine⟨by first|rfl|decide|simp only[zq3,List.length_cons,List.length_nil,List.map_append,List.length_append],?_⟩;rintro _ rfl;exact w2k _ _ _ _ _ _ _ _ _ _ _ _ _ h
   cases h;exact⟨rfl,rfl⟩
  rintro _ rfl;refine zD zq2 h (fun _ h=>?_) (fun _ h=>?_)
  ·obtain⟨x,hx,h⟩:=zC h;refine⟨zF (l:=t.L) (zA.sz),vO hx,x.K,x.N,x.S,List.map zA.toD x.L,x.From,x.To,zL (zA.toD_eq x) hx,?_⟩;obtain⟨q2,g,h⟩:=zC h;refine⟨_,_,_,_,_,_,⟨_,v2v _ _ g⟩,?_⟩;rintro _ rfl;refine zG zq2 h (fun _ h=>?_) (fun _ h=>?_)
   ·obtain⟨x4,hx,h⟩:=zC h;refine⟨zF (l:=t.L) (zA.sz),vO hx,x4.K,x4.N,x4.S,List.map zA.toD x4.L,x4.From,x4.To,zL (zA.toD_eq x4) hx,?_⟩;obtain⟨q8,g,h⟩:=zC h;refine⟨_,_,_,_,_,_,_,_,_,_,_,_,_,_,⟨_,z1S _ _ _ _ g⟩,?_⟩;obtain⟨x5,hx,h⟩:=zC h;refine⟨zF (l:=t.L) (zA.sz),vO hx,x5.K,x5.N,x5.S,List.map zA.toD x5.L,x5.From,x5.To,zL (zA.toD_eq x5) hx,?_⟩;obtain⟨q9,g,h⟩:=zC h;refine⟨_,_,_,_,_,_,_,_,_,_,_,_,_,_,⟨_,z1S _ _ _ _ g⟩,?_⟩;obtain⟨q10,g,h⟩:=zC h;refine⟨_,⟨_,z4c _ _ _ g⟩,?_⟩
    refine zG Iff.rfl h (fun _ h=>?_) (fun _ h=>?_)
    ·cases h;exact⟨rfl,rfl⟩
    obtain⟨q11,g,h⟩:=zC h;refine⟨_,_,_,_,_,_,_,_,⟨_,vX _ _ _ g⟩,?_⟩;cases h;exact⟨rfl,rfl⟩
   rintro _ rfl;refine zG zq2 h (fun _ h=>?_) (fun _ h=>?_)
   ·obtain⟨x2,hx,h⟩:=zC h;refine⟨zF (l:=t.L) (zA.sz),vO hx,x2.K,x2.N,x2.S,List.map zA.toD x2.L,x2.From,x2.To,zL (zA.toD_eq x2) hx,?_⟩;obtain⟨q4,g,h⟩:=zC h;refine⟨_,_,_,_,_,_,_,_,_,_,_,_,_,_,⟨_,z1S _ _ _ _ g⟩,?_⟩;obtain⟨x3,hx,h⟩:=zC h;refine⟨zF (l:=t.L) (zA.sz),vO hx,x3.K,x3.N,x3.S,List.map zA.toD x3.L,x3.From,x3.To,zL (zA.toD_eq x3) hx,?_⟩;obtain⟨q5,g,h⟩:=zC h;refine⟨_,_,_,_,_,_,_,_,_,_,_,_,_,_,⟨_,z1S _ _ _ _ g⟩,?_⟩;obtain⟨q6,g,h⟩:=zC h;refine⟨_,⟨_,z4c _ _ _ g⟩,?_⟩
    refine zG Iff.rfl h (fun _ h=>?_) (fun _ h=>?_)
    ·cases h;exact⟨rfl,rfl⟩
    obtain⟨q7,g,h⟩:=zC h;refine⟨_,_,_,_,_,_,_,_,⟨_,vX _ _ _ g⟩,?_⟩;cases h;exact⟨rfl,rfl⟩
   obtain⟨x1,hx,h⟩:=zC h;refine⟨zF (l:=t.L) (zA.sz),vO hx,x1.K,x1.N,x1.S,List.map zA.toD x1.L,x1.From,x1.To,zL (zA.toD_eq x1) hx,?_⟩;obtain⟨q3,g,h⟩:=zC h;refine⟨_,_,_,_,_,_,_,_,⟨_,vX _ _ _ g⟩,?_⟩;cases h;exact⟨rfl,rfl⟩
  cases h;exact⟨rfl,rfl⟩
 |jT m locals ret t i=>
  have w2b:=fun m locals ret t r h=>ih (.yX m locals ret t) r h;intro r h;replace h:z4o (fun m locals ret t=>g (wJ.yX m locals ret t)) m locals ret t i=some r:=h;unfold z4o at h;refine zH 1000 (v3w _ _ _ _ m locals ret t i) ?_;obtain⟨x,hx,h⟩:=zC h;refine⟨zF (l:=t.L) (zA.sz),vO hx,x.K,x.N,x.S,List.map zA.toD x.L,x.From,x.To,zL (zA.toD_eq x) hx,?_⟩;obtain⟨q1,g,h⟩:=zC h;refine⟨_,_,⟨_,y2U _ _ g⟩,?_⟩;rintro _ rfl;rintro _ rfl;refine zD decide_eq_true_iff h (fun _ h=>?_) (fun _ h=>?_)
  ·rintro _ rfl;refine zD zq2 h (fun _ h=>?_) (fun _ h=>?_)
   ·refine⟨zF (l:=locals) (zA.sz),?_⟩;refine⟨by first|rfl|decide|simp only[zq3,List.length_cons,List.length_nil,List.map_append,List.length_append],?_⟩;obtain⟨hP,h⟩:=uN h;refine⟨by first|exact hP|simpa using hP,?_⟩;refine zU (e':=List.map zA.toD (([]:List zA)++locals)) (by first|rfl|simp only[List.map_append,List.map_cons,List.map_nil,List.map_take,List.map_drop,List.map_set,List.map_replicate,zq3,zA.toD_eq]) ?_;refine⟨by simp[zE,D.cells],?_⟩
    refine⟨by first|rfl|decide|simp only[zq3,List.length_cons,List.length_nil,List.map_append,List.length_append],?_⟩;obtain⟨hP,h⟩:=uN h;refine⟨by first|exact hP|simpa using hP,?_⟩;refine zU (e':=List.map zA.toD ((([]:List zA)++locals)++[(zA.mk 1 0 [] [] 0 0)])) (by first|rfl|simp only[List.map_append,List.map_cons,List.map_nil,List.map_take,List.map_drop,List.map_set,List.map_replicate,zq3,zA.toD_eq]) ?_;obtain⟨q2,g,h⟩:=zC h;refine⟨_,_,_,_,_,_,_,_,⟨_,w2b _ _ _ _ _ g⟩,?_⟩;cases h;exact⟨rfl,rfl⟩
   obtain⟨q3,g,h⟩:=zC h;refine⟨_,_,_,_,_,_,_,_,⟨_,w2b _ _ _ _ _ g⟩,?_⟩;cases h;exact⟨rfl,rfl⟩
  rintro _ rfl;refine zD zq2 h (fun _ h=>?_) (fun _ h=>?_)
  ·obtain⟨q4,g,h⟩:=zC h;refine⟨_,⟨_,z1f _ _ _ g⟩,?_⟩;rintro _ rfl;refine zD zq2 h (fun _ h=>?_) (fun _ h=>?_)
   ·obtain⟨q5,g,h⟩:=zC h;refine⟨_,_,_,_,_,_,_,_,⟨_,vX _ _ _ g⟩,?_⟩;cases h;exact⟨rfl,rfl⟩
   obtain⟨q6,g,h⟩:=zC h;refine⟨_,_,_,_,_,_,⟨_,z0e _ _ g⟩,?_⟩;cases h;exact⟨rfl,rfl⟩
  rintro _ rfl;refine zD zq2 h (fun _ h=>?_) (fun _ h=>?_)
  ·obtain⟨q7,g,h⟩:=zC h;refine⟨_,_,_,_,_,_,_,_,⟨_,z7p _ _ _ _ _ _ g⟩,?_⟩;cases h;exact⟨rfl,rfl⟩
  rintro _ rfl;refine zD zq2 h (fun _ h=>?_) (fun _ h=>?_)
  ·obtain⟨q8,g,h⟩:=zC h;refine⟨_,_,_,_,_,_,_,_,⟨_,z7p _ _ _ _ _ _ g⟩,?_⟩;cases h;exact⟨rfl,rfl⟩
  rintro _ rfl;refine zD zq2 h (fun _ h=>?_) (fun _ h=>?_)
  ·obtain⟨q9,g,h⟩:=zC h;refine⟨_,_,_,_,_,_,_,_,⟨_,z7p _ _ _ _ _ _ g⟩,?_⟩;cases h;exact⟨rfl,rfl⟩
  rintro _ rfl;refine zD zq2 h (fun _ h=>?_) (fun _ h=>?_)
  ·obtain⟨q10,g,h⟩:=zC h;refine⟨_,_,_,_,_,_,_,_,⟨_,z7p _ _ _ _ _ _ g⟩,?_⟩;cases h;exact⟨rfl,rfl⟩
  rintro _ rfl;refine zD zq2 h (fun hc324 h=>?_) (fun hc324 h=>?_)
  ·rintro _ rfl;refine zG zq2 h (fun _ h=>?_) (fun _ h=>?_)
   ·obtain⟨q12,g,h⟩:=zC h;refine⟨_,_,_,_,_,_,_,_,_,_,_,_,_,_,⟨_,z1S _ _ _ _ g⟩,?_⟩;rintro _ rfl;refine uC zq2 (fun e=>absurd (hc324.symm.trans e) (by decide)) ?_;obtain⟨q18,g,h⟩:=zC h;refine⟨_,_,_,_,_,_,_,_,⟨_,z2O _ _ g⟩,?_⟩;cases h;exact⟨rfl,rfl⟩
   obtain⟨q11,g,h⟩:=zC h;refine⟨_,_,_,_,_,_,_,_,⟨_,vX _ _ _ g⟩,?_⟩;cases h;exact⟨rfl,rfl⟩
  obtain⟨q19,g,h⟩:=zC h;refine⟨_,_,_,_,_,_,_,_,_,_,_,_,_,_,⟨_,z1S _ _ _ _ g⟩,?_⟩;rintro _ rfl;refine zD zq2 h (fun _ h=>?_) (fun _ h=>?_)
  ·rintro _ rfl;refine zD zq2 h (fun _ h=>?_) (fun _ h=>?_)
   ·obtain⟨q20,g,h⟩:=zC h;refine⟨_,_,_,_,_,_,⟨_,z4b _ _ g⟩,?_⟩;obtain⟨q21,g,h⟩:=zC h;refine⟨_,⟨_,z4c _ _ _ g⟩,?_⟩;refine zG Iff.rfl h (fun _ h=>?_) (fun _ h=>?_)
    ·obtain⟨q23,g,h⟩:=zC h;refine⟨_,_,_,_,_,_,_,_,⟨_,z2O _ _ g⟩,?_⟩;cases h;exact⟨rfl,rfl⟩
    obtain⟨q22,g,h⟩:=zC h;refine⟨_,_,_,_,_,_,_,_,⟨_,vX _ _ _ g⟩,?_⟩;cases h;exact⟨rfl,rfl⟩
   obtain⟨q24,g,h⟩:=zC h;refine⟨_,_,_,_,_,_,_,_,⟨_,z2O _ _ g⟩,?_⟩;cases h;exact⟨rfl,rfl⟩
  obtain⟨q25,g,h⟩:=zC h;refine⟨_,_,_,_,_,_,_,_,⟨_,z2O _ _ g⟩,?_⟩;cases h;exact⟨rfl,rfl⟩
theorem y9U(m:zA)(locals:List zA)(ret t:zA)(r:Ref16Got)(h:yX m locals ret t=some r):y2O (.yX m locals ret t) r:=y9J (.yX m locals ret t) r h
def z8A:(i:z3x)→z5D i→Prop
 |.vI out i f,r=>Ok (z9a (Trip Tryz.prog) [.own 6 (List.map zA.toD r)] []) (kL Tryz.f234 3) ⟨31,[(1,.ref 1 1 0),(3,.right 5 1 6 (List.map zA.toD out)),(4,(nI i))],[(1,1,some (.agg (tT f))),(5,1,some (.tok 6 (List.length (List.map zA.toD out))))],[],0⟩
theorem y4i:∀i r,uV z3q i=some r→z8A i r:=by
 refine zP z8r fun g ih i=>?_;cases i with
 |vI out i f=>
  have w2l:=fun out i f r h=>ih (.vI out i f) r h;intro r h;replace h:z0p (fun out i f=>g (z3x.vI out i f)) out i f=some r:=h;unfold z0p at h;refine jN 1000 (y5t _ _ _ _ out i f) ?_;obtain⟨x,hx,h⟩:=zC h;refine⟨zF (l:=f.L) (zA.sz),vO hx,x.K,x.N,x.S,List.map zA.toD x.L,x.From,x.To,zL (zA.toD_eq x) hx,?_⟩;refine zU (e':=(List.length x.L:Int)) (by first|rfl|rw[zq3]) ?_;rintro _ rfl;refine zD decide_eq_true_iff h (fun _ h=>?_) (fun _ h=>?_)
  ·obtain⟨x1,hx,h⟩:=zC h;refine⟨zF (l:=f.L) (zA.sz),vO hx,x1.K,x1.N,x1.S,List.map zA.toD x1.L,x1.From,x1.To,zL (zA.toD_eq x1) hx,?_⟩;obtain⟨x2,hx,h⟩:=zC h;refine⟨zF (l:=x1.L) (zA.sz),vO hx,x2.K,x2.N,x2.S,List.map zA.toD x2.L,x2.From,x2.To,zL (zA.toD_eq x2) hx,?_⟩;obtain⟨x3,hx,h⟩:=zC h;refine⟨zF (l:=x2.L) (zA.sz),vO hx,x3.K,x3.N,x3.S,List.map zA.toD x3.L,x3.From,x3.To,zL (zA.toD_eq x3) hx,?_⟩;refine⟨by simp[zE,D.cells],?_⟩
   refine⟨by first|rfl|decide|simp only[zq3,List.length_cons,List.length_nil,List.map_append,List.length_append],?_⟩;obtain⟨hP,h⟩:=uN h;refine⟨by first|exact hP|simpa using hP,?_⟩;refine zU (e':=List.map zA.toD (out++[x3])) (by first|rfl|simp only[List.map_append,List.map_cons,List.map_nil,List.map_take,List.map_drop,List.map_set,List.map_replicate,zq3,zA.toD_eq]) ?_;rintro _ rfl;exact w2l _ _ _ _ h
  refine⟨by first|rfl|decide|simp only[zq3,List.length_cons,List.length_nil,List.map_append,List.length_append],?_⟩;cases h;exact⟨rfl,rfl⟩
theorem y4H(out:List zA)(i:Int)(f:zA)(r:List zA)(h:vI out i f=some r):z8A (.vI out i f) r:=y4i (.vI out i f) r h
theorem z8N(f:zA)(r:List zA)(h:z3i f=some r):Trip Tryz.prog 234 [.d (tT f)] [] [.own 6 (List.map zA.toD r)] []:=by
 unfold z3i at h;refine zH 1000 (v0V _ _ _ _ f) ?_;exact y4H _ _ _ _ h
def y1j:(i:z5i)→z7m i→Prop
 |.wH all i m t o4,r=>Ok (z8Y (Trip Tryz.prog) [.d (.agg [(.int .i64 r.T_.K),(.int .i64 r.T_.N),(.str r.T_.S),(.sl (List.map zA.toD r.T_.L)),(.int .i64 r.T_.From),(.int .i64 r.T_.To),(.int .i64 r.At),(.int .i64 r.E)])] []) (kL Tryz.f178 10) ⟨125,[(2,.ref 2 1 0),(3,.ref 3 1 0),(4,.ref 4 1 0),(5,.right 52 1 6 (List.map zA.toD all)),(7,(nI i))],[(2,1,some (.agg (tT m))),(3,1,some (.agg (tT t))),(4,1,some (.agg (.agg [(.int .i64 o4.T_.K),(.int .i64 o4.T_.N),(.str o4.T_.S),(.sl (List.map zA.toD o4.T_.L)),(.int .i64 o4.T_.From),(.int .i64 o4.T_.To),(.int .i64 o4.At),(.int .i64 o4.E)]))),(52,1,some (.tok 6 (List.length (List.map zA.toD all))))],[],0⟩
theorem y7S:∀i r,uV z5f i=some r→y1j i r:=by
 refine zP y1e fun g ih i=>?_;cases i with
 |wH all i m t o4=>
  have w2d:=fun all i m t o4 r h=>ih (.wH all i m t o4) r h;intro r h;replace h:z1r (fun all i m t o4=>g (z5i.wH all i m t o4)) all i m t o4=some r:=h;unfold z1r at h;refine jN 1000 (y8I _ _ _ _ all i m t o4) ?_;refine zU (e':=(List.length all:Int)) (by first|rfl|rw[zq3]) ?_;rintro _ rfl;refine zD decide_eq_true_iff h (fun _ h=>?_) (fun _ h=>?_)
  ·rintro _ rfl;refine zD zq2 h (fun _ h=>?_) (fun _ h=>?_)
   ·obtain⟨x,hx,h⟩:=zC h;refine⟨zF (l:=all) (zA.sz),vO hx,x.K,x.N,x.S,List.map zA.toD x.L,x.From,x.To,zL (zA.toD_eq x) hx,?_⟩;obtain⟨q1,g,h⟩:=zC h;refine⟨_,⟨_,y9Q _ _ _ g⟩,?_⟩;refine zG Iff.rfl h (fun _ h=>?_) (fun _ h=>?_)
    ·rintro _ rfl;exact w2d _ _ _ _ _ _ h
    obtain⟨x1,hx,h⟩:=zC h;refine⟨zF (l:=all) (zA.sz),vO hx,x1.K,x1.N,x1.S,List.map zA.toD x1.L,x1.From,x1.To,zL (zA.toD_eq x1) hx,?_⟩;obtain⟨q2,g,h⟩:=zC h;refine⟨_,_,_,_,_,_,_,_,⟨_,vX _ _ _ g⟩,?_⟩;cases h;exact⟨rfl,rfl⟩
   rintro _ rfl;exact w2d _ _ _ _ _ _ h
  obtain⟨q3,g,h⟩:=zC h;refine⟨_,⟨_,z8N _ _ g⟩,?_⟩;obtain⟨x2,hx,h⟩:=zC h;refine⟨zF (l:=t.L) (zA.sz),vO hx,x2.K,x2.N,x2.S,List.map zA.toD x2.L,x2.From,x2.To,zL (zA.toD_eq x2) hx,?_⟩;obtain⟨x3,hx,h⟩:=zC h;refine⟨zF (l:=t.L) (zA.sz),vO hx,x3.K,x3.N,x3.S,List.map zA.toD x3.L,x3.From,x3.To,zL (zA.toD_eq x3) hx,?_⟩;obtain⟨q4,g,h⟩:=zC h;refine⟨_,_,_,_,_,_,_,_,⟨_,y9U _ _ _ _ _ g⟩,?_⟩;rintro _ rfl;refine zG zq2 h (fun _ h=>?_) (fun _ h=>?_)
  ·obtain⟨q5,g,h⟩:=zC h;refine⟨_,_,_,_,_,_,⟨_,y2d _ _ g⟩,?_⟩;obtain⟨hP,h⟩:=uN h;refine⟨hP.1,by first|exact hP.2|(simp only[zq3]at hP ⊢;exact hP.2),?_⟩;obtain⟨hP,h⟩:=uN h;refine⟨by first|exact hP|(rw[zq3];exact hP),?_⟩;refine zU (e':=List.map zA.toD (q5.L.set (Int.toNat 2) q4.T_)) (w0Q (zA.toD_eq q4.T_)) ?_;cases h;exact⟨rfl,rfl⟩
  cases h;exact⟨rfl,rfl⟩
theorem y8c(all:List zA)(i:Int)(m t:zA)(o4 r:Ref16Got)(h:wH all i m t o4=some r):y1j (.wH all i m t o4) r:=y7S (.wH all i m t o4) r h
def y2P:(i:z6e)→z8I i→Prop
 |.wY all i m t o4,r=>Ok (z8Y (Trip Tryz.prog) [.d (.agg [(.int .i64 r.T_.K),(.int .i64 r.T_.N),(.str r.T_.S),(.sl (List.map zA.toD r.T_.L)),(.int .i64 r.T_.From),(.int .i64 r.T_.To),(.int .i64 r.At),(.int .i64 r.E)])] []) (kL Tryz.f178 5) ⟨125,[(2,.ref 2 1 0),(3,.ref 3 1 0),(4,.ref 4 1 0),(5,.right 52 1 6 (List.map zA.toD all)),(6,(nI i))],[(2,1,some (.agg (tT m))),(3,1,some (.agg (tT t))),(4,1,some (.agg (.agg [(.int .i64 o4.T_.K),(.int .i64 o4.T_.N),(.str o4.T_.S),(.sl (List.map zA.toD o4.T_.L)),(.int .i64 o4.T_.From),(.int .i64 o4.T_.To),(.int .i64 o4.At),(.int .i64 o4.E)]))),(52,1,some (.tok 6 (List.length (List.map zA.toD all))))],[],0⟩
theorem y9K:∀i r,uV z6d i=some r→y2P i r:=by
 refine zP y2L fun g ih i=>?_;cases i with
 |wY all i m t o4=>
  have w2e:=fun all i m t o4 r h=>ih (.wY all i m t o4) r h;intro r h;replace h:z1Y (fun all i m t o4=>g (z6e.wY all i m t o4)) all i m t o4=some r:=h;unfold z1Y at h;refine jN 1000 (v0R _ _ _ _ all i m t o4) ?_;refine zU (e':=(List.length all:Int)) (by first|rfl|rw[zq3]) ?_;rintro _ rfl;refine zD decide_eq_true_iff h (fun _ h=>?_) (fun _ h=>?_)
  ·obtain⟨x,hx,h⟩:=zC h;refine⟨zF (l:=all) (zA.sz),vO hx,x.K,x.N,x.S,List.map zA.toD x.L,x.From,x.To,zL (zA.toD_eq x) hx,?_⟩;obtain⟨q1,g,h⟩:=zC h;refine⟨_,⟨_,z1f _ _ _ g⟩,?_⟩;rintro _ rfl;refine zD zq2 h (fun _ h=>?_) (fun _ h=>?_)
   ·obtain⟨x1,hx,h⟩:=zC h;refine⟨zF (l:=all) (zA.sz),vO hx,x1.K,x1.N,x1.S,List.map zA.toD x1.L,x1.From,x1.To,zL (zA.toD_eq x1) hx,?_⟩;obtain⟨q2,g,h⟩:=zC h;refine⟨_,_,_,_,_,_,_,_,⟨_,vX _ _ _ g⟩,?_⟩;cases h;exact⟨rfl,rfl⟩
   rintro _ rfl;exact w2e _ _ _ _ _ _ h
  exact y8c _ _ _ _ _ _ h
theorem y2T(all:List zA)(i:Int)(m t:zA)(o4 r:Ref16Got)(h:wY all i m t o4=some r):y2P (.wY all i m t o4) r:=y9K (.wY all i m t o4) r h
def z7Y:(i:z2J)→z4U i→Prop
 |.yR l i,r=>Ok (z7u (Trip Tryz.prog) [(nB r)] []) (kL Tryz.f233 2) ⟨25,[(0,.d (.sl (List.map zA.toD l))),(3,(nI i))],[],[],0⟩
theorem y3o:∀i r,uV z2C i=some r→z7Y i r:=by
 refine zP z7Q fun g ih i=>?_;cases i with
 |yR l i=>
  have w2h:=fun l i r h=>ih (.yR l i) r h;intro r h;replace h:gL (fun l i=>g (z2J.yR l i)) l i=some r:=h;unfold gL at h;refine jN 1000 (y3J _ _ _ _ l i) ?_;refine zU (e':=(List.length l:Int)) (by first|rfl|rw[zq3]) ?_;rintro _ rfl;refine zD decide_eq_true_iff h (fun _ h=>?_) (fun _ h=>?_)
  ·obtain⟨x,hx,h⟩:=zC h;refine⟨zF (l:=l) (zA.sz),vO hx,x.K,x.N,x.S,List.map zA.toD x.L,x.From,x.To,zL (zA.toD_eq x) hx,?_⟩;rintro _ rfl;refine zG zq2 h (fun _ h=>?_) (fun _ h=>?_)
   ·obtain⟨x1,hx,h⟩:=zC h;refine⟨zF (l:=l) (zA.sz),vO hx,x1.K,x1.N,x1.S,List.map zA.toD x1.L,x1.From,x1.To,zL (zA.toD_eq x1) hx,?_⟩;refine zU (e':=(List.length x1.L:Int)) (by first|rfl|rw[zq3]) ?_;rintro _ rfl;refine zG zq2 h (fun _ h=>?_) (fun _ h=>?_)
    ·rintro _ rfl;exact w2h _ _ _ h
    cases h;exact⟨rfl,rfl⟩
   cases h;exact⟨rfl,rfl⟩
  cases h;exact⟨rfl,rfl⟩
theorem y3x(l:List zA)(i:Int)(r:Bool)(h:yR l i=some r):z7Y (.yR l i) r:=y3o (.yR l i) r h
theorem y1n(l:List zA)(r:Bool)(h:z2Q l=some r):Trip Tryz.prog 233 [.d (.sl (List.map zA.toD l))] [] [(nB r)] []:=by
 unfold z2Q at h;refine zH 1000 (y8K _ _ _ _ l) ?_;exact y3x _ _ _ h
theorem v6F(m t:zA)(r:Ref16Got)(h:y6c m t=some r):Trip Tryz.prog 178 [.d (tT m),.d (tT t)] [] [.d (.agg [(.int .i64 r.T_.K),(.int .i64 r.T_.N),(.str r.T_.S),(.sl (List.map zA.toD r.T_.L)),(.int .i64 r.T_.From),(.int .i64 r.T_.To),(.int .i64 r.At),(.int .i64 r.E)])] []:=by
 unfold y6c at h;refine zH 1000 (v6Q _ _ _ _ m t) ?_;rintro _ rfl;refine zG zq2 h (fun _ h=>?_) (fun _ h=>?_)
 ·refine zU (e':=(List.length t.L:Int)) (by first|rfl|rw[zq3]) ?_;rintro _ rfl;refine zG zq2 h (fun _ h=>?_) (fun _ h=>?_)
  ·obtain⟨x4,hx,h⟩:=zC h;refine⟨zF (l:=t.L) (zA.sz),vO hx,x4.K,x4.N,x4.S,List.map zA.toD x4.L,x4.From,x4.To,zL (zA.toD_eq x4) hx,?_⟩;rintro _ rfl;refine zG zq2 h (fun _ h=>?_) (fun _ h=>?_)
   ·obtain⟨x5,hx,h⟩:=zC h;refine⟨zF (l:=t.L) (zA.sz),vO hx,x5.K,x5.N,x5.S,List.map zA.toD x5.L,x5.From,x5.To,zL (zA.toD_eq x5) hx,?_⟩;obtain⟨q10,g,h⟩:=zC h;refine⟨_,⟨_,y1n _ _ g⟩,?_⟩;refine zG Iff.rfl h (fun _ h=>?_) (fun _ h=>?_)
    ·obtain⟨x6,hx,h⟩:=zC h;refine⟨zF (l:=t.L) (zA.sz),vO hx,x6.K,x6.N,x6.S,List.map zA.toD x6.L,x6.From,x6.To,zL (zA.toD_eq x6) hx,?_⟩;rintro _ rfl;refine zG zq2 h (fun _ h=>?_) (fun _ h=>?_)
     ·obtain⟨q13,g,h⟩:=zC h;refine⟨_,⟨_,z8N _ _ g⟩,?_⟩;obtain⟨x7,hx,h⟩:=zC h;refine⟨zF (l:=t.L) (zA.sz),vO hx,x7.K,x7.N,x7.S,List.map zA.toD x7.L,x7.From,x7.To,zL (zA.toD_eq x7) hx,?_⟩;refine⟨by simp[zE,D.cells],?_⟩;refine⟨by first|rfl|decide|simp only[zq3,List.length_cons,List.length_nil,List.map_append,List.length_append],?_⟩;obtain⟨hP,h⟩:=uN h;refine⟨by first|exact hP|simpa using hP,?_⟩
      refine zU (e':=List.map zA.toD (q13++[x7])) (by first|rfl|simp only[List.map_append,List.map_cons,List.map_nil,List.map_take,List.map_drop,List.map_set,List.map_replicate,zq3,zA.toD_eq]) ?_;exact y2T _ _ _ _ _ _ h
     obtain⟨q12,g,h⟩:=zC h;refine⟨_,_,_,_,_,_,_,_,⟨_,vX _ _ _ g⟩,?_⟩;cases h;exact⟨rfl,rfl⟩
    obtain⟨q11,g,h⟩:=zC h;refine⟨_,_,_,_,_,_,_,_,⟨_,vX _ _ _ g⟩,?_⟩;cases h;exact⟨rfl,rfl⟩
   obtain⟨q9,g,h⟩:=zC h;refine⟨_,_,_,_,_,_,_,_,⟨_,vX _ _ _ g⟩,?_⟩;cases h;exact⟨rfl,rfl⟩
  obtain⟨q8,g,h⟩:=zC h;refine⟨_,_,_,_,_,_,_,_,⟨_,vX _ _ _ g⟩,?_⟩;cases h;exact⟨rfl,rfl⟩
 rintro _ rfl;refine zG zq2 h (fun _ h=>?_) (fun _ h=>?_)
 ·refine zU (e':=(List.length t.L:Int)) (by first|rfl|rw[zq3]) ?_;rintro _ rfl;refine zG zq2 h (fun _ h=>?_) (fun _ h=>?_)
  ·obtain⟨x,hx,h⟩:=zC h;refine⟨zF (l:=t.L) (zA.sz),vO hx,x.K,x.N,x.S,List.map zA.toD x.L,x.From,x.To,zL (zA.toD_eq x) hx,?_⟩;rintro _ rfl;refine zG zq2 h (fun _ h=>?_) (fun _ h=>?_)
   ·obtain⟨x1,hx,h⟩:=zC h;refine⟨zF (l:=t.L) (zA.sz),vO hx,x1.K,x1.N,x1.S,List.map zA.toD x1.L,x1.From,x1.To,zL (zA.toD_eq x1) hx,?_⟩;obtain⟨q4,g,h⟩:=zC h;refine⟨_,⟨_,y1n _ _ g⟩,?_⟩;refine zG Iff.rfl h (fun _ h=>?_) (fun _ h=>?_)
    ·obtain⟨x2,hx,h⟩:=zC h;refine⟨zF (l:=t.L) (zA.sz),vO hx,x2.K,x2.N,x2.S,List.map zA.toD x2.L,x2.From,x2.To,zL (zA.toD_eq x2) hx,?_⟩;rintro _ rfl;refine zG zq2 h (fun _ h=>?_) (fun _ h=>?_)
     ·obtain⟨q7,g,h⟩:=zC h;refine⟨_,⟨_,z8N _ _ g⟩,?_⟩;obtain⟨x3,hx,h⟩:=zC h;refine⟨zF (l:=t.L) (zA.sz),vO hx,x3.K,x3.N,x3.S,List.map zA.toD x3.L,x3.From,x3.To,zL (zA.toD_eq x3) hx,?_⟩;refine⟨by simp[zE,D.cells],?_⟩;refine⟨by first|rfl|decide|simp only[zq3,List.length_cons,List.length_nil,List.map_append,List.length_append],?_⟩;obtain⟨hP,h⟩:=uN h;refine⟨by first|exact hP|simpa using hP,?_⟩
      refine zU (e':=List.map zA.toD (q7++[x3])) (by first|rfl|simp only[List.map_append,List.map_cons,List.map_nil,List.map_take,List.map_drop,List.map_set,List.map_replicate,zq3,zA.toD_eq]) ?_;exact y2T _ _ _ _ _ _ h
     obtain⟨q6,g,h⟩:=zC h;refine⟨_,_,_,_,_,_,_,_,⟨_,vX _ _ _ g⟩,?_⟩;cases h;exact⟨rfl,rfl⟩
    obtain⟨q5,g,h⟩:=zC h;refine⟨_,_,_,_,_,_,_,_,⟨_,vX _ _ _ g⟩,?_⟩;cases h;exact⟨rfl,rfl⟩
   obtain⟨q3,g,h⟩:=zC h;refine⟨_,_,_,_,_,_,_,_,⟨_,vX _ _ _ g⟩,?_⟩;cases h;exact⟨rfl,rfl⟩
  obtain⟨q2,g,h⟩:=zC h;refine⟨_,_,_,_,_,_,_,_,⟨_,vX _ _ _ g⟩,?_⟩;cases h;exact⟨rfl,rfl⟩
 obtain⟨q1,g,h⟩:=zC h;refine⟨_,_,_,_,_,_,_,_,⟨_,vX _ _ _ g⟩,?_⟩;cases h;exact⟨rfl,rfl⟩
theorem v2x(m:zA)(i:Int)(r:Ref16Got)(h:z9x m i=some r):Trip Tryz.prog 117 [.d (tT m),(nI i)] [] [.d (.agg [(.int .i64 r.T_.K),(.int .i64 r.T_.N),(.str r.T_.S),(.sl (List.map zA.toD r.T_.L)),(.int .i64 r.T_.From),(.int .i64 r.T_.To),(.int .i64 r.At),(.int .i64 r.E)])] []:=by
 unfold z9x at h;refine zH 1000 (v3t _ _ _ _ m i) ?_;obtain⟨x,hx,h⟩:=zC h;refine⟨zF (l:=m.L) (zA.sz),vO hx,x.K,x.N,x.S,List.map zA.toD x.L,x.From,x.To,zL (zA.toD_eq x) hx,?_⟩;rintro _ rfl;refine zD zq2 h (fun _ h=>?_) (fun _ h=>?_)
 ·obtain⟨q1,g,h⟩:=zC h;refine⟨_,_,_,_,_,_,_,_,⟨_,v6F _ _ _ g⟩,?_⟩;cases h;exact⟨rfl,rfl⟩
 rintro _ rfl;refine zD zq2 h (fun _ h=>?_) (fun _ h=>?_)
 ·obtain⟨q2,g,h⟩:=zC h;refine⟨_,⟨_,z7o _ _ g⟩,?_⟩;refine zG Iff.rfl h (fun _ h=>?_) (fun _ h=>?_)
  ·obtain⟨q4,g,h⟩:=zC h;refine⟨_,⟨_,z1f _ _ _ g⟩,?_⟩;rintro _ rfl;refine zD zq2 h (fun _ h=>?_) (fun _ h=>?_)
   ·obtain⟨q5,g,h⟩:=zC h;refine⟨_,_,_,_,_,_,_,_,⟨_,vX _ _ _ g⟩,?_⟩;cases h;exact⟨rfl,rfl⟩
   obtain⟨q6,g,h⟩:=zC h;refine⟨_,_,_,_,_,_,⟨_,z0e _ _ g⟩,?_⟩;cases h;exact⟨rfl,rfl⟩
  obtain⟨q3,g,h⟩:=zC h;refine⟨_,_,_,_,_,_,_,_,⟨_,vX _ _ _ g⟩,?_⟩;cases h;exact⟨rfl,rfl⟩
 rintro _ rfl;refine zD zq2 h (fun hc353 h=>?_) (fun hc353 h=>?_)
 ·refine zU (e':=(List.length x.L:Int)) (by first|rfl|rw[zq3]) ?_;rintro _ rfl;refine zD zq2 h (fun _ h=>?_) (fun _ h=>?_)
  ·obtain⟨x1,hx,h⟩:=zC h;refine⟨zF (l:=x.L) (zA.sz),vO hx,x1.K,x1.N,x1.S,List.map zA.toD x1.L,x1.From,x1.To,zL (zA.toD_eq x1) hx,?_⟩;obtain⟨q7,g,h⟩:=zC h;refine⟨_,⟨_,z1f _ _ _ g⟩,?_⟩;rintro _ rfl;refine zD zq2 h (fun _ h=>?_) (fun _ h=>?_)
   ·obtain⟨x2,hx,h⟩:=zC h;refine⟨zF (l:=x.L) (zA.sz),vO hx,x2.K,x2.N,x2.S,List.map zA.toD x2.L,x2.From,x2.To,zL (zA.toD_eq x2) hx,?_⟩;obtain⟨q8,g,h⟩:=zC h;refine⟨_,_,_,_,_,_,_,_,⟨_,vX _ _ _ g⟩,?_⟩;cases h;exact⟨rfl,rfl⟩
   obtain⟨q9,g,h⟩:=zC h;refine⟨_,_,_,_,_,_,⟨_,z0e _ _ g⟩,?_⟩;cases h;exact⟨rfl,rfl⟩
  rintro _ rfl;refine z7L zq2 (fun e=>absurd (hc353.symm.trans e) (by decide)) ?_;obtain⟨q10,g,h⟩:=zC h;refine⟨_,_,_,_,_,_,_,_,⟨_,vX _ _ _ g⟩,?_⟩;cases h;exact⟨rfl,rfl⟩
 rintro _ rfl;refine zG zq2 h (fun _ h=>?_) (fun _ h=>?_)
 ·refine zU (e':=(List.length x.L:Int)) (by first|rfl|rw[zq3]) ?_;rintro _ rfl;refine zG zq2 h (fun _ h=>?_) (fun _ h=>?_)
  ·obtain⟨x8,hx,h⟩:=zC h;refine⟨zF (l:=x.L) (zA.sz),vO hx,x8.K,x8.N,x8.S,List.map zA.toD x8.L,x8.From,x8.To,zL (zA.toD_eq x8) hx,?_⟩;refine zU (e':=(List.length x8.L:Int)) (by first|rfl|rw[zq3]) ?_;rintro _ rfl;refine zD decide_eq_true_iff h (fun _ h=>?_) (fun _ h=>?_)
   ·obtain⟨q21,g,h⟩:=zC h;refine⟨_,_,_,_,_,_,_,_,⟨_,vX _ _ _ g⟩,?_⟩;cases h;exact⟨rfl,rfl⟩
   obtain⟨x9,hx,h⟩:=zC h;refine⟨zF (l:=x.L) (zA.sz),vO hx,x9.K,x9.N,x9.S,List.map zA.toD x9.L,x9.From,x9.To,zL (zA.toD_eq x9) hx,?_⟩;obtain⟨q22,g,h⟩:=zC h;refine⟨_,_,_,_,_,_,⟨_,z4A _ _ g⟩,?_⟩;rintro _ rfl;refine zD zq2 h (fun _ h=>?_) (fun _ h=>?_)
   ·obtain⟨q23,g,h⟩:=zC h;refine⟨_,_,_,_,_,_,_,_,⟨_,vX _ _ _ g⟩,?_⟩;cases h;exact⟨rfl,rfl⟩
   obtain⟨x10,hx,h⟩:=zC h;refine⟨zF (l:=x.L) (zA.sz),vO hx,x10.K,x10.N,x10.S,List.map zA.toD x10.L,x10.From,x10.To,zL (zA.toD_eq x10) hx,?_⟩;rintro _ rfl;refine zD zq2 h (fun _ h=>?_) (fun _ h=>?_)
   ·obtain⟨x11,hx,h⟩:=zC h;refine⟨zF (l:=x.L) (zA.sz),vO hx,x11.K,x11.N,x11.S,List.map zA.toD x11.L,x11.From,x11.To,zL (zA.toD_eq x11) hx,?_⟩;rintro _ rfl;refine zG zq2 h (fun _ h=>?_) (fun _ h=>?_)
    ·obtain⟨q26,g,h⟩:=zC h;refine⟨_,_,_,_,_,_,⟨_,z0e _ _ g⟩,?_⟩;cases h;exact⟨rfl,rfl⟩
    obtain⟨x12,hx,h⟩:=zC h;refine⟨zF (l:=x.L) (zA.sz),vO hx,x12.K,x12.N,x12.S,List.map zA.toD x12.L,x12.From,x12.To,zL (zA.toD_eq x12) hx,?_⟩;rintro _ rfl;refine zG zq2 h (fun _ h=>?_) (fun _ h=>?_)
    ·obtain⟨q25,g,h⟩:=zC h;refine⟨_,_,_,_,_,_,⟨_,z0e _ _ g⟩,?_⟩;cases h;exact⟨rfl,rfl⟩
    obtain⟨q24,g,h⟩:=zC h;refine⟨_,_,_,_,_,_,_,_,⟨_,vX _ _ _ g⟩,?_⟩;cases h;exact⟨rfl,rfl⟩
   obtain⟨q27,g,h⟩:=zC h;refine⟨_,_,_,_,_,_,⟨_,z0e _ _ g⟩,?_⟩;cases h;exact⟨rfl,rfl⟩
  obtain⟨q20,g,h⟩:=zC h;refine⟨_,_,_,_,_,_,_,_,⟨_,vX _ _ _ g⟩,?_⟩;cases h;exact⟨rfl,rfl⟩
 obtain⟨q19,g,h⟩:=zC h;refine⟨_,_,_,_,_,_,_,_,⟨_,vX _ _ _ g⟩,?_⟩;cases h;exact⟨rfl,rfl⟩
def z7X:(i:z2I)→z4T i→Prop
 |.yJ i m o2 K N S L From To,r=>Ok (z7t (Trip Tryz.prog) [.d (tT r.1),(nI r.2.1),(nI r.2.2)] []) (kL Tryz.f59 5) ⟨46,[(1,.ref 1 1 0),(2,.ref 2 1 0),(5,.hp 0 0),(6,(nI i))],[(1,1,some (.agg (tT m))),(2,1,some (.agg (tT o2)))],[(hM K N S (List.map zA.toD L) From To)],0⟩
theorem y3n:∀i r,uV z2B i=some r→z7X i r:=by
 refine zP z7P fun g ih i=>?_;cases i with
 |yJ i m o2 K N S L From To=>
  have w2f:=fun i m o2 K N S L From To r h=>ih (.yJ i m o2 K N S L From To) r h;intro r h;replace h:gK (fun i m o2 K N S L From To=>g (z2I.yJ i m o2 K N S L From To)) i m o2 K N S L From To=some r:=h;unfold gK at h;refine jN 1000 (y3I _ _ _ _ i m o2 K N S L From To) ?_;refine zU (e':=(List.length m.L:Int)) (by first|rfl|rw[zq3]) ?_;rintro _ rfl;refine zD decide_eq_true_iff h (fun _ h=>?_) (fun _ h=>?_)
  ·obtain⟨q1,g,h⟩:=zC h;refine⟨_,_,_,_,_,_,_,_,⟨_,v2x _ _ _ g⟩,?_⟩;rintro _ rfl;refine zG zq2 h (fun _ h=>?_) (fun _ h=>?_)
   ·refine⟨by simp[zE,D.cells],?_⟩;refine⟨by first|rfl|decide|simp only[zq3,List.length_cons,List.length_nil,List.map_append,List.length_append],?_⟩;obtain⟨hP,h⟩:=uN h;refine⟨by first|exact hP|simpa using hP,?_⟩;refine zU (e':=List.map zA.toD (L++[q1.T_])) (by first|rfl|simp only[List.map_append,List.map_cons,List.map_nil,List.map_take,List.map_drop,List.map_set,List.map_replicate,zq3,zA.toD_eq]) ?_
    refine⟨by first|rfl|decide|simp only[zq3,List.length_cons,List.length_nil,List.map_append,List.length_append],?_⟩;rintro _ rfl;exact w2f _ _ _ _ _ _ _ _ _ _ h
   cases h;exact⟨rfl,rfl⟩
  cases h;exact⟨rfl,rfl⟩
theorem y3w(i:Int)(m o2:zA)(K N:Int)(S:Str)(L:List zA)(From To:Int)(r:zA×Int×Int)(h:yJ i m o2 K N S L From To=some r):z7X (.yJ i m o2 K N S L From To) r:=y3n (.yJ i m o2 K N S L From To) r h
theorem y8d(m:zA)(r:zA×Int×Int)(h:z7F m=some r):Trip Tryz.prog 59 [.d (tT m)] [] [.d (tT r.1),(nI r.2.1),(nI r.2.2)] []:=by
 unfold z7F at h;refine zH 1000 (y8J _ _ _ _ m) ?_;rintro _ rfl;refine zG zq2 h (fun _ h=>?_) (fun _ h=>?_)
 ·exact y3w _ _ _ _ _ _ _ _ _ _ h
 cases h;exact⟨rfl,rfl⟩
theorem y2V(m:zA)(r:Bool)(h:z0X m=some r):Trip Tryz.prog 24 [.d (tT m)] [] [(nB r)] []:=by
 unfold z0X at h;refine zH 1000 (v0T _ _ _ _ m) ?_;obtain⟨q1,g,h⟩:=zC h;refine⟨_,_,_,_,_,_,_,_,⟨_,y8d _ _ g⟩,?_⟩;rintro _ rfl;refine zD zq2 h (fun _ h=>?_) (fun _ h=>?_)
 ·obtain⟨q2,g,h⟩:=zC h;refine⟨_,⟨_,z5k _ _ _ g⟩,?_⟩;cases h;exact⟨rfl,rfl⟩
 cases h;exact⟨rfl,rfl⟩
def y2M:(i:z1c)→z8F i→Prop
 |.uH t left levels,r=>Trip Tryz.prog 89 [.d (tT t),(nI left),(nI levels)] [] [(nI r)] []
 |.yT left levels i t,r=>Ok (z8U (Trip Tryz.prog) [(nI r)] []) (kL Tryz.f89 5) ⟨33,[(1,(nI left)),(2,(nI levels)),(3,.ref 3 1 0),(7,(nI i))],[(3,1,some (.agg (tT t)))],[],0⟩
theorem y9H:∀i r,uV z2V i=some r→y2M i r:=by
 refine zP z8n fun g ih i=>?_;cases i with
 |uH t left levels=>
  have w1E:=fun left levels i t r h=>ih (.yT left levels i t) r h;intro r h;replace h:z3d (fun left levels i t=>g (z1c.yT left levels i t)) t left levels=some r:=h;unfold z3d at h;refine zH 1000 (v0H _ _ _ _ t left levels) ?_;rintro _ rfl;refine zD decide_eq_true_iff h (fun _ h=>?_) (fun _ h=>?_)
  ·cases h;exact⟨rfl,rfl⟩
  rintro _ rfl;exact w1E _ _ _ _ _ h
 |yT left levels i t=>
  have w1D:=fun t left levels r h=>ih (.uH t left levels) r h;have w1E:=fun left levels i t r h=>ih (.yT left levels i t) r h;intro r h;replace h:z0j (fun t left levels=>g (z1c.uH t left levels)) (fun left levels i t=>g (z1c.yT left levels i t)) left levels i t=some r:=h;unfold z0j at h;refine jN 1000 (y5j _ _ _ _ left levels i t) ?_;refine zU (e':=(List.length t.L:Int)) (by first|rfl|rw[zq3]) ?_;rintro _ rfl;refine zD decide_eq_true_iff h (fun _ h=>?_) (fun _ h=>?_)
  ·rintro _ rfl;refine zD decide_eq_true_iff h (fun _ h=>?_) (fun _ h=>?_)
   ·obtain⟨x,hx,h⟩:=zC h;refine⟨zF (l:=t.L) (zA.sz),vO hx,x.K,x.N,x.S,List.map zA.toD x.L,x.From,x.To,zL (zA.toD_eq x) hx,?_⟩;rintro _ rfl;obtain⟨q1,g,h⟩:=zC h;refine⟨_,⟨_,w1D _ _ _ _ g⟩,?_⟩;rintro _ rfl;exact w1E _ _ _ _ _ h
   cases h;exact⟨rfl,rfl⟩
  cases h;exact⟨rfl,rfl⟩
theorem y9O(t:zA)(left levels r:Int)(h:uH t left levels=some r):y2M (.uH t left levels) r:=y9H (.uH t left levels) r h
def y2N:(i:z1d)→z8G i→Prop
 |.uI t,r=>Trip Tryz.prog 90 [.d (tT t)] [] [(nB r)] []
 |.yU i t,r=>Ok (z8V (Trip Tryz.prog) [(nB r)] []) (kL Tryz.f90 4) ⟨21,[(1,.ref 1 1 0),(3,(nI i))],[(1,1,some (.agg (tT t)))],[],0⟩
theorem y9I:∀i r,uV z2W i=some r→y2N i r:=by
 refine zP z8o fun g ih i=>?_;cases i with
 |uI t=>
  have w1G:=fun i t r h=>ih (.yU i t) r h;intro r h;replace h:z3e (fun i t=>g (z1d.yU i t)) t=some r:=h;unfold z3e at h;refine zH 1000 (v0J _ _ _ _ t) ?_;rintro _ rfl;rintro _ rfl;refine zD decide_eq_true_iff h (fun _ h=>?_) (fun _ h=>?_)
  ·cases h;exact⟨rfl,rfl⟩
  exact w1G _ _ _ h
 |yU i t=>
  have w1F:=fun t r h=>ih (.uI t) r h;have w1G:=fun i t r h=>ih (.yU i t) r h;intro r h;replace h:z0k (fun t=>g (z1d.uI t)) (fun i t=>g (z1d.yU i t)) i t=some r:=h;unfold z0k at h;refine jN 1000 (y5k _ _ _ _ i t) ?_;refine zU (e':=(List.length t.L:Int)) (by first|rfl|rw[zq3]) ?_;rintro _ rfl;refine zD decide_eq_true_iff h (fun _ h=>?_) (fun _ h=>?_)
  ·obtain⟨x,hx,h⟩:=zC h;refine⟨zF (l:=t.L) (zA.sz),vO hx,x.K,x.N,x.S,List.map zA.toD x.L,x.From,x.To,zL (zA.toD_eq x) hx,?_⟩;obtain⟨q1,g,h⟩:=zC h;refine⟨_,⟨_,w1F _ _ g⟩,?_⟩;refine zD Iff.rfl h (fun _ h=>?_) (fun _ h=>?_)
   ·cases h;exact⟨rfl,rfl⟩
   rintro _ rfl;exact w1G _ _ _ h
  cases h;exact⟨rfl,rfl⟩
theorem y9P(t:zA)(r:Bool)(h:uI t=some r):y2N (.uI t) r:=y9I (.uI t) r h
theorem z1R(t:zA)(r:Bool)(h:gE t=some r):Trip Tryz.prog 38 [.d (tT t)] [] [(nB r)] []:=by
 unfold gE at h;refine zH 1000 (v0I _ _ _ _ t) ?_;obtain⟨q1,g,h⟩:=zC h;refine⟨_,⟨_,y9O _ _ _ _ g⟩,?_⟩;rintro _ rfl;refine zD decide_eq_true_iff h (fun _ h=>?_) (fun _ h=>?_)
 ·cases h;exact⟨rfl,rfl⟩
 obtain⟨q2,g,h⟩:=zC h;refine⟨_,⟨_,y9P _ _ g⟩,?_⟩;cases h;exact⟨rfl,rfl⟩
def y2Q:(i:z1e)→z8J i→Prop
 |.uJ v left levels,r=>Trip Tryz.prog 161 [.d (tV v),(nI left),(nI levels)] [] [(nI r)] []
 |.yW left levels i v,r=>Ok (z9b (Trip Tryz.prog) [(nI r)] []) (kL Tryz.f161 5) ⟨33,[(1,(nI left)),(2,(nI levels)),(3,.ref 3 1 0),(7,(nI i))],[(3,1,some (.agg (tV v)))],[],0⟩
theorem y9L:∀i r,uV z2X i=some r→y2Q i r:=by
 refine zP z8s fun g ih i=>?_;cases i with
 |uJ v left levels=>
  have w2n:=fun left levels i v r h=>ih (.yW left levels i v) r h;intro r h;replace h:z3j (fun left levels i v=>g (z1e.yW left levels i v)) v left levels=some r:=h;unfold z3j at h;refine zH 1000 (v0W _ _ _ _ v left levels) ?_;rintro _ rfl;refine zD decide_eq_true_iff h (fun _ h=>?_) (fun _ h=>?_)
  ·cases h;exact⟨rfl,rfl⟩
  rintro _ rfl;exact w2n _ _ _ _ _ h
 |yW left levels i v=>
  have w2m:=fun v left levels r h=>ih (.uJ v left levels) r h;have w2n:=fun left levels i v r h=>ih (.yW left levels i v) r h;intro r h;replace h:z0q (fun v left levels=>g (z1e.uJ v left levels)) (fun left levels i v=>g (z1e.yW left levels i v)) left levels i v=some r:=h;unfold z0q at h;refine jN 1000 (y5u _ _ _ _ left levels i v) ?_;refine zU (e':=(List.length v.L:Int)) (by first|rfl|rw[zq3]) ?_;rintro _ rfl;refine zD decide_eq_true_iff h (fun _ h=>?_) (fun _ h=>?_)
  ·rintro _ rfl;refine zD decide_eq_true_iff h (fun _ h=>?_) (fun _ h=>?_)
   ·obtain⟨x,hx,h⟩:=zC h;refine⟨zF (l:=v.L) (Value.sz),vO hx,x.N,List.map Value.toD x.L,zL (Value.toD_eq x) hx,?_⟩;rintro _ rfl;obtain⟨q1,g,h⟩:=zC h;refine⟨_,⟨_,w2m _ _ _ _ g⟩,?_⟩;rintro _ rfl;exact w2n _ _ _ _ _ h
   cases h;exact⟨rfl,rfl⟩
  cases h;exact⟨rfl,rfl⟩
theorem y9W(v:Value)(left levels r:Int)(h:uJ v left levels=some r):y2Q (.uJ v left levels) r:=y9L (.uJ v left levels) r h
theorem y2W(v:Value)(r:Bool)(h:z5u v=some r):Trip Tryz.prog 99 [.d (tV v)] [] [(nB r)] []:=by
 unfold z5u at h;refine zH 1000 (v0X _ _ _ _ v) ?_;obtain⟨q1,g,h⟩:=zC h;refine⟨_,⟨_,y9W _ _ _ _ g⟩,?_⟩;rintro _ rfl;cases h;exact⟨rfl,rfl⟩
def z8D:(i:z3A)→z5G i→Prop
 |.vK l i,r=>Ok (z9d (Trip Tryz.prog) [(nB r)] []) (kL Tryz.f100 2) ⟨22,[(0,.d (.sl (List.map Value.toD l))),(3,(nI i))],[],[],0⟩
theorem y4l:∀i r,uV z3t i=some r→z8D i r:=by
 refine zP z8v fun g ih i=>?_;cases i with
 |vK l i=>
  have w2C:=fun l i r h=>ih (.vK l i) r h;intro r h;replace h:z0s (fun l i=>g (z3A.vK l i)) l i=some r:=h;unfold z0s at h;refine jN 1000 (y5y _ _ _ _ l i) ?_;refine zU (e':=(List.length l:Int)) (by first|rfl|rw[zq3]) ?_;rintro _ rfl;refine zD decide_eq_true_iff h (fun _ h=>?_) (fun _ h=>?_)
  ·rintro _ rfl;refine zD decide_eq_true_iff h (fun _ h=>?_) (fun _ h=>?_)
   ·obtain⟨x,hx,h⟩:=zC h;refine⟨zF (l:=l) (Value.sz),vO hx,x.N,List.map Value.toD x.L,zL (Value.toD_eq x) hx,?_⟩;obtain⟨q1,g,h⟩:=zC h;refine⟨_,⟨_,y2W _ _ g⟩,?_⟩;refine zD Iff.rfl h (fun _ h=>?_) (fun _ h=>?_)
    ·cases h;exact⟨rfl,rfl⟩
    rintro _ rfl;exact w2C _ _ _ h
   refine zU (e':=(List.length l:Int)) (by first|rfl|rw[zq3]) ?_;rintro _ rfl;cases h;exact⟨rfl,rfl⟩
  refine zU (e':=(List.length l:Int)) (by first|rfl|rw[zq3]) ?_;rintro _ rfl;cases h;exact⟨rfl,rfl⟩
theorem y4N(l:List Value)(i:Int)(r:Bool)(h:vK l i=some r):z8D (.vK l i) r:=y4l (.vK l i) r h
theorem y2X(l:List Value)(r:Bool)(h:z5v l=some r):Trip Tryz.prog 100 [.d (.sl (List.map Value.toD l))] [] [(nB r)] []:=by
 unfold z5v at h;refine zH 1000 (v1a _ _ _ _ l) ?_;exact y4N _ _ _ h
theorem y2Y(s:State)(r:Bool)(h:z4t s=some r):Trip Tryz.prog 48 [.d (tS s)] [] [(nB r)] []:=by
 unfold z4t at h;refine zH 1000 (v1c _ _ _ _ s) ?_;refine zU (e':=(List.length s.Globals:Int)) (by first|rfl|rw[zq3]) ?_;rintro _ rfl;refine zD decide_eq_true_iff h (fun _ h=>?_) (fun _ h=>?_)
 ·cases h;exact⟨rfl,rfl⟩
 refine zU (e':=(List.length s.Locals:Int)) (by first|rfl|rw[zq3]) ?_;rintro _ rfl;refine zD decide_eq_true_iff h (fun _ h=>?_) (fun _ h=>?_)
 ·cases h;exact⟨rfl,rfl⟩
 refine zU (e':=(List.length s.Input:Int)) (by first|rfl|rw[zq3]) ?_;rintro _ rfl;refine zD decide_eq_true_iff h (fun _ h=>?_) (fun _ h=>?_)
 ·cases h;exact⟨rfl,rfl⟩
 refine zU (e':=(List.length s.Trace:Int)) (by first|rfl|rw[zq3]) ?_;rintro _ rfl;refine zD decide_eq_true_iff h (fun _ h=>?_) (fun _ h=>?_)
 ·cases h;exact⟨rfl,rfl⟩
 rintro _ rfl;refine zD decide_eq_true_iff h (fun _ h=>?_) (fun _ h=>?_)
 ·cases h;exact⟨rfl,rfl⟩
 obtain⟨q1,g,h⟩:=zC h;refine⟨_,⟨_,y2W _ _ g⟩,?_⟩;refine zD Iff.rfl h (fun _ h=>?_) (fun _ h=>?_)
 ·cases h;exact⟨rfl,rfl⟩
 obtain⟨q2,g,h⟩:=zC h;refine⟨_,⟨_,y2X _ _ g⟩,?_⟩;refine zD Iff.rfl h (fun _ h=>?_) (fun _ h=>?_)
 ·cases h;exact⟨rfl,rfl⟩
 obtain⟨q3,g,h⟩:=zC h;refine⟨_,⟨_,y2X _ _ g⟩,?_⟩;cases h;exact⟨rfl,rfl⟩
def z8E:(i:z3B)→z5H i→Prop
 |.vM i c,r=>Ok (z9f (Trip Tryz.prog) [(nB r)] []) (kL Tryz.f23 2) ⟨45,[(1,.ref 1 1 0),(3,(nI i))],[(1,1,some (.agg (.agg [(.int .i64 c.M.K),(.int .i64 c.M.N),(.str c.M.S),(.sl (List.map zA.toD c.M.L)),(.int .i64 c.M.From),(.int .i64 c.M.To),(.sl (List.map zA.toD c.Types)),(.sl (List.map Value.toD c.S.Globals)),(.sl (List.map Value.toD c.S.Locals)),(.sl (List.map (D.int .i64) c.S.Input)),(.int .i64 c.S.At),(.sl (List.map (D.int .i64) c.S.Trace)),(.int .i64 c.S.Fuel),(.int .i64 c.S.Kind),(.int .i64 c.S.N),(.int .i64 c.S.Ret.N),(.sl (List.map Value.toD c.S.Ret.L)),(.int .i64 c.Rule),(.int .i64 c.L.K),(.int .i64 c.L.N),(.str c.L.S),(.sl (List.map zA.toD c.L.L)),(.int .i64 c.L.From),(.int .i64 c.L.To),(.int .i64 c.R.K),(.int .i64 c.R.N),(.str c.R.S),(.sl (List.map zA.toD c.R.L)),(.int .i64 c.R.From),(.int .i64 c.R.To)])))],[],0⟩
theorem y4m:∀i r,uV z3u i=some r→z8E i r:=by
 refine zP z8w fun g ih i=>?_;cases i with
 |vM i c=>
  have w2U:=fun i c r h=>ih (.vM i c) r h;intro r h;replace h:z0t (fun i c=>g (z3B.vM i c)) i c=some r:=h;unfold z0t at h;refine jN 1000 (y5A _ _ _ _ i c) ?_;refine zU (e':=(List.length c.Types:Int)) (by first|rfl|rw[zq3]) ?_;rintro _ rfl;refine zD decide_eq_true_iff h (fun _ h=>?_) (fun _ h=>?_)
  ·rintro _ rfl;refine zD decide_eq_true_iff h (fun _ h=>?_) (fun _ h=>?_)
   ·obtain⟨x,hx,h⟩:=zC h;refine⟨zF (l:=c.Types) (zA.sz),vO hx,x.K,x.N,x.S,List.map zA.toD x.L,x.From,x.To,zL (zA.toD_eq x) hx,?_⟩;obtain⟨q1,g,h⟩:=zC h;refine⟨_,⟨_,z1R _ _ g⟩,?_⟩;refine zD Iff.rfl h (fun _ h=>?_) (fun _ h=>?_)
    ·cases h;exact⟨rfl,rfl⟩
    rintro _ rfl;exact w2U _ _ _ h
   refine zU (e':=(List.length c.Types:Int)) (by first|rfl|rw[zq3]) ?_;rintro _ rfl;refine zD decide_eq_true_iff h (fun _ h=>?_) (fun _ h=>?_)
   ·cases h;exact⟨rfl,rfl⟩
   obtain⟨q2,g,h⟩:=zC h;refine⟨_,⟨_,z1R _ _ g⟩,?_⟩;refine zD Iff.rfl h (fun _ h=>?_) (fun _ h=>?_)
   ·cases h;exact⟨rfl,rfl⟩
   obtain⟨q3,g,h⟩:=zC h;refine⟨_,⟨_,z1R _ _ g⟩,?_⟩;refine zD Iff.rfl h (fun _ h=>?_) (fun _ h=>?_)
   ·cases h;exact⟨rfl,rfl⟩
   obtain⟨q4,g,h⟩:=zC h;refine⟨_,⟨_,z1R _ _ g⟩,?_⟩;refine zD Iff.rfl h (fun _ h=>?_) (fun _ h=>?_)
   ·cases h;exact⟨rfl,rfl⟩
   obtain⟨q5,g,h⟩:=zC h;refine⟨_,⟨_,y2Y _ _ g⟩,?_⟩;cases h;exact⟨rfl,rfl⟩
  refine zU (e':=(List.length c.Types:Int)) (by first|rfl|rw[zq3]) ?_;rintro _ rfl;refine zD decide_eq_true_iff h (fun _ h=>?_) (fun _ h=>?_)
  ·cases h;exact⟨rfl,rfl⟩
  obtain⟨q6,g,h⟩:=zC h;refine⟨_,⟨_,z1R _ _ g⟩,?_⟩;refine zD Iff.rfl h (fun _ h=>?_) (fun _ h=>?_)
  ·cases h;exact⟨rfl,rfl⟩
  obtain⟨q7,g,h⟩:=zC h;refine⟨_,⟨_,z1R _ _ g⟩,?_⟩;refine zD Iff.rfl h (fun _ h=>?_) (fun _ h=>?_)
  ·cases h;exact⟨rfl,rfl⟩
  obtain⟨q8,g,h⟩:=zC h;refine⟨_,⟨_,z1R _ _ g⟩,?_⟩;refine zD Iff.rfl h (fun _ h=>?_) (fun _ h=>?_)
  ·cases h;exact⟨rfl,rfl⟩
  obtain⟨q9,g,h⟩:=zC h;refine⟨_,⟨_,y2Y _ _ g⟩,?_⟩;cases h;exact⟨rfl,rfl⟩
theorem y4Q(i:Int)(c:Ref25Rule)(r:Bool)(h:vM i c=some r):z8E (.vM i c) r:=y4m (.vM i c) r h
theorem y9Y(c:Ref25Rule)(r:Bool)(h:z6V c=some r):Trip Tryz.prog 23 [.d (.agg [(.int .i64 c.M.K),(.int .i64 c.M.N),(.str c.M.S),(.sl (List.map zA.toD c.M.L)),(.int .i64 c.M.From),(.int .i64 c.M.To),(.sl (List.map zA.toD c.Types)),(.sl (List.map Value.toD c.S.Globals)),(.sl (List.map Value.toD c.S.Locals)),(.sl (List.map (D.int .i64) c.S.Input)),(.int .i64 c.S.At),(.sl (List.map (D.int .i64) c.S.Trace)),(.int .i64 c.S.Fuel),(.int .i64 c.S.Kind),(.int .i64 c.S.N),(.int .i64 c.S.Ret.N),(.sl (List.map Value.toD c.S.Ret.L)),(.int .i64 c.Rule),(.int .i64 c.L.K),(.int .i64 c.L.N),(.str c.L.S),(.sl (List.map zA.toD c.L.L)),(.int .i64 c.L.From),(.int .i64 c.L.To),(.int .i64 c.R.K),(.int .i64 c.R.N),(.str c.R.S),(.sl (List.map zA.toD c.R.L)),(.int .i64 c.R.From),(.int .i64 c.R.To)])] [] [(nB r)] []:=by
 unfold z6V at h;refine zH 1000 (v1f _ _ _ _ c) ?_;exact y4Q _ _ _ h
def y4p:(i:z1M)→y0z i→Prop
 |.uS t,r=>Trip Tryz.prog 18 [.d (tT t)] [] [(nI r)] []
 |.vS n i t,r=>Ok (y0M (Trip Tryz.prog) [(nI r)] []) (kL Tryz.f18 3) ⟨21,[(1,.ref 1 1 0),(3,(nI n)),(4,(nI i))],[(1,1,some (.agg (tT t)))],[],0⟩
theorem v2h:∀i r,uV z3U i=some r→y4p i r:=by
 refine zP y0s fun g ih i=>?_;cases i with
 |uS t=>
  have w1M:=fun n i t r h=>ih (.vS n i t) r h;intro r h;replace h:z4j (fun n i t=>g (z1M.vS n i t)) t=some r:=h;unfold z4j at h;refine zH 1000 (v3o _ _ _ _ t) ?_;exact w1M _ _ _ _ h
 |vS n i t=>
  have w1L:=fun t r h=>ih (.uS t) r h;have w1M:=fun n i t r h=>ih (.vS n i t) r h;intro r h;replace h:z0L (fun t=>g (z1M.uS t)) (fun n i t=>g (z1M.vS n i t)) n i t=some r:=h;unfold z0L at h;refine jN 1000 (y6J _ _ _ _ n i t) ?_;refine zU (e':=(List.length t.L:Int)) (by first|rfl|rw[zq3]) ?_;rintro _ rfl;refine zD decide_eq_true_iff h (fun _ h=>?_) (fun _ h=>?_)
  ·obtain⟨x,hx,h⟩:=zC h;refine⟨zF (l:=t.L) (zA.sz),vO hx,x.K,x.N,x.S,List.map zA.toD x.L,x.From,x.To,zL (zA.toD_eq x) hx,?_⟩;obtain⟨q1,g,h⟩:=zC h;refine⟨_,⟨_,w1L _ _ g⟩,?_⟩;rintro _ rfl;rintro _ rfl;exact w1M _ _ _ _ h
  cases h;exact⟨rfl,rfl⟩
theorem y4D(t:zA)(r:Int)(h:uS t=some r):y4p (.uS t) r:=v2h (.uS t) r h
def y4t:(i:z1P)→y0D i→Prop
 |.wW a b,r=>Trip Tryz.prog 22 [.d (tV a),.d (tV b)] [] [(nB r)] []
 |.vU i a b,r=>Ok (y0Q (Trip Tryz.prog) [(nB r)] []) (kL Tryz.f22 4) ⟨39,[(2,.ref 2 1 0),(3,.ref 3 1 0),(5,(nI i))],[(2,1,some (.agg (tV a))),(3,1,some (.agg (tV b)))],[],0⟩
theorem v2l:∀i r,uV z3X i=some r→y4t i r:=by
 refine zP y0v fun g ih i=>?_;cases i with
 |wW a b=>
  have w2u:=fun i a b r h=>ih (.vU i a b) r h;intro r h;replace h:z2R (fun i a b=>g (z1P.vU i a b)) a b=some r:=h;unfold z2R at h;refine zH 1000 (v3z _ _ _ _ a b) ?_;rintro _ rfl;refine zG zq2 h (fun _ h=>?_) (fun _ h=>?_)
  ·refine zU (e':=(List.length a.L:Int)) (by first|rfl|rw[zq3]) ?_;refine zU (e':=(List.length b.L:Int)) (by first|rfl|rw[zq3]) ?_;rintro _ rfl;refine zG zq2 h (fun _ h=>?_) (fun _ h=>?_)
   ·exact w2u _ _ _ _ h
   cases h;exact⟨rfl,rfl⟩
  cases h;exact⟨rfl,rfl⟩
 |vU i a b=>
  have w2t:=fun a b r h=>ih (.wW a b) r h;have w2u:=fun i a b r h=>ih (.vU i a b) r h;intro r h;replace h:z0b (fun a b=>g (z1P.wW a b)) (fun i a b=>g (z1P.vU i a b)) i a b=some r:=h;unfold z0b at h;refine jN 1000 (y6R _ _ _ _ i a b) ?_;refine zU (e':=(List.length a.L:Int)) (by first|rfl|rw[zq3]) ?_;rintro _ rfl;refine zD decide_eq_true_iff h (fun _ h=>?_) (fun _ h=>?_)
  ·obtain⟨x,hx,h⟩:=zC h;refine⟨zF (l:=a.L) (Value.sz),vO hx,x.N,List.map Value.toD x.L,zL (Value.toD_eq x) hx,?_⟩;obtain⟨x1,hx,h⟩:=zC h;refine⟨zF (l:=b.L) (Value.sz),vO hx,x1.N,List.map Value.toD x1.L,zL (Value.toD_eq x1) hx,?_⟩;obtain⟨q1,g,h⟩:=zC h;refine⟨_,⟨_,w2t _ _ _ g⟩,?_⟩;refine zG Iff.rfl h (fun _ h=>?_) (fun _ h=>?_)
   ·rintro _ rfl;exact w2u _ _ _ _ h
   cases h;exact⟨rfl,rfl⟩
  cases h;exact⟨rfl,rfl⟩
theorem z4d(a b:Value)(r:Bool)(h:wW a b=some r):y4t (.wW a b) r:=v2l (.wW a b) r h
def z7Z:(i:z2K)→z4V i→Prop
 |.yK out l i,r=>Ok (z4K (Trip Tryz.prog) [.d (.sl (List.map zA.toD r))] []) (kL Tryz.f165 10) ⟨53,[(5,.right 9 1 6 (List.map zA.toD out)),(7,.d (.sl (List.map zA.toD l))),(8,(nI i))],[(9,1,some (.tok 6 (List.length (List.map zA.toD out))))],[],0⟩
theorem y3p:∀i r,uV z2D i=some r→z7Z i r:=by
 refine zP z7R fun g ih i=>?_;cases i with
 |yK out l i=>
  have w2r:=fun out l i r h=>ih (.yK out l i) r h;intro r h;replace h:gM (fun out l i=>g (z2K.yK out l i)) out l i=some r:=h;unfold gM at h;refine jN 1000 (y3K _ _ _ _ out l i) ?_;refine zU (e':=(List.length l:Int)) (by first|rfl|rw[zq3]) ?_;rintro _ rfl;refine zD decide_eq_true_iff h (fun _ h=>?_) (fun _ h=>?_)
  ·obtain⟨x,hx,h⟩:=zC h;refine⟨zF (l:=l) (zA.sz),vO hx,x.K,x.N,x.S,List.map zA.toD x.L,x.From,x.To,zL (zA.toD_eq x) hx,?_⟩;obtain⟨x1,hx,h⟩:=zC h;refine⟨zF (l:=x.L) (zA.sz),vO hx,x1.K,x1.N,x1.S,List.map zA.toD x1.L,x1.From,x1.To,zL (zA.toD_eq x1) hx,?_⟩;refine⟨by simp[zE,D.cells],?_⟩;refine⟨by first|rfl|decide|simp only[zq3,List.length_cons,List.length_nil,List.map_append,List.length_append],?_⟩;obtain⟨hP,h⟩:=uN h;refine⟨by first|exact hP|simpa using hP,?_⟩
   refine zU (e':=List.map zA.toD (out++[x1])) (by first|rfl|simp only[List.map_append,List.map_cons,List.map_nil,List.map_take,List.map_drop,List.map_set,List.map_replicate,zq3,zA.toD_eq]) ?_;rintro _ rfl;exact w2r _ _ _ _ h
  cases h;exact⟨rfl,rfl⟩
theorem z8c(out l:List zA)(i:Int)(r:List zA)(h:yK out l i=some r):z7Z (.yK out l i) r:=y3p (.yK out l i) r h
def z8B:(i:z3y)→z5E i→Prop
 |.vJ out i m t,r=>Ok (z4K (Trip Tryz.prog) [.d (.sl (List.map zA.toD r))] []) (kL Tryz.f165 4) ⟨53,[(2,.ref 2 1 0),(3,.ref 3 1 0),(5,.right 9 1 6 (List.map zA.toD out)),(6,(nI i))],[(2,1,some (.agg (tT m))),(3,1,some (.agg (tT t))),(9,1,some (.tok 6 (List.length (List.map zA.toD out))))],[],0⟩
theorem y4j:∀i r,uV z3r i=some r→z8B i r:=by
 refine zP z8t fun g ih i=>?_;cases i with
 |vJ out i m t=>
  have w2s:=fun out i m t r h=>ih (.vJ out i m t) r h;intro r h;replace h:z0r (fun out i m t=>g (z3y.vJ out i m t)) out i m t=some r:=h;unfold z0r at h;refine jN 1000 (y5v _ _ _ _ out i m t) ?_;rintro _ rfl;refine zD decide_eq_true_iff h (fun _ h=>?_) (fun _ h=>?_)
  ·obtain⟨x,hx,h⟩:=zC h;refine⟨zF (l:=t.L) (zA.sz),vO hx,x.K,x.N,x.S,List.map zA.toD x.L,x.From,x.To,zL (zA.toD_eq x) hx,?_⟩;refine⟨by simp[zE,D.cells],?_⟩;refine⟨by first|rfl|decide|simp only[zq3,List.length_cons,List.length_nil,List.map_append,List.length_append],?_⟩;obtain⟨hP,h⟩:=uN h;refine⟨by first|exact hP|simpa using hP,?_⟩
   refine zU (e':=List.map zA.toD (out++[x])) (by first|rfl|simp only[List.map_append,List.map_cons,List.map_nil,List.map_take,List.map_drop,List.map_set,List.map_replicate,zq3,zA.toD_eq]) ?_;rintro _ rfl;exact w2s _ _ _ _ _ h
  rintro _ rfl;refine zD zq2 h (fun _ h=>?_) (fun _ h=>?_)
  ·obtain⟨x1,hx,h⟩:=zC h;refine⟨zF (l:=m.L) (zA.sz),vO hx,x1.K,x1.N,x1.S,List.map zA.toD x1.L,x1.From,x1.To,zL (zA.toD_eq x1) hx,?_⟩;exact z8c _ _ _ _ h
  cases h;exact⟨rfl,rfl⟩
theorem y4J(out:List zA)(i:Int)(m t:zA)(r:List zA)(h:vJ out i m t=some r):z8B (.vJ out i m t) r:=y4j (.vJ out i m t) r h
theorem z4H(m t:zA)(r:List zA)(h:z2q m t=some r):Trip Tryz.prog 165 [.d (tT m),.d (tT t)] [] [.d (.sl (List.map zA.toD r))] []:=by
 unfold z2q at h;refine zH 1000 (v0Y _ _ _ _ m t) ?_;rintro _ rfl;refine zD zq2 h (fun _ h=>?_) (fun _ h=>?_)
 ·exact y4J _ _ _ _ _ h
 rintro _ rfl;refine zD zq2 h (fun _ h=>?_) (fun _ h=>?_)
 ·obtain⟨x,hx,h⟩:=zC h;refine⟨zF (l:=m.L) (zA.sz),vO hx,x.K,x.N,x.S,List.map zA.toD x.L,x.From,x.To,zL (zA.toD_eq x) hx,?_⟩;exact z8c _ _ _ _ h
 cases h;exact⟨rfl,rfl⟩
def y4s:(i:z1O)→y0C i→Prop
 |.uT m t v,r=>Trip Tryz.prog 103 [.d (tT m),.d (tT t),.d (tV v)] [] [(nB r)] []
 |.yI p i m v,r=>Ok (y0P (Trip Tryz.prog) [(nB r)] []) (kL Tryz.f103 9) ⟨68,[(3,.ref 3 1 0),(5,.ref 5 1 0),(7,.d (.sl (List.map zA.toD p))),(8,(nI i))],[(3,1,some (.agg (tT m))),(5,1,some (.agg (tV v)))],[],0⟩
theorem v2k:∀i r,uV z3W i=some r→y4s i r:=by
 refine zP y0u fun g ih i=>?_;cases i with
 |uT m t v=>
  have w2p:=fun p i m v r h=>ih (.yI p i m v) r h;intro r h;replace h:z4q (fun p i m v=>g (z1O.yI p i m v)) m t v=some r:=h;unfold z4q at h;refine zH 1000 (v3y _ _ _ _ m t v) ?_;obtain⟨q1,g,h⟩:=zC h;refine⟨_,⟨_,z1f _ _ _ g⟩,?_⟩;rintro _ rfl;refine zD zq2 h (fun _ h=>?_) (fun _ h=>?_)
  ·cases h;exact⟨rfl,rfl⟩
  rintro _ rfl;refine zD zq2 h (fun hc409 h=>?_) (fun hc409 h=>?_)
  ·rintro _ rfl;refine zG zq2 h (fun _ h=>?_) (fun _ h=>?_)
   ·rintro _ rfl;refine v4Z zq2 hc409 ?_;obtain⟨q7,g,h⟩:=zC h;refine⟨_,⟨_,z4H _ _ _ g⟩,?_⟩;refine zU (e':=(List.length q7:Int)) (by first|rfl|rw[zq3]) ?_;refine zU (e':=(List.length v.L:Int)) (by first|rfl|rw[zq3]) ?_;rintro _ rfl;refine zG zq2 h (fun _ h=>?_) (fun _ h=>?_)
    ·exact w2p _ _ _ _ _ h
    cases h;exact⟨rfl,rfl⟩
   rintro _ rfl;refine zG zq2 h (fun _ h=>?_) (fun _ h=>?_)
   ·rintro _ rfl;refine v4Z zq2 hc409 ?_;obtain⟨q4,g,h⟩:=zC h;refine⟨_,⟨_,z4H _ _ _ g⟩,?_⟩;refine zU (e':=(List.length q4:Int)) (by first|rfl|rw[zq3]) ?_;refine zU (e':=(List.length v.L:Int)) (by first|rfl|rw[zq3]) ?_;rintro _ rfl;refine zG zq2 h (fun _ h=>?_) (fun _ h=>?_)
    ·exact w2p _ _ _ _ _ h
    cases h;exact⟨rfl,rfl⟩
   cases h;exact⟨rfl,rfl⟩
  rintro _ rfl;refine z7L zq2 hc409 ?_;rintro _ rfl;refine zG zq2 h (fun _ h=>?_) (fun _ h=>?_)
  ·obtain⟨q9,g,h⟩:=zC h;refine⟨_,⟨_,z4H _ _ _ g⟩,?_⟩;refine zU (e':=(List.length q9:Int)) (by first|rfl|rw[zq3]) ?_;refine zU (e':=(List.length v.L:Int)) (by first|rfl|rw[zq3]) ?_;rintro _ rfl;refine zG zq2 h (fun _ h=>?_) (fun _ h=>?_)
   ·exact w2p _ _ _ _ _ h
   cases h;exact⟨rfl,rfl⟩
  rintro _ rfl;refine zG zq2 h (fun _ h=>?_) (fun _ h=>?_)
  ·obtain⟨q8,g,h⟩:=zC h;refine⟨_,⟨_,z4H _ _ _ g⟩,?_⟩;refine zU (e':=(List.length q8:Int)) (by first|rfl|rw[zq3]) ?_;refine zU (e':=(List.length v.L:Int)) (by first|rfl|rw[zq3]) ?_;rintro _ rfl;refine zG zq2 h (fun _ h=>?_) (fun _ h=>?_)
   ·exact w2p _ _ _ _ _ h
   cases h;exact⟨rfl,rfl⟩
  cases h;exact⟨rfl,rfl⟩
 |yI p i m v=>
  have w2o:=fun m t v r h=>ih (.uT m t v) r h;have w2p:=fun p i m v r h=>ih (.yI p i m v) r h;intro r h;replace h:z0N (fun m t v=>g (z1O.uT m t v)) (fun p i m v=>g (z1O.yI p i m v)) p i m v=some r:=h;unfold z0N at h;refine jN 1000 (y6Q _ _ _ _ p i m v) ?_;refine zU (e':=(List.length p:Int)) (by first|rfl|rw[zq3]) ?_;rintro _ rfl;refine zD decide_eq_true_iff h (fun _ h=>?_) (fun _ h=>?_)
  ·obtain⟨x,hx,h⟩:=zC h;refine⟨zF (l:=p) (zA.sz),vO hx,x.K,x.N,x.S,List.map zA.toD x.L,x.From,x.To,zL (zA.toD_eq x) hx,?_⟩;obtain⟨x1,hx,h⟩:=zC h;refine⟨zF (l:=v.L) (Value.sz),vO hx,x1.N,List.map Value.toD x1.L,zL (Value.toD_eq x1) hx,?_⟩;obtain⟨q1,g,h⟩:=zC h;refine⟨_,⟨_,w2o _ _ _ _ g⟩,?_⟩;refine zG Iff.rfl h (fun _ h=>?_) (fun _ h=>?_)
   ·rintro _ rfl;exact w2p _ _ _ _ _ h
   cases h;exact⟨rfl,rfl⟩
  cases h;exact⟨rfl,rfl⟩
theorem y4I(m t:zA)(v:Value)(r:Bool)(h:uT m t v=some r):y4s (.uT m t v) r:=v2k (.uT m t v) r h
def y1k:(i:z5j)→z7n i→Prop
 |.wO types l i m,r=>Ok (y2n (Trip Tryz.prog) [(nB r)] []) (kL Tryz.f52 4) ⟨30,[(1,.d (.sl (List.map zA.toD types))),(2,.d (.sl (List.map Value.toD l))),(3,.ref 3 1 0),(7,(nI i))],[(3,1,some (.agg (tT m)))],[],0⟩
theorem y7T:∀i r,uV z5g i=some r→y1k i r:=by
 refine zP y1f fun g ih i=>?_;cases i with
 |wO types l i m=>
  have w2B:=fun types l i m r h=>ih (.wO types l i m) r h;intro r h;replace h:z1t (fun types l i m=>g (z5j.wO types l i m)) types l i m=some r:=h;unfold z1t at h;refine jN 1000 (y8N _ _ _ _ types l i m) ?_;refine zU (e':=(List.length l:Int)) (by first|rfl|rw[zq3]) ?_;rintro _ rfl;refine zD decide_eq_true_iff h (fun _ h=>?_) (fun _ h=>?_)
  ·obtain⟨x,hx,h⟩:=zC h;refine⟨zF (l:=types) (zA.sz),vO hx,x.K,x.N,x.S,List.map zA.toD x.L,x.From,x.To,zL (zA.toD_eq x) hx,?_⟩;obtain⟨x1,hx,h⟩:=zC h;refine⟨zF (l:=l) (Value.sz),vO hx,x1.N,List.map Value.toD x1.L,zL (Value.toD_eq x1) hx,?_⟩;obtain⟨q1,g,h⟩:=zC h;refine⟨_,⟨_,y4I _ _ _ _ g⟩,?_⟩;refine zG Iff.rfl h (fun _ h=>?_) (fun _ h=>?_)
   ·rintro _ rfl;exact w2B _ _ _ _ _ h
   cases h;exact⟨rfl,rfl⟩
  cases h;exact⟨rfl,rfl⟩
theorem y8f(types:List zA)(l:List Value)(i:Int)(m:zA)(r:Bool)(h:wO types l i m=some r):y1k (.wO types l i m) r:=y7T (.wO types l i m) r h
theorem v5g(m:zA)(types:List zA)(l:List Value)(r:Bool)(h:z6l m types l=some r):Trip Tryz.prog 52 [.d (tT m),.d (.sl (List.map zA.toD types)),.d (.sl (List.map Value.toD l))] [] [(nB r)] []:=by
 unfold z6l at h;refine zH 1000 (v5P _ _ _ _ m types l) ?_;refine zU (e':=(List.length types:Int)) (by first|rfl|rw[zq3]) ?_;refine zU (e':=(List.length l:Int)) (by first|rfl|rw[zq3]) ?_;rintro _ rfl;refine zG zq2 h (fun _ h=>?_) (fun _ h=>?_)
 ·exact y8f _ _ _ _ _ h
 cases h;exact⟨rfl,rfl⟩
theorem z0g(b:Bool)(r:Int)(h:z0B b=some r):Trip Tryz.prog 176 [(nB b)] [] [(nI r)] []:=by
 unfold z0B at h;refine zH 1000 (v3B _ _ _ _ b) ?_;refine zD Iff.rfl h (fun _ h=>?_) (fun _ h=>?_)
 ·cases h;exact⟨rfl,rfl⟩
 cases h;exact⟨rfl,rfl⟩
theorem v5e(op a r:Int)(h:z1D op a=some r):Trip Tryz.prog 115 [(nI op),(nI a)] [] [(nI r)] []:=by
 unfold z1D at h;refine zH 1000 (v5N _ _ _ _ op a) ?_;rintro _ rfl;refine zD zq2 h (fun _ h=>?_) (fun _ h=>?_)
 ·rintro _ rfl;rintro _ rfl;rintro _ rfl;cases h;exact⟨rfl,rfl⟩
 rintro _ rfl;refine zD zq2 h (fun _ h=>?_) (fun _ h=>?_)
 ·rintro _ rfl;obtain⟨q1,g,h⟩:=zC h;refine⟨_,⟨_,z0g _ _ g⟩,?_⟩;cases h;exact⟨rfl,rfl⟩
 cases h;exact⟨rfl,rfl⟩
def y4u:(i:z1Q)→y0E i→Prop
 |.vC m t,r=>Trip Tryz.prog 177 [.d (tT m),.d (tT t)] [] [.d (tV r)] []
 |.vD p i m o4 N L,r=>Ok (y0R (Trip Tryz.prog) [.d (tV r)] []) (kL Tryz.f177 6) ⟨35,[(2,.ref 2 1 0),(4,.ref 4 1 0),(5,.hp 0 0),(6,.d (.sl (List.map zA.toD p))),(7,(nI i))],[(2,1,some (.agg (tT m))),(4,1,some (.agg (tV o4)))],[[(nI N),.own 2 (List.map Value.toD L)]],0⟩
theorem v2m:∀i r,uV z3Y i=some r→y4u i r:=by
 refine zP y0w fun g ih i=>?_;cases i with
 |vC m t=>
  have w2y:=fun p i m o4 N L r h=>ih (.vD p i m o4 N L) r h;intro r h;replace h:z2S (fun p i m o4 N L=>g (z1Q.vD p i m o4 N L)) m t=some r:=h;unfold z2S at h;refine zH 1000 (v3A _ _ _ _ m t) ?_;obtain⟨q1,g,h⟩:=zC h;refine⟨_,⟨_,z1f _ _ _ g⟩,?_⟩;rintro _ rfl;refine zD zq2 h (fun _ h=>?_) (fun _ h=>?_)
  ·cases h;exact⟨rfl,rfl⟩
  obtain⟨q2,g,h⟩:=zC h;refine⟨_,⟨_,z4H _ _ _ g⟩,?_⟩;exact w2y _ _ _ _ _ _ _ h
 |vD p i m o4 N L=>
  have w2x:=fun m t r h=>ih (.vC m t) r h;have w2y:=fun p i m o4 N L r h=>ih (.vD p i m o4 N L) r h;intro r h;replace h:jY (fun m t=>g (z1Q.vC m t)) (fun p i m o4 N L=>g (z1Q.vD p i m o4 N L)) p i m o4 N L=some r:=h;unfold jY at h;refine jN 1000 (y6S _ _ _ _ p i m o4 N L) ?_;refine zU (e':=(List.length p:Int)) (by first|rfl|rw[zq3]) ?_;rintro _ rfl;refine zD decide_eq_true_iff h (fun _ h=>?_) (fun _ h=>?_)
  ·obtain⟨x,hx,h⟩:=zC h;refine⟨zF (l:=p) (zA.sz),vO hx,x.K,x.N,x.S,List.map zA.toD x.L,x.From,x.To,zL (zA.toD_eq x) hx,?_⟩;obtain⟨q1,g,h⟩:=zC h;refine⟨_,_,⟨_,w2x _ _ _ g⟩,?_⟩;refine⟨by simp[zE,D.cells],?_⟩;refine⟨by first|rfl|decide|simp only[zq3,List.length_cons,List.length_nil,List.map_append,List.length_append],?_⟩;obtain⟨hP,h⟩:=uN h;refine⟨by first|exact hP|simpa using hP,?_⟩
   refine zU (e':=List.map Value.toD (L++[q1])) (by first|rfl|simp only[List.map_append,List.map_cons,List.map_nil,List.map_take,List.map_drop,List.map_set,List.map_replicate,zq3,Value.toD_eq]) ?_;refine⟨by first|rfl|decide|simp only[zq3,List.length_cons,List.length_nil,List.map_append,List.length_append],?_⟩;rintro _ rfl;exact w2y _ _ _ _ _ _ _ h
  cases h;exact⟨rfl,rfl⟩
theorem y4K(m t:zA)(r:Value)(h:vC m t=some r):y4u (.vC m t) r:=v2m (.vC m t) r h
theorem z6g(s:State)(r:Ref21Got)(h:z2t s=some r):Trip Tryz.prog 110 [.d (tS s)] [] [.d (tG r)] []:=by
 unfold z2t at h;refine zH 1000 (v1b _ _ _ _ s) ?_;cases h;exact⟨rfl,rfl⟩
theorem y7o(s:State)(n:Int)(r:State)(h:z4E s n=some r):Trip Tryz.prog 195 [.d (tS s),(nI n)] [] [.d (tS r)] []:=by
 unfold z4E at h;refine zH 1000 (v5Q _ _ _ _ s n) ?_;refine⟨zF (l:=s.Locals) (Value.sz),?_⟩;obtain⟨hP,h⟩:=uN h;refine⟨by first|exact hP|simpa using hP,?_⟩;obtain⟨hP,h⟩:=uN h;refine⟨by first|exact hP|simpa using hP,?_⟩;obtain⟨hP,h⟩:=uN h;refine⟨by first|exact hP|simpa using hP,?_⟩
 refine zU (e':=List.map Value.toD (List.drop 0 (List.take (Int.toNat n) s.Locals))) (by first|rfl|simp only[List.map_append,List.map_cons,List.map_nil,List.map_take,List.map_drop,List.map_set,List.map_replicate,zq3,Value.toD_eq]) ?_;cases h;exact⟨rfl,rfl⟩
theorem z8P(s:State)(v:Value)(r:State)(h:z3k s v=some r):Trip Tryz.prog 196 [.d (tS s),.d (tV v)] [] [.d (tS r)] []:=by
 unfold z3k at h;refine zH 1000 (v1d _ _ _ _ s v) ?_;refine⟨zF (l:=s.Locals) (Value.sz),?_⟩;refine⟨by first|rfl|decide|simp only[zq3,List.length_cons,List.length_nil,List.map_append,List.length_append],?_⟩;obtain⟨hP,h⟩:=uN h;refine⟨by first|exact hP|simpa using hP,?_⟩;refine zU (e':=List.map Value.toD (([]:List Value)++s.Locals)) (by first|rfl|simp only[List.map_append,List.map_cons,List.map_nil,List.map_take,List.map_drop,List.map_set,List.map_replicate,zq3,Value.toD_eq]) ?_
 refine⟨by simp[zE,D.cells],?_⟩;refine⟨by first|rfl|decide|simp only[zq3,List.length_cons,List.length_nil,List.map_append,List.length_append],?_⟩;obtain⟨hP,h⟩:=uN h;refine⟨by first|exact hP|simpa using hP,?_⟩;refine zU (e':=List.map Value.toD ((([]:List Value)++s.Locals)++[v])) (by first|rfl|simp only[List.map_append,List.map_cons,List.map_nil,List.map_take,List.map_drop,List.map_set,List.map_replicate,zq3,Value.toD_eq]) ?_;cases h;exact⟨rfl,rfl⟩
theorem y2h(s r:State)(h:z1v s=some r):Trip Tryz.prog 109 [.d (tS s)] [] [.d (tS r)] []:=by
 unfold z1v at h;refine zH 1000 (v5T _ _ _ _ s) ?_;rintro _ rfl;refine zD zq2 h (fun hc428 h=>?_) (fun hc428 h=>?_)
 ·rintro _ rfl;refine zD decide_eq_true_iff h (fun _ h=>?_) (fun _ h=>?_)
  ·cases h;exact⟨rfl,rfl⟩
  rintro _ rfl;refine gY zq2 hc428 ?_;rintro _ rfl;cases h;exact⟨rfl,rfl⟩
 rintro _ rfl;refine uC zq2 hc428 ?_;cases h;exact⟨rfl,rfl⟩
def y7k:(i:z2Y)→y2c i→Prop
 |.uA v way x,r=>Trip Tryz.prog 245 [.d (tV v),.d (.sl (List.map (D.int .i64) way)),.d (tV x)] [] [.d (tV r)] []
 |.wB way out i v x o6,r=>Ok (y2m (Trip Tryz.prog) [.d (tV r)] []) (kL Tryz.f245 5) ⟨50,[(1,.d (.sl (List.map (D.int .i64) way))),(3,.ref 3 1 0),(5,.ref 5 1 0),(6,.ref 6 1 0),(7,.right 13 1 2 (List.map Value.toD out)),(8,(nI i))],[(3,1,some (.agg (tV v))),(5,1,some (.agg (tV x))),(6,1,some (.agg (tV o6))),(13,1,some (.tok 2 (List.length (List.map Value.toD out))))],[],0⟩
theorem v5c:∀i r,uV z5q i=some r→y7k i r:=by
 refine zP y1Z fun g ih i=>?_;cases i with
 |uA v way x=>
  have w2w:=fun way out i v x o6 r h=>ih (.wB way out i v x o6) r h;intro r h;replace h:z4s (fun way out i v x o6=>g (z2Y.wB way out i v x o6)) v way x=some r:=h;unfold z4s at h;refine zH 1000 (v5M _ _ _ _ v way x) ?_;refine zU (e':=(List.length way:Int)) (by first|rfl|rw[zq3]) ?_;rintro _ rfl;refine zD zq2 h (fun _ h=>?_) (fun _ h=>?_)
  ·cases h;exact⟨rfl,rfl⟩
  exact w2w _ _ _ _ _ _ _ h
 |wB way out i v x o6=>
  have w2v:=fun v way x r h=>ih (.uA v way x) r h;have w2w:=fun way out i v x o6 r h=>ih (.wB way out i v x o6) r h;intro r h;replace h:z1s (fun v way x=>g (z2Y.uA v way x)) (fun way out i v x o6=>g (z2Y.wB way out i v x o6)) way out i v x o6=some r:=h;unfold z1s at h;refine jN 1000 (y8L _ _ _ _ way out i v x o6) ?_;refine zU (e':=(List.length v.L:Int)) (by first|rfl|rw[zq3]) ?_;rintro _ rfl;refine zD decide_eq_true_iff h (fun _ h=>?_) (fun _ h=>?_)
  ·obtain⟨x1,hx,h⟩:=zC h;refine⟨zF (l:=way) (fun _=>rfl),vO hx,x1,zL rfl hx,?_⟩;rintro _ rfl;refine zD zq2 h (fun _ h=>?_) (fun _ h=>?_)
   ·obtain⟨x2,hx,h⟩:=zC h;refine⟨zF (l:=v.L) (Value.sz),vO hx,x2.N,List.map Value.toD x2.L,zL (Value.toD_eq x2) hx,?_⟩;refine⟨zF (l:=way) (fun _=>rfl),?_⟩;obtain⟨hP,h⟩:=uN h;refine⟨by first|exact hP|simpa using hP,?_⟩;obtain⟨hP,h⟩:=uN h;refine⟨by first|exact hP|simpa using hP,?_⟩;obtain⟨hP,h⟩:=uN h;refine⟨by first|exact hP|simpa using hP,?_⟩
    refine zU (e':=List.map (D.int .i64) (List.drop (Int.toNat 1) (List.take (List.length way) way))) (by first|rfl|simp only[List.map_append,List.map_cons,List.map_nil,List.map_take,List.map_drop,List.map_set,List.map_replicate,zq3]) ?_;obtain⟨q1,g,h⟩:=zC h;refine⟨_,_,⟨_,w2v _ _ _ _ g⟩,?_⟩;refine⟨by simp[zE,D.cells],?_⟩;refine⟨by first|rfl|decide|simp only[zq3,List.length_cons,List.length_nil,List.map_append,List.length_append],?_⟩;obtain⟨hP,h⟩:=uN h;refine⟨by first|exact hP|simpa using hP,?_⟩
    refine zU (e':=List.map Value.toD (out++[q1])) (by first|rfl|simp only[List.map_append,List.map_cons,List.map_nil,List.map_take,List.map_drop,List.map_set,List.map_replicate,zq3,Value.toD_eq]) ?_;rintro _ rfl;exact w2w _ _ _ _ _ _ _ h
   obtain⟨x3,hx,h⟩:=zC h;refine⟨zF (l:=v.L) (Value.sz),vO hx,x3.N,List.map Value.toD x3.L,zL (Value.toD_eq x3) hx,?_⟩;refine⟨by simp[zE,D.cells],?_⟩;refine⟨by first|rfl|decide|simp only[zq3,List.length_cons,List.length_nil,List.map_append,List.length_append],?_⟩;obtain⟨hP,h⟩:=uN h;refine⟨by first|exact hP|simpa using hP,?_⟩
   refine zU (e':=List.map Value.toD (out++[x3])) (by first|rfl|simp only[List.map_append,List.map_cons,List.map_nil,List.map_take,List.map_drop,List.map_set,List.map_replicate,zq3,Value.toD_eq]) ?_;rintro _ rfl;exact w2w _ _ _ _ _ _ _ h
  cases h;exact⟨rfl,rfl⟩
theorem y7n(v:Value)(way:List Int)(x r:Value)(h:uA v way x=some r):y7k (.uA v way x) r:=v5c (.uA v way x) r h
theorem y4P(l:List Value)(at_:Int)(v:Value)(r:List Value)(h:z4P l at_ v=some r):Trip Tryz.prog 244 [.d (.sl (List.map Value.toD l)),(nI at_),.d (tV v)] [] [.d (.sl (List.map Value.toD r))] []:=by
 unfold z4P at h;refine zH 1000 (v3G _ _ _ _ l at_ v) ?_;refine⟨zF (l:=l) (Value.sz),?_⟩;obtain⟨hP,h⟩:=uN h;refine⟨by first|exact hP|simpa using hP,?_⟩;obtain⟨hP,h⟩:=uN h;refine⟨by first|exact hP|simpa using hP,?_⟩;obtain⟨hP,h⟩:=uN h;refine⟨hP.1,by first|exact hP.2|(simp only[zq3]at hP ⊢;exact hP.2),?_⟩;obtain⟨hP,h⟩:=uN h;refine⟨by first|exact hP|(rw[zq3];exact hP),?_⟩;refine zU (e':=List.map Value.toD (l.set (Int.toNat at_) v)) (w0Q (Value.toD_eq v)) ?_;cases h;exact⟨rfl,rfl⟩
def y7j:(i:z9E)→y2b i→Prop
 |.uU v way,r=>Trip Tryz.prog 263 [.d (tV v),.d (.sl (List.map (D.int .i64) way))] [] [.d (tV r)] []
theorem v5b:∀i r,uV z9D i=some r→y7j i r:=by
 refine zP y7i fun g ih i=>?_;cases i with
 |uU v way=>
  have w2q:=fun v way r h=>ih (.uU v way) r h;intro r h;replace h:z4r (fun v way=>g (z9E.uU v way)) v way=some r:=h;unfold z4r at h;refine zH 1000 (v5L _ _ _ _ v way) ?_;refine zU (e':=(List.length way:Int)) (by first|rfl|rw[zq3]) ?_;rintro _ rfl;refine zD zq2 h (fun _ h=>?_) (fun _ h=>?_)
  ·cases h;exact⟨rfl,rfl⟩
  obtain⟨x,hx,h⟩:=zC h;refine⟨zF (l:=way) (fun _=>rfl),vO hx,x,zL rfl hx,?_⟩;obtain⟨x1,hx,h⟩:=zC h;refine⟨zF (l:=v.L) (Value.sz),vO hx,x1.N,List.map Value.toD x1.L,zL (Value.toD_eq x1) hx,?_⟩;refine⟨zF (l:=way) (fun _=>rfl),?_⟩;obtain⟨hP,h⟩:=uN h;refine⟨by first|exact hP|simpa using hP,?_⟩;obtain⟨hP,h⟩:=uN h;refine⟨by first|exact hP|simpa using hP,?_⟩;obtain⟨hP,h⟩:=uN h;refine⟨by first|exact hP|simpa using hP,?_⟩
  refine zU (e':=List.map (D.int .i64) (List.drop (Int.toNat 1) (List.take (List.length way) way))) (by first|rfl|simp only[List.map_append,List.map_cons,List.map_nil,List.map_take,List.map_drop,List.map_set,List.map_replicate,zq3]) ?_;obtain⟨q1,g,h⟩:=zC h;refine⟨_,_,⟨_,w2q _ _ _ g⟩,?_⟩;cases h;exact⟨rfl,rfl⟩
theorem v5d(v:Value)(way:List Int)(r:Value)(h:uU v way=some r):y7j (.uU v way) r:=v5b (.uU v way) r h
theorem z4e(n:Int)(s:State)(r:Ref21Got)(h:z0D n s=some r):Trip Tryz.prog 112 [(nI n),.d (tS s)] [] [.d (tG r)] []:=by
 unfold z0D at h;refine zH 1000 (v3K _ _ _ _ n s) ?_;cases h;exact⟨rfl,rfl⟩
theorem z2Z(n:Int)(s:State)(r:Ref21Got)(h:z1u n s=some r):Trip Tryz.prog 111 [(nI n),.d (tS s)] [] [.d (tG r)] []:=by
 unfold z1u at h;refine zH 1000 (v5S _ _ _ _ n s) ?_;cases h;exact⟨rfl,rfl⟩
def z8a:(i:z2L)→z4W i→Prop
 |.yF a b q left i,r=>Ok (z7v (Trip Tryz.prog) [.d (.int .u64 r.1),.d (.int .u64 r.2)] []) (kL Tryz.f260 4) ⟨39,[(0,.d (.int .u64 a)),(1,.d (.int .u64 b)),(6,.d (.int .u64 q)),(7,.d (.int .u64 left)),(8,(nI i))],[],[],0⟩
theorem y3q:∀i r,uV z2E i=some r→z8a i r:=by
 refine zP z7S fun g ih i=>?_;cases i with
 |yF a b q left i=>
  have w2z:=fun a b q left i r h=>ih (.yF a b q left i) r h;intro r h;replace h:gN (fun a b q left i=>g (z2L.yF a b q left i)) a b q left i=some r:=h;unfold gN at h;refine jN 1000 (y3L _ _ _ _ a b q left i) ?_;rintro _ rfl;refine zD decide_eq_true_iff h (fun _ h=>?_) (fun _ h=>?_)
  ·rintro _ rfl;rintro _ rfl;rintro _ rfl;obtain⟨hP,h⟩:=uN h;refine⟨by first|exact hP|simpa using hP,?_⟩;rintro _ rfl;obtain⟨hP,h⟩:=uN h;refine⟨by first|exact hP|simpa using hP,?_⟩;rintro _ rfl;rintro _ rfl;rintro _ rfl;refine zD decide_eq_true_iff h (fun _ h=>?_) (fun _ h=>?_)
   ·rintro _ rfl;rintro _ rfl;rintro _ rfl;exact w2z _ _ _ _ _ _ h
   rintro _ rfl;refine zD decide_eq_true_iff h (fun _ h=>?_) (fun _ h=>?_)
   ·rintro _ rfl;rintro _ rfl;rintro _ rfl;exact w2z _ _ _ _ _ _ h
   rintro _ rfl;exact w2z _ _ _ _ _ _ h
  cases h;exact⟨rfl,rfl⟩
theorem y3y(a b q left i:Int)(r:Int×Int)(h:yF a b q left i=some r):z8a (.yF a b q left i) r:=y3q (.yF a b q left i) r h
theorem y8e(a b:Int)(r:Int×Int)(h:z6b a b=some r):Trip Tryz.prog 260 [.d (.int .u64 a),.d (.int .u64 b)] [] [.d (.int .u64 r.1),.d (.int .u64 r.2)] []:=by
 unfold z6b at h;refine zH 1000 (y8M _ _ _ _ a b) ?_;exact y3y _ _ _ _ _ _ h
theorem y4L(a r:Int)(h:z6S a=some r):Trip Tryz.prog 261 [(nI a)] [] [.d (.int .u64 r)] []:=by
 unfold z6S at h;refine zH 1000 (v3C _ _ _ _ a) ?_;rintro _ rfl;refine zD decide_eq_true_iff h (fun _ h=>?_) (fun _ h=>?_)
 ·rintro _ rfl;rintro _ rfl;rintro _ rfl;rintro _ rfl;cases h;exact⟨rfl,rfl⟩
 rintro _ rfl;cases h;exact⟨rfl,rfl⟩
theorem z8O(a b:Int)(r:Int×Int)(h:z2r a b=some r):Trip Tryz.prog 232 [(nI a),(nI b)] [] [(nI r.1),(nI r.2)] []:=by
 unfold z2r at h;refine zH 1000 (y5w _ _ _ _ a b) ?_;obtain⟨q1,g,h⟩:=zC h;refine⟨_,⟨_,y4L _ _ g⟩,?_⟩;obtain⟨q2,g,h⟩:=zC h;refine⟨_,⟨_,y4L _ _ g⟩,?_⟩;obtain⟨q3,g,h⟩:=zC h;refine⟨_,_,⟨_,y8e _ _ _ g⟩,?_⟩;rintro _ rfl;rintro _ rfl;rintro _ rfl;rintro _ rfl;rintro _ rfl;refine zG zq2 h (fun _ h=>?_) (fun _ h=>?_)
 ·rintro _ rfl;refine zD decide_eq_true_iff h (fun _ h=>?_) (fun _ h=>?_)
  ·rintro _ rfl;rintro _ rfl;cases h;exact⟨rfl,rfl⟩
  cases h;exact⟨rfl,rfl⟩
 rintro _ rfl;rintro _ rfl;rintro _ rfl;refine zD decide_eq_true_iff h (fun _ h=>?_) (fun _ h=>?_)
 ·rintro _ rfl;rintro _ rfl;cases h;exact⟨rfl,rfl⟩
 cases h;exact⟨rfl,rfl⟩
def z8C:(i:z3z)→z5F i→Prop
 |.yZ x y out,r=>Ok (z9c (Trip Tryz.prog) [(nI r)] []) (kL Tryz.f231 4) ⟨27,[(5,.d (.int .u64 x)),(6,.d (.int .u64 y)),(7,.d (.int .u64 out))],[],[],0⟩
theorem y4k:∀i r,uV z3s i=some r→z8C i r:=by
 refine zP z8u fun g ih i=>?_;cases i with
 |yZ x y out=>
  have w2A:=fun x y out r h=>ih (.yZ x y out) r h;intro r h;replace h:z0Y (fun x y out=>g (z3z.yZ x y out)) x y out=some r:=h;unfold z0Y at h;refine jN 1000 (y5x _ _ _ _ x y out) ?_;rintro _ rfl;refine zD decide_eq_true_iff h (fun _ h=>?_) (fun _ h=>?_)
  ·obtain⟨hP,h⟩:=uN h;refine⟨by first|exact hP|simpa using hP,?_⟩;rintro _ rfl;rintro _ rfl;refine zD zq2 h (fun _ h=>?_) (fun _ h=>?_)
   ·rintro _ rfl;rintro _ rfl;obtain⟨hP,h⟩:=uN h;refine⟨by first|exact hP|simpa using hP,?_⟩;rintro _ rfl;exact w2A _ _ _ _ h
   rintro _ rfl;obtain⟨hP,h⟩:=uN h;refine⟨by first|exact hP|simpa using hP,?_⟩;rintro _ rfl;exact w2A _ _ _ _ h
  rintro _ rfl;cases h;exact⟨rfl,rfl⟩
theorem y4M(x y out r:Int)(h:yZ x y out=some r):z8C (.yZ x y out) r:=y4k (.yZ x y out) r h
theorem y9X(a b r:Int)(h:z6T a b=some r):Trip Tryz.prog 231 [(nI a),(nI b)] [] [(nI r)] []:=by
 unfold z6T at h;refine zH 1000 (v0Z _ _ _ _ a b) ?_;rintro _ rfl;rintro _ rfl;exact y4M _ _ _ _ h
theorem v5f(op a b:Int)(r:Int×Int)(h:z2N op a b=some r):Trip Tryz.prog 175 [(nI op),(nI a),(nI b)] [] [(nI r.1),(nI r.2)] []:=by
 unfold z2N at h;refine zH 1000 (v5O _ _ _ _ op a b) ?_;rintro _ rfl;refine zD zq2 h (fun _ h=>?_) (fun _ h=>?_)
 ·rintro _ rfl;refine zD zq2 h (fun _ h=>?_) (fun _ h=>?_)
  ·rintro _ rfl;obtain⟨q1,g,h⟩:=zC h;refine⟨_,⟨_,z0g _ _ g⟩,?_⟩;cases h;exact⟨rfl,rfl⟩
  obtain⟨q2,g,h⟩:=zC h;refine⟨_,⟨_,z0g _ _ g⟩,?_⟩;cases h;exact⟨rfl,rfl⟩
 rintro _ rfl;refine zD zq2 h (fun _ h=>?_) (fun _ h=>?_)
 ·rintro _ rfl;refine zD zq2 h (fun _ h=>?_) (fun _ h=>?_)
  ·obtain⟨q3,g,h⟩:=zC h;refine⟨_,⟨_,z0g _ _ g⟩,?_⟩;cases h;exact⟨rfl,rfl⟩
  rintro _ rfl;obtain⟨q4,g,h⟩:=zC h;refine⟨_,⟨_,z0g _ _ g⟩,?_⟩;cases h;exact⟨rfl,rfl⟩
 rintro _ rfl;refine zD zq2 h (fun _ h=>?_) (fun _ h=>?_)
 ·rintro _ rfl;rintro _ rfl;rintro _ rfl;obtain⟨q5,g,h⟩:=zC h;refine⟨_,⟨_,z0g _ _ g⟩,?_⟩;cases h;exact⟨rfl,rfl⟩
 rintro _ rfl;refine zD zq2 h (fun _ h=>?_) (fun _ h=>?_)
 ·rintro _ rfl;rintro _ rfl;rintro _ rfl;obtain⟨q6,g,h⟩:=zC h;refine⟨_,⟨_,z0g _ _ g⟩,?_⟩;cases h;exact⟨rfl,rfl⟩
 rintro _ rfl;refine zD zq2 h (fun _ h=>?_) (fun _ h=>?_)
 ·rintro _ rfl;rintro _ rfl;rintro _ rfl;obtain⟨q7,g,h⟩:=zC h;refine⟨_,⟨_,z0g _ _ g⟩,?_⟩;cases h;exact⟨rfl,rfl⟩
 rintro _ rfl;refine zD zq2 h (fun _ h=>?_) (fun _ h=>?_)
 ·rintro _ rfl;rintro _ rfl;rintro _ rfl;obtain⟨q8,g,h⟩:=zC h;refine⟨_,⟨_,z0g _ _ g⟩,?_⟩;cases h;exact⟨rfl,rfl⟩
 rintro _ rfl;refine zD zq2 h (fun _ h=>?_) (fun _ h=>?_)
 ·rintro _ rfl;rintro _ rfl;rintro _ rfl;obtain⟨q9,g,h⟩:=zC h;refine⟨_,⟨_,z0g _ _ g⟩,?_⟩;cases h;exact⟨rfl,rfl⟩
 rintro _ rfl;refine zD zq2 h (fun _ h=>?_) (fun _ h=>?_)
 ·rintro _ rfl;rintro _ rfl;rintro _ rfl;obtain⟨q10,g,h⟩:=zC h;refine⟨_,⟨_,z0g _ _ g⟩,?_⟩;cases h;exact⟨rfl,rfl⟩
 rintro _ rfl;refine zD zq2 h (fun _ h=>?_) (fun _ h=>?_)
 ·rintro _ rfl;rintro _ rfl;rintro _ rfl;rintro _ rfl;cases h;exact⟨rfl,rfl⟩
 rintro _ rfl;refine zD zq2 h (fun _ h=>?_) (fun _ h=>?_)
 ·rintro _ rfl;rintro _ rfl;rintro _ rfl;rintro _ rfl;cases h;exact⟨rfl,rfl⟩
 rintro _ rfl;refine zD zq2 h (fun _ h=>?_) (fun _ h=>?_)
 ·obtain⟨q11,g,h⟩:=zC h;refine⟨_,⟨_,y9X _ _ _ g⟩,?_⟩;cases h;exact⟨rfl,rfl⟩
 rintro _ rfl;refine zG zq2 h (fun hc456 h=>?_) (fun hc456 h=>?_)
 ·rintro _ rfl;refine zD zq2 h (fun _ h=>?_) (fun _ h=>?_)
  ·cases h;exact⟨rfl,rfl⟩
  obtain⟨q13,g,h⟩:=zC h;refine⟨_,_,⟨_,z8O _ _ _ g⟩,?_⟩;rintro _ rfl;refine gY zq2 hc456 ?_;cases h;exact⟨rfl,rfl⟩
 rintro _ rfl;refine zG zq2 h (fun _ h=>?_) (fun _ h=>?_)
 ·rintro _ rfl;refine zD zq2 h (fun _ h=>?_) (fun _ h=>?_)
  ·cases h;exact⟨rfl,rfl⟩
  obtain⟨q12,g,h⟩:=zC h;refine⟨_,_,⟨_,z8O _ _ _ g⟩,?_⟩;rintro _ rfl;refine uC zq2 hc456 ?_;cases h;exact⟨rfl,rfl⟩
 cases h;exact⟨rfl,rfl⟩
def y4v:(i:zJ)→y0F i→Prop
 |.zK m s t,r=>Trip Tryz.prog 55 [.d (tT m),.d (tS s),.d (tT t)] [] [.d (tG r)] []
 |.z1x m s t,r=>Trip Tryz.prog 113 [.d (tT m),.d (tS s),.d (tT t)] [] [.d (tG r)] []
 |.gU m s l,r=>Trip Tryz.prog 114 [.d (tT m),.d (tS s),.d (.sl (List.map zA.toD l))] [] [.d (.sl (List.map Value.toD r.1)),.d (tS r.2)] []
 |.vV l out i m s o7,r=>Ok (y0T (Trip Tryz.prog) [.d (.sl (List.map Value.toD r.1)),.d (tS r.2)] []) (kL Tryz.f114 3) ⟨34,[(2,.d (.sl (List.map zA.toD l))),(3,.ref 3 1 0),(4,.ref 4 1 0),(7,.ref 7 1 0),(8,.right 11 1 2 (List.map Value.toD out)),(9,(nI i))],[(3,1,some (.agg (tT m))),(4,1,some (.agg (tS s))),(7,1,some (.agg (tS o7))),(11,1,some (.tok 2 (List.length (List.map Value.toD out))))],[],0⟩
 |.uE m s f args,r=>Trip Tryz.prog 116 [.d (tT m),.d (tS s),(nI f),.d (.sl (List.map Value.toD args))] [] [.d (tG r)] []
 |.zY m s t,r=>Trip Tryz.prog 130 [.d (tT m),.d (tS s),.d (tT t)] [] [.d (tS r)] []
 |.yO n i m s t o6,r=>Ok (y0U (Trip Tryz.prog) [.d (tS r)] []) (kL Tryz.f130 7) ⟨139,[(3,.ref 3 1 0),(4,.ref 4 1 0),(5,.ref 5 1 0),(6,.ref 6 1 0),(7,(nI n)),(8,(nI i))],[(3,1,some (.agg (tT m))),(4,1,some (.agg (tS s))),(5,1,some (.agg (tT t))),(6,1,some (.agg (tS o6)))],[],0⟩
 |.z1w m s t,r=>Trip Tryz.prog 197 [.d (tT m),.d (tS s),.d (tT t)] [] [.d (tS r)] []
 |.vP m s t o6 x root,r=>Ok (y2p (Trip Tryz.prog) [.d (tS r)] []) (kL Tryz.f197 6) ⟨123,[(3,.ref 3 1 0),(4,.ref 4 1 0),(5,.ref 5 1 0),(6,.ref 6 1 0),(7,.ref 7 1 0),(8,.ref 8 1 0)],[(3,1,some (.agg (tT m))),(4,1,some (.agg (tS s))),(5,1,some (.agg (tT t))),(6,1,some (.agg (tS o6))),(7,1,some (.agg (tG x))),(8,1,some (.agg (tT root)))],[],0⟩
 |.jM m x t,r=>Trip Tryz.prog 198 [.d (tT m),.d (tG x),.d (tT t)] [] [.d (tS r)] []
 |.yD m x t o6,r=>Ok (z9e (Trip Tryz.prog) [.d (tS r)] []) (kL Tryz.f198 1) ⟨36,[(3,.ref 3 1 0),(4,.ref 4 1 0),(5,.ref 5 1 0),(6,.ref 6 1 0)],[(3,1,some (.agg (tT m))),(4,1,some (.agg (tG x))),(5,1,some (.agg (tT t))),(6,1,some (.agg (tS o6)))],[],0⟩
 |.z0R m from_ t,r=>Trip Tryz.prog 199 [.d (tT m),.d (tG from_),.d (tT t)] [] [.d (tS r)] []
 |.wC n i m t o6 to_ s,r=>Ok (y2o (Trip Tryz.prog) [.d (tS r)] []) (kL Tryz.f199 7) ⟨58,[(3,.ref 3 1 0),(5,.ref 5 1 0),(6,.ref 6 1 0),(7,.ref 7 1 0),(8,.ref 8 1 0),(9,(nI n)),(10,(nI i))],[(3,1,some (.agg (tT m))),(5,1,some (.agg (tT t))),(6,1,some (.agg (tS o6))),(7,1,some (.agg (tG to_))),(8,1,some (.agg (tS s)))],[],0⟩
 |.uR m s t kept,r=>Trip Tryz.prog 243 [.d (tT m),.d (tS s),.d (tT t),.d (tV kept)] [] [.own 1 (List.map (D.int .i64) r.1),.d (tS r.2)] []
theorem v2n:∀i r,uV yH i=some r→y4v i r:=by
 refine zP uW fun g ih i=>?_;cases i with
 |zK m s t=>
  have w2P:=fun m s t r h=>ih (.z1x m s t) r h;have w2I:=fun m s l r h=>ih (.gU m s l) r h;have w2D:=fun m s f args r h=>ih (.uE m s f args) r h;intro r h;replace h:uF (fun m s t=>g (zJ.z1x m s t)) (fun m s l=>g (zJ.gU m s l)) (fun m s f args=>g (zJ.uE m s f args)) m s t=some r:=h;unfold uF at h;refine zH 1000 (v3E _ _ _ _ m s t) ?_;obtain⟨q1,g,h⟩:=zC h;refine⟨_,_,_,_,_,_,_,_,_,_,⟨_,y2h _ _ g⟩,?_⟩;rintro _ rfl;refine zG zq2 h (fun _ h=>?_) (fun _ h=>?_)
  ·rintro _ rfl;refine zD zq2 h (fun _ h=>?_) (fun _ h=>?_)
   ·obtain⟨q3,g,h⟩:=zC h;refine⟨_,_,_,_,_,_,_,_,_,_,_,_,⟨_,z2Z _ _ _ g⟩,?_⟩;cases h;exact⟨rfl,rfl⟩
   rintro _ rfl;refine zD zq2 h (fun _ h=>?_) (fun _ h=>?_)
   ·obtain⟨q4,g,h⟩:=zC h;refine⟨_,_,_,_,_,_,_,_,_,_,_,_,⟨_,z2Z _ _ _ g⟩,?_⟩;cases h;exact⟨rfl,rfl⟩
   rintro _ rfl;refine zD zq2 h (fun _ h=>?_) (fun _ h=>?_)
   ·refine zU (e':=(List.length q1.Locals:Int)) (by first|rfl|rw[zq3]) ?_;rintro _ rfl;rintro _ rfl;obtain⟨x,hx,h⟩:=zC h;refine⟨zF (l:=q1.Locals) (Value.sz),vO hx,x.N,List.map Value.toD x.L,zL (Value.toD_eq x) hx,?_⟩;cases h;exact⟨rfl,rfl⟩
   rintro _ rfl;refine zD zq2 h (fun _ h=>?_) (fun _ h=>?_)
   ·obtain⟨x1,hx,h⟩:=zC h;refine⟨zF (l:=q1.Globals) (Value.sz),vO hx,x1.N,List.map Value.toD x1.L,zL (Value.toD_eq x1) hx,?_⟩;cases h;exact⟨rfl,rfl⟩
   rintro _ rfl;refine zD zq2 h (fun _ h=>?_) (fun _ h=>?_)
   ·obtain⟨x2,hx,h⟩:=zC h;refine⟨zF (l:=m.L) (zA.sz),vO hx,x2.K,x2.N,x2.S,List.map zA.toD x2.L,x2.From,x2.To,zL (zA.toD_eq x2) hx,?_⟩;obtain⟨x3,hx,h⟩:=zC h;refine⟨zF (l:=x2.L) (zA.sz),vO hx,x3.K,x3.N,x3.S,List.map zA.toD x3.L,x3.From,x3.To,zL (zA.toD_eq x3) hx,?_⟩;obtain⟨q5,g,h⟩:=zC h;refine⟨_,_,_,_,_,_,_,_,_,_,_,_,⟨_,z2Z _ _ _ g⟩,?_⟩;cases h;exact⟨rfl,rfl⟩
   rintro _ rfl;refine zD zq2 h (fun hc466 h=>?_) (fun hc466 h=>?_)
   ·refine zU (e':=(List.length q1.Input:Int)) (by first|rfl|rw[zq3]) ?_;rintro _ rfl;refine zD decide_eq_true_iff h (fun _ h=>?_) (fun _ h=>?_)
    ·obtain⟨q6,g,h⟩:=zC h;refine⟨_,_,_,_,_,_,_,_,_,_,_,_,⟨_,z4e _ _ _ g⟩,?_⟩;cases h;exact⟨rfl,rfl⟩
    rintro _ rfl;refine gY zq2 hc466 ?_;rintro _ rfl;rintro _ rfl;obtain⟨x4,hx,h⟩:=zC h;refine⟨zF (l:=q1.Input) (fun _=>rfl),vO hx,x4,zL rfl hx,?_⟩;obtain⟨q7,g,h⟩:=zC h;refine⟨_,_,_,_,_,_,_,_,_,_,_,_,⟨_,z2Z _ _ _ g⟩,?_⟩;cases h;exact⟨rfl,rfl⟩
   rintro _ rfl;refine uC zq2 hc466 ?_;rintro _ rfl;refine zD zq2 h (fun _ h=>?_) (fun _ h=>?_)
   ·obtain⟨q17,g,h⟩:=zC h;refine⟨_,_,_,_,_,_,_,_,_,_,_,_,⟨_,w2P _ _ _ _ g⟩,?_⟩;cases h;exact⟨rfl,rfl⟩
   obtain⟨q18,g,h⟩:=zC h;refine⟨_,_,_,_,_,_,_,_,_,_,_,⟨_,w2I _ _ _ _ g⟩,?_⟩;rintro _ rfl;refine zG zq2 h (fun _ h=>?_) (fun _ h=>?_)
   ·rintro _ rfl;refine zD zq2 h (fun _ h=>?_) (fun _ h=>?_)
    ·obtain⟨x15,hx,h⟩:=zC h;refine⟨zF (l:=q18.1) (Value.sz),vO hx,x15.N,List.map Value.toD x15.L,zL (Value.toD_eq x15) hx,?_⟩;obtain⟨q20,g,h⟩:=zC h;refine⟨_,⟨_,v5e _ _ _ g⟩,?_⟩;obtain⟨q21,g,h⟩:=zC h;refine⟨_,_,_,_,_,_,_,_,_,_,_,_,⟨_,z2Z _ _ _ g⟩,?_⟩;cases h;exact⟨rfl,rfl⟩
    rintro _ rfl;refine zD zq2 h (fun _ h=>?_) (fun _ h=>?_)
    ·obtain⟨x16,hx,h⟩:=zC h;refine⟨zF (l:=q18.1) (Value.sz),vO hx,x16.N,List.map Value.toD x16.L,zL (Value.toD_eq x16) hx,?_⟩;rintro _ rfl;refine zD decide_eq_true_iff h (fun _ h=>?_) (fun _ h=>?_)
     ·obtain⟨q22,g,h⟩:=zC h;refine⟨_,_,_,_,_,_,_,_,_,_,_,_,⟨_,z4e _ _ _ g⟩,?_⟩;cases h;exact⟨rfl,rfl⟩
     obtain⟨x17,hx,h⟩:=zC h;refine⟨zF (l:=q18.1) (Value.sz),vO hx,x17.N,List.map Value.toD x17.L,zL (Value.toD_eq x17) hx,?_⟩;obtain⟨x18,hx,h⟩:=zC h;refine⟨zF (l:=q18.1) (Value.sz),vO hx,x18.N,List.map Value.toD x18.L,zL (Value.toD_eq x18) hx,?_⟩;refine zU (e':=(List.length x18.L:Int)) (by first|rfl|rw[zq3]) ?_;rintro _ rfl;refine zD decide_eq_true_iff h (fun _ h=>?_) (fun _ h=>?_)
     ·obtain⟨q23,g,h⟩:=zC h;refine⟨_,_,_,_,_,_,_,_,_,_,_,_,⟨_,z4e _ _ _ g⟩,?_⟩;cases h;exact⟨rfl,rfl⟩
     obtain⟨x19,hx,h⟩:=zC h;refine⟨zF (l:=q18.1) (Value.sz),vO hx,x19.N,List.map Value.toD x19.L,zL (Value.toD_eq x19) hx,?_⟩;obtain⟨x20,hx,h⟩:=zC h;refine⟨zF (l:=q18.1) (Value.sz),vO hx,x20.N,List.map Value.toD x20.L,zL (Value.toD_eq x20) hx,?_⟩;obtain⟨x21,hx,h⟩:=zC h;refine⟨zF (l:=x19.L) (Value.sz),vO hx,x21.N,List.map Value.toD x21.L,zL (Value.toD_eq x21) hx,?_⟩;cases h;exact⟨rfl,rfl⟩
    rintro _ rfl;refine zD zq2 h (fun _ h=>?_) (fun _ h=>?_)
    ·obtain⟨x22,hx,h⟩:=zC h;refine⟨zF (l:=q18.1) (Value.sz),vO hx,x22.N,List.map Value.toD x22.L,zL (Value.toD_eq x22) hx,?_⟩;obtain⟨hP,h⟩:=uN h;refine⟨by first|exact hP|simpa using hP,?_⟩;rintro _ rfl;obtain⟨x23,hx,h⟩:=zC h;refine⟨zF (l:=x22.L) (Value.sz),vO hx,x23.N,List.map Value.toD x23.L,zL (Value.toD_eq x23) hx,?_⟩;cases h;exact⟨rfl,rfl⟩
    rintro _ rfl;refine zD zq2 h (fun _ h=>?_) (fun _ h=>?_)
    ·obtain⟨q24,g,h⟩:=zC h;refine⟨_,_,_,_,_,_,_,_,_,_,_,_,⟨_,w2D _ _ _ _ _ g⟩,?_⟩;cases h;exact⟨rfl,rfl⟩
    cases h;exact⟨rfl,rfl⟩
   obtain⟨q19,g,h⟩:=zC h;refine⟨_,_,_,_,_,_,_,_,_,_,_,_,⟨_,z6g _ _ g⟩,?_⟩;cases h;exact⟨rfl,rfl⟩
  obtain⟨q2,g,h⟩:=zC h;refine⟨_,_,_,_,_,_,_,_,_,_,_,_,⟨_,z6g _ _ g⟩,?_⟩;cases h;exact⟨rfl,rfl⟩
 |z1x m s t=>
  have w2E:=fun m s t r h=>ih (.zK m s t) r h;intro r h;replace h:z5y (fun m s t=>g (zJ.zK m s t)) m s t=some r:=h;unfold z5y at h;refine zH 1000 (v5V _ _ _ _ m s t) ?_;obtain⟨x,hx,h⟩:=zC h;refine⟨zF (l:=t.L) (zA.sz),vO hx,x.K,x.N,x.S,List.map zA.toD x.L,x.From,x.To,zL (zA.toD_eq x) hx,?_⟩;obtain⟨q1,g,h⟩:=zC h;refine⟨_,_,_,_,_,_,_,_,_,_,_,_,⟨_,w2E _ _ _ _ g⟩,?_⟩;rintro _ rfl;refine zG zq2 h (fun _ h=>?_) (fun _ h=>?_)
  ·rintro _ rfl;refine zD zq2 h (fun hc477 h=>?_) (fun hc477 h=>?_)
   ·rintro _ rfl;refine zD zq2 h (fun _ h=>?_) (fun _ h=>?_)
    ·obtain⟨q3,g,h⟩:=zC h;refine⟨_,_,_,_,_,_,_,_,_,_,_,_,⟨_,z2Z _ _ _ g⟩,?_⟩;cases h;exact⟨rfl,rfl⟩
    rintro _ rfl;refine uC zq2 (fun e=>absurd (hc477.symm.trans e) (by decide)) ?_;obtain⟨x2,hx,h⟩:=zC h;refine⟨zF (l:=t.L) (zA.sz),vO hx,x2.K,x2.N,x2.S,List.map zA.toD x2.L,x2.From,x2.To,zL (zA.toD_eq x2) hx,?_⟩;obtain⟨q9,g,h⟩:=zC h;refine⟨_,_,_,_,_,_,_,_,_,_,_,_,⟨_,w2E _ _ _ _ g⟩,?_⟩;rintro _ rfl;refine zG zq2 h (fun _ h=>?_) (fun _ h=>?_)
    ·rintro _ rfl;refine gY zq2 hc477 ?_;cases h;exact⟨rfl,rfl⟩
    cases h;exact⟨rfl,rfl⟩
   rintro _ rfl;refine zD zq2 h (fun hc480 h=>?_) (fun hc480 h=>?_)
   ·rintro _ rfl;refine zG zq2 h (fun _ h=>?_) (fun _ h=>?_)
    ·obtain⟨x3,hx,h⟩:=zC h;refine⟨zF (l:=t.L) (zA.sz),vO hx,x3.K,x3.N,x3.S,List.map zA.toD x3.L,x3.From,x3.To,zL (zA.toD_eq x3) hx,?_⟩;obtain⟨q14,g,h⟩:=zC h;refine⟨_,_,_,_,_,_,_,_,_,_,_,_,⟨_,w2E _ _ _ _ g⟩,?_⟩;rintro _ rfl;refine zG zq2 h (fun _ h=>?_) (fun _ h=>?_)
     ·rintro _ rfl;refine uC zq2 hc477 ?_;rintro _ rfl;refine gY zq2 hc480 ?_;cases h;exact⟨rfl,rfl⟩
     cases h;exact⟨rfl,rfl⟩
    obtain⟨q13,g,h⟩:=zC h;refine⟨_,_,_,_,_,_,_,_,_,_,_,_,⟨_,z2Z _ _ _ g⟩,?_⟩;cases h;exact⟨rfl,rfl⟩
   obtain⟨x4,hx,h⟩:=zC h;refine⟨zF (l:=t.L) (zA.sz),vO hx,x4.K,x4.N,x4.S,List.map zA.toD x4.L,x4.From,x4.To,zL (zA.toD_eq x4) hx,?_⟩;obtain⟨q18,g,h⟩:=zC h;refine⟨_,_,_,_,_,_,_,_,_,_,_,_,⟨_,w2E _ _ _ _ g⟩,?_⟩;rintro _ rfl;refine zG zq2 h (fun _ h=>?_) (fun _ h=>?_)
   ·rintro _ rfl;refine uC zq2 hc477 ?_;rintro _ rfl;refine uC zq2 hc480 ?_;obtain⟨q19,g,h⟩:=zC h;refine⟨_,_,⟨_,v5f _ _ _ _ g⟩,?_⟩;rintro _ rfl;refine zG zq2 h (fun _ h=>?_) (fun _ h=>?_)
    ·obtain⟨q21,g,h⟩:=zC h;refine⟨_,_,_,_,_,_,_,_,_,_,_,_,⟨_,z2Z _ _ _ g⟩,?_⟩;cases h;exact⟨rfl,rfl⟩
    obtain⟨q20,g,h⟩:=zC h;refine⟨_,_,_,_,_,_,_,_,_,_,_,_,⟨_,z4e _ _ _ g⟩,?_⟩;cases h;exact⟨rfl,rfl⟩
   cases h;exact⟨rfl,rfl⟩
  obtain⟨q2,g,h⟩:=zC h;refine⟨_,_,_,_,_,_,_,_,_,_,_,_,⟨_,z6g _ _ g⟩,?_⟩;cases h;exact⟨rfl,rfl⟩
 |gU m s l=>
  have w2J:=fun l out i m s o7 r h=>ih (.vV l out i m s o7) r h;intro r h;replace h:z4u (fun l out i m s o7=>g (zJ.vV l out i m s o7)) m s l=some r:=h;unfold z4u at h;refine zH 1000 (v3H _ _ _ _ m s l) ?_;exact w2J _ _ _ _ _ _ _ h
 |vV l out i m s o7=>
  have w2E:=fun m s t r h=>ih (.zK m s t) r h;have w2J:=fun l out i m s o7 r h=>ih (.vV l out i m s o7) r h;intro r h;replace h:z0O (fun m s t=>g (zJ.zK m s t)) (fun l out i m s o7=>g (zJ.vV l out i m s o7)) l out i m s o7=some r:=h;unfold z0O at h;refine jN 1000 (y6U _ _ _ _ l out i m s o7) ?_;refine zU (e':=(List.length l:Int)) (by first|rfl|rw[zq3]) ?_;rintro _ rfl;refine zD decide_eq_true_iff h (fun _ h=>?_) (fun _ h=>?_)
  ·obtain⟨x,hx,h⟩:=zC h;refine⟨zF (l:=l) (zA.sz),vO hx,x.K,x.N,x.S,List.map zA.toD x.L,x.From,x.To,zL (zA.toD_eq x) hx,?_⟩;obtain⟨q1,g,h⟩:=zC h;refine⟨_,_,_,_,_,_,_,_,_,_,_,_,⟨_,w2E _ _ _ _ g⟩,?_⟩;refine⟨by simp[zE,D.cells],?_⟩;refine⟨by first|rfl|decide|simp only[zq3,List.length_cons,List.length_nil,List.map_append,List.length_append],?_⟩;obtain⟨hP,h⟩:=uN h;refine⟨by first|exact hP|simpa using hP,?_⟩
   refine zU (e':=List.map Value.toD (out++[q1.V])) (by first|rfl|simp only[List.map_append,List.map_cons,List.map_nil,List.map_take,List.map_drop,List.map_set,List.map_replicate,zq3,Value.toD_eq]) ?_;rintro _ rfl;exact w2J _ _ _ _ _ _ _ h
  cases h;exact⟨rfl,rfl⟩
 |uE m s f args=>
  have w2N:=fun m s t r h=>ih (.zY m s t) r h;intro r h;replace h:z2s (fun m s t=>g (zJ.zY m s t)) m s f args=some r:=h;unfold z2s at h;refine zH 1000 (y8O _ _ _ _ m s f args) ?_;obtain⟨x,hx,h⟩:=zC h;refine⟨zF (l:=m.L) (zA.sz),vO hx,x.K,x.N,x.S,List.map zA.toD x.L,x.From,x.To,zL (zA.toD_eq x) hx,?_⟩;obtain⟨x1,hx,h⟩:=zC h;refine⟨zF (l:=x.L) (zA.sz),vO hx,x1.K,x1.N,x1.S,List.map zA.toD x1.L,x1.From,x1.To,zL (zA.toD_eq x1) hx,?_⟩;obtain⟨q1,g,h⟩:=zC h;refine⟨_,_,_,_,_,_,_,_,_,_,⟨_,w2N _ _ _ _ g⟩,?_⟩
  rintro _ rfl;refine zD zq2 h (fun _ h=>?_) (fun _ h=>?_)
  ·cases h;exact⟨rfl,rfl⟩
  rintro _ rfl;refine zG zq2 h (fun _ h=>?_) (fun _ h=>?_)
  ·obtain⟨x2,hx,h⟩:=zC h;refine⟨zF (l:=m.L) (zA.sz),vO hx,x2.K,x2.N,x2.S,List.map zA.toD x2.L,x2.From,x2.To,zL (zA.toD_eq x2) hx,?_⟩;obtain⟨x3,hx,h⟩:=zC h;refine⟨zF (l:=x2.L) (zA.sz),vO hx,x3.K,x3.N,x3.S,List.map zA.toD x3.L,x3.From,x3.To,zL (zA.toD_eq x3) hx,?_⟩;obtain⟨q3,g,h⟩:=zC h;refine⟨_,_,⟨_,y4K _ _ _ g⟩,?_⟩;cases h;exact⟨rfl,rfl⟩
  obtain⟨q2,g,h⟩:=zC h;refine⟨_,_,_,_,_,_,_,_,_,_,_,_,⟨_,z6g _ _ g⟩,?_⟩;cases h;exact⟨rfl,rfl⟩
 |zY m s t=>
  have w2E:=fun m s t r h=>ih (.zK m s t) r h;have w2N:=fun m s t r h=>ih (.zY m s t) r h;have w2O:=fun n i m s t o6 r h=>ih (.yO n i m s t o6) r h;have w2L:=fun m s t r h=>ih (.z1w m s t) r h;have w2S:=fun m x t r h=>ih (.jM m x t) r h;have w2G:=fun m from_ t r h=>ih (.z0R m from_ t) r h;intro r h
  replace h:jX (fun m s t=>g (zJ.zK m s t)) (fun m s t=>g (zJ.zY m s t)) (fun n i m s t o6=>g (zJ.yO n i m s t o6)) (fun m s t=>g (zJ.z1w m s t)) (fun m x t=>g (zJ.jM m x t)) (fun m from_ t=>g (zJ.z0R m from_ t)) m s t=some r:=h;unfold jX at h;refine zH 1000 (v3J _ _ _ _ m s t) ?_;obtain⟨q1,g,h⟩:=zC h;refine⟨_,_,_,_,_,_,_,_,_,_,⟨_,y2h _ _ g⟩,?_⟩;rintro _ rfl;refine zG zq2 h (fun _ h=>?_) (fun _ h=>?_)
  ·rintro _ rfl;refine zD zq2 h (fun _ h=>?_) (fun _ h=>?_)
   ·refine zU (e':=(List.length q1.Locals:Int)) (by first|rfl|rw[zq3]) ?_;exact w2O _ _ _ _ _ _ _ h
   rintro _ rfl;refine zD zq2 h (fun _ h=>?_) (fun _ h=>?_)
   ·obtain⟨x,hx,h⟩:=zC h;refine⟨zF (l:=t.L) (zA.sz),vO hx,x.K,x.N,x.S,List.map zA.toD x.L,x.From,x.To,zL (zA.toD_eq x) hx,?_⟩;obtain⟨q2,g,h⟩:=zC h;refine⟨_,_,⟨_,y4K _ _ _ g⟩,?_⟩;obtain⟨q3,g,h⟩:=zC h;refine⟨_,_,_,_,_,_,_,_,_,_,⟨_,z8P _ _ _ g⟩,?_⟩;cases h;exact⟨rfl,rfl⟩
   rintro _ rfl;refine zD zq2 h (fun _ h=>?_) (fun _ h=>?_)
   ·obtain⟨q4,g,h⟩:=zC h;refine⟨_,_,_,_,_,_,_,_,_,_,⟨_,w2L _ _ _ _ g⟩,?_⟩;cases h;exact⟨rfl,rfl⟩
   obtain⟨x1,hx,h⟩:=zC h;refine⟨zF (l:=t.L) (zA.sz),vO hx,x1.K,x1.N,x1.S,List.map zA.toD x1.L,x1.From,x1.To,zL (zA.toD_eq x1) hx,?_⟩;obtain⟨q5,g,h⟩:=zC h;refine⟨_,_,_,_,_,_,_,_,_,_,_,_,⟨_,w2E _ _ _ _ g⟩,?_⟩;rintro _ rfl;refine zG zq2 h (fun _ h=>?_) (fun _ h=>?_)
   ·rintro _ rfl;refine zD zq2 h (fun _ h=>?_) (fun _ h=>?_)
    ·obtain⟨q6,g,h⟩:=zC h;refine⟨_,_,_,_,_,_,_,_,_,_,⟨_,z8P _ _ _ g⟩,?_⟩;cases h;exact⟨rfl,rfl⟩
    rintro _ rfl;refine zD zq2 h (fun hc494 h=>?_) (fun hc494 h=>?_)
    ·refine⟨zF (l:=q5.S.Trace) (fun _=>rfl),?_⟩;refine⟨by first|rfl|decide|simp only[zq3,List.length_cons,List.length_nil,List.map_append,List.length_append],?_⟩;obtain⟨hP,h⟩:=uN h;refine⟨by first|exact hP|simpa using hP,?_⟩;refine zU (e':=List.map (D.int .i64) (([]:List Int)++q5.S.Trace)) (by first|rfl|simp only[List.map_append,List.map_cons,List.map_nil,List.map_take,List.map_drop,List.map_set,List.map_replicate,zq3]) ?_;refine⟨by simp[zE,D.cells],?_⟩
     refine⟨by first|rfl|decide|simp only[zq3,List.length_cons,List.length_nil,List.map_append,List.length_append],?_⟩;obtain⟨hP,h⟩:=uN h;refine⟨by first|exact hP|simpa using hP,?_⟩;refine zU (e':=List.map (D.int .i64) ((([]:List Int)++q5.S.Trace)++[q5.V.N])) (by first|rfl|simp only[List.map_append,List.map_cons,List.map_nil,List.map_take,List.map_drop,List.map_set,List.map_replicate,zq3]) ?_;rintro _ rfl;refine uC zq2 (fun e=>absurd (hc494.symm.trans e) (by decide)) ?_;rintro _ rfl
     refine uC zq2 (fun e=>absurd (hc494.symm.trans e) (by decide)) ?_;rintro _ rfl;refine uC zq2 (fun e=>absurd (hc494.symm.trans e) (by decide)) ?_;rintro _ rfl;refine uC zq2 (fun e=>absurd (hc494.symm.trans e) (by decide)) ?_;rintro _ rfl;refine uC zq2 (fun e=>absurd (hc494.symm.trans e) (by decide)) ?_;cases h;exact⟨rfl,rfl⟩
    rintro _ rfl;refine zD zq2 h (fun hc495 h=>?_) (fun hc495 h=>?_)
    ·rintro _ rfl;refine uC zq2 (fun e=>absurd (hc495.symm.trans e) (by decide)) ?_;rintro _ rfl;refine uC zq2 (fun e=>absurd (hc495.symm.trans e) (by decide)) ?_;rintro _ rfl;refine uC zq2 (fun e=>absurd (hc495.symm.trans e) (by decide)) ?_;rintro _ rfl;refine uC zq2 (fun e=>absurd (hc495.symm.trans e) (by decide)) ?_;cases h;exact⟨rfl,rfl⟩
    rintro _ rfl;refine zD zq2 h (fun hc496 h=>?_) (fun hc496 h=>?_)
    ·rintro _ rfl;refine zG zq2 h (fun _ h=>?_) (fun _ h=>?_)
     ·rintro _ rfl;refine gY zq2 hc496 ?_;obtain⟨x12,hx,h⟩:=zC h;refine⟨zF (l:=t.L) (zA.sz),vO hx,x12.K,x12.N,x12.S,List.map zA.toD x12.L,x12.From,x12.To,zL (zA.toD_eq x12) hx,?_⟩;obtain⟨q29,g,h⟩:=zC h;refine⟨_,_,_,_,_,_,_,_,_,_,⟨_,w2N _ _ _ _ g⟩,?_⟩;cases h;exact⟨rfl,rfl⟩
     obtain⟨x11,hx,h⟩:=zC h;refine⟨zF (l:=t.L) (zA.sz),vO hx,x11.K,x11.N,x11.S,List.map zA.toD x11.L,x11.From,x11.To,zL (zA.toD_eq x11) hx,?_⟩;obtain⟨q28,g,h⟩:=zC h;refine⟨_,_,_,_,_,_,_,_,_,_,⟨_,w2N _ _ _ _ g⟩,?_⟩;cases h;exact⟨rfl,rfl⟩
    rintro _ rfl;refine uC zq2 hc496 ?_;rintro _ rfl;refine zD zq2 h (fun _ h=>?_) (fun _ h=>?_)
    ·obtain⟨q33,g,h⟩:=zC h;refine⟨_,_,_,_,_,_,_,_,_,_,⟨_,w2S _ _ _ _ g⟩,?_⟩;cases h;exact⟨rfl,rfl⟩
    rintro _ rfl;refine zD zq2 h (fun _ h=>?_) (fun _ h=>?_)
    ·obtain⟨q34,g,h⟩:=zC h;refine⟨_,_,_,_,_,_,_,_,_,_,⟨_,w2G _ _ _ _ g⟩,?_⟩;cases h;exact⟨rfl,rfl⟩
    cases h;exact⟨rfl,rfl⟩
   cases h;exact⟨rfl,rfl⟩
  cases h;exact⟨rfl,rfl⟩
 |yO n i m s t o6=>
  have w2N:=fun m s t r h=>ih (.zY m s t) r h;have w2O:=fun n i m s t o6 r h=>ih (.yO n i m s t o6) r h;intro r h;replace h:gA (fun m s t=>g (zJ.zY m s t)) (fun n i m s t o6=>g (zJ.yO n i m s t o6)) n i m s t o6=some r:=h;unfold gA at h;refine jN 1000 (y6W _ _ _ _ n i m s t o6) ?_;refine zU (e':=(List.length t.L:Int)) (by first|rfl|rw[zq3]) ?_;rintro _ rfl;refine zD decide_eq_true_iff h (fun _ h=>?_) (fun _ h=>?_)
  ·obtain⟨x,hx,h⟩:=zC h;refine⟨zF (l:=t.L) (zA.sz),vO hx,x.K,x.N,x.S,List.map zA.toD x.L,x.From,x.To,zL (zA.toD_eq x) hx,?_⟩;obtain⟨q1,g,h⟩:=zC h;refine⟨_,_,_,_,_,_,_,_,_,_,⟨_,w2N _ _ _ _ g⟩,?_⟩;rintro _ rfl;exact w2O _ _ _ _ _ _ _ h
  obtain⟨q2,g,h⟩:=zC h;refine⟨_,_,_,_,_,_,_,_,_,_,⟨_,y7o _ _ _ g⟩,?_⟩;cases h;exact⟨rfl,rfl⟩
 |z1w m s t=>
  have w2E:=fun m s t r h=>ih (.zK m s t) r h;have w2M:=fun m s t o6 x root r h=>ih (.vP m s t o6 x root) r h;intro r h;replace h:z5x (fun m s t=>g (zJ.zK m s t)) (fun m s t o6 x root=>g (zJ.vP m s t o6 x root)) m s t=some r:=h;unfold z5x at h;refine zH 1000 (v5U _ _ _ _ m s t) ?_;obtain⟨x,hx,h⟩:=zC h;refine⟨zF (l:=t.L) (zA.sz),vO hx,x.K,x.N,x.S,List.map zA.toD x.L,x.From,x.To,zL (zA.toD_eq x) hx,?_⟩;obtain⟨q1,g,h⟩:=zC h;refine⟨_,_,_,_,_,_,_,_,_,_,_,_,⟨_,w2E _ _ _ _ g⟩,?_⟩;rintro _ rfl
  refine zG zq2 h (fun _ h=>?_) (fun _ h=>?_)
  ·obtain⟨x1,hx,h⟩:=zC h;refine⟨zF (l:=t.L) (zA.sz),vO hx,x1.K,x1.N,x1.S,List.map zA.toD x1.L,x1.From,x1.To,zL (zA.toD_eq x1) hx,?_⟩;exact w2M _ _ _ _ _ _ _ h
  cases h;exact⟨rfl,rfl⟩
 |vP m s t o6 x root=>
  have w2M:=fun m s t o6 x root r h=>ih (.vP m s t o6 x root) r h;have w2R:=fun m s t kept r h=>ih (.uR m s t kept) r h;intro r h;replace h:z0C (fun m s t o6 x root=>g (zJ.vP m s t o6 x root)) (fun m s t kept=>g (zJ.uR m s t kept)) m s t o6 x root=some r:=h;unfold z0C at h;refine jN 1000 (y8Q _ _ _ _ m s t o6 x root) ?_;rintro _ rfl;refine zD zq2 h (fun _ h=>?_) (fun _ h=>?_)
  ·obtain⟨x1,hx,h⟩:=zC h;refine⟨zF (l:=root.L) (zA.sz),vO hx,x1.K,x1.N,x1.S,List.map zA.toD x1.L,x1.From,x1.To,zL (zA.toD_eq x1) hx,?_⟩;exact w2M _ _ _ _ _ _ _ h
  rintro _ rfl;refine zD zq2 h (fun _ h=>?_) (fun _ h=>?_)
  ·obtain⟨x2,hx,h⟩:=zC h;refine⟨zF (l:=root.L) (zA.sz),vO hx,x2.K,x2.N,x2.S,List.map zA.toD x2.L,x2.From,x2.To,zL (zA.toD_eq x2) hx,?_⟩;exact w2M _ _ _ _ _ _ _ h
  rintro _ rfl;refine zD zq2 h (fun _ h=>?_) (fun _ h=>?_)
  ·obtain⟨x3,hx,h⟩:=zC h;refine⟨zF (l:=t.L) (zA.sz),vO hx,x3.K,x3.N,x3.S,List.map zA.toD x3.L,x3.From,x3.To,zL (zA.toD_eq x3) hx,?_⟩;obtain⟨x4,hx,h⟩:=zC h;refine⟨zF (l:=s.Globals) (Value.sz),vO hx,x4.N,List.map Value.toD x4.L,zL (Value.toD_eq x4) hx,?_⟩;obtain⟨q1,g,h⟩:=zC h;refine⟨_,_,_,_,_,_,_,_,_,_,_,⟨_,w2R _ _ _ _ _ g⟩,?_⟩;rintro _ rfl;refine zD zq2 h (fun _ h=>?_) (fun _ h=>?_)
   ·obtain⟨x5,hx,h⟩:=zC h;refine⟨zF (l:=q1.2.Globals) (Value.sz),vO hx,x5.N,List.map Value.toD x5.L,zL (Value.toD_eq x5) hx,?_⟩;obtain⟨q2,g,h⟩:=zC h;refine⟨_,_,⟨_,y7n _ _ _ _ g⟩,?_⟩;obtain⟨q3,g,h⟩:=zC h;refine⟨_,⟨_,y4P _ _ _ _ g⟩,?_⟩;cases h;exact⟨rfl,rfl⟩
   cases h;exact⟨rfl,rfl⟩
  refine zU (e':=(List.length s.Locals:Int)) (by first|rfl|rw[zq3]) ?_;rintro _ rfl;rintro _ rfl;obtain⟨x6,hx,h⟩:=zC h;refine⟨zF (l:=t.L) (zA.sz),vO hx,x6.K,x6.N,x6.S,List.map zA.toD x6.L,x6.From,x6.To,zL (zA.toD_eq x6) hx,?_⟩;obtain⟨x7,hx,h⟩:=zC h;refine⟨zF (l:=s.Locals) (Value.sz),vO hx,x7.N,List.map Value.toD x7.L,zL (Value.toD_eq x7) hx,?_⟩;obtain⟨q4,g,h⟩:=zC h;refine⟨_,_,_,_,_,_,_,_,_,_,_,⟨_,w2R _ _ _ _ _ g⟩,?_⟩;rintro _ rfl;refine zD zq2 h (fun _ h=>?_) (fun _ h=>?_)
  ·obtain⟨x8,hx,h⟩:=zC h;refine⟨zF (l:=q4.2.Locals) (Value.sz),vO hx,x8.N,List.map Value.toD x8.L,zL (Value.toD_eq x8) hx,?_⟩;obtain⟨q5,g,h⟩:=zC h;refine⟨_,_,⟨_,y7n _ _ _ _ g⟩,?_⟩;obtain⟨q6,g,h⟩:=zC h;refine⟨_,⟨_,y4P _ _ _ _ g⟩,?_⟩;cases h;exact⟨rfl,rfl⟩
  cases h;exact⟨rfl,rfl⟩
 |jM m x t=>
  have w2T:=fun m x t o6 r h=>ih (.yD m x t o6) r h;intro r h;replace h:z3n (fun m x t o6=>g (zJ.yD m x t o6)) m x t=some r:=h;unfold z3n at h;refine zH 1000 (v1e _ _ _ _ m x t) ?_;exact w2T _ _ _ _ _ h
 |yD m x t o6=>
  have w2E:=fun m s t r h=>ih (.zK m s t) r h;have w2N:=fun m s t r h=>ih (.zY m s t) r h;have w2T:=fun m x t o6 r h=>ih (.yD m x t o6) r h;intro r h;replace h:gD (fun m s t=>g (zJ.zK m s t)) (fun m s t=>g (zJ.zY m s t)) (fun m x t o6=>g (zJ.yD m x t o6)) m x t o6=some r:=h;unfold gD at h;refine jN 1000 (y5z _ _ _ _ m x t o6) ?_;rintro _ rfl;refine zD zq2 h (fun _ h=>?_) (fun _ h=>?_)
  ·rintro _ rfl;refine zG zq2 h (fun _ h=>?_) (fun _ h=>?_)
   ·cases h;exact⟨rfl,rfl⟩
   obtain⟨x1,hx,h⟩:=zC h;refine⟨zF (l:=t.L) (zA.sz),vO hx,x1.K,x1.N,x1.S,List.map zA.toD x1.L,x1.From,x1.To,zL (zA.toD_eq x1) hx,?_⟩;obtain⟨q1,g,h⟩:=zC h;refine⟨_,_,_,_,_,_,_,_,_,_,⟨_,w2N _ _ _ _ g⟩,?_⟩;obtain⟨x2,hx,h⟩:=zC h;refine⟨zF (l:=t.L) (zA.sz),vO hx,x2.K,x2.N,x2.S,List.map zA.toD x2.L,x2.From,x2.To,zL (zA.toD_eq x2) hx,?_⟩;obtain⟨q2,g,h⟩:=zC h;refine⟨_,_,_,_,_,_,_,_,_,_,_,_,⟨_,w2E _ _ _ _ g⟩,?_⟩;exact w2T _ _ _ _ _ h
  cases h;exact⟨rfl,rfl⟩
 |z0R m from_ t=>
  have w2E:=fun m s t r h=>ih (.zK m s t) r h;have w2H:=fun n i m t o6 to_ s r h=>ih (.wC n i m t o6 to_ s) r h;intro r h;replace h:z5w (fun m s t=>g (zJ.zK m s t)) (fun n i m t o6 to_ s=>g (zJ.wC n i m t o6 to_ s)) m from_ t=some r:=h;unfold z5w at h;refine zH 1000 (v5R _ _ _ _ m from_ t) ?_;obtain⟨x,hx,h⟩:=zC h;refine⟨zF (l:=t.L) (zA.sz),vO hx,x.K,x.N,x.S,List.map zA.toD x.L,x.From,x.To,zL (zA.toD_eq x) hx,?_⟩;obtain⟨q1,g,h⟩:=zC h;refine⟨_,_,_,_,_,_,_,_,_,_,_,_,⟨_,w2E _ _ _ _ g⟩,?_⟩
  rintro _ rfl;refine zG zq2 h (fun _ h=>?_) (fun _ h=>?_)
  ·refine zU (e':=(List.length q1.S.Locals:Int)) (by first|rfl|rw[zq3]) ?_;exact w2H _ _ _ _ _ _ _ _ h
  cases h;exact⟨rfl,rfl⟩
 |wC n i m t o6 to_ s=>
  have w2N:=fun m s t r h=>ih (.zY m s t) r h;have w2H:=fun n i m t o6 to_ s r h=>ih (.wC n i m t o6 to_ s) r h;intro r h;replace h:gX (fun m s t=>g (zJ.zY m s t)) (fun n i m t o6 to_ s=>g (zJ.wC n i m t o6 to_ s)) n i m t o6 to_ s=some r:=h;unfold gX at h;refine jN 1000 (y8P _ _ _ _ n i m t o6 to_ s) ?_;obtain⟨q1,g,h⟩:=zC h;refine⟨_,_,_,_,_,_,_,_,_,_,⟨_,y2h _ _ g⟩,?_⟩;rintro _ rfl;refine zG zq2 h (fun _ h=>?_) (fun _ h=>?_)
  ·rintro _ rfl;refine zD decide_eq_true_iff h (fun _ h=>?_) (fun _ h=>?_)
   ·cases h;exact⟨rfl,rfl⟩
   obtain⟨q2,g,h⟩:=zC h;refine⟨_,_,_,_,_,_,_,_,_,_,⟨_,z8P _ _ _ g⟩,?_⟩;obtain⟨x,hx,h⟩:=zC h;refine⟨zF (l:=t.L) (zA.sz),vO hx,x.K,x.N,x.S,List.map zA.toD x.L,x.From,x.To,zL (zA.toD_eq x) hx,?_⟩;obtain⟨q3,g,h⟩:=zC h;refine⟨_,_,_,_,_,_,_,_,_,_,⟨_,w2N _ _ _ _ g⟩,?_⟩;obtain⟨q4,g,h⟩:=zC h;refine⟨_,_,_,_,_,_,_,_,_,_,⟨_,y7o _ _ _ g⟩,?_⟩;rintro _ rfl;exact w2H _ _ _ _ _ _ _ _ h
  cases h;exact⟨rfl,rfl⟩
 |uR m s t kept=>
  have w2E:=fun m s t r h=>ih (.zK m s t) r h;have w2R:=fun m s t kept r h=>ih (.uR m s t kept) r h;intro r h;replace h:z3m (fun m s t=>g (zJ.zK m s t)) (fun m s t kept=>g (zJ.uR m s t kept)) m s t kept=some r:=h;unfold z3m at h;refine zH 1000 (v5W _ _ _ _ m s t kept) ?_;rintro _ rfl;refine zG zq2 h (fun hc512 h=>?_) (fun hc512 h=>?_)
  ·obtain⟨x2,hx,h⟩:=zC h;refine⟨zF (l:=t.L) (zA.sz),vO hx,x2.K,x2.N,x2.S,List.map zA.toD x2.L,x2.From,x2.To,zL (zA.toD_eq x2) hx,?_⟩;obtain⟨q6,g,h⟩:=zC h;refine⟨_,_,_,_,_,_,_,_,_,_,_,⟨_,w2R _ _ _ _ _ g⟩,?_⟩;rintro _ rfl;refine zG zq2 h (fun _ h=>?_) (fun _ h=>?_)
   ·rintro _ rfl;refine uC zq2 (fun e=>absurd (hc512.symm.trans e) (by decide)) ?_;obtain⟨x3,hx,h⟩:=zC h;refine⟨zF (l:=t.L) (zA.sz),vO hx,x3.K,x3.N,x3.S,List.map zA.toD x3.L,x3.From,x3.To,zL (zA.toD_eq x3) hx,?_⟩;obtain⟨q7,g,h⟩:=zC h;refine⟨_,_,_,_,_,_,_,_,_,_,_,_,⟨_,w2E _ _ _ _ g⟩,?_⟩;rintro _ rfl;refine zG zq2 h (fun _ h=>?_) (fun _ h=>?_)
    ·rintro _ rfl;refine zD decide_eq_true_iff h (fun _ h=>?_) (fun _ h=>?_)
     ·obtain⟨q8,g,h⟩:=zC h;refine⟨_,_,_,_,_,_,_,_,_,_,_,_,⟨_,z4e _ _ _ g⟩,?_⟩;refine⟨by first|rfl|decide|simp only[zq3,List.length_cons,List.length_nil,List.map_append,List.length_append],?_⟩;cases h;exact⟨rfl,rfl⟩
     obtain⟨q9,g,h⟩:=zC h;refine⟨_,_,⟨_,v5d _ _ _ g⟩,?_⟩;refine zU (e':=(List.length q9.L:Int)) (by first|rfl|rw[zq3]) ?_;rintro _ rfl;refine zD decide_eq_true_iff h (fun _ h=>?_) (fun _ h=>?_)
     ·obtain⟨q10,g,h⟩:=zC h;refine⟨_,_,_,_,_,_,_,_,_,_,_,_,⟨_,z4e _ _ _ g⟩,?_⟩;refine⟨by first|rfl|decide|simp only[zq3,List.length_cons,List.length_nil,List.map_append,List.length_append],?_⟩;cases h;exact⟨rfl,rfl⟩
     refine⟨by simp[zE,D.cells],?_⟩;refine⟨by first|rfl|decide|simp only[zq3,List.length_cons,List.length_nil,List.map_append,List.length_append],?_⟩;obtain⟨hP,h⟩:=uN h;refine⟨by first|exact hP|simpa using hP,?_⟩;refine zU (e':=List.map (D.int .i64) (q6.1++[q7.V.N])) (by first|rfl|simp only[List.map_append,List.map_cons,List.map_nil,List.map_take,List.map_drop,List.map_set,List.map_replicate,zq3]) ?_
     refine⟨by first|rfl|decide|simp only[zq3,List.length_cons,List.length_nil,List.map_append,List.length_append],?_⟩;cases h;exact⟨rfl,rfl⟩
    refine⟨by first|rfl|decide|simp only[zq3,List.length_cons,List.length_nil,List.map_append,List.length_append],?_⟩;cases h;exact⟨rfl,rfl⟩
   refine⟨by first|rfl|decide|simp only[zq3,List.length_cons,List.length_nil,List.map_append,List.length_append],?_⟩;cases h;exact⟨rfl,rfl⟩
  rintro _ rfl;refine zG zq2 h (fun hc517 h=>?_) (fun hc517 h=>?_)
  ·obtain⟨x,hx,h⟩:=zC h;refine⟨zF (l:=t.L) (zA.sz),vO hx,x.K,x.N,x.S,List.map zA.toD x.L,x.From,x.To,zL (zA.toD_eq x) hx,?_⟩;obtain⟨q1,g,h⟩:=zC h;refine⟨_,_,_,_,_,_,_,_,_,_,_,⟨_,w2R _ _ _ _ _ g⟩,?_⟩;rintro _ rfl;refine zG zq2 h (fun _ h=>?_) (fun _ h=>?_)
   ·rintro _ rfl;refine gY zq2 hc517 ?_;obtain⟨hP,h⟩:=uN h;refine⟨by first|exact hP|simpa using hP,?_⟩;rintro _ rfl;refine⟨by simp[zE,D.cells],?_⟩;refine⟨by first|rfl|decide|simp only[zq3,List.length_cons,List.length_nil,List.map_append,List.length_append],?_⟩;obtain⟨hP,h⟩:=uN h;refine⟨by first|exact hP|simpa using hP,?_⟩
    refine zU (e':=List.map (D.int .i64) (q1.1++[Int.tmod t.N 64])) (by first|rfl|simp only[List.map_append,List.map_cons,List.map_nil,List.map_take,List.map_drop,List.map_set,List.map_replicate,zq3]) ?_;refine⟨by first|rfl|decide|simp only[zq3,List.length_cons,List.length_nil,List.map_append,List.length_append],?_⟩;cases h;exact⟨rfl,rfl⟩
   refine⟨by first|rfl|decide|simp only[zq3,List.length_cons,List.length_nil,List.map_append,List.length_append],?_⟩;cases h;exact⟨rfl,rfl⟩
  refine⟨by first|rfl|decide|simp only[zq3,List.length_cons,List.length_nil,List.map_append,List.length_append],?_⟩;cases h;exact⟨rfl,rfl⟩
theorem v2y(m:zA)(s:State)(t:zA)(r:Ref21Got)(h:zK m s t=some r):y4v (.zK m s t) r:=v2n (.zK m s t) r h
def y0e:(i:z4z)→z6q i→Prop
 |.yN i m s,r=>Ok (y0S (Trip Tryz.prog) [(nB r)] []) (kL Tryz.f51 4) ⟨104,[(2,.ref 2 1 0),(3,.ref 3 1 0),(5,(nI i))],[(2,1,some (.agg (tT m))),(3,1,some (.agg (tS s)))],[],0⟩
theorem y6x:∀i r,uV z4y i=some r→y0e i r:=by
 refine zP y0d fun g ih i=>?_;cases i with
 |yN i m s=>
  have w2F:=fun i m s r h=>ih (.yN i m s) r h;intro r h;replace h:jZ (fun i m s=>g (z4z.yN i m s)) i m s=some r:=h;unfold jZ at h;refine jN 1000 (y6T _ _ _ _ i m s) ?_;refine zU (e':=(List.length m.L:Int)) (by first|rfl|rw[zq3]) ?_;rintro _ rfl;refine zD decide_eq_true_iff h (fun _ h=>?_) (fun _ h=>?_)
  ·obtain⟨x,hx,h⟩:=zC h;refine⟨zF (l:=m.L) (zA.sz),vO hx,x.K,x.N,x.S,List.map zA.toD x.L,x.From,x.To,zL (zA.toD_eq x) hx,?_⟩;rintro _ rfl;refine zD zq2 h (fun _ h=>?_) (fun _ h=>?_)
   ·obtain⟨x1,hx,h⟩:=zC h;refine⟨zF (l:=m.L) (zA.sz),vO hx,x1.K,x1.N,x1.S,List.map zA.toD x1.L,x1.From,x1.To,zL (zA.toD_eq x1) hx,?_⟩;obtain⟨x2,hx,h⟩:=zC h;refine⟨zF (l:=x1.L) (zA.sz),vO hx,x2.K,x2.N,x2.S,List.map zA.toD x2.L,x2.From,x2.To,zL (zA.toD_eq x2) hx,?_⟩;obtain⟨x3,hx,h⟩:=zC h;refine⟨zF (l:=s.Globals) (Value.sz),vO hx,x3.N,List.map Value.toD x3.L,zL (Value.toD_eq x3) hx,?_⟩;obtain⟨q1,g,h⟩:=zC h;refine⟨_,⟨_,y4I _ _ _ _ g⟩,?_⟩;refine zG Iff.rfl h (fun _ h=>?_) (fun _ h=>?_)
    ·obtain⟨x4,hx,h⟩:=zC h;refine⟨zF (l:=m.L) (zA.sz),vO hx,x4.K,x4.N,x4.S,List.map zA.toD x4.L,x4.From,x4.To,zL (zA.toD_eq x4) hx,?_⟩;rintro _ rfl;refine zG zq2 h (fun _ h=>?_) (fun _ h=>?_)
     ·rintro _ rfl;exact w2F _ _ _ _ h
     obtain⟨x5,hx,h⟩:=zC h;refine⟨zF (l:=s.Globals) (Value.sz),vO hx,x5.N,List.map Value.toD x5.L,zL (Value.toD_eq x5) hx,?_⟩;obtain⟨q2,g,h⟩:=zC h;refine⟨_,⟨_,z4d _ _ _ g⟩,?_⟩;refine zG Iff.rfl h (fun _ h=>?_) (fun _ h=>?_)
     ·rintro _ rfl;exact w2F _ _ _ _ h
     cases h;exact⟨rfl,rfl⟩
    cases h;exact⟨rfl,rfl⟩
   obtain⟨x6,hx,h⟩:=zC h;refine⟨zF (l:=m.L) (zA.sz),vO hx,x6.K,x6.N,x6.S,List.map zA.toD x6.L,x6.From,x6.To,zL (zA.toD_eq x6) hx,?_⟩;rintro _ rfl;refine zG zq2 h (fun _ h=>?_) (fun _ h=>?_)
   ·rintro _ rfl;exact w2F _ _ _ _ h
   obtain⟨x7,hx,h⟩:=zC h;refine⟨zF (l:=s.Globals) (Value.sz),vO hx,x7.N,List.map Value.toD x7.L,zL (Value.toD_eq x7) hx,?_⟩;obtain⟨q3,g,h⟩:=zC h;refine⟨_,⟨_,z4d _ _ _ g⟩,?_⟩;refine zG Iff.rfl h (fun _ h=>?_) (fun _ h=>?_)
   ·rintro _ rfl;exact w2F _ _ _ _ h
   cases h;exact⟨rfl,rfl⟩
  cases h;exact⟨rfl,rfl⟩
theorem y6A(i:Int)(m:zA)(s:State)(r:Bool)(h:yN i m s=some r):y0e (.yN i m s) r:=y6x (.yN i m s) r h
theorem v2z(m:zA)(s:State)(r:Bool)(h:z0Z m s=some r):Trip Tryz.prog 51 [.d (tT m),.d (tS s)] [] [(nB r)] []:=by
 unfold z0Z at h;refine zH 1000 (v3F _ _ _ _ m s) ?_;refine zU (e':=(List.length s.Globals:Int)) (by first|rfl|rw[zq3]) ?_;refine zU (e':=(List.length m.L:Int)) (by first|rfl|rw[zq3]) ?_;rintro _ rfl;refine zG zq2 h (fun _ h=>?_) (fun _ h=>?_)
 ·rintro _ rfl;refine zD decide_eq_true_iff h (fun _ h=>?_) (fun _ h=>?_)
  ·cases h;exact⟨rfl,rfl⟩
  refine zU (e':=(List.length s.Input:Int)) (by first|rfl|rw[zq3]) ?_;rintro _ rfl;refine zD decide_eq_true_iff h (fun _ h=>?_) (fun _ h=>?_)
  ·cases h;exact⟨rfl,rfl⟩
  rintro _ rfl;refine zD decide_eq_true_iff h (fun _ h=>?_) (fun _ h=>?_)
  ·cases h;exact⟨rfl,rfl⟩
  rintro _ rfl;refine zD decide_eq_true_iff h (fun _ h=>?_) (fun _ h=>?_)
  ·cases h;exact⟨rfl,rfl⟩
  rintro _ rfl;refine zG zq2 h (fun _ h=>?_) (fun _ h=>?_)
  ·rintro _ rfl;refine zG zq2 h (fun _ h=>?_) (fun _ h=>?_)
   ·obtain⟨q1,g,h⟩:=zC h;refine⟨_,⟨_,z4d _ _ _ g⟩,?_⟩;refine zG Iff.rfl h (fun _ h=>?_) (fun _ h=>?_)
    ·exact y6A _ _ _ _ h
    cases h;exact⟨rfl,rfl⟩
   cases h;exact⟨rfl,rfl⟩
  cases h;exact⟨rfl,rfl⟩
 cases h;exact⟨rfl,rfl⟩
theorem y4O(m:zA)(types:List zA)(s:State)(e:zA)(r:Value×State×Int)(h:z1Z m types s e=some r):Trip Tryz.prog 17 [.d (tT m),.d (.sl (List.map zA.toD types)),.d (tS s),.d (tT e)] [] [.d (tV r.1),.d (tS r.2.1),(nI r.2.2)] []:=by
 unfold z1Z at h;refine zH 1000 (v3D _ _ _ _ m types s e) ?_;obtain⟨q1,g,h⟩:=zC h;refine⟨_,⟨_,y2V _ _ g⟩,?_⟩;refine zG Iff.rfl h (fun _ h=>?_) (fun _ h=>?_)
 ·obtain⟨q2,g,h⟩:=zC h;refine⟨_,⟨_,v2z _ _ _ g⟩,?_⟩;refine zG Iff.rfl h (fun _ h=>?_) (fun _ h=>?_)
  ·obtain⟨q3,g,h⟩:=zC h;refine⟨_,⟨_,v5g _ _ _ _ g⟩,?_⟩;refine zG Iff.rfl h (fun _ h=>?_) (fun _ h=>?_)
   ·obtain⟨q4,g,h⟩:=zC h;refine⟨_,_,_,_,_,_,_,_,_,_,_,_,_,_,⟨_,z1S _ _ _ _ g⟩,?_⟩;rintro _ rfl;refine zG zq2 h (fun _ h=>?_) (fun _ h=>?_)
    ·obtain⟨q5,g,h⟩:=zC h;refine⟨_,⟨_,z5k _ _ _ g⟩,?_⟩;refine zG Iff.rfl h (fun _ h=>?_) (fun _ h=>?_)
     ·obtain⟨q6,g,h⟩:=zC h;refine⟨_,_,_,_,_,_,_,_,_,_,_,_,⟨_,v2y _ _ _ _ g⟩,?_⟩;cases h;exact⟨rfl,rfl⟩
     cases h;exact⟨rfl,rfl⟩
    cases h;exact⟨rfl,rfl⟩
   cases h;exact⟨rfl,rfl⟩
  cases h;exact⟨rfl,rfl⟩
 cases h;exact⟨rfl,rfl⟩
def z6y:(i:z2g)→z4a i→Prop
 |.yG a b i,r=>Ok (z6r (Trip Tryz.prog) [(nB r)] []) (kL Tryz.f57 4) ⟨26,[(0,.d (.sl (List.map (D.int .i64) a))),(1,.d (.sl (List.map (D.int .i64) b))),(5,(nI i))],[],[],0⟩
theorem y2a:∀i r,uV z2f i=some r→z6y i r:=by
 refine zP z6w fun g ih i=>?_;cases i with
 |yG a b i=>
  have w2K:=fun a b i r h=>ih (.yG a b i) r h;intro r h;replace h:jW (fun a b i=>g (z2g.yG a b i)) a b i=some r:=h;unfold jW at h;refine jN 1000 (y2u _ _ _ _ a b i) ?_;refine zU (e':=(List.length a:Int)) (by first|rfl|rw[zq3]) ?_;rintro _ rfl;refine zD decide_eq_true_iff h (fun _ h=>?_) (fun _ h=>?_)
  ·obtain⟨x,hx,h⟩:=zC h;refine⟨zF (l:=a) (fun _=>rfl),vO hx,x,zL rfl hx,?_⟩;obtain⟨x1,hx,h⟩:=zC h;refine⟨zF (l:=b) (fun _=>rfl),vO hx,x1,zL rfl hx,?_⟩;rintro _ rfl;refine zG zq2 h (fun _ h=>?_) (fun _ h=>?_)
   ·rintro _ rfl;exact w2K _ _ _ _ h
   cases h;exact⟨rfl,rfl⟩
  cases h;exact⟨rfl,rfl⟩
theorem y2g(a b:List Int)(i:Int)(r:Bool)(h:yG a b i=some r):z6y (.yG a b i) r:=y2a (.yG a b i) r h
theorem y0g(a b:List Int)(r:Bool)(h:z3l a b=some r):Trip Tryz.prog 57 [.d (.sl (List.map (D.int .i64) a)),.d (.sl (List.map (D.int .i64) b))] [] [(nB r)] []:=by
 unfold z3l at h;refine zH 1000 (y6V _ _ _ _ a b) ?_;refine zU (e':=(List.length a:Int)) (by first|rfl|rw[zq3]) ?_;refine zU (e':=(List.length b:Int)) (by first|rfl|rw[zq3]) ?_;rintro _ rfl;refine zG zq2 h (fun _ h=>?_) (fun _ h=>?_)
 ·exact y2g _ _ _ _ h
 cases h;exact⟨rfl,rfl⟩
def z8b:(i:z2M)→z4X i→Prop
 |.yS a b i,r=>Ok (z7w (Trip Tryz.prog) [(nB r)] []) (kL Tryz.f56 4) ⟨27,[(0,.d (.sl (List.map Value.toD a))),(1,.d (.sl (List.map Value.toD b))),(5,(nI i))],[],[],0⟩
theorem y3r:∀i r,uV z2F i=some r→z8b i r:=by
 refine zP z7T fun g ih i=>?_;cases i with
 |yS a b i=>
  have w2Q:=fun a b i r h=>ih (.yS a b i) r h;intro r h;replace h:gO (fun a b i=>g (z2M.yS a b i)) a b i=some r:=h;unfold gO at h;refine jN 1000 (y3M _ _ _ _ a b i) ?_;refine zU (e':=(List.length a:Int)) (by first|rfl|rw[zq3]) ?_;rintro _ rfl;refine zD decide_eq_true_iff h (fun _ h=>?_) (fun _ h=>?_)
  ·obtain⟨x,hx,h⟩:=zC h;refine⟨zF (l:=a) (Value.sz),vO hx,x.N,List.map Value.toD x.L,zL (Value.toD_eq x) hx,?_⟩;obtain⟨x1,hx,h⟩:=zC h;refine⟨zF (l:=b) (Value.sz),vO hx,x1.N,List.map Value.toD x1.L,zL (Value.toD_eq x1) hx,?_⟩;obtain⟨q1,g,h⟩:=zC h;refine⟨_,⟨_,z4d _ _ _ g⟩,?_⟩;refine zG Iff.rfl h (fun _ h=>?_) (fun _ h=>?_)
   ·rintro _ rfl;exact w2Q _ _ _ _ h
   cases h;exact⟨rfl,rfl⟩
  cases h;exact⟨rfl,rfl⟩
theorem y3z(a b:List Value)(i:Int)(r:Bool)(h:yS a b i=some r):z8b (.yS a b i) r:=y3r (.yS a b i) r h
theorem y1o(a b:List Value)(r:Bool)(h:z4v a b=some r):Trip Tryz.prog 56 [.d (.sl (List.map Value.toD a)),.d (.sl (List.map Value.toD b))] [] [(nB r)] []:=by
 unfold z4v at h;refine zH 1000 (y8R _ _ _ _ a b) ?_;refine zU (e':=(List.length a:Int)) (by first|rfl|rw[zq3]) ?_;refine zU (e':=(List.length b:Int)) (by first|rfl|rw[zq3]) ?_;rintro _ rfl;refine zG zq2 h (fun _ h=>?_) (fun _ h=>?_)
 ·exact y3z _ _ _ _ h
 cases h;exact⟨rfl,rfl⟩
theorem v2A(a b:State)(r:Bool)(h:y1O a b=some r):Trip Tryz.prog 19 [.d (tS a),.d (tS b)] [] [(nB r)] []:=by
 unfold y1O at h;refine zH 1000 (v3I _ _ _ _ a b) ?_;obtain⟨q1,g,h⟩:=zC h;refine⟨_,⟨_,y1o _ _ _ g⟩,?_⟩;refine zD Iff.rfl h (fun _ h=>?_) (fun _ h=>?_)
 ·obtain⟨q2,g,h⟩:=zC h;refine⟨_,⟨_,y1o _ _ _ g⟩,?_⟩;refine zD Iff.rfl h (fun _ h=>?_) (fun _ h=>?_)
  ·obtain⟨q3,g,h⟩:=zC h;refine⟨_,⟨_,y0g _ _ _ g⟩,?_⟩;refine zD Iff.rfl h (fun _ h=>?_) (fun _ h=>?_)
   ·rintro _ rfl;refine zD zq2 h (fun _ h=>?_) (fun _ h=>?_)
    ·obtain⟨q4,g,h⟩:=zC h;refine⟨_,⟨_,y0g _ _ _ g⟩,?_⟩;refine zD Iff.rfl h (fun _ h=>?_) (fun _ h=>?_)
     ·rintro _ rfl;refine zD zq2 h (fun _ h=>?_) (fun _ h=>?_)
      ·rintro _ rfl;refine zD zq2 h (fun _ h=>?_) (fun _ h=>?_)
       ·rintro _ rfl;refine zD zq2 h (fun _ h=>?_) (fun _ h=>?_)
        ·obtain⟨q5,g,h⟩:=zC h;refine⟨_,⟨_,z4d _ _ _ g⟩,?_⟩;cases h;exact⟨rfl,rfl⟩
        cases h;exact⟨rfl,rfl⟩
       cases h;exact⟨rfl,rfl⟩
      cases h;exact⟨rfl,rfl⟩
     cases h;exact⟨rfl,rfl⟩
    cases h;exact⟨rfl,rfl⟩
   cases h;exact⟨rfl,rfl⟩
  cases h;exact⟨rfl,rfl⟩
 cases h;exact⟨rfl,rfl⟩
theorem v2B(a b:State)(r:Bool)(h:z9A a b=some r):Trip Tryz.prog 124 [.d (tS a),.d (tS b)] [] [(nB r)] []:=by
 unfold z9A at h;refine zH 1000 (v3L _ _ _ _ a b) ?_;obtain⟨q1,g,h⟩:=zC h;refine⟨_,⟨_,v2A _ _ _ g⟩,?_⟩;cases h;exact⟨rfl,rfl⟩
theorem y1p(m:zA)(types:List zA)(s:State)(l r_:zA)(r:Bool)(h:z2a m types s l r_=some r):Trip Tryz.prog 64 [.d (tT m),.d (.sl (List.map zA.toD types)),.d (tS s),.d (tT l),.d (tT r_)] [] [(nB r)] []:=by
 unfold z2a at h;refine zH 1000 (y8S _ _ _ _ m types s l r_) ?_;obtain⟨q1,g,h⟩:=zC h;refine⟨_,_,_,_,_,_,_,_,_,_,_,_,_,⟨_,y4O _ _ _ _ _ g⟩,?_⟩;rintro _ rfl;refine zG zq2 h (fun _ h=>?_) (fun _ h=>?_)
 ·rintro _ rfl;refine zD zq2 h (fun _ h=>?_) (fun _ h=>?_)
  ·cases h;exact⟨rfl,rfl⟩
  rintro _ rfl;rintro _ rfl;obtain⟨q2,g,h⟩:=zC h;refine⟨_,⟨_,y4D _ _ g⟩,?_⟩;rintro _ rfl;obtain⟨q3,g,h⟩:=zC h;refine⟨_,⟨_,y4D _ _ g⟩,?_⟩;rintro _ rfl;rintro _ rfl;rintro _ rfl;refine zD decide_eq_true_iff h (fun _ h=>?_) (fun _ h=>?_)
  ·cases h;exact⟨rfl,rfl⟩
  obtain⟨q4,g,h⟩:=zC h;refine⟨_,_,_,_,_,_,_,_,_,_,_,_,_,⟨_,y4O _ _ _ _ _ g⟩,?_⟩;rintro _ rfl;refine zD zq2 h (fun _ h=>?_) (fun _ h=>?_)
  ·obtain⟨q5,g,h⟩:=zC h;refine⟨_,⟨_,z4d _ _ _ g⟩,?_⟩;refine zD Iff.rfl h (fun _ h=>?_) (fun _ h=>?_)
   ·obtain⟨q6,g,h⟩:=zC h;refine⟨_,⟨_,v2B _ _ _ g⟩,?_⟩;cases h;exact⟨rfl,rfl⟩
   cases h;exact⟨rfl,rfl⟩
  cases h;exact⟨rfl,rfl⟩
 cases h;exact⟨rfl,rfl⟩
theorem y9Z(m:zA)(types:List zA)(s:State)(l r_:zA)(r:Bool)(h:z6W m types s l r_=some r):Trip Tryz.prog 27 [.d (tT m),.d (.sl (List.map zA.toD types)),.d (tS s),.d (tT l),.d (tT r_)] [] [(nB r)] []:=by
 unfold z6W at h;refine zH 1000 (v1g _ _ _ _ m types s l r_) ?_;obtain⟨q1,g,h⟩:=zC h;refine⟨_,_,_,_,_,_,_,_,_,_,_,_,_,_,⟨_,z1S _ _ _ _ g⟩,?_⟩;obtain⟨q2,g,h⟩:=zC h;refine⟨_,_,_,_,_,_,_,_,_,_,_,_,_,_,⟨_,z1S _ _ _ _ g⟩,?_⟩;rintro _ rfl;refine zG zq2 h (fun _ h=>?_) (fun _ h=>?_)
 ·rintro _ rfl;refine zG zq2 h (fun _ h=>?_) (fun _ h=>?_)
  ·obtain⟨q3,g,h⟩:=zC h;refine⟨_,⟨_,z5k _ _ _ g⟩,?_⟩;refine zG Iff.rfl h (fun _ h=>?_) (fun _ h=>?_)
   ·obtain⟨q4,g,h⟩:=zC h;refine⟨_,⟨_,z5k _ _ _ g⟩,?_⟩;refine zG Iff.rfl h (fun _ h=>?_) (fun _ h=>?_)
    ·obtain⟨q5,g,h⟩:=zC h;refine⟨_,⟨_,z4c _ _ _ g⟩,?_⟩;refine zG Iff.rfl h (fun _ h=>?_) (fun _ h=>?_)
     ·obtain⟨q6,g,h⟩:=zC h;refine⟨_,⟨_,y1p _ _ _ _ _ _ g⟩,?_⟩;refine zD Iff.rfl h (fun _ h=>?_) (fun _ h=>?_)
      ·obtain⟨q7,g,h⟩:=zC h;refine⟨_,⟨_,y1p _ _ _ _ _ _ g⟩,?_⟩;cases h;exact⟨rfl,rfl⟩
      cases h;exact⟨rfl,rfl⟩
     cases h;exact⟨rfl,rfl⟩
    cases h;exact⟨rfl,rfl⟩
   cases h;exact⟨rfl,rfl⟩
  cases h;exact⟨rfl,rfl⟩
 cases h;exact⟨rfl,rfl⟩
theorem y3s(c:Ref25Rule)(r:Bool)(h:z4D c=some r):Trip Tryz.prog 5 [.d (.agg [(.int .i64 c.M.K),(.int .i64 c.M.N),(.str c.M.S),(.sl (List.map zA.toD c.M.L)),(.int .i64 c.M.From),(.int .i64 c.M.To),(.sl (List.map zA.toD c.Types)),(.sl (List.map Value.toD c.S.Globals)),(.sl (List.map Value.toD c.S.Locals)),(.sl (List.map (D.int .i64) c.S.Input)),(.int .i64 c.S.At),(.sl (List.map (D.int .i64) c.S.Trace)),(.int .i64 c.S.Fuel),(.int .i64 c.S.Kind),(.int .i64 c.S.N),(.int .i64 c.S.Ret.N),(.sl (List.map Value.toD c.S.Ret.L)),(.int .i64 c.Rule),(.int .i64 c.L.K),(.int .i64 c.L.N),(.str c.L.S),(.sl (List.map zA.toD c.L.L)),(.int .i64 c.L.From),(.int .i64 c.L.To),(.int .i64 c.R.K),(.int .i64 c.R.N),(.str c.R.S),(.sl (List.map zA.toD c.R.L)),(.int .i64 c.R.From),(.int .i64 c.R.To)])] [] [(nB r)] []:=by
 unfold z4D at h;refine zH 1000 (y3D _ _ _ _ c) ?_;obtain⟨q1,g,h⟩:=zC h;refine⟨_,⟨_,y9Y _ _ g⟩,?_⟩;refine zD Iff.rfl h (fun _ h=>?_) (fun _ h=>?_)
 ·obtain⟨q2,g,h⟩:=zC h;refine⟨_,⟨_,z6f _ g⟩,?_⟩;cases h;exact⟨rfl,rfl⟩
 obtain⟨q3,g,h⟩:=zC h;refine⟨_,⟨_,y2V _ _ g⟩,?_⟩;refine zG Iff.rfl h (fun _ h=>?_) (fun _ h=>?_)
 ·obtain⟨q5,g,h⟩:=zC h;refine⟨_,⟨_,y9N _ _ _ _ _ g⟩,?_⟩;refine zG Iff.rfl h (fun _ h=>?_) (fun _ h=>?_)
  ·obtain⟨q7,g,h⟩:=zC h;refine⟨_,⟨_,y9Z _ _ _ _ _ _ g⟩,?_⟩;refine zD Iff.rfl h (fun _ h=>?_) (fun _ h=>?_)
   ·obtain⟨q8,g,h⟩:=zC h;refine⟨_,⟨_,z6f _ g⟩,?_⟩;cases h;exact⟨rfl,rfl⟩
   cases h;exact⟨rfl,rfl⟩
  obtain⟨q6,g,h⟩:=zC h;refine⟨_,⟨_,z6f _ g⟩,?_⟩;cases h;exact⟨rfl,rfl⟩
 obtain⟨q4,g,h⟩:=zC h;refine⟨_,⟨_,z6f _ g⟩,?_⟩;cases h;exact⟨rfl,rfl⟩
end Go.Proofs.YtcpblelppecabaaGreat.M

