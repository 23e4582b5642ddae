import Derived.Test.YtcpblelppecabaaMod
import Derived.Test.YtcpblelppecabaaEvb
import Derived.Test.YtcpblelppecabaaLay
import Derived.Test.YtcpblelppecabaaFwZA
namespace Go.Proofs.Ytcpblelppecabaa.M
open Go Nt Go.Proofs
set_option linter.unusedVariables false
set_option linter.unusedSimpArgs false
set_option linter.unnecessarySimpa false
set_option maxRecDepth 100000
theorem z0I(b:Bool)(r:Int)(h:z0f b=some r):Trip Try.prog 43 [(nB b)] [] [(nI r)] []:=by
 unfold z0f at h;refine zH 1000 (y3R _ _ _ _ b) ?_;refine zC Iff.rfl h (fun _ h=>?_) (fun _ h=>?_)
 ·cases h;exact⟨rfl,rfl⟩
 cases h;exact⟨rfl,rfl⟩
theorem y0A(op a:Int)(r:Int×Int)(h:z4h op a=some r):Trip Try.prog 28 [(nI op),(nI a)] [] [(nI r.1),(nI r.2)] []:=by
 unfold z4h at h;refine zH 1000 (y7N _ _ _ _ op a) ?_;rintro _ rfl;refine zC zq2 h (fun _ h=>?_) (fun _ h=>?_)
 ·rintro _ rfl;cases h;exact⟨rfl,rfl⟩
 rintro _ rfl;refine zC zq2 h (fun _ h=>?_) (fun _ h=>?_)
 ·rintro _ rfl;obtain⟨q1,g,h⟩:=zE h;refine⟨_,⟨_,z0I _ _ g⟩,?_⟩;cases h;exact⟨rfl,rfl⟩
 cases h;exact⟨rfl,rfl⟩
theorem y3u(op r:Int)(h:z3x op=some r):Trip Try.prog 42 [(nI op)] [] [(nI r)] []:=by
 unfold z3x at h;refine zH 1000 (y3Q _ _ _ _ op) ?_;rintro _ rfl;refine zC zq2 h (fun _ h=>?_) (fun _ h=>?_)
 ·cases h;exact⟨rfl,rfl⟩
 rintro _ rfl;refine zC zq2 h (fun _ h=>?_) (fun _ h=>?_)
 ·cases h;exact⟨rfl,rfl⟩
 rintro _ rfl;refine zC decide_eq_true_iff h (fun _ h=>?_) (fun _ h=>?_)
 ·rintro _ rfl;refine zC decide_eq_true_iff h (fun _ h=>?_) (fun _ h=>?_)
  ·cases h;exact⟨rfl,rfl⟩
  rintro _ rfl;refine zC decide_eq_true_iff h (fun _ h=>?_) (fun _ h=>?_)
  ·rintro _ rfl;refine zC decide_eq_true_iff h (fun _ h=>?_) (fun _ h=>?_)
   ·cases h;exact⟨rfl,rfl⟩
   cases h;exact⟨rfl,rfl⟩
  cases h;exact⟨rfl,rfl⟩
 rintro _ rfl;refine zC decide_eq_true_iff h (fun _ h=>?_) (fun _ h=>?_)
 ·rintro _ rfl;refine zC decide_eq_true_iff h (fun _ h=>?_) (fun _ h=>?_)
  ·cases h;exact⟨rfl,rfl⟩
  cases h;exact⟨rfl,rfl⟩
 cases h;exact⟨rfl,rfl⟩
theorem y0B(op a b:Int)(r:Bool)(h:z1T op a b=some r):Trip Try.prog 44 [(nI op),(nI a),(nI b)] [] [(nB r)] []:=by
 unfold z1T at h;refine zH 1000 (y1e _ _ _ _ op a b) ?_;rintro _ rfl;refine zC zq2 h (fun _ h=>?_) (fun _ h=>?_)
 ·rintro _ rfl;cases h;exact⟨rfl,rfl⟩
 rintro _ rfl;refine zC zq2 h (fun _ h=>?_) (fun _ h=>?_)
 ·rintro _ rfl;cases h;exact⟨rfl,rfl⟩
 rintro _ rfl;refine zC zq2 h (fun _ h=>?_) (fun _ h=>?_)
 ·rintro _ rfl;cases h;exact⟨rfl,rfl⟩
 rintro _ rfl;refine zC zq2 h (fun _ h=>?_) (fun _ h=>?_)
 ·rintro _ rfl;cases h;exact⟨rfl,rfl⟩
 rintro _ rfl;refine zC zq2 h (fun _ h=>?_) (fun _ h=>?_)
 ·rintro _ rfl;cases h;exact⟨rfl,rfl⟩
 rintro _ rfl;cases h;exact⟨rfl,rfl⟩
theorem y2n(op a b:Int)(r:Int×Int)(h:z2J op a b=some r):Trip Try.prog 45 [(nI op),(nI a),(nI b)] [] [(nI r.1),(nI r.2)] []:=by
 unfold z2J at h;refine zH 1000 (y2u _ _ _ _ op a b) ?_;rintro _ rfl;refine zC zq2 h (fun _ h=>?_) (fun _ h=>?_)
 ·rintro _ rfl;cases h;exact⟨rfl,rfl⟩
 rintro _ rfl;refine zC zq2 h (fun _ h=>?_) (fun _ h=>?_)
 ·rintro _ rfl;cases h;exact⟨rfl,rfl⟩
 rintro _ rfl;refine zC zq2 h (fun _ h=>?_) (fun _ h=>?_)
 ·rintro _ rfl;cases h;exact⟨rfl,rfl⟩
 rintro _ rfl;refine zC zq2 h (fun _ h=>?_) (fun _ h=>?_)
 ·cases h;exact⟨rfl,rfl⟩
 rintro _ rfl;refine zC zq2 h (fun _ h=>?_) (fun _ h=>?_)
 ·obtain⟨hP,h⟩:=jR h;refine⟨by first|exact hP|simpa using hP,?_⟩;rintro _ rfl;cases h;exact⟨rfl,rfl⟩
 obtain⟨hP,h⟩:=jR h;refine⟨by first|exact hP|simpa using hP,?_⟩;rintro _ rfl;cases h;exact⟨rfl,rfl⟩
theorem y7h(op a b:Int)(r:Int×Int)(h:z6m op a b=some r):Trip Try.prog 26 [(nI op),(nI a),(nI b)] [] [(nI r.1),(nI r.2)] []:=by
 unfold z6m at h;refine zH 1000 (y7O _ _ _ _ op a b) ?_;obtain⟨q1,g,h⟩:=zE h;refine⟨_,⟨_,y3u _ _ g⟩,?_⟩;rintro _ rfl;refine zC zq2 h (fun _ h=>?_) (fun _ h=>?_)
 ·rintro _ rfl;refine zC zq2 h (fun _ h=>?_) (fun _ h=>?_)
  ·rintro _ rfl;refine zG zq2 h (fun _ h=>?_) (fun _ h=>?_)
   ·rintro _ rfl;obtain⟨q3,g,h⟩:=zE h;refine⟨_,⟨_,z0I _ _ g⟩,?_⟩;cases h;exact⟨rfl,rfl⟩
   obtain⟨q2,g,h⟩:=zE h;refine⟨_,⟨_,z0I _ _ g⟩,?_⟩;cases h;exact⟨rfl,rfl⟩
  rintro _ rfl;refine zG zq2 h (fun _ h=>?_) (fun _ h=>?_)
  ·obtain⟨q5,g,h⟩:=zE h;refine⟨_,⟨_,z0I _ _ g⟩,?_⟩;cases h;exact⟨rfl,rfl⟩
  rintro _ rfl;obtain⟨q4,g,h⟩:=zE h;refine⟨_,⟨_,z0I _ _ g⟩,?_⟩;cases h;exact⟨rfl,rfl⟩
 rintro _ rfl;refine zC zq2 h (fun _ h=>?_) (fun _ h=>?_)
 ·obtain⟨q6,g,h⟩:=zE h;refine⟨_,⟨_,y0B _ _ _ _ g⟩,?_⟩;obtain⟨q7,g,h⟩:=zE h;refine⟨_,⟨_,z0I _ _ g⟩,?_⟩;cases h;exact⟨rfl,rfl⟩
 rintro _ rfl;refine zC zq2 h (fun _ h=>?_) (fun _ h=>?_)
 ·obtain⟨q8,g,h⟩:=zE h;refine⟨_,_,⟨_,y2n _ _ _ _ g⟩,?_⟩;cases h;exact⟨rfl,rfl⟩
 cases h;exact⟨rfl,rfl⟩
theorem gD(t:zA)(kind:Int)(r:Bool)(h:uI t kind=some r):Trip Try.prog 27 [.d (tT t),(nI kind)] [] [(nB r)] []:=by
 unfold uI at h;refine zH 1000 (y2v _ _ _ _ t kind) ?_;rintro _ rfl;refine zC zq2 h (fun _ h=>?_) (fun _ h=>?_)
 ·rintro _ rfl;refine zC zq2 h (fun _ h=>?_) (fun _ h=>?_)
  ·refine zZ (e':=(List.length t.L:Int)) (by first|rfl|rw[zq3]) ?_;rintro _ rfl;refine zC zq2 h (fun _ h=>?_) (fun _ h=>?_)
   ·rintro _ rfl;refine zC zq2 h (fun _ h=>?_) (fun _ h=>?_)
    ·cases h;exact⟨rfl,rfl⟩
    rintro _ rfl;refine zC zq2 h (fun _ h=>?_) (fun _ h=>?_)
    ·cases h;exact⟨rfl,rfl⟩
    rintro _ rfl;cases h;exact⟨rfl,rfl⟩
   cases h;exact⟨rfl,rfl⟩
  cases h;exact⟨rfl,rfl⟩
 cases h;exact⟨rfl,rfl⟩
theorem wL(t:zA)(kind:Int)(r:Bool)(h:wE t kind=some r):Trip Try.prog 41 [.d (tT t),(nI kind)] [] [(nB r)] []:=by
 unfold wE at h;refine zH 1000 (y7P _ _ _ _ t kind) ?_;refine zZ (e':=(List.length t.L:Int)) (by first|rfl|rw[zq3]) ?_;rintro _ rfl;refine zC zq2 h (fun _ h=>?_) (fun _ h=>?_)
 ·obtain⟨x,hx,h⟩:=zE h;refine⟨zF (l:=t.L) (zA.sz),vO hx,x.K,x.N,x.S,List.map zA.toD x.L,x.From,x.To,zP (zA.toD_eq x) hx,?_⟩;obtain⟨q1,g,h⟩:=zE h;refine⟨_,⟨_,gD _ _ _ g⟩,?_⟩;refine zC Iff.rfl h (fun _ h=>?_) (fun _ h=>?_)
  ·obtain⟨x1,hx,h⟩:=zE h;refine⟨zF (l:=t.L) (zA.sz),vO hx,x1.K,x1.N,x1.S,List.map zA.toD x1.L,x1.From,x1.To,zP (zA.toD_eq x1) hx,?_⟩;obtain⟨q2,g,h⟩:=zE h;refine⟨_,⟨_,gD _ _ _ g⟩,?_⟩;cases h;exact⟨rfl,rfl⟩
  cases h;exact⟨rfl,rfl⟩
 cases h;exact⟨rfl,rfl⟩
theorem y3w(t:zA)(r:Int)(h:z3D t=some r):Trip Try.prog 25 [.d (tT t)] [] [(nI r)] []:=by
 unfold z3D at h;refine zH 1000 (y3T _ _ _ _ t) ?_;rintro _ rfl;refine zC zq2 h (fun hc35 h=>?_) (fun hc35 h=>?_)
 ·refine gR zq2 hc35 ?_;obtain⟨q1,g,h⟩:=zE h;refine⟨_,⟨_,wL _ _ _ g⟩,?_⟩;refine zC Iff.rfl h (fun _ h=>?_) (fun _ h=>?_)
  ·cases h;exact⟨rfl,rfl⟩
  obtain⟨q2,g,h⟩:=zE h;refine⟨_,⟨_,wL _ _ _ g⟩,?_⟩;refine zC Iff.rfl h (fun _ h=>?_) (fun _ h=>?_)
  ·cases h;exact⟨rfl,rfl⟩
  cases h;exact⟨rfl,rfl⟩
 rintro _ rfl;refine zC zq2 h (fun _ h=>?_) (fun _ h=>?_)
 ·obtain⟨q53,g,h⟩:=zE h;refine⟨_,⟨_,wL _ _ _ g⟩,?_⟩;refine zC Iff.rfl h (fun _ h=>?_) (fun _ h=>?_)
  ·cases h;exact⟨rfl,rfl⟩
  obtain⟨q54,g,h⟩:=zE h;refine⟨_,⟨_,wL _ _ _ g⟩,?_⟩;refine zC Iff.rfl h (fun _ h=>?_) (fun _ h=>?_)
  ·cases h;exact⟨rfl,rfl⟩
  cases h;exact⟨rfl,rfl⟩
 rintro _ rfl;refine zC zq2 h (fun hc41 h=>?_) (fun hc41 h=>?_)
 ·refine gR zq2 hc41 ?_;obtain⟨q55,g,h⟩:=zE h;refine⟨_,⟨_,wL _ _ _ g⟩,?_⟩;refine zC Iff.rfl h (fun _ h=>?_) (fun _ h=>?_)
  ·cases h;exact⟨rfl,rfl⟩
  cases h;exact⟨rfl,rfl⟩
 rintro _ rfl;refine zC zq2 h (fun _ h=>?_) (fun _ h=>?_)
 ·obtain⟨q80,g,h⟩:=zE h;refine⟨_,⟨_,wL _ _ _ g⟩,?_⟩;refine zC Iff.rfl h (fun _ h=>?_) (fun _ h=>?_)
  ·cases h;exact⟨rfl,rfl⟩
  cases h;exact⟨rfl,rfl⟩
 rintro _ rfl;refine zC zq2 h (fun hc45 h=>?_) (fun hc45 h=>?_)
 ·refine gR zq2 hc45 ?_;obtain⟨q81,g,h⟩:=zE h;refine⟨_,⟨_,wL _ _ _ g⟩,?_⟩;refine zC Iff.rfl h (fun _ h=>?_) (fun _ h=>?_)
  ·cases h;exact⟨rfl,rfl⟩
  cases h;exact⟨rfl,rfl⟩
 rintro _ rfl;refine zC zq2 h (fun hc47 h=>?_) (fun hc47 h=>?_)
 ·refine gR zq2 hc47 ?_;obtain⟨q87,g,h⟩:=zE h;refine⟨_,⟨_,wL _ _ _ g⟩,?_⟩;refine zC Iff.rfl h (fun _ h=>?_) (fun _ h=>?_)
  ·cases h;exact⟨rfl,rfl⟩
  cases h;exact⟨rfl,rfl⟩
 rintro _ rfl;refine zC zq2 h (fun hc49 h=>?_) (fun hc49 h=>?_)
 ·refine gR zq2 hc49 ?_;obtain⟨q93,g,h⟩:=zE h;refine⟨_,⟨_,wL _ _ _ g⟩,?_⟩;refine zC Iff.rfl h (fun _ h=>?_) (fun _ h=>?_)
  ·cases h;exact⟨rfl,rfl⟩
  cases h;exact⟨rfl,rfl⟩
 rintro _ rfl;refine zC zq2 h (fun _ h=>?_) (fun _ h=>?_)
 ·obtain⟨q99,g,h⟩:=zE h;refine⟨_,⟨_,wL _ _ _ g⟩,?_⟩;refine zC Iff.rfl h (fun _ h=>?_) (fun _ h=>?_)
  ·cases h;exact⟨rfl,rfl⟩
  cases h;exact⟨rfl,rfl⟩
 rintro _ rfl;refine zC zq2 h (fun hc53 h=>?_) (fun hc53 h=>?_)
 ·refine gR zq2 hc53 ?_;obtain⟨q100,g,h⟩:=zE h;refine⟨_,⟨_,wL _ _ _ g⟩,?_⟩;refine zC Iff.rfl h (fun _ h=>?_) (fun _ h=>?_)
  ·cases h;exact⟨rfl,rfl⟩
  cases h;exact⟨rfl,rfl⟩
 rintro _ rfl;refine zC zq2 h (fun hc55 h=>?_) (fun hc55 h=>?_)
 ·refine gR zq2 hc55 ?_;obtain⟨q101,g,h⟩:=zE h;refine⟨_,⟨_,wL _ _ _ g⟩,?_⟩;refine zC Iff.rfl h (fun _ h=>?_) (fun _ h=>?_)
  ·cases h;exact⟨rfl,rfl⟩
  cases h;exact⟨rfl,rfl⟩
 rintro _ rfl;refine zC zq2 h (fun hc57 h=>?_) (fun hc57 h=>?_)
 ·refine gR zq2 hc57 ?_;obtain⟨q102,g,h⟩:=zE h;refine⟨_,⟨_,wL _ _ _ g⟩,?_⟩;refine zC Iff.rfl h (fun _ h=>?_) (fun _ h=>?_)
  ·cases h;exact⟨rfl,rfl⟩
  cases h;exact⟨rfl,rfl⟩
 rintro _ rfl;refine zC zq2 h (fun hc59 h=>?_) (fun hc59 h=>?_)
 ·refine gR zq2 hc59 ?_;obtain⟨q103,g,h⟩:=zE h;refine⟨_,⟨_,wL _ _ _ g⟩,?_⟩;refine zC Iff.rfl h (fun _ h=>?_) (fun _ h=>?_)
  ·cases h;exact⟨rfl,rfl⟩
  cases h;exact⟨rfl,rfl⟩
 rintro _ rfl;refine zC zq2 h (fun _ h=>?_) (fun _ h=>?_)
 ·obtain⟨q104,g,h⟩:=zE h;refine⟨_,⟨_,wL _ _ _ g⟩,?_⟩;refine zC Iff.rfl h (fun _ h=>?_) (fun _ h=>?_)
  ·cases h;exact⟨rfl,rfl⟩
  cases h;exact⟨rfl,rfl⟩
 cases h;exact⟨rfl,rfl⟩
theorem z9l(t:zA)(r:zA×Bool)(h:z3k t=some r):Trip Try.prog 13 [.d (tT t)] [] [.d (tT r.1),(nB r.2)] []:=by
 unfold z3k at h;refine zH 1000 (y5M _ _ _ _ t) ?_;rintro _ rfl;refine zG zq2 h (fun _ h=>?_) (fun _ h=>?_)
 ·rintro _ rfl;refine zC zq2 h (fun _ h=>?_) (fun _ h=>?_)
  ·obtain⟨q1,g,h⟩:=zE h;refine⟨_,⟨_,y3w _ _ g⟩,?_⟩;rintro _ rfl;refine zC zq2 h (fun _ h=>?_) (fun _ h=>?_)
   ·cases h;exact⟨rfl,rfl⟩
   obtain⟨x,hx,h⟩:=zE h;refine⟨zF (l:=t.L) (zA.sz),vO hx,x.K,x.N,x.S,List.map zA.toD x.L,x.From,x.To,zP (zA.toD_eq x) hx,?_⟩;obtain⟨x1,hx,h⟩:=zE h;refine⟨zF (l:=t.L) (zA.sz),vO hx,x1.K,x1.N,x1.S,List.map zA.toD x1.L,x1.From,x1.To,zP (zA.toD_eq x1) hx,?_⟩;obtain⟨q2,g,h⟩:=zE h;refine⟨_,_,⟨_,y7h _ _ _ _ g⟩,?_⟩;rintro _ rfl;refine zG zq2 h (fun _ h=>?_) (fun _ h=>?_)
   ·cases h;exact⟨rfl,rfl⟩
   cases h;exact⟨rfl,rfl⟩
  rintro _ rfl;refine zC zq2 h (fun _ h=>?_) (fun _ h=>?_)
  ·refine zZ (e':=(List.length t.L:Int)) (by first|rfl|rw[zq3]) ?_;rintro _ rfl;refine zC zq2 h (fun _ h=>?_) (fun _ h=>?_)
   ·rintro _ rfl;refine zC zq2 h (fun hc69 h=>?_) (fun hc69 h=>?_)
    ·obtain⟨x2,hx,h⟩:=zE h;refine⟨zF (l:=t.L) (zA.sz),vO hx,x2.K,x2.N,x2.S,List.map zA.toD x2.L,x2.From,x2.To,zP (zA.toD_eq x2) hx,?_⟩;obtain⟨q3,g,h⟩:=zE h;refine⟨_,⟨_,gD _ _ _ g⟩,?_⟩;refine zC Iff.rfl h (fun _ h=>?_) (fun _ h=>?_)
     ·obtain⟨x3,hx,h⟩:=zE h;refine⟨zF (l:=t.L) (zA.sz),vO hx,x3.K,x3.N,x3.S,List.map zA.toD x3.L,x3.From,x3.To,zP (zA.toD_eq x3) hx,?_⟩;obtain⟨q4,g,h⟩:=zE h;refine⟨_,_,⟨_,y0A _ _ _ g⟩,?_⟩;obtain⟨x4,hx,h⟩:=zE h;refine⟨zF (l:=t.L) (zA.sz),vO hx,x4.K,x4.N,x4.S,List.map zA.toD x4.L,x4.From,x4.To,zP (zA.toD_eq x4) hx,?_⟩;cases h;exact⟨rfl,rfl⟩
     rintro _ rfl;refine yR zq2 (fun e=>absurd (hc69.symm.trans e) (by decide)) ?_;cases h;exact⟨rfl,rfl⟩
    rintro _ rfl;refine zC zq2 h (fun _ h=>?_) (fun _ h=>?_)
    ·obtain⟨x8,hx,h⟩:=zE h;refine⟨zF (l:=t.L) (zA.sz),vO hx,x8.K,x8.N,x8.S,List.map zA.toD x8.L,x8.From,x8.To,zP (zA.toD_eq x8) hx,?_⟩;obtain⟨q7,g,h⟩:=zE h;refine⟨_,⟨_,gD _ _ _ g⟩,?_⟩;refine zC Iff.rfl h (fun _ h=>?_) (fun _ h=>?_)
     ·obtain⟨x9,hx,h⟩:=zE h;refine⟨zF (l:=t.L) (zA.sz),vO hx,x9.K,x9.N,x9.S,List.map zA.toD x9.L,x9.From,x9.To,zP (zA.toD_eq x9) hx,?_⟩;obtain⟨q8,g,h⟩:=zE h;refine⟨_,_,⟨_,y0A _ _ _ g⟩,?_⟩;obtain⟨x10,hx,h⟩:=zE h;refine⟨zF (l:=t.L) (zA.sz),vO hx,x10.K,x10.N,x10.S,List.map zA.toD x10.L,x10.From,x10.To,zP (zA.toD_eq x10) hx,?_⟩;cases h;exact⟨rfl,rfl⟩
     cases h;exact⟨rfl,rfl⟩
    cases h;exact⟨rfl,rfl⟩
   cases h;exact⟨rfl,rfl⟩
  cases h;exact⟨rfl,rfl⟩
 cases h;exact⟨rfl,rfl⟩
open Go.RowKit in
theorem y1x{w:World}{M:Nat→Nat→Prop}{b o:Nat}{ls:List (List zA)}(hc:RelC w M b o (wZ (ls.map (eS zA.toD)))){k:Nat}(hk:k<ls.length):
  ∃v,w.cell? ⟨b,o+k,none⟩=some v∧RelV w M v (.sl (ls[k].map zA.toD)):=by
 have hs:zD 1 (ls.map (eS zA.toD)):=zF (fun x=>rfl);have h:=hc.elem hs (i:=k) (x:=eS zA.toD ls[k]) (by rw[List.getElem?_map,List.getElem?_eq_getElem hk];rfl);rw[Nat.mul_one]at h;cases h with
 |cons _ _ v _ _ c0 _ _ r0 _=>exact⟨v,c0,r0⟩
theorem y6Q{α:Type}(l:List (List α)){k:Nat}(h:k<l.length):(l.take (k+1)).flatten=(l.take k).flatten++l[k]:=by
 rw[List.take_succ_eq_append_getElem h,List.flatten_append];simp
theorem y6R{α:Type}(l:List (List α))(k:Nat):(l.take k).flatten.length≤l.flatten.length:=by
 have:=congrArg List.flatten (List.take_append_drop k l);rw[List.flatten_append]at this;rw[←this,List.length_append];omega
def v4f(l:List (List zA))(k:Nat):Nat:=(l.take k).flatten.length
set_option maxHeartbeats 4000000 in
set_option maxRecDepth 1000000 in
open Go.RowKit Go.Shelf in
theorem z7H(slices:List (List zA))(r:List zA)(h:z0T slices=some r):Trip Try.prog 46 [.d (.sl (List.map (eS zA.toD) slices))] [] [.d (.sl (List.map zA.toD r))] []:=by
 refine⟨⟨_,Try.func46,by rfl,by rfl⟩,fun w M0 κ vs B hv=>?_⟩;unfold z0T at h;obtain⟨hsl,h⟩:=jR h;obtain⟨hroom,h⟩:=jR h;have hr:=Option.some.inj h;subst hr;clear h;obtain⟨i0,dd,hi,hz1,-⟩:=uZ (P:=Try.prog) (t:=24) (n:=6) (by kernel_rfl);have hz2:=z5i (P:=Try.prog) (t:=24) (n:=72) (by kernel_rfl) hi;have hz0:=z4F (P:=Try.prog) (t:=24) (z:=.agg #[.int .i64 0,.int .i64 0,.string ⟨#[]⟩,.slice none 0 0,.int .i64 0,.int .i64 0]) (by kernel_rfl) hi;obtain⟨len,hlen9⟩:∃len,len=v4f slices:=⟨_,rfl⟩
 have hlen:∀k,len k=(slices.take k).flatten.length:=fun k=>by rw[hlen9];rfl
 clear hlen9;have hlen0:len 0=0:=by rw[hlen];rfl
 have hlenN:len slices.length=slices.flatten.length:=by rw[hlen,List.take_length]
 have hlenS:∀k (hk:k<slices.length),len (k+1)=len k+slices[k].length:=fun k hk=>by rw[hlen,hlen,y6Q slices hk,List.length_append]
 have hlenM:∀k,len k≤len slices.length:=fun k=>by rw[hlenN,hlen];exact y6R slices k
 rw[←hlenN]at hroom;have hlenX:(slices.take slices.length).flatten.length=len slices.length:=(hlen _).symm;clear hlenN;have hfl:∀k,(slices.take k).flatten.length=len k:=fun k=>(hlen k).symm;clear hlen hlenX;cases hv with
 |cons v _ vs _ g1 hv=>
  cases hv;cases g1 with
  |d _ _ g1=>
   obtain⟨ad,cap,rfl,hopen⟩:=y8C g1;rw[zq3]at *
   go_enter Try.func46,Try.ntmps46
   go_wp2_with fail
   go_loopw [3,11] (fun sz i wr=>∃(k:Nat),i=.int .i64 (k:Int)∧k≤slices.length∧sz=.int .i64 ((len k:Nat):Int)∧wr=w) (fun _ i _=>slices.length-(intOf i).toNat)
   case atStart=>exact⟨0,rfl,Nat.zero_le _,by rw[hlen0];rfl,rfl⟩
   case round=>
    obtain⟨k,rfl,hk,rfl,hww⟩:=hrel;have hww:=hww.symm;subst hww;by_cases hlt:k<slices.length
    ·obtain⟨b,o,rfl,hc⟩:=hopen (fun e=>by have:=congrArg List.length e;simp at this;rw[this]at hlt;simp at hlt);obtain⟨vk,ck,hvk⟩:=y1x hc hlt;obtain⟨ak,capk,rfl,-⟩:=y8C hvk;have h1:=hlenS k hlt;have h2:=hlenM (k+1);rw[zq3]at ck;have e0:wrap64 ((len k:Int)+(slices[k].length:Int))=((len (k+1):Nat):Int):=by unfold wrap64;omega
     have e1:¬(((len (k+1):Nat):Int)<0):=Int.not_lt.2 (Int.natCast_nonneg _)
     go_wp2_with fail
     go_roundw
     case rel=>exact⟨k+1,by go_num,hlt,by rw[h1];go_num,trivial⟩
     case measure=>simp[intOf];omega
    ·have hke:k=slices.length:=by omega
     subst hke
     go_wp2_with fail
     refine(v2h v3R (T:=24) rfl i0 _ hi hz0 hz1 hz2 rfl (by decide) (len slices.length) _ (by omega) (by omega)).mono ?_;rintro e W1 ⟨v1,rfl,hown0,hb0⟩
     go_wp2_with fail
     go_loopw [6,27] (fun v i w2=>∃(k:Nat) (us:List Go.Value),i=.int .i64 (k:Int)∧k≤slices.length∧w2.ownsRow w.heap.size 24 6 v (len k) us∧Stand w (Mut M0 κ) us (wZ ((slices.take k).flatten.map zA.toD))∧Below w.heap.size w w2) (fun _ i _=>slices.length-(intOf i).toNat)
     case atStart=>exact⟨0,[],rfl,Nat.zero_le _,by rw[hlen0];exact hown0,⟨rfl,fun j u c h=>by simp at h⟩,hb0⟩
     case round=>
      obtain⟨k,us,rfl,hk,hown,hst,hbw⟩:=hrel;by_cases hlt:k<slices.length
      ·obtain⟨b,o,rfl,hc⟩:=hopen (fun e=>by have:=congrArg List.length e;simp at this;rw[this]at hlt;simp at hlt);obtain⟨vk,ck,hvk⟩:=y1x hc hlt;have ck':=(hbw.cell (p:=⟨b,o+k,none⟩) (z3z ck)).trans ck;have h1:=hlenS k hlt;have h2:=hlenM (k+1);have hst2:∀news,Stand w (Mut M0 κ) news (wZ (slices[k].map zA.toD))→Stand w (Mut M0 κ) (us++news) (wZ ((slices.take (k+1)).flatten.map zA.toD)):=fun news hn=>by
        rw[y6Q slices hlt,List.map_append,z0x];exact hst.app hn
       rcases v2B hvk with⟨rfl,he⟩|⟨adk,capk,rfl,hsrc⟩
       ·have hl0:slices[k].length=0:=by rw[←zq3 (f:=zA.toD),he];rfl
        have hst3:=hst2 [] (by rw[he];exact⟨rfl,fun j u c h=>by simp at h⟩);rw[List.append_nil]at hst3
        go_wp2_with (at_builtin;refine wpList_append_own_none rfl _ _ 22 rfl w.heap.size 24 i0 6 Try.underlying22 hi _ _ _ rfl hown rfl ?_)
        go_roundw
        case rel=>exact⟨k+1,us,by go_num,hlt,by rw[h1,hl0];exact hown,hst3,hbw⟩
        case measure=>simp[intOf];omega
       ·rw[zq3]at ck';obtain⟨news,n1,n2,n3,n4⟩:=v1w (zF fun x=>zA.sz x) hsrc;rw[zq3]at n1;have hst3:=hst2 news n4
        go_wp2_with (first
         |(at_builtin;refine wpList_append_own _ rfl _ _ 22 rfl w.heap.size 24 i0 (.agg #[.int .i64 0,.int .i64 0,.string ⟨#[]⟩,.slice none 0 0,.int .i64 0,.int .i64 0]) 6 72 Try.underlying22 hi hz0 hz1 hz2 rfl (by decide) _ _ _ rfl hown adk slices[k].length capk news rfl n1 ?c1 n3 ?c3 ?c4 ?c5 ?_)
         |fail)
        case c1=>intro j u hj;have:=n2 j u hj;exact(hbw.cell (v1Y this)).trans this
        case c3=>unfold maxLen;omega
        case c4=>omega
        case c5=>exact hbw.size
        ·intro v' w3 hown' hgrow _;have hb3:Below w.heap.size w w3:=hbw.grown hgrow hbw.size (fun j hj=>(hown.lt j hj).1);rw[←h1]at hown';clear hgrow hown hbw
         go_wp2
         go_roundw
         case rel=>exact⟨k+1,us++news,by go_num,hlt,hown',hst3,hb3⟩
         case measure=>simp[intOf];omega
      ·have hke:k=slices.length:=by omega
       subst hke;rw[List.take_length]at hst;have hlN:(slices.flatten.map zA.toD).length=len slices.length:=by rw[zq3,←hfl,List.take_length]
       rw[←hlN]at hown
       go_wp2_with fail
       go_ret
       exact⟨_,κ,rfl,y0T B hbw,rfl,.d _ _ (v1h hown (zF fun x=>zA.sz x) hst (z7J hbw _) fun b o hb=>v0K B hb)⟩
def z5q:(i:I_quiet_Quiet_L3)→z2Q i→Prop
 |.quiet_Quiet_L3 quiet v7 v8 v9,r=>Ok (z4R (Trip Try.prog) [(nB r)] []) (kL Try.f49 3) ⟨57,[(3,(nB quiet)),(7,.d (.sl (List.map zA.toD v7))),(8,(nI v8)),(9,(nI v9))],[],[],0⟩
theorem z9z:∀i r,jT z0X i=some r→z5q i r:=by
 refine zX z5k fun g ih i=>?_;cases i with
 |quiet_Quiet_L3 quiet v7 v8 v9=>
  have v4l:=fun quiet v7 v8 v9 r h=>ih (.quiet_Quiet_L3 quiet v7 v8 v9) r h;intro r h;replace h:uB (fun quiet v7 v8 v9=>g (I_quiet_Quiet_L3.quiet_Quiet_L3 quiet v7 v8 v9)) quiet v7 v8 v9=some r:=h;unfold uB at h;refine jV 1000 (z9P _ _ _ _ quiet v7 v8 v9) ?_;rintro _ rfl;refine zC decide_eq_true_iff h (fun _ h=>?_) (fun _ h=>?_)
  ·obtain⟨x,hx,h⟩:=zE h;refine⟨zF (l:=v7) (zA.sz),vO hx,x.K,x.N,x.S,List.map zA.toD x.L,x.From,x.To,zP (zA.toD_eq x) hx,?_⟩;rintro _ rfl;refine zC zq2 h (fun hc74 h=>?_) (fun hc74 h=>?_)
   ·refine gR zq2 hc74 ?_;rintro _ rfl;exact v4l _ _ _ _ _ h
   rintro _ rfl;refine zC zq2 h (fun hc75 h=>?_) (fun hc75 h=>?_)
   ·refine gR zq2 hc75 ?_;rintro _ rfl;exact v4l _ _ _ _ _ h
   rintro _ rfl;refine zC zq2 h (fun hc76 h=>?_) (fun hc76 h=>?_)
   ·refine gR zq2 hc76 ?_;rintro _ rfl;exact v4l _ _ _ _ _ h
   rintro _ rfl;refine zC zq2 h (fun hc77 h=>?_) (fun hc77 h=>?_)
   ·refine gR zq2 hc77 ?_;rintro _ rfl;exact v4l _ _ _ _ _ h
   rintro _ rfl;refine zC zq2 h (fun hc78 h=>?_) (fun hc78 h=>?_)
   ·refine gR zq2 hc78 ?_;rintro _ rfl;exact v4l _ _ _ _ _ h
   rintro _ rfl;refine zC zq2 h (fun hc79 h=>?_) (fun hc79 h=>?_)
   ·refine gR zq2 hc79 ?_;rintro _ rfl;exact v4l _ _ _ _ _ h
   rintro _ rfl;refine zC zq2 h (fun hc80 h=>?_) (fun hc80 h=>?_)
   ·refine gR zq2 hc80 ?_;rintro _ rfl;exact v4l _ _ _ _ _ h
   rintro _ rfl;refine zC zq2 h (fun hc81 h=>?_) (fun hc81 h=>?_)
   ·refine gR zq2 hc81 ?_;rintro _ rfl;exact v4l _ _ _ _ _ h
   rintro _ rfl;refine zC zq2 h (fun _ h=>?_) (fun _ h=>?_)
   ·rintro _ rfl;exact v4l _ _ _ _ _ h
   rintro _ rfl;refine zC zq2 h (fun _ h=>?_) (fun _ h=>?_)
   ·rintro _ rfl;refine zC zq2 h (fun _ h=>?_) (fun _ h=>?_)
    ·refine zZ (e':=(List.length x.L:Int)) (by first|rfl|rw[zq3]) ?_;rintro _ rfl;refine zC decide_eq_true_iff h (fun _ h=>?_) (fun _ h=>?_)
     ·cases h;exact⟨rfl,rfl⟩
     obtain⟨x33,hx,h⟩:=zE h;refine⟨zF (l:=x.L) (zA.sz),vO hx,x33.K,x33.N,x33.S,List.map zA.toD x33.L,x33.From,x33.To,zP (zA.toD_eq x33) hx,?_⟩;rintro _ rfl;refine zG zq2 h (fun _ h=>?_) (fun _ h=>?_)
     ·obtain⟨x34,hx,h⟩:=zE h;refine⟨zF (l:=x.L) (zA.sz),vO hx,x34.K,x34.N,x34.S,List.map zA.toD x34.L,x34.From,x34.To,zP (zA.toD_eq x34) hx,?_⟩;rintro _ rfl;refine zC zq2 h (fun _ h=>?_) (fun _ h=>?_)
      ·cases h;exact⟨rfl,rfl⟩
      rintro _ rfl;exact v4l _ _ _ _ _ h
     cases h;exact⟨rfl,rfl⟩
    rintro _ rfl;refine zC zq2 h (fun _ h=>?_) (fun _ h=>?_)
    ·refine zZ (e':=(List.length x.L:Int)) (by first|rfl|rw[zq3]) ?_;rintro _ rfl;refine zC decide_eq_true_iff h (fun _ h=>?_) (fun _ h=>?_)
     ·cases h;exact⟨rfl,rfl⟩
     obtain⟨x35,hx,h⟩:=zE h;refine⟨zF (l:=x.L) (zA.sz),vO hx,x35.K,x35.N,x35.S,List.map zA.toD x35.L,x35.From,x35.To,zP (zA.toD_eq x35) hx,?_⟩;rintro _ rfl;refine zG zq2 h (fun _ h=>?_) (fun _ h=>?_)
     ·obtain⟨x36,hx,h⟩:=zE h;refine⟨zF (l:=x.L) (zA.sz),vO hx,x36.K,x36.N,x36.S,List.map zA.toD x36.L,x36.From,x36.To,zP (zA.toD_eq x36) hx,?_⟩;rintro _ rfl;refine zC zq2 h (fun _ h=>?_) (fun _ h=>?_)
      ·cases h;exact⟨rfl,rfl⟩
      rintro _ rfl;exact v4l _ _ _ _ _ h
     cases h;exact⟨rfl,rfl⟩
    rintro _ rfl;exact v4l _ _ _ _ _ h
   cases h;exact⟨rfl,rfl⟩
  cases h;exact⟨rfl,rfl⟩
theorem z9G(quiet:Bool)(v7:List zA)(v8 v9:Int)(r:Bool)(h:quiet_Quiet_L3 quiet v7 v8 v9=some r):z5q (.quiet_Quiet_L3 quiet v7 v8 v9) r:=z9z (.quiet_Quiet_L3 quiet v7 v8 v9) r h
def z3X:(i:I_quiet_all_L3)→z3Y i→Prop
 |.quiet_all_L3 out i,r=>Ok (z7K (Trip Try.prog) [.d (.sl (List.map zA.toD r))] []) (kL Try.f62 3) ⟨21,[(3,.right 6 1 6 (List.map zA.toD out)),(4,(nI i))],[(6,1,some (.tok 6 (List.length (List.map zA.toD out))))],[],0⟩
theorem y2l:∀i r,jT z2w i=some r→z3X i r:=by
 refine zX z7p fun g ih i=>?_;cases i with
 |quiet_all_L3 out i=>
  have v4m:=fun out i r h=>ih (.quiet_all_L3 out i) r h;intro r h;replace h:uW (fun out i=>g (I_quiet_all_L3.quiet_all_L3 out i)) out i=some r:=h;unfold uW at h;refine jV 1000 (y2w _ _ _ _ out i) ?_;refine zZ (e':=(List.length out:Int)) (by first|rfl|rw[zq3]) ?_;rintro _ rfl;refine zC decide_eq_true_iff h (fun _ h=>?_) (fun _ h=>?_)
  ·obtain⟨x,hx,h⟩:=zE h;refine⟨zF (l:=out) (zA.sz),vO hx,x.K,x.N,x.S,List.map zA.toD x.L,x.From,x.To,zP (zA.toD_eq x) hx,?_⟩;refine⟨zF (l:=x.L) (zA.sz),?_⟩;refine⟨by first|rfl|decide|simp only[zq3,List.length_cons,List.length_nil,List.map_append,List.length_append],?_⟩;obtain⟨hP,h⟩:=jR h;refine⟨by first|exact hP|simpa using hP,?_⟩
   refine zZ (e':=List.map zA.toD (out++x.L)) (by first|rfl|simp only[List.map_append,List.map_cons,List.map_nil,List.map_take,List.map_drop,List.map_set,List.map_replicate,zq3,zA.toD_eq]) ?_;rintro _ rfl;exact v4m _ _ _ h
  cases h;exact⟨rfl,rfl⟩
theorem y2o(out:List zA)(i:Int)(r:List zA)(h:quiet_all_L3 out i=some r):z3X (.quiet_all_L3 out i) r:=y2l (.quiet_all_L3 out i) r h
theorem y7j(t:zA)(r:List zA)(h:z6M t=some r):Trip Try.prog 62 [.d (tT t)] [] [.d (.sl (List.map zA.toD r))] []:=by
 unfold z6M at h;refine zH 1000 (y7S _ _ _ _ t) ?_;have hT:=y2o _ _ _ h;unfold z3X at hT;dsimp only at hT;simp only[List.map_cons,List.map_nil,List.length_cons,List.length_nil,tT,tV,tS,zA.toD_eq,Value.toD_eq]at hT;exact hT
theorem y3x(t:zA)(r:Bool)(h:z3G t=some r):Trip Try.prog 49 [.d (tT t)] [] [(nB r)] []:=by
 unfold z3G at h;refine zH 1000 (y3U _ _ _ _ t) ?_;obtain⟨q1,g,h⟩:=zE h;refine⟨_,⟨_,y7j _ _ g⟩,?_⟩;refine zZ (e':=(List.length q1:Int)) (by first|rfl|rw[zq3]) ?_;exact z9G _ _ _ _ _ h
theorem y3v(t:zA)(r:Bool)(h:z4Y t=some r):Trip Try.prog 48 [.d (tT t)] [] [(nB r)] []:=by
 unfold z4Y at h;refine zH 1000 (y3S _ _ _ _ t) ?_;obtain⟨q1,g,h⟩:=zE h;refine⟨_,⟨_,y3x _ _ g⟩,?_⟩;cases h;exact⟨rfl,rfl⟩
def z0a:(i:I_slices_IndexFunc_G61pick_1L2)→uH i→Prop
 |.slices_IndexFunc_G61pick_1L2 s v7 v8,r=>Ok (uV (Trip Try.prog) [(nI r)] []) (kL Try.f61 2) ⟨19,[(0,.d (.sl (List.map zA.toD s))),(1,.fn 48 [] []),(7,(nI v7)),(8,(nI v8))],[],[],0⟩
theorem z2F:∀i r,jT wJ i=some r→z0a i r:=by
 refine zX gU fun g ih i=>?_;cases i with
 |slices_IndexFunc_G61pick_1L2 s v7 v8=>
  have v5i:=fun s v7 v8 r h=>ih (.slices_IndexFunc_G61pick_1L2 s v7 v8) r h;intro r h;replace h:yP (fun s v7 v8=>g (I_slices_IndexFunc_G61pick_1L2.slices_IndexFunc_G61pick_1L2 s v7 v8)) s v7 v8=some r:=h;unfold yP at h;refine jV 1000 (z2L _ _ _ _ s v7 v8) ?_;rintro _ rfl;refine zC decide_eq_true_iff h (fun _ h=>?_) (fun _ h=>?_)
  ·obtain⟨x,hx,h⟩:=zE h;refine⟨zF (l:=s) (zA.sz),vO hx,x.K,x.N,x.S,List.map zA.toD x.L,x.From,x.To,zP (zA.toD_eq x) hx,?_⟩;obtain⟨q1,g,h⟩:=zE h;refine⟨_,⟨_,y3v _ _ g⟩,?_⟩;refine zC Iff.rfl h (fun _ h=>?_) (fun _ h=>?_)
   ·cases h;exact⟨rfl,rfl⟩
   rintro _ rfl;exact v5i _ _ _ _ h
  cases h;exact⟨rfl,rfl⟩
theorem z2I(s:List zA)(v7 v8 r:Int)(h:slices_IndexFunc_G61pick_1L2 s v7 v8=some r):z0a (.slices_IndexFunc_G61pick_1L2 s v7 v8) r:=z2F (.slices_IndexFunc_G61pick_1L2 s v7 v8) r h
theorem z3e(s:List zA)(r:Int)(h:uD s=some r):Trip Try.prog 61 [.d (.sl (List.map zA.toD s)),.fn 48 [] []] [] [(nI r)] []:=by
 unfold uD at h;refine zH 1000 (z3f _ _ _ _ s) ?_;refine zZ (e':=(List.length s:Int)) (by first|rfl|rw[zq3]) ?_;exact z2I _ _ _ _ h
theorem z2g(s:List zA)(r:Bool)(h:vV s=some r):Trip Try.prog 47 [.d (.sl (List.map zA.toD s)),.fn 48 [] []] [] [(nB r)] []:=by
 unfold vV at h;refine zH 1000 (z2i _ _ _ _ s) ?_;obtain⟨q1,g,h⟩:=zE h;refine⟨_,⟨_,z3e _ _ g⟩,?_⟩;rintro _ rfl;cases h;exact⟨rfl,rfl⟩
theorem y0C(l:List zA)(i:Int)(r:zA×Bool)(h:z4i l i=some r):Trip Try.prog 29 [.d (.sl (List.map zA.toD l)),(nI i)] [] [.d (tT r.1),(nB r.2)] []:=by
 unfold z4i at h;refine zH 1000 (y7Q _ _ _ _ l i) ?_;rintro _ rfl;refine zC decide_eq_true_iff h (fun _ h=>?_) (fun _ h=>?_)
 ·cases h;exact⟨rfl,rfl⟩
 refine zZ (e':=(List.length l:Int)) (by first|rfl|rw[zq3]) ?_;rintro _ rfl;refine zC decide_eq_true_iff h (fun _ h=>?_) (fun _ h=>?_)
 ·cases h;exact⟨rfl,rfl⟩
 refine⟨zF (l:=l) (zA.sz),?_⟩;obtain⟨hP,h⟩:=jR h;refine⟨by first|exact hP|simpa using hP,?_⟩;obtain⟨hP,h⟩:=jR h;refine⟨by first|exact hP|simpa using hP,?_⟩;obtain⟨hP,h⟩:=jR h;refine⟨by first|exact hP|simpa using hP,?_⟩;refine zZ (e':=List.map zA.toD (List.drop 0 (List.take (Int.toNat i) l))) (by first|rfl|simp only[List.map_append,List.map_cons,List.map_nil,List.map_take,List.map_drop,List.map_set,List.map_replicate,zq3,zA.toD_eq]) ?_;rintro _ rfl;refine⟨zF (l:=l) (zA.sz),?_⟩;obtain⟨hP,h⟩:=jR h
 refine⟨by first|exact hP|simpa using hP,?_⟩;obtain⟨hP,h⟩:=jR h;refine⟨by first|exact hP|simpa using hP,?_⟩;obtain⟨hP,h⟩:=jR h;refine⟨by first|exact hP|simpa using hP,?_⟩;refine zZ (e':=List.map zA.toD (List.drop (Int.toNat (IntKind.wrap .i64 (i+1))) (List.take (List.length l) l))) (by first|rfl|simp only[List.map_append,List.map_cons,List.map_nil,List.map_take,List.map_drop,List.map_set,List.map_replicate,zq3,zA.toD_eq]) ?_;obtain⟨q1,g,h⟩:=zE h;refine⟨_,⟨_,z7H _ _ g⟩,?_⟩;obtain⟨q2,g,h⟩:=zE h
 refine⟨_,⟨_,z2g _ _ g⟩,?_⟩;obtain⟨x,hx,h⟩:=zE h;refine⟨zF (l:=l) (zA.sz),vO hx,x.K,x.N,x.S,List.map zA.toD x.L,x.From,x.To,zP (zA.toD_eq x) hx,?_⟩;cases h;exact⟨rfl,rfl⟩
theorem y7i(m:zA)(rule:Int)(l:zA)(r:zA×Bool)(h:z6F m rule l=some r):Trip Try.prog 16 [.d (tT m),(nI rule),.d (tT l)] [] [.d (tT r.1),(nB r.2)] []:=by
 unfold z6F at h;refine zH 1000 (y7R _ _ _ _ m rule l) ?_;rintro _ rfl;refine zC zq2 h (fun _ h=>?_) (fun _ h=>?_)
 ·obtain⟨q1,g,h⟩:=zE h;refine⟨_,_,_,_,_,_,_,⟨_,z9l _ _ g⟩,?_⟩;cases h;exact⟨rfl,rfl⟩
 rintro _ rfl;refine zG zq2 h (fun _ h=>?_) (fun _ h=>?_)
 ·rintro _ rfl;refine zC zq2 h (fun hc99 h=>?_) (fun hc99 h=>?_)
  ·rintro _ rfl;refine zC zq2 h (fun _ h=>?_) (fun _ h=>?_)
   ·refine zZ (e':=(List.length l.L:Int)) (by first|rfl|rw[zq3]) ?_;rintro _ rfl;refine zC zq2 h (fun _ h=>?_) (fun _ h=>?_)
    ·rintro _ rfl;refine zC decide_eq_true_iff h (fun _ h=>?_) (fun _ h=>?_)
     ·refine zZ (e':=(List.length m.L:Int)) (by first|rfl|rw[zq3]) ?_;rintro _ rfl;refine zC decide_eq_true_iff h (fun _ h=>?_) (fun _ h=>?_)
      ·obtain⟨x,hx,h⟩:=zE h;refine⟨zF (l:=m.L) (zA.sz),vO hx,x.K,x.N,x.S,List.map zA.toD x.L,x.From,x.To,zP (zA.toD_eq x) hx,?_⟩;rintro _ rfl;refine zG zq2 h (fun _ h=>?_) (fun _ h=>?_)
       ·refine zZ (e':=(List.length x.L:Int)) (by first|rfl|rw[zq3]) ?_;rintro _ rfl;refine zG zq2 h (fun _ h=>?_) (fun _ h=>?_)
        ·obtain⟨x1,hx,h⟩:=zE h;refine⟨zF (l:=x.L) (zA.sz),vO hx,x1.K,x1.N,x1.S,List.map zA.toD x1.L,x1.From,x1.To,zP (zA.toD_eq x1) hx,?_⟩;obtain⟨x2,hx,h⟩:=zE h;refine⟨zF (l:=x.L) (zA.sz),vO hx,x2.K,x2.N,x2.S,List.map zA.toD x2.L,x2.From,x2.To,zP (zA.toD_eq x2) hx,?_⟩;obtain⟨q2,g,h⟩:=zE h;refine⟨_,⟨_,gD _ _ _ g⟩,?_⟩;refine zC Iff.rfl h (fun _ h=>?_) (fun _ h=>?_)
         ·cases h;exact⟨rfl,rfl⟩
         obtain⟨x3,hx,h⟩:=zE h;refine⟨zF (l:=x.L) (zA.sz),vO hx,x3.K,x3.N,x3.S,List.map zA.toD x3.L,x3.From,x3.To,zP (zA.toD_eq x3) hx,?_⟩;obtain⟨q3,g,h⟩:=zE h;refine⟨_,⟨_,gD _ _ _ g⟩,?_⟩;cases h;exact⟨rfl,rfl⟩
        cases h;exact⟨rfl,rfl⟩
       cases h;exact⟨rfl,rfl⟩
      rintro _ rfl;refine yR zq2 (fun e=>absurd (hc99.symm.trans e) (by decide)) ?_;rintro _ rfl;refine yR zq2 (fun e=>absurd (hc99.symm.trans e) (by decide)) ?_;cases h;exact⟨rfl,rfl⟩
     rintro _ rfl;refine yR zq2 (fun e=>absurd (hc99.symm.trans e) (by decide)) ?_;rintro _ rfl;refine yR zq2 (fun e=>absurd (hc99.symm.trans e) (by decide)) ?_;cases h;exact⟨rfl,rfl⟩
    rintro _ rfl;refine yR zq2 (fun e=>absurd (hc99.symm.trans e) (by decide)) ?_;rintro _ rfl;refine yR zq2 (fun e=>absurd (hc99.symm.trans e) (by decide)) ?_;cases h;exact⟨rfl,rfl⟩
   rintro _ rfl;refine yR zq2 (fun e=>absurd (hc99.symm.trans e) (by decide)) ?_;rintro _ rfl;refine yR zq2 (fun e=>absurd (hc99.symm.trans e) (by decide)) ?_;cases h;exact⟨rfl,rfl⟩
  rintro _ rfl;refine zC zq2 h (fun hc107 h=>?_) (fun hc107 h=>?_)
  ·rintro _ rfl;refine zC zq2 h (fun _ h=>?_) (fun _ h=>?_)
   ·refine zZ (e':=(List.length l.L:Int)) (by first|rfl|rw[zq3]) ?_;rintro _ rfl;refine zC zq2 h (fun _ h=>?_) (fun _ h=>?_)
    ·obtain⟨x44,hx,h⟩:=zE h;refine⟨zF (l:=l.L) (zA.sz),vO hx,x44.K,x44.N,x44.S,List.map zA.toD x44.L,x44.From,x44.To,zP (zA.toD_eq x44) hx,?_⟩;rintro _ rfl;refine zG zq2 h (fun _ h=>?_) (fun _ h=>?_)
     ·rintro _ rfl;refine zG zq2 h (fun _ h=>?_) (fun _ h=>?_)
      ·rintro _ rfl;refine zC decide_eq_true_iff h (fun _ h=>?_) (fun _ h=>?_)
       ·cases h;exact⟨rfl,rfl⟩
       obtain⟨hP,h⟩:=jR h;refine⟨by first|exact hP|simpa using hP,?_⟩;rintro _ rfl;rintro _ rfl;refine zG zq2 h (fun _ h=>?_) (fun _ h=>?_)
       ·obtain⟨hP,h⟩:=jR h;refine⟨by first|exact hP|simpa using hP,?_⟩;rintro _ rfl;obtain⟨q32,g,h⟩:=zE h;refine⟨_,_,_,_,_,_,_,⟨_,y0C _ _ _ g⟩,?_⟩;cases h;exact⟨rfl,rfl⟩
       cases h;exact⟨rfl,rfl⟩
      cases h;exact⟨rfl,rfl⟩
     cases h;exact⟨rfl,rfl⟩
    rintro _ rfl;refine yR zq2 (fun e=>absurd (hc107.symm.trans e) (by decide)) ?_;cases h;exact⟨rfl,rfl⟩
   rintro _ rfl;refine yR zq2 (fun e=>absurd (hc107.symm.trans e) (by decide)) ?_;cases h;exact⟨rfl,rfl⟩
  rintro _ rfl;refine zC zq2 h (fun _ h=>?_) (fun _ h=>?_)
  ·rintro _ rfl;refine zC zq2 h (fun _ h=>?_) (fun _ h=>?_)
   ·refine zZ (e':=(List.length l.L:Int)) (by first|rfl|rw[zq3]) ?_;rintro _ rfl;refine zC zq2 h (fun _ h=>?_) (fun _ h=>?_)
    ·obtain⟨x51,hx,h⟩:=zE h;refine⟨zF (l:=l.L) (zA.sz),vO hx,x51.K,x51.N,x51.S,List.map zA.toD x51.L,x51.From,x51.To,zP (zA.toD_eq x51) hx,?_⟩;rintro _ rfl;refine zG zq2 h (fun _ h=>?_) (fun _ h=>?_)
     ·rintro _ rfl;refine zG zq2 h (fun _ h=>?_) (fun _ h=>?_)
      ·obtain⟨x52,hx,h⟩:=zE h;refine⟨zF (l:=l.L) (zA.sz),vO hx,x52.K,x52.N,x52.S,List.map zA.toD x52.L,x52.From,x52.To,zP (zA.toD_eq x52) hx,?_⟩;obtain⟨q37,g,h⟩:=zE h;refine⟨_,⟨_,gD _ _ _ g⟩,?_⟩;refine zG Iff.rfl h (fun _ h=>?_) (fun _ h=>?_)
       ·obtain⟨x53,hx,h⟩:=zE h;refine⟨zF (l:=l.L) (zA.sz),vO hx,x53.K,x53.N,x53.S,List.map zA.toD x53.L,x53.From,x53.To,zP (zA.toD_eq x53) hx,?_⟩;obtain⟨q38,g,h⟩:=zE h;refine⟨_,_,_,_,_,_,_,⟨_,y0C _ _ _ g⟩,?_⟩;cases h;exact⟨rfl,rfl⟩
       cases h;exact⟨rfl,rfl⟩
      cases h;exact⟨rfl,rfl⟩
     cases h;exact⟨rfl,rfl⟩
    cases h;exact⟨rfl,rfl⟩
   cases h;exact⟨rfl,rfl⟩
  cases h;exact⟨rfl,rfl⟩
 cases h;exact⟨rfl,rfl⟩
def y0w:(i:gC)→z7G i→Prop
 |.wT a b,r=>Trip Try.prog 17 [.d (tT a),.d (tT b)] [] [(nB r)] []
 |.slices_EqualFunc_G30Same s1 s2,r=>Trip Try.prog 30 [.d (.sl (List.map zA.toD s1)),.d (.sl (List.map zA.toD s2)),.fn 17 [] []] [] [(nB r)] []
 |.slices_EqualFunc_G30Same_L4 s2 v15 v16 v17,r=>Ok (jS (Trip Try.prog) [(nB r)] []) (kL Try.f30 4) ⟨32,[(1,.d (.sl (List.map zA.toD s2))),(2,.fn 17 [] []),(15,.d (.sl (List.map zA.toD v15))),(16,(nI v16)),(17,(nI v17))],[],[],0⟩
theorem y7f:∀i r,jT z0s i=some r→y0w i r:=by
 refine zX z4I fun g ih i=>?_;cases i with
 |wT a b=>
  have v5g:=fun s1 s2 r h=>ih (.slices_EqualFunc_G30Same s1 s2) r h;intro r h;replace h:z2u (fun s1 s2=>g (gC.slices_EqualFunc_G30Same s1 s2)) a b=some r:=h;unfold z2u at h;refine zH 1000 (y8i _ _ _ _ a b) ?_;rintro _ rfl;refine zC zq2 h (fun _ h=>?_) (fun _ h=>?_)
  ·rintro _ rfl;refine zC zq2 h (fun _ h=>?_) (fun _ h=>?_)
   ·rintro _ rfl;refine zC zq2 h (fun _ h=>?_) (fun _ h=>?_)
    ·obtain⟨q1,g,h⟩:=zE h;refine⟨_,⟨_,v5g _ _ _ g⟩,?_⟩;cases h;exact⟨rfl,rfl⟩
    cases h;exact⟨rfl,rfl⟩
   cases h;exact⟨rfl,rfl⟩
  cases h;exact⟨rfl,rfl⟩
 |slices_EqualFunc_G30Same s1 s2=>
  have v5h:=fun s2 v15 v16 v17 r h=>ih (.slices_EqualFunc_G30Same_L4 s2 v15 v16 v17) r h;intro r h;replace h:vT (fun s2 v15 v16 v17=>g (gC.slices_EqualFunc_G30Same_L4 s2 v15 v16 v17)) s1 s2=some r:=h;unfold vT at h;refine zH 1000 (z3O _ _ _ _ s1 s2) ?_;refine zZ (e':=(List.length s1:Int)) (by first|rfl|rw[zq3]) ?_;refine zZ (e':=(List.length s2:Int)) (by first|rfl|rw[zq3]) ?_;rintro _ rfl;refine zG zq2 h (fun _ h=>?_) (fun _ h=>?_)
  ·refine zZ (e':=(List.length s1:Int)) (by first|rfl|rw[zq3]) ?_;exact v5h _ _ _ _ _ h
  cases h;exact⟨rfl,rfl⟩
 |slices_EqualFunc_G30Same_L4 s2 v15 v16 v17=>
  have v5j:=fun a b r h=>ih (.wT a b) r h;have v5h:=fun s2 v15 v16 v17 r h=>ih (.slices_EqualFunc_G30Same_L4 s2 v15 v16 v17) r h;intro r h;replace h:yY (fun a b=>g (gC.wT a b)) (fun s2 v15 v16 v17=>g (gC.slices_EqualFunc_G30Same_L4 s2 v15 v16 v17)) s2 v15 v16 v17=some r:=h;unfold yY at h;refine jV 1000 (z2W _ _ _ _ s2 v15 v16 v17) ?_;rintro _ rfl;refine zC decide_eq_true_iff h (fun _ h=>?_) (fun _ h=>?_)
  ·obtain⟨x,hx,h⟩:=zE h;refine⟨zF (l:=v15) (zA.sz),vO hx,x.K,x.N,x.S,List.map zA.toD x.L,x.From,x.To,zP (zA.toD_eq x) hx,?_⟩;obtain⟨x1,hx,h⟩:=zE h;refine⟨zF (l:=s2) (zA.sz),vO hx,x1.K,x1.N,x1.S,List.map zA.toD x1.L,x1.From,x1.To,zP (zA.toD_eq x1) hx,?_⟩;obtain⟨q1,g,h⟩:=zE h;refine⟨_,⟨_,v5j _ _ _ g⟩,?_⟩;refine zG Iff.rfl h (fun _ h=>?_) (fun _ h=>?_)
   ·rintro _ rfl;exact v5h _ _ _ _ _ h
   cases h;exact⟨rfl,rfl⟩
  cases h;exact⟨rfl,rfl⟩
theorem y7p(a b:zA)(r:Bool)(h:wT a b=some r):y0w (.wT a b) r:=y7f (.wT a b) r h
theorem y4X(m:zA)(rule:Int)(l r_:zA)(r:Bool)(h:z6Z m rule l r_=some r):Trip Try.prog 7 [.d (tT m),(nI rule),.d (tT l),.d (tT r_)] [] [(nB r)] []:=by
 unfold z6Z at h;refine zH 1000 (y5L _ _ _ _ m rule l r_) ?_;obtain⟨q1,g,h⟩:=zE h;refine⟨_,_,_,_,_,_,_,⟨_,y7i _ _ _ _ g⟩,?_⟩;refine zC Iff.rfl h (fun _ h=>?_) (fun _ h=>?_)
 ·obtain⟨q2,g,h⟩:=zE h;refine⟨_,⟨_,y7p _ _ _ g⟩,?_⟩;cases h;exact⟨rfl,rfl⟩
 cases h;exact⟨rfl,rfl⟩
theorem y9k(op:Int)(a b r:zA)(h:y0e op a b=some r):Trip Try.prog 14 [(nI op),.d (tT a),.d (tT b)] [] [.d (tT r)] []:=by
 unfold y0e at h;refine zH 1000 (y9K _ _ _ _ op a b) ?_;cases h;refine⟨?_,rfl⟩;simp only[List.map_cons,List.map_nil,tT,tV,tS,zA.toD_eq,Value.toD_eq]
theorem y2U(n:Int)(r:zA)(h:z7i n=some r):Trip Try.prog 15 [(nI n)] [] [.d (tT r)] []:=by
 unfold z7i at h;refine zH 1000 (y9L _ _ _ _ n) ?_;cases h;exact⟨rfl,rfl⟩
theorem z6g (r:Bool)(h:z2j=some r):Trip Try.prog 6 [] [] [(nB r)] []:=by
 unfold z2j at h;refine zH 1000 (y5N _ _ _ _ ) ?_;obtain⟨q1,g,h⟩:=zE h;refine⟨_,_,_,_,_,_,⟨_,y2U _ _ g⟩,?_⟩;obtain⟨q2,g,h⟩:=zE h;refine⟨_,_,_,_,_,_,⟨_,y2U _ _ g⟩,?_⟩;obtain⟨q3,g,h⟩:=zE h;refine⟨_,_,_,_,_,_,⟨_,y9k _ _ _ _ g⟩,?_⟩;obtain⟨q4,g,h⟩:=zE h;refine⟨_,_,_,_,_,_,_,⟨_,z9l _ _ g⟩,?_⟩;refine zC Iff.rfl h (fun _ h=>?_) (fun _ h=>?_)
 ·rintro _ rfl;refine zC zq2 h (fun _ h=>?_) (fun _ h=>?_)
  ·rintro _ rfl;cases h;exact⟨rfl,rfl⟩
  cases h;exact⟨rfl,rfl⟩
 cases h;exact⟨rfl,rfl⟩
def z7Y:(i:jX)→z4L i→Prop
 |.vM a b,r=>Trip Try.prog 12 [.d (tT a),.d (tT b)] [] [(nB r)] []
 |.yA i a b,r=>Ok (z4S (Trip Try.prog) [(nB r)] []) (kL Try.f12 4) ⟨67,[(2,.ref 2 1 0),(3,.ref 3 1 0),(5,(nI i))],[(2,1,some (.agg (tT a))),(3,1,some (.agg (tT b)))],[],0⟩
theorem y3q:∀i r,jT z0H i=some r→z7Y i r:=by
 refine zX z4H fun g ih i=>?_;cases i with
 |vM a b=>
  have v4u:=fun i a b r h=>ih (.yA i a b) r h;intro r h;replace h:z0N (fun i a b=>g (jX.yA i a b)) a b=some r:=h;unfold z0N at h;refine zH 1000 (y3V _ _ _ _ a b) ?_;rintro _ rfl;refine zG zq2 h (fun _ h=>?_) (fun _ h=>?_)
  ·rintro _ rfl;refine zG zq2 h (fun _ h=>?_) (fun _ h=>?_)
   ·rintro _ rfl;refine zG zq2 h (fun _ h=>?_) (fun _ h=>?_)
    ·rintro _ rfl;refine zG zq2 h (fun _ h=>?_) (fun _ h=>?_)
     ·rintro _ rfl;refine zG zq2 h (fun _ h=>?_) (fun _ h=>?_)
      ·refine zZ (e':=(List.length a.L:Int)) (by first|rfl|rw[zq3]) ?_;refine zZ (e':=(List.length b.L:Int)) (by first|rfl|rw[zq3]) ?_;rintro _ rfl;refine zG zq2 h (fun _ h=>?_) (fun _ h=>?_)
       ·exact v4u _ _ _ _ h
       cases h;exact⟨rfl,rfl⟩
      cases h;exact⟨rfl,rfl⟩
     cases h;exact⟨rfl,rfl⟩
    cases h;exact⟨rfl,rfl⟩
   cases h;exact⟨rfl,rfl⟩
  cases h;exact⟨rfl,rfl⟩
 |yA i a b=>
  have v4t:=fun a b r h=>ih (.vM a b) r h;have v4u:=fun i a b r h=>ih (.yA i a b) r h;intro r h;replace h:uL (fun a b=>g (jX.vM a b)) (fun i a b=>g (jX.yA i a b)) i a b=some r:=h;unfold uL at h;refine jV 1000 (z9Q _ _ _ _ i a b) ?_;refine zZ (e':=(List.length a.L:Int)) (by first|rfl|rw[zq3]) ?_;rintro _ rfl;refine zC decide_eq_true_iff h (fun _ h=>?_) (fun _ h=>?_)
  ·obtain⟨x,hx,h⟩:=zE h;refine⟨zF (l:=a.L) (zA.sz),vO hx,x.K,x.N,x.S,List.map zA.toD x.L,x.From,x.To,zP (zA.toD_eq x) hx,?_⟩;obtain⟨x1,hx,h⟩:=zE h;refine⟨zF (l:=b.L) (zA.sz),vO hx,x1.K,x1.N,x1.S,List.map zA.toD x1.L,x1.From,x1.To,zP (zA.toD_eq x1) hx,?_⟩;obtain⟨q1,g,h⟩:=zE h;refine⟨_,⟨_,v4t _ _ _ g⟩,?_⟩;refine zG Iff.rfl h (fun _ h=>?_) (fun _ h=>?_)
   ·rintro _ rfl;exact v4u _ _ _ _ h
   cases h;exact⟨rfl,rfl⟩
  cases h;exact⟨rfl,rfl⟩
theorem y3y(a b:zA)(r:Bool)(h:vM a b=some r):z7Y (.vM a b) r:=y3q (.vM a b) r h
def z5r:(i:z1d)→z2R i→Prop
 |.yF i d,r=>Ok (z4T (Trip Try.prog) [(nB r)] []) (kL Try.f36 4) ⟨37,[(1,.ref 1 1 0),(3,(nI i))],[(1,1,some (.agg (tT d)))],[],0⟩
theorem z9A:∀i r,jT z0Y i=some r→z5r i r:=by
 refine zX z5l fun g ih i=>?_;cases i with
 |yF i d=>
  have v4z:=fun i d r h=>ih (.yF i d) r h;intro r h;replace h:uM (fun i d=>g (z1d.yF i d)) i d=some r:=h;unfold uM at h;refine jV 1000 (z9R _ _ _ _ i d) ?_;refine zZ (e':=(List.length d.L:Int)) (by first|rfl|rw[zq3]) ?_;rintro _ rfl;refine zC decide_eq_true_iff h (fun _ h=>?_) (fun _ h=>?_)
  ·obtain⟨x,hx,h⟩:=zE h;refine⟨zF (l:=d.L) (zA.sz),vO hx,x.K,x.N,x.S,List.map zA.toD x.L,x.From,x.To,zP (zA.toD_eq x) hx,?_⟩;rintro _ rfl;refine zG zq2 h (fun _ h=>?_) (fun _ h=>?_)
   ·obtain⟨x1,hx,h⟩:=zE h;refine⟨zF (l:=d.L) (zA.sz),vO hx,x1.K,x1.N,x1.S,List.map zA.toD x1.L,x1.From,x1.To,zP (zA.toD_eq x1) hx,?_⟩;refine zZ (e':=(List.length x1.L:Int)) (by first|rfl|rw[zq3]) ?_;rintro _ rfl;refine zG zq2 h (fun _ h=>?_) (fun _ h=>?_)
    ·rintro _ rfl;exact v4z _ _ _ h
    cases h;exact⟨rfl,rfl⟩
   cases h;exact⟨rfl,rfl⟩
  cases h;exact⟨rfl,rfl⟩
theorem z9H(i:Int)(d:zA)(r:Bool)(h:yF i d=some r):z5r (.yF i d) r:=z9A (.yF i d) r h
theorem z4P(d:zA)(r:Bool)(h:z0z d=some r):Trip Try.prog 36 [.d (tT d)] [] [(nB r)] []:=by
 unfold z0z at h;refine zH 1000 (y3W _ _ _ _ d) ?_;rintro _ rfl;refine zG zq2 h (fun _ h=>?_) (fun _ h=>?_)
 ·refine zZ (e':=(List.length d.L:Int)) (by first|rfl|rw[zq3]) ?_;rintro _ rfl;refine zC zq2 h (fun _ h=>?_) (fun _ h=>?_)
  ·cases h;exact⟨rfl,rfl⟩
  exact z9H _ _ _ h
 cases h;exact⟨rfl,rfl⟩
def z7Z:(i:vW)→z4M i→Prop
 |.zI m t in_,r=>Trip Try.prog 57 [.d (tT m),.d (tT t),.d (.sl (List.map (D.int .i64) in_))] [] [(nI r)] []
 |.zS in_ at_ i m,r=>Ok (z1U (Trip Try.prog) [(nI r)] []) (kL Try.f57 12) ⟨137,[(2,.d (.sl (List.map (D.int .i64) in_))),(3,.ref 3 1 0),(8,(nI at_)),(9,(nI i))],[(3,1,some (.agg (tT m)))],[],0⟩
 |.zK in_ at_ sum i m d,r=>Ok (z1U (Trip Try.prog) [(nI r)] []) (kL Try.f57 21) ⟨137,[(2,.d (.sl (List.map (D.int .i64) in_))),(3,.ref 3 1 0),(8,(nI at_)),(10,.ref 10 1 0),(11,(nI sum)),(12,(nI i))],[(3,1,some (.agg (tT m))),(10,1,some (.agg (tT d)))],[],0⟩
theorem y3r:∀i r,jT jW i=some r→z7Z i r:=by
 refine zX z2Z fun g ih i=>?_;cases i with
 |zI m t in_=>
  have v4A:=fun m t in_ r h=>ih (.zI m t in_) r h;have v4B:=fun in_ at_ i m r h=>ih (.zS in_ at_ i m) r h;intro r h;replace h:wH (fun m t in_=>g (vW.zI m t in_)) (fun in_ at_ i m=>g (vW.zS in_ at_ i m)) m t in_=some r:=h;unfold wH at h;refine zH 1000 (y3X _ _ _ _ m t in_) ?_;rintro _ rfl;refine zC zq2 h (fun hc142 h=>?_) (fun hc142 h=>?_)
  ·refine zZ (e':=(List.length t.L:Int)) (by first|rfl|rw[zq3]) ?_;rintro _ rfl;refine zC zq2 h (fun _ h=>?_) (fun _ h=>?_)
   ·cases h;exact⟨rfl,rfl⟩
   rintro _ rfl;refine yR zq2 (fun e=>absurd (hc142.symm.trans e) (by decide)) ?_;rintro _ rfl;refine z2E zq2 (fun e=>absurd (hc142.symm.trans e) (by decide)) ?_;cases h;exact⟨rfl,rfl⟩
  rintro _ rfl;refine zC zq2 h (fun hc144 h=>?_) (fun hc144 h=>?_)
  ·refine zZ (e':=(List.length t.L:Int)) (by first|rfl|rw[zq3]) ?_;rintro _ rfl;refine zC zq2 h (fun _ h=>?_) (fun _ h=>?_)
   ·cases h;exact⟨rfl,rfl⟩
   rintro _ rfl;refine yR zq2 (fun e=>absurd (hc144.symm.trans e) (by decide)) ?_;rintro _ rfl;refine z2E zq2 (fun e=>absurd (hc144.symm.trans e) (by decide)) ?_;cases h;exact⟨rfl,rfl⟩
  rintro _ rfl;refine zC zq2 h (fun hc146 h=>?_) (fun hc146 h=>?_)
  ·refine zZ (e':=(List.length t.L:Int)) (by first|rfl|rw[zq3]) ?_;rintro _ rfl;refine zC zq2 h (fun _ h=>?_) (fun _ h=>?_)
   ·rintro _ rfl;refine zC decide_eq_true_iff h (fun _ h=>?_) (fun _ h=>?_)
    ·rintro _ rfl;refine zC decide_eq_true_iff h (fun _ h=>?_) (fun _ h=>?_)
     ·obtain⟨x2,hx,h⟩:=zE h;refine⟨zF (l:=t.L) (zA.sz),vO hx,x2.K,x2.N,x2.S,List.map zA.toD x2.L,x2.From,x2.To,zP (zA.toD_eq x2) hx,?_⟩;obtain⟨q3,g,h⟩:=zE h;refine⟨_,⟨_,v4A _ _ _ _ g⟩,?_⟩;rintro _ rfl;rintro _ rfl;refine zC decide_eq_true_iff h (fun _ h=>?_) (fun _ h=>?_)
      ·cases h;exact⟨rfl,rfl⟩
      cases h;exact⟨rfl,rfl⟩
     rintro _ rfl;refine z2E zq2 (fun e=>absurd (hc146.symm.trans e) (by decide)) ?_;cases h;exact⟨rfl,rfl⟩
    rintro _ rfl;refine z2E zq2 (fun e=>absurd (hc146.symm.trans e) (by decide)) ?_;cases h;exact⟨rfl,rfl⟩
   rintro _ rfl;refine z2E zq2 (fun e=>absurd (hc146.symm.trans e) (by decide)) ?_;cases h;exact⟨rfl,rfl⟩
  rintro _ rfl;refine zG zq2 h (fun _ h=>?_) (fun _ h=>?_)
  ·refine zZ (e':=(List.length t.L:Int)) (by first|rfl|rw[zq3]) ?_;rintro _ rfl;refine zG zq2 h (fun _ h=>?_) (fun _ h=>?_)
   ·rintro _ rfl;refine zC decide_eq_true_iff h (fun _ h=>?_) (fun _ h=>?_)
    ·cases h;exact⟨rfl,rfl⟩
    refine zZ (e':=(List.length m.L:Int)) (by first|rfl|rw[zq3]) ?_;rintro _ rfl;refine zC decide_eq_true_iff h (fun _ h=>?_) (fun _ h=>?_)
    ·cases h;exact⟨rfl,rfl⟩
    exact v4B _ _ _ _ _ h
   cases h;exact⟨rfl,rfl⟩
  cases h;exact⟨rfl,rfl⟩
 |zS in_ at_ i m=>
  have v4B:=fun in_ at_ i m r h=>ih (.zS in_ at_ i m) r h;have v4C:=fun in_ at_ sum i m d r h=>ih (.zK in_ at_ sum i m d) r h;intro r h;replace h:wP (fun in_ at_ i m=>g (vW.zS in_ at_ i m)) (fun in_ at_ sum i m d=>g (vW.zK in_ at_ sum i m d)) in_ at_ i m=some r:=h;unfold wP at h;refine jV 1000 (z8R _ _ _ _ in_ at_ i m) ?_;refine zZ (e':=(List.length in_:Int)) (by first|rfl|rw[zq3]) ?_;rintro _ rfl;refine zC decide_eq_true_iff h (fun _ h=>?_) (fun _ h=>?_)
  ·obtain⟨x,hx,h⟩:=zE h;refine⟨zF (l:=in_) (fun _=>rfl),vO hx,x,zP rfl hx,?_⟩;rintro _ rfl;refine zC zq2 h (fun _ h=>?_) (fun _ h=>?_)
   ·cases h;exact⟨rfl,rfl⟩
   rintro _ rfl;exact v4B _ _ _ _ _ h
  obtain⟨x1,hx,h⟩:=zE h;refine⟨zF (l:=m.L) (zA.sz),vO hx,x1.K,x1.N,x1.S,List.map zA.toD x1.L,x1.From,x1.To,zP (zA.toD_eq x1) hx,?_⟩;obtain⟨q1,g,h⟩:=zE h;refine⟨_,⟨_,z4P _ _ g⟩,?_⟩;refine zG Iff.rfl h (fun _ h=>?_) (fun _ h=>?_)
  ·exact v4C _ _ _ _ _ _ _ h
  cases h;exact⟨rfl,rfl⟩
 |zK in_ at_ sum i m d=>
  have v4A:=fun m t in_ r h=>ih (.zI m t in_) r h;have v4C:=fun in_ at_ sum i m d r h=>ih (.zK in_ at_ sum i m d) r h;intro r h;replace h:wQ (fun m t in_=>g (vW.zI m t in_)) (fun in_ at_ sum i m d=>g (vW.zK in_ at_ sum i m d)) in_ at_ sum i m d=some r:=h;unfold wQ at h;refine jV 1000 (z8S _ _ _ _ in_ at_ sum i m d) ?_;refine zZ (e':=(List.length d.L:Int)) (by first|rfl|rw[zq3]) ?_;rintro _ rfl;refine zC decide_eq_true_iff h (fun _ h=>?_) (fun _ h=>?_)
  ·obtain⟨x,hx,h⟩:=zE h;refine⟨zF (l:=d.L) (zA.sz),vO hx,x.K,x.N,x.S,List.map zA.toD x.L,x.From,x.To,zP (zA.toD_eq x) hx,?_⟩;obtain⟨x1,hx,h⟩:=zE h;refine⟨zF (l:=x.L) (zA.sz),vO hx,x1.K,x1.N,x1.S,List.map zA.toD x1.L,x1.From,x1.To,zP (zA.toD_eq x1) hx,?_⟩;refine⟨zF (l:=in_) (fun _=>rfl),?_⟩;refine⟨by first|rfl|decide|simp only[zq3,List.length_cons,List.length_nil,List.map_append,List.length_append],?_⟩;obtain⟨hP,h⟩:=jR h;refine⟨by first|exact hP|simpa using hP,?_⟩
   refine zZ (e':=List.map (D.int .i64) (([]:List Int)++in_)) (by first|rfl|simp only[List.map_append,List.map_cons,List.map_nil,List.map_take,List.map_drop,List.map_set,List.map_replicate,zq3]) ?_;refine⟨by simp[zD,D.cells],?_⟩;refine⟨by first|rfl|decide|simp only[zq3,List.length_cons,List.length_nil,List.map_append,List.length_append],?_⟩;obtain⟨hP,h⟩:=jR h;refine⟨by first|exact hP|simpa using hP,?_⟩
   refine zZ (e':=List.map (D.int .i64) ((([]:List Int)++in_)++[at_])) (by first|rfl|simp only[List.map_append,List.map_cons,List.map_nil,List.map_take,List.map_drop,List.map_set,List.map_replicate,zq3]) ?_;obtain⟨q1,g,h⟩:=zE h;refine⟨_,⟨_,v4A _ _ _ _ g⟩,?_⟩;rintro _ rfl;rintro _ rfl;refine zC zq2 h (fun _ h=>?_) (fun _ h=>?_)
   ·cases h;exact⟨rfl,rfl⟩
   rintro _ rfl;refine zC decide_eq_true_iff h (fun _ h=>?_) (fun _ h=>?_)
   ·cases h;exact⟨rfl,rfl⟩
   rintro _ rfl;exact v4C _ _ _ _ _ _ _ h
  cases h;exact⟨rfl,rfl⟩
theorem y3z(m t:zA)(in_:List Int)(r:Int)(h:zI m t in_=some r):z7Z (.zI m t in_) r:=y3r (.zI m t in_) r h
theorem z1r(m t:zA)(r:Int)(h:gN m t=some r):Trip Try.prog 38 [.d (tT m),.d (tT t)] [] [(nI r)] []:=by
 unfold gN at h;refine zH 1000 (y5R _ _ _ _ m t) ?_;obtain⟨q1,g,h⟩:=zE h;refine⟨_,⟨_,y3z _ _ _ _ g⟩,?_⟩;cases h;exact⟨rfl,rfl⟩
def z5R:(i:uG)→z3o i→Prop
 |.zU t,r=>Trip Try.prog 40 [.d (tT t)] [] [.d (tT r)] []
 |.zR i t o2 K N S L From To,r=>Ok (z3y (Trip Try.prog) [.d (tT r)] []) (kL Try.f40 3) ⟨29,[(1,.ref 1 1 0),(2,.ref 2 1 0),(3,.hp 0 0),(4,(nI i))],[(1,1,some (.agg (tT t))),(2,1,some (.agg (tT o2)))],[(hM K N S (List.map zA.toD L) From To)],0⟩
theorem y0k:∀i r,jT gL i=some r→z5R i r:=by
 refine zX z3n fun g ih i=>?_;cases i with
 |zU t=>
  have v4E:=fun i t o2 K N S L From To r h=>ih (.zR i t o2 K N S L From To) r h;intro r h;replace h:gO (fun i t o2 K N S L From To=>g (uG.zR i t o2 K N S L From To)) t=some r:=h;unfold gO at h;refine zH 1000 (y1h _ _ _ _ t) ?_;exact v4E _ _ _ _ _ _ _ _ _ _ h
 |zR i t o2 K N S L From To=>
  have v4D:=fun t r h=>ih (.zU t) r h;have v4E:=fun i t o2 K N S L From To r h=>ih (.zR i t o2 K N S L From To) r h;intro r h;replace h:wW (fun t=>g (uG.zU t)) (fun i t o2 K N S L From To=>g (uG.zR i t o2 K N S L From To)) i t o2 K N S L From To=some r:=h;unfold wW at h;refine jV 1000 (z8j _ _ _ _ i t o2 K N S L From To) ?_;refine zZ (e':=(List.length t.L:Int)) (by first|rfl|rw[zq3]) ?_;rintro _ rfl;refine zC decide_eq_true_iff h (fun _ h=>?_) (fun _ h=>?_)
  ·obtain⟨x,hx,h⟩:=zE h;refine⟨zF (l:=t.L) (zA.sz),vO hx,x.K,x.N,x.S,List.map zA.toD x.L,x.From,x.To,zP (zA.toD_eq x) hx,?_⟩;obtain⟨q1,g,h⟩:=zE h;refine⟨_,_,_,_,_,_,⟨_,v4D _ _ g⟩,?_⟩;refine⟨by simp[zD,D.cells],?_⟩;refine⟨by first|rfl|decide|simp only[zq3,List.length_cons,List.length_nil,List.map_append,List.length_append],?_⟩;obtain⟨hP,h⟩:=jR h;refine⟨by first|exact hP|simpa using hP,?_⟩
   refine zZ (e':=List.map zA.toD (L++[q1])) (by first|rfl|simp only[List.map_append,List.map_cons,List.map_nil,List.map_take,List.map_drop,List.map_set,List.map_replicate,zq3,zA.toD_eq]) ?_;refine⟨by first|rfl|decide|simp only[zq3,List.length_cons,List.length_nil,List.map_append,List.length_append],?_⟩;rintro _ rfl;exact v4E _ _ _ _ _ _ _ _ _ _ h
  cases h;exact⟨rfl,rfl⟩
theorem jA(t r:zA)(h:zU t=some r):z5R (.zU t) r:=y0k (.zU t) r h
theorem jB (r:zA)(h:uS=some r):Trip Try.prog 59 [] [] [.d (tT r)] []:=by
 unfold uS at h;refine zH 1000 (y7X _ _ _ _ ) ?_;cases h;exact⟨rfl,rfl⟩
theorem z8K (r:zA)(h:z3V=some r):Trip Try.prog 58 [] [] [.d (tT r)] []:=by
 unfold z3V at h;refine zH 1000 (y9F _ _ _ _ ) ?_;cases h;exact⟨rfl,rfl⟩
theorem z2z(t r:zA)(h:z0b t=some r):Trip Try.prog 39 [.d (tT t)] [] [.d (tT r)] []:=by
 unfold z0b at h;refine zH 1000 (y2A _ _ _ _ t) ?_;rintro _ rfl;refine zC zq2 h (fun _ h=>?_) (fun _ h=>?_)
 ·obtain⟨q1,g,h⟩:=zE h;refine⟨_,_,_,_,_,_,⟨_,z8K _ g⟩,?_⟩;cases h;exact⟨rfl,rfl⟩
 rintro _ rfl;refine zC zq2 h (fun _ h=>?_) (fun _ h=>?_)
 ·obtain⟨q2,g,h⟩:=zE h;refine⟨_,_,_,_,_,_,⟨_,jB _ g⟩,?_⟩;cases h;exact⟨rfl,rfl⟩
 cases h;exact⟨rfl,rfl⟩
theorem vD(t:zA)(e:Int)(r:Ref16Got)(h:yQ t e=some r):Trip Try.prog 37 [.d (tT t),(nI e)] [] [.d (.agg [(.int .i64 r.T_.K),(.int .i64 r.T_.N),(.str r.T_.S),(.sl (List.map zA.toD r.T_.L)),(.int .i64 r.T_.From),(.int .i64 r.T_.To),(.int .i64 r.At),(.int .i64 r.E)])] []:=by
 unfold yQ at h;refine zH 1000 (y9H _ _ _ _ t e) ?_;cases h;exact⟨rfl,rfl⟩
def y0u:(i:z0v)→z7E i→Prop
 |.wO t,r=>Trip Try.prog 66 [.d (tT t)] [] [(nB r)] []
 |.vB i t,r=>Ok (z7N (Trip Try.prog) [(nB r)] []) (kL Try.f66 4) ⟨21,[(1,.ref 1 1 0),(3,(nI i))],[(1,1,some (.agg (tT t)))],[],0⟩
theorem y7d:∀i r,jT z2d i=some r→y0u i r:=by
 refine zX z7B fun g ih i=>?_;cases i with
 |wO t=>
  have v4y:=fun i t r h=>ih (.vB i t) r h;intro r h;replace h:z2m (fun i t=>g (z0v.vB i t)) t=some r:=h;unfold z2m at h;refine zH 1000 (y7V _ _ _ _ t) ?_;rintro _ rfl;refine zC zq2 h (fun _ h=>?_) (fun _ h=>?_)
  ·cases h;exact⟨rfl,rfl⟩
  exact v4y _ _ _ h
 |vB i t=>
  have v4x:=fun t r h=>ih (.wO t) r h;have v4y:=fun i t r h=>ih (.vB i t) r h;intro r h;replace h:gI (fun t=>g (z0v.wO t)) (fun i t=>g (z0v.vB i t)) i t=some r:=h;unfold gI at h;refine jV 1000 (y2z _ _ _ _ i t) ?_;refine zZ (e':=(List.length t.L:Int)) (by first|rfl|rw[zq3]) ?_;rintro _ rfl;refine zC decide_eq_true_iff h (fun _ h=>?_) (fun _ h=>?_)
  ·obtain⟨x,hx,h⟩:=zE h;refine⟨zF (l:=t.L) (zA.sz),vO hx,x.K,x.N,x.S,List.map zA.toD x.L,x.From,x.To,zP (zA.toD_eq x) hx,?_⟩;obtain⟨q1,g,h⟩:=zE h;refine⟨_,⟨_,v4x _ _ g⟩,?_⟩;refine zG Iff.rfl h (fun _ h=>?_) (fun _ h=>?_)
   ·rintro _ rfl;exact v4y _ _ _ h
   cases h;exact⟨rfl,rfl⟩
  cases h;exact⟨rfl,rfl⟩
theorem y7k(t:zA)(r:Bool)(h:wO t=some r):y0u (.wO t) r:=y7d (.wO t) r h
theorem y5a(m t:zA)(r:Bool)(h:z4m m t=some r):Trip Try.prog 55 [.d (tT m),.d (tT t)] [] [(nB r)] []:=by
 unfold z4m at h;refine zH 1000 (y5T _ _ _ _ m t) ?_;obtain⟨q1,g,h⟩:=zE h;refine⟨_,⟨_,z1r _ _ _ g⟩,?_⟩;rintro _ rfl;refine zC decide_eq_true_iff h (fun _ h=>?_) (fun _ h=>?_)
 ·obtain⟨q2,g,h⟩:=zE h;refine⟨_,⟨_,y7k _ _ g⟩,?_⟩;cases h;exact⟨rfl,rfl⟩
 cases h;exact⟨rfl,rfl⟩
open Go.RowKit in
theorem y8j{w:World}{M:Nat→Nat→Prop}{b o:Nat}{l:List zA}(hc:RelC w M b o (wZ (l.map zA.toD))){k:Nat}(hk:k<l.length):
  ∃v3,w.cell? ⟨b,o+k*6,none⟩=some (.int .i64 l[k].K)∧w.cell? ⟨b,o+k*6+1,none⟩=some (.int .i64 l[k].N)∧w.cell? ⟨b,o+k*6+2,none⟩=some (.string ⟨⟨l[k].S⟩⟩) ∧
   w.cell? ⟨b,o+k*6+3,none⟩=some v3∧w.cell? ⟨b,o+k*6+4,none⟩=some (.int .i64 l[k].From)∧w.cell? ⟨b,o+k*6+5,none⟩=some (.int .i64 l[k].To)∧RelV w M v3 (.sl (l[k].L.map zA.toD)):=by
 have hs:zD 6 (l.map zA.toD):=zF (fun x=>by rw[zA.toD_eq];rfl);have h:=hc.elem hs (i:=k) (x:=l[k].toD) (by rw[List.getElem?_map,List.getElem?_eq_getElem hk];rfl);rw[zA.toD_eq]at h;cases h with
 |cons _ _ v0 _ _ c0 _ _ r0 h=>cases h with
 |cons _ _ v1 _ _ c1 _ _ r1 h=>cases h with
 |cons _ _ v2 _ _ c2 _ _ r2 h=>cases h with
 |cons _ _ v3 _ _ c3 _ _ r3 h=>cases h with
 |cons _ _ v4 _ _ c4 _ _ r4 h=>cases h with
 |cons _ _ v5 _ _ c5 _ _ r5 h=>
  cases r0;cases r1;cases r2;cases r4;cases r5;exact⟨v3,c0,c1,c2,c3,c4,c5,r3⟩
set_option maxHeartbeats 4000000 in
set_option maxRecDepth 1000000 in
open Go.RowKit Go.Shelf in
theorem z8I(t r:zA)(h:z0A t=some r):Trip Try.prog 40 [.d (tT t)] [] [.cells [(nI r.K),(nI r.N),(nS r.S),.wr 6 (List.map zA.toD r.L),(nI r.From),(nI r.To)]] []:=by
 have T_en:Nt.Enters Try.prog 40:=⟨_,Try.func40,by rfl,by rfl⟩;refine⟨T_en,fun w M0 κ vs B hv=>?_⟩;unfold z0A at h;obtain⟨hne,h⟩:=jR h;obtain⟨l,hgo0,h⟩:=zE h;have hr:=Option.some.inj h;subst hr;clear h;cases hv with
 |cons v _ vs _ g1 hv=>
  cases hv;cases g1 with
  |d _ _ g1=>
   cases g1 with
   |agg vs _ g1=>
    cases g1 with
    |cons v0 _ _ _ s0 h0 g1=>
    cases g1 with
    |cons v1 _ _ _ s1 h1 g1=>
    cases g1 with
    |cons v2 _ _ _ s2 h2 g1=>
    cases g1 with
    |cons v3 _ _ _ s3 h3 g1=>
    cases g1 with
    |cons v4 _ _ _ s4 h4 g1=>
    cases g1 with
    |cons v5 _ _ _ s5 h5 g1=>
    cases g1;cases h0;cases h1;cases h2;cases h4;cases h5;obtain⟨ad,cap,rfl,hopen⟩:=y8C h3;obtain⟨b,o,rfl,hc⟩:=hopen (fun e=>by have:=congrArg List.length e;rw[zq3]at this;simp at this;rw[this]at hne;simp at hne);rw[zq3]at *
    go_enter Try.func40,Try.ntmps40
    go_wp2_with fail
    have hb1:b<w.heap.size:=by
     have:=hc;cases hl:t.L with
     |nil=>rw[hl]at hne;simp at hne
     |cons x xs=>
      rw[hl]at this;rw[List.map_cons,wZ]at this;rw[zA.toD_eq]at this;cases this with
      |cons _ _ _ _ _ h _ _ _ _=>exact z0o h
    obtain⟨i0,dd,hi,hz1,-⟩:=uZ (P:=Try.prog) (t:=24) (n:=6) (by kernel_rfl);have hz2:=z5i (P:=Try.prog) (t:=24) (n:=72) (by kernel_rfl) hi;have hz0:=z4F (P:=Try.prog) (t:=24) (z:=.agg #[.int .i64 0,.int .i64 0,.string ⟨#[]⟩,.slice none 0 0,.int .i64 0,.int .i64 0]) (by kernel_rfl) hi
    go_loopw [4] (fun i wr=>∃(k:Nat) (acc:List zA) (v:Go.Value) (us:List Go.Value),i=.int .i64 (k:Int)∧k≤t.L.length∧acc.length=k∧uC (t.L.drop k) acc=some l ∧
     wr.ownsRow (w.heap.size+3) 24 6 v k us∧(∀(j:Nat) u c,us[j]?=some u→(wZ (acc.map zA.toD))[j]?=some c→u.oneCell'=true∧c.sc=true∧RelV wr (OM M0 w.heap.size v) u c) ∧
     wr.cell? ⟨w.heap.size,3,none⟩=some (.slice (some ⟨b,o,none⟩) t.L.length cap) ∧
     wr.heap[w.heap.size+1+1]?=some (.cells #[.int .i64 t.K,.int .i64 t.N,.string ⟨#[]⟩,v,.int .i64 0,.int .i64 0] 24) ∧
     wr.heap[w.heap.size+1]?=some (.cells #[.int .i64 0,.int .i64 0,.string ⟨#[]⟩,.slice none 0 0,.int .i64 0,.int .i64 0] 24) ∧
     Below w.heap.size w wr∧w.heap.size+3≤wr.heap.size) (fun i _=>t.L.length-(intOf i).toNat)
    case atStart=>
     refine⟨0,[],.slice none 0 0,[],rfl,Nat.zero_le _,rfl,hgo0,⟨rfl,.inl ⟨rfl,rfl⟩⟩,fun j u c h=>by simp at h,?_,?_,?_,?_,?_⟩
     ·rw[zY (y8L w _ _ _).1];rfl
     ·exact(y8L w _ _ _).2.2.1
     ·exact(y8L w _ _ _).2.1
     ·exact(((Below.refl _ w).alloc (Nat.le_refl _) _).alloc (by simp) _).alloc (by simp;omega) _
     ·exact Nat.le_of_eq (y8L w _ _ _).2.2.2.symm
    case round=>
     obtain⟨k,acc,v,us,rfl,hk,hka,hgo,hown,hus,c1,c2,c3,hbw,hsz⟩:=hrel;by_cases hlt:k<t.L.length
     ·obtain⟨v3,d0,d1,d2,d3,d4,d5,hv3⟩:=y8j hc hlt;have up:∀j u,w.cell? ⟨b,j,none⟩=some u→wr.cell? ⟨b,j,none⟩=some u:=fun j u h=>(yO (hbw.block b hb1) _).trans h;have e0:=up _ _ d0;have e1:=up _ _ d1;have e2:=up _ _ d2;have e3:=up _ _ d3;have e4:=up _ _ d4;have e5:=up _ _ d5;have f3:wr.cell? ⟨w.heap.size+1+1,3,none⟩=some v:=by rw[zY c2];rfl
      have hOM:∀b' o',OM M0 w.heap.size v b' o'→b'<wr.heap.size:=fun b' o' h=>by
       rcases h with h|h|h
       ·have:=(B.m0 _ _ h).1;omega
       ·omega
       ·exact(hown.lt _ h).2
      have hvb:∀b',v.ownBlock=some b'→w.heap.size+3≤b':=fun b' h=>(hown.lt _ h).1;rw[List.drop_eq_getElem_cons hlt,uC]at hgo;obtain⟨q,g,hgo⟩:=zE hgo;obtain⟨hroom,hgo⟩:=jR hgo;have kw:Keeps w (Mut M0 κ) wr.drew (Mut (OM M0 w.heap.size v) kN):=⟨fun b' o' u hu _=>(yO (w':=wr.drew) (hbw.block b' (z3z hu)) o').trans hu,fun b' o' u hu hm=>v2s (fun h=>by
       have hb':=z3z hu;rcases h with h|h|h
       ·exact hm (.inl h)
       ·omega
       ·have:=hvb _ h;omega)⟩
      have hcall:Calls Try.prog 40 #[.agg #[.int .i64 t.L[k].K,.int .i64 t.L[k].N,.string ⟨⟨t.L[k].S⟩⟩,v3,.int .i64 t.L[k].From,.int .i64 t.L[k].To]] wr.drew (fun e w'=>∃vq,e=.returned vq ∧
        (∃vL,vq=.agg #[.int .i64 q.K,.int .i64 q.N,.string ⟨⟨q.S⟩⟩,vL,.int .i64 q.From,.int .i64 q.To]∧RelV w' (OM M0 w.heap.size v) vL (.sl (q.L.map zA.toD))∧Below wr.heap.size wr w')):=by
       have T:Trip Try.prog 40 [.d (.agg [.int .i64 t.L[k].K,.int .i64 t.L[k].N,.str t.L[k].S,.sl (List.map zA.toD t.L[k].L),.int .i64 t.L[k].From,.int .i64 t.L[k].To])] [] [.d (.agg [.int .i64 q.K,.int .i64 q.N,.str q.S,.sl (List.map zA.toD q.L),.int .i64 q.From,.int .i64 q.To])] []:=jA t.L[k] q g
       refine(T.2 wr.drew (OM M0 w.heap.size v) kN _ (y8w hOM) (.cons _ _ _ _ (.d _ _ (.agg _ _ (.cons _ _ _ _ rfl (.int _ _) (.cons _ _ _ _ rfl (.int _ _) (.cons _ _ _ _ rfl (.str _) (.cons _ _ _ _ rfl (hv3.keep kw) (.cons _ _ _ _ rfl (.int _ _) (.cons _ _ _ _ rfl (.int _ _) .nil)))))))) .nil)).mono ?_;rintro e W3 ⟨vq,κ3,rfl,A3,hres⟩;have h9:=hres.2;refine⟨vq,rfl,?_⟩;cases h9 with
       |d _ _ h9=>cases h9 with
        |agg vs _ h9=>
         cases h9 with
         |cons _ _ _ _ _ g0 h9=>
         cases h9 with
         |cons _ _ _ _ _ g1 h9=>
         cases h9 with
         |cons _ _ _ _ _ g2 h9=>
         cases h9 with
         |cons _ _ _ _ _ g3 h9=>
         cases h9 with
         |cons _ _ _ _ _ g4 h9=>
         cases h9 with
         |cons _ _ _ _ _ g5 h9=>
          cases h9;cases g0;cases g1;cases g2;cases g4;cases g5;exact⟨_,rfl,g3.keep ⟨fun _ _ _ h _=>h,fun _ _ _ _ hm h=>hm (.inl h)⟩,(y9q wr _).trans (y7q A3)⟩
      obtain⟨hr1,hr2⟩:=hroom;rw[hka]at hr1 hr2;have hk63:k+1≤maxLen:=by unfold maxLen;omega
      have hk64:(k+1)*72≤140737488355328:=hr1
      go_wp2_with fail
      go_region_law (first
       |(refine v1B rfl 40 (.tmp 23) _ rfl T_en (by simp[Act.eval,Act.put];exact hcall) ?_
         rintro vq W3 ⟨vL,rfl,hL,hb3⟩;have hsz3:=hb3.size;have hown3:=y6H hown hb3;have f33:W3.cell? ⟨w.heap.size+1+1,3,none⟩=some v:=(hb3.cell (show w.heap.size+1+1<wr.heap.size by omega)).trans f3;obtain⟨news,hnews⟩:∃news,news=[.int .i64 q.K,.int .i64 q.N,.string ⟨⟨q.S⟩⟩,vL,.int .i64 q.From,.int .i64 q.To]:=⟨_,rfl⟩;have hb4:Below wr.heap.size wr (W3.alloc (.cells #[.int .i64 q.K,.int .i64 q.N,.string ⟨⟨q.S⟩⟩,vL,.int .i64 q.From,.int .i64 q.To] 24)):=hb3.alloc hsz3 _;have hown4:=y6H hown hb4
         have f34:(W3.alloc (.cells #[.int .i64 q.K,.int .i64 q.N,.string ⟨⟨q.S⟩⟩,vL,.int .i64 q.From,.int .i64 q.To] 24)).cell? ⟨w.heap.size+1+1,3,none⟩=some v:=(hb4.cell (show w.heap.size+1+1<wr.heap.size by omega)).trans f3
         have hba:w.heap.size+3≤(W3.alloc (.cells #[.int .i64 q.K,.int .i64 q.N,.string ⟨⟨q.S⟩⟩,vL,.int .i64 q.From,.int .i64 q.To] 24)).heap.size:=by rw[show(W3.alloc (.cells #[.int .i64 q.K,.int .i64 q.N,.string ⟨⟨q.S⟩⟩,vL,.int .i64 q.From,.int .i64 q.To] 24)).heap.size=W3.heap.size+1 from Array.size_push ..];omega
         have hvL1:vL.oneCell'=true:=hL.one rfl;have hnc:∀j u,news[j]?=some u→(W3.alloc (.cells #[.int .i64 q.K,.int .i64 q.N,.string ⟨⟨q.S⟩⟩,vL,.int .i64 q.From,.int .i64 q.To] 24)).cell? ((⟨W3.heap.size,0,none⟩:Addr).add j)=some u:=by
          intro j u hj;have e9:(W3.alloc (.cells #[.int .i64 q.K,.int .i64 q.N,.string ⟨⟨q.S⟩⟩,vL,.int .i64 q.From,.int .i64 q.To] 24)).heap[W3.heap.size]?=some (.cells #[.int .i64 q.K,.int .i64 q.N,.string ⟨⟨q.S⟩⟩,vL,.int .i64 q.From,.int .i64 q.To] 24):=Array.getElem?_push_size;rw[hnews]at hj
          match j,hj with
          |0,hj=>exact(zY e9).trans hj
          |1,hj=>exact(zY e9).trans hj
          |2,hj=>exact(zY e9).trans hj
          |3,hj=>exact(zY e9).trans hj
          |4,hj=>exact(zY e9).trans hj
          |5,hj=>exact(zY e9).trans hj
         have hn1:∀u∈news,u.oneCell'=true:=by
          rw[hnews];intro u hu;simp only[List.mem_cons,List.not_mem_nil,or_false]at hu;rcases hu with rfl|rfl|rfl|rfl|rfl|rfl<;>first|rfl|exact hvL1)
       |(refine y2M rfl (.tmp 18) (.tmp 25) 22 rfl (w.heap.size+3) 24 i0 _ 6 72 Try.underlying22 hi hz0 hz1 hz2 rfl (by decide) v k us (by simp[Act.eval,Act.put]) ‹_› ⟨‹World›.heap.size,0,none⟩ 1 1 ‹List Go.Value› (by simp[Act.eval,Act.put]) (by simp[*]) ‹_› ‹_› hk63 hk64 ‹_› ?_
         intro v9 W9 hown9 hgrow9 hnil9;have g2:W9.heap[w.heap.size+1+1]?=some (.cells #[.int .i64 t.K,.int .i64 t.N,.string ⟨#[]⟩,v,.int .i64 0,.int .i64 0] 24):=by
          rw[hgrow9.block _ (by omega) (fun e=>by have:=hvb _ e.symm;omega),‹Below wr.heap.size wr (World.alloc _ _)›.block _ (by omega)];exact c2
         have f93:W9.cell? ⟨w.heap.size+1+1,3,none⟩=some v:=by rw[zY g2];rfl
         have f94:W9.frozen? ⟨w.heap.size+1+1,3,none⟩=false:=z4b g2;rcases hown9.2 with⟨-,h0⟩|⟨g9,cap9,cur9,rfl,hg90,hg91,hg92,hg93,hg94,hg95⟩
         ·exact absurd h0 (by omega)))
      all_goals
       have hAs:W3.heap.size≤W3.heap.size+1:=Nat.le_succ _;have hba9:=‹w.heap.size+3≤(World.alloc _ _).heap.size›;have hb4:=‹Below wr.heap.size wr (World.alloc _ _)›;have hf:∀j,j≠w.heap.size+1+1→(W9.setCell ⟨w.heap.size+1+1,3,none⟩ (.slice (some ⟨g9,0,none⟩) (k+1) cap9)).heap[j]?=W9.heap[j]?:=fun j hj=>heap_setCell_other _ _ _ _ hj;have h93:∀j,j<W3.heap.size→v.ownBlock≠some j→W9.heap[j]?=W3.heap[j]?:=fun j hj hne=>by
        rw[hgrow9.block j (by rw[show(World.alloc W3 _).heap.size=W3.heap.size+1 from Array.size_push ..];omega) (fun e=>hne e.symm)];exact(show(W3.heap.push _)[j]?=_ by rw[Array.getElem?_push_lt hj,←Array.getElem?_eq_getElem])
       have h9r:∀j,j<wr.heap.size→v.ownBlock≠some j→W9.heap[j]?=wr.heap[j]?:=fun j hj hne=>by
        rw[h93 j (by omega) hne];exact hb3.block j hj
       have hg9n:g9≠w.heap.size+1+1:=by omega
       have hsame9:=heap_setCell_same W9 (w.heap.size+1+1) 3 _ 24 (.slice (some ⟨g9,0,none⟩) (k+1) cap9) g2;have hlt9:∀j,j<W9.heap.size→j<(W9.setCell ⟨w.heap.size+1+1,3,none⟩ (.slice (some ⟨g9,0,none⟩) (k+1) cap9)).heap.size:=fun j hj=>by simpa [World.setCell]using hj
       have hs9:W3.heap.size+1≤W9.heap.size:=by have:=hgrow9.size;rw[show(World.alloc W3 _).heap.size=W3.heap.size+1 from Array.size_push ..]at this;exact this
       have K3:Keeps W3 (OM M0 w.heap.size v) (W9.setCell ⟨w.heap.size+1+1,3,none⟩ (.slice (some ⟨g9,0,none⟩) (k+1) cap9)) (OM M0 w.heap.size (.slice (some ⟨g9,0,none⟩) (k+1) cap9)):=by
        refine⟨fun b' o' u hu hm=>?_,fun b' o' u hu hm hm'=>?_⟩
        ·have hb':=z3z hu;have n1:b'≠w.heap.size+1+1:=fun e=>hm (.inr (.inl (by omega)));have n2:v.ownBlock≠some b':=fun e=>hm (.inr (.inr e));rw[yO (hf b' n1),yO (h93 b' hb' n2)];exact hu
        ·have hb':=z3z hu;rcases hm' with h|h|h
         ·exact hm (.inl h)
         ·exact hm (.inr (.inl h))
         ·rcases hnil9 with h9|h9
          ·exact hm (.inr (.inr (h9.symm.trans h)))
          ·rw[h9]at h;rw[show(World.alloc W3 _).heap.size=W3.heap.size+1 from Array.size_push ..]at h;injection h with h;omega
       have KK:Keeps wr (OM M0 w.heap.size v) (W9.setCell ⟨w.heap.size+1+1,3,none⟩ (.slice (some ⟨g9,0,none⟩) (k+1) cap9)) (OM M0 w.heap.size (.slice (some ⟨g9,0,none⟩) (k+1) cap9)):=
        Keeps.trans ⟨fun b' o' u hu _=>by rw[yO (hb3.block b' (z3z hu))];exact hu,fun _ _ _ _ h=>h⟩ K3
       have hul:us.length=(wZ (acc.map zA.toD)).length:=by
        rw[hown.1,jE (n:=6) (zF fun x=>zA.sz x),zq3,hka]
       have hbel:Below w.heap.size w (W9.setCell ⟨w.heap.size+1+1,3,none⟩ (.slice (some ⟨g9,0,none⟩) (k+1) cap9)):=
        (((hbw.trans (hb4.mono (by omega))).grown hgrow9 (by omega) (fun j hj=>by have:=hvb j hj;omega)).setCell (by show w.heap.size≤w.heap.size+1+1;omega) _)
       have hus9:∀(j:Nat) u c,(us++[.int .i64 q.K,.int .i64 q.N,.string ⟨⟨q.S⟩⟩,vL,.int .i64 q.From,.int .i64 q.To])[j]?=some u→(wZ ((acc++[q]).map zA.toD))[j]?=some c→u.oneCell'=true∧c.sc=true∧RelV (W9.setCell ⟨w.heap.size+1+1,3,none⟩ (.slice (some ⟨g9,0,none⟩) (k+1) cap9)) (OM M0 w.heap.size (.slice (some ⟨g9,0,none⟩) (k+1) cap9)) u c:=by
        intro j u c hu hcc;rw[List.map_append,z0x]at hcc;by_cases hj:j<us.length
        ·rw[List.getElem?_append_left hj]at hu;rw[List.getElem?_append_left (by omega)]at hcc;obtain⟨z1,z2,z3⟩:=hus j u c hu hcc;exact⟨z1,z2,z3.keep KK⟩
        ·rw[List.getElem?_append_right (by omega)]at hu;rw[List.getElem?_append_right (by omega),←hul]at hcc;have e9:wZ ([q].map zA.toD)=[.int .i64 q.K,.int .i64 q.N,.str q.S,.sl (q.L.map zA.toD),.int .i64 q.From,.int .i64 q.To]:=by
          rw[List.map_cons,List.map_nil,wZ,wZ,zA.toD_eq];rfl
         rw[e9]at hcc
         match j-us.length,hu,hcc with
         |0,hu,hcc=>cases hu;cases hcc;exact⟨rfl,rfl,.int _ _⟩
         |1,hu,hcc=>cases hu;cases hcc;exact⟨rfl,rfl,.int _ _⟩
         |2,hu,hcc=>cases hu;cases hcc;exact⟨rfl,rfl,.str _⟩
         |3,hu,hcc=>cases hu;cases hcc;exact⟨hvL1,rfl,hL.keep K3⟩
         |4,hu,hcc=>cases hu;cases hcc;exact⟨rfl,rfl,.int _ _⟩
         |5,hu,hcc=>cases hu;cases hcc;exact⟨rfl,rfl,.int _ _⟩
         |n+6,hu,hcc=>simp at hu
       subst hnews
       go_wp2_with fail
       go_roundw
       case rel=>
        refine⟨k+1,acc++[q],_,_,by go_num,hlt,by simp[hka],hgo,⟨hown9.1,.inr ⟨g9,cap9,cur9,rfl,hg90,by rw[hf g9 hg9n];exact hg91,hg92,hg93,hg94,hg95⟩⟩,hus9,?_,hsame9,?_,hbel,?_⟩
        ·exact(yO ((hf _ (by omega)).trans (h9r _ (by omega) (fun e=>by have:=hvb _ e;omega))) 3).trans c1
        ·rw[hf _ (by omega),h9r _ (by omega) (fun e=>by have:=hvb _ e;omega)];exact c3
        ·have:=hlt9 (w.heap.size+2) (by omega);omega
       case measure=>simp[intOf];omega
     ·have hke:k=t.L.length:=by omega
      subst hke;rw[List.drop_eq_nil_of_le (Nat.le_refl _),uC]at hgo;have hl:=Option.some.inj hgo;subst hl;rcases hown.2 with⟨-,h0⟩|⟨g,cp,cur,rfl,hg0,hg1,hg2,hg3,hg4,hg5⟩
      ·exact absurd h0 (by omega)
      have k0:wr.cell? ⟨w.heap.size+1+1,0,none⟩=some (.int .i64 t.K):=by rw[zY c2];rfl
      have k1:wr.cell? ⟨w.heap.size+1+1,1,none⟩=some (.int .i64 t.N):=by rw[zY c2];rfl
      have k2:wr.cell? ⟨w.heap.size+1+1,2,none⟩=some (.string ⟨#[]⟩):=by rw[zY c2];rfl
      have k3:wr.cell? ⟨w.heap.size+1+1,3,none⟩=some (.slice (some ⟨g,0,none⟩) t.L.length cp):=by rw[zY c2];rfl
      have k4:wr.cell? ⟨w.heap.size+1+1,4,none⟩=some (.int .i64 0):=by rw[zY c2];rfl
      have k5:wr.cell? ⟨w.heap.size+1+1,5,none⟩=some (.int .i64 0):=by rw[zY c2];rfl
      have m0:wr.cell? ⟨w.heap.size+1,0,none⟩=some (.int .i64 0):=by rw[zY c3];rfl
      have m1:wr.cell? ⟨w.heap.size+1,1,none⟩=some (.int .i64 0):=by rw[zY c3];rfl
      have m2:wr.cell? ⟨w.heap.size+1,2,none⟩=some (.string ⟨#[]⟩):=by rw[zY c3];rfl
      have m3:wr.cell? ⟨w.heap.size+1,3,none⟩=some (.slice none 0 0):=by rw[zY c3];rfl
      have m4:wr.cell? ⟨w.heap.size+1,4,none⟩=some (.int .i64 0):=by rw[zY c3];rfl
      have m5:wr.cell? ⟨w.heap.size+1,5,none⟩=some (.int .i64 0):=by rw[zY c3];rfl
      have z:∀i,wr.frozen? ⟨w.heap.size+1,i,none⟩=false:=fun i=>z4b c3
      go_wp2_with fail
      obtain⟨Wz,hWz⟩:∃Wz,Wz=((((((wr.setCell ⟨w.heap.size+1,0,none⟩ (.int .i64 t.K)).setCell ⟨w.heap.size+1,1,none⟩ (.int .i64 t.N)).setCell ⟨w.heap.size+1,2,none⟩ (.string ⟨#[]⟩)).setCell ⟨w.heap.size+1,3,none⟩ (.slice (some ⟨g,0,none⟩) t.L.length cp)).setCell ⟨w.heap.size+1,4,none⟩ (.int .i64 0)).setCell ⟨w.heap.size+1,5,none⟩ (.int .i64 0)):=⟨_,rfl⟩
      have hz1:Wz.heap[w.heap.size+1]?=some (.cells #[.int .i64 t.K,.int .i64 t.N,.string ⟨#[]⟩,.slice (some ⟨g,0,none⟩) t.L.length cp,.int .i64 0,.int .i64 0] 24):=by
       rw[hWz];exact heap_setCell_same _ _ 5 _ 24 _ (heap_setCell_same _ _ 4 _ 24 _ (heap_setCell_same _ _ 3 _ 24 _ (heap_setCell_same _ _ 2 _ 24 _ (heap_setCell_same _ _ 1 _ 24 _ (heap_setCell_same _ _ 0 _ 24 _ c3)))))
      have hz2:∀j,j≠w.heap.size+1→Wz.heap[j]?=wr.heap[j]?:=fun j hj=>by
       rw[hWz];rw[heap_setCell_other _ _ _ _ hj,heap_setCell_other _ _ _ _ hj,heap_setCell_other _ _ _ _ hj,heap_setCell_other _ _ _ _ hj,heap_setCell_other _ _ _ _ hj,heap_setCell_other _ _ _ _ hj]
      have hz3:Below w.heap.size w Wz:=by
       rw[hWz];have hle:w.heap.size≤w.heap.size+1:=Nat.le_succ _;exact(((((hbw.setCell hle _).setCell hle _).setCell hle _).setCell hle _).setCell hle _).setCell hle _
      have hz4:g<Wz.heap.size:=by
       have:=hz2 g (by omega);rw[hg1]at this;exact(Array.getElem?_eq_some_iff.1 this).1
      rw[←hWz];have y0:Wz.cell? ⟨w.heap.size+1,0,none⟩=some (.int .i64 t.K):=by rw[zY hz1];rfl
      have y1:Wz.cell? ⟨w.heap.size+1,1,none⟩=some (.int .i64 t.N):=by rw[zY hz1];rfl
      have y2:Wz.cell? ⟨w.heap.size+1,2,none⟩=some (.string ⟨#[]⟩):=by rw[zY hz1];rfl
      have y3:Wz.cell? ⟨w.heap.size+1,3,none⟩=some (.slice (some ⟨g,0,none⟩) t.L.length cp):=by rw[zY hz1];rfl
      have y4:Wz.cell? ⟨w.heap.size+1,4,none⟩=some (.int .i64 0):=by rw[zY hz1];rfl
      have y5:Wz.cell? ⟨w.heap.size+1,5,none⟩=some (.int .i64 0):=by rw[zY hz1];rfl
      clear hWz;refine bodyPost_ret (results_cell_row (p:=2) (ty:=24) rfl _ _ (w.heap.size+1) 24 _ (0,0) _ rfl hz1 Try.underlying24 rfl (by kernel_rfl)) rfl ?_;have A0:=y0T B hz3;have hul:us.length=(wZ (acc.map zA.toD)).length:=by
       rw[hown.1,jE (n:=6) (zF fun x=>zA.sz x),zq3,hka]
      have kz:Keeps wr (OM M0 w.heap.size (.slice (some ⟨g,0,none⟩) t.L.length cp)) Wz (Mut M0 (upK kN (.ar 0) (some (g,0)))):=by
       refine⟨fun b' o' u hu hm=>?_,fun b' o' u hu hm hm'=>?_⟩
       ·have n1:b'≠w.heap.size+1:=fun e=>hm (.inr (.inl (by omega)));rw[yO (hz2 b' n1)];exact hu
       ·rcases hm' with h|⟨key,lo,h,-⟩
        ·exact hm (.inl h)
        ·by_cases e:key=.ar 0
         ·subst e;rw[jQ]at h;injection h with h;injection h with h;subst h;exact hm (.inr (.inr rfl))
         ·rw[vC _ _ e]at h;cases h
      refine⟨_,rfl,upK kN (.ar 0) (some (g,0)),?_,?_⟩
      ·have key1:∀key b' lo,upK kN (.ar 0) (some (g,0)) key=some (b',lo)→key=.ar 0∧b'=g:=fun key b' lo h=>by
        by_cases e:key=.ar 0
        ·subst e;rw[jQ]at h;injection h with h;injection h with h _;exact⟨rfl,h.symm⟩
        ·rw[vC _ _ e]at h;cases h
       exact {kept:=A0.kept
              k0:=⟨A0.k0.cell,fun b' o' u hu hm hm'=>by
               rcases hm' with h|⟨key,lo,h,-⟩
               ·exact hm (.inl h)
               ·have:=(key1 _ _ _ h).2;have:=z3z hu;omega⟩
              g0:=A0.g0
              kb:=fun key b' lo h=>by obtain⟨-,rfl⟩:=key1 _ _ _ h;exact⟨hz4,.inl (by omega)⟩
              ki:=fun k1 k2 b' l1 l2 h1 h2=>by rw[(key1 _ _ _ h1).1,(key1 _ _ _ h2).1]
              hn:=fun id r h=>by have:=(key1 _ r.1 r.2 h).1;cases this
              hp:=fun id b' h=>by have:=B.hn _ _ h;simp at this
              heap:=fun id cs hcs=>by simp at hcs}
      ·refine⟨_,rfl,rfl,fun i u c hu hcc=>?_⟩
       match i,hu,hcc with
       |0,hu,hcc=>cases hu;cases hcc;exact .inl ⟨_,rfl,.int _ _⟩
       |1,hu,hcc=>cases hu;cases hcc;exact .inl ⟨_,rfl,.int _ _⟩
       |2,hu,hcc=>cases hu;cases hcc;exact .inl ⟨_,rfl,.str _⟩
       |3,hu,hcc=>
        cases hu;cases hcc;refine .inr ⟨6,_,rfl,zF (fun x=>zA.sz x),g,cp,by rw[zq3,hka],by rw[zq3,hka];exact hg2,jQ _ _ _,fun j c hc'=>?_⟩;have hj:j<us.length:=by rw[hul];exact(List.getElem?_eq_some_iff.1 hc').1
        have hu':us[j]?=some us[j]:=List.getElem?_eq_getElem hj;obtain⟨z1,z2,z3⟩:=hus j _ c hu' hc';have hg':Wz.heap[g]?=some (.cells cur 24 (0,0)):=(hz2 g (by omega)).trans hg1;have hcur:cur[j]?=some us[j]:=by
         have e1:(cur.toList.take (t.L.length*6))[j]?=us[j]?:=by rw[hg5]
         rw[List.getElem?_take_of_lt (by rw[←hown.1];exact hj)]at e1;rw[←Array.getElem?_toList,e1,hu']
        exact⟨us[j],(zY hg').trans hcur,z1,z2,z3.keep kz,z4b hg'⟩
       |4,hu,hcc=>cases hu;cases hcc;exact .inl ⟨_,rfl,.int _ _⟩
       |5,hu,hcc=>cases hu;cases hcc;exact .inl ⟨_,rfl,.int _ _⟩
       |n+6,hu,hcc=>simp at hcc
def y0s:(i:z0t)→z7C i→Prop
 |.vQ t,r=>Trip Try.prog 77 [.d (tT t)] [] [.d (tT r)] []
 |.yZ out i t o2,r=>Ok (z7L (Trip Try.prog) [.d (tT r)] []) (kL Try.f77 3) ⟨30,[(1,.ref 1 1 0),(2,.ref 2 1 0),(3,.right 5 1 6 (List.map zA.toD out)),(4,(nI i))],[(1,1,some (.agg (tT t))),(2,1,some (.agg (tT o2))),(5,1,some (.tok 6 (List.length (List.map zA.toD out))))],[],0⟩
theorem y7b:∀i r,jT z2b i=some r→y0s i r:=by
 refine zX z7z fun g ih i=>?_;cases i with
 |vQ t=>
  have v4o:=fun out i t o2 r h=>ih (.yZ out i t o2) r h;intro r h;replace h:z2k (fun out i t o2=>g (z0t.yZ out i t o2)) t=some r:=h;unfold z2k at h;refine zH 1000 (y7T _ _ _ _ t) ?_;exact v4o _ _ _ _ _ h
 |yZ out i t o2=>
  have v4n:=fun t r h=>ih (.vQ t) r h;have v4o:=fun out i t o2 r h=>ih (.yZ out i t o2) r h;intro r h;replace h:gG (fun t=>g (z0t.vQ t)) (fun out i t o2=>g (z0t.yZ out i t o2)) out i t o2=some r:=h;unfold gG at h;refine jV 1000 (y2x _ _ _ _ out i t o2) ?_;refine zZ (e':=(List.length t.L:Int)) (by first|rfl|rw[zq3]) ?_;rintro _ rfl;refine zC decide_eq_true_iff h (fun _ h=>?_) (fun _ h=>?_)
  ·obtain⟨x,hx,h⟩:=zE h;refine⟨zF (l:=t.L) (zA.sz),vO hx,x.K,x.N,x.S,List.map zA.toD x.L,x.From,x.To,zP (zA.toD_eq x) hx,?_⟩;obtain⟨q1,g,h⟩:=zE h;refine⟨_,_,_,_,_,_,⟨_,v4n _ _ g⟩,?_⟩;refine⟨by simp[zD,D.cells],?_⟩;refine⟨by first|rfl|decide|simp only[zq3,List.length_cons,List.length_nil,List.map_append,List.length_append],?_⟩;obtain⟨hP,h⟩:=jR h;refine⟨by first|exact hP|simpa using hP,?_⟩
   refine zZ (e':=List.map zA.toD (out++[q1])) (by first|rfl|simp only[List.map_append,List.map_cons,List.map_nil,List.map_take,List.map_drop,List.map_set,List.map_replicate,zq3,zA.toD_eq]) ?_;rintro _ rfl;exact v4o _ _ _ _ _ h
  cases h;exact⟨rfl,rfl⟩
theorem z2e(t r:zA)(h:vQ t=some r):y0s (.vQ t) r:=y7b (.vQ t) r h
theorem y5b(m:zA)(locals:List zA)(t r:zA)(h:z4o m locals t=some r):Trip Try.prog 82 [.d (tT m),.d (.sl (List.map zA.toD locals)),.d (tT t)] [] [.d (tT r)] []:=by
 unfold z4o at h;refine zH 1000 (y5U _ _ _ _ m locals t) ?_;rintro _ rfl;refine zC zq2 h (fun _ h=>?_) (fun _ h=>?_)
 ·refine zZ (e':=(List.length locals:Int)) (by first|rfl|rw[zq3]) ?_;rintro _ rfl;rintro _ rfl;obtain⟨x,hx,h⟩:=zE h;refine⟨zF (l:=locals) (zA.sz),vO hx,x.K,x.N,x.S,List.map zA.toD x.L,x.From,x.To,zP (zA.toD_eq x) hx,?_⟩;obtain⟨q1,g,h⟩:=zE h;refine⟨_,_,_,_,_,_,⟨_,z2e _ _ g⟩,?_⟩;cases h;exact⟨rfl,rfl⟩
 rintro _ rfl;refine zC zq2 h (fun _ h=>?_) (fun _ h=>?_)
 ·obtain⟨x1,hx,h⟩:=zE h;refine⟨zF (l:=m.L) (zA.sz),vO hx,x1.K,x1.N,x1.S,List.map zA.toD x1.L,x1.From,x1.To,zP (zA.toD_eq x1) hx,?_⟩;obtain⟨x2,hx,h⟩:=zE h;refine⟨zF (l:=x1.L) (zA.sz),vO hx,x2.K,x2.N,x2.S,List.map zA.toD x2.L,x2.From,x2.To,zP (zA.toD_eq x2) hx,?_⟩;obtain⟨q2,g,h⟩:=zE h;refine⟨_,_,_,_,_,_,⟨_,z2z _ _ g⟩,?_⟩;cases h;exact⟨rfl,rfl⟩
 rintro _ rfl;refine zC zq2 h (fun _ h=>?_) (fun _ h=>?_)
 ·obtain⟨x3,hx,h⟩:=zE h;refine⟨zF (l:=m.L) (zA.sz),vO hx,x3.K,x3.N,x3.S,List.map zA.toD x3.L,x3.From,x3.To,zP (zA.toD_eq x3) hx,?_⟩;obtain⟨x4,hx,h⟩:=zE h;refine⟨zF (l:=x3.L) (zA.sz),vO hx,x4.K,x4.N,x4.S,List.map zA.toD x4.L,x4.From,x4.To,zP (zA.toD_eq x4) hx,?_⟩;obtain⟨q3,g,h⟩:=zE h;refine⟨_,_,_,_,_,_,⟨_,z2e _ _ g⟩,?_⟩;cases h;exact⟨rfl,rfl⟩
 rintro _ rfl;refine zC zq2 h (fun _ h=>?_) (fun _ h=>?_)
 ·obtain⟨q4,g,h⟩:=zE h;refine⟨_,_,_,_,_,_,⟨_,z8K _ g⟩,?_⟩;cases h;exact⟨rfl,rfl⟩
 obtain⟨q5,g,h⟩:=zE h;refine⟨_,_,_,_,_,_,⟨_,z2z _ _ g⟩,?_⟩;cases h;exact⟨rfl,rfl⟩
theorem z8J(t:zA)(e:Int)(r:Ref15Got)(h:z5d t e=some r):Trip Try.prog 80 [.d (tT t),(nI e)] [] [.d (.agg [(.int .i64 r.Type_.K),(.int .i64 r.Type_.N),(.str r.Type_.S),(.sl (List.map zA.toD r.Type_.L)),(.int .i64 r.Type_.From),(.int .i64 r.Type_.To),(.int .i64 r.Form.K),(.int .i64 r.Form.N),(.str r.Form.S),(.sl (List.map zA.toD r.Form.L)),(.int .i64 r.Form.From),(.int .i64 r.Form.To),(.int .i64 r.At),(.int .i64 r.E)])] []:=by
 unfold z5d at h;refine zH 1000 (y9C _ _ _ _ t e) ?_;cases h;exact⟨rfl,rfl⟩
theorem z4g(m:zA)(n kind:Int)(r:Bool)(h:z3g m n kind=some r):Trip Try.prog 85 [.d (tT m),(nI n),(nI kind)] [] [(nB r)] []:=by
 unfold z3g at h;refine zH 1000 (y9E _ _ _ _ m n kind) ?_;rintro _ rfl;refine zC decide_eq_true_iff h (fun _ h=>?_) (fun _ h=>?_)
 ·cases h;exact⟨rfl,rfl⟩
 refine zZ (e':=(List.length m.L:Int)) (by first|rfl|rw[zq3]) ?_;rintro _ rfl;refine zC decide_eq_true_iff h (fun _ h=>?_) (fun _ h=>?_)
 ·cases h;exact⟨rfl,rfl⟩
 obtain⟨x,hx,h⟩:=zE h;refine⟨zF (l:=m.L) (zA.sz),vO hx,x.K,x.N,x.S,List.map zA.toD x.L,x.From,x.To,zP (zA.toD_eq x) hx,?_⟩;rintro _ rfl;refine zG zq2 h (fun _ h=>?_) (fun _ h=>?_)
 ·rintro _ rfl;refine zC zq2 h (fun _ h=>?_) (fun _ h=>?_)
  ·refine zZ (e':=(List.length x.L:Int)) (by first|rfl|rw[zq3]) ?_;rintro _ rfl;refine zC zq2 h (fun _ h=>?_) (fun _ h=>?_)
   ·obtain⟨x1,hx,h⟩:=zE h;refine⟨zF (l:=x.L) (zA.sz),vO hx,x1.K,x1.N,x1.S,List.map zA.toD x1.L,x1.From,x1.To,zP (zA.toD_eq x1) hx,?_⟩;obtain⟨q1,g,h⟩:=zE h;refine⟨_,_,_,_,_,_,⟨_,z2z _ _ g⟩,?_⟩;rintro _ rfl;cases h;exact⟨rfl,rfl⟩
   cases h;exact⟨rfl,rfl⟩
  rintro _ rfl;refine zC zq2 h (fun _ h=>?_) (fun _ h=>?_)
  ·refine zZ (e':=(List.length x.L:Int)) (by first|rfl|rw[zq3]) ?_;rintro _ rfl;cases h;exact⟨rfl,rfl⟩
  rintro _ rfl;refine zC zq2 h (fun _ h=>?_) (fun _ h=>?_)
  ·refine zZ (e':=(List.length x.L:Int)) (by first|rfl|rw[zq3]) ?_;rintro _ rfl;cases h;exact⟨rfl,rfl⟩
  obtain⟨q2,g,h⟩:=zE h;refine⟨_,⟨_,z4P _ _ g⟩,?_⟩;cases h;exact⟨rfl,rfl⟩
 cases h;exact⟨rfl,rfl⟩
theorem y5d(m:zA)(locals:List zA)(t:zA)(r:Bool)(h:z4r m locals t=some r):Trip Try.prog 81 [.d (tT m),.d (.sl (List.map zA.toD locals)),.d (tT t)] [] [(nB r)] []:=by
 unfold z4r at h;refine zH 1000 (y5W _ _ _ _ m locals t) ?_;rintro _ rfl;refine zC zq2 h (fun _ h=>?_) (fun _ h=>?_)
 ·rintro _ rfl;refine zC decide_eq_true_iff h (fun _ h=>?_) (fun _ h=>?_)
  ·refine zZ (e':=(List.length locals:Int)) (by first|rfl|rw[zq3]) ?_;rintro _ rfl;cases h;exact⟨rfl,rfl⟩
  cases h;exact⟨rfl,rfl⟩
 rintro _ rfl;refine zC zq2 h (fun _ h=>?_) (fun _ h=>?_)
 ·obtain⟨q1,g,h⟩:=zE h;refine⟨_,⟨_,z4g _ _ _ _ g⟩,?_⟩;cases h;exact⟨rfl,rfl⟩
 rintro _ rfl;refine zC zq2 h (fun _ h=>?_) (fun _ h=>?_)
 ·obtain⟨q2,g,h⟩:=zE h;refine⟨_,⟨_,z4g _ _ _ _ g⟩,?_⟩;cases h;exact⟨rfl,rfl⟩
 rintro _ rfl;refine zC zq2 h (fun _ h=>?_) (fun _ h=>?_)
 ·obtain⟨q3,g,h⟩:=zE h;refine⟨_,⟨_,z4g _ _ _ _ g⟩,?_⟩;cases h;exact⟨rfl,rfl⟩
 rintro _ rfl;refine zC zq2 h (fun _ h=>?_) (fun _ h=>?_)
 ·obtain⟨q4,g,h⟩:=zE h;refine⟨_,⟨_,z4g _ _ _ _ g⟩,?_⟩;cases h;exact⟨rfl,rfl⟩
 rintro _ rfl;cases h;exact⟨rfl,rfl⟩
theorem z1Q(t:zA)(kind:Int)(r:Bool)(h:z2o t kind=some r):Trip Try.prog 84 [.d (tT t),(nI kind)] [] [(nB r)] []:=by
 unfold z2o at h;refine zH 1000 (v0D _ _ _ _ t kind) ?_;rintro _ rfl;refine zC zq2 h (fun _ h=>?_) (fun _ h=>?_)
 ·refine zZ (e':=(List.length t.L:Int)) (by first|rfl|rw[zq3]) ?_;rintro _ rfl;cases h;exact⟨rfl,rfl⟩
 cases h;exact⟨rfl,rfl⟩
theorem z9m(m:zA)(n:Int)(r:zA×Bool)(h:z1w m n=some r):Trip Try.prog 88 [.d (tT m),(nI n)] [] [.d (tT r.1),(nB r.2)] []:=by
 unfold z1w at h;refine zH 1000 (y5S _ _ _ _ m n) ?_;rintro _ rfl;refine zC decide_eq_true_iff h (fun _ h=>?_) (fun _ h=>?_)
 ·cases h;exact⟨rfl,rfl⟩
 obtain⟨hP,h⟩:=jR h;refine⟨by first|exact hP|simpa using hP,?_⟩;rintro _ rfl;refine zZ (e':=(List.length m.L:Int)) (by first|rfl|rw[zq3]) ?_;rintro _ rfl;refine zC decide_eq_true_iff h (fun _ h=>?_) (fun _ h=>?_)
 ·cases h;exact⟨rfl,rfl⟩
 obtain⟨hP,h⟩:=jR h;refine⟨by first|exact hP|simpa using hP,?_⟩;rintro _ rfl;obtain⟨x,hx,h⟩:=zE h;refine⟨zF (l:=m.L) (zA.sz),vO hx,x.K,x.N,x.S,List.map zA.toD x.L,x.From,x.To,zP (zA.toD_eq x) hx,?_⟩;obtain⟨hP,h⟩:=jR h;refine⟨by first|exact hP|simpa using hP,?_⟩;rintro _ rfl;rintro _ rfl;refine zG zq2 h (fun _ h=>?_) (fun _ h=>?_)
 ·refine zZ (e':=(List.length x.L:Int)) (by first|rfl|rw[zq3]) ?_;rintro _ rfl;refine zC decide_eq_true_iff h (fun _ h=>?_) (fun _ h=>?_)
  ·cases h;exact⟨rfl,rfl⟩
  obtain⟨x1,hx,h⟩:=zE h;refine⟨zF (l:=x.L) (zA.sz),vO hx,x1.K,x1.N,x1.S,List.map zA.toD x1.L,x1.From,x1.To,zP (zA.toD_eq x1) hx,?_⟩;rintro _ rfl;refine zG zq2 h (fun _ h=>?_) (fun _ h=>?_)
  ·obtain⟨x2,hx,h⟩:=zE h;refine⟨zF (l:=x.L) (zA.sz),vO hx,x2.K,x2.N,x2.S,List.map zA.toD x2.L,x2.From,x2.To,zP (zA.toD_eq x2) hx,?_⟩;refine zZ (e':=(List.length x2.L:Int)) (by first|rfl|rw[zq3]) ?_;rintro _ rfl;refine zG zq2 h (fun _ h=>?_) (fun _ h=>?_)
   ·obtain⟨x3,hx,h⟩:=zE h;refine⟨zF (l:=x.L) (zA.sz),vO hx,x3.K,x3.N,x3.S,List.map zA.toD x3.L,x3.From,x3.To,zP (zA.toD_eq x3) hx,?_⟩;obtain⟨x4,hx,h⟩:=zE h;refine⟨zF (l:=x3.L) (zA.sz),vO hx,x4.K,x4.N,x4.S,List.map zA.toD x4.L,x4.From,x4.To,zP (zA.toD_eq x4) hx,?_⟩;cases h;exact⟨rfl,rfl⟩
   cases h;exact⟨rfl,rfl⟩
  cases h;exact⟨rfl,rfl⟩
 cases h;exact⟨rfl,rfl⟩
def z5s:(i:z1e)→z2S i→Prop
 |.yG n i t d,r=>Ok (z6r (Trip Try.prog) [(nI r)] []) (kL Try.f87 10) ⟨65,[(2,(nI n)),(4,.ref 4 1 0),(9,.ref 9 1 0),(10,(nI i))],[(4,1,some (.agg (tT t))),(9,1,some (.agg (tT d)))],[],0⟩
theorem z9B:∀i r,jT z0Z i=some r→z5s i r:=by
 refine zX z5m fun g ih i=>?_;cases i with
 |yG n i t d=>
  have v4G:=fun n i t d r h=>ih (.yG n i t d) r h;intro r h;replace h:uN (fun n i t d=>g (z1e.yG n i t d)) n i t d=some r:=h;unfold uN at h;refine jV 1000 (z9S _ _ _ _ n i t d) ?_;refine zZ (e':=(List.length d.L:Int)) (by first|rfl|rw[zq3]) ?_;rintro _ rfl;refine zC decide_eq_true_iff h (fun _ h=>?_) (fun _ h=>?_)
  ·rintro _ rfl;refine zC decide_eq_true_iff h (fun _ h=>?_) (fun _ h=>?_)
   ·obtain⟨x,hx,h⟩:=zE h;refine⟨zF (l:=d.L) (zA.sz),vO hx,x.K,x.N,x.S,List.map zA.toD x.L,x.From,x.To,zP (zA.toD_eq x) hx,?_⟩;rintro _ rfl;refine zC zq2 h (fun _ h=>?_) (fun _ h=>?_)
    ·rintro _ rfl;rintro _ rfl;cases h;exact⟨rfl,rfl⟩
    rintro _ rfl;exact v4G _ _ _ _ _ h
   cases h;exact⟨rfl,rfl⟩
  cases h;exact⟨rfl,rfl⟩
theorem z9I(n i:Int)(t d:zA)(r:Int)(h:yG n i t d=some r):z5s (.yG n i t d) r:=z9B (.yG n i t d) r h
theorem y5c(m t:zA)(n r:Int)(h:z4p m t n=some r):Trip Try.prog 87 [.d (tT m),.d (tT t),(nI n)] [] [(nI r)] []:=by
 unfold z4p at h;refine zH 1000 (y5V _ _ _ _ m t n) ?_;obtain⟨q1,g,h⟩:=zE h;refine⟨_,⟨_,z4g _ _ _ _ g⟩,?_⟩;refine zG Iff.rfl h (fun _ h=>?_) (fun _ h=>?_)
 ·rintro _ rfl;refine zC zq2 h (fun _ h=>?_) (fun _ h=>?_)
  ·obtain⟨q2,g,h⟩:=zE h;refine⟨_,_,_,_,_,_,_,⟨_,z9m _ _ _ g⟩,?_⟩;refine zG Iff.rfl h (fun _ h=>?_) (fun _ h=>?_)
   ·obtain⟨hP,h⟩:=jR h;refine⟨by first|exact hP|simpa using hP,?_⟩;rintro _ rfl;rintro _ rfl;refine zG zq2 h (fun _ h=>?_) (fun _ h=>?_)
    ·cases h;exact⟨rfl,rfl⟩
    cases h;exact⟨rfl,rfl⟩
   cases h;exact⟨rfl,rfl⟩
  obtain⟨x,hx,h⟩:=zE h;refine⟨zF (l:=m.L) (zA.sz),vO hx,x.K,x.N,x.S,List.map zA.toD x.L,x.From,x.To,zP (zA.toD_eq x) hx,?_⟩;exact z9I _ _ _ _ _ h
 cases h;exact⟨rfl,rfl⟩
def y0t:(i:z0u)→z7D i→Prop
 |.vR a b,r=>Trip Try.prog 19 [.d (tT a),.d (tT b)] [] [(nB r)] []
 |.vA i a b,r=>Ok (z7M (Trip Try.prog) [(nB r)] []) (kL Try.f19 4) ⟨53,[(2,.ref 2 1 0),(3,.ref 3 1 0),(5,(nI i))],[(2,1,some (.agg (tT a))),(3,1,some (.agg (tT b)))],[],0⟩
theorem y7c:∀i r,jT z2c i=some r→y0t i r:=by
 refine zX z7A fun g ih i=>?_;cases i with
 |vR a b=>
  have v4w:=fun i a b r h=>ih (.vA i a b) r h;intro r h;replace h:z2l (fun i a b=>g (z0u.vA i a b)) a b=some r:=h;unfold z2l at h;refine zH 1000 (y7U _ _ _ _ a b) ?_;rintro _ rfl;refine zG zq2 h (fun _ h=>?_) (fun _ h=>?_)
  ·rintro _ rfl;refine zG zq2 h (fun _ h=>?_) (fun _ h=>?_)
   ·rintro _ rfl;refine zG zq2 h (fun _ h=>?_) (fun _ h=>?_)
    ·refine zZ (e':=(List.length a.L:Int)) (by first|rfl|rw[zq3]) ?_;refine zZ (e':=(List.length b.L:Int)) (by first|rfl|rw[zq3]) ?_;rintro _ rfl;refine zG zq2 h (fun _ h=>?_) (fun _ h=>?_)
     ·exact v4w _ _ _ _ h
     cases h;exact⟨rfl,rfl⟩
    cases h;exact⟨rfl,rfl⟩
   cases h;exact⟨rfl,rfl⟩
  cases h;exact⟨rfl,rfl⟩
 |vA i a b=>
  have v4v:=fun a b r h=>ih (.vR a b) r h;have v4w:=fun i a b r h=>ih (.vA i a b) r h;intro r h;replace h:gH (fun a b=>g (z0u.vR a b)) (fun i a b=>g (z0u.vA i a b)) i a b=some r:=h;unfold gH at h;refine jV 1000 (y2y _ _ _ _ i a b) ?_;refine zZ (e':=(List.length a.L:Int)) (by first|rfl|rw[zq3]) ?_;rintro _ rfl;refine zC decide_eq_true_iff h (fun _ h=>?_) (fun _ h=>?_)
  ·obtain⟨x,hx,h⟩:=zE h;refine⟨zF (l:=a.L) (zA.sz),vO hx,x.K,x.N,x.S,List.map zA.toD x.L,x.From,x.To,zP (zA.toD_eq x) hx,?_⟩;obtain⟨x1,hx,h⟩:=zE h;refine⟨zF (l:=b.L) (zA.sz),vO hx,x1.K,x1.N,x1.S,List.map zA.toD x1.L,x1.From,x1.To,zP (zA.toD_eq x1) hx,?_⟩;obtain⟨q1,g,h⟩:=zE h;refine⟨_,⟨_,v4v _ _ _ g⟩,?_⟩;refine zG Iff.rfl h (fun _ h=>?_) (fun _ h=>?_)
   ·rintro _ rfl;exact v4w _ _ _ _ h
   cases h;exact⟨rfl,rfl⟩
  cases h;exact⟨rfl,rfl⟩
theorem z2f(a b:zA)(r:Bool)(h:vR a b=some r):y0t (.vR a b) r:=y7c (.vR a b) r h
def z8a:(i:z3c)→z4N i→Prop
 |.vN types parts i,r=>Ok (z8O (Trip Try.prog) [(nB r)] []) (kL Try.f89 4) ⟨40,[(0,.d (.sl (List.map zA.toD types))),(1,.d (.sl (List.map zA.toD parts))),(5,(nI i))],[],[],0⟩
theorem y3s:∀i r,jT z3a i=some r→z8a i r:=by
 refine zX z7W fun g ih i=>?_;cases i with
 |vN types parts i=>
  have v4H:=fun types parts i r h=>ih (.vN types parts i) r h;intro r h;replace h:z0i (fun types parts i=>g (z3c.vN types parts i)) types parts i=some r:=h;unfold z0i at h;refine jV 1000 (y3Y _ _ _ _ types parts i) ?_;refine zZ (e':=(List.length parts:Int)) (by first|rfl|rw[zq3]) ?_;rintro _ rfl;refine zC decide_eq_true_iff h (fun _ h=>?_) (fun _ h=>?_)
  ·obtain⟨x,hx,h⟩:=zE h;refine⟨zF (l:=parts) (zA.sz),vO hx,x.K,x.N,x.S,List.map zA.toD x.L,x.From,x.To,zP (zA.toD_eq x) hx,?_⟩;refine zZ (e':=(List.length x.L:Int)) (by first|rfl|rw[zq3]) ?_;rintro _ rfl;refine zG zq2 h (fun _ h=>?_) (fun _ h=>?_)
   ·obtain⟨x1,hx,h⟩:=zE h;refine⟨zF (l:=types) (zA.sz),vO hx,x1.K,x1.N,x1.S,List.map zA.toD x1.L,x1.From,x1.To,zP (zA.toD_eq x1) hx,?_⟩;obtain⟨x2,hx,h⟩:=zE h;refine⟨zF (l:=parts) (zA.sz),vO hx,x2.K,x2.N,x2.S,List.map zA.toD x2.L,x2.From,x2.To,zP (zA.toD_eq x2) hx,?_⟩;obtain⟨x3,hx,h⟩:=zE h;refine⟨zF (l:=x2.L) (zA.sz),vO hx,x3.K,x3.N,x3.S,List.map zA.toD x3.L,x3.From,x3.To,zP (zA.toD_eq x3) hx,?_⟩;obtain⟨q1,g,h⟩:=zE h;refine⟨_,_,_,_,_,_,⟨_,z2e _ _ g⟩,?_⟩;obtain⟨q2,g,h⟩:=zE h
    refine⟨_,⟨_,z2f _ _ _ g⟩,?_⟩;refine zG Iff.rfl h (fun _ h=>?_) (fun _ h=>?_)
    ·rintro _ rfl;exact v4H _ _ _ _ h
    cases h;exact⟨rfl,rfl⟩
   cases h;exact⟨rfl,rfl⟩
  cases h;exact⟨rfl,rfl⟩
theorem y3A(types parts:List zA)(i:Int)(r:Bool)(h:vN types parts i=some r):z8a (.vN types parts i) r:=y3s (.vN types parts i) r h
theorem y2Q(types parts:List zA)(r:Bool)(h:z7e types parts=some r):Trip Try.prog 89 [.d (.sl (List.map zA.toD types)),.d (.sl (List.map zA.toD parts))] [] [(nB r)] []:=by
 unfold z7e at h;refine zH 1000 (y9D _ _ _ _ types parts) ?_;refine zZ (e':=(List.length types:Int)) (by first|rfl|rw[zq3]) ?_;refine zZ (e':=(List.length parts:Int)) (by first|rfl|rw[zq3]) ?_;rintro _ rfl;refine zG zq2 h (fun _ h=>?_) (fun _ h=>?_)
 ·exact y3A _ _ _ _ h
 cases h;exact⟨rfl,rfl⟩
def z5S:(i:z1J)→z3p i→Prop
 |.yT p i m t o6,r=>Ok (wD (Trip Try.prog) [.d (tT r.1),(nI r.2.1),(nI r.2.2)] []) (kL Try.f83 20) ⟨223,[(2,.d (.sl (List.map zA.toD p))),(3,.ref 3 1 0),(4,.ref 4 1 0),(6,.ref 6 1 0),(12,(nI i))],[(3,1,some (.agg (tT m))),(4,1,some (.agg (tT t))),(6,1,some (.agg (tT o6)))],[],0⟩
theorem y0l:∀i r,jT z1C i=some r→z5S i r:=by
 refine zX z5I fun g ih i=>?_;cases i with
 |yT p i m t o6=>
  have v4K:=fun p i m t o6 r h=>ih (.yT p i m t o6) r h;intro r h;replace h:jH (fun p i m t o6=>g (z1J.yT p i m t o6)) p i m t o6=some r:=h;unfold jH at h;refine jV 1000 (y1m _ _ _ _ p i m t o6) ?_;refine zZ (e':=(List.length p:Int)) (by first|rfl|rw[zq3]) ?_;rintro _ rfl;refine zC decide_eq_true_iff h (fun _ h=>?_) (fun _ h=>?_)
  ·obtain⟨x,hx,h⟩:=zE h;refine⟨zF (l:=p) (zA.sz),vO hx,x.K,x.N,x.S,List.map zA.toD x.L,x.From,x.To,zP (zA.toD_eq x) hx,?_⟩;obtain⟨x1,hx,h⟩:=zE h;refine⟨zF (l:=p) (zA.sz),vO hx,x1.K,x1.N,x1.S,List.map zA.toD x1.L,x1.From,x1.To,zP (zA.toD_eq x1) hx,?_⟩;obtain⟨q1,g,h⟩:=zE h;refine⟨_,⟨_,z2f _ _ _ g⟩,?_⟩;refine zG Iff.rfl h (fun _ h=>?_) (fun _ h=>?_)
   ·rintro _ rfl;exact v4K _ _ _ _ _ _ h
   cases h;exact⟨rfl,rfl⟩
  refine zZ (e':=(List.length p:Int)) (by first|rfl|rw[zq3]) ?_;obtain⟨x2,hx,h⟩:=zE h;refine⟨zF (l:=p) (zA.sz),vO hx,x2.K,x2.N,x2.S,List.map zA.toD x2.L,x2.From,x2.To,zP (zA.toD_eq x2) hx,?_⟩;obtain⟨q2,g,h⟩:=zE h;have hT:=z1r _ _ _ g;simp only[List.map_cons,List.map_nil,tT,tV,tS,zA.toD_eq,Value.toD_eq]at hT;refine⟨_,⟨_,hT⟩,?_⟩;rintro _ rfl;refine zC zq2 h (fun _ h=>?_) (fun _ h=>?_)
  ·cases h;exact⟨rfl,rfl⟩
  cases h;refine⟨?_,rfl⟩;simp only[List.map_cons,List.map_nil,tT,tV,tS,zA.toD_eq,Value.toD_eq]
theorem y0E(p:List zA)(i:Int)(m t o6:zA)(r:zA×Int×Int)(h:yT p i m t o6=some r):z5S (.yT p i m t o6) r:=y0l (.yT p i m t o6) r h
theorem y0D(p:List zA)(m t o6:zA)(r:zA×Int×Int)(h:z3h p m t o6=some r):Ok (wD (Trip Try.prog) [.d (tT r.1),(nI r.2.1),(nI r.2.2)] []) (kJ Try.f83 19) ⟨223,[(2,.d (.sl (List.map zA.toD p))),(3,.ref 3 1 0),(4,.ref 4 1 0),(6,.ref 6 1 0)],[(3,1,some (.agg (tT m))),(4,1,some (.agg (tT t))),(6,1,some (.agg (tT o6)))],[],0⟩:=by
 unfold z3h at h;refine jV 1000 (y1l _ _ _ _ p m t o6) ?_;exact y0E _ _ _ _ _ _ h
theorem z6i(p:List zA)(m t o6:zA)(r:zA×Int×Int)(h:z0P p m t o6=some r):Ok (wD (Trip Try.prog) [.d (tT r.1),(nI r.2.1),(nI r.2.2)] []) (kJ Try.f83 17) ⟨223,[(2,.d (.sl (List.map zA.toD p))),(3,.ref 3 1 0),(4,.ref 4 1 0),(6,.ref 6 1 0)],[(3,1,some (.agg (tT m))),(4,1,some (.agg (tT t))),(6,1,some (.agg (tT o6)))],[],0⟩:=by
 unfold z0P at h;refine jV 1000 (y1k _ _ _ _ p m t o6) ?_;rintro _ rfl;refine zG zq2 h (fun _ h=>?_) (fun _ h=>?_)
 ·exact y0D _ _ _ _ _ h
 cases h;exact⟨rfl,rfl⟩
theorem z6h(p:List zA)(m t o6:zA)(r:zA×Int×Int)(h:z0O p m t o6=some r):Ok (wD (Trip Try.prog) [.d (tT r.1),(nI r.2.1),(nI r.2.2)] []) (kJ Try.f83 15) ⟨223,[(2,.d (.sl (List.map zA.toD p))),(3,.ref 3 1 0),(4,.ref 4 1 0),(6,.ref 6 1 0)],[(3,1,some (.agg (tT m))),(4,1,some (.agg (tT t))),(6,1,some (.agg (tT o6)))],[],0⟩:=by
 unfold z0O at h;refine jV 1000 (y1j _ _ _ _ p m t o6) ?_;rintro _ rfl;refine zC zq2 h (fun _ h=>?_) (fun _ h=>?_)
 ·obtain⟨x,hx,h⟩:=zE h;refine⟨zF (l:=m.L) (zA.sz),vO hx,x.K,x.N,x.S,List.map zA.toD x.L,x.From,x.To,zP (zA.toD_eq x) hx,?_⟩;obtain⟨x1,hx,h⟩:=zE h;refine⟨zF (l:=x.L) (zA.sz),vO hx,x1.K,x1.N,x1.S,List.map zA.toD x1.L,x1.From,x1.To,zP (zA.toD_eq x1) hx,?_⟩;obtain⟨q1,g,h⟩:=zE h;refine⟨_,⟨_,y2Q _ _ _ g⟩,?_⟩;refine zC Iff.rfl h (fun _ h=>?_) (fun _ h=>?_)
  ·obtain⟨x2,hx,h⟩:=zE h;refine⟨zF (l:=m.L) (zA.sz),vO hx,x2.K,x2.N,x2.S,List.map zA.toD x2.L,x2.From,x2.To,zP (zA.toD_eq x2) hx,?_⟩;obtain⟨x3,hx,h⟩:=zE h;refine⟨zF (l:=x2.L) (zA.sz),vO hx,x3.K,x3.N,x3.S,List.map zA.toD x3.L,x3.From,x3.To,zP (zA.toD_eq x3) hx,?_⟩;obtain⟨q2,g,h⟩:=zE h;refine⟨_,_,_,_,_,_,⟨_,z2e _ _ g⟩,?_⟩;cases h;exact⟨rfl,rfl⟩
  exact z6i _ _ _ _ _ h
 exact z6i _ _ _ _ _ h
theorem z3w(p:List zA)(m t o6:zA)(r:zA×Int×Int)(h:z0k p m t o6=some r):Ok (wD (Trip Try.prog) [.d (tT r.1),(nI r.2.1),(nI r.2.2)] []) (kJ Try.f83 13) ⟨223,[(2,.d (.sl (List.map zA.toD p))),(3,.ref 3 1 0),(4,.ref 4 1 0),(6,.ref 6 1 0)],[(3,1,some (.agg (tT m))),(4,1,some (.agg (tT t))),(6,1,some (.agg (tT o6)))],[],0⟩:=by
 unfold z0k at h;refine jV 1000 (y1i _ _ _ _ p m t o6) ?_;rintro _ rfl;refine zC zq2 h (fun _ h=>?_) (fun _ h=>?_)
 ·obtain⟨x,hx,h⟩:=zE h;refine⟨zF (l:=m.L) (zA.sz),vO hx,x.K,x.N,x.S,List.map zA.toD x.L,x.From,x.To,zP (zA.toD_eq x) hx,?_⟩;obtain⟨q1,g,h⟩:=zE h;refine⟨_,⟨_,y2Q _ _ _ g⟩,?_⟩;refine zC Iff.rfl h (fun _ h=>?_) (fun _ h=>?_)
  ·cases h;exact⟨rfl,rfl⟩
  exact z6h _ _ _ _ _ h
 exact z6h _ _ _ _ _ h
theorem z2B(p:List zA)(m t o6:zA)(r:zA×Int×Int)(h:z0d p m t o6=some r):Ok (wD (Trip Try.prog) [.d (tT r.1),(nI r.2.1),(nI r.2.2)] []) (kJ Try.f83 7) ⟨223,[(2,.d (.sl (List.map zA.toD p))),(3,.ref 3 1 0),(4,.ref 4 1 0),(6,.ref 6 1 0)],[(3,1,some (.agg (tT m))),(4,1,some (.agg (tT t))),(6,1,some (.agg (tT o6)))],[],0⟩:=by
 unfold z0d at h;refine jV 1000 (y2D _ _ _ _ p m t o6) ?_;rintro _ rfl;refine zC zq2 h (fun _ h=>?_) (fun _ h=>?_)
 ·obtain⟨x,hx,h⟩:=zE h;refine⟨zF (l:=p) (zA.sz),vO hx,x.K,x.N,x.S,List.map zA.toD x.L,x.From,x.To,zP (zA.toD_eq x) hx,?_⟩;rintro _ rfl;refine zC zq2 h (fun _ h=>?_) (fun _ h=>?_)
  ·obtain⟨x1,hx,h⟩:=zE h;refine⟨zF (l:=p) (zA.sz),vO hx,x1.K,x1.N,x1.S,List.map zA.toD x1.L,x1.From,x1.To,zP (zA.toD_eq x1) hx,?_⟩;refine zZ (e':=(List.length x1.L:Int)) (by first|rfl|rw[zq3]) ?_;rintro _ rfl;refine zC zq2 h (fun _ h=>?_) (fun _ h=>?_)
   ·obtain⟨x2,hx,h⟩:=zE h;refine⟨zF (l:=p) (zA.sz),vO hx,x2.K,x2.N,x2.S,List.map zA.toD x2.L,x2.From,x2.To,zP (zA.toD_eq x2) hx,?_⟩;obtain⟨q1,g,h⟩:=zE h;refine⟨_,⟨_,y5c _ _ _ _ g⟩,?_⟩;rintro _ rfl;refine zC decide_eq_true_iff h (fun _ h=>?_) (fun _ h=>?_)
    ·cases h;exact⟨rfl,rfl⟩
    obtain⟨q2,g,h⟩:=zE h;refine⟨_,_,_,_,_,_,_,⟨_,z9m _ _ _ g⟩,?_⟩;obtain⟨q3,g,h⟩:=zE h;refine⟨_,_,_,_,_,_,⟨_,z2e _ _ g⟩,?_⟩;cases h;exact⟨rfl,rfl⟩
   exact z3w _ _ _ _ _ h
  exact z3w _ _ _ _ _ h
 exact z3w _ _ _ _ _ h
theorem z2A(p:List zA)(m t o6:zA)(r:zA×Int×Int)(h:z0c p m t o6=some r):Ok (wD (Trip Try.prog) [.d (tT r.1),(nI r.2.1),(nI r.2.2)] []) (kJ Try.f83 5) ⟨223,[(2,.d (.sl (List.map zA.toD p))),(3,.ref 3 1 0),(4,.ref 4 1 0),(6,.ref 6 1 0)],[(3,1,some (.agg (tT m))),(4,1,some (.agg (tT t))),(6,1,some (.agg (tT o6)))],[],0⟩:=by
 unfold z0c at h;refine jV 1000 (y2C _ _ _ _ p m t o6) ?_;rintro _ rfl;refine zC zq2 h (fun _ h=>?_) (fun _ h=>?_)
 ·obtain⟨x,hx,h⟩:=zE h;refine⟨zF (l:=p) (zA.sz),vO hx,x.K,x.N,x.S,List.map zA.toD x.L,x.From,x.To,zP (zA.toD_eq x) hx,?_⟩;rintro _ rfl;refine zC zq2 h (fun _ h=>?_) (fun _ h=>?_)
  ·obtain⟨x1,hx,h⟩:=zE h;refine⟨zF (l:=p) (zA.sz),vO hx,x1.K,x1.N,x1.S,List.map zA.toD x1.L,x1.From,x1.To,zP (zA.toD_eq x1) hx,?_⟩;refine zZ (e':=(List.length x1.L:Int)) (by first|rfl|rw[zq3]) ?_;rintro _ rfl;refine zC zq2 h (fun _ h=>?_) (fun _ h=>?_)
   ·obtain⟨x2,hx,h⟩:=zE h;refine⟨zF (l:=p) (zA.sz),vO hx,x2.K,x2.N,x2.S,List.map zA.toD x2.L,x2.From,x2.To,zP (zA.toD_eq x2) hx,?_⟩;obtain⟨q1,g,h⟩:=zE h;refine⟨_,⟨_,z1Q _ _ _ g⟩,?_⟩;refine zC Iff.rfl h (fun _ h=>?_) (fun _ h=>?_)
    ·obtain⟨x3,hx,h⟩:=zE h;refine⟨zF (l:=p) (zA.sz),vO hx,x3.K,x3.N,x3.S,List.map zA.toD x3.L,x3.From,x3.To,zP (zA.toD_eq x3) hx,?_⟩;obtain⟨x4,hx,h⟩:=zE h;refine⟨zF (l:=x3.L) (zA.sz),vO hx,x4.K,x4.N,x4.S,List.map zA.toD x4.L,x4.From,x4.To,zP (zA.toD_eq x4) hx,?_⟩;cases h;exact⟨rfl,rfl⟩
    exact z2B _ _ _ _ _ h
   exact z2B _ _ _ _ _ h
  exact z2B _ _ _ _ _ h
 exact z2B _ _ _ _ _ h
theorem z7s(p:List zA)(m t o6:zA)(r:zA×Int×Int)(h:z1x p m t o6=some r):Ok (wD (Trip Try.prog) [.d (tT r.1),(nI r.2.1),(nI r.2.2)] []) (kJ Try.f83 3) ⟨223,[(2,.d (.sl (List.map zA.toD p))),(3,.ref 3 1 0),(4,.ref 4 1 0),(6,.ref 6 1 0)],[(3,1,some (.agg (tT m))),(4,1,some (.agg (tT t))),(6,1,some (.agg (tT o6)))],[],0⟩:=by
 unfold z1x at h;refine jV 1000 (y2B _ _ _ _ p m t o6) ?_;rintro _ rfl;refine zC zq2 h (fun _ h=>?_) (fun _ h=>?_)
 ·rintro _ rfl;refine zC zq2 h (fun hc227 h=>?_) (fun hc227 h=>?_)
  ·obtain⟨x,hx,h⟩:=zE h;refine⟨zF (l:=p) (zA.sz),vO hx,x.K,x.N,x.S,List.map zA.toD x.L,x.From,x.To,zP (zA.toD_eq x) hx,?_⟩;obtain⟨q1,g,h⟩:=zE h;refine⟨_,⟨_,z1Q _ _ _ g⟩,?_⟩;refine zC Iff.rfl h (fun _ h=>?_) (fun _ h=>?_)
   ·obtain⟨x1,hx,h⟩:=zE h;refine⟨zF (l:=p) (zA.sz),vO hx,x1.K,x1.N,x1.S,List.map zA.toD x1.L,x1.From,x1.To,zP (zA.toD_eq x1) hx,?_⟩;cases h;exact⟨rfl,rfl⟩
   rintro _ rfl;refine yR zq2 (fun e=>absurd (hc227.symm.trans e) (by decide)) ?_;exact z2A _ _ _ _ _ h
  rintro _ rfl;refine zC zq2 h (fun _ h=>?_) (fun _ h=>?_)
  ·obtain⟨x4,hx,h⟩:=zE h;refine⟨zF (l:=p) (zA.sz),vO hx,x4.K,x4.N,x4.S,List.map zA.toD x4.L,x4.From,x4.To,zP (zA.toD_eq x4) hx,?_⟩;obtain⟨q3,g,h⟩:=zE h;refine⟨_,⟨_,z1Q _ _ _ g⟩,?_⟩;refine zC Iff.rfl h (fun _ h=>?_) (fun _ h=>?_)
   ·obtain⟨x5,hx,h⟩:=zE h;refine⟨zF (l:=p) (zA.sz),vO hx,x5.K,x5.N,x5.S,List.map zA.toD x5.L,x5.From,x5.To,zP (zA.toD_eq x5) hx,?_⟩;cases h;exact⟨rfl,rfl⟩
   exact z2A _ _ _ _ _ h
  exact z2A _ _ _ _ _ h
 exact z2A _ _ _ _ _ h
theorem z1S(op:Int)(ints:Bool)(o6 r:zA)(h:z0l op ints o6=some r):Ok (z0J (Trip Try.prog) [.d (tT r)] []) (kJ Try.f86 7) ⟨70,[(0,(nI op)),(6,.ref 6 1 0),(7,(nB ints))],[(6,1,some (.agg (tT o6)))],[],0⟩:=by
 unfold z0l at h;refine jV 1000 (y4e _ _ _ _ op ints o6) ?_;rintro _ rfl;refine zC decide_eq_true_iff h (fun _ h=>?_) (fun _ h=>?_)
 ·refine zC Iff.rfl h (fun _ h=>?_) (fun _ h=>?_)
  ·obtain⟨q1,g,h⟩:=zE h;refine⟨_,_,_,_,_,_,⟨_,z8K _ g⟩,?_⟩;cases h;exact⟨rfl,rfl⟩
  cases h;exact⟨rfl,rfl⟩
 cases h;exact⟨rfl,rfl⟩
theorem z1R(op:Int)(ints:Bool)(o6 r:zA)(h:jI op ints o6=some r):Ok (z0J (Trip Try.prog) [.d (tT r)] []) (kJ Try.f86 5) ⟨70,[(0,(nI op)),(6,.ref 6 1 0),(7,(nB ints))],[(6,1,some (.agg (tT o6)))],[],0⟩:=by
 unfold jI at h;refine jV 1000 (y4d _ _ _ _ op ints o6) ?_;rintro _ rfl;refine zC zq2 h (fun _ h=>?_) (fun _ h=>?_)
 ·refine zC Iff.rfl h (fun _ h=>?_) (fun _ h=>?_)
  ·obtain⟨q1,g,h⟩:=zE h;refine⟨_,_,_,_,_,_,⟨_,jB _ g⟩,?_⟩;cases h;exact⟨rfl,rfl⟩
  exact z1S _ _ _ _ h
 rintro _ rfl;refine zC zq2 h (fun _ h=>?_) (fun _ h=>?_)
 ·refine zC Iff.rfl h (fun _ h=>?_) (fun _ h=>?_)
  ·obtain⟨q2,g,h⟩:=zE h;refine⟨_,_,_,_,_,_,⟨_,jB _ g⟩,?_⟩;cases h;exact⟨rfl,rfl⟩
  exact z1S _ _ _ _ h
 rintro _ rfl;refine zC zq2 h (fun _ h=>?_) (fun _ h=>?_)
 ·refine zC Iff.rfl h (fun _ h=>?_) (fun _ h=>?_)
  ·obtain⟨q3,g,h⟩:=zE h;refine⟨_,_,_,_,_,_,⟨_,jB _ g⟩,?_⟩;cases h;exact⟨rfl,rfl⟩
  exact z1S _ _ _ _ h
 rintro _ rfl;refine zC zq2 h (fun _ h=>?_) (fun _ h=>?_)
 ·refine zC Iff.rfl h (fun _ h=>?_) (fun _ h=>?_)
  ·obtain⟨q4,g,h⟩:=zE h;refine⟨_,_,_,_,_,_,⟨_,jB _ g⟩,?_⟩;cases h;exact⟨rfl,rfl⟩
  exact z1S _ _ _ _ h
 exact z1S _ _ _ _ h
theorem z8d(op:Int)(ints bools:Bool)(o6 r:zA)(h:z2q op ints bools o6=some r):Ok (z0J (Trip Try.prog) [.d (tT r)] []) (kJ Try.f86 3) ⟨70,[(0,(nI op)),(6,.ref 6 1 0),(7,(nB ints)),(8,(nB bools))],[(6,1,some (.agg (tT o6)))],[],0⟩:=by
 unfold z2q at h;refine jV 1000 (y4c _ _ _ _ op ints bools o6) ?_;rintro _ rfl;refine zC zq2 h (fun hc241 h=>?_) (fun hc241 h=>?_)
 ·refine zC Iff.rfl h (fun _ h=>?_) (fun _ h=>?_)
  ·obtain⟨q1,g,h⟩:=zE h;refine⟨_,_,_,_,_,_,⟨_,jB _ g⟩,?_⟩;cases h;exact⟨rfl,rfl⟩
  rintro _ rfl;refine yR zq2 (fun e=>absurd (hc241.symm.trans e) (by decide)) ?_;rintro _ rfl;refine yR zq2 (fun e=>absurd (hc241.symm.trans e) (by decide)) ?_;exact z1R _ _ _ _ h
 rintro _ rfl;refine zC zq2 h (fun hc243 h=>?_) (fun hc243 h=>?_)
 ·refine zC Iff.rfl h (fun _ h=>?_) (fun _ h=>?_)
  ·obtain⟨q6,g,h⟩:=zE h;refine⟨_,_,_,_,_,_,⟨_,jB _ g⟩,?_⟩;cases h;exact⟨rfl,rfl⟩
  rintro _ rfl;refine yR zq2 (fun e=>absurd (hc243.symm.trans e) (by decide)) ?_;rintro _ rfl;refine yR zq2 (fun e=>absurd (hc243.symm.trans e) (by decide)) ?_;exact z1R _ _ _ _ h
 rintro _ rfl;refine zC zq2 h (fun _ h=>?_) (fun _ h=>?_)
 ·refine zC Iff.rfl h (fun _ h=>?_) (fun _ h=>?_)
  ·obtain⟨q11,g,h⟩:=zE h;refine⟨_,_,_,_,_,_,⟨_,jB _ g⟩,?_⟩;cases h;exact⟨rfl,rfl⟩
  refine zC Iff.rfl h (fun _ h=>?_) (fun _ h=>?_)
  ·obtain⟨q12,g,h⟩:=zE h;refine⟨_,_,_,_,_,_,⟨_,jB _ g⟩,?_⟩;cases h;exact⟨rfl,rfl⟩
  exact z1R _ _ _ _ h
 rintro _ rfl;refine zC zq2 h (fun _ h=>?_) (fun _ h=>?_)
 ·refine zC Iff.rfl h (fun _ h=>?_) (fun _ h=>?_)
  ·obtain⟨q13,g,h⟩:=zE h;refine⟨_,_,_,_,_,_,⟨_,jB _ g⟩,?_⟩;cases h;exact⟨rfl,rfl⟩
  refine zC Iff.rfl h (fun _ h=>?_) (fun _ h=>?_)
  ·obtain⟨q14,g,h⟩:=zE h;refine⟨_,_,_,_,_,_,⟨_,jB _ g⟩,?_⟩;cases h;exact⟨rfl,rfl⟩
  exact z1R _ _ _ _ h
 exact z1R _ _ _ _ h
theorem z8c(op:Int)(ints:Bool)(a b o6 r:zA)(h:z2p op ints a b o6=some r):Ok (z0J (Trip Try.prog) [.d (tT r)] []) (kJ Try.f86 2) ⟨70,[(0,(nI op)),(4,.ref 4 1 0),(5,.ref 5 1 0),(6,.ref 6 1 0),(7,(nB ints))],[(4,1,some (.agg (tT a))),(5,1,some (.agg (tT b))),(6,1,some (.agg (tT o6)))],[],0⟩:=by
 unfold z2p at h;refine jV 1000 (y4b _ _ _ _ op ints a b o6) ?_;obtain⟨q1,g,h⟩:=zE h;refine⟨_,⟨_,z1Q _ _ _ g⟩,?_⟩;refine zC Iff.rfl h (fun _ h=>?_) (fun _ h=>?_)
 ·obtain⟨q2,g,h⟩:=zE h;refine⟨_,⟨_,z1Q _ _ _ g⟩,?_⟩;exact z8d _ _ _ _ _ h
 exact z8d _ _ _ _ _ h
theorem y2R(op:Int)(a b r:zA)(h:z7f op a b=some r):Trip Try.prog 86 [(nI op),.d (tT a),.d (tT b)] [] [.d (tT r)] []:=by
 unfold z7f at h;refine zH 1000 (y9G _ _ _ _ op a b) ?_;obtain⟨q1,g,h⟩:=zE h;refine⟨_,⟨_,z1Q _ _ _ g⟩,?_⟩;refine zC Iff.rfl h (fun _ h=>?_) (fun _ h=>?_)
 ·obtain⟨q2,g,h⟩:=zE h;refine⟨_,⟨_,z1Q _ _ _ g⟩,?_⟩;exact z8c _ _ _ _ _ _ h
 exact z8c _ _ _ _ _ _ h
theorem y7m(m t:zA)(p:List zA)(r:zA×Int×Int)(h:z6Q m t p=some r):Trip Try.prog 83 [.d (tT m),.d (tT t),.d (.sl (List.map zA.toD p))] [] [.d (tT r.1),(nI r.2.1),(nI r.2.2)] []:=by
 unfold z6Q at h;refine zH 1000 (y7Y _ _ _ _ m t p) ?_;rintro _ rfl;refine zC zq2 h (fun _ h=>?_) (fun _ h=>?_)
 ·obtain⟨x,hx,h⟩:=zE h;refine⟨zF (l:=p) (zA.sz),vO hx,x.K,x.N,x.S,List.map zA.toD x.L,x.From,x.To,zP (zA.toD_eq x) hx,?_⟩;obtain⟨x1,hx,h⟩:=zE h;refine⟨zF (l:=p) (zA.sz),vO hx,x1.K,x1.N,x1.S,List.map zA.toD x1.L,x1.From,x1.To,zP (zA.toD_eq x1) hx,?_⟩;obtain⟨q1,g,h⟩:=zE h;refine⟨_,_,_,_,_,_,⟨_,y2R _ _ _ _ g⟩,?_⟩;rintro _ rfl;refine zG zq2 h (fun _ h=>?_) (fun _ h=>?_)
  ·exact z7s _ _ _ _ _ h
  obtain⟨x2,hx,h⟩:=zE h;refine⟨zF (l:=p) (zA.sz),vO hx,x2.K,x2.N,x2.S,List.map zA.toD x2.L,x2.From,x2.To,zP (zA.toD_eq x2) hx,?_⟩;obtain⟨x3,hx,h⟩:=zE h;refine⟨zF (l:=p) (zA.sz),vO hx,x3.K,x3.N,x3.S,List.map zA.toD x3.L,x3.From,x3.To,zP (zA.toD_eq x3) hx,?_⟩;obtain⟨q2,g,h⟩:=zE h;refine⟨_,_,_,_,_,_,⟨_,y2R _ _ _ _ g⟩,?_⟩;cases h;exact⟨rfl,rfl⟩
 exact z7s _ _ _ _ _ h
theorem y3B(t:zA)(r:Bool)(h:z3J t=some r):Trip Try.prog 79 [.d (tT t)] [] [(nB r)] []:=by
 unfold z3J at h;refine zH 1000 (y4a _ _ _ _ t) ?_;refine zZ (e':=(List.length t.L:Int)) (by first|rfl|rw[zq3]) ?_;rintro _ rfl;refine zC zq2 h (fun _ h=>?_) (fun _ h=>?_)
 ·rintro _ rfl;cases h;exact⟨rfl,rfl⟩
 rintro _ rfl;refine zC zq2 h (fun _ h=>?_) (fun _ h=>?_)
 ·rintro _ rfl;cases h;exact⟨rfl,rfl⟩
 rintro _ rfl;refine zC zq2 h (fun _ h=>?_) (fun _ h=>?_)
 ·rintro _ rfl;cases h;exact⟨rfl,rfl⟩
 rintro _ rfl;refine zC zq2 h (fun _ h=>?_) (fun _ h=>?_)
 ·rintro _ rfl;cases h;exact⟨rfl,rfl⟩
 rintro _ rfl;refine zC zq2 h (fun _ h=>?_) (fun _ h=>?_)
 ·rintro _ rfl;cases h;exact⟨rfl,rfl⟩
 rintro _ rfl;refine zC zq2 h (fun _ h=>?_) (fun _ h=>?_)
 ·rintro _ rfl;refine zC zq2 h (fun _ h=>?_) (fun _ h=>?_)
  ·rintro _ rfl;refine zC zq2 h (fun _ h=>?_) (fun _ h=>?_)
   ·cases h;exact⟨rfl,rfl⟩
   rintro _ rfl;cases h;exact⟨rfl,rfl⟩
  cases h;exact⟨rfl,rfl⟩
 rintro _ rfl;refine zC zq2 h (fun _ h=>?_) (fun _ h=>?_)
 ·rintro _ rfl;refine zC zq2 h (fun _ h=>?_) (fun _ h=>?_)
  ·rintro _ rfl;refine zC zq2 h (fun _ h=>?_) (fun _ h=>?_)
   ·cases h;exact⟨rfl,rfl⟩
   rintro _ rfl;cases h;exact⟨rfl,rfl⟩
  cases h;exact⟨rfl,rfl⟩
 rintro _ rfl;refine zC zq2 h (fun _ h=>?_) (fun _ h=>?_)
 ·rintro _ rfl;refine zC zq2 h (fun _ h=>?_) (fun _ h=>?_)
  ·rintro _ rfl;refine zC decide_eq_true_iff h (fun _ h=>?_) (fun _ h=>?_)
   ·rintro _ rfl;cases h;exact⟨rfl,rfl⟩
   cases h;exact⟨rfl,rfl⟩
  cases h;exact⟨rfl,rfl⟩
 rintro _ rfl;refine zC zq2 h (fun _ h=>?_) (fun _ h=>?_)
 ·rintro _ rfl;cases h;exact⟨rfl,rfl⟩
 rintro _ rfl;refine zC zq2 h (fun _ h=>?_) (fun _ h=>?_)
 ·rintro _ rfl;cases h;exact⟨rfl,rfl⟩
 rintro _ rfl;refine zC zq2 h (fun _ h=>?_) (fun _ h=>?_)
 ·rintro _ rfl;cases h;exact⟨rfl,rfl⟩
 rintro _ rfl;refine zC zq2 h (fun _ h=>?_) (fun _ h=>?_)
 ·rintro _ rfl;cases h;exact⟨rfl,rfl⟩
 rintro _ rfl;refine zC zq2 h (fun _ h=>?_) (fun _ h=>?_)
 ·cases h;exact⟨rfl,rfl⟩
 rintro _ rfl;cases h;exact⟨rfl,rfl⟩
def y4W:(i:z2G)→y0y i→Prop
 |.wN m locals t,r=>Trip Try.prog 74 [.d (tT m),.d (.sl (List.map zA.toD locals)),.d (tT t)] [] [.d (.agg [(.int .i64 r.Type_.K),(.int .i64 r.Type_.N),(.str r.Type_.S),(.sl (List.map zA.toD r.Type_.L)),(.int .i64 r.Type_.From),(.int .i64 r.Type_.To),(.int .i64 r.Form.K),(.int .i64 r.Form.N),(.str r.Form.S),(.sl (List.map zA.toD r.Form.L)),(.int .i64 r.Form.From),(.int .i64 r.Form.To),(.int .i64 r.At),(.int .i64 r.E)])] []
 |.vH locals types forms i m t o6,r=>Ok (y0Y (Trip Try.prog) [.d (.agg [(.int .i64 r.Type_.K),(.int .i64 r.Type_.N),(.str r.Type_.S),(.sl (List.map zA.toD r.Type_.L)),(.int .i64 r.Type_.From),(.int .i64 r.Type_.To),(.int .i64 r.Form.K),(.int .i64 r.Form.N),(.str r.Form.S),(.sl (List.map zA.toD r.Form.L)),(.int .i64 r.Form.From),(.int .i64 r.Form.To),(.int .i64 r.At),(.int .i64 r.E)])] []) (kL Try.f74 10) ⟨96,[(1,.d (.sl (List.map zA.toD locals))),(3,.ref 3 1 0),(5,.ref 5 1 0),(6,.ref 6 1 0),(7,.right 45 1 6 (List.map zA.toD types)),(8,.right 46 1 6 (List.map zA.toD forms)),(9,(nI i))],[(3,1,some (.agg (tT m))),(5,1,some (.agg (tT t))),(6,1,some (.agg (.agg [(.int .i64 o6.Type_.K),(.int .i64 o6.Type_.N),(.str o6.Type_.S),(.sl (List.map zA.toD o6.Type_.L)),(.int .i64 o6.Type_.From),(.int .i64 o6.Type_.To),(.int .i64 o6.Form.K),(.int .i64 o6.Form.N),(.str o6.Form.S),(.sl (List.map zA.toD o6.Form.L)),(.int .i64 o6.Form.From),(.int .i64 o6.Form.To),(.int .i64 o6.At),(.int .i64 o6.E)]))),(45,1,some (.tok 6 (List.length (List.map zA.toD types)))),(46,1,some (.tok 6 (List.length (List.map zA.toD forms))))],[],0⟩
theorem v0r:∀i r,jT z4f i=some r→y4W i r:=by
 refine zX y0i fun g ih i=>?_;cases i with
 |wN m locals t=>
  have v4J:=fun locals types forms i m t o6 r h=>ih (.vH locals types forms i m t o6) r h;intro r h;replace h:z4s (fun locals types forms i m t o6=>g (z2G.vH locals types forms i m t o6)) m locals t=some r:=h;unfold z4s at h;refine zH 1000 (v0E _ _ _ _ m locals t) ?_;obtain⟨q1,g,h⟩:=zE h;refine⟨_,⟨_,y3B _ _ g⟩,?_⟩;refine zG Iff.rfl h (fun _ h=>?_) (fun _ h=>?_)
  ·obtain⟨q3,g,h⟩:=zE h;refine⟨_,⟨_,y5d _ _ _ _ g⟩,?_⟩;refine zG Iff.rfl h (fun _ h=>?_) (fun _ h=>?_)
   ·refine zZ (e':=(List.length t.L:Int)) (by first|rfl|rw[zq3]) ?_;rintro _ rfl;refine zC zq2 h (fun _ h=>?_) (fun _ h=>?_)
    ·rintro _ rfl;refine zG zq2 h (fun _ h=>?_) (fun _ h=>?_)
     ·exact v4J _ _ _ _ _ _ _ _ h
     obtain⟨q5,g,h⟩:=zE h;refine⟨_,_,_,_,_,_,⟨_,y5b _ _ _ _ g⟩,?_⟩;cases h;exact⟨rfl,rfl⟩
    exact v4J _ _ _ _ _ _ _ _ h
   obtain⟨q4,g,h⟩:=zE h;refine⟨_,_,_,_,_,_,_,_,_,_,_,_,_,_,⟨_,z8J _ _ _ g⟩,?_⟩;cases h;exact⟨rfl,rfl⟩
  obtain⟨q2,g,h⟩:=zE h;refine⟨_,_,_,_,_,_,_,_,_,_,_,_,_,_,⟨_,z8J _ _ _ g⟩,?_⟩;cases h;exact⟨rfl,rfl⟩
 |vH locals types forms i m t o6=>
  have v4I:=fun m locals t r h=>ih (.wN m locals t) r h;have v4J:=fun locals types forms i m t o6 r h=>ih (.vH locals types forms i m t o6) r h;intro r h;replace h:z0j (fun m locals t=>g (z2G.wN m locals t)) (fun locals types forms i m t o6=>g (z2G.vH locals types forms i m t o6)) locals types forms i m t o6=some r:=h;unfold z0j at h;refine jV 1000 (y3Z _ _ _ _ locals types forms i m t o6) ?_;refine zZ (e':=(List.length t.L:Int)) (by first|rfl|rw[zq3]) ?_;rintro _ rfl
  refine zC decide_eq_true_iff h (fun _ h=>?_) (fun _ h=>?_)
  ·obtain⟨x,hx,h⟩:=zE h;refine⟨zF (l:=t.L) (zA.sz),vO hx,x.K,x.N,x.S,List.map zA.toD x.L,x.From,x.To,zP (zA.toD_eq x) hx,?_⟩;obtain⟨q1,g,h⟩:=zE h;refine⟨_,_,_,_,_,_,_,_,_,_,_,_,_,_,⟨_,v4I _ _ _ _ g⟩,?_⟩;rintro _ rfl;refine zG zq2 h (fun _ h=>?_) (fun _ h=>?_)
   ·refine⟨by simp[zD,D.cells],?_⟩;refine⟨by first|rfl|decide|simp only[zq3,List.length_cons,List.length_nil,List.map_append,List.length_append],?_⟩;obtain⟨hP,h⟩:=jR h;refine⟨by first|exact hP|simpa using hP,?_⟩;refine zZ (e':=List.map zA.toD (types++[q1.Type_])) (by first|rfl|simp only[List.map_append,List.map_cons,List.map_nil,List.map_take,List.map_drop,List.map_set,List.map_replicate,zq3,zA.toD_eq]) ?_;refine⟨by simp[zD,D.cells],?_⟩
    refine⟨by first|rfl|decide|simp only[zq3,List.length_cons,List.length_nil,List.map_append,List.length_append],?_⟩;obtain⟨hP,h⟩:=jR h;refine⟨by first|exact hP|simpa using hP,?_⟩;refine zZ (e':=List.map zA.toD (forms++[q1.Form])) (by first|rfl|simp only[List.map_append,List.map_cons,List.map_nil,List.map_take,List.map_drop,List.map_set,List.map_replicate,zq3,zA.toD_eq]) ?_;rintro _ rfl;exact v4J _ _ _ _ _ _ _ _ h
   cases h;exact⟨rfl,rfl⟩
  obtain⟨q2,g,h⟩:=zE h;refine⟨_,_,_,_,_,_,_,_,⟨_,y7m _ _ _ _ g⟩,?_⟩;rintro _ rfl;refine zG zq2 h (fun _ h=>?_) (fun _ h=>?_)
  ·cases h;exact⟨rfl,rfl⟩
  obtain⟨q3,g,h⟩:=zE h;refine⟨_,_,_,_,_,_,_,_,_,_,_,_,_,_,⟨_,z8J _ _ _ g⟩,?_⟩;cases h;exact⟨rfl,rfl⟩
theorem z2H(m:zA)(locals:List zA)(t:zA)(r:Ref15Got)(h:wN m locals t=some r):y4W (.wN m locals t) r:=v0r (.wN m locals t) r h
theorem y3C(m:zA)(locals:List zA)(t:zA)(r:List zA)(h:z0m m locals t=some r):Trip Try.prog 68 [.d (tT m),.d (.sl (List.map zA.toD locals)),.d (tT t)] [] [.d (.sl (List.map zA.toD r))] []:=by
 unfold z0m at h;refine zH 1000 (y4f _ _ _ _ m locals t) ?_;rintro _ rfl;refine zC zq2 h (fun hc281 h=>?_) (fun hc281 h=>?_)
 ·refine zZ (e':=(List.length t.L:Int)) (by first|rfl|rw[zq3]) ?_;rintro _ rfl;refine zC zq2 h (fun _ h=>?_) (fun _ h=>?_)
  ·refine⟨zF (l:=locals) (zA.sz),?_⟩;refine⟨by first|rfl|decide|simp only[zq3,List.length_cons,List.length_nil,List.map_append,List.length_append],?_⟩;obtain⟨hP,h⟩:=jR h;refine⟨by first|exact hP|simpa using hP,?_⟩;refine zZ (e':=List.map zA.toD (([]:List zA)++locals)) (by first|rfl|simp only[List.map_append,List.map_cons,List.map_nil,List.map_take,List.map_drop,List.map_set,List.map_replicate,zq3,zA.toD_eq]) ?_;obtain⟨x,hx,h⟩:=zE h
   refine⟨zF (l:=t.L) (zA.sz),vO hx,x.K,x.N,x.S,List.map zA.toD x.L,x.From,x.To,zP (zA.toD_eq x) hx,?_⟩;obtain⟨q1,g,h⟩:=zE h;refine⟨_,_,_,_,_,_,_,_,_,_,_,_,_,_,⟨_,z2H _ _ _ _ g⟩,?_⟩;refine⟨by simp[zD,D.cells],?_⟩;refine⟨by first|rfl|decide|simp only[zq3,List.length_cons,List.length_nil,List.map_append,List.length_append],?_⟩;obtain⟨hP,h⟩:=jR h;refine⟨by first|exact hP|simpa using hP,?_⟩
   refine zZ (e':=List.map zA.toD ((([]:List zA)++locals)++[q1.Type_])) (by first|rfl|simp only[List.map_append,List.map_cons,List.map_nil,List.map_take,List.map_drop,List.map_set,List.map_replicate,zq3,zA.toD_eq]) ?_;cases h;exact⟨rfl,rfl⟩
  rintro _ rfl;refine yR zq2 (fun e=>absurd (hc281.symm.trans e) (by decide)) ?_;cases h;exact⟨rfl,rfl⟩
 rintro _ rfl;refine zC zq2 h (fun _ h=>?_) (fun _ h=>?_)
 ·refine zZ (e':=(List.length t.L:Int)) (by first|rfl|rw[zq3]) ?_;rintro _ rfl;refine zC zq2 h (fun _ h=>?_) (fun _ h=>?_)
  ·refine⟨zF (l:=locals) (zA.sz),?_⟩;refine⟨by first|rfl|decide|simp only[zq3,List.length_cons,List.length_nil,List.map_append,List.length_append],?_⟩;obtain⟨hP,h⟩:=jR h;refine⟨by first|exact hP|simpa using hP,?_⟩;refine zZ (e':=List.map zA.toD (([]:List zA)++locals)) (by first|rfl|simp only[List.map_append,List.map_cons,List.map_nil,List.map_take,List.map_drop,List.map_set,List.map_replicate,zq3,zA.toD_eq]) ?_;obtain⟨x2,hx,h⟩:=zE h
   refine⟨zF (l:=t.L) (zA.sz),vO hx,x2.K,x2.N,x2.S,List.map zA.toD x2.L,x2.From,x2.To,zP (zA.toD_eq x2) hx,?_⟩;refine⟨by simp[zD,D.cells],?_⟩;refine⟨by first|rfl|decide|simp only[zq3,List.length_cons,List.length_nil,List.map_append,List.length_append],?_⟩;obtain⟨hP,h⟩:=jR h;refine⟨by first|exact hP|simpa using hP,?_⟩
   refine zZ (e':=List.map zA.toD ((([]:List zA)++locals)++[x2])) (by first|rfl|simp only[List.map_append,List.map_cons,List.map_nil,List.map_take,List.map_drop,List.map_set,List.map_replicate,zq3,zA.toD_eq]) ?_;cases h;exact⟨rfl,rfl⟩
  cases h;exact⟨rfl,rfl⟩
 cases h;exact⟨rfl,rfl⟩
theorem z9o(k:Int)(r:Int×Int)(h:wR k=some r):Trip Try.prog 75 [(nI k)] [] [(nI r.1),(nI r.2)] []:=by
 unfold wR at h;refine zH 1000 (y5Z _ _ _ _ k) ?_;rintro _ rfl;refine zC zq2 h (fun _ h=>?_) (fun _ h=>?_)
 ·cases h;exact⟨rfl,rfl⟩
 rintro _ rfl;refine zC zq2 h (fun _ h=>?_) (fun _ h=>?_)
 ·cases h;exact⟨rfl,rfl⟩
 rintro _ rfl;refine zC zq2 h (fun _ h=>?_) (fun _ h=>?_)
 ·cases h;exact⟨rfl,rfl⟩
 rintro _ rfl;refine zC zq2 h (fun _ h=>?_) (fun _ h=>?_)
 ·cases h;exact⟨rfl,rfl⟩
 rintro _ rfl;refine zC zq2 h (fun _ h=>?_) (fun _ h=>?_)
 ·cases h;exact⟨rfl,rfl⟩
 rintro _ rfl;refine zC zq2 h (fun _ h=>?_) (fun _ h=>?_)
 ·cases h;exact⟨rfl,rfl⟩
 rintro _ rfl;refine zC zq2 h (fun _ h=>?_) (fun _ h=>?_)
 ·cases h;exact⟨rfl,rfl⟩
 rintro _ rfl;refine zC zq2 h (fun _ h=>?_) (fun _ h=>?_)
 ·cases h;exact⟨rfl,rfl⟩
 rintro _ rfl;refine zC zq2 h (fun _ h=>?_) (fun _ h=>?_)
 ·cases h;exact⟨rfl,rfl⟩
 cases h;exact⟨rfl,rfl⟩
def z5T:(i:z1K)→z3q i→Prop
 |.yD n i t,r=>Ok (z6u (Trip Try.prog) [(nB r)] []) (kL Try.f71 7) ⟨35,[(1,.ref 1 1 0),(3,(nI n)),(5,(nI i))],[(1,1,some (.agg (tT t)))],[],0⟩
theorem y0m:∀i r,jT z1D i=some r→z5T i r:=by
 refine zX z5J fun g ih i=>?_;cases i with
 |yD n i t=>
  have v4S:=fun n i t r h=>ih (.yD n i t) r h;intro r h;replace h:jK (fun n i t=>g (z1K.yD n i t)) n i t=some r:=h;unfold jK at h;refine jV 1000 (y1o _ _ _ _ n i t) ?_;rintro _ rfl;refine zC decide_eq_true_iff h (fun _ h=>?_) (fun _ h=>?_)
  ·obtain⟨x,hx,h⟩:=zE h;refine⟨zF (l:=t.L) (zA.sz),vO hx,x.K,x.N,x.S,List.map zA.toD x.L,x.From,x.To,zP (zA.toD_eq x) hx,?_⟩;rintro _ rfl;refine zG zq2 h (fun _ h=>?_) (fun _ h=>?_)
   ·rintro _ rfl;exact v4S _ _ _ _ h
   cases h;exact⟨rfl,rfl⟩
  cases h;exact⟨rfl,rfl⟩
theorem y0F(n i:Int)(t:zA)(r:Bool)(h:yD n i t=some r):z5T (.yD n i t) r:=y0m (.yD n i t) r h
theorem y5g(t:zA)(r:Bool)(h:z4w t=some r):Trip Try.prog 71 [.d (tT t)] [] [(nB r)] []:=by
 unfold z4w at h;refine zH 1000 (y6b _ _ _ _ t) ?_;rintro _ rfl;refine zC zq2 h (fun _ h=>?_) (fun _ h=>?_)
 ·cases h;exact⟨rfl,rfl⟩
 obtain⟨q1,g,h⟩:=zE h;refine⟨_,_,⟨_,z9o _ _ g⟩,?_⟩;refine zZ (e':=(List.length t.L:Int)) (by first|rfl|rw[zq3]) ?_;rintro _ rfl;refine zG zq2 h (fun _ h=>?_) (fun _ h=>?_)
 ·rintro _ rfl;exact y0F _ _ _ _ h
 cases h;exact⟨rfl,rfl⟩
def y0v:(i:z4K)→z7F i→Prop
 |.wI t,r=>Trip Try.prog 73 [.d (tT t)] [] [.d (tT r)] []
theorem y7e:∀i r,jT z4J i=some r→y0v i r:=by
 refine zX y0h fun g ih i=>?_;cases i with
 |wI t=>
  have v4F:=fun t r h=>ih (.wI t) r h;intro r h;replace h:z2n (fun t=>g (z4K.wI t)) t=some r:=h;unfold z2n at h;refine zH 1000 (y7W _ _ _ _ t) ?_;rintro _ rfl;refine zC zq2 h (fun _ h=>?_) (fun _ h=>?_)
  ·refine zZ (e':=(List.length t.L:Int)) (by first|rfl|rw[zq3]) ?_;rintro _ rfl;refine zC decide_eq_true_iff h (fun _ h=>?_) (fun _ h=>?_)
   ·obtain⟨x,hx,h⟩:=zE h;refine⟨zF (l:=t.L) (zA.sz),vO hx,x.K,x.N,x.S,List.map zA.toD x.L,x.From,x.To,zP (zA.toD_eq x) hx,?_⟩;obtain⟨q1,g,h⟩:=zE h;refine⟨_,_,_,_,_,_,⟨_,v4F _ _ g⟩,?_⟩;cases h;exact⟨rfl,rfl⟩
   cases h;exact⟨rfl,rfl⟩
  rintro _ rfl;refine zC zq2 h (fun _ h=>?_) (fun _ h=>?_)
  ·refine zZ (e':=(List.length t.L:Int)) (by first|rfl|rw[zq3]) ?_;rintro _ rfl;refine zC decide_eq_true_iff h (fun _ h=>?_) (fun _ h=>?_)
   ·obtain⟨x1,hx,h⟩:=zE h;refine⟨zF (l:=t.L) (zA.sz),vO hx,x1.K,x1.N,x1.S,List.map zA.toD x1.L,x1.From,x1.To,zP (zA.toD_eq x1) hx,?_⟩;obtain⟨q2,g,h⟩:=zE h;refine⟨_,_,_,_,_,_,⟨_,v4F _ _ g⟩,?_⟩;cases h;exact⟨rfl,rfl⟩
   cases h;exact⟨rfl,rfl⟩
  cases h;exact⟨rfl,rfl⟩
theorem y7l(t r:zA)(h:wI t=some r):y0v (.wI t) r:=y7e (.wI t) r h
theorem z1i(x:Ref15Got)(r:Ref16Got)(h:jZ x=some r):Trip Try.prog 78 [.d (.agg [(.int .i64 x.Type_.K),(.int .i64 x.Type_.N),(.str x.Type_.S),(.sl (List.map zA.toD x.Type_.L)),(.int .i64 x.Type_.From),(.int .i64 x.Type_.To),(.int .i64 x.Form.K),(.int .i64 x.Form.N),(.str x.Form.S),(.sl (List.map zA.toD x.Form.L)),(.int .i64 x.Form.From),(.int .i64 x.Form.To),(.int .i64 x.At),(.int .i64 x.E)])] [] [.d (.agg [(.int .i64 r.T_.K),(.int .i64 r.T_.N),(.str r.T_.S),(.sl (List.map zA.toD r.T_.L)),(.int .i64 r.T_.From),(.int .i64 r.T_.To),(.int .i64 r.At),(.int .i64 r.E)])] []:=by
 unfold jZ at h;refine zH 1000 (y8a _ _ _ _ x) ?_;cases h;exact⟨rfl,rfl⟩
theorem z4Q(m:zA)(locals:List zA)(t:zA)(a b:Int)(r:Ref16Got)(h:z0p m locals t a b=some r):Trip Try.prog 76 [.d (tT m),.d (.sl (List.map zA.toD locals)),.d (tT t),(nI a),(nI b)] [] [.d (.agg [(.int .i64 r.T_.K),(.int .i64 r.T_.N),(.str r.T_.S),(.sl (List.map zA.toD r.T_.L)),(.int .i64 r.T_.From),(.int .i64 r.T_.To),(.int .i64 r.At),(.int .i64 r.E)])] []:=by
 unfold z0p at h;refine zH 1000 (y8b _ _ _ _ m locals t a b) ?_;obtain⟨q1,g,h⟩:=zE h;refine⟨_,_,_,_,_,_,_,_,_,_,_,_,_,_,⟨_,z2H _ _ _ _ g⟩,?_⟩;rintro _ rfl;refine zC zq2 h (fun _ h=>?_) (fun _ h=>?_)
 ·obtain⟨q2,g,h⟩:=zE h;refine⟨_,⟨_,z1Q _ _ _ g⟩,?_⟩;refine zG Iff.rfl h (fun _ h=>?_) (fun _ h=>?_)
  ·obtain⟨q6,g,h⟩:=zE h;refine⟨_,_,_,_,_,_,_,_,⟨_,z1i _ _ g⟩,?_⟩;cases h;exact⟨rfl,rfl⟩
  obtain⟨q3,g,h⟩:=zE h;refine⟨_,⟨_,z1Q _ _ _ g⟩,?_⟩;refine zG Iff.rfl h (fun _ h=>?_) (fun _ h=>?_)
  ·obtain⟨q5,g,h⟩:=zE h;refine⟨_,_,_,_,_,_,_,_,⟨_,z1i _ _ g⟩,?_⟩;cases h;exact⟨rfl,rfl⟩
  obtain⟨q4,g,h⟩:=zE h;refine⟨_,_,_,_,_,_,_,_,⟨_,vD _ _ _ g⟩,?_⟩;cases h;exact⟨rfl,rfl⟩
 obtain⟨q7,g,h⟩:=zE h;refine⟨_,_,_,_,_,_,_,_,⟨_,z1i _ _ g⟩,?_⟩;cases h;exact⟨rfl,rfl⟩
def z9h:(i:vK)→z6b i→Prop
 |.yM m locals ret t,r=>Trip Try.prog 56 [.d (tT m),.d (.sl (List.map zA.toD locals)),.d (tT ret),.d (tT t)] [] [.d (.agg [(.int .i64 r.T_.K),(.int .i64 r.T_.N),(.str r.T_.S),(.sl (List.map zA.toD r.T_.L)),(.int .i64 r.T_.From),(.int .i64 r.T_.To),(.int .i64 r.At),(.int .i64 r.E)])] []
 |.yK locals i m ret t o8 K N S L From To,r=>Ok (z6s (Trip Try.prog) [.d (.agg [(.int .i64 r.T_.K),(.int .i64 r.T_.N),(.str r.T_.S),(.sl (List.map zA.toD r.T_.L)),(.int .i64 r.T_.From),(.int .i64 r.T_.To),(.int .i64 r.At),(.int .i64 r.E)])] []) (kL Try.f56 3) ⟨55,[(1,.d (.sl (List.map zA.toD locals))),(4,.ref 4 1 0),(6,.ref 6 1 0),(7,.ref 7 1 0),(8,.ref 8 1 0),(9,.hp 0 0),(10,(nI i))],[(4,1,some (.agg (tT m))),(6,1,some (.agg (tT ret))),(7,1,some (.agg (tT t))),(8,1,some (.agg (.agg [(.int .i64 o8.T_.K),(.int .i64 o8.T_.N),(.str o8.T_.S),(.sl (List.map zA.toD o8.T_.L)),(.int .i64 o8.T_.From),(.int .i64 o8.T_.To),(.int .i64 o8.At),(.int .i64 o8.E)])))],[(hM K N S (List.map zA.toD L) From To)],0⟩
 |.uT m locals ret t,r=>Trip Try.prog 67 [.d (tT m),.d (.sl (List.map zA.toD locals)),.d (tT ret),.d (tT t)] [] [.d (.agg [(.int .i64 r.T_.K),(.int .i64 r.T_.N),(.str r.T_.S),(.sl (List.map zA.toD r.T_.L)),(.int .i64 r.T_.From),(.int .i64 r.T_.To),(.int .i64 r.At),(.int .i64 r.E)])] []
 |.yE locals i m ret t o8 K N S L From To,r=>Ok (z7O (Trip Try.prog) [.d (.agg [(.int .i64 r.T_.K),(.int .i64 r.T_.N),(.str r.T_.S),(.sl (List.map zA.toD r.T_.L)),(.int .i64 r.T_.From),(.int .i64 r.T_.To),(.int .i64 r.At),(.int .i64 r.E)])] []) (kL Try.f67 7) ⟨99,[(1,.d (.sl (List.map zA.toD locals))),(4,.ref 4 1 0),(6,.ref 6 1 0),(7,.ref 7 1 0),(8,.ref 8 1 0),(9,.hp 0 0),(10,(nI i))],[(4,1,some (.agg (tT m))),(6,1,some (.agg (tT ret))),(7,1,some (.agg (tT t))),(8,1,some (.agg (.agg [(.int .i64 o8.T_.K),(.int .i64 o8.T_.N),(.str o8.T_.S),(.sl (List.map zA.toD o8.T_.L)),(.int .i64 o8.T_.From),(.int .i64 o8.T_.To),(.int .i64 o8.At),(.int .i64 o8.E)])))],[(hM K N S (List.map zA.toD L) From To)],0⟩
 |.uE m locals ret t i,r=>Trip Try.prog 72 [.d (tT m),.d (.sl (List.map zA.toD locals)),.d (tT ret),.d (tT t),(nI i)] [] [.d (.agg [(.int .i64 r.T_.K),(.int .i64 r.T_.N),(.str r.T_.S),(.sl (List.map zA.toD r.T_.L)),(.int .i64 r.T_.From),(.int .i64 r.T_.To),(.int .i64 r.At),(.int .i64 r.E)])] []
theorem y4S:∀i r,jT wY i=some r→z9h i r:=by
 refine zX z1m fun g ih i=>?_;cases i with
 |yM m locals ret t=>
  have v4M:=fun locals i m ret t o8 K N S L From To r h=>ih (.yK locals i m ret t o8 K N S L From To) r h;intro r h;replace h:z1y (fun locals i m ret t o8 K N S L From To=>g (vK.yK locals i m ret t o8 K N S L From To)) m locals ret t=some r:=h;unfold z1y at h;refine zH 1000 (y5X _ _ _ _ m locals ret t) ?_;exact v4M _ _ _ _ _ _ _ _ _ _ _ _ _ h
 |yK locals i m ret t o8 K N S L From To=>
  have v4M:=fun locals i m ret t o8 K N S L From To r h=>ih (.yK locals i m ret t o8 K N S L From To) r h;have v4T:=fun m locals ret t r h=>ih (.uT m locals ret t) r h;intro r h;replace h:jJ (fun locals i m ret t o8 K N S L From To=>g (vK.yK locals i m ret t o8 K N S L From To)) (fun m locals ret t=>g (vK.uT m locals ret t)) locals i m ret t o8 K N S L From To=some r:=h;unfold jJ at h;refine jV 1000 (y1n _ _ _ _ locals i m ret t o8 K N S L From To) ?_
  refine zZ (e':=(List.length t.L:Int)) (by first|rfl|rw[zq3]) ?_;rintro _ rfl;refine zC decide_eq_true_iff h (fun _ h=>?_) (fun _ h=>?_)
  ·obtain⟨x,hx,h⟩:=zE h;refine⟨zF (l:=t.L) (zA.sz),vO hx,x.K,x.N,x.S,List.map zA.toD x.L,x.From,x.To,zP (zA.toD_eq x) hx,?_⟩;obtain⟨q1,g,h⟩:=zE h;refine⟨_,_,_,_,_,_,_,_,⟨_,v4T _ _ _ _ _ g⟩,?_⟩;rintro _ rfl;refine zG zq2 h (fun _ h=>?_) (fun _ h=>?_)
   ·refine⟨by simp[zD,D.cells],?_⟩;refine⟨by first|rfl|decide|simp only[zq3,List.length_cons,List.length_nil,List.map_append,List.length_append],?_⟩;obtain⟨hP,h⟩:=jR h;refine⟨by first|exact hP|simpa using hP,?_⟩;refine zZ (e':=List.map zA.toD (L++[q1.T_])) (by first|rfl|simp only[List.map_append,List.map_cons,List.map_nil,List.map_take,List.map_drop,List.map_set,List.map_replicate,zq3,zA.toD_eq]) ?_
    refine⟨by first|rfl|decide|simp only[zq3,List.length_cons,List.length_nil,List.map_append,List.length_append],?_⟩;obtain⟨x1,hx,h⟩:=zE h;refine⟨zF (l:=t.L) (zA.sz),vO hx,x1.K,x1.N,x1.S,List.map zA.toD x1.L,x1.From,x1.To,zP (zA.toD_eq x1) hx,?_⟩;obtain⟨q2,g,h⟩:=zE h;refine⟨_,⟨_,y3C _ _ _ _ g⟩,?_⟩;rintro _ rfl;exact v4M _ _ _ _ _ _ _ _ _ _ _ _ _ h
   cases h;exact⟨rfl,rfl⟩
  cases h;exact⟨rfl,rfl⟩
 |uT m locals ret t=>
  have v4L:=fun m locals ret t r h=>ih (.yM m locals ret t) r h;have v4U:=fun locals i m ret t o8 K N S L From To r h=>ih (.yE locals i m ret t o8 K N S L From To) r h;intro r h;replace h:z2s (fun m locals ret t=>g (vK.yM m locals ret t)) (fun locals i m ret t o8 K N S L From To=>g (vK.yE locals i m ret t o8 K N S L From To)) m locals ret t=some r:=h;unfold z2s at h;refine zH 1000 (y8d _ _ _ _ m locals ret t) ?_;obtain⟨q1,g,h⟩:=zE h;refine⟨_,⟨_,y5g _ _ g⟩,?_⟩
  refine zG Iff.rfl h (fun _ h=>?_) (fun _ h=>?_)
  ·rintro _ rfl;refine zC zq2 h (fun _ h=>?_) (fun _ h=>?_)
   ·obtain⟨q3,g,h⟩:=zE h;refine⟨_,_,_,_,_,_,_,_,⟨_,v4L _ _ _ _ _ g⟩,?_⟩;cases h;exact⟨rfl,rfl⟩
   exact v4U _ _ _ _ _ _ _ _ _ _ _ _ _ h
  obtain⟨q2,g,h⟩:=zE h;refine⟨_,_,_,_,_,_,_,_,⟨_,vD _ _ _ g⟩,?_⟩;cases h;exact⟨rfl,rfl⟩
 |yE locals i m ret t o8 K N S L From To=>
  have v4U:=fun locals i m ret t o8 K N S L From To r h=>ih (.yE locals i m ret t o8 K N S L From To) r h;have v4Q:=fun m locals ret t i r h=>ih (.uE m locals ret t i) r h;intro r h;replace h:uY (fun locals i m ret t o8 K N S L From To=>g (vK.yE locals i m ret t o8 K N S L From To)) (fun m locals ret t i=>g (vK.uE m locals ret t i)) locals i m ret t o8 K N S L From To=some r:=h;unfold uY at h;refine jV 1000 (y2E _ _ _ _ locals i m ret t o8 K N S L From To) ?_
  refine zZ (e':=(List.length t.L:Int)) (by first|rfl|rw[zq3]) ?_;rintro _ rfl;refine zC decide_eq_true_iff h (fun _ h=>?_) (fun _ h=>?_)
  ·obtain⟨q1,g,h⟩:=zE h;refine⟨_,_,_,_,_,_,_,_,⟨_,v4Q _ _ _ _ _ _ g⟩,?_⟩;rintro _ rfl;refine zG zq2 h (fun _ h=>?_) (fun _ h=>?_)
   ·refine⟨by simp[zD,D.cells],?_⟩;refine⟨by first|rfl|decide|simp only[zq3,List.length_cons,List.length_nil,List.map_append,List.length_append],?_⟩;obtain⟨hP,h⟩:=jR h;refine⟨by first|exact hP|simpa using hP,?_⟩;refine zZ (e':=List.map zA.toD (L++[q1.T_])) (by first|rfl|simp only[List.map_append,List.map_cons,List.map_nil,List.map_take,List.map_drop,List.map_set,List.map_replicate,zq3,zA.toD_eq]) ?_
    refine⟨by first|rfl|decide|simp only[zq3,List.length_cons,List.length_nil,List.map_append,List.length_append],?_⟩;rintro _ rfl;exact v4U _ _ _ _ _ _ _ _ _ _ _ _ _ h
   cases h;exact⟨rfl,rfl⟩
  rintro _ rfl;refine zC zq2 h (fun _ h=>?_) (fun _ h=>?_)
  ·obtain⟨x,hx,h⟩:=zE h;refine⟨zF (l:=t.L) (zA.sz),vO hx,x.K,x.N,x.S,List.map zA.toD x.L,x.From,x.To,zP (zA.toD_eq x) hx,?_⟩;obtain⟨q2,g,h⟩:=zE h;refine⟨_,_,_,_,_,_,⟨_,y7l _ _ g⟩,?_⟩;rintro _ rfl;refine zG zq2 h (fun _ h=>?_) (fun _ h=>?_)
   ·obtain⟨x4,hx,h⟩:=zE h;refine⟨zF (l:=t.L) (zA.sz),vO hx,x4.K,x4.N,x4.S,List.map zA.toD x4.L,x4.From,x4.To,zP (zA.toD_eq x4) hx,?_⟩;obtain⟨q8,g,h⟩:=zE h;refine⟨_,_,_,_,_,_,_,_,_,_,_,_,_,_,⟨_,z2H _ _ _ _ g⟩,?_⟩;obtain⟨x5,hx,h⟩:=zE h;refine⟨zF (l:=t.L) (zA.sz),vO hx,x5.K,x5.N,x5.S,List.map zA.toD x5.L,x5.From,x5.To,zP (zA.toD_eq x5) hx,?_⟩;obtain⟨q9,g,h⟩:=zE h;refine⟨_,_,_,_,_,_,_,_,_,_,_,_,_,_,⟨_,z2H _ _ _ _ g⟩,?_⟩;obtain⟨q10,g,h⟩:=zE h;refine⟨_,⟨_,z2f _ _ _ g⟩,?_⟩
    refine zG Iff.rfl h (fun _ h=>?_) (fun _ h=>?_)
    ·cases h;exact⟨rfl,rfl⟩
    obtain⟨q11,g,h⟩:=zE h;refine⟨_,_,_,_,_,_,_,_,⟨_,vD _ _ _ g⟩,?_⟩;cases h;exact⟨rfl,rfl⟩
   rintro _ rfl;refine zG zq2 h (fun _ h=>?_) (fun _ h=>?_)
   ·obtain⟨x2,hx,h⟩:=zE h;refine⟨zF (l:=t.L) (zA.sz),vO hx,x2.K,x2.N,x2.S,List.map zA.toD x2.L,x2.From,x2.To,zP (zA.toD_eq x2) hx,?_⟩;obtain⟨q4,g,h⟩:=zE h;refine⟨_,_,_,_,_,_,_,_,_,_,_,_,_,_,⟨_,z2H _ _ _ _ g⟩,?_⟩;obtain⟨x3,hx,h⟩:=zE h;refine⟨zF (l:=t.L) (zA.sz),vO hx,x3.K,x3.N,x3.S,List.map zA.toD x3.L,x3.From,x3.To,zP (zA.toD_eq x3) hx,?_⟩;obtain⟨q5,g,h⟩:=zE h;refine⟨_,_,_,_,_,_,_,_,_,_,_,_,_,_,⟨_,z2H _ _ _ _ g⟩,?_⟩;obtain⟨q6,g,h⟩:=zE h;refine⟨_,⟨_,z2f _ _ _ g⟩,?_⟩
    refine zG Iff.rfl h (fun _ h=>?_) (fun _ h=>?_)
    ·cases h;exact⟨rfl,rfl⟩
    obtain⟨q7,g,h⟩:=zE h;refine⟨_,_,_,_,_,_,_,_,⟨_,vD _ _ _ g⟩,?_⟩;cases h;exact⟨rfl,rfl⟩
   obtain⟨x1,hx,h⟩:=zE h;refine⟨zF (l:=t.L) (zA.sz),vO hx,x1.K,x1.N,x1.S,List.map zA.toD x1.L,x1.From,x1.To,zP (zA.toD_eq x1) hx,?_⟩;obtain⟨q3,g,h⟩:=zE h;refine⟨_,_,_,_,_,_,_,_,⟨_,vD _ _ _ g⟩,?_⟩;cases h;exact⟨rfl,rfl⟩
  cases h;exact⟨rfl,rfl⟩
 |uE m locals ret t i=>
  have v4L:=fun m locals ret t r h=>ih (.yM m locals ret t) r h;intro r h;replace h:z2r (fun m locals ret t=>g (vK.yM m locals ret t)) m locals ret t i=some r:=h;unfold z2r at h;refine zH 1000 (y8c _ _ _ _ m locals ret t i) ?_;obtain⟨x,hx,h⟩:=zE h;refine⟨zF (l:=t.L) (zA.sz),vO hx,x.K,x.N,x.S,List.map zA.toD x.L,x.From,x.To,zP (zA.toD_eq x) hx,?_⟩;obtain⟨q1,g,h⟩:=zE h;refine⟨_,_,⟨_,z9o _ _ g⟩,?_⟩;rintro _ rfl;rintro _ rfl;refine zC decide_eq_true_iff h (fun _ h=>?_) (fun _ h=>?_)
  ·rintro _ rfl;refine zC zq2 h (fun _ h=>?_) (fun _ h=>?_)
   ·refine⟨zF (l:=locals) (zA.sz),?_⟩;refine⟨by first|rfl|decide|simp only[zq3,List.length_cons,List.length_nil,List.map_append,List.length_append],?_⟩;obtain⟨hP,h⟩:=jR h;refine⟨by first|exact hP|simpa using hP,?_⟩;refine zZ (e':=List.map zA.toD (([]:List zA)++locals)) (by first|rfl|simp only[List.map_append,List.map_cons,List.map_nil,List.map_take,List.map_drop,List.map_set,List.map_replicate,zq3,zA.toD_eq]) ?_;refine⟨by simp[zD,D.cells],?_⟩
    refine⟨by first|rfl|decide|simp only[zq3,List.length_cons,List.length_nil,List.map_append,List.length_append],?_⟩;obtain⟨hP,h⟩:=jR h;refine⟨by first|exact hP|simpa using hP,?_⟩;refine zZ (e':=List.map zA.toD ((([]:List zA)++locals)++[(zA.mk 1 0 [] [] 0 0)])) (by first|rfl|simp only[List.map_append,List.map_cons,List.map_nil,List.map_take,List.map_drop,List.map_set,List.map_replicate,zq3,zA.toD_eq]) ?_;obtain⟨q2,g,h⟩:=zE h;refine⟨_,_,_,_,_,_,_,_,⟨_,v4L _ _ _ _ _ g⟩,?_⟩;cases h;exact⟨rfl,rfl⟩
   obtain⟨q3,g,h⟩:=zE h;refine⟨_,_,_,_,_,_,_,_,⟨_,v4L _ _ _ _ _ g⟩,?_⟩;cases h;exact⟨rfl,rfl⟩
  rintro _ rfl;refine zC zq2 h (fun _ h=>?_) (fun _ h=>?_)
  ·obtain⟨q4,g,h⟩:=zE h;refine⟨_,⟨_,z1r _ _ _ g⟩,?_⟩;rintro _ rfl;refine zC zq2 h (fun _ h=>?_) (fun _ h=>?_)
   ·obtain⟨q5,g,h⟩:=zE h;refine⟨_,_,_,_,_,_,_,_,⟨_,vD _ _ _ g⟩,?_⟩;cases h;exact⟨rfl,rfl⟩
   obtain⟨q6,g,h⟩:=zE h;refine⟨_,_,_,_,_,_,⟨_,jA _ _ g⟩,?_⟩;cases h;exact⟨rfl,rfl⟩
  rintro _ rfl;refine zC zq2 h (fun _ h=>?_) (fun _ h=>?_)
  ·obtain⟨q7,g,h⟩:=zE h;refine⟨_,_,_,_,_,_,_,_,⟨_,z4Q _ _ _ _ _ _ g⟩,?_⟩;cases h;exact⟨rfl,rfl⟩
  rintro _ rfl;refine zC zq2 h (fun _ h=>?_) (fun _ h=>?_)
  ·obtain⟨q8,g,h⟩:=zE h;refine⟨_,_,_,_,_,_,_,_,⟨_,z4Q _ _ _ _ _ _ g⟩,?_⟩;cases h;exact⟨rfl,rfl⟩
  rintro _ rfl;refine zC zq2 h (fun _ h=>?_) (fun _ h=>?_)
  ·obtain⟨q9,g,h⟩:=zE h;refine⟨_,_,_,_,_,_,_,_,⟨_,z4Q _ _ _ _ _ _ g⟩,?_⟩;cases h;exact⟨rfl,rfl⟩
  rintro _ rfl;refine zC zq2 h (fun _ h=>?_) (fun _ h=>?_)
  ·obtain⟨q10,g,h⟩:=zE h;refine⟨_,_,_,_,_,_,_,_,⟨_,z4Q _ _ _ _ _ _ g⟩,?_⟩;cases h;exact⟨rfl,rfl⟩
  rintro _ rfl;refine zC zq2 h (fun hc324 h=>?_) (fun hc324 h=>?_)
  ·rintro _ rfl;refine zG zq2 h (fun _ h=>?_) (fun _ h=>?_)
   ·obtain⟨q12,g,h⟩:=zE h;refine⟨_,_,_,_,_,_,_,_,_,_,_,_,_,_,⟨_,z2H _ _ _ _ g⟩,?_⟩;rintro _ rfl;refine yR zq2 (fun e=>absurd (hc324.symm.trans e) (by decide)) ?_;obtain⟨q18,g,h⟩:=zE h;refine⟨_,_,_,_,_,_,_,_,⟨_,z1i _ _ g⟩,?_⟩;cases h;exact⟨rfl,rfl⟩
   obtain⟨q11,g,h⟩:=zE h;refine⟨_,_,_,_,_,_,_,_,⟨_,vD _ _ _ g⟩,?_⟩;cases h;exact⟨rfl,rfl⟩
  obtain⟨q19,g,h⟩:=zE h;refine⟨_,_,_,_,_,_,_,_,_,_,_,_,_,_,⟨_,z2H _ _ _ _ g⟩,?_⟩;rintro _ rfl;refine zC zq2 h (fun _ h=>?_) (fun _ h=>?_)
  ·rintro _ rfl;refine zC zq2 h (fun _ h=>?_) (fun _ h=>?_)
   ·obtain⟨q20,g,h⟩:=zE h;refine⟨_,_,_,_,_,_,⟨_,z2e _ _ g⟩,?_⟩;obtain⟨q21,g,h⟩:=zE h;refine⟨_,⟨_,z2f _ _ _ g⟩,?_⟩;refine zG Iff.rfl h (fun _ h=>?_) (fun _ h=>?_)
    ·obtain⟨q23,g,h⟩:=zE h;refine⟨_,_,_,_,_,_,_,_,⟨_,z1i _ _ g⟩,?_⟩;cases h;exact⟨rfl,rfl⟩
    obtain⟨q22,g,h⟩:=zE h;refine⟨_,_,_,_,_,_,_,_,⟨_,vD _ _ _ g⟩,?_⟩;cases h;exact⟨rfl,rfl⟩
   obtain⟨q24,g,h⟩:=zE h;refine⟨_,_,_,_,_,_,_,_,⟨_,z1i _ _ g⟩,?_⟩;cases h;exact⟨rfl,rfl⟩
  obtain⟨q25,g,h⟩:=zE h;refine⟨_,_,_,_,_,_,_,_,⟨_,z1i _ _ g⟩,?_⟩;cases h;exact⟨rfl,rfl⟩
theorem y5e(m:zA)(locals:List zA)(ret t:zA)(r:Ref16Got)(h:yM m locals ret t=some r):z9h (.yM m locals ret t) r:=y4S (.yM m locals ret t) r h
def z5U:(i:z1L)→z3r i→Prop
 |.yU out i f,r=>Ok (z6v (Trip Try.prog) [.own 6 (List.map zA.toD r)] []) (kL Try.f54 3) ⟨31,[(1,.ref 1 1 0),(3,.right 5 1 6 (List.map zA.toD out)),(4,(nI i))],[(1,1,some (.agg (tT f))),(5,1,some (.tok 6 (List.length (List.map zA.toD out))))],[],0⟩
theorem y0n:∀i r,jT z1E i=some r→z5U i r:=by
 refine zX z5K fun g ih i=>?_;cases i with
 |yU out i f=>
  have v4V:=fun out i f r h=>ih (.yU out i f) r h;intro r h;replace h:jL (fun out i f=>g (z1L.yU out i f)) out i f=some r:=h;unfold jL at h;refine jV 1000 (y1p _ _ _ _ out i f) ?_;obtain⟨x,hx,h⟩:=zE h;refine⟨zF (l:=f.L) (zA.sz),vO hx,x.K,x.N,x.S,List.map zA.toD x.L,x.From,x.To,zP (zA.toD_eq x) hx,?_⟩;refine zZ (e':=(List.length x.L:Int)) (by first|rfl|rw[zq3]) ?_;rintro _ rfl;refine zC decide_eq_true_iff h (fun _ h=>?_) (fun _ h=>?_)
  ·obtain⟨x1,hx,h⟩:=zE h;refine⟨zF (l:=f.L) (zA.sz),vO hx,x1.K,x1.N,x1.S,List.map zA.toD x1.L,x1.From,x1.To,zP (zA.toD_eq x1) hx,?_⟩;obtain⟨x2,hx,h⟩:=zE h;refine⟨zF (l:=x1.L) (zA.sz),vO hx,x2.K,x2.N,x2.S,List.map zA.toD x2.L,x2.From,x2.To,zP (zA.toD_eq x2) hx,?_⟩;obtain⟨x3,hx,h⟩:=zE h;refine⟨zF (l:=x2.L) (zA.sz),vO hx,x3.K,x3.N,x3.S,List.map zA.toD x3.L,x3.From,x3.To,zP (zA.toD_eq x3) hx,?_⟩;refine⟨by simp[zD,D.cells],?_⟩
   refine⟨by first|rfl|decide|simp only[zq3,List.length_cons,List.length_nil,List.map_append,List.length_append],?_⟩;obtain⟨hP,h⟩:=jR h;refine⟨by first|exact hP|simpa using hP,?_⟩;refine zZ (e':=List.map zA.toD (out++[x3])) (by first|rfl|simp only[List.map_append,List.map_cons,List.map_nil,List.map_take,List.map_drop,List.map_set,List.map_replicate,zq3,zA.toD_eq]) ?_;rintro _ rfl;exact v4V _ _ _ _ h
  refine⟨by first|rfl|decide|simp only[zq3,List.length_cons,List.length_nil,List.map_append,List.length_append],?_⟩;cases h;exact⟨rfl,rfl⟩
theorem y0G(out:List zA)(i:Int)(f:zA)(r:List zA)(h:yU out i f=some r):z5U (.yU out i f) r:=y0n (.yU out i f) r h
theorem z6j(f:zA)(r:List zA)(h:z1z f=some r):Trip Try.prog 54 [.d (tT f)] [] [.own 6 (List.map zA.toD r)] []:=by
 unfold z1z at h;refine zH 1000 (y6c _ _ _ _ f) ?_;exact y0G _ _ _ _ h
def z8b:(i:z3d)→z4O i→Prop
 |.vJ all i m t o4,r=>Ok (z6t (Trip Try.prog) [.d (.agg [(.int .i64 r.T_.K),(.int .i64 r.T_.N),(.str r.T_.S),(.sl (List.map zA.toD r.T_.L)),(.int .i64 r.T_.From),(.int .i64 r.T_.To),(.int .i64 r.At),(.int .i64 r.E)])] []) (kL Try.f35 10) ⟨125,[(2,.ref 2 1 0),(3,.ref 3 1 0),(4,.ref 4 1 0),(5,.right 52 1 6 (List.map zA.toD all)),(7,(nI i))],[(2,1,some (.agg (tT m))),(3,1,some (.agg (tT t))),(4,1,some (.agg (.agg [(.int .i64 o4.T_.K),(.int .i64 o4.T_.N),(.str o4.T_.S),(.sl (List.map zA.toD o4.T_.L)),(.int .i64 o4.T_.From),(.int .i64 o4.T_.To),(.int .i64 o4.At),(.int .i64 o4.E)]))),(52,1,some (.tok 6 (List.length (List.map zA.toD all))))],[],0⟩
theorem y3t:∀i r,jT z3b i=some r→z8b i r:=by
 refine zX z7X fun g ih i=>?_;cases i with
 |vJ all i m t o4=>
  have v4N:=fun all i m t o4 r h=>ih (.vJ all i m t o4) r h;intro r h;replace h:z0n (fun all i m t o4=>g (z3d.vJ all i m t o4)) all i m t o4=some r:=h;unfold z0n at h;refine jV 1000 (y4g _ _ _ _ all i m t o4) ?_;refine zZ (e':=(List.length all:Int)) (by first|rfl|rw[zq3]) ?_;rintro _ rfl;refine zC decide_eq_true_iff h (fun _ h=>?_) (fun _ h=>?_)
  ·rintro _ rfl;refine zC zq2 h (fun _ h=>?_) (fun _ h=>?_)
   ·obtain⟨x,hx,h⟩:=zE h;refine⟨zF (l:=all) (zA.sz),vO hx,x.K,x.N,x.S,List.map zA.toD x.L,x.From,x.To,zP (zA.toD_eq x) hx,?_⟩;obtain⟨q1,g,h⟩:=zE h;refine⟨_,⟨_,y5a _ _ _ g⟩,?_⟩;refine zG Iff.rfl h (fun _ h=>?_) (fun _ h=>?_)
    ·rintro _ rfl;exact v4N _ _ _ _ _ _ h
    obtain⟨x1,hx,h⟩:=zE h;refine⟨zF (l:=all) (zA.sz),vO hx,x1.K,x1.N,x1.S,List.map zA.toD x1.L,x1.From,x1.To,zP (zA.toD_eq x1) hx,?_⟩;obtain⟨q2,g,h⟩:=zE h;refine⟨_,_,_,_,_,_,_,_,⟨_,vD _ _ _ g⟩,?_⟩;cases h;exact⟨rfl,rfl⟩
   rintro _ rfl;exact v4N _ _ _ _ _ _ h
  obtain⟨q3,g,h⟩:=zE h;refine⟨_,⟨_,z6j _ _ g⟩,?_⟩;obtain⟨x2,hx,h⟩:=zE h;refine⟨zF (l:=t.L) (zA.sz),vO hx,x2.K,x2.N,x2.S,List.map zA.toD x2.L,x2.From,x2.To,zP (zA.toD_eq x2) hx,?_⟩;obtain⟨x3,hx,h⟩:=zE h;refine⟨zF (l:=t.L) (zA.sz),vO hx,x3.K,x3.N,x3.S,List.map zA.toD x3.L,x3.From,x3.To,zP (zA.toD_eq x3) hx,?_⟩;obtain⟨q4,g,h⟩:=zE h;refine⟨_,_,_,_,_,_,_,_,⟨_,y5e _ _ _ _ _ g⟩,?_⟩;rintro _ rfl;refine zG zq2 h (fun _ h=>?_) (fun _ h=>?_)
  ·obtain⟨q5,g,h⟩:=zE h;refine⟨_,_,_,_,_,_,⟨_,z8I _ _ g⟩,?_⟩;obtain⟨hP,h⟩:=jR h;refine⟨hP.1,by first|exact hP.2|(simp only[zq3]at hP ⊢;exact hP.2),?_⟩;obtain⟨hP,h⟩:=jR h;refine⟨by first|exact hP|(rw[zq3];exact hP),?_⟩;refine zZ (e':=List.map zA.toD (q5.L.set (Int.toNat 2) q4.T_)) (v3Z (zA.toD_eq q4.T_)) ?_;cases h;exact⟨rfl,rfl⟩
  cases h;exact⟨rfl,rfl⟩
theorem y3D(all:List zA)(i:Int)(m t:zA)(o4 r:Ref16Got)(h:vJ all i m t o4=some r):z8b (.vJ all i m t o4) r:=y3t (.vJ all i m t o4) r h
def z9i:(i:z3Q)→z6c i→Prop
 |.vS all i m t o4,r=>Ok (z6t (Trip Try.prog) [.d (.agg [(.int .i64 r.T_.K),(.int .i64 r.T_.N),(.str r.T_.S),(.sl (List.map zA.toD r.T_.L)),(.int .i64 r.T_.From),(.int .i64 r.T_.To),(.int .i64 r.At),(.int .i64 r.E)])] []) (kL Try.f35 5) ⟨125,[(2,.ref 2 1 0),(3,.ref 3 1 0),(4,.ref 4 1 0),(5,.right 52 1 6 (List.map zA.toD all)),(6,(nI i))],[(2,1,some (.agg (tT m))),(3,1,some (.agg (tT t))),(4,1,some (.agg (.agg [(.int .i64 o4.T_.K),(.int .i64 o4.T_.N),(.str o4.T_.S),(.sl (List.map zA.toD o4.T_.L)),(.int .i64 o4.T_.From),(.int .i64 o4.T_.To),(.int .i64 o4.At),(.int .i64 o4.E)]))),(52,1,some (.tok 6 (List.length (List.map zA.toD all))))],[],0⟩
theorem y4T:∀i r,jT z3P i=some r→z9i i r:=by
 refine zX z9e fun g ih i=>?_;cases i with
 |vS all i m t o4=>
  have v4O:=fun all i m t o4 r h=>ih (.vS all i m t o4) r h;intro r h;replace h:z0B (fun all i m t o4=>g (z3Q.vS all i m t o4)) all i m t o4=some r:=h;unfold z0B at h;refine jV 1000 (y5Y _ _ _ _ all i m t o4) ?_;refine zZ (e':=(List.length all:Int)) (by first|rfl|rw[zq3]) ?_;rintro _ rfl;refine zC decide_eq_true_iff h (fun _ h=>?_) (fun _ h=>?_)
  ·obtain⟨x,hx,h⟩:=zE h;refine⟨zF (l:=all) (zA.sz),vO hx,x.K,x.N,x.S,List.map zA.toD x.L,x.From,x.To,zP (zA.toD_eq x) hx,?_⟩;obtain⟨q1,g,h⟩:=zE h;refine⟨_,⟨_,z1r _ _ _ g⟩,?_⟩;rintro _ rfl;refine zC zq2 h (fun _ h=>?_) (fun _ h=>?_)
   ·obtain⟨x1,hx,h⟩:=zE h;refine⟨zF (l:=all) (zA.sz),vO hx,x1.K,x1.N,x1.S,List.map zA.toD x1.L,x1.From,x1.To,zP (zA.toD_eq x1) hx,?_⟩;obtain⟨q2,g,h⟩:=zE h;refine⟨_,_,_,_,_,_,_,_,⟨_,vD _ _ _ g⟩,?_⟩;cases h;exact⟨rfl,rfl⟩
   rintro _ rfl;exact v4O _ _ _ _ _ _ h
  exact y3D _ _ _ _ _ _ h
theorem z9n(all:List zA)(i:Int)(m t:zA)(o4 r:Ref16Got)(h:vS all i m t o4=some r):z9i (.vS all i m t o4) r:=y4T (.vS all i m t o4) r h
def z5u:(i:z1g)→z2U i→Prop
 |.yH l i,r=>Ok (z4V (Trip Try.prog) [(nB r)] []) (kL Try.f53 2) ⟨25,[(0,.d (.sl (List.map zA.toD l))),(3,(nI i))],[],[],0⟩
theorem z9D:∀i r,jT z1b i=some r→z5u i r:=by
 refine zX z5o fun g ih i=>?_;cases i with
 |yH l i=>
  have v4R:=fun l i r h=>ih (.yH l i) r h;intro r h;replace h:uP (fun l i=>g (z1g.yH l i)) l i=some r:=h;unfold uP at h;refine jV 1000 (z9U _ _ _ _ l i) ?_;refine zZ (e':=(List.length l:Int)) (by first|rfl|rw[zq3]) ?_;rintro _ rfl;refine zC decide_eq_true_iff h (fun _ h=>?_) (fun _ h=>?_)
  ·obtain⟨x,hx,h⟩:=zE h;refine⟨zF (l:=l) (zA.sz),vO hx,x.K,x.N,x.S,List.map zA.toD x.L,x.From,x.To,zP (zA.toD_eq x) hx,?_⟩;rintro _ rfl;refine zG zq2 h (fun _ h=>?_) (fun _ h=>?_)
   ·obtain⟨x1,hx,h⟩:=zE h;refine⟨zF (l:=l) (zA.sz),vO hx,x1.K,x1.N,x1.S,List.map zA.toD x1.L,x1.From,x1.To,zP (zA.toD_eq x1) hx,?_⟩;refine zZ (e':=(List.length x1.L:Int)) (by first|rfl|rw[zq3]) ?_;rintro _ rfl;refine zG zq2 h (fun _ h=>?_) (fun _ h=>?_)
    ·rintro _ rfl;exact v4R _ _ _ h
    cases h;exact⟨rfl,rfl⟩
   cases h;exact⟨rfl,rfl⟩
  cases h;exact⟨rfl,rfl⟩
theorem z9K(l:List zA)(i:Int)(r:Bool)(h:yH l i=some r):z5u (.yH l i) r:=z9D (.yH l i) r h
theorem z8e(l:List zA)(r:Bool)(h:z1k l=some r):Trip Try.prog 53 [.d (.sl (List.map zA.toD l))] [] [(nB r)] []:=by
 unfold z1k at h;refine zH 1000 (y4i _ _ _ _ l) ?_;exact z9K _ _ _ h
theorem v0v(m t:zA)(r:Ref16Got)(h:y1W m t=some r):Trip Try.prog 35 [.d (tT m),.d (tT t)] [] [.d (.agg [(.int .i64 r.T_.K),(.int .i64 r.T_.N),(.str r.T_.S),(.sl (List.map zA.toD r.T_.L)),(.int .i64 r.T_.From),(.int .i64 r.T_.To),(.int .i64 r.At),(.int .i64 r.E)])] []:=by
 unfold y1W at h;refine zH 1000 (v0F _ _ _ _ m t) ?_;rintro _ rfl;refine zG zq2 h (fun _ h=>?_) (fun _ h=>?_)
 ·refine zZ (e':=(List.length t.L:Int)) (by first|rfl|rw[zq3]) ?_;rintro _ rfl;refine zG zq2 h (fun _ h=>?_) (fun _ h=>?_)
  ·obtain⟨x4,hx,h⟩:=zE h;refine⟨zF (l:=t.L) (zA.sz),vO hx,x4.K,x4.N,x4.S,List.map zA.toD x4.L,x4.From,x4.To,zP (zA.toD_eq x4) hx,?_⟩;rintro _ rfl;refine zG zq2 h (fun _ h=>?_) (fun _ h=>?_)
   ·obtain⟨x5,hx,h⟩:=zE h;refine⟨zF (l:=t.L) (zA.sz),vO hx,x5.K,x5.N,x5.S,List.map zA.toD x5.L,x5.From,x5.To,zP (zA.toD_eq x5) hx,?_⟩;obtain⟨q10,g,h⟩:=zE h;refine⟨_,⟨_,z8e _ _ g⟩,?_⟩;refine zG Iff.rfl h (fun _ h=>?_) (fun _ h=>?_)
    ·obtain⟨x6,hx,h⟩:=zE h;refine⟨zF (l:=t.L) (zA.sz),vO hx,x6.K,x6.N,x6.S,List.map zA.toD x6.L,x6.From,x6.To,zP (zA.toD_eq x6) hx,?_⟩;rintro _ rfl;refine zG zq2 h (fun _ h=>?_) (fun _ h=>?_)
     ·obtain⟨q13,g,h⟩:=zE h;refine⟨_,⟨_,z6j _ _ g⟩,?_⟩;obtain⟨x7,hx,h⟩:=zE h;refine⟨zF (l:=t.L) (zA.sz),vO hx,x7.K,x7.N,x7.S,List.map zA.toD x7.L,x7.From,x7.To,zP (zA.toD_eq x7) hx,?_⟩;refine⟨by simp[zD,D.cells],?_⟩;refine⟨by first|rfl|decide|simp only[zq3,List.length_cons,List.length_nil,List.map_append,List.length_append],?_⟩;obtain⟨hP,h⟩:=jR h;refine⟨by first|exact hP|simpa using hP,?_⟩
      refine zZ (e':=List.map zA.toD (q13++[x7])) (by first|rfl|simp only[List.map_append,List.map_cons,List.map_nil,List.map_take,List.map_drop,List.map_set,List.map_replicate,zq3,zA.toD_eq]) ?_;exact z9n _ _ _ _ _ _ h
     obtain⟨q12,g,h⟩:=zE h;refine⟨_,_,_,_,_,_,_,_,⟨_,vD _ _ _ g⟩,?_⟩;cases h;exact⟨rfl,rfl⟩
    obtain⟨q11,g,h⟩:=zE h;refine⟨_,_,_,_,_,_,_,_,⟨_,vD _ _ _ g⟩,?_⟩;cases h;exact⟨rfl,rfl⟩
   obtain⟨q9,g,h⟩:=zE h;refine⟨_,_,_,_,_,_,_,_,⟨_,vD _ _ _ g⟩,?_⟩;cases h;exact⟨rfl,rfl⟩
  obtain⟨q8,g,h⟩:=zE h;refine⟨_,_,_,_,_,_,_,_,⟨_,vD _ _ _ g⟩,?_⟩;cases h;exact⟨rfl,rfl⟩
 rintro _ rfl;refine zG zq2 h (fun _ h=>?_) (fun _ h=>?_)
 ·refine zZ (e':=(List.length t.L:Int)) (by first|rfl|rw[zq3]) ?_;rintro _ rfl;refine zG zq2 h (fun _ h=>?_) (fun _ h=>?_)
  ·obtain⟨x,hx,h⟩:=zE h;refine⟨zF (l:=t.L) (zA.sz),vO hx,x.K,x.N,x.S,List.map zA.toD x.L,x.From,x.To,zP (zA.toD_eq x) hx,?_⟩;rintro _ rfl;refine zG zq2 h (fun _ h=>?_) (fun _ h=>?_)
   ·obtain⟨x1,hx,h⟩:=zE h;refine⟨zF (l:=t.L) (zA.sz),vO hx,x1.K,x1.N,x1.S,List.map zA.toD x1.L,x1.From,x1.To,zP (zA.toD_eq x1) hx,?_⟩;obtain⟨q4,g,h⟩:=zE h;refine⟨_,⟨_,z8e _ _ g⟩,?_⟩;refine zG Iff.rfl h (fun _ h=>?_) (fun _ h=>?_)
    ·obtain⟨x2,hx,h⟩:=zE h;refine⟨zF (l:=t.L) (zA.sz),vO hx,x2.K,x2.N,x2.S,List.map zA.toD x2.L,x2.From,x2.To,zP (zA.toD_eq x2) hx,?_⟩;rintro _ rfl;refine zG zq2 h (fun _ h=>?_) (fun _ h=>?_)
     ·obtain⟨q7,g,h⟩:=zE h;refine⟨_,⟨_,z6j _ _ g⟩,?_⟩;obtain⟨x3,hx,h⟩:=zE h;refine⟨zF (l:=t.L) (zA.sz),vO hx,x3.K,x3.N,x3.S,List.map zA.toD x3.L,x3.From,x3.To,zP (zA.toD_eq x3) hx,?_⟩;refine⟨by simp[zD,D.cells],?_⟩;refine⟨by first|rfl|decide|simp only[zq3,List.length_cons,List.length_nil,List.map_append,List.length_append],?_⟩;obtain⟨hP,h⟩:=jR h;refine⟨by first|exact hP|simpa using hP,?_⟩
      refine zZ (e':=List.map zA.toD (q7++[x3])) (by first|rfl|simp only[List.map_append,List.map_cons,List.map_nil,List.map_take,List.map_drop,List.map_set,List.map_replicate,zq3,zA.toD_eq]) ?_;exact z9n _ _ _ _ _ _ h
     obtain⟨q6,g,h⟩:=zE h;refine⟨_,_,_,_,_,_,_,_,⟨_,vD _ _ _ g⟩,?_⟩;cases h;exact⟨rfl,rfl⟩
    obtain⟨q5,g,h⟩:=zE h;refine⟨_,_,_,_,_,_,_,_,⟨_,vD _ _ _ g⟩,?_⟩;cases h;exact⟨rfl,rfl⟩
   obtain⟨q3,g,h⟩:=zE h;refine⟨_,_,_,_,_,_,_,_,⟨_,vD _ _ _ g⟩,?_⟩;cases h;exact⟨rfl,rfl⟩
  obtain⟨q2,g,h⟩:=zE h;refine⟨_,_,_,_,_,_,_,_,⟨_,vD _ _ _ g⟩,?_⟩;cases h;exact⟨rfl,rfl⟩
 obtain⟨q1,g,h⟩:=zE h;refine⟨_,_,_,_,_,_,_,_,⟨_,vD _ _ _ g⟩,?_⟩;cases h;exact⟨rfl,rfl⟩
theorem y7n(m:zA)(i:Int)(r:Ref16Got)(h:z6R m i=some r):Trip Try.prog 24 [.d (tT m),(nI i)] [] [.d (.agg [(.int .i64 r.T_.K),(.int .i64 r.T_.N),(.str r.T_.S),(.sl (List.map zA.toD r.T_.L)),(.int .i64 r.T_.From),(.int .i64 r.T_.To),(.int .i64 r.At),(.int .i64 r.E)])] []:=by
 unfold z6R at h;refine zH 1000 (y7Z _ _ _ _ m i) ?_;obtain⟨x,hx,h⟩:=zE h;refine⟨zF (l:=m.L) (zA.sz),vO hx,x.K,x.N,x.S,List.map zA.toD x.L,x.From,x.To,zP (zA.toD_eq x) hx,?_⟩;rintro _ rfl;refine zC zq2 h (fun _ h=>?_) (fun _ h=>?_)
 ·obtain⟨q1,g,h⟩:=zE h;refine⟨_,_,_,_,_,_,_,_,⟨_,v0v _ _ _ g⟩,?_⟩;cases h;exact⟨rfl,rfl⟩
 rintro _ rfl;refine zC zq2 h (fun _ h=>?_) (fun _ h=>?_)
 ·obtain⟨q2,g,h⟩:=zE h;refine⟨_,⟨_,z4P _ _ g⟩,?_⟩;refine zG Iff.rfl h (fun _ h=>?_) (fun _ h=>?_)
  ·obtain⟨q4,g,h⟩:=zE h;refine⟨_,⟨_,z1r _ _ _ g⟩,?_⟩;rintro _ rfl;refine zC zq2 h (fun _ h=>?_) (fun _ h=>?_)
   ·obtain⟨q5,g,h⟩:=zE h;refine⟨_,_,_,_,_,_,_,_,⟨_,vD _ _ _ g⟩,?_⟩;cases h;exact⟨rfl,rfl⟩
   obtain⟨q6,g,h⟩:=zE h;refine⟨_,_,_,_,_,_,⟨_,jA _ _ g⟩,?_⟩;cases h;exact⟨rfl,rfl⟩
  obtain⟨q3,g,h⟩:=zE h;refine⟨_,_,_,_,_,_,_,_,⟨_,vD _ _ _ g⟩,?_⟩;cases h;exact⟨rfl,rfl⟩
 rintro _ rfl;refine zC zq2 h (fun hc353 h=>?_) (fun hc353 h=>?_)
 ·refine zZ (e':=(List.length x.L:Int)) (by first|rfl|rw[zq3]) ?_;rintro _ rfl;refine zC zq2 h (fun _ h=>?_) (fun _ h=>?_)
  ·obtain⟨x1,hx,h⟩:=zE h;refine⟨zF (l:=x.L) (zA.sz),vO hx,x1.K,x1.N,x1.S,List.map zA.toD x1.L,x1.From,x1.To,zP (zA.toD_eq x1) hx,?_⟩;obtain⟨q7,g,h⟩:=zE h;refine⟨_,⟨_,z1r _ _ _ g⟩,?_⟩;rintro _ rfl;refine zC zq2 h (fun _ h=>?_) (fun _ h=>?_)
   ·obtain⟨x2,hx,h⟩:=zE h;refine⟨zF (l:=x.L) (zA.sz),vO hx,x2.K,x2.N,x2.S,List.map zA.toD x2.L,x2.From,x2.To,zP (zA.toD_eq x2) hx,?_⟩;obtain⟨q8,g,h⟩:=zE h;refine⟨_,_,_,_,_,_,_,_,⟨_,vD _ _ _ g⟩,?_⟩;cases h;exact⟨rfl,rfl⟩
   obtain⟨q9,g,h⟩:=zE h;refine⟨_,_,_,_,_,_,⟨_,jA _ _ g⟩,?_⟩;cases h;exact⟨rfl,rfl⟩
  rintro _ rfl;refine z2E zq2 (fun e=>absurd (hc353.symm.trans e) (by decide)) ?_;obtain⟨q10,g,h⟩:=zE h;refine⟨_,_,_,_,_,_,_,_,⟨_,vD _ _ _ g⟩,?_⟩;cases h;exact⟨rfl,rfl⟩
 rintro _ rfl;refine zG zq2 h (fun _ h=>?_) (fun _ h=>?_)
 ·refine zZ (e':=(List.length x.L:Int)) (by first|rfl|rw[zq3]) ?_;rintro _ rfl;refine zG zq2 h (fun _ h=>?_) (fun _ h=>?_)
  ·obtain⟨x8,hx,h⟩:=zE h;refine⟨zF (l:=x.L) (zA.sz),vO hx,x8.K,x8.N,x8.S,List.map zA.toD x8.L,x8.From,x8.To,zP (zA.toD_eq x8) hx,?_⟩;refine zZ (e':=(List.length x8.L:Int)) (by first|rfl|rw[zq3]) ?_;rintro _ rfl;refine zC decide_eq_true_iff h (fun _ h=>?_) (fun _ h=>?_)
   ·obtain⟨q21,g,h⟩:=zE h;refine⟨_,_,_,_,_,_,_,_,⟨_,vD _ _ _ g⟩,?_⟩;cases h;exact⟨rfl,rfl⟩
   obtain⟨x9,hx,h⟩:=zE h;refine⟨zF (l:=x.L) (zA.sz),vO hx,x9.K,x9.N,x9.S,List.map zA.toD x9.L,x9.From,x9.To,zP (zA.toD_eq x9) hx,?_⟩;obtain⟨q22,g,h⟩:=zE h;refine⟨_,_,_,_,_,_,⟨_,z2z _ _ g⟩,?_⟩;rintro _ rfl;refine zC zq2 h (fun _ h=>?_) (fun _ h=>?_)
   ·obtain⟨q23,g,h⟩:=zE h;refine⟨_,_,_,_,_,_,_,_,⟨_,vD _ _ _ g⟩,?_⟩;cases h;exact⟨rfl,rfl⟩
   obtain⟨x10,hx,h⟩:=zE h;refine⟨zF (l:=x.L) (zA.sz),vO hx,x10.K,x10.N,x10.S,List.map zA.toD x10.L,x10.From,x10.To,zP (zA.toD_eq x10) hx,?_⟩;rintro _ rfl;refine zC zq2 h (fun _ h=>?_) (fun _ h=>?_)
   ·obtain⟨x11,hx,h⟩:=zE h;refine⟨zF (l:=x.L) (zA.sz),vO hx,x11.K,x11.N,x11.S,List.map zA.toD x11.L,x11.From,x11.To,zP (zA.toD_eq x11) hx,?_⟩;rintro _ rfl;refine zG zq2 h (fun _ h=>?_) (fun _ h=>?_)
    ·obtain⟨q26,g,h⟩:=zE h;refine⟨_,_,_,_,_,_,⟨_,jA _ _ g⟩,?_⟩;cases h;exact⟨rfl,rfl⟩
    obtain⟨x12,hx,h⟩:=zE h;refine⟨zF (l:=x.L) (zA.sz),vO hx,x12.K,x12.N,x12.S,List.map zA.toD x12.L,x12.From,x12.To,zP (zA.toD_eq x12) hx,?_⟩;rintro _ rfl;refine zG zq2 h (fun _ h=>?_) (fun _ h=>?_)
    ·obtain⟨q25,g,h⟩:=zE h;refine⟨_,_,_,_,_,_,⟨_,jA _ _ g⟩,?_⟩;cases h;exact⟨rfl,rfl⟩
    obtain⟨q24,g,h⟩:=zE h;refine⟨_,_,_,_,_,_,_,_,⟨_,vD _ _ _ g⟩,?_⟩;cases h;exact⟨rfl,rfl⟩
   obtain⟨q27,g,h⟩:=zE h;refine⟨_,_,_,_,_,_,⟨_,jA _ _ g⟩,?_⟩;cases h;exact⟨rfl,rfl⟩
  obtain⟨q20,g,h⟩:=zE h;refine⟨_,_,_,_,_,_,_,_,⟨_,vD _ _ _ g⟩,?_⟩;cases h;exact⟨rfl,rfl⟩
 obtain⟨q19,g,h⟩:=zE h;refine⟨_,_,_,_,_,_,_,_,⟨_,vD _ _ _ g⟩,?_⟩;cases h;exact⟨rfl,rfl⟩
def z5t:(i:z1f)→z2T i→Prop
 |.yC i m o2 K N S L From To,r=>Ok (z4U (Trip Try.prog) [.d (tT r.1),(nI r.2.1),(nI r.2.2)] []) (kL Try.f11 5) ⟨46,[(1,.ref 1 1 0),(2,.ref 2 1 0),(5,.hp 0 0),(6,(nI i))],[(1,1,some (.agg (tT m))),(2,1,some (.agg (tT o2)))],[(hM K N S (List.map zA.toD L) From To)],0⟩
theorem z9C:∀i r,jT z1a i=some r→z5t i r:=by
 refine zX z5n fun g ih i=>?_;cases i with
 |yC i m o2 K N S L From To=>
  have v4P:=fun i m o2 K N S L From To r h=>ih (.yC i m o2 K N S L From To) r h;intro r h;replace h:uO (fun i m o2 K N S L From To=>g (z1f.yC i m o2 K N S L From To)) i m o2 K N S L From To=some r:=h;unfold uO at h;refine jV 1000 (z9T _ _ _ _ i m o2 K N S L From To) ?_;refine zZ (e':=(List.length m.L:Int)) (by first|rfl|rw[zq3]) ?_;rintro _ rfl;refine zC decide_eq_true_iff h (fun _ h=>?_) (fun _ h=>?_)
  ·obtain⟨q1,g,h⟩:=zE h;refine⟨_,_,_,_,_,_,_,_,⟨_,y7n _ _ _ g⟩,?_⟩;rintro _ rfl;refine zG zq2 h (fun _ h=>?_) (fun _ h=>?_)
   ·refine⟨by simp[zD,D.cells],?_⟩;refine⟨by first|rfl|decide|simp only[zq3,List.length_cons,List.length_nil,List.map_append,List.length_append],?_⟩;obtain⟨hP,h⟩:=jR h;refine⟨by first|exact hP|simpa using hP,?_⟩;refine zZ (e':=List.map zA.toD (L++[q1.T_])) (by first|rfl|simp only[List.map_append,List.map_cons,List.map_nil,List.map_take,List.map_drop,List.map_set,List.map_replicate,zq3,zA.toD_eq]) ?_
    refine⟨by first|rfl|decide|simp only[zq3,List.length_cons,List.length_nil,List.map_append,List.length_append],?_⟩;rintro _ rfl;exact v4P _ _ _ _ _ _ _ _ _ _ h
   cases h;exact⟨rfl,rfl⟩
  cases h;exact⟨rfl,rfl⟩
theorem z9J(i:Int)(m o2:zA)(K N:Int)(S:Str)(L:List zA)(From To:Int)(r:zA×Int×Int)(h:yC i m o2 K N S L From To=some r):z5t (.yC i m o2 K N S L From To) r:=z9C (.yC i m o2 K N S L From To) r h
theorem y3E(m:zA)(r:zA×Int×Int)(h:z5e m=some r):Trip Try.prog 11 [.d (tT m)] [] [.d (tT r.1),(nI r.2.1),(nI r.2.2)] []:=by
 unfold z5e at h;refine zH 1000 (y4h _ _ _ _ m) ?_;rintro _ rfl;refine zG zq2 h (fun _ h=>?_) (fun _ h=>?_)
 ·exact z9J _ _ _ _ _ _ _ _ _ _ h
 cases h;exact⟨rfl,rfl⟩
theorem y5f(m:zA)(r:Bool)(h:z4v m=some r):Trip Try.prog 5 [.d (tT m)] [] [(nB r)] []:=by
 unfold z4v at h;refine zH 1000 (y6a _ _ _ _ m) ?_;obtain⟨q1,g,h⟩:=zE h;refine⟨_,_,_,_,_,_,_,_,⟨_,y3E _ _ g⟩,?_⟩;rintro _ rfl;refine zC zq2 h (fun _ h=>?_) (fun _ h=>?_)
 ·obtain⟨q2,g,h⟩:=zE h;refine⟨_,⟨_,y3y _ _ _ g⟩,?_⟩;cases h;exact⟨rfl,rfl⟩
 cases h;exact⟨rfl,rfl⟩
def z9f:(i:gW)→z5Z i→Prop
 |.vZ t left levels,r=>Trip Try.prog 20 [.d (tT t),(nI left),(nI levels)] [] [(nI r)] []
 |.yI left levels i t,r=>Ok (z6p (Trip Try.prog) [(nI r)] []) (kL Try.f20 5) ⟨33,[(1,(nI left)),(2,(nI levels)),(3,.ref 3 1 0),(7,(nI i))],[(3,1,some (.agg (tT t)))],[],0⟩
theorem y4Q:∀i r,jT z1n i=some r→z9f i r:=by
 refine zX z5G fun g ih i=>?_;cases i with
 |vZ t left levels=>
  have v4q:=fun left levels i t r h=>ih (.yI left levels i t) r h;intro r h;replace h:z1u (fun left levels i t=>g (gW.yI left levels i t)) t left levels=some r:=h;unfold z1u at h;refine zH 1000 (y5O _ _ _ _ t left levels) ?_;rintro _ rfl;refine zC decide_eq_true_iff h (fun _ h=>?_) (fun _ h=>?_)
  ·cases h;exact⟨rfl,rfl⟩
  rintro _ rfl;exact v4q _ _ _ _ _ h
 |yI left levels i t=>
  have v4p:=fun t left levels r h=>ih (.vZ t left levels) r h;have v4q:=fun left levels i t r h=>ih (.yI left levels i t) r h;intro r h;replace h:jF (fun t left levels=>g (gW.vZ t left levels)) (fun left levels i t=>g (gW.yI left levels i t)) left levels i t=some r:=h;unfold jF at h;refine jV 1000 (y1f _ _ _ _ left levels i t) ?_;refine zZ (e':=(List.length t.L:Int)) (by first|rfl|rw[zq3]) ?_;rintro _ rfl;refine zC decide_eq_true_iff h (fun _ h=>?_) (fun _ h=>?_)
  ·rintro _ rfl;refine zC decide_eq_true_iff h (fun _ h=>?_) (fun _ h=>?_)
   ·obtain⟨x,hx,h⟩:=zE h;refine⟨zF (l:=t.L) (zA.sz),vO hx,x.K,x.N,x.S,List.map zA.toD x.L,x.From,x.To,zP (zA.toD_eq x) hx,?_⟩;rintro _ rfl;obtain⟨q1,g,h⟩:=zE h;refine⟨_,⟨_,v4p _ _ _ _ g⟩,?_⟩;rintro _ rfl;exact v4q _ _ _ _ _ h
   cases h;exact⟨rfl,rfl⟩
  cases h;exact⟨rfl,rfl⟩
theorem y4Y(t:zA)(left levels r:Int)(h:vZ t left levels=some r):z9f (.vZ t left levels) r:=y4Q (.vZ t left levels) r h
def z9g:(i:gX)→z6a i→Prop
 |.wA t,r=>Trip Try.prog 21 [.d (tT t)] [] [(nB r)] []
 |.yJ i t,r=>Ok (z6q (Trip Try.prog) [(nB r)] []) (kL Try.f21 4) ⟨21,[(1,.ref 1 1 0),(3,(nI i))],[(1,1,some (.agg (tT t)))],[],0⟩
theorem y4R:∀i r,jT z1o i=some r→z9g i r:=by
 refine zX z5H fun g ih i=>?_;cases i with
 |wA t=>
  have v4s:=fun i t r h=>ih (.yJ i t) r h;intro r h;replace h:z1v (fun i t=>g (gX.yJ i t)) t=some r:=h;unfold z1v at h;refine zH 1000 (y5Q _ _ _ _ t) ?_;rintro _ rfl;rintro _ rfl;refine zC decide_eq_true_iff h (fun _ h=>?_) (fun _ h=>?_)
  ·cases h;exact⟨rfl,rfl⟩
  exact v4s _ _ _ h
 |yJ i t=>
  have v4r:=fun t r h=>ih (.wA t) r h;have v4s:=fun i t r h=>ih (.yJ i t) r h;intro r h;replace h:jG (fun t=>g (gX.wA t)) (fun i t=>g (gX.yJ i t)) i t=some r:=h;unfold jG at h;refine jV 1000 (y1g _ _ _ _ i t) ?_;refine zZ (e':=(List.length t.L:Int)) (by first|rfl|rw[zq3]) ?_;rintro _ rfl;refine zC decide_eq_true_iff h (fun _ h=>?_) (fun _ h=>?_)
  ·obtain⟨x,hx,h⟩:=zE h;refine⟨zF (l:=t.L) (zA.sz),vO hx,x.K,x.N,x.S,List.map zA.toD x.L,x.From,x.To,zP (zA.toD_eq x) hx,?_⟩;obtain⟨q1,g,h⟩:=zE h;refine⟨_,⟨_,v4r _ _ g⟩,?_⟩;refine zC Iff.rfl h (fun _ h=>?_) (fun _ h=>?_)
   ·cases h;exact⟨rfl,rfl⟩
   rintro _ rfl;exact v4s _ _ _ h
  cases h;exact⟨rfl,rfl⟩
theorem y4Z(t:zA)(r:Bool)(h:wA t=some r):z9g (.wA t) r:=y4R (.wA t) r h
theorem z0w(t:zA)(r:Bool)(h:uK t=some r):Trip Try.prog 9 [.d (tT t)] [] [(nB r)] []:=by
 unfold uK at h;refine zH 1000 (y5P _ _ _ _ t) ?_;obtain⟨q1,g,h⟩:=zE h;refine⟨_,⟨_,y4Y _ _ _ _ g⟩,?_⟩;rintro _ rfl;refine zC decide_eq_true_iff h (fun _ h=>?_) (fun _ h=>?_)
 ·cases h;exact⟨rfl,rfl⟩
 obtain⟨q2,g,h⟩:=zE h;refine⟨_,⟨_,y4Z _ _ g⟩,?_⟩;cases h;exact⟨rfl,rfl⟩
def z9j:(i:gY)→z6d i→Prop
 |.wB v left levels,r=>Trip Try.prog 34 [.d (tV v),(nI left),(nI levels)] [] [(nI r)] []
 |.yL left levels i v,r=>Ok (z6w (Trip Try.prog) [(nI r)] []) (kL Try.f34 5) ⟨33,[(1,(nI left)),(2,(nI levels)),(3,.ref 3 1 0),(7,(nI i))],[(3,1,some (.agg (tV v)))],[],0⟩
theorem y4U:∀i r,jT z1p i=some r→z9j i r:=by
 refine zX z5L fun g ih i=>?_;cases i with
 |wB v left levels=>
  have v4X:=fun left levels i v r h=>ih (.yL left levels i v) r h;intro r h;replace h:z1A (fun left levels i v=>g (gY.yL left levels i v)) v left levels=some r:=h;unfold z1A at h;refine zH 1000 (y6d _ _ _ _ v left levels) ?_;rintro _ rfl;refine zC decide_eq_true_iff h (fun _ h=>?_) (fun _ h=>?_)
  ·cases h;exact⟨rfl,rfl⟩
  rintro _ rfl;exact v4X _ _ _ _ _ h
 |yL left levels i v=>
  have v4W:=fun v left levels r h=>ih (.wB v left levels) r h;have v4X:=fun left levels i v r h=>ih (.yL left levels i v) r h;intro r h;replace h:jM (fun v left levels=>g (gY.wB v left levels)) (fun left levels i v=>g (gY.yL left levels i v)) left levels i v=some r:=h;unfold jM at h;refine jV 1000 (y1q _ _ _ _ left levels i v) ?_;refine zZ (e':=(List.length v.L:Int)) (by first|rfl|rw[zq3]) ?_;rintro _ rfl;refine zC decide_eq_true_iff h (fun _ h=>?_) (fun _ h=>?_)
  ·rintro _ rfl;refine zC decide_eq_true_iff h (fun _ h=>?_) (fun _ h=>?_)
   ·obtain⟨x,hx,h⟩:=zE h;refine⟨zF (l:=v.L) (Value.sz),vO hx,x.N,List.map Value.toD x.L,zP (Value.toD_eq x) hx,?_⟩;rintro _ rfl;obtain⟨q1,g,h⟩:=zE h;refine⟨_,⟨_,v4W _ _ _ _ g⟩,?_⟩;rintro _ rfl;exact v4X _ _ _ _ _ h
   cases h;exact⟨rfl,rfl⟩
  cases h;exact⟨rfl,rfl⟩
theorem y5h(v:Value)(left levels r:Int)(h:wB v left levels=some r):z9j (.wB v left levels) r:=y4U (.wB v left levels) r h
theorem z9p(v:Value)(r:Bool)(h:z3l v=some r):Trip Try.prog 22 [.d (tV v)] [] [(nB r)] []:=by
 unfold z3l at h;refine zH 1000 (y6e _ _ _ _ v) ?_;obtain⟨q1,g,h⟩:=zE h;refine⟨_,⟨_,y5h _ _ _ _ g⟩,?_⟩;rintro _ rfl;cases h;exact⟨rfl,rfl⟩
def z5W:(i:z1N)→z3t i→Prop
 |.yV l i,r=>Ok (z6y (Trip Try.prog) [(nB r)] []) (kL Try.f23 2) ⟨22,[(0,.d (.sl (List.map Value.toD l))),(3,(nI i))],[],[],0⟩
theorem y0p:∀i r,jT z1G i=some r→z5W i r:=by
 refine zX z5N fun g ih i=>?_;cases i with
 |yV l i=>
  have v5a:=fun l i r h=>ih (.yV l i) r h;intro r h;replace h:jN (fun l i=>g (z1N.yV l i)) l i=some r:=h;unfold jN at h;refine jV 1000 (y1t _ _ _ _ l i) ?_;refine zZ (e':=(List.length l:Int)) (by first|rfl|rw[zq3]) ?_;rintro _ rfl;refine zC decide_eq_true_iff h (fun _ h=>?_) (fun _ h=>?_)
  ·rintro _ rfl;refine zC decide_eq_true_iff h (fun _ h=>?_) (fun _ h=>?_)
   ·obtain⟨x,hx,h⟩:=zE h;refine⟨zF (l:=l) (Value.sz),vO hx,x.N,List.map Value.toD x.L,zP (Value.toD_eq x) hx,?_⟩;obtain⟨q1,g,h⟩:=zE h;refine⟨_,⟨_,z9p _ _ g⟩,?_⟩;refine zC Iff.rfl h (fun _ h=>?_) (fun _ h=>?_)
    ·cases h;exact⟨rfl,rfl⟩
    rintro _ rfl;exact v5a _ _ _ h
   refine zZ (e':=(List.length l:Int)) (by first|rfl|rw[zq3]) ?_;rintro _ rfl;cases h;exact⟨rfl,rfl⟩
  refine zZ (e':=(List.length l:Int)) (by first|rfl|rw[zq3]) ?_;rintro _ rfl;cases h;exact⟨rfl,rfl⟩
theorem y0J(l:List Value)(i:Int)(r:Bool)(h:yV l i=some r):z5W (.yV l i) r:=y0p (.yV l i) r h
theorem z9q(l:List Value)(r:Bool)(h:z3m l=some r):Trip Try.prog 23 [.d (.sl (List.map Value.toD l))] [] [(nB r)] []:=by
 unfold z3m at h;refine zH 1000 (y6g _ _ _ _ l) ?_;exact y0J _ _ _ h
theorem z9r(s:State)(r:Bool)(h:z2t s=some r):Trip Try.prog 10 [.d (tS s)] [] [(nB r)] []:=by
 unfold z2t at h;refine zH 1000 (y6h _ _ _ _ s) ?_;refine zZ (e':=(List.length s.Globals:Int)) (by first|rfl|rw[zq3]) ?_;rintro _ rfl;refine zC decide_eq_true_iff h (fun _ h=>?_) (fun _ h=>?_)
 ·cases h;exact⟨rfl,rfl⟩
 refine zZ (e':=(List.length s.Locals:Int)) (by first|rfl|rw[zq3]) ?_;rintro _ rfl;refine zC decide_eq_true_iff h (fun _ h=>?_) (fun _ h=>?_)
 ·cases h;exact⟨rfl,rfl⟩
 refine zZ (e':=(List.length s.Input:Int)) (by first|rfl|rw[zq3]) ?_;rintro _ rfl;refine zC decide_eq_true_iff h (fun _ h=>?_) (fun _ h=>?_)
 ·cases h;exact⟨rfl,rfl⟩
 refine zZ (e':=(List.length s.Trace:Int)) (by first|rfl|rw[zq3]) ?_;rintro _ rfl;refine zC decide_eq_true_iff h (fun _ h=>?_) (fun _ h=>?_)
 ·cases h;exact⟨rfl,rfl⟩
 rintro _ rfl;refine zC decide_eq_true_iff h (fun _ h=>?_) (fun _ h=>?_)
 ·cases h;exact⟨rfl,rfl⟩
 obtain⟨q1,g,h⟩:=zE h;refine⟨_,⟨_,z9p _ _ g⟩,?_⟩;refine zC Iff.rfl h (fun _ h=>?_) (fun _ h=>?_)
 ·cases h;exact⟨rfl,rfl⟩
 obtain⟨q2,g,h⟩:=zE h;refine⟨_,⟨_,z9q _ _ g⟩,?_⟩;refine zC Iff.rfl h (fun _ h=>?_) (fun _ h=>?_)
 ·cases h;exact⟨rfl,rfl⟩
 obtain⟨q3,g,h⟩:=zE h;refine⟨_,⟨_,z9q _ _ g⟩,?_⟩;cases h;exact⟨rfl,rfl⟩
def z5X:(i:z1O)→z3u i→Prop
 |.yW i c,r=>Ok (z6A (Trip Try.prog) [(nB r)] []) (kL Try.f4 2) ⟨45,[(1,.ref 1 1 0),(3,(nI i))],[(1,1,some (.agg (.agg [(.int .i64 c.M.K),(.int .i64 c.M.N),(.str c.M.S),(.sl (List.map zA.toD c.M.L)),(.int .i64 c.M.From),(.int .i64 c.M.To),(.sl (List.map zA.toD c.Types)),(.sl (List.map Value.toD c.S.Globals)),(.sl (List.map Value.toD c.S.Locals)),(.sl (List.map (D.int .i64) c.S.Input)),(.int .i64 c.S.At),(.sl (List.map (D.int .i64) c.S.Trace)),(.int .i64 c.S.Fuel),(.int .i64 c.S.Kind),(.int .i64 c.S.N),(.int .i64 c.S.Ret.N),(.sl (List.map Value.toD c.S.Ret.L)),(.int .i64 c.Rule),(.int .i64 c.L.K),(.int .i64 c.L.N),(.str c.L.S),(.sl (List.map zA.toD c.L.L)),(.int .i64 c.L.From),(.int .i64 c.L.To),(.int .i64 c.R.K),(.int .i64 c.R.N),(.str c.R.S),(.sl (List.map zA.toD c.R.L)),(.int .i64 c.R.From),(.int .i64 c.R.To)])))],[],0⟩
theorem y0q:∀i r,jT z1H i=some r→z5X i r:=by
 refine zX z5P fun g ih i=>?_;cases i with
 |yW i c=>
  have v5d:=fun i c r h=>ih (.yW i c) r h;intro r h;replace h:jP (fun i c=>g (z1O.yW i c)) i c=some r:=h;unfold jP at h;refine jV 1000 (y1v _ _ _ _ i c) ?_;refine zZ (e':=(List.length c.Types:Int)) (by first|rfl|rw[zq3]) ?_;rintro _ rfl;refine zC decide_eq_true_iff h (fun _ h=>?_) (fun _ h=>?_)
  ·rintro _ rfl;refine zC decide_eq_true_iff h (fun _ h=>?_) (fun _ h=>?_)
   ·obtain⟨x,hx,h⟩:=zE h;refine⟨zF (l:=c.Types) (zA.sz),vO hx,x.K,x.N,x.S,List.map zA.toD x.L,x.From,x.To,zP (zA.toD_eq x) hx,?_⟩;obtain⟨q1,g,h⟩:=zE h;refine⟨_,⟨_,z0w _ _ g⟩,?_⟩;refine zC Iff.rfl h (fun _ h=>?_) (fun _ h=>?_)
    ·cases h;exact⟨rfl,rfl⟩
    rintro _ rfl;exact v5d _ _ _ h
   refine zZ (e':=(List.length c.Types:Int)) (by first|rfl|rw[zq3]) ?_;rintro _ rfl;refine zC decide_eq_true_iff h (fun _ h=>?_) (fun _ h=>?_)
   ·cases h;exact⟨rfl,rfl⟩
   obtain⟨q2,g,h⟩:=zE h;refine⟨_,⟨_,z0w _ _ g⟩,?_⟩;refine zC Iff.rfl h (fun _ h=>?_) (fun _ h=>?_)
   ·cases h;exact⟨rfl,rfl⟩
   obtain⟨q3,g,h⟩:=zE h;refine⟨_,⟨_,z0w _ _ g⟩,?_⟩;refine zC Iff.rfl h (fun _ h=>?_) (fun _ h=>?_)
   ·cases h;exact⟨rfl,rfl⟩
   obtain⟨q4,g,h⟩:=zE h;refine⟨_,⟨_,z0w _ _ g⟩,?_⟩;refine zC Iff.rfl h (fun _ h=>?_) (fun _ h=>?_)
   ·cases h;exact⟨rfl,rfl⟩
   obtain⟨q5,g,h⟩:=zE h;refine⟨_,⟨_,z9r _ _ g⟩,?_⟩;cases h;exact⟨rfl,rfl⟩
  refine zZ (e':=(List.length c.Types:Int)) (by first|rfl|rw[zq3]) ?_;rintro _ rfl;refine zC decide_eq_true_iff h (fun _ h=>?_) (fun _ h=>?_)
  ·cases h;exact⟨rfl,rfl⟩
  obtain⟨q6,g,h⟩:=zE h;refine⟨_,⟨_,z0w _ _ g⟩,?_⟩;refine zC Iff.rfl h (fun _ h=>?_) (fun _ h=>?_)
  ·cases h;exact⟨rfl,rfl⟩
  obtain⟨q7,g,h⟩:=zE h;refine⟨_,⟨_,z0w _ _ g⟩,?_⟩;refine zC Iff.rfl h (fun _ h=>?_) (fun _ h=>?_)
  ·cases h;exact⟨rfl,rfl⟩
  obtain⟨q8,g,h⟩:=zE h;refine⟨_,⟨_,z0w _ _ g⟩,?_⟩;refine zC Iff.rfl h (fun _ h=>?_) (fun _ h=>?_)
  ·cases h;exact⟨rfl,rfl⟩
  obtain⟨q9,g,h⟩:=zE h;refine⟨_,⟨_,z9r _ _ g⟩,?_⟩;cases h;exact⟨rfl,rfl⟩
theorem y0K(i:Int)(c:Ref25Rule)(r:Bool)(h:yW i c=some r):z5X (.yW i c) r:=y0q (.yW i c) r h
theorem y5k(c:Ref25Rule)(r:Bool)(h:z4A c=some r):Trip Try.prog 4 [.d (.agg [(.int .i64 c.M.K),(.int .i64 c.M.N),(.str c.M.S),(.sl (List.map zA.toD c.M.L)),(.int .i64 c.M.From),(.int .i64 c.M.To),(.sl (List.map zA.toD c.Types)),(.sl (List.map Value.toD c.S.Globals)),(.sl (List.map Value.toD c.S.Locals)),(.sl (List.map (D.int .i64) c.S.Input)),(.int .i64 c.S.At),(.sl (List.map (D.int .i64) c.S.Trace)),(.int .i64 c.S.Fuel),(.int .i64 c.S.Kind),(.int .i64 c.S.N),(.int .i64 c.S.Ret.N),(.sl (List.map Value.toD c.S.Ret.L)),(.int .i64 c.Rule),(.int .i64 c.L.K),(.int .i64 c.L.N),(.str c.L.S),(.sl (List.map zA.toD c.L.L)),(.int .i64 c.L.From),(.int .i64 c.L.To),(.int .i64 c.R.K),(.int .i64 c.R.N),(.str c.R.S),(.sl (List.map zA.toD c.R.L)),(.int .i64 c.R.From),(.int .i64 c.R.To)])] [] [(nB r)] []:=by
 unfold z4A at h;refine zH 1000 (y6j _ _ _ _ c) ?_;exact y0K _ _ _ h
theorem z4a(t:zA)(r:Bool)(h:z0D t=some r):Trip Try.prog 32 [.d (tT t)] [] [(nB r)] []:=by
 unfold z0D at h;refine zH 1000 (y2F _ _ _ _ t) ?_;rintro _ rfl;refine zC zq2 h (fun _ h=>?_) (fun _ h=>?_)
 ·refine zZ (e':=(List.length t.L:Int)) (by first|rfl|rw[zq3]) ?_;rintro _ rfl;refine zC zq2 h (fun _ h=>?_) (fun _ h=>?_)
  ·rintro _ rfl;refine zC zq2 h (fun _ h=>?_) (fun _ h=>?_)
   ·cases h;exact⟨rfl,rfl⟩
   rintro _ rfl;refine zC zq2 h (fun _ h=>?_) (fun _ h=>?_)
   ·rintro _ rfl;refine zC zq2 h (fun _ h=>?_) (fun _ h=>?_)
    ·cases h;exact⟨rfl,rfl⟩
    rintro _ rfl;cases h;exact⟨rfl,rfl⟩
   cases h;exact⟨rfl,rfl⟩
  cases h;exact⟨rfl,rfl⟩
 cases h;exact⟨rfl,rfl⟩
def z9k:(i:gZ)→z6e i→Prop
 |.wC t,r=>Trip Try.prog 52 [.d (tT t)] [] [(nB r)] []
 |.zL i t,r=>Ok (z6z (Trip Try.prog) [(nB r)] []) (kL Try.f52 7) ⟨93,[(1,.ref 1 1 0),(4,(nI i))],[(1,1,some (.agg (tT t)))],[],0⟩
theorem y4V:∀i r,jT z1q i=some r→z9k i r:=by
 refine zX z5O fun g ih i=>?_;cases i with
 |wC t=>
  have v5c:=fun i t r h=>ih (.zL i t) r h;intro r h;replace h:z0C (fun i t=>g (gZ.zL i t)) t=some r:=h;unfold z0C at h;refine zH 1000 (y6i _ _ _ _ t) ?_;rintro _ rfl;refine zG zq2 h (fun hc403 h=>?_) (fun hc403 h=>?_)
  ·rintro _ rfl;refine yR zq2 (fun e=>absurd (hc403.symm.trans e) (by decide)) ?_;exact v5c _ _ _ h
  rintro _ rfl;refine zG zq2 h (fun hc404 h=>?_) (fun hc404 h=>?_)
  ·rintro _ rfl;refine yR zq2 (fun e=>absurd (hc404.symm.trans e) (by decide)) ?_;exact v5c _ _ _ h
  rintro _ rfl;refine zG zq2 h (fun hc405 h=>?_) (fun hc405 h=>?_)
  ·rintro _ rfl;refine yR zq2 (fun e=>absurd (hc405.symm.trans e) (by decide)) ?_;exact v5c _ _ _ h
  rintro _ rfl;refine zG zq2 h (fun hc406 h=>?_) (fun hc406 h=>?_)
  ·rintro _ rfl;refine yR zq2 (fun e=>absurd (hc406.symm.trans e) (by decide)) ?_;exact v5c _ _ _ h
  rintro _ rfl;refine zG zq2 h (fun hc407 h=>?_) (fun hc407 h=>?_)
  ·rintro _ rfl;refine yR zq2 (fun e=>absurd (hc407.symm.trans e) (by decide)) ?_;exact v5c _ _ _ h
  rintro _ rfl;refine zG zq2 h (fun hc408 h=>?_) (fun hc408 h=>?_)
  ·rintro _ rfl;refine yR zq2 (fun e=>absurd (hc408.symm.trans e) (by decide)) ?_;exact v5c _ _ _ h
  rintro _ rfl;refine zG zq2 h (fun hc409 h=>?_) (fun hc409 h=>?_)
  ·rintro _ rfl;refine yR zq2 (fun e=>absurd (hc409.symm.trans e) (by decide)) ?_;exact v5c _ _ _ h
  rintro _ rfl;refine zG zq2 h (fun hc410 h=>?_) (fun hc410 h=>?_)
  ·rintro _ rfl;refine yR zq2 (fun e=>absurd (hc410.symm.trans e) (by decide)) ?_;exact v5c _ _ _ h
  rintro _ rfl;refine zG zq2 h (fun hc411 h=>?_) (fun hc411 h=>?_)
  ·rintro _ rfl;refine yR zq2 (fun e=>absurd (hc411.symm.trans e) (by decide)) ?_;exact v5c _ _ _ h
  rintro _ rfl;refine zG zq2 h (fun hc412 h=>?_) (fun hc412 h=>?_)
  ·rintro _ rfl;refine gR zq2 hc412 ?_;rintro _ rfl;refine zC zq2 h (fun _ h=>?_) (fun _ h=>?_)
   ·refine zZ (e':=(List.length t.L:Int)) (by first|rfl|rw[zq3]) ?_;rintro _ rfl;refine zC decide_eq_true_iff h (fun _ h=>?_) (fun _ h=>?_)
    ·cases h;exact⟨rfl,rfl⟩
    obtain⟨x,hx,h⟩:=zE h;refine⟨zF (l:=t.L) (zA.sz),vO hx,x.K,x.N,x.S,List.map zA.toD x.L,x.From,x.To,zP (zA.toD_eq x) hx,?_⟩;rintro _ rfl;refine zG zq2 h (fun _ h=>?_) (fun _ h=>?_)
    ·obtain⟨x1,hx,h⟩:=zE h;refine⟨zF (l:=t.L) (zA.sz),vO hx,x1.K,x1.N,x1.S,List.map zA.toD x1.L,x1.From,x1.To,zP (zA.toD_eq x1) hx,?_⟩;rintro _ rfl;refine zC zq2 h (fun _ h=>?_) (fun _ h=>?_)
     ·cases h;exact⟨rfl,rfl⟩
     exact v5c _ _ _ h
    cases h;exact⟨rfl,rfl⟩
   rintro _ rfl;refine zC zq2 h (fun _ h=>?_) (fun _ h=>?_)
   ·refine zZ (e':=(List.length t.L:Int)) (by first|rfl|rw[zq3]) ?_;rintro _ rfl;refine zC decide_eq_true_iff h (fun _ h=>?_) (fun _ h=>?_)
    ·cases h;exact⟨rfl,rfl⟩
    obtain⟨x2,hx,h⟩:=zE h;refine⟨zF (l:=t.L) (zA.sz),vO hx,x2.K,x2.N,x2.S,List.map zA.toD x2.L,x2.From,x2.To,zP (zA.toD_eq x2) hx,?_⟩;rintro _ rfl;refine zG zq2 h (fun _ h=>?_) (fun _ h=>?_)
    ·obtain⟨x3,hx,h⟩:=zE h;refine⟨zF (l:=t.L) (zA.sz),vO hx,x3.K,x3.N,x3.S,List.map zA.toD x3.L,x3.From,x3.To,zP (zA.toD_eq x3) hx,?_⟩;rintro _ rfl;refine zC zq2 h (fun _ h=>?_) (fun _ h=>?_)
     ·cases h;exact⟨rfl,rfl⟩
     exact v5c _ _ _ h
    cases h;exact⟨rfl,rfl⟩
   exact v5c _ _ _ h
  cases h;exact⟨rfl,rfl⟩
 |zL i t=>
  have v5b:=fun t r h=>ih (.wC t) r h;have v5c:=fun i t r h=>ih (.zL i t) r h;intro r h;replace h:jO (fun t=>g (gZ.wC t)) (fun i t=>g (gZ.zL i t)) i t=some r:=h;unfold jO at h;refine jV 1000 (y1u _ _ _ _ i t) ?_;refine zZ (e':=(List.length t.L:Int)) (by first|rfl|rw[zq3]) ?_;rintro _ rfl;refine zC decide_eq_true_iff h (fun _ h=>?_) (fun _ h=>?_)
  ·obtain⟨x,hx,h⟩:=zE h;refine⟨zF (l:=t.L) (zA.sz),vO hx,x.K,x.N,x.S,List.map zA.toD x.L,x.From,x.To,zP (zA.toD_eq x) hx,?_⟩;obtain⟨q1,g,h⟩:=zE h;refine⟨_,⟨_,v5b _ _ g⟩,?_⟩;refine zG Iff.rfl h (fun _ h=>?_) (fun _ h=>?_)
   ·rintro _ rfl;exact v5c _ _ _ h
   cases h;exact⟨rfl,rfl⟩
  cases h;exact⟨rfl,rfl⟩
theorem y5j(t:zA)(r:Bool)(h:wC t=some r):z9k (.wC t) r:=y4V (.wC t) r h
def z7r:(i:z2y)→z3Z i→Prop
 |.vF l at_ i o4,r=>Ok (z7P (Trip Try.prog) [.d (tT r.1),(nB r.2)] []) (kL Try.f33 4) ⟨38,[(0,.d (.sl (List.map zA.toD l))),(1,(nI at_)),(4,.ref 4 1 0),(6,(nI i))],[(4,1,some (.agg (tT o4)))],[],0⟩
theorem y2m:∀i r,jT z2x i=some r→z7r i r:=by
 refine zX z7q fun g ih i=>?_;cases i with
 |vF l at_ i o4=>
  have v5e:=fun l at_ i o4 r h=>ih (.vF l at_ i o4) r h;intro r h;replace h:gJ (fun l at_ i o4=>g (z2y.vF l at_ i o4)) l at_ i o4=some r:=h;unfold gJ at h;refine jV 1000 (y2G _ _ _ _ l at_ i o4) ?_;refine zZ (e':=(List.length l:Int)) (by first|rfl|rw[zq3]) ?_;rintro _ rfl;refine zC decide_eq_true_iff h (fun _ h=>?_) (fun _ h=>?_)
  ·rintro _ rfl;refine zG zq2 h (fun _ h=>?_) (fun _ h=>?_)
   ·rintro _ rfl;exact v5e _ _ _ _ _ h
   obtain⟨x,hx,h⟩:=zE h;refine⟨zF (l:=l) (zA.sz),vO hx,x.K,x.N,x.S,List.map zA.toD x.L,x.From,x.To,zP (zA.toD_eq x) hx,?_⟩;obtain⟨q1,g,h⟩:=zE h;refine⟨_,⟨_,y5j _ _ g⟩,?_⟩;refine zG Iff.rfl h (fun _ h=>?_) (fun _ h=>?_)
   ·rintro _ rfl;exact v5e _ _ _ _ _ h
   cases h;exact⟨rfl,rfl⟩
  obtain⟨x1,hx,h⟩:=zE h;refine⟨zF (l:=l) (zA.sz),vO hx,x1.K,x1.N,x1.S,List.map zA.toD x1.L,x1.From,x1.To,zP (zA.toD_eq x1) hx,?_⟩;cases h;exact⟨rfl,rfl⟩
theorem y2p(l:List zA)(at_ i:Int)(o4:zA)(r:zA×Bool)(h:vF l at_ i o4=some r):z7r (.vF l at_ i o4) r:=y2m (.vF l at_ i o4) r h
theorem y0L(l:List zA)(at_:Int)(r:zA×Bool)(h:z4B l at_=some r):Trip Try.prog 33 [.d (.sl (List.map zA.toD l)),(nI at_)] [] [.d (tT r.1),(nB r.2)] []:=by
 unfold z4B at h;refine zH 1000 (y8g _ _ _ _ l at_) ?_;rintro _ rfl;refine zC decide_eq_true_iff h (fun _ h=>?_) (fun _ h=>?_)
 ·cases h;exact⟨rfl,rfl⟩
 refine zZ (e':=(List.length l:Int)) (by first|rfl|rw[zq3]) ?_;rintro _ rfl;refine zC decide_eq_true_iff h (fun _ h=>?_) (fun _ h=>?_)
 ·cases h;exact⟨rfl,rfl⟩
 exact y2p _ _ _ _ _ h
theorem jC(b:Bool)(r:Int)(h:gA b=some r):Trip Try.prog 63 [(nB b)] [] [(nI r)] []:=by
 unfold gA at h;refine zH 1000 (y8e _ _ _ _ b) ?_;refine zC Iff.rfl h (fun _ h=>?_) (fun _ h=>?_)
 ·cases h;exact⟨rfl,rfl⟩
 cases h;exact⟨rfl,rfl⟩
theorem y2S(op a r:Int)(h:z7g op a=some r):Trip Try.prog 50 [(nI op),(nI a)] [] [(nI r)] []:=by
 unfold z7g at h;refine zH 1000 (y9I _ _ _ _ op a) ?_;rintro _ rfl;refine zC zq2 h (fun _ h=>?_) (fun _ h=>?_)
 ·rintro _ rfl;rintro _ rfl;rintro _ rfl;cases h;exact⟨rfl,rfl⟩
 rintro _ rfl;refine zC zq2 h (fun _ h=>?_) (fun _ h=>?_)
 ·rintro _ rfl;obtain⟨q1,g,h⟩:=zE h;refine⟨_,⟨_,jC _ _ g⟩,?_⟩;cases h;exact⟨rfl,rfl⟩
 cases h;exact⟨rfl,rfl⟩
def z5v:(i:z1h)→z2V i→Prop
 |.yB a b q left i,r=>Ok (z4W (Trip Try.prog) [.d (.int .u64 r.1),.d (.int .u64 r.2)] []) (kL Try.f69 4) ⟨39,[(0,.d (.int .u64 a)),(1,.d (.int .u64 b)),(6,.d (.int .u64 q)),(7,.d (.int .u64 left)),(8,(nI i))],[],[],0⟩
theorem z9E:∀i r,jT z1c i=some r→z5v i r:=by
 refine zX z5p fun g ih i=>?_;cases i with
 |yB a b q left i=>
  have v4Y:=fun a b q left i r h=>ih (.yB a b q left i) r h;intro r h;replace h:uQ (fun a b q left i=>g (z1h.yB a b q left i)) a b q left i=some r:=h;unfold uQ at h;refine jV 1000 (z9V _ _ _ _ a b q left i) ?_;rintro _ rfl;refine zC decide_eq_true_iff h (fun _ h=>?_) (fun _ h=>?_)
  ·rintro _ rfl;rintro _ rfl;rintro _ rfl;obtain⟨hP,h⟩:=jR h;refine⟨by first|exact hP|simpa using hP,?_⟩;rintro _ rfl;obtain⟨hP,h⟩:=jR h;refine⟨by first|exact hP|simpa using hP,?_⟩;rintro _ rfl;rintro _ rfl;rintro _ rfl;refine zC decide_eq_true_iff h (fun _ h=>?_) (fun _ h=>?_)
   ·rintro _ rfl;rintro _ rfl;rintro _ rfl;exact v4Y _ _ _ _ _ _ h
   rintro _ rfl;refine zC decide_eq_true_iff h (fun _ h=>?_) (fun _ h=>?_)
   ·rintro _ rfl;rintro _ rfl;rintro _ rfl;exact v4Y _ _ _ _ _ _ h
   rintro _ rfl;exact v4Y _ _ _ _ _ _ h
  cases h;exact⟨rfl,rfl⟩
theorem z9L(a b q left i:Int)(r:Int×Int)(h:yB a b q left i=some r):z5v (.yB a b q left i) r:=z9E (.yB a b q left i) r h
theorem y3F(a b:Int)(r:Int×Int)(h:z3L a b=some r):Trip Try.prog 69 [.d (.int .u64 a),.d (.int .u64 b)] [] [.d (.int .u64 r.1),.d (.int .u64 r.2)] []:=by
 unfold z3L at h;refine zH 1000 (y4j _ _ _ _ a b) ?_;exact z9L _ _ _ _ _ _ h
theorem y0H(a r:Int)(h:z4y a=some r):Trip Try.prog 70 [(nI a)] [] [.d (.int .u64 r)] []:=by
 unfold z4y at h;refine zH 1000 (y8f _ _ _ _ a) ?_;rintro _ rfl;refine zC decide_eq_true_iff h (fun _ h=>?_) (fun _ h=>?_)
 ·rintro _ rfl;rintro _ rfl;rintro _ rfl;rintro _ rfl;cases h;exact⟨rfl,rfl⟩
 rintro _ rfl;cases h;exact⟨rfl,rfl⟩
theorem z6k(a b:Int)(r:Int×Int)(h:z0Q a b=some r):Trip Try.prog 65 [(nI a),(nI b)] [] [(nI r.1),(nI r.2)] []:=by
 unfold z0Q at h;refine zH 1000 (y1r _ _ _ _ a b) ?_;obtain⟨q1,g,h⟩:=zE h;refine⟨_,⟨_,y0H _ _ g⟩,?_⟩;obtain⟨q2,g,h⟩:=zE h;refine⟨_,⟨_,y0H _ _ g⟩,?_⟩;obtain⟨q3,g,h⟩:=zE h;refine⟨_,_,⟨_,y3F _ _ _ g⟩,?_⟩;rintro _ rfl;rintro _ rfl;rintro _ rfl;rintro _ rfl;rintro _ rfl;refine zG zq2 h (fun _ h=>?_) (fun _ h=>?_)
 ·rintro _ rfl;refine zC decide_eq_true_iff h (fun _ h=>?_) (fun _ h=>?_)
  ·rintro _ rfl;rintro _ rfl;cases h;exact⟨rfl,rfl⟩
  cases h;exact⟨rfl,rfl⟩
 rintro _ rfl;rintro _ rfl;rintro _ rfl;refine zC decide_eq_true_iff h (fun _ h=>?_) (fun _ h=>?_)
 ·rintro _ rfl;rintro _ rfl;cases h;exact⟨rfl,rfl⟩
 cases h;exact⟨rfl,rfl⟩
def z5V:(i:z1M)→z3s i→Prop
 |.yN x y out,r=>Ok (z6x (Trip Try.prog) [(nI r)] []) (kL Try.f64 4) ⟨27,[(5,.d (.int .u64 x)),(6,.d (.int .u64 y)),(7,.d (.int .u64 out))],[],[],0⟩
theorem y0o:∀i r,jT z1F i=some r→z5V i r:=by
 refine zX z5M fun g ih i=>?_;cases i with
 |yN x y out=>
  have v4Z:=fun x y out r h=>ih (.yN x y out) r h;intro r h;replace h:gP (fun x y out=>g (z1M.yN x y out)) x y out=some r:=h;unfold gP at h;refine jV 1000 (y1s _ _ _ _ x y out) ?_;rintro _ rfl;refine zC decide_eq_true_iff h (fun _ h=>?_) (fun _ h=>?_)
  ·obtain⟨hP,h⟩:=jR h;refine⟨by first|exact hP|simpa using hP,?_⟩;rintro _ rfl;rintro _ rfl;refine zC zq2 h (fun _ h=>?_) (fun _ h=>?_)
   ·rintro _ rfl;rintro _ rfl;obtain⟨hP,h⟩:=jR h;refine⟨by first|exact hP|simpa using hP,?_⟩;rintro _ rfl;exact v4Z _ _ _ _ h
   rintro _ rfl;obtain⟨hP,h⟩:=jR h;refine⟨by first|exact hP|simpa using hP,?_⟩;rintro _ rfl;exact v4Z _ _ _ _ h
  rintro _ rfl;cases h;exact⟨rfl,rfl⟩
theorem y0I(x y out r:Int)(h:yN x y out=some r):z5V (.yN x y out) r:=y0o (.yN x y out) r h
theorem y5i(a b r:Int)(h:z4z a b=some r):Trip Try.prog 64 [(nI a),(nI b)] [] [(nI r)] []:=by
 unfold z4z at h;refine zH 1000 (y6f _ _ _ _ a b) ?_;rintro _ rfl;rintro _ rfl;exact y0I _ _ _ _ h
theorem y2T(op a b:Int)(r:Int×Int)(h:z7h op a b=some r):Trip Try.prog 51 [(nI op),(nI a),(nI b)] [] [(nI r.1),(nI r.2)] []:=by
 unfold z7h at h;refine zH 1000 (y9J _ _ _ _ op a b) ?_;rintro _ rfl;refine zC zq2 h (fun _ h=>?_) (fun _ h=>?_)
 ·rintro _ rfl;refine zC zq2 h (fun _ h=>?_) (fun _ h=>?_)
  ·rintro _ rfl;obtain⟨q1,g,h⟩:=zE h;refine⟨_,⟨_,jC _ _ g⟩,?_⟩;cases h;exact⟨rfl,rfl⟩
  obtain⟨q2,g,h⟩:=zE h;refine⟨_,⟨_,jC _ _ g⟩,?_⟩;cases h;exact⟨rfl,rfl⟩
 rintro _ rfl;refine zC zq2 h (fun _ h=>?_) (fun _ h=>?_)
 ·rintro _ rfl;refine zC zq2 h (fun _ h=>?_) (fun _ h=>?_)
  ·obtain⟨q3,g,h⟩:=zE h;refine⟨_,⟨_,jC _ _ g⟩,?_⟩;cases h;exact⟨rfl,rfl⟩
  rintro _ rfl;obtain⟨q4,g,h⟩:=zE h;refine⟨_,⟨_,jC _ _ g⟩,?_⟩;cases h;exact⟨rfl,rfl⟩
 rintro _ rfl;refine zC zq2 h (fun _ h=>?_) (fun _ h=>?_)
 ·rintro _ rfl;rintro _ rfl;rintro _ rfl;obtain⟨q5,g,h⟩:=zE h;refine⟨_,⟨_,jC _ _ g⟩,?_⟩;cases h;exact⟨rfl,rfl⟩
 rintro _ rfl;refine zC zq2 h (fun _ h=>?_) (fun _ h=>?_)
 ·rintro _ rfl;rintro _ rfl;rintro _ rfl;obtain⟨q6,g,h⟩:=zE h;refine⟨_,⟨_,jC _ _ g⟩,?_⟩;cases h;exact⟨rfl,rfl⟩
 rintro _ rfl;refine zC zq2 h (fun _ h=>?_) (fun _ h=>?_)
 ·rintro _ rfl;rintro _ rfl;rintro _ rfl;obtain⟨q7,g,h⟩:=zE h;refine⟨_,⟨_,jC _ _ g⟩,?_⟩;cases h;exact⟨rfl,rfl⟩
 rintro _ rfl;refine zC zq2 h (fun _ h=>?_) (fun _ h=>?_)
 ·rintro _ rfl;rintro _ rfl;rintro _ rfl;obtain⟨q8,g,h⟩:=zE h;refine⟨_,⟨_,jC _ _ g⟩,?_⟩;cases h;exact⟨rfl,rfl⟩
 rintro _ rfl;refine zC zq2 h (fun _ h=>?_) (fun _ h=>?_)
 ·rintro _ rfl;rintro _ rfl;rintro _ rfl;obtain⟨q9,g,h⟩:=zE h;refine⟨_,⟨_,jC _ _ g⟩,?_⟩;cases h;exact⟨rfl,rfl⟩
 rintro _ rfl;refine zC zq2 h (fun _ h=>?_) (fun _ h=>?_)
 ·rintro _ rfl;rintro _ rfl;rintro _ rfl;obtain⟨q10,g,h⟩:=zE h;refine⟨_,⟨_,jC _ _ g⟩,?_⟩;cases h;exact⟨rfl,rfl⟩
 rintro _ rfl;refine zC zq2 h (fun _ h=>?_) (fun _ h=>?_)
 ·rintro _ rfl;rintro _ rfl;rintro _ rfl;rintro _ rfl;cases h;exact⟨rfl,rfl⟩
 rintro _ rfl;refine zC zq2 h (fun _ h=>?_) (fun _ h=>?_)
 ·rintro _ rfl;rintro _ rfl;rintro _ rfl;rintro _ rfl;cases h;exact⟨rfl,rfl⟩
 rintro _ rfl;refine zC zq2 h (fun _ h=>?_) (fun _ h=>?_)
 ·obtain⟨q11,g,h⟩:=zE h;refine⟨_,⟨_,y5i _ _ _ g⟩,?_⟩;cases h;exact⟨rfl,rfl⟩
 rintro _ rfl;refine zG zq2 h (fun hc453 h=>?_) (fun hc453 h=>?_)
 ·rintro _ rfl;refine zC zq2 h (fun _ h=>?_) (fun _ h=>?_)
  ·cases h;exact⟨rfl,rfl⟩
  obtain⟨q13,g,h⟩:=zE h;refine⟨_,_,⟨_,z6k _ _ _ g⟩,?_⟩;rintro _ rfl;refine gR zq2 hc453 ?_;cases h;exact⟨rfl,rfl⟩
 rintro _ rfl;refine zG zq2 h (fun _ h=>?_) (fun _ h=>?_)
 ·rintro _ rfl;refine zC zq2 h (fun _ h=>?_) (fun _ h=>?_)
  ·cases h;exact⟨rfl,rfl⟩
  obtain⟨q12,g,h⟩:=zE h;refine⟨_,_,⟨_,z6k _ _ _ g⟩,?_⟩;rintro _ rfl;refine yR zq2 hc453 ?_;cases h;exact⟨rfl,rfl⟩
 cases h;exact⟨rfl,rfl⟩
def z5Y:(i:z1P)→z3v i→Prop
 |.vE i t o2 none_,r=>Ok (z6B (Trip Try.prog) [.d (tT r.1),(nB r.2)] []) (kL Try.f31 5) ⟨163,[(1,.ref 1 1 0),(2,.ref 2 1 0),(4,.ref 4 1 0),(5,(nI i))],[(1,1,some (.agg (tT t))),(2,1,some (.agg (tT o2))),(4,1,some (.agg (tT none_)))],[],0⟩
theorem y0r:∀i r,jT z1I i=some r→z5Y i r:=by
 refine zX z5Q fun g ih i=>?_;cases i with
 |vE i t o2 none_=>
  have v5f:=fun i t o2 none_ r h=>ih (.vE i t o2 none_) r h;intro r h;replace h:wK (fun i t o2 none_=>g (z1P.vE i t o2 none_)) i t o2 none_=some r:=h;unfold wK at h;refine jV 1000 (y1w _ _ _ _ i t o2 none_) ?_;refine zZ (e':=(List.length t.L:Int)) (by first|rfl|rw[zq3]) ?_;rintro _ rfl;refine zC decide_eq_true_iff h (fun _ h=>?_) (fun _ h=>?_)
  ·obtain⟨x,hx,h⟩:=zE h;refine⟨zF (l:=t.L) (zA.sz),vO hx,x.K,x.N,x.S,List.map zA.toD x.L,x.From,x.To,zP (zA.toD_eq x) hx,?_⟩;obtain⟨q1,g,h⟩:=zE h;refine⟨_,⟨_,z4a _ _ g⟩,?_⟩;refine zG Iff.rfl h (fun _ h=>?_) (fun _ h=>?_)
   ·obtain⟨x1,hx,h⟩:=zE h;refine⟨zF (l:=t.L) (zA.sz),vO hx,x1.K,x1.N,x1.S,List.map zA.toD x1.L,x1.From,x1.To,zP (zA.toD_eq x1) hx,?_⟩;obtain⟨x2,hx,h⟩:=zE h;refine⟨zF (l:=t.L) (zA.sz),vO hx,x2.K,x2.N,x2.S,List.map zA.toD x2.L,x2.From,x2.To,zP (zA.toD_eq x2) hx,?_⟩;rintro _ rfl;refine zG zq2 h (fun _ h=>?_) (fun _ h=>?_)
    ·rintro _ rfl;exact v5f _ _ _ _ _ h
    cases h;exact⟨rfl,rfl⟩
   cases h;exact⟨rfl,rfl⟩
  obtain⟨x3,hx,h⟩:=zE h;refine⟨zF (l:=t.L) (zA.sz),vO hx,x3.K,x3.N,x3.S,List.map zA.toD x3.L,x3.From,x3.To,zP (zA.toD_eq x3) hx,?_⟩;rintro _ rfl;rintro _ rfl;refine zC zq2 h (fun hc460 h=>?_) (fun hc460 h=>?_)
  ·refine zZ (e':=(List.length t.L:Int)) (by first|rfl|rw[zq3]) ?_;rintro _ rfl;refine zC zq2 h (fun _ h=>?_) (fun _ h=>?_)
   ·rintro _ rfl;refine zC zq2 h (fun hc462 h=>?_) (fun hc462 h=>?_)
    ·refine zC zq2 h (fun _ h=>?_) (fun _ h=>?_)
     ·obtain⟨x4,hx,h⟩:=zE h;refine⟨zF (l:=t.L) (zA.sz),vO hx,x4.K,x4.N,x4.S,List.map zA.toD x4.L,x4.From,x4.To,zP (zA.toD_eq x4) hx,?_⟩;obtain⟨x5,hx,h⟩:=zE h;refine⟨zF (l:=t.L) (zA.sz),vO hx,x5.K,x5.N,x5.S,List.map zA.toD x5.L,x5.From,x5.To,zP (zA.toD_eq x5) hx,?_⟩;obtain⟨q2,g,h⟩:=zE h;refine⟨_,⟨_,y2S _ _ _ g⟩,?_⟩;cases h;exact⟨rfl,rfl⟩
     rintro _ rfl;refine yR zq2 (fun e=>absurd (hc462.symm.trans e) (by decide)) ?_;rintro _ rfl;refine z2E zq2 (fun e=>absurd (hc460.symm.trans e) (by decide)) ?_;cases h;exact⟨rfl,rfl⟩
    rintro _ rfl;refine zC zq2 h (fun _ h=>?_) (fun _ h=>?_)
    ·refine zG zq2 h (fun _ h=>?_) (fun _ h=>?_)
     ·rintro _ rfl;refine z2E zq2 (fun e=>absurd (hc460.symm.trans e) (by decide)) ?_;cases h;exact⟨rfl,rfl⟩
     obtain⟨x24,hx,h⟩:=zE h;refine⟨zF (l:=t.L) (zA.sz),vO hx,x24.K,x24.N,x24.S,List.map zA.toD x24.L,x24.From,x24.To,zP (zA.toD_eq x24) hx,?_⟩;obtain⟨x25,hx,h⟩:=zE h;refine⟨zF (l:=t.L) (zA.sz),vO hx,x25.K,x25.N,x25.S,List.map zA.toD x25.L,x25.From,x25.To,zP (zA.toD_eq x25) hx,?_⟩;obtain⟨q12,g,h⟩:=zE h;refine⟨_,⟨_,y2S _ _ _ g⟩,?_⟩;cases h;exact⟨rfl,rfl⟩
    rintro _ rfl;refine z2E zq2 (fun e=>absurd (hc460.symm.trans e) (by decide)) ?_;cases h;exact⟨rfl,rfl⟩
   rintro _ rfl;refine z2E zq2 (fun e=>absurd (hc460.symm.trans e) (by decide)) ?_;cases h;exact⟨rfl,rfl⟩
  rintro _ rfl;refine zG zq2 h (fun _ h=>?_) (fun _ h=>?_)
  ·refine zZ (e':=(List.length t.L:Int)) (by first|rfl|rw[zq3]) ?_;rintro _ rfl;refine zG zq2 h (fun _ h=>?_) (fun _ h=>?_)
   ·rintro _ rfl;refine zC decide_eq_true_iff h (fun _ h=>?_) (fun _ h=>?_)
    ·cases h;exact⟨rfl,rfl⟩
    rintro _ rfl;refine zC decide_eq_true_iff h (fun _ h=>?_) (fun _ h=>?_)
    ·cases h;exact⟨rfl,rfl⟩
    refine zG zq2 h (fun hc470 h=>?_) (fun hc470 h=>?_)
    ·refine gR zq2 hc470 ?_;rintro _ rfl;refine zC decide_eq_true_iff h (fun _ h=>?_) (fun _ h=>?_)
     ·cases h;exact⟨rfl,rfl⟩
     obtain⟨x54,hx,h⟩:=zE h;refine⟨zF (l:=t.L) (zA.sz),vO hx,x54.K,x54.N,x54.S,List.map zA.toD x54.L,x54.From,x54.To,zP (zA.toD_eq x54) hx,?_⟩;obtain⟨x55,hx,h⟩:=zE h;refine⟨zF (l:=t.L) (zA.sz),vO hx,x55.K,x55.N,x55.S,List.map zA.toD x55.L,x55.From,x55.To,zP (zA.toD_eq x55) hx,?_⟩;obtain⟨q27,g,h⟩:=zE h;refine⟨_,_,⟨_,y2T _ _ _ _ g⟩,?_⟩;rintro _ rfl;refine zG zq2 h (fun _ h=>?_) (fun _ h=>?_)
     ·rintro _ rfl;refine zC decide_eq_true_iff h (fun _ h=>?_) (fun _ h=>?_)
      ·cases h;exact⟨rfl,rfl⟩
      cases h;exact⟨rfl,rfl⟩
     cases h;exact⟨rfl,rfl⟩
    rintro _ rfl;refine zC decide_eq_true_iff h (fun _ h=>?_) (fun _ h=>?_)
    ·cases h;exact⟨rfl,rfl⟩
    refine yR zq2 hc470 ?_;obtain⟨x52,hx,h⟩:=zE h;refine⟨zF (l:=t.L) (zA.sz),vO hx,x52.K,x52.N,x52.S,List.map zA.toD x52.L,x52.From,x52.To,zP (zA.toD_eq x52) hx,?_⟩;obtain⟨x53,hx,h⟩:=zE h;refine⟨zF (l:=t.L) (zA.sz),vO hx,x53.K,x53.N,x53.S,List.map zA.toD x53.L,x53.From,x53.To,zP (zA.toD_eq x53) hx,?_⟩;obtain⟨q26,g,h⟩:=zE h;refine⟨_,_,⟨_,y2T _ _ _ _ g⟩,?_⟩;rintro _ rfl;refine zG zq2 h (fun _ h=>?_) (fun _ h=>?_)
    ·rintro _ rfl;refine zC decide_eq_true_iff h (fun _ h=>?_) (fun _ h=>?_)
     ·cases h;exact⟨rfl,rfl⟩
     cases h;exact⟨rfl,rfl⟩
    cases h;exact⟨rfl,rfl⟩
   cases h;exact⟨rfl,rfl⟩
  cases h;exact⟨rfl,rfl⟩
theorem y0M(i:Int)(t o2 none_:zA)(r:zA×Bool)(h:vE i t o2 none_=some r):z5Y (.vE i t o2 none_) r:=y0r (.vE i t o2 none_) r h
theorem y5m(t:zA)(r:zA×Bool)(h:z4C t=some r):Trip Try.prog 31 [.d (tT t)] [] [.d (tT r.1),(nB r.2)] []:=by
 unfold z4C at h;refine zH 1000 (y6l _ _ _ _ t) ?_;rintro _ rfl;refine zG zq2 h (fun _ h=>?_) (fun _ h=>?_)
 ·refine zZ (e':=(List.length t.L:Int)) (by first|rfl|rw[zq3]) ?_;rintro _ rfl;refine zC zq2 h (fun _ h=>?_) (fun _ h=>?_)
  ·cases h;exact⟨rfl,rfl⟩
  refine zZ (e':=(List.length t.L:Int)) (by first|rfl|rw[zq3]) ?_;rintro _ rfl;refine zC decide_eq_true_iff h (fun _ h=>?_) (fun _ h=>?_)
  ·cases h;exact⟨rfl,rfl⟩
  exact y0M _ _ _ _ _ h
 cases h;exact⟨rfl,rfl⟩
theorem y7o(m:zA)(rule:Int)(l:zA)(r:zA×Bool)(h:z6T m rule l=some r):Trip Try.prog 18 [.d (tT m),(nI rule),.d (tT l)] [] [.d (tT r.1),(nB r.2)] []:=by
 unfold z6T at h;refine zH 1000 (y8h _ _ _ _ m rule l) ?_;rintro _ rfl;refine zC zq2 h (fun _ h=>?_) (fun _ h=>?_)
 ·obtain⟨q1,g,h⟩:=zE h;refine⟨_,_,_,_,_,_,_,⟨_,y5m _ _ g⟩,?_⟩;cases h;exact⟨rfl,rfl⟩
 rintro _ rfl;refine zG zq2 h (fun _ h=>?_) (fun _ h=>?_)
 ·rintro _ rfl;refine zC zq2 h (fun hc482 h=>?_) (fun hc482 h=>?_)
  ·rintro _ rfl;refine zC zq2 h (fun _ h=>?_) (fun _ h=>?_)
   ·refine zZ (e':=(List.length l.L:Int)) (by first|rfl|rw[zq3]) ?_;rintro _ rfl;refine zC zq2 h (fun _ h=>?_) (fun _ h=>?_)
    ·rintro _ rfl;refine zC decide_eq_true_iff h (fun _ h=>?_) (fun _ h=>?_)
     ·refine zZ (e':=(List.length m.L:Int)) (by first|rfl|rw[zq3]) ?_;rintro _ rfl;refine zC decide_eq_true_iff h (fun _ h=>?_) (fun _ h=>?_)
      ·obtain⟨x,hx,h⟩:=zE h;refine⟨zF (l:=m.L) (zA.sz),vO hx,x.K,x.N,x.S,List.map zA.toD x.L,x.From,x.To,zP (zA.toD_eq x) hx,?_⟩;rintro _ rfl;refine zC zq2 h (fun _ h=>?_) (fun _ h=>?_)
       ·refine zZ (e':=(List.length x.L:Int)) (by first|rfl|rw[zq3]) ?_;rintro _ rfl;refine zC zq2 h (fun _ h=>?_) (fun _ h=>?_)
        ·obtain⟨x1,hx,h⟩:=zE h;refine⟨zF (l:=x.L) (zA.sz),vO hx,x1.K,x1.N,x1.S,List.map zA.toD x1.L,x1.From,x1.To,zP (zA.toD_eq x1) hx,?_⟩;obtain⟨q2,g,h⟩:=zE h;refine⟨_,⟨_,z4a _ _ g⟩,?_⟩;refine zC Iff.rfl h (fun _ h=>?_) (fun _ h=>?_)
         ·obtain⟨x2,hx,h⟩:=zE h;refine⟨zF (l:=x.L) (zA.sz),vO hx,x2.K,x2.N,x2.S,List.map zA.toD x2.L,x2.From,x2.To,zP (zA.toD_eq x2) hx,?_⟩;cases h;exact⟨rfl,rfl⟩
         rintro _ rfl;refine yR zq2 (fun e=>absurd (hc482.symm.trans e) (by decide)) ?_;rintro _ rfl;refine yR zq2 (fun e=>absurd (hc482.symm.trans e) (by decide)) ?_;cases h;exact⟨rfl,rfl⟩
        rintro _ rfl;refine yR zq2 (fun e=>absurd (hc482.symm.trans e) (by decide)) ?_;rintro _ rfl;refine yR zq2 (fun e=>absurd (hc482.symm.trans e) (by decide)) ?_;cases h;exact⟨rfl,rfl⟩
       rintro _ rfl;refine yR zq2 (fun e=>absurd (hc482.symm.trans e) (by decide)) ?_;rintro _ rfl;refine yR zq2 (fun e=>absurd (hc482.symm.trans e) (by decide)) ?_;cases h;exact⟨rfl,rfl⟩
      rintro _ rfl;refine yR zq2 (fun e=>absurd (hc482.symm.trans e) (by decide)) ?_;rintro _ rfl;refine yR zq2 (fun e=>absurd (hc482.symm.trans e) (by decide)) ?_;cases h;exact⟨rfl,rfl⟩
     rintro _ rfl;refine yR zq2 (fun e=>absurd (hc482.symm.trans e) (by decide)) ?_;rintro _ rfl;refine yR zq2 (fun e=>absurd (hc482.symm.trans e) (by decide)) ?_;cases h;exact⟨rfl,rfl⟩
    rintro _ rfl;refine yR zq2 (fun e=>absurd (hc482.symm.trans e) (by decide)) ?_;rintro _ rfl;refine yR zq2 (fun e=>absurd (hc482.symm.trans e) (by decide)) ?_;cases h;exact⟨rfl,rfl⟩
   rintro _ rfl;refine yR zq2 (fun e=>absurd (hc482.symm.trans e) (by decide)) ?_;rintro _ rfl;refine yR zq2 (fun e=>absurd (hc482.symm.trans e) (by decide)) ?_;cases h;exact⟨rfl,rfl⟩
  rintro _ rfl;refine zC zq2 h (fun hc490 h=>?_) (fun hc490 h=>?_)
  ·rintro _ rfl;refine zC zq2 h (fun _ h=>?_) (fun _ h=>?_)
   ·refine zZ (e':=(List.length l.L:Int)) (by first|rfl|rw[zq3]) ?_;rintro _ rfl;refine zC zq2 h (fun _ h=>?_) (fun _ h=>?_)
    ·rintro _ rfl;refine zC decide_eq_true_iff h (fun _ h=>?_) (fun _ h=>?_)
     ·obtain⟨x325,hx,h⟩:=zE h;refine⟨zF (l:=l.L) (zA.sz),vO hx,x325.K,x325.N,x325.S,List.map zA.toD x325.L,x325.From,x325.To,zP (zA.toD_eq x325) hx,?_⟩;rintro _ rfl;refine zC zq2 h (fun _ h=>?_) (fun _ h=>?_)
      ·obtain⟨x326,hx,h⟩:=zE h;refine⟨zF (l:=l.L) (zA.sz),vO hx,x326.K,x326.N,x326.S,List.map zA.toD x326.L,x326.From,x326.To,zP (zA.toD_eq x326) hx,?_⟩;rintro _ rfl;refine zC zq2 h (fun _ h=>?_) (fun _ h=>?_)
       ·obtain⟨x327,hx,h⟩:=zE h;refine⟨zF (l:=l.L) (zA.sz),vO hx,x327.K,x327.N,x327.S,List.map zA.toD x327.L,x327.From,x327.To,zP (zA.toD_eq x327) hx,?_⟩;obtain⟨hP,h⟩:=jR h;refine⟨by first|exact hP|simpa using hP,?_⟩;rintro _ rfl;rintro _ rfl;refine zC zq2 h (fun _ h=>?_) (fun _ h=>?_)
        ·obtain⟨x328,hx,h⟩:=zE h;refine⟨zF (l:=l.L) (zA.sz),vO hx,x328.K,x328.N,x328.S,List.map zA.toD x328.L,x328.From,x328.To,zP (zA.toD_eq x328) hx,?_⟩;obtain⟨hP,h⟩:=jR h;refine⟨by first|exact hP|simpa using hP,?_⟩;rintro _ rfl;obtain⟨q108,g,h⟩:=zE h;refine⟨_,_,_,_,_,_,_,⟨_,y0L _ _ _ g⟩,?_⟩;cases h;exact⟨rfl,rfl⟩
        rintro _ rfl;refine yR zq2 (fun e=>absurd (hc490.symm.trans e) (by decide)) ?_;cases h;exact⟨rfl,rfl⟩
       rintro _ rfl;refine yR zq2 (fun e=>absurd (hc490.symm.trans e) (by decide)) ?_;cases h;exact⟨rfl,rfl⟩
      rintro _ rfl;refine yR zq2 (fun e=>absurd (hc490.symm.trans e) (by decide)) ?_;cases h;exact⟨rfl,rfl⟩
     rintro _ rfl;refine yR zq2 (fun e=>absurd (hc490.symm.trans e) (by decide)) ?_;cases h;exact⟨rfl,rfl⟩
    rintro _ rfl;refine yR zq2 (fun e=>absurd (hc490.symm.trans e) (by decide)) ?_;cases h;exact⟨rfl,rfl⟩
   rintro _ rfl;refine yR zq2 (fun e=>absurd (hc490.symm.trans e) (by decide)) ?_;cases h;exact⟨rfl,rfl⟩
  rintro _ rfl;refine zC zq2 h (fun _ h=>?_) (fun _ h=>?_)
  ·rintro _ rfl;refine zC zq2 h (fun _ h=>?_) (fun _ h=>?_)
   ·refine zZ (e':=(List.length l.L:Int)) (by first|rfl|rw[zq3]) ?_;rintro _ rfl;refine zC zq2 h (fun _ h=>?_) (fun _ h=>?_)
    ·obtain⟨x365,hx,h⟩:=zE h;refine⟨zF (l:=l.L) (zA.sz),vO hx,x365.K,x365.N,x365.S,List.map zA.toD x365.L,x365.From,x365.To,zP (zA.toD_eq x365) hx,?_⟩;rintro _ rfl;refine zC zq2 h (fun _ h=>?_) (fun _ h=>?_)
     ·obtain⟨x366,hx,h⟩:=zE h;refine⟨zF (l:=l.L) (zA.sz),vO hx,x366.K,x366.N,x366.S,List.map zA.toD x366.L,x366.From,x366.To,zP (zA.toD_eq x366) hx,?_⟩;rintro _ rfl;refine zC zq2 h (fun _ h=>?_) (fun _ h=>?_)
      ·obtain⟨x367,hx,h⟩:=zE h;refine⟨zF (l:=l.L) (zA.sz),vO hx,x367.K,x367.N,x367.S,List.map zA.toD x367.L,x367.From,x367.To,zP (zA.toD_eq x367) hx,?_⟩;rintro _ rfl;refine zC zq2 h (fun _ h=>?_) (fun _ h=>?_)
       ·obtain⟨x368,hx,h⟩:=zE h;refine⟨zF (l:=l.L) (zA.sz),vO hx,x368.K,x368.N,x368.S,List.map zA.toD x368.L,x368.From,x368.To,zP (zA.toD_eq x368) hx,?_⟩;obtain⟨q121,g,h⟩:=zE h;refine⟨_,⟨_,z4a _ _ g⟩,?_⟩;refine zC Iff.rfl h (fun _ h=>?_) (fun _ h=>?_)
        ·obtain⟨x369,hx,h⟩:=zE h;refine⟨zF (l:=l.L) (zA.sz),vO hx,x369.K,x369.N,x369.S,List.map zA.toD x369.L,x369.From,x369.To,zP (zA.toD_eq x369) hx,?_⟩;obtain⟨x370,hx,h⟩:=zE h;refine⟨zF (l:=l.L) (zA.sz),vO hx,x370.K,x370.N,x370.S,List.map zA.toD x370.L,x370.From,x370.To,zP (zA.toD_eq x370) hx,?_⟩;obtain⟨q122,g,h⟩:=zE h;refine⟨_,_,_,_,_,_,_,⟨_,y0L _ _ _ g⟩,?_⟩;cases h;exact⟨rfl,rfl⟩
        cases h;exact⟨rfl,rfl⟩
       cases h;exact⟨rfl,rfl⟩
      cases h;exact⟨rfl,rfl⟩
     cases h;exact⟨rfl,rfl⟩
    cases h;exact⟨rfl,rfl⟩
   cases h;exact⟨rfl,rfl⟩
  cases h;exact⟨rfl,rfl⟩
 cases h;exact⟨rfl,rfl⟩
theorem y5l(m:zA)(rule:Int)(l r_:zA)(r:Bool)(h:z7j m rule l r_=some r):Trip Try.prog 8 [.d (tT m),(nI rule),.d (tT l),.d (tT r_)] [] [(nB r)] []:=by
 unfold z7j at h;refine zH 1000 (y6k _ _ _ _ m rule l r_) ?_;obtain⟨q1,g,h⟩:=zE h;refine⟨_,_,_,_,_,_,_,⟨_,y7o _ _ _ _ g⟩,?_⟩;refine zC Iff.rfl h (fun _ h=>?_) (fun _ h=>?_)
 ·obtain⟨q2,g,h⟩:=zE h;refine⟨_,⟨_,z2f _ _ _ g⟩,?_⟩;cases h;exact⟨rfl,rfl⟩
 cases h;exact⟨rfl,rfl⟩
theorem z9F(c:Ref25Rule)(r:Bool)(h:z2C c=some r):Trip Try.prog 3 [.d (.agg [(.int .i64 c.M.K),(.int .i64 c.M.N),(.str c.M.S),(.sl (List.map zA.toD c.M.L)),(.int .i64 c.M.From),(.int .i64 c.M.To),(.sl (List.map zA.toD c.Types)),(.sl (List.map Value.toD c.S.Globals)),(.sl (List.map Value.toD c.S.Locals)),(.sl (List.map (D.int .i64) c.S.Input)),(.int .i64 c.S.At),(.sl (List.map (D.int .i64) c.S.Trace)),(.int .i64 c.S.Fuel),(.int .i64 c.S.Kind),(.int .i64 c.S.N),(.int .i64 c.S.Ret.N),(.sl (List.map Value.toD c.S.Ret.L)),(.int .i64 c.Rule),(.int .i64 c.L.K),(.int .i64 c.L.N),(.str c.L.S),(.sl (List.map zA.toD c.L.L)),(.int .i64 c.L.From),(.int .i64 c.L.To),(.int .i64 c.R.K),(.int .i64 c.R.N),(.str c.R.S),(.sl (List.map zA.toD c.R.L)),(.int .i64 c.R.From),(.int .i64 c.R.To)])] [] [(nB r)] []:=by
 unfold z2C at h;refine zH 1000 (z9O _ _ _ _ c) ?_;obtain⟨q1,g,h⟩:=zE h;refine⟨_,⟨_,y5k _ _ g⟩,?_⟩;refine zC Iff.rfl h (fun _ h=>?_) (fun _ h=>?_)
 ·obtain⟨q2,g,h⟩:=zE h;refine⟨_,⟨_,z6g _ g⟩,?_⟩;cases h;exact⟨rfl,rfl⟩
 obtain⟨q3,g,h⟩:=zE h;refine⟨_,⟨_,y5f _ _ g⟩,?_⟩;refine zG Iff.rfl h (fun _ h=>?_) (fun _ h=>?_)
 ·obtain⟨q5,g,h⟩:=zE h;refine⟨_,⟨_,y4X _ _ _ _ _ g⟩,?_⟩;obtain⟨q6,g,h⟩:=zE h;refine⟨_,⟨_,y5l _ _ _ _ _ g⟩,?_⟩;rintro _ rfl;refine zC zq2 h (fun _ h=>?_) (fun _ h=>?_)
  ·obtain⟨q7,g,h⟩:=zE h;refine⟨_,⟨_,z6g _ g⟩,?_⟩;cases h;exact⟨rfl,rfl⟩
  cases h;exact⟨rfl,rfl⟩
 obtain⟨q4,g,h⟩:=zE h;refine⟨_,⟨_,z6g _ g⟩,?_⟩;cases h;exact⟨rfl,rfl⟩
end Go.Proofs.Ytcpblelppecabaa.M

