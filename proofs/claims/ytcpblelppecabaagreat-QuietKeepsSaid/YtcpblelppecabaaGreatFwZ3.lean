import Derived.Test.YtcpblelppecabaaGreatFwZ2
namespace Nt
open Go
set_option linter.unusedVariables false
def v4x{α:Type}(l:List (Nat×α))(i:Nat):Option α:=
 match l with
 |[]=>none
 |(j,v)::r=>cond (Nat.beq j i) (some v) (v4x r i)
def rkT(P:Program):List TypeId→List RK
 |[]=>[]
 |t::r=>(match shT P t with|some sh=>.d sh|none=>.hp)::rkT P r
def v8f(P:Program)(hints:List (Nat×List RK))(f:FuncId):List RK:=
 match v4x hints f with
 |some l=>l
 |none=>match P.funcs[f]? with
  |some fn=>rkT P fn.resultTypes.toList
  |none=>[]
def kAt(r:Nat)(lp:Bool):Code→List KI→Option (List KI)
 |.seq a b,K=>match kAt r lp a (.code b::K)with
  |some x=>some x
  |none=>kAt r lp b K
 |.cond _ a b,K=>match kAt r lp a K with
  |some x=>some x
  |none=>kAt r lp b K
 |.block id b,K=>kAt r lp b (.blk id::K)
 |.scope b,K=>kAt r lp b (.sc b::K)
 |.loop b,K=>cond (lp && (match z0j b with|some i=>Nat.beq i r|none=>false)) (some (.loop b::K)) (kAt r lp b (.loop b::K))
 |.region id ops d,K=>cond (!lp && Nat.beq id r) (some (.code (.region id ops d)::K)) none
 |_,_=>none
def zY(fn:Func):Code:=
 match fn.body with
 |some c=>c
 |none=>.skip
def kL(fn:Func)(r:Nat):List KI:=(kAt r true (zY fn) []).getD []
def kJ(fn:Func)(r:Nat):List KI:=(kAt r false (zY fn) []).getD []
structure Hn where
 pur:List Nat:=[]
 ro:List Nat:=[]
 rk:List (Nat×List RK):=[]
 glob:List Nat:=[]
 nh:Nat:=0
 join:List (Nat×List Lv):=[]
 live:List (Nat×List Lv):=[]
 frz:List (Nat×List (Nat×Nat)):=[]
def jY(P:Program)(T:FuncId→List Sv→H→List Sv→H→Prop)(self:FuncId)(fn:Func)(hn:Hn)(rs:List Sv)(h':H):Cx:=
 {P,fn,trip:=T,pur:=fun f=>has hn.pur f,ro:=fun f=>has hn.ro f,rk:=v8f P hn.rk,glob:=fun d=>has hn.glob d,nh:=hn.nh,self,join:=v4x hn.join,live:=v4x hn.live,rs,h',frz:=fun i=>(v4x hn.frz i).getD []}
theorem v7f {P : Program} {f : FuncId} {fn : Func} {hn : Hn} {rs : List Sv} {h h' : H} {args : List Sv} (n : Nat) {R : Prop} (hf : P.funcs[f]? = some fn) (hname : (fn.name == "runtime.NumGoroutine") = false) (hb : fn.body.isSome = true) (hl : Nat.ble args.length fn.ntmps = true) (hh : Nat.ble h.length hn.nh = true)
  (e:evI (jY P (Trip P) f fn hn rs h') (Ok (jY P (Trip P) f fn hn rs h')) n true [.code (zY fn)] (st0 fn args h)=R) (hR:R):Trip P f args h rs h':=by
 refine v7g (c:=jY P (Trip P) f fn hn rs h') (code:=zY fn) (fun _ _ _ _ _ h=>h) hf hname ?_ (v5q hl) (v5q hh) (by rw[show(jY P (Trip P) f fn hn rs h').fn=fn from rfl,e];exact hR);show fn.body=some (zY fn);unfold zY;cases h:fn.body with
 |none=>rw[h]at hb;cases hb
 |some c=>rfl
theorem zI {P:Program} {f:FuncId} {fn:Func} {hn:Hn} {rs:List Sv} {h h':H} {args:List Sv} (n:Nat) {R:Prop}
  (e:evI (jY P (Trip P) f fn hn rs h') (Ok (jY P (Trip P) f fn hn rs h')) n true [.code (zY fn)] (st0 fn args h)=R) (hR:R)
  (hf : P.funcs[f]? = some fn := by kernel_rfl) (hname : (fn.name == "runtime.NumGoroutine") = false := by kernel_rfl) (hb : fn.body.isSome = true := by kernel_rfl) (hl : Nat.ble args.length fn.ntmps = true := by kernel_rfl) (hh : Nat.ble h.length hn.nh = true := by kernel_rfl) : Trip P f args h rs h' := v7f n hf hname hb hl hh e hR
theorem uZ {P:Program} {f:FuncId} {fn:Func} {hn:Hn} {rs:List Sv} {h':H} {K:List KI} {s:St} (n:Nat) {R:Prop}
  (e:evI (jY P (Trip P) f fn hn rs h') (Ok (jY P (Trip P) f fn hn rs h')) n false (wB K) s=R) (hR:R):Ok (jY P (Trip P) f fn hn rs h') K s:=
 v5T (c:=jY P (Trip P) f fn hn rs h') (fun _ _ _ _ _ h=>h) (n:=n) (by rw[e];exact hR)
end Nt

