import Derived.Test.YtcpblelppecabaaGreatFwZ2
namespace Nt
open Go
set_option linter.unusedVariables false
def v8X{α:Type}(l:List (Nat×α))(i:Nat):Option α:=
 match l with
 |[]=>none
 |(j,v)::r=>cond (Nat.beq j i) (some v) (v8X r i)
def rkT(P:Program):List TypeId→List RK
 |[]=>[]
 |t::r=>(match shT P t with|some sh=>.d sh|none=>.hp)::rkT P r
def w3v(P:Program)(hints:List (Nat×List RK))(f:FuncId):List RK:=
 match v8X hints f with
 |some l=>l
 |none=>match P.funcs[f]? with
  |some fn=>rkT P fn.resultTypes.toList
  |none=>[]
def kAt(r:Nat)(lp:Bool):Code→List KI→Option (List KI)
 |.seq a b,K=>match kAt r lp a (.code b::K)with
  |some x=>some x
  |none=>kAt r lp b K
 |.cond _ a b,K=>match kAt r lp a K with
  |some x=>some x
  |none=>kAt r lp b K
 |.block id b,K=>kAt r lp b (.blk id::K)
 |.scope b,K=>kAt r lp b (.sc b::K)
 |.loop b,K=>cond (lp && (match z0A b with|some i=>Nat.beq i r|none=>false)) (some (.loop b::K)) (kAt r lp b (.loop b::K))
 |.region id ops d,K=>cond (!lp && Nat.beq id r) (some (.code (.region id ops d)::K)) none
 |_,_=>none
def zM(fn:Func):Code:=
 match fn.body with
 |some c=>c
 |none=>.skip
def kL(fn:Func)(r:Nat):List KI:=(kAt r true (zM fn) []).getD []
def kJ(fn:Func)(r:Nat):List KI:=(kAt r false (zM fn) []).getD []
structure Hn where
 pur:List Nat:=[]
 ro:List Nat:=[]
 rk:List (Nat×List RK):=[]
 glob:List Nat:=[]
 nh:Nat:=0
 join:List (Nat×List Lv):=[]
 live:List (Nat×List Lv):=[]
 frz:List (Nat×List (Nat×Nat)):=[]
def uW(P:Program)(T:FuncId→List Sv→H→List Sv→H→Prop)(self:FuncId)(fn:Func)(hn:Hn)(rs:List Sv)(h':H):Cx:=
 {P,fn,trip:=T,pur:=fun f=>has hn.pur f,ro:=fun f=>has hn.ro f,rk:=w3v P hn.rk,glob:=fun d=>has hn.glob d,nh:=hn.nh,self,join:=v8X hn.join,live:=v8X hn.live,rs,h',frz:=fun i=>(v8X hn.frz i).getD []}
theorem w2n {P : Program} {f : FuncId} {fn : Func} {hn : Hn} {rs : List Sv} {h h' : H} {args : List Sv} (n : Nat) {R : Prop} (hf : P.funcs[f]? = some fn) (hname : (fn.name == "runtime.NumGoroutine") = false) (hb : fn.body.isSome = true) (hl : Nat.ble args.length fn.ntmps = true) (hh : Nat.ble h.length hn.nh = true)
  (e:evI (uW P (Trip P) f fn hn rs h') (Ok (uW P (Trip P) f fn hn rs h')) n true [.code (zM fn)] (st0 fn args h)=R) (hR:R):Trip P f args h rs h':=by
 refine w2o (c:=uW P (Trip P) f fn hn rs h') (code:=zM fn) (fun _ _ _ _ _ h=>h) hf hname ?_ (w0c hl) (w0c hh) (by rw[show(uW P (Trip P) f fn hn rs h').fn=fn from rfl,e];exact hR);show fn.body=some (zM fn);unfold zM;cases h:fn.body with
 |none=>rw[h]at hb;cases hb
 |some c=>rfl
theorem zG {P:Program} {f:FuncId} {fn:Func} {hn:Hn} {rs:List Sv} {h h':H} {args:List Sv} (n:Nat) {R:Prop}
  (e:evI (uW P (Trip P) f fn hn rs h') (Ok (uW P (Trip P) f fn hn rs h')) n true [.code (zM fn)] (st0 fn args h)=R) (hR:R)
  (hf : P.funcs[f]? = some fn := by kernel_rfl) (hname : (fn.name == "runtime.NumGoroutine") = false := by kernel_rfl) (hb : fn.body.isSome = true := by kernel_rfl) (hl : Nat.ble args.length fn.ntmps = true := by kernel_rfl) (hh : Nat.ble h.length hn.nh = true := by kernel_rfl) : Trip P f args h rs h' := w2n n hf hname hb hl hh e hR
theorem jF {P:Program} {f:FuncId} {fn:Func} {hn:Hn} {rs:List Sv} {h':H} {K:List KI} {s:St} (n:Nat) {R:Prop}
  (e:evI (uW P (Trip P) f fn hn rs h') (Ok (uW P (Trip P) f fn hn rs h')) n false (vZ K) s=R) (hR:R):Ok (uW P (Trip P) f fn hn rs h') K s:=
 w0R (c:=uW P (Trip P) f fn hn rs h') (fun _ _ _ _ _ h=>h) (n:=n) (by rw[e];exact hR)
end Nt

