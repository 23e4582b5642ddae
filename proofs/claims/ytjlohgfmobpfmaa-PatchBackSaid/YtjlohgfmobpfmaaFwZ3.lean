import Derived.Test.YtjlohgfmobpfmaaFwZ2
namespace Nt
open Go
set_option linter.unusedVariables false
def z6y{α:Type}(l:List (Nat×α))(i:Nat):Option α:=
 match l with
 |[]=>none
 |(j,v)::r=>cond (Nat.beq j i) (some v) (z6y r i)
def rkT(P:Program):List TypeId→List RK
 |[]=>[]
 |t::r=>(match shT P t with|some sh=>.d sh|none=>.hp)::rkT P r
def z9p(P:Program)(hints:List (Nat×List RK))(f:FuncId):List RK:=
 match z6y hints f with
 |some l=>l
 |none=>match P.funcs[f]? with
  |some fn=>rkT P fn.resultTypes.toList
  |none=>[]
def kAt(r:Nat)(lp:Bool):Code→List KI→Option (List KI)
 |.seq a b,K=>match kAt r lp a (.code b::K)with
  |some x=>some x
  |none=>kAt r lp b K
 |.cond _ a b,K=>match kAt r lp a K with
  |some x=>some x
  |none=>kAt r lp b K
 |.block id b,K=>kAt r lp b (.blk id::K)
 |.scope b,K=>kAt r lp b (.sc b::K)
 |.loop b,K=>cond (lp && (match yM b with|some i=>Nat.beq i r|none=>false)) (some (.loop b::K)) (kAt r lp b (.loop b::K))
 |.region id ops d,K=>cond (!lp && Nat.beq id r) (some (.code (.region id ops d)::K)) none
 |_,_=>none
def uV(fn:Func):Code:=
 match fn.body with
 |some c=>c
 |none=>.skip
def kL(fn:Func)(r:Nat):List KI:=(kAt r true (uV fn) []).getD []
structure Hn where
 pur:List Nat:=[]
 ro:List Nat:=[]
 rk:List (Nat×List RK):=[]
 glob:List Nat:=[]
 nh:Nat:=0
 join:List (Nat×List Lv):=[]
 live:List (Nat×List Lv):=[]
 frz:List (Nat×List (Nat×Nat)):=[]
def z4O(P:Program)(T:FuncId→List Sv→H→List Sv→H→Prop)(self:FuncId)(fn:Func)(hn:Hn)(rs:List Sv)(h':H):Cx:=
 {P,fn,trip:=T,pur:=fun f=>has hn.pur f,ro:=fun f=>has hn.ro f,rk:=z9p P hn.rk,glob:=fun d=>has hn.glob d,nh:=hn.nh,self,join:=z6y hn.join,live:=z6y hn.live,rs,h',frz:=fun i=>(z6y hn.frz i).getD []}
theorem z0v {P : Program} {f : FuncId} {fn : Func} {hn : Hn} {rs : List Sv} {h h' : H} {args : List Sv} (n : Nat) {R : Prop} (hf : P.funcs[f]? = some fn) (hname : (fn.name == "runtime.NumGoroutine") = false) (hb : fn.body.isSome = true) (hl : Nat.ble args.length fn.ntmps = true) (hh : Nat.ble h.length hn.nh = true)
  (e:evI (z4O P (Trip P) f fn hn rs h') (Ok (z4O P (Trip P) f fn hn rs h')) n true [.code (uV fn)] (st0 fn args h)=R) (hR:R):Trip P f args h rs h':=by
 refine z8E (c:=z4O P (Trip P) f fn hn rs h') (code:=uV fn) (fun _ _ _ _ _ h=>h) hf hname ?_ (z7s hl) (z7s hh) (by rw[show(z4O P (Trip P) f fn hn rs h').fn=fn from rfl,e];exact hR);show fn.body=some (uV fn);unfold uV;cases h:fn.body with
 |none=>rw[h]at hb;cases hb
 |some c=>rfl
theorem z8R {P:Program} {f:FuncId} {fn:Func} {hn:Hn} {rs:List Sv} {h':H} {K:List KI} {s:St} (n:Nat) {R:Prop}
  (e:evI (z4O P (Trip P) f fn hn rs h') (Ok (z4O P (Trip P) f fn hn rs h')) n false (z2B K) s=R) (hR:R):Ok (z4O P (Trip P) f fn hn rs h') K s:=
 z7P (c:=z4O P (Trip P) f fn hn rs h') (fun _ _ _ _ _ h=>h) (n:=n) (by rw[e];exact hR)
end Nt

