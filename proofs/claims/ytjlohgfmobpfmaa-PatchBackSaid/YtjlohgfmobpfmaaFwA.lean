import Derived.Calls
import Derived.Tactics
import Derived.Orders
import Derived.Below
namespace Nt
open Go
theorem zq0{c:Prop}{h:Decidable c}(g:¬c){α:Sort _}{t e:α}:(if c then t else e)=e:=if_neg g
theorem zq1{c:Prop}{h:Decidable c}(g:c){α:Sort _}{t e:α}:(if c then t else e)=t:=if_pos g
theorem zq2{α:Type _}[BEq α][LawfulBEq α]{a b:α}:a==b↔a=b:=beq_iff_eq
theorem zq3{α:Type _}{β:Type _}{l:List α}(f:α→β):(l.map f).length=l.length:=List.length_map f
inductive D where
 |bool (b:Bool)
 |int (k:IntKind) (n:Int)
 |str (s:List UInt8)
 |sl (xs:List D)
 |agg (cs:List D)
def D.cells:D→List D
 |.agg cs=>cs
 |x=>[x]
def D.sc:D→Bool
 |.agg _=>false
 |_=>true
def yC:List D→List D
 |[]=>[]
 |x::xs=>x.cells++yC xs
def yB(n:Nat)(xs:List D):Prop:=∀x∈xs,x.cells.length=n
inductive Sv where
 |d (x:D)
 |nilS
 |right (k g n:Nat) (xs:List D)
 |row (k g:Nat)
 |ref (k g off:Nat)
 |rref (k g n:Nat) (i:Nat) (off:Nat)
 |iel (x:D) (off:Nat)
 |hp (id off:Nat)
 |lent (id off v n:Nat) (xs:List D)
 |own (n:Nat) (xs:List D)
 |fn (f:FuncId) (first cap:List Sv)
 |tup (vs:List Sv)
 |undef
 |skp
 |nilF
 |bld (x:D) (nils:List (Nat×Nat))
 |wr (n:Nat) (xs:List D)
 |cells (cs:List Sv)
mutual
def Sv.plain:Sv→Bool
 |.d _=>true
 |.nilS=>true
 |.hp _ _=>true
 |.undef=>true
 |.skp=>true
 |.nilF=>true
 |.bld _ _=>true
 |.fn _ a b=>vU a && vU b
 |_=>false
def vU:List Sv→Bool
 |[]=>true
 |v::r=>v.plain && vU r
end
inductive Ob where
 |agg (x:D)
 |box (cs:List Sv)
 |row (n:Nat) (xs:List D)
 |tok (n len:Nat)
abbrev H:=List (List Sv)
structure St where
 n:Nat
 fr:List (Nat×Sv)
 ar:List (Nat×Nat×Option Ob)
 h:H
 hv:Nat
def z1z(fr:List (Nat×Sv))(i:Nat):Sv:=
 match fr with
 |[]=>.undef
 |(j,v)::r=>cond (Nat.beq j i) v (z1z r i)
def zC(ar:List (Nat×Nat×Option Ob))(i:Nat):Nat×Option Ob:=
 match ar with
 |[]=>(0,none)
 |(j,v)::r=>cond (Nat.beq j i) v (zC r i)
def St.get(s:St)(i:Nat):Sv:=z1z s.fr i
def St.ob(s:St)(k g:Nat):Option Ob:=
 match zC s.ar k with
 |(g',o)=>cond (Nat.beq g' g) o none
def St.gen(s:St)(k:Nat):Nat:=(zC s.ar k).1
def Ob.isTok:Ob→Bool
 |.tok _ _=>true
 |_=>false
def St.live(s:St)(r g:Nat):Bool:=
 match s.ob r g with
 |some ob=>!ob.isTok
 |none=>false
structure zQ where
 puts:List (Nat×Sv)
 ars:List (Nat×Nat×Option Ob)
 h:Option H
def St.app(s:St)(p:zQ):St:=
 {n:=s.n,fr:=p.puts++s.fr,ar:=p.ars++s.ar,h:=p.h.getD s.h,hv:=match p.h with|some _=>s.hv+1|none=>s.hv}
def uD(P:Program)(t:TypeId):Bool:=
 match P.underlying t with
 |some (.struct _)=>true
 |some (.array _ _)=>true
 |_=>false
def z1T(P:Program)(t:TypeId):Option TypeId:=
 match P.underlying t with
 |some (.slice e)=>some e
 |_=>none
def z1V(P:Program)(t:TypeId):Option Value:=
 match P.info? t with
 |some i=>i.zero
 |none=>none
def z1U(P:Program)(t:TypeId)(f:Nat):Option Field:=
 match P.underlying t with
 |some (.struct fs)=>fs[f]?
 |_=>none
def yO(P:Program)(t:TypeId):Option Nat:=
 match P.info? t,P.underlying t with
 |some i,some _=>some i.size
 |_,_=>none
def z5h(P:Program)(t:TypeId):Option Nat:=
 match P.info? t with
 |some i=>some i.bytes
 |none=>none
def z1k:Value→Option D
 |.bool b=>some (.bool b)
 |.int k n=>some (.int k n)
 |.string s=>some (.str s.data.toList)
 |.slice none 0 0=>some (.sl [])
 |_=>none
def wQ:List Value→Option (List D)
 |[]=>some []
 |v::vs=>match z1k v,wQ vs with
  |some x,some xs=>some (x::xs)
  |_,_=>none
def vW:Value→Sv
 |.slice none 0 0=>.nilS
 |.nilFunc=>.nilF
 |v=>match z1k v with
  |some x=>.d x
  |none=>.undef
def opv(s:St):Operand→Sv
 |.tmp t=>s.get t
 |.const v=>vW v
 |.func f=>.fn f [] []
 |.global _=>.undef
def kOpt{α:Type}(x:Option α)(k:α→Prop):Prop:=
 match x with
 |some a=>k a
 |none=>False
def kIf(b:Bool)(k:Prop):Prop:=cond b k False
def kD(v:Sv)(k:D→Prop):Prop:=
 match v with
 |.d x=>k x
 |.nilS=>k (.sl [])
 |.right _ _ _ xs=>k (.sl xs)
 |.lent _ _ _ _ xs=>k (.sl xs)
 |.bld x _=>k x
 |_=>False
def kDs(vs:List Sv)(k:List D→Prop):Prop:=
 match vs with
 |[]=>k []
 |v::r=>kD v fun x=>kDs r fun xs=>k (x::xs)
def kB(x:D)(kt kf:Prop):Prop:=
 match x with
 |.bool b=>cond b kt kf
 |_=>False
def brS(v:Sv)(kt kf:Prop):Prop:=
 match v with
 |.d x=>kB x kt kf
 |_=>False
def kI(x:D)(k:IntKind→Int→Prop):Prop:=
 match x with
 |.int i n=>k i n
 |_=>False
def kSl(x:D)(k:List D→Prop):Prop:=
 match x with
 |.sl xs=>k xs
 |_=>False
def kStr(x:D)(k:List UInt8→Prop):Prop:=
 match x with
 |.str s=>k s
 |_=>False
def kCell(x:D)(off:Nat)(k:D→Prop):Prop:=
 kOpt x.cells[off]? k
def kWhole(n:Nat)(x:D)(k:Prop):Prop:=
 match x with
 |.agg cs=>kIf (Nat.beq cs.length n) k
 |_=>False
def kPart(x:D)(off n:Nat)(k:D→Prop):Prop:=
 match x with
 |.agg cs=>kIf (Nat.ble (off+n) cs.length) (k (.agg ((cs.drop off).take n)))
 |_=>False
def D.setC(x:D)(off:Nat)(v:D):D:=
 match x with
 |.agg cs=>.agg (cs.set off v)
 |_=>cond (Nat.beq off 0) v x
def setMany{α:Type}(cs:List α)(off:Nat)(vs:List α):List α:=
 match vs with
 |[]=>cs
 |v::r=>setMany (cs.set off v) (off+1) r
def nam{α:Type}(e:α)(k:α→Prop):Prop:=∀r,r=e→k r
inductive Sh where
 |bool
 |int (i:IntKind)
 |str
 |sl
def exS(sh:Sh)(k:D→Prop):Prop:=
 match sh with
 |.bool=>∃b:Bool,k (.bool b)
 |.int i=>∃n:Int,k (.int i n)
 |.str=>∃u:List UInt8,k (.str u)
 |.sl=>∃xs:List D,k (.sl xs)
def exSs(l:List Sh)(k:List D→Prop):Prop:=
 match l with
 |[]=>k []
 |sh::r=>exS sh fun x=>exSs r fun xs=>k (x::xs)
inductive Shp where
 |one (sh:Sh)
 |many (l:List Sh)
def exD(sh:Shp)(k:D→Prop):Prop:=
 match sh with
 |.one sh=>exS sh k
 |.many l=>exSs l fun cs=>k (.agg cs)
def z9m(n:Nat)(l:List Sh):List Sh:=
 match n with
 |0=>[]
 |n+1=>l++z9m n l
mutual
def shC(P:Program)(d:Nat)(t:TypeId):Option (List Sh):=
 match d with
 |0=>none
 |d+1=>match P.underlying t with
  |some .bool=>some [.bool]
  |some (.int i)=>some [.int i]
  |some .string=>some [.str]
  |some (.slice _)=>some [.sl]
  |some (.struct fs)=>z9n P d fs.toList
  |some (.array n e)=>match shC P d e with
   |some l=>some (z9m n l)
   |none=>none
  |_=>none
def z9n(P:Program)(d:Nat)(fs:List Field):Option (List Sh):=
 match d with
 |0=>none
 |d+1=>match fs with
  |[]=>some []
  |f::r=>match shC P d f.type,z9n P d r with
   |some a,some b=>some (a++b)
   |_,_=>none
end
def shT(P:Program)(t:TypeId):Option Shp:=
 match shC P 40 t with
 |some l=>cond (uD P t) (some (.many l)) (match l with|[x]=>some (.one x)|_=>none)
 |none=>none
def kIdx(P:Program)(e:TypeId)(xs:List D)(i:Int)(k:D→Prop):Prop:=
 0≤i∧kOpt (shT P e) fun sh=>exD sh fun y=>xs[i.toNat]?=some y∧k y
def kEq(kd:Nat)(x y:D)(k:Bool→Prop):Prop:=
 match kd,x,y with
 |0,.bool a,.bool b=>nam (a == b) k
 |1,.int i a,.int j b=>kIf (decide (i=j)) (nam (a == b) k)
 |2,.str a,.str b=>nam (a == b) k
 |_,_,_=>False
def z2G:List UInt8→List UInt8→Bool:=Op.bytesLess
def intBin(op:BinOp)(i:IntKind)(a b:Int)(k:D→Prop):Prop:=
 match op with
 |.add=>nam (i.wrap (a+b)) fun n=>k (.int i n)
 |.sub=>nam (i.wrap (a-b)) fun n=>k (.int i n)
 |.mul=>nam (i.wrap (a*b)) fun n=>k (.int i n)
 |.quo=>b≠0∧nam (i.wrap (a.tdiv b)) fun n=>k (.int i n)
 |.rem=>b≠0∧nam (a.tmod b) fun n=>k (.int i n)
 |.lss=>nam (decide (a<b)) fun r=>k (.bool r)
 |.leq=>nam (decide (a≤b)) fun r=>k (.bool r)
 |.gtr=>nam (decide (a>b)) fun r=>k (.bool r)
 |.geq=>nam (decide (a≥b)) fun r=>k (.bool r)
 |_=>False
def strBin(op:BinOp)(a b:List UInt8)(k:D→Prop):Prop:=
 match op with
 |.add=>a.length+b.length≤9223372036854775807∧nam (a++b) fun u=>k (.str u)
 |.lss=>nam (z2G a b) fun r=>k (.bool r)
 |.leq=>nam (z2G a b || a == b) fun r=>k (.bool r)
 |.gtr=>nam (!(z2G a b || a == b)) fun r=>k (.bool r)
 |.geq=>nam (!z2G a b) fun r=>k (.bool r)
 |_=>False
def shiftBin(op:BinOp)(i:IntKind)(a b:Int)(k:D→Prop):Prop:=
 match op with
 |.shl=>0≤b∧nam (i.wrap (a*2 ^ min b.toNat i.bits)) fun n=>k (.int i n)
 |.shr=>0≤b∧nam (a.fdiv (2 ^ min b.toNat i.bits)) fun n=>k (.int i n)
 |_=>False
def kBin(op:BinOp)(x y:D)(k:D→Prop):Prop:=
 match op with
 |.eql=>False
 |.neq=>False
 |.shl=>kI x fun i a=>kI y fun _ b=>shiftBin .shl i a b k
 |.shr=>kI x fun i a=>kI y fun _ b=>shiftBin .shr i a b k
 |op=>match x with
  |.int i a=>kI y fun j b=>kIf (decide (i=j)) (intBin op i a b k)
  |.str a=>kStr y fun b=>strBin op a b k
  |_=>False
inductive RK where
 |d (sh:Shp)
 |own (n:Nat)
 |hp
 |fns (gs:List Nat)
 |wr (n:Nat)
 |cw (l:List Sh) (i n:Nat)
inductive KI where
 |code (c:Code)
 |blk (id:Nat)
 |loop (body:Code)
 |sc (body:Code)
inductive Lv where
 |s (i:Nat)
 |o (i key n:Nat)
 |a (i:Nat)
 |h (n:Nat)
structure Cx where
 P:Program
 fn:Func
 trip:FuncId→List Sv→H→List Sv→H→Prop
 pur:FuncId→Bool
 ro:FuncId→Bool
 rk:FuncId→List RK
 glob:Nat→Bool
 nh:Nat
 self:FuncId
 join:Nat→Option (List Lv)
 live:Nat→Option (List Lv)
 rs:List Sv
 h':H
 frz:Nat→List (Nat×Nat)
def jI(d:Nat)(v:Sv):zQ:=⟨[(d,v)],[],none⟩
def uH(s:St)(dst:Option Nat)(v:Sv)(k:zQ→Prop):Prop:=
 match dst with
 |none=>k ⟨[],[],none⟩
 |some d=>kIf (Nat.blt d s.n) (k (jI d v))
def newAr(s:St)(dst:Option Nat)(ob:Ob)(v:Nat→Nat→Sv)(k:zQ→Prop):Prop:=
 match dst with
 |none=>False
 |some d=>kIf (Nat.blt d s.n) (k ⟨[(d,v d (s.gen d+1))],[(d,s.gen d+1,some ob)],none⟩)
def z6C(s:St)(dst:Option Nat)(r g:Nat)(ob:Ob)(v:Sv)(k:zQ→Prop):Prop:=
 match dst with
 |none=>False
 |some d=>kIf (Nat.blt d s.n) (k ⟨[(d,v)],[(r,g,some ob)],none⟩)
def newHp(s:St)(dst:Option Nat)(cs:List Sv)(k:zQ→Prop):Prop:=
 match dst with
 |none=>False
 |some d=>kIf (Nat.blt d s.n) (k ⟨[(d,.hp s.h.length 0)],[],some (s.h++[cs])⟩)
def z0B(id off v:Nat):Sv→Sv
 |.own n xs=>.lent id off v n xs
 |x=>x
def kKeep(v:Sv)(k:Sv→Prop):Prop:=
 match v with
 |.d x=>kIf x.sc (k (.d x))
 |.nilS=>k (.d (.sl []))
 |.right _ _ _ xs=>k (.d (.sl xs))
 |.lent _ _ _ _ xs=>k (.d (.sl xs))
 |.hp i o=>k (.hp i o)
 |.fn f a b=>k (.fn f a b)
 |_=>False
def kPartT(P:Program)(t:TypeId)(n:Nat)(x:D)(off:Nat)(k:D→Prop):Prop:=
 cond (uD P t) (cond (Nat.beq off 0 && Nat.beq x.cells.length n) (kWhole n x (k x)) (kPart x off n k)) (kCell x off k)
def unOwn:Sv→Sv
 |.own _ xs=>.d (.sl xs)
 |v=>v
def z0F:List Sv→List Sv
 |[]=>[]
 |v::r=>unOwn v::z0F r
def kBoxT(P:Program)(t:TypeId)(n:Nat)(cs:List Sv)(off:Nat)(ld:Sv→Sv)(k:Sv→Prop):Prop:=
 cond (uD P t) (kIf (Nat.ble (off+n) cs.length) (kDs (z0F ((cs.drop off).take n)) fun ds=>k (.d (.agg ds)))) (kOpt cs[off]? fun v=>k (ld v))
def z6Q(P:Program)(t:TypeId)(n:Nat)(x:D)(off:Nat)(y:D):Prop:=
 cond (uD P t) (y.sc=false∧y.cells.length=n∧(x.cells.drop off).take n=y.cells) (x.cells[off]?=some y)
def kLoad(P:Program)(t:TypeId)(s:St)(v:Sv)(k:Sv→Prop):Prop:=
 kOpt (yO P t) fun n=>match v with
 |.ref r g off=>kOpt (s.ob r g) fun ob=>match ob with
  |.agg x=>kPartT P t n x off fun y=>k (.d y)
  |.box cs=>kBoxT P t n cs off id k
  |_=>False
 |.rref r g m i off=>kOpt (s.ob r g) fun ob=>match ob with
  |.row n' xs=>kIf (Nat.beq m n') (∃x,xs[i]?=some x∧kOpt (shT P t) fun sh=>exD sh fun y=>z6Q P t n x off y∧k (.d y))
  |_=>False
 |.iel x off=>kPartT P t n x off fun y=>k (.d y)
 |.hp id off=>kOpt s.h[id]? fun cs=>kBoxT P t n cs off (z0B id off s.hv) k
 |_=>False
def z1Y(r g:Nat)(o:Option Ob):zQ:=⟨[],[(r,g,o)],none⟩
def kCells(n:Nat)(x:D)(k:List Sv→Prop):Prop:=
 match x with
 |.agg cs=>kIf (Nat.beq cs.length n) (k (cs.map .d))
 |_=>False
def kCs(x:D)(k:List D→Prop):Prop:=
 match x with
 |.agg cs=>k cs
 |_=>False
def kData(w:Sv)(k:D→Prop):Prop:=
 match w with
 |.d y=>k y
 |_=>False
def z4u(l:List (Nat×Nat))(ws:List Sv):List Sv:=
 match l with
 |[]=>ws
 |(i,n)::r=>z4u r (ws.set i (.own n []))
def kBld(n:Nat)(v:Sv)(k:List Sv→Prop):Prop:=
 match v with
 |.bld x l=>kCells n x fun ws=>k (z4u l ws)
 |v=>kD v fun x=>kCells n x k
def z1G(s:St):Sv→Bool
 |.d x=>x.sc
 |.row k g=>(match s.ob k g with|some (.row _ _)=>true|_=>false)
 |_=>false
def jD(P:Program)(t:TypeId)(s:St)(a v:Sv)(k:zQ→Prop):Prop:=
 kOpt (yO P t) fun n=>match a with
 |.ref r g off=>kOpt (s.ob r g) fun ob=>match ob with
  |.agg x=>cond (uD P t)
    (match v with
     |.cells ws=>kCs x fun cs=>kIf (Nat.beq off 0 && Nat.beq ws.length n && Nat.beq cs.length n && ws.all (z1G s)) (k (z1Y r g (some (.box ws))))
     |v=>kCs x fun cs=>kIf (Nat.ble (off+n) cs.length) (kD v fun y=>kCs y fun ds=>kIf (Nat.beq ds.length n) (k (z1Y r g (some (.agg (.agg (setMany cs off ds))))))))
    (kIf (Nat.beq n 1) (kIf (Nat.blt off x.cells.length) (kKeep v fun w=>kData w fun y=>k (z1Y r g (some (.agg (x.setC off y)))))))
  |.box cs=>cond (uD P t) False (kIf (Nat.beq n 1) (kIf (Nat.blt off cs.length) (kKeep v fun w=>k (z1Y r g (some (.box (cs.set off w)))))))
  |_=>False
 |.rref r g m i off=>kOpt (s.ob r g) fun ob=>match ob with
  |.row n' xs=>kIf (Nat.beq m n') (kIf (Nat.beq off 0) (kIf (Nat.beq m n) (i<xs.length∧cond (uD P t)
    (kD v fun y=>kWhole n y (nam (xs.set i y) fun zs=>k (z1Y r g (some (.row m zs)))))
    (kIf (Nat.beq n 1) (kKeep v fun w=>kData w fun y=>nam (xs.set i y) fun zs=>k (z1Y r g (some (.row m zs))))))))
  |_=>False
 |.hp id off=>kOpt s.h[id]? fun cs=>cond (uD P t)
   (kIf (Nat.ble (off+n) cs.length) (kBld n v fun ws=>k ⟨[],[],some (s.h.set id (setMany cs off ws))⟩))
   (kIf (Nat.beq n 1) (kIf (Nat.blt off cs.length) (match v with
    |.right r g m xs=>kOpt (s.ob r g) fun ob=>match ob with
     |.tok m' l=>kIf (Nat.beq m m') (l=xs.length∧k ⟨[],[(r,g,none)],some (s.h.set id (cs.set off (.own m xs)))⟩)
     |_=>False
    |v=>kKeep v fun w=>k ⟨[],[],some (s.h.set id (cs.set off w))⟩)))
 |_=>False
def kFieldAddr(P:Program)(t:TypeId)(s:St)(v:Sv)(f:Nat)(k:Sv→Prop):Prop:=
 kOpt (z1U P t f) fun fd=>kOpt (yO P fd.type) fun n=>cond (Nat.beq n 0) False (match v with
  |.ref r g off=>kIf (s.live r g) (k (.ref r g (off+fd.offset)))
  |.rref r g m i off=>kIf (s.live r g) (k (.rref r g m i (off+fd.offset)))
  |.iel x off=>k (.iel x (off+fd.offset))
  |.hp id off=>k (.hp id (off+fd.offset))
  |_=>False)
def kField(P:Program)(t:TypeId)(v:Sv)(f:Nat)(k:Sv→Prop):Prop:=
 kOpt (z1U P t f) fun fd=>kD v fun x=>match x with
  |.agg _=>kOpt (yO P fd.type) fun n=>cond (uD P fd.type) (kPart x fd.offset n fun y=>k (.d y)) (kCell x fd.offset fun y=>k (.d y))
  |_=>False
def kIndexAddr(P:Program)(t:TypeId)(s:St)(v i:Sv)(k:Sv→Prop):Prop:=
 kD i fun ix=>kI ix fun _ i=>match v with
  |.row r g=>kOpt (z1T P t) fun e=>kOpt (yO P e) fun n=>kOpt (s.ob r g) fun ob=>match ob with
   |.row n' xs=>kIf (Nat.beq n n') (0≤i∧i<xs.length∧k (.rref r g n i.toNat 0))
   |_=>False
  |.ref r g off=>kOpt (s.ob r g) fun ob=>match ob,P.underlying t with
   |.row n' xs,some (.array m e)=>kOpt (yO P e) fun n=>kIf (Nat.beq n n') (kIf (Nat.beq off 0) (kIf (Nat.blt 1 m) (m=xs.length∧0≤i∧i<xs.length∧k (.rref r g n i.toNat 0))))
   |_,_=>False
  |v=>kOpt (z1T P t) fun e=>kOpt (yO P e) fun n=>kD v fun x=>kSl x fun xs=>yB n xs∧kIdx P e xs i fun y=>k (.iel y 0)
def kIndex(v i:Sv)(k:Sv→Prop):Prop:=
 kD v fun x=>kD i fun ix=>kI ix fun _ i=>kStr x fun s=>0≤i∧∃c,s[i.toNat]?=some c∧nam (Int.ofNat c.toNat) fun n=>k (.d (.int .u8 n))
def kBound(v:Option Sv)(dflt:Nat)(k:Nat→Prop):Prop:=
 match v with
 |none=>k dflt
 |some v=>kD v fun x=>kI x fun _ i=>0≤i∧k i.toNat
def z2X(s:St)(dst:Option Nat)(lo hi:Option Sv)(xs:List D)(k:zQ→Prop):Prop:=
 kBound hi xs.length fun h=>h≤xs.length∧kBound lo 0 fun l=>l≤h∧nam ((xs.take h).drop l) fun ys=>uH s dst (.d (.sl ys)) k
def z2Y(n:Nat)(s:St)(dst:Option Nat)(lo hi mx:Option Sv)(xs:List D)(k:zQ→Prop):Prop:=
 match hi with
 |none=>False
 |some _=>kBound mx 0 fun m=>m≤xs.length∧kBound hi xs.length fun h=>h=m∧kBound lo 0 fun l=>l≤h ∧
   nam ((xs.take h).drop l) fun ys=>newAr s dst (.tok n ys.length) (fun d g=>.right d g n ys) k
def z0A(P:Program)(t:TypeId)(s:St)(dst:Option Nat)(v:Sv)(lo hi mx:Option Sv)(k:zQ→Prop):Prop:=
 match P.underlying t with
 |some .string=>match mx with
  |none=>kD v fun x=>kStr x fun u=>kBound hi u.length fun h=>h≤u.length∧kBound lo 0 fun l=>l≤h∧nam ((u.take h).drop l) fun ys=>uH s dst (.d (.str ys)) k
  |some _=>False
 |some (.slice e)=>kOpt (yO P e) fun n=>kD v fun x=>kSl x fun xs=>yB n xs∧match mx with
  |none=>z2X s dst lo hi xs k
  |some _=>z2Y n s dst lo hi mx xs k
 |some (.array m e)=>kOpt (yO P e) fun n=>match v,mx,hi with
  |.ref r g off,none,none=>kOpt (s.ob r g) fun ob=>match ob with
   |.row n' xs=>kIf (Nat.beq n n') (kIf (Nat.beq off 0) (m=xs.length∧kBound lo 0 fun l=>l≤xs.length∧nam (xs.drop l) fun ys=>uH s dst (.d (.sl ys)) fun p=>k ⟨p.puts,[(r,g,none)],none⟩))
   |_=>False
  |_,_,_=>False
 |_=>False
def kFill(P:Program)(t:TypeId)(ps:List (Nat×Sv))(cs:List D)(k:List D→Prop):Prop:=
 match ps with
 |[]=>k cs
 |(f,v)::r=>kOpt (z1U P t f) fun fd=>kOpt (yO P fd.type) fun n=>kD v fun x=>
   cond (uD P fd.type) (match x with|.agg ds=>kIf (Nat.beq ds.length n) <| kIf (Nat.ble (fd.offset+n) cs.length) (kFill P t r (setMany cs fd.offset ds) k)|_=>False)
    (kIf (Nat.beq n 1) (kIf x.sc (kIf (Nat.blt fd.offset cs.length) (kFill P t r (cs.set fd.offset x) k))))
def gZ(P:Program):List Field→Bool
 |[]=>true
 |f::r=>(P.info? f.type).isSome && gZ P r
def kElems(P:Program)(e:TypeId)(n:Nat)(i:Nat)(ps:List (Nat×Sv))(k:List D→Prop):Prop:=
 match ps with
 |[]=>k []
 |(j,v)::r=>kIf (Nat.beq i j) (kD v fun x=>cond (uD P e) (kWhole n x (kElems P e n (i+1) r fun xs=>k (x::xs))) (kIf (Nat.beq n 1) (kIf x.sc (kElems P e n (i+1) r fun xs=>k (x::xs)))))
def kArg(v:Sv)(k:Sv→Prop):Prop:=
 match v with
 |.d x=>k (.d x)
 |.nilS=>k (.d (.sl []))
 |.right _ _ _ xs=>k (.d (.sl xs))
 |.lent _ _ _ _ xs=>k (.d (.sl xs))
 |.bld x _=>k (.d x)
 |.hp i o=>k (.hp i o)
 |.fn f a b=>k (.fn f a b)
 |_=>False
def kArgs(vs:List Sv)(k:List Sv→Prop):Prop:=
 match vs with
 |[]=>k []
 |v::r=>kArg v fun x=>kArgs r fun xs=>k (x::xs)
def z8g(vs:List Sv):Bool:=
 match vs with
 |[]=>true
 |.d _::r=>z8g r
 |.fn _ [] []::r=>z8g r
 |_=>false
def z0X(vs:List Sv):Bool:=
 match vs with
 |[]=>true
 |.d _::r=>z0X r
 |.own _ _::r=>z0X r
 |.fn _ [] []::r=>z0X r
 |[.wr _ _]=>true
 |[.cells _]=>true
 |_=>false
def exFn(gs:List Nat)(k:Nat→Prop):Prop:=
 match gs with
 |[]=>False
 |g::r=>k g∨exFn r k
def kCw(cs:List D)(i n:Nat)(k:Sv→Prop):Prop:=
 match cs[i]? with
 |some (.sl xs)=>k (.cells ((cs.map .d).set i (.wr n xs)))
 |_=>False
def exR(ks:List RK)(k:List Sv→Prop):Prop:=
 match ks with
 |[]=>k []
 |.d sh::r=>exD sh fun x=>exR r fun l=>k (.d x::l)
 |.own n::r=>∃xs:List D,exR r fun l=>k (.own n xs::l)
 |.hp::r=>∃i o:Nat,exR r fun l=>k (.hp i o::l)
 |.fns gs::r=>exFn gs fun g=>exR r fun l=>k (.fn g [] []::l)
 |.wr n::r=>∃xs:List D,exR r fun l=>k (.wr n xs::l)
 |.cw sh i n::r=>exSs sh fun cs=>kCw cs i n fun v=>exR r fun l=>k (v::l)
def exLike(x:D)(k:D→Prop):Prop:=
 match x with
 |.bool _=>∃b:Bool,k (.bool b)
 |.int i _=>∃n:Int,k (.int i n)
 |.str _=>∃u:List UInt8,k (.str u)
 |.sl _=>∃xs:List D,k (.sl xs)
 |.agg _=>∃cs:List D,k (.agg cs)
def exC(cs:List Sv)(k:List Sv→Prop):Prop:=
 match cs with
 |[]=>k []
 |.d x::r=>exLike x fun x=>exC r fun l=>k (.d x::l)
 |.own n _::r=>∃xs:List D,exC r fun l=>k (.own n xs::l)
 |v::r=>exC r fun l=>k (v::l)
def exH(h:H)(k:H→Prop):Prop:=
 match h with
 |[]=>k []
 |cs::r=>exC cs fun ds=>exH r fun l=>k (ds::l)
def z1F:Sv→Sv
 |.own _ xs=>.d (.sl xs)
 |v=>v
def z6D(d g n:Nat)(xs:List D)(r:List Sv):Sv:=
 match r with
 |[]=>.right d g n xs
 |r=>.tup (.right d g n xs::r.map z1F)
def z8H:Sv→Option (Nat×List D)
 |.wr n xs=>some (n,xs)
 |_=>none
def z9j(cs:List Sv):Option (Nat×List D):=
 match cs.filterMap z8H with
 |[p]=>some p
 |_=>none
def z6P(d g:Nat):List Sv→List Sv
 |[]=>[]
 |.wr _ _::r=>.row d g::z6P d g r
 |v::r=>v::z6P d g r
def wZ(s:St)(dst:Option Nat)(rs:List Sv)(h:Option H)(k:zQ→Prop):Prop:=
 match rs with
 |.own n xs::r=>newAr s dst (.tok n xs.length) (fun d g=>z6D d g n xs r) fun p=>k ⟨p.puts,p.ars,h⟩
 |[.wr n xs]=>newAr s dst (.row n xs) (fun d g=>.row d g) fun p=>k ⟨p.puts,p.ars,h⟩
 |[.cells cs]=>kOpt (z9j cs) fun q=>newAr s dst (.row q.1 q.2) (fun d g=>.cells (z6P d g cs)) fun p=>k ⟨p.puts,p.ars,h⟩
 |[v]=>uH s dst v fun p=>k ⟨p.puts,p.ars,h⟩
 |vs=>uH s dst (.tup (vs.map z1F)) fun p=>k ⟨p.puts,p.ars,h⟩
def z2c(c:Cx)(s:St)(dst:Option Nat)(f:FuncId)(vs:List Sv)(k:zQ→Prop):Prop:=
 kArgs vs fun vs=>cond (c.pur f)
  (kIf (z8g vs) (exR (c.rk f) fun rs=>kIf (z0X rs) ((∃h',c.trip f vs [] rs h')∧wZ s dst rs none k)))
  (exR (c.rk f) fun rs=>cond (c.ro f) (c.trip f vs s.h rs s.h∧wZ s dst rs (some s.h) k) (exH s.h fun h'=>c.trip f vs s.h rs h'∧wZ s dst rs (some h') k))
def z3e(bytes n:Nat):Prop:=n*bytes≤140737488355328∧n≤140737488355328
def gG(P:Program)(t:TypeId)(s:St)(rw:Bool)(dst:Option Nat)(v x:Sv)(k:zQ→Prop):Prop:=
 kOpt (z1T P t) fun e=>kOpt (yO P e) fun n=>kOpt (z5h P e) fun b=>kOpt (z1V P e) fun z=>kIf (Nat.beq z.cells.size n) (kD x fun y=>kSl y fun ys=>yB n ys∧match v with
  |.nilS=>z3e b ys.length∧cond rw (0<ys.length∧newAr s dst (.row n ys) (fun d g=>.row d g) k) (newAr s dst (.tok n ys.length) (fun d g=>.right d g n ys) k)
  |.right r g n' xs=>kIf (Nat.beq n n') (match s.ob r g with
   |some (.tok n'' m)=>kIf (Nat.beq n n'') (m=xs.length∧z3e b (xs.length+ys.length) ∧
     nam (xs++ys) fun zs=>z6C s dst r g (.tok n zs.length) (.right r g n zs) k)
   |_=>False)
  |.lent id off ver n' xs=>kIf (Nat.beq n n') (kIf (Nat.beq ver s.hv) (kOpt s.h[id]? fun cs=>kOpt cs[off]? fun u=>match u with
   |.own n'' xs'=>kIf (Nat.beq n n'') (xs'=xs∧z3e b (xs.length+ys.length) ∧
     nam (xs++ys) fun zs=>newAr s dst (.tok n zs.length) (fun d g=>.right d g n zs) fun p=>k ⟨p.puts,p.ars,some (s.h.set id (cs.set off (.d (.sl xs))))⟩)
   |_=>False))
  |_=>False)
def kLen(P:Program)(t:TypeId)(s:St)(v:Sv)(k:Sv→Prop):Prop:=
 match P.underlying t with
 |some (.slice _)=>match v with
  |.row r g=>kOpt (s.ob r g) fun ob=>match ob with
   |.row _ xs=>nam (xs.length:Int) fun n=>k (.d (.int .i64 n))
   |_=>False
  |v=>kD v fun x=>kSl x fun xs=>nam (xs.length:Int) fun n=>k (.d (.int .i64 n))
 |some .string=>kD v fun x=>kStr x fun u=>nam (u.length:Int) fun n=>k (.d (.int .i64 n))
 |_=>False
def z3w(c:UInt8):D:=.int .u8 c.toNat
def toBytes(xs:List D)(k:List UInt8→Prop):Prop:=∃u:List UInt8,xs=u.map z3w∧k u
def vY(P:Program)(t:TypeId):Nat:=
 match P.underlying t with
 |some .bool=>0
 |some (.int _)=>1
 |some .string=>2
 |some (.struct _)=>3
 |_=>4
def z1p(P:Program)(i:Nat):List Field→Option (List Nat)
 |[]=>some []
 | f :: r => cond (Nat.beq f.offset i && (f.name != "_") && Nat.blt (vY P f.type) 3) (match z1p P (i + 1) r with | some l => some (vY P f.type :: l) | none => none) none
def eqCells(ks:List Nat)(a b:List D)(k:Bool→Prop):Prop:=
 match ks,a,b with
 |[],[],[]=>k true
 |n::ks,x::a,y::b=>kEq n x y fun e=>eqCells ks a b fun r=>k (e && r)
 |_,_,_=>False
def z8W(P:Program)(t:TypeId):Bool:=match P.underlying t with|some (.func _ _ _)=>true|_=>false
def kEqOpD(P:Program)(t:TypeId)(u v:Sv)(k:Bool→Prop):Prop:=
 kD u fun x=>kD v fun y=>cond (Nat.beq (vY P t) 3)
  (match P.underlying t with
   |some (.struct fs)=>kIf (!P.stoodInHeld t && !P.eqGuardType P.depth t) (kOpt (z1p P 0 fs.toList) fun ks=>kCs x fun a=>kCs y fun b=>eqCells ks a b k)
   |_=>False)
  (kEq (vY P t) x y k)
def kEqOp(P:Program)(t:TypeId)(u v:Sv)(k:Bool→Prop):Prop:=
 match v with
 |.nilF=>match u with
  |.fn _ _ _=>kIf (z8W P t) (k false)
  |.nilF=>kIf (z8W P t) (k true)
  |_=>False
 |v=>kEqOpD P t u v k
def z5y(s:St)(vs:List Sv)(k:List (Nat×Nat×Option Ob)→List Sv→Prop):Prop:=
 match vs with
 |[]=>k [] []
 |v::r=>match v with
  |.row a g=>kOpt (s.ob a g) fun ob=>match ob with
   |.row _ xs=>z5y (s.app ⟨[],[(a,g,none)],none⟩) r fun ps us=>k (ps++[(a,g,none)]) (.d (.sl xs)::us)
   |_=>False
  |v=>z5y s r fun ps us=>k ps (v::us)
def z1v(P:Program)(t:TypeId)(s:St)(a v:Sv)(k:zQ→Prop):Prop:=
 z5y s [v] fun ps us=>match us with
  |[y]=>jD P t (s.app ⟨[],ps,none⟩) a y fun p=>k ⟨p.puts,p.ars++ps,p.h⟩
  |_=>False
def z3N(c:Cx)(s:St)(dst:Option Nat)(f:FuncId)(first vs cap:List Sv)(k:zQ→Prop):Prop:=
 z5y s vs fun ps us=>z2c c (s.app ⟨[],ps,none⟩) dst f (first++us++cap) fun p=>k ⟨p.puts,p.ars++ps,p.h⟩
def z6p(c:Cx)(s:St)(o:Oper)(cl:Call)(k:zQ→Prop):Prop:=
 match cl.callee with
 |.value f=>match opv s f with
  |.fn g first cap=>z3N c s o.dst g first (cl.args.toList.map (opv s)) cap k
  |_=>False
 |.builtin .len=>match cl.args.toList,cl.argTypes.toList with
  |[x],[t]=>kLen c.P t s (opv s x) fun v=>uH s o.dst v k
  |_,_=>False
 |.builtin .append=>match cl.args.toList,cl.argTypes.toList with
  |[x,y],[t,u]=>match c.P.underlying u with
   |some (.slice _)=>gG c.P t s (match o.dst with|some d=>c.glob d|none=>false) o.dst (opv s x) (opv s y) k
   |_=>False
  |_,_=>False
 |.builtin .max=>match cl.args.toList with
  |[x,y]=>kD (opv s x) fun a=>kD (opv s y) fun b=>kI a fun i m=>kI b fun j n=>kIf (decide (i=j)) (nam (max m n) fun r=>uH s o.dst (.d (.int i r)) k)
  |_=>False
 |.builtin .min=>match cl.args.toList with
  |[x,y]=>kD (opv s x) fun a=>kD (opv s y) fun b=>kI a fun i m=>kI b fun j n=>kIf (decide (i=j)) (nam (min m n) fun r=>uH s o.dst (.d (.int i r)) k)
  |_=>False
 |_=>False
def z6h(P:Program)(t:TypeId)(v:Value):Sv:=
 match vW v with
 |.nilS=>match z1T P t with
  |some e=>match yO P e with
   |some n=>.own n []
   |none=>.undef
  |none=>.undef
 |x=>x
def z2f(P:Program):List Field→List Value→List Sv
 |f::fs,v::vs=>z6h P f.type v::z2f P fs vs
 |_,vs=>vs.map vW
def z2P(P:Program)(t:TypeId)(z:Value):List Sv:=
 match P.underlying t with
 |some (.struct fs)=>z2f P fs.toList z.cells.toList
 |_=>z.cells.toList.map vW
def z8P(v:Sv):Bool:=
 match v with
 |.nilS=>true
 |_=>false
def z0y(P:Program)(t:TypeId)(i:Nat)(ps:List (Nat×Sv)):Bool:=
 match ps with
 |[]=>true
 |(f,v)::r=>(match z1U P t f with
  |some fd=>(match yO P fd.type with
   |some n=>(Nat.blt i fd.offset || Nat.ble (fd.offset+n) i) || (z8P v && Nat.beq fd.offset i)
   |none=>false)
  |none=>false) && z0y P t i r
def z6m(v:Option Value):Bool:=
 match v with
 |some (.slice none 0 0)=>true
 |_=>false
def z4t(P:Program)(t:TypeId)(z:List Value)(ps:List (Nat×Sv)):List Field→List (Nat×Nat)
 |[]=>[]
 |f::fs=>match z1T P f.type with
  |some e=>cond (z6m z[f.offset]? && z0y P t f.offset ps) ((f.offset,(yO P e).getD 0)::z4t P t z ps fs) (z4t P t z ps fs)
  |none=>z4t P t z ps fs
def z9k(x:D)(l:List (Nat×Nat)):Sv:=
 match l with
 |[]=>.d x
 |l=>.bld x l
def z3G(c:Cx)(o:Oper)(s:St)(k:zQ→Prop):Prop:=
 match o.op with
 |.move x=>uH s o.dst (opv s x) k
 |.assign x=>uH s o.dst (opv s x) k
 |.pick x a b=>brS (opv s x) (uH s o.dst (opv s a) k) (uH s o.dst (opv s b) k)
 |.alloc t=>kOpt (z1V c.P t) fun z=>kIf (z.cells.toList.all Value.oneCell') (match o.dst with
  |none=>False
  |some d=>cond (c.glob d)
    (newHp s o.dst (z2P c.P t z) k)
    (match c.P.underlying t with
     |some (.array _ e)=>kOpt (yO c.P e) fun n=>kIf (Nat.beq n 1) (kOpt (wQ z.cells.toList) fun ds=>newAr s o.dst (.row 1 ds) (fun d g=>.ref d g 0) k)
     |some (.struct _)=>match wQ z.cells.toList with
      |some ds=>newAr s o.dst (.agg (.agg ds)) (fun d g=>.ref d g 0) k
      |none=>newAr s o.dst (.box (z.cells.toList.map vW)) (fun d g=>.ref d g 0) k
     |_=>newAr s o.dst (.box (z.cells.toList.map vW)) (fun d g=>.ref d g 0) k))
 |.box t v=>match o.dst with
  |none=>False
  |some d=>cond (c.glob d)
    (cond (uD c.P t) (kOpt (yO c.P t) fun n=>kBld n (opv s v) fun ws=>newHp s o.dst ws k) (kKeep (opv s v) fun w=>newHp s o.dst [w] k))
    (cond (uD c.P t) (kOpt (yO c.P t) fun n=>kD (opv s v) fun x=>kWhole n x (newAr s o.dst (.agg x) (fun d g=>.ref d g 0) k))
     (kKeep (opv s v) fun w=>newAr s o.dst (.box [w]) (fun d g=>.ref d g 0) k))
 |.build t ps=>match c.P.underlying t with
  |some (.struct fs)=>kIf (gZ c.P fs.toList) (kOpt (z1V c.P t) fun z=>kOpt (wQ z.cells.toList) fun cs=>kFill c.P t (ps.toList.map fun(i,x)=>(i,opv s x)) cs fun cs=>uH s o.dst (z9k (.agg cs) (z4t c.P t z.cells.toList (ps.toList.map fun(i,x)=>(i,opv s x)) fs.toList)) k)
  |_=>False
 |.buildSlice t len ps=>kOpt (z1T c.P t) fun e=>kOpt (yO c.P e) fun n=>kOpt (z1V c.P e) fun _=>kIf (Nat.blt 0 n && Nat.ble (len*n) 16777216) (kIf (Nat.beq ps.toList.length len) (kElems c.P e n 0 (ps.toList.map fun(i,x)=>(i,opv s x)) fun xs=>
   newAr s o.dst (.tok n len) (fun d g=>cond (c.glob d && Nat.beq len 0) .nilS (.right d g n xs)) k))
 |.load t a=>kLoad c.P t s (opv s a) fun v=>uH s o.dst v k
 |.store t a v=>match o.dst with
  |none=>z1v c.P t s (opv s a) (opv s v) k
  |some _=>False
 |.nilCheck x=>match opv s x with
  |.hp i f=>uH s o.dst (.hp i f) k
  |.ref r g f=>kIf (s.live r g) (uH s o.dst (.ref r g f) k)
  |.iel x f=>uH s o.dst (.iel x f) k
  |.fn f a b=>uH s o.dst (.fn f a b) k
  |_=>False
 |.binOp op t x y _=>match op with
  |.eql=>kEqOp c.P t (opv s x) (opv s y) fun b=>uH s o.dst (.d (.bool b)) k
  |.neq=>kEqOp c.P t (opv s x) (opv s y) fun b=>uH s o.dst (.d (.bool (!b))) k
  |op=>kD (opv s x) fun a=>kD (opv s y) fun b=>kBin op a b fun r=>uH s o.dst (.d r) k
 |.unOp op _ x=>kD (opv s x) fun a=>match op with
  |.not=>match a with
   |.bool b=>uH s o.dst (.d (.bool (!b))) k
   |_=>False
  |.neg=>kI a fun i n=>nam (i.wrap (0-n)) fun r=>uH s o.dst (.d (.int i r)) k
  |_=>False
 |.convert src dst x=>match c.P.underlying src,c.P.underlying dst with
  |some (.int _),some (.int j)=>kD (opv s x) fun a=>kI a fun _ n=>nam (j.wrap n) fun r=>uH s o.dst (.d (.int j r)) k
  |some .string,some .string=>kD (opv s x) fun a=>kStr a fun u=>uH s o.dst (.d (.str u)) k
  |some (.slice e),some .string=>match c.P.underlying e with
   |some (.int .u8)=>kD (opv s x) fun a=>kSl a fun xs=>toBytes xs fun u=>uH s o.dst (.d (.str u)) k
   |_=>False
  |_,_=>False
 |.makeFunc f first cap=>match f with
  |.func f=>kArgs (first.toList.map (opv s)) fun xs=>kArgs (cap.toList.map (opv s)) fun ys=>uH s o.dst (.fn f xs ys) k
  |_=>False
 |.makeSlice t l m=>kOpt (z1T c.P t) fun e=>kOpt (yO c.P e) fun n=>kOpt (z5h c.P e) fun b=>kOpt (z1V c.P e) fun z=>kD (opv s l) fun lx=>kI lx fun _ l=>kD (opv s m) fun mx=>kI mx fun _ m=>
   (l=m∧0≤l∧l*b≤140737488355328∧l≤140737488355328)∧cond (uD c.P e)
    (kOpt (wQ z.cells.toList) fun ds=>kIf (Nat.beq ds.length n) (nam (List.replicate l.toNat (.agg ds)) fun xs=>newAr s o.dst (.row n xs) (fun d g=>.row d g) k))
    (kOpt (z1k z) fun x=>kIf (Nat.beq n 1) (nam (List.replicate l.toNat x) fun xs=>newAr s o.dst (.row n xs) (fun d g=>.row d g) k))
 |.slice t x lo hi mx=>z0A c.P t s o.dst (opv s x) (lo.map (opv s)) (hi.map (opv s)) (mx.map (opv s)) k
 |.fieldAddr t x f=>kFieldAddr c.P t s (opv s x) f fun v=>uH s o.dst v k
 |.field t x f=>kField c.P t (opv s x) f fun v=>uH s o.dst v k
 |.indexAddr t x i=>kIndexAddr c.P t s (opv s x) (opv s i) fun v=>uH s o.dst v k
 |.index t x i=>match c.P.underlying t with
  |some .string=>kIndex (opv s x) (opv s i) fun v=>uH s o.dst v k
  |_=>False
 |.extract t i=>match opv s t with
  |.tup vs=>kOpt vs[i]? fun v=>uH s o.dst v k
  |_=>False
 |.call cl=>z6p c s o cl k
 |_=>False
structure FP where
 rs:List Nat
 ws:List Nat
 ra:List Nat
 wa:List Nat
 rh:Bool
 wh:Bool
 rd:Bool
 wv:Bool
def has(l:List Nat)(i:Nat):Bool:=
 match l with
 |[]=>false
 |j::r=>Nat.beq j i || has r i
def z7p(a b:List Nat):Bool:=
 match a with
 |[]=>true
 |i::r=>!has b i && z7p r b
def z0K(a b:FP):Bool:=
 z7p a.ws b.rs && z7p a.ws b.ws && z7p b.ws a.rs && z7p a.wa b.ra && z7p a.wa b.wa && z7p b.wa a.ra && !(a.wh && (b.rh || b.wh || b.rd || b.wv)) && !(b.wh && (a.rh || a.rd || a.wv)) && !(a.wv && b.rh) && !(b.wv && a.rh)
def z9l:Sv→List Nat
 |.row k _=>[k]
 |_=>[]
def zW:Sv→List Nat
 |.cells cs=>cs.flatMap z9l
 |.right k _ _ _=>[k]
 |.row k _=>[k]
 |.ref k _ _=>[k]
 |.rref k _ _ _ _=>[k]
 |_=>[]
def z7m:Sv→Bool
 |.hp _ _=>true
 |.lent _ _ _ _ _=>true
 |.fn _ _ _=>true
 |_=>false
def wI(o:Oper):List Nat:=o.op.operands.toList.filterMap fun|.tmp t=>some t|_=>none
def gQ(ops:Array Oper)(o:Oper):List Nat:=
 match o.guard with
 |some (j,_)=>match ops[j]? with
  |some g=>match g.dst with
   |some d=>[d]
   |none=>[]
  |none=>[]
 |none=>[]
def zM(c:Cx)(s:St)(o:Oper):Nat:=
 match o.op with
 |.alloc _=>match o.dst with|some d=>cond (c.glob d) 2 1|none=>2
 |.box _ _=>match o.dst with|some d=>cond (c.glob d) 2 1|none=>2
 |.buildSlice _ _ _=>1
 |.makeSlice _ _ _=>1
 |.slice _ _ _ _ _=>1
 |.store _ _ _=>2
 |.call cl=>match cl.callee with
  |.builtin .append=>2
  |.builtin _=>0
  |.value f=>match opv s f with
   |.fn g _ _=>cond (c.pur g || c.ro g) 1 2
   |_=>2
  |_=>2
 |_=>0
def z6z(o:Oper):Bool:=
 match o.op with
 |.move _=>false
 |.assign _=>false
 |.pick _ _ _=>false
 |.nilCheck _=>false
 |.fieldAddr _ _ _=>false
 |.extract _ _=>false
 |.makeFunc _ _ _=>false
 |_=>true
def z8b(c:Cx)(s:St)(o:Oper):Bool:=
 match o.op with
 |.call cl=>match cl.callee with
  |.value f=>match opv s f with
   |.fn g _ _=>!c.pur g && c.ro g
   |_=>false
  |_=>false
 |_=>false
def z6W(s:St)(o:Oper):Bool:=
 match o.op with
 |.load _ a=>match opv s a with
  |.hp id off=>match s.h[id]? with
   |some cs=>(match cs[off]? with|some (.own _ _)=>false|_=>true)
   |none=>true
  |_=>false
 |_=>false
def gP(c:Cx)(ops:Array Oper)(o:Oper)(s:St):FP:=
 let sl:=wI o
 let ks:=sl.flatMap (fun i=>zW (s.get i))++o.dst.toList
 let ch:=zM c s o
 let u:=sl.any (fun i=>z7m (s.get i))
 {rs:=sl++gQ ops o,ws:=o.dst.toList,ra:=ks,wa:=cond (Nat.beq ch 0) [] ks,
  rh:=(u && z6z o && !(z6W s o || z8b c s o)) || Nat.beq ch 2,rd:=(u && z6z o) || Nat.beq ch 2 || z8b c s o,wv:=z8b c s o,wh:=Nat.beq ch 2 && (u || (match o.op with|.call {callee:=.value _,..}=>true|.alloc _=>true|.box _ _=>true|_=>false))}
def z2m(ops:Array Oper)(o:Oper):FP:={rs:=gQ ops o,ws:=o.dst.toList,ra:=[],wa:=[],rh:=false,wh:=false,rd:=false,wv:=false}
def z9c(acc:List Nat)(l:List Nat):List Nat:=
 match l with
 |[]=>acc
 |x::r=>z9c (cond (has acc x) acc (x::acc)) r
def z0H(e:Edge):Bool:=match e.ground with|.textOnly _=>false|.gcOnly _=>false|_=>true
def z6G(done:List (List Nat))(acc:List Nat)(l:List Edge):List Nat:=
 match l with
 |[]=>acc
 |e::r=>z6G done (cond (z0H e) (z9c acc (e.on::done.getD e.on [])) acc) r
def z2e(done:List (List Nat))(o:Oper):List Nat:=z6G done [] o.after.toList
def gI(P:Program)(o:Oper)(i:Nat):Bool:=
 o.after.toList.all fun e=>cond (z0H e) (Nat.blt e.on i) (P.follows .mixedOrders)
def jH(pr:List Nat)(fp:FP):List (Nat×FP)→Bool
 |[]=>true
 |(i,q)::r=>(has pr i || z0K q fp) && jH pr fp r
def gO(c:Cx)(ops:Array Oper)(draw:Bool)(i:Nat)(done:List (List Nat))(fps:List (Nat×FP))(l:List Oper)(s:St)(k:St→Prop):Prop:=
 match l with
 |[]=>k s
 |o::r=>
  let pr:=cond draw (z2e done o) []
  let run (s:St):Prop:=
   let fp:=cond draw (gP c ops o s) ⟨[],[],[],[],false,false,false,false⟩
   kIf (cond draw (gI c.P o i && jH pr fp fps) true) (z3G c o s fun p=>gO c ops draw (i+1) (done++[pr]) ((i,fp)::fps) r (s.app p) k)
  let skip (s:St):Prop:=
   let fp:=cond draw (z2m ops o) ⟨[],[],[],[],false,false,false,false⟩
   kIf (cond draw (gI c.P o i && jH pr fp fps) true) (gO c ops draw (i+1) (done++[pr]) ((i,fp)::fps) r (match o.dst with|some d=>s.app (jI d .skp)|none=>s) k)
  match o.guard with
  |none=>run s
  |some (j,w)=>match ops[j]? with
   |some g=>match g.dst with
    |some d=>match s.get d with
     |.skp=>skip s
     |v=>brS v
      (let s1:=s.app (jI d (.d (.bool true)));cond w (run s1) (skip s1))
      (let s1:=s.app (jI d (.d (.bool false)));cond w (skip s1) (run s1))
    |none=>False
   |none=>False
def z5Y(id:Nat):List KI→Option (List KI)
 |[]=>none
 |.blk j::K=>cond (Nat.beq j id) (some K) (z5Y id K)
 |_::K=>z5Y id K
def yM:Code→Option Nat
 |.region id _ _=>some id
 |.seq a b=>match yM a with|some i=>some i|none=>yM b
 |.cond _ a b=>match yM a with|some i=>some i|none=>yM b
 |.block _ a=>yM a
 |.scope a=>yM a
 |.loop a=>yM a
 |_=>none
def jE:List Lv→List Nat
 |[]=>[]
 |.s _::r=>jE r
 |.o _ key _::r=>key::jE r
 |.a i::r=>i::jE r
 |.h _::r=>jE r
def z8G(ks:List Nat):Sv→Sv
 |.lent _ _ _ _ xs=>.d (.sl xs)
 |.bld x _=>.d x
 |.right k g n xs=>cond (has ks k) (.right k g n xs) (.d (.sl xs))
 |.row k g=>cond (has ks k) (.row k g) .undef
 |.ref k g o=>cond (has ks k) (.ref k g o) .undef
 |.rref k g n i o=>cond (has ks k) (.rref k g n i o) .undef
 |.tup vs=>cond (vU vs) (.tup vs) .undef
 |.cells _=>.undef
 |v=>v
def z7h(e:Nat×Option Ob)(g n:Nat):Bool:=
 match e with
 |(g',some (.tok m 0))=>Nat.beq g' g && Nat.beq m n
 |_=>false
def gC(e:Nat×Option Ob):Nat×Option Ob:=
 match e with
 |(g,some (.box cs))=>(g,cond (vU cs) (some (.box cs)) none)
 |e=>e
def uF(s:St)(ks:List Nat)(A:List (Nat×Nat×Option Ob)):List Lv→List (Nat×Sv)
 |[]=>[]
 |.s i::r=>(i,z8G ks (s.get i))::uF s ks A r
 |.o i key n::r=>(match s.get i with|.nilS=>(i,cond (z7h (zC A key) (s.gen key+1) n) (.right key (s.gen key+1) n []) (.d (.sl [])))|v=>(i,z8G ks v))::uF s ks A r
 |.a _::r=>uF s ks A r
 |.h _::r=>uF s ks A r
def zP(s:St):List Lv→List (Nat×Nat×Option Ob)
 |[]=>[]
 |.s _::r=>zP s r
 |.o i key n::r=>(match s.get i with|.nilS=>(key,s.gen key+1,some (.tok n 0))|_=>(key,gC (zC s.ar key)))::zP s r
 |.a i::r=>(i,gC (zC s.ar i))::zP s r
 |.h _::r=>zP s r
def restrict(s:St)(l:List Lv):St:={s with fr:=uF s (jE l) (zP s l) l,ar:=zP s l,hv:=0}
mutual
def hLt(n:Nat):Sv→Bool
 |.hp id _=>Nat.blt id n
 |.lent id _ _ _ _=>Nat.blt id n
 |.fn _ a b=>z7q n a && z7q n b
 |.tup vs=>z7q n vs
 |.cells vs=>z7q n vs
 |_=>true
def z7q(n:Nat):List Sv→Bool
 |[]=>true
 |v::r=>hLt n v && z7q n r
end
def z8U:Sv→Sv
 |.lent _ _ _ _ xs=>.d (.sl xs)
 |_=>.undef
def cutH(n:Nat)(v:Sv):Sv:=cond (hLt n v) v (z8U v)
def z3B(n:Nat):List Sv→List Sv
 |[]=>[]
 |v::r=>cutH n v::z3B n r
def z5K(n:Nat):List (Nat×Sv)→List (Nat×Sv)
 |[]=>[]
 |(i,v)::r=>(i,cutH n v)::z5K n r
def z5L(n:Nat):Ob→Ob
 |.box cs=>.box (z3B n cs)
 |o=>o
def z4e(n:Nat):List (Nat×Nat×Option Ob)→List (Nat×Nat×Option Ob)
 |[]=>[]
 |(k,g,some o)::r=>(k,g,some (z5L n o))::z4e n r
 |(k,g,none)::r=>(k,g,none)::z4e n r
def z0u(n:Nat):H→Nat→H
 |_,0=>[]
 |[],_=>[]
 |cs::r,m+1=>z3B n cs::z0u n r m
def trim(n:Nat)(s:St):St:={n:=s.n,fr:=z5K n s.fr,ar:=z4e n s.ar,h:=z0u n s.h n,hv:=s.hv+1}
def hOf:List Lv→Option Nat
 |[]=>none
 |.h n::_=>some n
 |_::r=>hOf r
def trimL(c:Cx)(lv:List Lv)(s:St):St:=
 match hOf lv with
 |some n=>trim (c.nh+n) s
 |none=>s
def kGo(s:St)(rk:RK)(v:Sv)(k:Sv→Prop):Prop:=
 match rk with
 |.d _=>kD v fun x=>k (.d x)
 |.own n=>match v with
  |.right r g n' xs=>match s.ob r g with
   |some (.tok n'' m)=>kIf (Nat.beq n n') (kIf (Nat.beq n n'') (m=xs.length∧k (.own n xs)))
   |_=>False
  |.nilS=>k (.own n [])
  |_=>False
 |.hp=>match v with
  |.hp i o=>k (.hp i o)
  |_=>False
 |.fns gs=>match v with
  |.fn f [] []=>kIf (has gs f) (k (.fn f [] []))
  |_=>False
 |_=>False
def z9d(c:Cx)(s:St)(rv:ResultVar)(rk:RK)(k:Sv→Prop):Prop:=
 match rv with
 |.tmp t=>match s.get t with
  |.row r g=>match rk with
   |.d _=>kOpt (s.ob r g) fun ob=>match ob with|.row _ xs=>k (.d (.sl xs))|_=>False
   |.wr n=>kOpt (s.ob r g) fun ob=>match ob with|.row n' xs=>kIf (Nat.beq n n') (k (.wr n xs))|_=>False
   |_=>False
  |v=>kGo s rk v k
 |.cell a t=>kLoad c.P t s (s.get a) fun v=>kGo s rk v k
def z8s(c:Cx)(s:St):List ResultVar→List RK→(List Sv→Prop)→Prop
 |[],[],k=>k []
 |v::vs,r::rs,k=>z9d c s v r fun x=>z8s c s vs rs fun xs=>k (x::xs)
 |_,_,_=>False
def z9g:Sv→Bool
 |.wr _ _=>false
 |_=>true
def z9o(rs:List Sv):Bool:=
 match rs with
 |[_]=>true
 |rs=>rs.all z9g
def z0o(c:Cx)(s:St):Prop:=z8s c s c.fn.results.toList (c.rk c.self) fun rs=>kIf (z9o rs) (rs=c.rs∧s.h=c.h')
def fin(c:Cx)(s:St):Prop:=cond (Nat.ble s.h.length c.nh) (z0o c s) (z0o c (trim c.nh s))
def frz1(s:St)(q i:Nat):St:=
 match zC s.ar q with
 |(g,some (.box cs))=>match cs[i]? with
  |some (.row k gk)=>match s.ob k gk with
   |some (.row _ xs)=>s.app ⟨[],[(q,g,some (.box (cs.set i (.d (.sl xs))))),(k,gk,none)],none⟩
   |_=>s
  |_=>s
 |_=>s
def frzs(s:St):List (Nat×Nat)→St
 |[]=>s
 |(q,i)::r=>frzs (frz1 s q i) r
def evI(c:Cx)(B:List KI→St→Prop):Nat→Bool→List KI→St→Prop
 |0,_,_,_=>False
 |n+1,st,K,s=>match K with
  |[]=>fin c s
  |.blk _::K=>evI c B n true K s
  |.sc _::K=>evI c B n true K s
  |.loop b::K=>kOpt (yM b) fun r=>kOpt (c.live r) fun lv=>B (.loop b::K) (restrict (trimL c lv s) lv)
  |.code co::K=>match co with
   |.skip=>evI c B n true K s
   |.seq a b=>evI c B n st (.code a::.code b::K) s
   |.cond x a b=>brS (opv s x) (evI c B n true (.code a::K) s) (evI c B n true (.code b::K) s)
   |.block id b=>evI c B n st (.code b::.blk id::K) s
   |.scope b=>evI c B n st (.code b::.sc b::K) s
   |.label _=>evI c B n st K s
   |.loop b=>kOpt (yM b) fun r=>kOpt (c.live r) fun lv=>B (.loop b::K) (restrict (trimL c lv s) lv)
   |.exit id=>kOpt (z5Y id K) fun K=>evI c B n true K s
   |.ret=>fin c s
   |.region id ops draw=>match cond st (c.join id) none with
    |some lv=>B (.code co::K) (restrict (trimL c lv s) lv)
    |none=>gO c ops draw 0 [] [] ops.toList (frzs s (c.frz id)) fun s=>evI c B n true K s
   |_=>False
end Nt

