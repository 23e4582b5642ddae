import Derived.Test.YtjlohgfmobpfmaaTy
namespace Go.Proofs.Ytjlohgfmobpfmaa.M
open Go Nt
set_option linter.unusedVariables false
noncomputable section
def fr(xs:List Edit)(k:Nat):Int:=(xs.getD k ⟨0,0,[]⟩).From
def swF(xs:List Edit)(i j:Nat):List Edit:=(xs.set i (xs.getD j ⟨0,0,[]⟩)).set j (xs.getD i ⟨0,0,[]⟩)
def upF:Nat→List Edit→Nat→List Edit
 |0,xs,_=>xs
 |n+1,xs,j=>if j=0 then xs else if fr xs j<fr xs ((j-1) / 2)then upF n (swF xs ((j-1) / 2) j) ((j-1) / 2)else xs
def z2I:Nat→List Edit→Nat→Nat→List Edit
 |0,xs,_,_=>xs
 |f+1,xs,i,n=>if 2*i+1<n then
   (if fr xs (if 2*i+2<n∧fr xs (2*i+2)<fr xs (2*i+1)then 2*i+2 else 2*i+1)<fr xs i then
    z2I f (swF xs i (if 2*i+2<n∧fr xs (2*i+2)<fr xs (2*i+1)then 2*i+2 else 2*i+1)) (if 2*i+2<n∧fr xs (2*i+2)<fr xs (2*i+1)then 2*i+2 else 2*i+1) n else xs)else xs
def z3Z(xs:List Edit)(e:Edit):List Edit:=upF (xs.length+1) (xs++[e]) xs.length
def gA(xs:List Edit):List Edit:=z2I (xs.length+1) (swF xs 0 (xs.length-1)) 0 (xs.length-1)
def uA(n:Int):List Edit→List Edit→Option (List Edit)
 |[],h=>some h
 |e::r,h=>if e.From<0∨e.From>e.To∨e.To>n then none else uA n r (z3Z h e)
def z1L:Nat→List Edit→List Edit→Option (List Edit)
 |0,h,out=>some out
 |f+1,h,out=>if h.length=0 then some out else if 0<out.length∧((gA h).getD (h.length-1) ⟨0,0,[]⟩).From≤(out.getD (out.length-1) ⟨0,0,[]⟩).To then none
  else z1L f ((gA h).take (h.length-1)) (out++[(gA h).getD (h.length-1) ⟨0,0,[]⟩])
def yK(text:Str)(edits:List Edit):Option (List Edit×Int):=
 if List.length edits≤1000000∧List.length text≤9223372036854775807 then(match uA (List.length text) edits []with|none=>some ([],13)|some h=>match z1L (List.length h+1) h []with|none=>some ([],15)|some l=>some (l,0))else none
def yJ:Int→List Edit→Int
 |n,[]=>n
 |n,x::r=>yJ (IntKind.wrap .i64 (n-IntKind.wrap .i64 (x.To-x.From))) r
def yR:Int→List Edit→Option Int
 |n,[]=>some n
 |n,x::r=>if(List.length x.Text:Int)>IntKind.wrap .i64 (8192-n)then none else yR (IntKind.wrap .i64 (n+List.length x.Text)) r
def vB(text:Str):List Edit→Int→Str→List Region→Option (Str×Int×List Region)
 |[],a,acc,rs=>some (acc,a,rs)
 |x::r,a,acc,rs=>if 0≤a∧a≤x.From∧x.From≤(List.length text:Int)∧(List.length acc:Int)+(x.From-a)+List.length x.Text≤1000000000 then
   vB text r x.To (acc++(List.take (Int.toNat x.From) text).drop (Int.toNat a)++x.Text) (rs++[⟨x.From,x.To,(List.length (acc++(List.take (Int.toNat x.From) text).drop (Int.toNat a)):Int),(List.length (acc++(List.take (Int.toNat x.From) text).drop (Int.toNat a)++x.Text):Int)⟩])else none
def zN(text:Str)(edits:List Edit):Option (Str×List Region×Int):=
 yK text edits>>=fun q=>if List.length q.1≤1000000 then(if q.2=0 then(match yR (yJ (List.length text) q.1) q.1 with
  |none=>some ([],[],3)
  |some n=>if n>8192 then some ([],[],3)else vB text q.1 0 [] []>>=fun p=>if 0≤p.2.1∧p.2.1≤(List.length text:Int)∧(List.length p.1:Int)+(List.length text-p.2.1)≤1000000000 then some (p.1++text.drop (Int.toNat p.2.1),p.2.2,0)else none)else some ([],[],q.2))else none
def zZ(text:Str)(edits:List Edit):Option (Str×Int):=
 zN text edits>>=fun q1=>
 some (q1.1,q1.2.2)
def vT :Option (Bool):=
 zZ ([97,98]:List UInt8) [(Edit.mk 1 1 ([120]:List UInt8))]>>=fun q1=>
 if q1.1=([97,120,98]:List UInt8)then
  some ((q1.2 == 0))
 else
 some (false)
def zO(zF:(List Region)→(List Region)→Int→Option (Bool))(r_:List Region)(q:List Region)(i:Int):Option (Bool):=
 if i<(List.length r_:Int)then
  idx q i>>=fun x=>
  idx r_ i>>=fun x1=>
  if x.FromP=x1.FromQ then
   idx q i>>=fun x2=>
   idx r_ i>>=fun x3=>
   if x2.ToP=x3.ToQ then
    idx q i>>=fun x4=>
    idx r_ i>>=fun x5=>
    if x4.FromQ=x5.FromP then
     idx q i>>=fun x6=>
     idx r_ i>>=fun x7=>
     if x6.ToQ=x7.ToP then
      zF r_ q (IntKind.wrap .i64 (i+1))
     else
     some (false)
    else
    some (false)
   else
   some (false)
  else
  some (false)
 else
 vT>>=fun q1=>
 some (q1)
inductive zU where
 |zF (r_:List Region) (q:List Region) (i:Int)
@[reducible] def yP:zU→Type
 |.zF _ _ _=>Bool
def vL(g:Fam yP):Fam yP
 |.zF r_ q i=>zO (fun r_ q i=>g (zU.zF r_ q i)) r_ q i
theorem wJ:∀i,Good (fun g=>vL g i)
 |.zF r_ q i=>show Good (fun g:Fam yP=>zO (fun r_ q i=>g (zU.zF r_ q i)) r_ q i)by unfold zO;exact(.ite (.bind (.const _) fun _=>(.bind (.const _) fun _=>(.ite (.bind (.const _) fun _=>(.bind (.const _) fun _=>(.ite (.bind (.const _) fun _=>(.bind (.const _) fun _=>(.ite (.bind (.const _) fun _=>(.bind (.const _) fun _=>(.ite (.call _) (.const _)))) (.const _)))) (.const _)))) (.const _)))) (.bind (.const _) fun _=>(.const _)))
def zF(r_:List Region)(q:List Region)(i:Int):Option (Bool):=z6a vL (.zF r_ q i)
theorem wG(r_:List Region)(q:List Region)(i:Int):zF r_ q i=zO zF r_ q i:=z6b wJ (.zF r_ q i)
def wA(edits:List Edit):Option (Bool):=
 some (decide ((List.length edits:Int)>60))
def zX(patch_Back_L6:Str→(List Edit)→(List Region)→Int→Int→Option (List Edit×Int))(text:Str)(out:List Edit)(v22:List Region)(v23:Int)(v24:Int):Option (List Edit×Int):=
 if v24<v23 then
  idx v22 v24>>=fun x=>
  if(0:Int)≤x.ToP then
  if Int.toNat x.ToP≤List.length text then
  if(0:Int)≤x.FromP then
  if Int.toNat x.FromP≤Int.toNat x.ToP then
  if z3e 32 (List.length out+List.length [(Edit.mk x.FromQ x.ToQ (List.drop (Int.toNat x.FromP) (List.take (Int.toNat x.ToP) text)))])then
  patch_Back_L6 text (out++[(Edit.mk x.FromQ x.ToQ (List.drop (Int.toNat x.FromP) (List.take (Int.toNat x.ToP) text)))]) v22 v23 (IntKind.wrap .i64 (v24+1))
  else none
  else none
  else none
  else none
  else none
 else
 some (out,0)
inductive I_patch_Back_L6 where
 |patch_Back_L6 (text:Str) (out:List Edit) (v22:List Region) (v23:Int) (v24:Int)
@[reducible] def vV:I_patch_Back_L6→Type
 |.patch_Back_L6 _ _ _ _ _=>List Edit×Int
def wN(g:Fam vV):Fam vV
 |.patch_Back_L6 text out v22 v23 v24=>zX (fun text out v22 v23 v24=>g (I_patch_Back_L6.patch_Back_L6 text out v22 v23 v24)) text out v22 v23 v24
theorem uR:∀i,Good (fun g=>wN g i)
 |.patch_Back_L6 text out v22 v23 v24=>show Good (fun g:Fam vV=>zX (fun text out v22 v23 v24=>g (I_patch_Back_L6.patch_Back_L6 text out v22 v23 v24)) text out v22 v23 v24)by unfold zX;exact(.ite (.bind (.const _) fun _=>(.ite (.ite (.ite (.ite (.ite (.call _) (.const _)) (.const _)) (.const _)) (.const _)) (.const _))) (.const _))
def patch_Back_L6(text:Str)(out:List Edit)(v22:List Region)(v23:Int)(v24:Int):Option (List Edit×Int):=z6a wN (.patch_Back_L6 text out v22 v23 v24)
theorem uP(text:Str)(out:List Edit)(v22:List Region)(v23:Int)(v24:Int):patch_Back_L6 text out v22 v23 v24=zX patch_Back_L6 text out v22 v23 v24:=z6b uR (.patch_Back_L6 text out v22 v23 v24)
def wB(text:Str)(edits:List Edit):Option (List Edit×Int):=
 zN text edits>>=fun q1=>
 if q1.2.2=0 then
  patch_Back_L6 text [] q1.2.1 (List.length q1.2.1:Int) 0
 else
 some (([]:List Edit),q1.2.2)
def yI(text:Str)(edits:List Edit):Option (List Region×Int):=
 zN text edits>>=fun q1=>
 some (q1.2.1,q1.2.2)
def wD(text:Str)(edits:List Edit):Option (Bool):=
 wA edits>>=fun q1=>
 if q1=true then
  vT>>=fun q2=>
  some (q2)
 else
 if(List.length text:Int)>8192 then
  vT>>=fun q3=>
  some (q3)
 else
 zZ text edits>>=fun q4=>
 wB text edits>>=fun q5=>
 if q4.2=0 then
  zZ q4.1 q5.1>>=fun q7=>
  yI text edits>>=fun q8=>
  yI q4.1 q5.1>>=fun q9=>
  if q5.2=0 then
   if q7.2=0 then
    if q7.1=text then
     if(List.length q9.1:Int)=(List.length q8.1:Int)then
      if(List.length q8.1:Int)=(List.length edits:Int)then
       zF q8.1 q9.1 0
      else
      some (false)
     else
     some (false)
    else
    some (false)
   else
   some (false)
  else
  some (false)
 else
 if q5.2=q4.2 then
  if(List.length q5.1:Int)=0 then
   vT>>=fun q6=>
   some (q6)
  else
  some (false)
 else
 some (false)
end
end Go.Proofs.Ytjlohgfmobpfmaa.M

