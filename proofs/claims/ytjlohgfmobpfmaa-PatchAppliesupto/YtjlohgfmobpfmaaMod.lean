import Derived.Test.YtjlohgfmobpfmaaTy
namespace Go.Proofs.Ytjlohgfmobpfmaa.M
open Go Nt
set_option linter.unusedVariables false
noncomputable section
def fr(xs:List Edit)(k:Nat):Int:=(xs.getD k ⟨0,0,[]⟩).From
def swF(xs:List Edit)(i j:Nat):List Edit:=(xs.set i (xs.getD j ⟨0,0,[]⟩)).set j (xs.getD i ⟨0,0,[]⟩)
def upF:Nat→List Edit→Nat→List Edit
 |0,xs,_=>xs
 |n+1,xs,j=>if j=0 then xs else if fr xs j<fr xs ((j-1) / 2)then upF n (swF xs ((j-1) / 2) j) ((j-1) / 2)else xs
def z4g:Nat→List Edit→Nat→Nat→List Edit
 |0,xs,_,_=>xs
 |f+1,xs,i,n=>if 2*i+1<n then
   (if fr xs (if 2*i+2<n∧fr xs (2*i+2)<fr xs (2*i+1)then 2*i+2 else 2*i+1)<fr xs i then
    z4g f (swF xs i (if 2*i+2<n∧fr xs (2*i+2)<fr xs (2*i+1)then 2*i+2 else 2*i+1)) (if 2*i+2<n∧fr xs (2*i+2)<fr xs (2*i+1)then 2*i+2 else 2*i+1) n else xs)else xs
def z5A(xs:List Edit)(e:Edit):List Edit:=upF (xs.length+1) (xs++[e]) xs.length
def z0s(xs:List Edit):List Edit:=z4g (xs.length+1) (swF xs 0 (xs.length-1)) 0 (xs.length-1)
def jO(n:Int):List Edit→List Edit→Option (List Edit)
 |[],h=>some h
 |e::r,h=>if e.From<0∨e.From>e.To∨e.To>n then none else jO n r (z5A h e)
def z3d:Nat→List Edit→List Edit→Option (List Edit)
 |0,h,out=>some out
 |f+1,h,out=>if h.length=0 then some out else if 0<out.length∧((z0s h).getD (h.length-1) ⟨0,0,[]⟩).From≤(out.getD (out.length-1) ⟨0,0,[]⟩).To then none
  else z3d f ((z0s h).take (h.length-1)) (out++[(z0s h).getD (h.length-1) ⟨0,0,[]⟩])
def yW(text:Str)(edits:List Edit):Option (List Edit×Int):=
 if List.length edits≤1000000∧List.length text≤9223372036854775807 then(match jO (List.length text) edits []with|none=>some ([],13)|some h=>match z3d (List.length h+1) h []with|none=>some ([],15)|some l=>some (l,0))else none
def yV:Int→List Edit→Int
 |n,[]=>n
 |n,x::r=>yV (IntKind.wrap .i64 (n-IntKind.wrap .i64 (x.To-x.From))) r
def vI:Int→List Edit→Option Int
 |n,[]=>some n
 |n,x::r=>if(List.length x.Text:Int)>IntKind.wrap .i64 (8192-n)then none else vI (IntKind.wrap .i64 (n+List.length x.Text)) r
def vY(text:Str):List Edit→Int→Str→List Region→Option (Str×Int×List Region)
 |[],a,acc,rs=>some (acc,a,rs)
 |x::r,a,acc,rs=>if 0≤a∧a≤x.From∧x.From≤(List.length text:Int)∧(List.length acc:Int)+(x.From-a)+List.length x.Text≤1000000000 then
   vY text r x.To (acc++(List.take (Int.toNat x.From) text).drop (Int.toNat a)++x.Text) (rs++[⟨x.From,x.To,(List.length (acc++(List.take (Int.toNat x.From) text).drop (Int.toNat a)):Int),(List.length (acc++(List.take (Int.toNat x.From) text).drop (Int.toNat a)++x.Text):Int)⟩])else none
def zV(text:Str)(edits:List Edit):Option (Str×List Region×Int):=
 yW text edits>>=fun q=>if List.length q.1≤1000000 then(if q.2=0 then(match vI (yV (List.length text) q.1) q.1 with
  |none=>some ([],[],3)
  |some n=>if n>8192 then some ([],[],3)else vY text q.1 0 [] []>>=fun p=>if 0≤p.2.1∧p.2.1≤(List.length text:Int)∧(List.length p.1:Int)+(List.length text-p.2.1)≤1000000000 then some (p.1++text.drop (Int.toNat p.2.1),p.2.2,0)else none)else some ([],[],q.2))else none
def vX(text:Str)(edits:List Edit):Option (Str×Int):=
 zV text edits>>=fun q1=>
 some (q1.1,q1.2.2)
def wG :Option (Bool):=
 vX ([97,98]:List UInt8) [(Edit.mk 1 1 ([120]:List UInt8))]>>=fun q1=>
 if q1.1=([97,120,98]:List UInt8)then
  some ((q1.2 == 0))
 else
 some (false)
def uI(edits:List Edit):Option (Bool):=
 some (decide ((List.length edits:Int)>60))
def wI(text:Str)(edits:List Edit):Option (List Region×Int):=
 zV text edits>>=fun q1=>
 some (q1.2.1,q1.2.2)
def yL(zL:Str→(List Edit)→Int→Option (Str))(text:Str)(l:List Edit)(i:Int):Option (Str):=
 if i≥0 then
  idx l i>>=fun x=>
  if(0:Int)≤x.From then
  if Int.toNat x.From≤List.length text then
  if 0≤Int.toNat x.From then
  idx l i>>=fun x1=>
  if List.length (List.drop 0 (List.take (Int.toNat x.From) text))+List.length x1.Text≤9223372036854775807 then
  idx l i>>=fun x2=>
  if List.length text≤List.length text then
  if(0:Int)≤x2.To then
  if Int.toNat x2.To≤List.length text then
  if List.length ((List.drop 0 (List.take (Int.toNat x.From) text))++x1.Text)+List.length (List.drop (Int.toNat x2.To) (List.take (List.length text) text))≤9223372036854775807 then
  zL (((List.drop 0 (List.take (Int.toNat x.From) text))++x1.Text)++(List.drop (Int.toNat x2.To) (List.take (List.length text) text))) l (IntKind.wrap .i64 (i-1))
  else none
  else none
  else none
  else none
  else none
  else none
  else none
  else none
 else
 some (text)
inductive vD where
 |zL (text:Str) (l:List Edit) (i:Int)
@[reducible] def wV:vD→Type
 |.zL _ _ _=>Str
def uX(g:Fam wV):Fam wV
 |.zL text l i=>yL (fun text l i=>g (vD.zL text l i)) text l i
theorem gM:∀i,Good (fun g=>uX g i)
 |.zL text l i=>show Good (fun g:Fam wV=>yL (fun text l i=>g (vD.zL text l i)) text l i)by unfold yL;exact(.ite (.bind (.const _) fun _=>(.ite (.ite (.ite (.bind (.const _) fun _=>(.ite (.bind (.const _) fun _=>(.ite (.ite (.ite (.ite (.call _) (.const _)) (.const _)) (.const _)) (.const _))) (.const _))) (.const _)) (.const _)) (.const _))) (.const _))
def zL(text:Str)(l:List Edit)(i:Int):Option (Str):=z4l uX (.zL text l i)
theorem gK(text:Str)(l:List Edit)(i:Int):zL text l i=yL zL text l i:=z1s gM (.zL text l i)
def zH(out:List Edit)(x:Edit):Nat→Nat
 |0=>0
 |n+1=>if fr out n>x.From then zH out x n else n+1
def zT:List Edit→List Edit→List Edit
 |[],out=>out
 |x::r,out=>zT r (out.take (zH out x out.length)++[x]++out.drop (zH out x out.length))
def vB(edits:List Edit):Option (List Edit):=if List.length edits≤1000000 then some (zT edits [])else none
def uW(text:Str)(edits:List Edit):Option (Str):=
 vB edits>>=fun q1=>
 zL text q1 (IntKind.wrap .i64 ((List.length q1:Int)-1))
def yI(zI:(List Edit)→Int→Int→Option (Int))(l:List Edit)(size:Int)(i:Int):Option (Int):=
 if i<(List.length l:Int)then
  idx l i>>=fun x=>
  if(IntKind.wrap .i64 (size+(List.length x.Text:Int)))>8192 then
   some (3)
  else
  zI l (IntKind.wrap .i64 (size+(List.length x.Text:Int))) (IntKind.wrap .i64 (i+1))
 else
 if size>8192 then
  some (3)
 else
 some (0)
inductive yS where
 |zI (l:List Edit) (size:Int) (i:Int)
@[reducible] def wP:yS→Type
 |.zI _ _ _=>Int
def uQ(g:Fam wP):Fam wP
 |.zI l size i=>yI (fun l size i=>g (yS.zI l size i)) l size i
theorem gJ:∀i,Good (fun g=>uQ g i)
 |.zI l size i=>show Good (fun g:Fam wP=>yI (fun l size i=>g (yS.zI l size i)) l size i)by unfold yI;exact(.ite (.bind (.const _) fun _=>(.ite (.const _) (.call _))) (.ite (.const _) (.const _)))
def zI(l:List Edit)(size:Int)(i:Int):Option (Int):=z4l uQ (.zI l size i)
theorem jT(l:List Edit)(size:Int)(i:Int):zI l size i=yI zI l size i:=z1s gJ (.zI l size i)
def zX(zG:(List Edit)→Int→Int→Option (Int))(l:List Edit)(size:Int)(i:Int):Option (Int):=
 if i<(List.length l:Int)then
  if i>0 then
   idx l i>>=fun x=>
   idx l (IntKind.wrap .i64 (i-1))>>=fun x1=>
   if x.From≤x1.To then
    some (15)
   else
   idx l i>>=fun x2=>
   idx l i>>=fun x3=>
   zG l (IntKind.wrap .i64 (size-(IntKind.wrap .i64 (x2.To-x3.From)))) (IntKind.wrap .i64 (i+1))
  else
  idx l i>>=fun x4=>
  idx l i>>=fun x5=>
  zG l (IntKind.wrap .i64 (size-(IntKind.wrap .i64 (x4.To-x5.From)))) (IntKind.wrap .i64 (i+1))
 else
 zI l size 0
inductive vG where
 |zG (l:List Edit) (size:Int) (i:Int)
@[reducible] def wX:vG→Type
 |.zG _ _ _=>Int
def uZ(g:Fam wX):Fam wX
 |.zG l size i=>zX (fun l size i=>g (vG.zG l size i)) l size i
theorem gO:∀i,Good (fun g=>uZ g i)
 |.zG l size i=>show Good (fun g:Fam wX=>zX (fun l size i=>g (vG.zG l size i)) l size i)by unfold zX;exact(.ite (.ite (.bind (.const _) fun _=>(.bind (.const _) fun _=>(.ite (.const _) (.bind (.const _) fun _=>(.bind (.const _) fun _=>(.call _)))))) (.bind (.const _) fun _=>(.bind (.const _) fun _=>(.call _)))) (.const _))
def zG(l:List Edit)(size:Int)(i:Int):Option (Int):=z4l uZ (.zG l size i)
theorem vO(l:List Edit)(size:Int)(i:Int):zG l size i=zX zG l size i:=z1s gO (.zG l size i)
def yG(zK:Str→(List Edit)→Int→Option (Int))(text:Str)(edits:List Edit)(i:Int):Option (Int):=
 if i<(List.length edits:Int)then
  idx edits i>>=fun x=>
  if x.From<0 then
   some (13)
  else
  idx edits i>>=fun x1=>
  idx edits i>>=fun x2=>
  if x1.From>x2.To then
   some (13)
  else
  idx edits i>>=fun x3=>
  if x3.To>(List.length text:Int)then
   some (13)
  else
  zK text edits (IntKind.wrap .i64 (i+1))
 else
 vB edits>>=fun q1=>
 zG q1 (List.length text:Int) 0
inductive vF where
 |zK (text:Str) (edits:List Edit) (i:Int)
@[reducible] def wW:vF→Type
 |.zK _ _ _=>Int
def uY(g:Fam wW):Fam wW
 |.zK text edits i=>yG (fun text edits i=>g (vF.zK text edits i)) text edits i
theorem gN:∀i,Good (fun g=>uY g i)
 |.zK text edits i=>show Good (fun g:Fam wW=>yG (fun text edits i=>g (vF.zK text edits i)) text edits i)by unfold yG;exact(.ite (.bind (.const _) fun _=>(.ite (.const _) (.bind (.const _) fun _=>(.bind (.const _) fun _=>(.ite (.const _) (.bind (.const _) fun _=>(.ite (.const _) (.call _)))))))) (.bind (.const _) fun _=>(.const _)))
def zK(text:Str)(edits:List Edit)(i:Int):Option (Int):=z4l uY (.zK text edits i)
theorem uR(text:Str)(edits:List Edit)(i:Int):zK text edits i=yG zK text edits i:=z1s gN (.zK text edits i)
def wJ(text:Str)(edits:List Edit):Option (Int):=
 zK text edits 0
def yD(zJ:(List Edit)→(List Region)→Int→Int→Option (List Region))(l:List Edit)(out:List Region)(more:Int)(i:Int):Option (List Region):=
 if i<(List.length l:Int)then
  idx l i>>=fun x=>
  idx l i>>=fun x1=>
  idx l i>>=fun x2=>
  idx l i>>=fun x3=>
  idx l i>>=fun x4=>
  idx l i>>=fun x5=>
  idx l i>>=fun x6=>
  if z4E 32 (List.length out+List.length [(Region.mk x4.From x5.To (IntKind.wrap .i64 (x.From+more)) (IntKind.wrap .i64 (x6.To+(IntKind.wrap .i64 (more+(IntKind.wrap .i64 ((List.length x1.Text:Int)-(IntKind.wrap .i64 (x2.To-x3.From)))))))))])then
  zJ l (out++[(Region.mk x4.From x5.To (IntKind.wrap .i64 (x.From+more)) (IntKind.wrap .i64 (x6.To+(IntKind.wrap .i64 (more+(IntKind.wrap .i64 ((List.length x1.Text:Int)-(IntKind.wrap .i64 (x2.To-x3.From)))))))))]) (IntKind.wrap .i64 (more+(IntKind.wrap .i64 ((List.length x1.Text:Int)-(IntKind.wrap .i64 (x2.To-x3.From)))))) (IntKind.wrap .i64 (i+1))
  else none
 else
 some (out)
inductive yQ where
 |zJ (l:List Edit) (out:List Region) (more:Int) (i:Int)
@[reducible] def wC:yQ→Type
 |.zJ _ _ _ _=>List Region
def uC(g:Fam wC):Fam wC
 |.zJ l out more i=>yD (fun l out more i=>g (yQ.zJ l out more i)) l out more i
theorem jR:∀i,Good (fun g=>uC g i)
 |.zJ l out more i=>show Good (fun g:Fam wC=>yD (fun l out more i=>g (yQ.zJ l out more i)) l out more i)by unfold yD;exact(.ite (.bind (.const _) fun _=>(.bind (.const _) fun _=>(.bind (.const _) fun _=>(.bind (.const _) fun _=>(.bind (.const _) fun _=>(.bind (.const _) fun _=>(.bind (.const _) fun _=>(.ite (.call _) (.const _))))))))) (.const _))
def zJ(l:List Edit)(out:List Region)(more:Int)(i:Int):Option (List Region):=z4l uC (.zJ l out more i)
theorem jL(l:List Edit)(out:List Region)(more:Int)(i:Int):zJ l out more i=yD zJ l out more i:=z1s jR (.zJ l out more i)
def wU(edits:List Edit):Option (List Region):=
 vB edits>>=fun q1=>
 zJ q1 ([]:List Region) 0 0
def yP(zP:(List Region)→(List Region)→Int→Option (Bool))(a:List Region)(b:List Region)(i:Int):Option (Bool):=
 if i<(List.length a:Int)then
  idx a i>>=fun x=>
  idx b i>>=fun x1=>
  if(x.FromP=x1.FromP)∧((x.ToP=x1.ToP)∧((x.FromQ=x1.FromQ)∧((x.ToQ=x1.ToQ)∧True)))then
   zP a b (IntKind.wrap .i64 (i+1))
  else
  some (false)
 else
 some (true)
inductive vP where
 |zP (a:List Region) (b:List Region) (i:Int)
@[reducible] def uL:vP→Type
 |.zP _ _ _=>Bool
def jN(g:Fam uL):Fam uL
 |.zP a b i=>yP (fun a b i=>g (vP.zP a b i)) a b i
theorem z0t:∀i,Good (fun g=>jN g i)
 |.zP a b i=>show Good (fun g:Fam uL=>yP (fun a b i=>g (vP.zP a b i)) a b i)by unfold yP;exact(.ite (.bind (.const _) fun _=>(.bind (.const _) fun _=>(.ite (.call _) (.const _)))) (.const _))
def zP(a:List Region)(b:List Region)(i:Int):Option (Bool):=z4l jN (.zP a b i)
theorem z0g(a:List Region)(b:List Region)(i:Int):zP a b i=yP zP a b i:=z1s z0t (.zP a b i)
def jU(a:List Region)(b:List Region):Option (Bool):=
 if(List.length a:Int)=(List.length b:Int)then
  zP a b 0
 else
 some (false)
def wF(text:Str)(edits:List Edit):Option (Bool):=
 uI edits>>=fun q1=>
 if q1=true then
  wG>>=fun q2=>
  some (q2)
 else
 vX text edits>>=fun q3=>
 wI text edits>>=fun q4=>
 wJ text edits>>=fun q5=>
 if q3.2=q5 then
  if q4.2=q5 then
   if q5=0 then
    uW text edits>>=fun q7=>
    if q3.1=q7 then
     wU edits>>=fun q8=>
     jU q4.1 q8>>=fun q9=>
     if q9=true then
      wG>>=fun q10=>
      some (q10)
     else
     some (false)
    else
    some (false)
   else
   if q3.1=([]:List UInt8)then
    if(List.length q4.1:Int)=0 then
     wG>>=fun q6=>
     some (q6)
    else
    some (false)
   else
   some (false)
  else
  some (false)
 else
 some (false)
end
end Go.Proofs.Ytjlohgfmobpfmaa.M

