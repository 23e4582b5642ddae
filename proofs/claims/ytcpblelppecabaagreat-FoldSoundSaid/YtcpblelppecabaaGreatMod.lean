import Derived.Test.YtcpblelppecabaaGreatTy
namespace Go.Proofs.YtcpblelppecabaaGreat.M
open Go Nt
set_option linter.unusedVariables false
noncomputable section
def z1k(b:Bool):Option (Int):=
 if b=true then
  some (1)
 else
 some (0)
def z6A(op a:Int):Option (Int×Int):=
 if op=1 then
  some (IntKind.wrap .i64 (0-a),0)
 else
 if op=2 then
  z1k (a == 0)>>=fun q1=>
  some (q1,0)
 else
 some (0,0)
def z5J(op:Int):Option (Int):=
 if op=1 then
  some (0)
 else
 if op=2 then
  some (0)
 else
 if op≥3 then
  if op≤8 then
   some (1)
  else
  if op≥9 then
   if op≤13 then
    some (2)
   else
   some (3)
  else
  some (3)
 else
 if op≥9 then
  if op≤13 then
   some (2)
  else
  some (3)
 else
 some (3)
def z3F(op a b:Int):Option (Bool):=
 if op=3 then
  some ((a == b))
 else
 if op=4 then
  some (!(a == b))
 else
 if op=5 then
  some (decide (a<b))
 else
 if op=6 then
  some (decide (a≤b))
 else
 if op=7 then
  some (decide (a>b))
 else
 some (decide (a≥b))
def z4I(op a b:Int):Option (Int×Int):=
 if op=9 then
  some (IntKind.wrap .i64 (a+b),0)
 else
 if op=10 then
  some (IntKind.wrap .i64 (a-b),0)
 else
 if op=11 then
  some (IntKind.wrap .i64 (a*b),0)
 else
 if b=0 then
  some (0,1)
 else
 if op=12 then
  if b≠(0:Int)then
  some (IntKind.wrap .i64 (Int.tdiv a b),0)
  else none
 else
 if b≠(0:Int)then
 some (Int.tmod a b,0)
 else none
def z8R(op a b:Int):Option (Int×Int):=
 z5J op>>=fun q1=>
 if q1=0 then
  if op=1 then
   if a=0 then
    z1k (!(b == 0))>>=fun q3=>
    some (q3,0)
   else
   z1k true>>=fun q2=>
   some (q2,0)
  else
  if a=0 then
   z1k false>>=fun q5=>
   some (q5,0)
  else
  z1k (!(b == 0))>>=fun q4=>
  some (q4,0)
 else
 if q1=1 then
  z3F op a b>>=fun q6=>
  z1k q6>>=fun q7=>
  some (q7,0)
 else
 if q1=2 then
  z4I op a b>>=fun q8=>
  some (q8.1,q8.2)
 else
 some (0,0)
def gC(t:zA)(kind:Int):Option (Bool):=
 if t.K=kind then
  if t.S=[]then
   if(List.length t.L:Int)=0 then
    if kind=5 then
     some (true)
    else
    if t.N=0 then
     some (true)
    else
    some ((t.N == 1))
   else
   some (false)
  else
  some (false)
 else
 some (false)
def uL(t:zA)(kind:Int):Option (Bool):=
 if(List.length t.L:Int)=2 then
  idx t.L 0>>=fun x=>
  gC x kind>>=fun q1=>
  if q1=true then
   idx t.L 1>>=fun x1=>
   gC x1 kind>>=fun q2=>
   some (q2)
  else
  some (false)
 else
 some (false)
def z5Q(t:zA):Option (Int):=
 if t.N=3 then
  uL t 5>>=fun q1=>
  if q1=true then
   some (6)
  else
  uL t 6>>=fun q2=>
  if q2=true then
   some (6)
  else
  some (0)
 else
 if t.N=4 then
  uL t 5>>=fun q53=>
  if q53=true then
   some (6)
  else
  uL t 6>>=fun q54=>
  if q54=true then
   some (6)
  else
  some (0)
 else
 if t.N=1 then
  uL t 6>>=fun q55=>
  if q55=true then
   some (6)
  else
  some (0)
 else
 if t.N=2 then
  uL t 6>>=fun q80=>
  if q80=true then
   some (6)
  else
  some (0)
 else
 if t.N=5 then
  uL t 5>>=fun q81=>
  if q81=true then
   some (6)
  else
  some (0)
 else
 if t.N=6 then
  uL t 5>>=fun q87=>
  if q87=true then
   some (6)
  else
  some (0)
 else
 if t.N=7 then
  uL t 5>>=fun q93=>
  if q93=true then
   some (6)
  else
  some (0)
 else
 if t.N=8 then
  uL t 5>>=fun q99=>
  if q99=true then
   some (6)
  else
  some (0)
 else
 if t.N=9 then
  uL t 5>>=fun q100=>
  if q100=true then
   some (5)
  else
  some (0)
 else
 if t.N=10 then
  uL t 5>>=fun q101=>
  if q101=true then
   some (5)
  else
  some (0)
 else
 if t.N=11 then
  uL t 5>>=fun q102=>
  if q102=true then
   some (5)
  else
  some (0)
 else
 if t.N=12 then
  uL t 5>>=fun q103=>
  if q103=true then
   some (5)
  else
  some (0)
 else
 if t.N=13 then
  uL t 5>>=fun q104=>
  if q104=true then
   some (5)
  else
  some (0)
 else
 some (0)
def z5s(t:zA):Option (zA×Bool):=
 if t.S=[]then
  if t.K=10 then
   z5Q t>>=fun q1=>
   if q1=0 then
    some ((zA.mk 0 0 [] [] 0 0),false)
   else
   idx t.L 0>>=fun x=>
   idx t.L 1>>=fun x1=>
   z8R t.N x.N x1.N>>=fun q2=>
   if q2.2=0 then
    some ((zA.mk q1 q2.1 [] [] 0 0),true)
   else
   some ((zA.mk 0 0 [] [] 0 0),false)
  else
  if t.K=11 then
   if(List.length t.L:Int)=1 then
    if t.N=1 then
     idx t.L 0>>=fun x2=>
     gC x2 5>>=fun q3=>
     if q3=true then
      idx t.L 0>>=fun x3=>
      z6A t.N x3.N>>=fun q4=>
      idx t.L 0>>=fun x4=>
      some ((zA.mk x4.K q4.1 [] [] 0 0),true)
     else
     some ((zA.mk 0 0 [] [] 0 0),false)
    else
    if t.N=2 then
     idx t.L 0>>=fun x8=>
     gC x8 6>>=fun q7=>
     if q7=true then
      idx t.L 0>>=fun x9=>
      z6A t.N x9.N>>=fun q8=>
      idx t.L 0>>=fun x10=>
      some ((zA.mk x10.K q8.1 [] [] 0 0),true)
     else
     some ((zA.mk 0 0 [] [] 0 0),false)
    else
    some ((zA.mk 0 0 [] [] 0 0),false)
   else
   some ((zA.mk 0 0 [] [] 0 0),false)
  else
  some ((zA.mk 0 0 [] [] 0 0),false)
 else
 some ((zA.mk 0 0 [] [] 0 0),false)
def z1E(l:List (List zA)):Option (List zA):=if List.length l≤1000000000 then if 72*(List.flatten l).length≤100000000000 then some (List.flatten l)else none else none
def jR(quiet_Quiet_L3:Bool→(List zA)→Int→Int→Option (Bool))(quiet:Bool)(v7:List zA)(v8 v9:Int):Option (Bool):=
 if v9<v8 then
  idx v7 v9>>=fun x=>
  if x.K=5 then
   quiet_Quiet_L3 quiet v7 v8 (IntKind.wrap .i64 (v9+1))
  else
  if x.K=6 then
   quiet_Quiet_L3 quiet v7 v8 (IntKind.wrap .i64 (v9+1))
  else
  if x.K=7 then
   quiet_Quiet_L3 quiet v7 v8 (IntKind.wrap .i64 (v9+1))
  else
  if x.K=8 then
   quiet_Quiet_L3 quiet v7 v8 (IntKind.wrap .i64 (v9+1))
  else
  if x.K=9 then
   quiet_Quiet_L3 quiet v7 v8 (IntKind.wrap .i64 (v9+1))
  else
  if x.K=11 then
   quiet_Quiet_L3 quiet v7 v8 (IntKind.wrap .i64 (v9+1))
  else
  if x.K=13 then
   quiet_Quiet_L3 quiet v7 v8 (IntKind.wrap .i64 (v9+1))
  else
  if x.K=14 then
   quiet_Quiet_L3 quiet v7 v8 (IntKind.wrap .i64 (v9+1))
  else
  if x.K=15 then
   quiet_Quiet_L3 quiet v7 v8 (IntKind.wrap .i64 (v9+1))
  else
  if x.K=10 then
   if x.N=12 then
    if(List.length x.L:Int)<2 then
     some (false)
    else
    idx x.L 1>>=fun x33=>
    if x33.K=5 then
     idx x.L 1>>=fun x34=>
     if x34.N=0 then
      some (false)
     else
     quiet_Quiet_L3 quiet v7 v8 (IntKind.wrap .i64 (v9+1))
    else
    some (false)
   else
   if x.N=13 then
    if(List.length x.L:Int)<2 then
     some (false)
    else
    idx x.L 1>>=fun x35=>
    if x35.K=5 then
     idx x.L 1>>=fun x36=>
     if x36.N=0 then
      some (false)
     else
     quiet_Quiet_L3 quiet v7 v8 (IntKind.wrap .i64 (v9+1))
    else
    some (false)
   else
   quiet_Quiet_L3 quiet v7 v8 (IntKind.wrap .i64 (v9+1))
  else
  some (false)
 else
 some (quiet)
inductive I_quiet_Quiet_L3 where
 |quiet_Quiet_L3 (quiet:Bool) (v7:List zA) (v8 v9:Int)
@[reducible] def z4Q:I_quiet_Quiet_L3→Type
 |.quiet_Quiet_L3 _ _ _ _=>Bool
def z2y(g:Fam z4Q):Fam z4Q
 |.quiet_Quiet_L3 quiet v7 v8 v9=>jR (fun quiet v7 v8 v9=>g (I_quiet_Quiet_L3.quiet_Quiet_L3 quiet v7 v8 v9)) quiet v7 v8 v9
theorem z7M:∀i,Good (fun g=>z2y g i)
 |.quiet_Quiet_L3 quiet v7 v8 v9=>by unfold z2y jR;exact(.ite (.bind (.const _) fun _=>(.ite (.call _) (.ite (.call _) (.ite (.call _) (.ite (.call _) (.ite (.call _) (.ite (.call _) (.ite (.call _) (.ite (.call _) (.ite (.call _) (.ite (.ite (.ite (.const _) (.bind (.const _) fun _=>(.ite (.bind (.const _) fun _=>(.ite (.const _) (.call _))) (.const _)))) (.ite (.ite (.const _) (.bind (.const _) fun _=>(.ite (.bind (.const _) fun _=>(.ite (.const _) (.call _))) (.const _)))) (.call _))) (.const _)))))))))))) (.const _))
def quiet_Quiet_L3(quiet:Bool)(v7:List zA)(v8 v9:Int):Option (Bool):=uV z2y (.quiet_Quiet_L3 quiet v7 v8 v9)
theorem z6E(quiet:Bool)(v7:List zA)(v8 v9:Int):quiet_Quiet_L3 quiet v7 v8 v9=jR quiet_Quiet_L3 quiet v7 v8 v9:=zX z7M (.quiet_Quiet_L3 quiet v7 v8 v9)
def gZ(quiet_all_L3:(List zA)→Int→Option (List zA))(out:List zA)(i:Int):Option (List zA):=
 if i<(List.length out:Int)then
  idx out i>>=fun x=>
  if wI 72 (List.length out+List.length x.L)then
  quiet_all_L3 (out++x.L) (IntKind.wrap .i64 (i+1))
  else none
 else
 some (out)
inductive I_quiet_all_L3 where
 |quiet_all_L3 (out:List zA) (i:Int)
@[reducible] def z6p:I_quiet_all_L3→Type
 |.quiet_all_L3 _ _=>List zA
def z4x(g:Fam z6p):Fam z6p
 |.quiet_all_L3 out i=>gZ (fun out i=>g (I_quiet_all_L3.quiet_all_L3 out i)) out i
theorem y0c:∀i,Good (fun g=>z4x g i)
 |.quiet_all_L3 out i=>by unfold z4x gZ;exact(.ite (.bind (.const _) fun _=>(.ite (.call _) (.const _))) (.const _))
def quiet_all_L3(out:List zA)(i:Int):Option (List zA):=uV z4x (.quiet_all_L3 out i)
theorem z5W(out:List zA)(i:Int):quiet_all_L3 out i=gZ quiet_all_L3 out i:=zX y0c (.quiet_all_L3 out i)
def z9q(t:zA):Option (List zA):=
 quiet_all_L3 [t] 0
def z5V(t:zA):Option (Bool):=
 z9q t>>=fun q1=>
 quiet_Quiet_L3 true q1 (List.length q1:Int) 0
def z7z(t:zA):Option (Bool):=
 z5V t>>=fun q1=>
 some (!q1)
def yY(slices_IndexFunc_G236pick_1L2:(List zA)→Int→Int→Option (Int))(s:List zA)(v7 v8:Int):Option (Int):=
 if v8<v7 then
  idx s v8>>=fun x=>
  z7z x>>=fun q1=>
  if q1=true then
   some (v8)
  else
  slices_IndexFunc_G236pick_1L2 s v7 (IntKind.wrap .i64 (v8+1))
 else
 some ((-1))
inductive I_slices_IndexFunc_G236pick_1L2 where
 |slices_IndexFunc_G236pick_1L2 (s:List zA) (v7 v8:Int)
@[reducible] def jU:I_slices_IndexFunc_G236pick_1L2→Type
 |.slices_IndexFunc_G236pick_1L2 _ _ _=>Int
def uP(g:Fam jU):Fam jU
 |.slices_IndexFunc_G236pick_1L2 s v7 v8=>yY (fun s v7 v8=>g (I_slices_IndexFunc_G236pick_1L2.slices_IndexFunc_G236pick_1L2 s v7 v8)) s v7 v8
theorem z0S:∀i,Good (fun g=>uP g i)
 |.slices_IndexFunc_G236pick_1L2 s v7 v8=>by unfold uP yY;exact(.ite (.bind (.const _) fun _=>(.bind (.const _) fun _=>(.ite (.const _) (.call _)))) (.const _))
def slices_IndexFunc_G236pick_1L2(s:List zA)(v7 v8:Int):Option (Int):=uV uP (.slices_IndexFunc_G236pick_1L2 s v7 v8)
theorem z0P(s:List zA)(v7 v8:Int):slices_IndexFunc_G236pick_1L2 s v7 v8=yY slices_IndexFunc_G236pick_1L2 s v7 v8:=zX z0S (.slices_IndexFunc_G236pick_1L2 s v7 v8)
def jL(s:List zA):Option (Int):=
 slices_IndexFunc_G236pick_1L2 s (List.length s:Int) 0
def wX(s:List zA):Option (Bool):=
 jL s>>=fun q1=>
 some (decide (q1≥0))
def z6C(l:List zA)(i:Int):Option (zA×Bool):=
 if i<0 then
  some ((zA.mk 0 0 [] [] 0 0),false)
 else
 if i≥(List.length l:Int)then
  some ((zA.mk 0 0 [] [] 0 0),false)
 else
 if(0:Int)≤i then
 if Int.toNat i≤List.length l then
 if 0≤Int.toNat i then
 if List.length l≤List.length l then
 if(0:Int)≤(IntKind.wrap .i64 (i+1))then
 if Int.toNat (IntKind.wrap .i64 (i+1))≤List.length l then
 z1E [List.drop 0 (List.take (Int.toNat i) l),List.drop (Int.toNat (IntKind.wrap .i64 (i+1))) (List.take (List.length l) l)]>>=fun q1=>
 wX q1>>=fun q2=>
 idx l i>>=fun x=>
 some (x,!q2)
 else none
 else none
 else none
 else none
 else none
 else none
def z9j(m:zA)(rule:Int)(l:zA):Option (zA×Bool):=
 if rule=30 then
  z5s l>>=fun q1=>
  some (q1.1,q1.2)
 else
 if l.S=[]then
  if rule=31 then
   if l.K=8 then
    if(List.length l.L:Int)=0 then
     if l.N≥0 then
      if l.N<(List.length m.L:Int)then
       idx m.L l.N>>=fun x=>
       if x.K=31 then
        if(List.length x.L:Int)=1 then
         idx x.L 0>>=fun x1=>
         idx x.L 0>>=fun x2=>
         gC x2 5>>=fun q2=>
         if q2=true then
          some (x1,true)
         else
         idx x.L 0>>=fun x3=>
         gC x3 6>>=fun q3=>
         some (x1,q3)
        else
        some ((zA.mk 0 0 [] [] 0 0),false)
       else
       some ((zA.mk 0 0 [] [] 0 0),false)
      else
      some ((zA.mk 0 0 [] [] 0 0),false)
     else
     some ((zA.mk 0 0 [] [] 0 0),false)
    else
    some ((zA.mk 0 0 [] [] 0 0),false)
   else
   some ((zA.mk 0 0 [] [] 0 0),false)
  else
  if rule=32 then
   if l.K=13 then
    if(List.length l.L:Int)=1 then
     idx l.L 0>>=fun x44=>
     if x44.K=15 then
      if x44.S=[]then
       if l.N<0 then
        some ((zA.mk 0 0 [] [] 0 0),false)
       else
       if 64≠(0:Int)then
       if IntKind.wrap .i64 (Int.tdiv l.N 64)=x44.N then
        if 64≠(0:Int)then
        z6C x44.L (Int.tmod l.N 64)>>=fun q32=>
        some (q32.1,q32.2)
        else none
       else
       some ((zA.mk 0 0 [] [] 0 0),false)
       else none
      else
      some ((zA.mk 0 0 [] [] 0 0),false)
     else
     some ((zA.mk 0 0 [] [] 0 0),false)
    else
    some ((zA.mk 0 0 [] [] 0 0),false)
   else
   some ((zA.mk 0 0 [] [] 0 0),false)
  else
  if rule=33 then
   if l.K=12 then
    if(List.length l.L:Int)=2 then
     idx l.L 0>>=fun x51=>
     if x51.K=14 then
      if x51.S=[]then
       idx l.L 1>>=fun x52=>
       gC x52 5>>=fun q37=>
       if q37=true then
        idx l.L 1>>=fun x53=>
        z6C x51.L x53.N>>=fun q38=>
        some (q38.1,q38.2)
       else
       some ((zA.mk 0 0 [] [] 0 0),false)
      else
      some ((zA.mk 0 0 [] [] 0 0),false)
     else
     some ((zA.mk 0 0 [] [] 0 0),false)
    else
    some ((zA.mk 0 0 [] [] 0 0),false)
   else
   some ((zA.mk 0 0 [] [] 0 0),false)
  else
  some ((zA.mk 0 0 [] [] 0 0),false)
 else
 some ((zA.mk 0 0 [] [] 0 0),false)
def z4w(slices_EqualFunc_G120Same:(List zA)→(List zA)→Option (Bool))(a b:zA):Option (Bool):=
 if a.K=b.K then
  if a.N=b.N then
   if a.S=b.S then
    slices_EqualFunc_G120Same a.L b.L>>=fun q1=>
    some (q1)
   else
   some (false)
  else
  some (false)
 else
 some (false)
def wP(slices_EqualFunc_G120Same_L4:(List zA)→(List zA)→Int→Int→Option (Bool))(s1 s2:List zA):Option (Bool):=
 if(List.length s1:Int)=(List.length s2:Int)then
  slices_EqualFunc_G120Same_L4 s2 s1 (List.length s1:Int) 0
 else
 some (false)
def vE(jF:zA→zA→Option (Bool))(slices_EqualFunc_G120Same_L4:(List zA)→(List zA)→Int→Int→Option (Bool))(s2 v15:List zA)(v16 v17:Int):Option (Bool):=
 if v17<v16 then
  idx v15 v17>>=fun x=>
  idx s2 v17>>=fun x1=>
  jF x x1>>=fun q1=>
  if q1=true then
   slices_EqualFunc_G120Same_L4 s2 v15 v16 (IntKind.wrap .i64 (v17+1))
  else
  some (false)
 else
 some (true)
inductive z0F where
 |jF (a b:zA)
 |slices_EqualFunc_G120Same (s1 s2:List zA)
 |slices_EqualFunc_G120Same_L4 (s2 v15:List zA) (v16 v17:Int)
@[reducible] def y0G:z0F→Type
 |.jF _ _=>Bool
 |.slices_EqualFunc_G120Same _ _=>Bool
 |.slices_EqualFunc_G120Same_L4 _ _ _ _=>Bool
def z1J(g:Fam y0G):Fam y0G
 |.jF a b=>z4w (fun s1 s2=>g (z0F.slices_EqualFunc_G120Same s1 s2)) a b
 |.slices_EqualFunc_G120Same s1 s2=>wP (fun s2 v15 v16 v17=>g (z0F.slices_EqualFunc_G120Same_L4 s2 v15 v16 v17)) s1 s2
 |.slices_EqualFunc_G120Same_L4 s2 v15 v16 v17=>vE (fun a b=>g (z0F.jF a b)) (fun s2 v15 v16 v17=>g (z0F.slices_EqualFunc_G120Same_L4 s2 v15 v16 v17)) s2 v15 v16 v17
theorem z7g:∀i,Good (fun g=>z1J g i)
 |.jF a b=>by unfold z1J z4w;exact(.ite (.ite (.ite (.bind (.call _) fun _=>(.const _)) (.const _)) (.const _)) (.const _))
 |.slices_EqualFunc_G120Same s1 s2=>by unfold z1J wP;exact(.ite (.call _) (.const _))
 |.slices_EqualFunc_G120Same_L4 s2 v15 v16 v17=>by unfold z1J vE;exact(.ite (.bind (.const _) fun _=>(.bind (.const _) fun _=>(.bind (.call _) fun _=>(.ite (.call _) (.const _))))) (.const _))
def jF(a b:zA):Option (Bool):=uV z1J (.jF a b)
def slices_EqualFunc_G120Same(s1 s2:List zA):Option (Bool):=uV z1J (.slices_EqualFunc_G120Same s1 s2)
def slices_EqualFunc_G120Same_L4(s2 v15:List zA)(v16 v17:Int):Option (Bool):=uV z1J (.slices_EqualFunc_G120Same_L4 s2 v15 v16 v17)
theorem v1W(a b:zA):jF a b=z4w slices_EqualFunc_G120Same a b:=zX z7g (.jF a b)
theorem z5p(s1 s2:List zA):slices_EqualFunc_G120Same s1 s2=wP slices_EqualFunc_G120Same_L4 s1 s2:=zX z7g (.slices_EqualFunc_G120Same s1 s2)
theorem z1b(s2 v15:List zA)(v16 v17:Int):slices_EqualFunc_G120Same_L4 s2 v15 v16 v17=vE jF slices_EqualFunc_G120Same_L4 s2 v15 v16 v17:=zX z7g (.slices_EqualFunc_G120Same_L4 s2 v15 v16 v17)
def z9I(m:zA)(rule:Int)(l r_:zA):Option (Bool):=
 z9j m rule l>>=fun q1=>
 if q1.2=true then
  jF q1.1 r_>>=fun q2=>
  some (q2)
 else
 some (false)
def y3Z(op:Int)(a b:zA):Option (zA):=
 some ((zA.mk 10 op [] [a,b] 0 0))
def z9S(n:Int):Option (zA):=
 some ((zA.mk 5 n [] [] 0 0))
def z3b :Option (Bool):=
 z9S 2>>=fun q1=>
 z9S 3>>=fun q2=>
 y3Z 9 q1 q2>>=fun q3=>
 z5s q3>>=fun q4=>
 if q4.2=true then
  if q4.1.K=5 then
   some ((q4.1.N == 5))
  else
  some (false)
 else
 some (false)
def z2n(yE:Int→zA→zA→Option (Bool))(a b:zA):Option (Bool):=
 if a.K=b.K then
  if a.N=b.N then
   if a.S=b.S then
    if a.From=b.From then
     if a.To=b.To then
      if(List.length a.L:Int)=(List.length b.L:Int)then
       yE 0 a b
      else
      some (false)
     else
     some (false)
    else
    some (false)
   else
   some (false)
  else
  some (false)
 else
 some (false)
def gH(vB:zA→zA→Option (Bool))(yE:Int→zA→zA→Option (Bool))(i:Int)(a b:zA):Option (Bool):=
 if i<(List.length a.L:Int)then
  idx a.L i>>=fun x=>
  idx b.L i>>=fun x1=>
  vB x x1>>=fun q1=>
  if q1=true then
   yE (IntKind.wrap .i64 (i+1)) a b
  else
  some (false)
 else
 some (true)
inductive z0y where
 |vB (a b:zA)
 |yE (i:Int) (a b:zA)
@[reducible] def z7j:z0y→Type
 |.vB _ _=>Bool
 |.yE _ _ _=>Bool
def z2e(g:Fam z7j):Fam z7j
 |.vB a b=>z2n (fun i a b=>g (z0y.yE i a b)) a b
 |.yE i a b=>gH (fun a b=>g (z0y.vB a b)) (fun i a b=>g (z0y.yE i a b)) i a b
theorem z7f:∀i,Good (fun g=>z2e g i)
 |.vB a b=>by unfold z2e z2n;exact(.ite (.ite (.ite (.ite (.ite (.ite (.call _) (.const _)) (.const _)) (.const _)) (.const _)) (.const _)) (.const _))
 |.yE i a b=>by unfold z2e gH;exact(.ite (.bind (.const _) fun _=>(.bind (.const _) fun _=>(.bind (.call _) fun _=>(.ite (.call _) (.const _))))) (.const _))
def vB(a b:zA):Option (Bool):=uV z2e (.vB a b)
def yE(i:Int)(a b:zA):Option (Bool):=uV z2e (.yE i a b)
theorem y7a(a b:zA):vB a b=z2n yE a b:=zX z7f (.vB a b)
theorem z6F(i:Int)(a b:zA):yE i a b=gH vB yE i a b:=zX z7f (.yE i a b)
def gI(yP:Int→zA→Option (Bool))(i:Int)(d:zA):Option (Bool):=
 if i<(List.length d.L:Int)then
  idx d.L i>>=fun x=>
  if x.K=34 then
   idx d.L i>>=fun x1=>
   if(List.length x1.L:Int)=1 then
    yP (IntKind.wrap .i64 (i+1)) d
   else
   some (false)
  else
  some (false)
 else
 some (true)
inductive z2G where
 |yP (i:Int) (d:zA)
@[reducible] def z4R:z2G→Type
 |.yP _ _=>Bool
def z2z(g:Fam z4R):Fam z4R
 |.yP i d=>gI (fun i d=>g (z2G.yP i d)) i d
theorem z7N:∀i,Good (fun g=>z2z g i)
 |.yP i d=>by unfold z2z gI;exact(.ite (.bind (.const _) fun _=>(.ite (.bind (.const _) fun _=>(.ite (.call _) (.const _))) (.const _))) (.const _))
def yP(i:Int)(d:zA):Option (Bool):=uV z2z (.yP i d)
theorem z6H(i:Int)(d:zA):yP i d=gI yP i d:=zX z7N (.yP i d)
def z1V(d:zA):Option (Bool):=
 if d.K=30 then
  if(List.length d.L:Int)=0 then
   some (false)
  else
  yP 0 d
 else
 some (false)
def wK(zN:zA→zA→(List Int)→Option (Int))(yA:(List Int)→Int→Int→zA→Option (Int))(m t:zA)(in_:List Int):Option (Int):=
 if t.K=1 then
  if(List.length t.L:Int)=0 then
   some (1)
  else
  some (0)
 else
 if t.K=2 then
  if(List.length t.L:Int)=0 then
   some (1)
  else
  some (0)
 else
 if t.K=3 then
  if(List.length t.L:Int)=1 then
   if t.N≥1 then
    if t.N≤16 then
     idx t.L 0>>=fun x2=>
     zN m x2 in_>>=fun q3=>
     if(IntKind.wrap .i64 (q3*t.N))>64 then
      some (0)
     else
     some (IntKind.wrap .i64 (q3*t.N))
    else
    some (0)
   else
   some (0)
  else
  some (0)
 else
 if t.K=4 then
  if(List.length t.L:Int)=0 then
   if t.N<0 then
    some (0)
   else
   if t.N≥(List.length m.L:Int)then
    some (0)
   else
   yA in_ t.N 0 m
  else
  some (0)
 else
 some (0)
def jA(yA:(List Int)→Int→Int→zA→Option (Int))(zR:(List Int)→Int→Int→Int→zA→zA→Option (Int))(in_:List Int)(at_ i:Int)(m:zA):Option (Int):=
 if i<(List.length in_:Int)then
  idx in_ i>>=fun x=>
  if x=at_ then
   some (0)
  else
  yA in_ at_ (IntKind.wrap .i64 (i+1)) m
 else
 idx m.L at_>>=fun x1=>
 z1V x1>>=fun q1=>
 if q1=true then
  zR in_ at_ 0 0 m x1
 else
 some (0)
def jB(zN:zA→zA→(List Int)→Option (Int))(zR:(List Int)→Int→Int→Int→zA→zA→Option (Int))(in_:List Int)(at_ sum i:Int)(m d:zA):Option (Int):=
 if i<(List.length d.L:Int)then
  idx d.L i>>=fun x=>
  idx x.L 0>>=fun x1=>
  if wI 8 (List.length ([]:List Int)+List.length in_)then
  if wI 8 (List.length (([]:List Int)++in_)+List.length [at_])then
  zN m x1 ((([]:List Int)++in_)++[at_])>>=fun q1=>
  if q1=0 then
   some (0)
  else
  if(IntKind.wrap .i64 (sum+q1))>64 then
   some (0)
  else
  zR in_ at_ (IntKind.wrap .i64 (sum+q1)) (IntKind.wrap .i64 (i+1)) m d
  else none
  else none
 else
 some (sum)
inductive uG where
 |zN (m t:zA) (in_:List Int)
 |yA (in_:List Int) (at_ i:Int) (m:zA)
 |zR (in_:List Int) (at_ sum i:Int) (m d:zA)
@[reducible] def z7k:uG→Type
 |.zN _ _ _=>Int
 |.yA _ _ _ _=>Int
 |.zR _ _ _ _ _ _=>Int
def z0x(g:Fam z7k):Fam z7k
 |.zN m t in_=>wK (fun m t in_=>g (uG.zN m t in_)) (fun in_ at_ i m=>g (uG.yA in_ at_ i m)) m t in_
 |.yA in_ at_ i m=>jA (fun in_ at_ i m=>g (uG.yA in_ at_ i m)) (fun in_ at_ sum i m d=>g (uG.zR in_ at_ sum i m d)) in_ at_ i m
 |.zR in_ at_ sum i m d=>jB (fun m t in_=>g (uG.zN m t in_)) (fun in_ at_ sum i m d=>g (uG.zR in_ at_ sum i m d)) in_ at_ sum i m d
theorem z5d:∀i,Good (fun g=>z0x g i)
 |.zN m t in_=>by unfold z0x wK;exact(.ite (.ite (.const _) (.const _)) (.ite (.ite (.const _) (.const _)) (.ite (.ite (.ite (.ite (.bind (.const _) fun _=>(.bind (.call _) fun _=>(.ite (.const _) (.const _)))) (.const _)) (.const _)) (.const _)) (.ite (.ite (.ite (.const _) (.ite (.const _) (.call _))) (.const _)) (.const _)))))
 |.yA in_ at_ i m=>by unfold z0x jA;exact(.ite (.bind (.const _) fun _=>(.ite (.const _) (.call _))) (.bind (.const _) fun _=>(.bind (.const _) fun _=>(.ite (.call _) (.const _)))))
 |.zR in_ at_ sum i m d=>by unfold z0x jB;exact(.ite (.bind (.const _) fun _=>(.bind (.const _) fun _=>(.ite (.ite (.bind (.call _) fun _=>(.ite (.const _) (.ite (.const _) (.call _)))) (.const _)) (.const _)))) (.const _))
def zN(m t:zA)(in_:List Int):Option (Int):=uV z0x (.zN m t in_)
def yA(in_:List Int)(at_ i:Int)(m:zA):Option (Int):=uV z0x (.yA in_ at_ i m)
def zR(in_:List Int)(at_ sum i:Int)(m d:zA):Option (Int):=uV z0x (.zR in_ at_ sum i m d)
theorem wQ(m t:zA)(in_:List Int):zN m t in_=wK zN yA m t in_:=zX z5d (.zN m t in_)
theorem z3J(in_:List Int)(at_ i:Int)(m:zA):yA in_ at_ i m=jA yA zR in_ at_ i m:=zX z5d (.yA in_ at_ i m)
theorem z3K(in_:List Int)(at_ sum i:Int)(m d:zA):zR in_ at_ sum i m d=jB zN zR in_ at_ sum i m d:=zX z5d (.zR in_ at_ sum i m d)
def z0c(m t:zA):Option (Int):=
 zN m t ([]:List Int)>>=fun q1=>
 some (q1)
def z0W(zZ:Int→zA→zA→Int→Int→Str→(List zA)→Int→Int→Option (zA))(t:zA):Option (zA):=
 zZ 0 t (zA.mk 0 0 [] [] 0 0) t.K t.N [] [] 0 0
def jK(yB:zA→Option (zA))(zZ:Int→zA→zA→Int→Int→Str→(List zA)→Int→Int→Option (zA))(i:Int)(t o2:zA)(K N:Int)(S:Str)(L:List zA)(From To:Int):Option (zA):=
 if i<(List.length t.L:Int)then
  idx t.L i>>=fun x=>
  yB x>>=fun q1=>
  if wI 72 (List.length L+List.length [q1])then
  zZ (IntKind.wrap .i64 (i+1)) t o2 K N S (L++[q1]) From To
  else none
 else
 some ((zA.mk K N S L From To))
inductive gB where
 |yB (t:zA)
 |zZ (i:Int) (t o2:zA) (K N:Int) (S:Str) (L:List zA) (From To:Int)
@[reducible] def z5A:gB→Type
 |.yB _=>zA
 |.zZ _ _ _ _ _ _ _ _ _=>zA
def z0T(g:Fam z5A):Fam z5A
 |.yB t=>z0W (fun i t o2 K N S L From To=>g (gB.zZ i t o2 K N S L From To)) t
 |.zZ i t o2 K N S L From To=>jK (fun t=>g (gB.yB t)) (fun i t o2 K N S L From To=>g (gB.zZ i t o2 K N S L From To)) i t o2 K N S L From To
theorem z5z:∀i,Good (fun g=>z0T g i)
 |.yB t=>by unfold z0T z0W;exact(.call _)
 |.zZ i t o2 K N S L From To=>by unfold z0T jK;exact(.ite (.bind (.const _) fun _=>(.bind (.call _) fun _=>(.ite (.call _) (.const _)))) (.const _))
def yB(t:zA):Option (zA):=uV z0T (.yB t)
def zZ(i:Int)(t o2:zA)(K N:Int)(S:Str)(L:List zA)(From To:Int):Option (zA):=uV z0T (.zZ i t o2 K N S L From To)
theorem y3S(t:zA):yB t=z0W zZ t:=zX z5z (.yB t)
theorem z5X(i:Int)(t o2:zA)(K N:Int)(S:Str)(L:List zA)(From To:Int):zZ i t o2 K N S L From To=jK yB zZ i t o2 K N S L From To:=zX z5z (.zZ i t o2 K N S L From To)
def gQ :Option (zA):=
 some ((zA.mk 2 0 [] [] 0 0))
def z6k :Option (zA):=
 some ((zA.mk 1 0 [] [] 0 0))
def z1g(t:zA):Option (zA):=
 if t.K=5 then
  z6k>>=fun q1=>
  some (q1)
 else
 if t.K=6 then
  gQ>>=fun q2=>
  some (q2)
 else
 some ((zA.mk 0 0 [] [] 0 0))
def vF(t:zA)(e:Int):Option (Ref16Got):=
 some ((Ref16Got.mk (zA.mk 0 0 [] [] 0 0) t.From e))
def z4k(vT:Int→zA→Option (Bool))(t:zA):Option (Bool):=
 if t.K=4 then
  some (false)
 else
 vT 0 t
def z0M(uZ:zA→Option (Bool))(vT:Int→zA→Option (Bool))(i:Int)(t:zA):Option (Bool):=
 if i<(List.length t.L:Int)then
  idx t.L i>>=fun x=>
  uZ x>>=fun q1=>
  if q1=true then
   vT (IntKind.wrap .i64 (i+1)) t
  else
  some (false)
 else
 some (true)
inductive z1N where
 |uZ (t:zA)
 |vT (i:Int) (t:zA)
@[reducible] def y0A:z1N→Type
 |.uZ _=>Bool
 |.vT _ _=>Bool
def z3V(g:Fam y0A):Fam y0A
 |.uZ t=>z4k (fun i t=>g (z1N.vT i t)) t
 |.vT i t=>z0M (fun t=>g (z1N.uZ t)) (fun i t=>g (z1N.vT i t)) i t
theorem y0t:∀i,Good (fun g=>z3V g i)
 |.uZ t=>by unfold z3V z4k;exact(.ite (.const _) (.call _))
 |.vT i t=>by unfold z3V z0M;exact(.ite (.bind (.const _) fun _=>(.bind (.call _) fun _=>(.ite (.call _) (.const _)))) (.const _))
def uZ(t:zA):Option (Bool):=uV z3V (.uZ t)
def vT(i:Int)(t:zA):Option (Bool):=uV z3V (.vT i t)
theorem v1P(t:zA):uZ t=z4k vT t:=zX y0t (.uZ t)
theorem z9u(i:Int)(t:zA):vT i t=z0M uZ vT i t:=zX y0t (.vT i t)
def z6G(m t:zA):Option (Bool):=
 z0c m t>>=fun q1=>
 if q1>0 then
  uZ t>>=fun q2=>
  some (q2)
 else
 some (false)
def jS:List zA→List zA→Option (List zA)
 |[],out=>some out
 |x::r,out=>yB x>>=fun q=>if wI 72 (List.length out+1)then jS r (out++[q])else none
def z1W(t:zA):Option zA:=if 0<List.length t.L then jS t.L []>>=fun l=>some ⟨t.K,t.N,[],l,0,0⟩else none
def z4h(vQ:(List zA)→Int→zA→zA→Option (zA))(t:zA):Option (zA):=
 vQ ([]:List zA) 0 t (zA.mk 0 0 [] [] 0 0)
def z0J(wU:zA→Option (zA))(vQ:(List zA)→Int→zA→zA→Option (zA))(out:List zA)(i:Int)(t o2:zA):Option (zA):=
 if i<(List.length t.L:Int)then
  idx t.L i>>=fun x=>
  wU x>>=fun q1=>
  if wI 72 (List.length out+List.length [q1])then
  vQ (out++[q1]) (IntKind.wrap .i64 (i+1)) t o2
  else none
 else
 some ((zA.mk t.K t.N t.S out 0 0))
inductive z1K where
 |wU (t:zA)
 |vQ (out:List zA) (i:Int) (t o2:zA)
@[reducible] def y0x:z1K→Type
 |.wU _=>zA
 |.vQ _ _ _ _=>zA
def z3S(g:Fam y0x):Fam y0x
 |.wU t=>z4h (fun out i t o2=>g (z1K.vQ out i t o2)) t
 |.vQ out i t o2=>z0J (fun t=>g (z1K.wU t)) (fun out i t o2=>g (z1K.vQ out i t o2)) out i t o2
theorem y0q:∀i,Good (fun g=>z3S g i)
 |.wU t=>by unfold z3S z4h;exact(.call _)
 |.vQ out i t o2=>by unfold z3S z0J;exact(.ite (.bind (.const _) fun _=>(.bind (.call _) fun _=>(.ite (.call _) (.const _)))) (.const _))
def wU(t:zA):Option (zA):=uV z3S (.wU t)
def vQ(out:List zA)(i:Int)(t o2:zA):Option (zA):=uV z3S (.vQ out i t o2)
theorem v1M(t:zA):wU t=z4h vQ t:=zX y0q (.wU t)
theorem z9r(out:List zA)(i:Int)(t o2:zA):vQ out i t o2=z0J wU vQ out i t o2:=zX y0q (.vQ out i t o2)
def z6I(m:zA)(locals:List zA)(t:zA):Option (zA):=
 if t.K=7 then
  idx locals (IntKind.wrap .i64 ((IntKind.wrap .i64 ((List.length locals:Int)-1))-t.N))>>=fun x=>
  wU x>>=fun q1=>
  some (q1)
 else
 if t.K=8 then
  idx m.L t.N>>=fun x1=>
  idx x1.L 0>>=fun x2=>
  z1g x2>>=fun q2=>
  some (q2)
 else
 if t.K=9 then
  idx m.L t.N>>=fun x3=>
  idx x3.L 0>>=fun x4=>
  wU x4>>=fun q3=>
  some (q3)
 else
 if t.K=18 then
  z6k>>=fun q4=>
  some (q4)
 else
 z1g t>>=fun q5=>
 some (q5)
def z7E(t:zA)(e:Int):Option (Ref15Got):=
 some ((Ref15Got.mk (zA.mk 0 0 [] [] 0 0) (zA.mk 0 0 [] [] 0 0) t.From e))
def z5m(m:zA)(n kind:Int):Option (Bool):=
 if n<0 then
  some (false)
 else
 if n≥(List.length m.L:Int)then
  some (false)
 else
 idx m.L n>>=fun x=>
 if x.K=kind then
  if kind=31 then
   if(List.length x.L:Int)=1 then
    idx x.L 0>>=fun x1=>
    z1g x1>>=fun q1=>
    some (!(q1.K == 0))
   else
   some (false)
  else
  if kind=32 then
   some (((List.length x.L:Int) == 1))
  else
  if kind=33 then
   some (((List.length x.L:Int) == 3))
  else
  z1V x>>=fun q2=>
  some (q2)
 else
 some (false)
def z6L(m:zA)(locals:List zA)(t:zA):Option (Bool):=
 if t.K=7 then
  if t.N≥0 then
   some (decide (t.N<(List.length locals:Int)))
  else
  some (false)
 else
 if t.K=8 then
  z5m m t.N 31>>=fun q1=>
  some (q1)
 else
 if t.K=9 then
  z5m m t.N 32>>=fun q2=>
  some (q2)
 else
 if t.K=15 then
  z5m m t.N 30>>=fun q3=>
  some (q3)
 else
 if t.K=16 then
  z5m m t.N 33>>=fun q4=>
  some (q4)
 else
 some (!(t.K == 17))
def z4l(t:zA)(kind:Int):Option (Bool):=
 if t.K=kind then
  some (((List.length t.L:Int) == 0))
 else
 some (false)
def z3f(m:zA)(n:Int):Option (zA×Bool):=
 if n<0 then
  some ((zA.mk 0 0 [] [] 0 0),false)
 else
 if 64≠(0:Int)then
 if(IntKind.wrap .i64 (Int.tdiv n 64))≥(List.length m.L:Int)then
  some ((zA.mk 0 0 [] [] 0 0),false)
 else
 if 64≠(0:Int)then
 idx m.L (IntKind.wrap .i64 (Int.tdiv n 64))>>=fun x=>
 if 64≠(0:Int)then
 if x.K=30 then
  if(Int.tmod n 64)≥(List.length x.L:Int)then
   some ((zA.mk 0 0 [] [] 0 0),false)
  else
  idx x.L (Int.tmod n 64)>>=fun x1=>
  if x1.K=34 then
   idx x.L (Int.tmod n 64)>>=fun x2=>
   if(List.length x2.L:Int)=1 then
    idx x.L (Int.tmod n 64)>>=fun x3=>
    idx x3.L 0>>=fun x4=>
    some (x4,true)
   else
   some ((zA.mk 0 0 [] [] 0 0),false)
  else
  some ((zA.mk 0 0 [] [] 0 0),false)
 else
 some ((zA.mk 0 0 [] [] 0 0),false)
 else none
 else none
 else none
def gJ(yQ:Int→Int→zA→zA→Option (Int))(n i:Int)(t d:zA):Option (Int):=
 if i<(List.length d.L:Int)then
  if i<64 then
   idx d.L i>>=fun x=>
   if x.S=t.S then
    some (IntKind.wrap .i64 ((IntKind.wrap .i64 (n*64))+i))
   else
   yQ n (IntKind.wrap .i64 (i+1)) t d
  else
  some ((-1))
 else
 some ((-1))
inductive z2H where
 |yQ (n i:Int) (t d:zA)
@[reducible] def z4S:z2H→Type
 |.yQ _ _ _ _=>Int
def z2A(g:Fam z4S):Fam z4S
 |.yQ n i t d=>gJ (fun n i t d=>g (z2H.yQ n i t d)) n i t d
theorem z7O:∀i,Good (fun g=>z2A g i)
 |.yQ n i t d=>by unfold z2A gJ;exact(.ite (.ite (.bind (.const _) fun _=>(.ite (.const _) (.call _))) (.const _)) (.const _))
def yQ(n i:Int)(t d:zA):Option (Int):=uV z2A (.yQ n i t d)
theorem z6K(n i:Int)(t d:zA):yQ n i t d=gJ yQ n i t d:=zX z7O (.yQ n i t d)
def z6J(m t:zA)(n:Int):Option (Int):=
 z5m m n 30>>=fun q1=>
 if q1=true then
  if t.S=[]then
   z3f m t.N>>=fun q2=>
   if q2.2=true then
    if 64≠(0:Int)then
    if IntKind.wrap .i64 (Int.tdiv t.N 64)=n then
     some (t.N)
    else
    some ((-1))
    else none
   else
   some ((-1))
  else
  idx m.L n>>=fun x=>
  yQ n 0 t x
 else
 some ((-1))
def z4i(vR:Int→zA→zA→Option (Bool))(a b:zA):Option (Bool):=
 if a.K=b.K then
  if a.N=b.N then
   if a.S=b.S then
    if(List.length a.L:Int)=(List.length b.L:Int)then
     vR 0 a b
    else
    some (false)
   else
   some (false)
  else
  some (false)
 else
 some (false)
def z0K(wV:zA→zA→Option (Bool))(vR:Int→zA→zA→Option (Bool))(i:Int)(a b:zA):Option (Bool):=
 if i<(List.length a.L:Int)then
  idx a.L i>>=fun x=>
  idx b.L i>>=fun x1=>
  wV x x1>>=fun q1=>
  if q1=true then
   vR (IntKind.wrap .i64 (i+1)) a b
  else
  some (false)
 else
 some (true)
inductive z1L where
 |wV (a b:zA)
 |vR (i:Int) (a b:zA)
@[reducible] def y0y:z1L→Type
 |.wV _ _=>Bool
 |.vR _ _ _=>Bool
def z3T(g:Fam y0y):Fam y0y
 |.wV a b=>z4i (fun i a b=>g (z1L.vR i a b)) a b
 |.vR i a b=>z0K (fun a b=>g (z1L.wV a b)) (fun i a b=>g (z1L.vR i a b)) i a b
theorem y0r:∀i,Good (fun g=>z3T g i)
 |.wV a b=>by unfold z3T z4i;exact(.ite (.ite (.ite (.ite (.call _) (.const _)) (.const _)) (.const _)) (.const _))
 |.vR i a b=>by unfold z3T z0K;exact(.ite (.bind (.const _) fun _=>(.bind (.const _) fun _=>(.bind (.call _) fun _=>(.ite (.call _) (.const _))))) (.const _))
def wV(a b:zA):Option (Bool):=uV z3T (.wV a b)
def vR(i:Int)(a b:zA):Option (Bool):=uV z3T (.vR i a b)
theorem v1N(a b:zA):wV a b=z4i vR a b:=zX y0r (.wV a b)
theorem z9s(i:Int)(a b:zA):vR i a b=z0K wV vR i a b:=zX y0r (.vR i a b)
def z1m(wN:(List zA)→(List zA)→Int→Option (Bool))(types parts:List zA)(i:Int):Option (Bool):=
 if i<(List.length parts:Int)then
  idx parts i>>=fun x=>
  if(List.length x.L:Int)=1 then
   idx types i>>=fun x1=>
   idx parts i>>=fun x2=>
   idx x2.L 0>>=fun x3=>
   wU x3>>=fun q1=>
   wV x1 q1>>=fun q2=>
   if q2=true then
    wN types parts (IntKind.wrap .i64 (i+1))
   else
   some (false)
  else
  some (false)
 else
 some (true)
inductive z5h where
 |wN (types parts:List zA) (i:Int)
@[reducible] def z7l:z5h→Type
 |.wN _ _ _=>Bool
def z5e(g:Fam z7l):Fam z7l
 |.wN types parts i=>z1m (fun types parts i=>g (z5h.wN types parts i)) types parts i
theorem y1d:∀i,Good (fun g=>z5e g i)
 |.wN types parts i=>by unfold z5e z1m;exact(.ite (.bind (.const _) fun _=>(.ite (.bind (.const _) fun _=>(.bind (.const _) fun _=>(.bind (.const _) fun _=>(.bind (.const _) fun _=>(.bind (.const _) fun _=>(.ite (.call _) (.const _))))))) (.const _))) (.const _))
def wN(types parts:List zA)(i:Int):Option (Bool):=uV z5e (.wN types parts i)
theorem y0k(types parts:List zA)(i:Int):wN types parts i=z1m wN types parts i:=zX y1d (.wN types parts i)
def z9Q(types parts:List zA):Option (Bool):=
 if(List.length types:Int)=(List.length parts:Int)then
  wN types parts 0
 else
 some (false)
def z0l(vH:(List zA)→Int→zA→zA→zA→Option (zA×Int×Int))(p:List zA)(i:Int)(m t o6:zA):Option (zA×Int×Int):=
 if i<(List.length p:Int)then
  idx p i>>=fun x=>
  idx p 0>>=fun x1=>
  wV x x1>>=fun q1=>
  if q1=true then
   vH p (IntKind.wrap .i64 (i+1)) m t o6
  else
  some ((zA.mk 0 0 [] [] 0 0),0,10)
 else
 idx p 0>>=fun x2=>
 z0c m (zA.mk 3 (List.length p:Int) [] [x2] 0 0)>>=fun q2=>
 if q2=0 then
  some ((zA.mk 0 0 [] [] 0 0),0,11)
 else
 some ((zA.mk 3 (List.length p:Int) [] [x2] 0 0),t.N,0)
inductive z3v where
 |vH (p:List zA) (i:Int) (m t o6:zA)
@[reducible] def z5B:z3v→Type
 |.vH _ _ _ _ _=>zA×Int×Int
def z3o(g:Fam z5B):Fam z5B
 |.vH p i m t o6=>z0l (fun p i m t o6=>g (z3v.vH p i m t o6)) p i m t o6
theorem z8p:∀i,Good (fun g=>z3o g i)
 |.vH p i m t o6=>by unfold z3o z0l;exact(.ite (.bind (.const _) fun _=>(.bind (.const _) fun _=>(.bind (.const _) fun _=>(.ite (.call _) (.const _))))) (.bind (.const _) fun _=>(.bind (.const _) fun _=>(.ite (.const _) (.const _)))))
def vH(p:List zA)(i:Int)(m t o6:zA):Option (zA×Int×Int):=uV z3o (.vH p i m t o6)
theorem z8f(p:List zA)(i:Int)(m t o6:zA):vH p i m t o6=z0l vH p i m t o6:=zX z8p (.vH p i m t o6)
def z5n(p:List zA)(m t o6:zA):Option (zA×Int×Int):=
 vH p 0 m t o6
def z2p(p:List zA)(m t o6:zA):Option (zA×Int×Int):=
 if t.K=14 then
  z5n p m t o6
 else
 some ((zA.mk 0 0 [] [] 0 0),0,10)
def z2o(p:List zA)(m t o6:zA):Option (zA×Int×Int):=
 if t.K=16 then
  idx m.L t.N>>=fun x=>
  idx x.L 0>>=fun x1=>
  z9Q p x1.L>>=fun q1=>
  if q1=true then
   idx m.L t.N>>=fun x2=>
   idx x2.L 1>>=fun x3=>
   wU x3>>=fun q2=>
   some (q2,t.N,0)
  else
  z2p p m t o6
 else
 z2p p m t o6
def z1o(p:List zA)(m t o6:zA):Option (zA×Int×Int):=
 if t.K=15 then
  idx m.L t.N>>=fun x=>
  z9Q p x.L>>=fun q1=>
  if q1=true then
   some ((zA.mk 4 t.N [] [] 0 0),t.N,0)
  else
  z2o p m t o6
 else
 z2o p m t o6
def z1i(p:List zA)(m t o6:zA):Option (zA×Int×Int):=
 if t.K=13 then
  idx p 0>>=fun x=>
  if x.K=4 then
   idx p 0>>=fun x1=>
   if(List.length x1.L:Int)=0 then
    idx p 0>>=fun x2=>
    z6J m t x2.N>>=fun q1=>
    if q1<0 then
     some ((zA.mk 0 0 [] [] 0 0),0,8)
    else
    z3f m q1>>=fun q2=>
    wU q2.1>>=fun q3=>
    some (q3,q1,0)
   else
   z1o p m t o6
  else
  z1o p m t o6
 else
 z1o p m t o6
def z1h(p:List zA)(m t o6:zA):Option (zA×Int×Int):=
 if t.K=12 then
  idx p 0>>=fun x=>
  if x.K=3 then
   idx p 0>>=fun x1=>
   if(List.length x1.L:Int)=1 then
    idx p 1>>=fun x2=>
    z4l x2 1>>=fun q1=>
    if q1=true then
     idx p 0>>=fun x3=>
     idx x3.L 0>>=fun x4=>
     some (x4,t.N,0)
    else
    z1i p m t o6
   else
   z1i p m t o6
  else
  z1i p m t o6
 else
 z1i p m t o6
def z3g(p:List zA)(m t o6:zA):Option (zA×Int×Int):=
 if t.K=11 then
  if t.N=1 then
   idx p 0>>=fun x=>
   z4l x 1>>=fun q1=>
   if q1=true then
    idx p 0>>=fun x1=>
    some (x1,t.N,0)
   else
   z1h p m t o6
  else
  if t.N=2 then
   idx p 0>>=fun x4=>
   z4l x4 2>>=fun q3=>
   if q3=true then
    idx p 0>>=fun x5=>
    some (x5,t.N,0)
   else
   z1h p m t o6
  else
  z1h p m t o6
 else
 z1h p m t o6
def z1p(op:Int)(ints:Bool)(o6:zA):Option (zA):=
 if op≥9 then
  if ints=true then
   z6k>>=fun q1=>
   some (q1)
  else
  some ((zA.mk 0 0 [] [] 0 0))
 else
 some ((zA.mk 0 0 [] [] 0 0))
def z0m(op:Int)(ints:Bool)(o6:zA):Option (zA):=
 if op=5 then
  if ints=true then
   gQ>>=fun q1=>
   some (q1)
  else
  z1p op ints o6
 else
 if op=6 then
  if ints=true then
   gQ>>=fun q2=>
   some (q2)
  else
  z1p op ints o6
 else
 if op=7 then
  if ints=true then
   gQ>>=fun q3=>
   some (q3)
  else
  z1p op ints o6
 else
 if op=8 then
  if ints=true then
   gQ>>=fun q4=>
   some (q4)
  else
  z1p op ints o6
 else
 z1p op ints o6
def z4n(op:Int)(ints bools:Bool)(o6:zA):Option (zA):=
 if op=1 then
  if bools=true then
   gQ>>=fun q1=>
   some (q1)
  else
  z0m op ints o6
 else
 if op=2 then
  if bools=true then
   gQ>>=fun q6=>
   some (q6)
  else
  z0m op ints o6
 else
 if op=3 then
  if ints=true then
   gQ>>=fun q11=>
   some (q11)
  else
  if bools=true then
   gQ>>=fun q12=>
   some (q12)
  else
  z0m op ints o6
 else
 if op=4 then
  if ints=true then
   gQ>>=fun q13=>
   some (q13)
  else
  if bools=true then
   gQ>>=fun q14=>
   some (q14)
  else
  z0m op ints o6
 else
 z0m op ints o6
def z4m(op:Int)(ints:Bool)(a b o6:zA):Option (zA):=
 z4l a 2>>=fun q1=>
 if q1=true then
  z4l b 2>>=fun q2=>
  z4n op ints q2 o6
 else
 z4n op ints false o6
def z9R(op:Int)(a b:zA):Option (zA):=
 z4l a 1>>=fun q1=>
 if q1=true then
  z4l b 1>>=fun q2=>
  z4m op q2 a b (zA.mk 0 0 [] [] 0 0)
 else
 z4m op false a b (zA.mk 0 0 [] [] 0 0)
def z9w(m t:zA)(p:List zA):Option (zA×Int×Int):=
 if t.K=10 then
  idx p 0>>=fun x=>
  idx p 1>>=fun x1=>
  z9R t.N x x1>>=fun q1=>
  if q1.K=0 then
   z3g p m t (zA.mk 0 0 [] [] 0 0)
  else
  idx p 0>>=fun x2=>
  idx p 1>>=fun x3=>
  z9R t.N x2 x3>>=fun q2=>
  some (q2,t.N,0)
 else
 z3g p m t (zA.mk 0 0 [] [] 0 0)
def z5Y(t:zA):Option (Bool):=
 if t.K=5 then
  some (((List.length t.L:Int) == 0))
 else
 if t.K=7 then
  some (((List.length t.L:Int) == 0))
 else
 if t.K=8 then
  some (((List.length t.L:Int) == 0))
 else
 if t.K=9 then
  some (((List.length t.L:Int) == 0))
 else
 if t.K=18 then
  some (((List.length t.L:Int) == 0))
 else
 if t.K=6 then
  if(List.length t.L:Int)=0 then
   if t.N=0 then
    some (true)
   else
   some ((t.N == 1))
  else
  some (false)
 else
 if t.K=11 then
  if(List.length t.L:Int)=1 then
   if t.N=1 then
    some (true)
   else
   some ((t.N == 2))
  else
  some (false)
 else
 if t.K=10 then
  if(List.length t.L:Int)=2 then
   if t.N≥1 then
    some (decide (t.N≤13))
   else
   some (false)
  else
  some (false)
 else
 if t.K=13 then
  some (((List.length t.L:Int) == 1))
 else
 if t.K=12 then
  some (((List.length t.L:Int) == 2))
 else
 if t.K=14 then
  some (decide ((List.length t.L:Int)≥1))
 else
 if t.K=15 then
  some (decide ((List.length t.L:Int)≥1))
 else
 if t.K=16 then
  some (true)
 else
 some ((t.K == 17))
def z6M(wA:(List zA)→(List zA)→(List zA)→Int→zA→zA→Ref15Got→Option (Ref15Got))(m:zA)(locals:List zA)(t:zA):Option (Ref15Got):=
 z5Y t>>=fun q1=>
 if q1=true then
  z6L m locals t>>=fun q3=>
  if q3=true then
   if(List.length t.L:Int)=0 then
    if t.K=16 then
     wA locals ([]:List zA) ([]:List zA) 0 m t (Ref15Got.mk (zA.mk 0 0 [] [] 0 0) (zA.mk 0 0 [] [] 0 0) 0 0)
    else
    z6I m locals t>>=fun q5=>
    some ((Ref15Got.mk q5 (zA.mk t.K t.N [] [] 0 0) 0 0))
   else
   wA locals ([]:List zA) ([]:List zA) 0 m t (Ref15Got.mk (zA.mk 0 0 [] [] 0 0) (zA.mk 0 0 [] [] 0 0) 0 0)
  else
  z7E t 8>>=fun q4=>
  some (q4)
 else
 z7E t 12>>=fun q2=>
 some (q2)
def z1n(uD:zA→(List zA)→zA→Option (Ref15Got))(wA:(List zA)→(List zA)→(List zA)→Int→zA→zA→Ref15Got→Option (Ref15Got))(locals types forms:List zA)(i:Int)(m t:zA)(o6:Ref15Got):Option (Ref15Got):=
 if i<(List.length t.L:Int)then
  idx t.L i>>=fun x=>
  uD m locals x>>=fun q1=>
  if q1.E=0 then
   if wI 72 (List.length types+List.length [q1.Type_])then
   if wI 72 (List.length forms+List.length [q1.Form])then
   wA locals (types++[q1.Type_]) (forms++[q1.Form]) (IntKind.wrap .i64 (i+1)) m t o6
   else none
   else none
  else
  some (q1)
 else
 z9w m t types>>=fun q2=>
 if q2.2.2=0 then
  some ((Ref15Got.mk q2.1 (zA.mk t.K q2.2.1 [] forms 0 0) 0 0))
 else
 z7E t q2.2.2>>=fun q3=>
 some (q3)
inductive z4G where
 |uD (m:zA) (locals:List zA) (t:zA)
 |wA (locals types forms:List zA) (i:Int) (m t:zA) (o6:Ref15Got)
@[reducible] def y4y:z4G→Type
 |.uD _ _ _=>Ref15Got
 |.wA _ _ _ _ _ _ _=>Ref15Got
def z6x(g:Fam y4y):Fam y4y
 |.uD m locals t=>z6M (fun locals types forms i m t o6=>g (z4G.wA locals types forms i m t o6)) m locals t
 |.wA locals types forms i m t o6=>z1n (fun m locals t=>g (z4G.uD m locals t)) (fun locals types forms i m t o6=>g (z4G.wA locals types forms i m t o6)) locals types forms i m t o6
theorem y4d:∀i,Good (fun g=>z6x g i)
 |.uD m locals t=>by unfold z6x z6M;exact(.bind (.const _) fun _=>(.ite (.bind (.const _) fun _=>(.ite (.ite (.ite (.call _) (.bind (.const _) fun _=>(.const _))) (.call _)) (.bind (.const _) fun _=>(.const _)))) (.bind (.const _) fun _=>(.const _))))
 |.wA locals types forms i m t o6=>by unfold z6x z1n;exact(.ite (.bind (.const _) fun _=>(.bind (.call _) fun _=>(.ite (.ite (.ite (.call _) (.const _)) (.const _)) (.const _)))) (.bind (.const _) fun _=>(.ite (.const _) (.bind (.const _) fun _=>(.const _)))))
def uD(m:zA)(locals:List zA)(t:zA):Option (Ref15Got):=uV z6x (.uD m locals t)
def wA(locals types forms:List zA)(i:Int)(m t:zA)(o6:Ref15Got):Option (Ref15Got):=uV z6x (.wA locals types forms i m t o6)
theorem v6t(m:zA)(locals:List zA)(t:zA):uD m locals t=z6M wA m locals t:=zX y4d (.uD m locals t)
theorem y0l(locals types forms:List zA)(i:Int)(m t:zA)(o6:Ref15Got):wA locals types forms i m t o6=z1n uD wA locals types forms i m t o6:=zX y4d (.wA locals types forms i m t o6)
def z1q(m:zA)(locals:List zA)(t:zA):Option (List zA):=
 if t.K=20 then
  if(List.length t.L:Int)=1 then
   if wI 72 (List.length ([]:List zA)+List.length locals)then
   idx t.L 0>>=fun x=>
   uD m locals x>>=fun q1=>
   if wI 72 (List.length (([]:List zA)++locals)+List.length [q1.Type_])then
   some ((([]:List zA)++locals)++[q1.Type_])
   else none
   else none
  else
  some (locals)
 else
 if t.K=21 then
  if(List.length t.L:Int)=1 then
   if wI 72 (List.length ([]:List zA)+List.length locals)then
   idx t.L 0>>=fun x2=>
   if wI 72 (List.length (([]:List zA)++locals)+List.length [x2])then
   some ((([]:List zA)++locals)++[x2])
   else none
   else none
  else
  some (locals)
 else
 some (locals)
def jC(k:Int):Option (Int×Int):=
 if k=20 then
  some (1,0)
 else
 if k=21 then
  some (1,0)
 else
 if k=26 then
  some (1,0)
 else
 if k=27 then
  some (1,0)
 else
 if k=28 then
  some (1,0)
 else
 if k=22 then
  some (2,0)
 else
 if k=23 then
  some (3,2)
 else
 if k=24 then
  some (2,1)
 else
 if k=25 then
  some (3,1)
 else
 some ((-1),0)
def z0o(yL:Int→Int→zA→Option (Bool))(n i:Int)(t:zA):Option (Bool):=
 if i<n then
  idx t.L i>>=fun x=>
  if x.K=29 then
   yL n (IntKind.wrap .i64 (i+1)) t
  else
  some (false)
 else
 some (true)
inductive z3w where
 |yL (n i:Int) (t:zA)
@[reducible] def z5C:z3w→Type
 |.yL _ _ _=>Bool
def z3p(g:Fam z5C):Fam z5C
 |.yL n i t=>z0o (fun n i t=>g (z3w.yL n i t)) n i t
theorem z8q:∀i,Good (fun g=>z3p g i)
 |.yL n i t=>by unfold z3p z0o;exact(.ite (.bind (.const _) fun _=>(.ite (.call _) (.const _))) (.const _))
def yL(n i:Int)(t:zA):Option (Bool):=uV z3p (.yL n i t)
theorem z8h(n i:Int)(t:zA):yL n i t=z0o yL n i t:=zX z8q (.yL n i t)
def z6P(t:zA):Option (Bool):=
 if t.K=29 then
  some (true)
 else
 jC t.K>>=fun q1=>
 if(List.length t.L:Int)=q1.1 then
  yL q1.1 (IntKind.wrap .i64 (q1.1-q1.2)) t
 else
 some (false)
def z1X(uB:zA→Option (zA))(t:zA):Option (zA):=
 if t.K=12 then
  if(List.length t.L:Int)>0 then
   idx t.L 0>>=fun x=>
   uB x>>=fun q1=>
   some (q1)
  else
  some (t)
 else
 if t.K=13 then
  if(List.length t.L:Int)>0 then
   idx t.L 0>>=fun x1=>
   uB x1>>=fun q2=>
   some (q2)
  else
  some (t)
 else
 some (t)
inductive z7i where
 |uB (t:zA)
@[reducible] def y0B:z7i→Type
 |.uB _=>zA
def z7h(g:Fam y0B):Fam y0B
 |.uB t=>z1X (fun t=>g (z7i.uB t)) t
theorem y4c:∀i,Good (fun g=>z7h g i)
 |.uB t=>by unfold z7h z1X;exact(.ite (.ite (.bind (.const _) fun _=>(.bind (.call _) fun _=>(.const _))) (.const _)) (.ite (.ite (.bind (.const _) fun _=>(.bind (.call _) fun _=>(.const _))) (.const _)) (.const _)))
def uB(t:zA):Option (zA):=uV z7h (.uB t)
theorem z9v(t:zA):uB t=z1X uB t:=zX y4c (.uB t)
def z0A(x:Ref15Got):Option (Ref16Got):=
 some ({x with T_:=x.Form})
def z1z(m:zA)(locals:List zA)(t:zA)(a b:Int):Option (Ref16Got):=
 uD m locals t>>=fun q1=>
 if q1.E=0 then
  z4l q1.Type_ a>>=fun q2=>
  if q2=true then
   z0A q1>>=fun q6=>
   some (q6)
  else
  z4l q1.Type_ b>>=fun q3=>
  if q3=true then
   z0A q1>>=fun q5=>
   some (q5)
  else
  vF t 10>>=fun q4=>
  some (q4)
 else
 z0A q1>>=fun q7=>
 some (q7)
def z3h(yV:(List zA)→Int→zA→zA→zA→Ref16Got→Int→Int→Str→(List zA)→Int→Int→Option (Ref16Got))(m:zA)(locals:List zA)(ret t:zA):Option (Ref16Got):=
 yV locals 0 m ret t (Ref16Got.mk (zA.mk 0 0 [] [] 0 0) 0 0) t.K t.N [] [] 0 0
def z0n(yV:(List zA)→Int→zA→zA→zA→Ref16Got→Int→Int→Str→(List zA)→Int→Int→Option (Ref16Got))(gR:zA→(List zA)→zA→zA→Option (Ref16Got))(locals:List zA)(i:Int)(m ret t:zA)(o8:Ref16Got)(K N:Int)(S:Str)(L:List zA)(From To:Int):Option (Ref16Got):=
 if i<(List.length t.L:Int)then
  idx t.L i>>=fun x=>
  gR m locals ret x>>=fun q1=>
  if q1.E=0 then
   if wI 72 (List.length L+List.length [q1.T_])then
   idx t.L i>>=fun x1=>
   z1q m locals x1>>=fun q2=>
   yV q2 (IntKind.wrap .i64 (i+1)) m ret t o8 K N S (L++[q1.T_]) From To
   else none
  else
  some (q1)
 else
 some ((Ref16Got.mk (zA.mk K N S L From To) 0 0))
def z4p(yX:zA→(List zA)→zA→zA→Option (Ref16Got))(yM:(List zA)→Int→zA→zA→zA→Ref16Got→Int→Int→Str→(List zA)→Int→Int→Option (Ref16Got))(m:zA)(locals:List zA)(ret t:zA):Option (Ref16Got):=
 z6P t>>=fun q1=>
 if q1=true then
  if t.K=29 then
   yX m locals ret t>>=fun q3=>
   some (q3)
  else
  yM locals 0 m ret t (Ref16Got.mk (zA.mk 0 0 [] [] 0 0) 0 0) t.K t.N [] [] 0 0
 else
 vF t 12>>=fun q2=>
 some (q2)
def z0a(yM:(List zA)→Int→zA→zA→zA→Ref16Got→Int→Int→Str→(List zA)→Int→Int→Option (Ref16Got))(jT:zA→(List zA)→zA→zA→Int→Option (Ref16Got))(locals:List zA)(i:Int)(m ret t:zA)(o8:Ref16Got)(K N:Int)(S:Str)(L:List zA)(From To:Int):Option (Ref16Got):=
 if i<(List.length t.L:Int)then
  jT m locals ret t i>>=fun q1=>
  if q1.E=0 then
   if wI 72 (List.length L+List.length [q1.T_])then
   yM locals (IntKind.wrap .i64 (i+1)) m ret t o8 K N S (L++[q1.T_]) From To
   else none
  else
  some (q1)
 else
 if t.K=22 then
  idx t.L 0>>=fun x=>
  uB x>>=fun q2=>
  if q2.K=7 then
   idx t.L 0>>=fun x4=>
   uD m locals x4>>=fun q8=>
   idx t.L 1>>=fun x5=>
   uD m locals x5>>=fun q9=>
   wV q8.Type_ q9.Type_>>=fun q10=>
   if q10=true then
    some ((Ref16Got.mk (zA.mk K N S L From To) 0 0))
   else
   vF t 10>>=fun q11=>
   some (q11)
  else
  if q2.K=9 then
   idx t.L 0>>=fun x2=>
   uD m locals x2>>=fun q4=>
   idx t.L 1>>=fun x3=>
   uD m locals x3>>=fun q5=>
   wV q4.Type_ q5.Type_>>=fun q6=>
   if q6=true then
    some ((Ref16Got.mk (zA.mk K N S L From To) 0 0))
   else
   vF t 10>>=fun q7=>
   some (q7)
  else
  idx t.L 0>>=fun x1=>
  vF x1 12>>=fun q3=>
  some (q3)
 else
 some ((Ref16Got.mk (zA.mk K N S L From To) 0 0))
def z4o(yX:zA→(List zA)→zA→zA→Option (Ref16Got))(m:zA)(locals:List zA)(ret t:zA)(i:Int):Option (Ref16Got):=
 idx t.L i>>=fun x=>
 jC t.K>>=fun q1=>
 if i≥(IntKind.wrap .i64 (q1.1-q1.2))then
  if t.K=25 then
   if wI 72 (List.length ([]:List zA)+List.length locals)then
   if wI 72 (List.length (([]:List zA)++locals)+List.length [(zA.mk 1 0 [] [] 0 0)])then
   yX m ((([]:List zA)++locals)++[(zA.mk 1 0 [] [] 0 0)]) ret x>>=fun q2=>
   some (q2)
   else none
   else none
  else
  yX m locals ret x>>=fun q3=>
  some (q3)
 else
 if t.K=21 then
  z0c m x>>=fun q4=>
  if q4=0 then
   vF x 11>>=fun q5=>
   some (q5)
  else
  yB x>>=fun q6=>
  some ((Ref16Got.mk q6 0 0))
 else
 if t.K=23 then
  z1z m locals x 2 2>>=fun q7=>
  some (q7)
 else
 if t.K=24 then
  z1z m locals x 2 2>>=fun q8=>
  some (q8)
 else
 if t.K=25 then
  z1z m locals x 1 1>>=fun q9=>
  some (q9)
 else
 if t.K=26 then
  z1z m locals x 1 2>>=fun q10=>
  some (q10)
 else
 if t.K=28 then
  if x.K=16 then
   uD m locals x>>=fun q12=>
   z0A q12>>=fun q18=>
   some (q18)
  else
  vF x 12>>=fun q11=>
  some (q11)
 else
 uD m locals x>>=fun q19=>
 if t.K=27 then
  if q19.E=0 then
   wU ret>>=fun q20=>
   wV q19.Type_ q20>>=fun q21=>
   if q21=true then
    z0A q19>>=fun q23=>
    some (q23)
   else
   vF x 10>>=fun q22=>
   some (q22)
  else
  z0A q19>>=fun q24=>
  some (q24)
 else
 z0A q19>>=fun q25=>
 some (q25)
inductive wJ where
 |yX (m:zA) (locals:List zA) (ret t:zA)
 |yV (locals:List zA) (i:Int) (m ret t:zA) (o8:Ref16Got) (K N:Int) (S:Str) (L:List zA) (From To:Int)
 |gR (m:zA) (locals:List zA) (ret t:zA)
 |yM (locals:List zA) (i:Int) (m ret t:zA) (o8:Ref16Got) (K N:Int) (S:Str) (L:List zA) (From To:Int)
 |jT (m:zA) (locals:List zA) (ret t:zA) (i:Int)
@[reducible] def z8H:wJ→Type
 |.yX _ _ _ _=>Ref16Got
 |.yV _ _ _ _ _ _ _ _ _ _ _ _=>Ref16Got
 |.gR _ _ _ _=>Ref16Got
 |.yM _ _ _ _ _ _ _ _ _ _ _ _=>Ref16Got
 |.jT _ _ _ _ _=>Ref16Got
def jO(g:Fam z8H):Fam z8H
 |.yX m locals ret t=>z3h (fun locals i m ret t o8 K N S L From To=>g (wJ.yV locals i m ret t o8 K N S L From To)) m locals ret t
 |.yV locals i m ret t o8 K N S L From To=>z0n (fun locals i m ret t o8 K N S L From To=>g (wJ.yV locals i m ret t o8 K N S L From To)) (fun m locals ret t=>g (wJ.gR m locals ret t)) locals i m ret t o8 K N S L From To
 |.gR m locals ret t=>z4p (fun m locals ret t=>g (wJ.yX m locals ret t)) (fun locals i m ret t o8 K N S L From To=>g (wJ.yM locals i m ret t o8 K N S L From To)) m locals ret t
 |.yM locals i m ret t o8 K N S L From To=>z0a (fun locals i m ret t o8 K N S L From To=>g (wJ.yM locals i m ret t o8 K N S L From To)) (fun m locals ret t i=>g (wJ.jT m locals ret t i)) locals i m ret t o8 K N S L From To
 |.jT m locals ret t i=>z4o (fun m locals ret t=>g (wJ.yX m locals ret t)) m locals ret t i
theorem z2U:∀i,Good (fun g=>jO g i)
 |.yX m locals ret t=>by unfold jO z3h;exact(.call _)
 |.yV locals i m ret t o8 K N S L From To=>by unfold jO z0n;exact(.ite (.bind (.const _) fun _=>(.bind (.call _) fun _=>(.ite (.ite (.bind (.const _) fun _=>(.bind (.const _) fun _=>(.call _))) (.const _)) (.const _)))) (.const _))
 |.gR m locals ret t=>by unfold jO z4p;exact(.bind (.const _) fun _=>(.ite (.ite (.bind (.call _) fun _=>(.const _)) (.call _)) (.bind (.const _) fun _=>(.const _))))
 |.yM locals i m ret t o8 K N S L From To=>by unfold jO z0a;exact(.ite (.bind (.call _) fun _=>(.ite (.ite (.call _) (.const _)) (.const _))) (.ite (.bind (.const _) fun _=>(.bind (.const _) fun _=>(.ite (.bind (.const _) fun _=>(.bind (.const _) fun _=>(.bind (.const _) fun _=>(.bind (.const _) fun _=>(.bind (.const _) fun _=>(.ite (.const _) (.bind (.const _) fun _=>(.const _)))))))) (.ite (.bind (.const _) fun _=>(.bind (.const _) fun _=>(.bind (.const _) fun _=>(.bind (.const _) fun _=>(.bind (.const _) fun _=>(.ite (.const _) (.bind (.const _) fun _=>(.const _)))))))) (.bind (.const _) fun _=>(.bind (.const _) fun _=>(.const _))))))) (.const _)))
 |.jT m locals ret t i=>by unfold jO z4o;exact(.bind (.const _) fun _=>(.bind (.const _) fun _=>(.ite (.ite (.ite (.ite (.bind (.call _) fun _=>(.const _)) (.const _)) (.const _)) (.bind (.call _) fun _=>(.const _))) (.ite (.bind (.const _) fun _=>(.ite (.bind (.const _) fun _=>(.const _)) (.bind (.const _) fun _=>(.const _)))) (.ite (.bind (.const _) fun _=>(.const _)) (.ite (.bind (.const _) fun _=>(.const _)) (.ite (.bind (.const _) fun _=>(.const _)) (.ite (.bind (.const _) fun _=>(.const _)) (.ite (.ite (.bind (.const _) fun _=>(.bind (.const _) fun _=>(.const _))) (.bind (.const _) fun _=>(.const _))) (.bind (.const _) fun _=>(.ite (.ite (.bind (.const _) fun _=>(.bind (.const _) fun _=>(.ite (.bind (.const _) fun _=>(.const _)) (.bind (.const _) fun _=>(.const _))))) (.bind (.const _) fun _=>(.const _))) (.bind (.const _) fun _=>(.const _)))))))))))))
def yX(m:zA)(locals:List zA)(ret t:zA):Option (Ref16Got):=uV jO (.yX m locals ret t)
def yV(locals:List zA)(i:Int)(m ret t:zA)(o8:Ref16Got)(K N:Int)(S:Str)(L:List zA)(From To:Int):Option (Ref16Got):=uV jO (.yV locals i m ret t o8 K N S L From To)
def gR(m:zA)(locals:List zA)(ret t:zA):Option (Ref16Got):=uV jO (.gR m locals ret t)
def yM(locals:List zA)(i:Int)(m ret t:zA)(o8:Ref16Got)(K N:Int)(S:Str)(L:List zA)(From To:Int):Option (Ref16Got):=uV jO (.yM locals i m ret t o8 K N S L From To)
def jT(m:zA)(locals:List zA)(ret t:zA)(i:Int):Option (Ref16Got):=uV jO (.jT m locals ret t i)
theorem y9u(m:zA)(locals:List zA)(ret t:zA):yX m locals ret t=z3h yV m locals ret t:=zX z2U (.yX m locals ret t)
theorem z8g(locals:List zA)(i:Int)(m ret t:zA)(o8:Ref16Got)(K N:Int)(S:Str)(L:List zA)(From To:Int):yV locals i m ret t o8 K N S L From To=z0n yV gR locals i m ret t o8 K N S L From To:=zX z2U (.yV locals i m ret t o8 K N S L From To)
theorem v1R(m:zA)(locals:List zA)(ret t:zA):gR m locals ret t=z4p yX yM m locals ret t:=zX z2U (.gR m locals ret t)
theorem z5Z(locals:List zA)(i:Int)(m ret t:zA)(o8:Ref16Got)(K N:Int)(S:Str)(L:List zA)(From To:Int):yM locals i m ret t o8 K N S L From To=z0a yM jT locals i m ret t o8 K N S L From To:=zX z2U (.yM locals i m ret t o8 K N S L From To)
theorem v1Q(m:zA)(locals:List zA)(ret t:zA)(i:Int):jT m locals ret t i=z4o yX m locals ret t i:=zX z2U (.jT m locals ret t i)
def z0p(vI:(List zA)→Int→zA→Option (List zA))(out:List zA)(i:Int)(f:zA):Option (List zA):=
 idx f.L 0>>=fun x=>
 if i<(List.length x.L:Int)then
  idx f.L 0>>=fun x1=>
  idx x1.L i>>=fun x2=>
  idx x2.L 0>>=fun x3=>
  if wI 72 (List.length out+List.length [x3])then
  vI (out++[x3]) (IntKind.wrap .i64 (i+1)) f
  else none
 else
 some (out)
inductive z3x where
 |vI (out:List zA) (i:Int) (f:zA)
@[reducible] def z5D:z3x→Type
 |.vI _ _ _=>List zA
def z3q(g:Fam z5D):Fam z5D
 |.vI out i f=>z0p (fun out i f=>g (z3x.vI out i f)) out i f
theorem z8r:∀i,Good (fun g=>z3q g i)
 |.vI out i f=>by unfold z3q z0p;exact(.bind (.const _) fun _=>(.ite (.bind (.const _) fun _=>(.bind (.const _) fun _=>(.bind (.const _) fun _=>(.ite (.call _) (.const _))))) (.const _)))
def vI(out:List zA)(i:Int)(f:zA):Option (List zA):=uV z3q (.vI out i f)
theorem z8i(out:List zA)(i:Int)(f:zA):vI out i f=z0p vI out i f:=zX z8r (.vI out i f)
def z3i(f:zA):Option (List zA):=
 vI ([]:List zA) 0 f
def z1r(wH:(List zA)→Int→zA→zA→Ref16Got→Option (Ref16Got))(all:List zA)(i:Int)(m t:zA)(o4:Ref16Got):Option (Ref16Got):=
 if i<(List.length all:Int)then
  if t.N=1 then
   idx all i>>=fun x=>
   z6G m x>>=fun q1=>
   if q1=true then
    wH all (IntKind.wrap .i64 (i+1)) m t o4
   else
   idx all i>>=fun x1=>
   vF x1 12>>=fun q2=>
   some (q2)
  else
  wH all (IntKind.wrap .i64 (i+1)) m t o4
 else
 z3i t>>=fun q3=>
 idx t.L 1>>=fun x2=>
 idx t.L 2>>=fun x3=>
 yX m q3 x2 x3>>=fun q4=>
 if q4.E=0 then
  z1W t>>=fun q5=>
  if(0:Int)≤2∧2<(List.length q5.L:Int)then
  if Int.toNat 2<List.length q5.L then
  some ((Ref16Got.mk ({q5 with L:=q5.L.set (Int.toNat 2) q4.T_}) 0 0))
  else none
  else none
 else
 some (q4)
inductive z5i where
 |wH (all:List zA) (i:Int) (m t:zA) (o4:Ref16Got)
@[reducible] def z7m:z5i→Type
 |.wH _ _ _ _ _=>Ref16Got
def z5f(g:Fam z7m):Fam z7m
 |.wH all i m t o4=>z1r (fun all i m t o4=>g (z5i.wH all i m t o4)) all i m t o4
theorem y1e:∀i,Good (fun g=>z5f g i)
 |.wH all i m t o4=>by unfold z5f z1r;exact(.ite (.ite (.bind (.const _) fun _=>(.bind (.const _) fun _=>(.ite (.call _) (.bind (.const _) fun _=>(.bind (.const _) fun _=>(.const _)))))) (.call _)) (.bind (.const _) fun _=>(.bind (.const _) fun _=>(.bind (.const _) fun _=>(.bind (.const _) fun _=>(.ite (.bind (.const _) fun _=>(.ite (.ite (.const _) (.const _)) (.const _))) (.const _)))))))
def wH(all:List zA)(i:Int)(m t:zA)(o4:Ref16Got):Option (Ref16Got):=uV z5f (.wH all i m t o4)
theorem y0m(all:List zA)(i:Int)(m t:zA)(o4:Ref16Got):wH all i m t o4=z1r wH all i m t o4:=zX y1e (.wH all i m t o4)
def z1Y(wY:(List zA)→Int→zA→zA→Ref16Got→Option (Ref16Got))(all:List zA)(i:Int)(m t:zA)(o4:Ref16Got):Option (Ref16Got):=
 if i<(List.length all:Int)then
  idx all i>>=fun x=>
  z0c m x>>=fun q1=>
  if q1=0 then
   idx all i>>=fun x1=>
   vF x1 11>>=fun q2=>
   some (q2)
  else
  wY all (IntKind.wrap .i64 (i+1)) m t o4
 else
 wH all 0 m t o4
inductive z6e where
 |wY (all:List zA) (i:Int) (m t:zA) (o4:Ref16Got)
@[reducible] def z8I:z6e→Type
 |.wY _ _ _ _ _=>Ref16Got
def z6d(g:Fam z8I):Fam z8I
 |.wY all i m t o4=>z1Y (fun all i m t o4=>g (z6e.wY all i m t o4)) all i m t o4
theorem y2L:∀i,Good (fun g=>z6d g i)
 |.wY all i m t o4=>by unfold z6d z1Y;exact(.ite (.bind (.const _) fun _=>(.bind (.const _) fun _=>(.ite (.bind (.const _) fun _=>(.bind (.const _) fun _=>(.const _))) (.call _)))) (.const _))
def wY(all:List zA)(i:Int)(m t:zA)(o4:Ref16Got):Option (Ref16Got):=uV z6d (.wY all i m t o4)
theorem y1N(all:List zA)(i:Int)(m t:zA)(o4:Ref16Got):wY all i m t o4=z1Y wY all i m t o4:=zX y2L (.wY all i m t o4)
def gL(yR:(List zA)→Int→Option (Bool))(l:List zA)(i:Int):Option (Bool):=
 if i<(List.length l:Int)then
  idx l i>>=fun x=>
  if x.K=34 then
   idx l i>>=fun x1=>
   if(List.length x1.L:Int)=1 then
    yR l (IntKind.wrap .i64 (i+1))
   else
   some (false)
  else
  some (false)
 else
 some (true)
inductive z2J where
 |yR (l:List zA) (i:Int)
@[reducible] def z4U:z2J→Type
 |.yR _ _=>Bool
def z2C(g:Fam z4U):Fam z4U
 |.yR l i=>gL (fun l i=>g (z2J.yR l i)) l i
theorem z7Q:∀i,Good (fun g=>z2C g i)
 |.yR l i=>by unfold z2C gL;exact(.ite (.bind (.const _) fun _=>(.ite (.bind (.const _) fun _=>(.ite (.call _) (.const _))) (.const _))) (.const _))
def yR(l:List zA)(i:Int):Option (Bool):=uV z2C (.yR l i)
theorem z6O(l:List zA)(i:Int):yR l i=gL yR l i:=zX z7Q (.yR l i)
def z2Q(l:List zA):Option (Bool):=
 yR l 0
def y6c(m t:zA):Option (Ref16Got):=
 if t.N=0 then
  if(List.length t.L:Int)=3 then
   idx t.L 0>>=fun x4=>
   if x4.K=35 then
    idx t.L 0>>=fun x5=>
    z2Q x5.L>>=fun q10=>
    if q10=true then
     idx t.L 2>>=fun x6=>
     if x6.K=29 then
      z3i t>>=fun q13=>
      idx t.L 1>>=fun x7=>
      if wI 72 (List.length q13+List.length [x7])then
      wY (q13++[x7]) 0 m t (Ref16Got.mk (zA.mk 0 0 [] [] 0 0) 0 0)
      else none
     else
     vF t 12>>=fun q12=>
     some (q12)
    else
    vF t 12>>=fun q11=>
    some (q11)
   else
   vF t 12>>=fun q9=>
   some (q9)
  else
  vF t 12>>=fun q8=>
  some (q8)
 else
 if t.N=1 then
  if(List.length t.L:Int)=3 then
   idx t.L 0>>=fun x=>
   if x.K=35 then
    idx t.L 0>>=fun x1=>
    z2Q x1.L>>=fun q4=>
    if q4=true then
     idx t.L 2>>=fun x2=>
     if x2.K=29 then
      z3i t>>=fun q7=>
      idx t.L 1>>=fun x3=>
      if wI 72 (List.length q7+List.length [x3])then
      wY (q7++[x3]) 0 m t (Ref16Got.mk (zA.mk 0 0 [] [] 0 0) 0 0)
      else none
     else
     vF t 12>>=fun q6=>
     some (q6)
    else
    vF t 12>>=fun q5=>
    some (q5)
   else
   vF t 12>>=fun q3=>
   some (q3)
  else
  vF t 12>>=fun q2=>
  some (q2)
 else
 vF t 12>>=fun q1=>
 some (q1)
def z9x(m:zA)(i:Int):Option (Ref16Got):=
 idx m.L i>>=fun x=>
 if x.K=33 then
  y6c m x>>=fun q1=>
  some (q1)
 else
 if x.K=30 then
  z1V x>>=fun q2=>
  if q2=true then
   z0c m (zA.mk 4 i [] [] 0 0)>>=fun q4=>
   if q4=0 then
    vF x 11>>=fun q5=>
    some (q5)
   else
   yB x>>=fun q6=>
   some ((Ref16Got.mk q6 0 0))
  else
  vF x 12>>=fun q3=>
  some (q3)
 else
 if x.K=32 then
  if(List.length x.L:Int)=1 then
   idx x.L 0>>=fun x1=>
   z0c m x1>>=fun q7=>
   if q7=0 then
    idx x.L 0>>=fun x2=>
    vF x2 11>>=fun q8=>
    some (q8)
   else
   yB x>>=fun q9=>
   some ((Ref16Got.mk q9 0 0))
  else
  vF x 12>>=fun q10=>
  some (q10)
 else
 if x.K=31 then
  if(List.length x.L:Int)=1 then
   idx x.L 0>>=fun x8=>
   if(List.length x8.L:Int)>0 then
    vF x 12>>=fun q21=>
    some (q21)
   else
   idx x.L 0>>=fun x9=>
   z1g x9>>=fun q22=>
   if q22.K=0 then
    vF x 12>>=fun q23=>
    some (q23)
   else
   idx x.L 0>>=fun x10=>
   if x10.K=6 then
    idx x.L 0>>=fun x11=>
    if x11.N=0 then
     yB x>>=fun q26=>
     some ((Ref16Got.mk q26 0 0))
    else
    idx x.L 0>>=fun x12=>
    if x12.N=1 then
     yB x>>=fun q25=>
     some ((Ref16Got.mk q25 0 0))
    else
    vF x 12>>=fun q24=>
    some (q24)
   else
   yB x>>=fun q27=>
   some ((Ref16Got.mk q27 0 0))
  else
  vF x 12>>=fun q20=>
  some (q20)
 else
 vF x 12>>=fun q19=>
 some (q19)
def gK(yJ:Int→zA→zA→Int→Int→Str→(List zA)→Int→Int→Option (zA×Int×Int))(i:Int)(m o2:zA)(K N:Int)(S:Str)(L:List zA)(From To:Int):Option (zA×Int×Int):=
 if i<(List.length m.L:Int)then
  z9x m i>>=fun q1=>
  if q1.E=0 then
   if wI 72 (List.length L+List.length [q1.T_])then
   yJ (IntKind.wrap .i64 (i+1)) m o2 K N S (L++[q1.T_]) From To
   else none
  else
  some ((zA.mk 0 0 [] [] 0 0),q1.At,q1.E)
 else
 some ((zA.mk K N S L From To),0,0)
inductive z2I where
 |yJ (i:Int) (m o2:zA) (K N:Int) (S:Str) (L:List zA) (From To:Int)
@[reducible] def z4T:z2I→Type
 |.yJ _ _ _ _ _ _ _ _ _=>zA×Int×Int
def z2B(g:Fam z4T):Fam z4T
 |.yJ i m o2 K N S L From To=>gK (fun i m o2 K N S L From To=>g (z2I.yJ i m o2 K N S L From To)) i m o2 K N S L From To
theorem z7P:∀i,Good (fun g=>z2B g i)
 |.yJ i m o2 K N S L From To=>by unfold z2B gK;exact(.ite (.bind (.const _) fun _=>(.ite (.ite (.call _) (.const _)) (.const _))) (.const _))
def yJ(i:Int)(m o2:zA)(K N:Int)(S:Str)(L:List zA)(From To:Int):Option (zA×Int×Int):=uV z2B (.yJ i m o2 K N S L From To)
theorem z6N(i:Int)(m o2:zA)(K N:Int)(S:Str)(L:List zA)(From To:Int):yJ i m o2 K N S L From To=gK yJ i m o2 K N S L From To:=zX z7P (.yJ i m o2 K N S L From To)
def z7F(m:zA):Option (zA×Int×Int):=
 if m.K=36 then
  yJ 0 m (zA.mk 0 0 [] [] 0 0) m.K m.N [] [] 0 0
 else
 some ((zA.mk 0 0 [] [] 0 0),m.From,12)
def z0X(m:zA):Option (Bool):=
 z7F m>>=fun q1=>
 if q1.2.2=0 then
  vB q1.1 m>>=fun q2=>
  some (q2)
 else
 some (false)
def z3d(yT:Int→Int→Int→zA→Option (Int))(t:zA)(left levels:Int):Option (Int):=
 if levels≤0 then
  some ((-1))
 else
 yT (IntKind.wrap .i64 (left-1)) levels 0 t
def z0j(uH:zA→Int→Int→Option (Int))(yT:Int→Int→Int→zA→Option (Int))(left levels i:Int)(t:zA):Option (Int):=
 if i<(List.length t.L:Int)then
  if left≥0 then
   idx t.L i>>=fun x=>
   uH x left (IntKind.wrap .i64 (levels-1))>>=fun q1=>
   yT q1 levels (IntKind.wrap .i64 (i+1)) t
  else
  some (left)
 else
 some (left)
inductive z1c where
 |uH (t:zA) (left levels:Int)
 |yT (left levels i:Int) (t:zA)
@[reducible] def z8F:z1c→Type
 |.uH _ _ _=>Int
 |.yT _ _ _ _=>Int
def z2V(g:Fam z8F):Fam z8F
 |.uH t left levels=>z3d (fun left levels i t=>g (z1c.yT left levels i t)) t left levels
 |.yT left levels i t=>z0j (fun t left levels=>g (z1c.uH t left levels)) (fun left levels i t=>g (z1c.yT left levels i t)) left levels i t
theorem z8n:∀i,Good (fun g=>z2V g i)
 |.uH t left levels=>by unfold z2V z3d;exact(.ite (.const _) (.call _))
 |.yT left levels i t=>by unfold z2V z0j;exact(.ite (.ite (.bind (.const _) fun _=>(.bind (.call _) fun _=>(.call _))) (.const _)) (.const _))
def uH(t:zA)(left levels:Int):Option (Int):=uV z2V (.uH t left levels)
def yT(left levels i:Int)(t:zA):Option (Int):=uV z2V (.yT left levels i t)
theorem y9s(t:zA)(left levels:Int):uH t left levels=z3d yT t left levels:=zX z8n (.uH t left levels)
theorem z8d(left levels i:Int)(t:zA):yT left levels i t=z0j uH yT left levels i t:=zX z8n (.yT left levels i t)
def z3e(yU:Int→zA→Option (Bool))(t:zA):Option (Bool):=
 if(List.length t.S:Int)>40 then
  some (true)
 else
 yU 0 t
def z0k(uI:zA→Option (Bool))(yU:Int→zA→Option (Bool))(i:Int)(t:zA):Option (Bool):=
 if i<(List.length t.L:Int)then
  idx t.L i>>=fun x=>
  uI x>>=fun q1=>
  if q1=true then
   some (true)
  else
  yU (IntKind.wrap .i64 (i+1)) t
 else
 some (false)
inductive z1d where
 |uI (t:zA)
 |yU (i:Int) (t:zA)
@[reducible] def z8G:z1d→Type
 |.uI _=>Bool
 |.yU _ _=>Bool
def z2W(g:Fam z8G):Fam z8G
 |.uI t=>z3e (fun i t=>g (z1d.yU i t)) t
 |.yU i t=>z0k (fun t=>g (z1d.uI t)) (fun i t=>g (z1d.yU i t)) i t
theorem z8o:∀i,Good (fun g=>z2W g i)
 |.uI t=>by unfold z2W z3e;exact(.ite (.const _) (.call _))
 |.yU i t=>by unfold z2W z0k;exact(.ite (.bind (.const _) fun _=>(.bind (.call _) fun _=>(.ite (.const _) (.call _)))) (.const _))
def uI(t:zA):Option (Bool):=uV z2W (.uI t)
def yU(i:Int)(t:zA):Option (Bool):=uV z2W (.yU i t)
theorem y9t(t:zA):uI t=z3e yU t:=zX z8o (.uI t)
theorem z8e(i:Int)(t:zA):yU i t=z0k uI yU i t:=zX z8o (.yU i t)
def gE(t:zA):Option (Bool):=
 uH t 400 70>>=fun q1=>
 if q1<0 then
  some (true)
 else
 uI t>>=fun q2=>
 some (q2)
def z3j(yW:Int→Int→Int→Value→Option (Int))(v:Value)(left levels:Int):Option (Int):=
 if levels≤0 then
  some ((-1))
 else
 yW (IntKind.wrap .i64 (left-1)) levels 0 v
def z0q(uJ:Value→Int→Int→Option (Int))(yW:Int→Int→Int→Value→Option (Int))(left levels i:Int)(v:Value):Option (Int):=
 if i<(List.length v.L:Int)then
  if left≥0 then
   idx v.L i>>=fun x=>
   uJ x left (IntKind.wrap .i64 (levels-1))>>=fun q1=>
   yW q1 levels (IntKind.wrap .i64 (i+1)) v
  else
  some (left)
 else
 some (left)
inductive z1e where
 |uJ (v:Value) (left levels:Int)
 |yW (left levels i:Int) (v:Value)
@[reducible] def z8J:z1e→Type
 |.uJ _ _ _=>Int
 |.yW _ _ _ _=>Int
def z2X(g:Fam z8J):Fam z8J
 |.uJ v left levels=>z3j (fun left levels i v=>g (z1e.yW left levels i v)) v left levels
 |.yW left levels i v=>z0q (fun v left levels=>g (z1e.uJ v left levels)) (fun left levels i v=>g (z1e.yW left levels i v)) left levels i v
theorem z8s:∀i,Good (fun g=>z2X g i)
 |.uJ v left levels=>by unfold z2X z3j;exact(.ite (.const _) (.call _))
 |.yW left levels i v=>by unfold z2X z0q;exact(.ite (.ite (.bind (.const _) fun _=>(.bind (.call _) fun _=>(.call _))) (.const _)) (.const _))
def uJ(v:Value)(left levels:Int):Option (Int):=uV z2X (.uJ v left levels)
def yW(left levels i:Int)(v:Value):Option (Int):=uV z2X (.yW left levels i v)
theorem y9v(v:Value)(left levels:Int):uJ v left levels=z3j yW v left levels:=zX z8s (.uJ v left levels)
theorem z8j(left levels i:Int)(v:Value):yW left levels i v=z0q uJ yW left levels i v:=zX z8s (.yW left levels i v)
def z5u(v:Value):Option (Bool):=
 uJ v 300 60>>=fun q1=>
 some (decide (q1<0))
def z0s(vK:(List Value)→Int→Option (Bool))(l:List Value)(i:Int):Option (Bool):=
 if i<(List.length l:Int)then
  if i<40 then
   idx l i>>=fun x=>
   z5u x>>=fun q1=>
   if q1=true then
    some (true)
   else
   vK l (IntKind.wrap .i64 (i+1))
  else
  some (decide ((List.length l:Int)>40))
 else
 some (decide ((List.length l:Int)>40))
inductive z3A where
 |vK (l:List Value) (i:Int)
@[reducible] def z5G:z3A→Type
 |.vK _ _=>Bool
def z3t(g:Fam z5G):Fam z5G
 |.vK l i=>z0s (fun l i=>g (z3A.vK l i)) l i
theorem z8v:∀i,Good (fun g=>z3t g i)
 |.vK l i=>by unfold z3t z0s;exact(.ite (.ite (.bind (.const _) fun _=>(.bind (.const _) fun _=>(.ite (.const _) (.call _)))) (.const _)) (.const _))
def vK(l:List Value)(i:Int):Option (Bool):=uV z3t (.vK l i)
theorem z8l(l:List Value)(i:Int):vK l i=z0s vK l i:=zX z8v (.vK l i)
def z5v(l:List Value):Option (Bool):=
 vK l 0
def z4t(s:State):Option (Bool):=
 if(List.length s.Globals:Int)>40 then
  some (true)
 else
 if(List.length s.Locals:Int)>40 then
  some (true)
 else
 if(List.length s.Input:Int)>100 then
  some (true)
 else
 if(List.length s.Trace:Int)>200 then
  some (true)
 else
 if s.Fuel>3000 then
  some (true)
 else
 z5u s.Ret>>=fun q1=>
 if q1=true then
  some (true)
 else
 z5v s.Globals>>=fun q2=>
 if q2=true then
  some (true)
 else
 z5v s.Locals>>=fun q3=>
 some (q3)
def z0t(vM:Int→Ref25Rule→Option (Bool))(i:Int)(c:Ref25Rule):Option (Bool):=
 if i<(List.length c.Types:Int)then
  if i<40 then
   idx c.Types i>>=fun x=>
   gE x>>=fun q1=>
   if q1=true then
    some (true)
   else
   vM (IntKind.wrap .i64 (i+1)) c
  else
  if(List.length c.Types:Int)>40 then
   some (true)
  else
  gE c.M>>=fun q2=>
  if q2=true then
   some (true)
  else
  gE c.L>>=fun q3=>
  if q3=true then
   some (true)
  else
  gE c.R>>=fun q4=>
  if q4=true then
   some (true)
  else
  z4t c.S>>=fun q5=>
  some (q5)
 else
 if(List.length c.Types:Int)>40 then
  some (true)
 else
 gE c.M>>=fun q6=>
 if q6=true then
  some (true)
 else
 gE c.L>>=fun q7=>
 if q7=true then
  some (true)
 else
 gE c.R>>=fun q8=>
 if q8=true then
  some (true)
 else
 z4t c.S>>=fun q9=>
 some (q9)
inductive z3B where
 |vM (i:Int) (c:Ref25Rule)
@[reducible] def z5H:z3B→Type
 |.vM _ _=>Bool
def z3u(g:Fam z5H):Fam z5H
 |.vM i c=>z0t (fun i c=>g (z3B.vM i c)) i c
theorem z8w:∀i,Good (fun g=>z3u g i)
 |.vM i c=>by unfold z3u z0t;exact(.ite (.ite (.bind (.const _) fun _=>(.bind (.const _) fun _=>(.ite (.const _) (.call _)))) (.ite (.const _) (.bind (.const _) fun _=>(.ite (.const _) (.bind (.const _) fun _=>(.ite (.const _) (.bind (.const _) fun _=>(.ite (.const _) (.bind (.const _) fun _=>(.const _)))))))))) (.ite (.const _) (.bind (.const _) fun _=>(.ite (.const _) (.bind (.const _) fun _=>(.ite (.const _) (.bind (.const _) fun _=>(.ite (.const _) (.bind (.const _) fun _=>(.const _))))))))))
def vM(i:Int)(c:Ref25Rule):Option (Bool):=uV z3u (.vM i c)
theorem z8m(i:Int)(c:Ref25Rule):vM i c=z0t vM i c:=zX z8w (.vM i c)
def z6V(c:Ref25Rule):Option (Bool):=
 vM 0 c
def z4j(vS:Int→Int→zA→Option (Int))(t:zA):Option (Int):=
 vS 1 0 t
def z0L(uS:zA→Option (Int))(vS:Int→Int→zA→Option (Int))(n i:Int)(t:zA):Option (Int):=
 if i<(List.length t.L:Int)then
  idx t.L i>>=fun x=>
  uS x>>=fun q1=>
  vS (IntKind.wrap .i64 (n+q1)) (IntKind.wrap .i64 (i+1)) t
 else
 some (n)
inductive z1M where
 |uS (t:zA)
 |vS (n i:Int) (t:zA)
@[reducible] def y0z:z1M→Type
 |.uS _=>Int
 |.vS _ _ _=>Int
def z3U(g:Fam y0z):Fam y0z
 |.uS t=>z4j (fun n i t=>g (z1M.vS n i t)) t
 |.vS n i t=>z0L (fun t=>g (z1M.uS t)) (fun n i t=>g (z1M.vS n i t)) n i t
theorem y0s:∀i,Good (fun g=>z3U g i)
 |.uS t=>by unfold z3U z4j;exact(.call _)
 |.vS n i t=>by unfold z3U z0L;exact(.ite (.bind (.const _) fun _=>(.bind (.call _) fun _=>(.call _))) (.const _))
def uS(t:zA):Option (Int):=uV z3U (.uS t)
def vS(n i:Int)(t:zA):Option (Int):=uV z3U (.vS n i t)
theorem v1O(t:zA):uS t=z4j vS t:=zX y0s (.uS t)
theorem z9t(n i:Int)(t:zA):vS n i t=z0L uS vS n i t:=zX y0s (.vS n i t)
def z2R(vU:Int→Value→Value→Option (Bool))(a b:Value):Option (Bool):=
 if a.N=b.N then
  if(List.length a.L:Int)=(List.length b.L:Int)then
   vU 0 a b
  else
  some (false)
 else
 some (false)
def z0b(wW:Value→Value→Option (Bool))(vU:Int→Value→Value→Option (Bool))(i:Int)(a b:Value):Option (Bool):=
 if i<(List.length a.L:Int)then
  idx a.L i>>=fun x=>
  idx b.L i>>=fun x1=>
  wW x x1>>=fun q1=>
  if q1=true then
   vU (IntKind.wrap .i64 (i+1)) a b
  else
  some (false)
 else
 some (true)
inductive z1P where
 |wW (a b:Value)
 |vU (i:Int) (a b:Value)
@[reducible] def y0D:z1P→Type
 |.wW _ _=>Bool
 |.vU _ _ _=>Bool
def z3X(g:Fam y0D):Fam y0D
 |.wW a b=>z2R (fun i a b=>g (z1P.vU i a b)) a b
 |.vU i a b=>z0b (fun a b=>g (z1P.wW a b)) (fun i a b=>g (z1P.vU i a b)) i a b
theorem y0v:∀i,Good (fun g=>z3X g i)
 |.wW a b=>by unfold z3X z2R;exact(.ite (.ite (.call _) (.const _)) (.const _))
 |.vU i a b=>by unfold z3X z0b;exact(.ite (.bind (.const _) fun _=>(.bind (.const _) fun _=>(.bind (.call _) fun _=>(.ite (.call _) (.const _))))) (.const _))
def wW(a b:Value):Option (Bool):=uV z3X (.wW a b)
def vU(i:Int)(a b:Value):Option (Bool):=uV z3X (.vU i a b)
theorem y3f(a b:Value):wW a b=z2R vU a b:=zX y0v (.wW a b)
theorem z6a(i:Int)(a b:Value):vU i a b=z0b wW vU i a b:=zX y0v (.vU i a b)
def gM(yK:(List zA)→(List zA)→Int→Option (List zA))(out l:List zA)(i:Int):Option (List zA):=
 if i<(List.length l:Int)then
  idx l i>>=fun x=>
  idx x.L 0>>=fun x1=>
  if wI 72 (List.length out+List.length [x1])then
  yK (out++[x1]) l (IntKind.wrap .i64 (i+1))
  else none
 else
 some (out)
inductive z2K where
 |yK (out l:List zA) (i:Int)
@[reducible] def z4V:z2K→Type
 |.yK _ _ _=>List zA
def z2D(g:Fam z4V):Fam z4V
 |.yK out l i=>gM (fun out l i=>g (z2K.yK out l i)) out l i
theorem z7R:∀i,Good (fun g=>z2D g i)
 |.yK out l i=>by unfold z2D gM;exact(.ite (.bind (.const _) fun _=>(.bind (.const _) fun _=>(.ite (.call _) (.const _)))) (.const _))
def yK(out l:List zA)(i:Int):Option (List zA):=uV z2D (.yK out l i)
theorem z6Q(out l:List zA)(i:Int):yK out l i=gM yK out l i:=zX z7R (.yK out l i)
def z0r(vJ:(List zA)→Int→zA→zA→Option (List zA))(out:List zA)(i:Int)(m t:zA):Option (List zA):=
 if i<t.N then
  idx t.L 0>>=fun x=>
  if wI 72 (List.length out+List.length [x])then
  vJ (out++[x]) (IntKind.wrap .i64 (i+1)) m t
  else none
 else
 if t.K=4 then
  idx m.L t.N>>=fun x1=>
  yK out x1.L 0
 else
 some (out)
inductive z3y where
 |vJ (out:List zA) (i:Int) (m t:zA)
@[reducible] def z5E:z3y→Type
 |.vJ _ _ _ _=>List zA
def z3r(g:Fam z5E):Fam z5E
 |.vJ out i m t=>z0r (fun out i m t=>g (z3y.vJ out i m t)) out i m t
theorem z8t:∀i,Good (fun g=>z3r g i)
 |.vJ out i m t=>by unfold z3r z0r;exact(.ite (.bind (.const _) fun _=>(.ite (.call _) (.const _))) (.ite (.bind (.const _) fun _=>(.const _)) (.const _)))
def vJ(out:List zA)(i:Int)(m t:zA):Option (List zA):=uV z3r (.vJ out i m t)
theorem z8k(out:List zA)(i:Int)(m t:zA):vJ out i m t=z0r vJ out i m t:=zX z8t (.vJ out i m t)
def z2q(m t:zA):Option (List zA):=
 if t.K=3 then
  vJ ([]:List zA) 0 m t
 else
 if t.K=4 then
  idx m.L t.N>>=fun x=>
  yK ([]:List zA) x.L 0
 else
 some (([]:List zA))
def z4q(yI:(List zA)→Int→zA→Value→Option (Bool))(m t:zA)(v:Value):Option (Bool):=
 z0c m t>>=fun q1=>
 if q1=0 then
  some (false)
 else
 if t.K=2 then
  if v.N=0 then
   z2q m t>>=fun q7=>
   if(List.length q7:Int)=(List.length v.L:Int)then
    yI q7 0 m v
   else
   some (false)
  else
  if v.N=1 then
   z2q m t>>=fun q4=>
   if(List.length q4:Int)=(List.length v.L:Int)then
    yI q4 0 m v
   else
   some (false)
  else
  some (false)
 else
 if t.K=1 then
  z2q m t>>=fun q9=>
  if(List.length q9:Int)=(List.length v.L:Int)then
   yI q9 0 m v
  else
  some (false)
 else
 if v.N=0 then
  z2q m t>>=fun q8=>
  if(List.length q8:Int)=(List.length v.L:Int)then
   yI q8 0 m v
  else
  some (false)
 else
 some (false)
def z0N(uT:zA→zA→Value→Option (Bool))(yI:(List zA)→Int→zA→Value→Option (Bool))(p:List zA)(i:Int)(m:zA)(v:Value):Option (Bool):=
 if i<(List.length p:Int)then
  idx p i>>=fun x=>
  idx v.L i>>=fun x1=>
  uT m x x1>>=fun q1=>
  if q1=true then
   yI p (IntKind.wrap .i64 (i+1)) m v
  else
  some (false)
 else
 some (true)
inductive z1O where
 |uT (m t:zA) (v:Value)
 |yI (p:List zA) (i:Int) (m:zA) (v:Value)
@[reducible] def y0C:z1O→Type
 |.uT _ _ _=>Bool
 |.yI _ _ _ _=>Bool
def z3W(g:Fam y0C):Fam y0C
 |.uT m t v=>z4q (fun p i m v=>g (z1O.yI p i m v)) m t v
 |.yI p i m v=>z0N (fun m t v=>g (z1O.uT m t v)) (fun p i m v=>g (z1O.yI p i m v)) p i m v
theorem y0u:∀i,Good (fun g=>z3W g i)
 |.uT m t v=>by unfold z3W z4q;exact(.bind (.const _) fun _=>(.ite (.const _) (.ite (.ite (.bind (.const _) fun _=>(.ite (.call _) (.const _))) (.ite (.bind (.const _) fun _=>(.ite (.call _) (.const _))) (.const _))) (.ite (.bind (.const _) fun _=>(.ite (.call _) (.const _))) (.ite (.bind (.const _) fun _=>(.ite (.call _) (.const _))) (.const _))))))
 |.yI p i m v=>by unfold z3W z0N;exact(.ite (.bind (.const _) fun _=>(.bind (.const _) fun _=>(.bind (.call _) fun _=>(.ite (.call _) (.const _))))) (.const _))
def uT(m t:zA)(v:Value):Option (Bool):=uV z3W (.uT m t v)
def yI(p:List zA)(i:Int)(m:zA)(v:Value):Option (Bool):=uV z3W (.yI p i m v)
theorem v1S(m t:zA)(v:Value):uT m t v=z4q yI m t v:=zX y0u (.uT m t v)
theorem z9y(p:List zA)(i:Int)(m:zA)(v:Value):yI p i m v=z0N uT yI p i m v:=zX y0u (.yI p i m v)
def z1t(wO:(List zA)→(List Value)→Int→zA→Option (Bool))(types:List zA)(l:List Value)(i:Int)(m:zA):Option (Bool):=
 if i<(List.length l:Int)then
  idx types i>>=fun x=>
  idx l i>>=fun x1=>
  uT m x x1>>=fun q1=>
  if q1=true then
   wO types l (IntKind.wrap .i64 (i+1)) m
  else
  some (false)
 else
 some (true)
inductive z5j where
 |wO (types:List zA) (l:List Value) (i:Int) (m:zA)
@[reducible] def z7n:z5j→Type
 |.wO _ _ _ _=>Bool
def z5g(g:Fam z7n):Fam z7n
 |.wO types l i m=>z1t (fun types l i m=>g (z5j.wO types l i m)) types l i m
theorem y1f:∀i,Good (fun g=>z5g g i)
 |.wO types l i m=>by unfold z5g z1t;exact(.ite (.bind (.const _) fun _=>(.bind (.const _) fun _=>(.bind (.const _) fun _=>(.ite (.call _) (.const _))))) (.const _))
def wO(types:List zA)(l:List Value)(i:Int)(m:zA):Option (Bool):=uV z5g (.wO types l i m)
theorem y0o(types:List zA)(l:List Value)(i:Int)(m:zA):wO types l i m=z1t wO types l i m:=zX y1f (.wO types l i m)
def z6l(m:zA)(types:List zA)(l:List Value):Option (Bool):=
 if(List.length types:Int)=(List.length l:Int)then
  wO types l 0 m
 else
 some (false)
def z0B(b:Bool):Option (Int):=
 if b=true then
  some (1)
 else
 some (0)
def z1D(op a:Int):Option (Int):=
 if op=1 then
  some (IntKind.wrap .i64 (IntKind.wrap .u64 (0-(IntKind.wrap .u64 a))))
 else
 if op=2 then
  z0B (a == 0)>>=fun q1=>
  some (q1)
 else
 some (0)
def z2S(vD:(List zA)→Int→zA→Value→Int→(List Value)→Option (Value))(m t:zA):Option (Value):=
 z0c m t>>=fun q1=>
 if q1=0 then
  some ((Value.mk 0 []))
 else
 z2q m t>>=fun q2=>
 vD q2 0 m (Value.mk 0 []) 0 []
def jY(vC:zA→zA→Option (Value))(vD:(List zA)→Int→zA→Value→Int→(List Value)→Option (Value))(p:List zA)(i:Int)(m:zA)(o4:Value)(N:Int)(L:List Value):Option (Value):=
 if i<(List.length p:Int)then
  idx p i>>=fun x=>
  vC m x>>=fun q1=>
  if wI 32 (List.length L+List.length [q1])then
  vD p (IntKind.wrap .i64 (i+1)) m o4 N (L++[q1])
  else none
 else
 some ((Value.mk N L))
inductive z1Q where
 |vC (m t:zA)
 |vD (p:List zA) (i:Int) (m:zA) (o4:Value) (N:Int) (L:List Value)
@[reducible] def y0E:z1Q→Type
 |.vC _ _=>Value
 |.vD _ _ _ _ _ _=>Value
def z3Y(g:Fam y0E):Fam y0E
 |.vC m t=>z2S (fun p i m o4 N L=>g (z1Q.vD p i m o4 N L)) m t
 |.vD p i m o4 N L=>jY (fun m t=>g (z1Q.vC m t)) (fun p i m o4 N L=>g (z1Q.vD p i m o4 N L)) p i m o4 N L
theorem y0w:∀i,Good (fun g=>z3Y g i)
 |.vC m t=>by unfold z3Y z2S;exact(.bind (.const _) fun _=>(.ite (.const _) (.bind (.const _) fun _=>(.call _))))
 |.vD p i m o4 N L=>by unfold z3Y jY;exact(.ite (.bind (.const _) fun _=>(.bind (.call _) fun _=>(.ite (.call _) (.const _)))) (.const _))
def vC(m t:zA):Option (Value):=uV z3Y (.vC m t)
def vD(p:List zA)(i:Int)(m:zA)(o4:Value)(N:Int)(L:List Value):Option (Value):=uV z3Y (.vD p i m o4 N L)
theorem y3g(m t:zA):vC m t=z2S vD m t:=zX y0w (.vC m t)
theorem z3L(p:List zA)(i:Int)(m:zA)(o4:Value)(N:Int)(L:List Value):vD p i m o4 N L=jY vC vD p i m o4 N L:=zX y0w (.vD p i m o4 N L)
def z2t(s:State):Option (Ref21Got):=
 some ((Ref21Got.mk (Value.mk 0 []) s))
def z4E(s:State)(n:Int):Option (State):=
 if(0:Int)≤n then
 if Int.toNat n≤List.length s.Locals then
 if 0≤Int.toNat n then
 some ({s with Locals:=List.drop 0 (List.take (Int.toNat n) s.Locals)})
 else none
 else none
 else none
def z3k(s:State)(v:Value):Option (State):=
 if wI 32 (List.length ([]:List Value)+List.length s.Locals)then
 if wI 32 (List.length (([]:List Value)++s.Locals)+List.length [v])then
 some ({s with Locals:=(([]:List Value)++s.Locals)++[v]})
 else none
 else none
def z1v(s:State):Option (State):=
 if s.Kind=0 then
  if s.Fuel≤0 then
   some ({s with Kind:=3})
  else
  some ({s with Fuel:=IntKind.wrap .i64 (s.Fuel-1)})
 else
 some (s)
def z4s(wB:(List Int)→(List Value)→Int→Value→Value→Value→Option (Value))(v:Value)(way:List Int)(x:Value):Option (Value):=
 if(List.length way:Int)=0 then
  some (x)
 else
 wB way ([]:List Value) 0 v x (Value.mk 0 [])
def z1s(uA:Value→(List Int)→Value→Option (Value))(wB:(List Int)→(List Value)→Int→Value→Value→Value→Option (Value))(way:List Int)(out:List Value)(i:Int)(v x o6:Value):Option (Value):=
 if i<(List.length v.L:Int)then
  idx way 0>>=fun x1=>
  if i=x1 then
   idx v.L i>>=fun x2=>
   if List.length way≤List.length way then
   if(0:Int)≤1 then
   if Int.toNat 1≤List.length way then
   uA x2 (List.drop (Int.toNat 1) (List.take (List.length way) way)) x>>=fun q1=>
   if wI 32 (List.length out+List.length [q1])then
   wB way (out++[q1]) (IntKind.wrap .i64 (i+1)) v x o6
   else none
   else none
   else none
   else none
  else
  idx v.L i>>=fun x3=>
  if wI 32 (List.length out+List.length [x3])then
  wB way (out++[x3]) (IntKind.wrap .i64 (i+1)) v x o6
  else none
 else
 some ((Value.mk v.N out))
inductive z2Y where
 |uA (v:Value) (way:List Int) (x:Value)
 |wB (way:List Int) (out:List Value) (i:Int) (v x o6:Value)
@[reducible] def y2c:z2Y→Type
 |.uA _ _ _=>Value
 |.wB _ _ _ _ _ _=>Value
def z5q(g:Fam y2c):Fam y2c
 |.uA v way x=>z4s (fun way out i v x o6=>g (z2Y.wB way out i v x o6)) v way x
 |.wB way out i v x o6=>z1s (fun v way x=>g (z2Y.uA v way x)) (fun way out i v x o6=>g (z2Y.wB way out i v x o6)) way out i v x o6
theorem y1Z:∀i,Good (fun g=>z5q g i)
 |.uA v way x=>by unfold z5q z4s;exact(.ite (.const _) (.call _))
 |.wB way out i v x o6=>by unfold z5q z1s;exact(.ite (.bind (.const _) fun _=>(.ite (.bind (.const _) fun _=>(.ite (.ite (.ite (.bind (.call _) fun _=>(.ite (.call _) (.const _))) (.const _)) (.const _)) (.const _))) (.bind (.const _) fun _=>(.ite (.call _) (.const _))))) (.const _))
def uA(v:Value)(way:List Int)(x:Value):Option (Value):=uV z5q (.uA v way x)
def wB(way:List Int)(out:List Value)(i:Int)(v x o6:Value):Option (Value):=uV z5q (.wB way out i v x o6)
theorem y6e(v:Value)(way:List Int)(x:Value):uA v way x=z4s wB v way x:=zX y1Z (.uA v way x)
theorem y0n(way:List Int)(out:List Value)(i:Int)(v x o6:Value):wB way out i v x o6=z1s uA wB way out i v x o6:=zX y1Z (.wB way out i v x o6)
def z4P(l:List Value)(at_:Int)(v:Value):Option (List Value):=
 if wI 32 (List.length l)then
 if 0<List.length l then
 if(0:Int)≤at_∧at_<(List.length l:Int)then
 if Int.toNat at_<List.length l then
 some (l.set (Int.toNat at_) v)
 else none
 else none
 else none
 else none
def z4r(uU:Value→(List Int)→Option (Value))(v:Value)(way:List Int):Option (Value):=
 if(List.length way:Int)=0 then
  some (v)
 else
 idx way 0>>=fun x=>
 idx v.L x>>=fun x1=>
 if List.length way≤List.length way then
 if(0:Int)≤1 then
 if Int.toNat 1≤List.length way then
 uU x1 (List.drop (Int.toNat 1) (List.take (List.length way) way))>>=fun q1=>
 some (q1)
 else none
 else none
 else none
inductive z9E where
 |uU (v:Value) (way:List Int)
@[reducible] def y2b:z9E→Type
 |.uU _ _=>Value
def z9D(g:Fam y2b):Fam y2b
 |.uU v way=>z4r (fun v way=>g (z9E.uU v way)) v way
theorem y7i:∀i,Good (fun g=>z9D g i)
 |.uU v way=>by unfold z9D z4r;exact(.ite (.const _) (.bind (.const _) fun _=>(.bind (.const _) fun _=>(.ite (.ite (.ite (.bind (.call _) fun _=>(.const _)) (.const _)) (.const _)) (.const _)))))
def uU(v:Value)(way:List Int):Option (Value):=uV z9D (.uU v way)
theorem y6d(v:Value)(way:List Int):uU v way=z4r uU v way:=zX y7i (.uU v way)
def z0D(n:Int)(s:State):Option (Ref21Got):=
 some ((Ref21Got.mk (Value.mk 0 []) ({s with Kind:=2,N:=n})))
def z1u(n:Int)(s:State):Option (Ref21Got):=
 some ((Ref21Got.mk (Value.mk n []) s))
def gN(yF:Int→Int→Int→Int→Int→Option (Int×Int))(a b q left i:Int):Option (Int×Int):=
 if i≥0 then
  if(0:Int)≤(IntKind.wrap .u64 i)then
  if 2≠(0:Int)then
  if left≥9223372036854775808 then
   yF a b (IntKind.wrap .u64 ((IntKind.wrap .u64 (q*2))+1)) (IntKind.wrap .u64 ((IntKind.wrap .u64 ((IntKind.wrap .u64 (left*2))+(Int.tmod (Int.fdiv a (2 ^ min (Int.toNat (IntKind.wrap .u64 i)) (IntKind.bits .u64))) 2)))-b)) (IntKind.wrap .i64 (i-1))
  else
  if(IntKind.wrap .u64 ((IntKind.wrap .u64 (left*2))+(Int.tmod (Int.fdiv a (2 ^ min (Int.toNat (IntKind.wrap .u64 i)) (IntKind.bits .u64))) 2)))≥b then
   yF a b (IntKind.wrap .u64 ((IntKind.wrap .u64 (q*2))+1)) (IntKind.wrap .u64 ((IntKind.wrap .u64 ((IntKind.wrap .u64 (left*2))+(Int.tmod (Int.fdiv a (2 ^ min (Int.toNat (IntKind.wrap .u64 i)) (IntKind.bits .u64))) 2)))-b)) (IntKind.wrap .i64 (i-1))
  else
  yF a b (IntKind.wrap .u64 (q*2)) (IntKind.wrap .u64 ((IntKind.wrap .u64 (left*2))+(Int.tmod (Int.fdiv a (2 ^ min (Int.toNat (IntKind.wrap .u64 i)) (IntKind.bits .u64))) 2))) (IntKind.wrap .i64 (i-1))
  else none
  else none
 else
 some (q,left)
inductive z2L where
 |yF (a b q left i:Int)
@[reducible] def z4W:z2L→Type
 |.yF _ _ _ _ _=>Int×Int
def z2E(g:Fam z4W):Fam z4W
 |.yF a b q left i=>gN (fun a b q left i=>g (z2L.yF a b q left i)) a b q left i
theorem z7S:∀i,Good (fun g=>z2E g i)
 |.yF a b q left i=>by unfold z2E gN;exact(.ite (.ite (.ite (.ite (.call _) (.ite (.call _) (.call _))) (.const _)) (.const _)) (.const _))
def yF(a b q left i:Int):Option (Int×Int):=uV z2E (.yF a b q left i)
theorem z6R(a b q left i:Int):yF a b q left i=gN yF a b q left i:=zX z7S (.yF a b q left i)
def z6b(a b:Int):Option (Int×Int):=
 yF a b 0 0 63
def z6S(a:Int):Option (Int):=
 if a<0 then
  some (IntKind.wrap .u64 ((IntKind.wrap .u64 (IntKind.wrap .i64 (0-(IntKind.wrap .i64 (a+1)))))+1))
 else
 some (IntKind.wrap .u64 a)
def z2r(a b:Int):Option (Int×Int):=
 z6S a>>=fun q1=>
 z6S b>>=fun q2=>
 z6b q1 q2>>=fun q3=>
 if decide (a<0)=decide (b<0)then
  if a<0 then
   some (IntKind.wrap .i64 q3.1,IntKind.wrap .i64 (IntKind.wrap .u64 (0-q3.2)))
  else
  some (IntKind.wrap .i64 q3.1,IntKind.wrap .i64 q3.2)
 else
 if a<0 then
  some (IntKind.wrap .i64 (IntKind.wrap .u64 (0-q3.1)),IntKind.wrap .i64 (IntKind.wrap .u64 (0-q3.2)))
 else
 some (IntKind.wrap .i64 (IntKind.wrap .u64 (0-q3.1)),IntKind.wrap .i64 q3.2)
def z0Y(yZ:Int→Int→Int→Option (Int))(x y out:Int):Option (Int):=
 if y>0 then
  if 2≠(0:Int)then
  if Int.tmod y 2=1 then
   if 2≠(0:Int)then
   yZ (IntKind.wrap .u64 (x+x)) (IntKind.wrap .u64 (Int.tdiv y 2)) (IntKind.wrap .u64 (out+x))
   else none
  else
  if 2≠(0:Int)then
  yZ (IntKind.wrap .u64 (x+x)) (IntKind.wrap .u64 (Int.tdiv y 2)) out
  else none
  else none
 else
 some (IntKind.wrap .i64 out)
inductive z3z where
 |yZ (x y out:Int)
@[reducible] def z5F:z3z→Type
 |.yZ _ _ _=>Int
def z3s(g:Fam z5F):Fam z5F
 |.yZ x y out=>z0Y (fun x y out=>g (z3z.yZ x y out)) x y out
theorem z8u:∀i,Good (fun g=>z3s g i)
 |.yZ x y out=>by unfold z3s z0Y;exact(.ite (.ite (.ite (.ite (.call _) (.const _)) (.ite (.call _) (.const _))) (.const _)) (.const _))
def yZ(x y out:Int):Option (Int):=uV z3s (.yZ x y out)
theorem y3T(x y out:Int):yZ x y out=z0Y yZ x y out:=zX z8u (.yZ x y out)
def z6T(a b:Int):Option (Int):=
 yZ (IntKind.wrap .u64 a) (IntKind.wrap .u64 b) 0
def z2N(op a b:Int):Option (Int×Int):=
 if op=1 then
  if a=0 then
   z0B (!(b == 0))>>=fun q1=>
   some (q1,0)
  else
  z0B true>>=fun q2=>
  some (q2,0)
 else
 if op=2 then
  if a=0 then
   z0B false>>=fun q3=>
   some (q3,0)
  else
  z0B (!(b == 0))>>=fun q4=>
  some (q4,0)
 else
 if op=3 then
  z0B ((a == b) == (op == 3))>>=fun q5=>
  some (q5,0)
 else
 if op=4 then
  z0B ((a == b) == (op == 3))>>=fun q6=>
  some (q6,0)
 else
 if op=5 then
  z0B ((decide (a<b)) == (op == 5))>>=fun q7=>
  some (q7,0)
 else
 if op=8 then
  z0B ((decide (a<b)) == (op == 5))>>=fun q8=>
  some (q8,0)
 else
 if op=7 then
  z0B ((decide (a>b)) == (op == 7))>>=fun q9=>
  some (q9,0)
 else
 if op=6 then
  z0B ((decide (a>b)) == (op == 7))>>=fun q10=>
  some (q10,0)
 else
 if op=9 then
  some (IntKind.wrap .i64 (IntKind.wrap .u64 ((IntKind.wrap .u64 a)+(IntKind.wrap .u64 b))),0)
 else
 if op=10 then
  some (IntKind.wrap .i64 (IntKind.wrap .u64 ((IntKind.wrap .u64 a)-(IntKind.wrap .u64 b))),0)
 else
 if op=11 then
  z6T a b>>=fun q11=>
  some (q11,0)
 else
 if op=12 then
  if b=0 then
   some (0,1)
  else
  z2r a b>>=fun q13=>
  some (q13.1,0)
 else
 if op=13 then
  if b=0 then
   some (0,1)
  else
  z2r a b>>=fun q12=>
  some (q12.2,0)
 else
 some (0,0)
def uF(z1x:zA→State→zA→Option (Ref21Got))(gU:zA→State→(List zA)→Option (List Value×State))(uE:zA→State→Int→(List Value)→Option (Ref21Got))(m:zA)(s:State)(t:zA):Option (Ref21Got):=
 z1v s>>=fun q1=>
 if q1.Kind=0 then
  if t.K=5 then
   z1u t.N q1>>=fun q3=>
   some (q3)
  else
  if t.K=6 then
   z1u t.N q1>>=fun q4=>
   some (q4)
  else
  if t.K=7 then
   idx q1.Locals (IntKind.wrap .i64 ((IntKind.wrap .i64 ((List.length q1.Locals:Int)-1))-t.N))>>=fun x=>
   some ((Ref21Got.mk x q1))
  else
  if t.K=9 then
   idx q1.Globals t.N>>=fun x1=>
   some ((Ref21Got.mk x1 q1))
  else
  if t.K=8 then
   idx m.L t.N>>=fun x2=>
   idx x2.L 0>>=fun x3=>
   z1u x3.N q1>>=fun q5=>
   some (q5)
  else
  if t.K=18 then
   if q1.At≥(List.length q1.Input:Int)then
    z0D 3 q1>>=fun q6=>
    some (q6)
   else
   idx q1.Input (IntKind.wrap .i64 ((IntKind.wrap .i64 (q1.At+1))-1))>>=fun x4=>
   z1u x4 ({q1 with At:=IntKind.wrap .i64 (q1.At+1)})>>=fun q7=>
   some (q7)
  else
  if t.K=10 then
   z1x m q1 t>>=fun q17=>
   some (q17)
  else
  gU m q1 t.L>>=fun q18=>
  if q18.2.Kind=0 then
   if t.K=11 then
    idx q18.1 0>>=fun x15=>
    z1D t.N x15.N>>=fun q20=>
    z1u q20 q18.2>>=fun q21=>
    some (q21)
   else
   if t.K=12 then
    idx q18.1 1>>=fun x16=>
    if x16.N<0 then
     z0D 2 q18.2>>=fun q22=>
     some (q22)
    else
    idx q18.1 1>>=fun x17=>
    idx q18.1 0>>=fun x18=>
    if x17.N≥(List.length x18.L:Int)then
     z0D 2 q18.2>>=fun q23=>
     some (q23)
    else
    idx q18.1 0>>=fun x19=>
    idx q18.1 1>>=fun x20=>
    idx x19.L x20.N>>=fun x21=>
    some ((Ref21Got.mk x21 q18.2))
   else
   if t.K=13 then
    idx q18.1 0>>=fun x22=>
    if 64≠(0:Int)then
    idx x22.L (Int.tmod t.N 64)>>=fun x23=>
    some ((Ref21Got.mk x23 q18.2))
    else none
   else
   if t.K=16 then
    uE m q18.2 t.N q18.1>>=fun q24=>
    some (q24)
   else
   some ((Ref21Got.mk (Value.mk 0 q18.1) q18.2))
  else
  z2t q18.2>>=fun q19=>
  some (q19)
 else
 z2t q1>>=fun q2=>
 some (q2)
def z5y(zK:zA→State→zA→Option (Ref21Got))(m:zA)(s:State)(t:zA):Option (Ref21Got):=
 idx t.L 0>>=fun x=>
 zK m s x>>=fun q1=>
 if q1.S.Kind=0 then
  if t.N=2 then
   if q1.V.N=0 then
    z1u 0 q1.S>>=fun q3=>
    some (q3)
   else
   idx t.L 1>>=fun x2=>
   zK m q1.S x2>>=fun q9=>
   if q9.S.Kind=0 then
    some (q9)
   else
   some (q9)
  else
  if t.N=1 then
   if q1.V.N=0 then
    idx t.L 1>>=fun x3=>
    zK m q1.S x3>>=fun q14=>
    if q14.S.Kind=0 then
     some (q14)
    else
    some (q14)
   else
   z1u 1 q1.S>>=fun q13=>
   some (q13)
  else
  idx t.L 1>>=fun x4=>
  zK m q1.S x4>>=fun q18=>
  if q18.S.Kind=0 then
   z2N t.N q1.V.N q18.V.N>>=fun q19=>
   if q19.2=0 then
    z1u q19.1 q18.S>>=fun q21=>
    some (q21)
   else
   z0D q19.2 q18.S>>=fun q20=>
   some (q20)
  else
  some (q18)
 else
 z2t q1.S>>=fun q2=>
 some (q2)
def z4u(vV:(List zA)→(List Value)→Int→zA→State→State→Option (List Value×State))(m:zA)(s:State)(l:List zA):Option (List Value×State):=
 vV l ([]:List Value) 0 m s (State.mk [] [] [] 0 [] 0 0 0 (Value.mk 0 []))
def z0O(zK:zA→State→zA→Option (Ref21Got))(vV:(List zA)→(List Value)→Int→zA→State→State→Option (List Value×State))(l:List zA)(out:List Value)(i:Int)(m:zA)(s o7:State):Option (List Value×State):=
 if i<(List.length l:Int)then
  idx l i>>=fun x=>
  zK m s x>>=fun q1=>
  if wI 32 (List.length out+List.length [q1.V])then
  vV l (out++[q1.V]) (IntKind.wrap .i64 (i+1)) m q1.S o7
  else none
 else
 some (out,s)
def z2s(zY:zA→State→zA→Option (State))(m:zA)(s:State)(f:Int)(args:List Value):Option (Ref21Got):=
 idx m.L f>>=fun x=>
 idx x.L 2>>=fun x1=>
 zY m ({s with Locals:=args}) x1>>=fun q1=>
 if q1.Kind=1 then
  some ((Ref21Got.mk q1.Ret ({q1 with Locals:=s.Locals,Kind:=0,Ret:=(Value.mk 0 [])})))
 else
 if q1.Kind=0 then
  idx m.L f>>=fun x2=>
  idx x2.L 1>>=fun x3=>
  vC m x3>>=fun q3=>
  some ((Ref21Got.mk q3 ({q1 with Locals:=s.Locals})))
 else
 z2t ({q1 with Locals:=s.Locals})>>=fun q2=>
 some (q2)
def jX(zK:zA→State→zA→Option (Ref21Got))(zY:zA→State→zA→Option (State))(yO:Int→Int→zA→State→zA→State→Option (State))(z1w:zA→State→zA→Option (State))(jM:zA→Ref21Got→zA→Option (State))(z0R:zA→Ref21Got→zA→Option (State))(m:zA)(s:State)(t:zA):Option (State):=
 z1v s>>=fun q1=>
 if q1.Kind=0 then
  if t.K=29 then
   yO (List.length q1.Locals:Int) 0 m q1 t (State.mk [] [] [] 0 [] 0 0 0 (Value.mk 0 []))
  else
  if t.K=21 then
   idx t.L 0>>=fun x=>
   vC m x>>=fun q2=>
   z3k q1 q2>>=fun q3=>
   some (q3)
  else
  if t.K=22 then
   z1w m q1 t>>=fun q4=>
   some (q4)
  else
  idx t.L 0>>=fun x1=>
  zK m q1 x1>>=fun q5=>
  if q5.S.Kind=0 then
   if t.K=20 then
    z3k q5.S q5.V>>=fun q6=>
    some (q6)
   else
   if t.K=26 then
    if wI 8 (List.length ([]:List Int)+List.length q5.S.Trace)then
    if wI 8 (List.length (([]:List Int)++q5.S.Trace)+List.length [q5.V.N])then
    some ({q5.S with Trace:=(([]:List Int)++q5.S.Trace)++[q5.V.N]})
    else none
    else none
   else
   if t.K=27 then
    some ({q5.S with Kind:=1,Ret:=q5.V})
   else
   if t.K=23 then
    if q5.V.N=0 then
     idx t.L 2>>=fun x12=>
     zY m q5.S x12>>=fun q29=>
     some (q29)
    else
    idx t.L 1>>=fun x11=>
    zY m q5.S x11>>=fun q28=>
    some (q28)
   else
   if t.K=24 then
    jM m q5 t>>=fun q33=>
    some (q33)
   else
   if t.K=25 then
    z0R m q5 t>>=fun q34=>
    some (q34)
   else
   some (q5.S)
  else
  some (q5.S)
 else
 some (q1)
def gA(zY:zA→State→zA→Option (State))(yO:Int→Int→zA→State→zA→State→Option (State))(n i:Int)(m:zA)(s:State)(t:zA)(o6:State):Option (State):=
 if i<(List.length t.L:Int)then
  idx t.L i>>=fun x=>
  zY m s x>>=fun q1=>
  yO n (IntKind.wrap .i64 (i+1)) m q1 t o6
 else
 z4E s n>>=fun q2=>
 some (q2)
def z5x(zK:zA→State→zA→Option (Ref21Got))(vP:zA→State→zA→State→Ref21Got→zA→Option (State))(m:zA)(s:State)(t:zA):Option (State):=
 idx t.L 1>>=fun x=>
 zK m s x>>=fun q1=>
 if q1.S.Kind=0 then
  idx t.L 0>>=fun x1=>
  vP m q1.S t (State.mk [] [] [] 0 [] 0 0 0 (Value.mk 0 [])) q1 x1
 else
 some (q1.S)
def z0C(vP:zA→State→zA→State→Ref21Got→zA→Option (State))(uR:zA→State→zA→Value→Option (List Int×State))(m:zA)(s:State)(t:zA)(o6:State)(x:Ref21Got)(root:zA):Option (State):=
 if root.K=12 then
  idx root.L 0>>=fun x1=>
  vP m s t o6 x x1
 else
 if root.K=13 then
  idx root.L 0>>=fun x2=>
  vP m s t o6 x x2
 else
 if root.K=9 then
  idx t.L 0>>=fun x3=>
  idx s.Globals root.N>>=fun x4=>
  uR m s x3 x4>>=fun q1=>
  if q1.2.Kind=0 then
   idx q1.2.Globals root.N>>=fun x5=>
   uA x5 q1.1 x.V>>=fun q2=>
   z4P q1.2.Globals root.N q2>>=fun q3=>
   some ({q1.2 with Globals:=q3})
  else
  some (q1.2)
 else
 idx t.L 0>>=fun x6=>
 idx s.Locals (IntKind.wrap .i64 ((IntKind.wrap .i64 ((List.length s.Locals:Int)-1))-root.N))>>=fun x7=>
 uR m s x6 x7>>=fun q4=>
 if q4.2.Kind=0 then
  idx q4.2.Locals (IntKind.wrap .i64 ((IntKind.wrap .i64 ((List.length s.Locals:Int)-1))-root.N))>>=fun x8=>
  uA x8 q4.1 x.V>>=fun q5=>
  z4P q4.2.Locals (IntKind.wrap .i64 ((IntKind.wrap .i64 ((List.length s.Locals:Int)-1))-root.N)) q5>>=fun q6=>
  some ({q4.2 with Locals:=q6})
 else
 some (q4.2)
def z3n(yD:zA→Ref21Got→zA→State→Option (State))(m:zA)(x:Ref21Got)(t:zA):Option (State):=
 yD m x t (State.mk [] [] [] 0 [] 0 0 0 (Value.mk 0 []))
def gD(zK:zA→State→zA→Option (Ref21Got))(zY:zA→State→zA→Option (State))(yD:zA→Ref21Got→zA→State→Option (State))(m:zA)(x:Ref21Got)(t:zA)(o6:State):Option (State):=
 if x.S.Kind=0 then
  if x.V.N=0 then
   some (x.S)
  else
  idx t.L 1>>=fun x1=>
  zY m x.S x1>>=fun q1=>
  idx t.L 0>>=fun x2=>
  zK m q1 x2>>=fun q2=>
  yD m q2 t o6
 else
 some (x.S)
def z5w(zK:zA→State→zA→Option (Ref21Got))(wC:Int→Int→zA→zA→State→Ref21Got→State→Option (State))(m:zA)(from_:Ref21Got)(t:zA):Option (State):=
 idx t.L 1>>=fun x=>
 zK m from_.S x>>=fun q1=>
 if q1.S.Kind=0 then
  wC (List.length q1.S.Locals:Int) from_.V.N m t (State.mk [] [] [] 0 [] 0 0 0 (Value.mk 0 [])) q1 q1.S
 else
 some (q1.S)
def gX(zY:zA→State→zA→Option (State))(wC:Int→Int→zA→zA→State→Ref21Got→State→Option (State))(n i:Int)(m t:zA)(o6:State)(to_:Ref21Got)(s:State):Option (State):=
 z1v s>>=fun q1=>
 if q1.Kind=0 then
  if i≥to_.V.N then
   some (q1)
  else
  z3k q1 (Value.mk i [])>>=fun q2=>
  idx t.L 2>>=fun x=>
  zY m q2 x>>=fun q3=>
  z4E q3 n>>=fun q4=>
  wC n (IntKind.wrap .i64 (i+1)) m t o6 to_ q4
 else
 some (q1)
def z3m(zK:zA→State→zA→Option (Ref21Got))(uR:zA→State→zA→Value→Option (List Int×State))(m:zA)(s:State)(t:zA)(kept:Value):Option (List Int×State):=
 if t.K=12 then
  idx t.L 0>>=fun x2=>
  uR m s x2 kept>>=fun q6=>
  if q6.2.Kind=0 then
   idx t.L 1>>=fun x3=>
   zK m q6.2 x3>>=fun q7=>
   if q7.S.Kind=0 then
    if q7.V.N<0 then
     z0D 2 q7.S>>=fun q8=>
     some (q6.1,q8.S)
    else
    uU kept q6.1>>=fun q9=>
    if q7.V.N≥(List.length q9.L:Int)then
     z0D 2 q7.S>>=fun q10=>
     some (q6.1,q10.S)
    else
    if wI 8 (List.length q6.1+List.length [q7.V.N])then
    some (q6.1++[q7.V.N],q7.S)
    else none
   else
   some (q6.1,q7.S)
  else
  some (q6.1,q6.2)
 else
 if t.K=13 then
  idx t.L 0>>=fun x=>
  uR m s x kept>>=fun q1=>
  if q1.2.Kind=0 then
   if 64≠(0:Int)then
   if wI 8 (List.length q1.1+List.length [Int.tmod t.N 64])then
   some (q1.1++[Int.tmod t.N 64],q1.2)
   else none
   else none
  else
  some (q1.1,q1.2)
 else
 some (([]:List Int),s)
inductive zJ where
 |zK (m:zA) (s:State) (t:zA)
 |z1x (m:zA) (s:State) (t:zA)
 |gU (m:zA) (s:State) (l:List zA)
 |vV (l:List zA) (out:List Value) (i:Int) (m:zA) (s o7:State)
 |uE (m:zA) (s:State) (f:Int) (args:List Value)
 |zY (m:zA) (s:State) (t:zA)
 |yO (n i:Int) (m:zA) (s:State) (t:zA) (o6:State)
 |z1w (m:zA) (s:State) (t:zA)
 |vP (m:zA) (s:State) (t:zA) (o6:State) (x:Ref21Got) (root:zA)
 |jM (m:zA) (x:Ref21Got) (t:zA)
 |yD (m:zA) (x:Ref21Got) (t:zA) (o6:State)
 |z0R (m:zA) (from_:Ref21Got) (t:zA)
 |wC (n i:Int) (m t:zA) (o6:State) (to_:Ref21Got) (s:State)
 |uR (m:zA) (s:State) (t:zA) (kept:Value)
@[reducible] def y0F:zJ→Type
 |.zK _ _ _=>Ref21Got
 |.z1x _ _ _=>Ref21Got
 |.gU _ _ _=>List Value×State
 |.vV _ _ _ _ _ _=>List Value×State
 |.uE _ _ _ _=>Ref21Got
 |.zY _ _ _=>State
 |.yO _ _ _ _ _ _=>State
 |.z1w _ _ _=>State
 |.vP _ _ _ _ _ _=>State
 |.jM _ _ _=>State
 |.yD _ _ _ _=>State
 |.z0R _ _ _=>State
 |.wC _ _ _ _ _ _ _=>State
 |.uR _ _ _ _=>List Int×State
def yH(g:Fam y0F):Fam y0F
 |.zK m s t=>uF (fun m s t=>g (zJ.z1x m s t)) (fun m s l=>g (zJ.gU m s l)) (fun m s f args=>g (zJ.uE m s f args)) m s t
 |.z1x m s t=>z5y (fun m s t=>g (zJ.zK m s t)) m s t
 |.gU m s l=>z4u (fun l out i m s o7=>g (zJ.vV l out i m s o7)) m s l
 |.vV l out i m s o7=>z0O (fun m s t=>g (zJ.zK m s t)) (fun l out i m s o7=>g (zJ.vV l out i m s o7)) l out i m s o7
 |.uE m s f args=>z2s (fun m s t=>g (zJ.zY m s t)) m s f args
 |.zY m s t=>jX (fun m s t=>g (zJ.zK m s t)) (fun m s t=>g (zJ.zY m s t)) (fun n i m s t o6=>g (zJ.yO n i m s t o6)) (fun m s t=>g (zJ.z1w m s t)) (fun m x t=>g (zJ.jM m x t)) (fun m from_ t=>g (zJ.z0R m from_ t)) m s t
 |.yO n i m s t o6=>gA (fun m s t=>g (zJ.zY m s t)) (fun n i m s t o6=>g (zJ.yO n i m s t o6)) n i m s t o6
 |.z1w m s t=>z5x (fun m s t=>g (zJ.zK m s t)) (fun m s t o6 x root=>g (zJ.vP m s t o6 x root)) m s t
 |.vP m s t o6 x root=>z0C (fun m s t o6 x root=>g (zJ.vP m s t o6 x root)) (fun m s t kept=>g (zJ.uR m s t kept)) m s t o6 x root
 |.jM m x t=>z3n (fun m x t o6=>g (zJ.yD m x t o6)) m x t
 |.yD m x t o6=>gD (fun m s t=>g (zJ.zK m s t)) (fun m s t=>g (zJ.zY m s t)) (fun m x t o6=>g (zJ.yD m x t o6)) m x t o6
 |.z0R m from_ t=>z5w (fun m s t=>g (zJ.zK m s t)) (fun n i m t o6 to_ s=>g (zJ.wC n i m t o6 to_ s)) m from_ t
 |.wC n i m t o6 to_ s=>gX (fun m s t=>g (zJ.zY m s t)) (fun n i m t o6 to_ s=>g (zJ.wC n i m t o6 to_ s)) n i m t o6 to_ s
 |.uR m s t kept=>z3m (fun m s t=>g (zJ.zK m s t)) (fun m s t kept=>g (zJ.uR m s t kept)) m s t kept
theorem uW:∀i,Good (fun g=>yH g i)
 |.zK m s t=>by unfold yH uF;exact(.bind (.const _) fun _=>(.ite (.ite (.bind (.const _) fun _=>(.const _)) (.ite (.bind (.const _) fun _=>(.const _)) (.ite (.bind (.const _) fun _=>(.const _)) (.ite (.bind (.const _) fun _=>(.const _)) (.ite (.bind (.const _) fun _=>(.bind (.const _) fun _=>(.bind (.const _) fun _=>(.const _)))) (.ite (.ite (.bind (.const _) fun _=>(.const _)) (.bind (.const _) fun _=>(.bind (.const _) fun _=>(.const _)))) (.ite (.bind (.call _) fun _=>(.const _)) (.bind (.call _) fun _=>(.ite (.ite (.bind (.const _) fun _=>(.bind (.const _) fun _=>(.bind (.const _) fun _=>(.const _)))) (.ite (.bind (.const _) fun _=>(.ite (.bind (.const _) fun _=>(.const _)) (.bind (.const _) fun _=>(.bind (.const _) fun _=>(.ite (.bind (.const _) fun _=>(.const _)) (.bind (.const _) fun _=>(.bind (.const _) fun _=>(.bind (.const _) fun _=>(.const _))))))))) (.ite (.bind (.const _) fun _=>(.ite (.bind (.const _) fun _=>(.const _)) (.const _))) (.ite (.bind (.call _) fun _=>(.const _)) (.const _))))) (.bind (.const _) fun _=>(.const _))))))))))) (.bind (.const _) fun _=>(.const _))))
 |.z1x m s t=>by unfold yH z5y;exact(.bind (.const _) fun _=>(.bind (.call _) fun _=>(.ite (.ite (.ite (.bind (.const _) fun _=>(.const _)) (.bind (.const _) fun _=>(.bind (.call _) fun _=>(.ite (.const _) (.const _))))) (.ite (.ite (.bind (.const _) fun _=>(.bind (.call _) fun _=>(.ite (.const _) (.const _)))) (.bind (.const _) fun _=>(.const _))) (.bind (.const _) fun _=>(.bind (.call _) fun _=>(.ite (.bind (.const _) fun _=>(.ite (.bind (.const _) fun _=>(.const _)) (.bind (.const _) fun _=>(.const _)))) (.const _)))))) (.bind (.const _) fun _=>(.const _)))))
 |.gU m s l=>by unfold yH z4u;exact(.call _)
 |.vV l out i m s o7=>by unfold yH z0O;exact(.ite (.bind (.const _) fun _=>(.bind (.call _) fun _=>(.ite (.call _) (.const _)))) (.const _))
 |.uE m s f args=>by unfold yH z2s;exact(.bind (.const _) fun _=>(.bind (.const _) fun _=>(.bind (.call _) fun _=>(.ite (.const _) (.ite (.bind (.const _) fun _=>(.bind (.const _) fun _=>(.bind (.const _) fun _=>(.const _)))) (.bind (.const _) fun _=>(.const _)))))))
 |.zY m s t=>by unfold yH jX;exact(.bind (.const _) fun _=>(.ite (.ite (.call _) (.ite (.bind (.const _) fun _=>(.bind (.const _) fun _=>(.bind (.const _) fun _=>(.const _)))) (.ite (.bind (.call _) fun _=>(.const _)) (.bind (.const _) fun _=>(.bind (.call _) fun _=>(.ite (.ite (.bind (.const _) fun _=>(.const _)) (.ite (.ite (.ite (.const _) (.const _)) (.const _)) (.ite (.const _) (.ite (.ite (.bind (.const _) fun _=>(.bind (.call _) fun _=>(.const _))) (.bind (.const _) fun _=>(.bind (.call _) fun _=>(.const _)))) (.ite (.bind (.call _) fun _=>(.const _)) (.ite (.bind (.call _) fun _=>(.const _)) (.const _))))))) (.const _))))))) (.const _)))
 |.yO n i m s t o6=>by unfold yH gA;exact(.ite (.bind (.const _) fun _=>(.bind (.call _) fun _=>(.call _))) (.bind (.const _) fun _=>(.const _)))
 |.z1w m s t=>by unfold yH z5x;exact(.bind (.const _) fun _=>(.bind (.call _) fun _=>(.ite (.bind (.const _) fun _=>(.call _)) (.const _))))
 |.vP m s t o6 x root=>by unfold yH z0C;exact(.ite (.bind (.const _) fun _=>(.call _)) (.ite (.bind (.const _) fun _=>(.call _)) (.ite (.bind (.const _) fun _=>(.bind (.const _) fun _=>(.bind (.call _) fun _=>(.ite (.bind (.const _) fun _=>(.bind (.const _) fun _=>(.bind (.const _) fun _=>(.const _)))) (.const _))))) (.bind (.const _) fun _=>(.bind (.const _) fun _=>(.bind (.call _) fun _=>(.ite (.bind (.const _) fun _=>(.bind (.const _) fun _=>(.bind (.const _) fun _=>(.const _)))) (.const _))))))))
 |.jM m x t=>by unfold yH z3n;exact(.call _)
 |.yD m x t o6=>by unfold yH gD;exact(.ite (.ite (.const _) (.bind (.const _) fun _=>(.bind (.call _) fun _=>(.bind (.const _) fun _=>(.bind (.call _) fun _=>(.call _)))))) (.const _))
 |.z0R m from_ t=>by unfold yH z5w;exact(.bind (.const _) fun _=>(.bind (.call _) fun _=>(.ite (.call _) (.const _))))
 |.wC n i m t o6 to_ s=>by unfold yH gX;exact(.bind (.const _) fun _=>(.ite (.ite (.const _) (.bind (.const _) fun _=>(.bind (.const _) fun _=>(.bind (.call _) fun _=>(.bind (.const _) fun _=>(.call _)))))) (.const _)))
 |.uR m s t kept=>by unfold yH z3m;exact(.ite (.bind (.const _) fun _=>(.bind (.call _) fun _=>(.ite (.bind (.const _) fun _=>(.bind (.call _) fun _=>(.ite (.ite (.bind (.const _) fun _=>(.const _)) (.bind (.const _) fun _=>(.ite (.bind (.const _) fun _=>(.const _)) (.ite (.const _) (.const _))))) (.const _)))) (.const _)))) (.ite (.bind (.const _) fun _=>(.bind (.call _) fun _=>(.ite (.ite (.ite (.const _) (.const _)) (.const _)) (.const _)))) (.const _)))
def zK(m:zA)(s:State)(t:zA):Option (Ref21Got):=uV yH (.zK m s t)
def z1x(m:zA)(s:State)(t:zA):Option (Ref21Got):=uV yH (.z1x m s t)
def gU(m:zA)(s:State)(l:List zA):Option (List Value×State):=uV yH (.gU m s l)
def vV(l:List zA)(out:List Value)(i:Int)(m:zA)(s o7:State):Option (List Value×State):=uV yH (.vV l out i m s o7)
def uE(m:zA)(s:State)(f:Int)(args:List Value):Option (Ref21Got):=uV yH (.uE m s f args)
def zY(m:zA)(s:State)(t:zA):Option (State):=uV yH (.zY m s t)
def yO(n i:Int)(m:zA)(s:State)(t:zA)(o6:State):Option (State):=uV yH (.yO n i m s t o6)
def z1w(m:zA)(s:State)(t:zA):Option (State):=uV yH (.z1w m s t)
def vP(m:zA)(s:State)(t:zA)(o6:State)(x:Ref21Got)(root:zA):Option (State):=uV yH (.vP m s t o6 x root)
def jM(m:zA)(x:Ref21Got)(t:zA):Option (State):=uV yH (.jM m x t)
def yD(m:zA)(x:Ref21Got)(t:zA)(o6:State):Option (State):=uV yH (.yD m x t o6)
def z0R(m:zA)(from_:Ref21Got)(t:zA):Option (State):=uV yH (.z0R m from_ t)
def wC(n i:Int)(m t:zA)(o6:State)(to_:Ref21Got)(s:State):Option (State):=uV yH (.wC n i m t o6 to_ s)
def uR(m:zA)(s:State)(t:zA)(kept:Value):Option (List Int×State):=uV yH (.uR m s t kept)
theorem jD(m:zA)(s:State)(t:zA):zK m s t=uF z1x gU uE m s t:=zX uW (.zK m s t)
theorem v4f(m:zA)(s:State)(t:zA):z1x m s t=z5y zK m s t:=zX uW (.z1x m s t)
theorem v1T(m:zA)(s:State)(l:List zA):gU m s l=z4u vV m s l:=zX uW (.gU m s l)
theorem z9z(l:List zA)(out:List Value)(i:Int)(m:zA)(s o7:State):vV l out i m s o7=z0O zK vV l out i m s o7:=zX uW (.vV l out i m s o7)
theorem y7b(m:zA)(s:State)(f:Int)(args:List Value):uE m s f args=z2s zY m s f args:=zX uW (.uE m s f args)
theorem z1j(m:zA)(s:State)(t:zA):zY m s t=jX zK zY yO z1w jM z0R m s t:=zX uW (.zY m s t)
theorem z3M(n i:Int)(m:zA)(s:State)(t:zA)(o6:State):yO n i m s t o6=gA zY yO n i m s t o6:=zX uW (.yO n i m s t o6)
theorem v4e(m:zA)(s:State)(t:zA):z1w m s t=z5x zK vP m s t:=zX uW (.z1w m s t)
theorem z6t(m:zA)(s:State)(t:zA)(o6:State)(x:Ref21Got)(root:zA):vP m s t o6 x root=z0C vP uR m s t o6 x root:=zX uW (.vP m s t o6 x root)
theorem y9w(m:zA)(x:Ref21Got)(t:zA):jM m x t=z3n yD m x t:=zX uW (.jM m x t)
theorem z5a(m:zA)(x:Ref21Got)(t:zA)(o6:State):yD m x t o6=gD zK zY yD m x t o6:=zX uW (.yD m x t o6)
theorem v4d(m:zA)(from_:Ref21Got)(t:zA):z0R m from_ t=z5w zK wC m from_ t:=zX uW (.z0R m from_ t)
theorem z4F(n i:Int)(m t:zA)(o6:State)(to_:Ref21Got)(s:State):wC n i m t o6 to_ s=gX zY wC n i m t o6 to_ s:=zX uW (.wC n i m t o6 to_ s)
theorem y0Y(m:zA)(s:State)(t:zA)(kept:Value):uR m s t kept=z3m zK uR m s t kept:=zX uW (.uR m s t kept)
def jZ(yN:Int→zA→State→Option (Bool))(i:Int)(m:zA)(s:State):Option (Bool):=
 if i<(List.length m.L:Int)then
  idx m.L i>>=fun x=>
  if x.K=32 then
   idx m.L i>>=fun x1=>
   idx x1.L 0>>=fun x2=>
   idx s.Globals i>>=fun x3=>
   uT m x2 x3>>=fun q1=>
   if q1=true then
    idx m.L i>>=fun x4=>
    if x4.K=32 then
     yN (IntKind.wrap .i64 (i+1)) m s
    else
    idx s.Globals i>>=fun x5=>
    wW x5 (Value.mk 0 [])>>=fun q2=>
    if q2=true then
     yN (IntKind.wrap .i64 (i+1)) m s
    else
    some (false)
   else
   some (false)
  else
  idx m.L i>>=fun x6=>
  if x6.K=32 then
   yN (IntKind.wrap .i64 (i+1)) m s
  else
  idx s.Globals i>>=fun x7=>
  wW x7 (Value.mk 0 [])>>=fun q3=>
  if q3=true then
   yN (IntKind.wrap .i64 (i+1)) m s
  else
  some (false)
 else
 some (true)
inductive z4z where
 |yN (i:Int) (m:zA) (s:State)
@[reducible] def z6q:z4z→Type
 |.yN _ _ _=>Bool
def z4y(g:Fam z6q):Fam z6q
 |.yN i m s=>jZ (fun i m s=>g (z4z.yN i m s)) i m s
theorem y0d:∀i,Good (fun g=>z4y g i)
 |.yN i m s=>by unfold z4y jZ;exact(.ite (.bind (.const _) fun _=>(.ite (.bind (.const _) fun _=>(.bind (.const _) fun _=>(.bind (.const _) fun _=>(.bind (.const _) fun _=>(.ite (.bind (.const _) fun _=>(.ite (.call _) (.bind (.const _) fun _=>(.bind (.const _) fun _=>(.ite (.call _) (.const _)))))) (.const _)))))) (.bind (.const _) fun _=>(.ite (.call _) (.bind (.const _) fun _=>(.bind (.const _) fun _=>(.ite (.call _) (.const _)))))))) (.const _))
def yN(i:Int)(m:zA)(s:State):Option (Bool):=uV z4y (.yN i m s)
theorem z1a(i:Int)(m:zA)(s:State):yN i m s=jZ yN i m s:=zX y0d (.yN i m s)
def z0Z(m:zA)(s:State):Option (Bool):=
 if(List.length s.Globals:Int)=(List.length m.L:Int)then
  if s.At<0 then
   some (false)
  else
  if s.At>(List.length s.Input:Int)then
   some (false)
  else
  if s.Fuel<0 then
   some (false)
  else
  if s.Fuel>65536 then
   some (false)
  else
  if s.Kind=0 then
   if s.N=0 then
    wW s.Ret (Value.mk 0 [])>>=fun q1=>
    if q1=true then
     yN 0 m s
    else
    some (false)
   else
   some (false)
  else
  some (false)
 else
 some (false)
def z1Z(m:zA)(types:List zA)(s:State)(e:zA):Option (Value×State×Int):=
 z0X m>>=fun q1=>
 if q1=true then
  z0Z m s>>=fun q2=>
  if q2=true then
   z6l m types s.Locals>>=fun q3=>
   if q3=true then
    uD m types e>>=fun q4=>
    if q4.E=0 then
     vB q4.Form e>>=fun q5=>
     if q5=true then
      zK m s e>>=fun q6=>
      some (q6.V,q6.S,0)
     else
     some ((Value.mk 0 []),(State.mk [] [] [] 0 [] 0 0 0 (Value.mk 0 [])),10)
    else
    some ((Value.mk 0 []),(State.mk [] [] [] 0 [] 0 0 0 (Value.mk 0 [])),10)
   else
   some ((Value.mk 0 []),(State.mk [] [] [] 0 [] 0 0 0 (Value.mk 0 [])),13)
  else
  some ((Value.mk 0 []),(State.mk [] [] [] 0 [] 0 0 0 (Value.mk 0 [])),13)
 else
 some ((Value.mk 0 []),(State.mk [] [] [] 0 [] 0 0 0 (Value.mk 0 [])),12)
def jW(yG:(List Int)→(List Int)→Int→Option (Bool))(a b:List Int)(i:Int):Option (Bool):=
 if i<(List.length a:Int)then
  idx a i>>=fun x=>
  idx b i>>=fun x1=>
  if x=x1 then
   yG a b (IntKind.wrap .i64 (i+1))
  else
  some (false)
 else
 some (true)
inductive z2g where
 |yG (a b:List Int) (i:Int)
@[reducible] def z4a:z2g→Type
 |.yG _ _ _=>Bool
def z2f(g:Fam z4a):Fam z4a
 |.yG a b i=>jW (fun a b i=>g (z2g.yG a b i)) a b i
theorem z6w:∀i,Good (fun g=>z2f g i)
 |.yG a b i=>by unfold z2f jW;exact(.ite (.bind (.const _) fun _=>(.bind (.const _) fun _=>(.ite (.call _) (.const _)))) (.const _))
def yG(a b:List Int)(i:Int):Option (Bool):=uV z2f (.yG a b i)
theorem z6m(a b:List Int)(i:Int):yG a b i=jW yG a b i:=zX z6w (.yG a b i)
def z3l(a b:List Int):Option (Bool):=
 if(List.length a:Int)=(List.length b:Int)then
  yG a b 0
 else
 some (false)
def gO(yS:(List Value)→(List Value)→Int→Option (Bool))(a b:List Value)(i:Int):Option (Bool):=
 if i<(List.length a:Int)then
  idx a i>>=fun x=>
  idx b i>>=fun x1=>
  wW x x1>>=fun q1=>
  if q1=true then
   yS a b (IntKind.wrap .i64 (i+1))
  else
  some (false)
 else
 some (true)
inductive z2M where
 |yS (a b:List Value) (i:Int)
@[reducible] def z4X:z2M→Type
 |.yS _ _ _=>Bool
def z2F(g:Fam z4X):Fam z4X
 |.yS a b i=>gO (fun a b i=>g (z2M.yS a b i)) a b i
theorem z7T:∀i,Good (fun g=>z2F g i)
 |.yS a b i=>by unfold z2F gO;exact(.ite (.bind (.const _) fun _=>(.bind (.const _) fun _=>(.bind (.const _) fun _=>(.ite (.call _) (.const _))))) (.const _))
def yS(a b:List Value)(i:Int):Option (Bool):=uV z2F (.yS a b i)
theorem z6U(a b:List Value)(i:Int):yS a b i=gO yS a b i:=zX z7T (.yS a b i)
def z4v(a b:List Value):Option (Bool):=
 if(List.length a:Int)=(List.length b:Int)then
  yS a b 0
 else
 some (false)
def y1O(a b:State):Option (Bool):=
 z4v a.Globals b.Globals>>=fun q1=>
 if q1=true then
  z4v a.Locals b.Locals>>=fun q2=>
  if q2=true then
   z3l a.Input b.Input>>=fun q3=>
   if q3=true then
    if a.At=b.At then
     z3l a.Trace b.Trace>>=fun q4=>
     if q4=true then
      if a.Fuel=b.Fuel then
       if a.Kind=b.Kind then
        if a.N=b.N then
         wW a.Ret b.Ret>>=fun q5=>
         some (q5)
        else
        some (false)
       else
       some (false)
      else
      some (false)
     else
     some (false)
    else
    some (false)
   else
   some (false)
  else
  some (false)
 else
 some (false)
def z9A(a b:State):Option (Bool):=
 y1O ({a with Fuel:=0}) ({b with Fuel:=0})>>=fun q1=>
 some (q1)
def z2a(m:zA)(types:List zA)(s:State)(l r_:zA):Option (Bool):=
 z1Z m types s l>>=fun q1=>
 if q1.2.2=0 then
  if q1.2.1.Kind=3 then
   some (true)
  else
  uS l>>=fun q2=>
  uS r_>>=fun q3=>
  if(IntKind.wrap .i64 ((IntKind.wrap .i64 ((IntKind.wrap .i64 (s.Fuel-q1.2.1.Fuel))+1))*(IntKind.wrap .i64 ((IntKind.wrap .i64 (2+q2))+q3))))>65536 then
   some (true)
  else
  z1Z m types ({s with Fuel:=IntKind.wrap .i64 ((IntKind.wrap .i64 ((IntKind.wrap .i64 (s.Fuel-q1.2.1.Fuel))+1))*(IntKind.wrap .i64 ((IntKind.wrap .i64 (2+q2))+q3)))}) r_>>=fun q4=>
  if q4.2.2=0 then
   wW q1.1 q4.1>>=fun q5=>
   if q5=true then
    z9A q1.2.1 q4.2.1>>=fun q6=>
    some (q6)
   else
   some (false)
  else
  some (false)
 else
 some (true)
def z6W(m:zA)(types:List zA)(s:State)(l r_:zA):Option (Bool):=
 uD m types l>>=fun q1=>
 uD m types r_>>=fun q2=>
 if q1.E=0 then
  if q2.E=0 then
   vB q1.Form l>>=fun q3=>
   if q3=true then
    vB q2.Form r_>>=fun q4=>
    if q4=true then
     wV q1.Type_ q2.Type_>>=fun q5=>
     if q5=true then
      z2a m types s l r_>>=fun q6=>
      if q6=true then
       z2a m types s r_ l>>=fun q7=>
       some (q7)
      else
      some (false)
     else
     some (true)
    else
    some (true)
   else
   some (true)
  else
  some (true)
 else
 some (true)
def z4D(c:Ref25Rule):Option (Bool):=
 z6V c>>=fun q1=>
 if q1=true then
  z3b>>=fun q2=>
  some (q2)
 else
 z0X c.M>>=fun q3=>
 if q3=true then
  z9I c.M c.Rule c.L c.R>>=fun q5=>
  if q5=true then
   z6W c.M c.Types c.S c.L c.R>>=fun q7=>
   if q7=true then
    z3b>>=fun q8=>
    some (q8)
   else
   some (false)
  else
  z3b>>=fun q6=>
  some (q6)
 else
 z3b>>=fun q4=>
 some (q4)
end
end Go.Proofs.YtcpblelppecabaaGreat.M

