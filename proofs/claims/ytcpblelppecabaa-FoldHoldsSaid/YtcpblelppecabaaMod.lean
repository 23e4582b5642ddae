import Derived.Test.YtcpblelppecabaaTy
namespace Go.Proofs.Ytcpblelppecabaa.M
open Go Nt
set_option linter.unusedVariables false
noncomputable section
def z0f(b:Bool):Option (Int):=
 if b=true then
  some (1)
 else
 some (0)
def z4h(op a:Int):Option (Int×Int):=
 if op=1 then
  some (IntKind.wrap .i64 (0-a),0)
 else
 if op=2 then
  z0f (a == 0)>>=fun q1=>
  some (q1,0)
 else
 some (0,0)
def z3x(op:Int):Option (Int):=
 if op=1 then
  some (0)
 else
 if op=2 then
  some (0)
 else
 if op≥3 then
  if op≤8 then
   some (1)
  else
  if op≥9 then
   if op≤13 then
    some (2)
   else
   some (3)
  else
  some (3)
 else
 if op≥9 then
  if op≤13 then
   some (2)
  else
  some (3)
 else
 some (3)
def z1T(op a b:Int):Option (Bool):=
 if op=3 then
  some ((a == b))
 else
 if op=4 then
  some (!(a == b))
 else
 if op=5 then
  some (decide (a<b))
 else
 if op=6 then
  some (decide (a≤b))
 else
 if op=7 then
  some (decide (a>b))
 else
 some (decide (a≥b))
def z2J(op a b:Int):Option (Int×Int):=
 if op=9 then
  some (IntKind.wrap .i64 (a+b),0)
 else
 if op=10 then
  some (IntKind.wrap .i64 (a-b),0)
 else
 if op=11 then
  some (IntKind.wrap .i64 (a*b),0)
 else
 if b=0 then
  some (0,1)
 else
 if op=12 then
  if b≠(0:Int)then
  some (IntKind.wrap .i64 (Int.tdiv a b),0)
  else none
 else
 if b≠(0:Int)then
 some (Int.tmod a b,0)
 else none
def z6m(op a b:Int):Option (Int×Int):=
 z3x op>>=fun q1=>
 if q1=0 then
  if op=1 then
   if a=0 then
    z0f (!(b == 0))>>=fun q3=>
    some (q3,0)
   else
   z0f true>>=fun q2=>
   some (q2,0)
  else
  if a=0 then
   z0f false>>=fun q5=>
   some (q5,0)
  else
  z0f (!(b == 0))>>=fun q4=>
  some (q4,0)
 else
 if q1=1 then
  z1T op a b>>=fun q6=>
  z0f q6>>=fun q7=>
  some (q7,0)
 else
 if q1=2 then
  z2J op a b>>=fun q8=>
  some (q8.1,q8.2)
 else
 some (0,0)
def uI(t:zA)(kind:Int):Option (Bool):=
 if t.K=kind then
  if t.S=[]then
   if(List.length t.L:Int)=0 then
    if kind=5 then
     some (true)
    else
    if t.N=0 then
     some (true)
    else
    some ((t.N == 1))
   else
   some (false)
  else
  some (false)
 else
 some (false)
def wE(t:zA)(kind:Int):Option (Bool):=
 if(List.length t.L:Int)=2 then
  idx t.L 0>>=fun x=>
  uI x kind>>=fun q1=>
  if q1=true then
   idx t.L 1>>=fun x1=>
   uI x1 kind>>=fun q2=>
   some (q2)
  else
  some (false)
 else
 some (false)
def z3D(t:zA):Option (Int):=
 if t.N=3 then
  wE t 5>>=fun q1=>
  if q1=true then
   some (6)
  else
  wE t 6>>=fun q2=>
  if q2=true then
   some (6)
  else
  some (0)
 else
 if t.N=4 then
  wE t 5>>=fun q53=>
  if q53=true then
   some (6)
  else
  wE t 6>>=fun q54=>
  if q54=true then
   some (6)
  else
  some (0)
 else
 if t.N=1 then
  wE t 6>>=fun q55=>
  if q55=true then
   some (6)
  else
  some (0)
 else
 if t.N=2 then
  wE t 6>>=fun q80=>
  if q80=true then
   some (6)
  else
  some (0)
 else
 if t.N=5 then
  wE t 5>>=fun q81=>
  if q81=true then
   some (6)
  else
  some (0)
 else
 if t.N=6 then
  wE t 5>>=fun q87=>
  if q87=true then
   some (6)
  else
  some (0)
 else
 if t.N=7 then
  wE t 5>>=fun q93=>
  if q93=true then
   some (6)
  else
  some (0)
 else
 if t.N=8 then
  wE t 5>>=fun q99=>
  if q99=true then
   some (6)
  else
  some (0)
 else
 if t.N=9 then
  wE t 5>>=fun q100=>
  if q100=true then
   some (5)
  else
  some (0)
 else
 if t.N=10 then
  wE t 5>>=fun q101=>
  if q101=true then
   some (5)
  else
  some (0)
 else
 if t.N=11 then
  wE t 5>>=fun q102=>
  if q102=true then
   some (5)
  else
  some (0)
 else
 if t.N=12 then
  wE t 5>>=fun q103=>
  if q103=true then
   some (5)
  else
  some (0)
 else
 if t.N=13 then
  wE t 5>>=fun q104=>
  if q104=true then
   some (5)
  else
  some (0)
 else
 some (0)
def z3k(t:zA):Option (zA×Bool):=
 if t.S=[]then
  if t.K=10 then
   z3D t>>=fun q1=>
   if q1=0 then
    some ((zA.mk 0 0 [] [] 0 0),false)
   else
   idx t.L 0>>=fun x=>
   idx t.L 1>>=fun x1=>
   z6m t.N x.N x1.N>>=fun q2=>
   if q2.2=0 then
    some ((zA.mk q1 q2.1 [] [] 0 0),true)
   else
   some ((zA.mk 0 0 [] [] 0 0),false)
  else
  if t.K=11 then
   if(List.length t.L:Int)=1 then
    if t.N=1 then
     idx t.L 0>>=fun x2=>
     uI x2 5>>=fun q3=>
     if q3=true then
      idx t.L 0>>=fun x3=>
      z4h t.N x3.N>>=fun q4=>
      idx t.L 0>>=fun x4=>
      some ((zA.mk x4.K q4.1 [] [] 0 0),true)
     else
     some ((zA.mk 0 0 [] [] 0 0),false)
    else
    if t.N=2 then
     idx t.L 0>>=fun x8=>
     uI x8 6>>=fun q7=>
     if q7=true then
      idx t.L 0>>=fun x9=>
      z4h t.N x9.N>>=fun q8=>
      idx t.L 0>>=fun x10=>
      some ((zA.mk x10.K q8.1 [] [] 0 0),true)
     else
     some ((zA.mk 0 0 [] [] 0 0),false)
    else
    some ((zA.mk 0 0 [] [] 0 0),false)
   else
   some ((zA.mk 0 0 [] [] 0 0),false)
  else
  some ((zA.mk 0 0 [] [] 0 0),false)
 else
 some ((zA.mk 0 0 [] [] 0 0),false)
def z0T(l:List (List zA)):Option (List zA):=if List.length l≤1000000000 then if 72*(List.flatten l).length≤100000000000 then some (List.flatten l)else none else none
def uB(quiet_Quiet_L3:Bool→(List zA)→Int→Int→Option (Bool))(quiet:Bool)(v7:List zA)(v8 v9:Int):Option (Bool):=
 if v9<v8 then
  idx v7 v9>>=fun x=>
  if x.K=5 then
   quiet_Quiet_L3 quiet v7 v8 (IntKind.wrap .i64 (v9+1))
  else
  if x.K=6 then
   quiet_Quiet_L3 quiet v7 v8 (IntKind.wrap .i64 (v9+1))
  else
  if x.K=7 then
   quiet_Quiet_L3 quiet v7 v8 (IntKind.wrap .i64 (v9+1))
  else
  if x.K=8 then
   quiet_Quiet_L3 quiet v7 v8 (IntKind.wrap .i64 (v9+1))
  else
  if x.K=9 then
   quiet_Quiet_L3 quiet v7 v8 (IntKind.wrap .i64 (v9+1))
  else
  if x.K=11 then
   quiet_Quiet_L3 quiet v7 v8 (IntKind.wrap .i64 (v9+1))
  else
  if x.K=13 then
   quiet_Quiet_L3 quiet v7 v8 (IntKind.wrap .i64 (v9+1))
  else
  if x.K=14 then
   quiet_Quiet_L3 quiet v7 v8 (IntKind.wrap .i64 (v9+1))
  else
  if x.K=15 then
   quiet_Quiet_L3 quiet v7 v8 (IntKind.wrap .i64 (v9+1))
  else
  if x.K=10 then
   if x.N=12 then
    if(List.length x.L:Int)<2 then
     some (false)
    else
    idx x.L 1>>=fun x33=>
    if x33.K=5 then
     idx x.L 1>>=fun x34=>
     if x34.N=0 then
      some (false)
     else
     quiet_Quiet_L3 quiet v7 v8 (IntKind.wrap .i64 (v9+1))
    else
    some (false)
   else
   if x.N=13 then
    if(List.length x.L:Int)<2 then
     some (false)
    else
    idx x.L 1>>=fun x35=>
    if x35.K=5 then
     idx x.L 1>>=fun x36=>
     if x36.N=0 then
      some (false)
     else
     quiet_Quiet_L3 quiet v7 v8 (IntKind.wrap .i64 (v9+1))
    else
    some (false)
   else
   quiet_Quiet_L3 quiet v7 v8 (IntKind.wrap .i64 (v9+1))
  else
  some (false)
 else
 some (quiet)
inductive I_quiet_Quiet_L3 where
 |quiet_Quiet_L3 (quiet:Bool) (v7:List zA) (v8 v9:Int)
@[reducible] def z2Q:I_quiet_Quiet_L3→Type
 |.quiet_Quiet_L3 _ _ _ _=>Bool
def z0X(g:Fam z2Q):Fam z2Q
 |.quiet_Quiet_L3 quiet v7 v8 v9=>uB (fun quiet v7 v8 v9=>g (I_quiet_Quiet_L3.quiet_Quiet_L3 quiet v7 v8 v9)) quiet v7 v8 v9
theorem z5k:∀i,Good (fun g=>z0X g i)
 |.quiet_Quiet_L3 quiet v7 v8 v9=>by unfold z0X uB;exact(.ite (.bind (.const _) fun _=>(.ite (.call _) (.ite (.call _) (.ite (.call _) (.ite (.call _) (.ite (.call _) (.ite (.call _) (.ite (.call _) (.ite (.call _) (.ite (.call _) (.ite (.ite (.ite (.const _) (.bind (.const _) fun _=>(.ite (.bind (.const _) fun _=>(.ite (.const _) (.call _))) (.const _)))) (.ite (.ite (.const _) (.bind (.const _) fun _=>(.ite (.bind (.const _) fun _=>(.ite (.const _) (.call _))) (.const _)))) (.call _))) (.const _)))))))))))) (.const _))
def quiet_Quiet_L3(quiet:Bool)(v7:List zA)(v8 v9:Int):Option (Bool):=jT z0X (.quiet_Quiet_L3 quiet v7 v8 v9)
theorem z4k(quiet:Bool)(v7:List zA)(v8 v9:Int):quiet_Quiet_L3 quiet v7 v8 v9=uB quiet_Quiet_L3 quiet v7 v8 v9:=yX z5k (.quiet_Quiet_L3 quiet v7 v8 v9)
def uW(quiet_all_L3:(List zA)→Int→Option (List zA))(out:List zA)(i:Int):Option (List zA):=
 if i<(List.length out:Int)then
  idx out i>>=fun x=>
  if uJ 72 (List.length out+List.length x.L)then
  quiet_all_L3 (out++x.L) (IntKind.wrap .i64 (i+1))
  else none
 else
 some (out)
inductive I_quiet_all_L3 where
 |quiet_all_L3 (out:List zA) (i:Int)
@[reducible] def z3Y:I_quiet_all_L3→Type
 |.quiet_all_L3 _ _=>List zA
def z2w(g:Fam z3Y):Fam z3Y
 |.quiet_all_L3 out i=>uW (fun out i=>g (I_quiet_all_L3.quiet_all_L3 out i)) out i
theorem z7p:∀i,Good (fun g=>z2w g i)
 |.quiet_all_L3 out i=>by unfold z2w uW;exact(.ite (.bind (.const _) fun _=>(.ite (.call _) (.const _))) (.const _))
def quiet_all_L3(out:List zA)(i:Int):Option (List zA):=jT z2w (.quiet_all_L3 out i)
theorem z3H(out:List zA)(i:Int):quiet_all_L3 out i=uW quiet_all_L3 out i:=yX z7p (.quiet_all_L3 out i)
def z6M(t:zA):Option (List zA):=
 quiet_all_L3 [t] 0
def z3G(t:zA):Option (Bool):=
 z6M t>>=fun q1=>
 quiet_Quiet_L3 true q1 (List.length q1:Int) 0
def z4Y(t:zA):Option (Bool):=
 z3G t>>=fun q1=>
 some (!q1)
def yP(slices_IndexFunc_G61pick_1L2:(List zA)→Int→Int→Option (Int))(s:List zA)(v7 v8:Int):Option (Int):=
 if v8<v7 then
  idx s v8>>=fun x=>
  z4Y x>>=fun q1=>
  if q1=true then
   some (v8)
  else
  slices_IndexFunc_G61pick_1L2 s v7 (IntKind.wrap .i64 (v8+1))
 else
 some ((-1))
inductive I_slices_IndexFunc_G61pick_1L2 where
 |slices_IndexFunc_G61pick_1L2 (s:List zA) (v7 v8:Int)
@[reducible] def uH:I_slices_IndexFunc_G61pick_1L2→Type
 |.slices_IndexFunc_G61pick_1L2 _ _ _=>Int
def wJ(g:Fam uH):Fam uH
 |.slices_IndexFunc_G61pick_1L2 s v7 v8=>yP (fun s v7 v8=>g (I_slices_IndexFunc_G61pick_1L2.slices_IndexFunc_G61pick_1L2 s v7 v8)) s v7 v8
theorem gU:∀i,Good (fun g=>wJ g i)
 |.slices_IndexFunc_G61pick_1L2 s v7 v8=>by unfold wJ yP;exact(.ite (.bind (.const _) fun _=>(.bind (.const _) fun _=>(.ite (.const _) (.call _)))) (.const _))
def slices_IndexFunc_G61pick_1L2(s:List zA)(v7 v8:Int):Option (Int):=jT wJ (.slices_IndexFunc_G61pick_1L2 s v7 v8)
theorem gQ(s:List zA)(v7 v8:Int):slices_IndexFunc_G61pick_1L2 s v7 v8=yP slices_IndexFunc_G61pick_1L2 s v7 v8:=yX gU (.slices_IndexFunc_G61pick_1L2 s v7 v8)
def uD(s:List zA):Option (Int):=
 slices_IndexFunc_G61pick_1L2 s (List.length s:Int) 0
def vV(s:List zA):Option (Bool):=
 uD s>>=fun q1=>
 some (decide (q1≥0))
def z4i(l:List zA)(i:Int):Option (zA×Bool):=
 if i<0 then
  some ((zA.mk 0 0 [] [] 0 0),false)
 else
 if i≥(List.length l:Int)then
  some ((zA.mk 0 0 [] [] 0 0),false)
 else
 if(0:Int)≤i then
 if Int.toNat i≤List.length l then
 if 0≤Int.toNat i then
 if List.length l≤List.length l then
 if(0:Int)≤(IntKind.wrap .i64 (i+1))then
 if Int.toNat (IntKind.wrap .i64 (i+1))≤List.length l then
 z0T [List.drop 0 (List.take (Int.toNat i) l),List.drop (Int.toNat (IntKind.wrap .i64 (i+1))) (List.take (List.length l) l)]>>=fun q1=>
 vV q1>>=fun q2=>
 idx l i>>=fun x=>
 some (x,!q2)
 else none
 else none
 else none
 else none
 else none
 else none
def z6F(m:zA)(rule:Int)(l:zA):Option (zA×Bool):=
 if rule=30 then
  z3k l>>=fun q1=>
  some (q1.1,q1.2)
 else
 if l.S=[]then
  if rule=31 then
   if l.K=8 then
    if(List.length l.L:Int)=0 then
     if l.N≥0 then
      if l.N<(List.length m.L:Int)then
       idx m.L l.N>>=fun x=>
       if x.K=31 then
        if(List.length x.L:Int)=1 then
         idx x.L 0>>=fun x1=>
         idx x.L 0>>=fun x2=>
         uI x2 5>>=fun q2=>
         if q2=true then
          some (x1,true)
         else
         idx x.L 0>>=fun x3=>
         uI x3 6>>=fun q3=>
         some (x1,q3)
        else
        some ((zA.mk 0 0 [] [] 0 0),false)
       else
       some ((zA.mk 0 0 [] [] 0 0),false)
      else
      some ((zA.mk 0 0 [] [] 0 0),false)
     else
     some ((zA.mk 0 0 [] [] 0 0),false)
    else
    some ((zA.mk 0 0 [] [] 0 0),false)
   else
   some ((zA.mk 0 0 [] [] 0 0),false)
  else
  if rule=32 then
   if l.K=13 then
    if(List.length l.L:Int)=1 then
     idx l.L 0>>=fun x44=>
     if x44.K=15 then
      if x44.S=[]then
       if l.N<0 then
        some ((zA.mk 0 0 [] [] 0 0),false)
       else
       if 64≠(0:Int)then
       if IntKind.wrap .i64 (Int.tdiv l.N 64)=x44.N then
        if 64≠(0:Int)then
        z4i x44.L (Int.tmod l.N 64)>>=fun q32=>
        some (q32.1,q32.2)
        else none
       else
       some ((zA.mk 0 0 [] [] 0 0),false)
       else none
      else
      some ((zA.mk 0 0 [] [] 0 0),false)
     else
     some ((zA.mk 0 0 [] [] 0 0),false)
    else
    some ((zA.mk 0 0 [] [] 0 0),false)
   else
   some ((zA.mk 0 0 [] [] 0 0),false)
  else
  if rule=33 then
   if l.K=12 then
    if(List.length l.L:Int)=2 then
     idx l.L 0>>=fun x51=>
     if x51.K=14 then
      if x51.S=[]then
       idx l.L 1>>=fun x52=>
       uI x52 5>>=fun q37=>
       if q37=true then
        idx l.L 1>>=fun x53=>
        z4i x51.L x53.N>>=fun q38=>
        some (q38.1,q38.2)
       else
       some ((zA.mk 0 0 [] [] 0 0),false)
      else
      some ((zA.mk 0 0 [] [] 0 0),false)
     else
     some ((zA.mk 0 0 [] [] 0 0),false)
    else
    some ((zA.mk 0 0 [] [] 0 0),false)
   else
   some ((zA.mk 0 0 [] [] 0 0),false)
  else
  some ((zA.mk 0 0 [] [] 0 0),false)
 else
 some ((zA.mk 0 0 [] [] 0 0),false)
def z2u(slices_EqualFunc_G30Same:(List zA)→(List zA)→Option (Bool))(a b:zA):Option (Bool):=
 if a.K=b.K then
  if a.N=b.N then
   if a.S=b.S then
    slices_EqualFunc_G30Same a.L b.L>>=fun q1=>
    some (q1)
   else
   some (false)
  else
  some (false)
 else
 some (false)
def vT(slices_EqualFunc_G30Same_L4:(List zA)→(List zA)→Int→Int→Option (Bool))(s1 s2:List zA):Option (Bool):=
 if(List.length s1:Int)=(List.length s2:Int)then
  slices_EqualFunc_G30Same_L4 s2 s1 (List.length s1:Int) 0
 else
 some (false)
def yY(wT:zA→zA→Option (Bool))(slices_EqualFunc_G30Same_L4:(List zA)→(List zA)→Int→Int→Option (Bool))(s2 v15:List zA)(v16 v17:Int):Option (Bool):=
 if v17<v16 then
  idx v15 v17>>=fun x=>
  idx s2 v17>>=fun x1=>
  wT x x1>>=fun q1=>
  if q1=true then
   slices_EqualFunc_G30Same_L4 s2 v15 v16 (IntKind.wrap .i64 (v17+1))
  else
  some (false)
 else
 some (true)
inductive gC where
 |wT (a b:zA)
 |slices_EqualFunc_G30Same (s1 s2:List zA)
 |slices_EqualFunc_G30Same_L4 (s2 v15:List zA) (v16 v17:Int)
@[reducible] def z7G:gC→Type
 |.wT _ _=>Bool
 |.slices_EqualFunc_G30Same _ _=>Bool
 |.slices_EqualFunc_G30Same_L4 _ _ _ _=>Bool
def z0s(g:Fam z7G):Fam z7G
 |.wT a b=>z2u (fun s1 s2=>g (gC.slices_EqualFunc_G30Same s1 s2)) a b
 |.slices_EqualFunc_G30Same s1 s2=>vT (fun s2 v15 v16 v17=>g (gC.slices_EqualFunc_G30Same_L4 s2 v15 v16 v17)) s1 s2
 |.slices_EqualFunc_G30Same_L4 s2 v15 v16 v17=>yY (fun a b=>g (gC.wT a b)) (fun s2 v15 v16 v17=>g (gC.slices_EqualFunc_G30Same_L4 s2 v15 v16 v17)) s2 v15 v16 v17
theorem z4I:∀i,Good (fun g=>z0s g i)
 |.wT a b=>by unfold z0s z2u;exact(.ite (.ite (.ite (.bind (.call _) fun _=>(.const _)) (.const _)) (.const _)) (.const _))
 |.slices_EqualFunc_G30Same s1 s2=>by unfold z0s vT;exact(.ite (.call _) (.const _))
 |.slices_EqualFunc_G30Same_L4 s2 v15 v16 v17=>by unfold z0s yY;exact(.ite (.bind (.const _) fun _=>(.bind (.const _) fun _=>(.bind (.call _) fun _=>(.ite (.call _) (.const _))))) (.const _))
def wT(a b:zA):Option (Bool):=jT z0s (.wT a b)
def slices_EqualFunc_G30Same(s1 s2:List zA):Option (Bool):=jT z0s (.slices_EqualFunc_G30Same s1 s2)
def slices_EqualFunc_G30Same_L4(s2 v15:List zA)(v16 v17:Int):Option (Bool):=jT z0s (.slices_EqualFunc_G30Same_L4 s2 v15 v16 v17)
theorem y6S(a b:zA):wT a b=z2u slices_EqualFunc_G30Same a b:=yX z4I (.wT a b)
theorem z3N(s1 s2:List zA):slices_EqualFunc_G30Same s1 s2=vT slices_EqualFunc_G30Same_L4 s1 s2:=yX z4I (.slices_EqualFunc_G30Same s1 s2)
theorem z0e(s2 v15:List zA)(v16 v17:Int):slices_EqualFunc_G30Same_L4 s2 v15 v16 v17=yY wT slices_EqualFunc_G30Same_L4 s2 v15 v16 v17:=yX z4I (.slices_EqualFunc_G30Same_L4 s2 v15 v16 v17)
def z6Z(m:zA)(rule:Int)(l r_:zA):Option (Bool):=
 z6F m rule l>>=fun q1=>
 if q1.2=true then
  wT q1.1 r_>>=fun q2=>
  some (q2)
 else
 some (false)
def y0e(op:Int)(a b:zA):Option (zA):=
 some ((zA.mk 10 op [] [a,b] 0 0))
def z7i(n:Int):Option (zA):=
 some ((zA.mk 5 n [] [] 0 0))
def z2j :Option (Bool):=
 z7i 2>>=fun q1=>
 z7i 3>>=fun q2=>
 y0e 9 q1 q2>>=fun q3=>
 z3k q3>>=fun q4=>
 if q4.2=true then
  if q4.1.K=5 then
   some ((q4.1.N == 5))
  else
  some (false)
 else
 some (false)
def z0N(yA:Int→zA→zA→Option (Bool))(a b:zA):Option (Bool):=
 if a.K=b.K then
  if a.N=b.N then
   if a.S=b.S then
    if a.From=b.From then
     if a.To=b.To then
      if(List.length a.L:Int)=(List.length b.L:Int)then
       yA 0 a b
      else
      some (false)
     else
     some (false)
    else
    some (false)
   else
   some (false)
  else
  some (false)
 else
 some (false)
def uL(vM:zA→zA→Option (Bool))(yA:Int→zA→zA→Option (Bool))(i:Int)(a b:zA):Option (Bool):=
 if i<(List.length a.L:Int)then
  idx a.L i>>=fun x=>
  idx b.L i>>=fun x1=>
  vM x x1>>=fun q1=>
  if q1=true then
   yA (IntKind.wrap .i64 (i+1)) a b
  else
  some (false)
 else
 some (true)
inductive jX where
 |vM (a b:zA)
 |yA (i:Int) (a b:zA)
@[reducible] def z4L:jX→Type
 |.vM _ _=>Bool
 |.yA _ _ _=>Bool
def z0H(g:Fam z4L):Fam z4L
 |.vM a b=>z0N (fun i a b=>g (jX.yA i a b)) a b
 |.yA i a b=>uL (fun a b=>g (jX.vM a b)) (fun i a b=>g (jX.yA i a b)) i a b
theorem z4H:∀i,Good (fun g=>z0H g i)
 |.vM a b=>by unfold z0H z0N;exact(.ite (.ite (.ite (.ite (.ite (.ite (.call _) (.const _)) (.const _)) (.const _)) (.const _)) (.const _)) (.const _))
 |.yA i a b=>by unfold z0H uL;exact(.ite (.bind (.const _) fun _=>(.bind (.const _) fun _=>(.bind (.call _) fun _=>(.ite (.call _) (.const _))))) (.const _))
def vM(a b:zA):Option (Bool):=jT z0H (.vM a b)
def yA(i:Int)(a b:zA):Option (Bool):=jT z0H (.yA i a b)
theorem y2L(a b:zA):vM a b=z0N yA a b:=yX z4H (.vM a b)
theorem z4l(i:Int)(a b:zA):yA i a b=uL vM yA i a b:=yX z4H (.yA i a b)
def uM(yF:Int→zA→Option (Bool))(i:Int)(d:zA):Option (Bool):=
 if i<(List.length d.L:Int)then
  idx d.L i>>=fun x=>
  if x.K=34 then
   idx d.L i>>=fun x1=>
   if(List.length x1.L:Int)=1 then
    yF (IntKind.wrap .i64 (i+1)) d
   else
   some (false)
  else
  some (false)
 else
 some (true)
inductive z1d where
 |yF (i:Int) (d:zA)
@[reducible] def z2R:z1d→Type
 |.yF _ _=>Bool
def z0Y(g:Fam z2R):Fam z2R
 |.yF i d=>uM (fun i d=>g (z1d.yF i d)) i d
theorem z5l:∀i,Good (fun g=>z0Y g i)
 |.yF i d=>by unfold z0Y uM;exact(.ite (.bind (.const _) fun _=>(.ite (.bind (.const _) fun _=>(.ite (.call _) (.const _))) (.const _))) (.const _))
def yF(i:Int)(d:zA):Option (Bool):=jT z0Y (.yF i d)
theorem z4n(i:Int)(d:zA):yF i d=uM yF i d:=yX z5l (.yF i d)
def z0z(d:zA):Option (Bool):=
 if d.K=30 then
  if(List.length d.L:Int)=0 then
   some (false)
  else
  yF 0 d
 else
 some (false)
def wH(zI:zA→zA→(List Int)→Option (Int))(zS:(List Int)→Int→Int→zA→Option (Int))(m t:zA)(in_:List Int):Option (Int):=
 if t.K=1 then
  if(List.length t.L:Int)=0 then
   some (1)
  else
  some (0)
 else
 if t.K=2 then
  if(List.length t.L:Int)=0 then
   some (1)
  else
  some (0)
 else
 if t.K=3 then
  if(List.length t.L:Int)=1 then
   if t.N≥1 then
    if t.N≤16 then
     idx t.L 0>>=fun x2=>
     zI m x2 in_>>=fun q3=>
     if(IntKind.wrap .i64 (q3*t.N))>64 then
      some (0)
     else
     some (IntKind.wrap .i64 (q3*t.N))
    else
    some (0)
   else
   some (0)
  else
  some (0)
 else
 if t.K=4 then
  if(List.length t.L:Int)=0 then
   if t.N<0 then
    some (0)
   else
   if t.N≥(List.length m.L:Int)then
    some (0)
   else
   zS in_ t.N 0 m
  else
  some (0)
 else
 some (0)
def wP(zS:(List Int)→Int→Int→zA→Option (Int))(zK:(List Int)→Int→Int→Int→zA→zA→Option (Int))(in_:List Int)(at_ i:Int)(m:zA):Option (Int):=
 if i<(List.length in_:Int)then
  idx in_ i>>=fun x=>
  if x=at_ then
   some (0)
  else
  zS in_ at_ (IntKind.wrap .i64 (i+1)) m
 else
 idx m.L at_>>=fun x1=>
 z0z x1>>=fun q1=>
 if q1=true then
  zK in_ at_ 0 0 m x1
 else
 some (0)
def wQ(zI:zA→zA→(List Int)→Option (Int))(zK:(List Int)→Int→Int→Int→zA→zA→Option (Int))(in_:List Int)(at_ sum i:Int)(m d:zA):Option (Int):=
 if i<(List.length d.L:Int)then
  idx d.L i>>=fun x=>
  idx x.L 0>>=fun x1=>
  if uJ 8 (List.length ([]:List Int)+List.length in_)then
  if uJ 8 (List.length (([]:List Int)++in_)+List.length [at_])then
  zI m x1 ((([]:List Int)++in_)++[at_])>>=fun q1=>
  if q1=0 then
   some (0)
  else
  if(IntKind.wrap .i64 (sum+q1))>64 then
   some (0)
  else
  zK in_ at_ (IntKind.wrap .i64 (sum+q1)) (IntKind.wrap .i64 (i+1)) m d
  else none
  else none
 else
 some (sum)
inductive vW where
 |zI (m t:zA) (in_:List Int)
 |zS (in_:List Int) (at_ i:Int) (m:zA)
 |zK (in_:List Int) (at_ sum i:Int) (m d:zA)
@[reducible] def z4M:vW→Type
 |.zI _ _ _=>Int
 |.zS _ _ _ _=>Int
 |.zK _ _ _ _ _ _=>Int
def jW(g:Fam z4M):Fam z4M
 |.zI m t in_=>wH (fun m t in_=>g (vW.zI m t in_)) (fun in_ at_ i m=>g (vW.zS in_ at_ i m)) m t in_
 |.zS in_ at_ i m=>wP (fun in_ at_ i m=>g (vW.zS in_ at_ i m)) (fun in_ at_ sum i m d=>g (vW.zK in_ at_ sum i m d)) in_ at_ i m
 |.zK in_ at_ sum i m d=>wQ (fun m t in_=>g (vW.zI m t in_)) (fun in_ at_ sum i m d=>g (vW.zK in_ at_ sum i m d)) in_ at_ sum i m d
theorem z2Z:∀i,Good (fun g=>jW g i)
 |.zI m t in_=>by unfold jW wH;exact(.ite (.ite (.const _) (.const _)) (.ite (.ite (.const _) (.const _)) (.ite (.ite (.ite (.ite (.bind (.const _) fun _=>(.bind (.call _) fun _=>(.ite (.const _) (.const _)))) (.const _)) (.const _)) (.const _)) (.ite (.ite (.ite (.const _) (.ite (.const _) (.call _))) (.const _)) (.const _)))))
 |.zS in_ at_ i m=>by unfold jW wP;exact(.ite (.bind (.const _) fun _=>(.ite (.const _) (.call _))) (.bind (.const _) fun _=>(.bind (.const _) fun _=>(.ite (.call _) (.const _)))))
 |.zK in_ at_ sum i m d=>by unfold jW wQ;exact(.ite (.bind (.const _) fun _=>(.bind (.const _) fun _=>(.ite (.ite (.bind (.call _) fun _=>(.ite (.const _) (.ite (.const _) (.call _)))) (.const _)) (.const _)))) (.const _))
def zI(m t:zA)(in_:List Int):Option (Int):=jT jW (.zI m t in_)
def zS(in_:List Int)(at_ i:Int)(m:zA):Option (Int):=jT jW (.zS in_ at_ i m)
def zK(in_:List Int)(at_ sum i:Int)(m d:zA):Option (Int):=jT jW (.zK in_ at_ sum i m d)
theorem uX(m t:zA)(in_:List Int):zI m t in_=wH zI zS m t in_:=yX z2Z (.zI m t in_)
theorem z1X(in_:List Int)(at_ i:Int)(m:zA):zS in_ at_ i m=wP zS zK in_ at_ i m:=yX z2Z (.zS in_ at_ i m)
theorem z1Y(in_:List Int)(at_ sum i:Int)(m d:zA):zK in_ at_ sum i m d=wQ zI zK in_ at_ sum i m d:=yX z2Z (.zK in_ at_ sum i m d)
def gN(m t:zA):Option (Int):=
 zI m t ([]:List Int)>>=fun q1=>
 some (q1)
def gO(zR:Int→zA→zA→Int→Int→Str→(List zA)→Int→Int→Option (zA))(t:zA):Option (zA):=
 zR 0 t (zA.mk 0 0 [] [] 0 0) t.K t.N [] [] 0 0
def wW(zU:zA→Option (zA))(zR:Int→zA→zA→Int→Int→Str→(List zA)→Int→Int→Option (zA))(i:Int)(t o2:zA)(K N:Int)(S:Str)(L:List zA)(From To:Int):Option (zA):=
 if i<(List.length t.L:Int)then
  idx t.L i>>=fun x=>
  zU x>>=fun q1=>
  if uJ 72 (List.length L+List.length [q1])then
  zR (IntKind.wrap .i64 (i+1)) t o2 K N S (L++[q1]) From To
  else none
 else
 some ((zA.mk K N S L From To))
inductive uG where
 |zU (t:zA)
 |zR (i:Int) (t o2:zA) (K N:Int) (S:Str) (L:List zA) (From To:Int)
@[reducible] def z3o:uG→Type
 |.zU _=>zA
 |.zR _ _ _ _ _ _ _ _ _=>zA
def gL(g:Fam z3o):Fam z3o
 |.zU t=>gO (fun i t o2 K N S L From To=>g (uG.zR i t o2 K N S L From To)) t
 |.zR i t o2 K N S L From To=>wW (fun t=>g (uG.zU t)) (fun i t o2 K N S L From To=>g (uG.zR i t o2 K N S L From To)) i t o2 K N S L From To
theorem z3n:∀i,Good (fun g=>gL g i)
 |.zU t=>by unfold gL gO;exact(.call _)
 |.zR i t o2 K N S L From To=>by unfold gL wW;exact(.ite (.bind (.const _) fun _=>(.bind (.call _) fun _=>(.ite (.call _) (.const _)))) (.const _))
def zU(t:zA):Option (zA):=jT gL (.zU t)
def zR(i:Int)(t o2:zA)(K N:Int)(S:Str)(L:List zA)(From To:Int):Option (zA):=jT gL (.zR i t o2 K N S L From To)
theorem y0b(t:zA):zU t=gO zR t:=yX z3n (.zU t)
theorem z3I(i:Int)(t o2:zA)(K N:Int)(S:Str)(L:List zA)(From To:Int):zR i t o2 K N S L From To=wW zU zR i t o2 K N S L From To:=yX z3n (.zR i t o2 K N S L From To)
def uS :Option (zA):=
 some ((zA.mk 2 0 [] [] 0 0))
def z3V :Option (zA):=
 some ((zA.mk 1 0 [] [] 0 0))
def z0b(t:zA):Option (zA):=
 if t.K=5 then
  z3V>>=fun q1=>
  some (q1)
 else
 if t.K=6 then
  uS>>=fun q2=>
  some (q2)
 else
 some ((zA.mk 0 0 [] [] 0 0))
def yQ(t:zA)(e:Int):Option (Ref16Got):=
 some ((Ref16Got.mk (zA.mk 0 0 [] [] 0 0) t.From e))
def z2m(vB:Int→zA→Option (Bool))(t:zA):Option (Bool):=
 if t.K=4 then
  some (false)
 else
 vB 0 t
def gI(wO:zA→Option (Bool))(vB:Int→zA→Option (Bool))(i:Int)(t:zA):Option (Bool):=
 if i<(List.length t.L:Int)then
  idx t.L i>>=fun x=>
  wO x>>=fun q1=>
  if q1=true then
   vB (IntKind.wrap .i64 (i+1)) t
  else
  some (false)
 else
 some (true)
inductive z0v where
 |wO (t:zA)
 |vB (i:Int) (t:zA)
@[reducible] def z7E:z0v→Type
 |.wO _=>Bool
 |.vB _ _=>Bool
def z2d(g:Fam z7E):Fam z7E
 |.wO t=>z2m (fun i t=>g (z0v.vB i t)) t
 |.vB i t=>gI (fun t=>g (z0v.wO t)) (fun i t=>g (z0v.vB i t)) i t
theorem z7B:∀i,Good (fun g=>z2d g i)
 |.wO t=>by unfold z2d z2m;exact(.ite (.const _) (.call _))
 |.vB i t=>by unfold z2d gI;exact(.ite (.bind (.const _) fun _=>(.bind (.call _) fun _=>(.ite (.call _) (.const _)))) (.const _))
def wO(t:zA):Option (Bool):=jT z2d (.wO t)
def vB(i:Int)(t:zA):Option (Bool):=jT z2d (.vB i t)
theorem y6L(t:zA):wO t=z2m vB t:=yX z7B (.wO t)
theorem z6P(i:Int)(t:zA):vB i t=gI wO vB i t:=yX z7B (.vB i t)
def z4m(m t:zA):Option (Bool):=
 gN m t>>=fun q1=>
 if q1>0 then
  wO t>>=fun q2=>
  some (q2)
 else
 some (false)
def uC:List zA→List zA→Option (List zA)
 |[],out=>some out
 |x::r,out=>zU x>>=fun q=>if uJ 72 (List.length out+1)then uC r (out++[q])else none
def z0A(t:zA):Option zA:=if 0<List.length t.L then uC t.L []>>=fun l=>some ⟨t.K,t.N,[],l,0,0⟩else none
def z2k(yZ:(List zA)→Int→zA→zA→Option (zA))(t:zA):Option (zA):=
 yZ ([]:List zA) 0 t (zA.mk 0 0 [] [] 0 0)
def gG(vQ:zA→Option (zA))(yZ:(List zA)→Int→zA→zA→Option (zA))(out:List zA)(i:Int)(t o2:zA):Option (zA):=
 if i<(List.length t.L:Int)then
  idx t.L i>>=fun x=>
  vQ x>>=fun q1=>
  if uJ 72 (List.length out+List.length [q1])then
  yZ (out++[q1]) (IntKind.wrap .i64 (i+1)) t o2
  else none
 else
 some ((zA.mk t.K t.N t.S out 0 0))
inductive z0t where
 |vQ (t:zA)
 |yZ (out:List zA) (i:Int) (t o2:zA)
@[reducible] def z7C:z0t→Type
 |.vQ _=>zA
 |.yZ _ _ _ _=>zA
def z2b(g:Fam z7C):Fam z7C
 |.vQ t=>z2k (fun out i t o2=>g (z0t.yZ out i t o2)) t
 |.yZ out i t o2=>gG (fun t=>g (z0t.vQ t)) (fun out i t o2=>g (z0t.yZ out i t o2)) out i t o2
theorem z7z:∀i,Good (fun g=>z2b g i)
 |.vQ t=>by unfold z2b z2k;exact(.call _)
 |.yZ out i t o2=>by unfold z2b gG;exact(.ite (.bind (.const _) fun _=>(.bind (.call _) fun _=>(.ite (.call _) (.const _)))) (.const _))
def vQ(t:zA):Option (zA):=jT z2b (.vQ t)
def yZ(out:List zA)(i:Int)(t o2:zA):Option (zA):=jT z2b (.yZ out i t o2)
theorem y6J(t:zA):vQ t=z2k yZ t:=yX z7z (.vQ t)
theorem z6N(out:List zA)(i:Int)(t o2:zA):yZ out i t o2=gG vQ yZ out i t o2:=yX z7z (.yZ out i t o2)
def z4o(m:zA)(locals:List zA)(t:zA):Option (zA):=
 if t.K=7 then
  idx locals (IntKind.wrap .i64 ((IntKind.wrap .i64 ((List.length locals:Int)-1))-t.N))>>=fun x=>
  vQ x>>=fun q1=>
  some (q1)
 else
 if t.K=8 then
  idx m.L t.N>>=fun x1=>
  idx x1.L 0>>=fun x2=>
  z0b x2>>=fun q2=>
  some (q2)
 else
 if t.K=9 then
  idx m.L t.N>>=fun x3=>
  idx x3.L 0>>=fun x4=>
  vQ x4>>=fun q3=>
  some (q3)
 else
 if t.K=18 then
  z3V>>=fun q4=>
  some (q4)
 else
 z0b t>>=fun q5=>
 some (q5)
def z5d(t:zA)(e:Int):Option (Ref15Got):=
 some ((Ref15Got.mk (zA.mk 0 0 [] [] 0 0) (zA.mk 0 0 [] [] 0 0) t.From e))
def z3g(m:zA)(n kind:Int):Option (Bool):=
 if n<0 then
  some (false)
 else
 if n≥(List.length m.L:Int)then
  some (false)
 else
 idx m.L n>>=fun x=>
 if x.K=kind then
  if kind=31 then
   if(List.length x.L:Int)=1 then
    idx x.L 0>>=fun x1=>
    z0b x1>>=fun q1=>
    some (!(q1.K == 0))
   else
   some (false)
  else
  if kind=32 then
   some (((List.length x.L:Int) == 1))
  else
  if kind=33 then
   some (((List.length x.L:Int) == 3))
  else
  z0z x>>=fun q2=>
  some (q2)
 else
 some (false)
def z4r(m:zA)(locals:List zA)(t:zA):Option (Bool):=
 if t.K=7 then
  if t.N≥0 then
   some (decide (t.N<(List.length locals:Int)))
  else
  some (false)
 else
 if t.K=8 then
  z3g m t.N 31>>=fun q1=>
  some (q1)
 else
 if t.K=9 then
  z3g m t.N 32>>=fun q2=>
  some (q2)
 else
 if t.K=15 then
  z3g m t.N 30>>=fun q3=>
  some (q3)
 else
 if t.K=16 then
  z3g m t.N 33>>=fun q4=>
  some (q4)
 else
 some (!(t.K == 17))
def z2o(t:zA)(kind:Int):Option (Bool):=
 if t.K=kind then
  some (((List.length t.L:Int) == 0))
 else
 some (false)
def z1w(m:zA)(n:Int):Option (zA×Bool):=
 if n<0 then
  some ((zA.mk 0 0 [] [] 0 0),false)
 else
 if 64≠(0:Int)then
 if(IntKind.wrap .i64 (Int.tdiv n 64))≥(List.length m.L:Int)then
  some ((zA.mk 0 0 [] [] 0 0),false)
 else
 if 64≠(0:Int)then
 idx m.L (IntKind.wrap .i64 (Int.tdiv n 64))>>=fun x=>
 if 64≠(0:Int)then
 if x.K=30 then
  if(Int.tmod n 64)≥(List.length x.L:Int)then
   some ((zA.mk 0 0 [] [] 0 0),false)
  else
  idx x.L (Int.tmod n 64)>>=fun x1=>
  if x1.K=34 then
   idx x.L (Int.tmod n 64)>>=fun x2=>
   if(List.length x2.L:Int)=1 then
    idx x.L (Int.tmod n 64)>>=fun x3=>
    idx x3.L 0>>=fun x4=>
    some (x4,true)
   else
   some ((zA.mk 0 0 [] [] 0 0),false)
  else
  some ((zA.mk 0 0 [] [] 0 0),false)
 else
 some ((zA.mk 0 0 [] [] 0 0),false)
 else none
 else none
 else none
def uN(yG:Int→Int→zA→zA→Option (Int))(n i:Int)(t d:zA):Option (Int):=
 if i<(List.length d.L:Int)then
  if i<64 then
   idx d.L i>>=fun x=>
   if x.S=t.S then
    some (IntKind.wrap .i64 ((IntKind.wrap .i64 (n*64))+i))
   else
   yG n (IntKind.wrap .i64 (i+1)) t d
  else
  some ((-1))
 else
 some ((-1))
inductive z1e where
 |yG (n i:Int) (t d:zA)
@[reducible] def z2S:z1e→Type
 |.yG _ _ _ _=>Int
def z0Z(g:Fam z2S):Fam z2S
 |.yG n i t d=>uN (fun n i t d=>g (z1e.yG n i t d)) n i t d
theorem z5m:∀i,Good (fun g=>z0Z g i)
 |.yG n i t d=>by unfold z0Z uN;exact(.ite (.ite (.bind (.const _) fun _=>(.ite (.const _) (.call _))) (.const _)) (.const _))
def yG(n i:Int)(t d:zA):Option (Int):=jT z0Z (.yG n i t d)
theorem z4q(n i:Int)(t d:zA):yG n i t d=uN yG n i t d:=yX z5m (.yG n i t d)
def z4p(m t:zA)(n:Int):Option (Int):=
 z3g m n 30>>=fun q1=>
 if q1=true then
  if t.S=[]then
   z1w m t.N>>=fun q2=>
   if q2.2=true then
    if 64≠(0:Int)then
    if IntKind.wrap .i64 (Int.tdiv t.N 64)=n then
     some (t.N)
    else
    some ((-1))
    else none
   else
   some ((-1))
  else
  idx m.L n>>=fun x=>
  yG n 0 t x
 else
 some ((-1))
def z2l(vA:Int→zA→zA→Option (Bool))(a b:zA):Option (Bool):=
 if a.K=b.K then
  if a.N=b.N then
   if a.S=b.S then
    if(List.length a.L:Int)=(List.length b.L:Int)then
     vA 0 a b
    else
    some (false)
   else
   some (false)
  else
  some (false)
 else
 some (false)
def gH(vR:zA→zA→Option (Bool))(vA:Int→zA→zA→Option (Bool))(i:Int)(a b:zA):Option (Bool):=
 if i<(List.length a.L:Int)then
  idx a.L i>>=fun x=>
  idx b.L i>>=fun x1=>
  vR x x1>>=fun q1=>
  if q1=true then
   vA (IntKind.wrap .i64 (i+1)) a b
  else
  some (false)
 else
 some (true)
inductive z0u where
 |vR (a b:zA)
 |vA (i:Int) (a b:zA)
@[reducible] def z7D:z0u→Type
 |.vR _ _=>Bool
 |.vA _ _ _=>Bool
def z2c(g:Fam z7D):Fam z7D
 |.vR a b=>z2l (fun i a b=>g (z0u.vA i a b)) a b
 |.vA i a b=>gH (fun a b=>g (z0u.vR a b)) (fun i a b=>g (z0u.vA i a b)) i a b
theorem z7A:∀i,Good (fun g=>z2c g i)
 |.vR a b=>by unfold z2c z2l;exact(.ite (.ite (.ite (.ite (.call _) (.const _)) (.const _)) (.const _)) (.const _))
 |.vA i a b=>by unfold z2c gH;exact(.ite (.bind (.const _) fun _=>(.bind (.const _) fun _=>(.bind (.call _) fun _=>(.ite (.call _) (.const _))))) (.const _))
def vR(a b:zA):Option (Bool):=jT z2c (.vR a b)
def vA(i:Int)(a b:zA):Option (Bool):=jT z2c (.vA i a b)
theorem y6K(a b:zA):vR a b=z2l vA a b:=yX z7A (.vR a b)
theorem z6O(i:Int)(a b:zA):vA i a b=gH vR vA i a b:=yX z7A (.vA i a b)
def z0i(vN:(List zA)→(List zA)→Int→Option (Bool))(types parts:List zA)(i:Int):Option (Bool):=
 if i<(List.length parts:Int)then
  idx parts i>>=fun x=>
  if(List.length x.L:Int)=1 then
   idx types i>>=fun x1=>
   idx parts i>>=fun x2=>
   idx x2.L 0>>=fun x3=>
   vQ x3>>=fun q1=>
   vR x1 q1>>=fun q2=>
   if q2=true then
    vN types parts (IntKind.wrap .i64 (i+1))
   else
   some (false)
  else
  some (false)
 else
 some (true)
inductive z3c where
 |vN (types parts:List zA) (i:Int)
@[reducible] def z4N:z3c→Type
 |.vN _ _ _=>Bool
def z3a(g:Fam z4N):Fam z4N
 |.vN types parts i=>z0i (fun types parts i=>g (z3c.vN types parts i)) types parts i
theorem z7W:∀i,Good (fun g=>z3a g i)
 |.vN types parts i=>by unfold z3a z0i;exact(.ite (.bind (.const _) fun _=>(.ite (.bind (.const _) fun _=>(.bind (.const _) fun _=>(.bind (.const _) fun _=>(.bind (.const _) fun _=>(.bind (.const _) fun _=>(.ite (.call _) (.const _))))))) (.const _))) (.const _))
def vN(types parts:List zA)(i:Int):Option (Bool):=jT z3a (.vN types parts i)
theorem z7w(types parts:List zA)(i:Int):vN types parts i=z0i vN types parts i:=yX z7W (.vN types parts i)
def z7e(types parts:List zA):Option (Bool):=
 if(List.length types:Int)=(List.length parts:Int)then
  vN types parts 0
 else
 some (false)
def jH(yT:(List zA)→Int→zA→zA→zA→Option (zA×Int×Int))(p:List zA)(i:Int)(m t o6:zA):Option (zA×Int×Int):=
 if i<(List.length p:Int)then
  idx p i>>=fun x=>
  idx p 0>>=fun x1=>
  vR x x1>>=fun q1=>
  if q1=true then
   yT p (IntKind.wrap .i64 (i+1)) m t o6
  else
  some ((zA.mk 0 0 [] [] 0 0),0,10)
 else
 idx p 0>>=fun x2=>
 gN m (zA.mk 3 (List.length p:Int) [] [x2] 0 0)>>=fun q2=>
 if q2=0 then
  some ((zA.mk 0 0 [] [] 0 0),0,11)
 else
 some ((zA.mk 3 (List.length p:Int) [] [x2] 0 0),t.N,0)
inductive z1J where
 |yT (p:List zA) (i:Int) (m t o6:zA)
@[reducible] def z3p:z1J→Type
 |.yT _ _ _ _ _=>zA×Int×Int
def z1C(g:Fam z3p):Fam z3p
 |.yT p i m t o6=>jH (fun p i m t o6=>g (z1J.yT p i m t o6)) p i m t o6
theorem z5I:∀i,Good (fun g=>z1C g i)
 |.yT p i m t o6=>by unfold z1C jH;exact(.ite (.bind (.const _) fun _=>(.bind (.const _) fun _=>(.bind (.const _) fun _=>(.ite (.call _) (.const _))))) (.bind (.const _) fun _=>(.bind (.const _) fun _=>(.ite (.const _) (.const _)))))
def yT(p:List zA)(i:Int)(m t o6:zA):Option (zA×Int×Int):=jT z1C (.yT p i m t o6)
theorem z5y(p:List zA)(i:Int)(m t o6:zA):yT p i m t o6=jH yT p i m t o6:=yX z5I (.yT p i m t o6)
def z3h(p:List zA)(m t o6:zA):Option (zA×Int×Int):=
 yT p 0 m t o6
def z0P(p:List zA)(m t o6:zA):Option (zA×Int×Int):=
 if t.K=14 then
  z3h p m t o6
 else
 some ((zA.mk 0 0 [] [] 0 0),0,10)
def z0O(p:List zA)(m t o6:zA):Option (zA×Int×Int):=
 if t.K=16 then
  idx m.L t.N>>=fun x=>
  idx x.L 0>>=fun x1=>
  z7e p x1.L>>=fun q1=>
  if q1=true then
   idx m.L t.N>>=fun x2=>
   idx x2.L 1>>=fun x3=>
   vQ x3>>=fun q2=>
   some (q2,t.N,0)
  else
  z0P p m t o6
 else
 z0P p m t o6
def z0k(p:List zA)(m t o6:zA):Option (zA×Int×Int):=
 if t.K=15 then
  idx m.L t.N>>=fun x=>
  z7e p x.L>>=fun q1=>
  if q1=true then
   some ((zA.mk 4 t.N [] [] 0 0),t.N,0)
  else
  z0O p m t o6
 else
 z0O p m t o6
def z0d(p:List zA)(m t o6:zA):Option (zA×Int×Int):=
 if t.K=13 then
  idx p 0>>=fun x=>
  if x.K=4 then
   idx p 0>>=fun x1=>
   if(List.length x1.L:Int)=0 then
    idx p 0>>=fun x2=>
    z4p m t x2.N>>=fun q1=>
    if q1<0 then
     some ((zA.mk 0 0 [] [] 0 0),0,8)
    else
    z1w m q1>>=fun q2=>
    vQ q2.1>>=fun q3=>
    some (q3,q1,0)
   else
   z0k p m t o6
  else
  z0k p m t o6
 else
 z0k p m t o6
def z0c(p:List zA)(m t o6:zA):Option (zA×Int×Int):=
 if t.K=12 then
  idx p 0>>=fun x=>
  if x.K=3 then
   idx p 0>>=fun x1=>
   if(List.length x1.L:Int)=1 then
    idx p 1>>=fun x2=>
    z2o x2 1>>=fun q1=>
    if q1=true then
     idx p 0>>=fun x3=>
     idx x3.L 0>>=fun x4=>
     some (x4,t.N,0)
    else
    z0d p m t o6
   else
   z0d p m t o6
  else
  z0d p m t o6
 else
 z0d p m t o6
def z1x(p:List zA)(m t o6:zA):Option (zA×Int×Int):=
 if t.K=11 then
  if t.N=1 then
   idx p 0>>=fun x=>
   z2o x 1>>=fun q1=>
   if q1=true then
    idx p 0>>=fun x1=>
    some (x1,t.N,0)
   else
   z0c p m t o6
  else
  if t.N=2 then
   idx p 0>>=fun x4=>
   z2o x4 2>>=fun q3=>
   if q3=true then
    idx p 0>>=fun x5=>
    some (x5,t.N,0)
   else
   z0c p m t o6
  else
  z0c p m t o6
 else
 z0c p m t o6
def z0l(op:Int)(ints:Bool)(o6:zA):Option (zA):=
 if op≥9 then
  if ints=true then
   z3V>>=fun q1=>
   some (q1)
  else
  some ((zA.mk 0 0 [] [] 0 0))
 else
 some ((zA.mk 0 0 [] [] 0 0))
def jI(op:Int)(ints:Bool)(o6:zA):Option (zA):=
 if op=5 then
  if ints=true then
   uS>>=fun q1=>
   some (q1)
  else
  z0l op ints o6
 else
 if op=6 then
  if ints=true then
   uS>>=fun q2=>
   some (q2)
  else
  z0l op ints o6
 else
 if op=7 then
  if ints=true then
   uS>>=fun q3=>
   some (q3)
  else
  z0l op ints o6
 else
 if op=8 then
  if ints=true then
   uS>>=fun q4=>
   some (q4)
  else
  z0l op ints o6
 else
 z0l op ints o6
def z2q(op:Int)(ints bools:Bool)(o6:zA):Option (zA):=
 if op=1 then
  if bools=true then
   uS>>=fun q1=>
   some (q1)
  else
  jI op ints o6
 else
 if op=2 then
  if bools=true then
   uS>>=fun q6=>
   some (q6)
  else
  jI op ints o6
 else
 if op=3 then
  if ints=true then
   uS>>=fun q11=>
   some (q11)
  else
  if bools=true then
   uS>>=fun q12=>
   some (q12)
  else
  jI op ints o6
 else
 if op=4 then
  if ints=true then
   uS>>=fun q13=>
   some (q13)
  else
  if bools=true then
   uS>>=fun q14=>
   some (q14)
  else
  jI op ints o6
 else
 jI op ints o6
def z2p(op:Int)(ints:Bool)(a b o6:zA):Option (zA):=
 z2o a 2>>=fun q1=>
 if q1=true then
  z2o b 2>>=fun q2=>
  z2q op ints q2 o6
 else
 z2q op ints false o6
def z7f(op:Int)(a b:zA):Option (zA):=
 z2o a 1>>=fun q1=>
 if q1=true then
  z2o b 1>>=fun q2=>
  z2p op q2 a b (zA.mk 0 0 [] [] 0 0)
 else
 z2p op false a b (zA.mk 0 0 [] [] 0 0)
def z6Q(m t:zA)(p:List zA):Option (zA×Int×Int):=
 if t.K=10 then
  idx p 0>>=fun x=>
  idx p 1>>=fun x1=>
  z7f t.N x x1>>=fun q1=>
  if q1.K=0 then
   z1x p m t (zA.mk 0 0 [] [] 0 0)
  else
  idx p 0>>=fun x2=>
  idx p 1>>=fun x3=>
  z7f t.N x2 x3>>=fun q2=>
  some (q2,t.N,0)
 else
 z1x p m t (zA.mk 0 0 [] [] 0 0)
def z3J(t:zA):Option (Bool):=
 if t.K=5 then
  some (((List.length t.L:Int) == 0))
 else
 if t.K=7 then
  some (((List.length t.L:Int) == 0))
 else
 if t.K=8 then
  some (((List.length t.L:Int) == 0))
 else
 if t.K=9 then
  some (((List.length t.L:Int) == 0))
 else
 if t.K=18 then
  some (((List.length t.L:Int) == 0))
 else
 if t.K=6 then
  if(List.length t.L:Int)=0 then
   if t.N=0 then
    some (true)
   else
   some ((t.N == 1))
  else
  some (false)
 else
 if t.K=11 then
  if(List.length t.L:Int)=1 then
   if t.N=1 then
    some (true)
   else
   some ((t.N == 2))
  else
  some (false)
 else
 if t.K=10 then
  if(List.length t.L:Int)=2 then
   if t.N≥1 then
    some (decide (t.N≤13))
   else
   some (false)
  else
  some (false)
 else
 if t.K=13 then
  some (((List.length t.L:Int) == 1))
 else
 if t.K=12 then
  some (((List.length t.L:Int) == 2))
 else
 if t.K=14 then
  some (decide ((List.length t.L:Int)≥1))
 else
 if t.K=15 then
  some (decide ((List.length t.L:Int)≥1))
 else
 if t.K=16 then
  some (true)
 else
 some ((t.K == 17))
def z4s(vH:(List zA)→(List zA)→(List zA)→Int→zA→zA→Ref15Got→Option (Ref15Got))(m:zA)(locals:List zA)(t:zA):Option (Ref15Got):=
 z3J t>>=fun q1=>
 if q1=true then
  z4r m locals t>>=fun q3=>
  if q3=true then
   if(List.length t.L:Int)=0 then
    if t.K=16 then
     vH locals ([]:List zA) ([]:List zA) 0 m t (Ref15Got.mk (zA.mk 0 0 [] [] 0 0) (zA.mk 0 0 [] [] 0 0) 0 0)
    else
    z4o m locals t>>=fun q5=>
    some ((Ref15Got.mk q5 (zA.mk t.K t.N [] [] 0 0) 0 0))
   else
   vH locals ([]:List zA) ([]:List zA) 0 m t (Ref15Got.mk (zA.mk 0 0 [] [] 0 0) (zA.mk 0 0 [] [] 0 0) 0 0)
  else
  z5d t 8>>=fun q4=>
  some (q4)
 else
 z5d t 12>>=fun q2=>
 some (q2)
def z0j(wN:zA→(List zA)→zA→Option (Ref15Got))(vH:(List zA)→(List zA)→(List zA)→Int→zA→zA→Ref15Got→Option (Ref15Got))(locals types forms:List zA)(i:Int)(m t:zA)(o6:Ref15Got):Option (Ref15Got):=
 if i<(List.length t.L:Int)then
  idx t.L i>>=fun x=>
  wN m locals x>>=fun q1=>
  if q1.E=0 then
   if uJ 72 (List.length types+List.length [q1.Type_])then
   if uJ 72 (List.length forms+List.length [q1.Form])then
   vH locals (types++[q1.Type_]) (forms++[q1.Form]) (IntKind.wrap .i64 (i+1)) m t o6
   else none
   else none
  else
  some (q1)
 else
 z6Q m t types>>=fun q2=>
 if q2.2.2=0 then
  some ((Ref15Got.mk q2.1 (zA.mk t.K q2.2.1 [] forms 0 0) 0 0))
 else
 z5d t q2.2.2>>=fun q3=>
 some (q3)
inductive z2G where
 |wN (m:zA) (locals:List zA) (t:zA)
 |vH (locals types forms:List zA) (i:Int) (m t:zA) (o6:Ref15Got)
@[reducible] def y0y:z2G→Type
 |.wN _ _ _=>Ref15Got
 |.vH _ _ _ _ _ _ _=>Ref15Got
def z4f(g:Fam y0y):Fam y0y
 |.wN m locals t=>z4s (fun locals types forms i m t o6=>g (z2G.vH locals types forms i m t o6)) m locals t
 |.vH locals types forms i m t o6=>z0j (fun m locals t=>g (z2G.wN m locals t)) (fun locals types forms i m t o6=>g (z2G.vH locals types forms i m t o6)) locals types forms i m t o6
theorem y0i:∀i,Good (fun g=>z4f g i)
 |.wN m locals t=>by unfold z4f z4s;exact(.bind (.const _) fun _=>(.ite (.bind (.const _) fun _=>(.ite (.ite (.ite (.call _) (.bind (.const _) fun _=>(.const _))) (.call _)) (.bind (.const _) fun _=>(.const _)))) (.bind (.const _) fun _=>(.const _))))
 |.vH locals types forms i m t o6=>by unfold z4f z0j;exact(.ite (.bind (.const _) fun _=>(.bind (.call _) fun _=>(.ite (.ite (.ite (.call _) (.const _)) (.const _)) (.const _)))) (.bind (.const _) fun _=>(.ite (.const _) (.bind (.const _) fun _=>(.const _)))))
def wN(m:zA)(locals:List zA)(t:zA):Option (Ref15Got):=jT z4f (.wN m locals t)
def vH(locals types forms:List zA)(i:Int)(m t:zA)(o6:Ref15Got):Option (Ref15Got):=jT z4f (.vH locals types forms i m t o6)
theorem v0h(m:zA)(locals:List zA)(t:zA):wN m locals t=z4s vH m locals t:=yX y0i (.wN m locals t)
theorem z7x(locals types forms:List zA)(i:Int)(m t:zA)(o6:Ref15Got):vH locals types forms i m t o6=z0j wN vH locals types forms i m t o6:=yX y0i (.vH locals types forms i m t o6)
def z0m(m:zA)(locals:List zA)(t:zA):Option (List zA):=
 if t.K=20 then
  if(List.length t.L:Int)=1 then
   if uJ 72 (List.length ([]:List zA)+List.length locals)then
   idx t.L 0>>=fun x=>
   wN m locals x>>=fun q1=>
   if uJ 72 (List.length (([]:List zA)++locals)+List.length [q1.Type_])then
   some ((([]:List zA)++locals)++[q1.Type_])
   else none
   else none
  else
  some (locals)
 else
 if t.K=21 then
  if(List.length t.L:Int)=1 then
   if uJ 72 (List.length ([]:List zA)+List.length locals)then
   idx t.L 0>>=fun x2=>
   if uJ 72 (List.length (([]:List zA)++locals)+List.length [x2])then
   some ((([]:List zA)++locals)++[x2])
   else none
   else none
  else
  some (locals)
 else
 some (locals)
def wR(k:Int):Option (Int×Int):=
 if k=20 then
  some (1,0)
 else
 if k=21 then
  some (1,0)
 else
 if k=26 then
  some (1,0)
 else
 if k=27 then
  some (1,0)
 else
 if k=28 then
  some (1,0)
 else
 if k=22 then
  some (2,0)
 else
 if k=23 then
  some (3,2)
 else
 if k=24 then
  some (2,1)
 else
 if k=25 then
  some (3,1)
 else
 some ((-1),0)
def jK(yD:Int→Int→zA→Option (Bool))(n i:Int)(t:zA):Option (Bool):=
 if i<n then
  idx t.L i>>=fun x=>
  if x.K=29 then
   yD n (IntKind.wrap .i64 (i+1)) t
  else
  some (false)
 else
 some (true)
inductive z1K where
 |yD (n i:Int) (t:zA)
@[reducible] def z3q:z1K→Type
 |.yD _ _ _=>Bool
def z1D(g:Fam z3q):Fam z3q
 |.yD n i t=>jK (fun n i t=>g (z1K.yD n i t)) n i t
theorem z5J:∀i,Good (fun g=>z1D g i)
 |.yD n i t=>by unfold z1D jK;exact(.ite (.bind (.const _) fun _=>(.ite (.call _) (.const _))) (.const _))
def yD(n i:Int)(t:zA):Option (Bool):=jT z1D (.yD n i t)
theorem z5A(n i:Int)(t:zA):yD n i t=jK yD n i t:=yX z5J (.yD n i t)
def z4w(t:zA):Option (Bool):=
 if t.K=29 then
  some (true)
 else
 wR t.K>>=fun q1=>
 if(List.length t.L:Int)=q1.1 then
  yD q1.1 (IntKind.wrap .i64 (q1.1-q1.2)) t
 else
 some (false)
def z2n(wI:zA→Option (zA))(t:zA):Option (zA):=
 if t.K=12 then
  if(List.length t.L:Int)>0 then
   idx t.L 0>>=fun x=>
   wI x>>=fun q1=>
   some (q1)
  else
  some (t)
 else
 if t.K=13 then
  if(List.length t.L:Int)>0 then
   idx t.L 0>>=fun x1=>
   wI x1>>=fun q2=>
   some (q2)
  else
  some (t)
 else
 some (t)
inductive z4K where
 |wI (t:zA)
@[reducible] def z7F:z4K→Type
 |.wI _=>zA
def z4J(g:Fam z7F):Fam z7F
 |.wI t=>z2n (fun t=>g (z4K.wI t)) t
theorem y0h:∀i,Good (fun g=>z4J g i)
 |.wI t=>by unfold z4J z2n;exact(.ite (.ite (.bind (.const _) fun _=>(.bind (.call _) fun _=>(.const _))) (.const _)) (.ite (.ite (.bind (.const _) fun _=>(.bind (.call _) fun _=>(.const _))) (.const _)) (.const _)))
def wI(t:zA):Option (zA):=jT z4J (.wI t)
theorem y6M(t:zA):wI t=z2n wI t:=yX y0h (.wI t)
def jZ(x:Ref15Got):Option (Ref16Got):=
 some ({x with T_:=x.Form})
def z0p(m:zA)(locals:List zA)(t:zA)(a b:Int):Option (Ref16Got):=
 wN m locals t>>=fun q1=>
 if q1.E=0 then
  z2o q1.Type_ a>>=fun q2=>
  if q2=true then
   jZ q1>>=fun q6=>
   some (q6)
  else
  z2o q1.Type_ b>>=fun q3=>
  if q3=true then
   jZ q1>>=fun q5=>
   some (q5)
  else
  yQ t 10>>=fun q4=>
  some (q4)
 else
 jZ q1>>=fun q7=>
 some (q7)
def z1y(yK:(List zA)→Int→zA→zA→zA→Ref16Got→Int→Int→Str→(List zA)→Int→Int→Option (Ref16Got))(m:zA)(locals:List zA)(ret t:zA):Option (Ref16Got):=
 yK locals 0 m ret t (Ref16Got.mk (zA.mk 0 0 [] [] 0 0) 0 0) t.K t.N [] [] 0 0
def jJ(yK:(List zA)→Int→zA→zA→zA→Ref16Got→Int→Int→Str→(List zA)→Int→Int→Option (Ref16Got))(uT:zA→(List zA)→zA→zA→Option (Ref16Got))(locals:List zA)(i:Int)(m ret t:zA)(o8:Ref16Got)(K N:Int)(S:Str)(L:List zA)(From To:Int):Option (Ref16Got):=
 if i<(List.length t.L:Int)then
  idx t.L i>>=fun x=>
  uT m locals ret x>>=fun q1=>
  if q1.E=0 then
   if uJ 72 (List.length L+List.length [q1.T_])then
   idx t.L i>>=fun x1=>
   z0m m locals x1>>=fun q2=>
   yK q2 (IntKind.wrap .i64 (i+1)) m ret t o8 K N S (L++[q1.T_]) From To
   else none
  else
  some (q1)
 else
 some ((Ref16Got.mk (zA.mk K N S L From To) 0 0))
def z2s(yM:zA→(List zA)→zA→zA→Option (Ref16Got))(yE:(List zA)→Int→zA→zA→zA→Ref16Got→Int→Int→Str→(List zA)→Int→Int→Option (Ref16Got))(m:zA)(locals:List zA)(ret t:zA):Option (Ref16Got):=
 z4w t>>=fun q1=>
 if q1=true then
  if t.K=29 then
   yM m locals ret t>>=fun q3=>
   some (q3)
  else
  yE locals 0 m ret t (Ref16Got.mk (zA.mk 0 0 [] [] 0 0) 0 0) t.K t.N [] [] 0 0
 else
 yQ t 12>>=fun q2=>
 some (q2)
def uY(yE:(List zA)→Int→zA→zA→zA→Ref16Got→Int→Int→Str→(List zA)→Int→Int→Option (Ref16Got))(uE:zA→(List zA)→zA→zA→Int→Option (Ref16Got))(locals:List zA)(i:Int)(m ret t:zA)(o8:Ref16Got)(K N:Int)(S:Str)(L:List zA)(From To:Int):Option (Ref16Got):=
 if i<(List.length t.L:Int)then
  uE m locals ret t i>>=fun q1=>
  if q1.E=0 then
   if uJ 72 (List.length L+List.length [q1.T_])then
   yE locals (IntKind.wrap .i64 (i+1)) m ret t o8 K N S (L++[q1.T_]) From To
   else none
  else
  some (q1)
 else
 if t.K=22 then
  idx t.L 0>>=fun x=>
  wI x>>=fun q2=>
  if q2.K=7 then
   idx t.L 0>>=fun x4=>
   wN m locals x4>>=fun q8=>
   idx t.L 1>>=fun x5=>
   wN m locals x5>>=fun q9=>
   vR q8.Type_ q9.Type_>>=fun q10=>
   if q10=true then
    some ((Ref16Got.mk (zA.mk K N S L From To) 0 0))
   else
   yQ t 10>>=fun q11=>
   some (q11)
  else
  if q2.K=9 then
   idx t.L 0>>=fun x2=>
   wN m locals x2>>=fun q4=>
   idx t.L 1>>=fun x3=>
   wN m locals x3>>=fun q5=>
   vR q4.Type_ q5.Type_>>=fun q6=>
   if q6=true then
    some ((Ref16Got.mk (zA.mk K N S L From To) 0 0))
   else
   yQ t 10>>=fun q7=>
   some (q7)
  else
  idx t.L 0>>=fun x1=>
  yQ x1 12>>=fun q3=>
  some (q3)
 else
 some ((Ref16Got.mk (zA.mk K N S L From To) 0 0))
def z2r(yM:zA→(List zA)→zA→zA→Option (Ref16Got))(m:zA)(locals:List zA)(ret t:zA)(i:Int):Option (Ref16Got):=
 idx t.L i>>=fun x=>
 wR t.K>>=fun q1=>
 if i≥(IntKind.wrap .i64 (q1.1-q1.2))then
  if t.K=25 then
   if uJ 72 (List.length ([]:List zA)+List.length locals)then
   if uJ 72 (List.length (([]:List zA)++locals)+List.length [(zA.mk 1 0 [] [] 0 0)])then
   yM m ((([]:List zA)++locals)++[(zA.mk 1 0 [] [] 0 0)]) ret x>>=fun q2=>
   some (q2)
   else none
   else none
  else
  yM m locals ret x>>=fun q3=>
  some (q3)
 else
 if t.K=21 then
  gN m x>>=fun q4=>
  if q4=0 then
   yQ x 11>>=fun q5=>
   some (q5)
  else
  zU x>>=fun q6=>
  some ((Ref16Got.mk q6 0 0))
 else
 if t.K=23 then
  z0p m locals x 2 2>>=fun q7=>
  some (q7)
 else
 if t.K=24 then
  z0p m locals x 2 2>>=fun q8=>
  some (q8)
 else
 if t.K=25 then
  z0p m locals x 1 1>>=fun q9=>
  some (q9)
 else
 if t.K=26 then
  z0p m locals x 1 2>>=fun q10=>
  some (q10)
 else
 if t.K=28 then
  if x.K=16 then
   wN m locals x>>=fun q12=>
   jZ q12>>=fun q18=>
   some (q18)
  else
  yQ x 12>>=fun q11=>
  some (q11)
 else
 wN m locals x>>=fun q19=>
 if t.K=27 then
  if q19.E=0 then
   vQ ret>>=fun q20=>
   vR q19.Type_ q20>>=fun q21=>
   if q21=true then
    jZ q19>>=fun q23=>
    some (q23)
   else
   yQ x 10>>=fun q22=>
   some (q22)
  else
  jZ q19>>=fun q24=>
  some (q24)
 else
 jZ q19>>=fun q25=>
 some (q25)
inductive vK where
 |yM (m:zA) (locals:List zA) (ret t:zA)
 |yK (locals:List zA) (i:Int) (m ret t:zA) (o8:Ref16Got) (K N:Int) (S:Str) (L:List zA) (From To:Int)
 |uT (m:zA) (locals:List zA) (ret t:zA)
 |yE (locals:List zA) (i:Int) (m ret t:zA) (o8:Ref16Got) (K N:Int) (S:Str) (L:List zA) (From To:Int)
 |uE (m:zA) (locals:List zA) (ret t:zA) (i:Int)
@[reducible] def z6b:vK→Type
 |.yM _ _ _ _=>Ref16Got
 |.yK _ _ _ _ _ _ _ _ _ _ _ _=>Ref16Got
 |.uT _ _ _ _=>Ref16Got
 |.yE _ _ _ _ _ _ _ _ _ _ _ _=>Ref16Got
 |.uE _ _ _ _ _=>Ref16Got
def wY(g:Fam z6b):Fam z6b
 |.yM m locals ret t=>z1y (fun locals i m ret t o8 K N S L From To=>g (vK.yK locals i m ret t o8 K N S L From To)) m locals ret t
 |.yK locals i m ret t o8 K N S L From To=>jJ (fun locals i m ret t o8 K N S L From To=>g (vK.yK locals i m ret t o8 K N S L From To)) (fun m locals ret t=>g (vK.uT m locals ret t)) locals i m ret t o8 K N S L From To
 |.uT m locals ret t=>z2s (fun m locals ret t=>g (vK.yM m locals ret t)) (fun locals i m ret t o8 K N S L From To=>g (vK.yE locals i m ret t o8 K N S L From To)) m locals ret t
 |.yE locals i m ret t o8 K N S L From To=>uY (fun locals i m ret t o8 K N S L From To=>g (vK.yE locals i m ret t o8 K N S L From To)) (fun m locals ret t i=>g (vK.uE m locals ret t i)) locals i m ret t o8 K N S L From To
 |.uE m locals ret t i=>z2r (fun m locals ret t=>g (vK.yM m locals ret t)) m locals ret t i
theorem z1m:∀i,Good (fun g=>wY g i)
 |.yM m locals ret t=>by unfold wY z1y;exact(.call _)
 |.yK locals i m ret t o8 K N S L From To=>by unfold wY jJ;exact(.ite (.bind (.const _) fun _=>(.bind (.call _) fun _=>(.ite (.ite (.bind (.const _) fun _=>(.bind (.const _) fun _=>(.call _))) (.const _)) (.const _)))) (.const _))
 |.uT m locals ret t=>by unfold wY z2s;exact(.bind (.const _) fun _=>(.ite (.ite (.bind (.call _) fun _=>(.const _)) (.call _)) (.bind (.const _) fun _=>(.const _))))
 |.yE locals i m ret t o8 K N S L From To=>by unfold wY uY;exact(.ite (.bind (.call _) fun _=>(.ite (.ite (.call _) (.const _)) (.const _))) (.ite (.bind (.const _) fun _=>(.bind (.const _) fun _=>(.ite (.bind (.const _) fun _=>(.bind (.const _) fun _=>(.bind (.const _) fun _=>(.bind (.const _) fun _=>(.bind (.const _) fun _=>(.ite (.const _) (.bind (.const _) fun _=>(.const _)))))))) (.ite (.bind (.const _) fun _=>(.bind (.const _) fun _=>(.bind (.const _) fun _=>(.bind (.const _) fun _=>(.bind (.const _) fun _=>(.ite (.const _) (.bind (.const _) fun _=>(.const _)))))))) (.bind (.const _) fun _=>(.bind (.const _) fun _=>(.const _))))))) (.const _)))
 |.uE m locals ret t i=>by unfold wY z2r;exact(.bind (.const _) fun _=>(.bind (.const _) fun _=>(.ite (.ite (.ite (.ite (.bind (.call _) fun _=>(.const _)) (.const _)) (.const _)) (.bind (.call _) fun _=>(.const _))) (.ite (.bind (.const _) fun _=>(.ite (.bind (.const _) fun _=>(.const _)) (.bind (.const _) fun _=>(.const _)))) (.ite (.bind (.const _) fun _=>(.const _)) (.ite (.bind (.const _) fun _=>(.const _)) (.ite (.bind (.const _) fun _=>(.const _)) (.ite (.bind (.const _) fun _=>(.const _)) (.ite (.ite (.bind (.const _) fun _=>(.bind (.const _) fun _=>(.const _))) (.bind (.const _) fun _=>(.const _))) (.bind (.const _) fun _=>(.ite (.ite (.bind (.const _) fun _=>(.bind (.const _) fun _=>(.ite (.bind (.const _) fun _=>(.const _)) (.bind (.const _) fun _=>(.const _))))) (.bind (.const _) fun _=>(.const _))) (.bind (.const _) fun _=>(.const _)))))))))))))
def yM(m:zA)(locals:List zA)(ret t:zA):Option (Ref16Got):=jT wY (.yM m locals ret t)
def yK(locals:List zA)(i:Int)(m ret t:zA)(o8:Ref16Got)(K N:Int)(S:Str)(L:List zA)(From To:Int):Option (Ref16Got):=jT wY (.yK locals i m ret t o8 K N S L From To)
def uT(m:zA)(locals:List zA)(ret t:zA):Option (Ref16Got):=jT wY (.uT m locals ret t)
def yE(locals:List zA)(i:Int)(m ret t:zA)(o8:Ref16Got)(K N:Int)(S:Str)(L:List zA)(From To:Int):Option (Ref16Got):=jT wY (.yE locals i m ret t o8 K N S L From To)
def uE(m:zA)(locals:List zA)(ret t:zA)(i:Int):Option (Ref16Got):=jT wY (.uE m locals ret t i)
theorem y4F(m:zA)(locals:List zA)(ret t:zA):yM m locals ret t=z1y yK m locals ret t:=yX z1m (.yM m locals ret t)
theorem z5z(locals:List zA)(i:Int)(m ret t:zA)(o8:Ref16Got)(K N:Int)(S:Str)(L:List zA)(From To:Int):yK locals i m ret t o8 K N S L From To=jJ yK uT locals i m ret t o8 K N S L From To:=yX z1m (.yK locals i m ret t o8 K N S L From To)
theorem y6O(m:zA)(locals:List zA)(ret t:zA):uT m locals ret t=z2s yM yE m locals ret t:=yX z1m (.uT m locals ret t)
theorem z3K(locals:List zA)(i:Int)(m ret t:zA)(o8:Ref16Got)(K N:Int)(S:Str)(L:List zA)(From To:Int):yE locals i m ret t o8 K N S L From To=uY yE uE locals i m ret t o8 K N S L From To:=yX z1m (.yE locals i m ret t o8 K N S L From To)
theorem y6N(m:zA)(locals:List zA)(ret t:zA)(i:Int):uE m locals ret t i=z2r yM m locals ret t i:=yX z1m (.uE m locals ret t i)
def jL(yU:(List zA)→Int→zA→Option (List zA))(out:List zA)(i:Int)(f:zA):Option (List zA):=
 idx f.L 0>>=fun x=>
 if i<(List.length x.L:Int)then
  idx f.L 0>>=fun x1=>
  idx x1.L i>>=fun x2=>
  idx x2.L 0>>=fun x3=>
  if uJ 72 (List.length out+List.length [x3])then
  yU (out++[x3]) (IntKind.wrap .i64 (i+1)) f
  else none
 else
 some (out)
inductive z1L where
 |yU (out:List zA) (i:Int) (f:zA)
@[reducible] def z3r:z1L→Type
 |.yU _ _ _=>List zA
def z1E(g:Fam z3r):Fam z3r
 |.yU out i f=>jL (fun out i f=>g (z1L.yU out i f)) out i f
theorem z5K:∀i,Good (fun g=>z1E g i)
 |.yU out i f=>by unfold z1E jL;exact(.bind (.const _) fun _=>(.ite (.bind (.const _) fun _=>(.bind (.const _) fun _=>(.bind (.const _) fun _=>(.ite (.call _) (.const _))))) (.const _)))
def yU(out:List zA)(i:Int)(f:zA):Option (List zA):=jT z1E (.yU out i f)
theorem z5B(out:List zA)(i:Int)(f:zA):yU out i f=jL yU out i f:=yX z5K (.yU out i f)
def z1z(f:zA):Option (List zA):=
 yU ([]:List zA) 0 f
def z0n(vJ:(List zA)→Int→zA→zA→Ref16Got→Option (Ref16Got))(all:List zA)(i:Int)(m t:zA)(o4:Ref16Got):Option (Ref16Got):=
 if i<(List.length all:Int)then
  if t.N=1 then
   idx all i>>=fun x=>
   z4m m x>>=fun q1=>
   if q1=true then
    vJ all (IntKind.wrap .i64 (i+1)) m t o4
   else
   idx all i>>=fun x1=>
   yQ x1 12>>=fun q2=>
   some (q2)
  else
  vJ all (IntKind.wrap .i64 (i+1)) m t o4
 else
 z1z t>>=fun q3=>
 idx t.L 1>>=fun x2=>
 idx t.L 2>>=fun x3=>
 yM m q3 x2 x3>>=fun q4=>
 if q4.E=0 then
  z0A t>>=fun q5=>
  if(0:Int)≤2∧2<(List.length q5.L:Int)then
  if Int.toNat 2<List.length q5.L then
  some ((Ref16Got.mk ({q5 with L:=q5.L.set (Int.toNat 2) q4.T_}) 0 0))
  else none
  else none
 else
 some (q4)
inductive z3d where
 |vJ (all:List zA) (i:Int) (m t:zA) (o4:Ref16Got)
@[reducible] def z4O:z3d→Type
 |.vJ _ _ _ _ _=>Ref16Got
def z3b(g:Fam z4O):Fam z4O
 |.vJ all i m t o4=>z0n (fun all i m t o4=>g (z3d.vJ all i m t o4)) all i m t o4
theorem z7X:∀i,Good (fun g=>z3b g i)
 |.vJ all i m t o4=>by unfold z3b z0n;exact(.ite (.ite (.bind (.const _) fun _=>(.bind (.const _) fun _=>(.ite (.call _) (.bind (.const _) fun _=>(.bind (.const _) fun _=>(.const _)))))) (.call _)) (.bind (.const _) fun _=>(.bind (.const _) fun _=>(.bind (.const _) fun _=>(.bind (.const _) fun _=>(.ite (.bind (.const _) fun _=>(.ite (.ite (.const _) (.const _)) (.const _))) (.const _)))))))
def vJ(all:List zA)(i:Int)(m t:zA)(o4:Ref16Got):Option (Ref16Got):=jT z3b (.vJ all i m t o4)
theorem z7y(all:List zA)(i:Int)(m t:zA)(o4:Ref16Got):vJ all i m t o4=z0n vJ all i m t o4:=yX z7X (.vJ all i m t o4)
def z0B(vS:(List zA)→Int→zA→zA→Ref16Got→Option (Ref16Got))(all:List zA)(i:Int)(m t:zA)(o4:Ref16Got):Option (Ref16Got):=
 if i<(List.length all:Int)then
  idx all i>>=fun x=>
  gN m x>>=fun q1=>
  if q1=0 then
   idx all i>>=fun x1=>
   yQ x1 11>>=fun q2=>
   some (q2)
  else
  vS all (IntKind.wrap .i64 (i+1)) m t o4
 else
 vJ all 0 m t o4
inductive z3Q where
 |vS (all:List zA) (i:Int) (m t:zA) (o4:Ref16Got)
@[reducible] def z6c:z3Q→Type
 |.vS _ _ _ _ _=>Ref16Got
def z3P(g:Fam z6c):Fam z6c
 |.vS all i m t o4=>z0B (fun all i m t o4=>g (z3Q.vS all i m t o4)) all i m t o4
theorem z9e:∀i,Good (fun g=>z3P g i)
 |.vS all i m t o4=>by unfold z3P z0B;exact(.ite (.bind (.const _) fun _=>(.bind (.const _) fun _=>(.ite (.bind (.const _) fun _=>(.bind (.const _) fun _=>(.const _))) (.call _)))) (.const _))
def vS(all:List zA)(i:Int)(m t:zA)(o4:Ref16Got):Option (Ref16Got):=jT z3P (.vS all i m t o4)
theorem z8x(all:List zA)(i:Int)(m t:zA)(o4:Ref16Got):vS all i m t o4=z0B vS all i m t o4:=yX z9e (.vS all i m t o4)
def uP(yH:(List zA)→Int→Option (Bool))(l:List zA)(i:Int):Option (Bool):=
 if i<(List.length l:Int)then
  idx l i>>=fun x=>
  if x.K=34 then
   idx l i>>=fun x1=>
   if(List.length x1.L:Int)=1 then
    yH l (IntKind.wrap .i64 (i+1))
   else
   some (false)
  else
  some (false)
 else
 some (true)
inductive z1g where
 |yH (l:List zA) (i:Int)
@[reducible] def z2U:z1g→Type
 |.yH _ _=>Bool
def z1b(g:Fam z2U):Fam z2U
 |.yH l i=>uP (fun l i=>g (z1g.yH l i)) l i
theorem z5o:∀i,Good (fun g=>z1b g i)
 |.yH l i=>by unfold z1b uP;exact(.ite (.bind (.const _) fun _=>(.ite (.bind (.const _) fun _=>(.ite (.call _) (.const _))) (.const _))) (.const _))
def yH(l:List zA)(i:Int):Option (Bool):=jT z1b (.yH l i)
theorem z4u(l:List zA)(i:Int):yH l i=uP yH l i:=yX z5o (.yH l i)
def z1k(l:List zA):Option (Bool):=
 yH l 0
def y1W(m t:zA):Option (Ref16Got):=
 if t.N=0 then
  if(List.length t.L:Int)=3 then
   idx t.L 0>>=fun x4=>
   if x4.K=35 then
    idx t.L 0>>=fun x5=>
    z1k x5.L>>=fun q10=>
    if q10=true then
     idx t.L 2>>=fun x6=>
     if x6.K=29 then
      z1z t>>=fun q13=>
      idx t.L 1>>=fun x7=>
      if uJ 72 (List.length q13+List.length [x7])then
      vS (q13++[x7]) 0 m t (Ref16Got.mk (zA.mk 0 0 [] [] 0 0) 0 0)
      else none
     else
     yQ t 12>>=fun q12=>
     some (q12)
    else
    yQ t 12>>=fun q11=>
    some (q11)
   else
   yQ t 12>>=fun q9=>
   some (q9)
  else
  yQ t 12>>=fun q8=>
  some (q8)
 else
 if t.N=1 then
  if(List.length t.L:Int)=3 then
   idx t.L 0>>=fun x=>
   if x.K=35 then
    idx t.L 0>>=fun x1=>
    z1k x1.L>>=fun q4=>
    if q4=true then
     idx t.L 2>>=fun x2=>
     if x2.K=29 then
      z1z t>>=fun q7=>
      idx t.L 1>>=fun x3=>
      if uJ 72 (List.length q7+List.length [x3])then
      vS (q7++[x3]) 0 m t (Ref16Got.mk (zA.mk 0 0 [] [] 0 0) 0 0)
      else none
     else
     yQ t 12>>=fun q6=>
     some (q6)
    else
    yQ t 12>>=fun q5=>
    some (q5)
   else
   yQ t 12>>=fun q3=>
   some (q3)
  else
  yQ t 12>>=fun q2=>
  some (q2)
 else
 yQ t 12>>=fun q1=>
 some (q1)
def z6R(m:zA)(i:Int):Option (Ref16Got):=
 idx m.L i>>=fun x=>
 if x.K=33 then
  y1W m x>>=fun q1=>
  some (q1)
 else
 if x.K=30 then
  z0z x>>=fun q2=>
  if q2=true then
   gN m (zA.mk 4 i [] [] 0 0)>>=fun q4=>
   if q4=0 then
    yQ x 11>>=fun q5=>
    some (q5)
   else
   zU x>>=fun q6=>
   some ((Ref16Got.mk q6 0 0))
  else
  yQ x 12>>=fun q3=>
  some (q3)
 else
 if x.K=32 then
  if(List.length x.L:Int)=1 then
   idx x.L 0>>=fun x1=>
   gN m x1>>=fun q7=>
   if q7=0 then
    idx x.L 0>>=fun x2=>
    yQ x2 11>>=fun q8=>
    some (q8)
   else
   zU x>>=fun q9=>
   some ((Ref16Got.mk q9 0 0))
  else
  yQ x 12>>=fun q10=>
  some (q10)
 else
 if x.K=31 then
  if(List.length x.L:Int)=1 then
   idx x.L 0>>=fun x8=>
   if(List.length x8.L:Int)>0 then
    yQ x 12>>=fun q21=>
    some (q21)
   else
   idx x.L 0>>=fun x9=>
   z0b x9>>=fun q22=>
   if q22.K=0 then
    yQ x 12>>=fun q23=>
    some (q23)
   else
   idx x.L 0>>=fun x10=>
   if x10.K=6 then
    idx x.L 0>>=fun x11=>
    if x11.N=0 then
     zU x>>=fun q26=>
     some ((Ref16Got.mk q26 0 0))
    else
    idx x.L 0>>=fun x12=>
    if x12.N=1 then
     zU x>>=fun q25=>
     some ((Ref16Got.mk q25 0 0))
    else
    yQ x 12>>=fun q24=>
    some (q24)
   else
   zU x>>=fun q27=>
   some ((Ref16Got.mk q27 0 0))
  else
  yQ x 12>>=fun q20=>
  some (q20)
 else
 yQ x 12>>=fun q19=>
 some (q19)
def uO(yC:Int→zA→zA→Int→Int→Str→(List zA)→Int→Int→Option (zA×Int×Int))(i:Int)(m o2:zA)(K N:Int)(S:Str)(L:List zA)(From To:Int):Option (zA×Int×Int):=
 if i<(List.length m.L:Int)then
  z6R m i>>=fun q1=>
  if q1.E=0 then
   if uJ 72 (List.length L+List.length [q1.T_])then
   yC (IntKind.wrap .i64 (i+1)) m o2 K N S (L++[q1.T_]) From To
   else none
  else
  some ((zA.mk 0 0 [] [] 0 0),q1.At,q1.E)
 else
 some ((zA.mk K N S L From To),0,0)
inductive z1f where
 |yC (i:Int) (m o2:zA) (K N:Int) (S:Str) (L:List zA) (From To:Int)
@[reducible] def z2T:z1f→Type
 |.yC _ _ _ _ _ _ _ _ _=>zA×Int×Int
def z1a(g:Fam z2T):Fam z2T
 |.yC i m o2 K N S L From To=>uO (fun i m o2 K N S L From To=>g (z1f.yC i m o2 K N S L From To)) i m o2 K N S L From To
theorem z5n:∀i,Good (fun g=>z1a g i)
 |.yC i m o2 K N S L From To=>by unfold z1a uO;exact(.ite (.bind (.const _) fun _=>(.ite (.ite (.call _) (.const _)) (.const _))) (.const _))
def yC(i:Int)(m o2:zA)(K N:Int)(S:Str)(L:List zA)(From To:Int):Option (zA×Int×Int):=jT z1a (.yC i m o2 K N S L From To)
theorem z4t(i:Int)(m o2:zA)(K N:Int)(S:Str)(L:List zA)(From To:Int):yC i m o2 K N S L From To=uO yC i m o2 K N S L From To:=yX z5n (.yC i m o2 K N S L From To)
def z5e(m:zA):Option (zA×Int×Int):=
 if m.K=36 then
  yC 0 m (zA.mk 0 0 [] [] 0 0) m.K m.N [] [] 0 0
 else
 some ((zA.mk 0 0 [] [] 0 0),m.From,12)
def z4v(m:zA):Option (Bool):=
 z5e m>>=fun q1=>
 if q1.2.2=0 then
  vM q1.1 m>>=fun q2=>
  some (q2)
 else
 some (false)
def z1u(yI:Int→Int→Int→zA→Option (Int))(t:zA)(left levels:Int):Option (Int):=
 if levels≤0 then
  some ((-1))
 else
 yI (IntKind.wrap .i64 (left-1)) levels 0 t
def jF(vZ:zA→Int→Int→Option (Int))(yI:Int→Int→Int→zA→Option (Int))(left levels i:Int)(t:zA):Option (Int):=
 if i<(List.length t.L:Int)then
  if left≥0 then
   idx t.L i>>=fun x=>
   vZ x left (IntKind.wrap .i64 (levels-1))>>=fun q1=>
   yI q1 levels (IntKind.wrap .i64 (i+1)) t
  else
  some (left)
 else
 some (left)
inductive gW where
 |vZ (t:zA) (left levels:Int)
 |yI (left levels i:Int) (t:zA)
@[reducible] def z5Z:gW→Type
 |.vZ _ _ _=>Int
 |.yI _ _ _ _=>Int
def z1n(g:Fam z5Z):Fam z5Z
 |.vZ t left levels=>z1u (fun left levels i t=>g (gW.yI left levels i t)) t left levels
 |.yI left levels i t=>jF (fun t left levels=>g (gW.vZ t left levels)) (fun left levels i t=>g (gW.yI left levels i t)) left levels i t
theorem z5G:∀i,Good (fun g=>z1n g i)
 |.vZ t left levels=>by unfold z1n z1u;exact(.ite (.const _) (.call _))
 |.yI left levels i t=>by unfold z1n jF;exact(.ite (.ite (.bind (.const _) fun _=>(.bind (.call _) fun _=>(.call _))) (.const _)) (.const _))
def vZ(t:zA)(left levels:Int):Option (Int):=jT z1n (.vZ t left levels)
def yI(left levels i:Int)(t:zA):Option (Int):=jT z1n (.yI left levels i t)
theorem y4D(t:zA)(left levels:Int):vZ t left levels=z1u yI t left levels:=yX z5G (.vZ t left levels)
theorem z5w(left levels i:Int)(t:zA):yI left levels i t=jF vZ yI left levels i t:=yX z5G (.yI left levels i t)
def z1v(yJ:Int→zA→Option (Bool))(t:zA):Option (Bool):=
 if(List.length t.S:Int)>40 then
  some (true)
 else
 yJ 0 t
def jG(wA:zA→Option (Bool))(yJ:Int→zA→Option (Bool))(i:Int)(t:zA):Option (Bool):=
 if i<(List.length t.L:Int)then
  idx t.L i>>=fun x=>
  wA x>>=fun q1=>
  if q1=true then
   some (true)
  else
  yJ (IntKind.wrap .i64 (i+1)) t
 else
 some (false)
inductive gX where
 |wA (t:zA)
 |yJ (i:Int) (t:zA)
@[reducible] def z6a:gX→Type
 |.wA _=>Bool
 |.yJ _ _=>Bool
def z1o(g:Fam z6a):Fam z6a
 |.wA t=>z1v (fun i t=>g (gX.yJ i t)) t
 |.yJ i t=>jG (fun t=>g (gX.wA t)) (fun i t=>g (gX.yJ i t)) i t
theorem z5H:∀i,Good (fun g=>z1o g i)
 |.wA t=>by unfold z1o z1v;exact(.ite (.const _) (.call _))
 |.yJ i t=>by unfold z1o jG;exact(.ite (.bind (.const _) fun _=>(.bind (.call _) fun _=>(.ite (.const _) (.call _)))) (.const _))
def wA(t:zA):Option (Bool):=jT z1o (.wA t)
def yJ(i:Int)(t:zA):Option (Bool):=jT z1o (.yJ i t)
theorem y4E(t:zA):wA t=z1v yJ t:=yX z5H (.wA t)
theorem z5x(i:Int)(t:zA):yJ i t=jG wA yJ i t:=yX z5H (.yJ i t)
def uK(t:zA):Option (Bool):=
 vZ t 400 70>>=fun q1=>
 if q1<0 then
  some (true)
 else
 wA t>>=fun q2=>
 some (q2)
def z1A(yL:Int→Int→Int→Value→Option (Int))(v:Value)(left levels:Int):Option (Int):=
 if levels≤0 then
  some ((-1))
 else
 yL (IntKind.wrap .i64 (left-1)) levels 0 v
def jM(wB:Value→Int→Int→Option (Int))(yL:Int→Int→Int→Value→Option (Int))(left levels i:Int)(v:Value):Option (Int):=
 if i<(List.length v.L:Int)then
  if left≥0 then
   idx v.L i>>=fun x=>
   wB x left (IntKind.wrap .i64 (levels-1))>>=fun q1=>
   yL q1 levels (IntKind.wrap .i64 (i+1)) v
  else
  some (left)
 else
 some (left)
inductive gY where
 |wB (v:Value) (left levels:Int)
 |yL (left levels i:Int) (v:Value)
@[reducible] def z6d:gY→Type
 |.wB _ _ _=>Int
 |.yL _ _ _ _=>Int
def z1p(g:Fam z6d):Fam z6d
 |.wB v left levels=>z1A (fun left levels i v=>g (gY.yL left levels i v)) v left levels
 |.yL left levels i v=>jM (fun v left levels=>g (gY.wB v left levels)) (fun left levels i v=>g (gY.yL left levels i v)) left levels i v
theorem z5L:∀i,Good (fun g=>z1p g i)
 |.wB v left levels=>by unfold z1p z1A;exact(.ite (.const _) (.call _))
 |.yL left levels i v=>by unfold z1p jM;exact(.ite (.ite (.bind (.const _) fun _=>(.bind (.call _) fun _=>(.call _))) (.const _)) (.const _))
def wB(v:Value)(left levels:Int):Option (Int):=jT z1p (.wB v left levels)
def yL(left levels i:Int)(v:Value):Option (Int):=jT z1p (.yL left levels i v)
theorem y4G(v:Value)(left levels:Int):wB v left levels=z1A yL v left levels:=yX z5L (.wB v left levels)
theorem z5C(left levels i:Int)(v:Value):yL left levels i v=jM wB yL left levels i v:=yX z5L (.yL left levels i v)
def z3l(v:Value):Option (Bool):=
 wB v 300 60>>=fun q1=>
 some (decide (q1<0))
def jN(yV:(List Value)→Int→Option (Bool))(l:List Value)(i:Int):Option (Bool):=
 if i<(List.length l:Int)then
  if i<40 then
   idx l i>>=fun x=>
   z3l x>>=fun q1=>
   if q1=true then
    some (true)
   else
   yV l (IntKind.wrap .i64 (i+1))
  else
  some (decide ((List.length l:Int)>40))
 else
 some (decide ((List.length l:Int)>40))
inductive z1N where
 |yV (l:List Value) (i:Int)
@[reducible] def z3t:z1N→Type
 |.yV _ _=>Bool
def z1G(g:Fam z3t):Fam z3t
 |.yV l i=>jN (fun l i=>g (z1N.yV l i)) l i
theorem z5N:∀i,Good (fun g=>z1G g i)
 |.yV l i=>by unfold z1G jN;exact(.ite (.ite (.bind (.const _) fun _=>(.bind (.const _) fun _=>(.ite (.const _) (.call _)))) (.const _)) (.const _))
def yV(l:List Value)(i:Int):Option (Bool):=jT z1G (.yV l i)
theorem z5D(l:List Value)(i:Int):yV l i=jN yV l i:=yX z5N (.yV l i)
def z3m(l:List Value):Option (Bool):=
 yV l 0
def z2t(s:State):Option (Bool):=
 if(List.length s.Globals:Int)>40 then
  some (true)
 else
 if(List.length s.Locals:Int)>40 then
  some (true)
 else
 if(List.length s.Input:Int)>100 then
  some (true)
 else
 if(List.length s.Trace:Int)>200 then
  some (true)
 else
 if s.Fuel>3000 then
  some (true)
 else
 z3l s.Ret>>=fun q1=>
 if q1=true then
  some (true)
 else
 z3m s.Globals>>=fun q2=>
 if q2=true then
  some (true)
 else
 z3m s.Locals>>=fun q3=>
 some (q3)
def jP(yW:Int→Ref25Rule→Option (Bool))(i:Int)(c:Ref25Rule):Option (Bool):=
 if i<(List.length c.Types:Int)then
  if i<40 then
   idx c.Types i>>=fun x=>
   uK x>>=fun q1=>
   if q1=true then
    some (true)
   else
   yW (IntKind.wrap .i64 (i+1)) c
  else
  if(List.length c.Types:Int)>40 then
   some (true)
  else
  uK c.M>>=fun q2=>
  if q2=true then
   some (true)
  else
  uK c.L>>=fun q3=>
  if q3=true then
   some (true)
  else
  uK c.R>>=fun q4=>
  if q4=true then
   some (true)
  else
  z2t c.S>>=fun q5=>
  some (q5)
 else
 if(List.length c.Types:Int)>40 then
  some (true)
 else
 uK c.M>>=fun q6=>
 if q6=true then
  some (true)
 else
 uK c.L>>=fun q7=>
 if q7=true then
  some (true)
 else
 uK c.R>>=fun q8=>
 if q8=true then
  some (true)
 else
 z2t c.S>>=fun q9=>
 some (q9)
inductive z1O where
 |yW (i:Int) (c:Ref25Rule)
@[reducible] def z3u:z1O→Type
 |.yW _ _=>Bool
def z1H(g:Fam z3u):Fam z3u
 |.yW i c=>jP (fun i c=>g (z1O.yW i c)) i c
theorem z5P:∀i,Good (fun g=>z1H g i)
 |.yW i c=>by unfold z1H jP;exact(.ite (.ite (.bind (.const _) fun _=>(.bind (.const _) fun _=>(.ite (.const _) (.call _)))) (.ite (.const _) (.bind (.const _) fun _=>(.ite (.const _) (.bind (.const _) fun _=>(.ite (.const _) (.bind (.const _) fun _=>(.ite (.const _) (.bind (.const _) fun _=>(.const _)))))))))) (.ite (.const _) (.bind (.const _) fun _=>(.ite (.const _) (.bind (.const _) fun _=>(.ite (.const _) (.bind (.const _) fun _=>(.ite (.const _) (.bind (.const _) fun _=>(.const _))))))))))
def yW(i:Int)(c:Ref25Rule):Option (Bool):=jT z1H (.yW i c)
theorem z5F(i:Int)(c:Ref25Rule):yW i c=jP yW i c:=yX z5P (.yW i c)
def z4A(c:Ref25Rule):Option (Bool):=
 yW 0 c
def z0D(t:zA):Option (Bool):=
 if t.S=[]then
  if(List.length t.L:Int)=0 then
   if t.K=5 then
    some (true)
   else
   if t.K=6 then
    if t.N=0 then
     some (true)
    else
    some ((t.N == 1))
   else
   some (false)
  else
  some (false)
 else
 some (false)
def z0C(zL:Int→zA→Option (Bool))(t:zA):Option (Bool):=
 if t.K=5 then
  zL 0 t
 else
 if t.K=6 then
  zL 0 t
 else
 if t.K=7 then
  zL 0 t
 else
 if t.K=8 then
  zL 0 t
 else
 if t.K=9 then
  zL 0 t
 else
 if t.K=11 then
  zL 0 t
 else
 if t.K=13 then
  zL 0 t
 else
 if t.K=14 then
  zL 0 t
 else
 if t.K=15 then
  zL 0 t
 else
 if t.K=10 then
  if t.N=12 then
   if(List.length t.L:Int)<2 then
    some (false)
   else
   idx t.L 1>>=fun x=>
   if x.K=5 then
    idx t.L 1>>=fun x1=>
    if x1.N=0 then
     some (false)
    else
    zL 0 t
   else
   some (false)
  else
  if t.N=13 then
   if(List.length t.L:Int)<2 then
    some (false)
   else
   idx t.L 1>>=fun x2=>
   if x2.K=5 then
    idx t.L 1>>=fun x3=>
    if x3.N=0 then
     some (false)
    else
    zL 0 t
   else
   some (false)
  else
  zL 0 t
 else
 some (false)
def jO(wC:zA→Option (Bool))(zL:Int→zA→Option (Bool))(i:Int)(t:zA):Option (Bool):=
 if i<(List.length t.L:Int)then
  idx t.L i>>=fun x=>
  wC x>>=fun q1=>
  if q1=true then
   zL (IntKind.wrap .i64 (i+1)) t
  else
  some (false)
 else
 some (true)
inductive gZ where
 |wC (t:zA)
 |zL (i:Int) (t:zA)
@[reducible] def z6e:gZ→Type
 |.wC _=>Bool
 |.zL _ _=>Bool
def z1q(g:Fam z6e):Fam z6e
 |.wC t=>z0C (fun i t=>g (gZ.zL i t)) t
 |.zL i t=>jO (fun t=>g (gZ.wC t)) (fun i t=>g (gZ.zL i t)) i t
theorem z5O:∀i,Good (fun g=>z1q g i)
 |.wC t=>by unfold z1q z0C;exact(.ite (.call _) (.ite (.call _) (.ite (.call _) (.ite (.call _) (.ite (.call _) (.ite (.call _) (.ite (.call _) (.ite (.call _) (.ite (.call _) (.ite (.ite (.ite (.const _) (.bind (.const _) fun _=>(.ite (.bind (.const _) fun _=>(.ite (.const _) (.call _))) (.const _)))) (.ite (.ite (.const _) (.bind (.const _) fun _=>(.ite (.bind (.const _) fun _=>(.ite (.const _) (.call _))) (.const _)))) (.call _))) (.const _)))))))))))
 |.zL i t=>by unfold z1q jO;exact(.ite (.bind (.const _) fun _=>(.bind (.call _) fun _=>(.ite (.call _) (.const _)))) (.const _))
def wC(t:zA):Option (Bool):=jT z1q (.wC t)
def zL(i:Int)(t:zA):Option (Bool):=jT z1q (.zL i t)
theorem y4H(t:zA):wC t=z0C zL t:=yX z5O (.wC t)
theorem z5E(i:Int)(t:zA):zL i t=jO wC zL i t:=yX z5O (.zL i t)
def gJ(vF:(List zA)→Int→Int→zA→Option (zA×Bool))(l:List zA)(at_ i:Int)(o4:zA):Option (zA×Bool):=
 if i<(List.length l:Int)then
  if i=at_ then
   vF l at_ (IntKind.wrap .i64 (i+1)) o4
  else
  idx l i>>=fun x=>
  wC x>>=fun q1=>
  if q1=true then
   vF l at_ (IntKind.wrap .i64 (i+1)) o4
  else
  some ((zA.mk 0 0 [] [] 0 0),false)
 else
 idx l at_>>=fun x1=>
 some (x1,true)
inductive z2y where
 |vF (l:List zA) (at_ i:Int) (o4:zA)
@[reducible] def z3Z:z2y→Type
 |.vF _ _ _ _=>zA×Bool
def z2x(g:Fam z3Z):Fam z3Z
 |.vF l at_ i o4=>gJ (fun l at_ i o4=>g (z2y.vF l at_ i o4)) l at_ i o4
theorem z7q:∀i,Good (fun g=>z2x g i)
 |.vF l at_ i o4=>by unfold z2x gJ;exact(.ite (.ite (.call _) (.bind (.const _) fun _=>(.bind (.const _) fun _=>(.ite (.call _) (.const _))))) (.bind (.const _) fun _=>(.const _)))
def vF(l:List zA)(at_ i:Int)(o4:zA):Option (zA×Bool):=jT z2x (.vF l at_ i o4)
theorem z6S(l:List zA)(at_ i:Int)(o4:zA):vF l at_ i o4=gJ vF l at_ i o4:=yX z7q (.vF l at_ i o4)
def z4B(l:List zA)(at_:Int):Option (zA×Bool):=
 if at_<0 then
  some ((zA.mk 0 0 [] [] 0 0),false)
 else
 if at_≥(List.length l:Int)then
  some ((zA.mk 0 0 [] [] 0 0),false)
 else
 vF l at_ 0 (zA.mk 0 0 [] [] 0 0)
def gA(b:Bool):Option (Int):=
 if b=true then
  some (1)
 else
 some (0)
def z7g(op a:Int):Option (Int):=
 if op=1 then
  some (IntKind.wrap .i64 (IntKind.wrap .u64 (0-(IntKind.wrap .u64 a))))
 else
 if op=2 then
  gA (a == 0)>>=fun q1=>
  some (q1)
 else
 some (0)
def uQ(yB:Int→Int→Int→Int→Int→Option (Int×Int))(a b q left i:Int):Option (Int×Int):=
 if i≥0 then
  if(0:Int)≤(IntKind.wrap .u64 i)then
  if 2≠(0:Int)then
  if left≥9223372036854775808 then
   yB a b (IntKind.wrap .u64 ((IntKind.wrap .u64 (q*2))+1)) (IntKind.wrap .u64 ((IntKind.wrap .u64 ((IntKind.wrap .u64 (left*2))+(Int.tmod (Int.fdiv a (2 ^ min (Int.toNat (IntKind.wrap .u64 i)) (IntKind.bits .u64))) 2)))-b)) (IntKind.wrap .i64 (i-1))
  else
  if(IntKind.wrap .u64 ((IntKind.wrap .u64 (left*2))+(Int.tmod (Int.fdiv a (2 ^ min (Int.toNat (IntKind.wrap .u64 i)) (IntKind.bits .u64))) 2)))≥b then
   yB a b (IntKind.wrap .u64 ((IntKind.wrap .u64 (q*2))+1)) (IntKind.wrap .u64 ((IntKind.wrap .u64 ((IntKind.wrap .u64 (left*2))+(Int.tmod (Int.fdiv a (2 ^ min (Int.toNat (IntKind.wrap .u64 i)) (IntKind.bits .u64))) 2)))-b)) (IntKind.wrap .i64 (i-1))
  else
  yB a b (IntKind.wrap .u64 (q*2)) (IntKind.wrap .u64 ((IntKind.wrap .u64 (left*2))+(Int.tmod (Int.fdiv a (2 ^ min (Int.toNat (IntKind.wrap .u64 i)) (IntKind.bits .u64))) 2))) (IntKind.wrap .i64 (i-1))
  else none
  else none
 else
 some (q,left)
inductive z1h where
 |yB (a b q left i:Int)
@[reducible] def z2V:z1h→Type
 |.yB _ _ _ _ _=>Int×Int
def z1c(g:Fam z2V):Fam z2V
 |.yB a b q left i=>uQ (fun a b q left i=>g (z1h.yB a b q left i)) a b q left i
theorem z5p:∀i,Good (fun g=>z1c g i)
 |.yB a b q left i=>by unfold z1c uQ;exact(.ite (.ite (.ite (.ite (.call _) (.ite (.call _) (.call _))) (.const _)) (.const _)) (.const _))
def yB(a b q left i:Int):Option (Int×Int):=jT z1c (.yB a b q left i)
theorem z4x(a b q left i:Int):yB a b q left i=uQ yB a b q left i:=yX z5p (.yB a b q left i)
def z3L(a b:Int):Option (Int×Int):=
 yB a b 0 0 63
def z4y(a:Int):Option (Int):=
 if a<0 then
  some (IntKind.wrap .u64 ((IntKind.wrap .u64 (IntKind.wrap .i64 (0-(IntKind.wrap .i64 (a+1)))))+1))
 else
 some (IntKind.wrap .u64 a)
def z0Q(a b:Int):Option (Int×Int):=
 z4y a>>=fun q1=>
 z4y b>>=fun q2=>
 z3L q1 q2>>=fun q3=>
 if decide (a<0)=decide (b<0)then
  if a<0 then
   some (IntKind.wrap .i64 q3.1,IntKind.wrap .i64 (IntKind.wrap .u64 (0-q3.2)))
  else
  some (IntKind.wrap .i64 q3.1,IntKind.wrap .i64 q3.2)
 else
 if a<0 then
  some (IntKind.wrap .i64 (IntKind.wrap .u64 (0-q3.1)),IntKind.wrap .i64 (IntKind.wrap .u64 (0-q3.2)))
 else
 some (IntKind.wrap .i64 (IntKind.wrap .u64 (0-q3.1)),IntKind.wrap .i64 q3.2)
def gP(yN:Int→Int→Int→Option (Int))(x y out:Int):Option (Int):=
 if y>0 then
  if 2≠(0:Int)then
  if Int.tmod y 2=1 then
   if 2≠(0:Int)then
   yN (IntKind.wrap .u64 (x+x)) (IntKind.wrap .u64 (Int.tdiv y 2)) (IntKind.wrap .u64 (out+x))
   else none
  else
  if 2≠(0:Int)then
  yN (IntKind.wrap .u64 (x+x)) (IntKind.wrap .u64 (Int.tdiv y 2)) out
  else none
  else none
 else
 some (IntKind.wrap .i64 out)
inductive z1M where
 |yN (x y out:Int)
@[reducible] def z3s:z1M→Type
 |.yN _ _ _=>Int
def z1F(g:Fam z3s):Fam z3s
 |.yN x y out=>gP (fun x y out=>g (z1M.yN x y out)) x y out
theorem z5M:∀i,Good (fun g=>z1F g i)
 |.yN x y out=>by unfold z1F gP;exact(.ite (.ite (.ite (.ite (.call _) (.const _)) (.ite (.call _) (.const _))) (.const _)) (.const _))
def yN(x y out:Int):Option (Int):=jT z1F (.yN x y out)
theorem y0c(x y out:Int):yN x y out=gP yN x y out:=yX z5M (.yN x y out)
def z4z(a b:Int):Option (Int):=
 yN (IntKind.wrap .u64 a) (IntKind.wrap .u64 b) 0
def z7h(op a b:Int):Option (Int×Int):=
 if op=1 then
  if a=0 then
   gA (!(b == 0))>>=fun q1=>
   some (q1,0)
  else
  gA true>>=fun q2=>
  some (q2,0)
 else
 if op=2 then
  if a=0 then
   gA false>>=fun q3=>
   some (q3,0)
  else
  gA (!(b == 0))>>=fun q4=>
  some (q4,0)
 else
 if op=3 then
  gA ((a == b) == (op == 3))>>=fun q5=>
  some (q5,0)
 else
 if op=4 then
  gA ((a == b) == (op == 3))>>=fun q6=>
  some (q6,0)
 else
 if op=5 then
  gA ((decide (a<b)) == (op == 5))>>=fun q7=>
  some (q7,0)
 else
 if op=8 then
  gA ((decide (a<b)) == (op == 5))>>=fun q8=>
  some (q8,0)
 else
 if op=7 then
  gA ((decide (a>b)) == (op == 7))>>=fun q9=>
  some (q9,0)
 else
 if op=6 then
  gA ((decide (a>b)) == (op == 7))>>=fun q10=>
  some (q10,0)
 else
 if op=9 then
  some (IntKind.wrap .i64 (IntKind.wrap .u64 ((IntKind.wrap .u64 a)+(IntKind.wrap .u64 b))),0)
 else
 if op=10 then
  some (IntKind.wrap .i64 (IntKind.wrap .u64 ((IntKind.wrap .u64 a)-(IntKind.wrap .u64 b))),0)
 else
 if op=11 then
  z4z a b>>=fun q11=>
  some (q11,0)
 else
 if op=12 then
  if b=0 then
   some (0,1)
  else
  z0Q a b>>=fun q13=>
  some (q13.1,0)
 else
 if op=13 then
  if b=0 then
   some (0,1)
  else
  z0Q a b>>=fun q12=>
  some (q12.2,0)
 else
 some (0,0)
def wK(vE:Int→zA→zA→zA→Option (zA×Bool))(i:Int)(t o2 none_:zA):Option (zA×Bool):=
 if i<(List.length t.L:Int)then
  idx t.L i>>=fun x=>
  z0D x>>=fun q1=>
  if q1=true then
   idx t.L i>>=fun x1=>
   idx t.L 0>>=fun x2=>
   if x1.K=x2.K then
    vE (IntKind.wrap .i64 (i+1)) t o2 none_
   else
   some (none_,false)
  else
  some (none_,false)
 else
 idx t.L 0>>=fun x3=>
 if t.K=11 then
  if(List.length t.L:Int)=1 then
   if t.N=1 then
    if x3.K=5 then
     idx t.L 0>>=fun x4=>
     idx t.L 0>>=fun x5=>
     z7g t.N x5.N>>=fun q2=>
     some ((zA.mk x4.K q2 [] [] 0 0),true)
    else
    some (none_,false)
   else
   if t.N=2 then
    if x3.K=5 then
     some (none_,false)
    else
    idx t.L 0>>=fun x24=>
    idx t.L 0>>=fun x25=>
    z7g t.N x25.N>>=fun q12=>
    some ((zA.mk x24.K q12 [] [] 0 0),true)
   else
   some (none_,false)
  else
  some (none_,false)
 else
 if t.K=10 then
  if(List.length t.L:Int)=2 then
   if t.N<1 then
    some (none_,false)
   else
   if t.N>13 then
    some (none_,false)
   else
   if x3.K=5 then
    if t.N<3 then
     some (none_,false)
    else
    idx t.L 0>>=fun x54=>
    idx t.L 1>>=fun x55=>
    z7h t.N x54.N x55.N>>=fun q27=>
    if q27.2=0 then
     if t.N<9 then
      some ((zA.mk 6 q27.1 [] [] 0 0),true)
     else
     some ((zA.mk 5 q27.1 [] [] 0 0),true)
    else
    some (none_,false)
   else
   if t.N>4 then
    some (none_,false)
   else
   idx t.L 0>>=fun x52=>
   idx t.L 1>>=fun x53=>
   z7h t.N x52.N x53.N>>=fun q26=>
   if q26.2=0 then
    if t.N<9 then
     some ((zA.mk 6 q26.1 [] [] 0 0),true)
    else
    some ((zA.mk 5 q26.1 [] [] 0 0),true)
   else
   some (none_,false)
  else
  some (none_,false)
 else
 some (none_,false)
inductive z1P where
 |vE (i:Int) (t o2 none_:zA)
@[reducible] def z3v:z1P→Type
 |.vE _ _ _ _=>zA×Bool
def z1I(g:Fam z3v):Fam z3v
 |.vE i t o2 none_=>wK (fun i t o2 none_=>g (z1P.vE i t o2 none_)) i t o2 none_
theorem z5Q:∀i,Good (fun g=>z1I g i)
 |.vE i t o2 none_=>by unfold z1I wK;exact(.ite (.bind (.const _) fun _=>(.bind (.const _) fun _=>(.ite (.bind (.const _) fun _=>(.bind (.const _) fun _=>(.ite (.call _) (.const _)))) (.const _)))) (.bind (.const _) fun _=>(.ite (.ite (.ite (.ite (.bind (.const _) fun _=>(.bind (.const _) fun _=>(.bind (.const _) fun _=>(.const _)))) (.const _)) (.ite (.ite (.const _) (.bind (.const _) fun _=>(.bind (.const _) fun _=>(.bind (.const _) fun _=>(.const _))))) (.const _))) (.const _)) (.ite (.ite (.ite (.const _) (.ite (.const _) (.ite (.ite (.const _) (.bind (.const _) fun _=>(.bind (.const _) fun _=>(.bind (.const _) fun _=>(.ite (.ite (.const _) (.const _)) (.const _)))))) (.ite (.const _) (.bind (.const _) fun _=>(.bind (.const _) fun _=>(.bind (.const _) fun _=>(.ite (.ite (.const _) (.const _)) (.const _))))))))) (.const _)) (.const _)))))
def vE(i:Int)(t o2 none_:zA):Option (zA×Bool):=jT z1I (.vE i t o2 none_)
theorem z0q(i:Int)(t o2 none_:zA):vE i t o2 none_=wK vE i t o2 none_:=yX z5Q (.vE i t o2 none_)
def z4C(t:zA):Option (zA×Bool):=
 if t.S=[]then
  if(List.length t.L:Int)=0 then
   some ((zA.mk 0 0 [] [] 0 0),false)
  else
  if(List.length t.L:Int)>2 then
   some ((zA.mk 0 0 [] [] 0 0),false)
  else
  vE 0 t (zA.mk 0 0 [] [] 0 0) (zA.mk 0 0 [] [] 0 0)
 else
 some ((zA.mk 0 0 [] [] 0 0),false)
def z6T(m:zA)(rule:Int)(l:zA):Option (zA×Bool):=
 if rule=30 then
  z4C l>>=fun q1=>
  some (q1.1,q1.2)
 else
 if l.S=[]then
  if rule=31 then
   if l.K=8 then
    if(List.length l.L:Int)=0 then
     if l.N≥0 then
      if l.N<(List.length m.L:Int)then
       idx m.L l.N>>=fun x=>
       if x.K=31 then
        if(List.length x.L:Int)=1 then
         idx x.L 0>>=fun x1=>
         z0D x1>>=fun q2=>
         if q2=true then
          idx x.L 0>>=fun x2=>
          some (x2,true)
         else
         some ((zA.mk 0 0 [] [] 0 0),false)
        else
        some ((zA.mk 0 0 [] [] 0 0),false)
       else
       some ((zA.mk 0 0 [] [] 0 0),false)
      else
      some ((zA.mk 0 0 [] [] 0 0),false)
     else
     some ((zA.mk 0 0 [] [] 0 0),false)
    else
    some ((zA.mk 0 0 [] [] 0 0),false)
   else
   some ((zA.mk 0 0 [] [] 0 0),false)
  else
  if rule=32 then
   if l.K=13 then
    if(List.length l.L:Int)=1 then
     if l.N≥0 then
      idx l.L 0>>=fun x325=>
      if x325.K=15 then
       idx l.L 0>>=fun x326=>
       if x326.S=[]then
        idx l.L 0>>=fun x327=>
        if 64≠(0:Int)then
        if x327.N=IntKind.wrap .i64 (Int.tdiv l.N 64)then
         idx l.L 0>>=fun x328=>
         if 64≠(0:Int)then
         z4B x328.L (Int.tmod l.N 64)>>=fun q108=>
         some (q108.1,q108.2)
         else none
        else
        some ((zA.mk 0 0 [] [] 0 0),false)
        else none
       else
       some ((zA.mk 0 0 [] [] 0 0),false)
      else
      some ((zA.mk 0 0 [] [] 0 0),false)
     else
     some ((zA.mk 0 0 [] [] 0 0),false)
    else
    some ((zA.mk 0 0 [] [] 0 0),false)
   else
   some ((zA.mk 0 0 [] [] 0 0),false)
  else
  if rule=33 then
   if l.K=12 then
    if(List.length l.L:Int)=2 then
     idx l.L 0>>=fun x365=>
     if x365.K=14 then
      idx l.L 0>>=fun x366=>
      if x366.S=[]then
       idx l.L 1>>=fun x367=>
       if x367.K=5 then
        idx l.L 1>>=fun x368=>
        z0D x368>>=fun q121=>
        if q121=true then
         idx l.L 0>>=fun x369=>
         idx l.L 1>>=fun x370=>
         z4B x369.L x370.N>>=fun q122=>
         some (q122.1,q122.2)
        else
        some ((zA.mk 0 0 [] [] 0 0),false)
       else
       some ((zA.mk 0 0 [] [] 0 0),false)
      else
      some ((zA.mk 0 0 [] [] 0 0),false)
     else
     some ((zA.mk 0 0 [] [] 0 0),false)
    else
    some ((zA.mk 0 0 [] [] 0 0),false)
   else
   some ((zA.mk 0 0 [] [] 0 0),false)
  else
  some ((zA.mk 0 0 [] [] 0 0),false)
 else
 some ((zA.mk 0 0 [] [] 0 0),false)
def z7j(m:zA)(rule:Int)(l r_:zA):Option (Bool):=
 z6T m rule l>>=fun q1=>
 if q1.2=true then
  vR q1.1 r_>>=fun q2=>
  some (q2)
 else
 some (false)
def z2C(c:Ref25Rule):Option (Bool):=
 z4A c>>=fun q1=>
 if q1=true then
  z2j>>=fun q2=>
  some (q2)
 else
 z4v c.M>>=fun q3=>
 if q3=true then
  z6Z c.M c.Rule c.L c.R>>=fun q5=>
  z7j c.M c.Rule c.L c.R>>=fun q6=>
  if q5=q6 then
   z2j>>=fun q7=>
   some (q7)
  else
  some (false)
 else
 z2j>>=fun q4=>
 some (q4)
end
end Go.Proofs.Ytcpblelppecabaa.M

