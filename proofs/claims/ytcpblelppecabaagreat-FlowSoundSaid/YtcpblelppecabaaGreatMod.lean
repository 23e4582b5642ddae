import Derived.Test.YtcpblelppecabaaGreatTy
namespace Go.Proofs.YtcpblelppecabaaGreat.M
open Go Nt
set_option linter.unusedVariables false
noncomputable section
def z1P(flow_is_L4:(List zA)→Int→Int→Option (Bool))(v37:List zA)(v38 v39:Int):Option (Bool):=
 if v39<v38 then
  idx v37 v39>>=fun x=>
  if x.K=29 then
   flow_is_L4 v37 v38 (IntKind.wrap .i64 (v39+1))
  else
  some (false)
 else
 some (true)
inductive I_flow_is_L4 where
 |flow_is_L4 (v37:List zA) (v38 v39:Int)
@[reducible] def z9c:I_flow_is_L4→Type
 |.flow_is_L4 _ _ _=>Bool
def z6p(g:Fam z9c):Fam z9c
 |.flow_is_L4 v37 v38 v39=>z1P (fun v37 v38 v39=>g (I_flow_is_L4.flow_is_L4 v37 v38 v39)) v37 v38 v39
theorem y3E:∀i,Good (fun g=>z6p g i)
 |.flow_is_L4 v37 v38 v39=>by unfold z6p z1P;exact(.ite (.bind (.const _) fun _=>(.ite (.call _) (.const _))) (.const _))
def flow_is_L4(v37:List zA)(v38 v39:Int):Option (Bool):=uO z6p (.flow_is_L4 v37 v38 v39)
theorem y2h(v37:List zA)(v38 v39:Int):flow_is_L4 v37 v38 v39=z1P flow_is_L4 v37 v38 v39:=zX y3E (.flow_is_L4 v37 v38 v39)
def z6D(t:zA)(kind parts blocks:Int):Option (Bool):=
 if t.K=kind then
  if t.N=0 then
   if t.S=[]then
    if(List.length t.L:Int)=parts then
     if List.length t.L≤List.length t.L then
     if(0:Int)≤(IntKind.wrap .i64 (parts-blocks))then
     if Int.toNat (IntKind.wrap .i64 (parts-blocks))≤List.length t.L then
     flow_is_L4 (List.drop (Int.toNat (IntKind.wrap .i64 (parts-blocks))) (List.take (List.length t.L) t.L)) (List.length (List.drop (Int.toNat (IntKind.wrap .i64 (parts-blocks))) (List.take (List.length t.L) t.L)):Int) 0
     else none
     else none
     else none
    else
    some (false)
   else
   some (false)
  else
  some (false)
 else
 some (false)
def z1B(l:List zA):Option (zA):=
 some ((zA.mk 29 0 [] l 0 0))
def z4i(n:Int):Option (zA):=
 some ((zA.mk 7 n [] [] 0 0))
def z1A(t:zA)(depth by_ from_:Int)(lost:Bool):Option (zA×Int×Int×Bool):=
 if t.N<depth then
  some (t,by_,from_,lost)
 else
 if(IntKind.wrap .i64 (t.N-depth))<from_ then
  some (t,by_,from_,lost)
 else
 if by_<0 then
  if(IntKind.wrap .i64 (t.N-depth))<(IntKind.wrap .i64 (from_-by_))then
   some ({t with N:=IntKind.wrap .i64 (t.N+by_)},by_,from_,true)
  else
  some ({t with N:=IntKind.wrap .i64 (t.N+by_)},by_,from_,lost)
 else
 some ({t with N:=IntKind.wrap .i64 (t.N+by_)},by_,from_,lost)
def z4A(t:zA):Option (Bool):=
 if t.K=20 then
  some (true)
 else
 some ((t.K == 21))
def z1v(shift_In_L7:Int→(List zA)→Int→Int→Option (Int))(n:Int)(v24:List zA)(v25 v26:Int):Option (Int):=
 if v26<v25 then
  idx v24 v26>>=fun x=>
  z4A x>>=fun q1=>
  if q1=true then
   shift_In_L7 (IntKind.wrap .i64 (n+1)) v24 v25 (IntKind.wrap .i64 (v26+1))
  else
  shift_In_L7 n v24 v25 (IntKind.wrap .i64 (v26+1))
 else
 some (n)
inductive I_shift_In_L7 where
 |shift_In_L7 (n:Int) (v24:List zA) (v25 v26:Int)
@[reducible] def z7E:I_shift_In_L7→Type
 |.shift_In_L7 _ _ _ _=>Int
def z5s(g:Fam z7E):Fam z7E
 |.shift_In_L7 n v24 v25 v26=>z1v (fun n v24 v25 v26=>g (I_shift_In_L7.shift_In_L7 n v24 v25 v26)) n v24 v25 v26
theorem y1G:∀i,Good (fun g=>z5s g i)
 |.shift_In_L7 n v24 v25 v26=>by unfold z5s z1v;exact(.ite (.bind (.const _) fun _=>(.bind (.const _) fun _=>(.ite (.call _) (.call _)))) (.const _))
def shift_In_L7(n:Int)(v24:List zA)(v25 v26:Int):Option (Int):=uO z5s (.shift_In_L7 n v24 v25 v26)
theorem y0N(n:Int)(v24:List zA)(v25 v26:Int):shift_In_L7 n v24 v25 v26=z1v shift_In_L7 n v24 v25 v26:=zX y1G (.shift_In_L7 n v24 v25 v26)
def y2K(t:zA)(i:Int):Option (Int):=
 if i<0 then
  some (0)
 else
 if i≥(List.length t.L:Int)then
  some (0)
 else
 if t.K=29 then
  if(0:Int)≤i then
  if Int.toNat i≤List.length t.L then
  if 0≤Int.toNat i then
  shift_In_L7 0 (List.drop 0 (List.take (Int.toNat i) t.L)) (List.length (List.drop 0 (List.take (Int.toNat i) t.L)):Int) 0
  else none
  else none
  else none
 else
 if t.K=25 then
  if i=2 then
   some (1)
  else
  some (0)
 else
 if t.K=33 then
  if i=2 then
   idx t.L 0>>=fun x=>
   some ((List.length x.L:Int))
  else
  some (0)
 else
 some (0)
def uM(shift_walk_mover_turn_L8:Int→Int→(List zA)→Int→Int→zA→zA→(List zA)→Int→Int→Bool→Option (zA×Int×Int×Bool))(t:zA)(depth by_ from_:Int)(lost:Bool):Option (zA×Int×Int×Bool):=
 if t.K=7 then
  z1A t depth by_ from_ lost>>=fun q1=>
  some (q1.1,q1.2.1,q1.2.2.1,q1.2.2.2)
 else
 if(List.length t.L:Int)=0 then
  some (t,by_,from_,lost)
 else
 if((List.length t.L:Int)=(List.length t.L:Int)∧0≤(List.length t.L:Int)∧(List.length t.L:Int)*72≤140737488355328∧(List.length t.L:Int)≤140737488355328)then
 shift_walk_mover_turn_L8 depth 0 t.L (List.length t.L:Int) 0 t (zA.mk 0 0 [] [] 0 0) (List.replicate (Int.toNat (List.length t.L:Int)) (zA.mk 0 0 [] [] 0 0)) by_ from_ lost
 else none
def wJ(shift_walk_mover_turn:zA→Int→Int→Int→Bool→Option (zA×Int×Int×Bool))(shift_walk_mover_turn_L8:Int→Int→(List zA)→Int→Int→zA→zA→(List zA)→Int→Int→Bool→Option (zA×Int×Int×Bool))(depth more:Int)(v28:List zA)(v29 v30:Int)(t o6:zA)(o26:List zA)(by_ from_:Int)(lost:Bool):Option (zA×Int×Int×Bool):=
 if v30<v29 then
  idx v28 v30>>=fun x=>
  if t.K=29 then
   shift_walk_mover_turn x (IntKind.wrap .i64 (depth+more)) by_ from_ lost>>=fun q4=>
   if(0:Int)≤v30∧v30<(List.length o26:Int)then
   if Int.toNat v30<List.length o26 then
   z4A x>>=fun q5=>
   if q5=true then
    shift_walk_mover_turn_L8 depth (IntKind.wrap .i64 (more+1)) v28 v29 (IntKind.wrap .i64 (v30+1)) t o6 (o26.set (Int.toNat v30) q4.1) q4.2.1 q4.2.2.1 q4.2.2.2
   else
   shift_walk_mover_turn_L8 depth more v28 v29 (IntKind.wrap .i64 (v30+1)) t o6 (o26.set (Int.toNat v30) q4.1) q4.2.1 q4.2.2.1 q4.2.2.2
   else none
   else none
  else
  y2K t v30>>=fun q1=>
  shift_walk_mover_turn x (IntKind.wrap .i64 (depth+q1)) by_ from_ lost>>=fun q2=>
  if(0:Int)≤v30∧v30<(List.length o26:Int)then
  if Int.toNat v30<List.length o26 then
  shift_walk_mover_turn_L8 depth q1 v28 v29 (IntKind.wrap .i64 (v30+1)) t o6 (o26.set (Int.toNat v30) q2.1) q2.2.1 q2.2.2.1 q2.2.2.2
  else none
  else none
 else
 some ({t with L:=o26},by_,from_,lost)
inductive I_shift_walk_mover_turn where
 |shift_walk_mover_turn (t:zA) (depth by_ from_:Int) (lost:Bool)
 |shift_walk_mover_turn_L8 (depth more:Int) (v28:List zA) (v29 v30:Int) (t o6:zA) (o26:List zA) (by_ from_:Int) (lost:Bool)
@[reducible] def z1d:I_shift_walk_mover_turn→Type
 |.shift_walk_mover_turn _ _ _ _ _=>zA×Int×Int×Bool
 |.shift_walk_mover_turn_L8 _ _ _ _ _ _ _ _ _ _ _=>zA×Int×Int×Bool
def uK(g:Fam z1d):Fam z1d
 |.shift_walk_mover_turn t depth by_ from_ lost=>uM (fun depth more v28 v29 v30 t o6 o26 by_ from_ lost=>g (I_shift_walk_mover_turn.shift_walk_mover_turn_L8 depth more v28 v29 v30 t o6 o26 by_ from_ lost)) t depth by_ from_ lost
 |.shift_walk_mover_turn_L8 depth more v28 v29 v30 t o6 o26 by_ from_ lost=>wJ (fun t depth by_ from_ lost=>g (I_shift_walk_mover_turn.shift_walk_mover_turn t depth by_ from_ lost)) (fun depth more v28 v29 v30 t o6 o26 by_ from_ lost=>g (I_shift_walk_mover_turn.shift_walk_mover_turn_L8 depth more v28 v29 v30 t o6 o26 by_ from_ lost)) depth more v28 v29 v30 t o6 o26 by_ from_ lost
theorem z1c:∀i,Good (fun g=>uK g i)
 |.shift_walk_mover_turn t depth by_ from_ lost=>by unfold uK uM;exact(.ite (.bind (.const _) fun _=>(.const _)) (.ite (.const _) (.ite (.call _) (.const _))))
 |.shift_walk_mover_turn_L8 depth more v28 v29 v30 t o6 o26 by_ from_ lost=>by unfold uK wJ;exact(.ite (.bind (.const _) fun _=>(.ite (.bind (.call _) fun _=>(.ite (.ite (.bind (.const _) fun _=>(.ite (.call _) (.call _))) (.const _)) (.const _))) (.bind (.const _) fun _=>(.bind (.call _) fun _=>(.ite (.ite (.call _) (.const _)) (.const _)))))) (.const _))
def shift_walk_mover_turn(t:zA)(depth by_ from_:Int)(lost:Bool):Option (zA×Int×Int×Bool):=uO uK (.shift_walk_mover_turn t depth by_ from_ lost)
def shift_walk_mover_turn_L8(depth more:Int)(v28:List zA)(v29 v30:Int)(t o6:zA)(o26:List zA)(by_ from_:Int)(lost:Bool):Option (zA×Int×Int×Bool):=uO uK (.shift_walk_mover_turn_L8 depth more v28 v29 v30 t o6 o26 by_ from_ lost)
theorem z7p(t:zA)(depth by_ from_:Int)(lost:Bool):shift_walk_mover_turn t depth by_ from_ lost=uM shift_walk_mover_turn_L8 t depth by_ from_ lost:=zX z1c (.shift_walk_mover_turn t depth by_ from_ lost)
theorem z1Z(depth more:Int)(v28:List zA)(v29 v30:Int)(t o6:zA)(o26:List zA)(by_ from_:Int)(lost:Bool):shift_walk_mover_turn_L8 depth more v28 v29 v30 t o6 o26 by_ from_ lost=wJ shift_walk_mover_turn shift_walk_mover_turn_L8 depth more v28 v29 v30 t o6 o26 by_ from_ lost:=zX z1c (.shift_walk_mover_turn_L8 depth more v28 v29 v30 t o6 o26 by_ from_ lost)
def z4z(t:zA)(by_ from_:Int):Option (zA×Bool):=
 if from_<0 then
  some ((zA.mk 0 0 [] [] 0 0),false)
 else
 if from_>8192 then
  some ((zA.mk 0 0 [] [] 0 0),false)
 else
 if by_>8192 then
  some ((zA.mk 0 0 [] [] 0 0),false)
 else
 if by_<(-8192)then
  some ((zA.mk 0 0 [] [] 0 0),false)
 else
 shift_walk_mover_turn t 0 by_ from_ false>>=fun q1=>
 if q1.2.2.2=true then
  some ((zA.mk 0 0 [] [] 0 0),false)
 else
 some (q1.1,true)
def z9I(t:zA):Option (zA×Bool):=
 z6D t 25 3 1>>=fun q1=>
 if q1=true then
  idx t.L 1>>=fun x=>
  z4z x 1 0>>=fun q2=>
  idx t.L 2>>=fun x1=>
  z4z x1 2 1>>=fun q3=>
  z4i 2>>=fun q4=>
  z4i 1>>=fun q5=>
  z4i 2>>=fun q6=>
  z1B [(zA.mk 20 0 [] [q5] 0 0),q3.1,(zA.mk 22 0 [] [q6,(zA.mk 10 9 [] [q4,(zA.mk 5 1 [] [] 0 0)] 0 0)] 0 0)]>>=fun q7=>
  z4i 1>>=fun q8=>
  z4i 0>>=fun q9=>
  if(0:Int)≤1 then
  if Int.toNat 1≤List.length t.L then
  if(0:Int)≤1 then
  if Int.toNat 1=Int.toNat 1 then
  if 0≤Int.toNat 1 then
  z1B [(zA.mk 20 0 [] (List.drop 0 (List.take (Int.toNat 1) t.L)) 0 0),(zA.mk 20 0 [] [q2.1] 0 0),(zA.mk 24 0 [] [(zA.mk 10 5 [] [q8,q9] 0 0),q7] 0 0)]>>=fun q10=>
  some (q10,true)
  else none
  else none
  else none
  else none
  else none
 else
 some ((zA.mk 0 0 [] [] 0 0),false)
def z2S(slices_EqualFunc_G120Same:(List zA)→(List zA)→Option (Bool))(a b:zA):Option (Bool):=
 if a.K=b.K then
  if a.N=b.N then
   if a.S=b.S then
    slices_EqualFunc_G120Same a.L b.L>>=fun q1=>
    some (q1)
   else
   some (false)
  else
  some (false)
 else
 some (false)
def wE(slices_EqualFunc_G120Same_L4:(List zA)→(List zA)→Int→Int→Option (Bool))(s1 s2:List zA):Option (Bool):=
 if(List.length s1:Int)=(List.length s2:Int)then
  slices_EqualFunc_G120Same_L4 s2 s1 (List.length s1:Int) 0
 else
 some (false)
def yJ(wH:zA→zA→Option (Bool))(slices_EqualFunc_G120Same_L4:(List zA)→(List zA)→Int→Int→Option (Bool))(s2 v15:List zA)(v16 v17:Int):Option (Bool):=
 if v17<v16 then
  idx v15 v17>>=fun x=>
  idx s2 v17>>=fun x1=>
  wH x x1>>=fun q1=>
  if q1=true then
   slices_EqualFunc_G120Same_L4 s2 v15 v16 (IntKind.wrap .i64 (v17+1))
  else
  some (false)
 else
 some (true)
inductive z0z where
 |wH (a b:zA)
 |slices_EqualFunc_G120Same (s1 s2:List zA)
 |slices_EqualFunc_G120Same_L4 (s2 v15:List zA) (v16 v17:Int)
@[reducible] def y1h:z0z→Type
 |.wH _ _=>Bool
 |.slices_EqualFunc_G120Same _ _=>Bool
 |.slices_EqualFunc_G120Same_L4 _ _ _ _=>Bool
def z1H(g:Fam y1h):Fam y1h
 |.wH a b=>z2S (fun s1 s2=>g (z0z.slices_EqualFunc_G120Same s1 s2)) a b
 |.slices_EqualFunc_G120Same s1 s2=>wE (fun s2 v15 v16 v17=>g (z0z.slices_EqualFunc_G120Same_L4 s2 v15 v16 v17)) s1 s2
 |.slices_EqualFunc_G120Same_L4 s2 v15 v16 v17=>yJ (fun a b=>g (z0z.wH a b)) (fun s2 v15 v16 v17=>g (z0z.slices_EqualFunc_G120Same_L4 s2 v15 v16 v17)) s2 v15 v16 v17
theorem z7u:∀i,Good (fun g=>z1H g i)
 |.wH a b=>by unfold z1H z2S;exact(.ite (.ite (.ite (.bind (.call _) fun _=>(.const _)) (.const _)) (.const _)) (.const _))
 |.slices_EqualFunc_G120Same s1 s2=>by unfold z1H wE;exact(.ite (.call _) (.const _))
 |.slices_EqualFunc_G120Same_L4 s2 v15 v16 v17=>by unfold z1H yJ;exact(.ite (.bind (.const _) fun _=>(.bind (.const _) fun _=>(.bind (.call _) fun _=>(.ite (.call _) (.const _))))) (.const _))
def wH(a b:zA):Option (Bool):=uO z1H (.wH a b)
def slices_EqualFunc_G120Same(s1 s2:List zA):Option (Bool):=uO z1H (.slices_EqualFunc_G120Same s1 s2)
def slices_EqualFunc_G120Same_L4(s2 v15:List zA)(v16 v17:Int):Option (Bool):=uO z1H (.slices_EqualFunc_G120Same_L4 s2 v15 v16 v17)
theorem y4e(a b:zA):wH a b=z2S slices_EqualFunc_G120Same a b:=zX z7u (.wH a b)
theorem z1E(s1 s2:List zA):slices_EqualFunc_G120Same s1 s2=wE slices_EqualFunc_G120Same_L4 s1 s2:=zX z7u (.slices_EqualFunc_G120Same s1 s2)
theorem jS(s2 v15:List zA)(v16 v17:Int):slices_EqualFunc_G120Same_L4 s2 v15 v16 v17=yJ wH slices_EqualFunc_G120Same_L4 s2 v15 v16 v17:=zX z7u (.slices_EqualFunc_G120Same_L4 s2 v15 v16 v17)
def z4H(u:FlowUse):Option (Bool):=
 z9I u.l>>=fun q1=>
 if q1.2=true then
  wH u.r_ q1.1>>=fun q2=>
  some (q2)
 else
 some (false)
def z1Q(u:FlowUse):Option (Bool):=
 if(0:Int)≤1 then
 if Int.toNat 1≤List.length u.l.L then
 if 0≤Int.toNat 1 then
 idx u.l.L 2>>=fun x=>
 idx u.l.L 1>>=fun x1=>
 wH u.r_ (zA.mk 23 0 [] [(zA.mk 11 2 [] (List.drop 0 (List.take (Int.toNat 1) u.l.L)) 0 0),x,x1] 0 0)>>=fun q1=>
 some (q1)
 else none
 else none
 else none
def z2Z(t:zA)(n:Int):Option (Bool):=
 wH t (zA.mk 6 n [] [] 0 0)>>=fun q1=>
 some (q1)
def z0C(u:FlowUse):Option (Bool):=
 idx u.l.L 0>>=fun x=>
 z2Z x 0>>=fun q1=>
 if q1=true then
  z1B []>>=fun q2=>
  wH u.r_ q2>>=fun q3=>
  some (q3)
 else
 some (false)
def z6b(u:FlowUse):Option (Bool):=
 idx u.l.L 0>>=fun x=>
 z2Z x 0>>=fun q1=>
 if q1=true then
  idx u.l.L 2>>=fun x1=>
  wH u.r_ x1>>=fun q2=>
  some (q2)
 else
 some (false)
def z3K(u:FlowUse):Option (Bool):=
 idx u.l.L 1>>=fun x=>
 z1B [x,u.l]>>=fun q1=>
 idx u.l.L 0>>=fun x1=>
 z1B []>>=fun q2=>
 wH u.r_ (zA.mk 23 0 [] [x1,q1,q2] 0 0)>>=fun q3=>
 some (q3)
def z3J(u:FlowUse):Option (Bool):=
 idx u.l.L 1>>=fun x=>
 idx u.l.L 2>>=fun x1=>
 wH x x1>>=fun q1=>
 if q1=true then
  idx u.l.L 1>>=fun x2=>
  wH u.r_ x2>>=fun q2=>
  some (q2)
 else
 some (false)
def jK(quiet_Quiet_L3:Bool→(List zA)→Int→Int→Option (Bool))(quiet:Bool)(v7:List zA)(v8 v9:Int):Option (Bool):=
 if v9<v8 then
  idx v7 v9>>=fun x=>
  if x.K=5 then
   quiet_Quiet_L3 quiet v7 v8 (IntKind.wrap .i64 (v9+1))
  else
  if x.K=6 then
   quiet_Quiet_L3 quiet v7 v8 (IntKind.wrap .i64 (v9+1))
  else
  if x.K=7 then
   quiet_Quiet_L3 quiet v7 v8 (IntKind.wrap .i64 (v9+1))
  else
  if x.K=8 then
   quiet_Quiet_L3 quiet v7 v8 (IntKind.wrap .i64 (v9+1))
  else
  if x.K=9 then
   quiet_Quiet_L3 quiet v7 v8 (IntKind.wrap .i64 (v9+1))
  else
  if x.K=11 then
   quiet_Quiet_L3 quiet v7 v8 (IntKind.wrap .i64 (v9+1))
  else
  if x.K=13 then
   quiet_Quiet_L3 quiet v7 v8 (IntKind.wrap .i64 (v9+1))
  else
  if x.K=14 then
   quiet_Quiet_L3 quiet v7 v8 (IntKind.wrap .i64 (v9+1))
  else
  if x.K=15 then
   quiet_Quiet_L3 quiet v7 v8 (IntKind.wrap .i64 (v9+1))
  else
  if x.K=10 then
   if x.N=12 then
    if(List.length x.L:Int)<2 then
     some (false)
    else
    idx x.L 1>>=fun x33=>
    if x33.K=5 then
     idx x.L 1>>=fun x34=>
     if x34.N=0 then
      some (false)
     else
     quiet_Quiet_L3 quiet v7 v8 (IntKind.wrap .i64 (v9+1))
    else
    some (false)
   else
   if x.N=13 then
    if(List.length x.L:Int)<2 then
     some (false)
    else
    idx x.L 1>>=fun x35=>
    if x35.K=5 then
     idx x.L 1>>=fun x36=>
     if x36.N=0 then
      some (false)
     else
     quiet_Quiet_L3 quiet v7 v8 (IntKind.wrap .i64 (v9+1))
    else
    some (false)
   else
   quiet_Quiet_L3 quiet v7 v8 (IntKind.wrap .i64 (v9+1))
  else
  some (false)
 else
 some (quiet)
inductive I_quiet_Quiet_L3 where
 |quiet_Quiet_L3 (quiet:Bool) (v7:List zA) (v8 v9:Int)
@[reducible] def z5b:I_quiet_Quiet_L3→Type
 |.quiet_Quiet_L3 _ _ _ _=>Bool
def z2v(g:Fam z5b):Fam z5b
 |.quiet_Quiet_L3 quiet v7 v8 v9=>jK (fun quiet v7 v8 v9=>g (I_quiet_Quiet_L3.quiet_Quiet_L3 quiet v7 v8 v9)) quiet v7 v8 v9
theorem z8h:∀i,Good (fun g=>z2v g i)
 |.quiet_Quiet_L3 quiet v7 v8 v9=>by unfold z2v jK;exact(.ite (.bind (.const _) fun _=>(.ite (.call _) (.ite (.call _) (.ite (.call _) (.ite (.call _) (.ite (.call _) (.ite (.call _) (.ite (.call _) (.ite (.call _) (.ite (.call _) (.ite (.ite (.ite (.const _) (.bind (.const _) fun _=>(.ite (.bind (.const _) fun _=>(.ite (.const _) (.call _))) (.const _)))) (.ite (.ite (.const _) (.bind (.const _) fun _=>(.ite (.bind (.const _) fun _=>(.ite (.const _) (.call _))) (.const _)))) (.call _))) (.const _)))))))))))) (.const _))
def quiet_Quiet_L3(quiet:Bool)(v7:List zA)(v8 v9:Int):Option (Bool):=uO z2v (.quiet_Quiet_L3 quiet v7 v8 v9)
theorem z6R(quiet:Bool)(v7:List zA)(v8 v9:Int):quiet_Quiet_L3 quiet v7 v8 v9=jK quiet_Quiet_L3 quiet v7 v8 v9:=zX z8h (.quiet_Quiet_L3 quiet v7 v8 v9)
def gP(quiet_all_L3:(List zA)→Int→Option (List zA))(out:List zA)(i:Int):Option (List zA):=
 if i<(List.length out:Int)then
  idx out i>>=fun x=>
  if wN 72 (List.length out+List.length x.L)then
  quiet_all_L3 (out++x.L) (IntKind.wrap .i64 (i+1))
  else none
 else
 some (out)
inductive I_quiet_all_L3 where
 |quiet_all_L3 (out:List zA) (i:Int)
@[reducible] def z6z:I_quiet_all_L3→Type
 |.quiet_all_L3 _ _=>List zA
def z4B(g:Fam z6z):Fam z6z
 |.quiet_all_L3 out i=>gP (fun out i=>g (I_quiet_all_L3.quiet_all_L3 out i)) out i
theorem y0A:∀i,Good (fun g=>z4B g i)
 |.quiet_all_L3 out i=>by unfold z4B gP;exact(.ite (.bind (.const _) fun _=>(.ite (.call _) (.const _))) (.const _))
def quiet_all_L3(out:List zA)(i:Int):Option (List zA):=uO z4B (.quiet_all_L3 out i)
theorem z6g(out:List zA)(i:Int):quiet_all_L3 out i=gP quiet_all_L3 out i:=zX y0A (.quiet_all_L3 out i)
def z9R(t:zA):Option (List zA):=
 quiet_all_L3 [t] 0
def z6f(t:zA):Option (Bool):=
 z9R t>>=fun q1=>
 quiet_Quiet_L3 true q1 (List.length q1:Int) 0
def z3L(u:FlowUse):Option (Bool):=
 idx u.l.L 0>>=fun x=>
 z6f x>>=fun q1=>
 if q1=true then
  z3J u>>=fun q2=>
  some (q2)
 else
 some (false)
def z4X(u:FlowUse):Option (Bool):=
 idx u.l.L 0>>=fun x=>
 z2Z x 1>>=fun q1=>
 if q1=true then
  idx u.l.L 1>>=fun x1=>
  wH u.r_ x1>>=fun q2=>
  some (q2)
 else
 some (false)
def z4h(rule:Int)(l r_:zA):Option (Bool):=
 z6D l 23 3 2>>=fun q1=>
 if rule=34 then
  if q1=true then
   z1Q (FlowUse.mk l r_)>>=fun q2=>
   some (q2)
  else
  some (false)
 else
 if rule=35 then
  if q1=true then
   z4X (FlowUse.mk l r_)>>=fun q3=>
   some (q3)
  else
  some (false)
 else
 if rule=36 then
  if q1=true then
   z6b (FlowUse.mk l r_)>>=fun q4=>
   some (q4)
  else
  some (false)
 else
 if rule=37 then
  if q1=true then
   z3L (FlowUse.mk l r_)>>=fun q5=>
   some (q5)
  else
  some (false)
 else
 if rule=38 then
  z6D l 24 2 1>>=fun q6=>
  if q6=true then
   z0C (FlowUse.mk l r_)>>=fun q7=>
   some (q7)
  else
  some (false)
 else
 if rule=39 then
  z6D l 24 2 1>>=fun q8=>
  if q8=true then
   z3K (FlowUse.mk l r_)>>=fun q9=>
   some (q9)
  else
  some (false)
 else
 if rule=40 then
  z6D l 25 3 1>>=fun q10=>
  if q10=true then
   z4H (FlowUse.mk l r_)>>=fun q11=>
   some (q11)
  else
  some (false)
 else
 some (false)
def y0e(kind:Int)(l:List zA):Option (zA):=
 some ((zA.mk kind 0 [] l 0 0))
def z7k(l:List zA):Option (zA):=
 y0e 29 l>>=fun q1=>
 some (q1)
def z4j :Option (Bool):=
 z7k []>>=fun q1=>
 y0e 24 [(zA.mk 6 0 [] [] 0 0),q1]>>=fun q2=>
 z7k []>>=fun q3=>
 z4h 38 q2 q3>>=fun q4=>
 some (q4)
def z3d(yT:Int→Int→Int→zA→Option (Int))(t:zA)(left levels:Int):Option (Int):=
 if levels≤0 then
  some ((-1))
 else
 yT (IntKind.wrap .i64 (left-1)) levels 0 t
def z0a(uF:zA→Int→Int→Option (Int))(yT:Int→Int→Int→zA→Option (Int))(left levels i:Int)(t:zA):Option (Int):=
 if i<(List.length t.L:Int)then
  if left≥0 then
   idx t.L i>>=fun x=>
   uF x left (IntKind.wrap .i64 (levels-1))>>=fun q1=>
   yT q1 levels (IntKind.wrap .i64 (i+1)) t
  else
  some (left)
 else
 some (left)
inductive z0T where
 |uF (t:zA) (left levels:Int)
 |yT (left levels i:Int) (t:zA)
@[reducible] def z9d:z0T→Type
 |.uF _ _ _=>Int
 |.yT _ _ _ _=>Int
def z2U(g:Fam z9d):Fam z9d
 |.uF t left levels=>z3d (fun left levels i t=>g (z0T.yT left levels i t)) t left levels
 |.yT left levels i t=>z0a (fun t left levels=>g (z0T.uF t left levels)) (fun left levels i t=>g (z0T.yT left levels i t)) left levels i t
theorem z8K:∀i,Good (fun g=>z2U g i)
 |.uF t left levels=>by unfold z2U z3d;exact(.ite (.const _) (.call _))
 |.yT left levels i t=>by unfold z2U z0a;exact(.ite (.ite (.bind (.const _) fun _=>(.bind (.call _) fun _=>(.call _))) (.const _)) (.const _))
def uF(t:zA)(left levels:Int):Option (Int):=uO z2U (.uF t left levels)
def yT(left levels i:Int)(t:zA):Option (Int):=uO z2U (.yT left levels i t)
theorem v0B(t:zA)(left levels:Int):uF t left levels=z3d yT t left levels:=zX z8K (.uF t left levels)
theorem z8y(left levels i:Int)(t:zA):yT left levels i t=z0a uF yT left levels i t:=zX z8K (.yT left levels i t)
def z3e(yU:Int→zA→Option (Bool))(t:zA):Option (Bool):=
 if(List.length t.S:Int)>40 then
  some (true)
 else
 yU 0 t
def z0b(uG:zA→Option (Bool))(yU:Int→zA→Option (Bool))(i:Int)(t:zA):Option (Bool):=
 if i<(List.length t.L:Int)then
  idx t.L i>>=fun x=>
  uG x>>=fun q1=>
  if q1=true then
   some (true)
  else
  yU (IntKind.wrap .i64 (i+1)) t
 else
 some (false)
inductive z0U where
 |uG (t:zA)
 |yU (i:Int) (t:zA)
@[reducible] def z9e:z0U→Type
 |.uG _=>Bool
 |.yU _ _=>Bool
def z2V(g:Fam z9e):Fam z9e
 |.uG t=>z3e (fun i t=>g (z0U.yU i t)) t
 |.yU i t=>z0b (fun t=>g (z0U.uG t)) (fun i t=>g (z0U.yU i t)) i t
theorem z8L:∀i,Good (fun g=>z2V g i)
 |.uG t=>by unfold z2V z3e;exact(.ite (.const _) (.call _))
 |.yU i t=>by unfold z2V z0b;exact(.ite (.bind (.const _) fun _=>(.bind (.call _) fun _=>(.ite (.const _) (.call _)))) (.const _))
def uG(t:zA):Option (Bool):=uO z2V (.uG t)
def yU(i:Int)(t:zA):Option (Bool):=uO z2V (.yU i t)
theorem v0C(t:zA):uG t=z3e yU t:=zX z8L (.uG t)
theorem z8z(i:Int)(t:zA):yU i t=z0b uG yU i t:=zX z8L (.yU i t)
def jP(t:zA):Option (Bool):=
 uF t 400 70>>=fun q1=>
 if q1<0 then
  some (true)
 else
 uG t>>=fun q2=>
 some (q2)
def z3j(yW:Int→Int→Int→Value→Option (Int))(v:Value)(left levels:Int):Option (Int):=
 if levels≤0 then
  some ((-1))
 else
 yW (IntKind.wrap .i64 (left-1)) levels 0 v
def z0h(uH:Value→Int→Int→Option (Int))(yW:Int→Int→Int→Value→Option (Int))(left levels i:Int)(v:Value):Option (Int):=
 if i<(List.length v.L:Int)then
  if left≥0 then
   idx v.L i>>=fun x=>
   uH x left (IntKind.wrap .i64 (levels-1))>>=fun q1=>
   yW q1 levels (IntKind.wrap .i64 (i+1)) v
  else
  some (left)
 else
 some (left)
inductive z0V where
 |uH (v:Value) (left levels:Int)
 |yW (left levels i:Int) (v:Value)
@[reducible] def z9g:z0V→Type
 |.uH _ _ _=>Int
 |.yW _ _ _ _=>Int
def z2W(g:Fam z9g):Fam z9g
 |.uH v left levels=>z3j (fun left levels i v=>g (z0V.yW left levels i v)) v left levels
 |.yW left levels i v=>z0h (fun v left levels=>g (z0V.uH v left levels)) (fun left levels i v=>g (z0V.yW left levels i v)) left levels i v
theorem z8P:∀i,Good (fun g=>z2W g i)
 |.uH v left levels=>by unfold z2W z3j;exact(.ite (.const _) (.call _))
 |.yW left levels i v=>by unfold z2W z0h;exact(.ite (.ite (.bind (.const _) fun _=>(.bind (.call _) fun _=>(.call _))) (.const _)) (.const _))
def uH(v:Value)(left levels:Int):Option (Int):=uO z2W (.uH v left levels)
def yW(left levels i:Int)(v:Value):Option (Int):=uO z2W (.yW left levels i v)
theorem v0E(v:Value)(left levels:Int):uH v left levels=z3j yW v left levels:=zX z8P (.uH v left levels)
theorem z8E(left levels i:Int)(v:Value):yW left levels i v=z0h uH yW left levels i v:=zX z8P (.yW left levels i v)
def z5C(v:Value):Option (Bool):=
 uH v 300 60>>=fun q1=>
 some (decide (q1<0))
def z0j(vI:(List Value)→Int→Option (Bool))(l:List Value)(i:Int):Option (Bool):=
 if i<(List.length l:Int)then
  if i<40 then
   idx l i>>=fun x=>
   z5C x>>=fun q1=>
   if q1=true then
    some (true)
   else
   vI l (IntKind.wrap .i64 (i+1))
  else
  some (decide ((List.length l:Int)>40))
 else
 some (decide ((List.length l:Int)>40))
inductive z3B where
 |vI (l:List Value) (i:Int)
@[reducible] def z5Q:z3B→Type
 |.vI _ _=>Bool
def z3u(g:Fam z5Q):Fam z5Q
 |.vI l i=>z0j (fun l i=>g (z3B.vI l i)) l i
theorem z8S:∀i,Good (fun g=>z3u g i)
 |.vI l i=>by unfold z3u z0j;exact(.ite (.ite (.bind (.const _) fun _=>(.bind (.const _) fun _=>(.ite (.const _) (.call _)))) (.const _)) (.const _))
def vI(l:List Value)(i:Int):Option (Bool):=uO z3u (.vI l i)
theorem z8G(l:List Value)(i:Int):vI l i=z0j vI l i:=zX z8S (.vI l i)
def z5D(l:List Value):Option (Bool):=
 vI l 0
def z4v(s:State):Option (Bool):=
 if(List.length s.Globals:Int)>40 then
  some (true)
 else
 if(List.length s.Locals:Int)>40 then
  some (true)
 else
 if(List.length s.Input:Int)>100 then
  some (true)
 else
 if(List.length s.Trace:Int)>200 then
  some (true)
 else
 if s.Fuel>3000 then
  some (true)
 else
 z5C s.Ret>>=fun q1=>
 if q1=true then
  some (true)
 else
 z5D s.Globals>>=fun q2=>
 if q2=true then
  some (true)
 else
 z5D s.Locals>>=fun q3=>
 some (q3)
def z0k(vJ:Int→Ref25Rule→Option (Bool))(i:Int)(c:Ref25Rule):Option (Bool):=
 if i<(List.length c.Types:Int)then
  if i<40 then
   idx c.Types i>>=fun x=>
   jP x>>=fun q1=>
   if q1=true then
    some (true)
   else
   vJ (IntKind.wrap .i64 (i+1)) c
  else
  if(List.length c.Types:Int)>40 then
   some (true)
  else
  jP c.M>>=fun q2=>
  if q2=true then
   some (true)
  else
  jP c.L>>=fun q3=>
  if q3=true then
   some (true)
  else
  jP c.R>>=fun q4=>
  if q4=true then
   some (true)
  else
  z4v c.S>>=fun q5=>
  some (q5)
 else
 if(List.length c.Types:Int)>40 then
  some (true)
 else
 jP c.M>>=fun q6=>
 if q6=true then
  some (true)
 else
 jP c.L>>=fun q7=>
 if q7=true then
  some (true)
 else
 jP c.R>>=fun q8=>
 if q8=true then
  some (true)
 else
 z4v c.S>>=fun q9=>
 some (q9)
inductive z3C where
 |vJ (i:Int) (c:Ref25Rule)
@[reducible] def z5R:z3C→Type
 |.vJ _ _=>Bool
def z3v(g:Fam z5R):Fam z5R
 |.vJ i c=>z0k (fun i c=>g (z3C.vJ i c)) i c
theorem z8T:∀i,Good (fun g=>z3v g i)
 |.vJ i c=>by unfold z3v z0k;exact(.ite (.ite (.bind (.const _) fun _=>(.bind (.const _) fun _=>(.ite (.const _) (.call _)))) (.ite (.const _) (.bind (.const _) fun _=>(.ite (.const _) (.bind (.const _) fun _=>(.ite (.const _) (.bind (.const _) fun _=>(.ite (.const _) (.bind (.const _) fun _=>(.const _)))))))))) (.ite (.const _) (.bind (.const _) fun _=>(.ite (.const _) (.bind (.const _) fun _=>(.ite (.const _) (.bind (.const _) fun _=>(.ite (.const _) (.bind (.const _) fun _=>(.const _))))))))))
def vJ(i:Int)(c:Ref25Rule):Option (Bool):=uO z3v (.vJ i c)
theorem z8H(i:Int)(c:Ref25Rule):vJ i c=z0k vJ i c:=zX z8T (.vJ i c)
def z7j(c:Ref25Rule):Option (Bool):=
 vJ 0 c
def z7m(c:Ref28Rule):Option (Bool):=
 z7j ({c with Rule:=0})>>=fun q1=>
 if q1=true then
  some (true)
 else
 jP c.Ret>>=fun q2=>
 if q2=true then
  some (true)
 else
 some (decide ((List.length c.Nums:Int)>100))
def z2h(yE:Int→zA→zA→Option (Bool))(a b:zA):Option (Bool):=
 if a.K=b.K then
  if a.N=b.N then
   if a.S=b.S then
    if a.From=b.From then
     if a.To=b.To then
      if(List.length a.L:Int)=(List.length b.L:Int)then
       yE 0 a b
      else
      some (false)
     else
     some (false)
    else
    some (false)
   else
   some (false)
  else
  some (false)
 else
 some (false)
def gB(wL:zA→zA→Option (Bool))(yE:Int→zA→zA→Option (Bool))(i:Int)(a b:zA):Option (Bool):=
 if i<(List.length a.L:Int)then
  idx a.L i>>=fun x=>
  idx b.L i>>=fun x1=>
  wL x x1>>=fun q1=>
  if q1=true then
   yE (IntKind.wrap .i64 (i+1)) a b
  else
  some (false)
 else
 some (true)
inductive z0q where
 |wL (a b:zA)
 |yE (i:Int) (a b:zA)
@[reducible] def z7z:z0q→Type
 |.wL _ _=>Bool
 |.yE _ _ _=>Bool
def z2a(g:Fam z7z):Fam z7z
 |.wL a b=>z2h (fun i a b=>g (z0q.yE i a b)) a b
 |.yE i a b=>gB (fun a b=>g (z0q.wL a b)) (fun i a b=>g (z0q.yE i a b)) i a b
theorem z7t:∀i,Good (fun g=>z2a g i)
 |.wL a b=>by unfold z2a z2h;exact(.ite (.ite (.ite (.ite (.ite (.ite (.call _) (.const _)) (.const _)) (.const _)) (.const _)) (.const _)) (.const _))
 |.yE i a b=>by unfold z2a gB;exact(.ite (.bind (.const _) fun _=>(.bind (.const _) fun _=>(.bind (.call _) fun _=>(.ite (.call _) (.const _))))) (.const _))
def wL(a b:zA):Option (Bool):=uO z2a (.wL a b)
def yE(i:Int)(a b:zA):Option (Bool):=uO z2a (.yE i a b)
theorem y8g(a b:zA):wL a b=z2h yE a b:=zX z7t (.wL a b)
theorem z6S(i:Int)(a b:zA):yE i a b=gB wL yE i a b:=zX z7t (.yE i a b)
def gC(yP:Int→zA→Option (Bool))(i:Int)(d:zA):Option (Bool):=
 if i<(List.length d.L:Int)then
  idx d.L i>>=fun x=>
  if x.K=34 then
   idx d.L i>>=fun x1=>
   if(List.length x1.L:Int)=1 then
    yP (IntKind.wrap .i64 (i+1)) d
   else
   some (false)
  else
  some (false)
 else
 some (true)
inductive z2D where
 |yP (i:Int) (d:zA)
@[reducible] def z5c:z2D→Type
 |.yP _ _=>Bool
def z2w(g:Fam z5c):Fam z5c
 |.yP i d=>gC (fun i d=>g (z2D.yP i d)) i d
theorem z8i:∀i,Good (fun g=>z2w g i)
 |.yP i d=>by unfold z2w gC;exact(.ite (.bind (.const _) fun _=>(.ite (.bind (.const _) fun _=>(.ite (.call _) (.const _))) (.const _))) (.const _))
def yP(i:Int)(d:zA):Option (Bool):=uO z2w (.yP i d)
theorem z6U(i:Int)(d:zA):yP i d=gC yP i d:=zX z8i (.yP i d)
def z1S(d:zA):Option (Bool):=
 if d.K=30 then
  if(List.length d.L:Int)=0 then
   some (false)
  else
  yP 0 d
 else
 some (false)
def wO(zO:zA→zA→(List Int)→Option (Int))(yA:(List Int)→Int→Int→zA→Option (Int))(m t:zA)(in_:List Int):Option (Int):=
 if t.K=1 then
  if(List.length t.L:Int)=0 then
   some (1)
  else
  some (0)
 else
 if t.K=2 then
  if(List.length t.L:Int)=0 then
   some (1)
  else
  some (0)
 else
 if t.K=3 then
  if(List.length t.L:Int)=1 then
   if t.N≥1 then
    if t.N≤16 then
     idx t.L 0>>=fun x2=>
     zO m x2 in_>>=fun q3=>
     if(IntKind.wrap .i64 (q3*t.N))>64 then
      some (0)
     else
     some (IntKind.wrap .i64 (q3*t.N))
    else
    some (0)
   else
   some (0)
  else
  some (0)
 else
 if t.K=4 then
  if(List.length t.L:Int)=0 then
   if t.N<0 then
    some (0)
   else
   if t.N≥(List.length m.L:Int)then
    some (0)
   else
   yA in_ t.N 0 m
  else
  some (0)
 else
 some (0)
def uY(yA:(List Int)→Int→Int→zA→Option (Int))(zQ:(List Int)→Int→Int→Int→zA→zA→Option (Int))(in_:List Int)(at_ i:Int)(m:zA):Option (Int):=
 if i<(List.length in_:Int)then
  idx in_ i>>=fun x=>
  if x=at_ then
   some (0)
  else
  yA in_ at_ (IntKind.wrap .i64 (i+1)) m
 else
 idx m.L at_>>=fun x1=>
 z1S x1>>=fun q1=>
 if q1=true then
  zQ in_ at_ 0 0 m x1
 else
 some (0)
def uZ(zO:zA→zA→(List Int)→Option (Int))(zQ:(List Int)→Int→Int→Int→zA→zA→Option (Int))(in_:List Int)(at_ sum i:Int)(m d:zA):Option (Int):=
 if i<(List.length d.L:Int)then
  idx d.L i>>=fun x=>
  idx x.L 0>>=fun x1=>
  if wN 8 (List.length ([]:List Int)+List.length in_)then
  if wN 8 (List.length (([]:List Int)++in_)+List.length [at_])then
  zO m x1 ((([]:List Int)++in_)++[at_])>>=fun q1=>
  if q1=0 then
   some (0)
  else
  if(IntKind.wrap .i64 (sum+q1))>64 then
   some (0)
  else
  zQ in_ at_ (IntKind.wrap .i64 (sum+q1)) (IntKind.wrap .i64 (i+1)) m d
  else none
  else none
 else
 some (sum)
inductive uE where
 |zO (m t:zA) (in_:List Int)
 |yA (in_:List Int) (at_ i:Int) (m:zA)
 |zQ (in_:List Int) (at_ sum i:Int) (m d:zA)
@[reducible] def z7A:uE→Type
 |.zO _ _ _=>Int
 |.yA _ _ _ _=>Int
 |.zQ _ _ _ _ _ _=>Int
def z0p(g:Fam z7A):Fam z7A
 |.zO m t in_=>wO (fun m t in_=>g (uE.zO m t in_)) (fun in_ at_ i m=>g (uE.yA in_ at_ i m)) m t in_
 |.yA in_ at_ i m=>uY (fun in_ at_ i m=>g (uE.yA in_ at_ i m)) (fun in_ at_ sum i m d=>g (uE.zQ in_ at_ sum i m d)) in_ at_ i m
 |.zQ in_ at_ sum i m d=>uZ (fun m t in_=>g (uE.zO m t in_)) (fun in_ at_ sum i m d=>g (uE.zQ in_ at_ sum i m d)) in_ at_ sum i m d
theorem z5o:∀i,Good (fun g=>z0p g i)
 |.zO m t in_=>by unfold z0p wO;exact(.ite (.ite (.const _) (.const _)) (.ite (.ite (.const _) (.const _)) (.ite (.ite (.ite (.ite (.bind (.const _) fun _=>(.bind (.call _) fun _=>(.ite (.const _) (.const _)))) (.const _)) (.const _)) (.const _)) (.ite (.ite (.ite (.const _) (.ite (.const _) (.call _))) (.const _)) (.const _)))))
 |.yA in_ at_ i m=>by unfold z0p uY;exact(.ite (.bind (.const _) fun _=>(.ite (.const _) (.call _))) (.bind (.const _) fun _=>(.bind (.const _) fun _=>(.ite (.call _) (.const _)))))
 |.zQ in_ at_ sum i m d=>by unfold z0p uZ;exact(.ite (.bind (.const _) fun _=>(.bind (.const _) fun _=>(.ite (.ite (.bind (.call _) fun _=>(.ite (.const _) (.ite (.const _) (.call _)))) (.const _)) (.const _)))) (.const _))
def zO(m t:zA)(in_:List Int):Option (Int):=uO z0p (.zO m t in_)
def yA(in_:List Int)(at_ i:Int)(m:zA):Option (Int):=uO z0p (.yA in_ at_ i m)
def zQ(in_:List Int)(at_ sum i:Int)(m d:zA):Option (Int):=uO z0p (.zQ in_ at_ sum i m d)
theorem wS(m t:zA)(in_:List Int):zO m t in_=wO zO yA m t in_:=zX z5o (.zO m t in_)
theorem z3N(in_:List Int)(at_ i:Int)(m:zA):yA in_ at_ i m=uY yA zQ in_ at_ i m:=zX z5o (.yA in_ at_ i m)
theorem z3O(in_:List Int)(at_ sum i:Int)(m d:zA):zQ in_ at_ sum i m d=uZ zO zQ in_ at_ sum i m d:=zX z5o (.zQ in_ at_ sum i m d)
def gU(m t:zA):Option (Int):=
 zO m t ([]:List Int)>>=fun q1=>
 some (q1)
def z0R(zZ:Int→zA→zA→Int→Int→Str→(List zA)→Int→Int→Option (zA))(t:zA):Option (zA):=
 zZ 0 t (zA.mk 0 0 [] [] 0 0) t.K t.N [] [] 0 0
def jH(yB:zA→Option (zA))(zZ:Int→zA→zA→Int→Int→Str→(List zA)→Int→Int→Option (zA))(i:Int)(t o2:zA)(K N:Int)(S:Str)(L:List zA)(From To:Int):Option (zA):=
 if i<(List.length t.L:Int)then
  idx t.L i>>=fun x=>
  yB x>>=fun q1=>
  if wN 72 (List.length L+List.length [q1])then
  zZ (IntKind.wrap .i64 (i+1)) t o2 K N S (L++[q1]) From To
  else none
 else
 some ((zA.mk K N S L From To))
inductive jX where
 |yB (t:zA)
 |zZ (i:Int) (t o2:zA) (K N:Int) (S:Str) (L:List zA) (From To:Int)
@[reducible] def z5K:jX→Type
 |.yB _=>zA
 |.zZ _ _ _ _ _ _ _ _ _=>zA
def z0O(g:Fam z5K):Fam z5K
 |.yB t=>z0R (fun i t o2 K N S L From To=>g (jX.zZ i t o2 K N S L From To)) t
 |.zZ i t o2 K N S L From To=>jH (fun t=>g (jX.yB t)) (fun i t o2 K N S L From To=>g (jX.zZ i t o2 K N S L From To)) i t o2 K N S L From To
theorem z5J:∀i,Good (fun g=>z0O g i)
 |.yB t=>by unfold z0O z0R;exact(.call _)
 |.zZ i t o2 K N S L From To=>by unfold z0O jH;exact(.ite (.bind (.const _) fun _=>(.bind (.call _) fun _=>(.ite (.call _) (.const _)))) (.const _))
def yB(t:zA):Option (zA):=uO z0O (.yB t)
def zZ(i:Int)(t o2:zA)(K N:Int)(S:Str)(L:List zA)(From To:Int):Option (zA):=uO z0O (.zZ i t o2 K N S L From To)
theorem y4U(t:zA):yB t=z0R zZ t:=zX z5J (.yB t)
theorem z6h(i:Int)(t o2:zA)(K N:Int)(S:Str)(L:List zA)(From To:Int):zZ i t o2 K N S L From To=jH yB zZ i t o2 K N S L From To:=zX z5J (.zZ i t o2 K N S L From To)
def gL :Option (zA):=
 some ((zA.mk 2 0 [] [] 0 0))
def z6v :Option (zA):=
 some ((zA.mk 1 0 [] [] 0 0))
def z0Y(t:zA):Option (zA):=
 if t.K=5 then
  z6v>>=fun q1=>
  some (q1)
 else
 if t.K=6 then
  gL>>=fun q2=>
  some (q2)
 else
 some ((zA.mk 0 0 [] [] 0 0))
def vD(t:zA)(e:Int):Option (Ref16Got):=
 some ((Ref16Got.mk (zA.mk 0 0 [] [] 0 0) t.From e))
def z4n(vS:Int→zA→Option (Bool))(t:zA):Option (Bool):=
 if t.K=4 then
  some (false)
 else
 vS 0 t
def z0H(uX:zA→Option (Bool))(vS:Int→zA→Option (Bool))(i:Int)(t:zA):Option (Bool):=
 if i<(List.length t.L:Int)then
  idx t.L i>>=fun x=>
  uX x>>=fun q1=>
  if q1=true then
   vS (IntKind.wrap .i64 (i+1)) t
  else
  some (false)
 else
 some (true)
inductive z1L where
 |uX (t:zA)
 |vS (i:Int) (t:zA)
@[reducible] def y1a:z1L→Type
 |.uX _=>Bool
 |.vS _ _=>Bool
def z3Z(g:Fam y1a):Fam y1a
 |.uX t=>z4n (fun i t=>g (z1L.vS i t)) t
 |.vS i t=>z0H (fun t=>g (z1L.uX t)) (fun i t=>g (z1L.vS i t)) i t
theorem y0S:∀i,Good (fun g=>z3Z g i)
 |.uX t=>by unfold z3Z z4n;exact(.ite (.const _) (.call _))
 |.vS i t=>by unfold z3Z z0H;exact(.ite (.bind (.const _) fun _=>(.bind (.call _) fun _=>(.ite (.call _) (.const _)))) (.const _))
def uX(t:zA):Option (Bool):=uO z3Z (.uX t)
def vS(i:Int)(t:zA):Option (Bool):=uO z3Z (.vS i t)
theorem v3n(t:zA):uX t=z4n vS t:=zX y0S (.uX t)
theorem z9V(i:Int)(t:zA):vS i t=z0H uX vS i t:=zX y0S (.vS i t)
def z6T(m t:zA):Option (Bool):=
 gU m t>>=fun q1=>
 if q1>0 then
  uX t>>=fun q2=>
  some (q2)
 else
 some (false)
def jL:List zA→List zA→Option (List zA)
 |[],out=>some out
 |x::r,out=>yB x>>=fun q=>if wN 72 (List.length out+1)then jL r (out++[q])else none
def z1T(t:zA):Option zA:=if 0<List.length t.L then jL t.L []>>=fun l=>some ⟨t.K,t.N,[],l,0,0⟩else none
def z4k(vP:(List zA)→Int→zA→zA→Option (zA))(t:zA):Option (zA):=
 vP ([]:List zA) 0 t (zA.mk 0 0 [] [] 0 0)
def z0E(wU:zA→Option (zA))(vP:(List zA)→Int→zA→zA→Option (zA))(out:List zA)(i:Int)(t o2:zA):Option (zA):=
 if i<(List.length t.L:Int)then
  idx t.L i>>=fun x=>
  wU x>>=fun q1=>
  if wN 72 (List.length out+List.length [q1])then
  vP (out++[q1]) (IntKind.wrap .i64 (i+1)) t o2
  else none
 else
 some ((zA.mk t.K t.N t.S out 0 0))
inductive z1I where
 |wU (t:zA)
 |vP (out:List zA) (i:Int) (t o2:zA)
@[reducible] def y0X:z1I→Type
 |.wU _=>zA
 |.vP _ _ _ _=>zA
def z3W(g:Fam y0X):Fam y0X
 |.wU t=>z4k (fun out i t o2=>g (z1I.vP out i t o2)) t
 |.vP out i t o2=>z0E (fun t=>g (z1I.wU t)) (fun out i t o2=>g (z1I.vP out i t o2)) out i t o2
theorem y0P:∀i,Good (fun g=>z3W g i)
 |.wU t=>by unfold z3W z4k;exact(.call _)
 |.vP out i t o2=>by unfold z3W z0E;exact(.ite (.bind (.const _) fun _=>(.bind (.call _) fun _=>(.ite (.call _) (.const _)))) (.const _))
def wU(t:zA):Option (zA):=uO z3W (.wU t)
def vP(out:List zA)(i:Int)(t o2:zA):Option (zA):=uO z3W (.vP out i t o2)
theorem v3k(t:zA):wU t=z4k vP t:=zX y0P (.wU t)
theorem z9S(out:List zA)(i:Int)(t o2:zA):vP out i t o2=z0E wU vP out i t o2:=zX y0P (.vP out i t o2)
def z6V(m:zA)(locals:List zA)(t:zA):Option (zA):=
 if t.K=7 then
  idx locals (IntKind.wrap .i64 ((IntKind.wrap .i64 ((List.length locals:Int)-1))-t.N))>>=fun x=>
  wU x>>=fun q1=>
  some (q1)
 else
 if t.K=8 then
  idx m.L t.N>>=fun x1=>
  idx x1.L 0>>=fun x2=>
  z0Y x2>>=fun q2=>
  some (q2)
 else
 if t.K=9 then
  idx m.L t.N>>=fun x3=>
  idx x3.L 0>>=fun x4=>
  wU x4>>=fun q3=>
  some (q3)
 else
 if t.K=18 then
  z6v>>=fun q4=>
  some (q4)
 else
 z0Y t>>=fun q5=>
 some (q5)
def z7Y(t:zA)(e:Int):Option (Ref15Got):=
 some ((Ref15Got.mk (zA.mk 0 0 [] [] 0 0) (zA.mk 0 0 [] [] 0 0) t.From e))
def z5y(m:zA)(n kind:Int):Option (Bool):=
 if n<0 then
  some (false)
 else
 if n≥(List.length m.L:Int)then
  some (false)
 else
 idx m.L n>>=fun x=>
 if x.K=kind then
  if kind=31 then
   if(List.length x.L:Int)=1 then
    idx x.L 0>>=fun x1=>
    z0Y x1>>=fun q1=>
    some (!(q1.K == 0))
   else
   some (false)
  else
  if kind=32 then
   some (((List.length x.L:Int) == 1))
  else
  if kind=33 then
   some (((List.length x.L:Int) == 3))
  else
  z1S x>>=fun q2=>
  some (q2)
 else
 some (false)
def z6Y(m:zA)(locals:List zA)(t:zA):Option (Bool):=
 if t.K=7 then
  if t.N≥0 then
   some (decide (t.N<(List.length locals:Int)))
  else
  some (false)
 else
 if t.K=8 then
  z5y m t.N 31>>=fun q1=>
  some (q1)
 else
 if t.K=9 then
  z5y m t.N 32>>=fun q2=>
  some (q2)
 else
 if t.K=15 then
  z5y m t.N 30>>=fun q3=>
  some (q3)
 else
 if t.K=16 then
  z5y m t.N 33>>=fun q4=>
  some (q4)
 else
 some (!(t.K == 17))
def z4o(t:zA)(kind:Int):Option (Bool):=
 if t.K=kind then
  some (((List.length t.L:Int) == 0))
 else
 some (false)
def z3f(m:zA)(n:Int):Option (zA×Bool):=
 if n<0 then
  some ((zA.mk 0 0 [] [] 0 0),false)
 else
 if 64≠(0:Int)then
 if(IntKind.wrap .i64 (Int.tdiv n 64))≥(List.length m.L:Int)then
  some ((zA.mk 0 0 [] [] 0 0),false)
 else
 if 64≠(0:Int)then
 idx m.L (IntKind.wrap .i64 (Int.tdiv n 64))>>=fun x=>
 if 64≠(0:Int)then
 if x.K=30 then
  if(Int.tmod n 64)≥(List.length x.L:Int)then
   some ((zA.mk 0 0 [] [] 0 0),false)
  else
  idx x.L (Int.tmod n 64)>>=fun x1=>
  if x1.K=34 then
   idx x.L (Int.tmod n 64)>>=fun x2=>
   if(List.length x2.L:Int)=1 then
    idx x.L (Int.tmod n 64)>>=fun x3=>
    idx x3.L 0>>=fun x4=>
    some (x4,true)
   else
   some ((zA.mk 0 0 [] [] 0 0),false)
  else
  some ((zA.mk 0 0 [] [] 0 0),false)
 else
 some ((zA.mk 0 0 [] [] 0 0),false)
 else none
 else none
 else none
def gD(yQ:Int→Int→zA→zA→Option (Int))(n i:Int)(t d:zA):Option (Int):=
 if i<(List.length d.L:Int)then
  if i<64 then
   idx d.L i>>=fun x=>
   if x.S=t.S then
    some (IntKind.wrap .i64 ((IntKind.wrap .i64 (n*64))+i))
   else
   yQ n (IntKind.wrap .i64 (i+1)) t d
  else
  some ((-1))
 else
 some ((-1))
inductive z2E where
 |yQ (n i:Int) (t d:zA)
@[reducible] def z5d:z2E→Type
 |.yQ _ _ _ _=>Int
def z2x(g:Fam z5d):Fam z5d
 |.yQ n i t d=>gD (fun n i t d=>g (z2E.yQ n i t d)) n i t d
theorem z8j:∀i,Good (fun g=>z2x g i)
 |.yQ n i t d=>by unfold z2x gD;exact(.ite (.ite (.bind (.const _) fun _=>(.ite (.const _) (.call _))) (.const _)) (.const _))
def yQ(n i:Int)(t d:zA):Option (Int):=uO z2x (.yQ n i t d)
theorem z6X(n i:Int)(t d:zA):yQ n i t d=gD yQ n i t d:=zX z8j (.yQ n i t d)
def z6W(m t:zA)(n:Int):Option (Int):=
 z5y m n 30>>=fun q1=>
 if q1=true then
  if t.S=[]then
   z3f m t.N>>=fun q2=>
   if q2.2=true then
    if 64≠(0:Int)then
    if IntKind.wrap .i64 (Int.tdiv t.N 64)=n then
     some (t.N)
    else
    some ((-1))
    else none
   else
   some ((-1))
  else
  idx m.L n>>=fun x=>
  yQ n 0 t x
 else
 some ((-1))
def z4l(vQ:Int→zA→zA→Option (Bool))(a b:zA):Option (Bool):=
 if a.K=b.K then
  if a.N=b.N then
   if a.S=b.S then
    if(List.length a.L:Int)=(List.length b.L:Int)then
     vQ 0 a b
    else
    some (false)
   else
   some (false)
  else
  some (false)
 else
 some (false)
def z0F(wZ:zA→zA→Option (Bool))(vQ:Int→zA→zA→Option (Bool))(i:Int)(a b:zA):Option (Bool):=
 if i<(List.length a.L:Int)then
  idx a.L i>>=fun x=>
  idx b.L i>>=fun x1=>
  wZ x x1>>=fun q1=>
  if q1=true then
   vQ (IntKind.wrap .i64 (i+1)) a b
  else
  some (false)
 else
 some (true)
inductive z1J where
 |wZ (a b:zA)
 |vQ (i:Int) (a b:zA)
@[reducible] def y0Y:z1J→Type
 |.wZ _ _=>Bool
 |.vQ _ _ _=>Bool
def z3X(g:Fam y0Y):Fam y0Y
 |.wZ a b=>z4l (fun i a b=>g (z1J.vQ i a b)) a b
 |.vQ i a b=>z0F (fun a b=>g (z1J.wZ a b)) (fun i a b=>g (z1J.vQ i a b)) i a b
theorem y0Q:∀i,Good (fun g=>z3X g i)
 |.wZ a b=>by unfold z3X z4l;exact(.ite (.ite (.ite (.ite (.call _) (.const _)) (.const _)) (.const _)) (.const _))
 |.vQ i a b=>by unfold z3X z0F;exact(.ite (.bind (.const _) fun _=>(.bind (.const _) fun _=>(.bind (.call _) fun _=>(.ite (.call _) (.const _))))) (.const _))
def wZ(a b:zA):Option (Bool):=uO z3X (.wZ a b)
def vQ(i:Int)(a b:zA):Option (Bool):=uO z3X (.vQ i a b)
theorem v3l(a b:zA):wZ a b=z4l vQ a b:=zX y0Q (.wZ a b)
theorem z9T(i:Int)(a b:zA):vQ i a b=z0F wZ vQ i a b:=zX y0Q (.vQ i a b)
def z1j(wQ:(List zA)→(List zA)→Int→Option (Bool))(types parts:List zA)(i:Int):Option (Bool):=
 if i<(List.length parts:Int)then
  idx parts i>>=fun x=>
  if(List.length x.L:Int)=1 then
   idx types i>>=fun x1=>
   idx parts i>>=fun x2=>
   idx x2.L 0>>=fun x3=>
   wU x3>>=fun q1=>
   wZ x1 q1>>=fun q2=>
   if q2=true then
    wQ types parts (IntKind.wrap .i64 (i+1))
   else
   some (false)
  else
  some (false)
 else
 some (true)
inductive z5t where
 |wQ (types parts:List zA) (i:Int)
@[reducible] def z7B:z5t→Type
 |.wQ _ _ _=>Bool
def z5p(g:Fam z7B):Fam z7B
 |.wQ types parts i=>z1j (fun types parts i=>g (z5t.wQ types parts i)) types parts i
theorem y1D:∀i,Good (fun g=>z5p g i)
 |.wQ types parts i=>by unfold z5p z1j;exact(.ite (.bind (.const _) fun _=>(.ite (.bind (.const _) fun _=>(.bind (.const _) fun _=>(.bind (.const _) fun _=>(.bind (.const _) fun _=>(.bind (.const _) fun _=>(.ite (.call _) (.const _))))))) (.const _))) (.const _))
def wQ(types parts:List zA)(i:Int):Option (Bool):=uO z5p (.wQ types parts i)
theorem y0I(types parts:List zA)(i:Int):wQ types parts i=z1j wQ types parts i:=zX y1D (.wQ types parts i)
def y0r(types parts:List zA):Option (Bool):=
 if(List.length types:Int)=(List.length parts:Int)then
  wQ types parts 0
 else
 some (false)
def z0c(vF:(List zA)→Int→zA→zA→zA→Option (zA×Int×Int))(p:List zA)(i:Int)(m t o6:zA):Option (zA×Int×Int):=
 if i<(List.length p:Int)then
  idx p i>>=fun x=>
  idx p 0>>=fun x1=>
  wZ x x1>>=fun q1=>
  if q1=true then
   vF p (IntKind.wrap .i64 (i+1)) m t o6
  else
  some ((zA.mk 0 0 [] [] 0 0),0,10)
 else
 idx p 0>>=fun x2=>
 gU m (zA.mk 3 (List.length p:Int) [] [x2] 0 0)>>=fun q2=>
 if q2=0 then
  some ((zA.mk 0 0 [] [] 0 0),0,11)
 else
 some ((zA.mk 3 (List.length p:Int) [] [x2] 0 0),t.N,0)
inductive z3w where
 |vF (p:List zA) (i:Int) (m t o6:zA)
@[reducible] def z5L:z3w→Type
 |.vF _ _ _ _ _=>zA×Int×Int
def z3p(g:Fam z5L):Fam z5L
 |.vF p i m t o6=>z0c (fun p i m t o6=>g (z3w.vF p i m t o6)) p i m t o6
theorem z8M:∀i,Good (fun g=>z3p g i)
 |.vF p i m t o6=>by unfold z3p z0c;exact(.ite (.bind (.const _) fun _=>(.bind (.const _) fun _=>(.bind (.const _) fun _=>(.ite (.call _) (.const _))))) (.bind (.const _) fun _=>(.bind (.const _) fun _=>(.ite (.const _) (.const _)))))
def vF(p:List zA)(i:Int)(m t o6:zA):Option (zA×Int×Int):=uO z3p (.vF p i m t o6)
theorem z8A(p:List zA)(i:Int)(m t o6:zA):vF p i m t o6=z0c vF p i m t o6:=zX z8M (.vF p i m t o6)
def z5z(p:List zA)(m t o6:zA):Option (zA×Int×Int):=
 vF p 0 m t o6
def z2j(p:List zA)(m t o6:zA):Option (zA×Int×Int):=
 if t.K=14 then
  z5z p m t o6
 else
 some ((zA.mk 0 0 [] [] 0 0),0,10)
def z2i(p:List zA)(m t o6:zA):Option (zA×Int×Int):=
 if t.K=16 then
  idx m.L t.N>>=fun x=>
  idx x.L 0>>=fun x1=>
  y0r p x1.L>>=fun q1=>
  if q1=true then
   idx m.L t.N>>=fun x2=>
   idx x2.L 1>>=fun x3=>
   wU x3>>=fun q2=>
   some (q2,t.N,0)
  else
  z2j p m t o6
 else
 z2j p m t o6
def z1l(p:List zA)(m t o6:zA):Option (zA×Int×Int):=
 if t.K=15 then
  idx m.L t.N>>=fun x=>
  y0r p x.L>>=fun q1=>
  if q1=true then
   some ((zA.mk 4 t.N [] [] 0 0),t.N,0)
  else
  z2i p m t o6
 else
 z2i p m t o6
def z1a(p:List zA)(m t o6:zA):Option (zA×Int×Int):=
 if t.K=13 then
  idx p 0>>=fun x=>
  if x.K=4 then
   idx p 0>>=fun x1=>
   if(List.length x1.L:Int)=0 then
    idx p 0>>=fun x2=>
    z6W m t x2.N>>=fun q1=>
    if q1<0 then
     some ((zA.mk 0 0 [] [] 0 0),0,8)
    else
    z3f m q1>>=fun q2=>
    wU q2.1>>=fun q3=>
    some (q3,q1,0)
   else
   z1l p m t o6
  else
  z1l p m t o6
 else
 z1l p m t o6
def z0Z(p:List zA)(m t o6:zA):Option (zA×Int×Int):=
 if t.K=12 then
  idx p 0>>=fun x=>
  if x.K=3 then
   idx p 0>>=fun x1=>
   if(List.length x1.L:Int)=1 then
    idx p 1>>=fun x2=>
    z4o x2 1>>=fun q1=>
    if q1=true then
     idx p 0>>=fun x3=>
     idx x3.L 0>>=fun x4=>
     some (x4,t.N,0)
    else
    z1a p m t o6
   else
   z1a p m t o6
  else
  z1a p m t o6
 else
 z1a p m t o6
def z3g(p:List zA)(m t o6:zA):Option (zA×Int×Int):=
 if t.K=11 then
  if t.N=1 then
   idx p 0>>=fun x=>
   z4o x 1>>=fun q1=>
   if q1=true then
    idx p 0>>=fun x1=>
    some (x1,t.N,0)
   else
   z0Z p m t o6
  else
  if t.N=2 then
   idx p 0>>=fun x4=>
   z4o x4 2>>=fun q3=>
   if q3=true then
    idx p 0>>=fun x5=>
    some (x5,t.N,0)
   else
   z0Z p m t o6
  else
  z0Z p m t o6
 else
 z0Z p m t o6
def z1m(op:Int)(ints:Bool)(o6:zA):Option (zA):=
 if op≥9 then
  if ints=true then
   z6v>>=fun q1=>
   some (q1)
  else
  some ((zA.mk 0 0 [] [] 0 0))
 else
 some ((zA.mk 0 0 [] [] 0 0))
def z0d(op:Int)(ints:Bool)(o6:zA):Option (zA):=
 if op=5 then
  if ints=true then
   gL>>=fun q1=>
   some (q1)
  else
  z1m op ints o6
 else
 if op=6 then
  if ints=true then
   gL>>=fun q2=>
   some (q2)
  else
  z1m op ints o6
 else
 if op=7 then
  if ints=true then
   gL>>=fun q3=>
   some (q3)
  else
  z1m op ints o6
 else
 if op=8 then
  if ints=true then
   gL>>=fun q4=>
   some (q4)
  else
  z1m op ints o6
 else
 z1m op ints o6
def z4q(op:Int)(ints bools:Bool)(o6:zA):Option (zA):=
 if op=1 then
  if bools=true then
   gL>>=fun q1=>
   some (q1)
  else
  z0d op ints o6
 else
 if op=2 then
  if bools=true then
   gL>>=fun q6=>
   some (q6)
  else
  z0d op ints o6
 else
 if op=3 then
  if ints=true then
   gL>>=fun q11=>
   some (q11)
  else
  if bools=true then
   gL>>=fun q12=>
   some (q12)
  else
  z0d op ints o6
 else
 if op=4 then
  if ints=true then
   gL>>=fun q13=>
   some (q13)
  else
  if bools=true then
   gL>>=fun q14=>
   some (q14)
  else
  z0d op ints o6
 else
 z0d op ints o6
def z4p(op:Int)(ints:Bool)(a b o6:zA):Option (zA):=
 z4o a 2>>=fun q1=>
 if q1=true then
  z4o b 2>>=fun q2=>
  z4q op ints q2 o6
 else
 z4q op ints false o6
def y0s(op:Int)(a b:zA):Option (zA):=
 z4o a 1>>=fun q1=>
 if q1=true then
  z4o b 1>>=fun q2=>
  z4p op q2 a b (zA.mk 0 0 [] [] 0 0)
 else
 z4p op false a b (zA.mk 0 0 [] [] 0 0)
def z9X(m t:zA)(p:List zA):Option (zA×Int×Int):=
 if t.K=10 then
  idx p 0>>=fun x=>
  idx p 1>>=fun x1=>
  y0s t.N x x1>>=fun q1=>
  if q1.K=0 then
   z3g p m t (zA.mk 0 0 [] [] 0 0)
  else
  idx p 0>>=fun x2=>
  idx p 1>>=fun x3=>
  y0s t.N x2 x3>>=fun q2=>
  some (q2,t.N,0)
 else
 z3g p m t (zA.mk 0 0 [] [] 0 0)
def z6i(t:zA):Option (Bool):=
 if t.K=5 then
  some (((List.length t.L:Int) == 0))
 else
 if t.K=7 then
  some (((List.length t.L:Int) == 0))
 else
 if t.K=8 then
  some (((List.length t.L:Int) == 0))
 else
 if t.K=9 then
  some (((List.length t.L:Int) == 0))
 else
 if t.K=18 then
  some (((List.length t.L:Int) == 0))
 else
 if t.K=6 then
  if(List.length t.L:Int)=0 then
   if t.N=0 then
    some (true)
   else
   some ((t.N == 1))
  else
  some (false)
 else
 if t.K=11 then
  if(List.length t.L:Int)=1 then
   if t.N=1 then
    some (true)
   else
   some ((t.N == 2))
  else
  some (false)
 else
 if t.K=10 then
  if(List.length t.L:Int)=2 then
   if t.N≥1 then
    some (decide (t.N≤13))
   else
   some (false)
  else
  some (false)
 else
 if t.K=13 then
  some (((List.length t.L:Int) == 1))
 else
 if t.K=12 then
  some (((List.length t.L:Int) == 2))
 else
 if t.K=14 then
  some (decide ((List.length t.L:Int)≥1))
 else
 if t.K=15 then
  some (decide ((List.length t.L:Int)≥1))
 else
 if t.K=16 then
  some (true)
 else
 some ((t.K == 17))
def z6Z(wB:(List zA)→(List zA)→(List zA)→Int→zA→zA→Ref15Got→Option (Ref15Got))(m:zA)(locals:List zA)(t:zA):Option (Ref15Got):=
 z6i t>>=fun q1=>
 if q1=true then
  z6Y m locals t>>=fun q3=>
  if q3=true then
   if(List.length t.L:Int)=0 then
    if t.K=16 then
     wB locals ([]:List zA) ([]:List zA) 0 m t (Ref15Got.mk (zA.mk 0 0 [] [] 0 0) (zA.mk 0 0 [] [] 0 0) 0 0)
    else
    z6V m locals t>>=fun q5=>
    some ((Ref15Got.mk q5 (zA.mk t.K t.N [] [] 0 0) 0 0))
   else
   wB locals ([]:List zA) ([]:List zA) 0 m t (Ref15Got.mk (zA.mk 0 0 [] [] 0 0) (zA.mk 0 0 [] [] 0 0) 0 0)
  else
  z7Y t 8>>=fun q4=>
  some (q4)
 else
 z7Y t 12>>=fun q2=>
 some (q2)
def z1k(uU:zA→(List zA)→zA→Option (Ref15Got))(wB:(List zA)→(List zA)→(List zA)→Int→zA→zA→Ref15Got→Option (Ref15Got))(locals types forms:List zA)(i:Int)(m t:zA)(o6:Ref15Got):Option (Ref15Got):=
 if i<(List.length t.L:Int)then
  idx t.L i>>=fun x=>
  uU m locals x>>=fun q1=>
  if q1.E=0 then
   if wN 72 (List.length types+List.length [q1.Type_])then
   if wN 72 (List.length forms+List.length [q1.Form])then
   wB locals (types++[q1.Type_]) (forms++[q1.Form]) (IntKind.wrap .i64 (i+1)) m t o6
   else none
   else none
  else
  some (q1)
 else
 z9X m t types>>=fun q2=>
 if q2.2.2=0 then
  some ((Ref15Got.mk q2.1 (zA.mk t.K q2.2.1 [] forms 0 0) 0 0))
 else
 z7Y t q2.2.2>>=fun q3=>
 some (q3)
inductive z4M where
 |uU (m:zA) (locals:List zA) (t:zA)
 |wB (locals types forms:List zA) (i:Int) (m t:zA) (o6:Ref15Got)
@[reducible] def y5y:z4M→Type
 |.uU _ _ _=>Ref15Got
 |.wB _ _ _ _ _ _ _=>Ref15Got
def z6L(g:Fam y5y):Fam y5y
 |.uU m locals t=>z6Z (fun locals types forms i m t o6=>g (z4M.wB locals types forms i m t o6)) m locals t
 |.wB locals types forms i m t o6=>z1k (fun m locals t=>g (z4M.uU m locals t)) (fun locals types forms i m t o6=>g (z4M.wB locals types forms i m t o6)) locals types forms i m t o6
theorem y5d:∀i,Good (fun g=>z6L g i)
 |.uU m locals t=>by unfold z6L z6Z;exact(.bind (.const _) fun _=>(.ite (.bind (.const _) fun _=>(.ite (.ite (.ite (.call _) (.bind (.const _) fun _=>(.const _))) (.call _)) (.bind (.const _) fun _=>(.const _)))) (.bind (.const _) fun _=>(.const _))))
 |.wB locals types forms i m t o6=>by unfold z6L z1k;exact(.ite (.bind (.const _) fun _=>(.bind (.call _) fun _=>(.ite (.ite (.ite (.call _) (.const _)) (.const _)) (.const _)))) (.bind (.const _) fun _=>(.ite (.const _) (.bind (.const _) fun _=>(.const _)))))
def uU(m:zA)(locals:List zA)(t:zA):Option (Ref15Got):=uO z6L (.uU m locals t)
def wB(locals types forms:List zA)(i:Int)(m t:zA)(o6:Ref15Got):Option (Ref15Got):=uO z6L (.wB locals types forms i m t o6)
theorem v7P(m:zA)(locals:List zA)(t:zA):uU m locals t=z6Z wB m locals t:=zX y5d (.uU m locals t)
theorem y0J(locals types forms:List zA)(i:Int)(m t:zA)(o6:Ref15Got):wB locals types forms i m t o6=z1k uU wB locals types forms i m t o6:=zX y5d (.wB locals types forms i m t o6)
def z1n(m:zA)(locals:List zA)(t:zA):Option (List zA):=
 if t.K=20 then
  if(List.length t.L:Int)=1 then
   if wN 72 (List.length ([]:List zA)+List.length locals)then
   idx t.L 0>>=fun x=>
   uU m locals x>>=fun q1=>
   if wN 72 (List.length (([]:List zA)++locals)+List.length [q1.Type_])then
   some ((([]:List zA)++locals)++[q1.Type_])
   else none
   else none
  else
  some (locals)
 else
 if t.K=21 then
  if(List.length t.L:Int)=1 then
   if wN 72 (List.length ([]:List zA)+List.length locals)then
   idx t.L 0>>=fun x2=>
   if wN 72 (List.length (([]:List zA)++locals)+List.length [x2])then
   some ((([]:List zA)++locals)++[x2])
   else none
   else none
  else
  some (locals)
 else
 some (locals)
def jA(k:Int):Option (Int×Int):=
 if k=20 then
  some (1,0)
 else
 if k=21 then
  some (1,0)
 else
 if k=26 then
  some (1,0)
 else
 if k=27 then
  some (1,0)
 else
 if k=28 then
  some (1,0)
 else
 if k=22 then
  some (2,0)
 else
 if k=23 then
  some (3,2)
 else
 if k=24 then
  some (2,1)
 else
 if k=25 then
  some (3,1)
 else
 some ((-1),0)
def z0f(yM:Int→Int→zA→Option (Bool))(n i:Int)(t:zA):Option (Bool):=
 if i<n then
  idx t.L i>>=fun x=>
  if x.K=29 then
   yM n (IntKind.wrap .i64 (i+1)) t
  else
  some (false)
 else
 some (true)
inductive z3x where
 |yM (n i:Int) (t:zA)
@[reducible] def z5M:z3x→Type
 |.yM _ _ _=>Bool
def z3q(g:Fam z5M):Fam z5M
 |.yM n i t=>z0f (fun n i t=>g (z3x.yM n i t)) n i t
theorem z8N:∀i,Good (fun g=>z3q g i)
 |.yM n i t=>by unfold z3q z0f;exact(.ite (.bind (.const _) fun _=>(.ite (.call _) (.const _))) (.const _))
def yM(n i:Int)(t:zA):Option (Bool):=uO z3q (.yM n i t)
theorem z8C(n i:Int)(t:zA):yM n i t=z0f yM n i t:=zX z8N (.yM n i t)
def z7d(t:zA):Option (Bool):=
 if t.K=29 then
  some (true)
 else
 jA t.K>>=fun q1=>
 if(List.length t.L:Int)=q1.1 then
  yM q1.1 (IntKind.wrap .i64 (q1.1-q1.2)) t
 else
 some (false)
def z1U(wP:zA→Option (zA))(t:zA):Option (zA):=
 if t.K=12 then
  if(List.length t.L:Int)>0 then
   idx t.L 0>>=fun x=>
   wP x>>=fun q1=>
   some (q1)
  else
  some (t)
 else
 if t.K=13 then
  if(List.length t.L:Int)>0 then
   idx t.L 0>>=fun x1=>
   wP x1>>=fun q2=>
   some (q2)
  else
  some (t)
 else
 some (t)
inductive z7x where
 |wP (t:zA)
@[reducible] def y1b:z7x→Type
 |.wP _=>zA
def z7v(g:Fam y1b):Fam y1b
 |.wP t=>z1U (fun t=>g (z7x.wP t)) t
theorem y5c:∀i,Good (fun g=>z7v g i)
 |.wP t=>by unfold z7v z1U;exact(.ite (.ite (.bind (.const _) fun _=>(.bind (.call _) fun _=>(.const _))) (.const _)) (.ite (.ite (.bind (.const _) fun _=>(.bind (.call _) fun _=>(.const _))) (.const _)) (.const _)))
def wP(t:zA):Option (zA):=uO z7v (.wP t)
theorem z9W(t:zA):wP t=z1U wP t:=zX y5c (.wP t)
def z0s(x:Ref15Got):Option (Ref16Got):=
 some ({x with T_:=x.Form})
def z1z(m:zA)(locals:List zA)(t:zA)(a b:Int):Option (Ref16Got):=
 uU m locals t>>=fun q1=>
 if q1.E=0 then
  z4o q1.Type_ a>>=fun q2=>
  if q2=true then
   z0s q1>>=fun q6=>
   some (q6)
  else
  z4o q1.Type_ b>>=fun q3=>
  if q3=true then
   z0s q1>>=fun q5=>
   some (q5)
  else
  vD t 10>>=fun q4=>
  some (q4)
 else
 z0s q1>>=fun q7=>
 some (q7)
def z4s(yN:(List zA)→Int→zA→zA→zA→Ref16Got→Int→Int→Str→(List zA)→Int→Int→Option (Ref16Got))(yX:zA→(List zA)→zA→zA→Option (Ref16Got))(m:zA)(locals:List zA)(ret t:zA):Option (Ref16Got):=
 z7d t>>=fun q1=>
 if q1=true then
  if t.K=29 then
   yX m locals ret t>>=fun q3=>
   some (q3)
  else
  yN locals 0 m ret t (Ref16Got.mk (zA.mk 0 0 [] [] 0 0) 0 0) t.K t.N [] [] 0 0
 else
 vD t 12>>=fun q2=>
 some (q2)
def gQ(yN:(List zA)→Int→zA→zA→zA→Ref16Got→Int→Int→Str→(List zA)→Int→Int→Option (Ref16Got))(jN:zA→(List zA)→zA→zA→Int→Option (Ref16Got))(locals:List zA)(i:Int)(m ret t:zA)(o8:Ref16Got)(K N:Int)(S:Str)(L:List zA)(From To:Int):Option (Ref16Got):=
 if i<(List.length t.L:Int)then
  jN m locals ret t i>>=fun q1=>
  if q1.E=0 then
   if wN 72 (List.length L+List.length [q1.T_])then
   yN locals (IntKind.wrap .i64 (i+1)) m ret t o8 K N S (L++[q1.T_]) From To
   else none
  else
  some (q1)
 else
 if t.K=22 then
  idx t.L 0>>=fun x=>
  wP x>>=fun q2=>
  if q2.K=7 then
   idx t.L 0>>=fun x4=>
   uU m locals x4>>=fun q8=>
   idx t.L 1>>=fun x5=>
   uU m locals x5>>=fun q9=>
   wZ q8.Type_ q9.Type_>>=fun q10=>
   if q10=true then
    some ((Ref16Got.mk (zA.mk K N S L From To) 0 0))
   else
   vD t 10>>=fun q11=>
   some (q11)
  else
  if q2.K=9 then
   idx t.L 0>>=fun x2=>
   uU m locals x2>>=fun q4=>
   idx t.L 1>>=fun x3=>
   uU m locals x3>>=fun q5=>
   wZ q4.Type_ q5.Type_>>=fun q6=>
   if q6=true then
    some ((Ref16Got.mk (zA.mk K N S L From To) 0 0))
   else
   vD t 10>>=fun q7=>
   some (q7)
  else
  idx t.L 0>>=fun x1=>
  vD x1 12>>=fun q3=>
  some (q3)
 else
 some ((Ref16Got.mk (zA.mk K N S L From To) 0 0))
def z3h(yV:(List zA)→Int→zA→zA→zA→Ref16Got→Int→Int→Str→(List zA)→Int→Int→Option (Ref16Got))(m:zA)(locals:List zA)(ret t:zA):Option (Ref16Got):=
 yV locals 0 m ret t (Ref16Got.mk (zA.mk 0 0 [] [] 0 0) 0 0) t.K t.N [] [] 0 0
def z0e(jB:zA→(List zA)→zA→zA→Option (Ref16Got))(yV:(List zA)→Int→zA→zA→zA→Ref16Got→Int→Int→Str→(List zA)→Int→Int→Option (Ref16Got))(locals:List zA)(i:Int)(m ret t:zA)(o8:Ref16Got)(K N:Int)(S:Str)(L:List zA)(From To:Int):Option (Ref16Got):=
 if i<(List.length t.L:Int)then
  idx t.L i>>=fun x=>
  jB m locals ret x>>=fun q1=>
  if q1.E=0 then
   if wN 72 (List.length L+List.length [q1.T_])then
   idx t.L i>>=fun x1=>
   z1n m locals x1>>=fun q2=>
   yV q2 (IntKind.wrap .i64 (i+1)) m ret t o8 K N S (L++[q1.T_]) From To
   else none
  else
  some (q1)
 else
 some ((Ref16Got.mk (zA.mk K N S L From To) 0 0))
def z4r(yX:zA→(List zA)→zA→zA→Option (Ref16Got))(m:zA)(locals:List zA)(ret t:zA)(i:Int):Option (Ref16Got):=
 idx t.L i>>=fun x=>
 jA t.K>>=fun q1=>
 if i≥(IntKind.wrap .i64 (q1.1-q1.2))then
  if t.K=25 then
   if wN 72 (List.length ([]:List zA)+List.length locals)then
   if wN 72 (List.length (([]:List zA)++locals)+List.length [(zA.mk 1 0 [] [] 0 0)])then
   yX m ((([]:List zA)++locals)++[(zA.mk 1 0 [] [] 0 0)]) ret x>>=fun q2=>
   some (q2)
   else none
   else none
  else
  yX m locals ret x>>=fun q3=>
  some (q3)
 else
 if t.K=21 then
  gU m x>>=fun q4=>
  if q4=0 then
   vD x 11>>=fun q5=>
   some (q5)
  else
  yB x>>=fun q6=>
  some ((Ref16Got.mk q6 0 0))
 else
 if t.K=23 then
  z1z m locals x 2 2>>=fun q7=>
  some (q7)
 else
 if t.K=24 then
  z1z m locals x 2 2>>=fun q8=>
  some (q8)
 else
 if t.K=25 then
  z1z m locals x 1 1>>=fun q9=>
  some (q9)
 else
 if t.K=26 then
  z1z m locals x 1 2>>=fun q10=>
  some (q10)
 else
 if t.K=28 then
  if x.K=16 then
   uU m locals x>>=fun q12=>
   z0s q12>>=fun q18=>
   some (q18)
  else
  vD x 12>>=fun q11=>
  some (q11)
 else
 uU m locals x>>=fun q19=>
 if t.K=27 then
  if q19.E=0 then
   wU ret>>=fun q20=>
   wZ q19.Type_ q20>>=fun q21=>
   if q21=true then
    z0s q19>>=fun q23=>
    some (q23)
   else
   vD x 10>>=fun q22=>
   some (q22)
  else
  z0s q19>>=fun q24=>
  some (q24)
 else
 z0s q19>>=fun q25=>
 some (q25)
inductive uB where
 |jB (m:zA) (locals:List zA) (ret t:zA)
 |yN (locals:List zA) (i:Int) (m ret t:zA) (o8:Ref16Got) (K N:Int) (S:Str) (L:List zA) (From To:Int)
 |yX (m:zA) (locals:List zA) (ret t:zA)
 |yV (locals:List zA) (i:Int) (m ret t:zA) (o8:Ref16Got) (K N:Int) (S:Str) (L:List zA) (From To:Int)
 |jN (m:zA) (locals:List zA) (ret t:zA) (i:Int)
@[reducible] def y1c:uB→Type
 |.jB _ _ _ _=>Ref16Got
 |.yN _ _ _ _ _ _ _ _ _ _ _ _=>Ref16Got
 |.yX _ _ _ _=>Ref16Got
 |.yV _ _ _ _ _ _ _ _ _ _ _ _=>Ref16Got
 |.jN _ _ _ _ _=>Ref16Got
def gA(g:Fam y1c):Fam y1c
 |.jB m locals ret t=>z4s (fun locals i m ret t o8 K N S L From To=>g (uB.yN locals i m ret t o8 K N S L From To)) (fun m locals ret t=>g (uB.yX m locals ret t)) m locals ret t
 |.yN locals i m ret t o8 K N S L From To=>gQ (fun locals i m ret t o8 K N S L From To=>g (uB.yN locals i m ret t o8 K N S L From To)) (fun m locals ret t i=>g (uB.jN m locals ret t i)) locals i m ret t o8 K N S L From To
 |.yX m locals ret t=>z3h (fun locals i m ret t o8 K N S L From To=>g (uB.yV locals i m ret t o8 K N S L From To)) m locals ret t
 |.yV locals i m ret t o8 K N S L From To=>z0e (fun m locals ret t=>g (uB.jB m locals ret t)) (fun locals i m ret t o8 K N S L From To=>g (uB.yV locals i m ret t o8 K N S L From To)) locals i m ret t o8 K N S L From To
 |.jN m locals ret t i=>z4r (fun m locals ret t=>g (uB.yX m locals ret t)) m locals ret t i
theorem z3V:∀i,Good (fun g=>gA g i)
 |.jB m locals ret t=>by unfold gA z4s;exact(.bind (.const _) fun _=>(.ite (.ite (.bind (.call _) fun _=>(.const _)) (.call _)) (.bind (.const _) fun _=>(.const _))))
 |.yN locals i m ret t o8 K N S L From To=>by unfold gA gQ;exact(.ite (.bind (.call _) fun _=>(.ite (.ite (.call _) (.const _)) (.const _))) (.ite (.bind (.const _) fun _=>(.bind (.const _) fun _=>(.ite (.bind (.const _) fun _=>(.bind (.const _) fun _=>(.bind (.const _) fun _=>(.bind (.const _) fun _=>(.bind (.const _) fun _=>(.ite (.const _) (.bind (.const _) fun _=>(.const _)))))))) (.ite (.bind (.const _) fun _=>(.bind (.const _) fun _=>(.bind (.const _) fun _=>(.bind (.const _) fun _=>(.bind (.const _) fun _=>(.ite (.const _) (.bind (.const _) fun _=>(.const _)))))))) (.bind (.const _) fun _=>(.bind (.const _) fun _=>(.const _))))))) (.const _)))
 |.yX m locals ret t=>by unfold gA z3h;exact(.call _)
 |.yV locals i m ret t o8 K N S L From To=>by unfold gA z0e;exact(.ite (.bind (.const _) fun _=>(.bind (.call _) fun _=>(.ite (.ite (.bind (.const _) fun _=>(.bind (.const _) fun _=>(.call _))) (.const _)) (.const _)))) (.const _))
 |.jN m locals ret t i=>by unfold gA z4r;exact(.bind (.const _) fun _=>(.bind (.const _) fun _=>(.ite (.ite (.ite (.ite (.bind (.call _) fun _=>(.const _)) (.const _)) (.const _)) (.bind (.call _) fun _=>(.const _))) (.ite (.bind (.const _) fun _=>(.ite (.bind (.const _) fun _=>(.const _)) (.bind (.const _) fun _=>(.const _)))) (.ite (.bind (.const _) fun _=>(.const _)) (.ite (.bind (.const _) fun _=>(.const _)) (.ite (.bind (.const _) fun _=>(.const _)) (.ite (.bind (.const _) fun _=>(.const _)) (.ite (.ite (.bind (.const _) fun _=>(.bind (.const _) fun _=>(.const _))) (.bind (.const _) fun _=>(.const _))) (.bind (.const _) fun _=>(.ite (.ite (.bind (.const _) fun _=>(.bind (.const _) fun _=>(.ite (.bind (.const _) fun _=>(.const _)) (.bind (.const _) fun _=>(.const _))))) (.bind (.const _) fun _=>(.const _))) (.bind (.const _) fun _=>(.const _)))))))))))))
def jB(m:zA)(locals:List zA)(ret t:zA):Option (Ref16Got):=uO gA (.jB m locals ret t)
def yN(locals:List zA)(i:Int)(m ret t:zA)(o8:Ref16Got)(K N:Int)(S:Str)(L:List zA)(From To:Int):Option (Ref16Got):=uO gA (.yN locals i m ret t o8 K N S L From To)
def yX(m:zA)(locals:List zA)(ret t:zA):Option (Ref16Got):=uO gA (.yX m locals ret t)
def yV(locals:List zA)(i:Int)(m ret t:zA)(o8:Ref16Got)(K N:Int)(S:Str)(L:List zA)(From To:Int):Option (Ref16Got):=uO gA (.yV locals i m ret t o8 K N S L From To)
def jN(m:zA)(locals:List zA)(ret t:zA)(i:Int):Option (Ref16Got):=uO gA (.jN m locals ret t i)
theorem v3p(m:zA)(locals:List zA)(ret t:zA):jB m locals ret t=z4s yN yX m locals ret t:=zX z3V (.jB m locals ret t)
theorem z6j(locals:List zA)(i:Int)(m ret t:zA)(o8:Ref16Got)(K N:Int)(S:Str)(L:List zA)(From To:Int):yN locals i m ret t o8 K N S L From To=gQ yN jN locals i m ret t o8 K N S L From To:=zX z3V (.yN locals i m ret t o8 K N S L From To)
theorem v0D(m:zA)(locals:List zA)(ret t:zA):yX m locals ret t=z3h yV m locals ret t:=zX z3V (.yX m locals ret t)
theorem z8B(locals:List zA)(i:Int)(m ret t:zA)(o8:Ref16Got)(K N:Int)(S:Str)(L:List zA)(From To:Int):yV locals i m ret t o8 K N S L From To=z0e jB yV locals i m ret t o8 K N S L From To:=zX z3V (.yV locals i m ret t o8 K N S L From To)
theorem v3o(m:zA)(locals:List zA)(ret t:zA)(i:Int):jN m locals ret t i=z4r yX m locals ret t i:=zX z3V (.jN m locals ret t i)
def z0g(vG:(List zA)→Int→zA→Option (List zA))(out:List zA)(i:Int)(f:zA):Option (List zA):=
 idx f.L 0>>=fun x=>
 if i<(List.length x.L:Int)then
  idx f.L 0>>=fun x1=>
  idx x1.L i>>=fun x2=>
  idx x2.L 0>>=fun x3=>
  if wN 72 (List.length out+List.length [x3])then
  vG (out++[x3]) (IntKind.wrap .i64 (i+1)) f
  else none
 else
 some (out)
inductive z3y where
 |vG (out:List zA) (i:Int) (f:zA)
@[reducible] def z5N:z3y→Type
 |.vG _ _ _=>List zA
def z3r(g:Fam z5N):Fam z5N
 |.vG out i f=>z0g (fun out i f=>g (z3y.vG out i f)) out i f
theorem z8O:∀i,Good (fun g=>z3r g i)
 |.vG out i f=>by unfold z3r z0g;exact(.bind (.const _) fun _=>(.ite (.bind (.const _) fun _=>(.bind (.const _) fun _=>(.bind (.const _) fun _=>(.ite (.call _) (.const _))))) (.const _)))
def vG(out:List zA)(i:Int)(f:zA):Option (List zA):=uO z3r (.vG out i f)
theorem z8D(out:List zA)(i:Int)(f:zA):vG out i f=z0g vG out i f:=zX z8O (.vG out i f)
def z3i(f:zA):Option (List zA):=
 vG ([]:List zA) 0 f
def z1o(wM:(List zA)→Int→zA→zA→Ref16Got→Option (Ref16Got))(all:List zA)(i:Int)(m t:zA)(o4:Ref16Got):Option (Ref16Got):=
 if i<(List.length all:Int)then
  if t.N=1 then
   idx all i>>=fun x=>
   z6T m x>>=fun q1=>
   if q1=true then
    wM all (IntKind.wrap .i64 (i+1)) m t o4
   else
   idx all i>>=fun x1=>
   vD x1 12>>=fun q2=>
   some (q2)
  else
  wM all (IntKind.wrap .i64 (i+1)) m t o4
 else
 z3i t>>=fun q3=>
 idx t.L 1>>=fun x2=>
 idx t.L 2>>=fun x3=>
 yX m q3 x2 x3>>=fun q4=>
 if q4.E=0 then
  z1T t>>=fun q5=>
  if(0:Int)≤2∧2<(List.length q5.L:Int)then
  if Int.toNat 2<List.length q5.L then
  some ((Ref16Got.mk ({q5 with L:=q5.L.set (Int.toNat 2) q4.T_}) 0 0))
  else none
  else none
 else
 some (q4)
inductive z5u where
 |wM (all:List zA) (i:Int) (m t:zA) (o4:Ref16Got)
@[reducible] def z7C:z5u→Type
 |.wM _ _ _ _ _=>Ref16Got
def z5q(g:Fam z7C):Fam z7C
 |.wM all i m t o4=>z1o (fun all i m t o4=>g (z5u.wM all i m t o4)) all i m t o4
theorem y1E:∀i,Good (fun g=>z5q g i)
 |.wM all i m t o4=>by unfold z5q z1o;exact(.ite (.ite (.bind (.const _) fun _=>(.bind (.const _) fun _=>(.ite (.call _) (.bind (.const _) fun _=>(.bind (.const _) fun _=>(.const _)))))) (.call _)) (.bind (.const _) fun _=>(.bind (.const _) fun _=>(.bind (.const _) fun _=>(.bind (.const _) fun _=>(.ite (.bind (.const _) fun _=>(.ite (.ite (.const _) (.const _)) (.const _))) (.const _)))))))
def wM(all:List zA)(i:Int)(m t:zA)(o4:Ref16Got):Option (Ref16Got):=uO z5q (.wM all i m t o4)
theorem y0K(all:List zA)(i:Int)(m t:zA)(o4:Ref16Got):wM all i m t o4=z1o wM all i m t o4:=zX y1E (.wM all i m t o4)
def z1V(wV:(List zA)→Int→zA→zA→Ref16Got→Option (Ref16Got))(all:List zA)(i:Int)(m t:zA)(o4:Ref16Got):Option (Ref16Got):=
 if i<(List.length all:Int)then
  idx all i>>=fun x=>
  gU m x>>=fun q1=>
  if q1=0 then
   idx all i>>=fun x1=>
   vD x1 11>>=fun q2=>
   some (q2)
  else
  wV all (IntKind.wrap .i64 (i+1)) m t o4
 else
 wM all 0 m t o4
inductive z6r where
 |wV (all:List zA) (i:Int) (m t:zA) (o4:Ref16Got)
@[reducible] def z9f:z6r→Type
 |.wV _ _ _ _ _=>Ref16Got
def z6q(g:Fam z9f):Fam z9f
 |.wV all i m t o4=>z1V (fun all i m t o4=>g (z6r.wV all i m t o4)) all i m t o4
theorem y3F:∀i,Good (fun g=>z6q g i)
 |.wV all i m t o4=>by unfold z6q z1V;exact(.ite (.bind (.const _) fun _=>(.bind (.const _) fun _=>(.ite (.bind (.const _) fun _=>(.bind (.const _) fun _=>(.const _))) (.call _)))) (.const _))
def wV(all:List zA)(i:Int)(m t:zA)(o4:Ref16Got):Option (Ref16Got):=uO z6q (.wV all i m t o4)
theorem y2C(all:List zA)(i:Int)(m t:zA)(o4:Ref16Got):wV all i m t o4=z1V wV all i m t o4:=zX y3F (.wV all i m t o4)
def gF(yR:(List zA)→Int→Option (Bool))(l:List zA)(i:Int):Option (Bool):=
 if i<(List.length l:Int)then
  idx l i>>=fun x=>
  if x.K=34 then
   idx l i>>=fun x1=>
   if(List.length x1.L:Int)=1 then
    yR l (IntKind.wrap .i64 (i+1))
   else
   some (false)
  else
  some (false)
 else
 some (true)
inductive z2G where
 |yR (l:List zA) (i:Int)
@[reducible] def z5f:z2G→Type
 |.yR _ _=>Bool
def z2z(g:Fam z5f):Fam z5f
 |.yR l i=>gF (fun l i=>g (z2G.yR l i)) l i
theorem z8l:∀i,Good (fun g=>z2z g i)
 |.yR l i=>by unfold z2z gF;exact(.ite (.bind (.const _) fun _=>(.ite (.bind (.const _) fun _=>(.ite (.call _) (.const _))) (.const _))) (.const _))
def yR(l:List zA)(i:Int):Option (Bool):=uO z2z (.yR l i)
theorem z7b(l:List zA)(i:Int):yR l i=gF yR l i:=zX z8l (.yR l i)
def z2O(l:List zA):Option (Bool):=
 yR l 0
def y7j(m t:zA):Option (Ref16Got):=
 if t.N=0 then
  if(List.length t.L:Int)=3 then
   idx t.L 0>>=fun x4=>
   if x4.K=35 then
    idx t.L 0>>=fun x5=>
    z2O x5.L>>=fun q10=>
    if q10=true then
     idx t.L 2>>=fun x6=>
     if x6.K=29 then
      z3i t>>=fun q13=>
      idx t.L 1>>=fun x7=>
      if wN 72 (List.length q13+List.length [x7])then
      wV (q13++[x7]) 0 m t (Ref16Got.mk (zA.mk 0 0 [] [] 0 0) 0 0)
      else none
     else
     vD t 12>>=fun q12=>
     some (q12)
    else
    vD t 12>>=fun q11=>
    some (q11)
   else
   vD t 12>>=fun q9=>
   some (q9)
  else
  vD t 12>>=fun q8=>
  some (q8)
 else
 if t.N=1 then
  if(List.length t.L:Int)=3 then
   idx t.L 0>>=fun x=>
   if x.K=35 then
    idx t.L 0>>=fun x1=>
    z2O x1.L>>=fun q4=>
    if q4=true then
     idx t.L 2>>=fun x2=>
     if x2.K=29 then
      z3i t>>=fun q7=>
      idx t.L 1>>=fun x3=>
      if wN 72 (List.length q7+List.length [x3])then
      wV (q7++[x3]) 0 m t (Ref16Got.mk (zA.mk 0 0 [] [] 0 0) 0 0)
      else none
     else
     vD t 12>>=fun q6=>
     some (q6)
    else
    vD t 12>>=fun q5=>
    some (q5)
   else
   vD t 12>>=fun q3=>
   some (q3)
  else
  vD t 12>>=fun q2=>
  some (q2)
 else
 vD t 12>>=fun q1=>
 some (q1)
def z9Y(m:zA)(i:Int):Option (Ref16Got):=
 idx m.L i>>=fun x=>
 if x.K=33 then
  y7j m x>>=fun q1=>
  some (q1)
 else
 if x.K=30 then
  z1S x>>=fun q2=>
  if q2=true then
   gU m (zA.mk 4 i [] [] 0 0)>>=fun q4=>
   if q4=0 then
    vD x 11>>=fun q5=>
    some (q5)
   else
   yB x>>=fun q6=>
   some ((Ref16Got.mk q6 0 0))
  else
  vD x 12>>=fun q3=>
  some (q3)
 else
 if x.K=32 then
  if(List.length x.L:Int)=1 then
   idx x.L 0>>=fun x1=>
   gU m x1>>=fun q7=>
   if q7=0 then
    idx x.L 0>>=fun x2=>
    vD x2 11>>=fun q8=>
    some (q8)
   else
   yB x>>=fun q9=>
   some ((Ref16Got.mk q9 0 0))
  else
  vD x 12>>=fun q10=>
  some (q10)
 else
 if x.K=31 then
  if(List.length x.L:Int)=1 then
   idx x.L 0>>=fun x8=>
   if(List.length x8.L:Int)>0 then
    vD x 12>>=fun q21=>
    some (q21)
   else
   idx x.L 0>>=fun x9=>
   z0Y x9>>=fun q22=>
   if q22.K=0 then
    vD x 12>>=fun q23=>
    some (q23)
   else
   idx x.L 0>>=fun x10=>
   if x10.K=6 then
    idx x.L 0>>=fun x11=>
    if x11.N=0 then
     yB x>>=fun q26=>
     some ((Ref16Got.mk q26 0 0))
    else
    idx x.L 0>>=fun x12=>
    if x12.N=1 then
     yB x>>=fun q25=>
     some ((Ref16Got.mk q25 0 0))
    else
    vD x 12>>=fun q24=>
    some (q24)
   else
   yB x>>=fun q27=>
   some ((Ref16Got.mk q27 0 0))
  else
  vD x 12>>=fun q20=>
  some (q20)
 else
 vD x 12>>=fun q19=>
 some (q19)
def gE(yK:Int→zA→zA→Int→Int→Str→(List zA)→Int→Int→Option (zA×Int×Int))(i:Int)(m o2:zA)(K N:Int)(S:Str)(L:List zA)(From To:Int):Option (zA×Int×Int):=
 if i<(List.length m.L:Int)then
  z9Y m i>>=fun q1=>
  if q1.E=0 then
   if wN 72 (List.length L+List.length [q1.T_])then
   yK (IntKind.wrap .i64 (i+1)) m o2 K N S (L++[q1.T_]) From To
   else none
  else
  some ((zA.mk 0 0 [] [] 0 0),q1.At,q1.E)
 else
 some ((zA.mk K N S L From To),0,0)
inductive z2F where
 |yK (i:Int) (m o2:zA) (K N:Int) (S:Str) (L:List zA) (From To:Int)
@[reducible] def z5e:z2F→Type
 |.yK _ _ _ _ _ _ _ _ _=>zA×Int×Int
def z2y(g:Fam z5e):Fam z5e
 |.yK i m o2 K N S L From To=>gE (fun i m o2 K N S L From To=>g (z2F.yK i m o2 K N S L From To)) i m o2 K N S L From To
theorem z8k:∀i,Good (fun g=>z2y g i)
 |.yK i m o2 K N S L From To=>by unfold z2y gE;exact(.ite (.bind (.const _) fun _=>(.ite (.ite (.call _) (.const _)) (.const _))) (.const _))
def yK(i:Int)(m o2:zA)(K N:Int)(S:Str)(L:List zA)(From To:Int):Option (zA×Int×Int):=uO z2y (.yK i m o2 K N S L From To)
theorem z7a(i:Int)(m o2:zA)(K N:Int)(S:Str)(L:List zA)(From To:Int):yK i m o2 K N S L From To=gE yK i m o2 K N S L From To:=zX z8k (.yK i m o2 K N S L From To)
def z7Z(m:zA):Option (zA×Int×Int):=
 if m.K=36 then
  yK 0 m (zA.mk 0 0 [] [] 0 0) m.K m.N [] [] 0 0
 else
 some ((zA.mk 0 0 [] [] 0 0),m.From,12)
def z7c(m:zA):Option (Bool):=
 z7Z m>>=fun q1=>
 if q1.2.2=0 then
  wL q1.1 m>>=fun q2=>
  some (q2)
 else
 some (false)
def gH(yL:(List zA)→(List zA)→Int→Option (List zA))(out l:List zA)(i:Int):Option (List zA):=
 if i<(List.length l:Int)then
  idx l i>>=fun x=>
  idx x.L 0>>=fun x1=>
  if wN 72 (List.length out+List.length [x1])then
  yL (out++[x1]) l (IntKind.wrap .i64 (i+1))
  else none
 else
 some (out)
inductive z2H where
 |yL (out l:List zA) (i:Int)
@[reducible] def z5g:z2H→Type
 |.yL _ _ _=>List zA
def z2A(g:Fam z5g):Fam z5g
 |.yL out l i=>gH (fun out l i=>g (z2H.yL out l i)) out l i
theorem z8m:∀i,Good (fun g=>z2A g i)
 |.yL out l i=>by unfold z2A gH;exact(.ite (.bind (.const _) fun _=>(.bind (.const _) fun _=>(.ite (.call _) (.const _)))) (.const _))
def yL(out l:List zA)(i:Int):Option (List zA):=uO z2A (.yL out l i)
theorem z7e(out l:List zA)(i:Int):yL out l i=gH yL out l i:=zX z8m (.yL out l i)
def z0i(vH:(List zA)→Int→zA→zA→Option (List zA))(out:List zA)(i:Int)(m t:zA):Option (List zA):=
 if i<t.N then
  idx t.L 0>>=fun x=>
  if wN 72 (List.length out+List.length [x])then
  vH (out++[x]) (IntKind.wrap .i64 (i+1)) m t
  else none
 else
 if t.K=4 then
  idx m.L t.N>>=fun x1=>
  yL out x1.L 0
 else
 some (out)
inductive z3z where
 |vH (out:List zA) (i:Int) (m t:zA)
@[reducible] def z5O:z3z→Type
 |.vH _ _ _ _=>List zA
def z3s(g:Fam z5O):Fam z5O
 |.vH out i m t=>z0i (fun out i m t=>g (z3z.vH out i m t)) out i m t
theorem z8Q:∀i,Good (fun g=>z3s g i)
 |.vH out i m t=>by unfold z3s z0i;exact(.ite (.bind (.const _) fun _=>(.ite (.call _) (.const _))) (.ite (.bind (.const _) fun _=>(.const _)) (.const _)))
def vH(out:List zA)(i:Int)(m t:zA):Option (List zA):=uO z3s (.vH out i m t)
theorem z8F(out:List zA)(i:Int)(m t:zA):vH out i m t=z0i vH out i m t:=zX z8Q (.vH out i m t)
def z2k(m t:zA):Option (List zA):=
 if t.K=3 then
  vH ([]:List zA) 0 m t
 else
 if t.K=4 then
  idx m.L t.N>>=fun x=>
  yL ([]:List zA) x.L 0
 else
 some (([]:List zA))
def z4t(yI:(List zA)→Int→zA→Value→Option (Bool))(m t:zA)(v:Value):Option (Bool):=
 gU m t>>=fun q1=>
 if q1=0 then
  some (false)
 else
 if t.K=2 then
  if v.N=0 then
   z2k m t>>=fun q7=>
   if(List.length q7:Int)=(List.length v.L:Int)then
    yI q7 0 m v
   else
   some (false)
  else
  if v.N=1 then
   z2k m t>>=fun q4=>
   if(List.length q4:Int)=(List.length v.L:Int)then
    yI q4 0 m v
   else
   some (false)
  else
  some (false)
 else
 if t.K=1 then
  z2k m t>>=fun q9=>
  if(List.length q9:Int)=(List.length v.L:Int)then
   yI q9 0 m v
  else
  some (false)
 else
 if v.N=0 then
  z2k m t>>=fun q8=>
  if(List.length q8:Int)=(List.length v.L:Int)then
   yI q8 0 m v
  else
  some (false)
 else
 some (false)
def z0I(uQ:zA→zA→Value→Option (Bool))(yI:(List zA)→Int→zA→Value→Option (Bool))(p:List zA)(i:Int)(m:zA)(v:Value):Option (Bool):=
 if i<(List.length p:Int)then
  idx p i>>=fun x=>
  idx v.L i>>=fun x1=>
  uQ m x x1>>=fun q1=>
  if q1=true then
   yI p (IntKind.wrap .i64 (i+1)) m v
  else
  some (false)
 else
 some (true)
inductive z1M where
 |uQ (m t:zA) (v:Value)
 |yI (p:List zA) (i:Int) (m:zA) (v:Value)
@[reducible] def y1d:z1M→Type
 |.uQ _ _ _=>Bool
 |.yI _ _ _ _=>Bool
def z4a(g:Fam y1d):Fam y1d
 |.uQ m t v=>z4t (fun p i m v=>g (z1M.yI p i m v)) m t v
 |.yI p i m v=>z0I (fun m t v=>g (z1M.uQ m t v)) (fun p i m v=>g (z1M.yI p i m v)) p i m v
theorem y0T:∀i,Good (fun g=>z4a g i)
 |.uQ m t v=>by unfold z4a z4t;exact(.bind (.const _) fun _=>(.ite (.const _) (.ite (.ite (.bind (.const _) fun _=>(.ite (.call _) (.const _))) (.ite (.bind (.const _) fun _=>(.ite (.call _) (.const _))) (.const _))) (.ite (.bind (.const _) fun _=>(.ite (.call _) (.const _))) (.ite (.bind (.const _) fun _=>(.ite (.call _) (.const _))) (.const _))))))
 |.yI p i m v=>by unfold z4a z0I;exact(.ite (.bind (.const _) fun _=>(.bind (.const _) fun _=>(.bind (.call _) fun _=>(.ite (.call _) (.const _))))) (.const _))
def uQ(m t:zA)(v:Value):Option (Bool):=uO z4a (.uQ m t v)
def yI(p:List zA)(i:Int)(m:zA)(v:Value):Option (Bool):=uO z4a (.yI p i m v)
theorem v3q(m t:zA)(v:Value):uQ m t v=z4t yI m t v:=zX y0T (.uQ m t v)
theorem z9Z(p:List zA)(i:Int)(m:zA)(v:Value):yI p i m v=z0I uQ yI p i m v:=zX y0T (.yI p i m v)
def z1q(wR:(List zA)→(List Value)→Int→zA→Option (Bool))(types:List zA)(l:List Value)(i:Int)(m:zA):Option (Bool):=
 if i<(List.length l:Int)then
  idx types i>>=fun x=>
  idx l i>>=fun x1=>
  uQ m x x1>>=fun q1=>
  if q1=true then
   wR types l (IntKind.wrap .i64 (i+1)) m
  else
  some (false)
 else
 some (true)
inductive z5v where
 |wR (types:List zA) (l:List Value) (i:Int) (m:zA)
@[reducible] def z7D:z5v→Type
 |.wR _ _ _ _=>Bool
def z5r(g:Fam z7D):Fam z7D
 |.wR types l i m=>z1q (fun types l i m=>g (z5v.wR types l i m)) types l i m
theorem y1F:∀i,Good (fun g=>z5r g i)
 |.wR types l i m=>by unfold z5r z1q;exact(.ite (.bind (.const _) fun _=>(.bind (.const _) fun _=>(.bind (.const _) fun _=>(.ite (.call _) (.const _))))) (.const _))
def wR(types:List zA)(l:List Value)(i:Int)(m:zA):Option (Bool):=uO z5r (.wR types l i m)
theorem y0M(types:List zA)(l:List Value)(i:Int)(m:zA):wR types l i m=z1q wR types l i m:=zX y1F (.wR types l i m)
def y2D(m:zA)(types:List zA)(l:List Value):Option (Bool):=
 if(List.length types:Int)=(List.length l:Int)then
  wR types l 0 m
 else
 some (false)
def z2P(vT:Int→Value→Value→Option (Bool))(a b:Value):Option (Bool):=
 if a.N=b.N then
  if(List.length a.L:Int)=(List.length b.L:Int)then
   vT 0 a b
  else
  some (false)
 else
 some (false)
def gR(uA:Value→Value→Option (Bool))(vT:Int→Value→Value→Option (Bool))(i:Int)(a b:Value):Option (Bool):=
 if i<(List.length a.L:Int)then
  idx a.L i>>=fun x=>
  idx b.L i>>=fun x1=>
  uA x x1>>=fun q1=>
  if q1=true then
   vT (IntKind.wrap .i64 (i+1)) a b
  else
  some (false)
 else
 some (true)
inductive z1N where
 |uA (a b:Value)
 |vT (i:Int) (a b:Value)
@[reducible] def y1e:z1N→Type
 |.uA _ _=>Bool
 |.vT _ _ _=>Bool
def z4b(g:Fam y1e):Fam y1e
 |.uA a b=>z2P (fun i a b=>g (z1N.vT i a b)) a b
 |.vT i a b=>gR (fun a b=>g (z1N.uA a b)) (fun i a b=>g (z1N.vT i a b)) i a b
theorem y0U:∀i,Good (fun g=>z4b g i)
 |.uA a b=>by unfold z4b z2P;exact(.ite (.ite (.call _) (.const _)) (.const _))
 |.vT i a b=>by unfold z4b gR;exact(.ite (.bind (.const _) fun _=>(.bind (.const _) fun _=>(.bind (.call _) fun _=>(.ite (.call _) (.const _))))) (.const _))
def uA(a b:Value):Option (Bool):=uO z4b (.uA a b)
def vT(i:Int)(a b:Value):Option (Bool):=uO z4b (.vT i a b)
theorem y4a(a b:Value):uA a b=z2P vT a b:=zX y0U (.uA a b)
theorem z6k(i:Int)(a b:Value):vT i a b=gR uA vT i a b:=zX y0U (.vT i a b)
def z0J(vC:Int→zA→State→Option (Bool))(i:Int)(m:zA)(s:State):Option (Bool):=
 if i<(List.length m.L:Int)then
  idx m.L i>>=fun x=>
  if x.K=32 then
   idx m.L i>>=fun x1=>
   idx x1.L 0>>=fun x2=>
   idx s.Globals i>>=fun x3=>
   uQ m x2 x3>>=fun q1=>
   if q1=true then
    idx m.L i>>=fun x4=>
    if x4.K=32 then
     vC (IntKind.wrap .i64 (i+1)) m s
    else
    idx s.Globals i>>=fun x5=>
    uA x5 (Value.mk 0 [])>>=fun q2=>
    if q2=true then
     vC (IntKind.wrap .i64 (i+1)) m s
    else
    some (false)
   else
   some (false)
  else
  idx m.L i>>=fun x6=>
  if x6.K=32 then
   vC (IntKind.wrap .i64 (i+1)) m s
  else
  idx s.Globals i>>=fun x7=>
  uA x7 (Value.mk 0 [])>>=fun q3=>
  if q3=true then
   vC (IntKind.wrap .i64 (i+1)) m s
  else
  some (false)
 else
 some (true)
inductive z4D where
 |vC (i:Int) (m:zA) (s:State)
@[reducible] def z6A:z4D→Type
 |.vC _ _ _=>Bool
def z4C(g:Fam z6A):Fam z6A
 |.vC i m s=>z0J (fun i m s=>g (z4D.vC i m s)) i m s
theorem y0B:∀i,Good (fun g=>z4C g i)
 |.vC i m s=>by unfold z4C z0J;exact(.ite (.bind (.const _) fun _=>(.ite (.bind (.const _) fun _=>(.bind (.const _) fun _=>(.bind (.const _) fun _=>(.bind (.const _) fun _=>(.ite (.bind (.const _) fun _=>(.ite (.call _) (.bind (.const _) fun _=>(.bind (.const _) fun _=>(.ite (.call _) (.const _)))))) (.const _)))))) (.bind (.const _) fun _=>(.ite (.call _) (.bind (.const _) fun _=>(.bind (.const _) fun _=>(.ite (.call _) (.const _)))))))) (.const _))
def vC(i:Int)(m:zA)(s:State):Option (Bool):=uO z4C (.vC i m s)
theorem y0b(i:Int)(m:zA)(s:State):vC i m s=z0J vC i m s:=zX y0B (.vC i m s)
def y0a(m:zA)(s:State):Option (Bool):=
 if(List.length s.Globals:Int)=(List.length m.L:Int)then
  if s.At<0 then
   some (false)
  else
  if s.At>(List.length s.Input:Int)then
   some (false)
  else
  if s.Fuel<0 then
   some (false)
  else
  if s.Fuel>65536 then
   some (false)
  else
  if s.Kind=0 then
   if s.N=0 then
    uA s.Ret (Value.mk 0 [])>>=fun q1=>
    if q1=true then
     vC 0 m s
    else
    some (false)
   else
   some (false)
  else
  some (false)
 else
 some (false)
def z7l(c:Ref28Rule)(t:zA):Option (Bool):=
 jB c.M c.Types c.Ret t>>=fun q1=>
 if q1.E=0 then
  wL q1.T_ t>>=fun q2=>
  if q2=true then
   if t.K=20 then
    some (false)
   else
   some (!(t.K == 21))
  else
  some (false)
 else
 some (false)
def z4m(vR:Int→Int→zA→Option (Int))(t:zA):Option (Int):=
 vR 1 0 t
def z0G(uP:zA→Option (Int))(vR:Int→Int→zA→Option (Int))(n i:Int)(t:zA):Option (Int):=
 if i<(List.length t.L:Int)then
  idx t.L i>>=fun x=>
  uP x>>=fun q1=>
  vR (IntKind.wrap .i64 (n+q1)) (IntKind.wrap .i64 (i+1)) t
 else
 some (n)
inductive z1K where
 |uP (t:zA)
 |vR (n i:Int) (t:zA)
@[reducible] def y0Z:z1K→Type
 |.uP _=>Int
 |.vR _ _ _=>Int
def z3Y(g:Fam y0Z):Fam y0Z
 |.uP t=>z4m (fun n i t=>g (z1K.vR n i t)) t
 |.vR n i t=>z0G (fun t=>g (z1K.uP t)) (fun n i t=>g (z1K.vR n i t)) n i t
theorem y0R:∀i,Good (fun g=>z3Y g i)
 |.uP t=>by unfold z3Y z4m;exact(.call _)
 |.vR n i t=>by unfold z3Y z0G;exact(.ite (.bind (.const _) fun _=>(.bind (.call _) fun _=>(.call _))) (.const _))
def uP(t:zA):Option (Int):=uO z3Y (.uP t)
def vR(n i:Int)(t:zA):Option (Int):=uO z3Y (.vR n i t)
theorem v3m(t:zA):uP t=z4m vR t:=zX y0R (.uP t)
theorem z9U(n i:Int)(t:zA):vR n i t=z0G uP vR n i t:=zX y0R (.vR n i t)
def z2Q(vB:(List zA)→Int→zA→Value→Int→(List Value)→Option (Value))(m t:zA):Option (Value):=
 gU m t>>=fun q1=>
 if q1=0 then
  some ((Value.mk 0 []))
 else
 z2k m t>>=fun q2=>
 vB q2 0 m (Value.mk 0 []) 0 []
def jT(vA:zA→zA→Option (Value))(vB:(List zA)→Int→zA→Value→Int→(List Value)→Option (Value))(p:List zA)(i:Int)(m:zA)(o4:Value)(N:Int)(L:List Value):Option (Value):=
 if i<(List.length p:Int)then
  idx p i>>=fun x=>
  vA m x>>=fun q1=>
  if wN 32 (List.length L+List.length [q1])then
  vB p (IntKind.wrap .i64 (i+1)) m o4 N (L++[q1])
  else none
 else
 some ((Value.mk N L))
inductive z1O where
 |vA (m t:zA)
 |vB (p:List zA) (i:Int) (m:zA) (o4:Value) (N:Int) (L:List Value)
@[reducible] def y1f:z1O→Type
 |.vA _ _=>Value
 |.vB _ _ _ _ _ _=>Value
def z4c(g:Fam y1f):Fam y1f
 |.vA m t=>z2Q (fun p i m o4 N L=>g (z1O.vB p i m o4 N L)) m t
 |.vB p i m o4 N L=>jT (fun m t=>g (z1O.vA m t)) (fun p i m o4 N L=>g (z1O.vB p i m o4 N L)) p i m o4 N L
theorem y0V:∀i,Good (fun g=>z4c g i)
 |.vA m t=>by unfold z4c z2Q;exact(.bind (.const _) fun _=>(.ite (.const _) (.bind (.const _) fun _=>(.call _))))
 |.vB p i m o4 N L=>by unfold z4c jT;exact(.ite (.bind (.const _) fun _=>(.bind (.call _) fun _=>(.ite (.call _) (.const _)))) (.const _))
def vA(m t:zA):Option (Value):=uO z4c (.vA m t)
def vB(p:List zA)(i:Int)(m:zA)(o4:Value)(N:Int)(L:List Value):Option (Value):=uO z4c (.vB p i m o4 N L)
theorem y4b(m t:zA):vA m t=z2Q vB m t:=zX y0V (.vA m t)
theorem z3P(p:List zA)(i:Int)(m:zA)(o4:Value)(N:Int)(L:List Value):vB p i m o4 N L=jT vA vB p i m o4 N L:=zX y0V (.vB p i m o4 N L)
def z0t(b:Bool):Option (Int):=
 if b=true then
  some (1)
 else
 some (0)
def z1D(op a:Int):Option (Int):=
 if op=1 then
  some (IntKind.wrap .i64 (IntKind.wrap .u64 (0-(IntKind.wrap .u64 a))))
 else
 if op=2 then
  z0t (a == 0)>>=fun q1=>
  some (q1)
 else
 some (0)
def z2o(s:State):Option (Ref21Got):=
 some ((Ref21Got.mk (Value.mk 0 []) s))
def z1r(n:Int)(s:State):Option (Ref21Got):=
 some ((Ref21Got.mk (Value.mk n []) s))
def z1s(s:State):Option (State):=
 if s.Kind=0 then
  if s.Fuel≤0 then
   some ({s with Kind:=3})
  else
  some ({s with Fuel:=IntKind.wrap .i64 (s.Fuel-1)})
 else
 some (s)
def z0v(n:Int)(s:State):Option (Ref21Got):=
 some ((Ref21Got.mk (Value.mk 0 []) ({s with Kind:=2,N:=n})))
def gI(yF:Int→Int→Int→Int→Int→Option (Int×Int))(a b q left i:Int):Option (Int×Int):=
 if i≥0 then
  if(0:Int)≤(IntKind.wrap .u64 i)then
  if 2≠(0:Int)then
  if left≥9223372036854775808 then
   yF a b (IntKind.wrap .u64 ((IntKind.wrap .u64 (q*2))+1)) (IntKind.wrap .u64 ((IntKind.wrap .u64 ((IntKind.wrap .u64 (left*2))+(Int.tmod (Int.fdiv a (2 ^ min (Int.toNat (IntKind.wrap .u64 i)) (IntKind.bits .u64))) 2)))-b)) (IntKind.wrap .i64 (i-1))
  else
  if(IntKind.wrap .u64 ((IntKind.wrap .u64 (left*2))+(Int.tmod (Int.fdiv a (2 ^ min (Int.toNat (IntKind.wrap .u64 i)) (IntKind.bits .u64))) 2)))≥b then
   yF a b (IntKind.wrap .u64 ((IntKind.wrap .u64 (q*2))+1)) (IntKind.wrap .u64 ((IntKind.wrap .u64 ((IntKind.wrap .u64 (left*2))+(Int.tmod (Int.fdiv a (2 ^ min (Int.toNat (IntKind.wrap .u64 i)) (IntKind.bits .u64))) 2)))-b)) (IntKind.wrap .i64 (i-1))
  else
  yF a b (IntKind.wrap .u64 (q*2)) (IntKind.wrap .u64 ((IntKind.wrap .u64 (left*2))+(Int.tmod (Int.fdiv a (2 ^ min (Int.toNat (IntKind.wrap .u64 i)) (IntKind.bits .u64))) 2))) (IntKind.wrap .i64 (i-1))
  else none
  else none
 else
 some (q,left)
inductive z2I where
 |yF (a b q left i:Int)
@[reducible] def z5h:z2I→Type
 |.yF _ _ _ _ _=>Int×Int
def z2B(g:Fam z5h):Fam z5h
 |.yF a b q left i=>gI (fun a b q left i=>g (z2I.yF a b q left i)) a b q left i
theorem z8n:∀i,Good (fun g=>z2B g i)
 |.yF a b q left i=>by unfold z2B gI;exact(.ite (.ite (.ite (.ite (.call _) (.ite (.call _) (.call _))) (.const _)) (.const _)) (.const _))
def yF(a b q left i:Int):Option (Int×Int):=uO z2B (.yF a b q left i)
theorem z7f(a b q left i:Int):yF a b q left i=gI yF a b q left i:=zX z8n (.yF a b q left i)
def z6l(a b:Int):Option (Int×Int):=
 yF a b 0 0 63
def z7g(a:Int):Option (Int):=
 if a<0 then
  some (IntKind.wrap .u64 ((IntKind.wrap .u64 (IntKind.wrap .i64 (0-(IntKind.wrap .i64 (a+1)))))+1))
 else
 some (IntKind.wrap .u64 a)
def z2l(a b:Int):Option (Int×Int):=
 z7g a>>=fun q1=>
 z7g b>>=fun q2=>
 z6l q1 q2>>=fun q3=>
 if decide (a<0)=decide (b<0)then
  if a<0 then
   some (IntKind.wrap .i64 q3.1,IntKind.wrap .i64 (IntKind.wrap .u64 (0-q3.2)))
  else
  some (IntKind.wrap .i64 q3.1,IntKind.wrap .i64 q3.2)
 else
 if a<0 then
  some (IntKind.wrap .i64 (IntKind.wrap .u64 (0-q3.1)),IntKind.wrap .i64 (IntKind.wrap .u64 (0-q3.2)))
 else
 some (IntKind.wrap .i64 (IntKind.wrap .u64 (0-q3.1)),IntKind.wrap .i64 q3.2)
def z0S(yY:Int→Int→Int→Option (Int))(x y out:Int):Option (Int):=
 if y>0 then
  if 2≠(0:Int)then
  if Int.tmod y 2=1 then
   if 2≠(0:Int)then
   yY (IntKind.wrap .u64 (x+x)) (IntKind.wrap .u64 (Int.tdiv y 2)) (IntKind.wrap .u64 (out+x))
   else none
  else
  if 2≠(0:Int)then
  yY (IntKind.wrap .u64 (x+x)) (IntKind.wrap .u64 (Int.tdiv y 2)) out
  else none
  else none
 else
 some (IntKind.wrap .i64 out)
inductive z3A where
 |yY (x y out:Int)
@[reducible] def z5P:z3A→Type
 |.yY _ _ _=>Int
def z3t(g:Fam z5P):Fam z5P
 |.yY x y out=>z0S (fun x y out=>g (z3A.yY x y out)) x y out
theorem z8R:∀i,Good (fun g=>z3t g i)
 |.yY x y out=>by unfold z3t z0S;exact(.ite (.ite (.ite (.ite (.call _) (.const _)) (.ite (.call _) (.const _))) (.const _)) (.const _))
def yY(x y out:Int):Option (Int):=uO z3t (.yY x y out)
theorem y4V(x y out:Int):yY x y out=z0S yY x y out:=zX z8R (.yY x y out)
def z7h(a b:Int):Option (Int):=
 yY (IntKind.wrap .u64 a) (IntKind.wrap .u64 b) 0
def z2m(op a b:Int):Option (Int×Int):=
 if op=1 then
  if a=0 then
   z0t (!(b == 0))>>=fun q1=>
   some (q1,0)
  else
  z0t true>>=fun q2=>
  some (q2,0)
 else
 if op=2 then
  if a=0 then
   z0t false>>=fun q3=>
   some (q3,0)
  else
  z0t (!(b == 0))>>=fun q4=>
  some (q4,0)
 else
 if op=3 then
  z0t ((a == b) == (op == 3))>>=fun q5=>
  some (q5,0)
 else
 if op=4 then
  z0t ((a == b) == (op == 3))>>=fun q6=>
  some (q6,0)
 else
 if op=5 then
  z0t ((decide (a<b)) == (op == 5))>>=fun q7=>
  some (q7,0)
 else
 if op=8 then
  z0t ((decide (a<b)) == (op == 5))>>=fun q8=>
  some (q8,0)
 else
 if op=7 then
  z0t ((decide (a>b)) == (op == 7))>>=fun q9=>
  some (q9,0)
 else
 if op=6 then
  z0t ((decide (a>b)) == (op == 7))>>=fun q10=>
  some (q10,0)
 else
 if op=9 then
  some (IntKind.wrap .i64 (IntKind.wrap .u64 ((IntKind.wrap .u64 a)+(IntKind.wrap .u64 b))),0)
 else
 if op=10 then
  some (IntKind.wrap .i64 (IntKind.wrap .u64 ((IntKind.wrap .u64 a)-(IntKind.wrap .u64 b))),0)
 else
 if op=11 then
  z7h a b>>=fun q11=>
  some (q11,0)
 else
 if op=12 then
  if b=0 then
   some (0,1)
  else
  z2l a b>>=fun q13=>
  some (q13.1,0)
 else
 if op=13 then
  if b=0 then
   some (0,1)
  else
  z2l a b>>=fun q12=>
  some (q12.2,0)
 else
 some (0,0)
def z4K(s:State)(n:Int):Option (State):=
 if(0:Int)≤n then
 if Int.toNat n≤List.length s.Locals then
 if 0≤Int.toNat n then
 some ({s with Locals:=List.drop 0 (List.take (Int.toNat n) s.Locals)})
 else none
 else none
 else none
def z3l(s:State)(v:Value):Option (State):=
 if wN 32 (List.length ([]:List Value)+List.length s.Locals)then
 if wN 32 (List.length (([]:List Value)++s.Locals)+List.length [v])then
 some ({s with Locals:=(([]:List Value)++s.Locals)++[v]})
 else none
 else none
def z3k(wC:(List Int)→(List Value)→Int→Value→Value→Value→Option (Value))(v:Value)(way:List Int)(x:Value):Option (Value):=
 if(List.length way:Int)=0 then
  some (x)
 else
 wC way ([]:List Value) 0 v x (Value.mk 0 [])
def z1p(wX:Value→(List Int)→Value→Option (Value))(wC:(List Int)→(List Value)→Int→Value→Value→Value→Option (Value))(way:List Int)(out:List Value)(i:Int)(v x o6:Value):Option (Value):=
 if i<(List.length v.L:Int)then
  idx way 0>>=fun x1=>
  if i=x1 then
   idx v.L i>>=fun x2=>
   if List.length way≤List.length way then
   if(0:Int)≤1 then
   if Int.toNat 1≤List.length way then
   wX x2 (List.drop (Int.toNat 1) (List.take (List.length way) way)) x>>=fun q1=>
   if wN 32 (List.length out+List.length [q1])then
   wC way (out++[q1]) (IntKind.wrap .i64 (i+1)) v x o6
   else none
   else none
   else none
   else none
  else
  idx v.L i>>=fun x3=>
  if wN 32 (List.length out+List.length [x3])then
  wC way (out++[x3]) (IntKind.wrap .i64 (i+1)) v x o6
  else none
 else
 some ((Value.mk v.N out))
inductive z2X where
 |wX (v:Value) (way:List Int) (x:Value)
 |wC (way:List Int) (out:List Value) (i:Int) (v x o6:Value)
@[reducible] def y2T:z2X→Type
 |.wX _ _ _=>Value
 |.wC _ _ _ _ _ _=>Value
def z5B(g:Fam y2T):Fam y2T
 |.wX v way x=>z3k (fun way out i v x o6=>g (z2X.wC way out i v x o6)) v way x
 |.wC way out i v x o6=>z1p (fun v way x=>g (z2X.wX v way x)) (fun way out i v x o6=>g (z2X.wC way out i v x o6)) way out i v x o6
theorem y2Q:∀i,Good (fun g=>z5B g i)
 |.wX v way x=>by unfold z5B z3k;exact(.ite (.const _) (.call _))
 |.wC way out i v x o6=>by unfold z5B z1p;exact(.ite (.bind (.const _) fun _=>(.ite (.bind (.const _) fun _=>(.ite (.ite (.ite (.bind (.call _) fun _=>(.ite (.call _) (.const _))) (.const _)) (.const _)) (.const _))) (.bind (.const _) fun _=>(.ite (.call _) (.const _))))) (.const _))
def wX(v:Value)(way:List Int)(x:Value):Option (Value):=uO z5B (.wX v way x)
def wC(way:List Int)(out:List Value)(i:Int)(v x o6:Value):Option (Value):=uO z5B (.wC way out i v x o6)
theorem y1z(v:Value)(way:List Int)(x:Value):wX v way x=z3k wC v way x:=zX y2Q (.wX v way x)
theorem y0L(way:List Int)(out:List Value)(i:Int)(v x o6:Value):wC way out i v x o6=z1p wX wC way out i v x o6:=zX y2Q (.wC way out i v x o6)
def z5a(l:List Value)(at_:Int)(v:Value):Option (List Value):=
 if wN 32 (List.length l)then
 if 0<List.length l then
 if(0:Int)≤at_∧at_<(List.length l:Int)then
 if Int.toNat at_<List.length l then
 some (l.set (Int.toNat at_) v)
 else none
 else none
 else none
 else none
def z4u(uR:Value→(List Int)→Option (Value))(v:Value)(way:List Int):Option (Value):=
 if(List.length way:Int)=0 then
  some (v)
 else
 idx way 0>>=fun x=>
 idx v.L x>>=fun x1=>
 if List.length way≤List.length way then
 if(0:Int)≤1 then
 if Int.toNat 1≤List.length way then
 uR x1 (List.drop (Int.toNat 1) (List.take (List.length way) way))>>=fun q1=>
 some (q1)
 else none
 else none
 else none
inductive y0i where
 |uR (v:Value) (way:List Int)
@[reducible] def y2S:y0i→Type
 |.uR _ _=>Value
def y0h(g:Fam y2S):Fam y2S
 |.uR v way=>z4u (fun v way=>g (y0i.uR v way)) v way
theorem y8n:∀i,Good (fun g=>y0h g i)
 |.uR v way=>by unfold y0h z4u;exact(.ite (.const _) (.bind (.const _) fun _=>(.bind (.const _) fun _=>(.ite (.ite (.ite (.bind (.call _) fun _=>(.const _)) (.const _)) (.const _)) (.const _)))))
def uR(v:Value)(way:List Int):Option (Value):=uO y0h (.uR v way)
theorem y7k(v:Value)(way:List Int):uR v way=z4u uR v way:=zX y8n (.uR v way)
def jR(zU:zA→State→zA→Option (State))(yO:Int→Int→zA→State→zA→State→Option (State))(z1t:zA→State→zA→Option (State))(zL:zA→State→zA→Option (Ref21Got))(jI:zA→Ref21Got→zA→Option (State))(z0N:zA→Ref21Got→zA→Option (State))(m:zA)(s:State)(t:zA):Option (State):=
 z1s s>>=fun q1=>
 if q1.Kind=0 then
  if t.K=29 then
   yO (List.length q1.Locals:Int) 0 m q1 t (State.mk [] [] [] 0 [] 0 0 0 (Value.mk 0 []))
  else
  if t.K=21 then
   idx t.L 0>>=fun x=>
   vA m x>>=fun q2=>
   z3l q1 q2>>=fun q3=>
   some (q3)
  else
  if t.K=22 then
   z1t m q1 t>>=fun q4=>
   some (q4)
  else
  idx t.L 0>>=fun x1=>
  zL m q1 x1>>=fun q5=>
  if q5.S.Kind=0 then
   if t.K=20 then
    z3l q5.S q5.V>>=fun q6=>
    some (q6)
   else
   if t.K=26 then
    if wN 8 (List.length ([]:List Int)+List.length q5.S.Trace)then
    if wN 8 (List.length (([]:List Int)++q5.S.Trace)+List.length [q5.V.N])then
    some ({q5.S with Trace:=(([]:List Int)++q5.S.Trace)++[q5.V.N]})
    else none
    else none
   else
   if t.K=27 then
    some ({q5.S with Kind:=1,Ret:=q5.V})
   else
   if t.K=23 then
    if q5.V.N=0 then
     idx t.L 2>>=fun x12=>
     zU m q5.S x12>>=fun q29=>
     some (q29)
    else
    idx t.L 1>>=fun x11=>
    zU m q5.S x11>>=fun q28=>
    some (q28)
   else
   if t.K=24 then
    jI m q5 t>>=fun q33=>
    some (q33)
   else
   if t.K=25 then
    z0N m q5 t>>=fun q34=>
    some (q34)
   else
   some (q5.S)
  else
  some (q5.S)
 else
 some (q1)
def jU(zU:zA→State→zA→Option (State))(yO:Int→Int→zA→State→zA→State→Option (State))(n i:Int)(m:zA)(s:State)(t:zA)(o6:State):Option (State):=
 if i<(List.length t.L:Int)then
  idx t.L i>>=fun x=>
  zU m s x>>=fun q1=>
  yO n (IntKind.wrap .i64 (i+1)) m q1 t o6
 else
 z4K s n>>=fun q2=>
 some (q2)
def z5F(vM:zA→State→zA→State→Ref21Got→zA→Option (State))(zL:zA→State→zA→Option (Ref21Got))(m:zA)(s:State)(t:zA):Option (State):=
 idx t.L 1>>=fun x=>
 zL m s x>>=fun q1=>
 if q1.S.Kind=0 then
  idx t.L 0>>=fun x1=>
  vM m q1.S t (State.mk [] [] [] 0 [] 0 0 0 (Value.mk 0 [])) q1 x1
 else
 some (q1.S)
def z0u(vM:zA→State→zA→State→Ref21Got→zA→Option (State))(uN:zA→State→zA→Value→Option (List Int×State))(m:zA)(s:State)(t:zA)(o6:State)(x:Ref21Got)(root:zA):Option (State):=
 if root.K=12 then
  idx root.L 0>>=fun x1=>
  vM m s t o6 x x1
 else
 if root.K=13 then
  idx root.L 0>>=fun x2=>
  vM m s t o6 x x2
 else
 if root.K=9 then
  idx t.L 0>>=fun x3=>
  idx s.Globals root.N>>=fun x4=>
  uN m s x3 x4>>=fun q1=>
  if q1.2.Kind=0 then
   idx q1.2.Globals root.N>>=fun x5=>
   wX x5 q1.1 x.V>>=fun q2=>
   z5a q1.2.Globals root.N q2>>=fun q3=>
   some ({q1.2 with Globals:=q3})
  else
  some (q1.2)
 else
 idx t.L 0>>=fun x6=>
 idx s.Locals (IntKind.wrap .i64 ((IntKind.wrap .i64 ((List.length s.Locals:Int)-1))-root.N))>>=fun x7=>
 uN m s x6 x7>>=fun q4=>
 if q4.2.Kind=0 then
  idx q4.2.Locals (IntKind.wrap .i64 ((IntKind.wrap .i64 ((List.length s.Locals:Int)-1))-root.N))>>=fun x8=>
  wX x8 q4.1 x.V>>=fun q5=>
  z5a q4.2.Locals (IntKind.wrap .i64 ((IntKind.wrap .i64 ((List.length s.Locals:Int)-1))-root.N)) q5>>=fun q6=>
  some ({q4.2 with Locals:=q6})
 else
 some (q4.2)
def uD(z1u:zA→State→zA→Option (Ref21Got))(gM:zA→State→(List zA)→Option (List Value×State))(uC:zA→State→Int→(List Value)→Option (Ref21Got))(m:zA)(s:State)(t:zA):Option (Ref21Got):=
 z1s s>>=fun q1=>
 if q1.Kind=0 then
  if t.K=5 then
   z1r t.N q1>>=fun q3=>
   some (q3)
  else
  if t.K=6 then
   z1r t.N q1>>=fun q4=>
   some (q4)
  else
  if t.K=7 then
   idx q1.Locals (IntKind.wrap .i64 ((IntKind.wrap .i64 ((List.length q1.Locals:Int)-1))-t.N))>>=fun x=>
   some ((Ref21Got.mk x q1))
  else
  if t.K=9 then
   idx q1.Globals t.N>>=fun x1=>
   some ((Ref21Got.mk x1 q1))
  else
  if t.K=8 then
   idx m.L t.N>>=fun x2=>
   idx x2.L 0>>=fun x3=>
   z1r x3.N q1>>=fun q5=>
   some (q5)
  else
  if t.K=18 then
   if q1.At≥(List.length q1.Input:Int)then
    z0v 3 q1>>=fun q6=>
    some (q6)
   else
   idx q1.Input (IntKind.wrap .i64 ((IntKind.wrap .i64 (q1.At+1))-1))>>=fun x4=>
   z1r x4 ({q1 with At:=IntKind.wrap .i64 (q1.At+1)})>>=fun q7=>
   some (q7)
  else
  if t.K=10 then
   z1u m q1 t>>=fun q17=>
   some (q17)
  else
  gM m q1 t.L>>=fun q18=>
  if q18.2.Kind=0 then
   if t.K=11 then
    idx q18.1 0>>=fun x15=>
    z1D t.N x15.N>>=fun q20=>
    z1r q20 q18.2>>=fun q21=>
    some (q21)
   else
   if t.K=12 then
    idx q18.1 1>>=fun x16=>
    if x16.N<0 then
     z0v 2 q18.2>>=fun q22=>
     some (q22)
    else
    idx q18.1 1>>=fun x17=>
    idx q18.1 0>>=fun x18=>
    if x17.N≥(List.length x18.L:Int)then
     z0v 2 q18.2>>=fun q23=>
     some (q23)
    else
    idx q18.1 0>>=fun x19=>
    idx q18.1 1>>=fun x20=>
    idx x19.L x20.N>>=fun x21=>
    some ((Ref21Got.mk x21 q18.2))
   else
   if t.K=13 then
    idx q18.1 0>>=fun x22=>
    if 64≠(0:Int)then
    idx x22.L (Int.tmod t.N 64)>>=fun x23=>
    some ((Ref21Got.mk x23 q18.2))
    else none
   else
   if t.K=16 then
    uC m q18.2 t.N q18.1>>=fun q24=>
    some (q24)
   else
   some ((Ref21Got.mk (Value.mk 0 q18.1) q18.2))
  else
  z2o q18.2>>=fun q19=>
  some (q19)
 else
 z2o q1>>=fun q2=>
 some (q2)
def z3o(yD:zA→Ref21Got→zA→State→Option (State))(m:zA)(x:Ref21Got)(t:zA):Option (State):=
 yD m x t (State.mk [] [] [] 0 [] 0 0 0 (Value.mk 0 []))
def jY(zU:zA→State→zA→Option (State))(zL:zA→State→zA→Option (Ref21Got))(yD:zA→Ref21Got→zA→State→Option (State))(m:zA)(x:Ref21Got)(t:zA)(o6:State):Option (State):=
 if x.S.Kind=0 then
  if x.V.N=0 then
   some (x.S)
  else
  idx t.L 1>>=fun x1=>
  zU m x.S x1>>=fun q1=>
  idx t.L 0>>=fun x2=>
  zL m q1 x2>>=fun q2=>
  yD m q2 t o6
 else
 some (x.S)
def z5E(zL:zA→State→zA→Option (Ref21Got))(wD:Int→Int→zA→zA→State→Ref21Got→State→Option (State))(m:zA)(from_:Ref21Got)(t:zA):Option (State):=
 idx t.L 1>>=fun x=>
 zL m from_.S x>>=fun q1=>
 if q1.S.Kind=0 then
  wD (List.length q1.S.Locals:Int) from_.V.N m t (State.mk [] [] [] 0 [] 0 0 0 (Value.mk 0 [])) q1 q1.S
 else
 some (q1.S)
def gO(zU:zA→State→zA→Option (State))(wD:Int→Int→zA→zA→State→Ref21Got→State→Option (State))(n i:Int)(m t:zA)(o6:State)(to_:Ref21Got)(s:State):Option (State):=
 z1s s>>=fun q1=>
 if q1.Kind=0 then
  if i≥to_.V.N then
   some (q1)
  else
  z3l q1 (Value.mk i [])>>=fun q2=>
  idx t.L 2>>=fun x=>
  zU m q2 x>>=fun q3=>
  z4K q3 n>>=fun q4=>
  wD n (IntKind.wrap .i64 (i+1)) m t o6 to_ q4
 else
 some (q1)
def z3n(zL:zA→State→zA→Option (Ref21Got))(uN:zA→State→zA→Value→Option (List Int×State))(m:zA)(s:State)(t:zA)(kept:Value):Option (List Int×State):=
 if t.K=12 then
  idx t.L 0>>=fun x2=>
  uN m s x2 kept>>=fun q6=>
  if q6.2.Kind=0 then
   idx t.L 1>>=fun x3=>
   zL m q6.2 x3>>=fun q7=>
   if q7.S.Kind=0 then
    if q7.V.N<0 then
     z0v 2 q7.S>>=fun q8=>
     some (q6.1,q8.S)
    else
    uR kept q6.1>>=fun q9=>
    if q7.V.N≥(List.length q9.L:Int)then
     z0v 2 q7.S>>=fun q10=>
     some (q6.1,q10.S)
    else
    if wN 8 (List.length q6.1+List.length [q7.V.N])then
    some (q6.1++[q7.V.N],q7.S)
    else none
   else
   some (q6.1,q7.S)
  else
  some (q6.1,q6.2)
 else
 if t.K=13 then
  idx t.L 0>>=fun x=>
  uN m s x kept>>=fun q1=>
  if q1.2.Kind=0 then
   if 64≠(0:Int)then
   if wN 8 (List.length q1.1+List.length [Int.tmod t.N 64])then
   some (q1.1++[Int.tmod t.N 64],q1.2)
   else none
   else none
  else
  some (q1.1,q1.2)
 else
 some (([]:List Int),s)
def z5G(zL:zA→State→zA→Option (Ref21Got))(m:zA)(s:State)(t:zA):Option (Ref21Got):=
 idx t.L 0>>=fun x=>
 zL m s x>>=fun q1=>
 if q1.S.Kind=0 then
  if t.N=2 then
   if q1.V.N=0 then
    z1r 0 q1.S>>=fun q3=>
    some (q3)
   else
   idx t.L 1>>=fun x2=>
   zL m q1.S x2>>=fun q9=>
   if q9.S.Kind=0 then
    some (q9)
   else
   some (q9)
  else
  if t.N=1 then
   if q1.V.N=0 then
    idx t.L 1>>=fun x3=>
    zL m q1.S x3>>=fun q14=>
    if q14.S.Kind=0 then
     some (q14)
    else
    some (q14)
   else
   z1r 1 q1.S>>=fun q13=>
   some (q13)
  else
  idx t.L 1>>=fun x4=>
  zL m q1.S x4>>=fun q18=>
  if q18.S.Kind=0 then
   z2m t.N q1.V.N q18.V.N>>=fun q19=>
   if q19.2=0 then
    z1r q19.1 q18.S>>=fun q21=>
    some (q21)
   else
   z0v q19.2 q18.S>>=fun q20=>
   some (q20)
  else
  some (q18)
 else
 z2o q1.S>>=fun q2=>
 some (q2)
def z4w(vU:(List zA)→(List Value)→Int→zA→State→State→Option (List Value×State))(m:zA)(s:State)(l:List zA):Option (List Value×State):=
 vU l ([]:List Value) 0 m s (State.mk [] [] [] 0 [] 0 0 0 (Value.mk 0 []))
def z0K(zL:zA→State→zA→Option (Ref21Got))(vU:(List zA)→(List Value)→Int→zA→State→State→Option (List Value×State))(l:List zA)(out:List Value)(i:Int)(m:zA)(s o7:State):Option (List Value×State):=
 if i<(List.length l:Int)then
  idx l i>>=fun x=>
  zL m s x>>=fun q1=>
  if wN 32 (List.length out+List.length [q1.V])then
  vU l (out++[q1.V]) (IntKind.wrap .i64 (i+1)) m q1.S o7
  else none
 else
 some (out,s)
def z2n(zU:zA→State→zA→Option (State))(m:zA)(s:State)(f:Int)(args:List Value):Option (Ref21Got):=
 idx m.L f>>=fun x=>
 idx x.L 2>>=fun x1=>
 zU m ({s with Locals:=args}) x1>>=fun q1=>
 if q1.Kind=1 then
  some ((Ref21Got.mk q1.Ret ({q1 with Locals:=s.Locals,Kind:=0,Ret:=(Value.mk 0 [])})))
 else
 if q1.Kind=0 then
  idx m.L f>>=fun x2=>
  idx x2.L 1>>=fun x3=>
  vA m x3>>=fun q3=>
  some ((Ref21Got.mk q3 ({q1 with Locals:=s.Locals})))
 else
 z2o ({q1 with Locals:=s.Locals})>>=fun q2=>
 some (q2)
inductive zJ where
 |zU (m:zA) (s:State) (t:zA)
 |yO (n i:Int) (m:zA) (s:State) (t:zA) (o6:State)
 |z1t (m:zA) (s:State) (t:zA)
 |vM (m:zA) (s:State) (t:zA) (o6:State) (x:Ref21Got) (root:zA)
 |zL (m:zA) (s:State) (t:zA)
 |jI (m:zA) (x:Ref21Got) (t:zA)
 |yD (m:zA) (x:Ref21Got) (t:zA) (o6:State)
 |z0N (m:zA) (from_:Ref21Got) (t:zA)
 |wD (n i:Int) (m t:zA) (o6:State) (to_:Ref21Got) (s:State)
 |uN (m:zA) (s:State) (t:zA) (kept:Value)
 |z1u (m:zA) (s:State) (t:zA)
 |gM (m:zA) (s:State) (l:List zA)
 |vU (l:List zA) (out:List Value) (i:Int) (m:zA) (s o7:State)
 |uC (m:zA) (s:State) (f:Int) (args:List Value)
@[reducible] def y1g:zJ→Type
 |.zU _ _ _=>State
 |.yO _ _ _ _ _ _=>State
 |.z1t _ _ _=>State
 |.vM _ _ _ _ _ _=>State
 |.zL _ _ _=>Ref21Got
 |.jI _ _ _=>State
 |.yD _ _ _ _=>State
 |.z0N _ _ _=>State
 |.wD _ _ _ _ _ _ _=>State
 |.uN _ _ _ _=>List Int×State
 |.z1u _ _ _=>Ref21Got
 |.gM _ _ _=>List Value×State
 |.vU _ _ _ _ _ _=>List Value×State
 |.uC _ _ _ _=>Ref21Got
def yH(g:Fam y1g):Fam y1g
 |.zU m s t=>jR (fun m s t=>g (zJ.zU m s t)) (fun n i m s t o6=>g (zJ.yO n i m s t o6)) (fun m s t=>g (zJ.z1t m s t)) (fun m s t=>g (zJ.zL m s t)) (fun m x t=>g (zJ.jI m x t)) (fun m from_ t=>g (zJ.z0N m from_ t)) m s t
 |.yO n i m s t o6=>jU (fun m s t=>g (zJ.zU m s t)) (fun n i m s t o6=>g (zJ.yO n i m s t o6)) n i m s t o6
 |.z1t m s t=>z5F (fun m s t o6 x root=>g (zJ.vM m s t o6 x root)) (fun m s t=>g (zJ.zL m s t)) m s t
 |.vM m s t o6 x root=>z0u (fun m s t o6 x root=>g (zJ.vM m s t o6 x root)) (fun m s t kept=>g (zJ.uN m s t kept)) m s t o6 x root
 |.zL m s t=>uD (fun m s t=>g (zJ.z1u m s t)) (fun m s l=>g (zJ.gM m s l)) (fun m s f args=>g (zJ.uC m s f args)) m s t
 |.jI m x t=>z3o (fun m x t o6=>g (zJ.yD m x t o6)) m x t
 |.yD m x t o6=>jY (fun m s t=>g (zJ.zU m s t)) (fun m s t=>g (zJ.zL m s t)) (fun m x t o6=>g (zJ.yD m x t o6)) m x t o6
 |.z0N m from_ t=>z5E (fun m s t=>g (zJ.zL m s t)) (fun n i m t o6 to_ s=>g (zJ.wD n i m t o6 to_ s)) m from_ t
 |.wD n i m t o6 to_ s=>gO (fun m s t=>g (zJ.zU m s t)) (fun n i m t o6 to_ s=>g (zJ.wD n i m t o6 to_ s)) n i m t o6 to_ s
 |.uN m s t kept=>z3n (fun m s t=>g (zJ.zL m s t)) (fun m s t kept=>g (zJ.uN m s t kept)) m s t kept
 |.z1u m s t=>z5G (fun m s t=>g (zJ.zL m s t)) m s t
 |.gM m s l=>z4w (fun l out i m s o7=>g (zJ.vU l out i m s o7)) m s l
 |.vU l out i m s o7=>z0K (fun m s t=>g (zJ.zL m s t)) (fun l out i m s o7=>g (zJ.vU l out i m s o7)) l out i m s o7
 |.uC m s f args=>z2n (fun m s t=>g (zJ.zU m s t)) m s f args
theorem uS:∀i,Good (fun g=>yH g i)
 |.zU m s t=>by unfold yH jR;exact(.bind (.const _) fun _=>(.ite (.ite (.call _) (.ite (.bind (.const _) fun _=>(.bind (.const _) fun _=>(.bind (.const _) fun _=>(.const _)))) (.ite (.bind (.call _) fun _=>(.const _)) (.bind (.const _) fun _=>(.bind (.call _) fun _=>(.ite (.ite (.bind (.const _) fun _=>(.const _)) (.ite (.ite (.ite (.const _) (.const _)) (.const _)) (.ite (.const _) (.ite (.ite (.bind (.const _) fun _=>(.bind (.call _) fun _=>(.const _))) (.bind (.const _) fun _=>(.bind (.call _) fun _=>(.const _)))) (.ite (.bind (.call _) fun _=>(.const _)) (.ite (.bind (.call _) fun _=>(.const _)) (.const _))))))) (.const _))))))) (.const _)))
 |.yO n i m s t o6=>by unfold yH jU;exact(.ite (.bind (.const _) fun _=>(.bind (.call _) fun _=>(.call _))) (.bind (.const _) fun _=>(.const _)))
 |.z1t m s t=>by unfold yH z5F;exact(.bind (.const _) fun _=>(.bind (.call _) fun _=>(.ite (.bind (.const _) fun _=>(.call _)) (.const _))))
 |.vM m s t o6 x root=>by unfold yH z0u;exact(.ite (.bind (.const _) fun _=>(.call _)) (.ite (.bind (.const _) fun _=>(.call _)) (.ite (.bind (.const _) fun _=>(.bind (.const _) fun _=>(.bind (.call _) fun _=>(.ite (.bind (.const _) fun _=>(.bind (.const _) fun _=>(.bind (.const _) fun _=>(.const _)))) (.const _))))) (.bind (.const _) fun _=>(.bind (.const _) fun _=>(.bind (.call _) fun _=>(.ite (.bind (.const _) fun _=>(.bind (.const _) fun _=>(.bind (.const _) fun _=>(.const _)))) (.const _))))))))
 |.zL m s t=>by unfold yH uD;exact(.bind (.const _) fun _=>(.ite (.ite (.bind (.const _) fun _=>(.const _)) (.ite (.bind (.const _) fun _=>(.const _)) (.ite (.bind (.const _) fun _=>(.const _)) (.ite (.bind (.const _) fun _=>(.const _)) (.ite (.bind (.const _) fun _=>(.bind (.const _) fun _=>(.bind (.const _) fun _=>(.const _)))) (.ite (.ite (.bind (.const _) fun _=>(.const _)) (.bind (.const _) fun _=>(.bind (.const _) fun _=>(.const _)))) (.ite (.bind (.call _) fun _=>(.const _)) (.bind (.call _) fun _=>(.ite (.ite (.bind (.const _) fun _=>(.bind (.const _) fun _=>(.bind (.const _) fun _=>(.const _)))) (.ite (.bind (.const _) fun _=>(.ite (.bind (.const _) fun _=>(.const _)) (.bind (.const _) fun _=>(.bind (.const _) fun _=>(.ite (.bind (.const _) fun _=>(.const _)) (.bind (.const _) fun _=>(.bind (.const _) fun _=>(.bind (.const _) fun _=>(.const _))))))))) (.ite (.bind (.const _) fun _=>(.ite (.bind (.const _) fun _=>(.const _)) (.const _))) (.ite (.bind (.call _) fun _=>(.const _)) (.const _))))) (.bind (.const _) fun _=>(.const _))))))))))) (.bind (.const _) fun _=>(.const _))))
 |.jI m x t=>by unfold yH z3o;exact(.call _)
 |.yD m x t o6=>by unfold yH jY;exact(.ite (.ite (.const _) (.bind (.const _) fun _=>(.bind (.call _) fun _=>(.bind (.const _) fun _=>(.bind (.call _) fun _=>(.call _)))))) (.const _))
 |.z0N m from_ t=>by unfold yH z5E;exact(.bind (.const _) fun _=>(.bind (.call _) fun _=>(.ite (.call _) (.const _))))
 |.wD n i m t o6 to_ s=>by unfold yH gO;exact(.bind (.const _) fun _=>(.ite (.ite (.const _) (.bind (.const _) fun _=>(.bind (.const _) fun _=>(.bind (.call _) fun _=>(.bind (.const _) fun _=>(.call _)))))) (.const _)))
 |.uN m s t kept=>by unfold yH z3n;exact(.ite (.bind (.const _) fun _=>(.bind (.call _) fun _=>(.ite (.bind (.const _) fun _=>(.bind (.call _) fun _=>(.ite (.ite (.bind (.const _) fun _=>(.const _)) (.bind (.const _) fun _=>(.ite (.bind (.const _) fun _=>(.const _)) (.ite (.const _) (.const _))))) (.const _)))) (.const _)))) (.ite (.bind (.const _) fun _=>(.bind (.call _) fun _=>(.ite (.ite (.ite (.const _) (.const _)) (.const _)) (.const _)))) (.const _)))
 |.z1u m s t=>by unfold yH z5G;exact(.bind (.const _) fun _=>(.bind (.call _) fun _=>(.ite (.ite (.ite (.bind (.const _) fun _=>(.const _)) (.bind (.const _) fun _=>(.bind (.call _) fun _=>(.ite (.const _) (.const _))))) (.ite (.ite (.bind (.const _) fun _=>(.bind (.call _) fun _=>(.ite (.const _) (.const _)))) (.bind (.const _) fun _=>(.const _))) (.bind (.const _) fun _=>(.bind (.call _) fun _=>(.ite (.bind (.const _) fun _=>(.ite (.bind (.const _) fun _=>(.const _)) (.bind (.const _) fun _=>(.const _)))) (.const _)))))) (.bind (.const _) fun _=>(.const _)))))
 |.gM m s l=>by unfold yH z4w;exact(.call _)
 |.vU l out i m s o7=>by unfold yH z0K;exact(.ite (.bind (.const _) fun _=>(.bind (.call _) fun _=>(.ite (.call _) (.const _)))) (.const _))
 |.uC m s f args=>by unfold yH z2n;exact(.bind (.const _) fun _=>(.bind (.const _) fun _=>(.bind (.call _) fun _=>(.ite (.const _) (.ite (.bind (.const _) fun _=>(.bind (.const _) fun _=>(.bind (.const _) fun _=>(.const _)))) (.bind (.const _) fun _=>(.const _)))))))
def zU(m:zA)(s:State)(t:zA):Option (State):=uO yH (.zU m s t)
def yO(n i:Int)(m:zA)(s:State)(t:zA)(o6:State):Option (State):=uO yH (.yO n i m s t o6)
def z1t(m:zA)(s:State)(t:zA):Option (State):=uO yH (.z1t m s t)
def vM(m:zA)(s:State)(t:zA)(o6:State)(x:Ref21Got)(root:zA):Option (State):=uO yH (.vM m s t o6 x root)
def zL(m:zA)(s:State)(t:zA):Option (Ref21Got):=uO yH (.zL m s t)
def jI(m:zA)(x:Ref21Got)(t:zA):Option (State):=uO yH (.jI m x t)
def yD(m:zA)(x:Ref21Got)(t:zA)(o6:State):Option (State):=uO yH (.yD m x t o6)
def z0N(m:zA)(from_:Ref21Got)(t:zA):Option (State):=uO yH (.z0N m from_ t)
def wD(n i:Int)(m t:zA)(o6:State)(to_:Ref21Got)(s:State):Option (State):=uO yH (.wD n i m t o6 to_ s)
def uN(m:zA)(s:State)(t:zA)(kept:Value):Option (List Int×State):=uO yH (.uN m s t kept)
def z1u(m:zA)(s:State)(t:zA):Option (Ref21Got):=uO yH (.z1u m s t)
def gM(m:zA)(s:State)(l:List zA):Option (List Value×State):=uO yH (.gM m s l)
def vU(l:List zA)(out:List Value)(i:Int)(m:zA)(s o7:State):Option (List Value×State):=uO yH (.vU l out i m s o7)
def uC(m:zA)(s:State)(f:Int)(args:List Value):Option (Ref21Got):=uO yH (.uC m s f args)
theorem z1b(m:zA)(s:State)(t:zA):zU m s t=jR zU yO z1t zL jI z0N m s t:=zX uS (.zU m s t)
theorem z3Q(n i:Int)(m:zA)(s:State)(t:zA)(o6:State):yO n i m s t o6=jU zU yO n i m s t o6:=zX uS (.yO n i m s t o6)
theorem v5s(m:zA)(s:State)(t:zA):z1t m s t=z5F vM zL m s t:=zX uS (.z1t m s t)
theorem z6H(m:zA)(s:State)(t:zA)(o6:State)(x:Ref21Got)(root:zA):vM m s t o6 x root=z0u vM uN m s t o6 x root:=zX uS (.vM m s t o6 x root)
theorem jC(m:zA)(s:State)(t:zA):zL m s t=uD z1u gM uC m s t:=zX uS (.zL m s t)
theorem v0F(m:zA)(x:Ref21Got)(t:zA):jI m x t=z3o yD m x t:=zX uS (.jI m x t)
theorem z5k(m:zA)(x:Ref21Got)(t:zA)(o6:State):yD m x t o6=jY zU zL yD m x t o6:=zX uS (.yD m x t o6)
theorem v5r(m:zA)(from_:Ref21Got)(t:zA):z0N m from_ t=z5E zL wD m from_ t:=zX uS (.z0N m from_ t)
theorem z4L(n i:Int)(m t:zA)(o6:State)(to_:Ref21Got)(s:State):wD n i m t o6 to_ s=gO zU wD n i m t o6 to_ s:=zX uS (.wD n i m t o6 to_ s)
theorem y1A(m:zA)(s:State)(t:zA)(kept:Value):uN m s t kept=z3n zL uN m s t kept:=zX uS (.uN m s t kept)
theorem v5t(m:zA)(s:State)(t:zA):z1u m s t=z5G zL m s t:=zX uS (.z1u m s t)
theorem v3r(m:zA)(s:State)(l:List zA):gM m s l=z4w vU m s l:=zX uS (.gM m s l)
theorem y0c(l:List zA)(out:List Value)(i:Int)(m:zA)(s o7:State):vU l out i m s o7=z0K zL vU l out i m s o7:=zX uS (.vU l out i m s o7)
theorem y8h(m:zA)(s:State)(f:Int)(args:List Value):uC m s f args=z2n zU m s f args:=zX uS (.uC m s f args)
def jQ(yG:(List Int)→(List Int)→Int→Option (Bool))(a b:List Int)(i:Int):Option (Bool):=
 if i<(List.length a:Int)then
  idx a i>>=fun x=>
  idx b i>>=fun x1=>
  if x=x1 then
   yG a b (IntKind.wrap .i64 (i+1))
  else
  some (false)
 else
 some (true)
inductive z2c where
 |yG (a b:List Int) (i:Int)
@[reducible] def z4d:z2c→Type
 |.yG _ _ _=>Bool
def z2b(g:Fam z4d):Fam z4d
 |.yG a b i=>jQ (fun a b i=>g (z2c.yG a b i)) a b i
theorem z6K:∀i,Good (fun g=>z2b g i)
 |.yG a b i=>by unfold z2b jQ;exact(.ite (.bind (.const _) fun _=>(.bind (.const _) fun _=>(.ite (.call _) (.const _)))) (.const _))
def yG(a b:List Int)(i:Int):Option (Bool):=uO z2b (.yG a b i)
theorem z6w(a b:List Int)(i:Int):yG a b i=jQ yG a b i:=zX z6K (.yG a b i)
def z3m(a b:List Int):Option (Bool):=
 if(List.length a:Int)=(List.length b:Int)then
  yG a b 0
 else
 some (false)
def gJ(yS:(List Value)→(List Value)→Int→Option (Bool))(a b:List Value)(i:Int):Option (Bool):=
 if i<(List.length a:Int)then
  idx a i>>=fun x=>
  idx b i>>=fun x1=>
  uA x x1>>=fun q1=>
  if q1=true then
   yS a b (IntKind.wrap .i64 (i+1))
  else
  some (false)
 else
 some (true)
inductive z2J where
 |yS (a b:List Value) (i:Int)
@[reducible] def z5i:z2J→Type
 |.yS _ _ _=>Bool
def z2C(g:Fam z5i):Fam z5i
 |.yS a b i=>gJ (fun a b i=>g (z2J.yS a b i)) a b i
theorem z8o:∀i,Good (fun g=>z2C g i)
 |.yS a b i=>by unfold z2C gJ;exact(.ite (.bind (.const _) fun _=>(.bind (.const _) fun _=>(.bind (.const _) fun _=>(.ite (.call _) (.const _))))) (.const _))
def yS(a b:List Value)(i:Int):Option (Bool):=uO z2C (.yS a b i)
theorem z7i(a b:List Value)(i:Int):yS a b i=gJ yS a b i:=zX z8o (.yS a b i)
def z4x(a b:List Value):Option (Bool):=
 if(List.length a:Int)=(List.length b:Int)then
  yS a b 0
 else
 some (false)
def y2E(a b:State):Option (Bool):=
 z4x a.Globals b.Globals>>=fun q1=>
 if q1=true then
  z4x a.Locals b.Locals>>=fun q2=>
  if q2=true then
   z3m a.Input b.Input>>=fun q3=>
   if q3=true then
    if a.At=b.At then
     z3m a.Trace b.Trace>>=fun q4=>
     if q4=true then
      if a.Fuel=b.Fuel then
       if a.Kind=b.Kind then
        if a.N=b.N then
         uA a.Ret b.Ret>>=fun q5=>
         some (q5)
        else
        some (false)
       else
       some (false)
      else
      some (false)
     else
     some (false)
    else
    some (false)
   else
   some (false)
  else
  some (false)
 else
 some (false)
def y0d(a b:State):Option (Bool):=
 y2E ({a with Fuel:=0}) ({b with Fuel:=0})>>=fun q1=>
 some (q1)
def z4y(m:zA)(s:State)(l r_:zA):Option (Bool):=
 zU m s l>>=fun q1=>
 if q1.Kind=3 then
  some (true)
 else
 uP l>>=fun q2=>
 uP r_>>=fun q3=>
 if(IntKind.wrap .i64 ((IntKind.wrap .i64 ((IntKind.wrap .i64 (s.Fuel-q1.Fuel))+1))*(IntKind.wrap .i64 ((IntKind.wrap .i64 (2+q2))+q3))))>65536 then
  some (true)
 else
 zU m ({s with Fuel:=IntKind.wrap .i64 ((IntKind.wrap .i64 ((IntKind.wrap .i64 (s.Fuel-q1.Fuel))+1))*(IntKind.wrap .i64 ((IntKind.wrap .i64 (2+q2))+q3)))}) r_>>=fun q4=>
 y0d q1 q4>>=fun q5=>
 some (q5)
def z7n(c:Ref28Rule):Option (Bool):=
 z7c c.M>>=fun q1=>
 if q1=true then
  y0a c.M c.S>>=fun q2=>
  if q2=true then
   y2D c.M c.Types c.S.Locals>>=fun q3=>
   if q3=true then
    z7l c c.L>>=fun q4=>
    if q4=true then
     z7l c c.R>>=fun q5=>
     if q5=true then
      z4y c.M c.S c.L c.R>>=fun q6=>
      if q6=true then
       z4y c.M c.S c.R c.L>>=fun q7=>
       some (q7)
      else
      some (false)
     else
     some (true)
    else
    some (true)
   else
   some (true)
  else
  some (true)
 else
 some (true)
def z4J(c:Ref28Rule):Option (Bool):=
 z7m c>>=fun q1=>
 if q1=true then
  z4j>>=fun q2=>
  some (q2)
 else
 z4h c.Rule c.L c.R>>=fun q3=>
 if q3=true then
  z7n c>>=fun q5=>
  if q5=true then
   z4j>>=fun q6=>
   some (q6)
  else
  some (false)
 else
 z4j>>=fun q4=>
 some (q4)
end
end Go.Proofs.YtcpblelppecabaaGreat.M

