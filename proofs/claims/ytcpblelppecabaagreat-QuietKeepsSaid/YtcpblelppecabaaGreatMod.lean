import Derived.Test.YtcpblelppecabaaGreatTy
namespace Go.Proofs.YtcpblelppecabaaGreat.M
open Go Nt
set_option linter.unusedVariables false
noncomputable section
def uW(quiet_Quiet_L3:Bool→(List zA)→Int→Int→Option (Bool))(quiet:Bool)(v7:List zA)(v8 v9:Int):Option (Bool):=
 if v9<v8 then
  idx v7 v9>>=fun x=>
  if x.K=5 then
   quiet_Quiet_L3 quiet v7 v8 (IntKind.wrap .i64 (v9+1))
  else
  if x.K=6 then
   quiet_Quiet_L3 quiet v7 v8 (IntKind.wrap .i64 (v9+1))
  else
  if x.K=7 then
   quiet_Quiet_L3 quiet v7 v8 (IntKind.wrap .i64 (v9+1))
  else
  if x.K=8 then
   quiet_Quiet_L3 quiet v7 v8 (IntKind.wrap .i64 (v9+1))
  else
  if x.K=9 then
   quiet_Quiet_L3 quiet v7 v8 (IntKind.wrap .i64 (v9+1))
  else
  if x.K=11 then
   quiet_Quiet_L3 quiet v7 v8 (IntKind.wrap .i64 (v9+1))
  else
  if x.K=13 then
   quiet_Quiet_L3 quiet v7 v8 (IntKind.wrap .i64 (v9+1))
  else
  if x.K=14 then
   quiet_Quiet_L3 quiet v7 v8 (IntKind.wrap .i64 (v9+1))
  else
  if x.K=15 then
   quiet_Quiet_L3 quiet v7 v8 (IntKind.wrap .i64 (v9+1))
  else
  if x.K=10 then
   if x.N=12 then
    if(List.length x.L:Int)<2 then
     some (false)
    else
    idx x.L 1>>=fun x33=>
    if x33.K=5 then
     idx x.L 1>>=fun x34=>
     if x34.N=0 then
      some (false)
     else
     quiet_Quiet_L3 quiet v7 v8 (IntKind.wrap .i64 (v9+1))
    else
    some (false)
   else
   if x.N=13 then
    if(List.length x.L:Int)<2 then
     some (false)
    else
    idx x.L 1>>=fun x35=>
    if x35.K=5 then
     idx x.L 1>>=fun x36=>
     if x36.N=0 then
      some (false)
     else
     quiet_Quiet_L3 quiet v7 v8 (IntKind.wrap .i64 (v9+1))
    else
    some (false)
   else
   quiet_Quiet_L3 quiet v7 v8 (IntKind.wrap .i64 (v9+1))
  else
  some (false)
 else
 some (quiet)
inductive I_quiet_Quiet_L3 where
 |quiet_Quiet_L3 (quiet:Bool) (v7:List zA) (v8 v9:Int)
@[reducible] def z3V:I_quiet_Quiet_L3→Type
 |.quiet_Quiet_L3 _ _ _ _=>Bool
def z1K(g:Fam z3V):Fam z3V
 |.quiet_Quiet_L3 quiet v7 v8 v9=>uW (fun quiet v7 v8 v9=>g (I_quiet_Quiet_L3.quiet_Quiet_L3 quiet v7 v8 v9)) quiet v7 v8 v9
theorem z6C:∀i,Good (fun g=>z1K g i)
 |.quiet_Quiet_L3 quiet v7 v8 v9=>by unfold z1K uW;exact(.ite (.bind (.const _) fun _=>(.ite (.call _) (.ite (.call _) (.ite (.call _) (.ite (.call _) (.ite (.call _) (.ite (.call _) (.ite (.call _) (.ite (.call _) (.ite (.call _) (.ite (.ite (.ite (.const _) (.bind (.const _) fun _=>(.ite (.bind (.const _) fun _=>(.ite (.const _) (.call _))) (.const _)))) (.ite (.ite (.const _) (.bind (.const _) fun _=>(.ite (.bind (.const _) fun _=>(.ite (.const _) (.call _))) (.const _)))) (.call _))) (.const _)))))))))))) (.const _))
def quiet_Quiet_L3(quiet:Bool)(v7:List zA)(v8 v9:Int):Option (Bool):=uQ z1K (.quiet_Quiet_L3 quiet v7 v8 v9)
theorem z5z(quiet:Bool)(v7:List zA)(v8 v9:Int):quiet_Quiet_L3 quiet v7 v8 v9=uW quiet_Quiet_L3 quiet v7 v8 v9:=zW z6C (.quiet_Quiet_L3 quiet v7 v8 v9)
def gB(quiet_all_L3:(List zA)→Int→Option (List zA))(out:List zA)(i:Int):Option (List zA):=
 if i<(List.length out:Int)then
  idx out i>>=fun x=>
  if wC 72 (List.length out+List.length x.L)then
  quiet_all_L3 (out++x.L) (IntKind.wrap .i64 (i+1))
  else none
 else
 some (out)
inductive I_quiet_all_L3 where
 |quiet_all_L3 (out:List zA) (i:Int)
@[reducible] def z5k:I_quiet_all_L3→Type
 |.quiet_all_L3 _ _=>List zA
def z3F(g:Fam z5k):Fam z5k
 |.quiet_all_L3 out i=>gB (fun out i=>g (I_quiet_all_L3.quiet_all_L3 out i)) out i
theorem z8K:∀i,Good (fun g=>z3F g i)
 |.quiet_all_L3 out i=>by unfold z3F gB;exact(.ite (.bind (.const _) fun _=>(.ite (.call _) (.const _))) (.const _))
def quiet_all_L3(out:List zA)(i:Int):Option (List zA):=uQ z3F (.quiet_all_L3 out i)
theorem z4R(out:List zA)(i:Int):quiet_all_L3 out i=gB quiet_all_L3 out i:=zW z8K (.quiet_all_L3 out i)
def z5A(t:zA):Option (List zA):=
 quiet_all_L3 [t] 0
def z3p(t:zA):Option (Bool):=
 z5A t>>=fun q1=>
 quiet_Quiet_L3 true q1 (List.length q1:Int) 0
def gA:List zA→List Int→Option (List Int)
 |[],out=>some out
 |x::r,out=>if x.K=9 then(if wC 8 (List.length out+1)then gA r (out++[x.N])else none)else gA r out
def z6u(t:zA):Option (List Int):=
 z5A t>>=fun q=>gA q []>>=fun l=>if List.length q≤1000000000 then some ((l.mergeSort fun x y=>decide (x≤y)).foldl (fun acc x=>if acc.getLast?=some x then acc else acc++[x]) [])else none
def z1u :Option (Bool):=
 z3p (zA.mk 5 0 [] [] 0 0)>>=fun q1=>
 if q1=true then
  z6u (zA.mk 9 3 [] [] 0 0)>>=fun q2=>
  some (((List.length q2:Int) == 1))
 else
 some (false)
def z2q(yS:Int→Int→Int→zA→Option (Int))(t:zA)(left levels:Int):Option (Int):=
 if levels≤0 then
  some ((-1))
 else
 yS (IntKind.wrap .i64 (left-1)) levels 0 t
def gK(wV:zA→Int→Int→Option (Int))(yS:Int→Int→Int→zA→Option (Int))(left levels i:Int)(t:zA):Option (Int):=
 if i<(List.length t.L:Int)then
  if left≥0 then
   idx t.L i>>=fun x=>
   wV x left (IntKind.wrap .i64 (levels-1))>>=fun q1=>
   yS q1 levels (IntKind.wrap .i64 (i+1)) t
  else
  some (left)
 else
 some (left)
inductive z0z where
 |wV (t:zA) (left levels:Int)
 |yS (left levels i:Int) (t:zA)
@[reducible] def z7v:z0z→Type
 |.wV _ _ _=>Int
 |.yS _ _ _ _=>Int
def z2i(g:Fam z7v):Fam z7v
 |.wV t left levels=>z2q (fun left levels i t=>g (z0z.yS left levels i t)) t left levels
 |.yS left levels i t=>gK (fun t left levels=>g (z0z.wV t left levels)) (fun left levels i t=>g (z0z.yS left levels i t)) left levels i t
theorem z7e:∀i,Good (fun g=>z2i g i)
 |.wV t left levels=>by unfold z2i z2q;exact(.ite (.const _) (.call _))
 |.yS left levels i t=>by unfold z2i gK;exact(.ite (.ite (.bind (.const _) fun _=>(.bind (.call _) fun _=>(.call _))) (.const _)) (.const _))
def wV(t:zA)(left levels:Int):Option (Int):=uQ z2i (.wV t left levels)
def yS(left levels i:Int)(t:zA):Option (Int):=uQ z2i (.yS left levels i t)
theorem y7q(t:zA)(left levels:Int):wV t left levels=z2q yS t left levels:=zW z7e (.wV t left levels)
theorem z6U(left levels i:Int)(t:zA):yS left levels i t=gK wV yS left levels i t:=zW z7e (.yS left levels i t)
def z2r(yT:Int→zA→Option (Bool))(t:zA):Option (Bool):=
 if(List.length t.S:Int)>40 then
  some (true)
 else
 yT 0 t
def gL(wW:zA→Option (Bool))(yT:Int→zA→Option (Bool))(i:Int)(t:zA):Option (Bool):=
 if i<(List.length t.L:Int)then
  idx t.L i>>=fun x=>
  wW x>>=fun q1=>
  if q1=true then
   some (true)
  else
  yT (IntKind.wrap .i64 (i+1)) t
 else
 some (false)
inductive z0A where
 |wW (t:zA)
 |yT (i:Int) (t:zA)
@[reducible] def z7w:z0A→Type
 |.wW _=>Bool
 |.yT _ _=>Bool
def z2j(g:Fam z7w):Fam z7w
 |.wW t=>z2r (fun i t=>g (z0A.yT i t)) t
 |.yT i t=>gL (fun t=>g (z0A.wW t)) (fun i t=>g (z0A.yT i t)) i t
theorem z7f:∀i,Good (fun g=>z2j g i)
 |.wW t=>by unfold z2j z2r;exact(.ite (.const _) (.call _))
 |.yT i t=>by unfold z2j gL;exact(.ite (.bind (.const _) fun _=>(.bind (.call _) fun _=>(.ite (.const _) (.call _)))) (.const _))
def wW(t:zA):Option (Bool):=uQ z2j (.wW t)
def yT(i:Int)(t:zA):Option (Bool):=uQ z2j (.yT i t)
theorem y7r(t:zA):wW t=z2r yT t:=zW z7f (.wW t)
theorem z6V(i:Int)(t:zA):yT i t=gL wW yT i t:=zW z7f (.yT i t)
def jK(t:zA):Option (Bool):=
 wV t 400 70>>=fun q1=>
 if q1<0 then
  some (true)
 else
 wW t>>=fun q2=>
 some (q2)
def z2w(yV:Int→Int→Int→Value→Option (Int))(v:Value)(left levels:Int):Option (Int):=
 if levels≤0 then
  some ((-1))
 else
 yV (IntKind.wrap .i64 (left-1)) levels 0 v
def gR(wX:Value→Int→Int→Option (Int))(yV:Int→Int→Int→Value→Option (Int))(left levels i:Int)(v:Value):Option (Int):=
 if i<(List.length v.L:Int)then
  if left≥0 then
   idx v.L i>>=fun x=>
   wX x left (IntKind.wrap .i64 (levels-1))>>=fun q1=>
   yV q1 levels (IntKind.wrap .i64 (i+1)) v
  else
  some (left)
 else
 some (left)
inductive z0B where
 |wX (v:Value) (left levels:Int)
 |yV (left levels i:Int) (v:Value)
@[reducible] def z7z:z0B→Type
 |.wX _ _ _=>Int
 |.yV _ _ _ _=>Int
def z2k(g:Fam z7z):Fam z7z
 |.wX v left levels=>z2w (fun left levels i v=>g (z0B.yV left levels i v)) v left levels
 |.yV left levels i v=>gR (fun v left levels=>g (z0B.wX v left levels)) (fun left levels i v=>g (z0B.yV left levels i v)) left levels i v
theorem z7j:∀i,Good (fun g=>z2k g i)
 |.wX v left levels=>by unfold z2k z2w;exact(.ite (.const _) (.call _))
 |.yV left levels i v=>by unfold z2k gR;exact(.ite (.ite (.bind (.const _) fun _=>(.bind (.call _) fun _=>(.call _))) (.const _)) (.const _))
def wX(v:Value)(left levels:Int):Option (Int):=uQ z2k (.wX v left levels)
def yV(left levels i:Int)(v:Value):Option (Int):=uQ z2k (.yV left levels i v)
theorem y7t(v:Value)(left levels:Int):wX v left levels=z2w yV v left levels:=zW z7j (.wX v left levels)
theorem z7a(left levels i:Int)(v:Value):yV left levels i v=gR wX yV left levels i v:=zW z7j (.yV left levels i v)
def z4t(v:Value):Option (Bool):=
 wX v 300 60>>=fun q1=>
 some (decide (q1<0))
def gW(vH:(List Value)→Int→Option (Bool))(l:List Value)(i:Int):Option (Bool):=
 if i<(List.length l:Int)then
  if i<40 then
   idx l i>>=fun x=>
   z4t x>>=fun q1=>
   if q1=true then
    some (true)
   else
   vH l (IntKind.wrap .i64 (i+1))
  else
  some (decide ((List.length l:Int)>40))
 else
 some (decide ((List.length l:Int)>40))
inductive z2O where
 |vH (l:List Value) (i:Int)
@[reducible] def z4G:z2O→Type
 |.vH _ _=>Bool
def z2H(g:Fam z4G):Fam z4G
 |.vH l i=>gW (fun l i=>g (z2O.vH l i)) l i
theorem z7m:∀i,Good (fun g=>z2H g i)
 |.vH l i=>by unfold z2H gW;exact(.ite (.ite (.bind (.const _) fun _=>(.bind (.const _) fun _=>(.ite (.const _) (.call _)))) (.const _)) (.const _))
def vH(l:List Value)(i:Int):Option (Bool):=uQ z2H (.vH l i)
theorem z7c(l:List Value)(i:Int):vH l i=gW vH l i:=zW z7m (.vH l i)
def z4u(l:List Value):Option (Bool):=
 vH l 0
def z3C(s:State):Option (Bool):=
 if(List.length s.Globals:Int)>40 then
  some (true)
 else
 if(List.length s.Locals:Int)>40 then
  some (true)
 else
 if(List.length s.Input:Int)>100 then
  some (true)
 else
 if(List.length s.Trace:Int)>200 then
  some (true)
 else
 if s.Fuel>3000 then
  some (true)
 else
 z4t s.Ret>>=fun q1=>
 if q1=true then
  some (true)
 else
 z4u s.Globals>>=fun q2=>
 if q2=true then
  some (true)
 else
 z4u s.Locals>>=fun q3=>
 some (q3)
def gJ(vC:Int→Law24Eval→Option (Bool))(i:Int)(c:Law24Eval):Option (Bool):=
 if i<(List.length c.Types:Int)then
  if i<40 then
   idx c.Types i>>=fun x=>
   jK x>>=fun q1=>
   if q1=true then
    some (true)
   else
   vC (IntKind.wrap .i64 (i+1)) c
  else
  if(List.length c.Types:Int)>40 then
   some (true)
  else
  jK c.M>>=fun q2=>
  if q2=true then
   some (true)
  else
  jK c.A>>=fun q3=>
  if q3=true then
   some (true)
  else
  jK c.B_>>=fun q4=>
  if q4=true then
   some (true)
  else
  z3C c.S>>=fun q5=>
  some (q5)
 else
 if(List.length c.Types:Int)>40 then
  some (true)
 else
 jK c.M>>=fun q6=>
 if q6=true then
  some (true)
 else
 jK c.A>>=fun q7=>
 if q7=true then
  some (true)
 else
 jK c.B_>>=fun q8=>
 if q8=true then
  some (true)
 else
 z3C c.S>>=fun q9=>
 some (q9)
inductive z2I where
 |vC (i:Int) (c:Law24Eval)
@[reducible] def z4z:z2I→Type
 |.vC _ _=>Bool
def z2B(g:Fam z4z):Fam z4z
 |.vC i c=>gJ (fun i c=>g (z2I.vC i c)) i c
theorem z7d:∀i,Good (fun g=>z2B g i)
 |.vC i c=>by unfold z2B gJ;exact(.ite (.ite (.bind (.const _) fun _=>(.bind (.const _) fun _=>(.ite (.const _) (.call _)))) (.ite (.const _) (.bind (.const _) fun _=>(.ite (.const _) (.bind (.const _) fun _=>(.ite (.const _) (.bind (.const _) fun _=>(.ite (.const _) (.bind (.const _) fun _=>(.const _)))))))))) (.ite (.const _) (.bind (.const _) fun _=>(.ite (.const _) (.bind (.const _) fun _=>(.ite (.const _) (.bind (.const _) fun _=>(.ite (.const _) (.bind (.const _) fun _=>(.const _))))))))))
def vC(i:Int)(c:Law24Eval):Option (Bool):=uQ z2B (.vC i c)
theorem z6T(i:Int)(c:Law24Eval):vC i c=gJ vC i c:=zW z7d (.vC i c)
def z5y(c:Law24Eval):Option (Bool):=
 vC 0 c
def z2o(s:State)(fuel:Int):Option (State):=
 some ({s with Fuel:=fuel})
def z3s(vM:Int→Int→zA→Option (Int))(t:zA):Option (Int):=
 vM 1 0 t
def z0o(uH:zA→Option (Int))(vM:Int→Int→zA→Option (Int))(n i:Int)(t:zA):Option (Int):=
 if i<(List.length t.L:Int)then
  idx t.L i>>=fun x=>
  uH x>>=fun q1=>
  vM (IntKind.wrap .i64 (n+q1)) (IntKind.wrap .i64 (i+1)) t
 else
 some (n)
inductive z0Z where
 |uH (t:zA)
 |vM (n i:Int) (t:zA)
@[reducible] def z9i:z0Z→Type
 |.uH _=>Int
 |.vM _ _ _=>Int
def z3h(g:Fam z9i):Fam z9i
 |.uH t=>z3s (fun n i t=>g (z0Z.vM n i t)) t
 |.vM n i t=>z0o (fun t=>g (z0Z.uH t)) (fun n i t=>g (z0Z.vM n i t)) n i t
theorem z9b:∀i,Good (fun g=>z3h g i)
 |.uH t=>by unfold z3h z3s;exact(.call _)
 |.vM n i t=>by unfold z3h z0o;exact(.ite (.bind (.const _) fun _=>(.bind (.call _) fun _=>(.call _))) (.const _))
def uH(t:zA):Option (Int):=uQ z3h (.uH t)
def vM(n i:Int)(t:zA):Option (Int):=uQ z3h (.vM n i t)
theorem y9z(t:zA):uH t=z3s vM t:=zW z9b (.uH t)
theorem z8g(n i:Int)(t:zA):vM n i t=z0o uH vM n i t:=zW z9b (.vM n i t)
def z1w(yD:Int→zA→zA→Option (Bool))(a b:zA):Option (Bool):=
 if a.K=b.K then
  if a.N=b.N then
   if a.S=b.S then
    if a.From=b.From then
     if a.To=b.To then
      if(List.length a.L:Int)=(List.length b.L:Int)then
       yD 0 a b
      else
      some (false)
     else
     some (false)
    else
    some (false)
   else
   some (false)
  else
  some (false)
 else
 some (false)
def jL(wA:zA→zA→Option (Bool))(yD:Int→zA→zA→Option (Bool))(i:Int)(a b:zA):Option (Bool):=
 if i<(List.length a.L:Int)then
  idx a.L i>>=fun x=>
  idx b.L i>>=fun x1=>
  wA x x1>>=fun q1=>
  if q1=true then
   yD (IntKind.wrap .i64 (i+1)) a b
  else
  some (false)
 else
 some (true)
inductive z0b where
 |wA (a b:zA)
 |yD (i:Int) (a b:zA)
@[reducible] def z6a:z0b→Type
 |.wA _ _=>Bool
 |.yD _ _ _=>Bool
def z1o(g:Fam z6a):Fam z6a
 |.wA a b=>z1w (fun i a b=>g (z0b.yD i a b)) a b
 |.yD i a b=>jL (fun a b=>g (z0b.wA a b)) (fun i a b=>g (z0b.yD i a b)) i a b
theorem z5X:∀i,Good (fun g=>z1o g i)
 |.wA a b=>by unfold z1o z1w;exact(.ite (.ite (.ite (.ite (.ite (.ite (.call _) (.const _)) (.const _)) (.const _)) (.const _)) (.const _)) (.const _))
 |.yD i a b=>by unfold z1o jL;exact(.ite (.bind (.const _) fun _=>(.bind (.const _) fun _=>(.bind (.call _) fun _=>(.ite (.call _) (.const _))))) (.const _))
def wA(a b:zA):Option (Bool):=uQ z1o (.wA a b)
def yD(i:Int)(a b:zA):Option (Bool):=uQ z1o (.yD i a b)
theorem y5p(a b:zA):wA a b=z1w yD a b:=zW z5X (.wA a b)
theorem z5B(i:Int)(a b:zA):yD i a b=jL wA yD i a b:=zW z5X (.yD i a b)
def z3q(vJ:(List zA)→Int→zA→zA→Option (zA))(t:zA):Option (zA):=
 vJ ([]:List zA) 0 t (zA.mk 0 0 [] [] 0 0)
def z0m(wL:zA→Option (zA))(vJ:(List zA)→Int→zA→zA→Option (zA))(out:List zA)(i:Int)(t o2:zA):Option (zA):=
 if i<(List.length t.L:Int)then
  idx t.L i>>=fun x=>
  wL x>>=fun q1=>
  if wC 72 (List.length out+List.length [q1])then
  vJ (out++[q1]) (IntKind.wrap .i64 (i+1)) t o2
  else none
 else
 some ((zA.mk t.K t.N t.S out 0 0))
inductive z0X where
 |wL (t:zA)
 |vJ (out:List zA) (i:Int) (t o2:zA)
@[reducible] def z9g:z0X→Type
 |.wL _=>zA
 |.vJ _ _ _ _=>zA
def z3f(g:Fam z9g):Fam z9g
 |.wL t=>z3q (fun out i t o2=>g (z0X.vJ out i t o2)) t
 |.vJ out i t o2=>z0m (fun t=>g (z0X.wL t)) (fun out i t o2=>g (z0X.vJ out i t o2)) out i t o2
theorem z8Z:∀i,Good (fun g=>z3f g i)
 |.wL t=>by unfold z3f z3q;exact(.call _)
 |.vJ out i t o2=>by unfold z3f z0m;exact(.ite (.bind (.const _) fun _=>(.bind (.call _) fun _=>(.ite (.call _) (.const _)))) (.const _))
def wL(t:zA):Option (zA):=uQ z3f (.wL t)
def vJ(out:List zA)(i:Int)(t o2:zA):Option (zA):=uQ z3f (.vJ out i t o2)
theorem y9x(t:zA):wL t=z3q vJ t:=zW z8Z (.wL t)
theorem z8e(out:List zA)(i:Int)(t o2:zA):vJ out i t o2=z0m wL vJ out i t o2:=zW z8Z (.vJ out i t o2)
def z5g :Option (zA):=
 some ((zA.mk 1 0 [] [] 0 0))
def jU :Option (zA):=
 some ((zA.mk 2 0 [] [] 0 0))
def z0D(t:zA):Option (zA):=
 if t.K=5 then
  z5g>>=fun q1=>
  some (q1)
 else
 if t.K=6 then
  jU>>=fun q2=>
  some (q2)
 else
 some ((zA.mk 0 0 [] [] 0 0))
def z5E(m:zA)(locals:List zA)(t:zA):Option (zA):=
 if t.K=7 then
  idx locals (IntKind.wrap .i64 ((IntKind.wrap .i64 ((List.length locals:Int)-1))-t.N))>>=fun x=>
  wL x>>=fun q1=>
  some (q1)
 else
 if t.K=8 then
  idx m.L t.N>>=fun x1=>
  idx x1.L 0>>=fun x2=>
  z0D x2>>=fun q2=>
  some (q2)
 else
 if t.K=9 then
  idx m.L t.N>>=fun x3=>
  idx x3.L 0>>=fun x4=>
  wL x4>>=fun q3=>
  some (q3)
 else
 if t.K=18 then
  z5g>>=fun q4=>
  some (q4)
 else
 z0D t>>=fun q5=>
 some (q5)
def z6v(t:zA)(e:Int):Option (Ref15Got):=
 some ((Ref15Got.mk (zA.mk 0 0 [] [] 0 0) (zA.mk 0 0 [] [] 0 0) t.From e))
def jM(yO:Int→zA→Option (Bool))(i:Int)(d:zA):Option (Bool):=
 if i<(List.length d.L:Int)then
  idx d.L i>>=fun x=>
  if x.K=34 then
   idx d.L i>>=fun x1=>
   if(List.length x1.L:Int)=1 then
    yO (IntKind.wrap .i64 (i+1)) d
   else
   some (false)
  else
  some (false)
 else
 some (true)
inductive z1S where
 |yO (i:Int) (d:zA)
@[reducible] def z3W:z1S→Type
 |.yO _ _=>Bool
def z1L(g:Fam z3W):Fam z3W
 |.yO i d=>jM (fun i d=>g (z1S.yO i d)) i d
theorem z6D:∀i,Good (fun g=>z1L g i)
 |.yO i d=>by unfold z1L jM;exact(.ite (.bind (.const _) fun _=>(.ite (.bind (.const _) fun _=>(.ite (.call _) (.const _))) (.const _))) (.const _))
def yO(i:Int)(d:zA):Option (Bool):=uQ z1L (.yO i d)
theorem z5D(i:Int)(d:zA):yO i d=jM yO i d:=zW z6D (.yO i d)
def z1g(d:zA):Option (Bool):=
 if d.K=30 then
  if(List.length d.L:Int)=0 then
   some (false)
  else
  yO 0 d
 else
 some (false)
def z4p(m:zA)(n kind:Int):Option (Bool):=
 if n<0 then
  some (false)
 else
 if n≥(List.length m.L:Int)then
  some (false)
 else
 idx m.L n>>=fun x=>
 if x.K=kind then
  if kind=31 then
   if(List.length x.L:Int)=1 then
    idx x.L 0>>=fun x1=>
    z0D x1>>=fun q1=>
    some (!(q1.K == 0))
   else
   some (false)
  else
  if kind=32 then
   some (((List.length x.L:Int) == 1))
  else
  if kind=33 then
   some (((List.length x.L:Int) == 3))
  else
  z1g x>>=fun q2=>
  some (q2)
 else
 some (false)
def z5H(m:zA)(locals:List zA)(t:zA):Option (Bool):=
 if t.K=7 then
  if t.N≥0 then
   some (decide (t.N<(List.length locals:Int)))
  else
  some (false)
 else
 if t.K=8 then
  z4p m t.N 31>>=fun q1=>
  some (q1)
 else
 if t.K=9 then
  z4p m t.N 32>>=fun q2=>
  some (q2)
 else
 if t.K=15 then
  z4p m t.N 30>>=fun q3=>
  some (q3)
 else
 if t.K=16 then
  z4p m t.N 33>>=fun q4=>
  some (q4)
 else
 some (!(t.K == 17))
def z3u(t:zA)(kind:Int):Option (Bool):=
 if t.K=kind then
  some (((List.length t.L:Int) == 0))
 else
 some (false)
def z2s(m:zA)(n:Int):Option (zA×Bool):=
 if n<0 then
  some ((zA.mk 0 0 [] [] 0 0),false)
 else
 if 64≠(0:Int)then
 if(IntKind.wrap .i64 (Int.tdiv n 64))≥(List.length m.L:Int)then
  some ((zA.mk 0 0 [] [] 0 0),false)
 else
 if 64≠(0:Int)then
 idx m.L (IntKind.wrap .i64 (Int.tdiv n 64))>>=fun x=>
 if 64≠(0:Int)then
 if x.K=30 then
  if(Int.tmod n 64)≥(List.length x.L:Int)then
   some ((zA.mk 0 0 [] [] 0 0),false)
  else
  idx x.L (Int.tmod n 64)>>=fun x1=>
  if x1.K=34 then
   idx x.L (Int.tmod n 64)>>=fun x2=>
   if(List.length x2.L:Int)=1 then
    idx x.L (Int.tmod n 64)>>=fun x3=>
    idx x3.L 0>>=fun x4=>
    some (x4,true)
   else
   some ((zA.mk 0 0 [] [] 0 0),false)
  else
  some ((zA.mk 0 0 [] [] 0 0),false)
 else
 some ((zA.mk 0 0 [] [] 0 0),false)
 else none
 else none
 else none
def jN(yP:Int→Int→zA→zA→Option (Int))(n i:Int)(t d:zA):Option (Int):=
 if i<(List.length d.L:Int)then
  if i<64 then
   idx d.L i>>=fun x=>
   if x.S=t.S then
    some (IntKind.wrap .i64 ((IntKind.wrap .i64 (n*64))+i))
   else
   yP n (IntKind.wrap .i64 (i+1)) t d
  else
  some ((-1))
 else
 some ((-1))
inductive z1T where
 |yP (n i:Int) (t d:zA)
@[reducible] def z3X:z1T→Type
 |.yP _ _ _ _=>Int
def z1M(g:Fam z3X):Fam z3X
 |.yP n i t d=>jN (fun n i t d=>g (z1T.yP n i t d)) n i t d
theorem z6E:∀i,Good (fun g=>z1M g i)
 |.yP n i t d=>by unfold z1M jN;exact(.ite (.ite (.bind (.const _) fun _=>(.ite (.const _) (.call _))) (.const _)) (.const _))
def yP(n i:Int)(t d:zA):Option (Int):=uQ z1M (.yP n i t d)
theorem z5G(n i:Int)(t d:zA):yP n i t d=jN yP n i t d:=zW z6E (.yP n i t d)
def z5F(m t:zA)(n:Int):Option (Int):=
 z4p m n 30>>=fun q1=>
 if q1=true then
  if t.S=[]then
   z2s m t.N>>=fun q2=>
   if q2.2=true then
    if 64≠(0:Int)then
    if IntKind.wrap .i64 (Int.tdiv t.N 64)=n then
     some (t.N)
    else
    some ((-1))
    else none
   else
   some ((-1))
  else
  idx m.L n>>=fun x=>
  yP n 0 t x
 else
 some ((-1))
def z3r(vK:Int→zA→zA→Option (Bool))(a b:zA):Option (Bool):=
 if a.K=b.K then
  if a.N=b.N then
   if a.S=b.S then
    if(List.length a.L:Int)=(List.length b.L:Int)then
     vK 0 a b
    else
    some (false)
   else
   some (false)
  else
  some (false)
 else
 some (false)
def z0n(wP:zA→zA→Option (Bool))(vK:Int→zA→zA→Option (Bool))(i:Int)(a b:zA):Option (Bool):=
 if i<(List.length a.L:Int)then
  idx a.L i>>=fun x=>
  idx b.L i>>=fun x1=>
  wP x x1>>=fun q1=>
  if q1=true then
   vK (IntKind.wrap .i64 (i+1)) a b
  else
  some (false)
 else
 some (true)
inductive z0Y where
 |wP (a b:zA)
 |vK (i:Int) (a b:zA)
@[reducible] def z9h:z0Y→Type
 |.wP _ _=>Bool
 |.vK _ _ _=>Bool
def z3g(g:Fam z9h):Fam z9h
 |.wP a b=>z3r (fun i a b=>g (z0Y.vK i a b)) a b
 |.vK i a b=>z0n (fun a b=>g (z0Y.wP a b)) (fun i a b=>g (z0Y.vK i a b)) i a b
theorem z9a:∀i,Good (fun g=>z3g g i)
 |.wP a b=>by unfold z3g z3r;exact(.ite (.ite (.ite (.ite (.call _) (.const _)) (.const _)) (.const _)) (.const _))
 |.vK i a b=>by unfold z3g z0n;exact(.ite (.bind (.const _) fun _=>(.bind (.const _) fun _=>(.bind (.call _) fun _=>(.ite (.call _) (.const _))))) (.const _))
def wP(a b:zA):Option (Bool):=uQ z3g (.wP a b)
def vK(i:Int)(a b:zA):Option (Bool):=uQ z3g (.vK i a b)
theorem y9y(a b:zA):wP a b=z3r vK a b:=zW z9a (.wP a b)
theorem z8f(i:Int)(a b:zA):vK i a b=z0n wP vK i a b:=zW z9a (.vK i a b)
def z0I(wH:(List zA)→(List zA)→Int→Option (Bool))(types parts:List zA)(i:Int):Option (Bool):=
 if i<(List.length parts:Int)then
  idx parts i>>=fun x=>
  if(List.length x.L:Int)=1 then
   idx types i>>=fun x1=>
   idx parts i>>=fun x2=>
   idx x2.L 0>>=fun x3=>
   wL x3>>=fun q1=>
   wP x1 q1>>=fun q2=>
   if q2=true then
    wH types parts (IntKind.wrap .i64 (i+1))
   else
   some (false)
  else
  some (false)
 else
 some (true)
inductive z4l where
 |wH (types parts:List zA) (i:Int)
@[reducible] def z6c:z4l→Type
 |.wH _ _ _=>Bool
def z4i(g:Fam z6c):Fam z6c
 |.wH types parts i=>z0I (fun types parts i=>g (z4l.wH types parts i)) types parts i
theorem z9L:∀i,Good (fun g=>z4i g i)
 |.wH types parts i=>by unfold z4i z0I;exact(.ite (.bind (.const _) fun _=>(.ite (.bind (.const _) fun _=>(.bind (.const _) fun _=>(.bind (.const _) fun _=>(.bind (.const _) fun _=>(.bind (.const _) fun _=>(.ite (.call _) (.const _))))))) (.const _))) (.const _))
def wH(types parts:List zA)(i:Int):Option (Bool):=uQ z4i (.wH types parts i)
theorem z8S(types parts:List zA)(i:Int):wH types parts i=z0I wH types parts i:=zW z9L (.wH types parts i)
def z8C(types parts:List zA):Option (Bool):=
 if(List.length types:Int)=(List.length parts:Int)then
  wH types parts 0
 else
 some (false)
def wG(zM:zA→zA→(List Int)→Option (Int))(zZ:(List Int)→Int→Int→zA→Option (Int))(m t:zA)(in_:List Int):Option (Int):=
 if t.K=1 then
  if(List.length t.L:Int)=0 then
   some (1)
  else
  some (0)
 else
 if t.K=2 then
  if(List.length t.L:Int)=0 then
   some (1)
  else
  some (0)
 else
 if t.K=3 then
  if(List.length t.L:Int)=1 then
   if t.N≥1 then
    if t.N≤16 then
     idx t.L 0>>=fun x2=>
     zM m x2 in_>>=fun q3=>
     if(IntKind.wrap .i64 (q3*t.N))>64 then
      some (0)
     else
     some (IntKind.wrap .i64 (q3*t.N))
    else
    some (0)
   else
   some (0)
  else
  some (0)
 else
 if t.K=4 then
  if(List.length t.L:Int)=0 then
   if t.N<0 then
    some (0)
   else
   if t.N≥(List.length m.L:Int)then
    some (0)
   else
   zZ in_ t.N 0 m
  else
  some (0)
 else
 some (0)
def uJ(zZ:(List Int)→Int→Int→zA→Option (Int))(zO:(List Int)→Int→Int→Int→zA→zA→Option (Int))(in_:List Int)(at_ i:Int)(m:zA):Option (Int):=
 if i<(List.length in_:Int)then
  idx in_ i>>=fun x=>
  if x=at_ then
   some (0)
  else
  zZ in_ at_ (IntKind.wrap .i64 (i+1)) m
 else
 idx m.L at_>>=fun x1=>
 z1g x1>>=fun q1=>
 if q1=true then
  zO in_ at_ 0 0 m x1
 else
 some (0)
def uK(zM:zA→zA→(List Int)→Option (Int))(zO:(List Int)→Int→Int→Int→zA→zA→Option (Int))(in_:List Int)(at_ sum i:Int)(m d:zA):Option (Int):=
 if i<(List.length d.L:Int)then
  idx d.L i>>=fun x=>
  idx x.L 0>>=fun x1=>
  if wC 8 (List.length ([]:List Int)+List.length in_)then
  if wC 8 (List.length (([]:List Int)++in_)+List.length [at_])then
  zM m x1 ((([]:List Int)++in_)++[at_])>>=fun q1=>
  if q1=0 then
   some (0)
  else
  if(IntKind.wrap .i64 (sum+q1))>64 then
   some (0)
  else
  zO in_ at_ (IntKind.wrap .i64 (sum+q1)) (IntKind.wrap .i64 (i+1)) m d
  else none
  else none
 else
 some (sum)
inductive wU where
 |zM (m t:zA) (in_:List Int)
 |zZ (in_:List Int) (at_ i:Int) (m:zA)
 |zO (in_:List Int) (at_ sum i:Int) (m d:zA)
@[reducible] def z6b:wU→Type
 |.zM _ _ _=>Int
 |.zZ _ _ _ _=>Int
 |.zO _ _ _ _ _ _=>Int
def z0a(g:Fam z6b):Fam z6b
 |.zM m t in_=>wG (fun m t in_=>g (wU.zM m t in_)) (fun in_ at_ i m=>g (wU.zZ in_ at_ i m)) m t in_
 |.zZ in_ at_ i m=>uJ (fun in_ at_ i m=>g (wU.zZ in_ at_ i m)) (fun in_ at_ sum i m d=>g (wU.zO in_ at_ sum i m d)) in_ at_ i m
 |.zO in_ at_ sum i m d=>uK (fun m t in_=>g (wU.zM m t in_)) (fun in_ at_ sum i m d=>g (wU.zO in_ at_ sum i m d)) in_ at_ sum i m d
theorem z4h:∀i,Good (fun g=>z0a g i)
 |.zM m t in_=>by unfold z0a wG;exact(.ite (.ite (.const _) (.const _)) (.ite (.ite (.const _) (.const _)) (.ite (.ite (.ite (.ite (.bind (.const _) fun _=>(.bind (.call _) fun _=>(.ite (.const _) (.const _)))) (.const _)) (.const _)) (.const _)) (.ite (.ite (.ite (.const _) (.ite (.const _) (.call _))) (.const _)) (.const _)))))
 |.zZ in_ at_ i m=>by unfold z0a uJ;exact(.ite (.bind (.const _) fun _=>(.ite (.const _) (.call _))) (.bind (.const _) fun _=>(.bind (.const _) fun _=>(.ite (.call _) (.const _)))))
 |.zO in_ at_ sum i m d=>by unfold z0a uK;exact(.ite (.bind (.const _) fun _=>(.bind (.const _) fun _=>(.ite (.ite (.bind (.call _) fun _=>(.ite (.const _) (.ite (.const _) (.call _)))) (.const _)) (.const _)))) (.const _))
def zM(m t:zA)(in_:List Int):Option (Int):=uQ z0a (.zM m t in_)
def zZ(in_:List Int)(at_ i:Int)(m:zA):Option (Int):=uQ z0a (.zZ in_ at_ i m)
def zO(in_:List Int)(at_ sum i:Int)(m d:zA):Option (Int):=uQ z0a (.zO in_ at_ sum i m d)
theorem wJ(m t:zA)(in_:List Int):zM m t in_=wG zM zZ m t in_:=zW z4h (.zM m t in_)
theorem z2W(in_:List Int)(at_ i:Int)(m:zA):zZ in_ at_ i m=uJ zZ zO in_ at_ i m:=zW z4h (.zZ in_ at_ i m)
theorem z2X(in_:List Int)(at_ sum i:Int)(m d:zA):zO in_ at_ sum i m d=uK zM zO in_ at_ sum i m d:=zW z4h (.zO in_ at_ sum i m d)
def gE(m t:zA):Option (Int):=
 zM m t ([]:List Int)>>=fun q1=>
 some (q1)
def gM(vE:(List zA)→Int→zA→zA→zA→Option (zA×Int×Int))(p:List zA)(i:Int)(m t o6:zA):Option (zA×Int×Int):=
 if i<(List.length p:Int)then
  idx p i>>=fun x=>
  idx p 0>>=fun x1=>
  wP x x1>>=fun q1=>
  if q1=true then
   vE p (IntKind.wrap .i64 (i+1)) m t o6
  else
  some ((zA.mk 0 0 [] [] 0 0),0,10)
 else
 idx p 0>>=fun x2=>
 gE m (zA.mk 3 (List.length p:Int) [] [x2] 0 0)>>=fun q2=>
 if q2=0 then
  some ((zA.mk 0 0 [] [] 0 0),0,11)
 else
 some ((zA.mk 3 (List.length p:Int) [] [x2] 0 0),t.N,0)
inductive z2J where
 |vE (p:List zA) (i:Int) (m t o6:zA)
@[reducible] def z4B:z2J→Type
 |.vE _ _ _ _ _=>zA×Int×Int
def z2C(g:Fam z4B):Fam z4B
 |.vE p i m t o6=>gM (fun p i m t o6=>g (z2J.vE p i m t o6)) p i m t o6
theorem z7g:∀i,Good (fun g=>z2C g i)
 |.vE p i m t o6=>by unfold z2C gM;exact(.ite (.bind (.const _) fun _=>(.bind (.const _) fun _=>(.bind (.const _) fun _=>(.ite (.call _) (.const _))))) (.bind (.const _) fun _=>(.bind (.const _) fun _=>(.ite (.const _) (.const _)))))
def vE(p:List zA)(i:Int)(m t o6:zA):Option (zA×Int×Int):=uQ z2C (.vE p i m t o6)
theorem z6W(p:List zA)(i:Int)(m t o6:zA):vE p i m t o6=gM vE p i m t o6:=zW z7g (.vE p i m t o6)
def z4q(p:List zA)(m t o6:zA):Option (zA×Int×Int):=
 vE p 0 m t o6
def z1y(p:List zA)(m t o6:zA):Option (zA×Int×Int):=
 if t.K=14 then
  z4q p m t o6
 else
 some ((zA.mk 0 0 [] [] 0 0),0,10)
def z1x(p:List zA)(m t o6:zA):Option (zA×Int×Int):=
 if t.K=16 then
  idx m.L t.N>>=fun x=>
  idx x.L 0>>=fun x1=>
  z8C p x1.L>>=fun q1=>
  if q1=true then
   idx m.L t.N>>=fun x2=>
   idx x2.L 1>>=fun x3=>
   wL x3>>=fun q2=>
   some (q2,t.N,0)
  else
  z1y p m t o6
 else
 z1y p m t o6
def z0K(p:List zA)(m t o6:zA):Option (zA×Int×Int):=
 if t.K=15 then
  idx m.L t.N>>=fun x=>
  z8C p x.L>>=fun q1=>
  if q1=true then
   some ((zA.mk 4 t.N [] [] 0 0),t.N,0)
  else
  z1x p m t o6
 else
 z1x p m t o6
def z0F(p:List zA)(m t o6:zA):Option (zA×Int×Int):=
 if t.K=13 then
  idx p 0>>=fun x=>
  if x.K=4 then
   idx p 0>>=fun x1=>
   if(List.length x1.L:Int)=0 then
    idx p 0>>=fun x2=>
    z5F m t x2.N>>=fun q1=>
    if q1<0 then
     some ((zA.mk 0 0 [] [] 0 0),0,8)
    else
    z2s m q1>>=fun q2=>
    wL q2.1>>=fun q3=>
    some (q3,q1,0)
   else
   z0K p m t o6
  else
  z0K p m t o6
 else
 z0K p m t o6
def z0E(p:List zA)(m t o6:zA):Option (zA×Int×Int):=
 if t.K=12 then
  idx p 0>>=fun x=>
  if x.K=3 then
   idx p 0>>=fun x1=>
   if(List.length x1.L:Int)=1 then
    idx p 1>>=fun x2=>
    z3u x2 1>>=fun q1=>
    if q1=true then
     idx p 0>>=fun x3=>
     idx x3.L 0>>=fun x4=>
     some (x4,t.N,0)
    else
    z0F p m t o6
   else
   z0F p m t o6
  else
  z0F p m t o6
 else
 z0F p m t o6
def z2t(p:List zA)(m t o6:zA):Option (zA×Int×Int):=
 if t.K=11 then
  if t.N=1 then
   idx p 0>>=fun x=>
   z3u x 1>>=fun q1=>
   if q1=true then
    idx p 0>>=fun x1=>
    some (x1,t.N,0)
   else
   z0E p m t o6
  else
  if t.N=2 then
   idx p 0>>=fun x4=>
   z3u x4 2>>=fun q3=>
   if q3=true then
    idx p 0>>=fun x5=>
    some (x5,t.N,0)
   else
   z0E p m t o6
  else
  z0E p m t o6
 else
 z0E p m t o6
def z0L(op:Int)(ints:Bool)(o6:zA):Option (zA):=
 if op≥9 then
  if ints=true then
   z5g>>=fun q1=>
   some (q1)
  else
  some ((zA.mk 0 0 [] [] 0 0))
 else
 some ((zA.mk 0 0 [] [] 0 0))
def gN(op:Int)(ints:Bool)(o6:zA):Option (zA):=
 if op=5 then
  if ints=true then
   jU>>=fun q1=>
   some (q1)
  else
  z0L op ints o6
 else
 if op=6 then
  if ints=true then
   jU>>=fun q2=>
   some (q2)
  else
  z0L op ints o6
 else
 if op=7 then
  if ints=true then
   jU>>=fun q3=>
   some (q3)
  else
  z0L op ints o6
 else
 if op=8 then
  if ints=true then
   jU>>=fun q4=>
   some (q4)
  else
  z0L op ints o6
 else
 z0L op ints o6
def z3w(op:Int)(ints bools:Bool)(o6:zA):Option (zA):=
 if op=1 then
  if bools=true then
   jU>>=fun q1=>
   some (q1)
  else
  gN op ints o6
 else
 if op=2 then
  if bools=true then
   jU>>=fun q6=>
   some (q6)
  else
  gN op ints o6
 else
 if op=3 then
  if ints=true then
   jU>>=fun q11=>
   some (q11)
  else
  if bools=true then
   jU>>=fun q12=>
   some (q12)
  else
  gN op ints o6
 else
 if op=4 then
  if ints=true then
   jU>>=fun q13=>
   some (q13)
  else
  if bools=true then
   jU>>=fun q14=>
   some (q14)
  else
  gN op ints o6
 else
 gN op ints o6
def z3v(op:Int)(ints:Bool)(a b o6:zA):Option (zA):=
 z3u a 2>>=fun q1=>
 if q1=true then
  z3u b 2>>=fun q2=>
  z3w op ints q2 o6
 else
 z3w op ints false o6
def z8D(op:Int)(a b:zA):Option (zA):=
 z3u a 1>>=fun q1=>
 if q1=true then
  z3u b 1>>=fun q2=>
  z3v op q2 a b (zA.mk 0 0 [] [] 0 0)
 else
 z3v op false a b (zA.mk 0 0 [] [] 0 0)
def z8j(m t:zA)(p:List zA):Option (zA×Int×Int):=
 if t.K=10 then
  idx p 0>>=fun x=>
  idx p 1>>=fun x1=>
  z8D t.N x x1>>=fun q1=>
  if q1.K=0 then
   z2t p m t (zA.mk 0 0 [] [] 0 0)
  else
  idx p 0>>=fun x2=>
  idx p 1>>=fun x3=>
  z8D t.N x2 x3>>=fun q2=>
  some (q2,t.N,0)
 else
 z2t p m t (zA.mk 0 0 [] [] 0 0)
def z4T(t:zA):Option (Bool):=
 if t.K=5 then
  some (((List.length t.L:Int) == 0))
 else
 if t.K=7 then
  some (((List.length t.L:Int) == 0))
 else
 if t.K=8 then
  some (((List.length t.L:Int) == 0))
 else
 if t.K=9 then
  some (((List.length t.L:Int) == 0))
 else
 if t.K=18 then
  some (((List.length t.L:Int) == 0))
 else
 if t.K=6 then
  if(List.length t.L:Int)=0 then
   if t.N=0 then
    some (true)
   else
   some ((t.N == 1))
  else
  some (false)
 else
 if t.K=11 then
  if(List.length t.L:Int)=1 then
   if t.N=1 then
    some (true)
   else
   some ((t.N == 2))
  else
  some (false)
 else
 if t.K=10 then
  if(List.length t.L:Int)=2 then
   if t.N≥1 then
    some (decide (t.N≤13))
   else
   some (false)
  else
  some (false)
 else
 if t.K=13 then
  some (((List.length t.L:Int) == 1))
 else
 if t.K=12 then
  some (((List.length t.L:Int) == 2))
 else
 if t.K=14 then
  some (decide ((List.length t.L:Int)≥1))
 else
 if t.K=15 then
  some (decide ((List.length t.L:Int)≥1))
 else
 if t.K=16 then
  some (true)
 else
 some ((t.K == 17))
def z5I(vV:(List zA)→(List zA)→(List zA)→Int→zA→zA→Ref15Got→Option (Ref15Got))(m:zA)(locals:List zA)(t:zA):Option (Ref15Got):=
 z4T t>>=fun q1=>
 if q1=true then
  z5H m locals t>>=fun q3=>
  if q3=true then
   if(List.length t.L:Int)=0 then
    if t.K=16 then
     vV locals ([]:List zA) ([]:List zA) 0 m t (Ref15Got.mk (zA.mk 0 0 [] [] 0 0) (zA.mk 0 0 [] [] 0 0) 0 0)
    else
    z5E m locals t>>=fun q5=>
    some ((Ref15Got.mk q5 (zA.mk t.K t.N [] [] 0 0) 0 0))
   else
   vV locals ([]:List zA) ([]:List zA) 0 m t (Ref15Got.mk (zA.mk 0 0 [] [] 0 0) (zA.mk 0 0 [] [] 0 0) 0 0)
  else
  z6v t 8>>=fun q4=>
  some (q4)
 else
 z6v t 12>>=fun q2=>
 some (q2)
def z0J(uB:zA→(List zA)→zA→Option (Ref15Got))(vV:(List zA)→(List zA)→(List zA)→Int→zA→zA→Ref15Got→Option (Ref15Got))(locals types forms:List zA)(i:Int)(m t:zA)(o6:Ref15Got):Option (Ref15Got):=
 if i<(List.length t.L:Int)then
  idx t.L i>>=fun x=>
  uB m locals x>>=fun q1=>
  if q1.E=0 then
   if wC 72 (List.length types+List.length [q1.Type_])then
   if wC 72 (List.length forms+List.length [q1.Form])then
   vV locals (types++[q1.Type_]) (forms++[q1.Form]) (IntKind.wrap .i64 (i+1)) m t o6
   else none
   else none
  else
  some (q1)
 else
 z8j m t types>>=fun q2=>
 if q2.2.2=0 then
  some ((Ref15Got.mk q2.1 (zA.mk t.K q2.2.1 [] forms 0 0) 0 0))
 else
 z6v t q2.2.2>>=fun q3=>
 some (q3)
inductive z3N where
 |uB (m:zA) (locals:List zA) (t:zA)
 |vV (locals types forms:List zA) (i:Int) (m t:zA) (o6:Ref15Got)
@[reducible] def y2V:z3N→Type
 |.uB _ _ _=>Ref15Got
 |.vV _ _ _ _ _ _ _=>Ref15Got
def z5s(g:Fam y2V):Fam y2V
 |.uB m locals t=>z5I (fun locals types forms i m t o6=>g (z3N.vV locals types forms i m t o6)) m locals t
 |.vV locals types forms i m t o6=>z0J (fun m locals t=>g (z3N.uB m locals t)) (fun locals types forms i m t o6=>g (z3N.vV locals types forms i m t o6)) locals types forms i m t o6
theorem y2B:∀i,Good (fun g=>z5s g i)
 |.uB m locals t=>by unfold z5s z5I;exact(.bind (.const _) fun _=>(.ite (.bind (.const _) fun _=>(.ite (.ite (.ite (.call _) (.bind (.const _) fun _=>(.const _))) (.call _)) (.bind (.const _) fun _=>(.const _)))) (.bind (.const _) fun _=>(.const _))))
 |.vV locals types forms i m t o6=>by unfold z5s z0J;exact(.ite (.bind (.const _) fun _=>(.bind (.call _) fun _=>(.ite (.ite (.ite (.call _) (.const _)) (.const _)) (.const _)))) (.bind (.const _) fun _=>(.ite (.const _) (.bind (.const _) fun _=>(.const _)))))
def uB(m:zA)(locals:List zA)(t:zA):Option (Ref15Got):=uQ z5s (.uB m locals t)
def vV(locals types forms:List zA)(i:Int)(m t:zA)(o6:Ref15Got):Option (Ref15Got):=uQ z5s (.vV locals types forms i m t o6)
theorem v3z(m:zA)(locals:List zA)(t:zA):uB m locals t=z5I vV m locals t:=zW y2B (.uB m locals t)
theorem z8T(locals types forms:List zA)(i:Int)(m t:zA)(o6:Ref15Got):vV locals types forms i m t o6=z0J uB vV locals types forms i m t o6:=zW y2B (.vV locals types forms i m t o6)
def z0x(zX:Int→zA→zA→Int→Int→Str→(List zA)→Int→Int→Option (zA))(t:zA):Option (zA):=
 zX 0 t (zA.mk 0 0 [] [] 0 0) t.K t.N [] [] 0 0
def uS(yA:zA→Option (zA))(zX:Int→zA→zA→Int→Int→Str→(List zA)→Int→Int→Option (zA))(i:Int)(t o2:zA)(K N:Int)(S:Str)(L:List zA)(From To:Int):Option (zA):=
 if i<(List.length t.L:Int)then
  idx t.L i>>=fun x=>
  yA x>>=fun q1=>
  if wC 72 (List.length L+List.length [q1])then
  zX (IntKind.wrap .i64 (i+1)) t o2 K N S (L++[q1]) From To
  else none
 else
 some ((zA.mk K N S L From To))
inductive jI where
 |yA (t:zA)
 |zX (i:Int) (t o2:zA) (K N:Int) (S:Str) (L:List zA) (From To:Int)
@[reducible] def z4A:jI→Type
 |.yA _=>zA
 |.zX _ _ _ _ _ _ _ _ _=>zA
def z0v(g:Fam z4A):Fam z4A
 |.yA t=>z0x (fun i t o2 K N S L From To=>g (jI.zX i t o2 K N S L From To)) t
 |.zX i t o2 K N S L From To=>uS (fun t=>g (jI.yA t)) (fun i t o2 K N S L From To=>g (jI.zX i t o2 K N S L From To)) i t o2 K N S L From To
theorem z4y:∀i,Good (fun g=>z0v g i)
 |.yA t=>by unfold z0v z0x;exact(.call _)
 |.zX i t o2 K N S L From To=>by unfold z0v uS;exact(.ite (.bind (.const _) fun _=>(.bind (.call _) fun _=>(.ite (.call _) (.const _)))) (.const _))
def yA(t:zA):Option (zA):=uQ z0v (.yA t)
def zX(i:Int)(t o2:zA)(K N:Int)(S:Str)(L:List zA)(From To:Int):Option (zA):=uQ z0v (.zX i t o2 K N S L From To)
theorem y2t(t:zA):yA t=z0x zX t:=zW z4y (.yA t)
theorem z4S(i:Int)(t o2:zA)(K N:Int)(S:Str)(L:List zA)(From To:Int):zX i t o2 K N S L From To=uS yA zX i t o2 K N S L From To:=zW z4y (.zX i t o2 K N S L From To)
def vB(t:zA)(e:Int):Option (Ref16Got):=
 some ((Ref16Got.mk (zA.mk 0 0 [] [] 0 0) t.From e))
def z3t(vN:Int→zA→Option (Bool))(t:zA):Option (Bool):=
 if t.K=4 then
  some (false)
 else
 vN 0 t
def z0p(uI:zA→Option (Bool))(vN:Int→zA→Option (Bool))(i:Int)(t:zA):Option (Bool):=
 if i<(List.length t.L:Int)then
  idx t.L i>>=fun x=>
  uI x>>=fun q1=>
  if q1=true then
   vN (IntKind.wrap .i64 (i+1)) t
  else
  some (false)
 else
 some (true)
inductive z1a where
 |uI (t:zA)
 |vN (i:Int) (t:zA)
@[reducible] def z9j:z1a→Type
 |.uI _=>Bool
 |.vN _ _=>Bool
def z3i(g:Fam z9j):Fam z9j
 |.uI t=>z3t (fun i t=>g (z1a.vN i t)) t
 |.vN i t=>z0p (fun t=>g (z1a.uI t)) (fun i t=>g (z1a.vN i t)) i t
theorem z9c:∀i,Good (fun g=>z3i g i)
 |.uI t=>by unfold z3i z3t;exact(.ite (.const _) (.call _))
 |.vN i t=>by unfold z3i z0p;exact(.ite (.bind (.const _) fun _=>(.bind (.call _) fun _=>(.ite (.call _) (.const _)))) (.const _))
def uI(t:zA):Option (Bool):=uQ z3i (.uI t)
def vN(i:Int)(t:zA):Option (Bool):=uQ z3i (.vN i t)
theorem y9A(t:zA):uI t=z3t vN t:=zW z9c (.uI t)
theorem z8h(i:Int)(t:zA):vN i t=z0p uI vN i t:=zW z9c (.vN i t)
def z5C(m t:zA):Option (Bool):=
 gE m t>>=fun q1=>
 if q1>0 then
  uI t>>=fun q2=>
  some (q2)
 else
 some (false)
def uX:List zA→List zA→Option (List zA)
 |[],out=>some out
 |x::r,out=>yA x>>=fun q=>if wC 72 (List.length out+1)then uX r (out++[q])else none
def z1h(t:zA):Option zA:=if 0<List.length t.L then uX t.L []>>=fun l=>some ⟨t.K,t.N,[],l,0,0⟩else none
def z0M(m:zA)(locals:List zA)(t:zA):Option (List zA):=
 if t.K=20 then
  if(List.length t.L:Int)=1 then
   if wC 72 (List.length ([]:List zA)+List.length locals)then
   idx t.L 0>>=fun x=>
   uB m locals x>>=fun q1=>
   if wC 72 (List.length (([]:List zA)++locals)+List.length [q1.Type_])then
   some ((([]:List zA)++locals)++[q1.Type_])
   else none
   else none
  else
  some (locals)
 else
 if t.K=21 then
  if(List.length t.L:Int)=1 then
   if wC 72 (List.length ([]:List zA)+List.length locals)then
   idx t.L 0>>=fun x2=>
   if wC 72 (List.length (([]:List zA)++locals)+List.length [x2])then
   some ((([]:List zA)++locals)++[x2])
   else none
   else none
  else
  some (locals)
 else
 some (locals)
def uL(k:Int):Option (Int×Int):=
 if k=20 then
  some (1,0)
 else
 if k=21 then
  some (1,0)
 else
 if k=26 then
  some (1,0)
 else
 if k=27 then
  some (1,0)
 else
 if k=28 then
  some (1,0)
 else
 if k=22 then
  some (2,0)
 else
 if k=23 then
  some (3,2)
 else
 if k=24 then
  some (2,1)
 else
 if k=25 then
  some (3,1)
 else
 some ((-1),0)
def gP(yK:Int→Int→zA→Option (Bool))(n i:Int)(t:zA):Option (Bool):=
 if i<n then
  idx t.L i>>=fun x=>
  if x.K=29 then
   yK n (IntKind.wrap .i64 (i+1)) t
  else
  some (false)
 else
 some (true)
inductive z2K where
 |yK (n i:Int) (t:zA)
@[reducible] def z4C:z2K→Type
 |.yK _ _ _=>Bool
def z2D(g:Fam z4C):Fam z4C
 |.yK n i t=>gP (fun n i t=>g (z2K.yK n i t)) n i t
theorem z7h:∀i,Good (fun g=>z2D g i)
 |.yK n i t=>by unfold z2D gP;exact(.ite (.bind (.const _) fun _=>(.ite (.call _) (.const _))) (.const _))
def yK(n i:Int)(t:zA):Option (Bool):=uQ z2D (.yK n i t)
theorem z6Y(n i:Int)(t:zA):yK n i t=gP yK n i t:=zW z7h (.yK n i t)
def z5M(t:zA):Option (Bool):=
 if t.K=29 then
  some (true)
 else
 uL t.K>>=fun q1=>
 if(List.length t.L:Int)=q1.1 then
  yK q1.1 (IntKind.wrap .i64 (q1.1-q1.2)) t
 else
 some (false)
def z1i(wQ:zA→Option (zA))(t:zA):Option (zA):=
 if t.K=12 then
  if(List.length t.L:Int)>0 then
   idx t.L 0>>=fun x=>
   wQ x>>=fun q1=>
   some (q1)
  else
  some (t)
 else
 if t.K=13 then
  if(List.length t.L:Int)>0 then
   idx t.L 0>>=fun x1=>
   wQ x1>>=fun q2=>
   some (q2)
  else
  some (t)
 else
 some (t)
inductive z5Z where
 |wQ (t:zA)
@[reducible] def z9k:z5Z→Type
 |.wQ _=>zA
def z5Y(g:Fam z9k):Fam z9k
 |.wQ t=>z1i (fun t=>g (z5Z.wQ t)) t
theorem y2A:∀i,Good (fun g=>z5Y g i)
 |.wQ t=>by unfold z5Y z1i;exact(.ite (.ite (.bind (.const _) fun _=>(.bind (.call _) fun _=>(.const _))) (.const _)) (.ite (.ite (.bind (.const _) fun _=>(.bind (.call _) fun _=>(.const _))) (.const _)) (.const _)))
def wQ(t:zA):Option (zA):=uQ z5Y (.wQ t)
theorem z8i(t:zA):wQ t=z1i wQ t:=zW y2A (.wQ t)
def z0d(x:Ref15Got):Option (Ref16Got):=
 some ({x with T_:=x.Form})
def z0V(m:zA)(locals:List zA)(t:zA)(a b:Int):Option (Ref16Got):=
 uB m locals t>>=fun q1=>
 if q1.E=0 then
  z3u q1.Type_ a>>=fun q2=>
  if q2=true then
   z0d q1>>=fun q6=>
   some (q6)
  else
  z3u q1.Type_ b>>=fun q3=>
  if q3=true then
   z0d q1>>=fun q5=>
   some (q5)
  else
  vB t 10>>=fun q4=>
  some (q4)
 else
 z0d q1>>=fun q7=>
 some (q7)
def z2u(yU:(List zA)→Int→zA→zA→zA→Ref16Got→Int→Int→Str→(List zA)→Int→Int→Option (Ref16Got))(m:zA)(locals:List zA)(ret t:zA):Option (Ref16Got):=
 yU locals 0 m ret t (Ref16Got.mk (zA.mk 0 0 [] [] 0 0) 0 0) t.K t.N [] [] 0 0
def gO(yU:(List zA)→Int→zA→zA→zA→Ref16Got→Int→Int→Str→(List zA)→Int→Int→Option (Ref16Got))(jV:zA→(List zA)→zA→zA→Option (Ref16Got))(locals:List zA)(i:Int)(m ret t:zA)(o8:Ref16Got)(K N:Int)(S:Str)(L:List zA)(From To:Int):Option (Ref16Got):=
 if i<(List.length t.L:Int)then
  idx t.L i>>=fun x=>
  jV m locals ret x>>=fun q1=>
  if q1.E=0 then
   if wC 72 (List.length L+List.length [q1.T_])then
   idx t.L i>>=fun x1=>
   z0M m locals x1>>=fun q2=>
   yU q2 (IntKind.wrap .i64 (i+1)) m ret t o8 K N S (L++[q1.T_]) From To
   else none
  else
  some (q1)
 else
 some ((Ref16Got.mk (zA.mk K N S L From To) 0 0))
def z3y(yW:zA→(List zA)→zA→zA→Option (Ref16Got))(yL:(List zA)→Int→zA→zA→zA→Ref16Got→Int→Int→Str→(List zA)→Int→Int→Option (Ref16Got))(m:zA)(locals:List zA)(ret t:zA):Option (Ref16Got):=
 z5M t>>=fun q1=>
 if q1=true then
  if t.K=29 then
   yW m locals ret t>>=fun q3=>
   some (q3)
  else
  yL locals 0 m ret t (Ref16Got.mk (zA.mk 0 0 [] [] 0 0) 0 0) t.K t.N [] [] 0 0
 else
 vB t 12>>=fun q2=>
 some (q2)
def gC(yL:(List zA)→Int→zA→zA→zA→Ref16Got→Int→Int→Str→(List zA)→Int→Int→Option (Ref16Got))(jA:zA→(List zA)→zA→zA→Int→Option (Ref16Got))(locals:List zA)(i:Int)(m ret t:zA)(o8:Ref16Got)(K N:Int)(S:Str)(L:List zA)(From To:Int):Option (Ref16Got):=
 if i<(List.length t.L:Int)then
  jA m locals ret t i>>=fun q1=>
  if q1.E=0 then
   if wC 72 (List.length L+List.length [q1.T_])then
   yL locals (IntKind.wrap .i64 (i+1)) m ret t o8 K N S (L++[q1.T_]) From To
   else none
  else
  some (q1)
 else
 if t.K=22 then
  idx t.L 0>>=fun x=>
  wQ x>>=fun q2=>
  if q2.K=7 then
   idx t.L 0>>=fun x4=>
   uB m locals x4>>=fun q8=>
   idx t.L 1>>=fun x5=>
   uB m locals x5>>=fun q9=>
   wP q8.Type_ q9.Type_>>=fun q10=>
   if q10=true then
    some ((Ref16Got.mk (zA.mk K N S L From To) 0 0))
   else
   vB t 10>>=fun q11=>
   some (q11)
  else
  if q2.K=9 then
   idx t.L 0>>=fun x2=>
   uB m locals x2>>=fun q4=>
   idx t.L 1>>=fun x3=>
   uB m locals x3>>=fun q5=>
   wP q4.Type_ q5.Type_>>=fun q6=>
   if q6=true then
    some ((Ref16Got.mk (zA.mk K N S L From To) 0 0))
   else
   vB t 10>>=fun q7=>
   some (q7)
  else
  idx t.L 0>>=fun x1=>
  vB x1 12>>=fun q3=>
  some (q3)
 else
 some ((Ref16Got.mk (zA.mk K N S L From To) 0 0))
def z3x(yW:zA→(List zA)→zA→zA→Option (Ref16Got))(m:zA)(locals:List zA)(ret t:zA)(i:Int):Option (Ref16Got):=
 idx t.L i>>=fun x=>
 uL t.K>>=fun q1=>
 if i≥(IntKind.wrap .i64 (q1.1-q1.2))then
  if t.K=25 then
   if wC 72 (List.length ([]:List zA)+List.length locals)then
   if wC 72 (List.length (([]:List zA)++locals)+List.length [(zA.mk 1 0 [] [] 0 0)])then
   yW m ((([]:List zA)++locals)++[(zA.mk 1 0 [] [] 0 0)]) ret x>>=fun q2=>
   some (q2)
   else none
   else none
  else
  yW m locals ret x>>=fun q3=>
  some (q3)
 else
 if t.K=21 then
  gE m x>>=fun q4=>
  if q4=0 then
   vB x 11>>=fun q5=>
   some (q5)
  else
  yA x>>=fun q6=>
  some ((Ref16Got.mk q6 0 0))
 else
 if t.K=23 then
  z0V m locals x 2 2>>=fun q7=>
  some (q7)
 else
 if t.K=24 then
  z0V m locals x 2 2>>=fun q8=>
  some (q8)
 else
 if t.K=25 then
  z0V m locals x 1 1>>=fun q9=>
  some (q9)
 else
 if t.K=26 then
  z0V m locals x 1 2>>=fun q10=>
  some (q10)
 else
 if t.K=28 then
  if x.K=16 then
   uB m locals x>>=fun q12=>
   z0d q12>>=fun q18=>
   some (q18)
  else
  vB x 12>>=fun q11=>
  some (q11)
 else
 uB m locals x>>=fun q19=>
 if t.K=27 then
  if q19.E=0 then
   wL ret>>=fun q20=>
   wP q19.Type_ q20>>=fun q21=>
   if q21=true then
    z0d q19>>=fun q23=>
    some (q23)
   else
   vB x 10>>=fun q22=>
   some (q22)
  else
  z0d q19>>=fun q24=>
  some (q24)
 else
 z0d q19>>=fun q25=>
 some (q25)
inductive wE where
 |yW (m:zA) (locals:List zA) (ret t:zA)
 |yU (locals:List zA) (i:Int) (m ret t:zA) (o8:Ref16Got) (K N:Int) (S:Str) (L:List zA) (From To:Int)
 |jV (m:zA) (locals:List zA) (ret t:zA)
 |yL (locals:List zA) (i:Int) (m ret t:zA) (o8:Ref16Got) (K N:Int) (S:Str) (L:List zA) (From To:Int)
 |jA (m:zA) (locals:List zA) (ret t:zA) (i:Int)
@[reducible] def z7x:wE→Type
 |.yW _ _ _ _=>Ref16Got
 |.yU _ _ _ _ _ _ _ _ _ _ _ _=>Ref16Got
 |.jV _ _ _ _=>Ref16Got
 |.yL _ _ _ _ _ _ _ _ _ _ _ _=>Ref16Got
 |.jA _ _ _ _ _=>Ref16Got
def uU(g:Fam z7x):Fam z7x
 |.yW m locals ret t=>z2u (fun locals i m ret t o8 K N S L From To=>g (wE.yU locals i m ret t o8 K N S L From To)) m locals ret t
 |.yU locals i m ret t o8 K N S L From To=>gO (fun locals i m ret t o8 K N S L From To=>g (wE.yU locals i m ret t o8 K N S L From To)) (fun m locals ret t=>g (wE.jV m locals ret t)) locals i m ret t o8 K N S L From To
 |.jV m locals ret t=>z3y (fun m locals ret t=>g (wE.yW m locals ret t)) (fun locals i m ret t o8 K N S L From To=>g (wE.yL locals i m ret t o8 K N S L From To)) m locals ret t
 |.yL locals i m ret t o8 K N S L From To=>gC (fun locals i m ret t o8 K N S L From To=>g (wE.yL locals i m ret t o8 K N S L From To)) (fun m locals ret t i=>g (wE.jA m locals ret t i)) locals i m ret t o8 K N S L From To
 |.jA m locals ret t i=>z3x (fun m locals ret t=>g (wE.yW m locals ret t)) m locals ret t i
theorem z2h:∀i,Good (fun g=>uU g i)
 |.yW m locals ret t=>by unfold uU z2u;exact(.call _)
 |.yU locals i m ret t o8 K N S L From To=>by unfold uU gO;exact(.ite (.bind (.const _) fun _=>(.bind (.call _) fun _=>(.ite (.ite (.bind (.const _) fun _=>(.bind (.const _) fun _=>(.call _))) (.const _)) (.const _)))) (.const _))
 |.jV m locals ret t=>by unfold uU z3y;exact(.bind (.const _) fun _=>(.ite (.ite (.bind (.call _) fun _=>(.const _)) (.call _)) (.bind (.const _) fun _=>(.const _))))
 |.yL locals i m ret t o8 K N S L From To=>by unfold uU gC;exact(.ite (.bind (.call _) fun _=>(.ite (.ite (.call _) (.const _)) (.const _))) (.ite (.bind (.const _) fun _=>(.bind (.const _) fun _=>(.ite (.bind (.const _) fun _=>(.bind (.const _) fun _=>(.bind (.const _) fun _=>(.bind (.const _) fun _=>(.bind (.const _) fun _=>(.ite (.const _) (.bind (.const _) fun _=>(.const _)))))))) (.ite (.bind (.const _) fun _=>(.bind (.const _) fun _=>(.bind (.const _) fun _=>(.bind (.const _) fun _=>(.bind (.const _) fun _=>(.ite (.const _) (.bind (.const _) fun _=>(.const _)))))))) (.bind (.const _) fun _=>(.bind (.const _) fun _=>(.const _))))))) (.const _)))
 |.jA m locals ret t i=>by unfold uU z3x;exact(.bind (.const _) fun _=>(.bind (.const _) fun _=>(.ite (.ite (.ite (.ite (.bind (.call _) fun _=>(.const _)) (.const _)) (.const _)) (.bind (.call _) fun _=>(.const _))) (.ite (.bind (.const _) fun _=>(.ite (.bind (.const _) fun _=>(.const _)) (.bind (.const _) fun _=>(.const _)))) (.ite (.bind (.const _) fun _=>(.const _)) (.ite (.bind (.const _) fun _=>(.const _)) (.ite (.bind (.const _) fun _=>(.const _)) (.ite (.bind (.const _) fun _=>(.const _)) (.ite (.ite (.bind (.const _) fun _=>(.bind (.const _) fun _=>(.const _))) (.bind (.const _) fun _=>(.const _))) (.bind (.const _) fun _=>(.ite (.ite (.bind (.const _) fun _=>(.bind (.const _) fun _=>(.ite (.bind (.const _) fun _=>(.const _)) (.bind (.const _) fun _=>(.const _))))) (.bind (.const _) fun _=>(.const _))) (.bind (.const _) fun _=>(.const _)))))))))))))
def yW(m:zA)(locals:List zA)(ret t:zA):Option (Ref16Got):=uQ uU (.yW m locals ret t)
def yU(locals:List zA)(i:Int)(m ret t:zA)(o8:Ref16Got)(K N:Int)(S:Str)(L:List zA)(From To:Int):Option (Ref16Got):=uQ uU (.yU locals i m ret t o8 K N S L From To)
def jV(m:zA)(locals:List zA)(ret t:zA):Option (Ref16Got):=uQ uU (.jV m locals ret t)
def yL(locals:List zA)(i:Int)(m ret t:zA)(o8:Ref16Got)(K N:Int)(S:Str)(L:List zA)(From To:Int):Option (Ref16Got):=uQ uU (.yL locals i m ret t o8 K N S L From To)
def jA(m:zA)(locals:List zA)(ret t:zA)(i:Int):Option (Ref16Got):=uQ uU (.jA m locals ret t i)
theorem y7s(m:zA)(locals:List zA)(ret t:zA):yW m locals ret t=z2u yU m locals ret t:=zW z2h (.yW m locals ret t)
theorem z6X(locals:List zA)(i:Int)(m ret t:zA)(o8:Ref16Got)(K N:Int)(S:Str)(L:List zA)(From To:Int):yU locals i m ret t o8 K N S L From To=gO yU jV locals i m ret t o8 K N S L From To:=zW z2h (.yU locals i m ret t o8 K N S L From To)
theorem y9C(m:zA)(locals:List zA)(ret t:zA):jV m locals ret t=z3y yW yL m locals ret t:=zW z2h (.jV m locals ret t)
theorem z4U(locals:List zA)(i:Int)(m ret t:zA)(o8:Ref16Got)(K N:Int)(S:Str)(L:List zA)(From To:Int):yL locals i m ret t o8 K N S L From To=gC yL jA locals i m ret t o8 K N S L From To:=zW z2h (.yL locals i m ret t o8 K N S L From To)
theorem y9B(m:zA)(locals:List zA)(ret t:zA)(i:Int):jA m locals ret t i=z3x yW m locals ret t i:=zW z2h (.jA m locals ret t i)
def gQ(vF:(List zA)→Int→zA→Option (List zA))(out:List zA)(i:Int)(f:zA):Option (List zA):=
 idx f.L 0>>=fun x=>
 if i<(List.length x.L:Int)then
  idx f.L 0>>=fun x1=>
  idx x1.L i>>=fun x2=>
  idx x2.L 0>>=fun x3=>
  if wC 72 (List.length out+List.length [x3])then
  vF (out++[x3]) (IntKind.wrap .i64 (i+1)) f
  else none
 else
 some (out)
inductive z2L where
 |vF (out:List zA) (i:Int) (f:zA)
@[reducible] def z4D:z2L→Type
 |.vF _ _ _=>List zA
def z2E(g:Fam z4D):Fam z4D
 |.vF out i f=>gQ (fun out i f=>g (z2L.vF out i f)) out i f
theorem z7i:∀i,Good (fun g=>z2E g i)
 |.vF out i f=>by unfold z2E gQ;exact(.bind (.const _) fun _=>(.ite (.bind (.const _) fun _=>(.bind (.const _) fun _=>(.bind (.const _) fun _=>(.ite (.call _) (.const _))))) (.const _)))
def vF(out:List zA)(i:Int)(f:zA):Option (List zA):=uQ z2E (.vF out i f)
theorem z6Z(out:List zA)(i:Int)(f:zA):vF out i f=gQ vF out i f:=zW z7i (.vF out i f)
def z2v(f:zA):Option (List zA):=
 vF ([]:List zA) 0 f
def z0N(wD:(List zA)→Int→zA→zA→Ref16Got→Option (Ref16Got))(all:List zA)(i:Int)(m t:zA)(o4:Ref16Got):Option (Ref16Got):=
 if i<(List.length all:Int)then
  if t.N=1 then
   idx all i>>=fun x=>
   z5C m x>>=fun q1=>
   if q1=true then
    wD all (IntKind.wrap .i64 (i+1)) m t o4
   else
   idx all i>>=fun x1=>
   vB x1 12>>=fun q2=>
   some (q2)
  else
  wD all (IntKind.wrap .i64 (i+1)) m t o4
 else
 z2v t>>=fun q3=>
 idx t.L 1>>=fun x2=>
 idx t.L 2>>=fun x3=>
 yW m q3 x2 x3>>=fun q4=>
 if q4.E=0 then
  z1h t>>=fun q5=>
  if(0:Int)≤2∧2<(List.length q5.L:Int)then
  if Int.toNat 2<List.length q5.L then
  some ((Ref16Got.mk ({q5 with L:=q5.L.set (Int.toNat 2) q4.T_}) 0 0))
  else none
  else none
 else
 some (q4)
inductive z4m where
 |wD (all:List zA) (i:Int) (m t:zA) (o4:Ref16Got)
@[reducible] def z6d:z4m→Type
 |.wD _ _ _ _ _=>Ref16Got
def z4j(g:Fam z6d):Fam z6d
 |.wD all i m t o4=>z0N (fun all i m t o4=>g (z4m.wD all i m t o4)) all i m t o4
theorem z9M:∀i,Good (fun g=>z4j g i)
 |.wD all i m t o4=>by unfold z4j z0N;exact(.ite (.ite (.bind (.const _) fun _=>(.bind (.const _) fun _=>(.ite (.call _) (.bind (.const _) fun _=>(.bind (.const _) fun _=>(.const _)))))) (.call _)) (.bind (.const _) fun _=>(.bind (.const _) fun _=>(.bind (.const _) fun _=>(.bind (.const _) fun _=>(.ite (.bind (.const _) fun _=>(.ite (.ite (.const _) (.const _)) (.const _))) (.const _)))))))
def wD(all:List zA)(i:Int)(m t:zA)(o4:Ref16Got):Option (Ref16Got):=uQ z4j (.wD all i m t o4)
theorem z8U(all:List zA)(i:Int)(m t:zA)(o4:Ref16Got):wD all i m t o4=z0N wD all i m t o4:=zW z9M (.wD all i m t o4)
def z1j(wM:(List zA)→Int→zA→zA→Ref16Got→Option (Ref16Got))(all:List zA)(i:Int)(m t:zA)(o4:Ref16Got):Option (Ref16Got):=
 if i<(List.length all:Int)then
  idx all i>>=fun x=>
  gE m x>>=fun q1=>
  if q1=0 then
   idx all i>>=fun x1=>
   vB x1 11>>=fun q2=>
   some (q2)
  else
  wM all (IntKind.wrap .i64 (i+1)) m t o4
 else
 wD all 0 m t o4
inductive z4Z where
 |wM (all:List zA) (i:Int) (m t:zA) (o4:Ref16Got)
@[reducible] def z7y:z4Z→Type
 |.wM _ _ _ _ _=>Ref16Got
def z4Y(g:Fam z7y):Fam z7y
 |.wM all i m t o4=>z1j (fun all i m t o4=>g (z4Z.wM all i m t o4)) all i m t o4
theorem y1s:∀i,Good (fun g=>z4Y g i)
 |.wM all i m t o4=>by unfold z4Y z1j;exact(.ite (.bind (.const _) fun _=>(.bind (.const _) fun _=>(.ite (.bind (.const _) fun _=>(.bind (.const _) fun _=>(.const _))) (.call _)))) (.const _))
def wM(all:List zA)(i:Int)(m t:zA)(o4:Ref16Got):Option (Ref16Got):=uQ z4Y (.wM all i m t o4)
theorem y0v(all:List zA)(i:Int)(m t:zA)(o4:Ref16Got):wM all i m t o4=z1j wM all i m t o4:=zW y1s (.wM all i m t o4)
def jP(yQ:(List zA)→Int→Option (Bool))(l:List zA)(i:Int):Option (Bool):=
 if i<(List.length l:Int)then
  idx l i>>=fun x=>
  if x.K=34 then
   idx l i>>=fun x1=>
   if(List.length x1.L:Int)=1 then
    yQ l (IntKind.wrap .i64 (i+1))
   else
   some (false)
  else
  some (false)
 else
 some (true)
inductive z1V where
 |yQ (l:List zA) (i:Int)
@[reducible] def z3Z:z1V→Type
 |.yQ _ _=>Bool
def z1O(g:Fam z3Z):Fam z3Z
 |.yQ l i=>jP (fun l i=>g (z1V.yQ l i)) l i
theorem z6G:∀i,Good (fun g=>z1O g i)
 |.yQ l i=>by unfold z1O jP;exact(.ite (.bind (.const _) fun _=>(.ite (.bind (.const _) fun _=>(.ite (.call _) (.const _))) (.const _))) (.const _))
def yQ(l:List zA)(i:Int):Option (Bool):=uQ z1O (.yQ l i)
theorem z5K(l:List zA)(i:Int):yQ l i=jP yQ l i:=zW z6G (.yQ l i)
def z2c(l:List zA):Option (Bool):=
 yQ l 0
def y4u(m t:zA):Option (Ref16Got):=
 if t.N=0 then
  if(List.length t.L:Int)=3 then
   idx t.L 0>>=fun x4=>
   if x4.K=35 then
    idx t.L 0>>=fun x5=>
    z2c x5.L>>=fun q10=>
    if q10=true then
     idx t.L 2>>=fun x6=>
     if x6.K=29 then
      z2v t>>=fun q13=>
      idx t.L 1>>=fun x7=>
      if wC 72 (List.length q13+List.length [x7])then
      wM (q13++[x7]) 0 m t (Ref16Got.mk (zA.mk 0 0 [] [] 0 0) 0 0)
      else none
     else
     vB t 12>>=fun q12=>
     some (q12)
    else
    vB t 12>>=fun q11=>
    some (q11)
   else
   vB t 12>>=fun q9=>
   some (q9)
  else
  vB t 12>>=fun q8=>
  some (q8)
 else
 if t.N=1 then
  if(List.length t.L:Int)=3 then
   idx t.L 0>>=fun x=>
   if x.K=35 then
    idx t.L 0>>=fun x1=>
    z2c x1.L>>=fun q4=>
    if q4=true then
     idx t.L 2>>=fun x2=>
     if x2.K=29 then
      z2v t>>=fun q7=>
      idx t.L 1>>=fun x3=>
      if wC 72 (List.length q7+List.length [x3])then
      wM (q7++[x3]) 0 m t (Ref16Got.mk (zA.mk 0 0 [] [] 0 0) 0 0)
      else none
     else
     vB t 12>>=fun q6=>
     some (q6)
    else
    vB t 12>>=fun q5=>
    some (q5)
   else
   vB t 12>>=fun q3=>
   some (q3)
  else
  vB t 12>>=fun q2=>
  some (q2)
 else
 vB t 12>>=fun q1=>
 some (q1)
def z8k(m:zA)(i:Int):Option (Ref16Got):=
 idx m.L i>>=fun x=>
 if x.K=33 then
  y4u m x>>=fun q1=>
  some (q1)
 else
 if x.K=30 then
  z1g x>>=fun q2=>
  if q2=true then
   gE m (zA.mk 4 i [] [] 0 0)>>=fun q4=>
   if q4=0 then
    vB x 11>>=fun q5=>
    some (q5)
   else
   yA x>>=fun q6=>
   some ((Ref16Got.mk q6 0 0))
  else
  vB x 12>>=fun q3=>
  some (q3)
 else
 if x.K=32 then
  if(List.length x.L:Int)=1 then
   idx x.L 0>>=fun x1=>
   gE m x1>>=fun q7=>
   if q7=0 then
    idx x.L 0>>=fun x2=>
    vB x2 11>>=fun q8=>
    some (q8)
   else
   yA x>>=fun q9=>
   some ((Ref16Got.mk q9 0 0))
  else
  vB x 12>>=fun q10=>
  some (q10)
 else
 if x.K=31 then
  if(List.length x.L:Int)=1 then
   idx x.L 0>>=fun x8=>
   if(List.length x8.L:Int)>0 then
    vB x 12>>=fun q21=>
    some (q21)
   else
   idx x.L 0>>=fun x9=>
   z0D x9>>=fun q22=>
   if q22.K=0 then
    vB x 12>>=fun q23=>
    some (q23)
   else
   idx x.L 0>>=fun x10=>
   if x10.K=6 then
    idx x.L 0>>=fun x11=>
    if x11.N=0 then
     yA x>>=fun q26=>
     some ((Ref16Got.mk q26 0 0))
    else
    idx x.L 0>>=fun x12=>
    if x12.N=1 then
     yA x>>=fun q25=>
     some ((Ref16Got.mk q25 0 0))
    else
    vB x 12>>=fun q24=>
    some (q24)
   else
   yA x>>=fun q27=>
   some ((Ref16Got.mk q27 0 0))
  else
  vB x 12>>=fun q20=>
  some (q20)
 else
 vB x 12>>=fun q19=>
 some (q19)
def jO(yI:Int→zA→zA→Int→Int→Str→(List zA)→Int→Int→Option (zA×Int×Int))(i:Int)(m o2:zA)(K N:Int)(S:Str)(L:List zA)(From To:Int):Option (zA×Int×Int):=
 if i<(List.length m.L:Int)then
  z8k m i>>=fun q1=>
  if q1.E=0 then
   if wC 72 (List.length L+List.length [q1.T_])then
   yI (IntKind.wrap .i64 (i+1)) m o2 K N S (L++[q1.T_]) From To
   else none
  else
  some ((zA.mk 0 0 [] [] 0 0),q1.At,q1.E)
 else
 some ((zA.mk K N S L From To),0,0)
inductive z1U where
 |yI (i:Int) (m o2:zA) (K N:Int) (S:Str) (L:List zA) (From To:Int)
@[reducible] def z3Y:z1U→Type
 |.yI _ _ _ _ _ _ _ _ _=>zA×Int×Int
def z1N(g:Fam z3Y):Fam z3Y
 |.yI i m o2 K N S L From To=>jO (fun i m o2 K N S L From To=>g (z1U.yI i m o2 K N S L From To)) i m o2 K N S L From To
theorem z6F:∀i,Good (fun g=>z1N g i)
 |.yI i m o2 K N S L From To=>by unfold z1N jO;exact(.ite (.bind (.const _) fun _=>(.ite (.ite (.call _) (.const _)) (.const _))) (.const _))
def yI(i:Int)(m o2:zA)(K N:Int)(S:Str)(L:List zA)(From To:Int):Option (zA×Int×Int):=uQ z1N (.yI i m o2 K N S L From To)
theorem z5J(i:Int)(m o2:zA)(K N:Int)(S:Str)(L:List zA)(From To:Int):yI i m o2 K N S L From To=jO yI i m o2 K N S L From To:=zW z6F (.yI i m o2 K N S L From To)
def z6w(m:zA):Option (zA×Int×Int):=
 if m.K=36 then
  yI 0 m (zA.mk 0 0 [] [] 0 0) m.K m.N [] [] 0 0
 else
 some ((zA.mk 0 0 [] [] 0 0),m.From,12)
def z5L(m:zA):Option (Bool):=
 z6w m>>=fun q1=>
 if q1.2.2=0 then
  wA q1.1 m>>=fun q2=>
  some (q2)
 else
 some (false)
def jQ(yJ:(List zA)→(List zA)→Int→Option (List zA))(out l:List zA)(i:Int):Option (List zA):=
 if i<(List.length l:Int)then
  idx l i>>=fun x=>
  idx x.L 0>>=fun x1=>
  if wC 72 (List.length out+List.length [x1])then
  yJ (out++[x1]) l (IntKind.wrap .i64 (i+1))
  else none
 else
 some (out)
inductive z1W where
 |yJ (out l:List zA) (i:Int)
@[reducible] def z4a:z1W→Type
 |.yJ _ _ _=>List zA
def z1P(g:Fam z4a):Fam z4a
 |.yJ out l i=>jQ (fun out l i=>g (z1W.yJ out l i)) out l i
theorem z6H:∀i,Good (fun g=>z1P g i)
 |.yJ out l i=>by unfold z1P jQ;exact(.ite (.bind (.const _) fun _=>(.bind (.const _) fun _=>(.ite (.call _) (.const _)))) (.const _))
def yJ(out l:List zA)(i:Int):Option (List zA):=uQ z1P (.yJ out l i)
theorem z5N(out l:List zA)(i:Int):yJ out l i=jQ yJ out l i:=zW z6H (.yJ out l i)
def gU(vG:(List zA)→Int→zA→zA→Option (List zA))(out:List zA)(i:Int)(m t:zA):Option (List zA):=
 if i<t.N then
  idx t.L 0>>=fun x=>
  if wC 72 (List.length out+List.length [x])then
  vG (out++[x]) (IntKind.wrap .i64 (i+1)) m t
  else none
 else
 if t.K=4 then
  idx m.L t.N>>=fun x1=>
  yJ out x1.L 0
 else
 some (out)
inductive z2M where
 |vG (out:List zA) (i:Int) (m t:zA)
@[reducible] def z4E:z2M→Type
 |.vG _ _ _ _=>List zA
def z2F(g:Fam z4E):Fam z4E
 |.vG out i m t=>gU (fun out i m t=>g (z2M.vG out i m t)) out i m t
theorem z7k:∀i,Good (fun g=>z2F g i)
 |.vG out i m t=>by unfold z2F gU;exact(.ite (.bind (.const _) fun _=>(.ite (.call _) (.const _))) (.ite (.bind (.const _) fun _=>(.const _)) (.const _)))
def vG(out:List zA)(i:Int)(m t:zA):Option (List zA):=uQ z2F (.vG out i m t)
theorem z7b(out:List zA)(i:Int)(m t:zA):vG out i m t=gU vG out i m t:=zW z7k (.vG out i m t)
def z1z(m t:zA):Option (List zA):=
 if t.K=3 then
  vG ([]:List zA) 0 m t
 else
 if t.K=4 then
  idx m.L t.N>>=fun x=>
  yJ ([]:List zA) x.L 0
 else
 some (([]:List zA))
def z3z(yH:(List zA)→Int→zA→Value→Option (Bool))(m t:zA)(v:Value):Option (Bool):=
 gE m t>>=fun q1=>
 if q1=0 then
  some (false)
 else
 if t.K=2 then
  if v.N=0 then
   z1z m t>>=fun q7=>
   if(List.length q7:Int)=(List.length v.L:Int)then
    yH q7 0 m v
   else
   some (false)
  else
  if v.N=1 then
   z1z m t>>=fun q4=>
   if(List.length q4:Int)=(List.length v.L:Int)then
    yH q4 0 m v
   else
   some (false)
  else
  some (false)
 else
 if t.K=1 then
  z1z m t>>=fun q9=>
  if(List.length q9:Int)=(List.length v.L:Int)then
   yH q9 0 m v
  else
  some (false)
 else
 if v.N=0 then
  z1z m t>>=fun q8=>
  if(List.length q8:Int)=(List.length v.L:Int)then
   yH q8 0 m v
  else
  some (false)
 else
 some (false)
def z0q(uD:zA→zA→Value→Option (Bool))(yH:(List zA)→Int→zA→Value→Option (Bool))(p:List zA)(i:Int)(m:zA)(v:Value):Option (Bool):=
 if i<(List.length p:Int)then
  idx p i>>=fun x=>
  idx v.L i>>=fun x1=>
  uD m x x1>>=fun q1=>
  if q1=true then
   yH p (IntKind.wrap .i64 (i+1)) m v
  else
  some (false)
 else
 some (true)
inductive z1b where
 |uD (m t:zA) (v:Value)
 |yH (p:List zA) (i:Int) (m:zA) (v:Value)
@[reducible] def z9l:z1b→Type
 |.uD _ _ _=>Bool
 |.yH _ _ _ _=>Bool
def z3j(g:Fam z9l):Fam z9l
 |.uD m t v=>z3z (fun p i m v=>g (z1b.yH p i m v)) m t v
 |.yH p i m v=>z0q (fun m t v=>g (z1b.uD m t v)) (fun p i m v=>g (z1b.yH p i m v)) p i m v
theorem z9d:∀i,Good (fun g=>z3j g i)
 |.uD m t v=>by unfold z3j z3z;exact(.bind (.const _) fun _=>(.ite (.const _) (.ite (.ite (.bind (.const _) fun _=>(.ite (.call _) (.const _))) (.ite (.bind (.const _) fun _=>(.ite (.call _) (.const _))) (.const _))) (.ite (.bind (.const _) fun _=>(.ite (.call _) (.const _))) (.ite (.bind (.const _) fun _=>(.ite (.call _) (.const _))) (.const _))))))
 |.yH p i m v=>by unfold z3j z0q;exact(.ite (.bind (.const _) fun _=>(.bind (.const _) fun _=>(.bind (.call _) fun _=>(.ite (.call _) (.const _))))) (.const _))
def uD(m t:zA)(v:Value):Option (Bool):=uQ z3j (.uD m t v)
def yH(p:List zA)(i:Int)(m:zA)(v:Value):Option (Bool):=uQ z3j (.yH p i m v)
theorem y9D(m t:zA)(v:Value):uD m t v=z3z yH m t v:=zW z9d (.uD m t v)
theorem z8l(p:List zA)(i:Int)(m:zA)(v:Value):yH p i m v=z0q uD yH p i m v:=zW z9d (.yH p i m v)
def z0P(wI:(List zA)→(List Value)→Int→zA→Option (Bool))(types:List zA)(l:List Value)(i:Int)(m:zA):Option (Bool):=
 if i<(List.length l:Int)then
  idx types i>>=fun x=>
  idx l i>>=fun x1=>
  uD m x x1>>=fun q1=>
  if q1=true then
   wI types l (IntKind.wrap .i64 (i+1)) m
  else
  some (false)
 else
 some (true)
inductive z4n where
 |wI (types:List zA) (l:List Value) (i:Int) (m:zA)
@[reducible] def z6e:z4n→Type
 |.wI _ _ _ _=>Bool
def z4k(g:Fam z6e):Fam z6e
 |.wI types l i m=>z0P (fun types l i m=>g (z4n.wI types l i m)) types l i m
theorem z9N:∀i,Good (fun g=>z4k g i)
 |.wI types l i m=>by unfold z4k z0P;exact(.ite (.bind (.const _) fun _=>(.bind (.const _) fun _=>(.bind (.const _) fun _=>(.ite (.call _) (.const _))))) (.const _))
def wI(types:List zA)(l:List Value)(i:Int)(m:zA):Option (Bool):=uQ z4k (.wI types l i m)
theorem z8W(types:List zA)(l:List Value)(i:Int)(m:zA):wI types l i m=z0P wI types l i m:=zW z9N (.wI types l i m)
def y0w(m:zA)(types:List zA)(l:List Value):Option (Bool):=
 if(List.length types:Int)=(List.length l:Int)then
  wI types l 0 m
 else
 some (false)
def z0e(b:Bool):Option (Int):=
 if b=true then
  some (1)
 else
 some (0)
def z1A(op a:Int):Option (Int):=
 if op=1 then
  some (IntKind.wrap .i64 (IntKind.wrap .u64 (0-(IntKind.wrap .u64 a))))
 else
 if op=2 then
  z0e (a == 0)>>=fun q1=>
  some (q1)
 else
 some (0)
def z2e(yZ:(List zA)→Int→zA→Value→Int→(List Value)→Option (Value))(m t:zA):Option (Value):=
 gE m t>>=fun q1=>
 if q1=0 then
  some ((Value.mk 0 []))
 else
 z1z m t>>=fun q2=>
 yZ q2 0 m (Value.mk 0 []) 0 []
def jG(yY:zA→zA→Option (Value))(yZ:(List zA)→Int→zA→Value→Int→(List Value)→Option (Value))(p:List zA)(i:Int)(m:zA)(o4:Value)(N:Int)(L:List Value):Option (Value):=
 if i<(List.length p:Int)then
  idx p i>>=fun x=>
  yY m x>>=fun q1=>
  if wC 32 (List.length L+List.length [q1])then
  yZ p (IntKind.wrap .i64 (i+1)) m o4 N (L++[q1])
  else none
 else
 some ((Value.mk N L))
inductive z1d where
 |yY (m t:zA)
 |yZ (p:List zA) (i:Int) (m:zA) (o4:Value) (N:Int) (L:List Value)
@[reducible] def z9n:z1d→Type
 |.yY _ _=>Value
 |.yZ _ _ _ _ _ _=>Value
def z3l(g:Fam z9n):Fam z9n
 |.yY m t=>z2e (fun p i m o4 N L=>g (z1d.yZ p i m o4 N L)) m t
 |.yZ p i m o4 N L=>jG (fun m t=>g (z1d.yY m t)) (fun p i m o4 N L=>g (z1d.yZ p i m o4 N L)) p i m o4 N L
theorem z9f:∀i,Good (fun g=>z3l g i)
 |.yY m t=>by unfold z3l z2e;exact(.bind (.const _) fun _=>(.ite (.const _) (.bind (.const _) fun _=>(.call _))))
 |.yZ p i m o4 N L=>by unfold z3l jG;exact(.ite (.bind (.const _) fun _=>(.bind (.call _) fun _=>(.ite (.call _) (.const _)))) (.const _))
def yY(m t:zA):Option (Value):=uQ z3l (.yY m t)
def yZ(p:List zA)(i:Int)(m:zA)(o4:Value)(N:Int)(L:List Value):Option (Value):=uQ z3l (.yZ p i m o4 N L)
theorem y1K(m t:zA):yY m t=z2e yZ m t:=zW z9f (.yY m t)
theorem z2Y(p:List zA)(i:Int)(m:zA)(o4:Value)(N:Int)(L:List Value):yZ p i m o4 N L=jG yY yZ p i m o4 N L:=zW z9f (.yZ p i m o4 N L)
def z1D(s:State):Option (Ref21Got):=
 some ((Ref21Got.mk (Value.mk 0 []) s))
def z3L(s:State)(n:Int):Option (State):=
 if(0:Int)≤n then
 if Int.toNat n≤List.length s.Locals then
 if 0≤Int.toNat n then
 some ({s with Locals:=List.drop 0 (List.take (Int.toNat n) s.Locals)})
 else none
 else none
 else none
def z2x(s:State)(v:Value):Option (State):=
 if wC 32 (List.length ([]:List Value)+List.length s.Locals)then
 if wC 32 (List.length (([]:List Value)++s.Locals)+List.length [v])then
 some ({s with Locals:=(([]:List Value)++s.Locals)++[v]})
 else none
 else none
def z0R(s:State):Option (State):=
 if s.Kind=0 then
  if s.Fuel≤0 then
   some ({s with Kind:=3})
  else
  some ({s with Fuel:=IntKind.wrap .i64 (s.Fuel-1)})
 else
 some (s)
def z3B(vW:(List Int)→(List Value)→Int→Value→Value→Value→Option (Value))(v:Value)(way:List Int)(x:Value):Option (Value):=
 if(List.length way:Int)=0 then
  some (x)
 else
 vW way ([]:List Value) 0 v x (Value.mk 0 [])
def z0O(wO:Value→(List Int)→Value→Option (Value))(vW:(List Int)→(List Value)→Int→Value→Value→Value→Option (Value))(way:List Int)(out:List Value)(i:Int)(v x o6:Value):Option (Value):=
 if i<(List.length v.L:Int)then
  idx way 0>>=fun x1=>
  if i=x1 then
   idx v.L i>>=fun x2=>
   if List.length way≤List.length way then
   if(0:Int)≤1 then
   if Int.toNat 1≤List.length way then
   wO x2 (List.drop (Int.toNat 1) (List.take (List.length way) way)) x>>=fun q1=>
   if wC 32 (List.length out+List.length [q1])then
   vW way (out++[q1]) (IntKind.wrap .i64 (i+1)) v x o6
   else none
   else none
   else none
   else none
  else
  idx v.L i>>=fun x3=>
  if wC 32 (List.length out+List.length [x3])then
  vW way (out++[x3]) (IntKind.wrap .i64 (i+1)) v x o6
  else none
 else
 some ((Value.mk v.N out))
inductive z2l where
 |wO (v:Value) (way:List Int) (x:Value)
 |vW (way:List Int) (out:List Value) (i:Int) (v x o6:Value)
@[reducible] def y0K:z2l→Type
 |.wO _ _ _=>Value
 |.vW _ _ _ _ _ _=>Value
def z4s(g:Fam y0K):Fam y0K
 |.wO v way x=>z3B (fun way out i v x o6=>g (z2l.vW way out i v x o6)) v way x
 |.vW way out i v x o6=>z0O (fun v way x=>g (z2l.wO v way x)) (fun way out i v x o6=>g (z2l.vW way out i v x o6)) way out i v x o6
theorem y0H:∀i,Good (fun g=>z4s g i)
 |.wO v way x=>by unfold z4s z3B;exact(.ite (.const _) (.call _))
 |.vW way out i v x o6=>by unfold z4s z0O;exact(.ite (.bind (.const _) fun _=>(.ite (.bind (.const _) fun _=>(.ite (.ite (.ite (.bind (.call _) fun _=>(.ite (.call _) (.const _))) (.const _)) (.const _)) (.const _))) (.bind (.const _) fun _=>(.ite (.call _) (.const _))))) (.const _))
def wO(v:Value)(way:List Int)(x:Value):Option (Value):=uQ z4s (.wO v way x)
def vW(way:List Int)(out:List Value)(i:Int)(v x o6:Value):Option (Value):=uQ z4s (.vW way out i v x o6)
theorem y4w(v:Value)(way:List Int)(x:Value):wO v way x=z3B vW v way x:=zW y0H (.wO v way x)
theorem z8V(way:List Int)(out:List Value)(i:Int)(v x o6:Value):vW way out i v x o6=z0O wO vW way out i v x o6:=zW y0H (.vW way out i v x o6)
def z3U(l:List Value)(at_:Int)(v:Value):Option (List Value):=
 if wC 32 (List.length l)then
 if 0<List.length l then
 if(0:Int)≤at_∧at_<(List.length l:Int)then
 if Int.toNat at_<List.length l then
 some (l.set (Int.toNat at_) v)
 else none
 else none
 else none
 else none
def z3A(uE:Value→(List Int)→Option (Value))(v:Value)(way:List Int):Option (Value):=
 if(List.length way:Int)=0 then
  some (v)
 else
 idx way 0>>=fun x=>
 idx v.L x>>=fun x1=>
 if List.length way≤List.length way then
 if(0:Int)≤1 then
 if Int.toNat 1≤List.length way then
 uE x1 (List.drop (Int.toNat 1) (List.take (List.length way) way))>>=fun q1=>
 some (q1)
 else none
 else none
 else none
inductive z8s where
 |uE (v:Value) (way:List Int)
@[reducible] def y0J:z8s→Type
 |.uE _ _=>Value
def z8r(g:Fam y0J):Fam y0J
 |.uE v way=>z3A (fun v way=>g (z8s.uE v way)) v way
theorem y5w:∀i,Good (fun g=>z8r g i)
 |.uE v way=>by unfold z8r z3A;exact(.ite (.const _) (.bind (.const _) fun _=>(.bind (.const _) fun _=>(.ite (.ite (.ite (.bind (.call _) fun _=>(.const _)) (.const _)) (.const _)) (.const _)))))
def uE(v:Value)(way:List Int):Option (Value):=uQ z8r (.uE v way)
theorem y4v(v:Value)(way:List Int):uE v way=z3A uE v way:=zW y5w (.uE v way)
def z0g(n:Int)(s:State):Option (Ref21Got):=
 some ((Ref21Got.mk (Value.mk 0 []) ({s with Kind:=2,N:=n})))
def z0Q(n:Int)(s:State):Option (Ref21Got):=
 some ((Ref21Got.mk (Value.mk n []) s))
def jR(yE:Int→Int→Int→Int→Int→Option (Int×Int))(a b q left i:Int):Option (Int×Int):=
 if i≥0 then
  if(0:Int)≤(IntKind.wrap .u64 i)then
  if 2≠(0:Int)then
  if left≥9223372036854775808 then
   yE a b (IntKind.wrap .u64 ((IntKind.wrap .u64 (q*2))+1)) (IntKind.wrap .u64 ((IntKind.wrap .u64 ((IntKind.wrap .u64 (left*2))+(Int.tmod (Int.fdiv a (2 ^ min (Int.toNat (IntKind.wrap .u64 i)) (IntKind.bits .u64))) 2)))-b)) (IntKind.wrap .i64 (i-1))
  else
  if(IntKind.wrap .u64 ((IntKind.wrap .u64 (left*2))+(Int.tmod (Int.fdiv a (2 ^ min (Int.toNat (IntKind.wrap .u64 i)) (IntKind.bits .u64))) 2)))≥b then
   yE a b (IntKind.wrap .u64 ((IntKind.wrap .u64 (q*2))+1)) (IntKind.wrap .u64 ((IntKind.wrap .u64 ((IntKind.wrap .u64 (left*2))+(Int.tmod (Int.fdiv a (2 ^ min (Int.toNat (IntKind.wrap .u64 i)) (IntKind.bits .u64))) 2)))-b)) (IntKind.wrap .i64 (i-1))
  else
  yE a b (IntKind.wrap .u64 (q*2)) (IntKind.wrap .u64 ((IntKind.wrap .u64 (left*2))+(Int.tmod (Int.fdiv a (2 ^ min (Int.toNat (IntKind.wrap .u64 i)) (IntKind.bits .u64))) 2))) (IntKind.wrap .i64 (i-1))
  else none
  else none
 else
 some (q,left)
inductive z1X where
 |yE (a b q left i:Int)
@[reducible] def z4b:z1X→Type
 |.yE _ _ _ _ _=>Int×Int
def z1Q(g:Fam z4b):Fam z4b
 |.yE a b q left i=>jR (fun a b q left i=>g (z1X.yE a b q left i)) a b q left i
theorem z6I:∀i,Good (fun g=>z1Q g i)
 |.yE a b q left i=>by unfold z1Q jR;exact(.ite (.ite (.ite (.ite (.call _) (.ite (.call _) (.call _))) (.const _)) (.const _)) (.const _))
def yE(a b q left i:Int):Option (Int×Int):=uQ z1Q (.yE a b q left i)
theorem z5O(a b q left i:Int):yE a b q left i=jR yE a b q left i:=zW z6I (.yE a b q left i)
def z4W(a b:Int):Option (Int×Int):=
 yE a b 0 0 63
def z5P(a:Int):Option (Int):=
 if a<0 then
  some (IntKind.wrap .u64 ((IntKind.wrap .u64 (IntKind.wrap .i64 (0-(IntKind.wrap .i64 (a+1)))))+1))
 else
 some (IntKind.wrap .u64 a)
def z1B(a b:Int):Option (Int×Int):=
 z5P a>>=fun q1=>
 z5P b>>=fun q2=>
 z4W q1 q2>>=fun q3=>
 if decide (a<0)=decide (b<0)then
  if a<0 then
   some (IntKind.wrap .i64 q3.1,IntKind.wrap .i64 (IntKind.wrap .u64 (0-q3.2)))
  else
  some (IntKind.wrap .i64 q3.1,IntKind.wrap .i64 q3.2)
 else
 if a<0 then
  some (IntKind.wrap .i64 (IntKind.wrap .u64 (0-q3.1)),IntKind.wrap .i64 (IntKind.wrap .u64 (0-q3.2)))
 else
 some (IntKind.wrap .i64 (IntKind.wrap .u64 (0-q3.1)),IntKind.wrap .i64 q3.2)
def z0y(yX:Int→Int→Int→Option (Int))(x y out:Int):Option (Int):=
 if y>0 then
  if 2≠(0:Int)then
  if Int.tmod y 2=1 then
   if 2≠(0:Int)then
   yX (IntKind.wrap .u64 (x+x)) (IntKind.wrap .u64 (Int.tdiv y 2)) (IntKind.wrap .u64 (out+x))
   else none
  else
  if 2≠(0:Int)then
  yX (IntKind.wrap .u64 (x+x)) (IntKind.wrap .u64 (Int.tdiv y 2)) out
  else none
  else none
 else
 some (IntKind.wrap .i64 out)
inductive z2N where
 |yX (x y out:Int)
@[reducible] def z4F:z2N→Type
 |.yX _ _ _=>Int
def z2G(g:Fam z4F):Fam z4F
 |.yX x y out=>z0y (fun x y out=>g (z2N.yX x y out)) x y out
theorem z7l:∀i,Good (fun g=>z2G g i)
 |.yX x y out=>by unfold z2G z0y;exact(.ite (.ite (.ite (.ite (.call _) (.const _)) (.ite (.call _) (.const _))) (.const _)) (.const _))
def yX(x y out:Int):Option (Int):=uQ z2G (.yX x y out)
theorem y2u(x y out:Int):yX x y out=z0y yX x y out:=zW z7l (.yX x y out)
def z5Q(a b:Int):Option (Int):=
 yX (IntKind.wrap .u64 a) (IntKind.wrap .u64 b) 0
def z2Z(op a b:Int):Option (Int×Int):=
 if op=1 then
  if a=0 then
   z0e (!(b == 0))>>=fun q1=>
   some (q1,0)
  else
  z0e true>>=fun q2=>
  some (q2,0)
 else
 if op=2 then
  if a=0 then
   z0e false>>=fun q3=>
   some (q3,0)
  else
  z0e (!(b == 0))>>=fun q4=>
  some (q4,0)
 else
 if op=3 then
  z0e ((a == b) == (op == 3))>>=fun q5=>
  some (q5,0)
 else
 if op=4 then
  z0e ((a == b) == (op == 3))>>=fun q6=>
  some (q6,0)
 else
 if op=5 then
  z0e ((decide (a<b)) == (op == 5))>>=fun q7=>
  some (q7,0)
 else
 if op=8 then
  z0e ((decide (a<b)) == (op == 5))>>=fun q8=>
  some (q8,0)
 else
 if op=7 then
  z0e ((decide (a>b)) == (op == 7))>>=fun q9=>
  some (q9,0)
 else
 if op=6 then
  z0e ((decide (a>b)) == (op == 7))>>=fun q10=>
  some (q10,0)
 else
 if op=9 then
  some (IntKind.wrap .i64 (IntKind.wrap .u64 ((IntKind.wrap .u64 a)+(IntKind.wrap .u64 b))),0)
 else
 if op=10 then
  some (IntKind.wrap .i64 (IntKind.wrap .u64 ((IntKind.wrap .u64 a)-(IntKind.wrap .u64 b))),0)
 else
 if op=11 then
  z5Q a b>>=fun q11=>
  some (q11,0)
 else
 if op=12 then
  if b=0 then
   some (0,1)
  else
  z1B a b>>=fun q13=>
  some (q13.1,0)
 else
 if op=13 then
  if b=0 then
   some (0,1)
  else
  z1B a b>>=fun q12=>
  some (q12.2,0)
 else
 some (0,0)
def wT(z0T:zA→State→zA→Option (Ref21Got))(jW:zA→State→(List zA)→Option (List Value×State))(wS:zA→State→Int→(List Value)→Option (Ref21Got))(m:zA)(s:State)(t:zA):Option (Ref21Got):=
 z0R s>>=fun q1=>
 if q1.Kind=0 then
  if t.K=5 then
   z0Q t.N q1>>=fun q3=>
   some (q3)
  else
  if t.K=6 then
   z0Q t.N q1>>=fun q4=>
   some (q4)
  else
  if t.K=7 then
   idx q1.Locals (IntKind.wrap .i64 ((IntKind.wrap .i64 ((List.length q1.Locals:Int)-1))-t.N))>>=fun x=>
   some ((Ref21Got.mk x q1))
  else
  if t.K=9 then
   idx q1.Globals t.N>>=fun x1=>
   some ((Ref21Got.mk x1 q1))
  else
  if t.K=8 then
   idx m.L t.N>>=fun x2=>
   idx x2.L 0>>=fun x3=>
   z0Q x3.N q1>>=fun q5=>
   some (q5)
  else
  if t.K=18 then
   if q1.At≥(List.length q1.Input:Int)then
    z0g 3 q1>>=fun q6=>
    some (q6)
   else
   idx q1.Input (IntKind.wrap .i64 ((IntKind.wrap .i64 (q1.At+1))-1))>>=fun x4=>
   z0Q x4 ({q1 with At:=IntKind.wrap .i64 (q1.At+1)})>>=fun q7=>
   some (q7)
  else
  if t.K=10 then
   z0T m q1 t>>=fun q17=>
   some (q17)
  else
  jW m q1 t.L>>=fun q18=>
  if q18.2.Kind=0 then
   if t.K=11 then
    idx q18.1 0>>=fun x15=>
    z1A t.N x15.N>>=fun q20=>
    z0Q q20 q18.2>>=fun q21=>
    some (q21)
   else
   if t.K=12 then
    idx q18.1 1>>=fun x16=>
    if x16.N<0 then
     z0g 2 q18.2>>=fun q22=>
     some (q22)
    else
    idx q18.1 1>>=fun x17=>
    idx q18.1 0>>=fun x18=>
    if x17.N≥(List.length x18.L:Int)then
     z0g 2 q18.2>>=fun q23=>
     some (q23)
    else
    idx q18.1 0>>=fun x19=>
    idx q18.1 1>>=fun x20=>
    idx x19.L x20.N>>=fun x21=>
    some ((Ref21Got.mk x21 q18.2))
   else
   if t.K=13 then
    idx q18.1 0>>=fun x22=>
    if 64≠(0:Int)then
    idx x22.L (Int.tmod t.N 64)>>=fun x23=>
    some ((Ref21Got.mk x23 q18.2))
    else none
   else
   if t.K=16 then
    wS m q18.2 t.N q18.1>>=fun q24=>
    some (q24)
   else
   some ((Ref21Got.mk (Value.mk 0 q18.1) q18.2))
  else
  z1D q18.2>>=fun q19=>
  some (q19)
 else
 z1D q1>>=fun q2=>
 some (q2)
def z4x(zK:zA→State→zA→Option (Ref21Got))(m:zA)(s:State)(t:zA):Option (Ref21Got):=
 idx t.L 0>>=fun x=>
 zK m s x>>=fun q1=>
 if q1.S.Kind=0 then
  if t.N=2 then
   if q1.V.N=0 then
    z0Q 0 q1.S>>=fun q3=>
    some (q3)
   else
   idx t.L 1>>=fun x2=>
   zK m q1.S x2>>=fun q9=>
   if q9.S.Kind=0 then
    some (q9)
   else
   some (q9)
  else
  if t.N=1 then
   if q1.V.N=0 then
    idx t.L 1>>=fun x3=>
    zK m q1.S x3>>=fun q14=>
    if q14.S.Kind=0 then
     some (q14)
    else
    some (q14)
   else
   z0Q 1 q1.S>>=fun q13=>
   some (q13)
  else
  idx t.L 1>>=fun x4=>
  zK m q1.S x4>>=fun q18=>
  if q18.S.Kind=0 then
   z2Z t.N q1.V.N q18.V.N>>=fun q19=>
   if q19.2=0 then
    z0Q q19.1 q18.S>>=fun q21=>
    some (q21)
   else
   z0g q19.2 q18.S>>=fun q20=>
   some (q20)
  else
  some (q18)
 else
 z1D q1.S>>=fun q2=>
 some (q2)
def z3D(vP:(List zA)→(List Value)→Int→zA→State→State→Option (List Value×State))(m:zA)(s:State)(l:List zA):Option (List Value×State):=
 vP l ([]:List Value) 0 m s (State.mk [] [] [] 0 [] 0 0 0 (Value.mk 0 []))
def z0s(zK:zA→State→zA→Option (Ref21Got))(vP:(List zA)→(List Value)→Int→zA→State→State→Option (List Value×State))(l:List zA)(out:List Value)(i:Int)(m:zA)(s o7:State):Option (List Value×State):=
 if i<(List.length l:Int)then
  idx l i>>=fun x=>
  zK m s x>>=fun q1=>
  if wC 32 (List.length out+List.length [q1.V])then
  vP l (out++[q1.V]) (IntKind.wrap .i64 (i+1)) m q1.S o7
  else none
 else
 some (out,s)
def z1C(zU:zA→State→zA→Option (State))(m:zA)(s:State)(f:Int)(args:List Value):Option (Ref21Got):=
 idx m.L f>>=fun x=>
 idx x.L 2>>=fun x1=>
 zU m ({s with Locals:=args}) x1>>=fun q1=>
 if q1.Kind=1 then
  some ((Ref21Got.mk q1.Ret ({q1 with Locals:=s.Locals,Kind:=0,Ret:=(Value.mk 0 [])})))
 else
 if q1.Kind=0 then
  idx m.L f>>=fun x2=>
  idx x2.L 1>>=fun x3=>
  yY m x3>>=fun q3=>
  some ((Ref21Got.mk q3 ({q1 with Locals:=s.Locals})))
 else
 z1D ({q1 with Locals:=s.Locals})>>=fun q2=>
 some (q2)
def jD(zK:zA→State→zA→Option (Ref21Got))(zU:zA→State→zA→Option (State))(yM:Int→Int→zA→State→zA→State→Option (State))(z0S:zA→State→zA→Option (State))(uT:zA→Ref21Got→zA→Option (State))(z0u:zA→Ref21Got→zA→Option (State))(m:zA)(s:State)(t:zA):Option (State):=
 z0R s>>=fun q1=>
 if q1.Kind=0 then
  if t.K=29 then
   yM (List.length q1.Locals:Int) 0 m q1 t (State.mk [] [] [] 0 [] 0 0 0 (Value.mk 0 []))
  else
  if t.K=21 then
   idx t.L 0>>=fun x=>
   yY m x>>=fun q2=>
   z2x q1 q2>>=fun q3=>
   some (q3)
  else
  if t.K=22 then
   z0S m q1 t>>=fun q4=>
   some (q4)
  else
  idx t.L 0>>=fun x1=>
  zK m q1 x1>>=fun q5=>
  if q5.S.Kind=0 then
   if t.K=20 then
    z2x q5.S q5.V>>=fun q6=>
    some (q6)
   else
   if t.K=26 then
    if wC 8 (List.length ([]:List Int)+List.length q5.S.Trace)then
    if wC 8 (List.length (([]:List Int)++q5.S.Trace)+List.length [q5.V.N])then
    some ({q5.S with Trace:=(([]:List Int)++q5.S.Trace)++[q5.V.N]})
    else none
    else none
   else
   if t.K=27 then
    some ({q5.S with Kind:=1,Ret:=q5.V})
   else
   if t.K=23 then
    if q5.V.N=0 then
     idx t.L 2>>=fun x12=>
     zU m q5.S x12>>=fun q29=>
     some (q29)
    else
    idx t.L 1>>=fun x11=>
    zU m q5.S x11>>=fun q28=>
    some (q28)
   else
   if t.K=24 then
    uT m q5 t>>=fun q33=>
    some (q33)
   else
   if t.K=25 then
    z0u m q5 t>>=fun q34=>
    some (q34)
   else
   some (q5.S)
  else
  some (q5.S)
 else
 some (q1)
def jH(zU:zA→State→zA→Option (State))(yM:Int→Int→zA→State→zA→State→Option (State))(n i:Int)(m:zA)(s:State)(t:zA)(o6:State):Option (State):=
 if i<(List.length t.L:Int)then
  idx t.L i>>=fun x=>
  zU m s x>>=fun q1=>
  yM n (IntKind.wrap .i64 (i+1)) m q1 t o6
 else
 z3L s n>>=fun q2=>
 some (q2)
def z4w(zK:zA→State→zA→Option (Ref21Got))(vI:zA→State→zA→State→Ref21Got→zA→Option (State))(m:zA)(s:State)(t:zA):Option (State):=
 idx t.L 1>>=fun x=>
 zK m s x>>=fun q1=>
 if q1.S.Kind=0 then
  idx t.L 0>>=fun x1=>
  vI m q1.S t (State.mk [] [] [] 0 [] 0 0 0 (Value.mk 0 [])) q1 x1
 else
 some (q1.S)
def z0f(vI:zA→State→zA→State→Ref21Got→zA→Option (State))(uC:zA→State→zA→Value→Option (List Int×State))(m:zA)(s:State)(t:zA)(o6:State)(x:Ref21Got)(root:zA):Option (State):=
 if root.K=12 then
  idx root.L 0>>=fun x1=>
  vI m s t o6 x x1
 else
 if root.K=13 then
  idx root.L 0>>=fun x2=>
  vI m s t o6 x x2
 else
 if root.K=9 then
  idx t.L 0>>=fun x3=>
  idx s.Globals root.N>>=fun x4=>
  uC m s x3 x4>>=fun q1=>
  if q1.2.Kind=0 then
   idx q1.2.Globals root.N>>=fun x5=>
   wO x5 q1.1 x.V>>=fun q2=>
   z3U q1.2.Globals root.N q2>>=fun q3=>
   some ({q1.2 with Globals:=q3})
  else
  some (q1.2)
 else
 idx t.L 0>>=fun x6=>
 idx s.Locals (IntKind.wrap .i64 ((IntKind.wrap .i64 ((List.length s.Locals:Int)-1))-root.N))>>=fun x7=>
 uC m s x6 x7>>=fun q4=>
 if q4.2.Kind=0 then
  idx q4.2.Locals (IntKind.wrap .i64 ((IntKind.wrap .i64 ((List.length s.Locals:Int)-1))-root.N))>>=fun x8=>
  wO x8 q4.1 x.V>>=fun q5=>
  z3U q4.2.Locals (IntKind.wrap .i64 ((IntKind.wrap .i64 ((List.length s.Locals:Int)-1))-root.N)) q5>>=fun q6=>
  some ({q4.2 with Locals:=q6})
 else
 some (q4.2)
def z2A(yC:zA→Ref21Got→zA→State→Option (State))(m:zA)(x:Ref21Got)(t:zA):Option (State):=
 yC m x t (State.mk [] [] [] 0 [] 0 0 0 (Value.mk 0 []))
def jJ(zK:zA→State→zA→Option (Ref21Got))(zU:zA→State→zA→Option (State))(yC:zA→Ref21Got→zA→State→Option (State))(m:zA)(x:Ref21Got)(t:zA)(o6:State):Option (State):=
 if x.S.Kind=0 then
  if x.V.N=0 then
   some (x.S)
  else
  idx t.L 1>>=fun x1=>
  zU m x.S x1>>=fun q1=>
  idx t.L 0>>=fun x2=>
  zK m q1 x2>>=fun q2=>
  yC m q2 t o6
 else
 some (x.S)
def z4v(zK:zA→State→zA→Option (Ref21Got))(vX:Int→Int→zA→zA→State→Ref21Got→State→Option (State))(m:zA)(from_:Ref21Got)(t:zA):Option (State):=
 idx t.L 1>>=fun x=>
 zK m from_.S x>>=fun q1=>
 if q1.S.Kind=0 then
  vX (List.length q1.S.Locals:Int) from_.V.N m t (State.mk [] [] [] 0 [] 0 0 0 (Value.mk 0 [])) q1 q1.S
 else
 some (q1.S)
def jZ(zU:zA→State→zA→Option (State))(vX:Int→Int→zA→zA→State→Ref21Got→State→Option (State))(n i:Int)(m t:zA)(o6:State)(to_:Ref21Got)(s:State):Option (State):=
 z0R s>>=fun q1=>
 if q1.Kind=0 then
  if i≥to_.V.N then
   some (q1)
  else
  z2x q1 (Value.mk i [])>>=fun q2=>
  idx t.L 2>>=fun x=>
  zU m q2 x>>=fun q3=>
  z3L q3 n>>=fun q4=>
  vX n (IntKind.wrap .i64 (i+1)) m t o6 to_ q4
 else
 some (q1)
def z2z(zK:zA→State→zA→Option (Ref21Got))(uC:zA→State→zA→Value→Option (List Int×State))(m:zA)(s:State)(t:zA)(kept:Value):Option (List Int×State):=
 if t.K=12 then
  idx t.L 0>>=fun x2=>
  uC m s x2 kept>>=fun q6=>
  if q6.2.Kind=0 then
   idx t.L 1>>=fun x3=>
   zK m q6.2 x3>>=fun q7=>
   if q7.S.Kind=0 then
    if q7.V.N<0 then
     z0g 2 q7.S>>=fun q8=>
     some (q6.1,q8.S)
    else
    uE kept q6.1>>=fun q9=>
    if q7.V.N≥(List.length q9.L:Int)then
     z0g 2 q7.S>>=fun q10=>
     some (q6.1,q10.S)
    else
    if wC 8 (List.length q6.1+List.length [q7.V.N])then
    some (q6.1++[q7.V.N],q7.S)
    else none
   else
   some (q6.1,q7.S)
  else
  some (q6.1,q6.2)
 else
 if t.K=13 then
  idx t.L 0>>=fun x=>
  uC m s x kept>>=fun q1=>
  if q1.2.Kind=0 then
   if 64≠(0:Int)then
   if wC 8 (List.length q1.1+List.length [Int.tmod t.N 64])then
   some (q1.1++[Int.tmod t.N 64],q1.2)
   else none
   else none
  else
  some (q1.1,q1.2)
 else
 some (([]:List Int),s)
inductive zH where
 |zK (m:zA) (s:State) (t:zA)
 |z0T (m:zA) (s:State) (t:zA)
 |jW (m:zA) (s:State) (l:List zA)
 |vP (l:List zA) (out:List Value) (i:Int) (m:zA) (s o7:State)
 |wS (m:zA) (s:State) (f:Int) (args:List Value)
 |zU (m:zA) (s:State) (t:zA)
 |yM (n i:Int) (m:zA) (s:State) (t:zA) (o6:State)
 |z0S (m:zA) (s:State) (t:zA)
 |vI (m:zA) (s:State) (t:zA) (o6:State) (x:Ref21Got) (root:zA)
 |uT (m:zA) (x:Ref21Got) (t:zA)
 |yC (m:zA) (x:Ref21Got) (t:zA) (o6:State)
 |z0u (m:zA) (from_:Ref21Got) (t:zA)
 |vX (n i:Int) (m t:zA) (o6:State) (to_:Ref21Got) (s:State)
 |uC (m:zA) (s:State) (t:zA) (kept:Value)
@[reducible] def z9o:zH→Type
 |.zK _ _ _=>Ref21Got
 |.z0T _ _ _=>Ref21Got
 |.jW _ _ _=>List Value×State
 |.vP _ _ _ _ _ _=>List Value×State
 |.wS _ _ _ _=>Ref21Got
 |.zU _ _ _=>State
 |.yM _ _ _ _ _ _=>State
 |.z0S _ _ _=>State
 |.vI _ _ _ _ _ _=>State
 |.uT _ _ _=>State
 |.yC _ _ _ _=>State
 |.z0u _ _ _=>State
 |.vX _ _ _ _ _ _ _=>State
 |.uC _ _ _ _=>List Int×State
def yG(g:Fam z9o):Fam z9o
 |.zK m s t=>wT (fun m s t=>g (zH.z0T m s t)) (fun m s l=>g (zH.jW m s l)) (fun m s f args=>g (zH.wS m s f args)) m s t
 |.z0T m s t=>z4x (fun m s t=>g (zH.zK m s t)) m s t
 |.jW m s l=>z3D (fun l out i m s o7=>g (zH.vP l out i m s o7)) m s l
 |.vP l out i m s o7=>z0s (fun m s t=>g (zH.zK m s t)) (fun l out i m s o7=>g (zH.vP l out i m s o7)) l out i m s o7
 |.wS m s f args=>z1C (fun m s t=>g (zH.zU m s t)) m s f args
 |.zU m s t=>jD (fun m s t=>g (zH.zK m s t)) (fun m s t=>g (zH.zU m s t)) (fun n i m s t o6=>g (zH.yM n i m s t o6)) (fun m s t=>g (zH.z0S m s t)) (fun m x t=>g (zH.uT m x t)) (fun m from_ t=>g (zH.z0u m from_ t)) m s t
 |.yM n i m s t o6=>jH (fun m s t=>g (zH.zU m s t)) (fun n i m s t o6=>g (zH.yM n i m s t o6)) n i m s t o6
 |.z0S m s t=>z4w (fun m s t=>g (zH.zK m s t)) (fun m s t o6 x root=>g (zH.vI m s t o6 x root)) m s t
 |.vI m s t o6 x root=>z0f (fun m s t o6 x root=>g (zH.vI m s t o6 x root)) (fun m s t kept=>g (zH.uC m s t kept)) m s t o6 x root
 |.uT m x t=>z2A (fun m x t o6=>g (zH.yC m x t o6)) m x t
 |.yC m x t o6=>jJ (fun m s t=>g (zH.zK m s t)) (fun m s t=>g (zH.zU m s t)) (fun m x t o6=>g (zH.yC m x t o6)) m x t o6
 |.z0u m from_ t=>z4v (fun m s t=>g (zH.zK m s t)) (fun n i m t o6 to_ s=>g (zH.vX n i m t o6 to_ s)) m from_ t
 |.vX n i m t o6 to_ s=>jZ (fun m s t=>g (zH.zU m s t)) (fun n i m t o6 to_ s=>g (zH.vX n i m t o6 to_ s)) n i m t o6 to_ s
 |.uC m s t kept=>z2z (fun m s t=>g (zH.zK m s t)) (fun m s t kept=>g (zH.uC m s t kept)) m s t kept
theorem uF:∀i,Good (fun g=>yG g i)
 |.zK m s t=>by unfold yG wT;exact(.bind (.const _) fun _=>(.ite (.ite (.bind (.const _) fun _=>(.const _)) (.ite (.bind (.const _) fun _=>(.const _)) (.ite (.bind (.const _) fun _=>(.const _)) (.ite (.bind (.const _) fun _=>(.const _)) (.ite (.bind (.const _) fun _=>(.bind (.const _) fun _=>(.bind (.const _) fun _=>(.const _)))) (.ite (.ite (.bind (.const _) fun _=>(.const _)) (.bind (.const _) fun _=>(.bind (.const _) fun _=>(.const _)))) (.ite (.bind (.call _) fun _=>(.const _)) (.bind (.call _) fun _=>(.ite (.ite (.bind (.const _) fun _=>(.bind (.const _) fun _=>(.bind (.const _) fun _=>(.const _)))) (.ite (.bind (.const _) fun _=>(.ite (.bind (.const _) fun _=>(.const _)) (.bind (.const _) fun _=>(.bind (.const _) fun _=>(.ite (.bind (.const _) fun _=>(.const _)) (.bind (.const _) fun _=>(.bind (.const _) fun _=>(.bind (.const _) fun _=>(.const _))))))))) (.ite (.bind (.const _) fun _=>(.ite (.bind (.const _) fun _=>(.const _)) (.const _))) (.ite (.bind (.call _) fun _=>(.const _)) (.const _))))) (.bind (.const _) fun _=>(.const _))))))))))) (.bind (.const _) fun _=>(.const _))))
 |.z0T m s t=>by unfold yG z4x;exact(.bind (.const _) fun _=>(.bind (.call _) fun _=>(.ite (.ite (.ite (.bind (.const _) fun _=>(.const _)) (.bind (.const _) fun _=>(.bind (.call _) fun _=>(.ite (.const _) (.const _))))) (.ite (.ite (.bind (.const _) fun _=>(.bind (.call _) fun _=>(.ite (.const _) (.const _)))) (.bind (.const _) fun _=>(.const _))) (.bind (.const _) fun _=>(.bind (.call _) fun _=>(.ite (.bind (.const _) fun _=>(.ite (.bind (.const _) fun _=>(.const _)) (.bind (.const _) fun _=>(.const _)))) (.const _)))))) (.bind (.const _) fun _=>(.const _)))))
 |.jW m s l=>by unfold yG z3D;exact(.call _)
 |.vP l out i m s o7=>by unfold yG z0s;exact(.ite (.bind (.const _) fun _=>(.bind (.call _) fun _=>(.ite (.call _) (.const _)))) (.const _))
 |.wS m s f args=>by unfold yG z1C;exact(.bind (.const _) fun _=>(.bind (.const _) fun _=>(.bind (.call _) fun _=>(.ite (.const _) (.ite (.bind (.const _) fun _=>(.bind (.const _) fun _=>(.bind (.const _) fun _=>(.const _)))) (.bind (.const _) fun _=>(.const _)))))))
 |.zU m s t=>by unfold yG jD;exact(.bind (.const _) fun _=>(.ite (.ite (.call _) (.ite (.bind (.const _) fun _=>(.bind (.const _) fun _=>(.bind (.const _) fun _=>(.const _)))) (.ite (.bind (.call _) fun _=>(.const _)) (.bind (.const _) fun _=>(.bind (.call _) fun _=>(.ite (.ite (.bind (.const _) fun _=>(.const _)) (.ite (.ite (.ite (.const _) (.const _)) (.const _)) (.ite (.const _) (.ite (.ite (.bind (.const _) fun _=>(.bind (.call _) fun _=>(.const _))) (.bind (.const _) fun _=>(.bind (.call _) fun _=>(.const _)))) (.ite (.bind (.call _) fun _=>(.const _)) (.ite (.bind (.call _) fun _=>(.const _)) (.const _))))))) (.const _))))))) (.const _)))
 |.yM n i m s t o6=>by unfold yG jH;exact(.ite (.bind (.const _) fun _=>(.bind (.call _) fun _=>(.call _))) (.bind (.const _) fun _=>(.const _)))
 |.z0S m s t=>by unfold yG z4w;exact(.bind (.const _) fun _=>(.bind (.call _) fun _=>(.ite (.bind (.const _) fun _=>(.call _)) (.const _))))
 |.vI m s t o6 x root=>by unfold yG z0f;exact(.ite (.bind (.const _) fun _=>(.call _)) (.ite (.bind (.const _) fun _=>(.call _)) (.ite (.bind (.const _) fun _=>(.bind (.const _) fun _=>(.bind (.call _) fun _=>(.ite (.bind (.const _) fun _=>(.bind (.const _) fun _=>(.bind (.const _) fun _=>(.const _)))) (.const _))))) (.bind (.const _) fun _=>(.bind (.const _) fun _=>(.bind (.call _) fun _=>(.ite (.bind (.const _) fun _=>(.bind (.const _) fun _=>(.bind (.const _) fun _=>(.const _)))) (.const _))))))))
 |.uT m x t=>by unfold yG z2A;exact(.call _)
 |.yC m x t o6=>by unfold yG jJ;exact(.ite (.ite (.const _) (.bind (.const _) fun _=>(.bind (.call _) fun _=>(.bind (.const _) fun _=>(.bind (.call _) fun _=>(.call _)))))) (.const _))
 |.z0u m from_ t=>by unfold yG z4v;exact(.bind (.const _) fun _=>(.bind (.call _) fun _=>(.ite (.call _) (.const _))))
 |.vX n i m t o6 to_ s=>by unfold yG jZ;exact(.bind (.const _) fun _=>(.ite (.ite (.const _) (.bind (.const _) fun _=>(.bind (.const _) fun _=>(.bind (.call _) fun _=>(.bind (.const _) fun _=>(.call _)))))) (.const _)))
 |.uC m s t kept=>by unfold yG z2z;exact(.ite (.bind (.const _) fun _=>(.bind (.call _) fun _=>(.ite (.bind (.const _) fun _=>(.bind (.call _) fun _=>(.ite (.ite (.bind (.const _) fun _=>(.const _)) (.bind (.const _) fun _=>(.ite (.bind (.const _) fun _=>(.const _)) (.ite (.const _) (.const _))))) (.const _)))) (.const _)))) (.ite (.bind (.const _) fun _=>(.bind (.call _) fun _=>(.ite (.ite (.ite (.const _) (.const _)) (.const _)) (.const _)))) (.const _)))
def zK(m:zA)(s:State)(t:zA):Option (Ref21Got):=uQ yG (.zK m s t)
def z0T(m:zA)(s:State)(t:zA):Option (Ref21Got):=uQ yG (.z0T m s t)
def jW(m:zA)(s:State)(l:List zA):Option (List Value×State):=uQ yG (.jW m s l)
def vP(l:List zA)(out:List Value)(i:Int)(m:zA)(s o7:State):Option (List Value×State):=uQ yG (.vP l out i m s o7)
def wS(m:zA)(s:State)(f:Int)(args:List Value):Option (Ref21Got):=uQ yG (.wS m s f args)
def zU(m:zA)(s:State)(t:zA):Option (State):=uQ yG (.zU m s t)
def yM(n i:Int)(m:zA)(s:State)(t:zA)(o6:State):Option (State):=uQ yG (.yM n i m s t o6)
def z0S(m:zA)(s:State)(t:zA):Option (State):=uQ yG (.z0S m s t)
def vI(m:zA)(s:State)(t:zA)(o6:State)(x:Ref21Got)(root:zA):Option (State):=uQ yG (.vI m s t o6 x root)
def uT(m:zA)(x:Ref21Got)(t:zA):Option (State):=uQ yG (.uT m x t)
def yC(m:zA)(x:Ref21Got)(t:zA)(o6:State):Option (State):=uQ yG (.yC m x t o6)
def z0u(m:zA)(from_:Ref21Got)(t:zA):Option (State):=uQ yG (.z0u m from_ t)
def vX(n i:Int)(m t:zA)(o6:State)(to_:Ref21Got)(s:State):Option (State):=uQ yG (.vX n i m t o6 to_ s)
def uC(m:zA)(s:State)(t:zA)(kept:Value):Option (List Int×State):=uQ yG (.uC m s t kept)
theorem uM(m:zA)(s:State)(t:zA):zK m s t=wT z0T jW wS m s t:=zW uF (.zK m s t)
theorem v1o(m:zA)(s:State)(t:zA):z0T m s t=z4x zK m s t:=zW uF (.z0T m s t)
theorem y9E(m:zA)(s:State)(l:List zA):jW m s l=z3D vP m s l:=zW uF (.jW m s l)
theorem z8o(l:List zA)(out:List Value)(i:Int)(m:zA)(s o7:State):vP l out i m s o7=z0s zK vP l out i m s o7:=zW uF (.vP l out i m s o7)
theorem y5q(m:zA)(s:State)(f:Int)(args:List Value):wS m s f args=z1C zU m s f args:=zW uF (.wS m s f args)
theorem z0G(m:zA)(s:State)(t:zA):zU m s t=jD zK zU yM z0S uT z0u m s t:=zW uF (.zU m s t)
theorem z3a(n i:Int)(m:zA)(s:State)(t:zA)(o6:State):yM n i m s t o6=jH zU yM n i m s t o6:=zW uF (.yM n i m s t o6)
theorem v1n(m:zA)(s:State)(t:zA):z0S m s t=z4w zK vI m s t:=zW uF (.z0S m s t)
theorem z5o(m:zA)(s:State)(t:zA)(o6:State)(x:Ref21Got)(root:zA):vI m s t o6 x root=z0f vI uC m s t o6 x root:=zW uF (.vI m s t o6 x root)
theorem y7u(m:zA)(x:Ref21Got)(t:zA):uT m x t=z2A yC m x t:=zW uF (.uT m x t)
theorem z4e(m:zA)(x:Ref21Got)(t:zA)(o6:State):yC m x t o6=jJ zK zU yC m x t o6:=zW uF (.yC m x t o6)
theorem v1m(m:zA)(from_:Ref21Got)(t:zA):z0u m from_ t=z4v zK vX m from_ t:=zW uF (.z0u m from_ t)
theorem z3M(n i:Int)(m t:zA)(o6:State)(to_:Ref21Got)(s:State):vX n i m t o6 to_ s=jZ zU vX n i m t o6 to_ s:=zW uF (.vX n i m t o6 to_ s)
theorem z9G(m:zA)(s:State)(t:zA)(kept:Value):uC m s t kept=z2z zK uC m s t kept:=zW uF (.uC m s t kept)
def z2d(vO:Int→Value→Value→Option (Bool))(a b:Value):Option (Bool):=
 if a.N=b.N then
  if(List.length a.L:Int)=(List.length b.L:Int)then
   vO 0 a b
  else
  some (false)
 else
 some (false)
def gD(wR:Value→Value→Option (Bool))(vO:Int→Value→Value→Option (Bool))(i:Int)(a b:Value):Option (Bool):=
 if i<(List.length a.L:Int)then
  idx a.L i>>=fun x=>
  idx b.L i>>=fun x1=>
  wR x x1>>=fun q1=>
  if q1=true then
   vO (IntKind.wrap .i64 (i+1)) a b
  else
  some (false)
 else
 some (true)
inductive z1c where
 |wR (a b:Value)
 |vO (i:Int) (a b:Value)
@[reducible] def z9m:z1c→Type
 |.wR _ _=>Bool
 |.vO _ _ _=>Bool
def z3k(g:Fam z9m):Fam z9m
 |.wR a b=>z2d (fun i a b=>g (z1c.vO i a b)) a b
 |.vO i a b=>gD (fun a b=>g (z1c.wR a b)) (fun i a b=>g (z1c.vO i a b)) i a b
theorem z9e:∀i,Good (fun g=>z3k g i)
 |.wR a b=>by unfold z3k z2d;exact(.ite (.ite (.call _) (.const _)) (.const _))
 |.vO i a b=>by unfold z3k gD;exact(.ite (.bind (.const _) fun _=>(.bind (.const _) fun _=>(.bind (.call _) fun _=>(.ite (.call _) (.const _))))) (.const _))
def wR(a b:Value):Option (Bool):=uQ z3k (.wR a b)
def vO(i:Int)(a b:Value):Option (Bool):=uQ z3k (.vO i a b)
theorem y1J(a b:Value):wR a b=z2d vO a b:=zW z9e (.wR a b)
theorem z4V(i:Int)(a b:Value):vO i a b=gD wR vO i a b:=zW z9e (.vO i a b)
def z0r(vA:Int→zA→State→Option (Bool))(i:Int)(m:zA)(s:State):Option (Bool):=
 if i<(List.length m.L:Int)then
  idx m.L i>>=fun x=>
  if x.K=32 then
   idx m.L i>>=fun x1=>
   idx x1.L 0>>=fun x2=>
   idx s.Globals i>>=fun x3=>
   uD m x2 x3>>=fun q1=>
   if q1=true then
    idx m.L i>>=fun x4=>
    if x4.K=32 then
     vA (IntKind.wrap .i64 (i+1)) m s
    else
    idx s.Globals i>>=fun x5=>
    wR x5 (Value.mk 0 [])>>=fun q2=>
    if q2=true then
     vA (IntKind.wrap .i64 (i+1)) m s
    else
    some (false)
   else
   some (false)
  else
  idx m.L i>>=fun x6=>
  if x6.K=32 then
   vA (IntKind.wrap .i64 (i+1)) m s
  else
  idx s.Globals i>>=fun x7=>
  wR x7 (Value.mk 0 [])>>=fun q3=>
  if q3=true then
   vA (IntKind.wrap .i64 (i+1)) m s
  else
  some (false)
 else
 some (true)
inductive z3H where
 |vA (i:Int) (m:zA) (s:State)
@[reducible] def z5l:z3H→Type
 |.vA _ _ _=>Bool
def z3G(g:Fam z5l):Fam z5l
 |.vA i m s=>z0r (fun i m s=>g (z3H.vA i m s)) i m s
theorem z8L:∀i,Good (fun g=>z3G g i)
 |.vA i m s=>by unfold z3G z0r;exact(.ite (.bind (.const _) fun _=>(.ite (.bind (.const _) fun _=>(.bind (.const _) fun _=>(.bind (.const _) fun _=>(.bind (.const _) fun _=>(.ite (.bind (.const _) fun _=>(.ite (.call _) (.bind (.const _) fun _=>(.bind (.const _) fun _=>(.ite (.call _) (.const _)))))) (.const _)))))) (.bind (.const _) fun _=>(.ite (.call _) (.bind (.const _) fun _=>(.bind (.const _) fun _=>(.ite (.call _) (.const _)))))))) (.const _))
def vA(i:Int)(m:zA)(s:State):Option (Bool):=uQ z3G (.vA i m s)
theorem z8n(i:Int)(m:zA)(s:State):vA i m s=z0r vA i m s:=zW z8L (.vA i m s)
def z8m(m:zA)(s:State):Option (Bool):=
 if(List.length s.Globals:Int)=(List.length m.L:Int)then
  if s.At<0 then
   some (false)
  else
  if s.At>(List.length s.Input:Int)then
   some (false)
  else
  if s.Fuel<0 then
   some (false)
  else
  if s.Fuel>65536 then
   some (false)
  else
  if s.Kind=0 then
   if s.N=0 then
    wR s.Ret (Value.mk 0 [])>>=fun q1=>
    if q1=true then
     vA 0 m s
    else
    some (false)
   else
   some (false)
  else
  some (false)
 else
 some (false)
def y0x(m:zA)(types:List zA)(s:State)(e:zA):Option (Value×State×Int):=
 z5L m>>=fun q1=>
 if q1=true then
  z8m m s>>=fun q2=>
  if q2=true then
   y0w m types s.Locals>>=fun q3=>
   if q3=true then
    uB m types e>>=fun q4=>
    if q4.E=0 then
     wA q4.Form e>>=fun q5=>
     if q5=true then
      zK m s e>>=fun q6=>
      some (q6.V,q6.S,0)
     else
     some ((Value.mk 0 []),(State.mk [] [] [] 0 [] 0 0 0 (Value.mk 0 [])),10)
    else
    some ((Value.mk 0 []),(State.mk [] [] [] 0 [] 0 0 0 (Value.mk 0 [])),10)
   else
   some ((Value.mk 0 []),(State.mk [] [] [] 0 [] 0 0 0 (Value.mk 0 [])),13)
  else
  some ((Value.mk 0 []),(State.mk [] [] [] 0 [] 0 0 0 (Value.mk 0 [])),13)
 else
 some ((Value.mk 0 []),(State.mk [] [] [] 0 [] 0 0 0 (Value.mk 0 [])),12)
def jC(yF:(List Int)→(List Int)→Int→Option (Bool))(a b:List Int)(i:Int):Option (Bool):=
 if i<(List.length a:Int)then
  idx a i>>=fun x=>
  idx b i>>=fun x1=>
  if x=x1 then
   yF a b (IntKind.wrap .i64 (i+1))
  else
  some (false)
 else
 some (true)
inductive z1q where
 |yF (a b:List Int) (i:Int)
@[reducible] def z3m:z1q→Type
 |.yF _ _ _=>Bool
def z1p(g:Fam z3m):Fam z3m
 |.yF a b i=>jC (fun a b i=>g (z1q.yF a b i)) a b i
theorem z5r:∀i,Good (fun g=>z1p g i)
 |.yF a b i=>by unfold z1p jC;exact(.ite (.bind (.const _) fun _=>(.bind (.const _) fun _=>(.ite (.call _) (.const _)))) (.const _))
def yF(a b:List Int)(i:Int):Option (Bool):=uQ z1p (.yF a b i)
theorem z5h(a b:List Int)(i:Int):yF a b i=jC yF a b i:=zW z5r (.yF a b i)
def z2y(a b:List Int):Option (Bool):=
 if(List.length a:Int)=(List.length b:Int)then
  yF a b 0
 else
 some (false)
def jS(yR:(List Value)→(List Value)→Int→Option (Bool))(a b:List Value)(i:Int):Option (Bool):=
 if i<(List.length a:Int)then
  idx a i>>=fun x=>
  idx b i>>=fun x1=>
  wR x x1>>=fun q1=>
  if q1=true then
   yR a b (IntKind.wrap .i64 (i+1))
  else
  some (false)
 else
 some (true)
inductive z1Y where
 |yR (a b:List Value) (i:Int)
@[reducible] def z4c:z1Y→Type
 |.yR _ _ _=>Bool
def z1R(g:Fam z4c):Fam z4c
 |.yR a b i=>jS (fun a b i=>g (z1Y.yR a b i)) a b i
theorem z6J:∀i,Good (fun g=>z1R g i)
 |.yR a b i=>by unfold z1R jS;exact(.ite (.bind (.const _) fun _=>(.bind (.const _) fun _=>(.bind (.const _) fun _=>(.ite (.call _) (.const _))))) (.const _))
def yR(a b:List Value)(i:Int):Option (Bool):=uQ z1R (.yR a b i)
theorem z5S(a b:List Value)(i:Int):yR a b i=jS yR a b i:=zW z6J (.yR a b i)
def z3E(a b:List Value):Option (Bool):=
 if(List.length a:Int)=(List.length b:Int)then
  yR a b 0
 else
 some (false)
def z5R(a b:State):Option (Bool):=
 z3E a.Globals b.Globals>>=fun q1=>
 if q1=true then
  z3E a.Locals b.Locals>>=fun q2=>
  if q2=true then
   z2y a.Input b.Input>>=fun q3=>
   if q3=true then
    if a.At=b.At then
     z2y a.Trace b.Trace>>=fun q4=>
     if q4=true then
      if a.Fuel=b.Fuel then
       if a.Kind=b.Kind then
        if a.N=b.N then
         wR a.Ret b.Ret>>=fun q5=>
         some (q5)
        else
        some (false)
       else
       some (false)
      else
      some (false)
     else
     some (false)
    else
    some (false)
   else
   some (false)
  else
  some (false)
 else
 some (false)
def z2V(c:Law24Eval):Option (Bool):=
 z5y c>>=fun q1=>
 if q1=true then
  z1u>>=fun q2=>
  some (q2)
 else
 z3p c.A>>=fun q3=>
 if q3=true then
  y0x c.M c.Types c.S c.A>>=fun q5=>
  if q5.2.2=0 then
   uH c.A>>=fun q7=>
   if q5.2.1.Kind=3 then
    if c.S.Fuel<q7 then
     if q5.2.1.Fuel=0 then
      z2o ({q5.2.1 with Kind:=0}) 0>>=fun q8=>
      z2o c.S 0>>=fun q9=>
      z5R q8 q9>>=fun q10=>
      if q10=true then
       z1u>>=fun q11=>
       some (q11)
      else
      some (false)
     else
     some (false)
    else
    some (false)
   else
   if(IntKind.wrap .i64 (c.S.Fuel-q5.2.1.Fuel))≤q7 then
    z2o q5.2.1 0>>=fun q12=>
    z2o c.S 0>>=fun q13=>
    z5R q12 q13>>=fun q14=>
    if q14=true then
     z1u>>=fun q15=>
     some (q15)
    else
    some (false)
   else
   some (false)
  else
  z1u>>=fun q6=>
  some (q6)
 else
 z1u>>=fun q4=>
 some (q4)
end
end Go.Proofs.YtcpblelppecabaaGreat.M

