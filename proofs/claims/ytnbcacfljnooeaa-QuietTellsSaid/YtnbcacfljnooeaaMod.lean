import Derived.Test.YtnbcacfljnooeaaTy
namespace Go.Proofs.Ytnbcacfljnooeaa.M
open Go Nt
set_option linter.unusedVariables false
noncomputable section
def yF (quiet_Quiet_L3 : Bool → (List zA) → Int → Int → Option (Bool)) (quiet : Bool) (v7 : List zA) (v8 : Int) (v9 : Int) : Option (Bool) :=
  if v9 < v8 then
    idx v7 v9 >>= fun x =>
    if x.K = 5 then
      quiet_Quiet_L3 quiet v7 v8 (IntKind.wrap .i64 (v9 + 1))
    else
    if x.K = 6 then
      quiet_Quiet_L3 quiet v7 v8 (IntKind.wrap .i64 (v9 + 1))
    else
    if x.K = 7 then
      quiet_Quiet_L3 quiet v7 v8 (IntKind.wrap .i64 (v9 + 1))
    else
    if x.K = 8 then
      quiet_Quiet_L3 quiet v7 v8 (IntKind.wrap .i64 (v9 + 1))
    else
    if x.K = 9 then
      quiet_Quiet_L3 quiet v7 v8 (IntKind.wrap .i64 (v9 + 1))
    else
    if x.K = 11 then
      quiet_Quiet_L3 quiet v7 v8 (IntKind.wrap .i64 (v9 + 1))
    else
    if x.K = 13 then
      quiet_Quiet_L3 quiet v7 v8 (IntKind.wrap .i64 (v9 + 1))
    else
    if x.K = 14 then
      quiet_Quiet_L3 quiet v7 v8 (IntKind.wrap .i64 (v9 + 1))
    else
    if x.K = 15 then
      quiet_Quiet_L3 quiet v7 v8 (IntKind.wrap .i64 (v9 + 1))
    else
    if x.K = 10 then
      if x.N = 12 then
        if (List.length x.L : Int) < 2 then
          some (false)
        else
        idx x.L 1 >>= fun x33 =>
        if x33.K = 5 then
          idx x.L 1 >>= fun x34 =>
          if x34.N = 0 then
            some (false)
          else
          quiet_Quiet_L3 quiet v7 v8 (IntKind.wrap .i64 (v9 + 1))
        else
        some (false)
      else
      if x.N = 13 then
        if (List.length x.L : Int) < 2 then
          some (false)
        else
        idx x.L 1 >>= fun x35 =>
        if x35.K = 5 then
          idx x.L 1 >>= fun x36 =>
          if x36.N = 0 then
            some (false)
          else
          quiet_Quiet_L3 quiet v7 v8 (IntKind.wrap .i64 (v9 + 1))
        else
        some (false)
      else
      quiet_Quiet_L3 quiet v7 v8 (IntKind.wrap .i64 (v9 + 1))
    else
    some (false)
  else
  some (quiet)
inductive I_quiet_Quiet_L3 where
  | quiet_Quiet_L3 (quiet : Bool) (v7 : List zA) (v8 : Int) (v9 : Int)
@[reducible] def wE : I_quiet_Quiet_L3 → Type
  | .quiet_Quiet_L3 _ _ _ _ => Bool
def uH (g : Fam wE) : Fam wE
  | .quiet_Quiet_L3 quiet v7 v8 v9 => yF (fun quiet v7 v8 v9 => g (I_quiet_Quiet_L3.quiet_Quiet_L3 quiet v7 v8 v9)) quiet v7 v8 v9
theorem gI : ∀ i, Good (fun g => uH g i)
  | .quiet_Quiet_L3 quiet v7 v8 v9 => show Good (fun g : Fam wE => yF (fun quiet v7 v8 v9 => g (I_quiet_Quiet_L3.quiet_Quiet_L3 quiet v7 v8 v9)) quiet v7 v8 v9) by unfold yF; exact (.ite (.bind (.const _) fun _ => (.ite (.call _) (.ite (.call _) (.ite (.call _) (.ite (.call _) (.ite (.call _) (.ite (.call _) (.ite (.call _) (.ite (.call _) (.ite (.call _) (.ite (.ite (.ite (.const _) (.bind (.const _) fun _ => (.ite (.bind (.const _) fun _ => (.ite (.const _) (.call _))) (.const _)))) (.ite (.ite (.const _) (.bind (.const _) fun _ => (.ite (.bind (.const _) fun _ => (.ite (.const _) (.call _))) (.const _)))) (.call _))) (.const _)))))))))))) (.const _))
def quiet_Quiet_L3 (quiet : Bool) (v7 : List zA) (v8 : Int) (v9 : Int) : Option (Bool) := z1p uH (.quiet_Quiet_L3 quiet v7 v8 v9)
theorem jQ (quiet : Bool) (v7 : List zA) (v8 : Int) (v9 : Int) : quiet_Quiet_L3 quiet v7 v8 v9 = yF quiet_Quiet_L3 quiet v7 v8 v9 := uI gI (.quiet_Quiet_L3 quiet v7 v8 v9)
def yN (quiet_all_L3 : (List zA) → Int → Option (List zA)) (out : List zA) (i : Int) : Option (List zA) :=
  if i < (List.length out : Int) then
    idx out i >>= fun x =>
    if z0s 72 (List.length out + List.length x.L) then
    quiet_all_L3 (out ++ x.L) (IntKind.wrap .i64 (i + 1))
    else none
  else
  some (out)
inductive I_quiet_all_L3 where
  | quiet_all_L3 (out : List zA) (i : Int)
@[reducible] def wZ : I_quiet_all_L3 → Type
  | .quiet_all_L3 _ _ => List zA
def jL (g : Fam wZ) : Fam wZ
  | .quiet_all_L3 out i => yN (fun out i => g (I_quiet_all_L3.quiet_all_L3 out i)) out i
theorem z0t : ∀ i, Good (fun g => jL g i)
  | .quiet_all_L3 out i => show Good (fun g : Fam wZ => yN (fun out i => g (I_quiet_all_L3.quiet_all_L3 out i)) out i) by unfold yN; exact (.ite (.bind (.const _) fun _ => (.ite (.call _) (.const _))) (.const _))
def quiet_all_L3 (out : List zA) (i : Int) : Option (List zA) := z1p jL (.quiet_all_L3 out i)
theorem uY (out : List zA) (i : Int) : quiet_all_L3 out i = yN quiet_all_L3 out i := uI z0t (.quiet_all_L3 out i)
def jR (t : zA) : Option (List zA) :=
  quiet_all_L3 [t] 0
def wW (t : zA) : Option (Bool) :=
  jR t >>= fun q1 =>
  quiet_Quiet_L3 true q1 (List.length q1 : Int) 0
def yM : List zA → List Int → Option (List Int)
  | [], out => some out
  | x :: r, out => if x.K = 9 then (if z0s 8 (List.length out + 1) then yM r (out ++ [x.N]) else none) else yM r out
def uX (t : zA) : Option (List Int) :=
  jR t >>= fun q => yM q [] >>= fun l => if List.length q ≤ 1000000000 then some ((l.mergeSort fun x y => decide (x ≤ y)).foldl (fun acc x => if acc.getLast? = some x then acc else acc ++ [x]) []) else none
def uS  : Option (Bool) :=
  wW (zA.mk 5 0 ([] : List UInt8) [] 0 0) >>= fun q1 =>
  if q1 = true then
    uX (zA.mk 9 3 ([] : List UInt8) [] 0 0) >>= fun q2 =>
    some (((List.length q2 : Int) == 1))
  else
  some (false)
def vO (zH : Int → Int → Int → zA → Option (Int)) (t : zA) (left : Int) (levels : Int) : Option (Int) :=
  if levels ≤ 0 then
    some ((-1))
  else
  zH (IntKind.wrap .i64 (left - 1)) levels 0 t
def yP (zV : zA → Int → Int → Option (Int)) (zH : Int → Int → Int → zA → Option (Int)) (left : Int) (levels : Int) (i : Int) (t : zA) : Option (Int) :=
  if i < (List.length t.L : Int) then
    if left ≥ 0 then
      idx t.L i >>= fun x =>
      zV x left (IntKind.wrap .i64 (levels - 1)) >>= fun q1 =>
      zH q1 levels (IntKind.wrap .i64 (i + 1)) t
    else
    some (left)
  else
  some (left)
inductive yC where
  | zV (t : zA) (left : Int) (levels : Int)
  | zH (left : Int) (levels : Int) (i : Int) (t : zA)
@[reducible] def uA : yC → Type
  | .zV _ _ _ => Int
  | .zH _ _ _ _ => Int
def jB (g : Fam uA) : Fam uA
  | .zV t left levels => vO (fun left levels i t => g (yC.zH left levels i t)) t left levels
  | .zH left levels i t => yP (fun t left levels => g (yC.zV t left levels)) (fun left levels i t => g (yC.zH left levels i t)) left levels i t
theorem gO : ∀ i, Good (fun g => jB g i)
  | .zV t left levels => show Good (fun g : Fam uA => vO (fun left levels i t => g (yC.zH left levels i t)) t left levels) by unfold vO; exact (.ite (.const _) (.call _))
  | .zH left levels i t => show Good (fun g : Fam uA => yP (fun t left levels => g (yC.zV t left levels)) (fun left levels i t => g (yC.zH left levels i t)) left levels i t) by unfold yP; exact (.ite (.ite (.bind (.const _) fun _ => (.bind (.call _) fun _ => (.call _))) (.const _)) (.const _))
def zV (t : zA) (left : Int) (levels : Int) : Option (Int) := z1p jB (.zV t left levels)
def zH (left : Int) (levels : Int) (i : Int) (t : zA) : Option (Int) := z1p jB (.zH left levels i t)
theorem z4j (t : zA) (left : Int) (levels : Int) : zV t left levels = vO zH t left levels := uI gO (.zV t left levels)
theorem gJ (left : Int) (levels : Int) (i : Int) (t : zA) : zH left levels i t = yP zV zH left levels i t := uI gO (.zH left levels i t)
def vP (zI : Int → zA → Option (Bool)) (t : zA) : Option (Bool) :=
  if (List.length t.S : Int) > 40 then
    some (true)
  else
  zI 0 t
def yQ (zW : zA → Option (Bool)) (zI : Int → zA → Option (Bool)) (i : Int) (t : zA) : Option (Bool) :=
  if i < (List.length t.L : Int) then
    idx t.L i >>= fun x =>
    zW x >>= fun q1 =>
    if q1 = true then
      some (true)
    else
    zI (IntKind.wrap .i64 (i + 1)) t
  else
  some (false)
inductive yD where
  | zW (t : zA)
  | zI (i : Int) (t : zA)
@[reducible] def uB : yD → Type
  | .zW _ => Bool
  | .zI _ _ => Bool
def jC (g : Fam uB) : Fam uB
  | .zW t => vP (fun i t => g (yD.zI i t)) t
  | .zI i t => yQ (fun t => g (yD.zW t)) (fun i t => g (yD.zI i t)) i t
theorem gP : ∀ i, Good (fun g => jC g i)
  | .zW t => show Good (fun g : Fam uB => vP (fun i t => g (yD.zI i t)) t) by unfold vP; exact (.ite (.const _) (.call _))
  | .zI i t => show Good (fun g : Fam uB => yQ (fun t => g (yD.zW t)) (fun i t => g (yD.zI i t)) i t) by unfold yQ; exact (.ite (.bind (.const _) fun _ => (.bind (.call _) fun _ => (.ite (.const _) (.call _)))) (.const _))
def zW (t : zA) : Option (Bool) := z1p jC (.zW t)
def zI (i : Int) (t : zA) : Option (Bool) := z1p jC (.zI i t)
theorem z4k (t : zA) : zW t = vP zI t := uI gP (.zW t)
theorem gK (i : Int) (t : zA) : zI i t = yQ zW zI i t := uI gP (.zI i t)
def jS (t : zA) : Option (Bool) :=
  zV t 400 70 >>= fun q1 =>
  if q1 < 0 then
    some (true)
  else
  zW t >>= fun q2 =>
  some (q2)
def yW (zR : (List Int) → (List Int) → Int → Option (Bool)) (a : List Int) (b : List Int) (i : Int) : Option (Bool) :=
  if i < (List.length a : Int) then
    idx a i >>= fun x =>
    idx b i >>= fun x1 =>
    if x = x1 then
      zR a b (IntKind.wrap .i64 (i + 1))
    else
    some (false)
  else
  some (true)
inductive vU where
  | zR (a : List Int) (b : List Int) (i : Int)
@[reducible] def uN : vU → Type
  | .zR _ _ _ => Bool
def jY (g : Fam uN) : Fam uN
  | .zR a b i => yW (fun a b i => g (vU.zR a b i)) a b i
theorem z0H : ∀ i, Good (fun g => jY g i)
  | .zR a b i => show Good (fun g : Fam uN => yW (fun a b i => g (vU.zR a b i)) a b i) by unfold yW; exact (.ite (.bind (.const _) fun _ => (.bind (.const _) fun _ => (.ite (.call _) (.const _)))) (.const _))
def zR (a : List Int) (b : List Int) (i : Int) : Option (Bool) := z1p jY (.zR a b i)
theorem z0y (a : List Int) (b : List Int) (i : Int) : zR a b i = yW zR a b i := uI z0H (.zR a b i)
def z1U (a : List Int) (b : List Int) : Option (Bool) :=
  if (List.length a : Int) = (List.length b : Int) then
    zR a b 0
  else
  some (false)
def uZ (a : List Int) (b : List Int) : Option (Bool) :=
  z1U a b >>= fun q1 =>
  some (q1)
def vF (zB : Int → zA → Option (Bool)) (t : zA) : Option (Bool) :=
  if t.K = 5 then
    zB 0 t
  else
  if t.K = 6 then
    zB 0 t
  else
  if t.K = 7 then
    zB 0 t
  else
  if t.K = 8 then
    zB 0 t
  else
  if t.K = 9 then
    zB 0 t
  else
  if t.K = 11 then
    zB 0 t
  else
  if t.K = 13 then
    zB 0 t
  else
  if t.K = 14 then
    zB 0 t
  else
  if t.K = 15 then
    zB 0 t
  else
  if t.K = 10 then
    if t.N = 12 then
      if (List.length t.L : Int) < 2 then
        some (false)
      else
      idx t.L 1 >>= fun x =>
      if x.K = 5 then
        idx t.L 1 >>= fun x1 =>
        if x1.N = 0 then
          some (false)
        else
        zB 0 t
      else
      some (false)
    else
    if t.N = 13 then
      if (List.length t.L : Int) < 2 then
        some (false)
      else
      idx t.L 1 >>= fun x2 =>
      if x2.K = 5 then
        idx t.L 1 >>= fun x3 =>
        if x3.N = 0 then
          some (false)
        else
        zB 0 t
      else
      some (false)
    else
    zB 0 t
  else
  some (false)
def yR (zY : zA → Option (Bool)) (zB : Int → zA → Option (Bool)) (i : Int) (t : zA) : Option (Bool) :=
  if i < (List.length t.L : Int) then
    idx t.L i >>= fun x =>
    zY x >>= fun q1 =>
    if q1 = true then
      zB (IntKind.wrap .i64 (i + 1)) t
    else
    some (false)
  else
  some (true)
inductive yE where
  | zY (t : zA)
  | zB (i : Int) (t : zA)
@[reducible] def uC : yE → Type
  | .zY _ => Bool
  | .zB _ _ => Bool
def jD (g : Fam uC) : Fam uC
  | .zY t => vF (fun i t => g (yE.zB i t)) t
  | .zB i t => yR (fun t => g (yE.zY t)) (fun i t => g (yE.zB i t)) i t
theorem gQ : ∀ i, Good (fun g => jD g i)
  | .zY t => show Good (fun g : Fam uC => vF (fun i t => g (yE.zB i t)) t) by unfold vF; exact (.ite (.call _) (.ite (.call _) (.ite (.call _) (.ite (.call _) (.ite (.call _) (.ite (.call _) (.ite (.call _) (.ite (.call _) (.ite (.call _) (.ite (.ite (.ite (.const _) (.bind (.const _) fun _ => (.ite (.bind (.const _) fun _ => (.ite (.const _) (.call _))) (.const _)))) (.ite (.ite (.const _) (.bind (.const _) fun _ => (.ite (.bind (.const _) fun _ => (.ite (.const _) (.call _))) (.const _)))) (.call _))) (.const _)))))))))))
  | .zB i t => show Good (fun g : Fam uC => yR (fun t => g (yE.zY t)) (fun i t => g (yE.zB i t)) i t) by unfold yR; exact (.ite (.bind (.const _) fun _ => (.bind (.call _) fun _ => (.ite (.call _) (.const _)))) (.const _))
def zY (t : zA) : Option (Bool) := z1p jD (.zY t)
def zB (i : Int) (t : zA) : Option (Bool) := z1p jD (.zB i t)
theorem z4m (t : zA) : zY t = vF zB t := uI gQ (.zY t)
theorem gL (i : Int) (t : zA) : zB i t = yR zY zB i t := uI gQ (.zB i t)
def vE (zX : (List Int) → Int → Int → Option (Bool)) (l : List Int) (n : Int) (i : Int) : Option (Bool) :=
  if i < (List.length l : Int) then
    idx l i >>= fun x =>
    if x = n then
      some (true)
    else
    zX l n (IntKind.wrap .i64 (i + 1))
  else
  some (false)
inductive wH where
  | zX (l : List Int) (n : Int) (i : Int)
@[reducible] def jE : wH → Type
  | .zX _ _ _ => Bool
def gR (g : Fam jE) : Fam jE
  | .zX l n i => vE (fun l n i => g (wH.zX l n i)) l n i
theorem z1y : ∀ i, Good (fun g => gR g i)
  | .zX l n i => show Good (fun g : Fam jE => vE (fun l n i => g (wH.zX l n i)) l n i) by unfold vE; exact (.ite (.bind (.const _) fun _ => (.ite (.const _) (.call _))) (.const _))
def zX (l : List Int) (n : Int) (i : Int) : Option (Bool) := z1p gR (.zX l n i)
theorem z0Z (l : List Int) (n : Int) (i : Int) : zX l n i = vE zX l n i := uI z1y (.zX l n i)
def z4l (l : List Int) (n : Int) : Option (Bool) :=
  zX l n 0
def vA (zC : (List Int) → Int → zA → Option (List Int)) (t : zA) : Option (List Int) :=
  if t.K = 9 then
    if z0s 8 (List.length ([] : List Int) + List.length [t.N]) then
    zC (([] : List Int) ++ [t.N]) 0 t
    else none
  else
  zC ([] : List Int) 0 t
def yH (zM : zA → Option (List Int)) (zC : (List Int) → Int → zA → Option (List Int)) (out : List Int) (i : Int) (t : zA) : Option (List Int) :=
  if i < (List.length t.L : Int) then
    idx t.L i >>= fun x =>
    zM x >>= fun q1 =>
    if z0s 8 (List.length out + List.length q1) then
    zC (out ++ q1) (IntKind.wrap .i64 (i + 1)) t
    else none
  else
  some (out)
inductive zT where
  | zM (t : zA)
  | zC (out : List Int) (i : Int) (t : zA)
@[reducible] def wB : zT → Type
  | .zM _ => List Int
  | .zC _ _ _ => List Int
def wY (g : Fam wB) : Fam wB
  | .zM t => vA (fun out i t => g (zT.zC out i t)) t
  | .zC out i t => yH (fun t => g (zT.zM t)) (fun out i t => g (zT.zC out i t)) out i t
theorem jK : ∀ i, Good (fun g => wY g i)
  | .zM t => show Good (fun g : Fam wB => vA (fun out i t => g (zT.zC out i t)) t) by unfold vA; exact (.ite (.ite (.call _) (.const _)) (.call _))
  | .zC out i t => show Good (fun g : Fam wB => yH (fun t => g (zT.zM t)) (fun out i t => g (zT.zC out i t)) out i t) by unfold yH; exact (.ite (.bind (.const _) fun _ => (.bind (.call _) fun _ => (.ite (.call _) (.const _)))) (.const _))
def zM (t : zA) : Option (List Int) := z1p wY (.zM t)
def zC (out : List Int) (i : Int) (t : zA) : Option (List Int) := z1p wY (.zC out i t)
theorem z2H (t : zA) : zM t = vA zC t := uI jK (.zM t)
theorem jI (out : List Int) (i : Int) (t : zA) : zC out i t = yH zM zC out i t := uI jK (.zC out i t)
def zQ (out : List Int) (x : Int) : Nat → Nat
  | 0 => 0
  | n + 1 => if out.getD n 0 > x then zQ out x n else n + 1
def yX : List Int → List Int → Option (List Int)
  | [], out => some out
  | x :: r, out => z4l out x >>= fun b => if b = true then yX r out else yX r (out.take (zQ out x out.length) ++ [x] ++ out.drop (zQ out x out.length))
def z0m (t : zA) : Option (List Int) :=
  zM t >>= fun l => if List.length l ≤ 1000000000 then yX l [] else none
def wP (t : zA) : Option (Bool) :=
  jS t >>= fun q1 =>
  if q1 = true then
    uS >>= fun q2 =>
    some (q2)
  else
  wW t >>= fun q3 =>
  zY t >>= fun q4 =>
  if q3 = q4 then
    uX t >>= fun q5 =>
    z0m t >>= fun q6 =>
    uZ q5 q6 >>= fun q7 =>
    if q7 = true then
      uS >>= fun q8 =>
      some (q8)
    else
    some (false)
  else
  some (false)
end
end Go.Proofs.Ytnbcacfljnooeaa.M

