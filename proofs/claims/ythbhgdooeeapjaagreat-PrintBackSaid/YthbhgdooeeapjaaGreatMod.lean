import Derived.Test.YthbhgdooeeapjaaGreatTy
namespace Go.Proofs.YthbhgdooeeapjaaGreat.M
open Go Nt
set_option linter.unusedVariables false
noncomputable section
def z2q (wI : Int → Int → Int → (List Int) → Option (Str)) (n i u : Int) (b : List Int) : Option (Str) :=
  if 10 ≠ (0 : Int) then
  if 20 = List.length b ∧ (0 : Int) ≤ (IntKind.wrap .i64 (i - 1)) ∧ (IntKind.wrap .i64 (i - 1)) < (List.length b : Int) then
  if Int.toNat (IntKind.wrap .i64 (i - 1)) < List.length b then
  if 10 ≠ (0 : Int) then
  if IntKind.wrap .u64 (Int.tdiv u 10) = 0 then
    if n < 0 then
      if 20 = List.length (b.set (IntKind.wrap .i64 (i - 1)).toNat (IntKind.wrap .u8 (IntKind.wrap .u64 (48 + (Int.tmod u 10))))) ∧ (0 : Int) ≤ (IntKind.wrap .i64 ((IntKind.wrap .i64 (i - 1)) - 1)) ∧ (IntKind.wrap .i64 ((IntKind.wrap .i64 (i - 1)) - 1)) < (List.length (b.set (IntKind.wrap .i64 (i - 1)).toNat (IntKind.wrap .u8 (IntKind.wrap .u64 (48 + (Int.tmod u 10))))) : Int) then
      if Int.toNat (IntKind.wrap .i64 ((IntKind.wrap .i64 (i - 1)) - 1)) < List.length (b.set (IntKind.wrap .i64 (i - 1)).toNat (IntKind.wrap .u8 (IntKind.wrap .u64 (48 + (Int.tmod u 10))))) then
      if 20 = List.length ((b.set (IntKind.wrap .i64 (i - 1)).toNat (IntKind.wrap .u8 (IntKind.wrap .u64 (48 + (Int.tmod u 10))))).set (IntKind.wrap .i64 ((IntKind.wrap .i64 (i - 1)) - 1)).toNat 45) then
      if (0 : Int) ≤ (IntKind.wrap .i64 ((IntKind.wrap .i64 (i - 1)) - 1)) then
      if Int.toNat (IntKind.wrap .i64 ((IntKind.wrap .i64 (i - 1)) - 1)) ≤ List.length ((b.set (IntKind.wrap .i64 (i - 1)).toNat (IntKind.wrap .u8 (IntKind.wrap .u64 (48 + (Int.tmod u 10))))).set (IntKind.wrap .i64 ((IntKind.wrap .i64 (i - 1)) - 1)).toNat 45) then
      z7V (List.drop (Int.toNat (IntKind.wrap .i64 ((IntKind.wrap .i64 (i - 1)) - 1))) ((b.set (IntKind.wrap .i64 (i - 1)).toNat (IntKind.wrap .u8 (IntKind.wrap .u64 (48 + (Int.tmod u 10))))).set (IntKind.wrap .i64 ((IntKind.wrap .i64 (i - 1)) - 1)).toNat 45)) >>= fun s =>
      some (s)
      else none
      else none
      else none
      else none
      else none
    else
    if 20 = List.length (b.set (IntKind.wrap .i64 (i - 1)).toNat (IntKind.wrap .u8 (IntKind.wrap .u64 (48 + (Int.tmod u 10))))) then
    if (0 : Int) ≤ (IntKind.wrap .i64 (i - 1)) then
    if Int.toNat (IntKind.wrap .i64 (i - 1)) ≤ List.length (b.set (IntKind.wrap .i64 (i - 1)).toNat (IntKind.wrap .u8 (IntKind.wrap .u64 (48 + (Int.tmod u 10))))) then
    z7V (List.drop (Int.toNat (IntKind.wrap .i64 (i - 1))) (b.set (IntKind.wrap .i64 (i - 1)).toNat (IntKind.wrap .u8 (IntKind.wrap .u64 (48 + (Int.tmod u 10)))))) >>= fun s1 =>
    some (s1)
    else none
    else none
    else none
  else
  wI n (IntKind.wrap .i64 (i - 1)) (IntKind.wrap .u64 (Int.tdiv u 10)) (b.set (IntKind.wrap .i64 (i - 1)).toNat (IntKind.wrap .u8 (IntKind.wrap .u64 (48 + (Int.tmod u 10)))))
  else none
  else none
  else none
  else none
inductive z4j where
  | wI (n i u : Int) (b : List Int)
@[reducible] def z5M : z4j → Type
  | .wI _ _ _ _ => Str
def z4e (g : Fam z5M) : Fam z5M
  | .wI n i u b => z2q (fun n i u b => g (z4j.wI n i u b)) n i u b
theorem z7I : ∀ i, Good (fun g => z4e g i)
  | .wI n i u b => by unfold z4e z2q; exact (.ite (.ite (.ite (.ite (.ite (.ite (.ite (.ite (.ite (.ite (.ite (.bind (.const _) fun _ => (.const _)) (.const _)) (.const _)) (.const _)) (.const _)) (.const _)) (.ite (.ite (.ite (.bind (.const _) fun _ => (.const _)) (.const _)) (.const _)) (.const _))) (.call _)) (.const _)) (.const _)) (.const _)) (.const _))
def wI (n i u : Int) (b : List Int) : Option (Str) := z2Z z4e (.wI n i u b)
theorem y3I (n i u : Int) (b : List Int) : wI n i u b = z2q wI n i u b := uM z7I (.wI n i u b)
def z5H (n : Int) : Option (Str) :=
  if n < 0 then
    wI n 20 (IntKind.wrap .u64 (0 - (IntKind.wrap .u64 n))) [0, 0, 0, 0, 0, 0, 0, 0, 0, 0, 0, 0, 0, 0, 0, 0, 0, 0, 0, 0]
  else
  wI n 20 (IntKind.wrap .u64 n) [0, 0, 0, 0, 0, 0, 0, 0, 0, 0, 0, 0, 0, 0, 0, 0, 0, 0, 0, 0]
def yL (t : zD) (i : Int) : Option (zD) :=
  if i < (List.length t.L : Int) then
    idx t.L i >>= fun x =>
    some (x)
  else
  some ((zD.mk 0 0 [] [] 0 0))
def zK (words out : List Str) : Option (List Str) :=
  if z4F 16 (List.length out + List.length words) then
  some (out ++ words)
  else none
def uS (print_writer_kind : zD → (List Str) → Option (List Str)) (t : zD) (out : List Str) : Option (List Str) :=
  if t.K = 1 then
    zK [[105, 110, 116]] out >>= fun q1 =>
    some (q1)
  else
  if t.K = 2 then
    zK [[98, 111, 111, 108]] out >>= fun q2 =>
    some (q2)
  else
  if t.K = 3 then
    z5H t.N >>= fun q3 =>
    zK [[91], q3, [93]] out >>= fun q4 =>
    yL t 0 >>= fun q5 =>
    print_writer_kind q5 q4 >>= fun q6 =>
    some (q6)
  else
  if t.K = 4 then
    zK [t.S] out >>= fun q7 =>
    some (q7)
  else
  some (out)
inductive I_print_writer_kind where
  | print_writer_kind (t : zD) (out : List Str)
@[reducible] def z3K : I_print_writer_kind → Type
  | .print_writer_kind _ _ => List Str
def z2y (g : Fam z3K) : Fam z3K
  | .print_writer_kind t out => uS (fun t out => g (I_print_writer_kind.print_writer_kind t out)) t out
theorem z5I : ∀ i, Good (fun g => z2y g i)
  | .print_writer_kind t out => by unfold z2y uS; exact (.ite (.bind (.const _) fun _ => (.const _)) (.ite (.bind (.const _) fun _ => (.const _)) (.ite (.bind (.const _) fun _ => (.bind (.const _) fun _ => (.bind (.const _) fun _ => (.bind (.call _) fun _ => (.const _))))) (.ite (.bind (.const _) fun _ => (.const _)) (.const _)))))
def print_writer_kind (t : zD) (out : List Str) : Option (List Str) := z2Z z2y (.print_writer_kind t out)
theorem z1q (t : zD) (out : List Str) : print_writer_kind t out = uS print_writer_kind t out := uM z5I (.print_writer_kind t out)
def strings_Join (elems : List Str) (sep : Str) : Option (Str) :=
  if List.length elems ≤ 140737488355328 ∧ List.length (y4E elems sep) ≤ 140737488355328 then some (y4E elems sep) else none
def z1z (out : List Str) : Option (Str) :=
  strings_Join out [32] >>= fun q1 =>
  some (q1)
def z8K (t : zD) : Option (Str) :=
  print_writer_kind t [] >>= fun q1 =>
  z1z q1 >>= fun q2 =>
  some (q2)
def z3V  : Option (Bool) :=
  z8K (zD.mk 1 0 [] [] 0 0) >>= fun q1 =>
  some ((q1 == [105, 110, 116]))
def z6Y (op : Int) : Option (Str × Int) :=
  if op = 1 then
    some ([124, 124], 1)
  else
  if op = 2 then
    some ([38, 38], 2)
  else
  if op = 3 then
    some ([61, 61], 3)
  else
  if op = 4 then
    some ([33, 61], 3)
  else
  if op = 5 then
    some ([60], 3)
  else
  if op = 6 then
    some ([60, 61], 3)
  else
  if op = 7 then
    some ([62], 3)
  else
  if op = 8 then
    some ([62, 61], 3)
  else
  if op = 9 then
    some ([43], 4)
  else
  if op = 10 then
    some ([45], 4)
  else
  if op = 11 then
    some ([42], 5)
  else
  if op = 12 then
    some ([47], 5)
  else
  some ([37], 5)
def z2G (t : zD) : Option (Int) :=
  if t.K = 10 then
    z6Y t.N >>= fun q1 =>
    some (q1.2)
  else
  if t.K = 11 then
    some (6)
  else
  some (7)
def vB (print_writer_held : zD → Int → (List Str) → Option (List Str)) (print_writer_closed : zD → (List Str) → Option (List Str)) (t : zD) (out : List Str) : Option (List Str) :=
  if t.K = 5 then
    z5H t.N >>= fun q1 =>
    zK [q1] out >>= fun q2 =>
    some (q2)
  else
  if t.K = 6 then
    if t.N = 1 then
      zK [[116, 114, 117, 101]] out >>= fun q3 =>
      some (q3)
    else
    zK [[102, 97, 108, 115, 101]] out >>= fun q4 =>
    some (q4)
  else
  if t.K = 18 then
    zK [[114, 101, 97, 100]] out >>= fun q5 =>
    some (q5)
  else
  if t.K = 19 then
    zK [t.S] out >>= fun q6 =>
    some (q6)
  else
  if t.K = 10 then
    z6Y t.N >>= fun q7 =>
    if q7.2 = 3 then
      yL t 0 >>= fun q8 =>
      print_writer_held q8 4 out >>= fun q9 =>
      zK [q7.1] q9 >>= fun q10 =>
      yL t 1 >>= fun q11 =>
      print_writer_held q11 (IntKind.wrap .i64 (q7.2 + 1)) q10 >>= fun q12 =>
      some (q12)
    else
    yL t 0 >>= fun q13 =>
    print_writer_held q13 q7.2 out >>= fun q14 =>
    zK [q7.1] q14 >>= fun q15 =>
    yL t 1 >>= fun q16 =>
    print_writer_held q16 (IntKind.wrap .i64 (q7.2 + 1)) q15 >>= fun q17 =>
    some (q17)
  else
  if t.K = 11 then
    if t.N = 1 then
      zK [[45]] out >>= fun q18 =>
      yL t 0 >>= fun q19 =>
      print_writer_held q19 6 q18 >>= fun q20 =>
      some (q20)
    else
    zK [[33]] out >>= fun q21 =>
    yL t 0 >>= fun q22 =>
    print_writer_held q22 6 q21 >>= fun q23 =>
    some (q23)
  else
  print_writer_closed t out >>= fun q24 =>
  some (q24)
def z0W (print_writer_expr : zD → (List Str) → Option (List Str)) (t : zD) (least : Int) (out : List Str) : Option (List Str) :=
  z2G t >>= fun q1 =>
  if q1 ≥ least then
    print_writer_expr t out >>= fun q2 =>
    some (q2)
  else
  zK [[40]] out >>= fun q3 =>
  print_writer_expr t q3 >>= fun q4 =>
  zK [[41]] q4 >>= fun q5 =>
  some (q5)
def vP (print_writer_expr : zD → (List Str) → Option (List Str)) (print_writer_held : zD → Int → (List Str) → Option (List Str)) (print_writer_list_writer_expr : (List zD) → (List Str) → Option (List Str)) (t : zD) (out : List Str) : Option (List Str) :=
  if t.K = 12 then
    yL t 0 >>= fun q1 =>
    print_writer_held q1 7 out >>= fun q2 =>
    zK [[91]] q2 >>= fun q3 =>
    yL t 1 >>= fun q4 =>
    print_writer_expr q4 q3 >>= fun q5 =>
    zK [[93]] q5 >>= fun q6 =>
    some (q6)
  else
  if t.K = 13 then
    yL t 0 >>= fun q7 =>
    print_writer_held q7 7 out >>= fun q8 =>
    zK [[46], t.S] q8 >>= fun q9 =>
    some (q9)
  else
  if t.K = 14 then
    zK [[91]] out >>= fun q10 =>
    print_writer_list_writer_expr t.L q10 >>= fun q11 =>
    zK [[93]] q11 >>= fun q12 =>
    some (q12)
  else
  if t.K = 16 then
    zK [t.S] out >>= fun q13 =>
    zK [[40]] q13 >>= fun q14 =>
    print_writer_list_writer_expr t.L q14 >>= fun q15 =>
    zK [[41]] q15 >>= fun q16 =>
    some (q16)
  else
  if t.K = 17 then
    zK [[64], t.S] out >>= fun q17 =>
    zK [[40]] q17 >>= fun q18 =>
    print_writer_list_writer_expr t.L q18 >>= fun q19 =>
    zK [[41]] q19 >>= fun q20 =>
    some (q20)
  else
  if t.K = 15 then
    zK [[110, 101, 119], t.S] out >>= fun q21 =>
    zK [[40]] q21 >>= fun q22 =>
    print_writer_list_writer_expr t.L q22 >>= fun q23 =>
    zK [[41]] q23 >>= fun q24 =>
    some (q24)
  else
  some (out)
def wH (print_writer_list_writer_expr_L1 : (List zD) → Int → Int → (List Str) → Option (List Str)) (l : List zD) (out : List Str) : Option (List Str) :=
  print_writer_list_writer_expr_L1 l (List.length l : Int) 0 out
def vS (print_writer_expr : zD → (List Str) → Option (List Str)) (print_writer_list_writer_expr_L1 : (List zD) → Int → Int → (List Str) → Option (List Str)) (v8 : List zD) (v9 v10 : Int) (out : List Str) : Option (List Str) :=
  if v10 < v9 then
    idx v8 v10 >>= fun x =>
    if v10 > 0 then
      zK [[44]] out >>= fun q1 =>
      print_writer_expr x q1 >>= fun q2 =>
      print_writer_list_writer_expr_L1 v8 v9 (IntKind.wrap .i64 (v10 + 1)) q2
    else
    print_writer_expr x out >>= fun q3 =>
    print_writer_list_writer_expr_L1 v8 v9 (IntKind.wrap .i64 (v10 + 1)) q3
  else
  some (out)
inductive I_print_writer_expr where
  | print_writer_expr (t : zD) (out : List Str)
  | print_writer_held (t : zD) (least : Int) (out : List Str)
  | print_writer_closed (t : zD) (out : List Str)
  | print_writer_list_writer_expr (l : List zD) (out : List Str)
  | print_writer_list_writer_expr_L1 (v8 : List zD) (v9 v10 : Int) (out : List Str)
@[reducible] def z3J : I_print_writer_expr → Type
  | .print_writer_expr _ _ => List Str
  | .print_writer_held _ _ _ => List Str
  | .print_writer_closed _ _ => List Str
  | .print_writer_list_writer_expr _ _ => List Str
  | .print_writer_list_writer_expr_L1 _ _ _ _ => List Str
def wV (g : Fam z3J) : Fam z3J
  | .print_writer_expr t out => vB (fun t least out => g (I_print_writer_expr.print_writer_held t least out)) (fun t out => g (I_print_writer_expr.print_writer_closed t out)) t out
  | .print_writer_held t least out => z0W (fun t out => g (I_print_writer_expr.print_writer_expr t out)) t least out
  | .print_writer_closed t out => vP (fun t out => g (I_print_writer_expr.print_writer_expr t out)) (fun t least out => g (I_print_writer_expr.print_writer_held t least out)) (fun l out => g (I_print_writer_expr.print_writer_list_writer_expr l out)) t out
  | .print_writer_list_writer_expr l out => wH (fun v8 v9 v10 out => g (I_print_writer_expr.print_writer_list_writer_expr_L1 v8 v9 v10 out)) l out
  | .print_writer_list_writer_expr_L1 v8 v9 v10 out => vS (fun t out => g (I_print_writer_expr.print_writer_expr t out)) (fun v8 v9 v10 out => g (I_print_writer_expr.print_writer_list_writer_expr_L1 v8 v9 v10 out)) v8 v9 v10 out
theorem z0N : ∀ i, Good (fun g => wV g i)
  | .print_writer_expr t out => by unfold wV vB; exact (.ite (.bind (.const _) fun _ => (.bind (.const _) fun _ => (.const _))) (.ite (.ite (.bind (.const _) fun _ => (.const _)) (.bind (.const _) fun _ => (.const _))) (.ite (.bind (.const _) fun _ => (.const _)) (.ite (.bind (.const _) fun _ => (.const _)) (.ite (.bind (.const _) fun _ => (.ite (.bind (.const _) fun _ => (.bind (.call _) fun _ => (.bind (.const _) fun _ => (.bind (.const _) fun _ => (.bind (.call _) fun _ => (.const _)))))) (.bind (.const _) fun _ => (.bind (.call _) fun _ => (.bind (.const _) fun _ => (.bind (.const _) fun _ => (.bind (.call _) fun _ => (.const _)))))))) (.ite (.ite (.bind (.const _) fun _ => (.bind (.const _) fun _ => (.bind (.call _) fun _ => (.const _)))) (.bind (.const _) fun _ => (.bind (.const _) fun _ => (.bind (.call _) fun _ => (.const _))))) (.bind (.call _) fun _ => (.const _))))))))
  | .print_writer_held t least out => by unfold wV z0W; exact (.bind (.const _) fun _ => (.ite (.bind (.call _) fun _ => (.const _)) (.bind (.const _) fun _ => (.bind (.call _) fun _ => (.bind (.const _) fun _ => (.const _))))))
  | .print_writer_closed t out => by unfold wV vP; exact (.ite (.bind (.const _) fun _ => (.bind (.call _) fun _ => (.bind (.const _) fun _ => (.bind (.const _) fun _ => (.bind (.call _) fun _ => (.bind (.const _) fun _ => (.const _))))))) (.ite (.bind (.const _) fun _ => (.bind (.call _) fun _ => (.bind (.const _) fun _ => (.const _)))) (.ite (.bind (.const _) fun _ => (.bind (.call _) fun _ => (.bind (.const _) fun _ => (.const _)))) (.ite (.bind (.const _) fun _ => (.bind (.const _) fun _ => (.bind (.call _) fun _ => (.bind (.const _) fun _ => (.const _))))) (.ite (.bind (.const _) fun _ => (.bind (.const _) fun _ => (.bind (.call _) fun _ => (.bind (.const _) fun _ => (.const _))))) (.ite (.bind (.const _) fun _ => (.bind (.const _) fun _ => (.bind (.call _) fun _ => (.bind (.const _) fun _ => (.const _))))) (.const _)))))))
  | .print_writer_list_writer_expr l out => by unfold wV wH; exact (.call _)
  | .print_writer_list_writer_expr_L1 v8 v9 v10 out => by unfold wV vS; exact (.ite (.bind (.const _) fun _ => (.ite (.bind (.const _) fun _ => (.bind (.call _) fun _ => (.call _))) (.bind (.call _) fun _ => (.call _)))) (.const _))
def print_writer_expr (t : zD) (out : List Str) : Option (List Str) := z2Z wV (.print_writer_expr t out)
def print_writer_held (t : zD) (least : Int) (out : List Str) : Option (List Str) := z2Z wV (.print_writer_held t least out)
def print_writer_closed (t : zD) (out : List Str) : Option (List Str) := z2Z wV (.print_writer_closed t out)
def print_writer_list_writer_expr (l : List zD) (out : List Str) : Option (List Str) := z2Z wV (.print_writer_list_writer_expr l out)
def print_writer_list_writer_expr_L1 (v8 : List zD) (v9 v10 : Int) (out : List Str) : Option (List Str) := z2Z wV (.print_writer_list_writer_expr_L1 v8 v9 v10 out)
theorem vY (t : zD) (out : List Str) : print_writer_expr t out = vB print_writer_held print_writer_closed t out := uM z0N (.print_writer_expr t out)
theorem z9r (t : zD) (least : Int) (out : List Str) : print_writer_held t least out = z0W print_writer_expr t least out := uM z0N (.print_writer_held t least out)
theorem uZ (t : zD) (out : List Str) : print_writer_closed t out = vP print_writer_expr print_writer_held print_writer_list_writer_expr t out := uM z0N (.print_writer_closed t out)
theorem z2e (l : List zD) (out : List Str) : print_writer_list_writer_expr l out = wH print_writer_list_writer_expr_L1 l out := uM z0N (.print_writer_list_writer_expr l out)
theorem z1G (v8 : List zD) (v9 v10 : Int) (out : List Str) : print_writer_list_writer_expr_L1 v8 v9 v10 out = vS print_writer_expr print_writer_list_writer_expr_L1 v8 v9 v10 out := uM z0N (.print_writer_list_writer_expr_L1 v8 v9 v10 out)
def jU (t : zD) (words out : List Str) : Option (List Str) :=
  zK words out >>= fun q1 =>
  print_writer_expr t q1 >>= fun q2 =>
  zK [[59]] q2 >>= fun q3 =>
  some (q3)
def jF (t : zD) (out : List Str) : Option (List Str) :=
  zK [t.S, [58]] out >>= fun q1 =>
  yL t 0 >>= fun q2 =>
  print_writer_kind q2 q1 >>= fun q3 =>
  some (q3)
def z0G (print_writer_block_L3 : (List zD) → Int → Int → (List Str) → Option (List Str)) (t : zD) (out : List Str) : Option (List Str) :=
  zK [[123]] out >>= fun q1 =>
  print_writer_block_L3 t.L (List.length t.L : Int) 0 q1
def jO (print_writer_block_L3 : (List zD) → Int → Int → (List Str) → Option (List Str)) (print_writer_stmt : zD → (List Str) → Option (List Str)) (v10 : List zD) (v11 v12 : Int) (out : List Str) : Option (List Str) :=
  if v12 < v11 then
    idx v10 v12 >>= fun x =>
    print_writer_stmt x out >>= fun q1 =>
    print_writer_block_L3 v10 v11 (IntKind.wrap .i64 (v12 + 1)) q1
  else
  zK [[125]] out >>= fun q2 =>
  some (q2)
def z0p (print_writer_block : zD → (List Str) → Option (List Str)) (print_writer_nested : zD → (List Str) → Option (List Str)) (t : zD) (out : List Str) : Option (List Str) :=
  if t.K = 29 then
    print_writer_block t out >>= fun q1 =>
    some (q1)
  else
  if t.K = 20 then
    yL t 0 >>= fun q2 =>
    jU q2 [[108, 101, 116], t.S, [61]] out >>= fun q3 =>
    some (q3)
  else
  if t.K = 21 then
    zK [[108, 101, 116]] out >>= fun q4 =>
    jF t q4 >>= fun q5 =>
    zK [[59]] q5 >>= fun q6 =>
    some (q6)
  else
  if t.K = 22 then
    yL t 0 >>= fun q7 =>
    print_writer_expr q7 out >>= fun q8 =>
    yL t 1 >>= fun q9 =>
    jU q9 [[61]] q8 >>= fun q10 =>
    some (q10)
  else
  if t.K = 26 then
    yL t 0 >>= fun q11 =>
    jU q11 [[112, 114, 105, 110, 116]] out >>= fun q12 =>
    some (q12)
  else
  if t.K = 27 then
    yL t 0 >>= fun q13 =>
    jU q13 [[114, 101, 116, 117, 114, 110]] out >>= fun q14 =>
    some (q14)
  else
  if t.K = 28 then
    yL t 0 >>= fun q15 =>
    jU q15 [[100, 111]] out >>= fun q16 =>
    some (q16)
  else
  print_writer_nested t out >>= fun q17 =>
  some (q17)
def jJ (print_writer_block : zD → (List Str) → Option (List Str)) (t : zD) (out : List Str) : Option (List Str) :=
  if t.K = 23 then
    zK [[105, 102]] out >>= fun q1 =>
    yL t 0 >>= fun q2 =>
    print_writer_expr q2 q1 >>= fun q3 =>
    yL t 1 >>= fun q4 =>
    print_writer_block q4 q3 >>= fun q5 =>
    yL t 2 >>= fun q6 =>
    if (List.length q6.L : Int) > 0 then
      zK [[101, 108, 115, 101]] q5 >>= fun q7 =>
      yL t 2 >>= fun q8 =>
      print_writer_block q8 q7 >>= fun q9 =>
      some (q9)
    else
    some (q5)
  else
  if t.K = 24 then
    zK [[119, 104, 105, 108, 101]] out >>= fun q10 =>
    yL t 0 >>= fun q11 =>
    print_writer_expr q11 q10 >>= fun q12 =>
    yL t 1 >>= fun q13 =>
    print_writer_block q13 q12 >>= fun q14 =>
    some (q14)
  else
  if t.K = 25 then
    zK [[102, 111, 114], t.S, [61]] out >>= fun q15 =>
    yL t 0 >>= fun q16 =>
    print_writer_expr q16 q15 >>= fun q17 =>
    zK [[116, 111]] q17 >>= fun q18 =>
    yL t 1 >>= fun q19 =>
    print_writer_expr q19 q18 >>= fun q20 =>
    yL t 2 >>= fun q21 =>
    print_writer_block q21 q20 >>= fun q22 =>
    some (q22)
  else
  some (out)
inductive I_print_writer_block where
  | print_writer_block (t : zD) (out : List Str)
  | print_writer_block_L3 (v10 : List zD) (v11 v12 : Int) (out : List Str)
  | print_writer_stmt (t : zD) (out : List Str)
  | print_writer_nested (t : zD) (out : List Str)
@[reducible] def z3u : I_print_writer_block → Type
  | .print_writer_block _ _ => List Str
  | .print_writer_block_L3 _ _ _ _ => List Str
  | .print_writer_stmt _ _ => List Str
  | .print_writer_nested _ _ => List Str
def uK (g : Fam z3u) : Fam z3u
  | .print_writer_block t out => z0G (fun v10 v11 v12 out => g (I_print_writer_block.print_writer_block_L3 v10 v11 v12 out)) t out
  | .print_writer_block_L3 v10 v11 v12 out => jO (fun v10 v11 v12 out => g (I_print_writer_block.print_writer_block_L3 v10 v11 v12 out)) (fun t out => g (I_print_writer_block.print_writer_stmt t out)) v10 v11 v12 out
  | .print_writer_stmt t out => z0p (fun t out => g (I_print_writer_block.print_writer_block t out)) (fun t out => g (I_print_writer_block.print_writer_nested t out)) t out
  | .print_writer_nested t out => jJ (fun t out => g (I_print_writer_block.print_writer_block t out)) t out
theorem z1n : ∀ i, Good (fun g => uK g i)
  | .print_writer_block t out => by unfold uK z0G; exact (.bind (.const _) fun _ => (.call _))
  | .print_writer_block_L3 v10 v11 v12 out => by unfold uK jO; exact (.ite (.bind (.const _) fun _ => (.bind (.call _) fun _ => (.call _))) (.bind (.const _) fun _ => (.const _)))
  | .print_writer_stmt t out => by unfold uK z0p; exact (.ite (.bind (.call _) fun _ => (.const _)) (.ite (.bind (.const _) fun _ => (.bind (.const _) fun _ => (.const _))) (.ite (.bind (.const _) fun _ => (.bind (.const _) fun _ => (.bind (.const _) fun _ => (.const _)))) (.ite (.bind (.const _) fun _ => (.bind (.const _) fun _ => (.bind (.const _) fun _ => (.bind (.const _) fun _ => (.const _))))) (.ite (.bind (.const _) fun _ => (.bind (.const _) fun _ => (.const _))) (.ite (.bind (.const _) fun _ => (.bind (.const _) fun _ => (.const _))) (.ite (.bind (.const _) fun _ => (.bind (.const _) fun _ => (.const _))) (.bind (.call _) fun _ => (.const _)))))))))
  | .print_writer_nested t out => by unfold uK jJ; exact (.ite (.bind (.const _) fun _ => (.bind (.const _) fun _ => (.bind (.const _) fun _ => (.bind (.const _) fun _ => (.bind (.call _) fun _ => (.bind (.const _) fun _ => (.ite (.bind (.const _) fun _ => (.bind (.const _) fun _ => (.bind (.call _) fun _ => (.const _)))) (.const _)))))))) (.ite (.bind (.const _) fun _ => (.bind (.const _) fun _ => (.bind (.const _) fun _ => (.bind (.const _) fun _ => (.bind (.call _) fun _ => (.const _)))))) (.ite (.bind (.const _) fun _ => (.bind (.const _) fun _ => (.bind (.const _) fun _ => (.bind (.const _) fun _ => (.bind (.const _) fun _ => (.bind (.const _) fun _ => (.bind (.const _) fun _ => (.bind (.call _) fun _ => (.const _))))))))) (.const _))))
def print_writer_block (t : zD) (out : List Str) : Option (List Str) := z2Z uK (.print_writer_block t out)
def print_writer_block_L3 (v10 : List zD) (v11 v12 : Int) (out : List Str) : Option (List Str) := z2Z uK (.print_writer_block_L3 v10 v11 v12 out)
def print_writer_stmt (t : zD) (out : List Str) : Option (List Str) := z2Z uK (.print_writer_stmt t out)
def print_writer_nested (t : zD) (out : List Str) : Option (List Str) := z2Z uK (.print_writer_nested t out)
theorem z8w (t : zD) (out : List Str) : print_writer_block t out = z0G print_writer_block_L3 t out := uM z1n (.print_writer_block t out)
theorem z3X (v10 : List zD) (v11 v12 : Int) (out : List Str) : print_writer_block_L3 v10 v11 v12 out = jO print_writer_block_L3 print_writer_stmt v10 v11 v12 out := uM z1n (.print_writer_block_L3 v10 v11 v12 out)
theorem z5D (t : zD) (out : List Str) : print_writer_stmt t out = z0p print_writer_block print_writer_nested t out := uM z1n (.print_writer_stmt t out)
theorem z2Q (t : zD) (out : List Str) : print_writer_nested t out = jJ print_writer_block t out := uM z1n (.print_writer_nested t out)
def gA (print_writer_decl_L5 : (List zD) → Int → Int → (List Str) → Option (List Str)) (v16 : List zD) (v17 v18 : Int) (out : List Str) : Option (List Str) :=
  if v18 < v17 then
    idx v16 v18 >>= fun x =>
    jF x out >>= fun q1 =>
    zK [[59]] q1 >>= fun q2 =>
    print_writer_decl_L5 v16 v17 (IntKind.wrap .i64 (v18 + 1)) q2
  else
  zK [[125]] out >>= fun q3 =>
  some (q3)
inductive I_print_writer_decl_L5 where
  | print_writer_decl_L5 (v16 : List zD) (v17 v18 : Int) (out : List Str)
@[reducible] def z2O : I_print_writer_decl_L5 → Type
  | .print_writer_decl_L5 _ _ _ _ => List Str
def z1L (g : Fam z2O) : Fam z2O
  | .print_writer_decl_L5 v16 v17 v18 out => gA (fun v16 v17 v18 out => g (I_print_writer_decl_L5.print_writer_decl_L5 v16 v17 v18 out)) v16 v17 v18 out
theorem z4H : ∀ i, Good (fun g => z1L g i)
  | .print_writer_decl_L5 v16 v17 v18 out => by unfold z1L gA; exact (.ite (.bind (.const _) fun _ => (.bind (.const _) fun _ => (.bind (.const _) fun _ => (.call _)))) (.bind (.const _) fun _ => (.const _)))
def print_writer_decl_L5 (v16 : List zD) (v17 v18 : Int) (out : List Str) : Option (List Str) := z2Z z1L (.print_writer_decl_L5 v16 v17 v18 out)
theorem z4D (v16 : List zD) (v17 v18 : Int) (out : List Str) : print_writer_decl_L5 v16 v17 v18 out = gA print_writer_decl_L5 v16 v17 v18 out := uM z4H (.print_writer_decl_L5 v16 v17 v18 out)
def vO (print_writer_list_writer_named_L1 : (List zD) → Int → Int → (List Str) → Option (List Str)) (v8 : List zD) (v9 v10 : Int) (out : List Str) : Option (List Str) :=
  if v10 < v9 then
    idx v8 v10 >>= fun x =>
    if v10 > 0 then
      zK [[44]] out >>= fun q1 =>
      jF x q1 >>= fun q2 =>
      print_writer_list_writer_named_L1 v8 v9 (IntKind.wrap .i64 (v10 + 1)) q2
    else
    jF x out >>= fun q3 =>
    print_writer_list_writer_named_L1 v8 v9 (IntKind.wrap .i64 (v10 + 1)) q3
  else
  some (out)
inductive I_print_writer_list_writer_named_L1 where
  | print_writer_list_writer_named_L1 (v8 : List zD) (v9 v10 : Int) (out : List Str)
@[reducible] def z0m : I_print_writer_list_writer_named_L1 → Type
  | .print_writer_list_writer_named_L1 _ _ _ _ => List Str
def jK (g : Fam z0m) : Fam z0m
  | .print_writer_list_writer_named_L1 v8 v9 v10 out => vO (fun v8 v9 v10 out => g (I_print_writer_list_writer_named_L1.print_writer_list_writer_named_L1 v8 v9 v10 out)) v8 v9 v10 out
theorem z1B : ∀ i, Good (fun g => jK g i)
  | .print_writer_list_writer_named_L1 v8 v9 v10 out => by unfold jK vO; exact (.ite (.bind (.const _) fun _ => (.ite (.bind (.const _) fun _ => (.bind (.const _) fun _ => (.call _))) (.bind (.const _) fun _ => (.call _)))) (.const _))
def print_writer_list_writer_named_L1 (v8 : List zD) (v9 v10 : Int) (out : List Str) : Option (List Str) := z2Z jK (.print_writer_list_writer_named_L1 v8 v9 v10 out)
theorem z1x (v8 : List zD) (v9 v10 : Int) (out : List Str) : print_writer_list_writer_named_L1 v8 v9 v10 out = vO print_writer_list_writer_named_L1 v8 v9 v10 out := uM z1B (.print_writer_list_writer_named_L1 v8 v9 v10 out)
def vU (l : List zD) (out : List Str) : Option (List Str) :=
  print_writer_list_writer_named_L1 l (List.length l : Int) 0 out
def z2v (t : zD) (out : List Str) : Option (List Str) :=
  if t.K = 30 then
    zK [[114, 101, 99], t.S, [123]] out >>= fun q1 =>
    print_writer_decl_L5 t.L (List.length t.L : Int) 0 q1
  else
  if t.K = 31 then
    yL t 0 >>= fun q2 =>
    jU q2 [[99, 111, 110, 115, 116], t.S, [61]] out >>= fun q3 =>
    some (q3)
  else
  if t.K = 32 then
    zK [[118, 97, 114]] out >>= fun q4 =>
    jF t q4 >>= fun q5 =>
    zK [[59]] q5 >>= fun q6 =>
    some (q6)
  else
  if t.K = 33 then
    if t.N = 1 then
      zK [[112, 117, 98]] out >>= fun q7 =>
      zK [[102, 110], t.S, [40]] q7 >>= fun q8 =>
      yL t 0 >>= fun q9 =>
      vU q9.L q8 >>= fun q10 =>
      zK [[41], [58]] q10 >>= fun q11 =>
      yL t 1 >>= fun q12 =>
      print_writer_kind q12 q11 >>= fun q13 =>
      yL t 2 >>= fun q14 =>
      print_writer_block q14 q13 >>= fun q15 =>
      some (q15)
    else
    zK [[102, 110], t.S, [40]] out >>= fun q16 =>
    yL t 0 >>= fun q17 =>
    vU q17.L q16 >>= fun q18 =>
    zK [[41], [58]] q18 >>= fun q19 =>
    yL t 1 >>= fun q20 =>
    print_writer_kind q20 q19 >>= fun q21 =>
    yL t 2 >>= fun q22 =>
    print_writer_block q22 q21 >>= fun q23 =>
    some (q23)
  else
  some (out)
def z1Y : List zD → Str → Option Str
  | [], u => some u
  | d :: r, u => z2v d [] >>= fun q => z1z q >>= fun s => if List.length u + List.length s + 1 ≤ 140737488355328 then z1Y r (u ++ s ++ [10]) else none
def z6X (m : zD) : Option (Str) := z1Y m.L []
def z4W (wZ : Int → zD → zD → Option (Bool)) (a b : zD) : Option (Bool) :=
  if a.K = b.K then
    if a.N = b.N then
      if a.S = b.S then
        if (List.length a.L : Int) = (List.length b.L : Int) then
          wZ 0 a b
        else
        some (false)
      else
      some (false)
    else
    some (false)
  else
  some (false)
def z2c (z0t : zD → zD → Option (Bool)) (wZ : Int → zD → zD → Option (Bool)) (i : Int) (a b : zD) : Option (Bool) :=
  if i < (List.length a.L : Int) then
    idx a.L i >>= fun x =>
    idx b.L i >>= fun x1 =>
    z0t x x1 >>= fun q1 =>
    if q1 = true then
      wZ (IntKind.wrap .i64 (i + 1)) a b
    else
    some (false)
  else
  some (true)
inductive z3b where
  | z0t (a b : zD)
  | wZ (i : Int) (a b : zD)
@[reducible] def z9G : z3b → Type
  | .z0t _ _ => Bool
  | .wZ _ _ _ => Bool
def z4N (g : Fam z9G) : Fam z9G
  | .z0t a b => z4W (fun i a b => g (z3b.wZ i a b)) a b
  | .wZ i a b => z2c (fun a b => g (z3b.z0t a b)) (fun i a b => g (z3b.wZ i a b)) i a b
theorem z9C : ∀ i, Good (fun g => z4N g i)
  | .z0t a b => by unfold z4N z4W; exact (.ite (.ite (.ite (.ite (.call _) (.const _)) (.const _)) (.const _)) (.const _))
  | .wZ i a b => by unfold z4N z2c; exact (.ite (.bind (.const _) fun _ => (.bind (.const _) fun _ => (.bind (.call _) fun _ => (.ite (.call _) (.const _))))) (.const _))
def z0t (a b : zD) : Option (Bool) := z2Z z4N (.z0t a b)
def wZ (i : Int) (a b : zD) : Option (Bool) := z2Z z4N (.wZ i a b)
theorem y8e (a b : zD) : z0t a b = z4W wZ a b := uM z9C (.z0t a b)
theorem z8y (i : Int) (a b : zD) : wZ i a b = z2c z0t wZ i a b := uM z9C (.wZ i a b)
def z0E (c : Int) (text : Str) (at_ : Int) (out : List zB) : Option (Bool) :=
  if c ≥ 48 then
    some (decide (c ≤ 57))
  else
  some (false)
def z0V (c : Int) (text : Str) (at_ : Int) (out : List zB) : Option (Bool) :=
  if c ≥ 97 then
    if c ≤ 122 then
      some (true)
    else
    if c ≥ 65 then
      if c ≤ 90 then
        some (true)
      else
      some ((c == 95))
    else
    some ((c == 95))
  else
  if c ≥ 65 then
    if c ≤ 90 then
      some (true)
    else
    some ((c == 95))
  else
  some ((c == 95))
def z0X (k n : Int) (s : Str) (from_ : Int) (text : Str) (at_ : Int) (out : List zB) : Option (Str × Int × List zB) :=
  if z4F 48 (List.length out + List.length [(zB.mk k n s from_ at_)]) then
  some (text, at_, out ++ [(zB.mk k n s from_ at_)])
  else none
def jZ (yD : Int → Str → Int → Int → Int → Str → Int → (List zB) → Option (Int × Str × Int × List zB)) (from_ : Int) (s : Str) (v v29 v30 : Int) (text : Str) (at_ : Int) (out : List zB) : Option (Int × Str × Int × List zB) :=
  if v30 < v29 then
    idx s v30 >>= fun c =>
    yD from_ s (IntKind.wrap .u64 ((IntKind.wrap .u64 (v * 10)) + (IntKind.wrap .u64 (IntKind.wrap .u8 ((Int.ofNat (UInt8.toNat c)) - 48))))) v29 (IntKind.wrap .i64 (v30 + 1)) text at_ out
  else
  if v > 9223372036854775807 then
    some (5, text, at_, out)
  else
  z0X 2 (IntKind.wrap .i64 v) [] from_ text at_ out >>= fun q1 =>
  some (0, q1.1, q1.2.1, q1.2.2)
inductive z1M where
  | yD (from_ : Int) (s : Str) (v v29 v30 : Int) (text : Str) (at_ : Int) (out : List zB)
@[reducible] def z2N : z1M → Type
  | .yD _ _ _ _ _ _ _ _ => Int × Str × Int × List zB
def z1K (g : Fam z2N) : Fam z2N
  | .yD from_ s v v29 v30 text at_ out => jZ (fun from_ s v v29 v30 text at_ out => g (z1M.yD from_ s v v29 v30 text at_ out)) from_ s v v29 v30 text at_ out
theorem z4G : ∀ i, Good (fun g => z1K g i)
  | .yD from_ s v v29 v30 text at_ out => by unfold z1K jZ; exact (.ite (.bind (.const _) fun _ => (.call _)) (.ite (.const _) (.bind (.const _) fun _ => (.const _))))
def yD (from_ : Int) (s : Str) (v v29 v30 : Int) (text : Str) (at_ : Int) (out : List zB) : Option (Int × Str × Int × List zB) := z2Z z1K (.yD from_ s v v29 v30 text at_ out)
theorem z4z (from_ : Int) (s : Str) (v v29 v30 : Int) (text : Str) (at_ : Int) (out : List zB) : yD from_ s v v29 v30 text at_ out = jZ yD from_ s v v29 v30 text at_ out := uM z4G (.yD from_ s v v29 v30 text at_ out)
def vR (zQ : Int → Str → Int → (List zB) → Option (Str × Str × Int × List zB)) (from_ : Int) (text : Str) (at_ : Int) (out : List zB) : Option (Str × Str × Int × List zB) :=
  if at_ < (List.length text : Int) then
    idx text at_ >>= fun c =>
    z0E (Int.ofNat (UInt8.toNat c)) text at_ out >>= fun q1 =>
    if q1 = true then
      zQ from_ text (IntKind.wrap .i64 (at_ + 1)) out
    else
    if (0 : Int) ≤ at_ then
    if Int.toNat at_ ≤ List.length text then
    if (0 : Int) ≤ from_ then
    if Int.toNat from_ ≤ Int.toNat at_ then
    some (List.drop (Int.toNat from_) (List.take (Int.toNat at_) text), text, at_, out)
    else none
    else none
    else none
    else none
  else
  if (0 : Int) ≤ at_ then
  if Int.toNat at_ ≤ List.length text then
  if (0 : Int) ≤ from_ then
  if Int.toNat from_ ≤ Int.toNat at_ then
  some (List.drop (Int.toNat from_) (List.take (Int.toNat at_) text), text, at_, out)
  else none
  else none
  else none
  else none
inductive jT where
  | zQ (from_ : Int) (text : Str) (at_ : Int) (out : List zB)
@[reducible] def z0y : jT → Type
  | .zQ _ _ _ _ => Str × Str × Int × List zB
def jS (g : Fam z0y) : Fam z0y
  | .zQ from_ text at_ out => vR (fun from_ text at_ out => g (jT.zQ from_ text at_ out)) from_ text at_ out
theorem z1N : ∀ i, Good (fun g => jS g i)
  | .zQ from_ text at_ out => by unfold jS vR; exact (.ite (.bind (.const _) fun _ => (.bind (.const _) fun _ => (.ite (.call _) (.ite (.ite (.ite (.ite (.const _) (.const _)) (.const _)) (.const _)) (.const _))))) (.ite (.ite (.ite (.ite (.const _) (.const _)) (.const _)) (.const _)) (.const _)))
def zQ (from_ : Int) (text : Str) (at_ : Int) (out : List zB) : Option (Str × Str × Int × List zB) := z2Z jS (.zQ from_ text at_ out)
theorem z1F (from_ : Int) (text : Str) (at_ : Int) (out : List zB) : zQ from_ text at_ out = vR zQ from_ text at_ out := uM z1N (.zQ from_ text at_ out)
def z0i (text : Str) (at_ : Int) (out : List zB) : Option (Str × Str × Int × List zB) :=
  zQ at_ text at_ out
def z3n (text : Str) (at_ : Int) (out : List zB) : Option (Int × Str × Int × List zB) :=
  z0i text at_ out >>= fun q1 =>
  if (List.length q1.1 : Int) > 19 then
    some (5, q1.2.1, q1.2.2.1, q1.2.2.2)
  else
  if (List.length q1.1 : Int) > 1 then
    idx q1.1 0 >>= fun c =>
    if Int.ofNat (UInt8.toNat c) = 48 then
      some (5, q1.2.1, q1.2.2.1, q1.2.2.2)
    else
    yD at_ q1.1 0 (List.length q1.1 : Int) 0 q1.2.1 q1.2.2.1 q1.2.2.2
  else
  yD at_ q1.1 0 (List.length q1.1 : Int) 0 q1.2.1 q1.2.2.1 q1.2.2.2
def z1E (k : Int) (text : Str) (at_ : Int) (out : List zB) : Option (Int) :=
  if (IntKind.wrap .i64 (at_ + k)) < (List.length text : Int) then
    idx text (IntKind.wrap .i64 (at_ + k)) >>= fun c =>
    some (Int.ofNat (UInt8.toNat c))
  else
  some (0)
def z6S (s : Str) : Option (Bool) :=
  if s = [114, 101, 99] then
    some (true)
  else
  if s = [99, 111, 110, 115, 116] then
    some (true)
  else
  if s = [118, 97, 114] then
    some (true)
  else
  if s = [112, 117, 98] then
    some (true)
  else
  if s = [102, 110] then
    some (true)
  else
  if s = [105, 110, 116] then
    some (true)
  else
  if s = [98, 111, 111, 108] then
    some (true)
  else
  if s = [108, 101, 116] then
    some (true)
  else
  if s = [105, 102] then
    some (true)
  else
  if s = [101, 108, 115, 101] then
    some (true)
  else
  if s = [119, 104, 105, 108, 101] then
    some (true)
  else
  if s = [102, 111, 114] then
    some (true)
  else
  if s = [116, 111] then
    some (true)
  else
  if s = [112, 114, 105, 110, 116] then
    some (true)
  else
  if s = [114, 101, 116, 117, 114, 110] then
    some (true)
  else
  if s = [100, 111] then
    some (true)
  else
  if s = [116, 114, 117, 101] then
    some (true)
  else
  if s = [102, 97, 108, 115, 101] then
    some (true)
  else
  if s = [114, 101, 97, 100] then
    some (true)
  else
  if s = [110, 101, 119] then
    some (true)
  else
  some (false)
def z2t (c : Int) (text : Str) (at_ : Int) (out : List zB) : Option (Bool) :=
  z0V c text at_ out >>= fun q1 =>
  if q1 = true then
    some (true)
  else
  z0E c text at_ out >>= fun q2 =>
  some (q2)
def vW (zS : Int → Str → Int → (List zB) → Option (Str × Str × Int × List zB)) (from_ : Int) (text : Str) (at_ : Int) (out : List zB) : Option (Str × Str × Int × List zB) :=
  if at_ < (List.length text : Int) then
    idx text at_ >>= fun c =>
    z2t (Int.ofNat (UInt8.toNat c)) text at_ out >>= fun q1 =>
    if q1 = true then
      zS from_ text (IntKind.wrap .i64 (at_ + 1)) out
    else
    if (0 : Int) ≤ at_ then
    if Int.toNat at_ ≤ List.length text then
    if (0 : Int) ≤ from_ then
    if Int.toNat from_ ≤ Int.toNat at_ then
    some (List.drop (Int.toNat from_) (List.take (Int.toNat at_) text), text, at_, out)
    else none
    else none
    else none
    else none
  else
  if (0 : Int) ≤ at_ then
  if Int.toNat at_ ≤ List.length text then
  if (0 : Int) ≤ from_ then
  if Int.toNat from_ ≤ Int.toNat at_ then
  some (List.drop (Int.toNat from_) (List.take (Int.toNat at_) text), text, at_, out)
  else none
  else none
  else none
  else none
inductive gE where
  | zS (from_ : Int) (text : Str) (at_ : Int) (out : List zB)
@[reducible] def z0B : gE → Type
  | .zS _ _ _ _ => Str × Str × Int × List zB
def gC (g : Fam z0B) : Fam z0B
  | .zS from_ text at_ out => vW (fun from_ text at_ out => g (gE.zS from_ text at_ out)) from_ text at_ out
theorem z1U : ∀ i, Good (fun g => gC g i)
  | .zS from_ text at_ out => by unfold gC vW; exact (.ite (.bind (.const _) fun _ => (.bind (.const _) fun _ => (.ite (.call _) (.ite (.ite (.ite (.ite (.const _) (.const _)) (.const _)) (.const _)) (.const _))))) (.ite (.ite (.ite (.ite (.const _) (.const _)) (.const _)) (.const _)) (.const _)))
def zS (from_ : Int) (text : Str) (at_ : Int) (out : List zB) : Option (Str × Str × Int × List zB) := z2Z gC (.zS from_ text at_ out)
theorem z1Q (from_ : Int) (text : Str) (at_ : Int) (out : List zB) : zS from_ text at_ out = vW zS from_ text at_ out := uM z1U (.zS from_ text at_ out)
def z0x (text : Str) (at_ : Int) (out : List zB) : Option (Str × Str × Int × List zB) :=
  zS at_ text at_ out
def z4A (text : Str) (at_ : Int) (out : List zB) : Option (Int × Str × Int × List zB) :=
  z0x text at_ out >>= fun q1 =>
  if (List.length q1.1 : Int) > 16 then
    some (3, q1.2.1, q1.2.2.1, q1.2.2.2)
  else
  z6S q1.1 >>= fun q2 =>
  if q2 = true then
    z0X 3 0 q1.1 at_ q1.2.1 q1.2.2.1 q1.2.2.2 >>= fun q3 =>
    some (0, q3.1, q3.2.1, q3.2.2)
  else
  z0X 1 0 q1.1 at_ q1.2.1 q1.2.2.1 q1.2.2.2 >>= fun q4 =>
  some (0, q4.1, q4.2.1, q4.2.2)
def z6T (c d : Int) : Option (Int) :=
  if c = 61 then
    if d = 61 then
      some (2)
    else
    some (1)
  else
  if c = 33 then
    if d = 61 then
      some (2)
    else
    some (1)
  else
  if c = 60 then
    if d = 61 then
      some (2)
    else
    some (1)
  else
  if c = 62 then
    if d = 61 then
      some (2)
    else
    some (1)
  else
  if c = 38 then
    if d = c then
      some (2)
    else
    some (0)
  else
  if c = 124 then
    if d = c then
      some (2)
    else
    some (0)
  else
  if c = 123 then
    some (1)
  else
  if c = 125 then
    some (1)
  else
  if c = 40 then
    some (1)
  else
  if c = 41 then
    some (1)
  else
  if c = 91 then
    some (1)
  else
  if c = 93 then
    some (1)
  else
  if c = 44 then
    some (1)
  else
  if c = 59 then
    some (1)
  else
  if c = 58 then
    some (1)
  else
  if c = 46 then
    some (1)
  else
  if c = 43 then
    some (1)
  else
  if c = 45 then
    some (1)
  else
  if c = 42 then
    some (1)
  else
  if c = 47 then
    some (1)
  else
  if c = 37 then
    some (1)
  else
  if c = 64 then
    some (1)
  else
  some (0)
def z2M (text : Str) (at_ : Int) (out : List zB) : Option (Int × Str × Int × List zB) :=
  idx text at_ >>= fun c =>
  z0V (Int.ofNat (UInt8.toNat c)) text at_ out >>= fun q1 =>
  if q1 = true then
    z4A text at_ out >>= fun q2 =>
    some (q2.1, q2.2.1, q2.2.2.1, q2.2.2.2)
  else
  z0E (Int.ofNat (UInt8.toNat c)) text at_ out >>= fun q3 =>
  if q3 = true then
    z3n text at_ out >>= fun q4 =>
    some (q4.1, q4.2.1, q4.2.2.1, q4.2.2.2)
  else
  z1E 1 text at_ out >>= fun q5 =>
  z6T (Int.ofNat (UInt8.toNat c)) q5 >>= fun q6 =>
  if q6 = 0 then
    some (4, text, at_, out)
  else
  if (0 : Int) ≤ (IntKind.wrap .i64 (at_ + q6)) then
  if Int.toNat (IntKind.wrap .i64 (at_ + q6)) ≤ List.length text then
  if (0 : Int) ≤ at_ then
  if Int.toNat at_ ≤ Int.toNat (IntKind.wrap .i64 (at_ + q6)) then
  z0X 4 0 (List.drop (Int.toNat at_) (List.take (Int.toNat (IntKind.wrap .i64 (at_ + q6))) text)) at_ text (IntKind.wrap .i64 (at_ + q6)) out >>= fun q7 =>
  some (0, q7.1, q7.2.1, q7.2.2)
  else none
  else none
  else none
  else none
def z2s (c : Int) (text : Str) (at_ : Int) (out : List zB) : Option (Bool) :=
  some (!(c == 10))
def vV (zR : Int → Str → Int → (List zB) → Option (Str × Str × Int × List zB)) (from_ : Int) (text : Str) (at_ : Int) (out : List zB) : Option (Str × Str × Int × List zB) :=
  if at_ < (List.length text : Int) then
    idx text at_ >>= fun c =>
    z2s (Int.ofNat (UInt8.toNat c)) text at_ out >>= fun q1 =>
    if q1 = true then
      zR from_ text (IntKind.wrap .i64 (at_ + 1)) out
    else
    if (0 : Int) ≤ at_ then
    if Int.toNat at_ ≤ List.length text then
    if (0 : Int) ≤ from_ then
    if Int.toNat from_ ≤ Int.toNat at_ then
    some (List.drop (Int.toNat from_) (List.take (Int.toNat at_) text), text, at_, out)
    else none
    else none
    else none
    else none
  else
  if (0 : Int) ≤ at_ then
  if Int.toNat at_ ≤ List.length text then
  if (0 : Int) ≤ from_ then
  if Int.toNat from_ ≤ Int.toNat at_ then
  some (List.drop (Int.toNat from_) (List.take (Int.toNat at_) text), text, at_, out)
  else none
  else none
  else none
  else none
inductive gD where
  | zR (from_ : Int) (text : Str) (at_ : Int) (out : List zB)
@[reducible] def z0A : gD → Type
  | .zR _ _ _ _ => Str × Str × Int × List zB
def gB (g : Fam z0A) : Fam z0A
  | .zR from_ text at_ out => vV (fun from_ text at_ out => g (gD.zR from_ text at_ out)) from_ text at_ out
theorem z1T : ∀ i, Good (fun g => gB g i)
  | .zR from_ text at_ out => by unfold gB vV; exact (.ite (.bind (.const _) fun _ => (.bind (.const _) fun _ => (.ite (.call _) (.ite (.ite (.ite (.ite (.const _) (.const _)) (.const _)) (.const _)) (.const _))))) (.ite (.ite (.ite (.ite (.const _) (.const _)) (.const _)) (.const _)) (.const _)))
def zR (from_ : Int) (text : Str) (at_ : Int) (out : List zB) : Option (Str × Str × Int × List zB) := z2Z gB (.zR from_ text at_ out)
theorem z1P (from_ : Int) (text : Str) (at_ : Int) (out : List zB) : zR from_ text at_ out = vV zR from_ text at_ out := uM z1T (.zR from_ text at_ out)
def z0w (text : Str) (at_ : Int) (out : List zB) : Option (Str × Str × Int × List zB) :=
  zR at_ text at_ out
def gZ (yH : Str → Int → (List zB) → Option (Str × Int × List zB)) (text : Str) (at_ : Int) (out : List zB) : Option (Str × Int × List zB) :=
  if at_ < (List.length text : Int) then
    idx text at_ >>= fun c =>
    if Int.ofNat (UInt8.toNat c) = 32 then
      yH text (IntKind.wrap .i64 (at_ + 1)) out
    else
    if Int.ofNat (UInt8.toNat c) = 9 then
      yH text (IntKind.wrap .i64 (at_ + 1)) out
    else
    if Int.ofNat (UInt8.toNat c) = 10 then
      yH text (IntKind.wrap .i64 (at_ + 1)) out
    else
    if Int.ofNat (UInt8.toNat c) = 13 then
      yH text (IntKind.wrap .i64 (at_ + 1)) out
    else
    if Int.ofNat (UInt8.toNat c) = 47 then
      z1E 1 text at_ out >>= fun q1 =>
      if q1 = 47 then
        z0w text at_ out >>= fun q2 =>
        yH q2.2.1 q2.2.2.1 q2.2.2.2
      else
      some (text, at_, out)
    else
    some (text, at_, out)
  else
  some (text, at_, out)
inductive z2n where
  | yH (text : Str) (at_ : Int) (out : List zB)
@[reducible] def z3t : z2n → Type
  | .yH _ _ _ => Str × Int × List zB
def z2m (g : Fam z3t) : Fam z3t
  | .yH text at_ out => gZ (fun text at_ out => g (z2n.yH text at_ out)) text at_ out
theorem z5v : ∀ i, Good (fun g => z2m g i)
  | .yH text at_ out => by unfold z2m gZ; exact (.ite (.bind (.const _) fun _ => (.ite (.call _) (.ite (.call _) (.ite (.call _) (.ite (.call _) (.ite (.bind (.const _) fun _ => (.ite (.bind (.const _) fun _ => (.call _)) (.const _))) (.const _))))))) (.const _))
def yH (text : Str) (at_ : Int) (out : List zB) : Option (Str × Int × List zB) := z2Z z2m (.yH text at_ out)
theorem z5m (text : Str) (at_ : Int) (out : List zB) : yH text at_ out = gZ yH text at_ out := uM z5v (.yH text at_ out)
def z2u (text : Str) (at_ : Int) (out : List zB) : Option (Str × Int × List zB) :=
  yH text at_ out
def z2r (wS : Str → Str → Int → (List zB) → Option (List zB × Int × Int)) (text text1 : Str) (at_ : Int) (out : List zB) : Option (List zB × Int × Int) :=
  if at_ < (List.length text : Int) then
    z2M text1 at_ out >>= fun q1 =>
    if q1.1 = 0 then
      z2u q1.2.1 q1.2.2.1 q1.2.2.2 >>= fun q2 =>
      wS text q2.1 q2.2.1 q2.2.2
    else
    some (([] : List zB), at_, q1.1)
  else
  z0X 5 0 [] at_ text1 at_ out >>= fun q3 =>
  some (q3.2.2, 0, 0)
inductive z4k where
  | wS (text text1 : Str) (at_ : Int) (out : List zB)
@[reducible] def z5N : z4k → Type
  | .wS _ _ _ _ => List zB × Int × Int
def z4f (g : Fam z5N) : Fam z5N
  | .wS text text1 at_ out => z2r (fun text text1 at_ out => g (z4k.wS text text1 at_ out)) text text1 at_ out
theorem z7J : ∀ i, Good (fun g => z4f g i)
  | .wS text text1 at_ out => by unfold z4f z2r; exact (.ite (.bind (.const _) fun _ => (.ite (.bind (.const _) fun _ => (.call _)) (.const _))) (.bind (.const _) fun _ => (.const _)))
def wS (text text1 : Str) (at_ : Int) (out : List zB) : Option (List zB × Int × Int) := z2Z z4f (.wS text text1 at_ out)
theorem y3J (text text1 : Str) (at_ : Int) (out : List zB) : wS text text1 at_ out = z2r wS text text1 at_ out := uM z7J (.wS text text1 at_ out)
def z6R (text : Str) : Option (List zB × Int × Int) :=
  if (List.length text : Int) > 8192 then
    some (([] : List zB), 0, 3)
  else
  z2u text 0 [] >>= fun q1 =>
  wS text q1.1 q1.2.1 q1.2.2
def z5b (path : List Int) (v : zD) (size depth : Int) : Option (Int × Int) :=
  some (IntKind.wrap .i64 (size + 1), max depth (IntKind.wrap .i64 ((List.length path : Int) + 1)))
def z0u (zW : (List Int) → (List zD) → Int → Int → Int → Int → Option (Int × Int)) (t : zD) (path : List Int) (size depth : Int) : Option (Int × Int) :=
  z5b path t size depth >>= fun q1 =>
  zW path t.L (List.length t.L : Int) 0 q1.1 q1.2
def jA (yN : zD → (List Int) → Int → Int → Option (Int × Int)) (zW : (List Int) → (List zD) → Int → Int → Int → Int → Option (Int × Int)) (path : List Int) (v13 : List zD) (v14 v15 size depth : Int) : Option (Int × Int) :=
  if v15 < v14 then
    idx v13 v15 >>= fun x =>
    if (0 : Int) ≤ (List.length path : Int) then
    if Int.toNat (List.length path : Int) ≤ List.length path then
    if (0 : Int) ≤ (List.length path : Int) then
    if Int.toNat (List.length path : Int) = Int.toNat (List.length path : Int) then
    if 0 ≤ Int.toNat (List.length path : Int) then
    if z4F 8 (List.length (List.drop 0 (List.take (Int.toNat (List.length path : Int)) path)) + List.length [v15]) then
    yN x ((List.drop 0 (List.take (Int.toNat (List.length path : Int)) path)) ++ [v15]) size depth >>= fun q1 =>
    zW path v13 v14 (IntKind.wrap .i64 (v15 + 1)) q1.1 q1.2
    else none
    else none
    else none
    else none
    else none
    else none
  else
  some (size, depth)
inductive jI where
  | yN (t : zD) (path : List Int) (size depth : Int)
  | zW (path : List Int) (v13 : List zD) (v14 v15 size depth : Int)
@[reducible] def z3c : jI → Type
  | .yN _ _ _ _ => Int × Int
  | .zW _ _ _ _ _ _ => Int × Int
def z0r (g : Fam z3c) : Fam z3c
  | .yN t path size depth => z0u (fun path v13 v14 v15 size depth => g (jI.zW path v13 v14 v15 size depth)) t path size depth
  | .zW path v13 v14 v15 size depth => jA (fun t path size depth => g (jI.yN t path size depth)) (fun path v13 v14 v15 size depth => g (jI.zW path v13 v14 v15 size depth)) path v13 v14 v15 size depth
theorem z3a : ∀ i, Good (fun g => z0r g i)
  | .yN t path size depth => by unfold z0r z0u; exact (.bind (.const _) fun _ => (.call _))
  | .zW path v13 v14 v15 size depth => by unfold z0r jA; exact (.ite (.bind (.const _) fun _ => (.ite (.ite (.ite (.ite (.ite (.ite (.bind (.call _) fun _ => (.call _)) (.const _)) (.const _)) (.const _)) (.const _)) (.const _)) (.const _))) (.const _))
def yN (t : zD) (path : List Int) (size depth : Int) : Option (Int × Int) := z2Z z0r (.yN t path size depth)
def zW (path : List Int) (v13 : List zD) (v14 v15 size depth : Int) : Option (Int × Int) := z2Z z0r (.zW path v13 v14 v15 size depth)
theorem z7H (t : zD) (path : List Int) (size depth : Int) : yN t path size depth = z0u zW t path size depth := uM z3a (.yN t path size depth)
theorem z3G (path : List Int) (v13 : List zD) (v14 v15 size depth : Int) : zW path v13 v14 v15 size depth = jA yN zW path v13 v14 v15 size depth := uM z3a (.zW path v13 v14 v15 size depth)
def z7e (t : zD) : Option (Int) :=
  yN t [] 0 0 >>= fun q1 =>
  some (q1.2)
def z4y (t : zB) : Option (Int × Int) :=
  if t.K = 4 then
    if t.S = [124, 124] then
      some (1, 1)
    else
    if t.S = [38, 38] then
      some (2, 2)
    else
    if t.S = [61, 61] then
      some (3, 3)
    else
    if t.S = [33, 61] then
      some (4, 3)
    else
    if t.S = [60] then
      some (5, 3)
    else
    if t.S = [60, 61] then
      some (6, 3)
    else
    if t.S = [62] then
      some (7, 3)
    else
    if t.S = [62, 61] then
      some (8, 3)
    else
    if t.S = [43] then
      some (9, 4)
    else
    if t.S = [45] then
      some (10, 4)
    else
    if t.S = [42] then
      some (11, 5)
    else
    if t.S = [47] then
      some (12, 5)
    else
    if t.S = [37] then
      some (13, 5)
    else
    some (0, 0)
  else
  some (0, 0)
def yI (t : zD) (from_ : Int) (t1 : List zB) (at_ e : Int) : Option (zD) :=
  if e = 0 then
    idx t1 from_ >>= fun x =>
    idx t1 (IntKind.wrap .i64 (at_ - 1)) >>= fun x1 =>
    some ({ t with From := x.From, To := x1.To })
  else
  some (t)
def jQ (t : List zB) (at_ e : Int) : Option (zB) :=
  if at_ < (List.length t : Int) then
    idx t at_ >>= fun x =>
    some (x)
  else
  some ((zB.mk 5 0 [] 0 0))
def wX (s : Str) (t : List zB) (at_ e : Int) : Option (Bool) :=
  jQ t at_ e >>= fun q1 =>
  if q1.K = 4 then
    some ((q1.S == s))
  else
  some (false)
def wW (t : List zB) (at_ e : Int) : Option (List zB × Int × Int) :=
  if e = 0 then
    some (t, at_, 6)
  else
  some (t, at_, e)
def vM (s : Str) (t : List zB) (at_ e : Int) : Option (List zB × Int × Int) :=
  if e = 0 then
    wX s t at_ e >>= fun q1 =>
    if q1 = true then
      some (t, IntKind.wrap .i64 (at_ + 1), e)
    else
    wW t at_ e >>= fun q2 =>
    some (q2.1, q2.2.1, q2.2.2)
  else
  some (t, at_, e)
def z0g (t : List zB) (at_ e : Int) : Option (Str × List zB × Int × Int) :=
  if e = 0 then
    jQ t at_ e >>= fun q1 =>
    if q1.K = 1 then
      some (q1.S, t, IntKind.wrap .i64 (at_ + 1), e)
    else
    wW t at_ e >>= fun q2 =>
    some ([], q2.1, q2.2.1, q2.2.2)
  else
  some ([], t, at_, e)
def z1g (zX : Int → (List zB) → Int → Int → Option (zD × List zB × Int × Int)) (t : List zB) (at_ e : Int) : Option (zD × List zB × Int × Int) :=
  zX 1 t at_ e >>= fun q1 =>
  some (q1.1, q1.2.1, q1.2.2.1, q1.2.2.2)
def gN (zT : Int → Int → Int → zD → zD → (List zB) → Int → Int → Option (zD × List zB × Int × Int)) (yP : (List zB) → Int → Int → Option (zD × List zB × Int × Int)) (least : Int) (t : List zB) (at_ e : Int) : Option (zD × List zB × Int × Int) :=
  yP t at_ e >>= fun q1 =>
  zT least at_ 6 (zD.mk 0 0 [] [] 0 0) q1.1 q1.2.1 q1.2.2.1 q1.2.2.2
def wU (zX : Int → (List zB) → Int → Int → Option (zD × List zB × Int × Int)) (zT : Int → Int → Int → zD → zD → (List zB) → Int → Int → Option (zD × List zB × Int × Int)) (least from_ most : Int) (o4 left : zD) (t : List zB) (at_ e : Int) : Option (zD × List zB × Int × Int) :=
  if e = 0 then
    jQ t at_ e >>= fun q1 =>
    z4y q1 >>= fun q2 =>
    if q2.2 < least then
      some (left, t, at_, e)
    else
    if q2.2 = 0 then
      some (left, t, at_, e)
    else
    if q2.2 > most then
      some (left, t, at_, e)
    else
    zX (IntKind.wrap .i64 (q2.2 + 1)) t (IntKind.wrap .i64 (at_ + 1)) e >>= fun q3 =>
    yI (zD.mk 10 q2.1 [] [left, q3.1] 0 0) from_ q3.2.1 q3.2.2.1 q3.2.2.2 >>= fun q4 =>
    if q2.2 = 3 then
      zT least from_ 2 o4 q4 q3.2.1 q3.2.2.1 q3.2.2.2
    else
    zT least from_ q2.2 o4 q4 q3.2.1 q3.2.2.1 q3.2.2.2
  else
  some (left, t, at_, e)
def z0h (yP : (List zB) → Int → Int → Option (zD × List zB × Int × Int)) (vD : (List zB) → Int → Int → Option (zD × List zB × Int × Int)) (t : List zB) (at_ e : Int) : Option (zD × List zB × Int × Int) :=
  if e = 0 then
    wX [45] t at_ e >>= fun q1 =>
    if q1 = true then
      if (1 : Int) = 0 then
        vD t at_ e >>= fun q2 =>
        some (q2.1, q2.2.1, q2.2.2.1, q2.2.2.2)
      else
      yP t (IntKind.wrap .i64 (at_ + 1)) e >>= fun q3 =>
      yI (zD.mk 11 1 [] [q3.1] 0 0) at_ q3.2.1 q3.2.2.1 q3.2.2.2 >>= fun q4 =>
      some (q4, q3.2.1, q3.2.2.1, q3.2.2.2)
    else
    wX [33] t at_ e >>= fun q5 =>
    if q5 = true then
      if (2 : Int) = 0 then
        vD t at_ e >>= fun q6 =>
        some (q6.1, q6.2.1, q6.2.2.1, q6.2.2.2)
      else
      yP t (IntKind.wrap .i64 (at_ + 1)) e >>= fun q7 =>
      yI (zD.mk 11 2 [] [q7.1] 0 0) at_ q7.2.1 q7.2.2.1 q7.2.2.2 >>= fun q8 =>
      some (q8, q7.2.1, q7.2.2.1, q7.2.2.2)
    else
    if (0 : Int) = 0 then
      vD t at_ e >>= fun q9 =>
      some (q9.1, q9.2.1, q9.2.2.1, q9.2.2.2)
    else
    yP t (IntKind.wrap .i64 (at_ + 1)) e >>= fun q10 =>
    yI (zD.mk 11 0 [] [q10.1] 0 0) at_ q10.2.1 q10.2.2.1 q10.2.2.2 >>= fun q11 =>
    some (q11, q10.2.1, q10.2.2.1, q10.2.2.2)
  else
  some ((zD.mk 0 0 [] [] 0 0), t, at_, e)
def z0D (zY : Int → zD → zD → (List zB) → Int → Int → Option (zD × List zB × Int × Int)) (yB : (List zB) → Int → Int → Option (zD × List zB × Int × Int)) (t : List zB) (at_ e : Int) : Option (zD × List zB × Int × Int) :=
  yB t at_ e >>= fun q1 =>
  zY at_ (zD.mk 0 0 [] [] 0 0) q1.1 q1.2.1 q1.2.2.1 q1.2.2.2
def vZ (zM : (List zB) → Int → Int → Option (zD × List zB × Int × Int)) (zY : Int → zD → zD → (List zB) → Int → Int → Option (zD × List zB × Int × Int)) (from_ : Int) (o2 x : zD) (t : List zB) (at_ e : Int) : Option (zD × List zB × Int × Int) :=
  if e = 0 then
    wX [91] t at_ e >>= fun q1 =>
    if q1 = true then
      zM t (IntKind.wrap .i64 (at_ + 1)) e >>= fun q2 =>
      vM [93] q2.2.1 q2.2.2.1 q2.2.2.2 >>= fun q3 =>
      yI (zD.mk 12 0 [] [x, q2.1] 0 0) from_ q3.1 q3.2.1 q3.2.2 >>= fun q4 =>
      zY from_ o2 q4 q3.1 q3.2.1 q3.2.2
    else
    wX [46] t at_ e >>= fun q5 =>
    if q5 = true then
      z0g t (IntKind.wrap .i64 (at_ + 1)) e >>= fun q6 =>
      yI (zD.mk 13 0 q6.1 [x] 0 0) from_ q6.2.1 q6.2.2.1 q6.2.2.2 >>= fun q7 =>
      zY from_ o2 q7 q6.2.1 q6.2.2.1 q6.2.2.2
    else
    some (x, t, at_, e)
  else
  some (x, t, at_, e)
def jE (zV : Bool → (List zB) → Int → Int → Option (List zD × List zB × Int × Int)) (vT : Str → Int → (List zB) → Int → Int → Option (zD × List zB × Int × Int)) (vG : Str → Int → (List zB) → Int → Int → Option (zD × List zB × Int × Int)) (t : List zB) (at_ e : Int) : Option (zD × List zB × Int × Int) :=
  if e = 0 then
    jQ t at_ e >>= fun q1 =>
    if q1.K = 2 then
      yI (zD.mk 5 q1.N [] [] 0 0) at_ t (IntKind.wrap .i64 (at_ + 1)) e >>= fun q2 =>
      some (q2, t, IntKind.wrap .i64 (at_ + 1), e)
    else
    if q1.K = 1 then
      wX [40] t (IntKind.wrap .i64 (at_ + 1)) e >>= fun q3 =>
      if q3 = true then
        zV true t (IntKind.wrap .i64 (at_ + 1)) e >>= fun q4 =>
        yI (zD.mk 16 0 q1.S q4.1 0 0) at_ q4.2.1 q4.2.2.1 q4.2.2.2 >>= fun q5 =>
        some (q5, q4.2.1, q4.2.2.1, q4.2.2.2)
      else
      yI (zD.mk 19 0 q1.S [] 0 0) at_ t (IntKind.wrap .i64 (at_ + 1)) e >>= fun q6 =>
      some (q6, t, IntKind.wrap .i64 (at_ + 1), e)
    else
    if q1.K = 3 then
      vT q1.S at_ t at_ e >>= fun q7 =>
      some (q7.1, q7.2.1, q7.2.2.1, q7.2.2.2)
    else
    if q1.K = 4 then
      vG q1.S at_ t at_ e >>= fun q8 =>
      some (q8.1, q8.2.1, q8.2.2.1, q8.2.2.2)
    else
    wW t at_ e >>= fun q9 =>
    some ((zD.mk 0 0 [] [] 0 0), q9.1, q9.2.1, q9.2.2)
  else
  some ((zD.mk 0 0 [] [] 0 0), t, at_, e)
def gI (zO : (List zB) → Int → Int → Option (List zD × List zB × Int × Int)) (few : Bool) (t : List zB) (at_ e : Int) : Option (List zD × List zB × Int × Int) :=
  vM [40] t at_ e >>= fun q1 =>
  if q1.2.2 = 0 then
    if few = true then
      wX [41] q1.1 q1.2.1 q1.2.2 >>= fun q2 =>
      if q2 = true then
        some (([] : List zD), q1.1, IntKind.wrap .i64 (q1.2.1 + 1), q1.2.2)
      else
      zO q1.1 q1.2.1 q1.2.2 >>= fun q3 =>
      vM [41] q3.2.1 q3.2.2.1 q3.2.2.2 >>= fun q4 =>
      some (q3.1, q4.1, q4.2.1, q4.2.2)
    else
    zO q1.1 q1.2.1 q1.2.2 >>= fun q5 =>
    vM [41] q5.2.1 q5.2.2.1 q5.2.2.2 >>= fun q6 =>
    some (q5.1, q6.1, q6.2.1, q6.2.2)
  else
  zO q1.1 q1.2.1 q1.2.2 >>= fun q7 =>
  vM [41] q7.2.1 q7.2.2.1 q7.2.2.2 >>= fun q8 =>
  some (q7.1, q8.1, q8.2.1, q8.2.2)
def uN (zV : Bool → (List zB) → Int → Int → Option (List zD × List zB × Int × Int)) (s : Str) (from_ : Int) (t : List zB) (at_ e : Int) : Option (zD × List zB × Int × Int) :=
  if s = [116, 114, 117, 101] then
    yI (zD.mk 6 1 [] [] 0 0) from_ t (IntKind.wrap .i64 (at_ + 1)) e >>= fun q1 =>
    some (q1, t, IntKind.wrap .i64 (at_ + 1), e)
  else
  if s = [102, 97, 108, 115, 101] then
    yI (zD.mk 6 0 [] [] 0 0) from_ t (IntKind.wrap .i64 (at_ + 1)) e >>= fun q2 =>
    some (q2, t, IntKind.wrap .i64 (at_ + 1), e)
  else
  if s = [114, 101, 97, 100] then
    yI (zD.mk 18 0 [] [] 0 0) from_ t (IntKind.wrap .i64 (at_ + 1)) e >>= fun q3 =>
    some (q3, t, IntKind.wrap .i64 (at_ + 1), e)
  else
  if s = [110, 101, 119] then
    z0g t (IntKind.wrap .i64 (at_ + 1)) e >>= fun q4 =>
    zV false q4.2.1 q4.2.2.1 q4.2.2.2 >>= fun q5 =>
    yI (zD.mk 15 0 q4.1 q5.1 0 0) from_ q5.2.1 q5.2.2.1 q5.2.2.2 >>= fun q6 =>
    some (q6, q5.2.1, q5.2.2.1, q5.2.2.2)
  else
  wW t (IntKind.wrap .i64 ((IntKind.wrap .i64 (at_ + 1)) - 1)) e >>= fun q7 =>
  some ((zD.mk 0 0 [] [] 0 0), q7.1, q7.2.1, q7.2.2)
def vI (zM : (List zB) → Int → Int → Option (zD × List zB × Int × Int)) (zV : Bool → (List zB) → Int → Int → Option (List zD × List zB × Int × Int)) (zO : (List zB) → Int → Int → Option (List zD × List zB × Int × Int)) (s : Str) (from_ : Int) (t : List zB) (at_ e : Int) : Option (zD × List zB × Int × Int) :=
  if s = [40] then
    zM t (IntKind.wrap .i64 (at_ + 1)) e >>= fun q1 =>
    vM [41] q1.2.1 q1.2.2.1 q1.2.2.2 >>= fun q2 =>
    some (q1.1, q2.1, q2.2.1, q2.2.2)
  else
  if s = [91] then
    zO t (IntKind.wrap .i64 (at_ + 1)) e >>= fun q3 =>
    vM [93] q3.2.1 q3.2.2.1 q3.2.2.2 >>= fun q4 =>
    yI (zD.mk 14 0 [] q3.1 0 0) from_ q4.1 q4.2.1 q4.2.2 >>= fun q5 =>
    some (q5, q4.1, q4.2.1, q4.2.2)
  else
  if s = [64] then
    z0g t (IntKind.wrap .i64 (at_ + 1)) e >>= fun q6 =>
    zV true q6.2.1 q6.2.2.1 q6.2.2.2 >>= fun q7 =>
    yI (zD.mk 17 0 q6.1 q7.1 0 0) from_ q7.2.1 q7.2.2.1 q7.2.2.2 >>= fun q8 =>
    some (q8, q7.2.1, q7.2.2.1, q7.2.2.2)
  else
  wW t (IntKind.wrap .i64 ((IntKind.wrap .i64 (at_ + 1)) - 1)) e >>= fun q9 =>
  some ((zD.mk 0 0 [] [] 0 0), q9.1, q9.2.1, q9.2.2)
def uI (zM : (List zB) → Int → Int → Option (zD × List zB × Int × Int)) (zJ : (List zD) → (List zB) → Int → Int → Option (List zD × List zB × Int × Int)) (t : List zB) (at_ e : Int) : Option (List zD × List zB × Int × Int) :=
  zM t at_ e >>= fun q1 =>
  zJ [q1.1] q1.2.1 q1.2.2.1 q1.2.2.2
def vJ (zM : (List zB) → Int → Int → Option (zD × List zB × Int × Int)) (zJ : (List zD) → (List zB) → Int → Int → Option (List zD × List zB × Int × Int)) (out : List zD) (t : List zB) (at_ e : Int) : Option (List zD × List zB × Int × Int) :=
  if e = 0 then
    wX [44] t at_ e >>= fun q1 =>
    if q1 = true then
      zM t (IntKind.wrap .i64 (at_ + 1)) e >>= fun q2 =>
      if z4F 72 (List.length out + List.length [q2.1]) then
      zJ (out ++ [q2.1]) q2.2.1 q2.2.2.1 q2.2.2.2
      else none
    else
    some (out, t, at_, e)
  else
  some (out, t, at_, e)
inductive zN where
  | zM (t : List zB) (at_ e : Int)
  | zX (least : Int) (t : List zB) (at_ e : Int)
  | zT (least from_ most : Int) (o4 left : zD) (t : List zB) (at_ e : Int)
  | yP (t : List zB) (at_ e : Int)
  | vD (t : List zB) (at_ e : Int)
  | zY (from_ : Int) (o2 x : zD) (t : List zB) (at_ e : Int)
  | yB (t : List zB) (at_ e : Int)
  | zV (few : Bool) (t : List zB) (at_ e : Int)
  | vT (s : Str) (from_ : Int) (t : List zB) (at_ e : Int)
  | vG (s : Str) (from_ : Int) (t : List zB) (at_ e : Int)
  | zO (t : List zB) (at_ e : Int)
  | zJ (out : List zD) (t : List zB) (at_ e : Int)
@[reducible] def z4n : zN → Type
  | .zM _ _ _ => zD × List zB × Int × Int
  | .zX _ _ _ _ => zD × List zB × Int × Int
  | .zT _ _ _ _ _ _ _ _ => zD × List zB × Int × Int
  | .yP _ _ _ => zD × List zB × Int × Int
  | .vD _ _ _ => zD × List zB × Int × Int
  | .zY _ _ _ _ _ _ => zD × List zB × Int × Int
  | .yB _ _ _ => zD × List zB × Int × Int
  | .zV _ _ _ _ => List zD × List zB × Int × Int
  | .vT _ _ _ _ _ => zD × List zB × Int × Int
  | .vG _ _ _ _ _ => zD × List zB × Int × Int
  | .zO _ _ _ => List zD × List zB × Int × Int
  | .zJ _ _ _ _ => List zD × List zB × Int × Int
def yG (g : Fam z4n) : Fam z4n
  | .zM t at_ e => z1g (fun least t at_ e => g (zN.zX least t at_ e)) t at_ e
  | .zX least t at_ e => gN (fun least from_ most o4 left t at_ e => g (zN.zT least from_ most o4 left t at_ e)) (fun t at_ e => g (zN.yP t at_ e)) least t at_ e
  | .zT least from_ most o4 left t at_ e => wU (fun least t at_ e => g (zN.zX least t at_ e)) (fun least from_ most o4 left t at_ e => g (zN.zT least from_ most o4 left t at_ e)) least from_ most o4 left t at_ e
  | .yP t at_ e => z0h (fun t at_ e => g (zN.yP t at_ e)) (fun t at_ e => g (zN.vD t at_ e)) t at_ e
  | .vD t at_ e => z0D (fun from_ o2 x t at_ e => g (zN.zY from_ o2 x t at_ e)) (fun t at_ e => g (zN.yB t at_ e)) t at_ e
  | .zY from_ o2 x t at_ e => vZ (fun t at_ e => g (zN.zM t at_ e)) (fun from_ o2 x t at_ e => g (zN.zY from_ o2 x t at_ e)) from_ o2 x t at_ e
  | .yB t at_ e => jE (fun few t at_ e => g (zN.zV few t at_ e)) (fun s from_ t at_ e => g (zN.vT s from_ t at_ e)) (fun s from_ t at_ e => g (zN.vG s from_ t at_ e)) t at_ e
  | .zV few t at_ e => gI (fun t at_ e => g (zN.zO t at_ e)) few t at_ e
  | .vT s from_ t at_ e => uN (fun few t at_ e => g (zN.zV few t at_ e)) s from_ t at_ e
  | .vG s from_ t at_ e => vI (fun t at_ e => g (zN.zM t at_ e)) (fun few t at_ e => g (zN.zV few t at_ e)) (fun t at_ e => g (zN.zO t at_ e)) s from_ t at_ e
  | .zO t at_ e => uI (fun t at_ e => g (zN.zM t at_ e)) (fun out t at_ e => g (zN.zJ out t at_ e)) t at_ e
  | .zJ out t at_ e => vJ (fun t at_ e => g (zN.zM t at_ e)) (fun out t at_ e => g (zN.zJ out t at_ e)) out t at_ e
theorem wQ : ∀ i, Good (fun g => yG g i)
  | .zM t at_ e => by unfold yG z1g; exact (.bind (.call _) fun _ => (.const _))
  | .zX least t at_ e => by unfold yG gN; exact (.bind (.call _) fun _ => (.call _))
  | .zT least from_ most o4 left t at_ e => by unfold yG wU; exact (.ite (.bind (.const _) fun _ => (.bind (.const _) fun _ => (.ite (.const _) (.ite (.const _) (.ite (.const _) (.bind (.call _) fun _ => (.bind (.const _) fun _ => (.ite (.call _) (.call _))))))))) (.const _))
  | .yP t at_ e => by unfold yG z0h; exact (.ite (.bind (.const _) fun _ => (.ite (.ite (.bind (.call _) fun _ => (.const _)) (.bind (.call _) fun _ => (.bind (.const _) fun _ => (.const _)))) (.bind (.const _) fun _ => (.ite (.ite (.bind (.call _) fun _ => (.const _)) (.bind (.call _) fun _ => (.bind (.const _) fun _ => (.const _)))) (.ite (.bind (.call _) fun _ => (.const _)) (.bind (.call _) fun _ => (.bind (.const _) fun _ => (.const _)))))))) (.const _))
  | .vD t at_ e => by unfold yG z0D; exact (.bind (.call _) fun _ => (.call _))
  | .zY from_ o2 x t at_ e => by unfold yG vZ; exact (.ite (.bind (.const _) fun _ => (.ite (.bind (.call _) fun _ => (.bind (.const _) fun _ => (.bind (.const _) fun _ => (.call _)))) (.bind (.const _) fun _ => (.ite (.bind (.const _) fun _ => (.bind (.const _) fun _ => (.call _))) (.const _))))) (.const _))
  | .yB t at_ e => by unfold yG jE; exact (.ite (.bind (.const _) fun _ => (.ite (.bind (.const _) fun _ => (.const _)) (.ite (.bind (.const _) fun _ => (.ite (.bind (.call _) fun _ => (.bind (.const _) fun _ => (.const _))) (.bind (.const _) fun _ => (.const _)))) (.ite (.bind (.call _) fun _ => (.const _)) (.ite (.bind (.call _) fun _ => (.const _)) (.bind (.const _) fun _ => (.const _))))))) (.const _))
  | .zV few t at_ e => by unfold yG gI; exact (.bind (.const _) fun _ => (.ite (.ite (.bind (.const _) fun _ => (.ite (.const _) (.bind (.call _) fun _ => (.bind (.const _) fun _ => (.const _))))) (.bind (.call _) fun _ => (.bind (.const _) fun _ => (.const _)))) (.bind (.call _) fun _ => (.bind (.const _) fun _ => (.const _)))))
  | .vT s from_ t at_ e => by unfold yG uN; exact (.ite (.bind (.const _) fun _ => (.const _)) (.ite (.bind (.const _) fun _ => (.const _)) (.ite (.bind (.const _) fun _ => (.const _)) (.ite (.bind (.const _) fun _ => (.bind (.call _) fun _ => (.bind (.const _) fun _ => (.const _)))) (.bind (.const _) fun _ => (.const _))))))
  | .vG s from_ t at_ e => by unfold yG vI; exact (.ite (.bind (.call _) fun _ => (.bind (.const _) fun _ => (.const _))) (.ite (.bind (.call _) fun _ => (.bind (.const _) fun _ => (.bind (.const _) fun _ => (.const _)))) (.ite (.bind (.const _) fun _ => (.bind (.call _) fun _ => (.bind (.const _) fun _ => (.const _)))) (.bind (.const _) fun _ => (.const _)))))
  | .zO t at_ e => by unfold yG uI; exact (.bind (.call _) fun _ => (.call _))
  | .zJ out t at_ e => by unfold yG vJ; exact (.ite (.bind (.const _) fun _ => (.ite (.bind (.call _) fun _ => (.ite (.call _) (.const _))) (.const _))) (.const _))
def zM (t : List zB) (at_ e : Int) : Option (zD × List zB × Int × Int) := z2Z yG (.zM t at_ e)
def zX (least : Int) (t : List zB) (at_ e : Int) : Option (zD × List zB × Int × Int) := z2Z yG (.zX least t at_ e)
def zT (least from_ most : Int) (o4 left : zD) (t : List zB) (at_ e : Int) : Option (zD × List zB × Int × Int) := z2Z yG (.zT least from_ most o4 left t at_ e)
def yP (t : List zB) (at_ e : Int) : Option (zD × List zB × Int × Int) := z2Z yG (.yP t at_ e)
def vD (t : List zB) (at_ e : Int) : Option (zD × List zB × Int × Int) := z2Z yG (.vD t at_ e)
def zY (from_ : Int) (o2 x : zD) (t : List zB) (at_ e : Int) : Option (zD × List zB × Int × Int) := z2Z yG (.zY from_ o2 x t at_ e)
def yB (t : List zB) (at_ e : Int) : Option (zD × List zB × Int × Int) := z2Z yG (.yB t at_ e)
def zV (few : Bool) (t : List zB) (at_ e : Int) : Option (List zD × List zB × Int × Int) := z2Z yG (.zV few t at_ e)
def vT (s : Str) (from_ : Int) (t : List zB) (at_ e : Int) : Option (zD × List zB × Int × Int) := z2Z yG (.vT s from_ t at_ e)
def vG (s : Str) (from_ : Int) (t : List zB) (at_ e : Int) : Option (zD × List zB × Int × Int) := z2Z yG (.vG s from_ t at_ e)
def zO (t : List zB) (at_ e : Int) : Option (List zD × List zB × Int × Int) := z2Z yG (.zO t at_ e)
def zJ (out : List zD) (t : List zB) (at_ e : Int) : Option (List zD × List zB × Int × Int) := z2Z yG (.zJ out t at_ e)
theorem z5V (t : List zB) (at_ e : Int) : zM t at_ e = z1g zX t at_ e := uM wQ (.zM t at_ e)
theorem z3y (least : Int) (t : List zB) (at_ e : Int) : zX least t at_ e = gN zT yP least t at_ e := uM wQ (.zX least t at_ e)
theorem gV (least from_ most : Int) (o4 left : zD) (t : List zB) (at_ e : Int) : zT least from_ most o4 left t at_ e = wU zX zT least from_ most o4 left t at_ e := uM wQ (.zT least from_ most o4 left t at_ e)
theorem z3l (t : List zB) (at_ e : Int) : yP t at_ e = z0h yP vD t at_ e := uM wQ (.yP t at_ e)
theorem z5X (t : List zB) (at_ e : Int) : vD t at_ e = z0D zY yB t at_ e := uM wQ (.vD t at_ e)
theorem jY (from_ : Int) (o2 x : zD) (t : List zB) (at_ e : Int) : zY from_ o2 x t at_ e = vZ zM zY from_ o2 x t at_ e := uM wQ (.zY from_ o2 x t at_ e)
theorem z1D (t : List zB) (at_ e : Int) : yB t at_ e = jE zV vT vG t at_ e := uM wQ (.yB t at_ e)
theorem z2F (few : Bool) (t : List zB) (at_ e : Int) : zV few t at_ e = gI zO few t at_ e := uM wQ (.zV few t at_ e)
theorem z0U (s : Str) (from_ : Int) (t : List zB) (at_ e : Int) : vT s from_ t at_ e = uN zV s from_ t at_ e := uM wQ (.vT s from_ t at_ e)
theorem uH (s : Str) (from_ : Int) (t : List zB) (at_ e : Int) : vG s from_ t at_ e = vI zM zV zO s from_ t at_ e := uM wQ (.vG s from_ t at_ e)
theorem z2p (t : List zB) (at_ e : Int) : zO t at_ e = uI zM zJ t at_ e := uM wQ (.zO t at_ e)
theorem z0z (out : List zD) (t : List zB) (at_ e : Int) : zJ out t at_ e = vJ zM zJ out t at_ e := uM wQ (.zJ out t at_ e)
def z0M (t : List zB) (at_ : Int) : Option (zD × Int × Int) :=
  if at_ < 0 then
    some ((zD.mk 0 0 [] [] 0 0), 0, 13)
  else
  if at_ > (List.length t : Int) then
    some ((zD.mk 0 0 [] [] 0 0), 0, 13)
  else
  zM t at_ 0 >>= fun q1 =>
  if q1.2.2.2 = 0 then
    some (q1.1, q1.2.2.1, 0)
  else
  some ((zD.mk 0 0 [] [] 0 0), q1.2.2.1, q1.2.2.2)
def z0T (t : List zB) (at_ : Int) : Option (zD × Int × Int) :=
  z0M t at_ >>= fun q1 =>
  some (q1.1, q1.2.1, q1.2.2)
def jV (k : Int) (s : Str) (t : List zB) (at_ e K N : Int) (S : Str) (L : List zD) (From To : Int) : Option (Bool) :=
  idx t at_ >>= fun x =>
  if x.K = k then
    idx t at_ >>= fun x1 =>
    some ((x1.S == s))
  else
  some (false)
def z0q (t : List zB) (at_ e K N : Int) (S : Str) (L : List zD) (From To : Int) : Option (zD × List zB × Int × Int × Int × Int × Str × List zD × Int × Int) :=
  if e = 0 then
    idx t at_ >>= fun x =>
    if x.K = 2 then
      if (0 : Int) ≤ (IntKind.wrap .i64 (at_ + 1)) then
      if Int.toNat (IntKind.wrap .i64 (at_ + 1)) ≤ List.length t then
      if (0 : Int) ≤ at_ then
      if Int.toNat at_ ≤ Int.toNat (IntKind.wrap .i64 (at_ + 1)) then
      z0T (List.drop (Int.toNat at_) (List.take (Int.toNat (IntKind.wrap .i64 (at_ + 1))) t)) 0 >>= fun q5 =>
      some (q5.1, t, IntKind.wrap .i64 (at_ + 1), e, K, N, S, L, From, To)
      else none
      else none
      else none
      else none
    else
    jV 3 [116, 114, 117, 101] t at_ e K N S L From To >>= fun q1 =>
    if q1 = true then
      if (0 : Int) ≤ (IntKind.wrap .i64 (at_ + 1)) then
      if Int.toNat (IntKind.wrap .i64 (at_ + 1)) ≤ List.length t then
      if (0 : Int) ≤ at_ then
      if Int.toNat at_ ≤ Int.toNat (IntKind.wrap .i64 (at_ + 1)) then
      z0T (List.drop (Int.toNat at_) (List.take (Int.toNat (IntKind.wrap .i64 (at_ + 1))) t)) 0 >>= fun q4 =>
      some (q4.1, t, IntKind.wrap .i64 (at_ + 1), e, K, N, S, L, From, To)
      else none
      else none
      else none
      else none
    else
    jV 3 [102, 97, 108, 115, 101] t at_ e K N S L From To >>= fun q2 =>
    if q2 = true then
      if (0 : Int) ≤ (IntKind.wrap .i64 (at_ + 1)) then
      if Int.toNat (IntKind.wrap .i64 (at_ + 1)) ≤ List.length t then
      if (0 : Int) ≤ at_ then
      if Int.toNat at_ ≤ Int.toNat (IntKind.wrap .i64 (at_ + 1)) then
      z0T (List.drop (Int.toNat at_) (List.take (Int.toNat (IntKind.wrap .i64 (at_ + 1))) t)) 0 >>= fun q3 =>
      some (q3.1, t, IntKind.wrap .i64 (at_ + 1), e, K, N, S, L, From, To)
      else none
      else none
      else none
      else none
    else
    some ((zD.mk 0 0 [] [] 0 0), t, at_, 6, K, N, S, L, From, To)
  else
  some ((zD.mk 0 0 [] [] 0 0), t, at_, e, K, N, S, L, From, To)
def wA (k n : Int) (s : Str) (from_ : Int) (parts : List zD) (t : List zB) (at_ e K N : Int) (S : Str) (L : List zD) (From To : Int) : Option (zD) :=
  if e = 0 then
    idx t from_ >>= fun x =>
    idx t (IntKind.wrap .i64 (at_ - 1)) >>= fun x1 =>
    some ((zD.mk k n s parts x.From x1.To))
  else
  some ((zD.mk 0 0 [] [] 0 0))
def wY (t : List zB) (at_ e K N : Int) (S : Str) (L : List zD) (From To : Int) : Option (Str × List zB × Int × Int × Int × Int × Str × List zD × Int × Int) :=
  if e = 0 then
    idx t at_ >>= fun x =>
    if x.K = 1 then
      idx t (IntKind.wrap .i64 ((IntKind.wrap .i64 (at_ + 1)) - 1)) >>= fun x1 =>
      some (x1.S, t, IntKind.wrap .i64 (at_ + 1), e, K, N, S, L, From, To)
    else
    some ([], t, at_, 6, K, N, S, L, From, To)
  else
  some ([], t, at_, e, K, N, S, L, From, To)
def gS (k : Int) (s : Str) (t : List zB) (at_ e K N : Int) (S : Str) (L : List zD) (From To : Int) : Option (Bool × List zB × Int × Int × Int × Int × Str × List zD × Int × Int) :=
  if e = 0 then
    jV k s t at_ e K N S L From To >>= fun q1 =>
    if q1 = true then
      some (true, t, IntKind.wrap .i64 (at_ + 1), e, K, N, S, L, From, To)
    else
    some (false, t, at_, e, K, N, S, L, From, To)
  else
  some (false, t, at_, e, K, N, S, L, From, To)
def yM (k : Int) (s : Str) (t : List zB) (at_ e K N : Int) (S : Str) (L : List zD) (From To : Int) : Option (List zB × Int × Int × Int × Int × Str × List zD × Int × Int) :=
  if e = 0 then
    gS k s t at_ e K N S L From To >>= fun q1 =>
    if q1.1 = true then
      some (q1.2.1, q1.2.2.1, q1.2.2.2.1, q1.2.2.2.2.1, q1.2.2.2.2.2.1, q1.2.2.2.2.2.2.1, q1.2.2.2.2.2.2.2.1, q1.2.2.2.2.2.2.2.2.1, q1.2.2.2.2.2.2.2.2.2)
    else
    some (q1.2.1, q1.2.2.1, 6, q1.2.2.2.2.1, q1.2.2.2.2.2.1, q1.2.2.2.2.2.2.1, q1.2.2.2.2.2.2.2.1, q1.2.2.2.2.2.2.2.2.1, q1.2.2.2.2.2.2.2.2.2)
  else
  some (t, at_, e, K, N, S, L, From, To)
def z1i (t : List zB) (at_ e K N : Int) (S : Str) (L : List zD) (From To : Int) : Option (zD × List zB × Int × Int × Int × Int × Str × List zD × Int × Int) :=
  wY t (IntKind.wrap .i64 (at_ + 1)) e K N S L From To >>= fun q1 =>
  yM 4 [61] q1.2.1 q1.2.2.1 q1.2.2.2.1 q1.2.2.2.2.1 q1.2.2.2.2.2.1 q1.2.2.2.2.2.2.1 q1.2.2.2.2.2.2.2.1 q1.2.2.2.2.2.2.2.2.1 q1.2.2.2.2.2.2.2.2.2 >>= fun q2 =>
  z0q q2.1 q2.2.1 q2.2.2.1 q2.2.2.2.1 q2.2.2.2.2.1 q2.2.2.2.2.2.1 q2.2.2.2.2.2.2.1 q2.2.2.2.2.2.2.2.1 q2.2.2.2.2.2.2.2.2 >>= fun q3 =>
  yM 4 [59] q3.2.1 q3.2.2.1 q3.2.2.2.1 q3.2.2.2.2.1 q3.2.2.2.2.2.1 q3.2.2.2.2.2.2.1 q3.2.2.2.2.2.2.2.1 q3.2.2.2.2.2.2.2.2.1 q3.2.2.2.2.2.2.2.2.2 >>= fun q4 =>
  wA 31 0 q1.1 at_ [q3.1] q4.1 q4.2.1 q4.2.2.1 q4.2.2.2.1 q4.2.2.2.2.1 q4.2.2.2.2.2.1 q4.2.2.2.2.2.2.1 q4.2.2.2.2.2.2.2.1 q4.2.2.2.2.2.2.2.2 >>= fun q5 =>
  some (q5, q4.1, q4.2.1, q4.2.2.1, q4.2.2.2.1, q4.2.2.2.2.1, q4.2.2.2.2.2.1, q4.2.2.2.2.2.2.1, q4.2.2.2.2.2.2.2.1, q4.2.2.2.2.2.2.2.2)
def z1c (t : List zB) (at_ e : Int) : Option (zB) :=
  if at_ < (List.length t : Int) then
    idx t at_ >>= fun x =>
    some (x)
  else
  some ((zB.mk 5 0 [] 0 0))
def jG (k : Int) (s : Str) (t : List zB) (at_ e : Int) : Option (Bool) :=
  z1c t at_ e >>= fun q1 =>
  if q1.K = k then
    some ((q1.S == s))
  else
  some (false)
def yY (k : Int) (s : Str) (from_ : Int) (parts : List zD) (t : List zB) (at_ e : Int) : Option (zD) :=
  if e = 0 then
    idx t from_ >>= fun x =>
    idx t (IntKind.wrap .i64 (at_ - 1)) >>= fun x1 =>
    some ((zD.mk k 0 s parts x.From x1.To))
  else
  some ((zD.mk 0 0 [] [] 0 0))
def yC (k : Int) (s : Str) (t : List zB) (at_ e : Int) : Option (List zB × Int × Int) :=
  if e = 0 then
    jG k s t at_ e >>= fun q1 =>
    if q1 = true then
      some (t, IntKind.wrap .i64 (at_ + 1), e)
    else
    some (t, at_, 6)
  else
  some (t, at_, e)
def z1r (t : zB) : Option (Nat) :=
  if t.K = 4 then
    if t.S = [123] then
      some (69)
    else
    some (92)
  else
  if t.K = 3 then
    if t.S = [108, 101, 116] then
      some (93)
    else
    if t.S = [105, 102] then
      some (94)
    else
    if t.S = [119, 104, 105, 108, 101] then
      some (95)
    else
    if t.S = [102, 111, 114] then
      some (96)
    else
    if t.S = [112, 114, 105, 110, 116] then
      some (97)
    else
    if t.S = [114, 101, 116, 117, 114, 110] then
      some (98)
    else
    if t.S = [100, 111] then
      some (99)
    else
    some (92)
  else
  some (92)
def uO (t : List zB) (at_ e : Int) : Option (zD × List zB × Int × Int) :=
  if e = 0 then
    if at_ > (List.length t : Int) then
      some ((zD.mk 0 0 [] [] 0 0), t, at_, 6)
    else
    z0T t at_ >>= fun q1 =>
    some (q1.1, t, q1.2.1, q1.2.2)
  else
  some ((zD.mk 0 0 [] [] 0 0), t, at_, e)
def yX (t : List zB) (at_ e : Int) : Option (zD × List zB × Int × Int) :=
  uO t at_ e >>= fun q1 =>
  some (q1.1, q1.2.1, q1.2.2.1, q1.2.2.2)
def gJ (k : Int) (t : List zB) (at_ e : Int) : Option (zD × List zB × Int × Int) :=
  yX t (IntKind.wrap .i64 (at_ + 1)) e >>= fun q1 =>
  yC 4 [59] q1.2.1 q1.2.2.1 q1.2.2.2 >>= fun q2 =>
  yY k [] at_ [q1.1] q2.1 q2.2.1 q2.2.2 >>= fun q3 =>
  some (q3, q2.1, q2.2.1, q2.2.2)
def z2J (t : List zB) (at_ e : Int) : Option (zD × List zB × Int × Int) :=
  gJ 27 t at_ e >>= fun q1 =>
  some (q1.1, q1.2.1, q1.2.2.1, q1.2.2.2)
def z2K (t : List zB) (at_ e : Int) : Option (zD × List zB × Int × Int) :=
  gJ 28 t at_ e >>= fun q1 =>
  some (q1.1, q1.2.1, q1.2.2.1, q1.2.2.2)
def jR (t : List zB) (at_ e : Int) : Option (Str × List zB × Int × Int) :=
  if e = 0 then
    z1c t at_ e >>= fun q1 =>
    if q1.K = 1 then
      some (q1.S, t, IntKind.wrap .i64 (at_ + 1), e)
    else
    some ([], t, at_, 6)
  else
  some ([], t, at_, e)
def z0C (yW : (List zB) → Int → Int → Option (zD × List zB × Int × Int)) (t : List zB) (at_ e : Int) : Option (zD × List zB × Int × Int) :=
  if e = 0 then
    jQ t at_ e >>= fun q1 =>
    if q1.K = 3 then
      if q1.S = [105, 110, 116] then
        yI (zD.mk 1 0 [] [] 0 0) at_ t (IntKind.wrap .i64 (at_ + 1)) e >>= fun q2 =>
        some (q2, t, IntKind.wrap .i64 (at_ + 1), e)
      else
      if q1.S = [98, 111, 111, 108] then
        yI (zD.mk 2 0 [] [] 0 0) at_ t (IntKind.wrap .i64 (at_ + 1)) e >>= fun q3 =>
        some (q3, t, IntKind.wrap .i64 (at_ + 1), e)
      else
      wX [91] t at_ e >>= fun q5 =>
      if q5 = true then
        jQ t (IntKind.wrap .i64 (at_ + 1)) e >>= fun q6 =>
        if q6.K = 2 then
          vM [93] t (IntKind.wrap .i64 ((IntKind.wrap .i64 (at_ + 1)) + 1)) e >>= fun q8 =>
          yW q8.1 q8.2.1 q8.2.2 >>= fun q9 =>
          yI (zD.mk 3 q6.N [] [q9.1] 0 0) at_ q9.2.1 q9.2.2.1 q9.2.2.2 >>= fun q10 =>
          some (q10, q9.2.1, q9.2.2.1, q9.2.2.2)
        else
        wW t (IntKind.wrap .i64 (at_ + 1)) e >>= fun q7 =>
        some ((zD.mk 0 0 [] [] 0 0), q7.1, q7.2.1, q7.2.2)
      else
      wW t at_ e >>= fun q11 =>
      some ((zD.mk 0 0 [] [] 0 0), q11.1, q11.2.1, q11.2.2)
    else
    if q1.K = 1 then
      yI (zD.mk 4 0 q1.S [] 0 0) at_ t (IntKind.wrap .i64 (at_ + 1)) e >>= fun q29 =>
      some (q29, t, IntKind.wrap .i64 (at_ + 1), e)
    else
    wX [91] t at_ e >>= fun q30 =>
    if q30 = true then
      jQ t (IntKind.wrap .i64 (at_ + 1)) e >>= fun q31 =>
      if q31.K = 2 then
        vM [93] t (IntKind.wrap .i64 ((IntKind.wrap .i64 (at_ + 1)) + 1)) e >>= fun q33 =>
        yW q33.1 q33.2.1 q33.2.2 >>= fun q34 =>
        yI (zD.mk 3 q31.N [] [q34.1] 0 0) at_ q34.2.1 q34.2.2.1 q34.2.2.2 >>= fun q35 =>
        some (q35, q34.2.1, q34.2.2.1, q34.2.2.2)
      else
      wW t (IntKind.wrap .i64 (at_ + 1)) e >>= fun q32 =>
      some ((zD.mk 0 0 [] [] 0 0), q32.1, q32.2.1, q32.2.2)
    else
    wW t at_ e >>= fun q36 =>
    some ((zD.mk 0 0 [] [] 0 0), q36.1, q36.2.1, q36.2.2)
  else
  some ((zD.mk 0 0 [] [] 0 0), t, at_, e)
inductive z2T where
  | yW (t : List zB) (at_ e : Int)
@[reducible] def z4o : z2T → Type
  | .yW _ _ _ => zD × List zB × Int × Int
def z2S (g : Fam z4o) : Fam z4o
  | .yW t at_ e => z0C (fun t at_ e => g (z2T.yW t at_ e)) t at_ e
theorem z6b : ∀ i, Good (fun g => z2S g i)
  | .yW t at_ e => by unfold z2S z0C; exact (.ite (.bind (.const _) fun _ => (.ite (.ite (.bind (.const _) fun _ => (.const _)) (.ite (.bind (.const _) fun _ => (.const _)) (.bind (.const _) fun _ => (.ite (.bind (.const _) fun _ => (.ite (.bind (.const _) fun _ => (.bind (.call _) fun _ => (.bind (.const _) fun _ => (.const _)))) (.bind (.const _) fun _ => (.const _)))) (.bind (.const _) fun _ => (.const _)))))) (.ite (.bind (.const _) fun _ => (.const _)) (.bind (.const _) fun _ => (.ite (.bind (.const _) fun _ => (.ite (.bind (.const _) fun _ => (.bind (.call _) fun _ => (.bind (.const _) fun _ => (.const _)))) (.bind (.const _) fun _ => (.const _)))) (.bind (.const _) fun _ => (.const _))))))) (.const _))
def yW (t : List zB) (at_ e : Int) : Option (zD × List zB × Int × Int) := z2Z z2S (.yW t at_ e)
theorem z5W (t : List zB) (at_ e : Int) : yW t at_ e = z0C yW t at_ e := uM z6b (.yW t at_ e)
def z0d (t : List zB) (at_ : Int) : Option (zD × Int × Int) :=
  if at_ < 0 then
    some ((zD.mk 0 0 [] [] 0 0), 0, 13)
  else
  if at_ > (List.length t : Int) then
    some ((zD.mk 0 0 [] [] 0 0), 0, 13)
  else
  yW t at_ 0 >>= fun q1 =>
  if q1.2.2.2 = 0 then
    some (q1.1, q1.2.2.1, 0)
  else
  some ((zD.mk 0 0 [] [] 0 0), q1.2.2.1, q1.2.2.2)
def z5l (t : List zB) (at_ : Int) : Option (zD × Int × Int) :=
  z0d t at_ >>= fun q1 =>
  some (q1.1, q1.2.1, q1.2.2)
def wC (t : List zB) (at_ e : Int) : Option (zD × List zB × Int × Int) :=
  if e = 0 then
    if at_ > (List.length t : Int) then
      some ((zD.mk 0 0 [] [] 0 0), t, at_, 6)
    else
    z5l t at_ >>= fun q1 =>
    some (q1.1, t, q1.2.1, q1.2.2)
  else
  some ((zD.mk 0 0 [] [] 0 0), t, at_, e)
def z0F (t : List zB) (at_ e : Int) : Option (zD × List zB × Int × Int) :=
  jR t (IntKind.wrap .i64 (at_ + 1)) e >>= fun q1 =>
  if q1.2.2.2 = 0 then
    jG 4 [58] q1.2.1 q1.2.2.1 q1.2.2.2 >>= fun q2 =>
    if q2 = true then
      wC q1.2.1 (IntKind.wrap .i64 (q1.2.2.1 + 1)) q1.2.2.2 >>= fun q3 =>
      yC 4 [59] q3.2.1 q3.2.2.1 q3.2.2.2 >>= fun q4 =>
      yY 21 q1.1 at_ [q3.1] q4.1 q4.2.1 q4.2.2 >>= fun q5 =>
      some (q5, q4.1, q4.2.1, q4.2.2)
    else
    yC 4 [61] q1.2.1 q1.2.2.1 q1.2.2.2 >>= fun q6 =>
    yX q6.1 q6.2.1 q6.2.2 >>= fun q7 =>
    yC 4 [59] q7.2.1 q7.2.2.1 q7.2.2.2 >>= fun q8 =>
    yY 20 q1.1 at_ [q7.1] q8.1 q8.2.1 q8.2.2 >>= fun q9 =>
    some (q9, q8.1, q8.2.1, q8.2.2)
  else
  yC 4 [61] q1.2.1 q1.2.2.1 q1.2.2.2 >>= fun q10 =>
  yX q10.1 q10.2.1 q10.2.2 >>= fun q11 =>
  yC 4 [59] q11.2.1 q11.2.2.1 q11.2.2.2 >>= fun q12 =>
  yY 20 q1.1 at_ [q11.1] q12.1 q12.2.1 q12.2.2 >>= fun q13 =>
  some (q13, q12.1, q12.2.1, q12.2.2)
def z1I (t : List zB) (at_ e : Int) : Option (zD × List zB × Int × Int) :=
  yX t at_ e >>= fun q1 =>
  yC 4 [61] q1.2.1 q1.2.2.1 q1.2.2.2 >>= fun q2 =>
  yX q2.1 q2.2.1 q2.2.2 >>= fun q3 =>
  yC 4 [59] q3.2.1 q3.2.2.1 q3.2.2.2 >>= fun q4 =>
  yY 22 [] at_ [q1.1, q3.1] q4.1 q4.2.1 q4.2.2 >>= fun q5 =>
  some (q5, q4.1, q4.2.1, q4.2.2)
def z2L (t : List zB) (at_ e : Int) : Option (zD × List zB × Int × Int) :=
  gJ 26 t at_ e >>= fun q1 =>
  some (q1.1, q1.2.1, q1.2.2.1, q1.2.2.2)
def uT (zU : Int → (List zD) → zD → (List zB) → Int → Int → Option (zD × List zB × Int × Int)) (t : List zB) (at_ e : Int) : Option (zD × List zB × Int × Int) :=
  yC 4 [123] t at_ e >>= fun q1 =>
  zU at_ [] (zD.mk 0 0 [] [] 0 0) q1.1 q1.2.1 q1.2.2
def wB (zU : Int → (List zD) → zD → (List zB) → Int → Int → Option (zD × List zB × Int × Int)) (yQ : (List zB) → Int → Int → Option (zD × List zB × Int × Int)) (from_ : Int) (l : List zD) (o2 : zD) (t : List zB) (at_ e : Int) : Option (zD × List zB × Int × Int) :=
  if e = 0 then
    jG 4 [125] t at_ e >>= fun q1 =>
    if q1 = true then
      yC 4 [125] t at_ e >>= fun q3 =>
      yY 29 [] from_ l q3.1 q3.2.1 q3.2.2 >>= fun q4 =>
      some (q4, q3.1, q3.2.1, q3.2.2)
    else
    yQ t at_ e >>= fun q2 =>
    if z4F 72 (List.length l + List.length [q2.1]) then
    zU from_ (l ++ [q2.1]) o2 q2.2.1 q2.2.2.1 q2.2.2.2
    else none
  else
  yC 4 [125] t at_ e >>= fun q5 =>
  yY 29 [] from_ l q5.1 q5.2.1 q5.2.2 >>= fun q6 =>
  some (q6, q5.1, q5.2.1, q5.2.2)
def gL (zF : (List zB) → Int → Int → Option (zD × List zB × Int × Int)) (vH : (List zB) → Int → Int → Option (zD × List zB × Int × Int)) (vF : (List zB) → Int → Int → Option (zD × List zB × Int × Int)) (vE : (List zB) → Int → Int → Option (zD × List zB × Int × Int)) (t : List zB) (at_ e : Int) : Option (zD × List zB × Int × Int) :=
  z1c t at_ e >>= fun q1 =>
  z1r q1 >>= fun q2 =>
  if q2 = 69 then
    zF t at_ e >>= fun q3 =>
    some (q3.1, q3.2.1, q3.2.2.1, q3.2.2.2)
  else if q2 = 92 then
    z1I t at_ e >>= fun q4 =>
    some (q4.1, q4.2.1, q4.2.2.1, q4.2.2.2)
  else if q2 = 93 then
    z0F t at_ e >>= fun q5 =>
    some (q5.1, q5.2.1, q5.2.2.1, q5.2.2.2)
  else if q2 = 94 then
    vH t at_ e >>= fun q6 =>
    some (q6.1, q6.2.1, q6.2.2.1, q6.2.2.2)
  else if q2 = 95 then
    vF t at_ e >>= fun q7 =>
    some (q7.1, q7.2.1, q7.2.2.1, q7.2.2.2)
  else if q2 = 96 then
    vE t at_ e >>= fun q8 =>
    some (q8.1, q8.2.1, q8.2.2.1, q8.2.2.2)
  else if q2 = 97 then
    z2L t at_ e >>= fun q9 =>
    some (q9.1, q9.2.1, q9.2.2.1, q9.2.2.2)
  else if q2 = 98 then
    z2J t at_ e >>= fun q10 =>
    some (q10.1, q10.2.1, q10.2.2.1, q10.2.2.2)
  else if q2 = 99 then
    z2K t at_ e >>= fun q11 =>
    some (q11.1, q11.2.1, q11.2.2.1, q11.2.2.2)
  else none
def z0c (zF : (List zB) → Int → Int → Option (zD × List zB × Int × Int)) (t : List zB) (at_ e : Int) : Option (zD × List zB × Int × Int) :=
  yX t (IntKind.wrap .i64 (at_ + 1)) e >>= fun q1 =>
  zF q1.2.1 q1.2.2.1 q1.2.2.2 >>= fun q2 =>
  if q2.2.2.2 = 0 then
    jG 3 [101, 108, 115, 101] q2.2.1 q2.2.2.1 q2.2.2.2 >>= fun q3 =>
    if q3 = true then
      zF q2.2.1 (IntKind.wrap .i64 (q2.2.2.1 + 1)) q2.2.2.2 >>= fun q4 =>
      yY 23 [] at_ [q1.1, q2.1, q4.1] q4.2.1 q4.2.2.1 q4.2.2.2 >>= fun q5 =>
      some (q5, q4.2.1, q4.2.2.1, q4.2.2.2)
    else
    yY 23 [] at_ [q1.1, q2.1, (zD.mk 29 0 [] [] q2.1.To q2.1.To)] q2.2.1 q2.2.2.1 q2.2.2.2 >>= fun q6 =>
    some (q6, q2.2.1, q2.2.2.1, q2.2.2.2)
  else
  yY 23 [] at_ [q1.1, q2.1, (zD.mk 29 0 [] [] q2.1.To q2.1.To)] q2.2.1 q2.2.2.1 q2.2.2.2 >>= fun q7 =>
  some (q7, q2.2.1, q2.2.2.1, q2.2.2.2)
def gQ (zF : (List zB) → Int → Int → Option (zD × List zB × Int × Int)) (t : List zB) (at_ e : Int) : Option (zD × List zB × Int × Int) :=
  yX t (IntKind.wrap .i64 (at_ + 1)) e >>= fun q1 =>
  zF q1.2.1 q1.2.2.1 q1.2.2.2 >>= fun q2 =>
  yY 24 [] at_ [q1.1, q2.1] q2.2.1 q2.2.2.1 q2.2.2.2 >>= fun q3 =>
  some (q3, q2.2.1, q2.2.2.1, q2.2.2.2)
def gP (zF : (List zB) → Int → Int → Option (zD × List zB × Int × Int)) (t : List zB) (at_ e : Int) : Option (zD × List zB × Int × Int) :=
  jR t (IntKind.wrap .i64 (at_ + 1)) e >>= fun q1 =>
  yC 4 [61] q1.2.1 q1.2.2.1 q1.2.2.2 >>= fun q2 =>
  yX q2.1 q2.2.1 q2.2.2 >>= fun q3 =>
  yC 3 [116, 111] q3.2.1 q3.2.2.1 q3.2.2.2 >>= fun q4 =>
  yX q4.1 q4.2.1 q4.2.2 >>= fun q5 =>
  zF q5.2.1 q5.2.2.1 q5.2.2.2 >>= fun q6 =>
  yY 25 q1.1 at_ [q3.1, q5.1, q6.1] q6.2.1 q6.2.2.1 q6.2.2.2 >>= fun q7 =>
  some (q7, q6.2.1, q6.2.2.1, q6.2.2.2)
inductive yJ where
  | zF (t : List zB) (at_ e : Int)
  | zU (from_ : Int) (l : List zD) (o2 : zD) (t : List zB) (at_ e : Int)
  | yQ (t : List zB) (at_ e : Int)
  | vH (t : List zB) (at_ e : Int)
  | vF (t : List zB) (at_ e : Int)
  | vE (t : List zB) (at_ e : Int)
@[reducible] def z3L : yJ → Type
  | .zF _ _ _ => zD × List zB × Int × Int
  | .zU _ _ _ _ _ _ => zD × List zB × Int × Int
  | .yQ _ _ _ => zD × List zB × Int × Int
  | .vH _ _ _ => zD × List zB × Int × Int
  | .vF _ _ _ => zD × List zB × Int × Int
  | .vE _ _ _ => zD × List zB × Int × Int
def vN (g : Fam z3L) : Fam z3L
  | .zF t at_ e => uT (fun from_ l o2 t at_ e => g (yJ.zU from_ l o2 t at_ e)) t at_ e
  | .zU from_ l o2 t at_ e => wB (fun from_ l o2 t at_ e => g (yJ.zU from_ l o2 t at_ e)) (fun t at_ e => g (yJ.yQ t at_ e)) from_ l o2 t at_ e
  | .yQ t at_ e => gL (fun t at_ e => g (yJ.zF t at_ e)) (fun t at_ e => g (yJ.vH t at_ e)) (fun t at_ e => g (yJ.vF t at_ e)) (fun t at_ e => g (yJ.vE t at_ e)) t at_ e
  | .vH t at_ e => z0c (fun t at_ e => g (yJ.zF t at_ e)) t at_ e
  | .vF t at_ e => gQ (fun t at_ e => g (yJ.zF t at_ e)) t at_ e
  | .vE t at_ e => gP (fun t at_ e => g (yJ.zF t at_ e)) t at_ e
theorem gM : ∀ i, Good (fun g => vN g i)
  | .zF t at_ e => by unfold vN uT; exact (.bind (.const _) fun _ => (.call _))
  | .zU from_ l o2 t at_ e => by unfold vN wB; exact (.ite (.bind (.const _) fun _ => (.ite (.bind (.const _) fun _ => (.bind (.const _) fun _ => (.const _))) (.bind (.call _) fun _ => (.ite (.call _) (.const _))))) (.bind (.const _) fun _ => (.bind (.const _) fun _ => (.const _))))
  | .yQ t at_ e => by unfold vN gL; exact (.bind (.const _) fun _ => (.bind (.const _) fun _ => (.ite (.bind (.call _) fun _ => (.const _)) (.ite (.bind (.const _) fun _ => (.const _)) (.ite (.bind (.const _) fun _ => (.const _)) (.ite (.bind (.call _) fun _ => (.const _)) (.ite (.bind (.call _) fun _ => (.const _)) (.ite (.bind (.call _) fun _ => (.const _)) (.ite (.bind (.const _) fun _ => (.const _)) (.ite (.bind (.const _) fun _ => (.const _)) (.ite (.bind (.const _) fun _ => (.const _)) (.const _))))))))))))
  | .vH t at_ e => by unfold vN z0c; exact (.bind (.const _) fun _ => (.bind (.call _) fun _ => (.ite (.bind (.const _) fun _ => (.ite (.bind (.call _) fun _ => (.bind (.const _) fun _ => (.const _))) (.bind (.const _) fun _ => (.const _)))) (.bind (.const _) fun _ => (.const _)))))
  | .vF t at_ e => by unfold vN gQ; exact (.bind (.const _) fun _ => (.bind (.call _) fun _ => (.bind (.const _) fun _ => (.const _))))
  | .vE t at_ e => by unfold vN gP; exact (.bind (.const _) fun _ => (.bind (.const _) fun _ => (.bind (.const _) fun _ => (.bind (.const _) fun _ => (.bind (.const _) fun _ => (.bind (.call _) fun _ => (.bind (.const _) fun _ => (.const _))))))))
def zF (t : List zB) (at_ e : Int) : Option (zD × List zB × Int × Int) := z2Z vN (.zF t at_ e)
def zU (from_ : Int) (l : List zD) (o2 : zD) (t : List zB) (at_ e : Int) : Option (zD × List zB × Int × Int) := z2Z vN (.zU from_ l o2 t at_ e)
def yQ (t : List zB) (at_ e : Int) : Option (zD × List zB × Int × Int) := z2Z vN (.yQ t at_ e)
def vH (t : List zB) (at_ e : Int) : Option (zD × List zB × Int × Int) := z2Z vN (.vH t at_ e)
def vF (t : List zB) (at_ e : Int) : Option (zD × List zB × Int × Int) := z2Z vN (.vF t at_ e)
def vE (t : List zB) (at_ e : Int) : Option (zD × List zB × Int × Int) := z2Z vN (.vE t at_ e)
theorem z3z (t : List zB) (at_ e : Int) : zF t at_ e = uT zU t at_ e := uM gM (.zF t at_ e)
theorem z1u (from_ : Int) (l : List zD) (o2 : zD) (t : List zB) (at_ e : Int) : zU from_ l o2 t at_ e = wB zU yQ from_ l o2 t at_ e := uM gM (.zU from_ l o2 t at_ e)
theorem z5Z (t : List zB) (at_ e : Int) : yQ t at_ e = gL zF vH vF vE t at_ e := uM gM (.yQ t at_ e)
theorem y0w (t : List zB) (at_ e : Int) : vH t at_ e = z0c zF t at_ e := uM gM (.vH t at_ e)
theorem z9t (t : List zB) (at_ e : Int) : vF t at_ e = gQ zF t at_ e := uM gM (.vF t at_ e)
theorem z9s (t : List zB) (at_ e : Int) : vE t at_ e = gP zF t at_ e := uM gM (.vE t at_ e)
def z1v (t : List zB) (at_ : Int) : Option (zD × Int × Int) :=
  if at_ < 0 then
    some ((zD.mk 0 0 [] [] 0 0), 0, 13)
  else
  if at_ > (List.length t : Int) then
    some ((zD.mk 0 0 [] [] 0 0), 0, 13)
  else
  zF t at_ 0 >>= fun q1 =>
  if q1.2.2.2 = 0 then
    some (q1.1, q1.2.2.1, 0)
  else
  some ((zD.mk 0 0 [] [] 0 0), q1.2.2.1, q1.2.2.2)
def z7b (t : List zB) (at_ : Int) : Option (zD × Int × Int) :=
  z1v t at_ >>= fun q1 =>
  some (q1.1, q1.2.1, q1.2.2)
def vX (t : List zB) (at_ e K N : Int) (S : Str) (L : List zD) (From To : Int) : Option (zD × List zB × Int × Int × Int × Int × Str × List zD × Int × Int) :=
  if e = 0 then
    z7b t at_ >>= fun q1 =>
    some (q1.1, t, q1.2.1, q1.2.2, K, N, S, L, From, To)
  else
  some ((zD.mk 0 0 [] [] 0 0), t, at_, e, K, N, S, L, From, To)
def vK (t : List zB) (at_ e K N : Int) (S : Str) (L : List zD) (From To : Int) : Option (zD × List zB × Int × Int × Int × Int × Str × List zD × Int × Int) :=
  if e = 0 then
    z5l t at_ >>= fun q1 =>
    some (q1.1, t, q1.2.1, q1.2.2, K, N, S, L, From, To)
  else
  some ((zD.mk 0 0 [] [] 0 0), t, at_, e, K, N, S, L, From, To)
def z1A (t : List zB) (at_ e K N : Int) (S : Str) (L : List zD) (From To : Int) : Option (Bool × List zB × Int × Int × Int × Int × Str × List zD × Int × Int) :=
  gS 4 [44] t at_ e K N S L From To >>= fun q1 =>
  some (q1.1, q1.2.1, q1.2.2.1, q1.2.2.2.1, q1.2.2.2.2.1, q1.2.2.2.2.2.1, q1.2.2.2.2.2.2.1, q1.2.2.2.2.2.2.2.1, q1.2.2.2.2.2.2.2.2.1, q1.2.2.2.2.2.2.2.2.2)
def gR (t : List zB) (at_ e K N : Int) (S : Str) (L : List zD) (From To : Int) : Option (zD × List zB × Int × Int × Int × Int × Str × List zD × Int × Int) :=
  wY t at_ e K N S L From To >>= fun q1 =>
  yM 4 [58] q1.2.1 q1.2.2.1 q1.2.2.2.1 q1.2.2.2.2.1 q1.2.2.2.2.2.1 q1.2.2.2.2.2.2.1 q1.2.2.2.2.2.2.2.1 q1.2.2.2.2.2.2.2.2.1 q1.2.2.2.2.2.2.2.2.2 >>= fun q2 =>
  vK q2.1 q2.2.1 q2.2.2.1 q2.2.2.2.1 q2.2.2.2.2.1 q2.2.2.2.2.2.1 q2.2.2.2.2.2.2.1 q2.2.2.2.2.2.2.2.1 q2.2.2.2.2.2.2.2.2 >>= fun q3 =>
  wA 34 0 q1.1 at_ [q3.1] q3.2.1 q3.2.2.1 q3.2.2.2.1 q3.2.2.2.2.1 q3.2.2.2.2.2.1 q3.2.2.2.2.2.2.1 q3.2.2.2.2.2.2.2.1 q3.2.2.2.2.2.2.2.2.1 q3.2.2.2.2.2.2.2.2.2 >>= fun q4 =>
  some (q4, q3.2.1, q3.2.2.1, q3.2.2.2.1, q3.2.2.2.2.1, q3.2.2.2.2.2.1, q3.2.2.2.2.2.2.1, q3.2.2.2.2.2.2.2.1, q3.2.2.2.2.2.2.2.2.1, q3.2.2.2.2.2.2.2.2.2)
def yA (zH : (List zD) → (List zB) → Int → Int → Int → Int → Str → (List zD) → Int → Int → Option (List zD × List zB × Int × Int × Int × Int × Str × List zD × Int × Int)) (out : List zD) (t : List zB) (at_ e K N : Int) (S : Str) (L : List zD) (From To : Int) : Option (List zD × List zB × Int × Int × Int × Int × Str × List zD × Int × Int) :=
  if e = 0 then
    z1A t at_ e K N S L From To >>= fun q1 =>
    if q1.1 = true then
      gR q1.2.1 q1.2.2.1 q1.2.2.2.1 q1.2.2.2.2.1 q1.2.2.2.2.2.1 q1.2.2.2.2.2.2.1 q1.2.2.2.2.2.2.2.1 q1.2.2.2.2.2.2.2.2.1 q1.2.2.2.2.2.2.2.2.2 >>= fun q2 =>
      if z4F 72 (List.length out + List.length [q2.1]) then
      zH (out ++ [q2.1]) q2.2.1 q2.2.2.1 q2.2.2.2.1 q2.2.2.2.2.1 q2.2.2.2.2.2.1 q2.2.2.2.2.2.2.1 q2.2.2.2.2.2.2.2.1 q2.2.2.2.2.2.2.2.2.1 q2.2.2.2.2.2.2.2.2.2
      else none
    else
    some (out, q1.2.1, q1.2.2.1, q1.2.2.2.1, q1.2.2.2.2.1, q1.2.2.2.2.2.1, q1.2.2.2.2.2.2.1, q1.2.2.2.2.2.2.2.1, q1.2.2.2.2.2.2.2.2.1, q1.2.2.2.2.2.2.2.2.2)
  else
  some (out, t, at_, e, K, N, S, L, From, To)
inductive wP where
  | zH (out : List zD) (t : List zB) (at_ e K N : Int) (S : Str) (L : List zD) (From To : Int)
@[reducible] def uY : wP → Type
  | .zH _ _ _ _ _ _ _ _ _ _ => List zD × List zB × Int × Int × Int × Int × Str × List zD × Int × Int
def wN (g : Fam uY) : Fam uY
  | .zH out t at_ e K N S L From To => yA (fun out t at_ e K N S L From To => g (wP.zH out t at_ e K N S L From To)) out t at_ e K N S L From To
theorem z0l : ∀ i, Good (fun g => wN g i)
  | .zH out t at_ e K N S L From To => by unfold wN yA; exact (.ite (.bind (.const _) fun _ => (.ite (.bind (.const _) fun _ => (.ite (.call _) (.const _))) (.const _))) (.const _))
def zH (out : List zD) (t : List zB) (at_ e K N : Int) (S : Str) (L : List zD) (From To : Int) : Option (List zD × List zB × Int × Int × Int × Int × Str × List zD × Int × Int) := z2Z wN (.zH out t at_ e K N S L From To)
theorem wL (out : List zD) (t : List zB) (at_ e K N : Int) (S : Str) (L : List zD) (From To : Int) : zH out t at_ e K N S L From To = yA zH out t at_ e K N S L From To := uM z0l (.zH out t at_ e K N S L From To)
def wE (t : List zB) (at_ e K N : Int) (S : Str) (L : List zD) (From To : Int) : Option (List zD × List zB × Int × Int × Int × Int × Str × List zD × Int × Int) :=
  gR t at_ e K N S L From To >>= fun q1 =>
  zH [q1.1] q1.2.1 q1.2.2.1 q1.2.2.2.1 q1.2.2.2.2.1 q1.2.2.2.2.2.1 q1.2.2.2.2.2.2.1 q1.2.2.2.2.2.2.2.1 q1.2.2.2.2.2.2.2.2.1 q1.2.2.2.2.2.2.2.2.2
def wG (t : List zB) (at_ e K N : Int) (S : Str) (L : List zD) (From To : Int) : Option (zD × List zB × Int × Int × Int × Int × Str × List zD × Int × Int) :=
  yM 4 [40] t at_ e K N S L From To >>= fun q1 =>
  gS 4 [41] q1.1 q1.2.1 q1.2.2.1 q1.2.2.2.1 q1.2.2.2.2.1 q1.2.2.2.2.2.1 q1.2.2.2.2.2.2.1 q1.2.2.2.2.2.2.2.1 q1.2.2.2.2.2.2.2.2 >>= fun q2 =>
  if q2.1 = true then
    wA 35 0 [] at_ [] q2.2.1 q2.2.2.1 q2.2.2.2.1 q2.2.2.2.2.1 q2.2.2.2.2.2.1 q2.2.2.2.2.2.2.1 q2.2.2.2.2.2.2.2.1 q2.2.2.2.2.2.2.2.2.1 q2.2.2.2.2.2.2.2.2.2 >>= fun q3 =>
    some (q3, q2.2.1, q2.2.2.1, q2.2.2.2.1, q2.2.2.2.2.1, q2.2.2.2.2.2.1, q2.2.2.2.2.2.2.1, q2.2.2.2.2.2.2.2.1, q2.2.2.2.2.2.2.2.2.1, q2.2.2.2.2.2.2.2.2.2)
  else
  wE q2.2.1 q2.2.2.1 q2.2.2.2.1 q2.2.2.2.2.1 q2.2.2.2.2.2.1 q2.2.2.2.2.2.2.1 q2.2.2.2.2.2.2.2.1 q2.2.2.2.2.2.2.2.2.1 q2.2.2.2.2.2.2.2.2.2 >>= fun q4 =>
  yM 4 [41] q4.2.1 q4.2.2.1 q4.2.2.2.1 q4.2.2.2.2.1 q4.2.2.2.2.2.1 q4.2.2.2.2.2.2.1 q4.2.2.2.2.2.2.2.1 q4.2.2.2.2.2.2.2.2.1 q4.2.2.2.2.2.2.2.2.2 >>= fun q5 =>
  wA 35 0 [] at_ q4.1 q5.1 q5.2.1 q5.2.2.1 q5.2.2.2.1 q5.2.2.2.2.1 q5.2.2.2.2.2.1 q5.2.2.2.2.2.2.1 q5.2.2.2.2.2.2.2.1 q5.2.2.2.2.2.2.2.2 >>= fun q6 =>
  some (q6, q5.1, q5.2.1, q5.2.2.1, q5.2.2.2.1, q5.2.2.2.2.1, q5.2.2.2.2.2.1, q5.2.2.2.2.2.2.1, q5.2.2.2.2.2.2.2.1, q5.2.2.2.2.2.2.2.2)
def jW (t : List zB) (at_ e K N : Int) (S : Str) (L : List zD) (From To : Int) : Option (zD × List zB × Int × Int × Int × Int × Str × List zD × Int × Int) :=
  gS 3 [112, 117, 98] t at_ e K N S L From To >>= fun q1 =>
  if q1.1 = true then
    yM 3 [102, 110] q1.2.1 q1.2.2.1 q1.2.2.2.1 q1.2.2.2.2.1 q1.2.2.2.2.2.1 q1.2.2.2.2.2.2.1 q1.2.2.2.2.2.2.2.1 q1.2.2.2.2.2.2.2.2.1 q1.2.2.2.2.2.2.2.2.2 >>= fun q2 =>
    wY q2.1 q2.2.1 q2.2.2.1 q2.2.2.2.1 q2.2.2.2.2.1 q2.2.2.2.2.2.1 q2.2.2.2.2.2.2.1 q2.2.2.2.2.2.2.2.1 q2.2.2.2.2.2.2.2.2 >>= fun q3 =>
    wG q3.2.1 q3.2.2.1 q3.2.2.2.1 q3.2.2.2.2.1 q3.2.2.2.2.2.1 q3.2.2.2.2.2.2.1 q3.2.2.2.2.2.2.2.1 q3.2.2.2.2.2.2.2.2.1 q3.2.2.2.2.2.2.2.2.2 >>= fun q4 =>
    yM 4 [58] q4.2.1 q4.2.2.1 q4.2.2.2.1 q4.2.2.2.2.1 q4.2.2.2.2.2.1 q4.2.2.2.2.2.2.1 q4.2.2.2.2.2.2.2.1 q4.2.2.2.2.2.2.2.2.1 q4.2.2.2.2.2.2.2.2.2 >>= fun q5 =>
    vK q5.1 q5.2.1 q5.2.2.1 q5.2.2.2.1 q5.2.2.2.2.1 q5.2.2.2.2.2.1 q5.2.2.2.2.2.2.1 q5.2.2.2.2.2.2.2.1 q5.2.2.2.2.2.2.2.2 >>= fun q6 =>
    vX q6.2.1 q6.2.2.1 q6.2.2.2.1 q6.2.2.2.2.1 q6.2.2.2.2.2.1 q6.2.2.2.2.2.2.1 q6.2.2.2.2.2.2.2.1 q6.2.2.2.2.2.2.2.2.1 q6.2.2.2.2.2.2.2.2.2 >>= fun q7 =>
    wA 33 1 q3.1 at_ [q4.1, q6.1, q7.1] q7.2.1 q7.2.2.1 q7.2.2.2.1 q7.2.2.2.2.1 q7.2.2.2.2.2.1 q7.2.2.2.2.2.2.1 q7.2.2.2.2.2.2.2.1 q7.2.2.2.2.2.2.2.2.1 q7.2.2.2.2.2.2.2.2.2 >>= fun q8 =>
    some (q8, q7.2.1, q7.2.2.1, q7.2.2.2.1, q7.2.2.2.2.1, q7.2.2.2.2.2.1, q7.2.2.2.2.2.2.1, q7.2.2.2.2.2.2.2.1, q7.2.2.2.2.2.2.2.2.1, q7.2.2.2.2.2.2.2.2.2)
  else
  yM 3 [102, 110] q1.2.1 q1.2.2.1 q1.2.2.2.1 q1.2.2.2.2.1 q1.2.2.2.2.2.1 q1.2.2.2.2.2.2.1 q1.2.2.2.2.2.2.2.1 q1.2.2.2.2.2.2.2.2.1 q1.2.2.2.2.2.2.2.2.2 >>= fun q9 =>
  wY q9.1 q9.2.1 q9.2.2.1 q9.2.2.2.1 q9.2.2.2.2.1 q9.2.2.2.2.2.1 q9.2.2.2.2.2.2.1 q9.2.2.2.2.2.2.2.1 q9.2.2.2.2.2.2.2.2 >>= fun q10 =>
  wG q10.2.1 q10.2.2.1 q10.2.2.2.1 q10.2.2.2.2.1 q10.2.2.2.2.2.1 q10.2.2.2.2.2.2.1 q10.2.2.2.2.2.2.2.1 q10.2.2.2.2.2.2.2.2.1 q10.2.2.2.2.2.2.2.2.2 >>= fun q11 =>
  yM 4 [58] q11.2.1 q11.2.2.1 q11.2.2.2.1 q11.2.2.2.2.1 q11.2.2.2.2.2.1 q11.2.2.2.2.2.2.1 q11.2.2.2.2.2.2.2.1 q11.2.2.2.2.2.2.2.2.1 q11.2.2.2.2.2.2.2.2.2 >>= fun q12 =>
  vK q12.1 q12.2.1 q12.2.2.1 q12.2.2.2.1 q12.2.2.2.2.1 q12.2.2.2.2.2.1 q12.2.2.2.2.2.2.1 q12.2.2.2.2.2.2.2.1 q12.2.2.2.2.2.2.2.2 >>= fun q13 =>
  vX q13.2.1 q13.2.2.1 q13.2.2.2.1 q13.2.2.2.2.1 q13.2.2.2.2.2.1 q13.2.2.2.2.2.2.1 q13.2.2.2.2.2.2.2.1 q13.2.2.2.2.2.2.2.2.1 q13.2.2.2.2.2.2.2.2.2 >>= fun q14 =>
  wA 33 0 q10.1 at_ [q11.1, q13.1, q14.1] q14.2.1 q14.2.2.1 q14.2.2.2.1 q14.2.2.2.2.1 q14.2.2.2.2.2.1 q14.2.2.2.2.2.2.1 q14.2.2.2.2.2.2.2.1 q14.2.2.2.2.2.2.2.2.1 q14.2.2.2.2.2.2.2.2.2 >>= fun q15 =>
  some (q15, q14.2.1, q14.2.2.1, q14.2.2.2.1, q14.2.2.2.2.1, q14.2.2.2.2.2.1, q14.2.2.2.2.2.2.1, q14.2.2.2.2.2.2.2.1, q14.2.2.2.2.2.2.2.2.1, q14.2.2.2.2.2.2.2.2.2)
def z1j (t : List zB) (at_ e K N : Int) (S : Str) (L : List zD) (From To : Int) : Option (zD × List zB × Int × Int × Int × Int × Str × List zD × Int × Int) :=
  wY t (IntKind.wrap .i64 (at_ + 1)) e K N S L From To >>= fun q1 =>
  yM 4 [58] q1.2.1 q1.2.2.1 q1.2.2.2.1 q1.2.2.2.2.1 q1.2.2.2.2.2.1 q1.2.2.2.2.2.2.1 q1.2.2.2.2.2.2.2.1 q1.2.2.2.2.2.2.2.2.1 q1.2.2.2.2.2.2.2.2.2 >>= fun q2 =>
  vK q2.1 q2.2.1 q2.2.2.1 q2.2.2.2.1 q2.2.2.2.2.1 q2.2.2.2.2.2.1 q2.2.2.2.2.2.2.1 q2.2.2.2.2.2.2.2.1 q2.2.2.2.2.2.2.2.2 >>= fun q3 =>
  yM 4 [59] q3.2.1 q3.2.2.1 q3.2.2.2.1 q3.2.2.2.2.1 q3.2.2.2.2.2.1 q3.2.2.2.2.2.2.1 q3.2.2.2.2.2.2.2.1 q3.2.2.2.2.2.2.2.2.1 q3.2.2.2.2.2.2.2.2.2 >>= fun q4 =>
  wA 32 0 q1.1 at_ [q3.1] q4.1 q4.2.1 q4.2.2.1 q4.2.2.2.1 q4.2.2.2.2.1 q4.2.2.2.2.2.1 q4.2.2.2.2.2.2.1 q4.2.2.2.2.2.2.2.1 q4.2.2.2.2.2.2.2.2 >>= fun q5 =>
  some (q5, q4.1, q4.2.1, q4.2.2.1, q4.2.2.2.1, q4.2.2.2.2.1, q4.2.2.2.2.2.1, q4.2.2.2.2.2.2.1, q4.2.2.2.2.2.2.2.1, q4.2.2.2.2.2.2.2.2)
def z0v (t : List zB) (at_ e K N : Int) (S : Str) (L : List zD) (From To : Int) : Option (zD × List zB × Int × Int × Int × Int × Str × List zD × Int × Int) :=
  gR t at_ e K N S L From To >>= fun q1 =>
  yM 4 [59] q1.2.1 q1.2.2.1 q1.2.2.2.1 q1.2.2.2.2.1 q1.2.2.2.2.2.1 q1.2.2.2.2.2.2.1 q1.2.2.2.2.2.2.2.1 q1.2.2.2.2.2.2.2.2.1 q1.2.2.2.2.2.2.2.2.2 >>= fun q2 =>
  some (q1.1, q2.1, q2.2.1, q2.2.2.1, q2.2.2.2.1, q2.2.2.2.2.1, q2.2.2.2.2.2.1, q2.2.2.2.2.2.2.1, q2.2.2.2.2.2.2.2.1, q2.2.2.2.2.2.2.2.2)
def z1S (t : List zB) (at_ e K N : Int) (S : Str) (L : List zD) (From To : Int) : Option (Bool) :=
  jV 4 [125] t at_ e K N S L From To >>= fun q1 =>
  some (!q1)
def zZ (zG : (List zD) → (List zB) → Int → Int → Int → Int → Str → (List zD) → Int → Int → Option (List zD × List zB × Int × Int × Int × Int × Str × List zD × Int × Int)) (out : List zD) (t : List zB) (at_ e K N : Int) (S : Str) (L : List zD) (From To : Int) : Option (List zD × List zB × Int × Int × Int × Int × Str × List zD × Int × Int) :=
  if e = 0 then
    z1S t at_ e K N S L From To >>= fun q1 =>
    if q1 = true then
      z0v t at_ e K N S L From To >>= fun q2 =>
      if z4F 72 (List.length out + List.length [q2.1]) then
      zG (out ++ [q2.1]) q2.2.1 q2.2.2.1 q2.2.2.2.1 q2.2.2.2.2.1 q2.2.2.2.2.2.1 q2.2.2.2.2.2.2.1 q2.2.2.2.2.2.2.2.1 q2.2.2.2.2.2.2.2.2.1 q2.2.2.2.2.2.2.2.2.2
      else none
    else
    some (out, t, at_, e, K, N, S, L, From, To)
  else
  some (out, t, at_, e, K, N, S, L, From, To)
inductive wO where
  | zG (out : List zD) (t : List zB) (at_ e K N : Int) (S : Str) (L : List zD) (From To : Int)
@[reducible] def uX : wO → Type
  | .zG _ _ _ _ _ _ _ _ _ _ => List zD × List zB × Int × Int × Int × Int × Str × List zD × Int × Int
def wM (g : Fam uX) : Fam uX
  | .zG out t at_ e K N S L From To => zZ (fun out t at_ e K N S L From To => g (wO.zG out t at_ e K N S L From To)) out t at_ e K N S L From To
theorem z0k : ∀ i, Good (fun g => wM g i)
  | .zG out t at_ e K N S L From To => by unfold wM zZ; exact (.ite (.bind (.const _) fun _ => (.ite (.bind (.const _) fun _ => (.ite (.call _) (.const _))) (.const _))) (.const _))
def zG (out : List zD) (t : List zB) (at_ e K N : Int) (S : Str) (L : List zD) (From To : Int) : Option (List zD × List zB × Int × Int × Int × Int × Str × List zD × Int × Int) := z2Z wM (.zG out t at_ e K N S L From To)
theorem wJ (out : List zD) (t : List zB) (at_ e K N : Int) (S : Str) (L : List zD) (From To : Int) : zG out t at_ e K N S L From To = zZ zG out t at_ e K N S L From To := uM z0k (.zG out t at_ e K N S L From To)
def wD (t : List zB) (at_ e K N : Int) (S : Str) (L : List zD) (From To : Int) : Option (List zD × List zB × Int × Int × Int × Int × Str × List zD × Int × Int) :=
  z0v t at_ e K N S L From To >>= fun q1 =>
  zG [q1.1] q1.2.1 q1.2.2.1 q1.2.2.2.1 q1.2.2.2.2.1 q1.2.2.2.2.2.1 q1.2.2.2.2.2.2.1 q1.2.2.2.2.2.2.2.1 q1.2.2.2.2.2.2.2.2.1 q1.2.2.2.2.2.2.2.2.2
def z1k (t : List zB) (at_ e K N : Int) (S : Str) (L : List zD) (From To : Int) : Option (zD × List zB × Int × Int × Int × Int × Str × List zD × Int × Int) :=
  wY t (IntKind.wrap .i64 (at_ + 1)) e K N S L From To >>= fun q1 =>
  yM 4 [123] q1.2.1 q1.2.2.1 q1.2.2.2.1 q1.2.2.2.2.1 q1.2.2.2.2.2.1 q1.2.2.2.2.2.2.1 q1.2.2.2.2.2.2.2.1 q1.2.2.2.2.2.2.2.2.1 q1.2.2.2.2.2.2.2.2.2 >>= fun q2 =>
  wD q2.1 q2.2.1 q2.2.2.1 q2.2.2.2.1 q2.2.2.2.2.1 q2.2.2.2.2.2.1 q2.2.2.2.2.2.2.1 q2.2.2.2.2.2.2.2.1 q2.2.2.2.2.2.2.2.2 >>= fun q3 =>
  yM 4 [125] q3.2.1 q3.2.2.1 q3.2.2.2.1 q3.2.2.2.2.1 q3.2.2.2.2.2.1 q3.2.2.2.2.2.2.1 q3.2.2.2.2.2.2.2.1 q3.2.2.2.2.2.2.2.2.1 q3.2.2.2.2.2.2.2.2.2 >>= fun q4 =>
  wA 30 0 q1.1 at_ q3.1 q4.1 q4.2.1 q4.2.2.1 q4.2.2.2.1 q4.2.2.2.2.1 q4.2.2.2.2.2.1 q4.2.2.2.2.2.2.1 q4.2.2.2.2.2.2.2.1 q4.2.2.2.2.2.2.2.2 >>= fun q5 =>
  some (q5, q4.1, q4.2.1, q4.2.2.1, q4.2.2.2.1, q4.2.2.2.2.1, q4.2.2.2.2.2.1, q4.2.2.2.2.2.2.1, q4.2.2.2.2.2.2.2.1, q4.2.2.2.2.2.2.2.2)
def z1l (t : List zB) (at_ e K N : Int) (S : Str) (L : List zD) (From To : Int) : Option (zD × List zB × Int × Int × Int × Int × Str × List zD × Int × Int) :=
  jV 3 [114, 101, 99] t at_ e K N S L From To >>= fun q1 =>
  if q1 = true then
    z1k t at_ e K N S L From To >>= fun q2 =>
    some (q2.1, q2.2.1, q2.2.2.1, q2.2.2.2.1, q2.2.2.2.2.1, q2.2.2.2.2.2.1, q2.2.2.2.2.2.2.1, q2.2.2.2.2.2.2.2.1, q2.2.2.2.2.2.2.2.2.1, q2.2.2.2.2.2.2.2.2.2)
  else
  jV 3 [99, 111, 110, 115, 116] t at_ e K N S L From To >>= fun q3 =>
  if q3 = true then
    z1i t at_ e K N S L From To >>= fun q4 =>
    some (q4.1, q4.2.1, q4.2.2.1, q4.2.2.2.1, q4.2.2.2.2.1, q4.2.2.2.2.2.1, q4.2.2.2.2.2.2.1, q4.2.2.2.2.2.2.2.1, q4.2.2.2.2.2.2.2.2.1, q4.2.2.2.2.2.2.2.2.2)
  else
  jV 3 [118, 97, 114] t at_ e K N S L From To >>= fun q5 =>
  if q5 = true then
    z1j t at_ e K N S L From To >>= fun q6 =>
    some (q6.1, q6.2.1, q6.2.2.1, q6.2.2.2.1, q6.2.2.2.2.1, q6.2.2.2.2.2.1, q6.2.2.2.2.2.2.1, q6.2.2.2.2.2.2.2.1, q6.2.2.2.2.2.2.2.2.1, q6.2.2.2.2.2.2.2.2.2)
  else
  jV 3 [112, 117, 98] t at_ e K N S L From To >>= fun q7 =>
  if q7 = true then
    jW t at_ e K N S L From To >>= fun q8 =>
    some (q8.1, q8.2.1, q8.2.2.1, q8.2.2.2.1, q8.2.2.2.2.1, q8.2.2.2.2.2.1, q8.2.2.2.2.2.2.1, q8.2.2.2.2.2.2.2.1, q8.2.2.2.2.2.2.2.2.1, q8.2.2.2.2.2.2.2.2.2)
  else
  jV 3 [102, 110] t at_ e K N S L From To >>= fun q9 =>
  if q9 = true then
    jW t at_ e K N S L From To >>= fun q10 =>
    some (q10.1, q10.2.1, q10.2.2.1, q10.2.2.2.1, q10.2.2.2.2.1, q10.2.2.2.2.2.1, q10.2.2.2.2.2.2.1, q10.2.2.2.2.2.2.2.1, q10.2.2.2.2.2.2.2.2.1, q10.2.2.2.2.2.2.2.2.2)
  else
  some ((zD.mk 0 0 [] [] 0 0), t, at_, 6, K, N, S, L, From, To)
def z1d (vQ : zD → (List zB) → Int → Int → Int → Int → Str → (List zD) → Int → Int → Option (zD × Int × Int)) (o2 : zD) (t : List zB) (at_ e K N : Int) (S : Str) (L : List zD) (From To : Int) : Option (zD × Int × Int) :=
  idx t at_ >>= fun x =>
  if x.K = 5 then
    if (List.length L : Int) > 64 then
      some ((zD.mk 0 0 [] [] 0 0), 0, 11)
    else
    z7e (zD.mk K N S L From To) >>= fun q2 =>
    if q2 > 64 then
      some ((zD.mk 0 0 [] [] 0 0), 0, 7)
    else
    some ((zD.mk K N S L From To), 0, 0)
  else
  z1l t at_ e K N S L From To >>= fun q1 =>
  if q1.2.2.2.1 = 0 then
    if z4F 72 (List.length q1.2.2.2.2.2.2.2.1 + List.length [q1.1]) then
    vQ o2 q1.2.1 q1.2.2.1 q1.2.2.2.1 q1.2.2.2.2.1 q1.2.2.2.2.2.1 q1.2.2.2.2.2.2.1 (q1.2.2.2.2.2.2.2.1 ++ [q1.1]) q1.2.2.2.2.2.2.2.2.1 q1.2.2.2.2.2.2.2.2.2
    else none
  else
  idx q1.2.1 q1.2.2.1 >>= fun x1 =>
  some ((zD.mk 0 0 [] [] 0 0), x1.From, q1.2.2.2.1)
inductive z4l where
  | vQ (o2 : zD) (t : List zB) (at_ e K N : Int) (S : Str) (L : List zD) (From To : Int)
@[reducible] def z5O : z4l → Type
  | .vQ _ _ _ _ _ _ _ _ _ _ => zD × Int × Int
def z4g (g : Fam z5O) : Fam z5O
  | .vQ o2 t at_ e K N S L From To => z1d (fun o2 t at_ e K N S L From To => g (z4l.vQ o2 t at_ e K N S L From To)) o2 t at_ e K N S L From To
theorem z7K : ∀ i, Good (fun g => z4g g i)
  | .vQ o2 t at_ e K N S L From To => by unfold z4g z1d; exact (.bind (.const _) fun _ => (.ite (.ite (.const _) (.bind (.const _) fun _ => (.ite (.const _) (.const _)))) (.bind (.const _) fun _ => (.ite (.ite (.call _) (.const _)) (.bind (.const _) fun _ => (.const _))))))
def vQ (o2 : zD) (t : List zB) (at_ e K N : Int) (S : Str) (L : List zD) (From To : Int) : Option (zD × Int × Int) := z2Z z4g (.vQ o2 t at_ e K N S L From To)
theorem z5u (o2 : zD) (t : List zB) (at_ e K N : Int) (S : Str) (L : List zD) (From To : Int) : vQ o2 t at_ e K N S L From To = z1d vQ o2 t at_ e K N S L From To := uM z7K (.vQ o2 t at_ e K N S L From To)
def z3Y (text : Str) : Option (zD × Int × Int) :=
  z6R text >>= fun q1 =>
  if q1.2.2 = 0 then
    vQ (zD.mk 0 0 [] [] 0 0) q1.1 0 0 36 0 [] [] 0 (List.length text : Int)
  else
  some ((zD.mk 0 0 [] [] 0 0), q1.2.1, q1.2.2)
def z4Z (text : Str) : Option (Bool) :=
  if (List.length text : Int) > 2000 then
    z3V >>= fun q1 =>
    some (q1)
  else
  z3Y text >>= fun q2 =>
  if q2.2.2 = 0 then
    z6X q2.1 >>= fun q4 =>
    if (List.length q4 : Int) > 8192 then
      z3V >>= fun q5 =>
      some (q5)
    else
    z3Y q4 >>= fun q6 =>
    if q6.2.2 = 0 then
      z0t q6.1 q2.1 >>= fun q7 =>
      if q7 = true then
        z6X q6.1 >>= fun q8 =>
        if q8 = q4 then
          z3V >>= fun q9 =>
          some (q9)
        else
        some (false)
      else
      some (false)
    else
    some (false)
  else
  z3V >>= fun q3 =>
  some (q3)
end
end Go.Proofs.YthbhgdooeeapjaaGreat.M

