import Derived.Test.YthbhgdooeeapjaaTy
namespace Go.Proofs.Ythbhgdooeeapjaa.M
open Go Nt
set_option linter.unusedVariables false
noncomputable section
def z0G (vN : Int → Int → Int → (List Int) → Option (Str)) (n i u : Int) (b : List Int) : Option (Str) :=
  if 10 ≠ (0 : Int) then
  if 20 = List.length b ∧ (0 : Int) ≤ (IntKind.wrap .i64 (i - 1)) ∧ (IntKind.wrap .i64 (i - 1)) < (List.length b : Int) then
  if Int.toNat (IntKind.wrap .i64 (i - 1)) < List.length b then
  if 10 ≠ (0 : Int) then
  if IntKind.wrap .u64 (Int.tdiv u 10) = 0 then
    if n < 0 then
      if 20 = List.length (b.set (IntKind.wrap .i64 (i - 1)).toNat (IntKind.wrap .u8 (IntKind.wrap .u64 (48 + (Int.tmod u 10))))) ∧ (0 : Int) ≤ (IntKind.wrap .i64 ((IntKind.wrap .i64 (i - 1)) - 1)) ∧ (IntKind.wrap .i64 ((IntKind.wrap .i64 (i - 1)) - 1)) < (List.length (b.set (IntKind.wrap .i64 (i - 1)).toNat (IntKind.wrap .u8 (IntKind.wrap .u64 (48 + (Int.tmod u 10))))) : Int) then
      if Int.toNat (IntKind.wrap .i64 ((IntKind.wrap .i64 (i - 1)) - 1)) < List.length (b.set (IntKind.wrap .i64 (i - 1)).toNat (IntKind.wrap .u8 (IntKind.wrap .u64 (48 + (Int.tmod u 10))))) then
      if 20 = List.length ((b.set (IntKind.wrap .i64 (i - 1)).toNat (IntKind.wrap .u8 (IntKind.wrap .u64 (48 + (Int.tmod u 10))))).set (IntKind.wrap .i64 ((IntKind.wrap .i64 (i - 1)) - 1)).toNat 45) then
      if (0 : Int) ≤ (IntKind.wrap .i64 ((IntKind.wrap .i64 (i - 1)) - 1)) then
      if Int.toNat (IntKind.wrap .i64 ((IntKind.wrap .i64 (i - 1)) - 1)) ≤ List.length ((b.set (IntKind.wrap .i64 (i - 1)).toNat (IntKind.wrap .u8 (IntKind.wrap .u64 (48 + (Int.tmod u 10))))).set (IntKind.wrap .i64 ((IntKind.wrap .i64 (i - 1)) - 1)).toNat 45) then
      z2J (List.drop (Int.toNat (IntKind.wrap .i64 ((IntKind.wrap .i64 (i - 1)) - 1))) ((b.set (IntKind.wrap .i64 (i - 1)).toNat (IntKind.wrap .u8 (IntKind.wrap .u64 (48 + (Int.tmod u 10))))).set (IntKind.wrap .i64 ((IntKind.wrap .i64 (i - 1)) - 1)).toNat 45)) >>= fun s =>
      some (s)
      else none
      else none
      else none
      else none
      else none
    else
    if 20 = List.length (b.set (IntKind.wrap .i64 (i - 1)).toNat (IntKind.wrap .u8 (IntKind.wrap .u64 (48 + (Int.tmod u 10))))) then
    if (0 : Int) ≤ (IntKind.wrap .i64 (i - 1)) then
    if Int.toNat (IntKind.wrap .i64 (i - 1)) ≤ List.length (b.set (IntKind.wrap .i64 (i - 1)).toNat (IntKind.wrap .u8 (IntKind.wrap .u64 (48 + (Int.tmod u 10))))) then
    z2J (List.drop (Int.toNat (IntKind.wrap .i64 (i - 1))) (b.set (IntKind.wrap .i64 (i - 1)).toNat (IntKind.wrap .u8 (IntKind.wrap .u64 (48 + (Int.tmod u 10)))))) >>= fun s1 =>
    some (s1)
    else none
    else none
    else none
  else
  vN n (IntKind.wrap .i64 (i - 1)) (IntKind.wrap .u64 (Int.tdiv u 10)) (b.set (IntKind.wrap .i64 (i - 1)).toNat (IntKind.wrap .u8 (IntKind.wrap .u64 (48 + (Int.tmod u 10)))))
  else none
  else none
  else none
  else none
inductive z2t where
  | vN (n i u : Int) (b : List Int)
@[reducible] def z3Q : z2t → Type
  | .vN _ _ _ _ => Str
def z2p (g : Fam z3Q) : Fam z3Q
  | .vN n i u b => z0G (fun n i u b => g (z2t.vN n i u b)) n i u b
theorem z5I : ∀ i, Good (fun g => z2p g i)
  | .vN n i u b => by unfold z2p z0G; exact (.ite (.ite (.ite (.ite (.ite (.ite (.ite (.ite (.ite (.ite (.ite (.bind (.const _) fun _ => (.const _)) (.const _)) (.const _)) (.const _)) (.const _)) (.const _)) (.ite (.ite (.ite (.bind (.const _) fun _ => (.const _)) (.const _)) (.const _)) (.const _))) (.call _)) (.const _)) (.const _)) (.const _)) (.const _))
def vN (n i u : Int) (b : List Int) : Option (Str) := gV z2p (.vN n i u b)
theorem y0w (n i u : Int) (b : List Int) : vN n i u b = z0G vN n i u b := yX z5I (.vN n i u b)
def z3H (n : Int) : Option (Str) :=
  if n < 0 then
    vN n 20 (IntKind.wrap .u64 (0 - (IntKind.wrap .u64 n))) [0, 0, 0, 0, 0, 0, 0, 0, 0, 0, 0, 0, 0, 0, 0, 0, 0, 0, 0, 0]
  else
  vN n 20 (IntKind.wrap .u64 n) [0, 0, 0, 0, 0, 0, 0, 0, 0, 0, 0, 0, 0, 0, 0, 0, 0, 0, 0, 0]
def zP (t : zF) (i : Int) : Option (zF) :=
  if i < (List.length t.L : Int) then
    idx t.L i >>= fun x =>
    some (x)
  else
  some ((zF.mk 0 0 [] [] 0 0))
def zI (words out : List Str) : Option (List Str) :=
  if z0C 16 (List.length out + List.length words) then
  some (out ++ words)
  else none
def wR (print_writer_kind : zF → (List Str) → Option (List Str)) (t : zF) (out : List Str) : Option (List Str) :=
  if t.K = 1 then
    zI [[105, 110, 116]] out >>= fun q1 =>
    some (q1)
  else
  if t.K = 2 then
    zI [[98, 111, 111, 108]] out >>= fun q2 =>
    some (q2)
  else
  if t.K = 3 then
    z3H t.N >>= fun q3 =>
    zI [[91], q3, [93]] out >>= fun q4 =>
    zP t 0 >>= fun q5 =>
    print_writer_kind q5 q4 >>= fun q6 =>
    some (q6)
  else
  if t.K = 4 then
    zI [t.S] out >>= fun q7 =>
    some (q7)
  else
  some (out)
inductive I_print_writer_kind where
  | print_writer_kind (t : zF) (out : List Str)
@[reducible] def z1S : I_print_writer_kind → Type
  | .print_writer_kind _ _ => List Str
def z0Q (g : Fam z1S) : Fam z1S
  | .print_writer_kind t out => wR (fun t out => g (I_print_writer_kind.print_writer_kind t out)) t out
theorem z3L : ∀ i, Good (fun g => z0Q g i)
  | .print_writer_kind t out => by unfold z0Q wR; exact (.ite (.bind (.const _) fun _ => (.const _)) (.ite (.bind (.const _) fun _ => (.const _)) (.ite (.bind (.const _) fun _ => (.bind (.const _) fun _ => (.bind (.const _) fun _ => (.bind (.call _) fun _ => (.const _))))) (.ite (.bind (.const _) fun _ => (.const _)) (.const _)))))
def print_writer_kind (t : zF) (out : List Str) : Option (List Str) := gV z0Q (.print_writer_kind t out)
theorem gO (t : zF) (out : List Str) : print_writer_kind t out = wR print_writer_kind t out := yX z3L (.print_writer_kind t out)
def strings_Join (elems : List Str) (sep : Str) : Option (Str) :=
  if List.length elems ≤ 140737488355328 ∧ List.length (z1Y elems sep) ≤ 140737488355328 then some (z1Y elems sep) else none
def gW (out : List Str) : Option (Str) :=
  strings_Join out [32] >>= fun q1 =>
  some (q1)
def z6V (t : zF) : Option (Str) :=
  print_writer_kind t [] >>= fun q1 =>
  gW q1 >>= fun q2 =>
  some (q2)
def z2N  : Option (Bool) :=
  z6V (zF.mk 1 0 [] [] 0 0) >>= fun q1 =>
  some ((q1 == [105, 110, 116]))
def z4H (op : Int) : Option (Str × Int) :=
  if op = 1 then
    some ([124, 124], 1)
  else
  if op = 2 then
    some ([38, 38], 2)
  else
  if op = 3 then
    some ([61, 61], 3)
  else
  if op = 4 then
    some ([33, 61], 3)
  else
  if op = 5 then
    some ([60], 3)
  else
  if op = 6 then
    some ([60, 61], 3)
  else
  if op = 7 then
    some ([62], 3)
  else
  if op = 8 then
    some ([62, 61], 3)
  else
  if op = 9 then
    some ([43], 4)
  else
  if op = 10 then
    some ([45], 4)
  else
  if op = 11 then
    some ([42], 5)
  else
  if op = 12 then
    some ([47], 5)
  else
  some ([37], 5)
def z0V (t : zF) : Option (Int) :=
  if t.K = 10 then
    z4H t.N >>= fun q1 =>
    some (q1.2)
  else
  if t.K = 11 then
    some (6)
  else
  some (7)
def yE (print_writer_held : zF → Int → (List Str) → Option (List Str)) (print_writer_closed : zF → (List Str) → Option (List Str)) (t : zF) (out : List Str) : Option (List Str) :=
  if t.K = 5 then
    z3H t.N >>= fun q1 =>
    zI [q1] out >>= fun q2 =>
    some (q2)
  else
  if t.K = 6 then
    if t.N = 1 then
      zI [[116, 114, 117, 101]] out >>= fun q3 =>
      some (q3)
    else
    zI [[102, 97, 108, 115, 101]] out >>= fun q4 =>
    some (q4)
  else
  if t.K = 18 then
    zI [[114, 101, 97, 100]] out >>= fun q5 =>
    some (q5)
  else
  if t.K = 19 then
    zI [t.S] out >>= fun q6 =>
    some (q6)
  else
  if t.K = 10 then
    z4H t.N >>= fun q7 =>
    if q7.2 = 3 then
      zP t 0 >>= fun q8 =>
      print_writer_held q8 4 out >>= fun q9 =>
      zI [q7.1] q9 >>= fun q10 =>
      zP t 1 >>= fun q11 =>
      print_writer_held q11 (IntKind.wrap .i64 (q7.2 + 1)) q10 >>= fun q12 =>
      some (q12)
    else
    zP t 0 >>= fun q13 =>
    print_writer_held q13 q7.2 out >>= fun q14 =>
    zI [q7.1] q14 >>= fun q15 =>
    zP t 1 >>= fun q16 =>
    print_writer_held q16 (IntKind.wrap .i64 (q7.2 + 1)) q15 >>= fun q17 =>
    some (q17)
  else
  if t.K = 11 then
    if t.N = 1 then
      zI [[45]] out >>= fun q18 =>
      zP t 0 >>= fun q19 =>
      print_writer_held q19 6 q18 >>= fun q20 =>
      some (q20)
    else
    zI [[33]] out >>= fun q21 =>
    zP t 0 >>= fun q22 =>
    print_writer_held q22 6 q21 >>= fun q23 =>
    some (q23)
  else
  print_writer_closed t out >>= fun q24 =>
  some (q24)
def jW (print_writer_expr : zF → (List Str) → Option (List Str)) (t : zF) (least : Int) (out : List Str) : Option (List Str) :=
  z0V t >>= fun q1 =>
  if q1 ≥ least then
    print_writer_expr t out >>= fun q2 =>
    some (q2)
  else
  zI [[40]] out >>= fun q3 =>
  print_writer_expr t q3 >>= fun q4 =>
  zI [[41]] q4 >>= fun q5 =>
  some (q5)
def yR (print_writer_expr : zF → (List Str) → Option (List Str)) (print_writer_held : zF → Int → (List Str) → Option (List Str)) (print_writer_list_writer_expr : (List zF) → (List Str) → Option (List Str)) (t : zF) (out : List Str) : Option (List Str) :=
  if t.K = 12 then
    zP t 0 >>= fun q1 =>
    print_writer_held q1 7 out >>= fun q2 =>
    zI [[91]] q2 >>= fun q3 =>
    zP t 1 >>= fun q4 =>
    print_writer_expr q4 q3 >>= fun q5 =>
    zI [[93]] q5 >>= fun q6 =>
    some (q6)
  else
  if t.K = 13 then
    zP t 0 >>= fun q7 =>
    print_writer_held q7 7 out >>= fun q8 =>
    zI [[46], t.S] q8 >>= fun q9 =>
    some (q9)
  else
  if t.K = 14 then
    zI [[91]] out >>= fun q10 =>
    print_writer_list_writer_expr t.L q10 >>= fun q11 =>
    zI [[93]] q11 >>= fun q12 =>
    some (q12)
  else
  if t.K = 16 then
    zI [t.S] out >>= fun q13 =>
    zI [[40]] q13 >>= fun q14 =>
    print_writer_list_writer_expr t.L q14 >>= fun q15 =>
    zI [[41]] q15 >>= fun q16 =>
    some (q16)
  else
  if t.K = 17 then
    zI [[64], t.S] out >>= fun q17 =>
    zI [[40]] q17 >>= fun q18 =>
    print_writer_list_writer_expr t.L q18 >>= fun q19 =>
    zI [[41]] q19 >>= fun q20 =>
    some (q20)
  else
  if t.K = 15 then
    zI [[110, 101, 119], t.S] out >>= fun q21 =>
    zI [[40]] q21 >>= fun q22 =>
    print_writer_list_writer_expr t.L q22 >>= fun q23 =>
    zI [[41]] q23 >>= fun q24 =>
    some (q24)
  else
  some (out)
def vM (print_writer_list_writer_expr_L1 : (List zF) → Int → Int → (List Str) → Option (List Str)) (l : List zF) (out : List Str) : Option (List Str) :=
  print_writer_list_writer_expr_L1 l (List.length l : Int) 0 out
def yV (print_writer_expr : zF → (List Str) → Option (List Str)) (print_writer_list_writer_expr_L1 : (List zF) → Int → Int → (List Str) → Option (List Str)) (v8 : List zF) (v9 v10 : Int) (out : List Str) : Option (List Str) :=
  if v10 < v9 then
    idx v8 v10 >>= fun x =>
    if v10 > 0 then
      zI [[44]] out >>= fun q1 =>
      print_writer_expr x q1 >>= fun q2 =>
      print_writer_list_writer_expr_L1 v8 v9 (IntKind.wrap .i64 (v10 + 1)) q2
    else
    print_writer_expr x out >>= fun q3 =>
    print_writer_list_writer_expr_L1 v8 v9 (IntKind.wrap .i64 (v10 + 1)) q3
  else
  some (out)
inductive I_print_writer_expr where
  | print_writer_expr (t : zF) (out : List Str)
  | print_writer_held (t : zF) (least : Int) (out : List Str)
  | print_writer_closed (t : zF) (out : List Str)
  | print_writer_list_writer_expr (l : List zF) (out : List Str)
  | print_writer_list_writer_expr_L1 (v8 : List zF) (v9 v10 : Int) (out : List Str)
@[reducible] def z1R : I_print_writer_expr → Type
  | .print_writer_expr _ _ => List Str
  | .print_writer_held _ _ _ => List Str
  | .print_writer_closed _ _ => List Str
  | .print_writer_list_writer_expr _ _ => List Str
  | .print_writer_list_writer_expr_L1 _ _ _ _ => List Str
def vS (g : Fam z1R) : Fam z1R
  | .print_writer_expr t out => yE (fun t least out => g (I_print_writer_expr.print_writer_held t least out)) (fun t out => g (I_print_writer_expr.print_writer_closed t out)) t out
  | .print_writer_held t least out => jW (fun t out => g (I_print_writer_expr.print_writer_expr t out)) t least out
  | .print_writer_closed t out => yR (fun t out => g (I_print_writer_expr.print_writer_expr t out)) (fun t least out => g (I_print_writer_expr.print_writer_held t least out)) (fun l out => g (I_print_writer_expr.print_writer_list_writer_expr l out)) t out
  | .print_writer_list_writer_expr l out => vM (fun v8 v9 v10 out => g (I_print_writer_expr.print_writer_list_writer_expr_L1 v8 v9 v10 out)) l out
  | .print_writer_list_writer_expr_L1 v8 v9 v10 out => yV (fun t out => g (I_print_writer_expr.print_writer_expr t out)) (fun v8 v9 v10 out => g (I_print_writer_expr.print_writer_list_writer_expr_L1 v8 v9 v10 out)) v8 v9 v10 out
theorem jS : ∀ i, Good (fun g => vS g i)
  | .print_writer_expr t out => by unfold vS yE; exact (.ite (.bind (.const _) fun _ => (.bind (.const _) fun _ => (.const _))) (.ite (.ite (.bind (.const _) fun _ => (.const _)) (.bind (.const _) fun _ => (.const _))) (.ite (.bind (.const _) fun _ => (.const _)) (.ite (.bind (.const _) fun _ => (.const _)) (.ite (.bind (.const _) fun _ => (.ite (.bind (.const _) fun _ => (.bind (.call _) fun _ => (.bind (.const _) fun _ => (.bind (.const _) fun _ => (.bind (.call _) fun _ => (.const _)))))) (.bind (.const _) fun _ => (.bind (.call _) fun _ => (.bind (.const _) fun _ => (.bind (.const _) fun _ => (.bind (.call _) fun _ => (.const _)))))))) (.ite (.ite (.bind (.const _) fun _ => (.bind (.const _) fun _ => (.bind (.call _) fun _ => (.const _)))) (.bind (.const _) fun _ => (.bind (.const _) fun _ => (.bind (.call _) fun _ => (.const _))))) (.bind (.call _) fun _ => (.const _))))))))
  | .print_writer_held t least out => by unfold vS jW; exact (.bind (.const _) fun _ => (.ite (.bind (.call _) fun _ => (.const _)) (.bind (.const _) fun _ => (.bind (.call _) fun _ => (.bind (.const _) fun _ => (.const _))))))
  | .print_writer_closed t out => by unfold vS yR; exact (.ite (.bind (.const _) fun _ => (.bind (.call _) fun _ => (.bind (.const _) fun _ => (.bind (.const _) fun _ => (.bind (.call _) fun _ => (.bind (.const _) fun _ => (.const _))))))) (.ite (.bind (.const _) fun _ => (.bind (.call _) fun _ => (.bind (.const _) fun _ => (.const _)))) (.ite (.bind (.const _) fun _ => (.bind (.call _) fun _ => (.bind (.const _) fun _ => (.const _)))) (.ite (.bind (.const _) fun _ => (.bind (.const _) fun _ => (.bind (.call _) fun _ => (.bind (.const _) fun _ => (.const _))))) (.ite (.bind (.const _) fun _ => (.bind (.const _) fun _ => (.bind (.call _) fun _ => (.bind (.const _) fun _ => (.const _))))) (.ite (.bind (.const _) fun _ => (.bind (.const _) fun _ => (.bind (.call _) fun _ => (.bind (.const _) fun _ => (.const _))))) (.const _)))))))
  | .print_writer_list_writer_expr l out => by unfold vS vM; exact (.call _)
  | .print_writer_list_writer_expr_L1 v8 v9 v10 out => by unfold vS yV; exact (.ite (.bind (.const _) fun _ => (.ite (.bind (.const _) fun _ => (.bind (.call _) fun _ => (.call _))) (.bind (.call _) fun _ => (.call _)))) (.const _))
def print_writer_expr (t : zF) (out : List Str) : Option (List Str) := gV vS (.print_writer_expr t out)
def print_writer_held (t : zF) (least : Int) (out : List Str) : Option (List Str) := gV vS (.print_writer_held t least out)
def print_writer_closed (t : zF) (out : List Str) : Option (List Str) := gV vS (.print_writer_closed t out)
def print_writer_list_writer_expr (l : List zF) (out : List Str) : Option (List Str) := gV vS (.print_writer_list_writer_expr l out)
def print_writer_list_writer_expr_L1 (v8 : List zF) (v9 v10 : Int) (out : List Str) : Option (List Str) := gV vS (.print_writer_list_writer_expr_L1 v8 v9 v10 out)
theorem vF (t : zF) (out : List Str) : print_writer_expr t out = yE print_writer_held print_writer_closed t out := yX jS (.print_writer_expr t out)
theorem z7j (t : zF) (least : Int) (out : List Str) : print_writer_held t least out = jW print_writer_expr t least out := yX jS (.print_writer_held t least out)
theorem wU (t : zF) (out : List Str) : print_writer_closed t out = yR print_writer_expr print_writer_held print_writer_list_writer_expr t out := yX jS (.print_writer_closed t out)
theorem z0B (l : List zF) (out : List Str) : print_writer_list_writer_expr l out = vM print_writer_list_writer_expr_L1 l out := yX jS (.print_writer_list_writer_expr l out)
theorem gZ (v8 : List zF) (v9 v10 : Int) (out : List Str) : print_writer_list_writer_expr_L1 v8 v9 v10 out = yV print_writer_expr print_writer_list_writer_expr_L1 v8 v9 v10 out := yX jS (.print_writer_list_writer_expr_L1 v8 v9 v10 out)
def uE (t : zF) (words out : List Str) : Option (List Str) :=
  zI words out >>= fun q1 =>
  print_writer_expr t q1 >>= fun q2 =>
  zI [[59]] q2 >>= fun q3 =>
  some (q3)
def wX (t : zF) (out : List Str) : Option (List Str) :=
  zI [t.S, [58]] out >>= fun q1 =>
  zP t 0 >>= fun q2 =>
  print_writer_kind q2 q1 >>= fun q3 =>
  some (q3)
def jI (print_writer_block_L3 : (List zF) → Int → Int → (List Str) → Option (List Str)) (t : zF) (out : List Str) : Option (List Str) :=
  zI [[123]] out >>= fun q1 =>
  print_writer_block_L3 t.L (List.length t.L : Int) 0 q1
def uB (print_writer_block_L3 : (List zF) → Int → Int → (List Str) → Option (List Str)) (print_writer_stmt : zF → (List Str) → Option (List Str)) (v10 : List zF) (v11 v12 : Int) (out : List Str) : Option (List Str) :=
  if v12 < v11 then
    idx v10 v12 >>= fun x =>
    print_writer_stmt x out >>= fun q1 =>
    print_writer_block_L3 v10 v11 (IntKind.wrap .i64 (v12 + 1)) q1
  else
  zI [[125]] out >>= fun q2 =>
  some (q2)
def uY (print_writer_block : zF → (List Str) → Option (List Str)) (print_writer_nested : zF → (List Str) → Option (List Str)) (t : zF) (out : List Str) : Option (List Str) :=
  if t.K = 29 then
    print_writer_block t out >>= fun q1 =>
    some (q1)
  else
  if t.K = 20 then
    zP t 0 >>= fun q2 =>
    uE q2 [[108, 101, 116], t.S, [61]] out >>= fun q3 =>
    some (q3)
  else
  if t.K = 21 then
    zI [[108, 101, 116]] out >>= fun q4 =>
    wX t q4 >>= fun q5 =>
    zI [[59]] q5 >>= fun q6 =>
    some (q6)
  else
  if t.K = 22 then
    zP t 0 >>= fun q7 =>
    print_writer_expr q7 out >>= fun q8 =>
    zP t 1 >>= fun q9 =>
    uE q9 [[61]] q8 >>= fun q10 =>
    some (q10)
  else
  if t.K = 26 then
    zP t 0 >>= fun q11 =>
    uE q11 [[112, 114, 105, 110, 116]] out >>= fun q12 =>
    some (q12)
  else
  if t.K = 27 then
    zP t 0 >>= fun q13 =>
    uE q13 [[114, 101, 116, 117, 114, 110]] out >>= fun q14 =>
    some (q14)
  else
  if t.K = 28 then
    zP t 0 >>= fun q15 =>
    uE q15 [[100, 111]] out >>= fun q16 =>
    some (q16)
  else
  print_writer_nested t out >>= fun q17 =>
  some (q17)
def wY (print_writer_block : zF → (List Str) → Option (List Str)) (t : zF) (out : List Str) : Option (List Str) :=
  if t.K = 23 then
    zI [[105, 102]] out >>= fun q1 =>
    zP t 0 >>= fun q2 =>
    print_writer_expr q2 q1 >>= fun q3 =>
    zP t 1 >>= fun q4 =>
    print_writer_block q4 q3 >>= fun q5 =>
    zP t 2 >>= fun q6 =>
    if (List.length q6.L : Int) > 0 then
      zI [[101, 108, 115, 101]] q5 >>= fun q7 =>
      zP t 2 >>= fun q8 =>
      print_writer_block q8 q7 >>= fun q9 =>
      some (q9)
    else
    some (q5)
  else
  if t.K = 24 then
    zI [[119, 104, 105, 108, 101]] out >>= fun q10 =>
    zP t 0 >>= fun q11 =>
    print_writer_expr q11 q10 >>= fun q12 =>
    zP t 1 >>= fun q13 =>
    print_writer_block q13 q12 >>= fun q14 =>
    some (q14)
  else
  if t.K = 25 then
    zI [[102, 111, 114], t.S, [61]] out >>= fun q15 =>
    zP t 0 >>= fun q16 =>
    print_writer_expr q16 q15 >>= fun q17 =>
    zI [[116, 111]] q17 >>= fun q18 =>
    zP t 1 >>= fun q19 =>
    print_writer_expr q19 q18 >>= fun q20 =>
    zP t 2 >>= fun q21 =>
    print_writer_block q21 q20 >>= fun q22 =>
    some (q22)
  else
  some (out)
inductive I_print_writer_block where
  | print_writer_block (t : zF) (out : List Str)
  | print_writer_block_L3 (v10 : List zF) (v11 v12 : Int) (out : List Str)
  | print_writer_stmt (t : zF) (out : List Str)
  | print_writer_nested (t : zF) (out : List Str)
@[reducible] def z1B : I_print_writer_block → Type
  | .print_writer_block _ _ => List Str
  | .print_writer_block_L3 _ _ _ _ => List Str
  | .print_writer_stmt _ _ => List Str
  | .print_writer_nested _ _ => List Str
def wL (g : Fam z1B) : Fam z1B
  | .print_writer_block t out => jI (fun v10 v11 v12 out => g (I_print_writer_block.print_writer_block_L3 v10 v11 v12 out)) t out
  | .print_writer_block_L3 v10 v11 v12 out => uB (fun v10 v11 v12 out => g (I_print_writer_block.print_writer_block_L3 v10 v11 v12 out)) (fun t out => g (I_print_writer_block.print_writer_stmt t out)) v10 v11 v12 out
  | .print_writer_stmt t out => uY (fun t out => g (I_print_writer_block.print_writer_block t out)) (fun t out => g (I_print_writer_block.print_writer_nested t out)) t out
  | .print_writer_nested t out => wY (fun t out => g (I_print_writer_block.print_writer_block t out)) t out
theorem gL : ∀ i, Good (fun g => wL g i)
  | .print_writer_block t out => by unfold wL jI; exact (.bind (.const _) fun _ => (.call _))
  | .print_writer_block_L3 v10 v11 v12 out => by unfold wL uB; exact (.ite (.bind (.const _) fun _ => (.bind (.call _) fun _ => (.call _))) (.bind (.const _) fun _ => (.const _)))
  | .print_writer_stmt t out => by unfold wL uY; exact (.ite (.bind (.call _) fun _ => (.const _)) (.ite (.bind (.const _) fun _ => (.bind (.const _) fun _ => (.const _))) (.ite (.bind (.const _) fun _ => (.bind (.const _) fun _ => (.bind (.const _) fun _ => (.const _)))) (.ite (.bind (.const _) fun _ => (.bind (.const _) fun _ => (.bind (.const _) fun _ => (.bind (.const _) fun _ => (.const _))))) (.ite (.bind (.const _) fun _ => (.bind (.const _) fun _ => (.const _))) (.ite (.bind (.const _) fun _ => (.bind (.const _) fun _ => (.const _))) (.ite (.bind (.const _) fun _ => (.bind (.const _) fun _ => (.const _))) (.bind (.call _) fun _ => (.const _)))))))))
  | .print_writer_nested t out => by unfold wL wY; exact (.ite (.bind (.const _) fun _ => (.bind (.const _) fun _ => (.bind (.const _) fun _ => (.bind (.const _) fun _ => (.bind (.call _) fun _ => (.bind (.const _) fun _ => (.ite (.bind (.const _) fun _ => (.bind (.const _) fun _ => (.bind (.call _) fun _ => (.const _)))) (.const _)))))))) (.ite (.bind (.const _) fun _ => (.bind (.const _) fun _ => (.bind (.const _) fun _ => (.bind (.const _) fun _ => (.bind (.call _) fun _ => (.const _)))))) (.ite (.bind (.const _) fun _ => (.bind (.const _) fun _ => (.bind (.const _) fun _ => (.bind (.const _) fun _ => (.bind (.const _) fun _ => (.bind (.const _) fun _ => (.bind (.const _) fun _ => (.bind (.call _) fun _ => (.const _))))))))) (.const _))))
def print_writer_block (t : zF) (out : List Str) : Option (List Str) := gV wL (.print_writer_block t out)
def print_writer_block_L3 (v10 : List zF) (v11 v12 : Int) (out : List Str) : Option (List Str) := gV wL (.print_writer_block_L3 v10 v11 v12 out)
def print_writer_stmt (t : zF) (out : List Str) : Option (List Str) := gV wL (.print_writer_stmt t out)
def print_writer_nested (t : zF) (out : List Str) : Option (List Str) := gV wL (.print_writer_nested t out)
theorem z6x (t : zF) (out : List Str) : print_writer_block t out = jI print_writer_block_L3 t out := yX gL (.print_writer_block t out)
theorem z2j (v10 : List zF) (v11 v12 : Int) (out : List Str) : print_writer_block_L3 v10 v11 v12 out = uB print_writer_block_L3 print_writer_stmt v10 v11 v12 out := yX gL (.print_writer_block_L3 v10 v11 v12 out)
theorem z3x (t : zF) (out : List Str) : print_writer_stmt t out = uY print_writer_block print_writer_nested t out := yX gL (.print_writer_stmt t out)
theorem z1g (t : zF) (out : List Str) : print_writer_nested t out = wY print_writer_block t out := yX gL (.print_writer_nested t out)
def uH (print_writer_decl_L5 : (List zF) → Int → Int → (List Str) → Option (List Str)) (v16 : List zF) (v17 v18 : Int) (out : List Str) : Option (List Str) :=
  if v18 < v17 then
    idx v16 v18 >>= fun x =>
    wX x out >>= fun q1 =>
    zI [[59]] q1 >>= fun q2 =>
    print_writer_decl_L5 v16 v17 (IntKind.wrap .i64 (v18 + 1)) q2
  else
  zI [[125]] out >>= fun q3 =>
  some (q3)
inductive I_print_writer_decl_L5 where
  | print_writer_decl_L5 (v16 : List zF) (v17 v18 : Int) (out : List Str)
@[reducible] def z1e : I_print_writer_decl_L5 → Type
  | .print_writer_decl_L5 _ _ _ _ => List Str
def z0f (g : Fam z1e) : Fam z1e
  | .print_writer_decl_L5 v16 v17 v18 out => uH (fun v16 v17 v18 out => g (I_print_writer_decl_L5.print_writer_decl_L5 v16 v17 v18 out)) v16 v17 v18 out
theorem z2D : ∀ i, Good (fun g => z0f g i)
  | .print_writer_decl_L5 v16 v17 v18 out => by unfold z0f uH; exact (.ite (.bind (.const _) fun _ => (.bind (.const _) fun _ => (.bind (.const _) fun _ => (.call _)))) (.bind (.const _) fun _ => (.const _)))
def print_writer_decl_L5 (v16 : List zF) (v17 v18 : Int) (out : List Str) : Option (List Str) := gV z0f (.print_writer_decl_L5 v16 v17 v18 out)
theorem z2A (v16 : List zF) (v17 v18 : Int) (out : List Str) : print_writer_decl_L5 v16 v17 v18 out = uH print_writer_decl_L5 v16 v17 v18 out := yX z2D (.print_writer_decl_L5 v16 v17 v18 out)
def yN (print_writer_list_writer_named_L1 : (List zF) → Int → Int → (List Str) → Option (List Str)) (v8 : List zF) (v9 v10 : Int) (out : List Str) : Option (List Str) :=
  if v10 < v9 then
    idx v8 v10 >>= fun x =>
    if v10 > 0 then
      zI [[44]] out >>= fun q1 =>
      wX x q1 >>= fun q2 =>
      print_writer_list_writer_named_L1 v8 v9 (IntKind.wrap .i64 (v10 + 1)) q2
    else
    wX x out >>= fun q3 =>
    print_writer_list_writer_named_L1 v8 v9 (IntKind.wrap .i64 (v10 + 1)) q3
  else
  some (out)
inductive I_print_writer_list_writer_named_L1 where
  | print_writer_list_writer_named_L1 (v8 : List zF) (v9 v10 : Int) (out : List Str)
@[reducible] def uW : I_print_writer_list_writer_named_L1 → Type
  | .print_writer_list_writer_named_L1 _ _ _ _ => List Str
def wZ (g : Fam uW) : Fam uW
  | .print_writer_list_writer_named_L1 v8 v9 v10 out => yN (fun v8 v9 v10 out => g (I_print_writer_list_writer_named_L1.print_writer_list_writer_named_L1 v8 v9 v10 out)) v8 v9 v10 out
theorem gX : ∀ i, Good (fun g => wZ g i)
  | .print_writer_list_writer_named_L1 v8 v9 v10 out => by unfold wZ yN; exact (.ite (.bind (.const _) fun _ => (.ite (.bind (.const _) fun _ => (.bind (.const _) fun _ => (.call _))) (.bind (.const _) fun _ => (.call _)))) (.const _))
def print_writer_list_writer_named_L1 (v8 : List zF) (v9 v10 : Int) (out : List Str) : Option (List Str) := gV wZ (.print_writer_list_writer_named_L1 v8 v9 v10 out)
theorem gS (v8 : List zF) (v9 v10 : Int) (out : List Str) : print_writer_list_writer_named_L1 v8 v9 v10 out = yN print_writer_list_writer_named_L1 v8 v9 v10 out := yX gX (.print_writer_list_writer_named_L1 v8 v9 v10 out)
def yY (l : List zF) (out : List Str) : Option (List Str) :=
  print_writer_list_writer_named_L1 l (List.length l : Int) 0 out
def z0H (t : zF) (out : List Str) : Option (List Str) :=
  if t.K = 30 then
    zI [[114, 101, 99], t.S, [123]] out >>= fun q1 =>
    print_writer_decl_L5 t.L (List.length t.L : Int) 0 q1
  else
  if t.K = 31 then
    zP t 0 >>= fun q2 =>
    uE q2 [[99, 111, 110, 115, 116], t.S, [61]] out >>= fun q3 =>
    some (q3)
  else
  if t.K = 32 then
    zI [[118, 97, 114]] out >>= fun q4 =>
    wX t q4 >>= fun q5 =>
    zI [[59]] q5 >>= fun q6 =>
    some (q6)
  else
  if t.K = 33 then
    if t.N = 1 then
      zI [[112, 117, 98]] out >>= fun q7 =>
      zI [[102, 110], t.S, [40]] q7 >>= fun q8 =>
      zP t 0 >>= fun q9 =>
      yY q9.L q8 >>= fun q10 =>
      zI [[41], [58]] q10 >>= fun q11 =>
      zP t 1 >>= fun q12 =>
      print_writer_kind q12 q11 >>= fun q13 =>
      zP t 2 >>= fun q14 =>
      print_writer_block q14 q13 >>= fun q15 =>
      some (q15)
    else
    zI [[102, 110], t.S, [40]] out >>= fun q16 =>
    zP t 0 >>= fun q17 =>
    yY q17.L q16 >>= fun q18 =>
    zI [[41], [58]] q18 >>= fun q19 =>
    zP t 1 >>= fun q20 =>
    print_writer_kind q20 q19 >>= fun q21 =>
    zP t 2 >>= fun q22 =>
    print_writer_block q22 q21 >>= fun q23 =>
    some (q23)
  else
  some (out)
def z0k : List zF → Str → Option Str
  | [], u => some u
  | d :: r, u => z0H d [] >>= fun q => gW q >>= fun s => if List.length u + List.length s + 1 ≤ 140737488355328 then z0k r (u ++ s ++ [10]) else none
def z6U (m : zF) : Option (Str) := z0k m.L []
def z2P (text : Str) (at_ : Int) (s : Str) : Option (Bool) :=
  if (List.length s : Int) ≤ (IntKind.wrap .i64 ((List.length text : Int) - at_)) then
    if (0 : Int) ≤ (IntKind.wrap .i64 (at_ + (List.length s : Int))) then
    if Int.toNat (IntKind.wrap .i64 (at_ + (List.length s : Int))) ≤ List.length text then
    if (0 : Int) ≤ at_ then
    if Int.toNat at_ ≤ Int.toNat (IntKind.wrap .i64 (at_ + (List.length s : Int))) then
    some (((List.drop (Int.toNat at_) (List.take (Int.toNat (IntKind.wrap .i64 (at_ + (List.length s : Int)))) text)) == s))
    else none
    else none
    else none
    else none
  else
  some (false)
def z4I (c : Int) : Option (Bool) :=
  if c = 32 then
    some (true)
  else
  if c = 9 then
    some (true)
  else
  if c = 10 then
    some (true)
  else
  some ((c == 13))
def z0q (yL : Str → Int → Option (Int)) (vT : Str → Int → Option (Int)) (text : Str) (at_ : Int) : Option (Int) :=
  if at_ < (List.length text : Int) then
    idx text at_ >>= fun c =>
    z4I (Int.ofNat (UInt8.toNat c)) >>= fun q1 =>
    if q1 = true then
      yL text (IntKind.wrap .i64 (at_ + 1))
    else
    z2P text at_ [47, 47] >>= fun q2 =>
    if q2 = true then
      vT text at_
    else
    some (at_)
  else
  some (at_)
def z0r (yL : Str → Int → Option (Int)) (vT : Str → Int → Option (Int)) (text : Str) (at_ : Int) : Option (Int) :=
  if at_ < (List.length text : Int) then
    idx text at_ >>= fun c =>
    if Int.ofNat (UInt8.toNat c) = 10 then
      yL text at_
    else
    vT text (IntKind.wrap .i64 (at_ + 1))
  else
  yL text at_
inductive jF where
  | yL (text : Str) (at_ : Int)
  | vT (text : Str) (at_ : Int)
@[reducible] def z4v : jF → Type
  | .yL _ _ => Int
  | .vT _ _ => Int
def z1b (g : Fam z4v) : Fam z4v
  | .yL text at_ => z0q (fun text at_ => g (jF.yL text at_)) (fun text at_ => g (jF.vT text at_)) text at_
  | .vT text at_ => z0r (fun text at_ => g (jF.yL text at_)) (fun text at_ => g (jF.vT text at_)) text at_
theorem z4t : ∀ i, Good (fun g => z1b g i)
  | .yL text at_ => by unfold z1b z0q; exact (.ite (.bind (.const _) fun _ => (.bind (.const _) fun _ => (.ite (.call _) (.bind (.const _) fun _ => (.ite (.call _) (.const _)))))) (.const _))
  | .vT text at_ => by unfold z1b z0r; exact (.ite (.bind (.const _) fun _ => (.ite (.call _) (.call _))) (.call _))
def yL (text : Str) (at_ : Int) : Option (Int) := gV z1b (.yL text at_)
def vT (text : Str) (at_ : Int) : Option (Int) := gV z1b (.vT text at_)
theorem z6z (text : Str) (at_ : Int) : yL text at_ = z0q yL vT text at_ := yX z4t (.yL text at_)
theorem z6A (text : Str) (at_ : Int) : vT text at_ = z0r yL vT text at_ := yX z4t (.vT text at_)
def z4J (text : Str) (at_ : Int) : Option (Int) :=
  yL text at_
def z2Q (c : Int) : Option (Bool) :=
  if (48 : Int) ≤ c then
    some (decide (c ≤ 57))
  else
  some (false)
def z2R (c : Int) : Option (Bool) :=
  if (97 : Int) ≤ c then
    if c ≤ 122 then
      some (true)
    else
    if (65 : Int) ≤ c then
      if c ≤ 90 then
        some (true)
      else
      some ((c == 95))
    else
    some ((c == 95))
  else
  if (65 : Int) ≤ c then
    if c ≤ 90 then
      some (true)
    else
    some ((c == 95))
  else
  some ((c == 95))
def gH (yO : Str → Int → Int → Option (Int × Bool)) (s : Str) (v i : Int) : Option (Int × Bool) :=
  if i < (List.length s : Int) then
    idx s i >>= fun c =>
    if 10 ≠ (0 : Int) then
    if v > (IntKind.wrap .i64 (Int.tdiv (IntKind.wrap .i64 (9223372036854775807 - (IntKind.wrap .i64 (IntKind.wrap .u8 ((Int.ofNat (UInt8.toNat c)) - 48))))) 10)) then
      some (0, false)
    else
    yO s (IntKind.wrap .i64 ((IntKind.wrap .i64 (v * 10)) + (IntKind.wrap .i64 (IntKind.wrap .u8 ((Int.ofNat (UInt8.toNat c)) - 48))))) (IntKind.wrap .i64 (i + 1))
    else none
  else
  some (v, true)
inductive z1L where
  | yO (s : Str) (v i : Int)
@[reducible] def z3l : z1L → Type
  | .yO _ _ _ => Int × Bool
def z1H (g : Fam z3l) : Fam z3l
  | .yO s v i => gH (fun s v i => g (z1L.yO s v i)) s v i
theorem z5q : ∀ i, Good (fun g => z1H g i)
  | .yO s v i => by unfold z1H gH; exact (.ite (.bind (.const _) fun _ => (.ite (.ite (.const _) (.call _)) (.const _))) (.const _))
def yO (s : Str) (v i : Int) : Option (Int × Bool) := gV z1H (.yO s v i)
theorem z4K (s : Str) (v i : Int) : yO s v i = gH yO s v i := yX z5q (.yO s v i)
def z1Z (s : Str) : Option (Int × Bool) :=
  if (List.length s : Int) = 0 then
    some (0, false)
  else
  if (List.length s : Int) > 1 then
    idx s 0 >>= fun c =>
    if Int.ofNat (UInt8.toNat c) = 48 then
      some (0, false)
    else
    yO s 0 0
  else
  yO s 0 0
def z0s (wH : Str → Int → Int → zC → Option (zC × Int)) (text : Str) (at_ to_ : Int) (o4 : zC) : Option (zC × Int) :=
  if to_ < (List.length text : Int) then
    idx text to_ >>= fun c =>
    z2Q (Int.ofNat (UInt8.toNat c)) >>= fun q1 =>
    if q1 = true then
      wH text at_ (IntKind.wrap .i64 (to_ + 1)) o4
    else
    if (0 : Int) ≤ to_ then
    if Int.toNat to_ ≤ List.length text then
    if (0 : Int) ≤ at_ then
    if Int.toNat at_ ≤ Int.toNat to_ then
    z1Z (List.drop (Int.toNat at_) (List.take (Int.toNat to_) text)) >>= fun q2 =>
    if q2.2 = true then
      some ((zC.mk 2 q2.1 [] at_ to_), 0)
    else
    some ((zC.mk 0 0 [] 0 0), 5)
    else none
    else none
    else none
    else none
  else
  if (0 : Int) ≤ to_ then
  if Int.toNat to_ ≤ List.length text then
  if (0 : Int) ≤ at_ then
  if Int.toNat at_ ≤ Int.toNat to_ then
  z1Z (List.drop (Int.toNat at_) (List.take (Int.toNat to_) text)) >>= fun q3 =>
  if q3.2 = true then
    some ((zC.mk 2 q3.1 [] at_ to_), 0)
  else
  some ((zC.mk 0 0 [] 0 0), 5)
  else none
  else none
  else none
  else none
inductive z2Y where
  | wH (text : Str) (at_ to_ : Int) (o4 : zC)
@[reducible] def z4w : z2Y → Type
  | .wH _ _ _ _ => zC × Int
def z2U (g : Fam z4w) : Fam z4w
  | .wH text at_ to_ o4 => z0s (fun text at_ to_ o4 => g (z2Y.wH text at_ to_ o4)) text at_ to_ o4
theorem z7k : ∀ i, Good (fun g => z2U g i)
  | .wH text at_ to_ o4 => by unfold z2U z0s; exact (.ite (.bind (.const _) fun _ => (.bind (.const _) fun _ => (.ite (.call _) (.ite (.ite (.ite (.ite (.bind (.const _) fun _ => (.ite (.const _) (.const _))) (.const _)) (.const _)) (.const _)) (.const _))))) (.ite (.ite (.ite (.ite (.bind (.const _) fun _ => (.ite (.const _) (.const _))) (.const _)) (.const _)) (.const _)) (.const _)))
def wH (text : Str) (at_ to_ : Int) (o4 : zC) : Option (zC × Int) := gV z2U (.wH text at_ to_ o4)
theorem z6B (text : Str) (at_ to_ : Int) (o4 : zC) : wH text at_ to_ o4 = z0s wH text at_ to_ o4 := yX z7k (.wH text at_ to_ o4)
def z0t (wI : Str → Int → (List Str) → Int → zC → Option (zC × Int)) (text : Str) (at_ : Int) (all : List Str) (i : Int) (o4 : zC) : Option (zC × Int) :=
  if i < (List.length all : Int) then
    idx all i >>= fun x =>
    z2P text at_ x >>= fun q1 =>
    if q1 = true then
      idx all i >>= fun x1 =>
      idx all i >>= fun x2 =>
      some ((zC.mk 4 0 x1 at_ (IntKind.wrap .i64 (at_ + (List.length x2 : Int)))), 0)
    else
    wI text at_ all (IntKind.wrap .i64 (i + 1)) o4
  else
  some ((zC.mk 0 0 [] 0 0), 4)
inductive z2Z where
  | wI (text : Str) (at_ : Int) (all : List Str) (i : Int) (o4 : zC)
@[reducible] def z4x : z2Z → Type
  | .wI _ _ _ _ _ => zC × Int
def z2V (g : Fam z4x) : Fam z4x
  | .wI text at_ all i o4 => z0t (fun text at_ all i o4 => g (z2Z.wI text at_ all i o4)) text at_ all i o4
theorem z7l : ∀ i, Good (fun g => z2V g i)
  | .wI text at_ all i o4 => by unfold z2V z0t; exact (.ite (.bind (.const _) fun _ => (.bind (.const _) fun _ => (.ite (.bind (.const _) fun _ => (.bind (.const _) fun _ => (.const _))) (.call _)))) (.const _))
def wI (text : Str) (at_ : Int) (all : List Str) (i : Int) (o4 : zC) : Option (zC × Int) := gV z2V (.wI text at_ all i o4)
theorem z6C (text : Str) (at_ : Int) (all : List Str) (i : Int) (o4 : zC) : wI text at_ all i o4 = z0t wI text at_ all i o4 := yX z7l (.wI text at_ all i o4)
def z0a (vQ : Str → (List Str) → Int → Option (Bool)) (s : Str) (all : List Str) (i : Int) : Option (Bool) :=
  if i < (List.length all : Int) then
    idx all i >>= fun x =>
    if x = s then
      some (true)
    else
    vQ s all (IntKind.wrap .i64 (i + 1))
  else
  some (false)
inductive z2u where
  | vQ (s : Str) (all : List Str) (i : Int)
@[reducible] def z3R : z2u → Type
  | .vQ _ _ _ => Bool
def z2q (g : Fam z3R) : Fam z3R
  | .vQ s all i => z0a (fun s all i => g (z2u.vQ s all i)) s all i
theorem z5J : ∀ i, Good (fun g => z2q g i)
  | .vQ s all i => by unfold z2q z0a; exact (.ite (.bind (.const _) fun _ => (.ite (.const _) (.call _))) (.const _))
def vQ (s : Str) (all : List Str) (i : Int) : Option (Bool) := gV z2q (.vQ s all i)
theorem z5A (s : Str) (all : List Str) (i : Int) : vQ s all i = z0a vQ s all i := yX z5J (.vQ s all i)
def z2O (s : Str) (all : List Str) : Option (Bool) :=
  vQ s all 0
def z3I  : Option (List Str) :=
  some ([[114, 101, 99], [99, 111, 110, 115, 116], [118, 97, 114], [112, 117, 98], [102, 110], [105, 110, 116], [98, 111, 111, 108], [108, 101, 116], [105, 102], [101, 108, 115, 101], [119, 104, 105, 108, 101], [102, 111, 114], [116, 111], [112, 114, 105, 110, 116], [114, 101, 116, 117, 114, 110], [100, 111], [116, 114, 117, 101], [102, 97, 108, 115, 101], [114, 101, 97, 100], [110, 101, 119]])
def z0X (wN : Str → Int → Int → zC → Option (zC × Int)) (text : Str) (at_ to_ : Int) (o4 : zC) : Option (zC × Int) :=
  if to_ < (List.length text : Int) then
    idx text to_ >>= fun c =>
    z2R (Int.ofNat (UInt8.toNat c)) >>= fun q1 =>
    if q1 = true then
      wN text at_ (IntKind.wrap .i64 (to_ + 1)) o4
    else
    idx text to_ >>= fun c1 =>
    z2Q (Int.ofNat (UInt8.toNat c1)) >>= fun q2 =>
    if q2 = true then
      wN text at_ (IntKind.wrap .i64 (to_ + 1)) o4
    else
    if (IntKind.wrap .i64 (to_ - at_)) > 16 then
      some ((zC.mk 0 0 [] 0 0), 3)
    else
    if (0 : Int) ≤ to_ then
    if Int.toNat to_ ≤ List.length text then
    if (0 : Int) ≤ at_ then
    if Int.toNat at_ ≤ Int.toNat to_ then
    z3I >>= fun q3 =>
    z2O (List.drop (Int.toNat at_) (List.take (Int.toNat to_) text)) q3 >>= fun q4 =>
    if q4 = true then
      some ((zC.mk 3 0 (List.drop (Int.toNat at_) (List.take (Int.toNat to_) text)) at_ to_), 0)
    else
    some ((zC.mk 1 0 (List.drop (Int.toNat at_) (List.take (Int.toNat to_) text)) at_ to_), 0)
    else none
    else none
    else none
    else none
  else
  if (IntKind.wrap .i64 (to_ - at_)) > 16 then
    some ((zC.mk 0 0 [] 0 0), 3)
  else
  if (0 : Int) ≤ to_ then
  if Int.toNat to_ ≤ List.length text then
  if (0 : Int) ≤ at_ then
  if Int.toNat at_ ≤ Int.toNat to_ then
  z3I >>= fun q5 =>
  z2O (List.drop (Int.toNat at_) (List.take (Int.toNat to_) text)) q5 >>= fun q6 =>
  if q6 = true then
    some ((zC.mk 3 0 (List.drop (Int.toNat at_) (List.take (Int.toNat to_) text)) at_ to_), 0)
  else
  some ((zC.mk 1 0 (List.drop (Int.toNat at_) (List.take (Int.toNat to_) text)) at_ to_), 0)
  else none
  else none
  else none
  else none
inductive z3B where
  | wN (text : Str) (at_ to_ : Int) (o4 : zC)
@[reducible] def z5a : z3B → Type
  | .wN _ _ _ _ => zC × Int
def z3z (g : Fam z5a) : Fam z5a
  | .wN text at_ to_ o4 => z0X (fun text at_ to_ o4 => g (z3B.wN text at_ to_ o4)) text at_ to_ o4
theorem z8r : ∀ i, Good (fun g => z3z g i)
  | .wN text at_ to_ o4 => by unfold z3z z0X; exact (.ite (.bind (.const _) fun _ => (.bind (.const _) fun _ => (.ite (.call _) (.bind (.const _) fun _ => (.bind (.const _) fun _ => (.ite (.call _) (.ite (.const _) (.ite (.ite (.ite (.ite (.bind (.const _) fun _ => (.bind (.const _) fun _ => (.ite (.const _) (.const _)))) (.const _)) (.const _)) (.const _)) (.const _))))))))) (.ite (.const _) (.ite (.ite (.ite (.ite (.bind (.const _) fun _ => (.bind (.const _) fun _ => (.ite (.const _) (.const _)))) (.const _)) (.const _)) (.const _)) (.const _))))
def wN (text : Str) (at_ to_ : Int) (o4 : zC) : Option (zC × Int) := gV z3z (.wN text at_ to_ o4)
theorem z7A (text : Str) (at_ to_ : Int) (o4 : zC) : wN text at_ to_ o4 = z0X wN text at_ to_ o4 := yX z8r (.wN text at_ to_ o4)
def z6Y  : Option (List Str) :=
  some ([[61, 61], [33, 61], [60, 61], [62, 61], [38, 38], [124, 124], [123], [125], [40], [41], [91], [93], [44], [59], [58], [46], [61], [60], [62], [43], [45], [42], [47], [37], [33], [64]])
def z8R (text : Str) (at_ : Int) : Option (zC × Int) :=
  idx text at_ >>= fun c =>
  z2R (Int.ofNat (UInt8.toNat c)) >>= fun q1 =>
  if q1 = true then
    wN text at_ at_ (zC.mk 0 0 [] 0 0)
  else
  z2Q (Int.ofNat (UInt8.toNat c)) >>= fun q2 =>
  if q2 = true then
    wH text at_ at_ (zC.mk 0 0 [] 0 0)
  else
  z6Y >>= fun q3 =>
  wI text at_ q3 0 (zC.mk 0 0 [] 0 0)
def z0i (vK : Str → (List zC) → Int → Option (List zC × Int × Int)) (text : Str) (out : List zC) (at_ : Int) : Option (List zC × Int × Int) :=
  if at_ < (List.length text : Int) then
    z8R text at_ >>= fun q1 =>
    if q1.2 = 0 then
      if z0C 48 (List.length out + List.length [q1.1]) then
      z4J text q1.1.To >>= fun q2 =>
      vK text (out ++ [q1.1]) q2
      else none
    else
    some (([] : List zC), at_, q1.2)
  else
  if z0C 48 (List.length out + List.length [(zC.mk 5 0 [] (List.length text : Int) (List.length text : Int))]) then
  some (out ++ [(zC.mk 5 0 [] (List.length text : Int) (List.length text : Int))], 0, 0)
  else none
inductive z1M where
  | vK (text : Str) (out : List zC) (at_ : Int)
@[reducible] def z3m : z1M → Type
  | .vK _ _ _ => List zC × Int × Int
def z1I (g : Fam z3m) : Fam z3m
  | .vK text out at_ => z0i (fun text out at_ => g (z1M.vK text out at_)) text out at_
theorem z5r : ∀ i, Good (fun g => z1I g i)
  | .vK text out at_ => by unfold z1I z0i; exact (.ite (.bind (.const _) fun _ => (.ite (.ite (.bind (.const _) fun _ => (.call _)) (.const _)) (.const _))) (.ite (.const _) (.const _)))
def vK (text : Str) (out : List zC) (at_ : Int) : Option (List zC × Int × Int) := gV z1I (.vK text out at_)
theorem z9s (text : Str) (out : List zC) (at_ : Int) : vK text out at_ = z0i vK text out at_ := yX z5r (.vK text out at_)
def z4e (text : Str) : Option (List zC × Int × Int) :=
  if (List.length text : Int) > 8192 then
    some (([] : List zC), 0, 3)
  else
  z4J text 0 >>= fun q1 =>
  vK text ([] : List zC) q1
def z2k (vB : Int → Int → zF → Option (Int)) (t : zF) : Option (Int) :=
  vB 0 0 t
def z0b (uK : zF → Option (Int)) (vB : Int → Int → zF → Option (Int)) (most i : Int) (t : zF) : Option (Int) :=
  if i < (List.length t.L : Int) then
    idx t.L i >>= fun x =>
    uK x >>= fun q1 =>
    if q1 > most then
      vB q1 (IntKind.wrap .i64 (i + 1)) t
    else
    vB most (IntKind.wrap .i64 (i + 1)) t
  else
  some (IntKind.wrap .i64 (most + 1))
inductive z0P where
  | uK (t : zF)
  | vB (most i : Int) (t : zF)
@[reducible] def z5S : z0P → Type
  | .uK _ => Int
  | .vB _ _ _ => Int
def z2g (g : Fam z5S) : Fam z5S
  | .uK t => z2k (fun most i t => g (z0P.vB most i t)) t
  | .vB most i t => z0b (fun t => g (z0P.uK t)) (fun most i t => g (z0P.vB most i t)) most i t
theorem z5K : ∀ i, Good (fun g => z2g g i)
  | .uK t => by unfold z2g z2k; exact (.call _)
  | .vB most i t => by unfold z2g z0b; exact (.ite (.bind (.const _) fun _ => (.bind (.call _) fun _ => (.ite (.call _) (.call _)))) (.const _))
def uK (t : zF) : Option (Int) := gV z2g (.uK t)
def vB (most i : Int) (t : zF) : Option (Int) := gV z2g (.vB most i t)
theorem y4j (t : zF) : uK t = z2k vB t := yX z5K (.uK t)
theorem z5B (most i : Int) (t : zF) : vB most i t = z0b uK vB most i t := yX z5K (.vB most i t)
def vO (at_ : Int) : Option (zG) :=
  some ((zG.mk (zF.mk 0 0 [] [] 0 0) at_ 6))
def zR (t : List zC) (from_ to_ k n : Int) (s : Str) (parts : List zF) : Option (zG) :=
  idx t from_ >>= fun x =>
  idx t (IntKind.wrap .i64 (to_ - 1)) >>= fun x1 =>
  some ((zG.mk (zF.mk k n s parts x.From x1.To) to_ 0))
def uL (t : List zC) (at_ : Int) : Option (zC) :=
  if at_ < (List.length t : Int) then
    idx t at_ >>= fun x =>
    some (x)
  else
  some ((zC.mk 5 0 [] 0 0))
def zQ (t : List zC) (at_ : Int) (s : Str) : Option (Bool) :=
  uL t at_ >>= fun q1 =>
  if q1.K = 4 then
    uL t at_ >>= fun q2 =>
    some ((q2.S == s))
  else
  some (false)
def vZ (t : List zC) (at_ : Int) (s : Str) : Option (Bool) :=
  uL t at_ >>= fun q1 =>
  if q1.K = 3 then
    uL t at_ >>= fun q2 =>
    some ((q2.S == s))
  else
  some (false)
def z2b (wV : (List zC) → Int → Option (zG)) (t : List zC) (at_ : Int) : Option (zG) :=
  vZ t at_ [105, 110, 116] >>= fun q1 =>
  if q1 = true then
    zR t at_ (IntKind.wrap .i64 (at_ + 1)) 1 0 [] ([] : List zF) >>= fun q2 =>
    some (q2)
  else
  vZ t at_ [98, 111, 111, 108] >>= fun q3 =>
  if q3 = true then
    zR t at_ (IntKind.wrap .i64 (at_ + 1)) 2 0 [] ([] : List zF) >>= fun q4 =>
    some (q4)
  else
  uL t at_ >>= fun q5 =>
  if q5.K = 1 then
    uL t at_ >>= fun q6 =>
    zR t at_ (IntKind.wrap .i64 (at_ + 1)) 4 0 q6.S ([] : List zF) >>= fun q7 =>
    some (q7)
  else
  zQ t at_ [91] >>= fun q8 =>
  if q8 = true then
    uL t (IntKind.wrap .i64 (at_ + 1)) >>= fun q10 =>
    if q10.K = 2 then
      zQ t (IntKind.wrap .i64 (at_ + 2)) [93] >>= fun q12 =>
      if q12 = true then
        wV t (IntKind.wrap .i64 (at_ + 3)) >>= fun q14 =>
        if q14.E = 0 then
          uL t (IntKind.wrap .i64 (at_ + 1)) >>= fun q15 =>
          zR t at_ q14.At 3 q15.N [] [q14.T_] >>= fun q16 =>
          some (q16)
        else
        some (q14)
      else
      vO (IntKind.wrap .i64 (at_ + 2)) >>= fun q13 =>
      some (q13)
    else
    vO (IntKind.wrap .i64 (at_ + 1)) >>= fun q11 =>
    some (q11)
  else
  vO at_ >>= fun q9 =>
  some (q9)
inductive z4X where
  | wV (t : List zC) (at_ : Int)
@[reducible] def z7F : z4X → Type
  | .wV _ _ => zG
def z4V (g : Fam z7F) : Fam z7F
  | .wV t at_ => z2b (fun t at_ => g (z4X.wV t at_)) t at_
theorem y0F : ∀ i, Good (fun g => z4V g i)
  | .wV t at_ => by unfold z4V z2b; exact (.bind (.const _) fun _ => (.ite (.bind (.const _) fun _ => (.const _)) (.bind (.const _) fun _ => (.ite (.bind (.const _) fun _ => (.const _)) (.bind (.const _) fun _ => (.ite (.bind (.const _) fun _ => (.bind (.const _) fun _ => (.const _))) (.bind (.const _) fun _ => (.ite (.bind (.const _) fun _ => (.ite (.bind (.const _) fun _ => (.ite (.bind (.call _) fun _ => (.ite (.bind (.const _) fun _ => (.bind (.const _) fun _ => (.const _))) (.const _))) (.bind (.const _) fun _ => (.const _)))) (.bind (.const _) fun _ => (.const _)))) (.bind (.const _) fun _ => (.const _))))))))))
def wV (t : List zC) (at_ : Int) : Option (zG) := gV z4V (.wV t at_)
theorem z9V (t : List zC) (at_ : Int) : wV t at_ = z2b wV t at_ := yX y0F (.wV t at_)
def z3j (t : List zC) (at_ : Int) : Option (zG) :=
  uL t at_ >>= fun q1 =>
  if q1.K = 1 then
    zQ t (IntKind.wrap .i64 (at_ + 1)) [58] >>= fun q3 =>
    if q3 = true then
      wV t (IntKind.wrap .i64 (at_ + 2)) >>= fun q5 =>
      if q5.E = 0 then
        idx t at_ >>= fun x =>
        zR t at_ q5.At 34 0 x.S [q5.T_] >>= fun q6 =>
        some (q6)
      else
      some (q5)
    else
    vO (IntKind.wrap .i64 (at_ + 1)) >>= fun q4 =>
    some (q4)
  else
  vO at_ >>= fun q2 =>
  some (q2)
def z0j (yP : (List zC) → Int → (List zF) → Option (List zF × Int × Int)) (t : List zC) (at_ : Int) (out : List zF) : Option (List zF × Int × Int) :=
  if (List.length out : Int) = 0 then
    z3j t at_ >>= fun q1 =>
    if q1.E = 0 then
      zQ t q1.At [59] >>= fun q2 =>
      if q2 = true then
        if z0C 72 (List.length out + List.length [q1.T_]) then
        yP t (IntKind.wrap .i64 (q1.At + 1)) (out ++ [q1.T_])
        else none
      else
      some (out, q1.At, 6)
    else
    some (out, q1.At, q1.E)
  else
  zQ t at_ [125] >>= fun q3 =>
  if q3 = true then
    some (out, IntKind.wrap .i64 (at_ + 1), 0)
  else
  z3j t at_ >>= fun q4 =>
  if q4.E = 0 then
    zQ t q4.At [59] >>= fun q5 =>
    if q5 = true then
      if z0C 72 (List.length out + List.length [q4.T_]) then
      yP t (IntKind.wrap .i64 (q4.At + 1)) (out ++ [q4.T_])
      else none
    else
    some (out, q4.At, 6)
  else
  some (out, q4.At, q4.E)
inductive z1N where
  | yP (t : List zC) (at_ : Int) (out : List zF)
@[reducible] def z3n : z1N → Type
  | .yP _ _ _ => List zF × Int × Int
def z1J (g : Fam z3n) : Fam z3n
  | .yP t at_ out => z0j (fun t at_ out => g (z1N.yP t at_ out)) t at_ out
theorem z5s : ∀ i, Good (fun g => z1J g i)
  | .yP t at_ out => by unfold z1J z0j; exact (.ite (.bind (.const _) fun _ => (.ite (.bind (.const _) fun _ => (.ite (.ite (.call _) (.const _)) (.const _))) (.const _))) (.bind (.const _) fun _ => (.ite (.const _) (.bind (.const _) fun _ => (.ite (.bind (.const _) fun _ => (.ite (.ite (.call _) (.const _)) (.const _))) (.const _))))))
def yP (t : List zC) (at_ : Int) (out : List zF) : Option (List zF × Int × Int) := gV z1J (.yP t at_ out)
theorem z9u (t : List zC) (at_ : Int) (out : List zF) : yP t at_ out = z0j yP t at_ out := yX z5s (.yP t at_ out)
def z5l (t : List zC) (at_ : Int) : Option (List zF × Int × Int) :=
  yP t at_ ([] : List zF)
def z6E (t : List zC) (at_ : Int) : Option (Int × List zJ) :=
  vZ t at_ [108, 101, 116] >>= fun q1 =>
  if q1 = true then
    uL t (IntKind.wrap .i64 (at_ + 1)) >>= fun q2 =>
    if q2.K = 1 then
      zQ t (IntKind.wrap .i64 (at_ + 2)) [58] >>= fun q3 =>
      if q3 = true then
        some (21, [(zJ.mk [119, 111, 114, 100] [108, 101, 116]), (zJ.mk [110, 97, 109, 101] []), (zJ.mk [115, 105, 103, 110] [58]), (zJ.mk [116, 121, 112, 101] []), (zJ.mk [115, 105, 103, 110] [59])])
      else
      some (20, [(zJ.mk [119, 111, 114, 100] [108, 101, 116]), (zJ.mk [110, 97, 109, 101] []), (zJ.mk [115, 105, 103, 110] [61]), (zJ.mk [101, 120, 112, 114] []), (zJ.mk [115, 105, 103, 110] [59])])
    else
    some (20, [(zJ.mk [119, 111, 114, 100] [108, 101, 116]), (zJ.mk [110, 97, 109, 101] []), (zJ.mk [115, 105, 103, 110] [61]), (zJ.mk [101, 120, 112, 114] []), (zJ.mk [115, 105, 103, 110] [59])])
  else
  vZ t at_ [105, 102] >>= fun q4 =>
  if q4 = true then
    some (23, [(zJ.mk [119, 111, 114, 100] [105, 102]), (zJ.mk [101, 120, 112, 114] []), (zJ.mk [98, 108, 111, 99, 107] []), (zJ.mk [101, 108, 115, 101] [])])
  else
  vZ t at_ [119, 104, 105, 108, 101] >>= fun q5 =>
  if q5 = true then
    some (24, [(zJ.mk [119, 111, 114, 100] [119, 104, 105, 108, 101]), (zJ.mk [101, 120, 112, 114] []), (zJ.mk [98, 108, 111, 99, 107] [])])
  else
  vZ t at_ [102, 111, 114] >>= fun q6 =>
  if q6 = true then
    some (25, [(zJ.mk [119, 111, 114, 100] [102, 111, 114]), (zJ.mk [110, 97, 109, 101] []), (zJ.mk [115, 105, 103, 110] [61]), (zJ.mk [101, 120, 112, 114] []), (zJ.mk [119, 111, 114, 100] [116, 111]), (zJ.mk [101, 120, 112, 114] []), (zJ.mk [98, 108, 111, 99, 107] [])])
  else
  vZ t at_ [112, 114, 105, 110, 116] >>= fun q7 =>
  if q7 = true then
    some (26, [(zJ.mk [119, 111, 114, 100] [112, 114, 105, 110, 116]), (zJ.mk [101, 120, 112, 114] []), (zJ.mk [115, 105, 103, 110] [59])])
  else
  vZ t at_ [114, 101, 116, 117, 114, 110] >>= fun q8 =>
  if q8 = true then
    some (27, [(zJ.mk [119, 111, 114, 100] [114, 101, 116, 117, 114, 110]), (zJ.mk [101, 120, 112, 114] []), (zJ.mk [115, 105, 103, 110] [59])])
  else
  vZ t at_ [100, 111] >>= fun q9 =>
  if q9 = true then
    some (28, [(zJ.mk [119, 111, 114, 100] [100, 111]), (zJ.mk [101, 120, 112, 114] []), (zJ.mk [115, 105, 103, 110] [59])])
  else
  some (22, [(zJ.mk [101, 120, 112, 114] []), (zJ.mk [115, 105, 103, 110] [61]), (zJ.mk [101, 120, 112, 114] []), (zJ.mk [115, 105, 103, 110] [59])])
def z1q (uF : (List zC) → Int → (List Str) → (List Int) → Int → Option (Int)) (t : List zC) (at_ : Int) (signs : List Str) (ops : List Int) (i : Int) : Option (Int) :=
  if i < (List.length signs : Int) then
    idx signs i >>= fun x =>
    zQ t at_ x >>= fun q1 =>
    if q1 = true then
      idx ops i >>= fun x1 =>
      some (x1)
    else
    uF t at_ signs ops (IntKind.wrap .i64 (i + 1))
  else
  some (0)
inductive z4l where
  | uF (t : List zC) (at_ : Int) (signs : List Str) (ops : List Int) (i : Int)
@[reducible] def z5T : z4l → Type
  | .uF _ _ _ _ _ => Int
def z4k (g : Fam z5T) : Fam z5T
  | .uF t at_ signs ops i => z1q (fun t at_ signs ops i => g (z4l.uF t at_ signs ops i)) t at_ signs ops i
theorem z9F : ∀ i, Good (fun g => z4k g i)
  | .uF t at_ signs ops i => by unfold z4k z1q; exact (.ite (.bind (.const _) fun _ => (.bind (.const _) fun _ => (.ite (.bind (.const _) fun _ => (.const _)) (.call _)))) (.const _))
def uF (t : List zC) (at_ : Int) (signs : List Str) (ops : List Int) (i : Int) : Option (Int) := gV z4k (.uF t at_ signs ops i)
theorem z8S (t : List zC) (at_ : Int) (signs : List Str) (ops : List Int) (i : Int) : uF t at_ signs ops i = z1q uF t at_ signs ops i := yX z9F (.uF t at_ signs ops i)
def z4q (level : Int) : Option (List Str × List Int) :=
  if level = 1 then
    some ([[124, 124]], [1])
  else
  if level = 2 then
    some ([[38, 38]], [2])
  else
  if level = 3 then
    some ([[61, 61], [33, 61], [60], [60, 61], [62], [62, 61]], [3, 4, 5, 6, 7, 8])
  else
  if level = 4 then
    some ([[43], [45]], [9, 10])
  else
  some ([[42], [47], [37]], [11, 12, 13])
def y1V (t : List zC) (at_ level : Int) : Option (Int) :=
  z4q level >>= fun q1 =>
  uF t at_ q1.1 q1.2 0
def z1p (yJ : (List zC) → Int → Option (zG)) (wF : (List zC) → Int → Option (zG)) (t : List zC) (at_ : Int) : Option (zG) :=
  uL t at_ >>= fun q1 =>
  if q1.K = 2 then
    zR t at_ (IntKind.wrap .i64 (at_ + 1)) 5 q1.N [] ([] : List zF) >>= fun q2 =>
    some (q2)
  else
  vZ t at_ [116, 114, 117, 101] >>= fun q3 =>
  if q3 = true then
    zR t at_ (IntKind.wrap .i64 (at_ + 1)) 6 1 [] ([] : List zF) >>= fun q4 =>
    some (q4)
  else
  vZ t at_ [102, 97, 108, 115, 101] >>= fun q5 =>
  if q5 = true then
    zR t at_ (IntKind.wrap .i64 (at_ + 1)) 6 0 [] ([] : List zF) >>= fun q6 =>
    some (q6)
  else
  vZ t at_ [114, 101, 97, 100] >>= fun q7 =>
  if q7 = true then
    zR t at_ (IntKind.wrap .i64 (at_ + 1)) 18 0 [] ([] : List zF) >>= fun q8 =>
    some (q8)
  else
  if q1.K = 1 then
    zQ t (IntKind.wrap .i64 (at_ + 1)) [40] >>= fun q9 =>
    if q9 = true then
      zQ t at_ [40] >>= fun q11 =>
      if q11 = true then
        yJ t (IntKind.wrap .i64 (at_ + 1)) >>= fun q12 =>
        if q12.E = 0 then
          zQ t q12.At [41] >>= fun q13 =>
          if q13 = true then
            some ({ q12 with At := IntKind.wrap .i64 (q12.At + 1) })
          else
          vO q12.At >>= fun q14 =>
          some (q14)
        else
        some (q12)
      else
      wF t at_ >>= fun q15 =>
      some (q15)
    else
    zR t at_ (IntKind.wrap .i64 (at_ + 1)) 19 0 q1.S ([] : List zF) >>= fun q10 =>
    some (q10)
  else
  zQ t at_ [40] >>= fun q16 =>
  if q16 = true then
    yJ t (IntKind.wrap .i64 (at_ + 1)) >>= fun q17 =>
    if q17.E = 0 then
      zQ t q17.At [41] >>= fun q18 =>
      if q18 = true then
        some ({ q17 with At := IntKind.wrap .i64 (q17.At + 1) })
      else
      vO q17.At >>= fun q19 =>
      some (q19)
    else
    some (q17)
  else
  wF t at_ >>= fun q20 =>
  some (q20)
def z2S (yK : (List zC) → Int → Int → Option (zG)) (t : List zC) (at_ : Int) : Option (zG) :=
  yK t at_ 1 >>= fun q1 =>
  some (q1)
def uV (yW : (List zC) → Int → Bool → Str → Str → Option (List zF × Int × Int)) (t : List zC) (at_ : Int) : Option (zG) :=
  uL t at_ >>= fun q1 =>
  if q1.K = 1 then
    uL t at_ >>= fun q2 =>
    yW t (IntKind.wrap .i64 (at_ + 1)) true [40] [41] >>= fun q3 =>
    if q3.2.2 = 0 then
      zR t at_ q3.2.1 16 0 q2.S q3.1 >>= fun q4 =>
      some (q4)
    else
    some ((zG.mk (zF.mk 0 0 [] [] 0 0) q3.2.1 q3.2.2))
  else
  zQ t at_ [91] >>= fun q5 =>
  if q5 = true then
    yW t at_ false [91] [93] >>= fun q6 =>
    if q6.2.2 = 0 then
      zR t at_ q6.2.1 14 0 [] q6.1 >>= fun q7 =>
      some (q7)
    else
    some ((zG.mk (zF.mk 0 0 [] [] 0 0) q6.2.1 q6.2.2))
  else
  zQ t at_ [64] >>= fun q8 =>
  if q8 = true then
    uL t (IntKind.wrap .i64 (at_ + 1)) >>= fun q9 =>
    if q9.K = 1 then
      uL t (IntKind.wrap .i64 (at_ + 1)) >>= fun q11 =>
      vZ t at_ [110, 101, 119] >>= fun q12 =>
      if q12 = true then
        yW t (IntKind.wrap .i64 (at_ + 2)) false [40] [41] >>= fun q13 =>
        if q13.2.2 = 0 then
          zR t at_ q13.2.1 15 0 q11.S q13.1 >>= fun q14 =>
          some (q14)
        else
        some ((zG.mk (zF.mk 0 0 [] [] 0 0) q13.2.1 q13.2.2))
      else
      yW t (IntKind.wrap .i64 (at_ + 2)) true [40] [41] >>= fun q15 =>
      if q15.2.2 = 0 then
        zR t at_ q15.2.1 17 0 q11.S q15.1 >>= fun q16 =>
        some (q16)
      else
      some ((zG.mk (zF.mk 0 0 [] [] 0 0) q15.2.1 q15.2.2))
    else
    vO (IntKind.wrap .i64 (at_ + 1)) >>= fun q10 =>
    some (q10)
  else
  vZ t at_ [110, 101, 119] >>= fun q17 =>
  if q17 = true then
    uL t (IntKind.wrap .i64 (at_ + 1)) >>= fun q18 =>
    if q18.K = 1 then
      uL t (IntKind.wrap .i64 (at_ + 1)) >>= fun q20 =>
      vZ t at_ [110, 101, 119] >>= fun q21 =>
      if q21 = true then
        yW t (IntKind.wrap .i64 (at_ + 2)) false [40] [41] >>= fun q22 =>
        if q22.2.2 = 0 then
          zR t at_ q22.2.1 15 0 q20.S q22.1 >>= fun q23 =>
          some (q23)
        else
        some ((zG.mk (zF.mk 0 0 [] [] 0 0) q22.2.1 q22.2.2))
      else
      yW t (IntKind.wrap .i64 (at_ + 2)) true [40] [41] >>= fun q24 =>
      if q24.2.2 = 0 then
        zR t at_ q24.2.1 17 0 q20.S q24.1 >>= fun q25 =>
        some (q25)
      else
      some ((zG.mk (zF.mk 0 0 [] [] 0 0) q24.2.1 q24.2.2))
    else
    vO (IntKind.wrap .i64 (at_ + 1)) >>= fun q19 =>
    some (q19)
  else
  vO at_ >>= fun q26 =>
  some (q26)
def z0m (yK : (List zC) → Int → Int → Option (zG)) (yT : (List zC) → Int → Int → Int → zG → zG → Option (zG)) (jX : (List zC) → Int → Option (zG)) (t : List zC) (at_ level : Int) : Option (zG) :=
  if level = 6 then
    jX t at_ >>= fun q1 =>
    some (q1)
  else
  yK t at_ (IntKind.wrap .i64 (level + 1)) >>= fun q2 =>
  yT t at_ level 0 (zG.mk (zF.mk 0 0 [] [] 0 0) 0 0) q2
def jH (yK : (List zC) → Int → Int → Option (zG)) (yT : (List zC) → Int → Int → Int → zG → zG → Option (zG)) (t : List zC) (at_ level times : Int) (o6 left : zG) : Option (zG) :=
  if left.E = 0 then
    y1V t left.At level >>= fun q1 =>
    if q1 = 0 then
      some (left)
    else
    if level = 3 then
      if times = 1 then
        some (left)
      else
      yK t (IntKind.wrap .i64 (left.At + 1)) (IntKind.wrap .i64 (level + 1)) >>= fun q2 =>
      if q2.E = 0 then
        zR t at_ q2.At 10 q1 [] [left.T_, q2.T_] >>= fun q3 =>
        yT t at_ level (IntKind.wrap .i64 (times + 1)) o6 q3
      else
      some (q2)
    else
    yK t (IntKind.wrap .i64 (left.At + 1)) (IntKind.wrap .i64 (level + 1)) >>= fun q4 =>
    if q4.E = 0 then
      zR t at_ q4.At 10 q1 [] [left.T_, q4.T_] >>= fun q5 =>
      yT t at_ level (IntKind.wrap .i64 (times + 1)) o6 q5
    else
    some (q4)
  else
  some (left)
def z0l (jR : (List zC) → Int → Option (List zF × Int × Int)) (t : List zC) (open_ : Int) (few : Bool) (first last : Str) : Option (List zF × Int × Int) :=
  zQ t open_ first >>= fun q1 =>
  if q1 = true then
    if few = true then
      zQ t (IntKind.wrap .i64 (open_ + 1)) last >>= fun q2 =>
      if q2 = true then
        some (([] : List zF), IntKind.wrap .i64 (open_ + 2), 0)
      else
      jR t (IntKind.wrap .i64 (open_ + 1)) >>= fun q3 =>
      if q3.2.2 = 0 then
        zQ t q3.2.1 last >>= fun q4 =>
        if q4 = true then
          some (q3.1, IntKind.wrap .i64 (q3.2.1 + 1), 0)
        else
        some (q3.1, q3.2.1, 6)
      else
      some (q3.1, q3.2.1, q3.2.2)
    else
    jR t (IntKind.wrap .i64 (open_ + 1)) >>= fun q5 =>
    if q5.2.2 = 0 then
      zQ t q5.2.1 last >>= fun q6 =>
      if q6 = true then
        some (q5.1, IntKind.wrap .i64 (q5.2.1 + 1), 0)
      else
      some (q5.1, q5.2.1, 6)
    else
    some (q5.1, q5.2.1, q5.2.2)
  else
  some (([] : List zF), open_, 6)
def z3i (jX : (List zC) → Int → Option (zG)) (uP : (List zC) → Int → Option (zG)) (t : List zC) (at_ : Int) : Option (zG) :=
  zQ t at_ [45] >>= fun q1 =>
  if q1 = true then
    zQ t at_ [33] >>= fun q2 =>
    if q2 = true then
      if (2 : Int) = 0 then
        uP t at_ >>= fun q3 =>
        some (q3)
      else
      jX t (IntKind.wrap .i64 (at_ + 1)) >>= fun q4 =>
      if q4.E = 0 then
        zR t at_ q4.At 11 2 [] [q4.T_] >>= fun q5 =>
        some (q5)
      else
      some (q4)
    else
    if (1 : Int) = 0 then
      uP t at_ >>= fun q6 =>
      some (q6)
    else
    jX t (IntKind.wrap .i64 (at_ + 1)) >>= fun q7 =>
    if q7.E = 0 then
      zR t at_ q7.At 11 1 [] [q7.T_] >>= fun q8 =>
      some (q8)
    else
    some (q7)
  else
  zQ t at_ [33] >>= fun q9 =>
  if q9 = true then
    if (2 : Int) = 0 then
      uP t at_ >>= fun q10 =>
      some (q10)
    else
    jX t (IntKind.wrap .i64 (at_ + 1)) >>= fun q11 =>
    if q11.E = 0 then
      zR t at_ q11.At 11 2 [] [q11.T_] >>= fun q12 =>
      some (q12)
    else
    some (q11)
  else
  if (0 : Int) = 0 then
    uP t at_ >>= fun q13 =>
    some (q13)
  else
  jX t (IntKind.wrap .i64 (at_ + 1)) >>= fun q14 =>
  if q14.E = 0 then
    zR t at_ q14.At 11 0 [] [q14.T_] >>= fun q15 =>
    some (q15)
  else
  some (q14)
def z4f (vG : (List zC) → Int → (List zF) → Option (List zF × Int × Int)) (t : List zC) (at_ : Int) : Option (List zF × Int × Int) :=
  vG t at_ ([] : List zF)
def gU (yJ : (List zC) → Int → Option (zG)) (vG : (List zC) → Int → (List zF) → Option (List zF × Int × Int)) (t : List zC) (at_ : Int) (out : List zF) : Option (List zF × Int × Int) :=
  yJ t at_ >>= fun q1 =>
  if q1.E = 0 then
    if z0C 72 (List.length out + List.length [q1.T_]) then
    zQ t q1.At [44] >>= fun q2 =>
    if q2 = true then
      vG t (IntKind.wrap .i64 (q1.At + 1)) (out ++ [q1.T_])
    else
    some (out ++ [q1.T_], q1.At, 0)
    else none
  else
  some (out, q1.At, q1.E)
def z2a (yM : (List zC) → Int → Option (zG)) (vH : (List zC) → Int → zG → zG → Option (zG)) (t : List zC) (at_ : Int) : Option (zG) :=
  yM t at_ >>= fun q1 =>
  vH t at_ (zG.mk (zF.mk 0 0 [] [] 0 0) 0 0) q1
def uN (yJ : (List zC) → Int → Option (zG)) (vH : (List zC) → Int → zG → zG → Option (zG)) (t : List zC) (at_ : Int) (o4 x : zG) : Option (zG) :=
  if x.E = 0 then
    zQ t x.At [91] >>= fun q1 =>
    if q1 = true then
      yJ t (IntKind.wrap .i64 (x.At + 1)) >>= fun q2 =>
      if q2.E = 0 then
        zQ t q2.At [93] >>= fun q3 =>
        if q3 = true then
          zR t at_ (IntKind.wrap .i64 (q2.At + 1)) 12 0 [] [x.T_, q2.T_] >>= fun q5 =>
          vH t at_ o4 q5
        else
        vO q2.At >>= fun q4 =>
        some (q4)
      else
      some (q2)
    else
    zQ t x.At [46] >>= fun q6 =>
    if q6 = true then
      uL t (IntKind.wrap .i64 (x.At + 1)) >>= fun q7 =>
      if q7.K = 1 then
        zR t at_ (IntKind.wrap .i64 (x.At + 2)) 13 0 q7.S [x.T_] >>= fun q9 =>
        vH t at_ o4 q9
      else
      vO (IntKind.wrap .i64 (x.At + 1)) >>= fun q8 =>
      some (q8)
    else
    some (x)
  else
  some (x)
inductive zT where
  | yM (t : List zC) (at_ : Int)
  | yJ (t : List zC) (at_ : Int)
  | wF (t : List zC) (at_ : Int)
  | yK (t : List zC) (at_ level : Int)
  | yT (t : List zC) (at_ level times : Int) (o6 left : zG)
  | yW (t : List zC) (open_ : Int) (few : Bool) (first last : Str)
  | jX (t : List zC) (at_ : Int)
  | jR (t : List zC) (at_ : Int)
  | vG (t : List zC) (at_ : Int) (out : List zF)
  | uP (t : List zC) (at_ : Int)
  | vH (t : List zC) (at_ : Int) (o4 x : zG)
@[reducible] def z7E : zT → Type
  | .yM _ _ => zG
  | .yJ _ _ => zG
  | .wF _ _ => zG
  | .yK _ _ _ => zG
  | .yT _ _ _ _ _ _ => zG
  | .yW _ _ _ _ _ => List zF × Int × Int
  | .jX _ _ => zG
  | .jR _ _ => List zF × Int × Int
  | .vG _ _ _ => List zF × Int × Int
  | .uP _ _ => zG
  | .vH _ _ _ _ => zG
def vY (g : Fam z7E) : Fam z7E
  | .yM t at_ => z1p (fun t at_ => g (zT.yJ t at_)) (fun t at_ => g (zT.wF t at_)) t at_
  | .yJ t at_ => z2S (fun t at_ level => g (zT.yK t at_ level)) t at_
  | .wF t at_ => uV (fun t open_ few first last => g (zT.yW t open_ few first last)) t at_
  | .yK t at_ level => z0m (fun t at_ level => g (zT.yK t at_ level)) (fun t at_ level times o6 left => g (zT.yT t at_ level times o6 left)) (fun t at_ => g (zT.jX t at_)) t at_ level
  | .yT t at_ level times o6 left => jH (fun t at_ level => g (zT.yK t at_ level)) (fun t at_ level times o6 left => g (zT.yT t at_ level times o6 left)) t at_ level times o6 left
  | .yW t open_ few first last => z0l (fun t at_ => g (zT.jR t at_)) t open_ few first last
  | .jX t at_ => z3i (fun t at_ => g (zT.jX t at_)) (fun t at_ => g (zT.uP t at_)) t at_
  | .jR t at_ => z4f (fun t at_ out => g (zT.vG t at_ out)) t at_
  | .vG t at_ out => gU (fun t at_ => g (zT.yJ t at_)) (fun t at_ out => g (zT.vG t at_ out)) t at_ out
  | .uP t at_ => z2a (fun t at_ => g (zT.yM t at_)) (fun t at_ o4 x => g (zT.vH t at_ o4 x)) t at_
  | .vH t at_ o4 x => uN (fun t at_ => g (zT.yJ t at_)) (fun t at_ o4 x => g (zT.vH t at_ o4 x)) t at_ o4 x
theorem gG : ∀ i, Good (fun g => vY g i)
  | .yM t at_ => by unfold vY z1p; exact (.bind (.const _) fun _ => (.ite (.bind (.const _) fun _ => (.const _)) (.bind (.const _) fun _ => (.ite (.bind (.const _) fun _ => (.const _)) (.bind (.const _) fun _ => (.ite (.bind (.const _) fun _ => (.const _)) (.bind (.const _) fun _ => (.ite (.bind (.const _) fun _ => (.const _)) (.ite (.bind (.const _) fun _ => (.ite (.bind (.const _) fun _ => (.ite (.bind (.call _) fun _ => (.ite (.bind (.const _) fun _ => (.ite (.const _) (.bind (.const _) fun _ => (.const _)))) (.const _))) (.bind (.call _) fun _ => (.const _)))) (.bind (.const _) fun _ => (.const _)))) (.bind (.const _) fun _ => (.ite (.bind (.call _) fun _ => (.ite (.bind (.const _) fun _ => (.ite (.const _) (.bind (.const _) fun _ => (.const _)))) (.const _))) (.bind (.call _) fun _ => (.const _)))))))))))))
  | .yJ t at_ => by unfold vY z2S; exact (.bind (.call _) fun _ => (.const _))
  | .wF t at_ => by unfold vY uV; exact (.bind (.const _) fun _ => (.ite (.bind (.const _) fun _ => (.bind (.call _) fun _ => (.ite (.bind (.const _) fun _ => (.const _)) (.const _)))) (.bind (.const _) fun _ => (.ite (.bind (.call _) fun _ => (.ite (.bind (.const _) fun _ => (.const _)) (.const _))) (.bind (.const _) fun _ => (.ite (.bind (.const _) fun _ => (.ite (.bind (.const _) fun _ => (.bind (.const _) fun _ => (.ite (.bind (.call _) fun _ => (.ite (.bind (.const _) fun _ => (.const _)) (.const _))) (.bind (.call _) fun _ => (.ite (.bind (.const _) fun _ => (.const _)) (.const _)))))) (.bind (.const _) fun _ => (.const _)))) (.bind (.const _) fun _ => (.ite (.bind (.const _) fun _ => (.ite (.bind (.const _) fun _ => (.bind (.const _) fun _ => (.ite (.bind (.call _) fun _ => (.ite (.bind (.const _) fun _ => (.const _)) (.const _))) (.bind (.call _) fun _ => (.ite (.bind (.const _) fun _ => (.const _)) (.const _)))))) (.bind (.const _) fun _ => (.const _)))) (.bind (.const _) fun _ => (.const _))))))))))
  | .yK t at_ level => by unfold vY z0m; exact (.ite (.bind (.call _) fun _ => (.const _)) (.bind (.call _) fun _ => (.call _)))
  | .yT t at_ level times o6 left => by unfold vY jH; exact (.ite (.bind (.const _) fun _ => (.ite (.const _) (.ite (.ite (.const _) (.bind (.call _) fun _ => (.ite (.bind (.const _) fun _ => (.call _)) (.const _)))) (.bind (.call _) fun _ => (.ite (.bind (.const _) fun _ => (.call _)) (.const _)))))) (.const _))
  | .yW t open_ few first last => by unfold vY z0l; exact (.bind (.const _) fun _ => (.ite (.ite (.bind (.const _) fun _ => (.ite (.const _) (.bind (.call _) fun _ => (.ite (.bind (.const _) fun _ => (.ite (.const _) (.const _))) (.const _))))) (.bind (.call _) fun _ => (.ite (.bind (.const _) fun _ => (.ite (.const _) (.const _))) (.const _)))) (.const _)))
  | .jX t at_ => by unfold vY z3i; exact (.bind (.const _) fun _ => (.ite (.bind (.const _) fun _ => (.ite (.ite (.bind (.call _) fun _ => (.const _)) (.bind (.call _) fun _ => (.ite (.bind (.const _) fun _ => (.const _)) (.const _)))) (.ite (.bind (.call _) fun _ => (.const _)) (.bind (.call _) fun _ => (.ite (.bind (.const _) fun _ => (.const _)) (.const _)))))) (.bind (.const _) fun _ => (.ite (.ite (.bind (.call _) fun _ => (.const _)) (.bind (.call _) fun _ => (.ite (.bind (.const _) fun _ => (.const _)) (.const _)))) (.ite (.bind (.call _) fun _ => (.const _)) (.bind (.call _) fun _ => (.ite (.bind (.const _) fun _ => (.const _)) (.const _))))))))
  | .jR t at_ => by unfold vY z4f; exact (.call _)
  | .vG t at_ out => by unfold vY gU; exact (.bind (.call _) fun _ => (.ite (.ite (.bind (.const _) fun _ => (.ite (.call _) (.const _))) (.const _)) (.const _)))
  | .uP t at_ => by unfold vY z2a; exact (.bind (.call _) fun _ => (.call _))
  | .vH t at_ o4 x => by unfold vY uN; exact (.ite (.bind (.const _) fun _ => (.ite (.bind (.call _) fun _ => (.ite (.bind (.const _) fun _ => (.ite (.bind (.const _) fun _ => (.call _)) (.bind (.const _) fun _ => (.const _)))) (.const _))) (.bind (.const _) fun _ => (.ite (.bind (.const _) fun _ => (.ite (.bind (.const _) fun _ => (.call _)) (.bind (.const _) fun _ => (.const _)))) (.const _))))) (.const _))
def yM (t : List zC) (at_ : Int) : Option (zG) := gV vY (.yM t at_)
def yJ (t : List zC) (at_ : Int) : Option (zG) := gV vY (.yJ t at_)
def wF (t : List zC) (at_ : Int) : Option (zG) := gV vY (.wF t at_)
def yK (t : List zC) (at_ level : Int) : Option (zG) := gV vY (.yK t at_ level)
def yT (t : List zC) (at_ level times : Int) (o6 left : zG) : Option (zG) := gV vY (.yT t at_ level times o6 left)
def yW (t : List zC) (open_ : Int) (few : Bool) (first last : Str) : Option (List zF × Int × Int) := gV vY (.yW t open_ few first last)
def jX (t : List zC) (at_ : Int) : Option (zG) := gV vY (.jX t at_)
def jR (t : List zC) (at_ : Int) : Option (List zF × Int × Int) := gV vY (.jR t at_)
def vG (t : List zC) (at_ : Int) (out : List zF) : Option (List zF × Int × Int) := gV vY (.vG t at_ out)
def uP (t : List zC) (at_ : Int) : Option (zG) := gV vY (.uP t at_)
def vH (t : List zC) (at_ : Int) (o4 x : zG) : Option (zG) := gV vY (.vH t at_ o4 x)
theorem z6D (t : List zC) (at_ : Int) : yM t at_ = z1p yJ wF t at_ := yX gG (.yM t at_)
theorem y5S (t : List zC) (at_ : Int) : yJ t at_ = z2S yK t at_ := yX gG (.yJ t at_)
theorem z0u (t : List zC) (at_ : Int) : wF t at_ = uV yW t at_ := yX gG (.wF t at_)
theorem z3E (t : List zC) (at_ level : Int) : yK t at_ level = z0m yK yT jX t at_ level := yX gG (.yK t at_ level)
theorem z1P (t : List zC) (at_ level times : Int) (o6 left : zG) : yT t at_ level times o6 left = jH yK yT t at_ level times o6 left := yX gG (.yT t at_ level times o6 left)
theorem z4B (t : List zC) (open_ : Int) (few : Bool) (first last : Str) : yW t open_ few first last = z0l jR t open_ few first last := yX gG (.yW t open_ few first last)
theorem z9t (t : List zC) (at_ : Int) : jX t at_ = z3i jX uP t at_ := yX gG (.jX t at_)
theorem y5T (t : List zC) (at_ : Int) : jR t at_ = z4f vG t at_ := yX gG (.jR t at_)
theorem z4g (t : List zC) (at_ : Int) (out : List zF) : vG t at_ out = gU yJ vG t at_ out := yX gG (.vG t at_ out)
theorem z9U (t : List zC) (at_ : Int) : uP t at_ = z2a yM vH t at_ := yX gG (.uP t at_)
theorem z0c (t : List zC) (at_ : Int) (o4 x : zG) : vH t at_ o4 x = uN yJ vH t at_ o4 x := yX gG (.vH t at_ o4 x)
def z1r (vL : (List zC) → Int → (List zF) → Int → zG → Option (zG)) (t : List zC) (at_ : Int) : Option (zG) :=
  zQ t at_ [123] >>= fun q1 =>
  if q1 = true then
    vL t at_ ([] : List zF) (IntKind.wrap .i64 (at_ + 1)) (zG.mk (zF.mk 0 0 [] [] 0 0) 0 0)
  else
  vO at_ >>= fun q2 =>
  some (q2)
def gC (vL : (List zC) → Int → (List zF) → Int → zG → Option (zG)) (jB : (List zC) → Int → Option (zG)) (t : List zC) (at_ : Int) (parts : List zF) (to_ : Int) (o4 : zG) : Option (zG) :=
  zQ t to_ [125] >>= fun q1 =>
  if q1 = true then
    zR t at_ (IntKind.wrap .i64 (to_ + 1)) 29 0 [] parts >>= fun q3 =>
    some (q3)
  else
  jB t to_ >>= fun q2 =>
  if q2.E = 0 then
    if z0C 72 (List.length parts + List.length [q2.T_]) then
    vL t at_ (parts ++ [q2.T_]) q2.At o4
    else none
  else
  some (q2)
def z2c (yG : (List zC) → Int → Option (zG)) (zM : (List zC) → Int → Int → (List zJ) → (List zF) → Str → Int → Int → zG → Option (zG)) (t : List zC) (at_ : Int) : Option (zG) :=
  zQ t at_ [123] >>= fun q1 =>
  if q1 = true then
    yG t at_ >>= fun q2 =>
    some (q2)
  else
  z6E t at_ >>= fun q3 =>
  zM t at_ q3.1 q3.2 ([] : List zF) [] at_ 0 (zG.mk (zF.mk 0 0 [] [] 0 0) 0 0)
def uT (zM : (List zC) → Int → Int → (List zJ) → (List zF) → Str → Int → Int → zG → Option (zG)) (uS : (List zC) → Int → Str → Option (zG)) (t : List zC) (at_ kind : Int) (form : List zJ) (parts : List zF) (name : Str) (to_ i : Int) (o4 : zG) : Option (zG) :=
  if i < (List.length form : Int) then
    idx form i >>= fun x =>
    if x.What = [119, 111, 114, 100] then
      idx form i >>= fun x1 =>
      vZ t to_ x1.S >>= fun q1 =>
      if q1 = true then
        zM t at_ kind form parts name (IntKind.wrap .i64 (to_ + 1)) (IntKind.wrap .i64 (i + 1)) o4
      else
      vO to_ >>= fun q2 =>
      some (q2)
    else
    if x.What = [115, 105, 103, 110] then
      idx form i >>= fun x6 =>
      zQ t to_ x6.S >>= fun q11 =>
      if q11 = true then
        zM t at_ kind form parts name (IntKind.wrap .i64 (to_ + 1)) (IntKind.wrap .i64 (i + 1)) o4
      else
      vO to_ >>= fun q12 =>
      some (q12)
    else
    if x.What = [110, 97, 109, 101] then
      uL t to_ >>= fun q13 =>
      if q13.K = 1 then
        idx t to_ >>= fun x7 =>
        zM t at_ kind form parts x7.S (IntKind.wrap .i64 (to_ + 1)) (IntKind.wrap .i64 (i + 1)) o4
      else
      vO to_ >>= fun q14 =>
      some (q14)
    else
    if x.What = [101, 108, 115, 101] then
      vZ t to_ [101, 108, 115, 101] >>= fun q15 =>
      if q15 = true then
        uS t (IntKind.wrap .i64 (to_ + 1)) x.What >>= fun q16 =>
        if q16.E = 0 then
          if z0C 72 (List.length parts + List.length [q16.T_]) then
          zM t at_ kind form (parts ++ [q16.T_]) name q16.At (IntKind.wrap .i64 (i + 1)) o4
          else none
        else
        some (q16)
      else
      idx t (IntKind.wrap .i64 (to_ - 1)) >>= fun x8 =>
      if z0C 72 (List.length parts + List.length [(zF.mk 29 0 [] [] x8.To x8.To)]) then
      zM t at_ kind form (parts ++ [(zF.mk 29 0 [] [] x8.To x8.To)]) name to_ (IntKind.wrap .i64 (i + 1)) o4
      else none
    else
    uS t to_ x.What >>= fun q19 =>
    if q19.E = 0 then
      if z0C 72 (List.length parts + List.length [q19.T_]) then
      zM t at_ kind form (parts ++ [q19.T_]) name q19.At (IntKind.wrap .i64 (i + 1)) o4
      else none
    else
    some (q19)
  else
  zR t at_ to_ kind 0 name parts >>= fun q20 =>
  some (q20)
def z1s (yG : (List zC) → Int → Option (zG)) (t : List zC) (at_ : Int) (what : Str) : Option (zG) :=
  if what = [101, 120, 112, 114] then
    yJ t at_ >>= fun q1 =>
    some (q1)
  else
  if what = [116, 121, 112, 101] then
    wV t at_ >>= fun q2 =>
    some (q2)
  else
  yG t at_ >>= fun q3 =>
  some (q3)
inductive wT where
  | yG (t : List zC) (at_ : Int)
  | vL (t : List zC) (at_ : Int) (parts : List zF) (to_ : Int) (o4 : zG)
  | jB (t : List zC) (at_ : Int)
  | zM (t : List zC) (at_ kind : Int) (form : List zJ) (parts : List zF) (name : Str) (to_ i : Int) (o4 : zG)
  | uS (t : List zC) (at_ : Int) (what : Str)
@[reducible] def z5U : wT → Type
  | .yG _ _ => zG
  | .vL _ _ _ _ _ => zG
  | .jB _ _ => zG
  | .zM _ _ _ _ _ _ _ _ _ => zG
  | .uS _ _ _ => zG
def jJ (g : Fam z5U) : Fam z5U
  | .yG t at_ => z1r (fun t at_ parts to_ o4 => g (wT.vL t at_ parts to_ o4)) t at_
  | .vL t at_ parts to_ o4 => gC (fun t at_ parts to_ o4 => g (wT.vL t at_ parts to_ o4)) (fun t at_ => g (wT.jB t at_)) t at_ parts to_ o4
  | .jB t at_ => z2c (fun t at_ => g (wT.yG t at_)) (fun t at_ kind form parts name to_ i o4 => g (wT.zM t at_ kind form parts name to_ i o4)) t at_
  | .zM t at_ kind form parts name to_ i o4 => uT (fun t at_ kind form parts name to_ i o4 => g (wT.zM t at_ kind form parts name to_ i o4)) (fun t at_ what => g (wT.uS t at_ what)) t at_ kind form parts name to_ i o4
  | .uS t at_ what => z1s (fun t at_ => g (wT.yG t at_)) t at_ what
theorem z2f : ∀ i, Good (fun g => jJ g i)
  | .yG t at_ => by unfold jJ z1r; exact (.bind (.const _) fun _ => (.ite (.call _) (.bind (.const _) fun _ => (.const _))))
  | .vL t at_ parts to_ o4 => by unfold jJ gC; exact (.bind (.const _) fun _ => (.ite (.bind (.const _) fun _ => (.const _)) (.bind (.call _) fun _ => (.ite (.ite (.call _) (.const _)) (.const _)))))
  | .jB t at_ => by unfold jJ z2c; exact (.bind (.const _) fun _ => (.ite (.bind (.call _) fun _ => (.const _)) (.bind (.const _) fun _ => (.call _))))
  | .zM t at_ kind form parts name to_ i o4 => by unfold jJ uT; exact (.ite (.bind (.const _) fun _ => (.ite (.bind (.const _) fun _ => (.bind (.const _) fun _ => (.ite (.call _) (.bind (.const _) fun _ => (.const _))))) (.ite (.bind (.const _) fun _ => (.bind (.const _) fun _ => (.ite (.call _) (.bind (.const _) fun _ => (.const _))))) (.ite (.bind (.const _) fun _ => (.ite (.bind (.const _) fun _ => (.call _)) (.bind (.const _) fun _ => (.const _)))) (.ite (.bind (.const _) fun _ => (.ite (.bind (.call _) fun _ => (.ite (.ite (.call _) (.const _)) (.const _))) (.bind (.const _) fun _ => (.ite (.call _) (.const _))))) (.bind (.call _) fun _ => (.ite (.ite (.call _) (.const _)) (.const _)))))))) (.bind (.const _) fun _ => (.const _)))
  | .uS t at_ what => by unfold jJ z1s; exact (.ite (.bind (.const _) fun _ => (.const _)) (.ite (.bind (.const _) fun _ => (.const _)) (.bind (.call _) fun _ => (.const _))))
def yG (t : List zC) (at_ : Int) : Option (zG) := gV jJ (.yG t at_)
def vL (t : List zC) (at_ : Int) (parts : List zF) (to_ : Int) (o4 : zG) : Option (zG) := gV jJ (.vL t at_ parts to_ o4)
def jB (t : List zC) (at_ : Int) : Option (zG) := gV jJ (.jB t at_)
def zM (t : List zC) (at_ kind : Int) (form : List zJ) (parts : List zF) (name : Str) (to_ i : Int) (o4 : zG) : Option (zG) := gV jJ (.zM t at_ kind form parts name to_ i o4)
def uS (t : List zC) (at_ : Int) (what : Str) : Option (zG) := gV jJ (.uS t at_ what)
theorem z8T (t : List zC) (at_ : Int) : yG t at_ = z1r vL t at_ := yX z2f (.yG t at_)
theorem z3r (t : List zC) (at_ : Int) (parts : List zF) (to_ : Int) (o4 : zG) : vL t at_ parts to_ o4 = gC vL jB t at_ parts to_ o4 := yX z2f (.vL t at_ parts to_ o4)
theorem z9W (t : List zC) (at_ : Int) : jB t at_ = z2c yG zM t at_ := yX z2f (.jB t at_)
theorem z0I (t : List zC) (at_ kind : Int) (form : List zJ) (parts : List zF) (name : Str) (to_ i : Int) (o4 : zG) : zM t at_ kind form parts name to_ i o4 = uT zM uS t at_ kind form parts name to_ i o4 := yX z2f (.zM t at_ kind form parts name to_ i o4)
theorem z6F (t : List zC) (at_ : Int) (what : Str) : uS t at_ what = z1s yG t at_ what := yX z2f (.uS t at_ what)
def gI (vA : (List zC) → Int → (List zF) → Int → Bool → zG → Option (zG)) (t : List zC) (at_ : Int) (out : List zF) (to_ : Int) (more : Bool) (o4 : zG) : Option (zG) :=
  if more = true then
    z3j t to_ >>= fun q1 =>
    if q1.E = 0 then
      if z0C 72 (List.length out + List.length [q1.T_]) then
      zQ t q1.At [44] >>= fun q2 =>
      if q2 = true then
        vA t at_ (out ++ [q1.T_]) (IntKind.wrap .i64 (q1.At + 1)) q2 o4
      else
      vA t at_ (out ++ [q1.T_]) q1.At q2 o4
      else none
    else
    some (q1)
  else
  zQ t to_ [41] >>= fun q3 =>
  if q3 = true then
    zR t at_ (IntKind.wrap .i64 (to_ + 1)) 35 0 [] out >>= fun q5 =>
    some (q5)
  else
  vO to_ >>= fun q4 =>
  some (q4)
inductive z1O where
  | vA (t : List zC) (at_ : Int) (out : List zF) (to_ : Int) (more : Bool) (o4 : zG)
@[reducible] def z3o : z1O → Type
  | .vA _ _ _ _ _ _ => zG
def z1K (g : Fam z3o) : Fam z3o
  | .vA t at_ out to_ more o4 => gI (fun t at_ out to_ more o4 => g (z1O.vA t at_ out to_ more o4)) t at_ out to_ more o4
theorem z5t : ∀ i, Good (fun g => z1K g i)
  | .vA t at_ out to_ more o4 => by unfold z1K gI; exact (.ite (.bind (.const _) fun _ => (.ite (.ite (.bind (.const _) fun _ => (.ite (.call _) (.call _))) (.const _)) (.const _))) (.bind (.const _) fun _ => (.ite (.bind (.const _) fun _ => (.const _)) (.bind (.const _) fun _ => (.const _)))))
def vA (t : List zC) (at_ : Int) (out : List zF) (to_ : Int) (more : Bool) (o4 : zG) : Option (zG) := gV z1K (.vA t at_ out to_ more o4)
theorem z4L (t : List zC) (at_ : Int) (out : List zF) (to_ : Int) (more : Bool) (o4 : zG) : vA t at_ out to_ more o4 = gI vA t at_ out to_ more o4 := yX z5t (.vA t at_ out to_ more o4)
def z4h (t : List zC) (at_ : Int) : Option (zG) :=
  zQ t at_ [40] >>= fun q1 =>
  if q1 = true then
    zQ t (IntKind.wrap .i64 (at_ + 1)) [41] >>= fun q3 =>
    if q3 = true then
      zR t at_ (IntKind.wrap .i64 ((IntKind.wrap .i64 (at_ + 1)) + 1)) 35 0 [] ([] : List zF) >>= fun q4 =>
      some (q4)
    else
    vA t at_ ([] : List zF) (IntKind.wrap .i64 (at_ + 1)) true (zG.mk (zF.mk 0 0 [] [] 0 0) 0 0)
  else
  vO at_ >>= fun q2 =>
  some (q2)
def z9v (t : List zC) (first at_ pub : Int) : Option (zG) :=
  vZ t at_ [102, 110] >>= fun q1 =>
  if q1 = true then
    uL t (IntKind.wrap .i64 (at_ + 1)) >>= fun q3 =>
    if q3.K = 1 then
      z4h t (IntKind.wrap .i64 (at_ + 2)) >>= fun q5 =>
      if q5.E = 0 then
        zQ t q5.At [58] >>= fun q6 =>
        if q6 = true then
          wV t (IntKind.wrap .i64 (q5.At + 1)) >>= fun q8 =>
          if q8.E = 0 then
            yG t q8.At >>= fun q9 =>
            if q9.E = 0 then
              idx t (IntKind.wrap .i64 (at_ + 1)) >>= fun x =>
              zR t first q9.At 33 pub x.S [q5.T_, q8.T_, q9.T_] >>= fun q10 =>
              some (q10)
            else
            some (q9)
          else
          some (q8)
        else
        vO q5.At >>= fun q7 =>
        some (q7)
      else
      some (q5)
    else
    vO (IntKind.wrap .i64 (at_ + 1)) >>= fun q4 =>
    some (q4)
  else
  vO at_ >>= fun q2 =>
  some (q2)
def z3J (t : List zC) (at_ : Int) : Option (zG) :=
  uL t (IntKind.wrap .i64 (at_ + 1)) >>= fun q1 =>
  if q1.K = 1 then
    vZ t at_ [99, 111, 110, 115, 116] >>= fun q3 =>
    if q3 = true then
      zQ t (IntKind.wrap .i64 (at_ + 2)) [61] >>= fun q4 =>
      if q4 = true then
        if (31 : Int) = 32 then
          wV t (IntKind.wrap .i64 (at_ + 3)) >>= fun q6 =>
          if q6.E = 0 then
            zQ t q6.At [59] >>= fun q7 =>
            if q7 = true then
              idx t (IntKind.wrap .i64 (at_ + 1)) >>= fun x =>
              zR t at_ (IntKind.wrap .i64 (q6.At + 1)) 31 0 x.S [q6.T_] >>= fun q9 =>
              some (q9)
            else
            vO q6.At >>= fun q8 =>
            some (q8)
          else
          some (q6)
        else
        uL t (IntKind.wrap .i64 (at_ + 3)) >>= fun q10 =>
        if q10.K = 2 then
          yM t (IntKind.wrap .i64 (at_ + 3)) >>= fun q11 =>
          if q11.E = 0 then
            zQ t q11.At [59] >>= fun q12 =>
            if q12 = true then
              idx t (IntKind.wrap .i64 (at_ + 1)) >>= fun x1 =>
              zR t at_ (IntKind.wrap .i64 (q11.At + 1)) 31 0 x1.S [q11.T_] >>= fun q14 =>
              some (q14)
            else
            vO q11.At >>= fun q13 =>
            some (q13)
          else
          some (q11)
        else
        vZ t (IntKind.wrap .i64 (at_ + 3)) [116, 114, 117, 101] >>= fun q15 =>
        if q15 = true then
          yM t (IntKind.wrap .i64 (at_ + 3)) >>= fun q16 =>
          if q16.E = 0 then
            zQ t q16.At [59] >>= fun q17 =>
            if q17 = true then
              idx t (IntKind.wrap .i64 (at_ + 1)) >>= fun x2 =>
              zR t at_ (IntKind.wrap .i64 (q16.At + 1)) 31 0 x2.S [q16.T_] >>= fun q19 =>
              some (q19)
            else
            vO q16.At >>= fun q18 =>
            some (q18)
          else
          some (q16)
        else
        vZ t (IntKind.wrap .i64 (at_ + 3)) [102, 97, 108, 115, 101] >>= fun q20 =>
        if q20 = true then
          yM t (IntKind.wrap .i64 (at_ + 3)) >>= fun q21 =>
          if q21.E = 0 then
            zQ t q21.At [59] >>= fun q22 =>
            if q22 = true then
              idx t (IntKind.wrap .i64 (at_ + 1)) >>= fun x3 =>
              zR t at_ (IntKind.wrap .i64 (q21.At + 1)) 31 0 x3.S [q21.T_] >>= fun q24 =>
              some (q24)
            else
            vO q21.At >>= fun q23 =>
            some (q23)
          else
          some (q21)
        else
        vO (IntKind.wrap .i64 (at_ + 3)) >>= fun q25 =>
        if q25.E = 0 then
          zQ t q25.At [59] >>= fun q26 =>
          if q26 = true then
            idx t (IntKind.wrap .i64 (at_ + 1)) >>= fun x4 =>
            zR t at_ (IntKind.wrap .i64 (q25.At + 1)) 31 0 x4.S [q25.T_] >>= fun q28 =>
            some (q28)
          else
          vO q25.At >>= fun q27 =>
          some (q27)
        else
        some (q25)
      else
      vO (IntKind.wrap .i64 (at_ + 2)) >>= fun q5 =>
      some (q5)
    else
    zQ t (IntKind.wrap .i64 (at_ + 2)) [58] >>= fun q29 =>
    if q29 = true then
      if (32 : Int) = 32 then
        wV t (IntKind.wrap .i64 (at_ + 3)) >>= fun q31 =>
        if q31.E = 0 then
          zQ t q31.At [59] >>= fun q32 =>
          if q32 = true then
            idx t (IntKind.wrap .i64 (at_ + 1)) >>= fun x5 =>
            zR t at_ (IntKind.wrap .i64 (q31.At + 1)) 32 0 x5.S [q31.T_] >>= fun q34 =>
            some (q34)
          else
          vO q31.At >>= fun q33 =>
          some (q33)
        else
        some (q31)
      else
      uL t (IntKind.wrap .i64 (at_ + 3)) >>= fun q35 =>
      if q35.K = 2 then
        yM t (IntKind.wrap .i64 (at_ + 3)) >>= fun q36 =>
        if q36.E = 0 then
          zQ t q36.At [59] >>= fun q37 =>
          if q37 = true then
            idx t (IntKind.wrap .i64 (at_ + 1)) >>= fun x6 =>
            zR t at_ (IntKind.wrap .i64 (q36.At + 1)) 32 0 x6.S [q36.T_] >>= fun q39 =>
            some (q39)
          else
          vO q36.At >>= fun q38 =>
          some (q38)
        else
        some (q36)
      else
      vZ t (IntKind.wrap .i64 (at_ + 3)) [116, 114, 117, 101] >>= fun q40 =>
      if q40 = true then
        yM t (IntKind.wrap .i64 (at_ + 3)) >>= fun q41 =>
        if q41.E = 0 then
          zQ t q41.At [59] >>= fun q42 =>
          if q42 = true then
            idx t (IntKind.wrap .i64 (at_ + 1)) >>= fun x7 =>
            zR t at_ (IntKind.wrap .i64 (q41.At + 1)) 32 0 x7.S [q41.T_] >>= fun q44 =>
            some (q44)
          else
          vO q41.At >>= fun q43 =>
          some (q43)
        else
        some (q41)
      else
      vZ t (IntKind.wrap .i64 (at_ + 3)) [102, 97, 108, 115, 101] >>= fun q45 =>
      if q45 = true then
        yM t (IntKind.wrap .i64 (at_ + 3)) >>= fun q46 =>
        if q46.E = 0 then
          zQ t q46.At [59] >>= fun q47 =>
          if q47 = true then
            idx t (IntKind.wrap .i64 (at_ + 1)) >>= fun x8 =>
            zR t at_ (IntKind.wrap .i64 (q46.At + 1)) 32 0 x8.S [q46.T_] >>= fun q49 =>
            some (q49)
          else
          vO q46.At >>= fun q48 =>
          some (q48)
        else
        some (q46)
      else
      vO (IntKind.wrap .i64 (at_ + 3)) >>= fun q50 =>
      if q50.E = 0 then
        zQ t q50.At [59] >>= fun q51 =>
        if q51 = true then
          idx t (IntKind.wrap .i64 (at_ + 1)) >>= fun x9 =>
          zR t at_ (IntKind.wrap .i64 (q50.At + 1)) 32 0 x9.S [q50.T_] >>= fun q53 =>
          some (q53)
        else
        vO q50.At >>= fun q52 =>
        some (q52)
      else
      some (q50)
    else
    vO (IntKind.wrap .i64 (at_ + 2)) >>= fun q30 =>
    some (q30)
  else
  vO (IntKind.wrap .i64 (at_ + 1)) >>= fun q2 =>
  some (q2)
def z6G (t : List zC) (at_ : Int) : Option (zG) :=
  vZ t at_ [99, 111, 110, 115, 116] >>= fun q1 =>
  if q1 = true then
    z3J t at_ >>= fun q2 =>
    some (q2)
  else
  vZ t at_ [118, 97, 114] >>= fun q3 =>
  if q3 = true then
    z3J t at_ >>= fun q4 =>
    some (q4)
  else
  vZ t at_ [112, 117, 98] >>= fun q5 =>
  if q5 = true then
    z9v t at_ (IntKind.wrap .i64 (at_ + 1)) 1 >>= fun q6 =>
    some (q6)
  else
  vZ t at_ [102, 110] >>= fun q7 =>
  if q7 = true then
    z9v t at_ at_ 0 >>= fun q8 =>
    some (q8)
  else
  vZ t at_ [114, 101, 99] >>= fun q9 =>
  if q9 = true then
    uL t (IntKind.wrap .i64 (at_ + 1)) >>= fun q11 =>
    if q11.K = 1 then
      zQ t (IntKind.wrap .i64 (at_ + 2)) [123] >>= fun q13 =>
      if q13 = true then
        z5l t (IntKind.wrap .i64 (at_ + 3)) >>= fun q15 =>
        if q15.2.2 = 0 then
          idx t (IntKind.wrap .i64 (at_ + 1)) >>= fun x =>
          zR t at_ q15.2.1 30 0 x.S q15.1 >>= fun q16 =>
          some (q16)
        else
        some ((zG.mk (zF.mk 0 0 [] [] 0 0) q15.2.1 q15.2.2))
      else
      vO (IntKind.wrap .i64 (at_ + 2)) >>= fun q14 =>
      some (q14)
    else
    vO (IntKind.wrap .i64 (at_ + 1)) >>= fun q12 =>
    some (q12)
  else
  vO at_ >>= fun q10 =>
  some (q10)
def z0J (vR : Str → (List zC) → (List zF) → Int → zF → Option (zF × Int × Int)) (text : Str) (t : List zC) (out : List zF) (i : Int) (o2 : zF) : Option (zF × Int × Int) :=
  if i < (IntKind.wrap .i64 ((List.length t : Int) - 1)) then
    z6G t i >>= fun q1 =>
    if q1.E = 0 then
      if z0C 72 (List.length out + List.length [q1.T_]) then
      vR text t (out ++ [q1.T_]) q1.At o2
      else none
    else
    idx t q1.At >>= fun x =>
    some ((zF.mk 0 0 [] [] 0 0), x.From, q1.E)
  else
  if (List.length out : Int) > 64 then
    some ((zF.mk 0 0 [] [] 0 0), 0, 11)
  else
  uK (zF.mk 36 0 [] out 0 (List.length text : Int)) >>= fun q2 =>
  if q2 > 64 then
    some ((zF.mk 0 0 [] [] 0 0), 0, 7)
  else
  some ((zF.mk 36 0 [] out 0 (List.length text : Int)), 0, 0)
inductive z2v where
  | vR (text : Str) (t : List zC) (out : List zF) (i : Int) (o2 : zF)
@[reducible] def z3S : z2v → Type
  | .vR _ _ _ _ _ => zF × Int × Int
def z2r (g : Fam z3S) : Fam z3S
  | .vR text t out i o2 => z0J (fun text t out i o2 => g (z2v.vR text t out i o2)) text t out i o2
theorem z5L : ∀ i, Good (fun g => z2r g i)
  | .vR text t out i o2 => by unfold z2r z0J; exact (.ite (.bind (.const _) fun _ => (.ite (.ite (.call _) (.const _)) (.bind (.const _) fun _ => (.const _)))) (.ite (.const _) (.bind (.const _) fun _ => (.ite (.const _) (.const _)))))
def vR (text : Str) (t : List zC) (out : List zF) (i : Int) (o2 : zF) : Option (zF × Int × Int) := gV z2r (.vR text t out i o2)
theorem y0x (text : Str) (t : List zC) (out : List zF) (i : Int) (o2 : zF) : vR text t out i o2 = z0J vR text t out i o2 := yX z5L (.vR text t out i o2)
def z4M (text : Str) : Option (zF × Int × Int) :=
  z4e text >>= fun q1 =>
  if q1.2.2 = 0 then
    vR text q1.1 ([] : List zF) 0 (zF.mk 0 0 [] [] 0 0)
  else
  some ((zF.mk 0 0 [] [] 0 0), q1.2.1, q1.2.2)
def z0W (wM : Int → Option (Str)) (n : Int) : Option (Str) :=
  if n < 0 then
    if n > (-10) then
      z2J [IntKind.wrap .u8 (IntKind.wrap .i64 (48 - n))] >>= fun s =>
      if List.length ([45] : List UInt8) + List.length s ≤ 9223372036854775807 then
      some ([45] ++ s)
      else none
    else
    if 10 ≠ (0 : Int) then
    wM (IntKind.wrap .i64 (Int.tdiv n 10)) >>= fun q1 =>
    if 10 ≠ (0 : Int) then
    z2J [IntKind.wrap .u8 (IntKind.wrap .i64 (48 - (Int.tmod n 10)))] >>= fun s1 =>
    if List.length q1 + List.length s1 ≤ 9223372036854775807 then
    some (q1 ++ s1)
    else none
    else none
    else none
  else
  if n < 10 then
    z2J [IntKind.wrap .u8 (IntKind.wrap .i64 (48 + n))] >>= fun s2 =>
    some (s2)
  else
  if 10 ≠ (0 : Int) then
  wM (IntKind.wrap .i64 (Int.tdiv n 10)) >>= fun q2 =>
  if 10 ≠ (0 : Int) then
  z2J [IntKind.wrap .u8 (IntKind.wrap .i64 (48 + (Int.tmod n 10)))] >>= fun s3 =>
  if List.length q2 + List.length s3 ≤ 9223372036854775807 then
  some (q2 ++ s3)
  else none
  else none
  else none
inductive z3A where
  | wM (n : Int)
@[reducible] def z4Z : z3A → Type
  | .wM _ => Str
def z3y (g : Fam z4Z) : Fam z4Z
  | .wM n => z0W (fun n => g (z3A.wM n)) n
theorem z8q : ∀ i, Good (fun g => z3y g i)
  | .wM n => by unfold z3y z0W; exact (.ite (.ite (.bind (.const _) fun _ => (.ite (.const _) (.const _))) (.ite (.bind (.call _) fun _ => (.ite (.bind (.const _) fun _ => (.ite (.const _) (.const _))) (.const _))) (.const _))) (.ite (.bind (.const _) fun _ => (.const _)) (.ite (.bind (.call _) fun _ => (.ite (.bind (.const _) fun _ => (.ite (.const _) (.const _))) (.const _))) (.const _))))
def wM (n : Int) : Option (Str) := gV z3y (.wM n)
theorem z7z (n : Int) : wM n = z0W wM n := yX z8q (.wM n)
def z0K (yQ : Int → (List Int) → Int → zF → Option (Int)) (level : Int) (t : zF) : Option (Int) :=
  if level < 6 then
    z4q level >>= fun q1 =>
    yQ level q1.2 0 t
  else
  some (7)
def gJ (vC : Int → zF → Option (Int)) (yQ : Int → (List Int) → Int → zF → Option (Int)) (level : Int) (ops : List Int) (i : Int) (t : zF) : Option (Int) :=
  if i < (List.length ops : Int) then
    idx ops i >>= fun x =>
    if x = t.N then
      some (level)
    else
    yQ level ops (IntKind.wrap .i64 (i + 1)) t
  else
  vC (IntKind.wrap .i64 (level + 1)) t
inductive gA where
  | vC (level : Int) (t : zF)
  | yQ (level : Int) (ops : List Int) (i : Int) (t : zF)
@[reducible] def z3T : gA → Type
  | .vC _ _ => Int
  | .yQ _ _ _ _ => Int
def z0E (g : Fam z3T) : Fam z3T
  | .vC level t => z0K (fun level ops i t => g (gA.yQ level ops i t)) level t
  | .yQ level ops i t => gJ (fun level t => g (gA.vC level t)) (fun level ops i t => g (gA.yQ level ops i t)) level ops i t
theorem z3M : ∀ i, Good (fun g => z0E g i)
  | .vC level t => by unfold z0E z0K; exact (.ite (.bind (.const _) fun _ => (.call _)) (.const _))
  | .yQ level ops i t => by unfold z0E gJ; exact (.ite (.bind (.const _) fun _ => (.ite (.const _) (.call _))) (.call _))
def vC (level : Int) (t : zF) : Option (Int) := gV z0E (.vC level t)
def yQ (level : Int) (ops : List Int) (i : Int) (t : zF) : Option (Int) := gV z0E (.yQ level ops i t)
theorem y0y (level : Int) (t : zF) : vC level t = z0K yQ level t := yX z3M (.vC level t)
theorem z4N (level : Int) (ops : List Int) (i : Int) (t : zF) : yQ level ops i t = gJ vC yQ level ops i t := yX z3M (.yQ level ops i t)
def z2l (t : zF) : Option (Int) :=
  if t.K = 11 then
    some (6)
  else
  if t.K = 10 then
    vC 1 t
  else
  some (7)
def z1d (vU : Int → Int → (List Str) → (List Int) → Int → Option (Str)) (op level : Int) : Option (Str) :=
  if level < 6 then
    z4q level >>= fun q1 =>
    vU op level q1.1 q1.2 0
  else
  some ([])
def z0x (vP : Int → Int → Option (Str)) (vU : Int → Int → (List Str) → (List Int) → Int → Option (Str)) (op level : Int) (signs : List Str) (ops : List Int) (i : Int) : Option (Str) :=
  if i < (List.length ops : Int) then
    idx ops i >>= fun x =>
    if x = op then
      idx signs i >>= fun x1 =>
      some (x1)
    else
    vU op level signs ops (IntKind.wrap .i64 (i + 1))
  else
  vP op (IntKind.wrap .i64 (level + 1))
inductive gQ where
  | vP (op level : Int)
  | vU (op level : Int) (signs : List Str) (ops : List Int) (i : Int)
@[reducible] def z4z : gQ → Type
  | .vP _ _ => Str
  | .vU _ _ _ _ _ => Str
def z1c (g : Fam z4z) : Fam z4z
  | .vP op level => z1d (fun op level signs ops i => g (gQ.vU op level signs ops i)) op level
  | .vU op level signs ops i => z0x (fun op level => g (gQ.vP op level)) (fun op level signs ops i => g (gQ.vU op level signs ops i)) op level signs ops i
theorem z4u : ∀ i, Good (fun g => z1c g i)
  | .vP op level => by unfold z1c z1d; exact (.ite (.bind (.const _) fun _ => (.call _)) (.const _))
  | .vU op level signs ops i => by unfold z1c z0x; exact (.ite (.bind (.const _) fun _ => (.ite (.bind (.const _) fun _ => (.const _)) (.call _))) (.call _))
def vP (op level : Int) : Option (Str) := gV z1c (.vP op level)
def vU (op level : Int) (signs : List Str) (ops : List Int) (i : Int) : Option (Str) := gV z1c (.vU op level signs ops i)
theorem y1W (op level : Int) : vP op level = z1d vU op level := yX z4u (.vP op level)
theorem z6K (op level : Int) (signs : List Str) (ops : List Int) (i : Int) : vU op level signs ops i = z0x vP vU op level signs ops i := yX z4u (.vU op level signs ops i)
def z4O (op : Int) : Option (Str) :=
  vP op 1
def uI (vE : zF → Option (Str)) (wP : zF → Int → Option (Str)) (jE : (List zF) → Str → Str → Option (Str)) (t : zF) : Option (Str) :=
  if t.K = 5 then
    wM t.N >>= fun q1 =>
    some (q1)
  else
  if t.K = 6 then
    if t.N = 1 then
      some ([116, 114, 117, 101])
    else
    some ([102, 97, 108, 115, 101])
  else
  if t.K = 18 then
    some ([114, 101, 97, 100])
  else
  if t.K = 19 then
    some (t.S)
  else
  if t.K = 10 then
    z2l t >>= fun q26 =>
    if q26 = 3 then
      idx t.L 0 >>= fun x13 =>
      wP x13 4 >>= fun q27 =>
      if List.length q27 + List.length ([32] : List UInt8) ≤ 9223372036854775807 then
      z4O t.N >>= fun q28 =>
      if List.length (q27 ++ [32]) + List.length q28 ≤ 9223372036854775807 then
      if List.length ((q27 ++ [32]) ++ q28) + List.length ([32] : List UInt8) ≤ 9223372036854775807 then
      idx t.L 1 >>= fun x14 =>
      wP x14 (IntKind.wrap .i64 (q26 + 1)) >>= fun q29 =>
      if List.length (((q27 ++ [32]) ++ q28) ++ [32]) + List.length q29 ≤ 9223372036854775807 then
      some ((((q27 ++ [32]) ++ q28) ++ [32]) ++ q29)
      else none
      else none
      else none
      else none
    else
    idx t.L 0 >>= fun x15 =>
    wP x15 q26 >>= fun q30 =>
    if List.length q30 + List.length ([32] : List UInt8) ≤ 9223372036854775807 then
    z4O t.N >>= fun q31 =>
    if List.length (q30 ++ [32]) + List.length q31 ≤ 9223372036854775807 then
    if List.length ((q30 ++ [32]) ++ q31) + List.length ([32] : List UInt8) ≤ 9223372036854775807 then
    idx t.L 1 >>= fun x16 =>
    wP x16 (IntKind.wrap .i64 (q26 + 1)) >>= fun q32 =>
    if List.length (((q30 ++ [32]) ++ q31) ++ [32]) + List.length q32 ≤ 9223372036854775807 then
    some ((((q30 ++ [32]) ++ q31) ++ [32]) ++ q32)
    else none
    else none
    else none
    else none
  else
  if t.K = 11 then
    if t.N = 1 then
      idx t.L 0 >>= fun x17 =>
      wP x17 6 >>= fun q33 =>
      if List.length ([45, 32] : List UInt8) + List.length q33 ≤ 9223372036854775807 then
      some ([45, 32] ++ q33)
      else none
    else
    idx t.L 0 >>= fun x18 =>
    wP x18 6 >>= fun q34 =>
    if List.length ([33, 32] : List UInt8) + List.length q34 ≤ 9223372036854775807 then
    some ([33, 32] ++ q34)
    else none
  else
  if t.K = 12 then
    idx t.L 0 >>= fun x23 =>
    wP x23 7 >>= fun q43 =>
    if List.length q43 + List.length ([32, 91, 32] : List UInt8) ≤ 9223372036854775807 then
    idx t.L 1 >>= fun x24 =>
    vE x24 >>= fun q44 =>
    if List.length (q43 ++ [32, 91, 32]) + List.length q44 ≤ 9223372036854775807 then
    if List.length ((q43 ++ [32, 91, 32]) ++ q44) + List.length ([32, 93] : List UInt8) ≤ 9223372036854775807 then
    some (((q43 ++ [32, 91, 32]) ++ q44) ++ [32, 93])
    else none
    else none
    else none
  else
  if t.K = 13 then
    idx t.L 0 >>= fun x25 =>
    wP x25 7 >>= fun q45 =>
    if List.length q45 + List.length ([32, 46, 32] : List UInt8) ≤ 9223372036854775807 then
    if List.length (q45 ++ [32, 46, 32]) + List.length t.S ≤ 9223372036854775807 then
    some ((q45 ++ [32, 46, 32]) ++ t.S)
    else none
    else none
  else
  if t.K = 14 then
    jE t.L [91] [93] >>= fun q46 =>
    some (q46)
  else
  if t.K = 17 then
    if List.length ([64, 32] : List UInt8) + List.length t.S ≤ 9223372036854775807 then
    if List.length ([64, 32] ++ t.S) + List.length ([32] : List UInt8) ≤ 9223372036854775807 then
    jE t.L [40] [41] >>= fun q47 =>
    if List.length (([64, 32] ++ t.S) ++ [32]) + List.length q47 ≤ 9223372036854775807 then
    some ((([64, 32] ++ t.S) ++ [32]) ++ q47)
    else none
    else none
    else none
  else
  if t.K = 15 then
    if List.length ([110, 101, 119, 32] : List UInt8) + List.length t.S ≤ 9223372036854775807 then
    if List.length ([110, 101, 119, 32] ++ t.S) + List.length ([32] : List UInt8) ≤ 9223372036854775807 then
    jE t.L [40] [41] >>= fun q48 =>
    if List.length (([110, 101, 119, 32] ++ t.S) ++ [32]) + List.length q48 ≤ 9223372036854775807 then
    some ((([110, 101, 119, 32] ++ t.S) ++ [32]) ++ q48)
    else none
    else none
    else none
  else
  if List.length t.S + List.length ([32] : List UInt8) ≤ 9223372036854775807 then
  jE t.L [40] [41] >>= fun q49 =>
  if List.length (t.S ++ [32]) + List.length q49 ≤ 9223372036854775807 then
  some ((t.S ++ [32]) ++ q49)
  else none
  else none
def z2n (vE : zF → Option (Str)) (t : zF) (least : Int) : Option (Str) :=
  z2l t >>= fun q1 =>
  if q1 < least then
    vE t >>= fun q2 =>
    if List.length ([40, 32] : List UInt8) + List.length q2 ≤ 9223372036854775807 then
    if List.length ([40, 32] ++ q2) + List.length ([32, 41] : List UInt8) ≤ 9223372036854775807 then
    some (([40, 32] ++ q2) ++ [32, 41])
    else none
    else none
  else
  vE t >>= fun q3 =>
  some (q3)
def z2d (yS : (List zF) → Str → Str → Int → Option (Str)) (l : List zF) (first last : Str) : Option (Str) :=
  yS l last first 0
def z0w (vE : zF → Option (Str)) (yS : (List zF) → Str → Str → Int → Option (Str)) (l : List zF) (last out : Str) (i : Int) : Option (Str) :=
  if i < (List.length l : Int) then
    if i > 0 then
      if List.length out + List.length ([32, 44] : List UInt8) ≤ 9223372036854775807 then
      if List.length (out ++ [32, 44]) + List.length ([32] : List UInt8) ≤ 9223372036854775807 then
      idx l i >>= fun x =>
      vE x >>= fun q1 =>
      if List.length ((out ++ [32, 44]) ++ [32]) + List.length q1 ≤ 9223372036854775807 then
      yS l last (((out ++ [32, 44]) ++ [32]) ++ q1) (IntKind.wrap .i64 (i + 1))
      else none
      else none
      else none
    else
    if List.length out + List.length ([32] : List UInt8) ≤ 9223372036854775807 then
    idx l i >>= fun x1 =>
    vE x1 >>= fun q2 =>
    if List.length (out ++ [32]) + List.length q2 ≤ 9223372036854775807 then
    yS l last ((out ++ [32]) ++ q2) (IntKind.wrap .i64 (i + 1))
    else none
    else none
  else
  if List.length out + List.length ([32] : List UInt8) ≤ 9223372036854775807 then
  if List.length (out ++ [32]) + List.length last ≤ 9223372036854775807 then
  some ((out ++ [32]) ++ last)
  else none
  else none
inductive uQ where
  | vE (t : zF)
  | wP (t : zF) (least : Int)
  | jE (l : List zF) (first last : Str)
  | yS (l : List zF) (last out : Str) (i : Int)
@[reducible] def z7G : uQ → Type
  | .vE _ => Str
  | .wP _ _ => Str
  | .jE _ _ _ => Str
  | .yS _ _ _ _ => Str
def z0o (g : Fam z7G) : Fam z7G
  | .vE t => uI (fun t => g (uQ.vE t)) (fun t least => g (uQ.wP t least)) (fun l first last => g (uQ.jE l first last)) t
  | .wP t least => z2n (fun t => g (uQ.vE t)) t least
  | .jE l first last => z2d (fun l last out i => g (uQ.yS l last out i)) l first last
  | .yS l last out i => z0w (fun t => g (uQ.vE t)) (fun l last out i => g (uQ.yS l last out i)) l last out i
theorem z3N : ∀ i, Good (fun g => z0o g i)
  | .vE t => by unfold z0o uI; exact (.ite (.bind (.const _) fun _ => (.const _)) (.ite (.ite (.const _) (.const _)) (.ite (.const _) (.ite (.const _) (.ite (.bind (.const _) fun _ => (.ite (.bind (.const _) fun _ => (.bind (.call _) fun _ => (.ite (.bind (.const _) fun _ => (.ite (.ite (.bind (.const _) fun _ => (.bind (.call _) fun _ => (.ite (.const _) (.const _)))) (.const _)) (.const _))) (.const _)))) (.bind (.const _) fun _ => (.bind (.call _) fun _ => (.ite (.bind (.const _) fun _ => (.ite (.ite (.bind (.const _) fun _ => (.bind (.call _) fun _ => (.ite (.const _) (.const _)))) (.const _)) (.const _))) (.const _)))))) (.ite (.ite (.bind (.const _) fun _ => (.bind (.call _) fun _ => (.ite (.const _) (.const _)))) (.bind (.const _) fun _ => (.bind (.call _) fun _ => (.ite (.const _) (.const _))))) (.ite (.bind (.const _) fun _ => (.bind (.call _) fun _ => (.ite (.bind (.const _) fun _ => (.bind (.call _) fun _ => (.ite (.ite (.const _) (.const _)) (.const _)))) (.const _)))) (.ite (.bind (.const _) fun _ => (.bind (.call _) fun _ => (.ite (.ite (.const _) (.const _)) (.const _)))) (.ite (.bind (.call _) fun _ => (.const _)) (.ite (.ite (.ite (.bind (.call _) fun _ => (.ite (.const _) (.const _))) (.const _)) (.const _)) (.ite (.ite (.ite (.bind (.call _) fun _ => (.ite (.const _) (.const _))) (.const _)) (.const _)) (.ite (.bind (.call _) fun _ => (.ite (.const _) (.const _))) (.const _)))))))))))))
  | .wP t least => by unfold z0o z2n; exact (.bind (.const _) fun _ => (.ite (.bind (.call _) fun _ => (.ite (.ite (.const _) (.const _)) (.const _))) (.bind (.call _) fun _ => (.const _))))
  | .jE l first last => by unfold z0o z2d; exact (.call _)
  | .yS l last out i => by unfold z0o z0w; exact (.ite (.ite (.ite (.ite (.bind (.const _) fun _ => (.bind (.call _) fun _ => (.ite (.call _) (.const _)))) (.const _)) (.const _)) (.ite (.bind (.const _) fun _ => (.bind (.call _) fun _ => (.ite (.call _) (.const _)))) (.const _))) (.ite (.ite (.const _) (.const _)) (.const _)))
def vE (t : zF) : Option (Str) := gV z0o (.vE t)
def wP (t : zF) (least : Int) : Option (Str) := gV z0o (.wP t least)
def jE (l : List zF) (first last : Str) : Option (Str) := gV z0o (.jE l first last)
def yS (l : List zF) (last out : Str) (i : Int) : Option (Str) := gV z0o (.yS l last out i)
theorem jD (t : zF) : vE t = uI vE wP jE t := yX z3N (.vE t)
theorem y4l (t : zF) (least : Int) : wP t least = z2n vE t least := yX z3N (.wP t least)
theorem z9X (l : List zF) (first last : Str) : jE l first last = z2d yS l first last := yX z3N (.jE l first last)
theorem z6J (l : List zF) (last out : Str) (i : Int) : yS l last out i = z0w vE yS l last out i := yX z3N (.yS l last out i)
def z0Y (uD : zF → Option (Str)) (t : zF) : Option (Str) :=
  if t.K = 1 then
    some ([105, 110, 116])
  else
  if t.K = 2 then
    some ([98, 111, 111, 108])
  else
  if t.K = 3 then
    wM t.N >>= fun q1 =>
    if List.length ([91, 32] : List UInt8) + List.length q1 ≤ 9223372036854775807 then
    if List.length ([91, 32] ++ q1) + List.length ([32, 93, 32] : List UInt8) ≤ 9223372036854775807 then
    idx t.L 0 >>= fun x =>
    uD x >>= fun q2 =>
    if List.length (([91, 32] ++ q1) ++ [32, 93, 32]) + List.length q2 ≤ 9223372036854775807 then
    some ((([91, 32] ++ q1) ++ [32, 93, 32]) ++ q2)
    else none
    else none
    else none
  else
  some (t.S)
inductive z4Y where
  | uD (t : zF)
@[reducible] def z7H : z4Y → Type
  | .uD _ => Str
def z4W (g : Fam z7H) : Fam z7H
  | .uD t => z0Y (fun t => g (z4Y.uD t)) t
theorem y0G : ∀ i, Good (fun g => z4W g i)
  | .uD t => by unfold z4W z0Y; exact (.ite (.const _) (.ite (.const _) (.ite (.bind (.const _) fun _ => (.ite (.ite (.bind (.const _) fun _ => (.bind (.call _) fun _ => (.ite (.const _) (.const _)))) (.const _)) (.const _))) (.const _))))
def uD (t : zF) : Option (Str) := gV z4W (.uD t)
theorem z4r (t : zF) : uD t = z0Y uD t := yX y0G (.uD t)
def z2m (vD : Str → Int → zF → Option (Str)) (t : zF) : Option (Str) :=
  vD [123, 32] 0 t
def z0d (vD : Str → Int → zF → Option (Str)) (gD : zF → Option (Str)) (out : Str) (i : Int) (t : zF) : Option (Str) :=
  if i < (List.length t.L : Int) then
    idx t.L i >>= fun x =>
    gD x >>= fun q1 =>
    if List.length out + List.length q1 ≤ 9223372036854775807 then
    if List.length (out ++ q1) + List.length ([32] : List UInt8) ≤ 9223372036854775807 then
    vD ((out ++ q1) ++ [32]) (IntKind.wrap .i64 (i + 1)) t
    else none
    else none
  else
  if List.length out + List.length ([125] : List UInt8) ≤ 9223372036854775807 then
  some (out ++ [125])
  else none
def z2e (wO : zF → Option (Str)) (t : zF) : Option (Str) :=
  if t.K = 29 then
    wO t >>= fun q1 =>
    some (q1)
  else
  if t.K = 21 then
    if List.length ([108, 101, 116, 32] : List UInt8) + List.length t.S ≤ 9223372036854775807 then
    if List.length ([108, 101, 116, 32] ++ t.S) + List.length ([32, 58, 32] : List UInt8) ≤ 9223372036854775807 then
    idx t.L 0 >>= fun x =>
    uD x >>= fun q2 =>
    if List.length (([108, 101, 116, 32] ++ t.S) ++ [32, 58, 32]) + List.length q2 ≤ 9223372036854775807 then
    if List.length ((([108, 101, 116, 32] ++ t.S) ++ [32, 58, 32]) ++ q2) + List.length ([32, 59] : List UInt8) ≤ 9223372036854775807 then
    some (((([108, 101, 116, 32] ++ t.S) ++ [32, 58, 32]) ++ q2) ++ [32, 59])
    else none
    else none
    else none
    else none
  else
  idx t.L 0 >>= fun x1 =>
  vE x1 >>= fun q3 =>
  if t.K = 20 then
    if List.length ([108, 101, 116, 32] : List UInt8) + List.length t.S ≤ 9223372036854775807 then
    if List.length ([108, 101, 116, 32] ++ t.S) + List.length ([32, 61, 32] : List UInt8) ≤ 9223372036854775807 then
    if List.length (([108, 101, 116, 32] ++ t.S) ++ [32, 61, 32]) + List.length q3 ≤ 9223372036854775807 then
    if List.length ((([108, 101, 116, 32] ++ t.S) ++ [32, 61, 32]) ++ q3) + List.length ([32, 59] : List UInt8) ≤ 9223372036854775807 then
    some (((([108, 101, 116, 32] ++ t.S) ++ [32, 61, 32]) ++ q3) ++ [32, 59])
    else none
    else none
    else none
    else none
  else
  if t.K = 22 then
    if List.length q3 + List.length ([32, 61, 32] : List UInt8) ≤ 9223372036854775807 then
    idx t.L 1 >>= fun x2 =>
    vE x2 >>= fun q4 =>
    if List.length (q3 ++ [32, 61, 32]) + List.length q4 ≤ 9223372036854775807 then
    if List.length ((q3 ++ [32, 61, 32]) ++ q4) + List.length ([32, 59] : List UInt8) ≤ 9223372036854775807 then
    some (((q3 ++ [32, 61, 32]) ++ q4) ++ [32, 59])
    else none
    else none
    else none
  else
  if t.K = 26 then
    if List.length ([112, 114, 105, 110, 116, 32] : List UInt8) + List.length q3 ≤ 9223372036854775807 then
    if List.length ([112, 114, 105, 110, 116, 32] ++ q3) + List.length ([32, 59] : List UInt8) ≤ 9223372036854775807 then
    some (([112, 114, 105, 110, 116, 32] ++ q3) ++ [32, 59])
    else none
    else none
  else
  if t.K = 27 then
    if List.length ([114, 101, 116, 117, 114, 110, 32] : List UInt8) + List.length q3 ≤ 9223372036854775807 then
    if List.length ([114, 101, 116, 117, 114, 110, 32] ++ q3) + List.length ([32, 59] : List UInt8) ≤ 9223372036854775807 then
    some (([114, 101, 116, 117, 114, 110, 32] ++ q3) ++ [32, 59])
    else none
    else none
  else
  if t.K = 28 then
    if List.length ([100, 111, 32] : List UInt8) + List.length q3 ≤ 9223372036854775807 then
    if List.length ([100, 111, 32] ++ q3) + List.length ([32, 59] : List UInt8) ≤ 9223372036854775807 then
    some (([100, 111, 32] ++ q3) ++ [32, 59])
    else none
    else none
  else
  if t.K = 24 then
    if List.length ([119, 104, 105, 108, 101, 32] : List UInt8) + List.length q3 ≤ 9223372036854775807 then
    if List.length ([119, 104, 105, 108, 101, 32] ++ q3) + List.length ([32] : List UInt8) ≤ 9223372036854775807 then
    idx t.L 1 >>= fun x3 =>
    wO x3 >>= fun q5 =>
    if List.length (([119, 104, 105, 108, 101, 32] ++ q3) ++ [32]) + List.length q5 ≤ 9223372036854775807 then
    some ((([119, 104, 105, 108, 101, 32] ++ q3) ++ [32]) ++ q5)
    else none
    else none
    else none
  else
  if t.K = 25 then
    if List.length ([102, 111, 114, 32] : List UInt8) + List.length t.S ≤ 9223372036854775807 then
    if List.length ([102, 111, 114, 32] ++ t.S) + List.length ([32, 61, 32] : List UInt8) ≤ 9223372036854775807 then
    if List.length (([102, 111, 114, 32] ++ t.S) ++ [32, 61, 32]) + List.length q3 ≤ 9223372036854775807 then
    if List.length ((([102, 111, 114, 32] ++ t.S) ++ [32, 61, 32]) ++ q3) + List.length ([32, 116, 111, 32] : List UInt8) ≤ 9223372036854775807 then
    idx t.L 1 >>= fun x4 =>
    vE x4 >>= fun q6 =>
    if List.length (((([102, 111, 114, 32] ++ t.S) ++ [32, 61, 32]) ++ q3) ++ [32, 116, 111, 32]) + List.length q6 ≤ 9223372036854775807 then
    if List.length ((((([102, 111, 114, 32] ++ t.S) ++ [32, 61, 32]) ++ q3) ++ [32, 116, 111, 32]) ++ q6) + List.length ([32] : List UInt8) ≤ 9223372036854775807 then
    idx t.L 2 >>= fun x5 =>
    wO x5 >>= fun q7 =>
    if List.length (((((([102, 111, 114, 32] ++ t.S) ++ [32, 61, 32]) ++ q3) ++ [32, 116, 111, 32]) ++ q6) ++ [32]) + List.length q7 ≤ 9223372036854775807 then
    some ((((((([102, 111, 114, 32] ++ t.S) ++ [32, 61, 32]) ++ q3) ++ [32, 116, 111, 32]) ++ q6) ++ [32]) ++ q7)
    else none
    else none
    else none
    else none
    else none
    else none
    else none
  else
  if List.length ([105, 102, 32] : List UInt8) + List.length q3 ≤ 9223372036854775807 then
  if List.length ([105, 102, 32] ++ q3) + List.length ([32] : List UInt8) ≤ 9223372036854775807 then
  idx t.L 1 >>= fun x6 =>
  wO x6 >>= fun q8 =>
  if List.length (([105, 102, 32] ++ q3) ++ [32]) + List.length q8 ≤ 9223372036854775807 then
  idx t.L 2 >>= fun x7 =>
  if (List.length x7.L : Int) > 0 then
    if List.length ((([105, 102, 32] ++ q3) ++ [32]) ++ q8) + List.length ([32, 101, 108, 115, 101, 32] : List UInt8) ≤ 9223372036854775807 then
    idx t.L 2 >>= fun x8 =>
    wO x8 >>= fun q9 =>
    if List.length (((([105, 102, 32] ++ q3) ++ [32]) ++ q8) ++ [32, 101, 108, 115, 101, 32]) + List.length q9 ≤ 9223372036854775807 then
    some ((((([105, 102, 32] ++ q3) ++ [32]) ++ q8) ++ [32, 101, 108, 115, 101, 32]) ++ q9)
    else none
    else none
  else
  some ((([105, 102, 32] ++ q3) ++ [32]) ++ q8)
  else none
  else none
  else none
inductive gP where
  | wO (t : zF)
  | vD (out : Str) (i : Int) (t : zF)
  | gD (t : zF)
@[reducible] def z5V : gP → Type
  | .wO _ => Str
  | .vD _ _ _ => Str
  | .gD _ => Str
def z0O (g : Fam z5V) : Fam z5V
  | .wO t => z2m (fun out i t => g (gP.vD out i t)) t
  | .vD out i t => z0d (fun out i t => g (gP.vD out i t)) (fun t => g (gP.gD t)) out i t
  | .gD t => z2e (fun t => g (gP.wO t)) t
theorem z4j : ∀ i, Good (fun g => z0O g i)
  | .wO t => by unfold z0O z2m; exact (.call _)
  | .vD out i t => by unfold z0O z0d; exact (.ite (.bind (.const _) fun _ => (.bind (.call _) fun _ => (.ite (.ite (.call _) (.const _)) (.const _)))) (.ite (.const _) (.const _)))
  | .gD t => by unfold z0O z2e; exact (.ite (.bind (.call _) fun _ => (.const _)) (.ite (.ite (.ite (.bind (.const _) fun _ => (.bind (.const _) fun _ => (.ite (.ite (.const _) (.const _)) (.const _)))) (.const _)) (.const _)) (.bind (.const _) fun _ => (.bind (.const _) fun _ => (.ite (.ite (.ite (.ite (.ite (.const _) (.const _)) (.const _)) (.const _)) (.const _)) (.ite (.ite (.bind (.const _) fun _ => (.bind (.const _) fun _ => (.ite (.ite (.const _) (.const _)) (.const _)))) (.const _)) (.ite (.ite (.ite (.const _) (.const _)) (.const _)) (.ite (.ite (.ite (.const _) (.const _)) (.const _)) (.ite (.ite (.ite (.const _) (.const _)) (.const _)) (.ite (.ite (.ite (.bind (.const _) fun _ => (.bind (.call _) fun _ => (.ite (.const _) (.const _)))) (.const _)) (.const _)) (.ite (.ite (.ite (.ite (.ite (.bind (.const _) fun _ => (.bind (.const _) fun _ => (.ite (.ite (.bind (.const _) fun _ => (.bind (.call _) fun _ => (.ite (.const _) (.const _)))) (.const _)) (.const _)))) (.const _)) (.const _)) (.const _)) (.const _)) (.ite (.ite (.bind (.const _) fun _ => (.bind (.call _) fun _ => (.ite (.bind (.const _) fun _ => (.ite (.ite (.bind (.const _) fun _ => (.bind (.call _) fun _ => (.ite (.const _) (.const _)))) (.const _)) (.const _))) (.const _)))) (.const _)) (.const _)))))))))))))
def wO (t : zF) : Option (Str) := gV z0O (.wO t)
def vD (out : Str) (i : Int) (t : zF) : Option (Str) := gV z0O (.vD out i t)
def gD (t : zF) : Option (Str) := gV z0O (.gD t)
theorem y4k (t : zF) : wO t = z2m vD t := yX z4j (.wO t)
theorem z5C (out : Str) (i : Int) (t : zF) : vD out i t = z0d vD gD out i t := yX z4j (.vD out i t)
theorem z9Y (t : zF) : gD t = z2e wO t := yX z4j (.gD t)
def z0e (yI : Str → Int → zF → Option (Str)) (out : Str) (i : Int) (t : zF) : Option (Str) :=
  idx t.L 0 >>= fun x =>
  if i < (List.length x.L : Int) then
    if i > 0 then
      if List.length out + List.length ([32, 44] : List UInt8) ≤ 9223372036854775807 then
      if List.length (out ++ [32, 44]) + List.length ([32] : List UInt8) ≤ 9223372036854775807 then
      idx t.L 0 >>= fun x1 =>
      idx x1.L i >>= fun x2 =>
      if List.length ((out ++ [32, 44]) ++ [32]) + List.length x2.S ≤ 9223372036854775807 then
      if List.length (((out ++ [32, 44]) ++ [32]) ++ x2.S) + List.length ([32, 58, 32] : List UInt8) ≤ 9223372036854775807 then
      idx t.L 0 >>= fun x3 =>
      idx x3.L i >>= fun x4 =>
      idx x4.L 0 >>= fun x5 =>
      uD x5 >>= fun q1 =>
      if List.length ((((out ++ [32, 44]) ++ [32]) ++ x2.S) ++ [32, 58, 32]) + List.length q1 ≤ 9223372036854775807 then
      yI (((((out ++ [32, 44]) ++ [32]) ++ x2.S) ++ [32, 58, 32]) ++ q1) (IntKind.wrap .i64 (i + 1)) t
      else none
      else none
      else none
      else none
      else none
    else
    if List.length out + List.length ([32] : List UInt8) ≤ 9223372036854775807 then
    idx t.L 0 >>= fun x6 =>
    idx x6.L i >>= fun x7 =>
    if List.length (out ++ [32]) + List.length x7.S ≤ 9223372036854775807 then
    if List.length ((out ++ [32]) ++ x7.S) + List.length ([32, 58, 32] : List UInt8) ≤ 9223372036854775807 then
    idx t.L 0 >>= fun x8 =>
    idx x8.L i >>= fun x9 =>
    idx x9.L 0 >>= fun x10 =>
    uD x10 >>= fun q2 =>
    if List.length (((out ++ [32]) ++ x7.S) ++ [32, 58, 32]) + List.length q2 ≤ 9223372036854775807 then
    yI ((((out ++ [32]) ++ x7.S) ++ [32, 58, 32]) ++ q2) (IntKind.wrap .i64 (i + 1)) t
    else none
    else none
    else none
    else none
  else
  if List.length out + List.length ([32, 41, 32, 58, 32] : List UInt8) ≤ 9223372036854775807 then
  idx t.L 1 >>= fun x11 =>
  uD x11 >>= fun q3 =>
  if List.length (out ++ [32, 41, 32, 58, 32]) + List.length q3 ≤ 9223372036854775807 then
  if List.length ((out ++ [32, 41, 32, 58, 32]) ++ q3) + List.length ([32] : List UInt8) ≤ 9223372036854775807 then
  idx t.L 2 >>= fun x12 =>
  wO x12 >>= fun q4 =>
  if List.length (((out ++ [32, 41, 32, 58, 32]) ++ q3) ++ [32]) + List.length q4 ≤ 9223372036854775807 then
  some ((((out ++ [32, 41, 32, 58, 32]) ++ q3) ++ [32]) ++ q4)
  else none
  else none
  else none
  else none
inductive z2w where
  | yI (out : Str) (i : Int) (t : zF)
@[reducible] def z3U : z2w → Type
  | .yI _ _ _ => Str
def z2s (g : Fam z3U) : Fam z3U
  | .yI out i t => z0e (fun out i t => g (z2w.yI out i t)) out i t
theorem z5M : ∀ i, Good (fun g => z2s g i)
  | .yI out i t => by unfold z2s z0e; exact (.bind (.const _) fun _ => (.ite (.ite (.ite (.ite (.bind (.const _) fun _ => (.bind (.const _) fun _ => (.ite (.ite (.bind (.const _) fun _ => (.bind (.const _) fun _ => (.bind (.const _) fun _ => (.bind (.const _) fun _ => (.ite (.call _) (.const _)))))) (.const _)) (.const _)))) (.const _)) (.const _)) (.ite (.bind (.const _) fun _ => (.bind (.const _) fun _ => (.ite (.ite (.bind (.const _) fun _ => (.bind (.const _) fun _ => (.bind (.const _) fun _ => (.bind (.const _) fun _ => (.ite (.call _) (.const _)))))) (.const _)) (.const _)))) (.const _))) (.ite (.bind (.const _) fun _ => (.bind (.const _) fun _ => (.ite (.ite (.bind (.const _) fun _ => (.bind (.const _) fun _ => (.ite (.const _) (.const _)))) (.const _)) (.const _)))) (.const _))))
def yI (out : Str) (i : Int) (t : zF) : Option (Str) := gV z2s (.yI out i t)
theorem z5D (out : Str) (i : Int) (t : zF) : yI out i t = z0e yI out i t := yX z5M (.yI out i t)
def z0v (wA : Str → Int → zF → Option (Str)) (out : Str) (i : Int) (t : zF) : Option (Str) :=
  if i < (List.length t.L : Int) then
    idx t.L i >>= fun x =>
    if List.length out + List.length x.S ≤ 9223372036854775807 then
    if List.length (out ++ x.S) + List.length ([32, 58, 32] : List UInt8) ≤ 9223372036854775807 then
    idx t.L i >>= fun x1 =>
    idx x1.L 0 >>= fun x2 =>
    uD x2 >>= fun q1 =>
    if List.length ((out ++ x.S) ++ [32, 58, 32]) + List.length q1 ≤ 9223372036854775807 then
    if List.length (((out ++ x.S) ++ [32, 58, 32]) ++ q1) + List.length ([32, 59, 32] : List UInt8) ≤ 9223372036854775807 then
    wA ((((out ++ x.S) ++ [32, 58, 32]) ++ q1) ++ [32, 59, 32]) (IntKind.wrap .i64 (i + 1)) t
    else none
    else none
    else none
    else none
  else
  if List.length out + List.length ([125] : List UInt8) ≤ 9223372036854775807 then
  some (out ++ [125])
  else none
inductive z3a where
  | wA (out : Str) (i : Int) (t : zF)
@[reducible] def z4y : z3a → Type
  | .wA _ _ _ => Str
def z2W (g : Fam z4y) : Fam z4y
  | .wA out i t => z0v (fun out i t => g (z3a.wA out i t)) out i t
theorem z7m : ∀ i, Good (fun g => z2W g i)
  | .wA out i t => by unfold z2W z0v; exact (.ite (.bind (.const _) fun _ => (.ite (.ite (.bind (.const _) fun _ => (.bind (.const _) fun _ => (.bind (.const _) fun _ => (.ite (.ite (.call _) (.const _)) (.const _))))) (.const _)) (.const _))) (.ite (.const _) (.const _)))
def wA (out : Str) (i : Int) (t : zF) : Option (Str) := gV z2W (.wA out i t)
theorem z6I (out : Str) (i : Int) (t : zF) : wA out i t = z0v wA out i t := yX z7m (.wA out i t)
def z6H (t : zF) : Option (Str) :=
  if t.K = 31 then
    if List.length ([99, 111, 110, 115, 116, 32] : List UInt8) + List.length t.S ≤ 9223372036854775807 then
    if List.length ([99, 111, 110, 115, 116, 32] ++ t.S) + List.length ([32, 61, 32] : List UInt8) ≤ 9223372036854775807 then
    idx t.L 0 >>= fun x =>
    vE x >>= fun q1 =>
    if List.length (([99, 111, 110, 115, 116, 32] ++ t.S) ++ [32, 61, 32]) + List.length q1 ≤ 9223372036854775807 then
    if List.length ((([99, 111, 110, 115, 116, 32] ++ t.S) ++ [32, 61, 32]) ++ q1) + List.length ([32, 59] : List UInt8) ≤ 9223372036854775807 then
    some (((([99, 111, 110, 115, 116, 32] ++ t.S) ++ [32, 61, 32]) ++ q1) ++ [32, 59])
    else none
    else none
    else none
    else none
  else
  if t.K = 32 then
    if List.length ([118, 97, 114, 32] : List UInt8) + List.length t.S ≤ 9223372036854775807 then
    if List.length ([118, 97, 114, 32] ++ t.S) + List.length ([32, 58, 32] : List UInt8) ≤ 9223372036854775807 then
    idx t.L 0 >>= fun x1 =>
    uD x1 >>= fun q2 =>
    if List.length (([118, 97, 114, 32] ++ t.S) ++ [32, 58, 32]) + List.length q2 ≤ 9223372036854775807 then
    if List.length ((([118, 97, 114, 32] ++ t.S) ++ [32, 58, 32]) ++ q2) + List.length ([32, 59] : List UInt8) ≤ 9223372036854775807 then
    some (((([118, 97, 114, 32] ++ t.S) ++ [32, 58, 32]) ++ q2) ++ [32, 59])
    else none
    else none
    else none
    else none
  else
  if t.K = 30 then
    if List.length ([114, 101, 99, 32] : List UInt8) + List.length t.S ≤ 9223372036854775807 then
    if List.length ([114, 101, 99, 32] ++ t.S) + List.length ([32, 123, 32] : List UInt8) ≤ 9223372036854775807 then
    wA (([114, 101, 99, 32] ++ t.S) ++ [32, 123, 32]) 0 t
    else none
    else none
  else
  if List.length ([102, 110, 32] : List UInt8) + List.length t.S ≤ 9223372036854775807 then
  if List.length ([102, 110, 32] ++ t.S) + List.length ([32, 40] : List UInt8) ≤ 9223372036854775807 then
  if t.N = 1 then
    if List.length ([112, 117, 98, 32] : List UInt8) + List.length (([102, 110, 32] ++ t.S) ++ [32, 40]) ≤ 9223372036854775807 then
    yI ([112, 117, 98, 32] ++ (([102, 110, 32] ++ t.S) ++ [32, 40])) 0 t
    else none
  else
  yI (([102, 110, 32] ++ t.S) ++ [32, 40]) 0 t
  else none
  else none
def z0y (wJ : Str → Int → zF → Option (Str)) (out : Str) (i : Int) (m : zF) : Option (Str) :=
  if i < (List.length m.L : Int) then
    idx m.L i >>= fun x =>
    z6H x >>= fun q1 =>
    if List.length out + List.length q1 ≤ 9223372036854775807 then
    if List.length (out ++ q1) + List.length ([10] : List UInt8) ≤ 9223372036854775807 then
    wJ ((out ++ q1) ++ [10]) (IntKind.wrap .i64 (i + 1)) m
    else none
    else none
  else
  some (out)
inductive z3b where
  | wJ (out : Str) (i : Int) (m : zF)
@[reducible] def z4A : z3b → Type
  | .wJ _ _ _ => Str
def z2X (g : Fam z4A) : Fam z4A
  | .wJ out i m => z0y (fun out i m => g (z3b.wJ out i m)) out i m
theorem z7n : ∀ i, Good (fun g => z2X g i)
  | .wJ out i m => by unfold z2X z0y; exact (.ite (.bind (.const _) fun _ => (.bind (.const _) fun _ => (.ite (.ite (.call _) (.const _)) (.const _)))) (.const _))
def wJ (out : Str) (i : Int) (m : zF) : Option (Str) := gV z2X (.wJ out i m)
theorem z6M (out : Str) (i : Int) (m : zF) : wJ out i m = z0y wJ out i m := yX z7n (.wJ out i m)
def z6L (m : zF) : Option (Str) :=
  wJ [] 0 m
def z2y (text : Str) : Option (Bool) :=
  if (List.length text : Int) > 2000 then
    z2N >>= fun q1 =>
    some (q1)
  else
  z4M text >>= fun q2 =>
  if q2.2.2 = 0 then
    z6U q2.1 >>= fun q4 =>
    z6L q2.1 >>= fun q5 =>
    if q4 = q5 then
      z2N >>= fun q6 =>
      some (q6)
    else
    some (false)
  else
  z2N >>= fun q3 =>
  some (q3)
end
end Go.Proofs.Ythbhgdooeeapjaa.M

