import Derived.Test.YthbhgdooeeapjaaTy
namespace Go.Proofs.Ythbhgdooeeapjaa.M
open Go Nt
set_option linter.unusedVariables false
noncomputable section
def jL (yK : Int → Int → Int → (List Int) → Option (Str)) (n i u : Int) (b : List Int) : Option (Str) :=
  if 10 ≠ (0 : Int) then
  if 20 = List.length b ∧ (0 : Int) ≤ (IntKind.wrap .i64 (i - 1)) ∧ (IntKind.wrap .i64 (i - 1)) < (List.length b : Int) then
  if Int.toNat (IntKind.wrap .i64 (i - 1)) < List.length b then
  if 10 ≠ (0 : Int) then
  if IntKind.wrap .u64 (Int.tdiv u 10) = 0 then
    if n < 0 then
      if 20 = List.length (b.set (IntKind.wrap .i64 (i - 1)).toNat (IntKind.wrap .u8 (IntKind.wrap .u64 (48 + (Int.tmod u 10))))) ∧ (0 : Int) ≤ (IntKind.wrap .i64 ((IntKind.wrap .i64 (i - 1)) - 1)) ∧ (IntKind.wrap .i64 ((IntKind.wrap .i64 (i - 1)) - 1)) < (List.length (b.set (IntKind.wrap .i64 (i - 1)).toNat (IntKind.wrap .u8 (IntKind.wrap .u64 (48 + (Int.tmod u 10))))) : Int) then
      if Int.toNat (IntKind.wrap .i64 ((IntKind.wrap .i64 (i - 1)) - 1)) < List.length (b.set (IntKind.wrap .i64 (i - 1)).toNat (IntKind.wrap .u8 (IntKind.wrap .u64 (48 + (Int.tmod u 10))))) then
      if 20 = List.length ((b.set (IntKind.wrap .i64 (i - 1)).toNat (IntKind.wrap .u8 (IntKind.wrap .u64 (48 + (Int.tmod u 10))))).set (IntKind.wrap .i64 ((IntKind.wrap .i64 (i - 1)) - 1)).toNat 45) then
      if (0 : Int) ≤ (IntKind.wrap .i64 ((IntKind.wrap .i64 (i - 1)) - 1)) then
      if Int.toNat (IntKind.wrap .i64 ((IntKind.wrap .i64 (i - 1)) - 1)) ≤ List.length ((b.set (IntKind.wrap .i64 (i - 1)).toNat (IntKind.wrap .u8 (IntKind.wrap .u64 (48 + (Int.tmod u 10))))).set (IntKind.wrap .i64 ((IntKind.wrap .i64 (i - 1)) - 1)).toNat 45) then
      z0H (List.drop (Int.toNat (IntKind.wrap .i64 ((IntKind.wrap .i64 (i - 1)) - 1))) ((b.set (IntKind.wrap .i64 (i - 1)).toNat (IntKind.wrap .u8 (IntKind.wrap .u64 (48 + (Int.tmod u 10))))).set (IntKind.wrap .i64 ((IntKind.wrap .i64 (i - 1)) - 1)).toNat 45)) >>= fun s =>
      some (s)
      else none
      else none
      else none
      else none
      else none
    else
    if 20 = List.length (b.set (IntKind.wrap .i64 (i - 1)).toNat (IntKind.wrap .u8 (IntKind.wrap .u64 (48 + (Int.tmod u 10))))) then
    if (0 : Int) ≤ (IntKind.wrap .i64 (i - 1)) then
    if Int.toNat (IntKind.wrap .i64 (i - 1)) ≤ List.length (b.set (IntKind.wrap .i64 (i - 1)).toNat (IntKind.wrap .u8 (IntKind.wrap .u64 (48 + (Int.tmod u 10))))) then
    z0H (List.drop (Int.toNat (IntKind.wrap .i64 (i - 1))) (b.set (IntKind.wrap .i64 (i - 1)).toNat (IntKind.wrap .u8 (IntKind.wrap .u64 (48 + (Int.tmod u 10)))))) >>= fun s1 =>
    some (s1)
    else none
    else none
    else none
  else
  yK n (IntKind.wrap .i64 (i - 1)) (IntKind.wrap .u64 (Int.tdiv u 10)) (b.set (IntKind.wrap .i64 (i - 1)).toNat (IntKind.wrap .u8 (IntKind.wrap .u64 (48 + (Int.tmod u 10)))))
  else none
  else none
  else none
  else none
inductive z0v where
  | yK (n i u : Int) (b : List Int)
@[reducible] def z1C : z0v → Type
  | .yK _ _ _ _ => Str
def z0t (g : Fam z1C) : Fam z1C
  | .yK n i u b => jL (fun n i u b => g (z0v.yK n i u b)) n i u b
theorem z2W : ∀ i, Good (fun g => z0t g i)
  | .yK n i u b => by unfold z0t jL; exact (.ite (.ite (.ite (.ite (.ite (.ite (.ite (.ite (.ite (.ite (.ite (.bind (.const _) fun _ => (.const _)) (.const _)) (.const _)) (.const _)) (.const _)) (.const _)) (.ite (.ite (.ite (.bind (.const _) fun _ => (.const _)) (.const _)) (.const _)) (.const _))) (.call _)) (.const _)) (.const _)) (.const _)) (.const _))
def yK (n i u : Int) (b : List Int) : Option (Str) := z0m z0t (.yK n i u b)
theorem z6u (n i u : Int) (b : List Int) : yK n i u b = jL yK n i u b := vO z2W (.yK n i u b)
def z1t (n : Int) : Option (Str) :=
  if n < 0 then
    yK n 20 (IntKind.wrap .u64 (0 - (IntKind.wrap .u64 n))) [0, 0, 0, 0, 0, 0, 0, 0, 0, 0, 0, 0, 0, 0, 0, 0, 0, 0, 0, 0]
  else
  yK n 20 (IntKind.wrap .u64 n) [0, 0, 0, 0, 0, 0, 0, 0, 0, 0, 0, 0, 0, 0, 0, 0, 0, 0, 0, 0]
def vY (t : zI) (i : Int) : Option (zI) :=
  if i < (List.length t.L : Int) then
    idx t.L i >>= fun x =>
    some (x)
  else
  some ((zI.mk 0 0 [] [] 0 0))
def zE (words out : List Str) : Option (List Str) :=
  if z2r 16 (List.length out + List.length words) then
  some (out ++ words)
  else none
def wN (print_writer_kind : zI → (List Str) → Option (List Str)) (t : zI) (out : List Str) : Option (List Str) :=
  if t.K = 1 then
    zE [[105, 110, 116]] out >>= fun q1 =>
    some (q1)
  else
  if t.K = 2 then
    zE [[98, 111, 111, 108]] out >>= fun q2 =>
    some (q2)
  else
  if t.K = 3 then
    z1t t.N >>= fun q3 =>
    zE [[91], q3, [93]] out >>= fun q4 =>
    vY t 0 >>= fun q5 =>
    print_writer_kind q5 q4 >>= fun q6 =>
    some (q6)
  else
  if t.K = 4 then
    zE [t.S] out >>= fun q7 =>
    some (q7)
  else
  some (out)
inductive I_print_writer_kind where
  | print_writer_kind (t : zI) (out : List Str)
@[reducible] def z0f : I_print_writer_kind → Type
  | .print_writer_kind _ _ => List Str
def jO (g : Fam z0f) : Fam z0f
  | .print_writer_kind t out => wN (fun t out => g (I_print_writer_kind.print_writer_kind t out)) t out
theorem z1w : ∀ i, Good (fun g => jO g i)
  | .print_writer_kind t out => by unfold jO wN; exact (.ite (.bind (.const _) fun _ => (.const _)) (.ite (.bind (.const _) fun _ => (.const _)) (.ite (.bind (.const _) fun _ => (.bind (.const _) fun _ => (.bind (.const _) fun _ => (.bind (.call _) fun _ => (.const _))))) (.ite (.bind (.const _) fun _ => (.const _)) (.const _)))))
def print_writer_kind (t : zI) (out : List Str) : Option (List Str) := z0m jO (.print_writer_kind t out)
theorem z3V (t : zI) (out : List Str) : print_writer_kind t out = wN print_writer_kind t out := vO z1w (.print_writer_kind t out)
def strings_Join (elems : List Str) (sep : Str) : Option (Str) :=
  if List.length elems ≤ 140737488355328 ∧ List.length (z5F elems sep) ≤ 140737488355328 then some (z5F elems sep) else none
def uF (out : List Str) : Option (Str) :=
  strings_Join out [32] >>= fun q1 =>
  some (q1)
def z3L (t : zI) : Option (Str) :=
  print_writer_kind t [] >>= fun q1 =>
  uF q1 >>= fun q2 =>
  some (q2)
def z0o  : Option (Bool) :=
  z3L (zI.mk 1 0 [] [] 0 0) >>= fun q1 =>
  some ((q1 == [105, 110, 116]))
def z2k (op : Int) : Option (Str × Int) :=
  if op = 1 then
    some ([124, 124], 1)
  else
  if op = 2 then
    some ([38, 38], 2)
  else
  if op = 3 then
    some ([61, 61], 3)
  else
  if op = 4 then
    some ([33, 61], 3)
  else
  if op = 5 then
    some ([60], 3)
  else
  if op = 6 then
    some ([60, 61], 3)
  else
  if op = 7 then
    some ([62], 3)
  else
  if op = 8 then
    some ([62, 61], 3)
  else
  if op = 9 then
    some ([43], 4)
  else
  if op = 10 then
    some ([45], 4)
  else
  if op = 11 then
    some ([42], 5)
  else
  if op = 12 then
    some ([47], 5)
  else
  some ([37], 5)
def jQ (t : zI) : Option (Int) :=
  if t.K = 10 then
    z2k t.N >>= fun q1 =>
    some (q1.2)
  else
  if t.K = 11 then
    some (6)
  else
  some (7)
def zO (print_writer_held : zI → Int → (List Str) → Option (List Str)) (print_writer_closed : zI → (List Str) → Option (List Str)) (t : zI) (out : List Str) : Option (List Str) :=
  if t.K = 5 then
    z1t t.N >>= fun q1 =>
    zE [q1] out >>= fun q2 =>
    some (q2)
  else
  if t.K = 6 then
    if t.N = 1 then
      zE [[116, 114, 117, 101]] out >>= fun q3 =>
      some (q3)
    else
    zE [[102, 97, 108, 115, 101]] out >>= fun q4 =>
    some (q4)
  else
  if t.K = 18 then
    zE [[114, 101, 97, 100]] out >>= fun q5 =>
    some (q5)
  else
  if t.K = 19 then
    zE [t.S] out >>= fun q6 =>
    some (q6)
  else
  if t.K = 10 then
    z2k t.N >>= fun q7 =>
    if q7.2 = 3 then
      vY t 0 >>= fun q8 =>
      print_writer_held q8 4 out >>= fun q9 =>
      zE [q7.1] q9 >>= fun q10 =>
      vY t 1 >>= fun q11 =>
      print_writer_held q11 (IntKind.wrap .i64 (q7.2 + 1)) q10 >>= fun q12 =>
      some (q12)
    else
    vY t 0 >>= fun q13 =>
    print_writer_held q13 q7.2 out >>= fun q14 =>
    zE [q7.1] q14 >>= fun q15 =>
    vY t 1 >>= fun q16 =>
    print_writer_held q16 (IntKind.wrap .i64 (q7.2 + 1)) q15 >>= fun q17 =>
    some (q17)
  else
  if t.K = 11 then
    if t.N = 1 then
      zE [[45]] out >>= fun q18 =>
      vY t 0 >>= fun q19 =>
      print_writer_held q19 6 q18 >>= fun q20 =>
      some (q20)
    else
    zE [[33]] out >>= fun q21 =>
    vY t 0 >>= fun q22 =>
    print_writer_held q22 6 q21 >>= fun q23 =>
    some (q23)
  else
  print_writer_closed t out >>= fun q24 =>
  some (q24)
def wM (print_writer_expr : zI → (List Str) → Option (List Str)) (t : zI) (least : Int) (out : List Str) : Option (List Str) :=
  jQ t >>= fun q1 =>
  if q1 ≥ least then
    print_writer_expr t out >>= fun q2 =>
    some (q2)
  else
  zE [[40]] out >>= fun q3 =>
  print_writer_expr t q3 >>= fun q4 =>
  zE [[41]] q4 >>= fun q5 =>
  some (q5)
def zW (print_writer_expr : zI → (List Str) → Option (List Str)) (print_writer_held : zI → Int → (List Str) → Option (List Str)) (print_writer_list_writer_expr : (List zI) → (List Str) → Option (List Str)) (t : zI) (out : List Str) : Option (List Str) :=
  if t.K = 12 then
    vY t 0 >>= fun q1 =>
    print_writer_held q1 7 out >>= fun q2 =>
    zE [[91]] q2 >>= fun q3 =>
    vY t 1 >>= fun q4 =>
    print_writer_expr q4 q3 >>= fun q5 =>
    zE [[93]] q5 >>= fun q6 =>
    some (q6)
  else
  if t.K = 13 then
    vY t 0 >>= fun q7 =>
    print_writer_held q7 7 out >>= fun q8 =>
    zE [[46], t.S] q8 >>= fun q9 =>
    some (q9)
  else
  if t.K = 14 then
    zE [[91]] out >>= fun q10 =>
    print_writer_list_writer_expr t.L q10 >>= fun q11 =>
    zE [[93]] q11 >>= fun q12 =>
    some (q12)
  else
  if t.K = 16 then
    zE [t.S] out >>= fun q13 =>
    zE [[40]] q13 >>= fun q14 =>
    print_writer_list_writer_expr t.L q14 >>= fun q15 =>
    zE [[41]] q15 >>= fun q16 =>
    some (q16)
  else
  if t.K = 17 then
    zE [[64], t.S] out >>= fun q17 =>
    zE [[40]] q17 >>= fun q18 =>
    print_writer_list_writer_expr t.L q18 >>= fun q19 =>
    zE [[41]] q19 >>= fun q20 =>
    some (q20)
  else
  if t.K = 15 then
    zE [[110, 101, 119], t.S] out >>= fun q21 =>
    zE [[40]] q21 >>= fun q22 =>
    print_writer_list_writer_expr t.L q22 >>= fun q23 =>
    zE [[41]] q23 >>= fun q24 =>
    some (q24)
  else
  some (out)
def yJ (print_writer_list_writer_expr_L1 : (List zI) → Int → Int → (List Str) → Option (List Str)) (l : List zI) (out : List Str) : Option (List Str) :=
  print_writer_list_writer_expr_L1 l (List.length l : Int) 0 out
def yB (print_writer_expr : zI → (List Str) → Option (List Str)) (print_writer_list_writer_expr_L1 : (List zI) → Int → Int → (List Str) → Option (List Str)) (v8 : List zI) (v9 v10 : Int) (out : List Str) : Option (List Str) :=
  if v10 < v9 then
    idx v8 v10 >>= fun x =>
    if v10 > 0 then
      zE [[44]] out >>= fun q1 =>
      print_writer_expr x q1 >>= fun q2 =>
      print_writer_list_writer_expr_L1 v8 v9 (IntKind.wrap .i64 (v10 + 1)) q2
    else
    print_writer_expr x out >>= fun q3 =>
    print_writer_list_writer_expr_L1 v8 v9 (IntKind.wrap .i64 (v10 + 1)) q3
  else
  some (out)
inductive I_print_writer_expr where
  | print_writer_expr (t : zI) (out : List Str)
  | print_writer_held (t : zI) (least : Int) (out : List Str)
  | print_writer_closed (t : zI) (out : List Str)
  | print_writer_list_writer_expr (l : List zI) (out : List Str)
  | print_writer_list_writer_expr_L1 (v8 : List zI) (v9 v10 : Int) (out : List Str)
@[reducible] def z0e : I_print_writer_expr → Type
  | .print_writer_expr _ _ => List Str
  | .print_writer_held _ _ _ => List Str
  | .print_writer_closed _ _ => List Str
  | .print_writer_list_writer_expr _ _ => List Str
  | .print_writer_list_writer_expr_L1 _ _ _ _ => List Str
def yN (g : Fam z0e) : Fam z0e
  | .print_writer_expr t out => zO (fun t least out => g (I_print_writer_expr.print_writer_held t least out)) (fun t out => g (I_print_writer_expr.print_writer_closed t out)) t out
  | .print_writer_held t least out => wM (fun t out => g (I_print_writer_expr.print_writer_expr t out)) t least out
  | .print_writer_closed t out => zW (fun t out => g (I_print_writer_expr.print_writer_expr t out)) (fun t least out => g (I_print_writer_expr.print_writer_held t least out)) (fun l out => g (I_print_writer_expr.print_writer_list_writer_expr l out)) t out
  | .print_writer_list_writer_expr l out => yJ (fun v8 v9 v10 out => g (I_print_writer_expr.print_writer_list_writer_expr_L1 v8 v9 v10 out)) l out
  | .print_writer_list_writer_expr_L1 v8 v9 v10 out => yB (fun t out => g (I_print_writer_expr.print_writer_expr t out)) (fun v8 v9 v10 out => g (I_print_writer_expr.print_writer_list_writer_expr_L1 v8 v9 v10 out)) v8 v9 v10 out
theorem wK : ∀ i, Good (fun g => yN g i)
  | .print_writer_expr t out => by unfold yN zO; exact (.ite (.bind (.const _) fun _ => (.bind (.const _) fun _ => (.const _))) (.ite (.ite (.bind (.const _) fun _ => (.const _)) (.bind (.const _) fun _ => (.const _))) (.ite (.bind (.const _) fun _ => (.const _)) (.ite (.bind (.const _) fun _ => (.const _)) (.ite (.bind (.const _) fun _ => (.ite (.bind (.const _) fun _ => (.bind (.call _) fun _ => (.bind (.const _) fun _ => (.bind (.const _) fun _ => (.bind (.call _) fun _ => (.const _)))))) (.bind (.const _) fun _ => (.bind (.call _) fun _ => (.bind (.const _) fun _ => (.bind (.const _) fun _ => (.bind (.call _) fun _ => (.const _)))))))) (.ite (.ite (.bind (.const _) fun _ => (.bind (.const _) fun _ => (.bind (.call _) fun _ => (.const _)))) (.bind (.const _) fun _ => (.bind (.const _) fun _ => (.bind (.call _) fun _ => (.const _))))) (.bind (.call _) fun _ => (.const _))))))))
  | .print_writer_held t least out => by unfold yN wM; exact (.bind (.const _) fun _ => (.ite (.bind (.call _) fun _ => (.const _)) (.bind (.const _) fun _ => (.bind (.call _) fun _ => (.bind (.const _) fun _ => (.const _))))))
  | .print_writer_closed t out => by unfold yN zW; exact (.ite (.bind (.const _) fun _ => (.bind (.call _) fun _ => (.bind (.const _) fun _ => (.bind (.const _) fun _ => (.bind (.call _) fun _ => (.bind (.const _) fun _ => (.const _))))))) (.ite (.bind (.const _) fun _ => (.bind (.call _) fun _ => (.bind (.const _) fun _ => (.const _)))) (.ite (.bind (.const _) fun _ => (.bind (.call _) fun _ => (.bind (.const _) fun _ => (.const _)))) (.ite (.bind (.const _) fun _ => (.bind (.const _) fun _ => (.bind (.call _) fun _ => (.bind (.const _) fun _ => (.const _))))) (.ite (.bind (.const _) fun _ => (.bind (.const _) fun _ => (.bind (.call _) fun _ => (.bind (.const _) fun _ => (.const _))))) (.ite (.bind (.const _) fun _ => (.bind (.const _) fun _ => (.bind (.call _) fun _ => (.bind (.const _) fun _ => (.const _))))) (.const _)))))))
  | .print_writer_list_writer_expr l out => by unfold yN yJ; exact (.call _)
  | .print_writer_list_writer_expr_L1 v8 v9 v10 out => by unfold yN yB; exact (.ite (.bind (.const _) fun _ => (.ite (.bind (.const _) fun _ => (.bind (.call _) fun _ => (.call _))) (.bind (.call _) fun _ => (.call _)))) (.const _))
def print_writer_expr (t : zI) (out : List Str) : Option (List Str) := z0m yN (.print_writer_expr t out)
def print_writer_held (t : zI) (least : Int) (out : List Str) : Option (List Str) := z0m yN (.print_writer_held t least out)
def print_writer_closed (t : zI) (out : List Str) : Option (List Str) := z0m yN (.print_writer_closed t out)
def print_writer_list_writer_expr (l : List zI) (out : List Str) : Option (List Str) := z0m yN (.print_writer_list_writer_expr l out)
def print_writer_list_writer_expr_L1 (v8 : List zI) (v9 v10 : Int) (out : List Str) : Option (List Str) := z0m yN (.print_writer_list_writer_expr_L1 v8 v9 v10 out)
theorem yE (t : zI) (out : List Str) : print_writer_expr t out = zO print_writer_held print_writer_closed t out := vO wK (.print_writer_expr t out)
theorem z3U (t : zI) (least : Int) (out : List Str) : print_writer_held t least out = wM print_writer_expr t least out := vO wK (.print_writer_held t least out)
theorem vF (t : zI) (out : List Str) : print_writer_closed t out = zW print_writer_expr print_writer_held print_writer_list_writer_expr t out := vO wK (.print_writer_closed t out)
theorem jD (l : List zI) (out : List Str) : print_writer_list_writer_expr l out = yJ print_writer_list_writer_expr_L1 l out := vO wK (.print_writer_list_writer_expr l out)
theorem uH (v8 : List zI) (v9 v10 : Int) (out : List Str) : print_writer_list_writer_expr_L1 v8 v9 v10 out = yB print_writer_expr print_writer_list_writer_expr_L1 v8 v9 v10 out := vO wK (.print_writer_list_writer_expr_L1 v8 v9 v10 out)
def z1u (t : zI) : Option (Str) :=
  print_writer_expr t [] >>= fun q1 =>
  uF q1 >>= fun q2 =>
  some (q2)
def z0M (text : Str) (at_ : Int) (s : Str) : Option (Bool) :=
  if (List.length s : Int) ≤ (IntKind.wrap .i64 ((List.length text : Int) - at_)) then
    if (0 : Int) ≤ (IntKind.wrap .i64 (at_ + (List.length s : Int))) then
    if Int.toNat (IntKind.wrap .i64 (at_ + (List.length s : Int))) ≤ List.length text then
    if (0 : Int) ≤ at_ then
    if Int.toNat at_ ≤ Int.toNat (IntKind.wrap .i64 (at_ + (List.length s : Int))) then
    some (((List.drop (Int.toNat at_) (List.take (Int.toNat (IntKind.wrap .i64 (at_ + (List.length s : Int)))) text)) == s))
    else none
    else none
    else none
    else none
  else
  some (false)
def z2l (c : Int) : Option (Bool) :=
  if c = 32 then
    some (true)
  else
  if c = 9 then
    some (true)
  else
  if c = 10 then
    some (true)
  else
  some ((c == 13))
def uV (zS : Str → Int → Option (Int)) (yO : Str → Int → Option (Int)) (text : Str) (at_ : Int) : Option (Int) :=
  if at_ < (List.length text : Int) then
    idx text at_ >>= fun c =>
    z2l (Int.ofNat (UInt8.toNat c)) >>= fun q1 =>
    if q1 = true then
      zS text (IntKind.wrap .i64 (at_ + 1))
    else
    z0M text at_ [47, 47] >>= fun q2 =>
    if q2 = true then
      yO text at_
    else
    some (at_)
  else
  some (at_)
def uW (zS : Str → Int → Option (Int)) (yO : Str → Int → Option (Int)) (text : Str) (at_ : Int) : Option (Int) :=
  if at_ < (List.length text : Int) then
    idx text at_ >>= fun c =>
    if Int.ofNat (UInt8.toNat c) = 10 then
      zS text at_
    else
    yO text (IntKind.wrap .i64 (at_ + 1))
  else
  zS text at_
inductive wE where
  | zS (text : Str) (at_ : Int)
  | yO (text : Str) (at_ : Int)
@[reducible] def z2a : wE → Type
  | .zS _ _ => Int
  | .yO _ _ => Int
def jT (g : Fam z2a) : Fam z2a
  | .zS text at_ => uV (fun text at_ => g (wE.zS text at_)) (fun text at_ => g (wE.yO text at_)) text at_
  | .yO text at_ => uW (fun text at_ => g (wE.zS text at_)) (fun text at_ => g (wE.yO text at_)) text at_
theorem z1Y : ∀ i, Good (fun g => jT g i)
  | .zS text at_ => by unfold jT uV; exact (.ite (.bind (.const _) fun _ => (.bind (.const _) fun _ => (.ite (.call _) (.bind (.const _) fun _ => (.ite (.call _) (.const _)))))) (.const _))
  | .yO text at_ => by unfold jT uW; exact (.ite (.bind (.const _) fun _ => (.ite (.call _) (.call _))) (.call _))
def zS (text : Str) (at_ : Int) : Option (Int) := z0m jT (.zS text at_)
def yO (text : Str) (at_ : Int) : Option (Int) := z0m jT (.yO text at_)
theorem z3x (text : Str) (at_ : Int) : zS text at_ = uV zS yO text at_ := vO z1Y (.zS text at_)
theorem z3y (text : Str) (at_ : Int) : yO text at_ = uW zS yO text at_ := vO z1Y (.yO text at_)
def z2m (text : Str) (at_ : Int) : Option (Int) :=
  zS text at_
def z0N (c : Int) : Option (Bool) :=
  if (48 : Int) ≤ c then
    some (decide (c ≤ 57))
  else
  some (false)
def z0O (c : Int) : Option (Bool) :=
  if (97 : Int) ≤ c then
    if c ≤ 122 then
      some (true)
    else
    if (65 : Int) ≤ c then
      if c ≤ 90 then
        some (true)
      else
      some ((c == 95))
    else
    some ((c == 95))
  else
  if (65 : Int) ≤ c then
    if c ≤ 90 then
      some (true)
    else
    some ((c == 95))
  else
  some ((c == 95))
def wV (zU : Str → Int → Int → Option (Int × Bool)) (s : Str) (v i : Int) : Option (Int × Bool) :=
  if i < (List.length s : Int) then
    idx s i >>= fun c =>
    if 10 ≠ (0 : Int) then
    if v > (IntKind.wrap .i64 (Int.tdiv (IntKind.wrap .i64 (9223372036854775807 - (IntKind.wrap .i64 (IntKind.wrap .u8 ((Int.ofNat (UInt8.toNat c)) - 48))))) 10)) then
      some (0, false)
    else
    zU s (IntKind.wrap .i64 ((IntKind.wrap .i64 (v * 10)) + (IntKind.wrap .i64 (IntKind.wrap .u8 ((Int.ofNat (UInt8.toNat c)) - 48))))) (IntKind.wrap .i64 (i + 1))
    else none
  else
  some (v, true)
inductive z0b where
  | zU (s : Str) (v i : Int)
@[reducible] def z1e : z0b → Type
  | .zU _ _ _ => Int × Bool
def gZ (g : Fam z1e) : Fam z1e
  | .zU s v i => wV (fun s v i => g (z0b.zU s v i)) s v i
theorem z2L : ∀ i, Good (fun g => gZ g i)
  | .zU s v i => by unfold gZ wV; exact (.ite (.bind (.const _) fun _ => (.ite (.ite (.const _) (.call _)) (.const _))) (.const _))
def zU (s : Str) (v i : Int) : Option (Int × Bool) := z0m gZ (.zU s v i)
theorem z2n (s : Str) (v i : Int) : zU s v i = wV zU s v i := vO z2L (.zU s v i)
def z0i (s : Str) : Option (Int × Bool) :=
  if (List.length s : Int) = 0 then
    some (0, false)
  else
  if (List.length s : Int) > 1 then
    idx s 0 >>= fun c =>
    if Int.ofNat (UInt8.toNat c) = 48 then
      some (0, false)
    else
    zU s 0 0
  else
  zU s 0 0
def uX (yZ : Str → Int → Int → zC → Option (zC × Int)) (text : Str) (at_ to_ : Int) (o4 : zC) : Option (zC × Int) :=
  if to_ < (List.length text : Int) then
    idx text to_ >>= fun c =>
    z0N (Int.ofNat (UInt8.toNat c)) >>= fun q1 =>
    if q1 = true then
      yZ text at_ (IntKind.wrap .i64 (to_ + 1)) o4
    else
    if (0 : Int) ≤ to_ then
    if Int.toNat to_ ≤ List.length text then
    if (0 : Int) ≤ at_ then
    if Int.toNat at_ ≤ Int.toNat to_ then
    z0i (List.drop (Int.toNat at_) (List.take (Int.toNat to_) text)) >>= fun q2 =>
    if q2.2 = true then
      some ((zC.mk 2 q2.1 [] at_ to_), 0)
    else
    some ((zC.mk 0 0 [] 0 0), 5)
    else none
    else none
    else none
    else none
  else
  if (0 : Int) ≤ to_ then
  if Int.toNat to_ ≤ List.length text then
  if (0 : Int) ≤ at_ then
  if Int.toNat at_ ≤ Int.toNat to_ then
  z0i (List.drop (Int.toNat at_) (List.take (Int.toNat to_) text)) >>= fun q3 =>
  if q3.2 = true then
    some ((zC.mk 2 q3.1 [] at_ to_), 0)
  else
  some ((zC.mk 0 0 [] 0 0), 5)
  else none
  else none
  else none
  else none
inductive z0W where
  | yZ (text : Str) (at_ to_ : Int) (o4 : zC)
@[reducible] def z2b : z0W → Type
  | .yZ _ _ _ _ => zC × Int
def z0U (g : Fam z2b) : Fam z2b
  | .yZ text at_ to_ o4 => uX (fun text at_ to_ o4 => g (z0W.yZ text at_ to_ o4)) text at_ to_ o4
theorem z3W : ∀ i, Good (fun g => z0U g i)
  | .yZ text at_ to_ o4 => by unfold z0U uX; exact (.ite (.bind (.const _) fun _ => (.bind (.const _) fun _ => (.ite (.call _) (.ite (.ite (.ite (.ite (.bind (.const _) fun _ => (.ite (.const _) (.const _))) (.const _)) (.const _)) (.const _)) (.const _))))) (.ite (.ite (.ite (.ite (.bind (.const _) fun _ => (.ite (.const _) (.const _))) (.const _)) (.const _)) (.const _)) (.const _)))
def yZ (text : Str) (at_ to_ : Int) (o4 : zC) : Option (zC × Int) := z0m z0U (.yZ text at_ to_ o4)
theorem z3z (text : Str) (at_ to_ : Int) (o4 : zC) : yZ text at_ to_ o4 = uX yZ text at_ to_ o4 := vO z3W (.yZ text at_ to_ o4)
def uY (vA : Str → Int → (List Str) → Int → zC → Option (zC × Int)) (text : Str) (at_ : Int) (all : List Str) (i : Int) (o4 : zC) : Option (zC × Int) :=
  if i < (List.length all : Int) then
    idx all i >>= fun x =>
    z0M text at_ x >>= fun q1 =>
    if q1 = true then
      idx all i >>= fun x1 =>
      idx all i >>= fun x2 =>
      some ((zC.mk 4 0 x1 at_ (IntKind.wrap .i64 (at_ + (List.length x2 : Int)))), 0)
    else
    vA text at_ all (IntKind.wrap .i64 (i + 1)) o4
  else
  some ((zC.mk 0 0 [] 0 0), 4)
inductive z0X where
  | vA (text : Str) (at_ : Int) (all : List Str) (i : Int) (o4 : zC)
@[reducible] def z2c : z0X → Type
  | .vA _ _ _ _ _ => zC × Int
def z0V (g : Fam z2c) : Fam z2c
  | .vA text at_ all i o4 => uY (fun text at_ all i o4 => g (z0X.vA text at_ all i o4)) text at_ all i o4
theorem z3X : ∀ i, Good (fun g => z0V g i)
  | .vA text at_ all i o4 => by unfold z0V uY; exact (.ite (.bind (.const _) fun _ => (.bind (.const _) fun _ => (.ite (.bind (.const _) fun _ => (.bind (.const _) fun _ => (.const _))) (.call _)))) (.const _))
def vA (text : Str) (at_ : Int) (all : List Str) (i : Int) (o4 : zC) : Option (zC × Int) := z0m z0V (.vA text at_ all i o4)
theorem z3A (text : Str) (at_ : Int) (all : List Str) (i : Int) (o4 : zC) : vA text at_ all i o4 = uY vA text at_ all i o4 := vO z3X (.vA text at_ all i o4)
def uI (yM : Str → (List Str) → Int → Option (Bool)) (s : Str) (all : List Str) (i : Int) : Option (Bool) :=
  if i < (List.length all : Int) then
    idx all i >>= fun x =>
    if x = s then
      some (true)
    else
    yM s all (IntKind.wrap .i64 (i + 1))
  else
  some (false)
inductive z0w where
  | yM (s : Str) (all : List Str) (i : Int)
@[reducible] def z1D : z0w → Type
  | .yM _ _ _ => Bool
def z0u (g : Fam z1D) : Fam z1D
  | .yM s all i => uI (fun s all i => g (z0w.yM s all i)) s all i
theorem z2X : ∀ i, Good (fun g => z0u g i)
  | .yM s all i => by unfold z0u uI; exact (.ite (.bind (.const _) fun _ => (.ite (.const _) (.call _))) (.const _))
def yM (s : Str) (all : List Str) (i : Int) : Option (Bool) := z0m z0u (.yM s all i)
theorem z2Q (s : Str) (all : List Str) (i : Int) : yM s all i = uI yM s all i := vO z2X (.yM s all i)
def z0L (s : Str) (all : List Str) : Option (Bool) :=
  yM s all 0
def z1v  : Option (List Str) :=
  some ([[114, 101, 99], [99, 111, 110, 115, 116], [118, 97, 114], [112, 117, 98], [102, 110], [105, 110, 116], [98, 111, 111, 108], [108, 101, 116], [105, 102], [101, 108, 115, 101], [119, 104, 105, 108, 101], [102, 111, 114], [116, 111], [112, 114, 105, 110, 116], [114, 101, 116, 117, 114, 110], [100, 111], [116, 114, 117, 101], [102, 97, 108, 115, 101], [114, 101, 97, 100], [110, 101, 119]])
def jS (vB : Str → Int → Int → zC → Option (zC × Int)) (text : Str) (at_ to_ : Int) (o4 : zC) : Option (zC × Int) :=
  if to_ < (List.length text : Int) then
    idx text to_ >>= fun c =>
    z0O (Int.ofNat (UInt8.toNat c)) >>= fun q1 =>
    if q1 = true then
      vB text at_ (IntKind.wrap .i64 (to_ + 1)) o4
    else
    idx text to_ >>= fun c1 =>
    z0N (Int.ofNat (UInt8.toNat c1)) >>= fun q2 =>
    if q2 = true then
      vB text at_ (IntKind.wrap .i64 (to_ + 1)) o4
    else
    if (IntKind.wrap .i64 (to_ - at_)) > 16 then
      some ((zC.mk 0 0 [] 0 0), 3)
    else
    if (0 : Int) ≤ to_ then
    if Int.toNat to_ ≤ List.length text then
    if (0 : Int) ≤ at_ then
    if Int.toNat at_ ≤ Int.toNat to_ then
    z1v >>= fun q3 =>
    z0L (List.drop (Int.toNat at_) (List.take (Int.toNat to_) text)) q3 >>= fun q4 =>
    if q4 = true then
      some ((zC.mk 3 0 (List.drop (Int.toNat at_) (List.take (Int.toNat to_) text)) at_ to_), 0)
    else
    some ((zC.mk 1 0 (List.drop (Int.toNat at_) (List.take (Int.toNat to_) text)) at_ to_), 0)
    else none
    else none
    else none
    else none
  else
  if (IntKind.wrap .i64 (to_ - at_)) > 16 then
    some ((zC.mk 0 0 [] 0 0), 3)
  else
  if (0 : Int) ≤ to_ then
  if Int.toNat to_ ≤ List.length text then
  if (0 : Int) ≤ at_ then
  if Int.toNat at_ ≤ Int.toNat to_ then
  z1v >>= fun q5 =>
  z0L (List.drop (Int.toNat at_) (List.take (Int.toNat to_) text)) q5 >>= fun q6 =>
  if q6 = true then
    some ((zC.mk 3 0 (List.drop (Int.toNat at_) (List.take (Int.toNat to_) text)) at_ to_), 0)
  else
  some ((zC.mk 1 0 (List.drop (Int.toNat at_) (List.take (Int.toNat to_) text)) at_ to_), 0)
  else none
  else none
  else none
  else none
inductive z1o where
  | vB (text : Str) (at_ to_ : Int) (o4 : zC)
@[reducible] def z2x : z1o → Type
  | .vB _ _ _ _ => zC × Int
def z1m (g : Fam z2x) : Fam z2x
  | .vB text at_ to_ o4 => jS (fun text at_ to_ o4 => g (z1o.vB text at_ to_ o4)) text at_ to_ o4
theorem z4M : ∀ i, Good (fun g => z1m g i)
  | .vB text at_ to_ o4 => by unfold z1m jS; exact (.ite (.bind (.const _) fun _ => (.bind (.const _) fun _ => (.ite (.call _) (.bind (.const _) fun _ => (.bind (.const _) fun _ => (.ite (.call _) (.ite (.const _) (.ite (.ite (.ite (.ite (.bind (.const _) fun _ => (.bind (.const _) fun _ => (.ite (.const _) (.const _)))) (.const _)) (.const _)) (.const _)) (.const _))))))))) (.ite (.const _) (.ite (.ite (.ite (.ite (.bind (.const _) fun _ => (.bind (.const _) fun _ => (.ite (.const _) (.const _)))) (.const _)) (.const _)) (.const _)) (.const _))))
def vB (text : Str) (at_ to_ : Int) (o4 : zC) : Option (zC × Int) := z0m z1m (.vB text at_ to_ o4)
theorem z4i (text : Str) (at_ to_ : Int) (o4 : zC) : vB text at_ to_ o4 = jS vB text at_ to_ o4 := vO z4M (.vB text at_ to_ o4)
def z3N  : Option (List Str) :=
  some ([[61, 61], [33, 61], [60, 61], [62, 61], [38, 38], [124, 124], [123], [125], [40], [41], [91], [93], [44], [59], [58], [46], [61], [60], [62], [43], [45], [42], [47], [37], [33], [64]])
def z5l (text : Str) (at_ : Int) : Option (zC × Int) :=
  idx text at_ >>= fun c =>
  z0O (Int.ofNat (UInt8.toNat c)) >>= fun q1 =>
  if q1 = true then
    vB text at_ at_ (zC.mk 0 0 [] 0 0)
  else
  z0N (Int.ofNat (UInt8.toNat c)) >>= fun q2 =>
  if q2 = true then
    yZ text at_ at_ (zC.mk 0 0 [] 0 0)
  else
  z3N >>= fun q3 =>
  vA text at_ q3 0 (zC.mk 0 0 [] 0 0)
def uN (yI : Str → (List zC) → Int → Option (List zC × Int × Int)) (text : Str) (out : List zC) (at_ : Int) : Option (List zC × Int × Int) :=
  if at_ < (List.length text : Int) then
    z5l text at_ >>= fun q1 =>
    if q1.2 = 0 then
      if z2r 48 (List.length out + List.length [q1.1]) then
      z2m text q1.1.To >>= fun q2 =>
      yI text (out ++ [q1.1]) q2
      else none
    else
    some (([] : List zC), at_, q1.2)
  else
  if z2r 48 (List.length out + List.length [(zC.mk 5 0 [] (List.length text : Int) (List.length text : Int))]) then
  some (out ++ [(zC.mk 5 0 [] (List.length text : Int) (List.length text : Int))], 0, 0)
  else none
inductive z0c where
  | yI (text : Str) (out : List zC) (at_ : Int)
@[reducible] def z1f : z0c → Type
  | .yI _ _ _ => List zC × Int × Int
def z0a (g : Fam z1f) : Fam z1f
  | .yI text out at_ => uN (fun text out at_ => g (z0c.yI text out at_)) text out at_
theorem z2M : ∀ i, Good (fun g => z0a g i)
  | .yI text out at_ => by unfold z0a uN; exact (.ite (.bind (.const _) fun _ => (.ite (.ite (.bind (.const _) fun _ => (.call _)) (.const _)) (.const _))) (.ite (.const _) (.const _)))
def yI (text : Str) (out : List zC) (at_ : Int) : Option (List zC × Int × Int) := z0m z0a (.yI text out at_)
theorem z5I (text : Str) (out : List zC) (at_ : Int) : yI text out at_ = uN yI text out at_ := vO z2M (.yI text out at_)
def z0P (text : Str) : Option (List zC × Int × Int) :=
  if (List.length text : Int) > 8192 then
    some (([] : List zC), 0, 3)
  else
  z2m text 0 >>= fun q1 =>
  yI text ([] : List zC) q1
def z0Q (yP : Int → zI → zI → Option (Bool)) (a b : zI) : Option (Bool) :=
  if a.K = b.K then
    if a.N = b.N then
      if a.S = b.S then
        if (List.length a.L : Int) = (List.length b.L : Int) then
          yP 0 a b
        else
        some (false)
      else
      some (false)
    else
    some (false)
  else
  some (false)
def uZ (vZ : zI → zI → Option (Bool)) (yP : Int → zI → zI → Option (Bool)) (i : Int) (a b : zI) : Option (Bool) :=
  if i < (List.length a.L : Int) then
    idx a.L i >>= fun x =>
    idx b.L i >>= fun x1 =>
    vZ x x1 >>= fun q1 =>
    if q1 = true then
      yP (IntKind.wrap .i64 (i + 1)) a b
    else
    some (false)
  else
  some (true)
inductive gC where
  | vZ (a b : zI)
  | yP (i : Int) (a b : zI)
@[reducible] def z4m : gC → Type
  | .vZ _ _ => Bool
  | .yP _ _ _ => Bool
def z0D (g : Fam z4m) : Fam z4m
  | .vZ a b => z0Q (fun i a b => g (gC.yP i a b)) a b
  | .yP i a b => uZ (fun a b => g (gC.vZ a b)) (fun i a b => g (gC.yP i a b)) i a b
theorem z4j : ∀ i, Good (fun g => z0D g i)
  | .vZ a b => by unfold z0D z0Q; exact (.ite (.ite (.ite (.ite (.call _) (.const _)) (.const _)) (.const _)) (.const _))
  | .yP i a b => by unfold z0D uZ; exact (.ite (.bind (.const _) fun _ => (.bind (.const _) fun _ => (.bind (.call _) fun _ => (.ite (.call _) (.const _))))) (.const _))
def vZ (a b : zI) : Option (Bool) := z0m z0D (.vZ a b)
def yP (i : Int) (a b : zI) : Option (Bool) := z0m z0D (.yP i a b)
theorem y1d (a b : zI) : vZ a b = z0Q yP a b := vO z4j (.vZ a b)
theorem z3B (i : Int) (a b : zI) : yP i a b = uZ vZ yP i a b := vO z4j (.yP i a b)
def yT (t : List zC) (from_ to_ k n : Int) (s : Str) (parts : List zI) : Option (zH) :=
  idx t from_ >>= fun x =>
  idx t (IntKind.wrap .i64 (to_ - 1)) >>= fun x1 =>
  some ((zH.mk (zI.mk k n s parts x.From x1.To) to_ 0))
def jH (t : List zC) (at_ : Int) : Option (zC) :=
  if at_ < (List.length t : Int) then
    idx t at_ >>= fun x =>
    some (x)
  else
  some ((zC.mk 5 0 [] 0 0))
def vI (t : List zC) (at_ : Int) (s : Str) : Option (Bool) :=
  jH t at_ >>= fun q1 =>
  if q1.K = 4 then
    jH t at_ >>= fun q2 =>
    some ((q2.S == s))
  else
  some (false)
def gJ (vP : (List zC) → Int → (List Str) → (List Int) → Int → Option (Int)) (t : List zC) (at_ : Int) (signs : List Str) (ops : List Int) (i : Int) : Option (Int) :=
  if i < (List.length signs : Int) then
    idx signs i >>= fun x =>
    vI t at_ x >>= fun q1 =>
    if q1 = true then
      idx ops i >>= fun x1 =>
      some (x1)
    else
    vP t at_ signs ops (IntKind.wrap .i64 (i + 1))
  else
  some (0)
inductive z1P where
  | vP (t : List zC) (at_ : Int) (signs : List Str) (ops : List Int) (i : Int)
@[reducible] def z3b : z1P → Type
  | .vP _ _ _ _ _ => Int
def z1O (g : Fam z3b) : Fam z3b
  | .vP t at_ signs ops i => gJ (fun t at_ signs ops i => g (z1P.vP t at_ signs ops i)) t at_ signs ops i
theorem z5R : ∀ i, Good (fun g => z1O g i)
  | .vP t at_ signs ops i => by unfold z1O gJ; exact (.ite (.bind (.const _) fun _ => (.bind (.const _) fun _ => (.ite (.bind (.const _) fun _ => (.const _)) (.call _)))) (.const _))
def vP (t : List zC) (at_ : Int) (signs : List Str) (ops : List Int) (i : Int) : Option (Int) := z0m z1O (.vP t at_ signs ops i)
theorem z5m (t : List zC) (at_ : Int) (signs : List Str) (ops : List Int) (i : Int) : vP t at_ signs ops i = gJ vP t at_ signs ops i := vO z5R (.vP t at_ signs ops i)
def z1W (level : Int) : Option (List Str × List Int) :=
  if level = 1 then
    some ([[124, 124]], [1])
  else
  if level = 2 then
    some ([[38, 38]], [2])
  else
  if level = 3 then
    some ([[61, 61], [33, 61], [60], [60, 61], [62], [62, 61]], [3, 4, 5, 6, 7, 8])
  else
  if level = 4 then
    some ([[43], [45]], [9, 10])
  else
  some ([[42], [47], [37]], [11, 12, 13])
def z7I (t : List zC) (at_ level : Int) : Option (Int) :=
  z1W level >>= fun q1 =>
  vP t at_ q1.1 q1.2 0
def z0Y (at_ : Int) : Option (zH) :=
  some ((zH.mk (zI.mk 0 0 [] [] 0 0) at_ 6))
def gX (t : List zC) (at_ : Int) (s : Str) : Option (Bool) :=
  jH t at_ >>= fun q1 =>
  if q1.K = 3 then
    jH t at_ >>= fun q2 =>
    some ((q2.S == s))
  else
  some (false)
def z0R (zR : (List zC) → Int → Int → Option (zH)) (t : List zC) (at_ : Int) : Option (zH) :=
  zR t at_ 1 >>= fun q1 =>
  some (q1)
def uP (zR : (List zC) → Int → Int → Option (zH)) (zZ : (List zC) → Int → Int → Int → zH → zH → Option (zH)) (wO : (List zC) → Int → Option (zH)) (t : List zC) (at_ level : Int) : Option (zH) :=
  if level = 6 then
    wO t at_ >>= fun q1 =>
    some (q1)
  else
  zR t at_ (IntKind.wrap .i64 (level + 1)) >>= fun q2 =>
  zZ t at_ level 0 (zH.mk (zI.mk 0 0 [] [] 0 0) 0 0) q2
def wF (zR : (List zC) → Int → Int → Option (zH)) (zZ : (List zC) → Int → Int → Int → zH → zH → Option (zH)) (t : List zC) (at_ level times : Int) (o6 left : zH) : Option (zH) :=
  if left.E = 0 then
    z7I t left.At level >>= fun q1 =>
    if q1 = 0 then
      some (left)
    else
    if level = 3 then
      if times = 1 then
        some (left)
      else
      zR t (IntKind.wrap .i64 (left.At + 1)) (IntKind.wrap .i64 (level + 1)) >>= fun q2 =>
      if q2.E = 0 then
        yT t at_ q2.At 10 q1 [] [left.T_, q2.T_] >>= fun q3 =>
        zZ t at_ level (IntKind.wrap .i64 (times + 1)) o6 q3
      else
      some (q2)
    else
    zR t (IntKind.wrap .i64 (left.At + 1)) (IntKind.wrap .i64 (level + 1)) >>= fun q4 =>
    if q4.E = 0 then
      yT t at_ q4.At 10 q1 [] [left.T_, q4.T_] >>= fun q5 =>
      zZ t at_ level (IntKind.wrap .i64 (times + 1)) o6 q5
    else
    some (q4)
  else
  some (left)
def z1d (wO : (List zC) → Int → Option (zH)) (vW : (List zC) → Int → Option (zH)) (t : List zC) (at_ : Int) : Option (zH) :=
  vI t at_ [45] >>= fun q1 =>
  if q1 = true then
    vI t at_ [33] >>= fun q2 =>
    if q2 = true then
      if (2 : Int) = 0 then
        vW t at_ >>= fun q3 =>
        some (q3)
      else
      wO t (IntKind.wrap .i64 (at_ + 1)) >>= fun q4 =>
      if q4.E = 0 then
        yT t at_ q4.At 11 2 [] [q4.T_] >>= fun q5 =>
        some (q5)
      else
      some (q4)
    else
    if (1 : Int) = 0 then
      vW t at_ >>= fun q6 =>
      some (q6)
    else
    wO t (IntKind.wrap .i64 (at_ + 1)) >>= fun q7 =>
    if q7.E = 0 then
      yT t at_ q7.At 11 1 [] [q7.T_] >>= fun q8 =>
      some (q8)
    else
    some (q7)
  else
  vI t at_ [33] >>= fun q9 =>
  if q9 = true then
    if (2 : Int) = 0 then
      vW t at_ >>= fun q10 =>
      some (q10)
    else
    wO t (IntKind.wrap .i64 (at_ + 1)) >>= fun q11 =>
    if q11.E = 0 then
      yT t at_ q11.At 11 2 [] [q11.T_] >>= fun q12 =>
      some (q12)
    else
    some (q11)
  else
  if (0 : Int) = 0 then
    vW t at_ >>= fun q13 =>
    some (q13)
  else
  wO t (IntKind.wrap .i64 (at_ + 1)) >>= fun q14 =>
  if q14.E = 0 then
    yT t at_ q14.At 11 0 [] [q14.T_] >>= fun q15 =>
    some (q15)
  else
  some (q14)
def z0j (yG : (List zC) → Int → zH → zH → Option (zH)) (yS : (List zC) → Int → Option (zH)) (t : List zC) (at_ : Int) : Option (zH) :=
  yS t at_ >>= fun q1 =>
  yG t at_ (zH.mk (zI.mk 0 0 [] [] 0 0) 0 0) q1
def vU (zQ : (List zC) → Int → Option (zH)) (yG : (List zC) → Int → zH → zH → Option (zH)) (t : List zC) (at_ : Int) (o4 x : zH) : Option (zH) :=
  if x.E = 0 then
    vI t x.At [91] >>= fun q1 =>
    if q1 = true then
      zQ t (IntKind.wrap .i64 (x.At + 1)) >>= fun q2 =>
      if q2.E = 0 then
        vI t q2.At [93] >>= fun q3 =>
        if q3 = true then
          yT t at_ (IntKind.wrap .i64 (q2.At + 1)) 12 0 [] [x.T_, q2.T_] >>= fun q5 =>
          yG t at_ o4 q5
        else
        z0Y q2.At >>= fun q4 =>
        some (q4)
      else
      some (q2)
    else
    vI t x.At [46] >>= fun q6 =>
    if q6 = true then
      jH t (IntKind.wrap .i64 (x.At + 1)) >>= fun q7 =>
      if q7.K = 1 then
        yT t at_ (IntKind.wrap .i64 (x.At + 2)) 13 0 q7.S [x.T_] >>= fun q9 =>
        yG t at_ o4 q9
      else
      z0Y (IntKind.wrap .i64 (x.At + 1)) >>= fun q8 =>
      some (q8)
    else
    some (x)
  else
  some (x)
def gI (zQ : (List zC) → Int → Option (zH)) (yX : (List zC) → Int → Option (zH)) (t : List zC) (at_ : Int) : Option (zH) :=
  jH t at_ >>= fun q1 =>
  if q1.K = 2 then
    yT t at_ (IntKind.wrap .i64 (at_ + 1)) 5 q1.N [] ([] : List zI) >>= fun q2 =>
    some (q2)
  else
  gX t at_ [116, 114, 117, 101] >>= fun q3 =>
  if q3 = true then
    yT t at_ (IntKind.wrap .i64 (at_ + 1)) 6 1 [] ([] : List zI) >>= fun q4 =>
    some (q4)
  else
  gX t at_ [102, 97, 108, 115, 101] >>= fun q5 =>
  if q5 = true then
    yT t at_ (IntKind.wrap .i64 (at_ + 1)) 6 0 [] ([] : List zI) >>= fun q6 =>
    some (q6)
  else
  gX t at_ [114, 101, 97, 100] >>= fun q7 =>
  if q7 = true then
    yT t at_ (IntKind.wrap .i64 (at_ + 1)) 18 0 [] ([] : List zI) >>= fun q8 =>
    some (q8)
  else
  if q1.K = 1 then
    vI t (IntKind.wrap .i64 (at_ + 1)) [40] >>= fun q9 =>
    if q9 = true then
      vI t at_ [40] >>= fun q11 =>
      if q11 = true then
        zQ t (IntKind.wrap .i64 (at_ + 1)) >>= fun q12 =>
        if q12.E = 0 then
          vI t q12.At [41] >>= fun q13 =>
          if q13 = true then
            some ({ q12 with At := IntKind.wrap .i64 (q12.At + 1) })
          else
          z0Y q12.At >>= fun q14 =>
          some (q14)
        else
        some (q12)
      else
      yX t at_ >>= fun q15 =>
      some (q15)
    else
    yT t at_ (IntKind.wrap .i64 (at_ + 1)) 19 0 q1.S ([] : List zI) >>= fun q10 =>
    some (q10)
  else
  vI t at_ [40] >>= fun q16 =>
  if q16 = true then
    zQ t (IntKind.wrap .i64 (at_ + 1)) >>= fun q17 =>
    if q17.E = 0 then
      vI t q17.At [41] >>= fun q18 =>
      if q18 = true then
        some ({ q17 with At := IntKind.wrap .i64 (q17.At + 1) })
      else
      z0Y q17.At >>= fun q19 =>
      some (q19)
    else
    some (q17)
  else
  yX t at_ >>= fun q20 =>
  some (q20)
def wA (yC : (List zC) → Int → Bool → Str → Str → Option (List zI × Int × Int)) (t : List zC) (at_ : Int) : Option (zH) :=
  jH t at_ >>= fun q1 =>
  if q1.K = 1 then
    jH t at_ >>= fun q2 =>
    yC t (IntKind.wrap .i64 (at_ + 1)) true [40] [41] >>= fun q3 =>
    if q3.2.2 = 0 then
      yT t at_ q3.2.1 16 0 q2.S q3.1 >>= fun q4 =>
      some (q4)
    else
    some ((zH.mk (zI.mk 0 0 [] [] 0 0) q3.2.1 q3.2.2))
  else
  vI t at_ [91] >>= fun q5 =>
  if q5 = true then
    yC t at_ false [91] [93] >>= fun q6 =>
    if q6.2.2 = 0 then
      yT t at_ q6.2.1 14 0 [] q6.1 >>= fun q7 =>
      some (q7)
    else
    some ((zH.mk (zI.mk 0 0 [] [] 0 0) q6.2.1 q6.2.2))
  else
  vI t at_ [64] >>= fun q8 =>
  if q8 = true then
    jH t (IntKind.wrap .i64 (at_ + 1)) >>= fun q9 =>
    if q9.K = 1 then
      jH t (IntKind.wrap .i64 (at_ + 1)) >>= fun q11 =>
      gX t at_ [110, 101, 119] >>= fun q12 =>
      if q12 = true then
        yC t (IntKind.wrap .i64 (at_ + 2)) false [40] [41] >>= fun q13 =>
        if q13.2.2 = 0 then
          yT t at_ q13.2.1 15 0 q11.S q13.1 >>= fun q14 =>
          some (q14)
        else
        some ((zH.mk (zI.mk 0 0 [] [] 0 0) q13.2.1 q13.2.2))
      else
      yC t (IntKind.wrap .i64 (at_ + 2)) true [40] [41] >>= fun q15 =>
      if q15.2.2 = 0 then
        yT t at_ q15.2.1 17 0 q11.S q15.1 >>= fun q16 =>
        some (q16)
      else
      some ((zH.mk (zI.mk 0 0 [] [] 0 0) q15.2.1 q15.2.2))
    else
    z0Y (IntKind.wrap .i64 (at_ + 1)) >>= fun q10 =>
    some (q10)
  else
  gX t at_ [110, 101, 119] >>= fun q17 =>
  if q17 = true then
    jH t (IntKind.wrap .i64 (at_ + 1)) >>= fun q18 =>
    if q18.K = 1 then
      jH t (IntKind.wrap .i64 (at_ + 1)) >>= fun q20 =>
      gX t at_ [110, 101, 119] >>= fun q21 =>
      if q21 = true then
        yC t (IntKind.wrap .i64 (at_ + 2)) false [40] [41] >>= fun q22 =>
        if q22.2.2 = 0 then
          yT t at_ q22.2.1 15 0 q20.S q22.1 >>= fun q23 =>
          some (q23)
        else
        some ((zH.mk (zI.mk 0 0 [] [] 0 0) q22.2.1 q22.2.2))
      else
      yC t (IntKind.wrap .i64 (at_ + 2)) true [40] [41] >>= fun q24 =>
      if q24.2.2 = 0 then
        yT t at_ q24.2.1 17 0 q20.S q24.1 >>= fun q25 =>
        some (q25)
      else
      some ((zH.mk (zI.mk 0 0 [] [] 0 0) q24.2.1 q24.2.2))
    else
    z0Y (IntKind.wrap .i64 (at_ + 1)) >>= fun q19 =>
    some (q19)
  else
  z0Y at_ >>= fun q26 =>
  some (q26)
def uO (wJ : (List zC) → Int → Option (List zI × Int × Int)) (t : List zC) (open_ : Int) (few : Bool) (first last : Str) : Option (List zI × Int × Int) :=
  vI t open_ first >>= fun q1 =>
  if q1 = true then
    if few = true then
      vI t (IntKind.wrap .i64 (open_ + 1)) last >>= fun q2 =>
      if q2 = true then
        some (([] : List zI), IntKind.wrap .i64 (open_ + 2), 0)
      else
      wJ t (IntKind.wrap .i64 (open_ + 1)) >>= fun q3 =>
      if q3.2.2 = 0 then
        vI t q3.2.1 last >>= fun q4 =>
        if q4 = true then
          some (q3.1, IntKind.wrap .i64 (q3.2.1 + 1), 0)
        else
        some (q3.1, q3.2.1, 6)
      else
      some (q3.1, q3.2.1, q3.2.2)
    else
    wJ t (IntKind.wrap .i64 (open_ + 1)) >>= fun q5 =>
    if q5.2.2 = 0 then
      vI t q5.2.1 last >>= fun q6 =>
      if q6 = true then
        some (q5.1, IntKind.wrap .i64 (q5.2.1 + 1), 0)
      else
      some (q5.1, q5.2.1, 6)
    else
    some (q5.1, q5.2.1, q5.2.2)
  else
  some (([] : List zI), open_, 6)
def z1M (yF : (List zC) → Int → (List zI) → Option (List zI × Int × Int)) (t : List zC) (at_ : Int) : Option (List zI × Int × Int) :=
  yF t at_ ([] : List zI)
def uE (zQ : (List zC) → Int → Option (zH)) (yF : (List zC) → Int → (List zI) → Option (List zI × Int × Int)) (t : List zC) (at_ : Int) (out : List zI) : Option (List zI × Int × Int) :=
  zQ t at_ >>= fun q1 =>
  if q1.E = 0 then
    if z2r 72 (List.length out + List.length [q1.T_]) then
    vI t q1.At [44] >>= fun q2 =>
    if q2 = true then
      yF t (IntKind.wrap .i64 (q1.At + 1)) (out ++ [q1.T_])
    else
    some (out ++ [q1.T_], q1.At, 0)
    else none
  else
  some (out, q1.At, q1.E)
inductive zJ where
  | zQ (t : List zC) (at_ : Int)
  | zR (t : List zC) (at_ level : Int)
  | zZ (t : List zC) (at_ level times : Int) (o6 left : zH)
  | wO (t : List zC) (at_ : Int)
  | vW (t : List zC) (at_ : Int)
  | yG (t : List zC) (at_ : Int) (o4 x : zH)
  | yS (t : List zC) (at_ : Int)
  | yX (t : List zC) (at_ : Int)
  | yC (t : List zC) (open_ : Int) (few : Bool) (first last : Str)
  | wJ (t : List zC) (at_ : Int)
  | yF (t : List zC) (at_ : Int) (out : List zI)
@[reducible] def z4n : zJ → Type
  | .zQ _ _ => zH
  | .zR _ _ _ => zH
  | .zZ _ _ _ _ _ _ => zH
  | .wO _ _ => zH
  | .vW _ _ => zH
  | .yG _ _ _ _ => zH
  | .yS _ _ => zH
  | .yX _ _ => zH
  | .yC _ _ _ _ _ => List zI × Int × Int
  | .wJ _ _ => List zI × Int × Int
  | .yF _ _ _ => List zI × Int × Int
def yU (g : Fam z4n) : Fam z4n
  | .zQ t at_ => z0R (fun t at_ level => g (zJ.zR t at_ level)) t at_
  | .zR t at_ level => uP (fun t at_ level => g (zJ.zR t at_ level)) (fun t at_ level times o6 left => g (zJ.zZ t at_ level times o6 left)) (fun t at_ => g (zJ.wO t at_)) t at_ level
  | .zZ t at_ level times o6 left => wF (fun t at_ level => g (zJ.zR t at_ level)) (fun t at_ level times o6 left => g (zJ.zZ t at_ level times o6 left)) t at_ level times o6 left
  | .wO t at_ => z1d (fun t at_ => g (zJ.wO t at_)) (fun t at_ => g (zJ.vW t at_)) t at_
  | .vW t at_ => z0j (fun t at_ o4 x => g (zJ.yG t at_ o4 x)) (fun t at_ => g (zJ.yS t at_)) t at_
  | .yG t at_ o4 x => vU (fun t at_ => g (zJ.zQ t at_)) (fun t at_ o4 x => g (zJ.yG t at_ o4 x)) t at_ o4 x
  | .yS t at_ => gI (fun t at_ => g (zJ.zQ t at_)) (fun t at_ => g (zJ.yX t at_)) t at_
  | .yX t at_ => wA (fun t open_ few first last => g (zJ.yC t open_ few first last)) t at_
  | .yC t open_ few first last => uO (fun t at_ => g (zJ.wJ t at_)) t open_ few first last
  | .wJ t at_ => z1M (fun t at_ out => g (zJ.yF t at_ out)) t at_
  | .yF t at_ out => uE (fun t at_ => g (zJ.zQ t at_)) (fun t at_ out => g (zJ.yF t at_ out)) t at_ out
theorem wT : ∀ i, Good (fun g => yU g i)
  | .zQ t at_ => by unfold yU z0R; exact (.bind (.call _) fun _ => (.const _))
  | .zR t at_ level => by unfold yU uP; exact (.ite (.bind (.call _) fun _ => (.const _)) (.bind (.call _) fun _ => (.call _)))
  | .zZ t at_ level times o6 left => by unfold yU wF; exact (.ite (.bind (.const _) fun _ => (.ite (.const _) (.ite (.ite (.const _) (.bind (.call _) fun _ => (.ite (.bind (.const _) fun _ => (.call _)) (.const _)))) (.bind (.call _) fun _ => (.ite (.bind (.const _) fun _ => (.call _)) (.const _)))))) (.const _))
  | .wO t at_ => by unfold yU z1d; exact (.bind (.const _) fun _ => (.ite (.bind (.const _) fun _ => (.ite (.ite (.bind (.call _) fun _ => (.const _)) (.bind (.call _) fun _ => (.ite (.bind (.const _) fun _ => (.const _)) (.const _)))) (.ite (.bind (.call _) fun _ => (.const _)) (.bind (.call _) fun _ => (.ite (.bind (.const _) fun _ => (.const _)) (.const _)))))) (.bind (.const _) fun _ => (.ite (.ite (.bind (.call _) fun _ => (.const _)) (.bind (.call _) fun _ => (.ite (.bind (.const _) fun _ => (.const _)) (.const _)))) (.ite (.bind (.call _) fun _ => (.const _)) (.bind (.call _) fun _ => (.ite (.bind (.const _) fun _ => (.const _)) (.const _))))))))
  | .vW t at_ => by unfold yU z0j; exact (.bind (.call _) fun _ => (.call _))
  | .yG t at_ o4 x => by unfold yU vU; exact (.ite (.bind (.const _) fun _ => (.ite (.bind (.call _) fun _ => (.ite (.bind (.const _) fun _ => (.ite (.bind (.const _) fun _ => (.call _)) (.bind (.const _) fun _ => (.const _)))) (.const _))) (.bind (.const _) fun _ => (.ite (.bind (.const _) fun _ => (.ite (.bind (.const _) fun _ => (.call _)) (.bind (.const _) fun _ => (.const _)))) (.const _))))) (.const _))
  | .yS t at_ => by unfold yU gI; exact (.bind (.const _) fun _ => (.ite (.bind (.const _) fun _ => (.const _)) (.bind (.const _) fun _ => (.ite (.bind (.const _) fun _ => (.const _)) (.bind (.const _) fun _ => (.ite (.bind (.const _) fun _ => (.const _)) (.bind (.const _) fun _ => (.ite (.bind (.const _) fun _ => (.const _)) (.ite (.bind (.const _) fun _ => (.ite (.bind (.const _) fun _ => (.ite (.bind (.call _) fun _ => (.ite (.bind (.const _) fun _ => (.ite (.const _) (.bind (.const _) fun _ => (.const _)))) (.const _))) (.bind (.call _) fun _ => (.const _)))) (.bind (.const _) fun _ => (.const _)))) (.bind (.const _) fun _ => (.ite (.bind (.call _) fun _ => (.ite (.bind (.const _) fun _ => (.ite (.const _) (.bind (.const _) fun _ => (.const _)))) (.const _))) (.bind (.call _) fun _ => (.const _)))))))))))))
  | .yX t at_ => by unfold yU wA; exact (.bind (.const _) fun _ => (.ite (.bind (.const _) fun _ => (.bind (.call _) fun _ => (.ite (.bind (.const _) fun _ => (.const _)) (.const _)))) (.bind (.const _) fun _ => (.ite (.bind (.call _) fun _ => (.ite (.bind (.const _) fun _ => (.const _)) (.const _))) (.bind (.const _) fun _ => (.ite (.bind (.const _) fun _ => (.ite (.bind (.const _) fun _ => (.bind (.const _) fun _ => (.ite (.bind (.call _) fun _ => (.ite (.bind (.const _) fun _ => (.const _)) (.const _))) (.bind (.call _) fun _ => (.ite (.bind (.const _) fun _ => (.const _)) (.const _)))))) (.bind (.const _) fun _ => (.const _)))) (.bind (.const _) fun _ => (.ite (.bind (.const _) fun _ => (.ite (.bind (.const _) fun _ => (.bind (.const _) fun _ => (.ite (.bind (.call _) fun _ => (.ite (.bind (.const _) fun _ => (.const _)) (.const _))) (.bind (.call _) fun _ => (.ite (.bind (.const _) fun _ => (.const _)) (.const _)))))) (.bind (.const _) fun _ => (.const _)))) (.bind (.const _) fun _ => (.const _))))))))))
  | .yC t open_ few first last => by unfold yU uO; exact (.bind (.const _) fun _ => (.ite (.ite (.bind (.const _) fun _ => (.ite (.const _) (.bind (.call _) fun _ => (.ite (.bind (.const _) fun _ => (.ite (.const _) (.const _))) (.const _))))) (.bind (.call _) fun _ => (.ite (.bind (.const _) fun _ => (.ite (.const _) (.const _))) (.const _)))) (.const _)))
  | .wJ t at_ => by unfold yU z1M; exact (.call _)
  | .yF t at_ out => by unfold yU uE; exact (.bind (.call _) fun _ => (.ite (.ite (.bind (.const _) fun _ => (.ite (.call _) (.const _))) (.const _)) (.const _)))
def zQ (t : List zC) (at_ : Int) : Option (zH) := z0m yU (.zQ t at_)
def zR (t : List zC) (at_ level : Int) : Option (zH) := z0m yU (.zR t at_ level)
def zZ (t : List zC) (at_ level times : Int) (o6 left : zH) : Option (zH) := z0m yU (.zZ t at_ level times o6 left)
def wO (t : List zC) (at_ : Int) : Option (zH) := z0m yU (.wO t at_)
def vW (t : List zC) (at_ : Int) : Option (zH) := z0m yU (.vW t at_)
def yG (t : List zC) (at_ : Int) (o4 x : zH) : Option (zH) := z0m yU (.yG t at_ o4 x)
def yS (t : List zC) (at_ : Int) : Option (zH) := z0m yU (.yS t at_)
def yX (t : List zC) (at_ : Int) : Option (zH) := z0m yU (.yX t at_)
def yC (t : List zC) (open_ : Int) (few : Bool) (first last : Str) : Option (List zI × Int × Int) := z0m yU (.yC t open_ few first last)
def wJ (t : List zC) (at_ : Int) : Option (List zI × Int × Int) := z0m yU (.wJ t at_)
def yF (t : List zC) (at_ : Int) (out : List zI) : Option (List zI × Int × Int) := z0m yU (.yF t at_ out)
theorem y1e (t : List zC) (at_ : Int) : zQ t at_ = z0R zR t at_ := vO wT (.zQ t at_)
theorem z1p (t : List zC) (at_ level : Int) : zR t at_ level = uP zR zZ wO t at_ level := vO wT (.zR t at_ level)
theorem z0d (t : List zC) (at_ level times : Int) (o6 left : zH) : zZ t at_ level times o6 left = wF zR zZ t at_ level times o6 left := vO wT (.zZ t at_ level times o6 left)
theorem z5J (t : List zC) (at_ : Int) : wO t at_ = z1d wO vW t at_ := vO wT (.wO t at_)
theorem z6c (t : List zC) (at_ : Int) : vW t at_ = z0j yG yS t at_ := vO wT (.vW t at_)
theorem uJ (t : List zC) (at_ : Int) (o4 x : zH) : yG t at_ o4 x = vU zQ yG t at_ o4 x := vO wT (.yG t at_ o4 x)
theorem z3C (t : List zC) (at_ : Int) : yS t at_ = gI zQ yX t at_ := vO wT (.yS t at_)
theorem jA (t : List zC) (at_ : Int) : yX t at_ = wA yC t at_ := vO wT (.yX t at_)
theorem z2e (t : List zC) (open_ : Int) (few : Bool) (first last : Str) : yC t open_ few first last = uO wJ t open_ few first last := vO wT (.yC t open_ few first last)
theorem y1f (t : List zC) (at_ : Int) : wJ t at_ = z1M yF t at_ := vO wT (.wJ t at_)
theorem z1N (t : List zC) (at_ : Int) (out : List zI) : yF t at_ out = uE zQ yF t at_ out := vO wT (.yF t at_ out)
def jR (vD : Int → Option (Str)) (n : Int) : Option (Str) :=
  if n < 0 then
    if n > (-10) then
      z0H [IntKind.wrap .u8 (IntKind.wrap .i64 (48 - n))] >>= fun s =>
      if List.length ([45] : List UInt8) + List.length s ≤ 9223372036854775807 then
      some ([45] ++ s)
      else none
    else
    if 10 ≠ (0 : Int) then
    vD (IntKind.wrap .i64 (Int.tdiv n 10)) >>= fun q1 =>
    if 10 ≠ (0 : Int) then
    z0H [IntKind.wrap .u8 (IntKind.wrap .i64 (48 - (Int.tmod n 10)))] >>= fun s1 =>
    if List.length q1 + List.length s1 ≤ 9223372036854775807 then
    some (q1 ++ s1)
    else none
    else none
    else none
  else
  if n < 10 then
    z0H [IntKind.wrap .u8 (IntKind.wrap .i64 (48 + n))] >>= fun s2 =>
    some (s2)
  else
  if 10 ≠ (0 : Int) then
  vD (IntKind.wrap .i64 (Int.tdiv n 10)) >>= fun q2 =>
  if 10 ≠ (0 : Int) then
  z0H [IntKind.wrap .u8 (IntKind.wrap .i64 (48 + (Int.tmod n 10)))] >>= fun s3 =>
  if List.length q2 + List.length s3 ≤ 9223372036854775807 then
  some (q2 ++ s3)
  else none
  else none
  else none
inductive z1n where
  | vD (n : Int)
@[reducible] def z2w : z1n → Type
  | .vD _ => Str
def z1l (g : Fam z2w) : Fam z2w
  | .vD n => jR (fun n => g (z1n.vD n)) n
theorem z4L : ∀ i, Good (fun g => z1l g i)
  | .vD n => by unfold z1l jR; exact (.ite (.ite (.bind (.const _) fun _ => (.ite (.const _) (.const _))) (.ite (.bind (.call _) fun _ => (.ite (.bind (.const _) fun _ => (.ite (.const _) (.const _))) (.const _))) (.const _))) (.ite (.bind (.const _) fun _ => (.const _)) (.ite (.bind (.call _) fun _ => (.ite (.bind (.const _) fun _ => (.ite (.const _) (.const _))) (.const _))) (.const _))))
def vD (n : Int) : Option (Str) := z0m z1l (.vD n)
theorem z4h (n : Int) : vD n = jR vD n := vO z4L (.vD n)
def jM (zV : Int → (List Int) → Int → zI → Option (Int)) (level : Int) (t : zI) : Option (Int) :=
  if level < 6 then
    z1W level >>= fun q1 =>
    zV level q1.2 0 t
  else
  some (7)
def wW (yD : Int → zI → Option (Int)) (zV : Int → (List Int) → Int → zI → Option (Int)) (level : Int) (ops : List Int) (i : Int) (t : zI) : Option (Int) :=
  if i < (List.length ops : Int) then
    idx ops i >>= fun x =>
    if x = t.N then
      some (level)
    else
    zV level ops (IntKind.wrap .i64 (i + 1)) t
  else
  yD (IntKind.wrap .i64 (level + 1)) t
inductive wP where
  | yD (level : Int) (t : zI)
  | zV (level : Int) (ops : List Int) (i : Int) (t : zI)
@[reducible] def z1E : wP → Type
  | .yD _ _ => Int
  | .zV _ _ _ _ => Int
def jJ (g : Fam z1E) : Fam z1E
  | .yD level t => jM (fun level ops i t => g (wP.zV level ops i t)) level t
  | .zV level ops i t => wW (fun level t => g (wP.yD level t)) (fun level ops i t => g (wP.zV level ops i t)) level ops i t
theorem z1x : ∀ i, Good (fun g => jJ g i)
  | .yD level t => by unfold jJ jM; exact (.ite (.bind (.const _) fun _ => (.call _)) (.const _))
  | .zV level ops i t => by unfold jJ wW; exact (.ite (.bind (.const _) fun _ => (.ite (.const _) (.call _))) (.call _))
def yD (level : Int) (t : zI) : Option (Int) := z0m jJ (.yD level t)
def zV (level : Int) (ops : List Int) (i : Int) (t : zI) : Option (Int) := z0m jJ (.zV level ops i t)
theorem z6v (level : Int) (t : zI) : yD level t = jM zV level t := vO z1x (.yD level t)
theorem z2o (level : Int) (ops : List Int) (i : Int) (t : zI) : zV level ops i t = wW yD zV level ops i t := vO z1x (.zV level ops i t)
def z0q (t : zI) : Option (Int) :=
  if t.K = 11 then
    some (6)
  else
  if t.K = 10 then
    yD 1 t
  else
  some (7)
def jV (yQ : Int → Int → (List Str) → (List Int) → Int → Option (Str)) (op level : Int) : Option (Str) :=
  if level < 6 then
    z1W level >>= fun q1 =>
    yQ op level q1.1 q1.2 0
  else
  some ([])
def jC (yL : Int → Int → Option (Str)) (yQ : Int → Int → (List Str) → (List Int) → Int → Option (Str)) (op level : Int) (signs : List Str) (ops : List Int) (i : Int) : Option (Str) :=
  if i < (List.length ops : Int) then
    idx ops i >>= fun x =>
    if x = op then
      idx signs i >>= fun x1 =>
      some (x1)
    else
    yQ op level signs ops (IntKind.wrap .i64 (i + 1))
  else
  yL op (IntKind.wrap .i64 (level + 1))
inductive uB where
  | yL (op level : Int)
  | yQ (op level : Int) (signs : List Str) (ops : List Int) (i : Int)
@[reducible] def z2d : uB → Type
  | .yL _ _ => Str
  | .yQ _ _ _ _ _ => Str
def jU (g : Fam z2d) : Fam z2d
  | .yL op level => jV (fun op level signs ops i => g (uB.yQ op level signs ops i)) op level
  | .yQ op level signs ops i => jC (fun op level => g (uB.yL op level)) (fun op level signs ops i => g (uB.yQ op level signs ops i)) op level signs ops i
theorem z1Z : ∀ i, Good (fun g => jU g i)
  | .yL op level => by unfold jU jV; exact (.ite (.bind (.const _) fun _ => (.call _)) (.const _))
  | .yQ op level signs ops i => by unfold jU jC; exact (.ite (.bind (.const _) fun _ => (.ite (.bind (.const _) fun _ => (.const _)) (.call _))) (.call _))
def yL (op level : Int) : Option (Str) := z0m jU (.yL op level)
def yQ (op level : Int) (signs : List Str) (ops : List Int) (i : Int) : Option (Str) := z0m jU (.yQ op level signs ops i)
theorem z7J (op level : Int) : yL op level = jV yQ op level := vO z1Z (.yL op level)
theorem z3E (op level : Int) (signs : List Str) (ops : List Int) (i : Int) : yQ op level signs ops i = jC yL yQ op level signs ops i := vO z1Z (.yQ op level signs ops i)
def z2p (op : Int) : Option (Str) :=
  yL op 1
def vR (yH : zI → Option (Str)) (vC : zI → Int → Option (Str)) (wD : (List zI) → Str → Str → Option (Str)) (t : zI) : Option (Str) :=
  if t.K = 5 then
    vD t.N >>= fun q1 =>
    some (q1)
  else
  if t.K = 6 then
    if t.N = 1 then
      some ([116, 114, 117, 101])
    else
    some ([102, 97, 108, 115, 101])
  else
  if t.K = 18 then
    some ([114, 101, 97, 100])
  else
  if t.K = 19 then
    some (t.S)
  else
  if t.K = 10 then
    z0q t >>= fun q26 =>
    if q26 = 3 then
      idx t.L 0 >>= fun x13 =>
      vC x13 4 >>= fun q27 =>
      if List.length q27 + List.length ([32] : List UInt8) ≤ 9223372036854775807 then
      z2p t.N >>= fun q28 =>
      if List.length (q27 ++ [32]) + List.length q28 ≤ 9223372036854775807 then
      if List.length ((q27 ++ [32]) ++ q28) + List.length ([32] : List UInt8) ≤ 9223372036854775807 then
      idx t.L 1 >>= fun x14 =>
      vC x14 (IntKind.wrap .i64 (q26 + 1)) >>= fun q29 =>
      if List.length (((q27 ++ [32]) ++ q28) ++ [32]) + List.length q29 ≤ 9223372036854775807 then
      some ((((q27 ++ [32]) ++ q28) ++ [32]) ++ q29)
      else none
      else none
      else none
      else none
    else
    idx t.L 0 >>= fun x15 =>
    vC x15 q26 >>= fun q30 =>
    if List.length q30 + List.length ([32] : List UInt8) ≤ 9223372036854775807 then
    z2p t.N >>= fun q31 =>
    if List.length (q30 ++ [32]) + List.length q31 ≤ 9223372036854775807 then
    if List.length ((q30 ++ [32]) ++ q31) + List.length ([32] : List UInt8) ≤ 9223372036854775807 then
    idx t.L 1 >>= fun x16 =>
    vC x16 (IntKind.wrap .i64 (q26 + 1)) >>= fun q32 =>
    if List.length (((q30 ++ [32]) ++ q31) ++ [32]) + List.length q32 ≤ 9223372036854775807 then
    some ((((q30 ++ [32]) ++ q31) ++ [32]) ++ q32)
    else none
    else none
    else none
    else none
  else
  if t.K = 11 then
    if t.N = 1 then
      idx t.L 0 >>= fun x17 =>
      vC x17 6 >>= fun q33 =>
      if List.length ([45, 32] : List UInt8) + List.length q33 ≤ 9223372036854775807 then
      some ([45, 32] ++ q33)
      else none
    else
    idx t.L 0 >>= fun x18 =>
    vC x18 6 >>= fun q34 =>
    if List.length ([33, 32] : List UInt8) + List.length q34 ≤ 9223372036854775807 then
    some ([33, 32] ++ q34)
    else none
  else
  if t.K = 12 then
    idx t.L 0 >>= fun x23 =>
    vC x23 7 >>= fun q43 =>
    if List.length q43 + List.length ([32, 91, 32] : List UInt8) ≤ 9223372036854775807 then
    idx t.L 1 >>= fun x24 =>
    yH x24 >>= fun q44 =>
    if List.length (q43 ++ [32, 91, 32]) + List.length q44 ≤ 9223372036854775807 then
    if List.length ((q43 ++ [32, 91, 32]) ++ q44) + List.length ([32, 93] : List UInt8) ≤ 9223372036854775807 then
    some (((q43 ++ [32, 91, 32]) ++ q44) ++ [32, 93])
    else none
    else none
    else none
  else
  if t.K = 13 then
    idx t.L 0 >>= fun x25 =>
    vC x25 7 >>= fun q45 =>
    if List.length q45 + List.length ([32, 46, 32] : List UInt8) ≤ 9223372036854775807 then
    if List.length (q45 ++ [32, 46, 32]) + List.length t.S ≤ 9223372036854775807 then
    some ((q45 ++ [32, 46, 32]) ++ t.S)
    else none
    else none
  else
  if t.K = 14 then
    wD t.L [91] [93] >>= fun q46 =>
    some (q46)
  else
  if t.K = 17 then
    if List.length ([64, 32] : List UInt8) + List.length t.S ≤ 9223372036854775807 then
    if List.length ([64, 32] ++ t.S) + List.length ([32] : List UInt8) ≤ 9223372036854775807 then
    wD t.L [40] [41] >>= fun q47 =>
    if List.length (([64, 32] ++ t.S) ++ [32]) + List.length q47 ≤ 9223372036854775807 then
    some ((([64, 32] ++ t.S) ++ [32]) ++ q47)
    else none
    else none
    else none
  else
  if t.K = 15 then
    if List.length ([110, 101, 119, 32] : List UInt8) + List.length t.S ≤ 9223372036854775807 then
    if List.length ([110, 101, 119, 32] ++ t.S) + List.length ([32] : List UInt8) ≤ 9223372036854775807 then
    wD t.L [40] [41] >>= fun q48 =>
    if List.length (([110, 101, 119, 32] ++ t.S) ++ [32]) + List.length q48 ≤ 9223372036854775807 then
    some ((([110, 101, 119, 32] ++ t.S) ++ [32]) ++ q48)
    else none
    else none
    else none
  else
  if List.length t.S + List.length ([32] : List UInt8) ≤ 9223372036854775807 then
  wD t.L [40] [41] >>= fun q49 =>
  if List.length (t.S ++ [32]) + List.length q49 ≤ 9223372036854775807 then
  some ((t.S ++ [32]) ++ q49)
  else none
  else none
def z0r (yH : zI → Option (Str)) (t : zI) (least : Int) : Option (Str) :=
  z0q t >>= fun q1 =>
  if q1 < least then
    yH t >>= fun q2 =>
    if List.length ([40, 32] : List UInt8) + List.length q2 ≤ 9223372036854775807 then
    if List.length ([40, 32] ++ q2) + List.length ([32, 41] : List UInt8) ≤ 9223372036854775807 then
    some (([40, 32] ++ q2) ++ [32, 41])
    else none
    else none
  else
  yH t >>= fun q3 =>
  some (q3)
def z0k (zX : (List zI) → Str → Str → Int → Option (Str)) (l : List zI) (first last : Str) : Option (Str) :=
  zX l last first 0
def jB (yH : zI → Option (Str)) (zX : (List zI) → Str → Str → Int → Option (Str)) (l : List zI) (last out : Str) (i : Int) : Option (Str) :=
  if i < (List.length l : Int) then
    if i > 0 then
      if List.length out + List.length ([32, 44] : List UInt8) ≤ 9223372036854775807 then
      if List.length (out ++ [32, 44]) + List.length ([32] : List UInt8) ≤ 9223372036854775807 then
      idx l i >>= fun x =>
      yH x >>= fun q1 =>
      if List.length ((out ++ [32, 44]) ++ [32]) + List.length q1 ≤ 9223372036854775807 then
      zX l last (((out ++ [32, 44]) ++ [32]) ++ q1) (IntKind.wrap .i64 (i + 1))
      else none
      else none
      else none
    else
    if List.length out + List.length ([32] : List UInt8) ≤ 9223372036854775807 then
    idx l i >>= fun x1 =>
    yH x1 >>= fun q2 =>
    if List.length (out ++ [32]) + List.length q2 ≤ 9223372036854775807 then
    zX l last ((out ++ [32]) ++ q2) (IntKind.wrap .i64 (i + 1))
    else none
    else none
  else
  if List.length out + List.length ([32] : List UInt8) ≤ 9223372036854775807 then
  if List.length (out ++ [32]) + List.length last ≤ 9223372036854775807 then
  some ((out ++ [32]) ++ last)
  else none
  else none
inductive vX where
  | yH (t : zI)
  | vC (t : zI) (least : Int)
  | wD (l : List zI) (first last : Str)
  | zX (l : List zI) (last out : Str) (i : Int)
@[reducible] def z4o : vX → Type
  | .yH _ => Str
  | .vC _ _ => Str
  | .wD _ _ _ => Str
  | .zX _ _ _ _ => Str
def uT (g : Fam z4o) : Fam z4o
  | .yH t => vR (fun t => g (vX.yH t)) (fun t least => g (vX.vC t least)) (fun l first last => g (vX.wD l first last)) t
  | .vC t least => z0r (fun t => g (vX.yH t)) t least
  | .wD l first last => z0k (fun l last out i => g (vX.zX l last out i)) l first last
  | .zX l last out i => jB (fun t => g (vX.yH t)) (fun l last out i => g (vX.zX l last out i)) l last out i
theorem z1y : ∀ i, Good (fun g => uT g i)
  | .yH t => by unfold uT vR; exact (.ite (.bind (.const _) fun _ => (.const _)) (.ite (.ite (.const _) (.const _)) (.ite (.const _) (.ite (.const _) (.ite (.bind (.const _) fun _ => (.ite (.bind (.const _) fun _ => (.bind (.call _) fun _ => (.ite (.bind (.const _) fun _ => (.ite (.ite (.bind (.const _) fun _ => (.bind (.call _) fun _ => (.ite (.const _) (.const _)))) (.const _)) (.const _))) (.const _)))) (.bind (.const _) fun _ => (.bind (.call _) fun _ => (.ite (.bind (.const _) fun _ => (.ite (.ite (.bind (.const _) fun _ => (.bind (.call _) fun _ => (.ite (.const _) (.const _)))) (.const _)) (.const _))) (.const _)))))) (.ite (.ite (.bind (.const _) fun _ => (.bind (.call _) fun _ => (.ite (.const _) (.const _)))) (.bind (.const _) fun _ => (.bind (.call _) fun _ => (.ite (.const _) (.const _))))) (.ite (.bind (.const _) fun _ => (.bind (.call _) fun _ => (.ite (.bind (.const _) fun _ => (.bind (.call _) fun _ => (.ite (.ite (.const _) (.const _)) (.const _)))) (.const _)))) (.ite (.bind (.const _) fun _ => (.bind (.call _) fun _ => (.ite (.ite (.const _) (.const _)) (.const _)))) (.ite (.bind (.call _) fun _ => (.const _)) (.ite (.ite (.ite (.bind (.call _) fun _ => (.ite (.const _) (.const _))) (.const _)) (.const _)) (.ite (.ite (.ite (.bind (.call _) fun _ => (.ite (.const _) (.const _))) (.const _)) (.const _)) (.ite (.bind (.call _) fun _ => (.ite (.const _) (.const _))) (.const _)))))))))))))
  | .vC t least => by unfold uT z0r; exact (.bind (.const _) fun _ => (.ite (.bind (.call _) fun _ => (.ite (.ite (.const _) (.const _)) (.const _))) (.bind (.call _) fun _ => (.const _))))
  | .wD l first last => by unfold uT z0k; exact (.call _)
  | .zX l last out i => by unfold uT jB; exact (.ite (.ite (.ite (.ite (.bind (.const _) fun _ => (.bind (.call _) fun _ => (.ite (.call _) (.const _)))) (.const _)) (.const _)) (.ite (.bind (.const _) fun _ => (.bind (.call _) fun _ => (.ite (.call _) (.const _)))) (.const _))) (.ite (.ite (.const _) (.const _)) (.const _)))
def yH (t : zI) : Option (Str) := z0m uT (.yH t)
def vC (t : zI) (least : Int) : Option (Str) := z0m uT (.vC t least)
def wD (l : List zI) (first last : Str) : Option (Str) := z0m uT (.wD l first last)
def zX (l : List zI) (last out : Str) (i : Int) : Option (Str) := z0m uT (.zX l last out i)
theorem wC (t : zI) : yH t = vR yH vC wD t := vO z1y (.yH t)
theorem z9H (t : zI) (least : Int) : vC t least = z0r yH t least := vO z1y (.vC t least)
theorem z6d (l : List zI) (first last : Str) : wD l first last = z0k zX l first last := vO z1y (.wD l first last)
theorem z3D (l : List zI) (last out : Str) (i : Int) : zX l last out i = jB yH zX l last out i := vO z1y (.zX l last out i)
def z0z (text : Str) : Option (Bool) :=
  if (List.length text : Int) > 500 then
    z0o >>= fun q1 =>
    some (q1)
  else
  z0P text >>= fun q2 =>
  if q2.2.2 = 0 then
    zQ q2.1 0 >>= fun q4 =>
    if q4.E = 0 then
      z1u q4.T_ >>= fun q6 =>
      yH q4.T_ >>= fun q7 =>
      if q6 = q7 then
        z0P q6 >>= fun q8 =>
        if q8.2.2 = 0 then
          zQ q8.1 0 >>= fun q9 =>
          if q9.E = 0 then
            if q9.At = IntKind.wrap .i64 ((List.length q8.1 : Int) - 1) then
              vZ q4.T_ q9.T_ >>= fun q10 =>
              if q10 = true then
                z0o >>= fun q11 =>
                some (q11)
              else
              some (false)
            else
            some (false)
          else
          some (false)
        else
        some (false)
      else
      some (false)
    else
    z0o >>= fun q5 =>
    some (q5)
  else
  z0o >>= fun q3 =>
  some (q3)
end
end Go.Proofs.Ythbhgdooeeapjaa.M

