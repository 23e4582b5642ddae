/- For each function a plain one: what it comes to; none: a panic, or no end. -/
import Derived.Test.YtkioflnaifdlkaaTy
namespace Go.Proofs.Ytkioflnaifdlkaa.M
open Go Nt
set_option linter.unusedVariables false
noncomputable section
def arith_truth (b : Bool) : Option (Int) :=
  if b = true then
    some (1)
  else
  some (0)
def arith_One (op : Int) (a : Int) : Option (Int × Int) :=
  if op = 1 then
    some (IntKind.wrap .i64 (0 - a), 0)
  else
  if op = 2 then
    arith_truth (a == 0) >>= fun q1 =>
    some (q1, 0)
  else
  some (0, 0)
def arith_class (op : Int) : Option (Int) :=
  if op = 1 then
    some (0)
  else
  if op = 2 then
    some (0)
  else
  if op ≥ 3 then
    if op ≤ 8 then
      some (1)
    else
    if op ≥ 9 then
      if op ≤ 13 then
        some (2)
      else
      some (3)
    else
    some (3)
  else
  if op ≥ 9 then
    if op ≤ 13 then
      some (2)
    else
    some (3)
  else
  some (3)
def arith_compare (op : Int) (a : Int) (b : Int) : Option (Bool) :=
  if op = 3 then
    some ((a == b))
  else
  if op = 4 then
    some (!(a == b))
  else
  if op = 5 then
    some (decide (a < b))
  else
  if op = 6 then
    some (decide (a ≤ b))
  else
  if op = 7 then
    some (decide (a > b))
  else
  some (decide (a ≥ b))
def arith_reckon (op : Int) (a : Int) (b : Int) : Option (Int × Int) :=
  if op = 9 then
    some (IntKind.wrap .i64 (a + b), 0)
  else
  if op = 10 then
    some (IntKind.wrap .i64 (a - b), 0)
  else
  if op = 11 then
    some (IntKind.wrap .i64 (a * b), 0)
  else
  if b = 0 then
    some (0, 1)
  else
  if op = 12 then
    if b ≠ (0 : Int) then
    some (IntKind.wrap .i64 (Int.tdiv a b), 0)
    else none
  else
  if b ≠ (0 : Int) then
  some (Int.tmod a b, 0)
  else none
def arith_Two (op : Int) (a : Int) (b : Int) : Option (Int × Int) :=
  arith_class op >>= fun q1 =>
  if q1 = 0 then
    if op = 1 then
      if a = 0 then
        arith_truth (!(b == 0)) >>= fun q3 =>
        some (q3, 0)
      else
      arith_truth true >>= fun q2 =>
      some (q2, 0)
    else
    if a = 0 then
      arith_truth false >>= fun q5 =>
      some (q5, 0)
    else
    arith_truth (!(b == 0)) >>= fun q4 =>
    some (q4, 0)
  else
  if q1 = 1 then
    arith_compare op a b >>= fun q6 =>
    arith_truth q6 >>= fun q7 =>
    some (q7, 0)
  else
  if q1 = 2 then
    arith_reckon op a b >>= fun q8 =>
    some (q8.1, q8.2)
  else
  some (0, 0)
def fold_literal (t : Term) (kind : Int) : Option (Bool) :=
  if t.K = kind then
    if t.S = ([] : List UInt8) then
      if (List.length t.L : Int) = 0 then
        if kind = 5 then
          some (true)
        else
        if t.N = 0 then
          some (true)
        else
        some ((t.N == 1))
      else
      some (false)
    else
    some (false)
  else
  some (false)
def fold_both (t : Term) (kind : Int) : Option (Bool) :=
  if (List.length t.L : Int) = 2 then
    idx t.L 0 >>= fun x =>
    fold_literal x kind >>= fun q1 =>
    if q1 = true then
      idx t.L 1 >>= fun x1 =>
      fold_literal x1 kind >>= fun q2 =>
      some (q2)
    else
    some (false)
  else
  some (false)
def fold_result (t : Term) : Option (Int) :=
  if t.N = 3 then
    fold_both t 5 >>= fun q1 =>
    if q1 = true then
      some (6)
    else
    fold_both t 6 >>= fun q2 =>
    if q2 = true then
      some (6)
    else
    some (0)
  else
  if t.N = 4 then
    fold_both t 5 >>= fun q53 =>
    if q53 = true then
      some (6)
    else
    fold_both t 6 >>= fun q54 =>
    if q54 = true then
      some (6)
    else
    some (0)
  else
  if t.N = 1 then
    fold_both t 6 >>= fun q55 =>
    if q55 = true then
      some (6)
    else
    some (0)
  else
  if t.N = 2 then
    fold_both t 6 >>= fun q80 =>
    if q80 = true then
      some (6)
    else
    some (0)
  else
  if t.N = 5 then
    fold_both t 5 >>= fun q81 =>
    if q81 = true then
      some (6)
    else
    some (0)
  else
  if t.N = 6 then
    fold_both t 5 >>= fun q87 =>
    if q87 = true then
      some (6)
    else
    some (0)
  else
  if t.N = 7 then
    fold_both t 5 >>= fun q93 =>
    if q93 = true then
      some (6)
    else
    some (0)
  else
  if t.N = 8 then
    fold_both t 5 >>= fun q99 =>
    if q99 = true then
      some (6)
    else
    some (0)
  else
  if t.N = 9 then
    fold_both t 5 >>= fun q100 =>
    if q100 = true then
      some (5)
    else
    some (0)
  else
  if t.N = 10 then
    fold_both t 5 >>= fun q101 =>
    if q101 = true then
      some (5)
    else
    some (0)
  else
  if t.N = 11 then
    fold_both t 5 >>= fun q102 =>
    if q102 = true then
      some (5)
    else
    some (0)
  else
  if t.N = 12 then
    fold_both t 5 >>= fun q103 =>
    if q103 = true then
      some (5)
    else
    some (0)
  else
  if t.N = 13 then
    fold_both t 5 >>= fun q104 =>
    if q104 = true then
      some (5)
    else
    some (0)
  else
  some (0)
def fold_Value (t : Term) : Option (Term × Bool) :=
  if t.S = ([] : List UInt8) then
    if t.K = 10 then
      fold_result t >>= fun q1 =>
      if q1 = 0 then
        some ((Term.mk 0 0 ([] : List UInt8) [] 0 0), false)
      else
      idx t.L 0 >>= fun x =>
      idx t.L 1 >>= fun x1 =>
      arith_Two t.N x.N x1.N >>= fun q2 =>
      if q2.2 = 0 then
        some ((Term.mk q1 q2.1 ([] : List UInt8) [] 0 0), true)
      else
      some ((Term.mk 0 0 ([] : List UInt8) [] 0 0), false)
    else
    if t.K = 11 then
      if (List.length t.L : Int) = 1 then
        if t.N = 1 then
          idx t.L 0 >>= fun x2 =>
          fold_literal x2 5 >>= fun q3 =>
          if q3 = true then
            idx t.L 0 >>= fun x3 =>
            arith_One t.N x3.N >>= fun q4 =>
            idx t.L 0 >>= fun x4 =>
            some ((Term.mk x4.K q4.1 ([] : List UInt8) [] 0 0), true)
          else
          some ((Term.mk 0 0 ([] : List UInt8) [] 0 0), false)
        else
        if t.N = 2 then
          idx t.L 0 >>= fun x8 =>
          fold_literal x8 6 >>= fun q7 =>
          if q7 = true then
            idx t.L 0 >>= fun x9 =>
            arith_One t.N x9.N >>= fun q8 =>
            idx t.L 0 >>= fun x10 =>
            some ((Term.mk x10.K q8.1 ([] : List UInt8) [] 0 0), true)
          else
          some ((Term.mk 0 0 ([] : List UInt8) [] 0 0), false)
        else
        some ((Term.mk 0 0 ([] : List UInt8) [] 0 0), false)
      else
      some ((Term.mk 0 0 ([] : List UInt8) [] 0 0), false)
    else
    some ((Term.mk 0 0 ([] : List UInt8) [] 0 0), false)
  else
  some ((Term.mk 0 0 ([] : List UInt8) [] 0 0), false)
def ref25Bin (op : Int) (a : Term) (b : Term) : Option (Term) :=
  some ((Term.mk 10 op ([] : List UInt8) [a, b] 0 0))
def ref25Num (n : Int) : Option (Term) :=
  some ((Term.mk 5 n ([] : List UInt8) [] 0 0))
def law27awake  : Option (Bool) :=
  ref25Num 2 >>= fun q1 =>
  ref25Num 3 >>= fun q2 =>
  ref25Bin 9 q1 q2 >>= fun q3 =>
  fold_Value q3 >>= fun q4 =>
  if q4.2 = true then
    if q4.1.K = 5 then
      some ((q4.1.N == 5))
    else
    some (false)
  else
  some (false)
def ref06Count_B (ref06Count_L5 : Int → Int → Int → Term → Option (Int)) (t : Term) (left : Int) (levels : Int) : Option (Int) :=
  if levels ≤ 0 then
    some ((-1))
  else
  ref06Count_L5 (IntKind.wrap .i64 (left - 1)) levels 0 t
def ref06Count_L5_B (ref06Count : Term → Int → Int → Option (Int)) (ref06Count_L5 : Int → Int → Int → Term → Option (Int)) (left : Int) (levels : Int) (i : Int) (t : Term) : Option (Int) :=
  if i < (List.length t.L : Int) then
    if left ≥ 0 then
      idx t.L i >>= fun x =>
      ref06Count x left (IntKind.wrap .i64 (levels - 1)) >>= fun q1 =>
      ref06Count_L5 q1 levels (IntKind.wrap .i64 (i + 1)) t
    else
    some (left)
  else
  some (left)
inductive I_ref06Count where
  | ref06Count (t : Term) (left : Int) (levels : Int)
  | ref06Count_L5 (left : Int) (levels : Int) (i : Int) (t : Term)
@[reducible] def R_ref06Count : I_ref06Count → Type
  | .ref06Count _ _ _ => Int
  | .ref06Count_L5 _ _ _ _ => Int
def F_ref06Count (g : Fam R_ref06Count) : Fam R_ref06Count
  | .ref06Count t left levels => ref06Count_B (fun left levels i t => g (I_ref06Count.ref06Count_L5 left levels i t)) t left levels
  | .ref06Count_L5 left levels i t => ref06Count_L5_B (fun t left levels => g (I_ref06Count.ref06Count t left levels)) (fun left levels i t => g (I_ref06Count.ref06Count_L5 left levels i t)) left levels i t
theorem D_ref06Count : ∀ i, Good (fun g => F_ref06Count g i)
  | .ref06Count t left levels => show Good (fun g : Fam R_ref06Count => ref06Count_B (fun left levels i t => g (I_ref06Count.ref06Count_L5 left levels i t)) t left levels) by unfold ref06Count_B; exact (.ite (.const _) (.call _))
  | .ref06Count_L5 left levels i t => show Good (fun g : Fam R_ref06Count => ref06Count_L5_B (fun t left levels => g (I_ref06Count.ref06Count t left levels)) (fun left levels i t => g (I_ref06Count.ref06Count_L5 left levels i t)) left levels i t) by unfold ref06Count_L5_B; exact (.ite (.ite (.bind (.const _) fun _ => (.bind (.call _) fun _ => (.call _))) (.const _)) (.const _))
def ref06Count (t : Term) (left : Int) (levels : Int) : Option (Int) := fixF F_ref06Count (.ref06Count t left levels)
def ref06Count_L5 (left : Int) (levels : Int) (i : Int) (t : Term) : Option (Int) := fixF F_ref06Count (.ref06Count_L5 left levels i t)
theorem ref06Count_eq (t : Term) (left : Int) (levels : Int) : ref06Count t left levels = ref06Count_B ref06Count_L5 t left levels := fixF_eq D_ref06Count (.ref06Count t left levels)
theorem ref06Count_L5_eq (left : Int) (levels : Int) (i : Int) (t : Term) : ref06Count_L5 left levels i t = ref06Count_L5_B ref06Count ref06Count_L5 left levels i t := fixF_eq D_ref06Count (.ref06Count_L5 left levels i t)
def ref06Named_B (ref06Named_L4 : Int → Term → Option (Bool)) (t : Term) : Option (Bool) :=
  if (List.length t.S : Int) > 40 then
    some (true)
  else
  ref06Named_L4 0 t
def ref06Named_L4_B (ref06Named : Term → Option (Bool)) (ref06Named_L4 : Int → Term → Option (Bool)) (i : Int) (t : Term) : Option (Bool) :=
  if i < (List.length t.L : Int) then
    idx t.L i >>= fun x =>
    ref06Named x >>= fun q1 =>
    if q1 = true then
      some (true)
    else
    ref06Named_L4 (IntKind.wrap .i64 (i + 1)) t
  else
  some (false)
inductive I_ref06Named where
  | ref06Named (t : Term)
  | ref06Named_L4 (i : Int) (t : Term)
@[reducible] def R_ref06Named : I_ref06Named → Type
  | .ref06Named _ => Bool
  | .ref06Named_L4 _ _ => Bool
def F_ref06Named (g : Fam R_ref06Named) : Fam R_ref06Named
  | .ref06Named t => ref06Named_B (fun i t => g (I_ref06Named.ref06Named_L4 i t)) t
  | .ref06Named_L4 i t => ref06Named_L4_B (fun t => g (I_ref06Named.ref06Named t)) (fun i t => g (I_ref06Named.ref06Named_L4 i t)) i t
theorem D_ref06Named : ∀ i, Good (fun g => F_ref06Named g i)
  | .ref06Named t => show Good (fun g : Fam R_ref06Named => ref06Named_B (fun i t => g (I_ref06Named.ref06Named_L4 i t)) t) by unfold ref06Named_B; exact (.ite (.const _) (.call _))
  | .ref06Named_L4 i t => show Good (fun g : Fam R_ref06Named => ref06Named_L4_B (fun t => g (I_ref06Named.ref06Named t)) (fun i t => g (I_ref06Named.ref06Named_L4 i t)) i t) by unfold ref06Named_L4_B; exact (.ite (.bind (.const _) fun _ => (.bind (.call _) fun _ => (.ite (.const _) (.call _)))) (.const _))
def ref06Named (t : Term) : Option (Bool) := fixF F_ref06Named (.ref06Named t)
def ref06Named_L4 (i : Int) (t : Term) : Option (Bool) := fixF F_ref06Named (.ref06Named_L4 i t)
theorem ref06Named_eq (t : Term) : ref06Named t = ref06Named_B ref06Named_L4 t := fixF_eq D_ref06Named (.ref06Named t)
theorem ref06Named_L4_eq (i : Int) (t : Term) : ref06Named_L4 i t = ref06Named_L4_B ref06Named ref06Named_L4 i t := fixF_eq D_ref06Named (.ref06Named_L4 i t)
def ref06Large (t : Term) : Option (Bool) :=
  ref06Count t 400 70 >>= fun q1 =>
  if q1 < 0 then
    some (true)
  else
  ref06Named t >>= fun q2 =>
  some (q2)
def ref06Placed_B (ref06Placed_L4 : Int → Term → Term → Option (Bool)) (a : Term) (b : Term) : Option (Bool) :=
  if a.K = b.K then
    if a.N = b.N then
      if a.S = b.S then
        if a.From = b.From then
          if a.To = b.To then
            if (List.length a.L : Int) = (List.length b.L : Int) then
              ref06Placed_L4 0 a b
            else
            some (false)
          else
          some (false)
        else
        some (false)
      else
      some (false)
    else
    some (false)
  else
  some (false)
def ref06Placed_L4_B (ref06Placed : Term → Term → Option (Bool)) (ref06Placed_L4 : Int → Term → Term → Option (Bool)) (i : Int) (a : Term) (b : Term) : Option (Bool) :=
  if i < (List.length a.L : Int) then
    idx a.L i >>= fun x =>
    idx b.L i >>= fun x1 =>
    ref06Placed x x1 >>= fun q1 =>
    if q1 = true then
      ref06Placed_L4 (IntKind.wrap .i64 (i + 1)) a b
    else
    some (false)
  else
  some (true)
inductive I_ref06Placed where
  | ref06Placed (a : Term) (b : Term)
  | ref06Placed_L4 (i : Int) (a : Term) (b : Term)
@[reducible] def R_ref06Placed : I_ref06Placed → Type
  | .ref06Placed _ _ => Bool
  | .ref06Placed_L4 _ _ _ => Bool
def F_ref06Placed (g : Fam R_ref06Placed) : Fam R_ref06Placed
  | .ref06Placed a b => ref06Placed_B (fun i a b => g (I_ref06Placed.ref06Placed_L4 i a b)) a b
  | .ref06Placed_L4 i a b => ref06Placed_L4_B (fun a b => g (I_ref06Placed.ref06Placed a b)) (fun i a b => g (I_ref06Placed.ref06Placed_L4 i a b)) i a b
theorem D_ref06Placed : ∀ i, Good (fun g => F_ref06Placed g i)
  | .ref06Placed a b => show Good (fun g : Fam R_ref06Placed => ref06Placed_B (fun i a b => g (I_ref06Placed.ref06Placed_L4 i a b)) a b) by unfold ref06Placed_B; exact (.ite (.ite (.ite (.ite (.ite (.ite (.call _) (.const _)) (.const _)) (.const _)) (.const _)) (.const _)) (.const _))
  | .ref06Placed_L4 i a b => show Good (fun g : Fam R_ref06Placed => ref06Placed_L4_B (fun a b => g (I_ref06Placed.ref06Placed a b)) (fun i a b => g (I_ref06Placed.ref06Placed_L4 i a b)) i a b) by unfold ref06Placed_L4_B; exact (.ite (.bind (.const _) fun _ => (.bind (.const _) fun _ => (.bind (.call _) fun _ => (.ite (.call _) (.const _))))) (.const _))
def ref06Placed (a : Term) (b : Term) : Option (Bool) := fixF F_ref06Placed (.ref06Placed a b)
def ref06Placed_L4 (i : Int) (a : Term) (b : Term) : Option (Bool) := fixF F_ref06Placed (.ref06Placed_L4 i a b)
theorem ref06Placed_eq (a : Term) (b : Term) : ref06Placed a b = ref06Placed_B ref06Placed_L4 a b := fixF_eq D_ref06Placed (.ref06Placed a b)
theorem ref06Placed_L4_eq (i : Int) (a : Term) (b : Term) : ref06Placed_L4 i a b = ref06Placed_L4_B ref06Placed ref06Placed_L4 i a b := fixF_eq D_ref06Placed (.ref06Placed_L4 i a b)
def ref20Bool (b : Bool) : Option (Int) :=
  if b = true then
    some (1)
  else
  some (0)
def ref20One (op : Int) (a : Int) : Option (Int) :=
  if op = 1 then
    some (IntKind.wrap .i64 (IntKind.wrap .u64 (0 - (IntKind.wrap .u64 a))))
  else
  if op = 2 then
    ref20Bool (a == 0) >>= fun q1 =>
    some (q1)
  else
  some (0)
def ref20Divide_L4_B (ref20Divide_L4 : Int → Int → Int → Int → Int → Option (Int × Int)) (a : Int) (b : Int) (q : Int) (left : Int) (i : Int) : Option (Int × Int) :=
  if i ≥ 0 then
    if (0 : Int) ≤ (IntKind.wrap .u64 i) then
    if 2 ≠ (0 : Int) then
    if left ≥ 9223372036854775808 then
      ref20Divide_L4 a b (IntKind.wrap .u64 ((IntKind.wrap .u64 (q * 2)) + 1)) (IntKind.wrap .u64 ((IntKind.wrap .u64 ((IntKind.wrap .u64 (left * 2)) + (Int.tmod (Int.fdiv a (2 ^ min (Int.toNat (IntKind.wrap .u64 i)) (IntKind.bits .u64))) 2))) - b)) (IntKind.wrap .i64 (i - 1))
    else
    if (IntKind.wrap .u64 ((IntKind.wrap .u64 (left * 2)) + (Int.tmod (Int.fdiv a (2 ^ min (Int.toNat (IntKind.wrap .u64 i)) (IntKind.bits .u64))) 2))) ≥ b then
      ref20Divide_L4 a b (IntKind.wrap .u64 ((IntKind.wrap .u64 (q * 2)) + 1)) (IntKind.wrap .u64 ((IntKind.wrap .u64 ((IntKind.wrap .u64 (left * 2)) + (Int.tmod (Int.fdiv a (2 ^ min (Int.toNat (IntKind.wrap .u64 i)) (IntKind.bits .u64))) 2))) - b)) (IntKind.wrap .i64 (i - 1))
    else
    ref20Divide_L4 a b (IntKind.wrap .u64 (q * 2)) (IntKind.wrap .u64 ((IntKind.wrap .u64 (left * 2)) + (Int.tmod (Int.fdiv a (2 ^ min (Int.toNat (IntKind.wrap .u64 i)) (IntKind.bits .u64))) 2))) (IntKind.wrap .i64 (i - 1))
    else none
    else none
  else
  some (q, left)
inductive I_ref20Divide_L4 where
  | ref20Divide_L4 (a : Int) (b : Int) (q : Int) (left : Int) (i : Int)
@[reducible] def R_ref20Divide_L4 : I_ref20Divide_L4 → Type
  | .ref20Divide_L4 _ _ _ _ _ => Int × Int
def F_ref20Divide_L4 (g : Fam R_ref20Divide_L4) : Fam R_ref20Divide_L4
  | .ref20Divide_L4 a b q left i => ref20Divide_L4_B (fun a b q left i => g (I_ref20Divide_L4.ref20Divide_L4 a b q left i)) a b q left i
theorem D_ref20Divide_L4 : ∀ i, Good (fun g => F_ref20Divide_L4 g i)
  | .ref20Divide_L4 a b q left i => show Good (fun g : Fam R_ref20Divide_L4 => ref20Divide_L4_B (fun a b q left i => g (I_ref20Divide_L4.ref20Divide_L4 a b q left i)) a b q left i) by unfold ref20Divide_L4_B; exact (.ite (.ite (.ite (.ite (.call _) (.ite (.call _) (.call _))) (.const _)) (.const _)) (.const _))
def ref20Divide_L4 (a : Int) (b : Int) (q : Int) (left : Int) (i : Int) : Option (Int × Int) := fixF F_ref20Divide_L4 (.ref20Divide_L4 a b q left i)
theorem ref20Divide_L4_eq (a : Int) (b : Int) (q : Int) (left : Int) (i : Int) : ref20Divide_L4 a b q left i = ref20Divide_L4_B ref20Divide_L4 a b q left i := fixF_eq D_ref20Divide_L4 (.ref20Divide_L4 a b q left i)
def ref20Divide (a : Int) (b : Int) : Option (Int × Int) :=
  ref20Divide_L4 a b 0 0 63
def ref20Size (a : Int) : Option (Int) :=
  if a < 0 then
    some (IntKind.wrap .u64 ((IntKind.wrap .u64 (IntKind.wrap .i64 (0 - (IntKind.wrap .i64 (a + 1))))) + 1))
  else
  some (IntKind.wrap .u64 a)
def ref20Quotient (a : Int) (b : Int) : Option (Int × Int) :=
  ref20Size a >>= fun q1 =>
  ref20Size b >>= fun q2 =>
  ref20Divide q1 q2 >>= fun q3 =>
  if decide (a < 0) = decide (b < 0) then
    if a < 0 then
      some (IntKind.wrap .i64 q3.1, IntKind.wrap .i64 (IntKind.wrap .u64 (0 - q3.2)))
    else
    some (IntKind.wrap .i64 q3.1, IntKind.wrap .i64 q3.2)
  else
  if a < 0 then
    some (IntKind.wrap .i64 (IntKind.wrap .u64 (0 - q3.1)), IntKind.wrap .i64 (IntKind.wrap .u64 (0 - q3.2)))
  else
  some (IntKind.wrap .i64 (IntKind.wrap .u64 (0 - q3.1)), IntKind.wrap .i64 q3.2)
def ref20Times_L4_B (ref20Times_L4 : Int → Int → Int → Option (Int)) (x : Int) (y : Int) (out : Int) : Option (Int) :=
  if y > 0 then
    if 2 ≠ (0 : Int) then
    if Int.tmod y 2 = 1 then
      if 2 ≠ (0 : Int) then
      ref20Times_L4 (IntKind.wrap .u64 (x + x)) (IntKind.wrap .u64 (Int.tdiv y 2)) (IntKind.wrap .u64 (out + x))
      else none
    else
    if 2 ≠ (0 : Int) then
    ref20Times_L4 (IntKind.wrap .u64 (x + x)) (IntKind.wrap .u64 (Int.tdiv y 2)) out
    else none
    else none
  else
  some (IntKind.wrap .i64 out)
inductive I_ref20Times_L4 where
  | ref20Times_L4 (x : Int) (y : Int) (out : Int)
@[reducible] def R_ref20Times_L4 : I_ref20Times_L4 → Type
  | .ref20Times_L4 _ _ _ => Int
def F_ref20Times_L4 (g : Fam R_ref20Times_L4) : Fam R_ref20Times_L4
  | .ref20Times_L4 x y out => ref20Times_L4_B (fun x y out => g (I_ref20Times_L4.ref20Times_L4 x y out)) x y out
theorem D_ref20Times_L4 : ∀ i, Good (fun g => F_ref20Times_L4 g i)
  | .ref20Times_L4 x y out => show Good (fun g : Fam R_ref20Times_L4 => ref20Times_L4_B (fun x y out => g (I_ref20Times_L4.ref20Times_L4 x y out)) x y out) by unfold ref20Times_L4_B; exact (.ite (.ite (.ite (.ite (.call _) (.const _)) (.ite (.call _) (.const _))) (.const _)) (.const _))
def ref20Times_L4 (x : Int) (y : Int) (out : Int) : Option (Int) := fixF F_ref20Times_L4 (.ref20Times_L4 x y out)
theorem ref20Times_L4_eq (x : Int) (y : Int) (out : Int) : ref20Times_L4 x y out = ref20Times_L4_B ref20Times_L4 x y out := fixF_eq D_ref20Times_L4 (.ref20Times_L4 x y out)
def ref20Times (a : Int) (b : Int) : Option (Int) :=
  ref20Times_L4 (IntKind.wrap .u64 a) (IntKind.wrap .u64 b) 0
def ref20Two (op : Int) (a : Int) (b : Int) : Option (Int × Int) :=
  if op = 1 then
    if a = 0 then
      ref20Bool (!(b == 0)) >>= fun q1 =>
      some (q1, 0)
    else
    ref20Bool true >>= fun q2 =>
    some (q2, 0)
  else
  if op = 2 then
    if a = 0 then
      ref20Bool false >>= fun q3 =>
      some (q3, 0)
    else
    ref20Bool (!(b == 0)) >>= fun q4 =>
    some (q4, 0)
  else
  if op = 3 then
    ref20Bool ((a == b) == (op == 3)) >>= fun q5 =>
    some (q5, 0)
  else
  if op = 4 then
    ref20Bool ((a == b) == (op == 3)) >>= fun q6 =>
    some (q6, 0)
  else
  if op = 5 then
    ref20Bool ((decide (a < b)) == (op == 5)) >>= fun q7 =>
    some (q7, 0)
  else
  if op = 8 then
    ref20Bool ((decide (a < b)) == (op == 5)) >>= fun q8 =>
    some (q8, 0)
  else
  if op = 7 then
    ref20Bool ((decide (a > b)) == (op == 7)) >>= fun q9 =>
    some (q9, 0)
  else
  if op = 6 then
    ref20Bool ((decide (a > b)) == (op == 7)) >>= fun q10 =>
    some (q10, 0)
  else
  if op = 9 then
    some (IntKind.wrap .i64 (IntKind.wrap .u64 ((IntKind.wrap .u64 a) + (IntKind.wrap .u64 b))), 0)
  else
  if op = 10 then
    some (IntKind.wrap .i64 (IntKind.wrap .u64 ((IntKind.wrap .u64 a) - (IntKind.wrap .u64 b))), 0)
  else
  if op = 11 then
    ref20Times a b >>= fun q11 =>
    some (q11, 0)
  else
  if op = 12 then
    if b = 0 then
      some (0, 1)
    else
    ref20Quotient a b >>= fun q13 =>
    some (q13.1, 0)
  else
  if op = 13 then
    if b = 0 then
      some (0, 1)
    else
    ref20Quotient a b >>= fun q12 =>
    some (q12.2, 0)
  else
  some (0, 0)
def ref27Literal (t : Term) : Option (Bool) :=
  if t.S = ([] : List UInt8) then
    if (List.length t.L : Int) = 0 then
      if t.K = 5 then
        some (true)
      else
      if t.K = 6 then
        if t.N = 0 then
          some (true)
        else
        some ((t.N == 1))
      else
      some (false)
    else
    some (false)
  else
  some (false)
def ref27Value_L5_B (ref27Value_L5 : Int → Term → Term → Term → Option (Term × Bool)) (i : Int) (t : Term) (o2 : Term) (none_ : Term) : Option (Term × Bool) :=
  if i < (List.length t.L : Int) then
    idx t.L i >>= fun x =>
    ref27Literal x >>= fun q1 =>
    if q1 = true then
      idx t.L i >>= fun x1 =>
      idx t.L 0 >>= fun x2 =>
      if x1.K = x2.K then
        ref27Value_L5 (IntKind.wrap .i64 (i + 1)) t o2 none_
      else
      some (none_, false)
    else
    some (none_, false)
  else
  idx t.L 0 >>= fun x3 =>
  if t.K = 11 then
    if (List.length t.L : Int) = 1 then
      if t.N = 1 then
        if x3.K = 5 then
          idx t.L 0 >>= fun x4 =>
          idx t.L 0 >>= fun x5 =>
          ref20One t.N x5.N >>= fun q2 =>
          some ((Term.mk x4.K q2 ([] : List UInt8) [] 0 0), true)
        else
        some (none_, false)
      else
      if t.N = 2 then
        if x3.K = 5 then
          some (none_, false)
        else
        idx t.L 0 >>= fun x24 =>
        idx t.L 0 >>= fun x25 =>
        ref20One t.N x25.N >>= fun q12 =>
        some ((Term.mk x24.K q12 ([] : List UInt8) [] 0 0), true)
      else
      some (none_, false)
    else
    some (none_, false)
  else
  if t.K = 10 then
    if (List.length t.L : Int) = 2 then
      if t.N < 1 then
        some (none_, false)
      else
      if t.N > 13 then
        some (none_, false)
      else
      if x3.K = 5 then
        if t.N < 3 then
          some (none_, false)
        else
        idx t.L 0 >>= fun x54 =>
        idx t.L 1 >>= fun x55 =>
        ref20Two t.N x54.N x55.N >>= fun q27 =>
        if q27.2 = 0 then
          if t.N < 9 then
            some ((Term.mk 6 q27.1 ([] : List UInt8) [] 0 0), true)
          else
          some ((Term.mk 5 q27.1 ([] : List UInt8) [] 0 0), true)
        else
        some (none_, false)
      else
      if t.N > 4 then
        some (none_, false)
      else
      idx t.L 0 >>= fun x52 =>
      idx t.L 1 >>= fun x53 =>
      ref20Two t.N x52.N x53.N >>= fun q26 =>
      if q26.2 = 0 then
        if t.N < 9 then
          some ((Term.mk 6 q26.1 ([] : List UInt8) [] 0 0), true)
        else
        some ((Term.mk 5 q26.1 ([] : List UInt8) [] 0 0), true)
      else
      some (none_, false)
    else
    some (none_, false)
  else
  some (none_, false)
inductive I_ref27Value_L5 where
  | ref27Value_L5 (i : Int) (t : Term) (o2 : Term) (none_ : Term)
@[reducible] def R_ref27Value_L5 : I_ref27Value_L5 → Type
  | .ref27Value_L5 _ _ _ _ => Term × Bool
def F_ref27Value_L5 (g : Fam R_ref27Value_L5) : Fam R_ref27Value_L5
  | .ref27Value_L5 i t o2 none_ => ref27Value_L5_B (fun i t o2 none_ => g (I_ref27Value_L5.ref27Value_L5 i t o2 none_)) i t o2 none_
theorem D_ref27Value_L5 : ∀ i, Good (fun g => F_ref27Value_L5 g i)
  | .ref27Value_L5 i t o2 none_ => show Good (fun g : Fam R_ref27Value_L5 => ref27Value_L5_B (fun i t o2 none_ => g (I_ref27Value_L5.ref27Value_L5 i t o2 none_)) i t o2 none_) by unfold ref27Value_L5_B; exact (.ite (.bind (.const _) fun _ => (.bind (.const _) fun _ => (.ite (.bind (.const _) fun _ => (.bind (.const _) fun _ => (.ite (.call _) (.const _)))) (.const _)))) (.bind (.const _) fun _ => (.ite (.ite (.ite (.ite (.bind (.const _) fun _ => (.bind (.const _) fun _ => (.bind (.const _) fun _ => (.const _)))) (.const _)) (.ite (.ite (.const _) (.bind (.const _) fun _ => (.bind (.const _) fun _ => (.bind (.const _) fun _ => (.const _))))) (.const _))) (.const _)) (.ite (.ite (.ite (.const _) (.ite (.const _) (.ite (.ite (.const _) (.bind (.const _) fun _ => (.bind (.const _) fun _ => (.bind (.const _) fun _ => (.ite (.ite (.const _) (.const _)) (.const _)))))) (.ite (.const _) (.bind (.const _) fun _ => (.bind (.const _) fun _ => (.bind (.const _) fun _ => (.ite (.ite (.const _) (.const _)) (.const _))))))))) (.const _)) (.const _)))))
def ref27Value_L5 (i : Int) (t : Term) (o2 : Term) (none_ : Term) : Option (Term × Bool) := fixF F_ref27Value_L5 (.ref27Value_L5 i t o2 none_)
theorem ref27Value_L5_eq (i : Int) (t : Term) (o2 : Term) (none_ : Term) : ref27Value_L5 i t o2 none_ = ref27Value_L5_B ref27Value_L5 i t o2 none_ := fixF_eq D_ref27Value_L5 (.ref27Value_L5 i t o2 none_)
def ref27Value (t : Term) : Option (Term × Bool) :=
  if t.S = ([] : List UInt8) then
    if (List.length t.L : Int) = 0 then
      some ((Term.mk 0 0 ([] : List UInt8) [] 0 0), false)
    else
    if (List.length t.L : Int) > 2 then
      some ((Term.mk 0 0 ([] : List UInt8) [] 0 0), false)
    else
    ref27Value_L5 0 t (Term.mk 0 0 ([] : List UInt8) [] 0 0) (Term.mk 0 0 ([] : List UInt8) [] 0 0)
  else
  some ((Term.mk 0 0 ([] : List UInt8) [] 0 0), false)
def law27FoldValues (t : Term) : Option (Bool) :=
  ref06Large t >>= fun q1 =>
  if q1 = true then
    law27awake >>= fun q2 =>
    some (q2)
  else
  fold_Value t >>= fun q3 =>
  ref27Value t >>= fun q4 =>
  if q3.2 = q4.2 then
    ref06Placed q3.1 q4.1 >>= fun q5 =>
    if q5 = true then
      law27awake >>= fun q6 =>
      some (q6)
    else
    some (false)
  else
  some (false)
end
end Go.Proofs.Ytkioflnaifdlkaa.M
