/- For each function a plain one: what it comes to; none: a panic, or no end. -/
import Derived.Test.YtccabbnpnpfnfaaTy
namespace Go.Proofs.Ytccabbnpnpfnfaa.M
open Go Nt
set_option linter.unusedVariables false
noncomputable section
def shift_mover_turn (t : Term) (depth : Int) (by_ : Int) (from_ : Int) (lost : Bool) : Option (Term × Int × Int × Bool) :=
  if t.N < depth then
    some (t, by_, from_, lost)
  else
  if (IntKind.wrap .i64 (t.N - depth)) < from_ then
    some (t, by_, from_, lost)
  else
  if by_ < 0 then
    if (IntKind.wrap .i64 (t.N - depth)) < (IntKind.wrap .i64 (from_ - by_)) then
      some ({ t with N := IntKind.wrap .i64 (t.N + by_) }, by_, from_, true)
    else
    some ({ t with N := IntKind.wrap .i64 (t.N + by_) }, by_, from_, lost)
  else
  some ({ t with N := IntKind.wrap .i64 (t.N + by_) }, by_, from_, lost)
def shift_binds (t : Term) : Option (Bool) :=
  if t.K = 20 then
    some (true)
  else
  some ((t.K == 21))
def shift_In_L7_B (shift_In_L7 : Int → (List Term) → Int → Int → Option (Int)) (n : Int) (v24 : List Term) (v25 : Int) (v26 : Int) : Option (Int) :=
  if v26 < v25 then
    idx v24 v26 >>= fun x =>
    shift_binds x >>= fun q1 =>
    if q1 = true then
      shift_In_L7 (IntKind.wrap .i64 (n + 1)) v24 v25 (IntKind.wrap .i64 (v26 + 1))
    else
    shift_In_L7 n v24 v25 (IntKind.wrap .i64 (v26 + 1))
  else
  some (n)
inductive I_shift_In_L7 where
  | shift_In_L7 (n : Int) (v24 : List Term) (v25 : Int) (v26 : Int)
@[reducible] def R_shift_In_L7 : I_shift_In_L7 → Type
  | .shift_In_L7 _ _ _ _ => Int
def F_shift_In_L7 (g : Fam R_shift_In_L7) : Fam R_shift_In_L7
  | .shift_In_L7 n v24 v25 v26 => shift_In_L7_B (fun n v24 v25 v26 => g (I_shift_In_L7.shift_In_L7 n v24 v25 v26)) n v24 v25 v26
theorem D_shift_In_L7 : ∀ i, Good (fun g => F_shift_In_L7 g i)
  | .shift_In_L7 n v24 v25 v26 => show Good (fun g : Fam R_shift_In_L7 => shift_In_L7_B (fun n v24 v25 v26 => g (I_shift_In_L7.shift_In_L7 n v24 v25 v26)) n v24 v25 v26) by unfold shift_In_L7_B; exact (.ite (.bind (.const _) fun _ => (.bind (.const _) fun _ => (.ite (.call _) (.call _)))) (.const _))
def shift_In_L7 (n : Int) (v24 : List Term) (v25 : Int) (v26 : Int) : Option (Int) := fixF F_shift_In_L7 (.shift_In_L7 n v24 v25 v26)
theorem shift_In_L7_eq (n : Int) (v24 : List Term) (v25 : Int) (v26 : Int) : shift_In_L7 n v24 v25 v26 = shift_In_L7_B shift_In_L7 n v24 v25 v26 := fixF_eq D_shift_In_L7 (.shift_In_L7 n v24 v25 v26)
def shift_In (t : Term) (i : Int) : Option (Int) :=
  if i < 0 then
    some (0)
  else
  if i ≥ (List.length t.L : Int) then
    some (0)
  else
  if t.K = 29 then
    if (0 : Int) ≤ i then
    if Int.toNat i ≤ List.length t.L then
    if 0 ≤ Int.toNat i then
    shift_In_L7 0 (List.drop 0 (List.take (Int.toNat i) t.L)) (List.length (List.drop 0 (List.take (Int.toNat i) t.L)) : Int) 0
    else none
    else none
    else none
  else
  if t.K = 25 then
    if i = 2 then
      some (1)
    else
    some (0)
  else
  if t.K = 33 then
    if i = 2 then
      idx t.L 0 >>= fun x =>
      some ((List.length x.L : Int))
    else
    some (0)
  else
  some (0)
def shift_walk_mover_turn_B (shift_walk_mover_turn_L8 : Int → Int → (List Term) → Int → Int → Term → Term → (List Term) → Int → Int → Bool → Option (Term × Int × Int × Bool)) (t : Term) (depth : Int) (by_ : Int) (from_ : Int) (lost : Bool) : Option (Term × Int × Int × Bool) :=
  if t.K = 7 then
    shift_mover_turn t depth by_ from_ lost >>= fun q1 =>
    some (q1.1, q1.2.1, q1.2.2.1, q1.2.2.2)
  else
  if (List.length t.L : Int) = 0 then
    some (t, by_, from_, lost)
  else
  if ((List.length t.L : Int) = (List.length t.L : Int) ∧ 0 ≤ (List.length t.L : Int) ∧ (List.length t.L : Int) * 72 ≤ 140737488355328 ∧ (List.length t.L : Int) ≤ 140737488355328) then
  shift_walk_mover_turn_L8 depth 0 t.L (List.length t.L : Int) 0 t (Term.mk 0 0 ([] : List UInt8) [] 0 0) (List.replicate (List.length t.L : Int).toNat (Term.mk 0 0 ([] : List UInt8) [] 0 0)) by_ from_ lost
  else none
def shift_walk_mover_turn_L8_B (shift_walk_mover_turn : Term → Int → Int → Int → Bool → Option (Term × Int × Int × Bool)) (shift_walk_mover_turn_L8 : Int → Int → (List Term) → Int → Int → Term → Term → (List Term) → Int → Int → Bool → Option (Term × Int × Int × Bool)) (depth : Int) (more : Int) (v28 : List Term) (v29 : Int) (v30 : Int) (t : Term) (o6 : Term) (o26 : List Term) (by_ : Int) (from_ : Int) (lost : Bool) : Option (Term × Int × Int × Bool) :=
  if v30 < v29 then
    idx v28 v30 >>= fun x =>
    if ¬ (t.K = 29) then
      shift_In t v30 >>= fun q1 =>
      shift_walk_mover_turn x (IntKind.wrap .i64 (depth + q1)) by_ from_ lost >>= fun q2 =>
      if (0 : Int) ≤ v30 ∧ v30 < (List.length o26 : Int) then
      if Int.toNat v30 < List.length o26 then
      if t.K = 29 then
        shift_binds x >>= fun q3 =>
        if q3 = true then
          shift_walk_mover_turn_L8 depth (IntKind.wrap .i64 (q1 + 1)) v28 v29 (IntKind.wrap .i64 (v30 + 1)) t o6 (o26.set v30.toNat q2.1) q2.2.1 q2.2.2.1 q2.2.2.2
        else
        shift_walk_mover_turn_L8 depth q1 v28 v29 (IntKind.wrap .i64 (v30 + 1)) t o6 (o26.set v30.toNat q2.1) q2.2.1 q2.2.2.1 q2.2.2.2
      else
      shift_walk_mover_turn_L8 depth q1 v28 v29 (IntKind.wrap .i64 (v30 + 1)) t o6 (o26.set v30.toNat q2.1) q2.2.1 q2.2.2.1 q2.2.2.2
      else none
      else none
    else
    shift_walk_mover_turn x (IntKind.wrap .i64 (depth + more)) by_ from_ lost >>= fun q4 =>
    if (0 : Int) ≤ v30 ∧ v30 < (List.length o26 : Int) then
    if Int.toNat v30 < List.length o26 then
    if t.K = 29 then
      shift_binds x >>= fun q5 =>
      if q5 = true then
        shift_walk_mover_turn_L8 depth (IntKind.wrap .i64 (more + 1)) v28 v29 (IntKind.wrap .i64 (v30 + 1)) t o6 (o26.set v30.toNat q4.1) q4.2.1 q4.2.2.1 q4.2.2.2
      else
      shift_walk_mover_turn_L8 depth more v28 v29 (IntKind.wrap .i64 (v30 + 1)) t o6 (o26.set v30.toNat q4.1) q4.2.1 q4.2.2.1 q4.2.2.2
    else
    shift_walk_mover_turn_L8 depth more v28 v29 (IntKind.wrap .i64 (v30 + 1)) t o6 (o26.set v30.toNat q4.1) q4.2.1 q4.2.2.1 q4.2.2.2
    else none
    else none
  else
  some ({ t with L := o26 }, by_, from_, lost)
inductive I_shift_walk_mover_turn where
  | shift_walk_mover_turn (t : Term) (depth : Int) (by_ : Int) (from_ : Int) (lost : Bool)
  | shift_walk_mover_turn_L8 (depth : Int) (more : Int) (v28 : List Term) (v29 : Int) (v30 : Int) (t : Term) (o6 : Term) (o26 : List Term) (by_ : Int) (from_ : Int) (lost : Bool)
@[reducible] def R_shift_walk_mover_turn : I_shift_walk_mover_turn → Type
  | .shift_walk_mover_turn _ _ _ _ _ => Term × Int × Int × Bool
  | .shift_walk_mover_turn_L8 _ _ _ _ _ _ _ _ _ _ _ => Term × Int × Int × Bool
def F_shift_walk_mover_turn (g : Fam R_shift_walk_mover_turn) : Fam R_shift_walk_mover_turn
  | .shift_walk_mover_turn t depth by_ from_ lost => shift_walk_mover_turn_B (fun depth more v28 v29 v30 t o6 o26 by_ from_ lost => g (I_shift_walk_mover_turn.shift_walk_mover_turn_L8 depth more v28 v29 v30 t o6 o26 by_ from_ lost)) t depth by_ from_ lost
  | .shift_walk_mover_turn_L8 depth more v28 v29 v30 t o6 o26 by_ from_ lost => shift_walk_mover_turn_L8_B (fun t depth by_ from_ lost => g (I_shift_walk_mover_turn.shift_walk_mover_turn t depth by_ from_ lost)) (fun depth more v28 v29 v30 t o6 o26 by_ from_ lost => g (I_shift_walk_mover_turn.shift_walk_mover_turn_L8 depth more v28 v29 v30 t o6 o26 by_ from_ lost)) depth more v28 v29 v30 t o6 o26 by_ from_ lost
theorem D_shift_walk_mover_turn : ∀ i, Good (fun g => F_shift_walk_mover_turn g i)
  | .shift_walk_mover_turn t depth by_ from_ lost => show Good (fun g : Fam R_shift_walk_mover_turn => shift_walk_mover_turn_B (fun depth more v28 v29 v30 t o6 o26 by_ from_ lost => g (I_shift_walk_mover_turn.shift_walk_mover_turn_L8 depth more v28 v29 v30 t o6 o26 by_ from_ lost)) t depth by_ from_ lost) by unfold shift_walk_mover_turn_B; exact (.ite (.bind (.const _) fun _ => (.const _)) (.ite (.const _) (.ite (.call _) (.const _))))
  | .shift_walk_mover_turn_L8 depth more v28 v29 v30 t o6 o26 by_ from_ lost => show Good (fun g : Fam R_shift_walk_mover_turn => shift_walk_mover_turn_L8_B (fun t depth by_ from_ lost => g (I_shift_walk_mover_turn.shift_walk_mover_turn t depth by_ from_ lost)) (fun depth more v28 v29 v30 t o6 o26 by_ from_ lost => g (I_shift_walk_mover_turn.shift_walk_mover_turn_L8 depth more v28 v29 v30 t o6 o26 by_ from_ lost)) depth more v28 v29 v30 t o6 o26 by_ from_ lost) by unfold shift_walk_mover_turn_L8_B; exact (.ite (.bind (.const _) fun _ => (.ite (.bind (.const _) fun _ => (.bind (.call _) fun _ => (.ite (.ite (.ite (.bind (.const _) fun _ => (.ite (.call _) (.call _))) (.call _)) (.const _)) (.const _)))) (.bind (.call _) fun _ => (.ite (.ite (.ite (.bind (.const _) fun _ => (.ite (.call _) (.call _))) (.call _)) (.const _)) (.const _))))) (.const _))
def shift_walk_mover_turn (t : Term) (depth : Int) (by_ : Int) (from_ : Int) (lost : Bool) : Option (Term × Int × Int × Bool) := fixF F_shift_walk_mover_turn (.shift_walk_mover_turn t depth by_ from_ lost)
def shift_walk_mover_turn_L8 (depth : Int) (more : Int) (v28 : List Term) (v29 : Int) (v30 : Int) (t : Term) (o6 : Term) (o26 : List Term) (by_ : Int) (from_ : Int) (lost : Bool) : Option (Term × Int × Int × Bool) := fixF F_shift_walk_mover_turn (.shift_walk_mover_turn_L8 depth more v28 v29 v30 t o6 o26 by_ from_ lost)
theorem shift_walk_mover_turn_eq (t : Term) (depth : Int) (by_ : Int) (from_ : Int) (lost : Bool) : shift_walk_mover_turn t depth by_ from_ lost = shift_walk_mover_turn_B shift_walk_mover_turn_L8 t depth by_ from_ lost := fixF_eq D_shift_walk_mover_turn (.shift_walk_mover_turn t depth by_ from_ lost)
theorem shift_walk_mover_turn_L8_eq (depth : Int) (more : Int) (v28 : List Term) (v29 : Int) (v30 : Int) (t : Term) (o6 : Term) (o26 : List Term) (by_ : Int) (from_ : Int) (lost : Bool) : shift_walk_mover_turn_L8 depth more v28 v29 v30 t o6 o26 by_ from_ lost = shift_walk_mover_turn_L8_B shift_walk_mover_turn shift_walk_mover_turn_L8 depth more v28 v29 v30 t o6 o26 by_ from_ lost := fixF_eq D_shift_walk_mover_turn (.shift_walk_mover_turn_L8 depth more v28 v29 v30 t o6 o26 by_ from_ lost)
def shift_Shift (t : Term) (by_ : Int) (from_ : Int) : Option (Term × Bool × H) :=
  if from_ < 0 then
    some ((Term.mk 0 0 ([] : List UInt8) [] 0 0), false, ([] : H))
  else
  if from_ > 8192 then
    some ((Term.mk 0 0 ([] : List UInt8) [] 0 0), false, ([] : H))
  else
  if by_ > 8192 then
    some ((Term.mk 0 0 ([] : List UInt8) [] 0 0), false, ([] : H))
  else
  if by_ < (-8192) then
    some ((Term.mk 0 0 ([] : List UInt8) [] 0 0), false, ([] : H))
  else
  shift_walk_mover_turn t 0 by_ from_ false >>= fun q1 =>
  if q1.2.2.2 = true then
    some ((Term.mk 0 0 ([] : List UInt8) [] 0 0), false, ([[.d (.int .i64 q1.2.1), .d (.int .i64 q1.2.2.1), .d (.bool q1.2.2.2)]] : H))
  else
  some (q1.1, true, ([[.d (.int .i64 q1.2.1), .d (.int .i64 q1.2.2.1), .d (.bool q1.2.2.2)]] : H))
def law14awake  : Option (Bool) :=
  shift_Shift (Term.mk 7 2 ([] : List UInt8) [] 0 0) 3 1 >>= fun q1 =>
  if q1.2.1 = true then
    if q1.1.K = 7 then
      some ((q1.1.N == 5))
    else
    some (false)
  else
  some (false)
def ref06Count_B (ref06Count_L5 : Int → Int → Int → Term → Option (Int)) (t : Term) (left : Int) (levels : Int) : Option (Int) :=
  if levels ≤ 0 then
    some ((-1))
  else
  ref06Count_L5 (IntKind.wrap .i64 (left - 1)) levels 0 t
def ref06Count_L5_B (ref06Count : Term → Int → Int → Option (Int)) (ref06Count_L5 : Int → Int → Int → Term → Option (Int)) (left : Int) (levels : Int) (i : Int) (t : Term) : Option (Int) :=
  if i < (List.length t.L : Int) then
    if left ≥ 0 then
      idx t.L i >>= fun x =>
      ref06Count x left (IntKind.wrap .i64 (levels - 1)) >>= fun q1 =>
      ref06Count_L5 q1 levels (IntKind.wrap .i64 (i + 1)) t
    else
    some (left)
  else
  some (left)
inductive I_ref06Count where
  | ref06Count (t : Term) (left : Int) (levels : Int)
  | ref06Count_L5 (left : Int) (levels : Int) (i : Int) (t : Term)
@[reducible] def R_ref06Count : I_ref06Count → Type
  | .ref06Count _ _ _ => Int
  | .ref06Count_L5 _ _ _ _ => Int
def F_ref06Count (g : Fam R_ref06Count) : Fam R_ref06Count
  | .ref06Count t left levels => ref06Count_B (fun left levels i t => g (I_ref06Count.ref06Count_L5 left levels i t)) t left levels
  | .ref06Count_L5 left levels i t => ref06Count_L5_B (fun t left levels => g (I_ref06Count.ref06Count t left levels)) (fun left levels i t => g (I_ref06Count.ref06Count_L5 left levels i t)) left levels i t
theorem D_ref06Count : ∀ i, Good (fun g => F_ref06Count g i)
  | .ref06Count t left levels => show Good (fun g : Fam R_ref06Count => ref06Count_B (fun left levels i t => g (I_ref06Count.ref06Count_L5 left levels i t)) t left levels) by unfold ref06Count_B; exact (.ite (.const _) (.call _))
  | .ref06Count_L5 left levels i t => show Good (fun g : Fam R_ref06Count => ref06Count_L5_B (fun t left levels => g (I_ref06Count.ref06Count t left levels)) (fun left levels i t => g (I_ref06Count.ref06Count_L5 left levels i t)) left levels i t) by unfold ref06Count_L5_B; exact (.ite (.ite (.bind (.const _) fun _ => (.bind (.call _) fun _ => (.call _))) (.const _)) (.const _))
def ref06Count (t : Term) (left : Int) (levels : Int) : Option (Int) := fixF F_ref06Count (.ref06Count t left levels)
def ref06Count_L5 (left : Int) (levels : Int) (i : Int) (t : Term) : Option (Int) := fixF F_ref06Count (.ref06Count_L5 left levels i t)
theorem ref06Count_eq (t : Term) (left : Int) (levels : Int) : ref06Count t left levels = ref06Count_B ref06Count_L5 t left levels := fixF_eq D_ref06Count (.ref06Count t left levels)
theorem ref06Count_L5_eq (left : Int) (levels : Int) (i : Int) (t : Term) : ref06Count_L5 left levels i t = ref06Count_L5_B ref06Count ref06Count_L5 left levels i t := fixF_eq D_ref06Count (.ref06Count_L5 left levels i t)
def ref06Named_B (ref06Named_L4 : Int → Term → Option (Bool)) (t : Term) : Option (Bool) :=
  if (List.length t.S : Int) > 40 then
    some (true)
  else
  ref06Named_L4 0 t
def ref06Named_L4_B (ref06Named : Term → Option (Bool)) (ref06Named_L4 : Int → Term → Option (Bool)) (i : Int) (t : Term) : Option (Bool) :=
  if i < (List.length t.L : Int) then
    idx t.L i >>= fun x =>
    ref06Named x >>= fun q1 =>
    if q1 = true then
      some (true)
    else
    ref06Named_L4 (IntKind.wrap .i64 (i + 1)) t
  else
  some (false)
inductive I_ref06Named where
  | ref06Named (t : Term)
  | ref06Named_L4 (i : Int) (t : Term)
@[reducible] def R_ref06Named : I_ref06Named → Type
  | .ref06Named _ => Bool
  | .ref06Named_L4 _ _ => Bool
def F_ref06Named (g : Fam R_ref06Named) : Fam R_ref06Named
  | .ref06Named t => ref06Named_B (fun i t => g (I_ref06Named.ref06Named_L4 i t)) t
  | .ref06Named_L4 i t => ref06Named_L4_B (fun t => g (I_ref06Named.ref06Named t)) (fun i t => g (I_ref06Named.ref06Named_L4 i t)) i t
theorem D_ref06Named : ∀ i, Good (fun g => F_ref06Named g i)
  | .ref06Named t => show Good (fun g : Fam R_ref06Named => ref06Named_B (fun i t => g (I_ref06Named.ref06Named_L4 i t)) t) by unfold ref06Named_B; exact (.ite (.const _) (.call _))
  | .ref06Named_L4 i t => show Good (fun g : Fam R_ref06Named => ref06Named_L4_B (fun t => g (I_ref06Named.ref06Named t)) (fun i t => g (I_ref06Named.ref06Named_L4 i t)) i t) by unfold ref06Named_L4_B; exact (.ite (.bind (.const _) fun _ => (.bind (.call _) fun _ => (.ite (.const _) (.call _)))) (.const _))
def ref06Named (t : Term) : Option (Bool) := fixF F_ref06Named (.ref06Named t)
def ref06Named_L4 (i : Int) (t : Term) : Option (Bool) := fixF F_ref06Named (.ref06Named_L4 i t)
theorem ref06Named_eq (t : Term) : ref06Named t = ref06Named_B ref06Named_L4 t := fixF_eq D_ref06Named (.ref06Named t)
theorem ref06Named_L4_eq (i : Int) (t : Term) : ref06Named_L4 i t = ref06Named_L4_B ref06Named ref06Named_L4 i t := fixF_eq D_ref06Named (.ref06Named_L4 i t)
def ref06Large (t : Term) : Option (Bool) :=
  ref06Count t 400 70 >>= fun q1 =>
  if q1 < 0 then
    some (true)
  else
  ref06Named t >>= fun q2 =>
  some (q2)
def ref06Placed_B (ref06Placed_L4 : Int → Term → Term → Option (Bool)) (a : Term) (b : Term) : Option (Bool) :=
  if ¬ (a.K = b.K) then
    some (false)
  else
  if ¬ (a.N = b.N) then
    some (false)
  else
  if ¬ (a.S = b.S) then
    some (false)
  else
  if ¬ (a.From = b.From) then
    some (false)
  else
  if ¬ (a.To = b.To) then
    some (false)
  else
  if ¬ ((List.length a.L : Int) = (List.length b.L : Int)) then
    some (false)
  else
  ref06Placed_L4 0 a b
def ref06Placed_L4_B (ref06Placed : Term → Term → Option (Bool)) (ref06Placed_L4 : Int → Term → Term → Option (Bool)) (i : Int) (a : Term) (b : Term) : Option (Bool) :=
  if i < (List.length a.L : Int) then
    idx a.L i >>= fun x =>
    idx b.L i >>= fun x1 =>
    ref06Placed x x1 >>= fun q1 =>
    if ¬ (q1 = true) then
      some (false)
    else
    ref06Placed_L4 (IntKind.wrap .i64 (i + 1)) a b
  else
  some (true)
inductive I_ref06Placed where
  | ref06Placed (a : Term) (b : Term)
  | ref06Placed_L4 (i : Int) (a : Term) (b : Term)
@[reducible] def R_ref06Placed : I_ref06Placed → Type
  | .ref06Placed _ _ => Bool
  | .ref06Placed_L4 _ _ _ => Bool
def F_ref06Placed (g : Fam R_ref06Placed) : Fam R_ref06Placed
  | .ref06Placed a b => ref06Placed_B (fun i a b => g (I_ref06Placed.ref06Placed_L4 i a b)) a b
  | .ref06Placed_L4 i a b => ref06Placed_L4_B (fun a b => g (I_ref06Placed.ref06Placed a b)) (fun i a b => g (I_ref06Placed.ref06Placed_L4 i a b)) i a b
theorem D_ref06Placed : ∀ i, Good (fun g => F_ref06Placed g i)
  | .ref06Placed a b => show Good (fun g : Fam R_ref06Placed => ref06Placed_B (fun i a b => g (I_ref06Placed.ref06Placed_L4 i a b)) a b) by unfold ref06Placed_B; exact (.ite (.const _) (.ite (.const _) (.ite (.const _) (.ite (.const _) (.ite (.const _) (.ite (.const _) (.call _)))))))
  | .ref06Placed_L4 i a b => show Good (fun g : Fam R_ref06Placed => ref06Placed_L4_B (fun a b => g (I_ref06Placed.ref06Placed a b)) (fun i a b => g (I_ref06Placed.ref06Placed_L4 i a b)) i a b) by unfold ref06Placed_L4_B; exact (.ite (.bind (.const _) fun _ => (.bind (.const _) fun _ => (.bind (.call _) fun _ => (.ite (.const _) (.call _))))) (.const _))
def ref06Placed (a : Term) (b : Term) : Option (Bool) := fixF F_ref06Placed (.ref06Placed a b)
def ref06Placed_L4 (i : Int) (a : Term) (b : Term) : Option (Bool) := fixF F_ref06Placed (.ref06Placed_L4 i a b)
theorem ref06Placed_eq (a : Term) (b : Term) : ref06Placed a b = ref06Placed_B ref06Placed_L4 a b := fixF_eq D_ref06Placed (.ref06Placed a b)
theorem ref06Placed_L4_eq (i : Int) (a : Term) (b : Term) : ref06Placed_L4 i a b = ref06Placed_L4_B ref06Placed ref06Placed_L4 i a b := fixF_eq D_ref06Placed (.ref06Placed_L4 i a b)
def ref14In_L6_B (ref14In_L6 : Int → Int → Int → Term → Option (Int)) (i : Int) (n : Int) (k : Int) (t : Term) : Option (Int) :=
  if k < i then
    idx t.L k >>= fun x =>
    if x.K = 20 then
      ref14In_L6 i (IntKind.wrap .i64 (n + 1)) (IntKind.wrap .i64 (k + 1)) t
    else
    idx t.L k >>= fun x1 =>
    if x1.K = 21 then
      ref14In_L6 i (IntKind.wrap .i64 (n + 1)) (IntKind.wrap .i64 (k + 1)) t
    else
    ref14In_L6 i n (IntKind.wrap .i64 (k + 1)) t
  else
  some (n)
inductive I_ref14In_L6 where
  | ref14In_L6 (i : Int) (n : Int) (k : Int) (t : Term)
@[reducible] def R_ref14In_L6 : I_ref14In_L6 → Type
  | .ref14In_L6 _ _ _ _ => Int
def F_ref14In_L6 (g : Fam R_ref14In_L6) : Fam R_ref14In_L6
  | .ref14In_L6 i n k t => ref14In_L6_B (fun i n k t => g (I_ref14In_L6.ref14In_L6 i n k t)) i n k t
theorem D_ref14In_L6 : ∀ i, Good (fun g => F_ref14In_L6 g i)
  | .ref14In_L6 i n k t => show Good (fun g : Fam R_ref14In_L6 => ref14In_L6_B (fun i n k t => g (I_ref14In_L6.ref14In_L6 i n k t)) i n k t) by unfold ref14In_L6_B; exact (.ite (.bind (.const _) fun _ => (.ite (.call _) (.bind (.const _) fun _ => (.ite (.call _) (.call _))))) (.const _))
def ref14In_L6 (i : Int) (n : Int) (k : Int) (t : Term) : Option (Int) := fixF F_ref14In_L6 (.ref14In_L6 i n k t)
theorem ref14In_L6_eq (i : Int) (n : Int) (k : Int) (t : Term) : ref14In_L6 i n k t = ref14In_L6_B ref14In_L6 i n k t := fixF_eq D_ref14In_L6 (.ref14In_L6 i n k t)
def ref14In (t : Term) (i : Int) : Option (Int) :=
  if i < 0 then
    some (0)
  else
  if i ≥ (List.length t.L : Int) then
    some (0)
  else
  if t.K = 29 then
    ref14In_L6 i 0 0 t
  else
  if t.K = 25 then
    if i = 2 then
      some (1)
    else
    if t.K = 33 then
      if i = 2 then
        idx t.L 0 >>= fun x =>
        some ((List.length x.L : Int))
      else
      some (0)
    else
    some (0)
  else
  if t.K = 33 then
    if i = 2 then
      idx t.L 0 >>= fun x1 =>
      some ((List.length x1.L : Int))
    else
    some (0)
  else
  some (0)
def ref14Outer (t : Term) (depth : Int) : Option (Int) :=
  if t.N < depth then
    some ((-1))
  else
  some (IntKind.wrap .i64 (t.N - depth))
def ref14Meant_B (ref14Meant_L5 : Int → Int → Int → Int → Term → Option (Bool)) (t : Term) (lo : Int) (hi : Int) (depth : Int) : Option (Bool) :=
  if t.K = 7 then
    ref14Outer t depth >>= fun q1 =>
    if q1 ≥ 0 then
      if q1 ≥ lo then
        some (decide (q1 < hi))
      else
      some (false)
    else
    some (false)
  else
  ref14Meant_L5 lo hi depth 0 t
def ref14Meant_L5_B (ref14Meant : Term → Int → Int → Int → Option (Bool)) (ref14Meant_L5 : Int → Int → Int → Int → Term → Option (Bool)) (lo : Int) (hi : Int) (depth : Int) (i : Int) (t : Term) : Option (Bool) :=
  if i < (List.length t.L : Int) then
    idx t.L i >>= fun x =>
    ref14In t i >>= fun q1 =>
    ref14Meant x lo hi (IntKind.wrap .i64 (depth + q1)) >>= fun q2 =>
    if q2 = true then
      some (true)
    else
    ref14Meant_L5 lo hi depth (IntKind.wrap .i64 (i + 1)) t
  else
  some (false)
inductive I_ref14Meant where
  | ref14Meant (t : Term) (lo : Int) (hi : Int) (depth : Int)
  | ref14Meant_L5 (lo : Int) (hi : Int) (depth : Int) (i : Int) (t : Term)
@[reducible] def R_ref14Meant : I_ref14Meant → Type
  | .ref14Meant _ _ _ _ => Bool
  | .ref14Meant_L5 _ _ _ _ _ => Bool
def F_ref14Meant (g : Fam R_ref14Meant) : Fam R_ref14Meant
  | .ref14Meant t lo hi depth => ref14Meant_B (fun lo hi depth i t => g (I_ref14Meant.ref14Meant_L5 lo hi depth i t)) t lo hi depth
  | .ref14Meant_L5 lo hi depth i t => ref14Meant_L5_B (fun t lo hi depth => g (I_ref14Meant.ref14Meant t lo hi depth)) (fun lo hi depth i t => g (I_ref14Meant.ref14Meant_L5 lo hi depth i t)) lo hi depth i t
theorem D_ref14Meant : ∀ i, Good (fun g => F_ref14Meant g i)
  | .ref14Meant t lo hi depth => show Good (fun g : Fam R_ref14Meant => ref14Meant_B (fun lo hi depth i t => g (I_ref14Meant.ref14Meant_L5 lo hi depth i t)) t lo hi depth) by unfold ref14Meant_B; exact (.ite (.bind (.const _) fun _ => (.ite (.ite (.const _) (.const _)) (.const _))) (.call _))
  | .ref14Meant_L5 lo hi depth i t => show Good (fun g : Fam R_ref14Meant => ref14Meant_L5_B (fun t lo hi depth => g (I_ref14Meant.ref14Meant t lo hi depth)) (fun lo hi depth i t => g (I_ref14Meant.ref14Meant_L5 lo hi depth i t)) lo hi depth i t) by unfold ref14Meant_L5_B; exact (.ite (.bind (.const _) fun _ => (.bind (.const _) fun _ => (.bind (.call _) fun _ => (.ite (.const _) (.call _))))) (.const _))
def ref14Meant (t : Term) (lo : Int) (hi : Int) (depth : Int) : Option (Bool) := fixF F_ref14Meant (.ref14Meant t lo hi depth)
def ref14Meant_L5 (lo : Int) (hi : Int) (depth : Int) (i : Int) (t : Term) : Option (Bool) := fixF F_ref14Meant (.ref14Meant_L5 lo hi depth i t)
theorem ref14Meant_eq (t : Term) (lo : Int) (hi : Int) (depth : Int) : ref14Meant t lo hi depth = ref14Meant_B ref14Meant_L5 t lo hi depth := fixF_eq D_ref14Meant (.ref14Meant t lo hi depth)
theorem ref14Meant_L5_eq (lo : Int) (hi : Int) (depth : Int) (i : Int) (t : Term) : ref14Meant_L5 lo hi depth i t = ref14Meant_L5_B ref14Meant ref14Meant_L5 lo hi depth i t := fixF_eq D_ref14Meant (.ref14Meant_L5 lo hi depth i t)
def ref14Raise_B (ref14Raise_L7 : Int → Int → Int → (List Term) → Int → Term → Term → Option (Term)) (t : Term) (by_ : Int) (from_ : Int) (depth : Int) : Option (Term) :=
  if t.K = 7 then
    ref14Outer t depth >>= fun q1 =>
    if q1 ≥ from_ then
      some ({ t with N := IntKind.wrap .i64 (t.N + by_) })
    else
    some (t)
  else
  ref14Raise_L7 by_ from_ depth ([] : List Term) 0 t (Term.mk 0 0 ([] : List UInt8) [] 0 0)
def ref14Raise_L7_B (ref14Raise : Term → Int → Int → Int → Option (Term)) (ref14Raise_L7 : Int → Int → Int → (List Term) → Int → Term → Term → Option (Term)) (by_ : Int) (from_ : Int) (depth : Int) (out : List Term) (i : Int) (t : Term) (o8 : Term) : Option (Term) :=
  if i < (List.length t.L : Int) then
    idx t.L i >>= fun x =>
    ref14In t i >>= fun q1 =>
    ref14Raise x by_ from_ (IntKind.wrap .i64 (depth + q1)) >>= fun q2 =>
    if roomy 72 (List.length out + List.length [q2]) then
    ref14Raise_L7 by_ from_ depth (out ++ [q2]) (IntKind.wrap .i64 (i + 1)) t o8
    else none
  else
  some ({ t with L := out })
inductive I_ref14Raise where
  | ref14Raise (t : Term) (by_ : Int) (from_ : Int) (depth : Int)
  | ref14Raise_L7 (by_ : Int) (from_ : Int) (depth : Int) (out : List Term) (i : Int) (t : Term) (o8 : Term)
@[reducible] def R_ref14Raise : I_ref14Raise → Type
  | .ref14Raise _ _ _ _ => Term
  | .ref14Raise_L7 _ _ _ _ _ _ _ => Term
def F_ref14Raise (g : Fam R_ref14Raise) : Fam R_ref14Raise
  | .ref14Raise t by_ from_ depth => ref14Raise_B (fun by_ from_ depth out i t o8 => g (I_ref14Raise.ref14Raise_L7 by_ from_ depth out i t o8)) t by_ from_ depth
  | .ref14Raise_L7 by_ from_ depth out i t o8 => ref14Raise_L7_B (fun t by_ from_ depth => g (I_ref14Raise.ref14Raise t by_ from_ depth)) (fun by_ from_ depth out i t o8 => g (I_ref14Raise.ref14Raise_L7 by_ from_ depth out i t o8)) by_ from_ depth out i t o8
theorem D_ref14Raise : ∀ i, Good (fun g => F_ref14Raise g i)
  | .ref14Raise t by_ from_ depth => show Good (fun g : Fam R_ref14Raise => ref14Raise_B (fun by_ from_ depth out i t o8 => g (I_ref14Raise.ref14Raise_L7 by_ from_ depth out i t o8)) t by_ from_ depth) by unfold ref14Raise_B; exact (.ite (.bind (.const _) fun _ => (.ite (.const _) (.const _))) (.call _))
  | .ref14Raise_L7 by_ from_ depth out i t o8 => show Good (fun g : Fam R_ref14Raise => ref14Raise_L7_B (fun t by_ from_ depth => g (I_ref14Raise.ref14Raise t by_ from_ depth)) (fun by_ from_ depth out i t o8 => g (I_ref14Raise.ref14Raise_L7 by_ from_ depth out i t o8)) by_ from_ depth out i t o8) by unfold ref14Raise_L7_B; exact (.ite (.bind (.const _) fun _ => (.bind (.const _) fun _ => (.bind (.call _) fun _ => (.ite (.call _) (.const _))))) (.const _))
def ref14Raise (t : Term) (by_ : Int) (from_ : Int) (depth : Int) : Option (Term) := fixF F_ref14Raise (.ref14Raise t by_ from_ depth)
def ref14Raise_L7 (by_ : Int) (from_ : Int) (depth : Int) (out : List Term) (i : Int) (t : Term) (o8 : Term) : Option (Term) := fixF F_ref14Raise (.ref14Raise_L7 by_ from_ depth out i t o8)
theorem ref14Raise_eq (t : Term) (by_ : Int) (from_ : Int) (depth : Int) : ref14Raise t by_ from_ depth = ref14Raise_B ref14Raise_L7 t by_ from_ depth := fixF_eq D_ref14Raise (.ref14Raise t by_ from_ depth)
theorem ref14Raise_L7_eq (by_ : Int) (from_ : Int) (depth : Int) (out : List Term) (i : Int) (t : Term) (o8 : Term) : ref14Raise_L7 by_ from_ depth out i t o8 = ref14Raise_L7_B ref14Raise ref14Raise_L7 by_ from_ depth out i t o8 := fixF_eq D_ref14Raise (.ref14Raise_L7 by_ from_ depth out i t o8)
def ref14Shift (t : Term) (by_ : Int) (from_ : Int) : Option (Term × Bool) :=
  if from_ < 0 then
    some ((Term.mk 0 0 ([] : List UInt8) [] 0 0), false)
  else
  if from_ > 8192 then
    some ((Term.mk 0 0 ([] : List UInt8) [] 0 0), false)
  else
  if by_ > 8192 then
    some ((Term.mk 0 0 ([] : List UInt8) [] 0 0), false)
  else
  if by_ < (-8192) then
    some ((Term.mk 0 0 ([] : List UInt8) [] 0 0), false)
  else
  if by_ < 0 then
    ref14Meant t from_ (IntKind.wrap .i64 (from_ - by_)) 0 >>= fun q1 =>
    if q1 = true then
      some ((Term.mk 0 0 ([] : List UInt8) [] 0 0), false)
    else
    ref14Raise t by_ from_ 0 >>= fun q2 =>
    some (q2, true)
  else
  ref14Raise t by_ from_ 0 >>= fun q3 =>
  some (q3, true)
def law14ShiftMoves (t : Term) (by_ : Int) (from_ : Int) : Option (Bool) :=
  ref06Large t >>= fun q1 =>
  if q1 = true then
    law14awake >>= fun q2 =>
    some (q2)
  else
  shift_Shift t by_ from_ >>= fun q3 =>
  ref14Shift t by_ from_ >>= fun q4 =>
  if q3.2.1 = q4.2 then
    ref06Placed q3.1 q4.1 >>= fun q5 =>
    if q5 = true then
      shift_In t from_ >>= fun q6 =>
      ref14In t from_ >>= fun q7 =>
      if q6 = q7 then
        law14awake >>= fun q8 =>
        some (q8)
      else
      some (false)
    else
    some (false)
  else
  some (false)
def ref14Wild_B (ref14Wild_L4 : Int → Term → Option (Bool)) (t : Term) : Option (Bool) :=
  if t.K = 7 then
    if t.N > 1099511627776 then
      some (true)
    else
    ref14Wild_L4 0 t
  else
  ref14Wild_L4 0 t
def ref14Wild_L4_B (ref14Wild : Term → Option (Bool)) (ref14Wild_L4 : Int → Term → Option (Bool)) (i : Int) (t : Term) : Option (Bool) :=
  if i < (List.length t.L : Int) then
    idx t.L i >>= fun x =>
    ref14Wild x >>= fun q1 =>
    if q1 = true then
      some (true)
    else
    ref14Wild_L4 (IntKind.wrap .i64 (i + 1)) t
  else
  some (false)
inductive I_ref14Wild where
  | ref14Wild (t : Term)
  | ref14Wild_L4 (i : Int) (t : Term)
@[reducible] def R_ref14Wild : I_ref14Wild → Type
  | .ref14Wild _ => Bool
  | .ref14Wild_L4 _ _ => Bool
def F_ref14Wild (g : Fam R_ref14Wild) : Fam R_ref14Wild
  | .ref14Wild t => ref14Wild_B (fun i t => g (I_ref14Wild.ref14Wild_L4 i t)) t
  | .ref14Wild_L4 i t => ref14Wild_L4_B (fun t => g (I_ref14Wild.ref14Wild t)) (fun i t => g (I_ref14Wild.ref14Wild_L4 i t)) i t
theorem D_ref14Wild : ∀ i, Good (fun g => F_ref14Wild g i)
  | .ref14Wild t => show Good (fun g : Fam R_ref14Wild => ref14Wild_B (fun i t => g (I_ref14Wild.ref14Wild_L4 i t)) t) by unfold ref14Wild_B; exact (.ite (.ite (.const _) (.call _)) (.call _))
  | .ref14Wild_L4 i t => show Good (fun g : Fam R_ref14Wild => ref14Wild_L4_B (fun t => g (I_ref14Wild.ref14Wild t)) (fun i t => g (I_ref14Wild.ref14Wild_L4 i t)) i t) by unfold ref14Wild_L4_B; exact (.ite (.bind (.const _) fun _ => (.bind (.call _) fun _ => (.ite (.const _) (.call _)))) (.const _))
def ref14Wild (t : Term) : Option (Bool) := fixF F_ref14Wild (.ref14Wild t)
def ref14Wild_L4 (i : Int) (t : Term) : Option (Bool) := fixF F_ref14Wild (.ref14Wild_L4 i t)
theorem ref14Wild_eq (t : Term) : ref14Wild t = ref14Wild_B ref14Wild_L4 t := fixF_eq D_ref14Wild (.ref14Wild t)
theorem ref14Wild_L4_eq (i : Int) (t : Term) : ref14Wild_L4 i t = ref14Wild_L4_B ref14Wild ref14Wild_L4 i t := fixF_eq D_ref14Wild (.ref14Wild_L4 i t)
def shift_finder_turn (t : Term) (depth : Int) (at_ : Int) (found : Bool) : Option (Term × Int × Bool) :=
  if t.N ≥ depth then
    if IntKind.wrap .i64 (t.N - depth) = at_ then
      some (t, at_, true)
    else
    some (t, at_, found)
  else
  some (t, at_, found)
def shift_walk_finder_turn_B (shift_walk_finder_turn_L8 : Int → Int → (List Term) → Int → Int → Term → Term → (List Term) → Int → Bool → Option (Term × Int × Bool)) (t : Term) (depth : Int) (at_ : Int) (found : Bool) : Option (Term × Int × Bool) :=
  if t.K = 7 then
    shift_finder_turn t depth at_ found >>= fun q1 =>
    some (q1.1, q1.2.1, q1.2.2)
  else
  if (List.length t.L : Int) = 0 then
    some (t, at_, found)
  else
  if ((List.length t.L : Int) = (List.length t.L : Int) ∧ 0 ≤ (List.length t.L : Int) ∧ (List.length t.L : Int) * 72 ≤ 140737488355328 ∧ (List.length t.L : Int) ≤ 140737488355328) then
  shift_walk_finder_turn_L8 depth 0 t.L (List.length t.L : Int) 0 t (Term.mk 0 0 ([] : List UInt8) [] 0 0) (List.replicate (List.length t.L : Int).toNat (Term.mk 0 0 ([] : List UInt8) [] 0 0)) at_ found
  else none
def shift_walk_finder_turn_L8_B (shift_walk_finder_turn : Term → Int → Int → Bool → Option (Term × Int × Bool)) (shift_walk_finder_turn_L8 : Int → Int → (List Term) → Int → Int → Term → Term → (List Term) → Int → Bool → Option (Term × Int × Bool)) (depth : Int) (more : Int) (v28 : List Term) (v29 : Int) (v30 : Int) (t : Term) (o6 : Term) (o26 : List Term) (at_ : Int) (found : Bool) : Option (Term × Int × Bool) :=
  if v30 < v29 then
    idx v28 v30 >>= fun x =>
    if ¬ (t.K = 29) then
      shift_In t v30 >>= fun q1 =>
      shift_walk_finder_turn x (IntKind.wrap .i64 (depth + q1)) at_ found >>= fun q2 =>
      if (0 : Int) ≤ v30 ∧ v30 < (List.length o26 : Int) then
      if Int.toNat v30 < List.length o26 then
      if t.K = 29 then
        shift_binds x >>= fun q3 =>
        if q3 = true then
          shift_walk_finder_turn_L8 depth (IntKind.wrap .i64 (q1 + 1)) v28 v29 (IntKind.wrap .i64 (v30 + 1)) t o6 (o26.set v30.toNat q2.1) q2.2.1 q2.2.2
        else
        shift_walk_finder_turn_L8 depth q1 v28 v29 (IntKind.wrap .i64 (v30 + 1)) t o6 (o26.set v30.toNat q2.1) q2.2.1 q2.2.2
      else
      shift_walk_finder_turn_L8 depth q1 v28 v29 (IntKind.wrap .i64 (v30 + 1)) t o6 (o26.set v30.toNat q2.1) q2.2.1 q2.2.2
      else none
      else none
    else
    shift_walk_finder_turn x (IntKind.wrap .i64 (depth + more)) at_ found >>= fun q4 =>
    if (0 : Int) ≤ v30 ∧ v30 < (List.length o26 : Int) then
    if Int.toNat v30 < List.length o26 then
    if t.K = 29 then
      shift_binds x >>= fun q5 =>
      if q5 = true then
        shift_walk_finder_turn_L8 depth (IntKind.wrap .i64 (more + 1)) v28 v29 (IntKind.wrap .i64 (v30 + 1)) t o6 (o26.set v30.toNat q4.1) q4.2.1 q4.2.2
      else
      shift_walk_finder_turn_L8 depth more v28 v29 (IntKind.wrap .i64 (v30 + 1)) t o6 (o26.set v30.toNat q4.1) q4.2.1 q4.2.2
    else
    shift_walk_finder_turn_L8 depth more v28 v29 (IntKind.wrap .i64 (v30 + 1)) t o6 (o26.set v30.toNat q4.1) q4.2.1 q4.2.2
    else none
    else none
  else
  some ({ t with L := o26 }, at_, found)
inductive I_shift_walk_finder_turn where
  | shift_walk_finder_turn (t : Term) (depth : Int) (at_ : Int) (found : Bool)
  | shift_walk_finder_turn_L8 (depth : Int) (more : Int) (v28 : List Term) (v29 : Int) (v30 : Int) (t : Term) (o6 : Term) (o26 : List Term) (at_ : Int) (found : Bool)
@[reducible] def R_shift_walk_finder_turn : I_shift_walk_finder_turn → Type
  | .shift_walk_finder_turn _ _ _ _ => Term × Int × Bool
  | .shift_walk_finder_turn_L8 _ _ _ _ _ _ _ _ _ _ => Term × Int × Bool
def F_shift_walk_finder_turn (g : Fam R_shift_walk_finder_turn) : Fam R_shift_walk_finder_turn
  | .shift_walk_finder_turn t depth at_ found => shift_walk_finder_turn_B (fun depth more v28 v29 v30 t o6 o26 at_ found => g (I_shift_walk_finder_turn.shift_walk_finder_turn_L8 depth more v28 v29 v30 t o6 o26 at_ found)) t depth at_ found
  | .shift_walk_finder_turn_L8 depth more v28 v29 v30 t o6 o26 at_ found => shift_walk_finder_turn_L8_B (fun t depth at_ found => g (I_shift_walk_finder_turn.shift_walk_finder_turn t depth at_ found)) (fun depth more v28 v29 v30 t o6 o26 at_ found => g (I_shift_walk_finder_turn.shift_walk_finder_turn_L8 depth more v28 v29 v30 t o6 o26 at_ found)) depth more v28 v29 v30 t o6 o26 at_ found
theorem D_shift_walk_finder_turn : ∀ i, Good (fun g => F_shift_walk_finder_turn g i)
  | .shift_walk_finder_turn t depth at_ found => show Good (fun g : Fam R_shift_walk_finder_turn => shift_walk_finder_turn_B (fun depth more v28 v29 v30 t o6 o26 at_ found => g (I_shift_walk_finder_turn.shift_walk_finder_turn_L8 depth more v28 v29 v30 t o6 o26 at_ found)) t depth at_ found) by unfold shift_walk_finder_turn_B; exact (.ite (.bind (.const _) fun _ => (.const _)) (.ite (.const _) (.ite (.call _) (.const _))))
  | .shift_walk_finder_turn_L8 depth more v28 v29 v30 t o6 o26 at_ found => show Good (fun g : Fam R_shift_walk_finder_turn => shift_walk_finder_turn_L8_B (fun t depth at_ found => g (I_shift_walk_finder_turn.shift_walk_finder_turn t depth at_ found)) (fun depth more v28 v29 v30 t o6 o26 at_ found => g (I_shift_walk_finder_turn.shift_walk_finder_turn_L8 depth more v28 v29 v30 t o6 o26 at_ found)) depth more v28 v29 v30 t o6 o26 at_ found) by unfold shift_walk_finder_turn_L8_B; exact (.ite (.bind (.const _) fun _ => (.ite (.bind (.const _) fun _ => (.bind (.call _) fun _ => (.ite (.ite (.ite (.bind (.const _) fun _ => (.ite (.call _) (.call _))) (.call _)) (.const _)) (.const _)))) (.bind (.call _) fun _ => (.ite (.ite (.ite (.bind (.const _) fun _ => (.ite (.call _) (.call _))) (.call _)) (.const _)) (.const _))))) (.const _))
def shift_walk_finder_turn (t : Term) (depth : Int) (at_ : Int) (found : Bool) : Option (Term × Int × Bool) := fixF F_shift_walk_finder_turn (.shift_walk_finder_turn t depth at_ found)
def shift_walk_finder_turn_L8 (depth : Int) (more : Int) (v28 : List Term) (v29 : Int) (v30 : Int) (t : Term) (o6 : Term) (o26 : List Term) (at_ : Int) (found : Bool) : Option (Term × Int × Bool) := fixF F_shift_walk_finder_turn (.shift_walk_finder_turn_L8 depth more v28 v29 v30 t o6 o26 at_ found)
theorem shift_walk_finder_turn_eq (t : Term) (depth : Int) (at_ : Int) (found : Bool) : shift_walk_finder_turn t depth at_ found = shift_walk_finder_turn_B shift_walk_finder_turn_L8 t depth at_ found := fixF_eq D_shift_walk_finder_turn (.shift_walk_finder_turn t depth at_ found)
theorem shift_walk_finder_turn_L8_eq (depth : Int) (more : Int) (v28 : List Term) (v29 : Int) (v30 : Int) (t : Term) (o6 : Term) (o26 : List Term) (at_ : Int) (found : Bool) : shift_walk_finder_turn_L8 depth more v28 v29 v30 t o6 o26 at_ found = shift_walk_finder_turn_L8_B shift_walk_finder_turn shift_walk_finder_turn_L8 depth more v28 v29 v30 t o6 o26 at_ found := fixF_eq D_shift_walk_finder_turn (.shift_walk_finder_turn_L8 depth more v28 v29 v30 t o6 o26 at_ found)
def shift_Mentions (t : Term) (at_ : Int) : Option (Bool × H) :=
  shift_walk_finder_turn t 0 at_ false >>= fun q1 =>
  some (q1.2.2, ([[.d (.int .i64 q1.2.1), .d (.bool q1.2.2)]] : H))
def law14ShiftBack (t : Term) (by_ : Int) (from_ : Int) : Option (Bool) :=
  ref06Large t >>= fun q1 =>
  if q1 = true then
    law14awake >>= fun q2 =>
    some (q2)
  else
  ref14Wild t >>= fun q3 =>
  if q3 = true then
    law14awake >>= fun q4 =>
    some (q4)
  else
  if by_ < 0 then
    law14awake >>= fun q5 =>
    some (q5)
  else
  if by_ > 100 then
    law14awake >>= fun q6 =>
    some (q6)
  else
  if from_ < 0 then
    law14awake >>= fun q7 =>
    some (q7)
  else
  if from_ > 100 then
    law14awake >>= fun q8 =>
    some (q8)
  else
  shift_Shift t by_ from_ >>= fun q9 =>
  shift_Shift q9.1 (IntKind.wrap .i64 (0 - by_)) from_ >>= fun q10 =>
  if q9.2.1 = true then
    if q10.2.1 = true then
      ref06Placed q10.1 t >>= fun q11 =>
      if q11 = true then
        if by_ = 0 then
          law14awake >>= fun q12 =>
          some (q12)
        else
        shift_Mentions q9.1 from_ >>= fun q13 =>
        if ¬ (q13.1 = true) then
          law14awake >>= fun q14 =>
          some (q14)
        else
        some (false)
      else
      some (false)
    else
    some (false)
  else
  some (false)
def ref06Size_B (ref06Size_L3 : Int → Int → Term → Option (Int)) (t : Term) : Option (Int) :=
  ref06Size_L3 1 0 t
def ref06Size_L3_B (ref06Size : Term → Option (Int)) (ref06Size_L3 : Int → Int → Term → Option (Int)) (n : Int) (i : Int) (t : Term) : Option (Int) :=
  if i < (List.length t.L : Int) then
    idx t.L i >>= fun x =>
    ref06Size x >>= fun q1 =>
    ref06Size_L3 (IntKind.wrap .i64 (n + q1)) (IntKind.wrap .i64 (i + 1)) t
  else
  some (n)
inductive I_ref06Size where
  | ref06Size (t : Term)
  | ref06Size_L3 (n : Int) (i : Int) (t : Term)
@[reducible] def R_ref06Size : I_ref06Size → Type
  | .ref06Size _ => Int
  | .ref06Size_L3 _ _ _ => Int
def F_ref06Size (g : Fam R_ref06Size) : Fam R_ref06Size
  | .ref06Size t => ref06Size_B (fun n i t => g (I_ref06Size.ref06Size_L3 n i t)) t
  | .ref06Size_L3 n i t => ref06Size_L3_B (fun t => g (I_ref06Size.ref06Size t)) (fun n i t => g (I_ref06Size.ref06Size_L3 n i t)) n i t
theorem D_ref06Size : ∀ i, Good (fun g => F_ref06Size g i)
  | .ref06Size t => show Good (fun g : Fam R_ref06Size => ref06Size_B (fun n i t => g (I_ref06Size.ref06Size_L3 n i t)) t) by unfold ref06Size_B; exact (.call _)
  | .ref06Size_L3 n i t => show Good (fun g : Fam R_ref06Size => ref06Size_L3_B (fun t => g (I_ref06Size.ref06Size t)) (fun n i t => g (I_ref06Size.ref06Size_L3 n i t)) n i t) by unfold ref06Size_L3_B; exact (.ite (.bind (.const _) fun _ => (.bind (.call _) fun _ => (.call _))) (.const _))
def ref06Size (t : Term) : Option (Int) := fixF F_ref06Size (.ref06Size t)
def ref06Size_L3 (n : Int) (i : Int) (t : Term) : Option (Int) := fixF F_ref06Size (.ref06Size_L3 n i t)
theorem ref06Size_eq (t : Term) : ref06Size t = ref06Size_B ref06Size_L3 t := fixF_eq D_ref06Size (.ref06Size t)
theorem ref06Size_L3_eq (n : Int) (i : Int) (t : Term) : ref06Size_L3 n i t = ref06Size_L3_B ref06Size ref06Size_L3 n i t := fixF_eq D_ref06Size (.ref06Size_L3 n i t)
def ref14Put_B (ref14Put_L7 : Int → Int → (List Term) → Int → Term → Term → Term → Option (Term)) (t : Term) (e : Term) (at_ : Int) (depth : Int) : Option (Term) :=
  if t.K = 7 then
    if at_ ≥ 0 then
      ref14Outer t depth >>= fun q1 =>
      if q1 = at_ then
        ref14Raise e depth 0 0 >>= fun q2 =>
        some (q2)
      else
      some (t)
    else
    some (t)
  else
  ref14Put_L7 at_ depth ([] : List Term) 0 t e (Term.mk 0 0 ([] : List UInt8) [] 0 0)
def ref14Put_L7_B (ref14Put : Term → Term → Int → Int → Option (Term)) (ref14Put_L7 : Int → Int → (List Term) → Int → Term → Term → Term → Option (Term)) (at_ : Int) (depth : Int) (out : List Term) (i : Int) (t : Term) (e : Term) (o8 : Term) : Option (Term) :=
  if i < (List.length t.L : Int) then
    idx t.L i >>= fun x =>
    ref14In t i >>= fun q1 =>
    ref14Put x e at_ (IntKind.wrap .i64 (depth + q1)) >>= fun q2 =>
    if roomy 72 (List.length out + List.length [q2]) then
    ref14Put_L7 at_ depth (out ++ [q2]) (IntKind.wrap .i64 (i + 1)) t e o8
    else none
  else
  some ({ t with L := out })
inductive I_ref14Put where
  | ref14Put (t : Term) (e : Term) (at_ : Int) (depth : Int)
  | ref14Put_L7 (at_ : Int) (depth : Int) (out : List Term) (i : Int) (t : Term) (e : Term) (o8 : Term)
@[reducible] def R_ref14Put : I_ref14Put → Type
  | .ref14Put _ _ _ _ => Term
  | .ref14Put_L7 _ _ _ _ _ _ _ => Term
def F_ref14Put (g : Fam R_ref14Put) : Fam R_ref14Put
  | .ref14Put t e at_ depth => ref14Put_B (fun at_ depth out i t e o8 => g (I_ref14Put.ref14Put_L7 at_ depth out i t e o8)) t e at_ depth
  | .ref14Put_L7 at_ depth out i t e o8 => ref14Put_L7_B (fun t e at_ depth => g (I_ref14Put.ref14Put t e at_ depth)) (fun at_ depth out i t e o8 => g (I_ref14Put.ref14Put_L7 at_ depth out i t e o8)) at_ depth out i t e o8
theorem D_ref14Put : ∀ i, Good (fun g => F_ref14Put g i)
  | .ref14Put t e at_ depth => show Good (fun g : Fam R_ref14Put => ref14Put_B (fun at_ depth out i t e o8 => g (I_ref14Put.ref14Put_L7 at_ depth out i t e o8)) t e at_ depth) by unfold ref14Put_B; exact (.ite (.ite (.bind (.const _) fun _ => (.ite (.bind (.const _) fun _ => (.const _)) (.const _))) (.const _)) (.call _))
  | .ref14Put_L7 at_ depth out i t e o8 => show Good (fun g : Fam R_ref14Put => ref14Put_L7_B (fun t e at_ depth => g (I_ref14Put.ref14Put t e at_ depth)) (fun at_ depth out i t e o8 => g (I_ref14Put.ref14Put_L7 at_ depth out i t e o8)) at_ depth out i t e o8) by unfold ref14Put_L7_B; exact (.ite (.bind (.const _) fun _ => (.bind (.const _) fun _ => (.bind (.call _) fun _ => (.ite (.call _) (.const _))))) (.const _))
def ref14Put (t : Term) (e : Term) (at_ : Int) (depth : Int) : Option (Term) := fixF F_ref14Put (.ref14Put t e at_ depth)
def ref14Put_L7 (at_ : Int) (depth : Int) (out : List Term) (i : Int) (t : Term) (e : Term) (o8 : Term) : Option (Term) := fixF F_ref14Put (.ref14Put_L7 at_ depth out i t e o8)
theorem ref14Put_eq (t : Term) (e : Term) (at_ : Int) (depth : Int) : ref14Put t e at_ depth = ref14Put_B ref14Put_L7 t e at_ depth := fixF_eq D_ref14Put (.ref14Put t e at_ depth)
theorem ref14Put_L7_eq (at_ : Int) (depth : Int) (out : List Term) (i : Int) (t : Term) (e : Term) (o8 : Term) : ref14Put_L7 at_ depth out i t e o8 = ref14Put_L7_B ref14Put ref14Put_L7 at_ depth out i t e o8 := fixF_eq D_ref14Put (.ref14Put_L7 at_ depth out i t e o8)
def ref14Subst (t : Term) (e : Term) (at_ : Int) : Option (Term) :=
  ref14Put t e at_ 0 >>= fun q1 =>
  some (q1)
def shift_putter_turn (p : ShiftPutter) (t : Term) (depth : Int) : Option (Term × H) :=
  if t.N < depth then
    some (t, ([] : H))
  else
  if ¬ (IntKind.wrap .i64 (t.N - depth) = p.at_) then
    some (t, ([] : H))
  else
  shift_walk_mover_turn p.e 0 depth 0 false >>= fun q1 =>
  some (q1.1, ([[.d (.int .i64 q1.2.1), .d (.int .i64 q1.2.2.1), .d (.bool q1.2.2.2)]] : H))
def shift_walk_putter_turn_B (shift_walk_putter_turn_L8 : Int → ShiftPutter → Int → (List Term) → Int → Int → Term → Term → (List Term) → Option (Term)) (t : Term) (depth : Int) (w : ShiftPutter) : Option (Term) :=
  if t.K = 7 then
    shift_putter_turn w t depth >>= fun q1 =>
    some (q1.1)
  else
  if (List.length t.L : Int) = 0 then
    some (t)
  else
  if ((List.length t.L : Int) = (List.length t.L : Int) ∧ 0 ≤ (List.length t.L : Int) ∧ (List.length t.L : Int) * 72 ≤ 140737488355328 ∧ (List.length t.L : Int) ≤ 140737488355328) then
  shift_walk_putter_turn_L8 depth w 0 t.L (List.length t.L : Int) 0 t (Term.mk 0 0 ([] : List UInt8) [] 0 0) (List.replicate (List.length t.L : Int).toNat (Term.mk 0 0 ([] : List UInt8) [] 0 0))
  else none
def shift_walk_putter_turn_L8_B (shift_walk_putter_turn : Term → Int → ShiftPutter → Option (Term)) (shift_walk_putter_turn_L8 : Int → ShiftPutter → Int → (List Term) → Int → Int → Term → Term → (List Term) → Option (Term)) (depth : Int) (w : ShiftPutter) (more : Int) (v28 : List Term) (v29 : Int) (v30 : Int) (t : Term) (o6 : Term) (o26 : List Term) : Option (Term) :=
  if v30 < v29 then
    idx v28 v30 >>= fun x =>
    if ¬ (t.K = 29) then
      shift_In t v30 >>= fun q1 =>
      shift_walk_putter_turn x (IntKind.wrap .i64 (depth + q1)) w >>= fun q2 =>
      if (0 : Int) ≤ v30 ∧ v30 < (List.length o26 : Int) then
      if Int.toNat v30 < List.length o26 then
      if t.K = 29 then
        shift_binds x >>= fun q3 =>
        if q3 = true then
          shift_walk_putter_turn_L8 depth w (IntKind.wrap .i64 (q1 + 1)) v28 v29 (IntKind.wrap .i64 (v30 + 1)) t o6 (o26.set v30.toNat q2)
        else
        shift_walk_putter_turn_L8 depth w q1 v28 v29 (IntKind.wrap .i64 (v30 + 1)) t o6 (o26.set v30.toNat q2)
      else
      shift_walk_putter_turn_L8 depth w q1 v28 v29 (IntKind.wrap .i64 (v30 + 1)) t o6 (o26.set v30.toNat q2)
      else none
      else none
    else
    shift_walk_putter_turn x (IntKind.wrap .i64 (depth + more)) w >>= fun q4 =>
    if (0 : Int) ≤ v30 ∧ v30 < (List.length o26 : Int) then
    if Int.toNat v30 < List.length o26 then
    if t.K = 29 then
      shift_binds x >>= fun q5 =>
      if q5 = true then
        shift_walk_putter_turn_L8 depth w (IntKind.wrap .i64 (more + 1)) v28 v29 (IntKind.wrap .i64 (v30 + 1)) t o6 (o26.set v30.toNat q4)
      else
      shift_walk_putter_turn_L8 depth w more v28 v29 (IntKind.wrap .i64 (v30 + 1)) t o6 (o26.set v30.toNat q4)
    else
    shift_walk_putter_turn_L8 depth w more v28 v29 (IntKind.wrap .i64 (v30 + 1)) t o6 (o26.set v30.toNat q4)
    else none
    else none
  else
  some ({ t with L := o26 })
inductive I_shift_walk_putter_turn where
  | shift_walk_putter_turn (t : Term) (depth : Int) (w : ShiftPutter)
  | shift_walk_putter_turn_L8 (depth : Int) (w : ShiftPutter) (more : Int) (v28 : List Term) (v29 : Int) (v30 : Int) (t : Term) (o6 : Term) (o26 : List Term)
@[reducible] def R_shift_walk_putter_turn : I_shift_walk_putter_turn → Type
  | .shift_walk_putter_turn _ _ _ => Term
  | .shift_walk_putter_turn_L8 _ _ _ _ _ _ _ _ _ => Term
def F_shift_walk_putter_turn (g : Fam R_shift_walk_putter_turn) : Fam R_shift_walk_putter_turn
  | .shift_walk_putter_turn t depth w => shift_walk_putter_turn_B (fun depth w more v28 v29 v30 t o6 o26 => g (I_shift_walk_putter_turn.shift_walk_putter_turn_L8 depth w more v28 v29 v30 t o6 o26)) t depth w
  | .shift_walk_putter_turn_L8 depth w more v28 v29 v30 t o6 o26 => shift_walk_putter_turn_L8_B (fun t depth w => g (I_shift_walk_putter_turn.shift_walk_putter_turn t depth w)) (fun depth w more v28 v29 v30 t o6 o26 => g (I_shift_walk_putter_turn.shift_walk_putter_turn_L8 depth w more v28 v29 v30 t o6 o26)) depth w more v28 v29 v30 t o6 o26
theorem D_shift_walk_putter_turn : ∀ i, Good (fun g => F_shift_walk_putter_turn g i)
  | .shift_walk_putter_turn t depth w => show Good (fun g : Fam R_shift_walk_putter_turn => shift_walk_putter_turn_B (fun depth w more v28 v29 v30 t o6 o26 => g (I_shift_walk_putter_turn.shift_walk_putter_turn_L8 depth w more v28 v29 v30 t o6 o26)) t depth w) by unfold shift_walk_putter_turn_B; exact (.ite (.bind (.const _) fun _ => (.const _)) (.ite (.const _) (.ite (.call _) (.const _))))
  | .shift_walk_putter_turn_L8 depth w more v28 v29 v30 t o6 o26 => show Good (fun g : Fam R_shift_walk_putter_turn => shift_walk_putter_turn_L8_B (fun t depth w => g (I_shift_walk_putter_turn.shift_walk_putter_turn t depth w)) (fun depth w more v28 v29 v30 t o6 o26 => g (I_shift_walk_putter_turn.shift_walk_putter_turn_L8 depth w more v28 v29 v30 t o6 o26)) depth w more v28 v29 v30 t o6 o26) by unfold shift_walk_putter_turn_L8_B; exact (.ite (.bind (.const _) fun _ => (.ite (.bind (.const _) fun _ => (.bind (.call _) fun _ => (.ite (.ite (.ite (.bind (.const _) fun _ => (.ite (.call _) (.call _))) (.call _)) (.const _)) (.const _)))) (.bind (.call _) fun _ => (.ite (.ite (.ite (.bind (.const _) fun _ => (.ite (.call _) (.call _))) (.call _)) (.const _)) (.const _))))) (.const _))
def shift_walk_putter_turn (t : Term) (depth : Int) (w : ShiftPutter) : Option (Term) := fixF F_shift_walk_putter_turn (.shift_walk_putter_turn t depth w)
def shift_walk_putter_turn_L8 (depth : Int) (w : ShiftPutter) (more : Int) (v28 : List Term) (v29 : Int) (v30 : Int) (t : Term) (o6 : Term) (o26 : List Term) : Option (Term) := fixF F_shift_walk_putter_turn (.shift_walk_putter_turn_L8 depth w more v28 v29 v30 t o6 o26)
theorem shift_walk_putter_turn_eq (t : Term) (depth : Int) (w : ShiftPutter) : shift_walk_putter_turn t depth w = shift_walk_putter_turn_B shift_walk_putter_turn_L8 t depth w := fixF_eq D_shift_walk_putter_turn (.shift_walk_putter_turn t depth w)
theorem shift_walk_putter_turn_L8_eq (depth : Int) (w : ShiftPutter) (more : Int) (v28 : List Term) (v29 : Int) (v30 : Int) (t : Term) (o6 : Term) (o26 : List Term) : shift_walk_putter_turn_L8 depth w more v28 v29 v30 t o6 o26 = shift_walk_putter_turn_L8_B shift_walk_putter_turn shift_walk_putter_turn_L8 depth w more v28 v29 v30 t o6 o26 := fixF_eq D_shift_walk_putter_turn (.shift_walk_putter_turn_L8 depth w more v28 v29 v30 t o6 o26)
def shift_Subst (t : Term) (e : Term) (at_ : Int) : Option (Term) :=
  shift_walk_putter_turn t 0 (ShiftPutter.mk e at_) >>= fun q1 =>
  some (q1)
def law14ShiftPuts (t : Term) (e : Term) (at_ : Int) : Option (Bool) :=
  ref06Large t >>= fun q1 =>
  if q1 = true then
    law14awake >>= fun q2 =>
    some (q2)
  else
  ref06Size t >>= fun q3 =>
  if q3 > 60 then
    law14awake >>= fun q4 =>
    some (q4)
  else
  ref06Large e >>= fun q5 =>
  if q5 = true then
    law14awake >>= fun q6 =>
    some (q6)
  else
  ref06Size e >>= fun q7 =>
  if q7 > 60 then
    law14awake >>= fun q8 =>
    some (q8)
  else
  shift_Subst t e at_ >>= fun q9 =>
  ref14Subst t e at_ >>= fun q10 =>
  ref06Placed q9 q10 >>= fun q11 =>
  if ¬ (q11 = true) then
    some (false)
  else
  shift_Mentions t at_ >>= fun q12 =>
  if q12.1 = true then
    law14awake >>= fun q13 =>
    some (q13)
  else
  ref06Placed q9 t >>= fun q14 =>
  if q14 = true then
    law14awake >>= fun q15 =>
    some (q15)
  else
  some (false)
end
end Go.Proofs.Ytccabbnpnpfnfaa.M
