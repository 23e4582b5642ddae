/- For each function a plain one: what it comes to; none: a panic, or no end. -/
import Derived.Test.YtkioflnaifdlkaaTy
namespace Go.Proofs.Ytkioflnaifdlkaa.M
open Go Nt
set_option linter.unusedVariables false
noncomputable section
def flow_block (l : List Term) : Option (Term) :=
  some ((Term.mk 29 0 ([] : List UInt8) l 0 0))
def flow_is_L4_B (flow_is_L4 : (List Term) → Int → Int → Option (Bool)) (v37 : List Term) (v38 : Int) (v39 : Int) : Option (Bool) :=
  if v39 < v38 then
    idx v37 v39 >>= fun x =>
    if x.K = 29 then
      flow_is_L4 v37 v38 (IntKind.wrap .i64 (v39 + 1))
    else
    some (false)
  else
  some (true)
inductive I_flow_is_L4 where
  | flow_is_L4 (v37 : List Term) (v38 : Int) (v39 : Int)
@[reducible] def R_flow_is_L4 : I_flow_is_L4 → Type
  | .flow_is_L4 _ _ _ => Bool
def F_flow_is_L4 (g : Fam R_flow_is_L4) : Fam R_flow_is_L4
  | .flow_is_L4 v37 v38 v39 => flow_is_L4_B (fun v37 v38 v39 => g (I_flow_is_L4.flow_is_L4 v37 v38 v39)) v37 v38 v39
theorem D_flow_is_L4 : ∀ i, Good (fun g => F_flow_is_L4 g i)
  | .flow_is_L4 v37 v38 v39 => show Good (fun g : Fam R_flow_is_L4 => flow_is_L4_B (fun v37 v38 v39 => g (I_flow_is_L4.flow_is_L4 v37 v38 v39)) v37 v38 v39) by unfold flow_is_L4_B; exact (.ite (.bind (.const _) fun _ => (.ite (.call _) (.const _))) (.const _))
def flow_is_L4 (v37 : List Term) (v38 : Int) (v39 : Int) : Option (Bool) := fixF F_flow_is_L4 (.flow_is_L4 v37 v38 v39)
theorem flow_is_L4_eq (v37 : List Term) (v38 : Int) (v39 : Int) : flow_is_L4 v37 v38 v39 = flow_is_L4_B flow_is_L4 v37 v38 v39 := fixF_eq D_flow_is_L4 (.flow_is_L4 v37 v38 v39)
def flow_is (t : Term) (kind : Int) (parts : Int) (blocks : Int) : Option (Bool) :=
  if t.K = kind then
    if t.N = 0 then
      if t.S = ([] : List UInt8) then
        if (List.length t.L : Int) = parts then
          if List.length t.L ≤ List.length t.L then
          if (0 : Int) ≤ (IntKind.wrap .i64 (parts - blocks)) then
          if Int.toNat (IntKind.wrap .i64 (parts - blocks)) ≤ List.length t.L then
          flow_is_L4 (List.drop (Int.toNat (IntKind.wrap .i64 (parts - blocks))) (List.take (List.length t.L) t.L)) (List.length (List.drop (Int.toNat (IntKind.wrap .i64 (parts - blocks))) (List.take (List.length t.L) t.L)) : Int) 0
          else none
          else none
          else none
        else
        some (false)
      else
      some (false)
    else
    some (false)
  else
  some (false)
def flow_local (n : Int) : Option (Term) :=
  some ((Term.mk 7 n ([] : List UInt8) [] 0 0))
def shift_mover_turn (t : Term) (depth : Int) (by_ : Int) (from_ : Int) (lost : Bool) : Option (Term × Int × Int × Bool) :=
  if t.N < depth then
    some (t, by_, from_, lost)
  else
  if (IntKind.wrap .i64 (t.N - depth)) < from_ then
    some (t, by_, from_, lost)
  else
  if by_ < 0 then
    if (IntKind.wrap .i64 (t.N - depth)) < (IntKind.wrap .i64 (from_ - by_)) then
      some ({ t with N := IntKind.wrap .i64 (t.N + by_) }, by_, from_, true)
    else
    some ({ t with N := IntKind.wrap .i64 (t.N + by_) }, by_, from_, lost)
  else
  some ({ t with N := IntKind.wrap .i64 (t.N + by_) }, by_, from_, lost)
def shift_binds (t : Term) : Option (Bool) :=
  if t.K = 20 then
    some (true)
  else
  some ((t.K == 21))
def shift_In_L7_B (shift_In_L7 : Int → (List Term) → Int → Int → Option (Int)) (n : Int) (v24 : List Term) (v25 : Int) (v26 : Int) : Option (Int) :=
  if v26 < v25 then
    idx v24 v26 >>= fun x =>
    shift_binds x >>= fun q1 =>
    if q1 = true then
      shift_In_L7 (IntKind.wrap .i64 (n + 1)) v24 v25 (IntKind.wrap .i64 (v26 + 1))
    else
    shift_In_L7 n v24 v25 (IntKind.wrap .i64 (v26 + 1))
  else
  some (n)
inductive I_shift_In_L7 where
  | shift_In_L7 (n : Int) (v24 : List Term) (v25 : Int) (v26 : Int)
@[reducible] def R_shift_In_L7 : I_shift_In_L7 → Type
  | .shift_In_L7 _ _ _ _ => Int
def F_shift_In_L7 (g : Fam R_shift_In_L7) : Fam R_shift_In_L7
  | .shift_In_L7 n v24 v25 v26 => shift_In_L7_B (fun n v24 v25 v26 => g (I_shift_In_L7.shift_In_L7 n v24 v25 v26)) n v24 v25 v26
theorem D_shift_In_L7 : ∀ i, Good (fun g => F_shift_In_L7 g i)
  | .shift_In_L7 n v24 v25 v26 => show Good (fun g : Fam R_shift_In_L7 => shift_In_L7_B (fun n v24 v25 v26 => g (I_shift_In_L7.shift_In_L7 n v24 v25 v26)) n v24 v25 v26) by unfold shift_In_L7_B; exact (.ite (.bind (.const _) fun _ => (.bind (.const _) fun _ => (.ite (.call _) (.call _)))) (.const _))
def shift_In_L7 (n : Int) (v24 : List Term) (v25 : Int) (v26 : Int) : Option (Int) := fixF F_shift_In_L7 (.shift_In_L7 n v24 v25 v26)
theorem shift_In_L7_eq (n : Int) (v24 : List Term) (v25 : Int) (v26 : Int) : shift_In_L7 n v24 v25 v26 = shift_In_L7_B shift_In_L7 n v24 v25 v26 := fixF_eq D_shift_In_L7 (.shift_In_L7 n v24 v25 v26)
def shift_In (t : Term) (i : Int) : Option (Int) :=
  if i < 0 then
    some (0)
  else
  if i ≥ (List.length t.L : Int) then
    some (0)
  else
  if t.K = 29 then
    if (0 : Int) ≤ i then
    if Int.toNat i ≤ List.length t.L then
    if 0 ≤ Int.toNat i then
    shift_In_L7 0 (List.drop 0 (List.take (Int.toNat i) t.L)) (List.length (List.drop 0 (List.take (Int.toNat i) t.L)) : Int) 0
    else none
    else none
    else none
  else
  if t.K = 25 then
    if i = 2 then
      some (1)
    else
    some (0)
  else
  if t.K = 33 then
    if i = 2 then
      idx t.L 0 >>= fun x =>
      some ((List.length x.L : Int))
    else
    some (0)
  else
  some (0)
def shift_walk_mover_turn_B (shift_walk_mover_turn_L8 : Int → Int → (List Term) → Int → Int → Term → Term → (List Term) → Int → Int → Bool → Option (Term × Int × Int × Bool)) (t : Term) (depth : Int) (by_ : Int) (from_ : Int) (lost : Bool) : Option (Term × Int × Int × Bool) :=
  if t.K = 7 then
    shift_mover_turn t depth by_ from_ lost >>= fun q1 =>
    some (q1.1, q1.2.1, q1.2.2.1, q1.2.2.2)
  else
  if (List.length t.L : Int) = 0 then
    some (t, by_, from_, lost)
  else
  if ((List.length t.L : Int) = (List.length t.L : Int) ∧ 0 ≤ (List.length t.L : Int) ∧ (List.length t.L : Int) * 72 ≤ 140737488355328 ∧ (List.length t.L : Int) ≤ 140737488355328) then
  shift_walk_mover_turn_L8 depth 0 t.L (List.length t.L : Int) 0 t (Term.mk 0 0 ([] : List UInt8) [] 0 0) (List.replicate (List.length t.L : Int).toNat (Term.mk 0 0 ([] : List UInt8) [] 0 0)) by_ from_ lost
  else none
def shift_walk_mover_turn_L8_B (shift_walk_mover_turn : Term → Int → Int → Int → Bool → Option (Term × Int × Int × Bool)) (shift_walk_mover_turn_L8 : Int → Int → (List Term) → Int → Int → Term → Term → (List Term) → Int → Int → Bool → Option (Term × Int × Int × Bool)) (depth : Int) (more : Int) (v28 : List Term) (v29 : Int) (v30 : Int) (t : Term) (o6 : Term) (o26 : List Term) (by_ : Int) (from_ : Int) (lost : Bool) : Option (Term × Int × Int × Bool) :=
  if v30 < v29 then
    idx v28 v30 >>= fun x =>
    if t.K = 29 then
      shift_walk_mover_turn x (IntKind.wrap .i64 (depth + more)) by_ from_ lost >>= fun q4 =>
      if (0 : Int) ≤ v30 ∧ v30 < (List.length o26 : Int) then
      if Int.toNat v30 < List.length o26 then
      shift_binds x >>= fun q5 =>
      if q5 = true then
        shift_walk_mover_turn_L8 depth (IntKind.wrap .i64 (more + 1)) v28 v29 (IntKind.wrap .i64 (v30 + 1)) t o6 (o26.set v30.toNat q4.1) q4.2.1 q4.2.2.1 q4.2.2.2
      else
      shift_walk_mover_turn_L8 depth more v28 v29 (IntKind.wrap .i64 (v30 + 1)) t o6 (o26.set v30.toNat q4.1) q4.2.1 q4.2.2.1 q4.2.2.2
      else none
      else none
    else
    shift_In t v30 >>= fun q1 =>
    shift_walk_mover_turn x (IntKind.wrap .i64 (depth + q1)) by_ from_ lost >>= fun q2 =>
    if (0 : Int) ≤ v30 ∧ v30 < (List.length o26 : Int) then
    if Int.toNat v30 < List.length o26 then
    shift_walk_mover_turn_L8 depth q1 v28 v29 (IntKind.wrap .i64 (v30 + 1)) t o6 (o26.set v30.toNat q2.1) q2.2.1 q2.2.2.1 q2.2.2.2
    else none
    else none
  else
  some ({ t with L := o26 }, by_, from_, lost)
inductive I_shift_walk_mover_turn where
  | shift_walk_mover_turn (t : Term) (depth : Int) (by_ : Int) (from_ : Int) (lost : Bool)
  | shift_walk_mover_turn_L8 (depth : Int) (more : Int) (v28 : List Term) (v29 : Int) (v30 : Int) (t : Term) (o6 : Term) (o26 : List Term) (by_ : Int) (from_ : Int) (lost : Bool)
@[reducible] def R_shift_walk_mover_turn : I_shift_walk_mover_turn → Type
  | .shift_walk_mover_turn _ _ _ _ _ => Term × Int × Int × Bool
  | .shift_walk_mover_turn_L8 _ _ _ _ _ _ _ _ _ _ _ => Term × Int × Int × Bool
def F_shift_walk_mover_turn (g : Fam R_shift_walk_mover_turn) : Fam R_shift_walk_mover_turn
  | .shift_walk_mover_turn t depth by_ from_ lost => shift_walk_mover_turn_B (fun depth more v28 v29 v30 t o6 o26 by_ from_ lost => g (I_shift_walk_mover_turn.shift_walk_mover_turn_L8 depth more v28 v29 v30 t o6 o26 by_ from_ lost)) t depth by_ from_ lost
  | .shift_walk_mover_turn_L8 depth more v28 v29 v30 t o6 o26 by_ from_ lost => shift_walk_mover_turn_L8_B (fun t depth by_ from_ lost => g (I_shift_walk_mover_turn.shift_walk_mover_turn t depth by_ from_ lost)) (fun depth more v28 v29 v30 t o6 o26 by_ from_ lost => g (I_shift_walk_mover_turn.shift_walk_mover_turn_L8 depth more v28 v29 v30 t o6 o26 by_ from_ lost)) depth more v28 v29 v30 t o6 o26 by_ from_ lost
theorem D_shift_walk_mover_turn : ∀ i, Good (fun g => F_shift_walk_mover_turn g i)
  | .shift_walk_mover_turn t depth by_ from_ lost => show Good (fun g : Fam R_shift_walk_mover_turn => shift_walk_mover_turn_B (fun depth more v28 v29 v30 t o6 o26 by_ from_ lost => g (I_shift_walk_mover_turn.shift_walk_mover_turn_L8 depth more v28 v29 v30 t o6 o26 by_ from_ lost)) t depth by_ from_ lost) by unfold shift_walk_mover_turn_B; exact (.ite (.bind (.const _) fun _ => (.const _)) (.ite (.const _) (.ite (.call _) (.const _))))
  | .shift_walk_mover_turn_L8 depth more v28 v29 v30 t o6 o26 by_ from_ lost => show Good (fun g : Fam R_shift_walk_mover_turn => shift_walk_mover_turn_L8_B (fun t depth by_ from_ lost => g (I_shift_walk_mover_turn.shift_walk_mover_turn t depth by_ from_ lost)) (fun depth more v28 v29 v30 t o6 o26 by_ from_ lost => g (I_shift_walk_mover_turn.shift_walk_mover_turn_L8 depth more v28 v29 v30 t o6 o26 by_ from_ lost)) depth more v28 v29 v30 t o6 o26 by_ from_ lost) by unfold shift_walk_mover_turn_L8_B; exact (.ite (.bind (.const _) fun _ => (.ite (.bind (.call _) fun _ => (.ite (.ite (.bind (.const _) fun _ => (.ite (.call _) (.call _))) (.const _)) (.const _))) (.bind (.const _) fun _ => (.bind (.call _) fun _ => (.ite (.ite (.call _) (.const _)) (.const _)))))) (.const _))
def shift_walk_mover_turn (t : Term) (depth : Int) (by_ : Int) (from_ : Int) (lost : Bool) : Option (Term × Int × Int × Bool) := fixF F_shift_walk_mover_turn (.shift_walk_mover_turn t depth by_ from_ lost)
def shift_walk_mover_turn_L8 (depth : Int) (more : Int) (v28 : List Term) (v29 : Int) (v30 : Int) (t : Term) (o6 : Term) (o26 : List Term) (by_ : Int) (from_ : Int) (lost : Bool) : Option (Term × Int × Int × Bool) := fixF F_shift_walk_mover_turn (.shift_walk_mover_turn_L8 depth more v28 v29 v30 t o6 o26 by_ from_ lost)
theorem shift_walk_mover_turn_eq (t : Term) (depth : Int) (by_ : Int) (from_ : Int) (lost : Bool) : shift_walk_mover_turn t depth by_ from_ lost = shift_walk_mover_turn_B shift_walk_mover_turn_L8 t depth by_ from_ lost := fixF_eq D_shift_walk_mover_turn (.shift_walk_mover_turn t depth by_ from_ lost)
theorem shift_walk_mover_turn_L8_eq (depth : Int) (more : Int) (v28 : List Term) (v29 : Int) (v30 : Int) (t : Term) (o6 : Term) (o26 : List Term) (by_ : Int) (from_ : Int) (lost : Bool) : shift_walk_mover_turn_L8 depth more v28 v29 v30 t o6 o26 by_ from_ lost = shift_walk_mover_turn_L8_B shift_walk_mover_turn shift_walk_mover_turn_L8 depth more v28 v29 v30 t o6 o26 by_ from_ lost := fixF_eq D_shift_walk_mover_turn (.shift_walk_mover_turn_L8 depth more v28 v29 v30 t o6 o26 by_ from_ lost)
def shift_Shift (t : Term) (by_ : Int) (from_ : Int) : Option (Term × Bool × H) :=
  if from_ < 0 then
    some ((Term.mk 0 0 ([] : List UInt8) [] 0 0), false, ([] : H))
  else
  if from_ > 8192 then
    some ((Term.mk 0 0 ([] : List UInt8) [] 0 0), false, ([] : H))
  else
  if by_ > 8192 then
    some ((Term.mk 0 0 ([] : List UInt8) [] 0 0), false, ([] : H))
  else
  if by_ < (-8192) then
    some ((Term.mk 0 0 ([] : List UInt8) [] 0 0), false, ([] : H))
  else
  shift_walk_mover_turn t 0 by_ from_ false >>= fun q1 =>
  if q1.2.2.2 = true then
    some ((Term.mk 0 0 ([] : List UInt8) [] 0 0), false, ([[.d (.int .i64 q1.2.1), .d (.int .i64 q1.2.2.1), .d (.bool q1.2.2.2)]] : H))
  else
  some (q1.1, true, ([[.d (.int .i64 q1.2.1), .d (.int .i64 q1.2.2.1), .d (.bool q1.2.2.2)]] : H))
def flow_Loop (t : Term) : Option (Term × Bool) :=
  flow_is t 25 3 1 >>= fun q1 =>
  if q1 = true then
    idx t.L 1 >>= fun x =>
    shift_Shift x 1 0 >>= fun q2 =>
    idx t.L 2 >>= fun x1 =>
    shift_Shift x1 2 1 >>= fun q3 =>
    flow_local 2 >>= fun q4 =>
    flow_local 1 >>= fun q5 =>
    flow_local 2 >>= fun q6 =>
    flow_block [(Term.mk 20 0 ([] : List UInt8) [q5] 0 0), q3.1, (Term.mk 22 0 ([] : List UInt8) [q6, (Term.mk 10 9 ([] : List UInt8) [q4, (Term.mk 5 1 ([] : List UInt8) [] 0 0)] 0 0)] 0 0)] >>= fun q7 =>
    flow_local 1 >>= fun q8 =>
    flow_local 0 >>= fun q9 =>
    if (0 : Int) ≤ 1 then
    if Int.toNat 1 ≤ List.length t.L then
    if (0 : Int) ≤ 1 then
    if Int.toNat 1 = Int.toNat 1 then
    if 0 ≤ Int.toNat 1 then
    flow_block [(Term.mk 20 0 ([] : List UInt8) (List.drop 0 (List.take (Int.toNat 1) t.L)) 0 0), (Term.mk 20 0 ([] : List UInt8) [q2.1] 0 0), (Term.mk 24 0 ([] : List UInt8) [(Term.mk 10 5 ([] : List UInt8) [q8, q9] 0 0), q7] 0 0)] >>= fun q10 =>
    some (q10, true)
    else none
    else none
    else none
    else none
    else none
  else
  some ((Term.mk 0 0 ([] : List UInt8) [] 0 0), false)
def term_Same_B (slices_EqualFunc_G89Same : (List Term) → (List Term) → Option (Bool)) (a : Term) (b : Term) : Option (Bool) :=
  if a.K = b.K then
    if a.N = b.N then
      if a.S = b.S then
        slices_EqualFunc_G89Same a.L b.L >>= fun q1 =>
        some (q1)
      else
      some (false)
    else
    some (false)
  else
  some (false)
def slices_EqualFunc_G89Same_B (slices_EqualFunc_G89Same_L4 : (List Term) → (List Term) → Int → Int → Option (Bool)) (s1 : List Term) (s2 : List Term) : Option (Bool) :=
  if (List.length s1 : Int) = (List.length s2 : Int) then
    slices_EqualFunc_G89Same_L4 s2 s1 (List.length s1 : Int) 0
  else
  some (false)
def slices_EqualFunc_G89Same_L4_B (term_Same : Term → Term → Option (Bool)) (slices_EqualFunc_G89Same_L4 : (List Term) → (List Term) → Int → Int → Option (Bool)) (s2 : List Term) (v15 : List Term) (v16 : Int) (v17 : Int) : Option (Bool) :=
  if v17 < v16 then
    idx v15 v17 >>= fun x =>
    idx s2 v17 >>= fun x1 =>
    term_Same x x1 >>= fun q1 =>
    if q1 = true then
      slices_EqualFunc_G89Same_L4 s2 v15 v16 (IntKind.wrap .i64 (v17 + 1))
    else
    some (false)
  else
  some (true)
inductive I_term_Same where
  | term_Same (a : Term) (b : Term)
  | slices_EqualFunc_G89Same (s1 : List Term) (s2 : List Term)
  | slices_EqualFunc_G89Same_L4 (s2 : List Term) (v15 : List Term) (v16 : Int) (v17 : Int)
@[reducible] def R_term_Same : I_term_Same → Type
  | .term_Same _ _ => Bool
  | .slices_EqualFunc_G89Same _ _ => Bool
  | .slices_EqualFunc_G89Same_L4 _ _ _ _ => Bool
def F_term_Same (g : Fam R_term_Same) : Fam R_term_Same
  | .term_Same a b => term_Same_B (fun s1 s2 => g (I_term_Same.slices_EqualFunc_G89Same s1 s2)) a b
  | .slices_EqualFunc_G89Same s1 s2 => slices_EqualFunc_G89Same_B (fun s2 v15 v16 v17 => g (I_term_Same.slices_EqualFunc_G89Same_L4 s2 v15 v16 v17)) s1 s2
  | .slices_EqualFunc_G89Same_L4 s2 v15 v16 v17 => slices_EqualFunc_G89Same_L4_B (fun a b => g (I_term_Same.term_Same a b)) (fun s2 v15 v16 v17 => g (I_term_Same.slices_EqualFunc_G89Same_L4 s2 v15 v16 v17)) s2 v15 v16 v17
theorem D_term_Same : ∀ i, Good (fun g => F_term_Same g i)
  | .term_Same a b => show Good (fun g : Fam R_term_Same => term_Same_B (fun s1 s2 => g (I_term_Same.slices_EqualFunc_G89Same s1 s2)) a b) by unfold term_Same_B; exact (.ite (.ite (.ite (.bind (.call _) fun _ => (.const _)) (.const _)) (.const _)) (.const _))
  | .slices_EqualFunc_G89Same s1 s2 => show Good (fun g : Fam R_term_Same => slices_EqualFunc_G89Same_B (fun s2 v15 v16 v17 => g (I_term_Same.slices_EqualFunc_G89Same_L4 s2 v15 v16 v17)) s1 s2) by unfold slices_EqualFunc_G89Same_B; exact (.ite (.call _) (.const _))
  | .slices_EqualFunc_G89Same_L4 s2 v15 v16 v17 => show Good (fun g : Fam R_term_Same => slices_EqualFunc_G89Same_L4_B (fun a b => g (I_term_Same.term_Same a b)) (fun s2 v15 v16 v17 => g (I_term_Same.slices_EqualFunc_G89Same_L4 s2 v15 v16 v17)) s2 v15 v16 v17) by unfold slices_EqualFunc_G89Same_L4_B; exact (.ite (.bind (.const _) fun _ => (.bind (.const _) fun _ => (.bind (.call _) fun _ => (.ite (.call _) (.const _))))) (.const _))
def term_Same (a : Term) (b : Term) : Option (Bool) := fixF F_term_Same (.term_Same a b)
def slices_EqualFunc_G89Same (s1 : List Term) (s2 : List Term) : Option (Bool) := fixF F_term_Same (.slices_EqualFunc_G89Same s1 s2)
def slices_EqualFunc_G89Same_L4 (s2 : List Term) (v15 : List Term) (v16 : Int) (v17 : Int) : Option (Bool) := fixF F_term_Same (.slices_EqualFunc_G89Same_L4 s2 v15 v16 v17)
theorem term_Same_eq (a : Term) (b : Term) : term_Same a b = term_Same_B slices_EqualFunc_G89Same a b := fixF_eq D_term_Same (.term_Same a b)
theorem slices_EqualFunc_G89Same_eq (s1 : List Term) (s2 : List Term) : slices_EqualFunc_G89Same s1 s2 = slices_EqualFunc_G89Same_B slices_EqualFunc_G89Same_L4 s1 s2 := fixF_eq D_term_Same (.slices_EqualFunc_G89Same s1 s2)
theorem slices_EqualFunc_G89Same_L4_eq (s2 : List Term) (v15 : List Term) (v16 : Int) (v17 : Int) : slices_EqualFunc_G89Same_L4 s2 v15 v16 v17 = slices_EqualFunc_G89Same_L4_B term_Same slices_EqualFunc_G89Same_L4 s2 v15 v16 v17 := fixF_eq D_term_Same (.slices_EqualFunc_G89Same_L4 s2 v15 v16 v17)
def flow_use_count (u : FlowUse) : Option (Bool) :=
  flow_Loop u.l >>= fun q1 =>
  if q1.2 = true then
    term_Same u.r_ q1.1 >>= fun q2 =>
    some (q2)
  else
  some (false)
def flow_use_invert (u : FlowUse) : Option (Bool) :=
  if (0 : Int) ≤ 1 then
  if Int.toNat 1 ≤ List.length u.l.L then
  if 0 ≤ Int.toNat 1 then
  idx u.l.L 2 >>= fun x =>
  idx u.l.L 1 >>= fun x1 =>
  term_Same u.r_ (Term.mk 23 0 ([] : List UInt8) [(Term.mk 11 2 ([] : List UInt8) (List.drop 0 (List.take (Int.toNat 1) u.l.L)) 0 0), x, x1] 0 0) >>= fun q1 =>
  some (q1)
  else none
  else none
  else none
def flow_truth (t : Term) (n : Int) : Option (Bool) :=
  term_Same t (Term.mk 6 n ([] : List UInt8) [] 0 0) >>= fun q1 =>
  some (q1)
def flow_use_never (u : FlowUse) : Option (Bool) :=
  idx u.l.L 0 >>= fun x =>
  flow_truth x 0 >>= fun q1 =>
  if q1 = true then
    flow_block [] >>= fun q2 =>
    term_Same u.r_ q2 >>= fun q3 =>
    some (q3)
  else
  some (false)
def flow_use_no (u : FlowUse) : Option (Bool) :=
  idx u.l.L 0 >>= fun x =>
  flow_truth x 0 >>= fun q1 =>
  if q1 = true then
    idx u.l.L 2 >>= fun x1 =>
    term_Same u.r_ x1 >>= fun q2 =>
    some (q2)
  else
  some (false)
def flow_use_once (u : FlowUse) : Option (Bool) :=
  idx u.l.L 1 >>= fun x =>
  flow_block [x, u.l] >>= fun q1 =>
  idx u.l.L 0 >>= fun x1 =>
  flow_block [] >>= fun q2 =>
  term_Same u.r_ (Term.mk 23 0 ([] : List UInt8) [x1, q1, q2] 0 0) >>= fun q3 =>
  some (q3)
def flow_use_either (u : FlowUse) : Option (Bool) :=
  idx u.l.L 1 >>= fun x =>
  idx u.l.L 2 >>= fun x1 =>
  term_Same x x1 >>= fun q1 =>
  if q1 = true then
    idx u.l.L 1 >>= fun x2 =>
    term_Same u.r_ x2 >>= fun q2 =>
    some (q2)
  else
  some (false)
def quiet_Quiet_L3_B (quiet_Quiet_L3 : Bool → (List Term) → Int → Int → Option (Bool)) (quiet : Bool) (v7 : List Term) (v8 : Int) (v9 : Int) : Option (Bool) :=
  if v9 < v8 then
    idx v7 v9 >>= fun x =>
    if x.K = 5 then
      quiet_Quiet_L3 quiet v7 v8 (IntKind.wrap .i64 (v9 + 1))
    else
    if x.K = 6 then
      quiet_Quiet_L3 quiet v7 v8 (IntKind.wrap .i64 (v9 + 1))
    else
    if x.K = 7 then
      quiet_Quiet_L3 quiet v7 v8 (IntKind.wrap .i64 (v9 + 1))
    else
    if x.K = 8 then
      quiet_Quiet_L3 quiet v7 v8 (IntKind.wrap .i64 (v9 + 1))
    else
    if x.K = 9 then
      quiet_Quiet_L3 quiet v7 v8 (IntKind.wrap .i64 (v9 + 1))
    else
    if x.K = 11 then
      quiet_Quiet_L3 quiet v7 v8 (IntKind.wrap .i64 (v9 + 1))
    else
    if x.K = 13 then
      quiet_Quiet_L3 quiet v7 v8 (IntKind.wrap .i64 (v9 + 1))
    else
    if x.K = 14 then
      quiet_Quiet_L3 quiet v7 v8 (IntKind.wrap .i64 (v9 + 1))
    else
    if x.K = 15 then
      quiet_Quiet_L3 quiet v7 v8 (IntKind.wrap .i64 (v9 + 1))
    else
    if x.K = 10 then
      if x.N = 12 then
        if (List.length x.L : Int) < 2 then
          some (false)
        else
        idx x.L 1 >>= fun x33 =>
        if x33.K = 5 then
          idx x.L 1 >>= fun x34 =>
          if x34.N = 0 then
            some (false)
          else
          quiet_Quiet_L3 quiet v7 v8 (IntKind.wrap .i64 (v9 + 1))
        else
        some (false)
      else
      if x.N = 13 then
        if (List.length x.L : Int) < 2 then
          some (false)
        else
        idx x.L 1 >>= fun x35 =>
        if x35.K = 5 then
          idx x.L 1 >>= fun x36 =>
          if x36.N = 0 then
            some (false)
          else
          quiet_Quiet_L3 quiet v7 v8 (IntKind.wrap .i64 (v9 + 1))
        else
        some (false)
      else
      quiet_Quiet_L3 quiet v7 v8 (IntKind.wrap .i64 (v9 + 1))
    else
    some (false)
  else
  some (quiet)
inductive I_quiet_Quiet_L3 where
  | quiet_Quiet_L3 (quiet : Bool) (v7 : List Term) (v8 : Int) (v9 : Int)
@[reducible] def R_quiet_Quiet_L3 : I_quiet_Quiet_L3 → Type
  | .quiet_Quiet_L3 _ _ _ _ => Bool
def F_quiet_Quiet_L3 (g : Fam R_quiet_Quiet_L3) : Fam R_quiet_Quiet_L3
  | .quiet_Quiet_L3 quiet v7 v8 v9 => quiet_Quiet_L3_B (fun quiet v7 v8 v9 => g (I_quiet_Quiet_L3.quiet_Quiet_L3 quiet v7 v8 v9)) quiet v7 v8 v9
theorem D_quiet_Quiet_L3 : ∀ i, Good (fun g => F_quiet_Quiet_L3 g i)
  | .quiet_Quiet_L3 quiet v7 v8 v9 => show Good (fun g : Fam R_quiet_Quiet_L3 => quiet_Quiet_L3_B (fun quiet v7 v8 v9 => g (I_quiet_Quiet_L3.quiet_Quiet_L3 quiet v7 v8 v9)) quiet v7 v8 v9) by unfold quiet_Quiet_L3_B; exact (.ite (.bind (.const _) fun _ => (.ite (.call _) (.ite (.call _) (.ite (.call _) (.ite (.call _) (.ite (.call _) (.ite (.call _) (.ite (.call _) (.ite (.call _) (.ite (.call _) (.ite (.ite (.ite (.const _) (.bind (.const _) fun _ => (.ite (.bind (.const _) fun _ => (.ite (.const _) (.call _))) (.const _)))) (.ite (.ite (.const _) (.bind (.const _) fun _ => (.ite (.bind (.const _) fun _ => (.ite (.const _) (.call _))) (.const _)))) (.call _))) (.const _)))))))))))) (.const _))
def quiet_Quiet_L3 (quiet : Bool) (v7 : List Term) (v8 : Int) (v9 : Int) : Option (Bool) := fixF F_quiet_Quiet_L3 (.quiet_Quiet_L3 quiet v7 v8 v9)
theorem quiet_Quiet_L3_eq (quiet : Bool) (v7 : List Term) (v8 : Int) (v9 : Int) : quiet_Quiet_L3 quiet v7 v8 v9 = quiet_Quiet_L3_B quiet_Quiet_L3 quiet v7 v8 v9 := fixF_eq D_quiet_Quiet_L3 (.quiet_Quiet_L3 quiet v7 v8 v9)
def quiet_all_L3_B (quiet_all_L3 : (List Term) → Int → Option (List Term)) (out : List Term) (i : Int) : Option (List Term) :=
  if i < (List.length out : Int) then
    idx out i >>= fun x =>
    if roomy 72 (List.length out + List.length x.L) then
    quiet_all_L3 (out ++ x.L) (IntKind.wrap .i64 (i + 1))
    else none
  else
  some (out)
inductive I_quiet_all_L3 where
  | quiet_all_L3 (out : List Term) (i : Int)
@[reducible] def R_quiet_all_L3 : I_quiet_all_L3 → Type
  | .quiet_all_L3 _ _ => List Term
def F_quiet_all_L3 (g : Fam R_quiet_all_L3) : Fam R_quiet_all_L3
  | .quiet_all_L3 out i => quiet_all_L3_B (fun out i => g (I_quiet_all_L3.quiet_all_L3 out i)) out i
theorem D_quiet_all_L3 : ∀ i, Good (fun g => F_quiet_all_L3 g i)
  | .quiet_all_L3 out i => show Good (fun g : Fam R_quiet_all_L3 => quiet_all_L3_B (fun out i => g (I_quiet_all_L3.quiet_all_L3 out i)) out i) by unfold quiet_all_L3_B; exact (.ite (.bind (.const _) fun _ => (.ite (.call _) (.const _))) (.const _))
def quiet_all_L3 (out : List Term) (i : Int) : Option (List Term) := fixF F_quiet_all_L3 (.quiet_all_L3 out i)
theorem quiet_all_L3_eq (out : List Term) (i : Int) : quiet_all_L3 out i = quiet_all_L3_B quiet_all_L3 out i := fixF_eq D_quiet_all_L3 (.quiet_all_L3 out i)
def quiet_all (t : Term) : Option (List Term) :=
  quiet_all_L3 [t] 0
def quiet_Quiet (t : Term) : Option (Bool) :=
  quiet_all t >>= fun q1 =>
  quiet_Quiet_L3 true q1 (List.length q1 : Int) 0
def flow_use_same (u : FlowUse) : Option (Bool) :=
  idx u.l.L 0 >>= fun x =>
  quiet_Quiet x >>= fun q1 =>
  if q1 = true then
    flow_use_either u >>= fun q2 =>
    some (q2)
  else
  some (false)
def flow_use_yes (u : FlowUse) : Option (Bool) :=
  idx u.l.L 0 >>= fun x =>
  flow_truth x 1 >>= fun q1 =>
  if q1 = true then
    idx u.l.L 1 >>= fun x1 =>
    term_Same u.r_ x1 >>= fun q2 =>
    some (q2)
  else
  some (false)
def flow_Holds (rule : Int) (l : Term) (r_ : Term) : Option (Bool) :=
  flow_is l 23 3 2 >>= fun q1 =>
  if rule = 34 then
    if q1 = true then
      flow_use_invert (FlowUse.mk l r_) >>= fun q2 =>
      some (q2)
    else
    some (false)
  else
  if rule = 35 then
    if q1 = true then
      flow_use_yes (FlowUse.mk l r_) >>= fun q3 =>
      some (q3)
    else
    some (false)
  else
  if rule = 36 then
    if q1 = true then
      flow_use_no (FlowUse.mk l r_) >>= fun q4 =>
      some (q4)
    else
    some (false)
  else
  if rule = 37 then
    if q1 = true then
      flow_use_same (FlowUse.mk l r_) >>= fun q5 =>
      some (q5)
    else
    some (false)
  else
  if rule = 38 then
    flow_is l 24 2 1 >>= fun q6 =>
    if q6 = true then
      flow_use_never (FlowUse.mk l r_) >>= fun q7 =>
      some (q7)
    else
    some (false)
  else
  if rule = 39 then
    flow_is l 24 2 1 >>= fun q8 =>
    if q8 = true then
      flow_use_once (FlowUse.mk l r_) >>= fun q9 =>
      some (q9)
    else
    some (false)
  else
  if rule = 40 then
    flow_is l 25 3 1 >>= fun q10 =>
    if q10 = true then
      flow_use_count (FlowUse.mk l r_) >>= fun q11 =>
      some (q11)
    else
    some (false)
  else
  some (false)
def ref28Make (kind : Int) (l : List Term) : Option (Term) :=
  some ((Term.mk kind 0 ([] : List UInt8) l 0 0))
def ref28Block (l : List Term) : Option (Term) :=
  ref28Make 29 l >>= fun q1 =>
  some (q1)
def law28awake  : Option (Bool) :=
  ref28Block [] >>= fun q1 =>
  ref28Make 24 [(Term.mk 6 0 ([] : List UInt8) [] 0 0), q1] >>= fun q2 =>
  ref28Block [] >>= fun q3 =>
  flow_Holds 38 q2 q3 >>= fun q4 =>
  some (q4)
def ref06Count_B (ref06Count_L5 : Int → Int → Int → Term → Option (Int)) (t : Term) (left : Int) (levels : Int) : Option (Int) :=
  if levels ≤ 0 then
    some ((-1))
  else
  ref06Count_L5 (IntKind.wrap .i64 (left - 1)) levels 0 t
def ref06Count_L5_B (ref06Count : Term → Int → Int → Option (Int)) (ref06Count_L5 : Int → Int → Int → Term → Option (Int)) (left : Int) (levels : Int) (i : Int) (t : Term) : Option (Int) :=
  if i < (List.length t.L : Int) then
    if left ≥ 0 then
      idx t.L i >>= fun x =>
      ref06Count x left (IntKind.wrap .i64 (levels - 1)) >>= fun q1 =>
      ref06Count_L5 q1 levels (IntKind.wrap .i64 (i + 1)) t
    else
    some (left)
  else
  some (left)
inductive I_ref06Count where
  | ref06Count (t : Term) (left : Int) (levels : Int)
  | ref06Count_L5 (left : Int) (levels : Int) (i : Int) (t : Term)
@[reducible] def R_ref06Count : I_ref06Count → Type
  | .ref06Count _ _ _ => Int
  | .ref06Count_L5 _ _ _ _ => Int
def F_ref06Count (g : Fam R_ref06Count) : Fam R_ref06Count
  | .ref06Count t left levels => ref06Count_B (fun left levels i t => g (I_ref06Count.ref06Count_L5 left levels i t)) t left levels
  | .ref06Count_L5 left levels i t => ref06Count_L5_B (fun t left levels => g (I_ref06Count.ref06Count t left levels)) (fun left levels i t => g (I_ref06Count.ref06Count_L5 left levels i t)) left levels i t
theorem D_ref06Count : ∀ i, Good (fun g => F_ref06Count g i)
  | .ref06Count t left levels => show Good (fun g : Fam R_ref06Count => ref06Count_B (fun left levels i t => g (I_ref06Count.ref06Count_L5 left levels i t)) t left levels) by unfold ref06Count_B; exact (.ite (.const _) (.call _))
  | .ref06Count_L5 left levels i t => show Good (fun g : Fam R_ref06Count => ref06Count_L5_B (fun t left levels => g (I_ref06Count.ref06Count t left levels)) (fun left levels i t => g (I_ref06Count.ref06Count_L5 left levels i t)) left levels i t) by unfold ref06Count_L5_B; exact (.ite (.ite (.bind (.const _) fun _ => (.bind (.call _) fun _ => (.call _))) (.const _)) (.const _))
def ref06Count (t : Term) (left : Int) (levels : Int) : Option (Int) := fixF F_ref06Count (.ref06Count t left levels)
def ref06Count_L5 (left : Int) (levels : Int) (i : Int) (t : Term) : Option (Int) := fixF F_ref06Count (.ref06Count_L5 left levels i t)
theorem ref06Count_eq (t : Term) (left : Int) (levels : Int) : ref06Count t left levels = ref06Count_B ref06Count_L5 t left levels := fixF_eq D_ref06Count (.ref06Count t left levels)
theorem ref06Count_L5_eq (left : Int) (levels : Int) (i : Int) (t : Term) : ref06Count_L5 left levels i t = ref06Count_L5_B ref06Count ref06Count_L5 left levels i t := fixF_eq D_ref06Count (.ref06Count_L5 left levels i t)
def ref06Named_B (ref06Named_L4 : Int → Term → Option (Bool)) (t : Term) : Option (Bool) :=
  if (List.length t.S : Int) > 40 then
    some (true)
  else
  ref06Named_L4 0 t
def ref06Named_L4_B (ref06Named : Term → Option (Bool)) (ref06Named_L4 : Int → Term → Option (Bool)) (i : Int) (t : Term) : Option (Bool) :=
  if i < (List.length t.L : Int) then
    idx t.L i >>= fun x =>
    ref06Named x >>= fun q1 =>
    if q1 = true then
      some (true)
    else
    ref06Named_L4 (IntKind.wrap .i64 (i + 1)) t
  else
  some (false)
inductive I_ref06Named where
  | ref06Named (t : Term)
  | ref06Named_L4 (i : Int) (t : Term)
@[reducible] def R_ref06Named : I_ref06Named → Type
  | .ref06Named _ => Bool
  | .ref06Named_L4 _ _ => Bool
def F_ref06Named (g : Fam R_ref06Named) : Fam R_ref06Named
  | .ref06Named t => ref06Named_B (fun i t => g (I_ref06Named.ref06Named_L4 i t)) t
  | .ref06Named_L4 i t => ref06Named_L4_B (fun t => g (I_ref06Named.ref06Named t)) (fun i t => g (I_ref06Named.ref06Named_L4 i t)) i t
theorem D_ref06Named : ∀ i, Good (fun g => F_ref06Named g i)
  | .ref06Named t => show Good (fun g : Fam R_ref06Named => ref06Named_B (fun i t => g (I_ref06Named.ref06Named_L4 i t)) t) by unfold ref06Named_B; exact (.ite (.const _) (.call _))
  | .ref06Named_L4 i t => show Good (fun g : Fam R_ref06Named => ref06Named_L4_B (fun t => g (I_ref06Named.ref06Named t)) (fun i t => g (I_ref06Named.ref06Named_L4 i t)) i t) by unfold ref06Named_L4_B; exact (.ite (.bind (.const _) fun _ => (.bind (.call _) fun _ => (.ite (.const _) (.call _)))) (.const _))
def ref06Named (t : Term) : Option (Bool) := fixF F_ref06Named (.ref06Named t)
def ref06Named_L4 (i : Int) (t : Term) : Option (Bool) := fixF F_ref06Named (.ref06Named_L4 i t)
theorem ref06Named_eq (t : Term) : ref06Named t = ref06Named_B ref06Named_L4 t := fixF_eq D_ref06Named (.ref06Named t)
theorem ref06Named_L4_eq (i : Int) (t : Term) : ref06Named_L4 i t = ref06Named_L4_B ref06Named ref06Named_L4 i t := fixF_eq D_ref06Named (.ref06Named_L4 i t)
def ref06Large (t : Term) : Option (Bool) :=
  ref06Count t 400 70 >>= fun q1 =>
  if q1 < 0 then
    some (true)
  else
  ref06Named t >>= fun q2 =>
  some (q2)
def ref06Placed_B (ref06Placed_L4 : Int → Term → Term → Option (Bool)) (a : Term) (b : Term) : Option (Bool) :=
  if a.K = b.K then
    if a.N = b.N then
      if a.S = b.S then
        if a.From = b.From then
          if a.To = b.To then
            if (List.length a.L : Int) = (List.length b.L : Int) then
              ref06Placed_L4 0 a b
            else
            some (false)
          else
          some (false)
        else
        some (false)
      else
      some (false)
    else
    some (false)
  else
  some (false)
def ref06Placed_L4_B (ref06Placed : Term → Term → Option (Bool)) (ref06Placed_L4 : Int → Term → Term → Option (Bool)) (i : Int) (a : Term) (b : Term) : Option (Bool) :=
  if i < (List.length a.L : Int) then
    idx a.L i >>= fun x =>
    idx b.L i >>= fun x1 =>
    ref06Placed x x1 >>= fun q1 =>
    if q1 = true then
      ref06Placed_L4 (IntKind.wrap .i64 (i + 1)) a b
    else
    some (false)
  else
  some (true)
inductive I_ref06Placed where
  | ref06Placed (a : Term) (b : Term)
  | ref06Placed_L4 (i : Int) (a : Term) (b : Term)
@[reducible] def R_ref06Placed : I_ref06Placed → Type
  | .ref06Placed _ _ => Bool
  | .ref06Placed_L4 _ _ _ => Bool
def F_ref06Placed (g : Fam R_ref06Placed) : Fam R_ref06Placed
  | .ref06Placed a b => ref06Placed_B (fun i a b => g (I_ref06Placed.ref06Placed_L4 i a b)) a b
  | .ref06Placed_L4 i a b => ref06Placed_L4_B (fun a b => g (I_ref06Placed.ref06Placed a b)) (fun i a b => g (I_ref06Placed.ref06Placed_L4 i a b)) i a b
theorem D_ref06Placed : ∀ i, Good (fun g => F_ref06Placed g i)
  | .ref06Placed a b => show Good (fun g : Fam R_ref06Placed => ref06Placed_B (fun i a b => g (I_ref06Placed.ref06Placed_L4 i a b)) a b) by unfold ref06Placed_B; exact (.ite (.ite (.ite (.ite (.ite (.ite (.call _) (.const _)) (.const _)) (.const _)) (.const _)) (.const _)) (.const _))
  | .ref06Placed_L4 i a b => show Good (fun g : Fam R_ref06Placed => ref06Placed_L4_B (fun a b => g (I_ref06Placed.ref06Placed a b)) (fun i a b => g (I_ref06Placed.ref06Placed_L4 i a b)) i a b) by unfold ref06Placed_L4_B; exact (.ite (.bind (.const _) fun _ => (.bind (.const _) fun _ => (.bind (.call _) fun _ => (.ite (.call _) (.const _))))) (.const _))
def ref06Placed (a : Term) (b : Term) : Option (Bool) := fixF F_ref06Placed (.ref06Placed a b)
def ref06Placed_L4 (i : Int) (a : Term) (b : Term) : Option (Bool) := fixF F_ref06Placed (.ref06Placed_L4 i a b)
theorem ref06Placed_eq (a : Term) (b : Term) : ref06Placed a b = ref06Placed_B ref06Placed_L4 a b := fixF_eq D_ref06Placed (.ref06Placed a b)
theorem ref06Placed_L4_eq (i : Int) (a : Term) (b : Term) : ref06Placed_L4 i a b = ref06Placed_L4_B ref06Placed ref06Placed_L4 i a b := fixF_eq D_ref06Placed (.ref06Placed_L4 i a b)
def ref14Outer (t : Term) (depth : Int) : Option (Int) :=
  if t.N < depth then
    some ((-1))
  else
  some (IntKind.wrap .i64 (t.N - depth))
def ref14In_L6_B (ref14In_L6 : Int → Int → Int → Term → Option (Int)) (i : Int) (n : Int) (k : Int) (t : Term) : Option (Int) :=
  if k < i then
    idx t.L k >>= fun x =>
    if x.K = 20 then
      ref14In_L6 i (IntKind.wrap .i64 (n + 1)) (IntKind.wrap .i64 (k + 1)) t
    else
    idx t.L k >>= fun x1 =>
    if x1.K = 21 then
      ref14In_L6 i (IntKind.wrap .i64 (n + 1)) (IntKind.wrap .i64 (k + 1)) t
    else
    ref14In_L6 i n (IntKind.wrap .i64 (k + 1)) t
  else
  some (n)
inductive I_ref14In_L6 where
  | ref14In_L6 (i : Int) (n : Int) (k : Int) (t : Term)
@[reducible] def R_ref14In_L6 : I_ref14In_L6 → Type
  | .ref14In_L6 _ _ _ _ => Int
def F_ref14In_L6 (g : Fam R_ref14In_L6) : Fam R_ref14In_L6
  | .ref14In_L6 i n k t => ref14In_L6_B (fun i n k t => g (I_ref14In_L6.ref14In_L6 i n k t)) i n k t
theorem D_ref14In_L6 : ∀ i, Good (fun g => F_ref14In_L6 g i)
  | .ref14In_L6 i n k t => show Good (fun g : Fam R_ref14In_L6 => ref14In_L6_B (fun i n k t => g (I_ref14In_L6.ref14In_L6 i n k t)) i n k t) by unfold ref14In_L6_B; exact (.ite (.bind (.const _) fun _ => (.ite (.call _) (.bind (.const _) fun _ => (.ite (.call _) (.call _))))) (.const _))
def ref14In_L6 (i : Int) (n : Int) (k : Int) (t : Term) : Option (Int) := fixF F_ref14In_L6 (.ref14In_L6 i n k t)
theorem ref14In_L6_eq (i : Int) (n : Int) (k : Int) (t : Term) : ref14In_L6 i n k t = ref14In_L6_B ref14In_L6 i n k t := fixF_eq D_ref14In_L6 (.ref14In_L6 i n k t)
def ref14In (t : Term) (i : Int) : Option (Int) :=
  if i < 0 then
    some (0)
  else
  if i ≥ (List.length t.L : Int) then
    some (0)
  else
  if t.K = 29 then
    ref14In_L6 i 0 0 t
  else
  if t.K = 25 then
    if i = 2 then
      some (1)
    else
    some (0)
  else
  if t.K = 33 then
    if i = 2 then
      idx t.L 0 >>= fun x1 =>
      some ((List.length x1.L : Int))
    else
    some (0)
  else
  some (0)
def ref14Raise_B (ref14Raise_L7 : Int → Int → Int → (List Term) → Int → Term → Term → Option (Term)) (t : Term) (by_ : Int) (from_ : Int) (depth : Int) : Option (Term) :=
  if t.K = 7 then
    ref14Outer t depth >>= fun q1 =>
    if q1 ≥ from_ then
      some ({ t with N := IntKind.wrap .i64 (t.N + by_) })
    else
    some (t)
  else
  ref14Raise_L7 by_ from_ depth ([] : List Term) 0 t (Term.mk 0 0 ([] : List UInt8) [] 0 0)
def ref14Raise_L7_B (ref14Raise : Term → Int → Int → Int → Option (Term)) (ref14Raise_L7 : Int → Int → Int → (List Term) → Int → Term → Term → Option (Term)) (by_ : Int) (from_ : Int) (depth : Int) (out : List Term) (i : Int) (t : Term) (o8 : Term) : Option (Term) :=
  if i < (List.length t.L : Int) then
    idx t.L i >>= fun x =>
    ref14In t i >>= fun q1 =>
    ref14Raise x by_ from_ (IntKind.wrap .i64 (depth + q1)) >>= fun q2 =>
    if roomy 72 (List.length out + List.length [q2]) then
    ref14Raise_L7 by_ from_ depth (out ++ [q2]) (IntKind.wrap .i64 (i + 1)) t o8
    else none
  else
  some ({ t with L := out })
inductive I_ref14Raise where
  | ref14Raise (t : Term) (by_ : Int) (from_ : Int) (depth : Int)
  | ref14Raise_L7 (by_ : Int) (from_ : Int) (depth : Int) (out : List Term) (i : Int) (t : Term) (o8 : Term)
@[reducible] def R_ref14Raise : I_ref14Raise → Type
  | .ref14Raise _ _ _ _ => Term
  | .ref14Raise_L7 _ _ _ _ _ _ _ => Term
def F_ref14Raise (g : Fam R_ref14Raise) : Fam R_ref14Raise
  | .ref14Raise t by_ from_ depth => ref14Raise_B (fun by_ from_ depth out i t o8 => g (I_ref14Raise.ref14Raise_L7 by_ from_ depth out i t o8)) t by_ from_ depth
  | .ref14Raise_L7 by_ from_ depth out i t o8 => ref14Raise_L7_B (fun t by_ from_ depth => g (I_ref14Raise.ref14Raise t by_ from_ depth)) (fun by_ from_ depth out i t o8 => g (I_ref14Raise.ref14Raise_L7 by_ from_ depth out i t o8)) by_ from_ depth out i t o8
theorem D_ref14Raise : ∀ i, Good (fun g => F_ref14Raise g i)
  | .ref14Raise t by_ from_ depth => show Good (fun g : Fam R_ref14Raise => ref14Raise_B (fun by_ from_ depth out i t o8 => g (I_ref14Raise.ref14Raise_L7 by_ from_ depth out i t o8)) t by_ from_ depth) by unfold ref14Raise_B; exact (.ite (.bind (.const _) fun _ => (.ite (.const _) (.const _))) (.call _))
  | .ref14Raise_L7 by_ from_ depth out i t o8 => show Good (fun g : Fam R_ref14Raise => ref14Raise_L7_B (fun t by_ from_ depth => g (I_ref14Raise.ref14Raise t by_ from_ depth)) (fun by_ from_ depth out i t o8 => g (I_ref14Raise.ref14Raise_L7 by_ from_ depth out i t o8)) by_ from_ depth out i t o8) by unfold ref14Raise_L7_B; exact (.ite (.bind (.const _) fun _ => (.bind (.const _) fun _ => (.bind (.call _) fun _ => (.ite (.call _) (.const _))))) (.const _))
def ref14Raise (t : Term) (by_ : Int) (from_ : Int) (depth : Int) : Option (Term) := fixF F_ref14Raise (.ref14Raise t by_ from_ depth)
def ref14Raise_L7 (by_ : Int) (from_ : Int) (depth : Int) (out : List Term) (i : Int) (t : Term) (o8 : Term) : Option (Term) := fixF F_ref14Raise (.ref14Raise_L7 by_ from_ depth out i t o8)
theorem ref14Raise_eq (t : Term) (by_ : Int) (from_ : Int) (depth : Int) : ref14Raise t by_ from_ depth = ref14Raise_B ref14Raise_L7 t by_ from_ depth := fixF_eq D_ref14Raise (.ref14Raise t by_ from_ depth)
theorem ref14Raise_L7_eq (by_ : Int) (from_ : Int) (depth : Int) (out : List Term) (i : Int) (t : Term) (o8 : Term) : ref14Raise_L7 by_ from_ depth out i t o8 = ref14Raise_L7_B ref14Raise ref14Raise_L7 by_ from_ depth out i t o8 := fixF_eq D_ref14Raise (.ref14Raise_L7 by_ from_ depth out i t o8)
def ref25Bin (op : Int) (a : Term) (b : Term) : Option (Term) :=
  some ((Term.mk 10 op ([] : List UInt8) [a, b] 0 0))
def ref25Num (n : Int) : Option (Term) :=
  some ((Term.mk 5 n ([] : List UInt8) [] 0 0))
def ref28Local (n : Int) : Option (Term) :=
  some ((Term.mk 7 n ([] : List UInt8) [] 0 0))
def ref28Shaped_L4_B (ref28Shaped_L4 : Int → Int → Term → Option (Bool)) (parts : Int) (i : Int) (t : Term) : Option (Bool) :=
  if i < parts then
    idx t.L i >>= fun x =>
    if x.K = 29 then
      ref28Shaped_L4 parts (IntKind.wrap .i64 (i + 1)) t
    else
    some (false)
  else
  some (true)
inductive I_ref28Shaped_L4 where
  | ref28Shaped_L4 (parts : Int) (i : Int) (t : Term)
@[reducible] def R_ref28Shaped_L4 : I_ref28Shaped_L4 → Type
  | .ref28Shaped_L4 _ _ _ => Bool
def F_ref28Shaped_L4 (g : Fam R_ref28Shaped_L4) : Fam R_ref28Shaped_L4
  | .ref28Shaped_L4 parts i t => ref28Shaped_L4_B (fun parts i t => g (I_ref28Shaped_L4.ref28Shaped_L4 parts i t)) parts i t
theorem D_ref28Shaped_L4 : ∀ i, Good (fun g => F_ref28Shaped_L4 g i)
  | .ref28Shaped_L4 parts i t => show Good (fun g : Fam R_ref28Shaped_L4 => ref28Shaped_L4_B (fun parts i t => g (I_ref28Shaped_L4.ref28Shaped_L4 parts i t)) parts i t) by unfold ref28Shaped_L4_B; exact (.ite (.bind (.const _) fun _ => (.ite (.call _) (.const _))) (.const _))
def ref28Shaped_L4 (parts : Int) (i : Int) (t : Term) : Option (Bool) := fixF F_ref28Shaped_L4 (.ref28Shaped_L4 parts i t)
theorem ref28Shaped_L4_eq (parts : Int) (i : Int) (t : Term) : ref28Shaped_L4 parts i t = ref28Shaped_L4_B ref28Shaped_L4 parts i t := fixF_eq D_ref28Shaped_L4 (.ref28Shaped_L4 parts i t)
def ref28Shaped (t : Term) (kind : Int) (parts : Int) (blocks : Int) : Option (Bool) :=
  if t.K = kind then
    if t.N = 0 then
      if t.S = ([] : List UInt8) then
        if (List.length t.L : Int) = parts then
          ref28Shaped_L4 parts (IntKind.wrap .i64 (parts - blocks)) t
        else
        some (false)
      else
      some (false)
    else
    some (false)
  else
  some (false)
def ref28Loop (t : Term) : Option (Term × Bool) :=
  ref28Shaped t 25 3 1 >>= fun q1 =>
  if q1 = true then
    ref28Local 2 >>= fun q2 =>
    ref25Num 1 >>= fun q3 =>
    ref25Bin 9 q2 q3 >>= fun q4 =>
    ref28Local 1 >>= fun q5 =>
    ref28Make 20 [q5] >>= fun q6 =>
    idx t.L 2 >>= fun x =>
    ref14Raise x 2 1 0 >>= fun q7 =>
    ref28Local 2 >>= fun q8 =>
    ref28Make 22 [q8, q4] >>= fun q9 =>
    ref28Block [q6, q7, q9] >>= fun q10 =>
    ref28Local 1 >>= fun q11 =>
    ref28Local 0 >>= fun q12 =>
    ref25Bin 5 q11 q12 >>= fun q13 =>
    ref28Make 24 [q13, q10] >>= fun q14 =>
    idx t.L 0 >>= fun x1 =>
    ref28Make 20 [x1] >>= fun q15 =>
    idx t.L 1 >>= fun x2 =>
    ref14Raise x2 1 0 0 >>= fun q16 =>
    ref28Make 20 [q16] >>= fun q17 =>
    ref28Block [q15, q17, q14] >>= fun q18 =>
    some (q18, true)
  else
  some ((Term.mk 0 0 ([] : List UInt8) [] 0 0), false)
def law28FlowLoops (t : Term) : Option (Bool) :=
  ref06Large t >>= fun q1 =>
  if q1 = true then
    law28awake >>= fun q2 =>
    some (q2)
  else
  flow_Loop t >>= fun q3 =>
  ref28Loop t >>= fun q4 =>
  if q3.2 = q4.2 then
    ref06Placed q3.1 q4.1 >>= fun q5 =>
    if q5 = true then
      law28awake >>= fun q6 =>
      some (q6)
    else
    some (false)
  else
  some (false)
end
end Go.Proofs.Ytkioflnaifdlkaa.M
