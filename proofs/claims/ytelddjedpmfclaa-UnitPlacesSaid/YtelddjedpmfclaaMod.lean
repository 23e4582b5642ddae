/- For each function a plain one: what it comes to; none: a panic, or no end. -/
import Derived.Test.YtelddjedpmfclaaTy
namespace Go.Proofs.Ytelddjedpmfclaa.M
open Go Nt
set_option linter.unusedVariables false
noncomputable section
def lex_reader_isDigit (c : Int) (text : Str) (at_ : Int) (out : List Token) : Option (Bool) :=
  if c ≥ 48 then
    some (decide (c ≤ 57))
  else
  some (false)
def lex_reader_isLetter (c : Int) (text : Str) (at_ : Int) (out : List Token) : Option (Bool) :=
  if c ≥ 97 then
    if c ≤ 122 then
      some (true)
    else
    if c ≥ 65 then
      if c ≤ 90 then
        some (true)
      else
      some ((c == 95))
    else
    some ((c == 95))
  else
  if c ≥ 65 then
    if c ≤ 90 then
      some (true)
    else
    some ((c == 95))
  else
  some ((c == 95))
def lex_reader_put (k : Int) (n : Int) (s : Str) (from_ : Int) (text : Str) (at_ : Int) (out : List Token) : Option (Str × Int × List Token) :=
  if roomy 48 (List.length out + List.length [(Token.mk k n s from_ at_)]) then
  some (text, at_, out ++ [(Token.mk k n s from_ at_)])
  else none
def lex_reader_number_L7_B (lex_reader_number_L7 : Int → Str → Int → Int → Int → Str → Int → (List Token) → Option (Int × Str × Int × List Token)) (from_ : Int) (s : Str) (v : Int) (v29 : Int) (v30 : Int) (text : Str) (at_ : Int) (out : List Token) : Option (Int × Str × Int × List Token) :=
  if v30 < v29 then
    idx s v30 >>= fun c =>
    lex_reader_number_L7 from_ s (IntKind.wrap .u64 ((IntKind.wrap .u64 (v * 10)) + (IntKind.wrap .u64 (IntKind.wrap .u8 ((Int.ofNat (UInt8.toNat c)) - 48))))) v29 (IntKind.wrap .i64 (v30 + 1)) text at_ out
  else
  if v > 9223372036854775807 then
    some (5, text, at_, out)
  else
  lex_reader_put 2 (IntKind.wrap .i64 v) ([] : List UInt8) from_ text at_ out >>= fun q1 =>
  some (0, q1.1, q1.2.1, q1.2.2)
inductive I_lex_reader_number_L7 where
  | lex_reader_number_L7 (from_ : Int) (s : Str) (v : Int) (v29 : Int) (v30 : Int) (text : Str) (at_ : Int) (out : List Token)
@[reducible] def R_lex_reader_number_L7 : I_lex_reader_number_L7 → Type
  | .lex_reader_number_L7 _ _ _ _ _ _ _ _ => Int × Str × Int × List Token
def F_lex_reader_number_L7 (g : Fam R_lex_reader_number_L7) : Fam R_lex_reader_number_L7
  | .lex_reader_number_L7 from_ s v v29 v30 text at_ out => lex_reader_number_L7_B (fun from_ s v v29 v30 text at_ out => g (I_lex_reader_number_L7.lex_reader_number_L7 from_ s v v29 v30 text at_ out)) from_ s v v29 v30 text at_ out
theorem D_lex_reader_number_L7 : ∀ i, Good (fun g => F_lex_reader_number_L7 g i)
  | .lex_reader_number_L7 from_ s v v29 v30 text at_ out => show Good (fun g : Fam R_lex_reader_number_L7 => lex_reader_number_L7_B (fun from_ s v v29 v30 text at_ out => g (I_lex_reader_number_L7.lex_reader_number_L7 from_ s v v29 v30 text at_ out)) from_ s v v29 v30 text at_ out) by unfold lex_reader_number_L7_B; exact (.ite (.bind (.const _) fun _ => (.call _)) (.ite (.const _) (.bind (.const _) fun _ => (.const _))))
def lex_reader_number_L7 (from_ : Int) (s : Str) (v : Int) (v29 : Int) (v30 : Int) (text : Str) (at_ : Int) (out : List Token) : Option (Int × Str × Int × List Token) := fixF F_lex_reader_number_L7 (.lex_reader_number_L7 from_ s v v29 v30 text at_ out)
theorem lex_reader_number_L7_eq (from_ : Int) (s : Str) (v : Int) (v29 : Int) (v30 : Int) (text : Str) (at_ : Int) (out : List Token) : lex_reader_number_L7 from_ s v v29 v30 text at_ out = lex_reader_number_L7_B lex_reader_number_L7 from_ s v v29 v30 text at_ out := fixF_eq D_lex_reader_number_L7 (.lex_reader_number_L7 from_ s v v29 v30 text at_ out)
def lex_reader_run_reader_isDigit_L2_B (lex_reader_run_reader_isDigit_L2 : Int → Str → Int → (List Token) → Option (Str × Str × Int × List Token)) (from_ : Int) (text : Str) (at_ : Int) (out : List Token) : Option (Str × Str × Int × List Token) :=
  if at_ < (List.length text : Int) then
    idx text at_ >>= fun c =>
    lex_reader_isDigit (Int.ofNat (UInt8.toNat c)) text at_ out >>= fun q1 =>
    if q1 = true then
      lex_reader_run_reader_isDigit_L2 from_ text (IntKind.wrap .i64 (at_ + 1)) out
    else
    if (0 : Int) ≤ at_ then
    if Int.toNat at_ ≤ List.length text then
    if (0 : Int) ≤ from_ then
    if Int.toNat from_ ≤ Int.toNat at_ then
    some (List.drop (Int.toNat from_) (List.take (Int.toNat at_) text), text, at_, out)
    else none
    else none
    else none
    else none
  else
  if (0 : Int) ≤ at_ then
  if Int.toNat at_ ≤ List.length text then
  if (0 : Int) ≤ from_ then
  if Int.toNat from_ ≤ Int.toNat at_ then
  some (List.drop (Int.toNat from_) (List.take (Int.toNat at_) text), text, at_, out)
  else none
  else none
  else none
  else none
inductive I_lex_reader_run_reader_isDigit_L2 where
  | lex_reader_run_reader_isDigit_L2 (from_ : Int) (text : Str) (at_ : Int) (out : List Token)
@[reducible] def R_lex_reader_run_reader_isDigit_L2 : I_lex_reader_run_reader_isDigit_L2 → Type
  | .lex_reader_run_reader_isDigit_L2 _ _ _ _ => Str × Str × Int × List Token
def F_lex_reader_run_reader_isDigit_L2 (g : Fam R_lex_reader_run_reader_isDigit_L2) : Fam R_lex_reader_run_reader_isDigit_L2
  | .lex_reader_run_reader_isDigit_L2 from_ text at_ out => lex_reader_run_reader_isDigit_L2_B (fun from_ text at_ out => g (I_lex_reader_run_reader_isDigit_L2.lex_reader_run_reader_isDigit_L2 from_ text at_ out)) from_ text at_ out
theorem D_lex_reader_run_reader_isDigit_L2 : ∀ i, Good (fun g => F_lex_reader_run_reader_isDigit_L2 g i)
  | .lex_reader_run_reader_isDigit_L2 from_ text at_ out => show Good (fun g : Fam R_lex_reader_run_reader_isDigit_L2 => lex_reader_run_reader_isDigit_L2_B (fun from_ text at_ out => g (I_lex_reader_run_reader_isDigit_L2.lex_reader_run_reader_isDigit_L2 from_ text at_ out)) from_ text at_ out) by unfold lex_reader_run_reader_isDigit_L2_B; exact (.ite (.bind (.const _) fun _ => (.bind (.const _) fun _ => (.ite (.call _) (.ite (.ite (.ite (.ite (.const _) (.const _)) (.const _)) (.const _)) (.const _))))) (.ite (.ite (.ite (.ite (.const _) (.const _)) (.const _)) (.const _)) (.const _)))
def lex_reader_run_reader_isDigit_L2 (from_ : Int) (text : Str) (at_ : Int) (out : List Token) : Option (Str × Str × Int × List Token) := fixF F_lex_reader_run_reader_isDigit_L2 (.lex_reader_run_reader_isDigit_L2 from_ text at_ out)
theorem lex_reader_run_reader_isDigit_L2_eq (from_ : Int) (text : Str) (at_ : Int) (out : List Token) : lex_reader_run_reader_isDigit_L2 from_ text at_ out = lex_reader_run_reader_isDigit_L2_B lex_reader_run_reader_isDigit_L2 from_ text at_ out := fixF_eq D_lex_reader_run_reader_isDigit_L2 (.lex_reader_run_reader_isDigit_L2 from_ text at_ out)
def lex_reader_run_reader_isDigit (text : Str) (at_ : Int) (out : List Token) : Option (Str × Str × Int × List Token) :=
  lex_reader_run_reader_isDigit_L2 at_ text at_ out
def lex_reader_number (text : Str) (at_ : Int) (out : List Token) : Option (Int × Str × Int × List Token) :=
  lex_reader_run_reader_isDigit text at_ out >>= fun q1 =>
  if (List.length q1.1 : Int) > 19 then
    some (5, q1.2.1, q1.2.2.1, q1.2.2.2)
  else
  if (List.length q1.1 : Int) > 1 then
    idx q1.1 0 >>= fun c =>
    if Int.ofNat (UInt8.toNat c) = 48 then
      some (5, q1.2.1, q1.2.2.1, q1.2.2.2)
    else
    lex_reader_number_L7 at_ q1.1 0 (List.length q1.1 : Int) 0 q1.2.1 q1.2.2.1 q1.2.2.2
  else
  lex_reader_number_L7 at_ q1.1 0 (List.length q1.1 : Int) 0 q1.2.1 q1.2.2.1 q1.2.2.2
def lex_reader_peek (k : Int) (text : Str) (at_ : Int) (out : List Token) : Option (Int) :=
  if (IntKind.wrap .i64 (at_ + k)) < (List.length text : Int) then
    idx text (IntKind.wrap .i64 (at_ + k)) >>= fun c =>
    some (Int.ofNat (UInt8.toNat c))
  else
  some (0)
def lex_isWord (s : Str) : Option (Bool) :=
  if s = ([114, 101, 99] : List UInt8) then
    some (true)
  else
  if s = ([99, 111, 110, 115, 116] : List UInt8) then
    some (true)
  else
  if s = ([118, 97, 114] : List UInt8) then
    some (true)
  else
  if s = ([112, 117, 98] : List UInt8) then
    some (true)
  else
  if s = ([102, 110] : List UInt8) then
    some (true)
  else
  if s = ([105, 110, 116] : List UInt8) then
    some (true)
  else
  if s = ([98, 111, 111, 108] : List UInt8) then
    some (true)
  else
  if s = ([108, 101, 116] : List UInt8) then
    some (true)
  else
  if s = ([105, 102] : List UInt8) then
    some (true)
  else
  if s = ([101, 108, 115, 101] : List UInt8) then
    some (true)
  else
  if s = ([119, 104, 105, 108, 101] : List UInt8) then
    some (true)
  else
  if s = ([102, 111, 114] : List UInt8) then
    some (true)
  else
  if s = ([116, 111] : List UInt8) then
    some (true)
  else
  if s = ([112, 114, 105, 110, 116] : List UInt8) then
    some (true)
  else
  if s = ([114, 101, 116, 117, 114, 110] : List UInt8) then
    some (true)
  else
  if s = ([100, 111] : List UInt8) then
    some (true)
  else
  if s = ([116, 114, 117, 101] : List UInt8) then
    some (true)
  else
  if s = ([102, 97, 108, 115, 101] : List UInt8) then
    some (true)
  else
  if s = ([114, 101, 97, 100] : List UInt8) then
    some (true)
  else
  if s = ([110, 101, 119] : List UInt8) then
    some (true)
  else
  some (false)
def lex_reader_isMore (c : Int) (text : Str) (at_ : Int) (out : List Token) : Option (Bool) :=
  lex_reader_isLetter c text at_ out >>= fun q1 =>
  if q1 = true then
    some (true)
  else
  lex_reader_isDigit c text at_ out >>= fun q2 =>
  some (q2)
def lex_reader_run_reader_isMore_L2_B (lex_reader_run_reader_isMore_L2 : Int → Str → Int → (List Token) → Option (Str × Str × Int × List Token)) (from_ : Int) (text : Str) (at_ : Int) (out : List Token) : Option (Str × Str × Int × List Token) :=
  if at_ < (List.length text : Int) then
    idx text at_ >>= fun c =>
    lex_reader_isMore (Int.ofNat (UInt8.toNat c)) text at_ out >>= fun q1 =>
    if q1 = true then
      lex_reader_run_reader_isMore_L2 from_ text (IntKind.wrap .i64 (at_ + 1)) out
    else
    if (0 : Int) ≤ at_ then
    if Int.toNat at_ ≤ List.length text then
    if (0 : Int) ≤ from_ then
    if Int.toNat from_ ≤ Int.toNat at_ then
    some (List.drop (Int.toNat from_) (List.take (Int.toNat at_) text), text, at_, out)
    else none
    else none
    else none
    else none
  else
  if (0 : Int) ≤ at_ then
  if Int.toNat at_ ≤ List.length text then
  if (0 : Int) ≤ from_ then
  if Int.toNat from_ ≤ Int.toNat at_ then
  some (List.drop (Int.toNat from_) (List.take (Int.toNat at_) text), text, at_, out)
  else none
  else none
  else none
  else none
inductive I_lex_reader_run_reader_isMore_L2 where
  | lex_reader_run_reader_isMore_L2 (from_ : Int) (text : Str) (at_ : Int) (out : List Token)
@[reducible] def R_lex_reader_run_reader_isMore_L2 : I_lex_reader_run_reader_isMore_L2 → Type
  | .lex_reader_run_reader_isMore_L2 _ _ _ _ => Str × Str × Int × List Token
def F_lex_reader_run_reader_isMore_L2 (g : Fam R_lex_reader_run_reader_isMore_L2) : Fam R_lex_reader_run_reader_isMore_L2
  | .lex_reader_run_reader_isMore_L2 from_ text at_ out => lex_reader_run_reader_isMore_L2_B (fun from_ text at_ out => g (I_lex_reader_run_reader_isMore_L2.lex_reader_run_reader_isMore_L2 from_ text at_ out)) from_ text at_ out
theorem D_lex_reader_run_reader_isMore_L2 : ∀ i, Good (fun g => F_lex_reader_run_reader_isMore_L2 g i)
  | .lex_reader_run_reader_isMore_L2 from_ text at_ out => show Good (fun g : Fam R_lex_reader_run_reader_isMore_L2 => lex_reader_run_reader_isMore_L2_B (fun from_ text at_ out => g (I_lex_reader_run_reader_isMore_L2.lex_reader_run_reader_isMore_L2 from_ text at_ out)) from_ text at_ out) by unfold lex_reader_run_reader_isMore_L2_B; exact (.ite (.bind (.const _) fun _ => (.bind (.const _) fun _ => (.ite (.call _) (.ite (.ite (.ite (.ite (.const _) (.const _)) (.const _)) (.const _)) (.const _))))) (.ite (.ite (.ite (.ite (.const _) (.const _)) (.const _)) (.const _)) (.const _)))
def lex_reader_run_reader_isMore_L2 (from_ : Int) (text : Str) (at_ : Int) (out : List Token) : Option (Str × Str × Int × List Token) := fixF F_lex_reader_run_reader_isMore_L2 (.lex_reader_run_reader_isMore_L2 from_ text at_ out)
theorem lex_reader_run_reader_isMore_L2_eq (from_ : Int) (text : Str) (at_ : Int) (out : List Token) : lex_reader_run_reader_isMore_L2 from_ text at_ out = lex_reader_run_reader_isMore_L2_B lex_reader_run_reader_isMore_L2 from_ text at_ out := fixF_eq D_lex_reader_run_reader_isMore_L2 (.lex_reader_run_reader_isMore_L2 from_ text at_ out)
def lex_reader_run_reader_isMore (text : Str) (at_ : Int) (out : List Token) : Option (Str × Str × Int × List Token) :=
  lex_reader_run_reader_isMore_L2 at_ text at_ out
def lex_reader_word (text : Str) (at_ : Int) (out : List Token) : Option (Int × Str × Int × List Token) :=
  lex_reader_run_reader_isMore text at_ out >>= fun q1 =>
  if (List.length q1.1 : Int) > 16 then
    some (3, q1.2.1, q1.2.2.1, q1.2.2.2)
  else
  lex_isWord q1.1 >>= fun q2 =>
  if q2 = true then
    lex_reader_put 3 0 q1.1 at_ q1.2.1 q1.2.2.1 q1.2.2.2 >>= fun q3 =>
    some (0, q3.1, q3.2.1, q3.2.2)
  else
  lex_reader_put 1 0 q1.1 at_ q1.2.1 q1.2.2.1 q1.2.2.2 >>= fun q4 =>
  some (0, q4.1, q4.2.1, q4.2.2)
def lex_signAt (c : Int) (d : Int) : Option (Int) :=
  if c = 61 then
    if d = 61 then
      some (2)
    else
    some (1)
  else
  if c = 33 then
    if d = 61 then
      some (2)
    else
    some (1)
  else
  if c = 60 then
    if d = 61 then
      some (2)
    else
    some (1)
  else
  if c = 62 then
    if d = 61 then
      some (2)
    else
    some (1)
  else
  if c = 38 then
    if d = c then
      some (2)
    else
    some (0)
  else
  if c = 124 then
    if d = c then
      some (2)
    else
    some (0)
  else
  if c = 123 then
    some (1)
  else
  if c = 125 then
    some (1)
  else
  if c = 40 then
    some (1)
  else
  if c = 41 then
    some (1)
  else
  if c = 91 then
    some (1)
  else
  if c = 93 then
    some (1)
  else
  if c = 44 then
    some (1)
  else
  if c = 59 then
    some (1)
  else
  if c = 58 then
    some (1)
  else
  if c = 46 then
    some (1)
  else
  if c = 43 then
    some (1)
  else
  if c = 45 then
    some (1)
  else
  if c = 42 then
    some (1)
  else
  if c = 47 then
    some (1)
  else
  if c = 37 then
    some (1)
  else
  if c = 64 then
    some (1)
  else
  some (0)
def lex_reader_one (text : Str) (at_ : Int) (out : List Token) : Option (Int × Str × Int × List Token) :=
  idx text at_ >>= fun c =>
  lex_reader_isLetter (Int.ofNat (UInt8.toNat c)) text at_ out >>= fun q1 =>
  if q1 = true then
    lex_reader_word text at_ out >>= fun q2 =>
    some (q2.1, q2.2.1, q2.2.2.1, q2.2.2.2)
  else
  lex_reader_isDigit (Int.ofNat (UInt8.toNat c)) text at_ out >>= fun q3 =>
  if q3 = true then
    lex_reader_number text at_ out >>= fun q4 =>
    some (q4.1, q4.2.1, q4.2.2.1, q4.2.2.2)
  else
  lex_reader_peek 1 text at_ out >>= fun q5 =>
  lex_signAt (Int.ofNat (UInt8.toNat c)) q5 >>= fun q6 =>
  if q6 = 0 then
    some (4, text, at_, out)
  else
  if (0 : Int) ≤ (IntKind.wrap .i64 (at_ + q6)) then
  if Int.toNat (IntKind.wrap .i64 (at_ + q6)) ≤ List.length text then
  if (0 : Int) ≤ at_ then
  if Int.toNat at_ ≤ Int.toNat (IntKind.wrap .i64 (at_ + q6)) then
  lex_reader_put 4 0 (List.drop (Int.toNat at_) (List.take (Int.toNat (IntKind.wrap .i64 (at_ + q6))) text)) at_ text (IntKind.wrap .i64 (at_ + q6)) out >>= fun q7 =>
  some (0, q7.1, q7.2.1, q7.2.2)
  else none
  else none
  else none
  else none
def lex_reader_isLine (c : Int) (text : Str) (at_ : Int) (out : List Token) : Option (Bool) :=
  some (!(c == 10))
def lex_reader_run_reader_isLine_L2_B (lex_reader_run_reader_isLine_L2 : Int → Str → Int → (List Token) → Option (Str × Str × Int × List Token)) (from_ : Int) (text : Str) (at_ : Int) (out : List Token) : Option (Str × Str × Int × List Token) :=
  if at_ < (List.length text : Int) then
    idx text at_ >>= fun c =>
    lex_reader_isLine (Int.ofNat (UInt8.toNat c)) text at_ out >>= fun q1 =>
    if q1 = true then
      lex_reader_run_reader_isLine_L2 from_ text (IntKind.wrap .i64 (at_ + 1)) out
    else
    if (0 : Int) ≤ at_ then
    if Int.toNat at_ ≤ List.length text then
    if (0 : Int) ≤ from_ then
    if Int.toNat from_ ≤ Int.toNat at_ then
    some (List.drop (Int.toNat from_) (List.take (Int.toNat at_) text), text, at_, out)
    else none
    else none
    else none
    else none
  else
  if (0 : Int) ≤ at_ then
  if Int.toNat at_ ≤ List.length text then
  if (0 : Int) ≤ from_ then
  if Int.toNat from_ ≤ Int.toNat at_ then
  some (List.drop (Int.toNat from_) (List.take (Int.toNat at_) text), text, at_, out)
  else none
  else none
  else none
  else none
inductive I_lex_reader_run_reader_isLine_L2 where
  | lex_reader_run_reader_isLine_L2 (from_ : Int) (text : Str) (at_ : Int) (out : List Token)
@[reducible] def R_lex_reader_run_reader_isLine_L2 : I_lex_reader_run_reader_isLine_L2 → Type
  | .lex_reader_run_reader_isLine_L2 _ _ _ _ => Str × Str × Int × List Token
def F_lex_reader_run_reader_isLine_L2 (g : Fam R_lex_reader_run_reader_isLine_L2) : Fam R_lex_reader_run_reader_isLine_L2
  | .lex_reader_run_reader_isLine_L2 from_ text at_ out => lex_reader_run_reader_isLine_L2_B (fun from_ text at_ out => g (I_lex_reader_run_reader_isLine_L2.lex_reader_run_reader_isLine_L2 from_ text at_ out)) from_ text at_ out
theorem D_lex_reader_run_reader_isLine_L2 : ∀ i, Good (fun g => F_lex_reader_run_reader_isLine_L2 g i)
  | .lex_reader_run_reader_isLine_L2 from_ text at_ out => show Good (fun g : Fam R_lex_reader_run_reader_isLine_L2 => lex_reader_run_reader_isLine_L2_B (fun from_ text at_ out => g (I_lex_reader_run_reader_isLine_L2.lex_reader_run_reader_isLine_L2 from_ text at_ out)) from_ text at_ out) by unfold lex_reader_run_reader_isLine_L2_B; exact (.ite (.bind (.const _) fun _ => (.bind (.const _) fun _ => (.ite (.call _) (.ite (.ite (.ite (.ite (.const _) (.const _)) (.const _)) (.const _)) (.const _))))) (.ite (.ite (.ite (.ite (.const _) (.const _)) (.const _)) (.const _)) (.const _)))
def lex_reader_run_reader_isLine_L2 (from_ : Int) (text : Str) (at_ : Int) (out : List Token) : Option (Str × Str × Int × List Token) := fixF F_lex_reader_run_reader_isLine_L2 (.lex_reader_run_reader_isLine_L2 from_ text at_ out)
theorem lex_reader_run_reader_isLine_L2_eq (from_ : Int) (text : Str) (at_ : Int) (out : List Token) : lex_reader_run_reader_isLine_L2 from_ text at_ out = lex_reader_run_reader_isLine_L2_B lex_reader_run_reader_isLine_L2 from_ text at_ out := fixF_eq D_lex_reader_run_reader_isLine_L2 (.lex_reader_run_reader_isLine_L2 from_ text at_ out)
def lex_reader_run_reader_isLine (text : Str) (at_ : Int) (out : List Token) : Option (Str × Str × Int × List Token) :=
  lex_reader_run_reader_isLine_L2 at_ text at_ out
def lex_reader_skip_L0_B (lex_reader_skip_L0 : Str → Int → (List Token) → Option (Str × Int × List Token)) (text : Str) (at_ : Int) (out : List Token) : Option (Str × Int × List Token) :=
  if at_ < (List.length text : Int) then
    idx text at_ >>= fun c =>
    if Int.ofNat (UInt8.toNat c) = 32 then
      lex_reader_skip_L0 text (IntKind.wrap .i64 (at_ + 1)) out
    else
    if Int.ofNat (UInt8.toNat c) = 9 then
      lex_reader_skip_L0 text (IntKind.wrap .i64 (at_ + 1)) out
    else
    if Int.ofNat (UInt8.toNat c) = 10 then
      lex_reader_skip_L0 text (IntKind.wrap .i64 (at_ + 1)) out
    else
    if Int.ofNat (UInt8.toNat c) = 13 then
      lex_reader_skip_L0 text (IntKind.wrap .i64 (at_ + 1)) out
    else
    if Int.ofNat (UInt8.toNat c) = 47 then
      lex_reader_peek 1 text at_ out >>= fun q1 =>
      if q1 = 47 then
        lex_reader_run_reader_isLine text at_ out >>= fun q2 =>
        lex_reader_skip_L0 q2.2.1 q2.2.2.1 q2.2.2.2
      else
      some (text, at_, out)
    else
    some (text, at_, out)
  else
  some (text, at_, out)
inductive I_lex_reader_skip_L0 where
  | lex_reader_skip_L0 (text : Str) (at_ : Int) (out : List Token)
@[reducible] def R_lex_reader_skip_L0 : I_lex_reader_skip_L0 → Type
  | .lex_reader_skip_L0 _ _ _ => Str × Int × List Token
def F_lex_reader_skip_L0 (g : Fam R_lex_reader_skip_L0) : Fam R_lex_reader_skip_L0
  | .lex_reader_skip_L0 text at_ out => lex_reader_skip_L0_B (fun text at_ out => g (I_lex_reader_skip_L0.lex_reader_skip_L0 text at_ out)) text at_ out
theorem D_lex_reader_skip_L0 : ∀ i, Good (fun g => F_lex_reader_skip_L0 g i)
  | .lex_reader_skip_L0 text at_ out => show Good (fun g : Fam R_lex_reader_skip_L0 => lex_reader_skip_L0_B (fun text at_ out => g (I_lex_reader_skip_L0.lex_reader_skip_L0 text at_ out)) text at_ out) by unfold lex_reader_skip_L0_B; exact (.ite (.bind (.const _) fun _ => (.ite (.call _) (.ite (.call _) (.ite (.call _) (.ite (.call _) (.ite (.bind (.const _) fun _ => (.ite (.bind (.const _) fun _ => (.call _)) (.const _))) (.const _))))))) (.const _))
def lex_reader_skip_L0 (text : Str) (at_ : Int) (out : List Token) : Option (Str × Int × List Token) := fixF F_lex_reader_skip_L0 (.lex_reader_skip_L0 text at_ out)
theorem lex_reader_skip_L0_eq (text : Str) (at_ : Int) (out : List Token) : lex_reader_skip_L0 text at_ out = lex_reader_skip_L0_B lex_reader_skip_L0 text at_ out := fixF_eq D_lex_reader_skip_L0 (.lex_reader_skip_L0 text at_ out)
def lex_reader_skip (text : Str) (at_ : Int) (out : List Token) : Option (Str × Int × List Token) :=
  lex_reader_skip_L0 text at_ out
def lex_Tokens_L5_B (lex_Tokens_L5 : Str → Str → Int → (List Token) → Option (List Token × Int × Int)) (text : Str) (text1 : Str) (at_ : Int) (out : List Token) : Option (List Token × Int × Int) :=
  if at_ < (List.length text : Int) then
    lex_reader_one text1 at_ out >>= fun q1 =>
    if q1.1 = 0 then
      lex_reader_skip q1.2.1 q1.2.2.1 q1.2.2.2 >>= fun q2 =>
      lex_Tokens_L5 text q2.1 q2.2.1 q2.2.2
    else
    some (([] : List Token), at_, q1.1)
  else
  lex_reader_put 5 0 ([] : List UInt8) at_ text1 at_ out >>= fun q3 =>
  some (q3.2.2, 0, 0)
inductive I_lex_Tokens_L5 where
  | lex_Tokens_L5 (text : Str) (text1 : Str) (at_ : Int) (out : List Token)
@[reducible] def R_lex_Tokens_L5 : I_lex_Tokens_L5 → Type
  | .lex_Tokens_L5 _ _ _ _ => List Token × Int × Int
def F_lex_Tokens_L5 (g : Fam R_lex_Tokens_L5) : Fam R_lex_Tokens_L5
  | .lex_Tokens_L5 text text1 at_ out => lex_Tokens_L5_B (fun text text1 at_ out => g (I_lex_Tokens_L5.lex_Tokens_L5 text text1 at_ out)) text text1 at_ out
theorem D_lex_Tokens_L5 : ∀ i, Good (fun g => F_lex_Tokens_L5 g i)
  | .lex_Tokens_L5 text text1 at_ out => show Good (fun g : Fam R_lex_Tokens_L5 => lex_Tokens_L5_B (fun text text1 at_ out => g (I_lex_Tokens_L5.lex_Tokens_L5 text text1 at_ out)) text text1 at_ out) by unfold lex_Tokens_L5_B; exact (.ite (.bind (.const _) fun _ => (.ite (.bind (.const _) fun _ => (.call _)) (.const _))) (.bind (.const _) fun _ => (.const _)))
def lex_Tokens_L5 (text : Str) (text1 : Str) (at_ : Int) (out : List Token) : Option (List Token × Int × Int) := fixF F_lex_Tokens_L5 (.lex_Tokens_L5 text text1 at_ out)
theorem lex_Tokens_L5_eq (text : Str) (text1 : Str) (at_ : Int) (out : List Token) : lex_Tokens_L5 text text1 at_ out = lex_Tokens_L5_B lex_Tokens_L5 text text1 at_ out := fixF_eq D_lex_Tokens_L5 (.lex_Tokens_L5 text text1 at_ out)
def lex_Tokens (text : Str) : Option (List Token × Int × Int) :=
  if (List.length text : Int) > 8192 then
    some (([] : List Token), 0, 3)
  else
  lex_reader_skip text 0 [] >>= fun q1 =>
  lex_Tokens_L5 text q1.1 q1.2.1 q1.2.2
def term_meter_see (path : List Int) (v : Term) (size : Int) (depth : Int) : Option (Int × Int) :=
  some (IntKind.wrap .i64 (size + 1), max depth (IntKind.wrap .i64 ((List.length path : Int) + 1)))
def term_walk_meter_see_B (term_walk_meter_see_L3 : (List Int) → (List Term) → Int → Int → Int → Int → Option (Int × Int)) (t : Term) (path : List Int) (size : Int) (depth : Int) : Option (Int × Int) :=
  term_meter_see path t size depth >>= fun q1 =>
  term_walk_meter_see_L3 path t.L (List.length t.L : Int) 0 q1.1 q1.2
def term_walk_meter_see_L3_B (term_walk_meter_see : Term → (List Int) → Int → Int → Option (Int × Int)) (term_walk_meter_see_L3 : (List Int) → (List Term) → Int → Int → Int → Int → Option (Int × Int)) (path : List Int) (v13 : List Term) (v14 : Int) (v15 : Int) (size : Int) (depth : Int) : Option (Int × Int) :=
  if v15 < v14 then
    idx v13 v15 >>= fun x =>
    if (0 : Int) ≤ (List.length path : Int) then
    if Int.toNat (List.length path : Int) ≤ List.length path then
    if (0 : Int) ≤ (List.length path : Int) then
    if Int.toNat (List.length path : Int) = Int.toNat (List.length path : Int) then
    if 0 ≤ Int.toNat (List.length path : Int) then
    if roomy 8 (List.length (List.drop 0 (List.take (Int.toNat (List.length path : Int)) path)) + List.length [v15]) then
    term_walk_meter_see x ((List.drop 0 (List.take (Int.toNat (List.length path : Int)) path)) ++ [v15]) size depth >>= fun q1 =>
    term_walk_meter_see_L3 path v13 v14 (IntKind.wrap .i64 (v15 + 1)) q1.1 q1.2
    else none
    else none
    else none
    else none
    else none
    else none
  else
  some (size, depth)
inductive I_term_walk_meter_see where
  | term_walk_meter_see (t : Term) (path : List Int) (size : Int) (depth : Int)
  | term_walk_meter_see_L3 (path : List Int) (v13 : List Term) (v14 : Int) (v15 : Int) (size : Int) (depth : Int)
@[reducible] def R_term_walk_meter_see : I_term_walk_meter_see → Type
  | .term_walk_meter_see _ _ _ _ => Int × Int
  | .term_walk_meter_see_L3 _ _ _ _ _ _ => Int × Int
def F_term_walk_meter_see (g : Fam R_term_walk_meter_see) : Fam R_term_walk_meter_see
  | .term_walk_meter_see t path size depth => term_walk_meter_see_B (fun path v13 v14 v15 size depth => g (I_term_walk_meter_see.term_walk_meter_see_L3 path v13 v14 v15 size depth)) t path size depth
  | .term_walk_meter_see_L3 path v13 v14 v15 size depth => term_walk_meter_see_L3_B (fun t path size depth => g (I_term_walk_meter_see.term_walk_meter_see t path size depth)) (fun path v13 v14 v15 size depth => g (I_term_walk_meter_see.term_walk_meter_see_L3 path v13 v14 v15 size depth)) path v13 v14 v15 size depth
theorem D_term_walk_meter_see : ∀ i, Good (fun g => F_term_walk_meter_see g i)
  | .term_walk_meter_see t path size depth => show Good (fun g : Fam R_term_walk_meter_see => term_walk_meter_see_B (fun path v13 v14 v15 size depth => g (I_term_walk_meter_see.term_walk_meter_see_L3 path v13 v14 v15 size depth)) t path size depth) by unfold term_walk_meter_see_B; exact (.bind (.const _) fun _ => (.call _))
  | .term_walk_meter_see_L3 path v13 v14 v15 size depth => show Good (fun g : Fam R_term_walk_meter_see => term_walk_meter_see_L3_B (fun t path size depth => g (I_term_walk_meter_see.term_walk_meter_see t path size depth)) (fun path v13 v14 v15 size depth => g (I_term_walk_meter_see.term_walk_meter_see_L3 path v13 v14 v15 size depth)) path v13 v14 v15 size depth) by unfold term_walk_meter_see_L3_B; exact (.ite (.bind (.const _) fun _ => (.ite (.ite (.ite (.ite (.ite (.ite (.bind (.call _) fun _ => (.call _)) (.const _)) (.const _)) (.const _)) (.const _)) (.const _)) (.const _))) (.const _))
def term_walk_meter_see (t : Term) (path : List Int) (size : Int) (depth : Int) : Option (Int × Int) := fixF F_term_walk_meter_see (.term_walk_meter_see t path size depth)
def term_walk_meter_see_L3 (path : List Int) (v13 : List Term) (v14 : Int) (v15 : Int) (size : Int) (depth : Int) : Option (Int × Int) := fixF F_term_walk_meter_see (.term_walk_meter_see_L3 path v13 v14 v15 size depth)
theorem term_walk_meter_see_eq (t : Term) (path : List Int) (size : Int) (depth : Int) : term_walk_meter_see t path size depth = term_walk_meter_see_B term_walk_meter_see_L3 t path size depth := fixF_eq D_term_walk_meter_see (.term_walk_meter_see t path size depth)
theorem term_walk_meter_see_L3_eq (path : List Int) (v13 : List Term) (v14 : Int) (v15 : Int) (size : Int) (depth : Int) : term_walk_meter_see_L3 path v13 v14 v15 size depth = term_walk_meter_see_L3_B term_walk_meter_see term_walk_meter_see_L3 path v13 v14 v15 size depth := fixF_eq D_term_walk_meter_see (.term_walk_meter_see_L3 path v13 v14 v15 size depth)
def term_Depth (t : Term) : Option (Int) :=
  term_walk_meter_see t [] 0 0 >>= fun q1 =>
  some (q1.2)
def expr_operator (t : Token) : Option (Int × Int) :=
  if t.K = 4 then
    if t.S = ([124, 124] : List UInt8) then
      some (1, 1)
    else
    if t.S = ([38, 38] : List UInt8) then
      some (2, 2)
    else
    if t.S = ([61, 61] : List UInt8) then
      some (3, 3)
    else
    if t.S = ([33, 61] : List UInt8) then
      some (4, 3)
    else
    if t.S = ([60] : List UInt8) then
      some (5, 3)
    else
    if t.S = ([60, 61] : List UInt8) then
      some (6, 3)
    else
    if t.S = ([62] : List UInt8) then
      some (7, 3)
    else
    if t.S = ([62, 61] : List UInt8) then
      some (8, 3)
    else
    if t.S = ([43] : List UInt8) then
      some (9, 4)
    else
    if t.S = ([45] : List UInt8) then
      some (10, 4)
    else
    if t.S = ([42] : List UInt8) then
      some (11, 5)
    else
    if t.S = ([47] : List UInt8) then
      some (12, 5)
    else
    if t.S = ([37] : List UInt8) then
      some (13, 5)
    else
    some (0, 0)
  else
  some (0, 0)
def expr_parser_made (t : Term) (from_ : Int) (t1 : List Token) (at_ : Int) (e : Int) : Option (Term) :=
  if e = 0 then
    idx t1 from_ >>= fun x =>
    idx t1 (IntKind.wrap .i64 (at_ - 1)) >>= fun x1 =>
    some ({ t with From := x.From, To := x1.To })
  else
  some (t)
def expr_parser_now (t : List Token) (at_ : Int) (e : Int) : Option (Token) :=
  if at_ < (List.length t : Int) then
    idx t at_ >>= fun x =>
    some (x)
  else
  some ((Token.mk 5 0 ([] : List UInt8) 0 0))
def expr_parser_sign (s : Str) (t : List Token) (at_ : Int) (e : Int) : Option (Bool) :=
  expr_parser_now t at_ e >>= fun q1 =>
  if q1.K = 4 then
    some ((q1.S == s))
  else
  some (false)
def expr_parser_fail (t : List Token) (at_ : Int) (e : Int) : Option (List Token × Int × Int) :=
  if e = 0 then
    some (t, at_, 6)
  else
  some (t, at_, e)
def expr_parser_need (s : Str) (t : List Token) (at_ : Int) (e : Int) : Option (List Token × Int × Int) :=
  if e = 0 then
    expr_parser_sign s t at_ e >>= fun q1 =>
    if q1 = true then
      some (t, IntKind.wrap .i64 (at_ + 1), e)
    else
    expr_parser_fail t at_ e >>= fun q2 =>
    some (q2.1, q2.2.1, q2.2.2)
  else
  some (t, at_, e)
def expr_parser_name (t : List Token) (at_ : Int) (e : Int) : Option (Str × List Token × Int × Int) :=
  if e = 0 then
    expr_parser_now t at_ e >>= fun q1 =>
    if q1.K = 1 then
      some (q1.S, t, IntKind.wrap .i64 (at_ + 1), e)
    else
    expr_parser_fail t at_ e >>= fun q2 =>
    some (([] : List UInt8), q2.1, q2.2.1, q2.2.2)
  else
  some (([] : List UInt8), t, at_, e)
def expr_parser_expr_B (expr_parser_level : Int → (List Token) → Int → Int → Option (Term × List Token × Int × Int)) (t : List Token) (at_ : Int) (e : Int) : Option (Term × List Token × Int × Int) :=
  expr_parser_level 1 t at_ e >>= fun q1 =>
  some (q1.1, q1.2.1, q1.2.2.1, q1.2.2.2)
def expr_parser_level_B (expr_parser_level_L4 : Int → Int → Int → Term → Term → (List Token) → Int → Int → Option (Term × List Token × Int × Int)) (expr_parser_un : (List Token) → Int → Int → Option (Term × List Token × Int × Int)) (least : Int) (t : List Token) (at_ : Int) (e : Int) : Option (Term × List Token × Int × Int) :=
  expr_parser_un t at_ e >>= fun q1 =>
  expr_parser_level_L4 least at_ 6 (Term.mk 0 0 ([] : List UInt8) [] 0 0) q1.1 q1.2.1 q1.2.2.1 q1.2.2.2
def expr_parser_level_L4_B (expr_parser_level : Int → (List Token) → Int → Int → Option (Term × List Token × Int × Int)) (expr_parser_level_L4 : Int → Int → Int → Term → Term → (List Token) → Int → Int → Option (Term × List Token × Int × Int)) (least : Int) (from_ : Int) (most : Int) (o4 : Term) (left : Term) (t : List Token) (at_ : Int) (e : Int) : Option (Term × List Token × Int × Int) :=
  if e = 0 then
    expr_parser_now t at_ e >>= fun q1 =>
    expr_operator q1 >>= fun q2 =>
    if q2.2 < least then
      some (left, t, at_, e)
    else
    if q2.2 = 0 then
      some (left, t, at_, e)
    else
    if q2.2 > most then
      some (left, t, at_, e)
    else
    expr_parser_level (IntKind.wrap .i64 (q2.2 + 1)) t (IntKind.wrap .i64 (at_ + 1)) e >>= fun q3 =>
    expr_parser_made (Term.mk 10 q2.1 ([] : List UInt8) [left, q3.1] 0 0) from_ q3.2.1 q3.2.2.1 q3.2.2.2 >>= fun q4 =>
    if q2.2 = 3 then
      expr_parser_level_L4 least from_ 2 o4 q4 q3.2.1 q3.2.2.1 q3.2.2.2
    else
    expr_parser_level_L4 least from_ q2.2 o4 q4 q3.2.1 q3.2.2.1 q3.2.2.2
  else
  some (left, t, at_, e)
def expr_parser_un_B (expr_parser_un : (List Token) → Int → Int → Option (Term × List Token × Int × Int)) (expr_parser_post : (List Token) → Int → Int → Option (Term × List Token × Int × Int)) (t : List Token) (at_ : Int) (e : Int) : Option (Term × List Token × Int × Int) :=
  if e = 0 then
    expr_parser_sign ([45] : List UInt8) t at_ e >>= fun q1 =>
    if q1 = true then
      if (1 : Int) = 0 then
        expr_parser_post t at_ e >>= fun q2 =>
        some (q2.1, q2.2.1, q2.2.2.1, q2.2.2.2)
      else
      expr_parser_un t (IntKind.wrap .i64 (at_ + 1)) e >>= fun q3 =>
      expr_parser_made (Term.mk 11 1 ([] : List UInt8) [q3.1] 0 0) at_ q3.2.1 q3.2.2.1 q3.2.2.2 >>= fun q4 =>
      some (q4, q3.2.1, q3.2.2.1, q3.2.2.2)
    else
    expr_parser_sign ([33] : List UInt8) t at_ e >>= fun q5 =>
    if q5 = true then
      if (2 : Int) = 0 then
        expr_parser_post t at_ e >>= fun q6 =>
        some (q6.1, q6.2.1, q6.2.2.1, q6.2.2.2)
      else
      expr_parser_un t (IntKind.wrap .i64 (at_ + 1)) e >>= fun q7 =>
      expr_parser_made (Term.mk 11 2 ([] : List UInt8) [q7.1] 0 0) at_ q7.2.1 q7.2.2.1 q7.2.2.2 >>= fun q8 =>
      some (q8, q7.2.1, q7.2.2.1, q7.2.2.2)
    else
    if (0 : Int) = 0 then
      expr_parser_post t at_ e >>= fun q9 =>
      some (q9.1, q9.2.1, q9.2.2.1, q9.2.2.2)
    else
    expr_parser_un t (IntKind.wrap .i64 (at_ + 1)) e >>= fun q10 =>
    expr_parser_made (Term.mk 11 0 ([] : List UInt8) [q10.1] 0 0) at_ q10.2.1 q10.2.2.1 q10.2.2.2 >>= fun q11 =>
    some (q11, q10.2.1, q10.2.2.1, q10.2.2.2)
  else
  some ((Term.mk 0 0 ([] : List UInt8) [] 0 0), t, at_, e)
def expr_parser_post_B (expr_parser_post_L3 : Int → Term → Term → (List Token) → Int → Int → Option (Term × List Token × Int × Int)) (expr_parser_atom : (List Token) → Int → Int → Option (Term × List Token × Int × Int)) (t : List Token) (at_ : Int) (e : Int) : Option (Term × List Token × Int × Int) :=
  expr_parser_atom t at_ e >>= fun q1 =>
  expr_parser_post_L3 at_ (Term.mk 0 0 ([] : List UInt8) [] 0 0) q1.1 q1.2.1 q1.2.2.1 q1.2.2.2
def expr_parser_post_L3_B (expr_parser_expr : (List Token) → Int → Int → Option (Term × List Token × Int × Int)) (expr_parser_post_L3 : Int → Term → Term → (List Token) → Int → Int → Option (Term × List Token × Int × Int)) (from_ : Int) (o2 : Term) (x : Term) (t : List Token) (at_ : Int) (e : Int) : Option (Term × List Token × Int × Int) :=
  if e = 0 then
    expr_parser_sign ([91] : List UInt8) t at_ e >>= fun q1 =>
    if q1 = true then
      expr_parser_expr t (IntKind.wrap .i64 (at_ + 1)) e >>= fun q2 =>
      expr_parser_need ([93] : List UInt8) q2.2.1 q2.2.2.1 q2.2.2.2 >>= fun q3 =>
      expr_parser_made (Term.mk 12 0 ([] : List UInt8) [x, q2.1] 0 0) from_ q3.1 q3.2.1 q3.2.2 >>= fun q4 =>
      expr_parser_post_L3 from_ o2 q4 q3.1 q3.2.1 q3.2.2
    else
    expr_parser_sign ([46] : List UInt8) t at_ e >>= fun q5 =>
    if q5 = true then
      expr_parser_name t (IntKind.wrap .i64 (at_ + 1)) e >>= fun q6 =>
      expr_parser_made (Term.mk 13 0 q6.1 [x] 0 0) from_ q6.2.1 q6.2.2.1 q6.2.2.2 >>= fun q7 =>
      expr_parser_post_L3 from_ o2 q7 q6.2.1 q6.2.2.1 q6.2.2.2
    else
    some (x, t, at_, e)
  else
  some (x, t, at_, e)
def expr_parser_atom_B (expr_parser_args : Bool → (List Token) → Int → Int → Option (List Term × List Token × Int × Int)) (expr_parser_word : Str → Int → (List Token) → Int → Int → Option (Term × List Token × Int × Int)) (expr_parser_bracket : Str → Int → (List Token) → Int → Int → Option (Term × List Token × Int × Int)) (t : List Token) (at_ : Int) (e : Int) : Option (Term × List Token × Int × Int) :=
  if e = 0 then
    expr_parser_now t at_ e >>= fun q1 =>
    if q1.K = 2 then
      expr_parser_made (Term.mk 5 q1.N ([] : List UInt8) [] 0 0) at_ t (IntKind.wrap .i64 (at_ + 1)) e >>= fun q2 =>
      some (q2, t, IntKind.wrap .i64 (at_ + 1), e)
    else
    if q1.K = 1 then
      expr_parser_sign ([40] : List UInt8) t (IntKind.wrap .i64 (at_ + 1)) e >>= fun q3 =>
      if q3 = true then
        expr_parser_args true t (IntKind.wrap .i64 (at_ + 1)) e >>= fun q4 =>
        expr_parser_made (Term.mk 16 0 q1.S q4.1 0 0) at_ q4.2.1 q4.2.2.1 q4.2.2.2 >>= fun q5 =>
        some (q5, q4.2.1, q4.2.2.1, q4.2.2.2)
      else
      expr_parser_made (Term.mk 19 0 q1.S [] 0 0) at_ t (IntKind.wrap .i64 (at_ + 1)) e >>= fun q6 =>
      some (q6, t, IntKind.wrap .i64 (at_ + 1), e)
    else
    if q1.K = 3 then
      expr_parser_word q1.S at_ t at_ e >>= fun q7 =>
      some (q7.1, q7.2.1, q7.2.2.1, q7.2.2.2)
    else
    if q1.K = 4 then
      expr_parser_bracket q1.S at_ t at_ e >>= fun q8 =>
      some (q8.1, q8.2.1, q8.2.2.1, q8.2.2.2)
    else
    expr_parser_fail t at_ e >>= fun q9 =>
    some ((Term.mk 0 0 ([] : List UInt8) [] 0 0), q9.1, q9.2.1, q9.2.2)
  else
  some ((Term.mk 0 0 ([] : List UInt8) [] 0 0), t, at_, e)
def expr_parser_args_B (expr_parser_list_parser_expr : (List Token) → Int → Int → Option (List Term × List Token × Int × Int)) (few : Bool) (t : List Token) (at_ : Int) (e : Int) : Option (List Term × List Token × Int × Int) :=
  expr_parser_need ([40] : List UInt8) t at_ e >>= fun q1 =>
  if q1.2.2 = 0 then
    if few = true then
      expr_parser_sign ([41] : List UInt8) q1.1 q1.2.1 q1.2.2 >>= fun q2 =>
      if q2 = true then
        some (([] : List Term), q1.1, IntKind.wrap .i64 (q1.2.1 + 1), q1.2.2)
      else
      expr_parser_list_parser_expr q1.1 q1.2.1 q1.2.2 >>= fun q3 =>
      expr_parser_need ([41] : List UInt8) q3.2.1 q3.2.2.1 q3.2.2.2 >>= fun q4 =>
      some (q3.1, q4.1, q4.2.1, q4.2.2)
    else
    expr_parser_list_parser_expr q1.1 q1.2.1 q1.2.2 >>= fun q5 =>
    expr_parser_need ([41] : List UInt8) q5.2.1 q5.2.2.1 q5.2.2.2 >>= fun q6 =>
    some (q5.1, q6.1, q6.2.1, q6.2.2)
  else
  expr_parser_list_parser_expr q1.1 q1.2.1 q1.2.2 >>= fun q7 =>
  expr_parser_need ([41] : List UInt8) q7.2.1 q7.2.2.1 q7.2.2.2 >>= fun q8 =>
  some (q7.1, q8.1, q8.2.1, q8.2.2)
def expr_parser_word_B (expr_parser_args : Bool → (List Token) → Int → Int → Option (List Term × List Token × Int × Int)) (s : Str) (from_ : Int) (t : List Token) (at_ : Int) (e : Int) : Option (Term × List Token × Int × Int) :=
  if s = ([116, 114, 117, 101] : List UInt8) then
    expr_parser_made (Term.mk 6 1 ([] : List UInt8) [] 0 0) from_ t (IntKind.wrap .i64 (at_ + 1)) e >>= fun q1 =>
    some (q1, t, IntKind.wrap .i64 (at_ + 1), e)
  else
  if s = ([102, 97, 108, 115, 101] : List UInt8) then
    expr_parser_made (Term.mk 6 0 ([] : List UInt8) [] 0 0) from_ t (IntKind.wrap .i64 (at_ + 1)) e >>= fun q2 =>
    some (q2, t, IntKind.wrap .i64 (at_ + 1), e)
  else
  if s = ([114, 101, 97, 100] : List UInt8) then
    expr_parser_made (Term.mk 18 0 ([] : List UInt8) [] 0 0) from_ t (IntKind.wrap .i64 (at_ + 1)) e >>= fun q3 =>
    some (q3, t, IntKind.wrap .i64 (at_ + 1), e)
  else
  if s = ([110, 101, 119] : List UInt8) then
    expr_parser_name t (IntKind.wrap .i64 (at_ + 1)) e >>= fun q4 =>
    expr_parser_args false q4.2.1 q4.2.2.1 q4.2.2.2 >>= fun q5 =>
    expr_parser_made (Term.mk 15 0 q4.1 q5.1 0 0) from_ q5.2.1 q5.2.2.1 q5.2.2.2 >>= fun q6 =>
    some (q6, q5.2.1, q5.2.2.1, q5.2.2.2)
  else
  expr_parser_fail t (IntKind.wrap .i64 ((IntKind.wrap .i64 (at_ + 1)) - 1)) e >>= fun q7 =>
  some ((Term.mk 0 0 ([] : List UInt8) [] 0 0), q7.1, q7.2.1, q7.2.2)
def expr_parser_bracket_B (expr_parser_expr : (List Token) → Int → Int → Option (Term × List Token × Int × Int)) (expr_parser_args : Bool → (List Token) → Int → Int → Option (List Term × List Token × Int × Int)) (expr_parser_list_parser_expr : (List Token) → Int → Int → Option (List Term × List Token × Int × Int)) (s : Str) (from_ : Int) (t : List Token) (at_ : Int) (e : Int) : Option (Term × List Token × Int × Int) :=
  if s = ([40] : List UInt8) then
    expr_parser_expr t (IntKind.wrap .i64 (at_ + 1)) e >>= fun q1 =>
    expr_parser_need ([41] : List UInt8) q1.2.1 q1.2.2.1 q1.2.2.2 >>= fun q2 =>
    some (q1.1, q2.1, q2.2.1, q2.2.2)
  else
  if s = ([91] : List UInt8) then
    expr_parser_list_parser_expr t (IntKind.wrap .i64 (at_ + 1)) e >>= fun q3 =>
    expr_parser_need ([93] : List UInt8) q3.2.1 q3.2.2.1 q3.2.2.2 >>= fun q4 =>
    expr_parser_made (Term.mk 14 0 ([] : List UInt8) q3.1 0 0) from_ q4.1 q4.2.1 q4.2.2 >>= fun q5 =>
    some (q5, q4.1, q4.2.1, q4.2.2)
  else
  if s = ([64] : List UInt8) then
    expr_parser_name t (IntKind.wrap .i64 (at_ + 1)) e >>= fun q6 =>
    expr_parser_args true q6.2.1 q6.2.2.1 q6.2.2.2 >>= fun q7 =>
    expr_parser_made (Term.mk 17 0 q6.1 q7.1 0 0) from_ q7.2.1 q7.2.2.1 q7.2.2.2 >>= fun q8 =>
    some (q8, q7.2.1, q7.2.2.1, q7.2.2.2)
  else
  expr_parser_fail t (IntKind.wrap .i64 ((IntKind.wrap .i64 (at_ + 1)) - 1)) e >>= fun q9 =>
  some ((Term.mk 0 0 ([] : List UInt8) [] 0 0), q9.1, q9.2.1, q9.2.2)
def expr_parser_list_parser_expr_B (expr_parser_expr : (List Token) → Int → Int → Option (Term × List Token × Int × Int)) (expr_parser_list_parser_expr_L2 : (List Term) → (List Token) → Int → Int → Option (List Term × List Token × Int × Int)) (t : List Token) (at_ : Int) (e : Int) : Option (List Term × List Token × Int × Int) :=
  expr_parser_expr t at_ e >>= fun q1 =>
  expr_parser_list_parser_expr_L2 [q1.1] q1.2.1 q1.2.2.1 q1.2.2.2
def expr_parser_list_parser_expr_L2_B (expr_parser_expr : (List Token) → Int → Int → Option (Term × List Token × Int × Int)) (expr_parser_list_parser_expr_L2 : (List Term) → (List Token) → Int → Int → Option (List Term × List Token × Int × Int)) (out : List Term) (t : List Token) (at_ : Int) (e : Int) : Option (List Term × List Token × Int × Int) :=
  if e = 0 then
    expr_parser_sign ([44] : List UInt8) t at_ e >>= fun q1 =>
    if q1 = true then
      expr_parser_expr t (IntKind.wrap .i64 (at_ + 1)) e >>= fun q2 =>
      if roomy 72 (List.length out + List.length [q2.1]) then
      expr_parser_list_parser_expr_L2 (out ++ [q2.1]) q2.2.1 q2.2.2.1 q2.2.2.2
      else none
    else
    some (out, t, at_, e)
  else
  some (out, t, at_, e)
inductive I_expr_parser_expr where
  | expr_parser_expr (t : List Token) (at_ : Int) (e : Int)
  | expr_parser_level (least : Int) (t : List Token) (at_ : Int) (e : Int)
  | expr_parser_level_L4 (least : Int) (from_ : Int) (most : Int) (o4 : Term) (left : Term) (t : List Token) (at_ : Int) (e : Int)
  | expr_parser_un (t : List Token) (at_ : Int) (e : Int)
  | expr_parser_post (t : List Token) (at_ : Int) (e : Int)
  | expr_parser_post_L3 (from_ : Int) (o2 : Term) (x : Term) (t : List Token) (at_ : Int) (e : Int)
  | expr_parser_atom (t : List Token) (at_ : Int) (e : Int)
  | expr_parser_args (few : Bool) (t : List Token) (at_ : Int) (e : Int)
  | expr_parser_word (s : Str) (from_ : Int) (t : List Token) (at_ : Int) (e : Int)
  | expr_parser_bracket (s : Str) (from_ : Int) (t : List Token) (at_ : Int) (e : Int)
  | expr_parser_list_parser_expr (t : List Token) (at_ : Int) (e : Int)
  | expr_parser_list_parser_expr_L2 (out : List Term) (t : List Token) (at_ : Int) (e : Int)
@[reducible] def R_expr_parser_expr : I_expr_parser_expr → Type
  | .expr_parser_expr _ _ _ => Term × List Token × Int × Int
  | .expr_parser_level _ _ _ _ => Term × List Token × Int × Int
  | .expr_parser_level_L4 _ _ _ _ _ _ _ _ => Term × List Token × Int × Int
  | .expr_parser_un _ _ _ => Term × List Token × Int × Int
  | .expr_parser_post _ _ _ => Term × List Token × Int × Int
  | .expr_parser_post_L3 _ _ _ _ _ _ => Term × List Token × Int × Int
  | .expr_parser_atom _ _ _ => Term × List Token × Int × Int
  | .expr_parser_args _ _ _ _ => List Term × List Token × Int × Int
  | .expr_parser_word _ _ _ _ _ => Term × List Token × Int × Int
  | .expr_parser_bracket _ _ _ _ _ => Term × List Token × Int × Int
  | .expr_parser_list_parser_expr _ _ _ => List Term × List Token × Int × Int
  | .expr_parser_list_parser_expr_L2 _ _ _ _ => List Term × List Token × Int × Int
def F_expr_parser_expr (g : Fam R_expr_parser_expr) : Fam R_expr_parser_expr
  | .expr_parser_expr t at_ e => expr_parser_expr_B (fun least t at_ e => g (I_expr_parser_expr.expr_parser_level least t at_ e)) t at_ e
  | .expr_parser_level least t at_ e => expr_parser_level_B (fun least from_ most o4 left t at_ e => g (I_expr_parser_expr.expr_parser_level_L4 least from_ most o4 left t at_ e)) (fun t at_ e => g (I_expr_parser_expr.expr_parser_un t at_ e)) least t at_ e
  | .expr_parser_level_L4 least from_ most o4 left t at_ e => expr_parser_level_L4_B (fun least t at_ e => g (I_expr_parser_expr.expr_parser_level least t at_ e)) (fun least from_ most o4 left t at_ e => g (I_expr_parser_expr.expr_parser_level_L4 least from_ most o4 left t at_ e)) least from_ most o4 left t at_ e
  | .expr_parser_un t at_ e => expr_parser_un_B (fun t at_ e => g (I_expr_parser_expr.expr_parser_un t at_ e)) (fun t at_ e => g (I_expr_parser_expr.expr_parser_post t at_ e)) t at_ e
  | .expr_parser_post t at_ e => expr_parser_post_B (fun from_ o2 x t at_ e => g (I_expr_parser_expr.expr_parser_post_L3 from_ o2 x t at_ e)) (fun t at_ e => g (I_expr_parser_expr.expr_parser_atom t at_ e)) t at_ e
  | .expr_parser_post_L3 from_ o2 x t at_ e => expr_parser_post_L3_B (fun t at_ e => g (I_expr_parser_expr.expr_parser_expr t at_ e)) (fun from_ o2 x t at_ e => g (I_expr_parser_expr.expr_parser_post_L3 from_ o2 x t at_ e)) from_ o2 x t at_ e
  | .expr_parser_atom t at_ e => expr_parser_atom_B (fun few t at_ e => g (I_expr_parser_expr.expr_parser_args few t at_ e)) (fun s from_ t at_ e => g (I_expr_parser_expr.expr_parser_word s from_ t at_ e)) (fun s from_ t at_ e => g (I_expr_parser_expr.expr_parser_bracket s from_ t at_ e)) t at_ e
  | .expr_parser_args few t at_ e => expr_parser_args_B (fun t at_ e => g (I_expr_parser_expr.expr_parser_list_parser_expr t at_ e)) few t at_ e
  | .expr_parser_word s from_ t at_ e => expr_parser_word_B (fun few t at_ e => g (I_expr_parser_expr.expr_parser_args few t at_ e)) s from_ t at_ e
  | .expr_parser_bracket s from_ t at_ e => expr_parser_bracket_B (fun t at_ e => g (I_expr_parser_expr.expr_parser_expr t at_ e)) (fun few t at_ e => g (I_expr_parser_expr.expr_parser_args few t at_ e)) (fun t at_ e => g (I_expr_parser_expr.expr_parser_list_parser_expr t at_ e)) s from_ t at_ e
  | .expr_parser_list_parser_expr t at_ e => expr_parser_list_parser_expr_B (fun t at_ e => g (I_expr_parser_expr.expr_parser_expr t at_ e)) (fun out t at_ e => g (I_expr_parser_expr.expr_parser_list_parser_expr_L2 out t at_ e)) t at_ e
  | .expr_parser_list_parser_expr_L2 out t at_ e => expr_parser_list_parser_expr_L2_B (fun t at_ e => g (I_expr_parser_expr.expr_parser_expr t at_ e)) (fun out t at_ e => g (I_expr_parser_expr.expr_parser_list_parser_expr_L2 out t at_ e)) out t at_ e
theorem D_expr_parser_expr : ∀ i, Good (fun g => F_expr_parser_expr g i)
  | .expr_parser_expr t at_ e => show Good (fun g : Fam R_expr_parser_expr => expr_parser_expr_B (fun least t at_ e => g (I_expr_parser_expr.expr_parser_level least t at_ e)) t at_ e) by unfold expr_parser_expr_B; exact (.bind (.call _) fun _ => (.const _))
  | .expr_parser_level least t at_ e => show Good (fun g : Fam R_expr_parser_expr => expr_parser_level_B (fun least from_ most o4 left t at_ e => g (I_expr_parser_expr.expr_parser_level_L4 least from_ most o4 left t at_ e)) (fun t at_ e => g (I_expr_parser_expr.expr_parser_un t at_ e)) least t at_ e) by unfold expr_parser_level_B; exact (.bind (.call _) fun _ => (.call _))
  | .expr_parser_level_L4 least from_ most o4 left t at_ e => show Good (fun g : Fam R_expr_parser_expr => expr_parser_level_L4_B (fun least t at_ e => g (I_expr_parser_expr.expr_parser_level least t at_ e)) (fun least from_ most o4 left t at_ e => g (I_expr_parser_expr.expr_parser_level_L4 least from_ most o4 left t at_ e)) least from_ most o4 left t at_ e) by unfold expr_parser_level_L4_B; exact (.ite (.bind (.const _) fun _ => (.bind (.const _) fun _ => (.ite (.const _) (.ite (.const _) (.ite (.const _) (.bind (.call _) fun _ => (.bind (.const _) fun _ => (.ite (.call _) (.call _))))))))) (.const _))
  | .expr_parser_un t at_ e => show Good (fun g : Fam R_expr_parser_expr => expr_parser_un_B (fun t at_ e => g (I_expr_parser_expr.expr_parser_un t at_ e)) (fun t at_ e => g (I_expr_parser_expr.expr_parser_post t at_ e)) t at_ e) by unfold expr_parser_un_B; exact (.ite (.bind (.const _) fun _ => (.ite (.ite (.bind (.call _) fun _ => (.const _)) (.bind (.call _) fun _ => (.bind (.const _) fun _ => (.const _)))) (.bind (.const _) fun _ => (.ite (.ite (.bind (.call _) fun _ => (.const _)) (.bind (.call _) fun _ => (.bind (.const _) fun _ => (.const _)))) (.ite (.bind (.call _) fun _ => (.const _)) (.bind (.call _) fun _ => (.bind (.const _) fun _ => (.const _)))))))) (.const _))
  | .expr_parser_post t at_ e => show Good (fun g : Fam R_expr_parser_expr => expr_parser_post_B (fun from_ o2 x t at_ e => g (I_expr_parser_expr.expr_parser_post_L3 from_ o2 x t at_ e)) (fun t at_ e => g (I_expr_parser_expr.expr_parser_atom t at_ e)) t at_ e) by unfold expr_parser_post_B; exact (.bind (.call _) fun _ => (.call _))
  | .expr_parser_post_L3 from_ o2 x t at_ e => show Good (fun g : Fam R_expr_parser_expr => expr_parser_post_L3_B (fun t at_ e => g (I_expr_parser_expr.expr_parser_expr t at_ e)) (fun from_ o2 x t at_ e => g (I_expr_parser_expr.expr_parser_post_L3 from_ o2 x t at_ e)) from_ o2 x t at_ e) by unfold expr_parser_post_L3_B; exact (.ite (.bind (.const _) fun _ => (.ite (.bind (.call _) fun _ => (.bind (.const _) fun _ => (.bind (.const _) fun _ => (.call _)))) (.bind (.const _) fun _ => (.ite (.bind (.const _) fun _ => (.bind (.const _) fun _ => (.call _))) (.const _))))) (.const _))
  | .expr_parser_atom t at_ e => show Good (fun g : Fam R_expr_parser_expr => expr_parser_atom_B (fun few t at_ e => g (I_expr_parser_expr.expr_parser_args few t at_ e)) (fun s from_ t at_ e => g (I_expr_parser_expr.expr_parser_word s from_ t at_ e)) (fun s from_ t at_ e => g (I_expr_parser_expr.expr_parser_bracket s from_ t at_ e)) t at_ e) by unfold expr_parser_atom_B; exact (.ite (.bind (.const _) fun _ => (.ite (.bind (.const _) fun _ => (.const _)) (.ite (.bind (.const _) fun _ => (.ite (.bind (.call _) fun _ => (.bind (.const _) fun _ => (.const _))) (.bind (.const _) fun _ => (.const _)))) (.ite (.bind (.call _) fun _ => (.const _)) (.ite (.bind (.call _) fun _ => (.const _)) (.bind (.const _) fun _ => (.const _))))))) (.const _))
  | .expr_parser_args few t at_ e => show Good (fun g : Fam R_expr_parser_expr => expr_parser_args_B (fun t at_ e => g (I_expr_parser_expr.expr_parser_list_parser_expr t at_ e)) few t at_ e) by unfold expr_parser_args_B; exact (.bind (.const _) fun _ => (.ite (.ite (.bind (.const _) fun _ => (.ite (.const _) (.bind (.call _) fun _ => (.bind (.const _) fun _ => (.const _))))) (.bind (.call _) fun _ => (.bind (.const _) fun _ => (.const _)))) (.bind (.call _) fun _ => (.bind (.const _) fun _ => (.const _)))))
  | .expr_parser_word s from_ t at_ e => show Good (fun g : Fam R_expr_parser_expr => expr_parser_word_B (fun few t at_ e => g (I_expr_parser_expr.expr_parser_args few t at_ e)) s from_ t at_ e) by unfold expr_parser_word_B; exact (.ite (.bind (.const _) fun _ => (.const _)) (.ite (.bind (.const _) fun _ => (.const _)) (.ite (.bind (.const _) fun _ => (.const _)) (.ite (.bind (.const _) fun _ => (.bind (.call _) fun _ => (.bind (.const _) fun _ => (.const _)))) (.bind (.const _) fun _ => (.const _))))))
  | .expr_parser_bracket s from_ t at_ e => show Good (fun g : Fam R_expr_parser_expr => expr_parser_bracket_B (fun t at_ e => g (I_expr_parser_expr.expr_parser_expr t at_ e)) (fun few t at_ e => g (I_expr_parser_expr.expr_parser_args few t at_ e)) (fun t at_ e => g (I_expr_parser_expr.expr_parser_list_parser_expr t at_ e)) s from_ t at_ e) by unfold expr_parser_bracket_B; exact (.ite (.bind (.call _) fun _ => (.bind (.const _) fun _ => (.const _))) (.ite (.bind (.call _) fun _ => (.bind (.const _) fun _ => (.bind (.const _) fun _ => (.const _)))) (.ite (.bind (.const _) fun _ => (.bind (.call _) fun _ => (.bind (.const _) fun _ => (.const _)))) (.bind (.const _) fun _ => (.const _)))))
  | .expr_parser_list_parser_expr t at_ e => show Good (fun g : Fam R_expr_parser_expr => expr_parser_list_parser_expr_B (fun t at_ e => g (I_expr_parser_expr.expr_parser_expr t at_ e)) (fun out t at_ e => g (I_expr_parser_expr.expr_parser_list_parser_expr_L2 out t at_ e)) t at_ e) by unfold expr_parser_list_parser_expr_B; exact (.bind (.call _) fun _ => (.call _))
  | .expr_parser_list_parser_expr_L2 out t at_ e => show Good (fun g : Fam R_expr_parser_expr => expr_parser_list_parser_expr_L2_B (fun t at_ e => g (I_expr_parser_expr.expr_parser_expr t at_ e)) (fun out t at_ e => g (I_expr_parser_expr.expr_parser_list_parser_expr_L2 out t at_ e)) out t at_ e) by unfold expr_parser_list_parser_expr_L2_B; exact (.ite (.bind (.const _) fun _ => (.ite (.bind (.call _) fun _ => (.ite (.call _) (.const _))) (.const _))) (.const _))
def expr_parser_expr (t : List Token) (at_ : Int) (e : Int) : Option (Term × List Token × Int × Int) := fixF F_expr_parser_expr (.expr_parser_expr t at_ e)
def expr_parser_level (least : Int) (t : List Token) (at_ : Int) (e : Int) : Option (Term × List Token × Int × Int) := fixF F_expr_parser_expr (.expr_parser_level least t at_ e)
def expr_parser_level_L4 (least : Int) (from_ : Int) (most : Int) (o4 : Term) (left : Term) (t : List Token) (at_ : Int) (e : Int) : Option (Term × List Token × Int × Int) := fixF F_expr_parser_expr (.expr_parser_level_L4 least from_ most o4 left t at_ e)
def expr_parser_un (t : List Token) (at_ : Int) (e : Int) : Option (Term × List Token × Int × Int) := fixF F_expr_parser_expr (.expr_parser_un t at_ e)
def expr_parser_post (t : List Token) (at_ : Int) (e : Int) : Option (Term × List Token × Int × Int) := fixF F_expr_parser_expr (.expr_parser_post t at_ e)
def expr_parser_post_L3 (from_ : Int) (o2 : Term) (x : Term) (t : List Token) (at_ : Int) (e : Int) : Option (Term × List Token × Int × Int) := fixF F_expr_parser_expr (.expr_parser_post_L3 from_ o2 x t at_ e)
def expr_parser_atom (t : List Token) (at_ : Int) (e : Int) : Option (Term × List Token × Int × Int) := fixF F_expr_parser_expr (.expr_parser_atom t at_ e)
def expr_parser_args (few : Bool) (t : List Token) (at_ : Int) (e : Int) : Option (List Term × List Token × Int × Int) := fixF F_expr_parser_expr (.expr_parser_args few t at_ e)
def expr_parser_word (s : Str) (from_ : Int) (t : List Token) (at_ : Int) (e : Int) : Option (Term × List Token × Int × Int) := fixF F_expr_parser_expr (.expr_parser_word s from_ t at_ e)
def expr_parser_bracket (s : Str) (from_ : Int) (t : List Token) (at_ : Int) (e : Int) : Option (Term × List Token × Int × Int) := fixF F_expr_parser_expr (.expr_parser_bracket s from_ t at_ e)
def expr_parser_list_parser_expr (t : List Token) (at_ : Int) (e : Int) : Option (List Term × List Token × Int × Int) := fixF F_expr_parser_expr (.expr_parser_list_parser_expr t at_ e)
def expr_parser_list_parser_expr_L2 (out : List Term) (t : List Token) (at_ : Int) (e : Int) : Option (List Term × List Token × Int × Int) := fixF F_expr_parser_expr (.expr_parser_list_parser_expr_L2 out t at_ e)
theorem expr_parser_expr_eq (t : List Token) (at_ : Int) (e : Int) : expr_parser_expr t at_ e = expr_parser_expr_B expr_parser_level t at_ e := fixF_eq D_expr_parser_expr (.expr_parser_expr t at_ e)
theorem expr_parser_level_eq (least : Int) (t : List Token) (at_ : Int) (e : Int) : expr_parser_level least t at_ e = expr_parser_level_B expr_parser_level_L4 expr_parser_un least t at_ e := fixF_eq D_expr_parser_expr (.expr_parser_level least t at_ e)
theorem expr_parser_level_L4_eq (least : Int) (from_ : Int) (most : Int) (o4 : Term) (left : Term) (t : List Token) (at_ : Int) (e : Int) : expr_parser_level_L4 least from_ most o4 left t at_ e = expr_parser_level_L4_B expr_parser_level expr_parser_level_L4 least from_ most o4 left t at_ e := fixF_eq D_expr_parser_expr (.expr_parser_level_L4 least from_ most o4 left t at_ e)
theorem expr_parser_un_eq (t : List Token) (at_ : Int) (e : Int) : expr_parser_un t at_ e = expr_parser_un_B expr_parser_un expr_parser_post t at_ e := fixF_eq D_expr_parser_expr (.expr_parser_un t at_ e)
theorem expr_parser_post_eq (t : List Token) (at_ : Int) (e : Int) : expr_parser_post t at_ e = expr_parser_post_B expr_parser_post_L3 expr_parser_atom t at_ e := fixF_eq D_expr_parser_expr (.expr_parser_post t at_ e)
theorem expr_parser_post_L3_eq (from_ : Int) (o2 : Term) (x : Term) (t : List Token) (at_ : Int) (e : Int) : expr_parser_post_L3 from_ o2 x t at_ e = expr_parser_post_L3_B expr_parser_expr expr_parser_post_L3 from_ o2 x t at_ e := fixF_eq D_expr_parser_expr (.expr_parser_post_L3 from_ o2 x t at_ e)
theorem expr_parser_atom_eq (t : List Token) (at_ : Int) (e : Int) : expr_parser_atom t at_ e = expr_parser_atom_B expr_parser_args expr_parser_word expr_parser_bracket t at_ e := fixF_eq D_expr_parser_expr (.expr_parser_atom t at_ e)
theorem expr_parser_args_eq (few : Bool) (t : List Token) (at_ : Int) (e : Int) : expr_parser_args few t at_ e = expr_parser_args_B expr_parser_list_parser_expr few t at_ e := fixF_eq D_expr_parser_expr (.expr_parser_args few t at_ e)
theorem expr_parser_word_eq (s : Str) (from_ : Int) (t : List Token) (at_ : Int) (e : Int) : expr_parser_word s from_ t at_ e = expr_parser_word_B expr_parser_args s from_ t at_ e := fixF_eq D_expr_parser_expr (.expr_parser_word s from_ t at_ e)
theorem expr_parser_bracket_eq (s : Str) (from_ : Int) (t : List Token) (at_ : Int) (e : Int) : expr_parser_bracket s from_ t at_ e = expr_parser_bracket_B expr_parser_expr expr_parser_args expr_parser_list_parser_expr s from_ t at_ e := fixF_eq D_expr_parser_expr (.expr_parser_bracket s from_ t at_ e)
theorem expr_parser_list_parser_expr_eq (t : List Token) (at_ : Int) (e : Int) : expr_parser_list_parser_expr t at_ e = expr_parser_list_parser_expr_B expr_parser_expr expr_parser_list_parser_expr_L2 t at_ e := fixF_eq D_expr_parser_expr (.expr_parser_list_parser_expr t at_ e)
theorem expr_parser_list_parser_expr_L2_eq (out : List Term) (t : List Token) (at_ : Int) (e : Int) : expr_parser_list_parser_expr_L2 out t at_ e = expr_parser_list_parser_expr_L2_B expr_parser_expr expr_parser_list_parser_expr_L2 out t at_ e := fixF_eq D_expr_parser_expr (.expr_parser_list_parser_expr_L2 out t at_ e)
def expr_start_parser_expr (t : List Token) (at_ : Int) : Option (Term × Int × Int) :=
  if at_ < 0 then
    some ((Term.mk 0 0 ([] : List UInt8) [] 0 0), 0, 13)
  else
  if at_ > (List.length t : Int) then
    some ((Term.mk 0 0 ([] : List UInt8) [] 0 0), 0, 13)
  else
  expr_parser_expr t at_ 0 >>= fun q1 =>
  if q1.2.2.2 = 0 then
    some (q1.1, q1.2.2.1, 0)
  else
  some ((Term.mk 0 0 ([] : List UInt8) [] 0 0), q1.2.2.1, q1.2.2.2)
def expr_Parse (t : List Token) (at_ : Int) : Option (Term × Int × Int) :=
  expr_start_parser_expr t at_ >>= fun q1 =>
  some (q1.1, q1.2.1, q1.2.2)
def unit_reader_is (k : Int) (s : Str) (t : List Token) (at_ : Int) (e : Int) (K : Int) (N : Int) (S : Str) (L : List Term) (From : Int) (To : Int) : Option (Bool) :=
  idx t at_ >>= fun x =>
  if x.K = k then
    idx t at_ >>= fun x1 =>
    some ((x1.S == s))
  else
  some (false)
def unit_reader_literal (t : List Token) (at_ : Int) (e : Int) (K : Int) (N : Int) (S : Str) (L : List Term) (From : Int) (To : Int) : Option (Term × List Token × Int × Int × Int × Int × Str × List Term × Int × Int) :=
  if e = 0 then
    idx t at_ >>= fun x =>
    if x.K = 2 then
      if (0 : Int) ≤ (IntKind.wrap .i64 (at_ + 1)) then
      if Int.toNat (IntKind.wrap .i64 (at_ + 1)) ≤ List.length t then
      if (0 : Int) ≤ at_ then
      if Int.toNat at_ ≤ Int.toNat (IntKind.wrap .i64 (at_ + 1)) then
      expr_Parse (List.drop (Int.toNat at_) (List.take (Int.toNat (IntKind.wrap .i64 (at_ + 1))) t)) 0 >>= fun q5 =>
      some (q5.1, t, IntKind.wrap .i64 (at_ + 1), e, K, N, S, L, From, To)
      else none
      else none
      else none
      else none
    else
    unit_reader_is 3 ([116, 114, 117, 101] : List UInt8) t at_ e K N S L From To >>= fun q1 =>
    if q1 = true then
      if (0 : Int) ≤ (IntKind.wrap .i64 (at_ + 1)) then
      if Int.toNat (IntKind.wrap .i64 (at_ + 1)) ≤ List.length t then
      if (0 : Int) ≤ at_ then
      if Int.toNat at_ ≤ Int.toNat (IntKind.wrap .i64 (at_ + 1)) then
      expr_Parse (List.drop (Int.toNat at_) (List.take (Int.toNat (IntKind.wrap .i64 (at_ + 1))) t)) 0 >>= fun q4 =>
      some (q4.1, t, IntKind.wrap .i64 (at_ + 1), e, K, N, S, L, From, To)
      else none
      else none
      else none
      else none
    else
    unit_reader_is 3 ([102, 97, 108, 115, 101] : List UInt8) t at_ e K N S L From To >>= fun q2 =>
    if q2 = true then
      if (0 : Int) ≤ (IntKind.wrap .i64 (at_ + 1)) then
      if Int.toNat (IntKind.wrap .i64 (at_ + 1)) ≤ List.length t then
      if (0 : Int) ≤ at_ then
      if Int.toNat at_ ≤ Int.toNat (IntKind.wrap .i64 (at_ + 1)) then
      expr_Parse (List.drop (Int.toNat at_) (List.take (Int.toNat (IntKind.wrap .i64 (at_ + 1))) t)) 0 >>= fun q3 =>
      some (q3.1, t, IntKind.wrap .i64 (at_ + 1), e, K, N, S, L, From, To)
      else none
      else none
      else none
      else none
    else
    some ((Term.mk 0 0 ([] : List UInt8) [] 0 0), t, at_, 6, K, N, S, L, From, To)
  else
  some ((Term.mk 0 0 ([] : List UInt8) [] 0 0), t, at_, e, K, N, S, L, From, To)
def unit_reader_made (k : Int) (n : Int) (s : Str) (from_ : Int) (parts : List Term) (t : List Token) (at_ : Int) (e : Int) (K : Int) (N : Int) (S : Str) (L : List Term) (From : Int) (To : Int) : Option (Term) :=
  if e = 0 then
    idx t from_ >>= fun x =>
    idx t (IntKind.wrap .i64 (at_ - 1)) >>= fun x1 =>
    some ((Term.mk k n s parts x.From x1.To))
  else
  some ((Term.mk 0 0 ([] : List UInt8) [] 0 0))
def unit_reader_name (t : List Token) (at_ : Int) (e : Int) (K : Int) (N : Int) (S : Str) (L : List Term) (From : Int) (To : Int) : Option (Str × List Token × Int × Int × Int × Int × Str × List Term × Int × Int) :=
  if e = 0 then
    idx t at_ >>= fun x =>
    if x.K = 1 then
      idx t (IntKind.wrap .i64 ((IntKind.wrap .i64 (at_ + 1)) - 1)) >>= fun x1 =>
      some (x1.S, t, IntKind.wrap .i64 (at_ + 1), e, K, N, S, L, From, To)
    else
    some (([] : List UInt8), t, at_, 6, K, N, S, L, From, To)
  else
  some (([] : List UInt8), t, at_, e, K, N, S, L, From, To)
def unit_reader_take (k : Int) (s : Str) (t : List Token) (at_ : Int) (e : Int) (K : Int) (N : Int) (S : Str) (L : List Term) (From : Int) (To : Int) : Option (Bool × List Token × Int × Int × Int × Int × Str × List Term × Int × Int) :=
  if e = 0 then
    unit_reader_is k s t at_ e K N S L From To >>= fun q1 =>
    if q1 = true then
      some (true, t, IntKind.wrap .i64 (at_ + 1), e, K, N, S, L, From, To)
    else
    some (false, t, at_, e, K, N, S, L, From, To)
  else
  some (false, t, at_, e, K, N, S, L, From, To)
def unit_reader_need (k : Int) (s : Str) (t : List Token) (at_ : Int) (e : Int) (K : Int) (N : Int) (S : Str) (L : List Term) (From : Int) (To : Int) : Option (List Token × Int × Int × Int × Int × Str × List Term × Int × Int) :=
  if e = 0 then
    unit_reader_take k s t at_ e K N S L From To >>= fun q1 =>
    if q1.1 = true then
      some (q1.2.1, q1.2.2.1, q1.2.2.2.1, q1.2.2.2.2.1, q1.2.2.2.2.2.1, q1.2.2.2.2.2.2.1, q1.2.2.2.2.2.2.2.1, q1.2.2.2.2.2.2.2.2.1, q1.2.2.2.2.2.2.2.2.2)
    else
    some (q1.2.1, q1.2.2.1, 6, q1.2.2.2.2.1, q1.2.2.2.2.2.1, q1.2.2.2.2.2.2.1, q1.2.2.2.2.2.2.2.1, q1.2.2.2.2.2.2.2.2.1, q1.2.2.2.2.2.2.2.2.2)
  else
  some (t, at_, e, K, N, S, L, From, To)
def unit_reader_define (t : List Token) (at_ : Int) (e : Int) (K : Int) (N : Int) (S : Str) (L : List Term) (From : Int) (To : Int) : Option (Term × List Token × Int × Int × Int × Int × Str × List Term × Int × Int) :=
  unit_reader_name t (IntKind.wrap .i64 (at_ + 1)) e K N S L From To >>= fun q1 =>
  unit_reader_need 4 ([61] : List UInt8) q1.2.1 q1.2.2.1 q1.2.2.2.1 q1.2.2.2.2.1 q1.2.2.2.2.2.1 q1.2.2.2.2.2.2.1 q1.2.2.2.2.2.2.2.1 q1.2.2.2.2.2.2.2.2.1 q1.2.2.2.2.2.2.2.2.2 >>= fun q2 =>
  unit_reader_literal q2.1 q2.2.1 q2.2.2.1 q2.2.2.2.1 q2.2.2.2.2.1 q2.2.2.2.2.2.1 q2.2.2.2.2.2.2.1 q2.2.2.2.2.2.2.2.1 q2.2.2.2.2.2.2.2.2 >>= fun q3 =>
  unit_reader_need 4 ([59] : List UInt8) q3.2.1 q3.2.2.1 q3.2.2.2.1 q3.2.2.2.2.1 q3.2.2.2.2.2.1 q3.2.2.2.2.2.2.1 q3.2.2.2.2.2.2.2.1 q3.2.2.2.2.2.2.2.2.1 q3.2.2.2.2.2.2.2.2.2 >>= fun q4 =>
  unit_reader_made 31 0 q1.1 at_ [q3.1] q4.1 q4.2.1 q4.2.2.1 q4.2.2.2.1 q4.2.2.2.2.1 q4.2.2.2.2.2.1 q4.2.2.2.2.2.2.1 q4.2.2.2.2.2.2.2.1 q4.2.2.2.2.2.2.2.2 >>= fun q5 =>
  some (q5, q4.1, q4.2.1, q4.2.2.1, q4.2.2.2.1, q4.2.2.2.2.1, q4.2.2.2.2.2.1, q4.2.2.2.2.2.2.1, q4.2.2.2.2.2.2.2.1, q4.2.2.2.2.2.2.2.2)
def stmt_reader_now (t : List Token) (at_ : Int) (e : Int) : Option (Token) :=
  if at_ < (List.length t : Int) then
    idx t at_ >>= fun x =>
    some (x)
  else
  some ((Token.mk 5 0 ([] : List UInt8) 0 0))
def stmt_reader_is (k : Int) (s : Str) (t : List Token) (at_ : Int) (e : Int) : Option (Bool) :=
  stmt_reader_now t at_ e >>= fun q1 =>
  if q1.K = k then
    some ((q1.S == s))
  else
  some (false)
def stmt_reader_made (k : Int) (s : Str) (from_ : Int) (parts : List Term) (t : List Token) (at_ : Int) (e : Int) : Option (Term) :=
  if e = 0 then
    idx t from_ >>= fun x =>
    idx t (IntKind.wrap .i64 (at_ - 1)) >>= fun x1 =>
    some ((Term.mk k 0 s parts x.From x1.To))
  else
  some ((Term.mk 0 0 ([] : List UInt8) [] 0 0))
def stmt_reader_need (k : Int) (s : Str) (t : List Token) (at_ : Int) (e : Int) : Option (List Token × Int × Int) :=
  if e = 0 then
    stmt_reader_is k s t at_ e >>= fun q1 =>
    if q1 = true then
      some (t, IntKind.wrap .i64 (at_ + 1), e)
    else
    some (t, at_, 6)
  else
  some (t, at_, e)
def stmt_kind (t : Token) : Option (Nat) :=
  if t.K = 4 then
    if t.S = ([123] : List UInt8) then
      some (51)
    else
    some (67)
  else
  if t.K = 3 then
    if t.S = ([108, 101, 116] : List UInt8) then
      some (68)
    else
    if t.S = ([105, 102] : List UInt8) then
      some (69)
    else
    if t.S = ([119, 104, 105, 108, 101] : List UInt8) then
      some (70)
    else
    if t.S = ([102, 111, 114] : List UInt8) then
      some (71)
    else
    if t.S = ([112, 114, 105, 110, 116] : List UInt8) then
      some (72)
    else
    if t.S = ([114, 101, 116, 117, 114, 110] : List UInt8) then
      some (73)
    else
    if t.S = ([100, 111] : List UInt8) then
      some (74)
    else
    some (67)
  else
  some (67)
def stmt_reader_other_Parse (t : List Token) (at_ : Int) (e : Int) : Option (Term × List Token × Int × Int) :=
  if e = 0 then
    if at_ > (List.length t : Int) then
      some ((Term.mk 0 0 ([] : List UInt8) [] 0 0), t, at_, 6)
    else
    expr_Parse t at_ >>= fun q1 =>
    some (q1.1, t, q1.2.1, q1.2.2)
  else
  some ((Term.mk 0 0 ([] : List UInt8) [] 0 0), t, at_, e)
def stmt_reader_expr (t : List Token) (at_ : Int) (e : Int) : Option (Term × List Token × Int × Int) :=
  stmt_reader_other_Parse t at_ e >>= fun q1 =>
  some (q1.1, q1.2.1, q1.2.2.1, q1.2.2.2)
def stmt_reader_single (k : Int) (t : List Token) (at_ : Int) (e : Int) : Option (Term × List Token × Int × Int) :=
  stmt_reader_expr t (IntKind.wrap .i64 (at_ + 1)) e >>= fun q1 =>
  stmt_reader_need 4 ([59] : List UInt8) q1.2.1 q1.2.2.1 q1.2.2.2 >>= fun q2 =>
  stmt_reader_made k ([] : List UInt8) at_ [q1.1] q2.1 q2.2.1 q2.2.2 >>= fun q3 =>
  some (q3, q2.1, q2.2.1, q2.2.2)
def stmt_reader_back (t : List Token) (at_ : Int) (e : Int) : Option (Term × List Token × Int × Int) :=
  stmt_reader_single 27 t at_ e >>= fun q1 =>
  some (q1.1, q1.2.1, q1.2.2.1, q1.2.2.2)
def stmt_reader_call (t : List Token) (at_ : Int) (e : Int) : Option (Term × List Token × Int × Int) :=
  stmt_reader_single 28 t at_ e >>= fun q1 =>
  some (q1.1, q1.2.1, q1.2.2.1, q1.2.2.2)
def stmt_reader_name (t : List Token) (at_ : Int) (e : Int) : Option (Str × List Token × Int × Int) :=
  if e = 0 then
    stmt_reader_now t at_ e >>= fun q1 =>
    if q1.K = 1 then
      some (q1.S, t, IntKind.wrap .i64 (at_ + 1), e)
    else
    some (([] : List UInt8), t, at_, 6)
  else
  some (([] : List UInt8), t, at_, e)
def expr_parser_kind_B (expr_parser_kind : (List Token) → Int → Int → Option (Term × List Token × Int × Int)) (t : List Token) (at_ : Int) (e : Int) : Option (Term × List Token × Int × Int) :=
  if e = 0 then
    expr_parser_now t at_ e >>= fun q1 =>
    if q1.K = 3 then
      if q1.S = ([105, 110, 116] : List UInt8) then
        expr_parser_made (Term.mk 1 0 ([] : List UInt8) [] 0 0) at_ t (IntKind.wrap .i64 (at_ + 1)) e >>= fun q2 =>
        some (q2, t, IntKind.wrap .i64 (at_ + 1), e)
      else
      if q1.S = ([98, 111, 111, 108] : List UInt8) then
        expr_parser_made (Term.mk 2 0 ([] : List UInt8) [] 0 0) at_ t (IntKind.wrap .i64 (at_ + 1)) e >>= fun q3 =>
        some (q3, t, IntKind.wrap .i64 (at_ + 1), e)
      else
      expr_parser_sign ([91] : List UInt8) t at_ e >>= fun q5 =>
      if q5 = true then
        expr_parser_now t (IntKind.wrap .i64 (at_ + 1)) e >>= fun q6 =>
        if q6.K = 2 then
          expr_parser_need ([93] : List UInt8) t (IntKind.wrap .i64 ((IntKind.wrap .i64 (at_ + 1)) + 1)) e >>= fun q8 =>
          expr_parser_kind q8.1 q8.2.1 q8.2.2 >>= fun q9 =>
          expr_parser_made (Term.mk 3 q6.N ([] : List UInt8) [q9.1] 0 0) at_ q9.2.1 q9.2.2.1 q9.2.2.2 >>= fun q10 =>
          some (q10, q9.2.1, q9.2.2.1, q9.2.2.2)
        else
        expr_parser_fail t (IntKind.wrap .i64 (at_ + 1)) e >>= fun q7 =>
        some ((Term.mk 0 0 ([] : List UInt8) [] 0 0), q7.1, q7.2.1, q7.2.2)
      else
      expr_parser_fail t at_ e >>= fun q11 =>
      some ((Term.mk 0 0 ([] : List UInt8) [] 0 0), q11.1, q11.2.1, q11.2.2)
    else
    if q1.K = 1 then
      expr_parser_made (Term.mk 4 0 q1.S [] 0 0) at_ t (IntKind.wrap .i64 (at_ + 1)) e >>= fun q29 =>
      some (q29, t, IntKind.wrap .i64 (at_ + 1), e)
    else
    expr_parser_sign ([91] : List UInt8) t at_ e >>= fun q30 =>
    if q30 = true then
      expr_parser_now t (IntKind.wrap .i64 (at_ + 1)) e >>= fun q31 =>
      if q31.K = 2 then
        expr_parser_need ([93] : List UInt8) t (IntKind.wrap .i64 ((IntKind.wrap .i64 (at_ + 1)) + 1)) e >>= fun q33 =>
        expr_parser_kind q33.1 q33.2.1 q33.2.2 >>= fun q34 =>
        expr_parser_made (Term.mk 3 q31.N ([] : List UInt8) [q34.1] 0 0) at_ q34.2.1 q34.2.2.1 q34.2.2.2 >>= fun q35 =>
        some (q35, q34.2.1, q34.2.2.1, q34.2.2.2)
      else
      expr_parser_fail t (IntKind.wrap .i64 (at_ + 1)) e >>= fun q32 =>
      some ((Term.mk 0 0 ([] : List UInt8) [] 0 0), q32.1, q32.2.1, q32.2.2)
    else
    expr_parser_fail t at_ e >>= fun q36 =>
    some ((Term.mk 0 0 ([] : List UInt8) [] 0 0), q36.1, q36.2.1, q36.2.2)
  else
  some ((Term.mk 0 0 ([] : List UInt8) [] 0 0), t, at_, e)
inductive I_expr_parser_kind where
  | expr_parser_kind (t : List Token) (at_ : Int) (e : Int)
@[reducible] def R_expr_parser_kind : I_expr_parser_kind → Type
  | .expr_parser_kind _ _ _ => Term × List Token × Int × Int
def F_expr_parser_kind (g : Fam R_expr_parser_kind) : Fam R_expr_parser_kind
  | .expr_parser_kind t at_ e => expr_parser_kind_B (fun t at_ e => g (I_expr_parser_kind.expr_parser_kind t at_ e)) t at_ e
theorem D_expr_parser_kind : ∀ i, Good (fun g => F_expr_parser_kind g i)
  | .expr_parser_kind t at_ e => show Good (fun g : Fam R_expr_parser_kind => expr_parser_kind_B (fun t at_ e => g (I_expr_parser_kind.expr_parser_kind t at_ e)) t at_ e) by unfold expr_parser_kind_B; exact (.ite (.bind (.const _) fun _ => (.ite (.ite (.bind (.const _) fun _ => (.const _)) (.ite (.bind (.const _) fun _ => (.const _)) (.bind (.const _) fun _ => (.ite (.bind (.const _) fun _ => (.ite (.bind (.const _) fun _ => (.bind (.call _) fun _ => (.bind (.const _) fun _ => (.const _)))) (.bind (.const _) fun _ => (.const _)))) (.bind (.const _) fun _ => (.const _)))))) (.ite (.bind (.const _) fun _ => (.const _)) (.bind (.const _) fun _ => (.ite (.bind (.const _) fun _ => (.ite (.bind (.const _) fun _ => (.bind (.call _) fun _ => (.bind (.const _) fun _ => (.const _)))) (.bind (.const _) fun _ => (.const _)))) (.bind (.const _) fun _ => (.const _))))))) (.const _))
def expr_parser_kind (t : List Token) (at_ : Int) (e : Int) : Option (Term × List Token × Int × Int) := fixF F_expr_parser_kind (.expr_parser_kind t at_ e)
theorem expr_parser_kind_eq (t : List Token) (at_ : Int) (e : Int) : expr_parser_kind t at_ e = expr_parser_kind_B expr_parser_kind t at_ e := fixF_eq D_expr_parser_kind (.expr_parser_kind t at_ e)
def expr_start_parser_kind (t : List Token) (at_ : Int) : Option (Term × Int × Int) :=
  if at_ < 0 then
    some ((Term.mk 0 0 ([] : List UInt8) [] 0 0), 0, 13)
  else
  if at_ > (List.length t : Int) then
    some ((Term.mk 0 0 ([] : List UInt8) [] 0 0), 0, 13)
  else
  expr_parser_kind t at_ 0 >>= fun q1 =>
  if q1.2.2.2 = 0 then
    some (q1.1, q1.2.2.1, 0)
  else
  some ((Term.mk 0 0 ([] : List UInt8) [] 0 0), q1.2.2.1, q1.2.2.2)
def expr_Type (t : List Token) (at_ : Int) : Option (Term × Int × Int) :=
  expr_start_parser_kind t at_ >>= fun q1 =>
  some (q1.1, q1.2.1, q1.2.2)
def stmt_reader_other_Type (t : List Token) (at_ : Int) (e : Int) : Option (Term × List Token × Int × Int) :=
  if e = 0 then
    if at_ > (List.length t : Int) then
      some ((Term.mk 0 0 ([] : List UInt8) [] 0 0), t, at_, 6)
    else
    expr_Type t at_ >>= fun q1 =>
    some (q1.1, t, q1.2.1, q1.2.2)
  else
  some ((Term.mk 0 0 ([] : List UInt8) [] 0 0), t, at_, e)
def stmt_reader_let (t : List Token) (at_ : Int) (e : Int) : Option (Term × List Token × Int × Int) :=
  stmt_reader_name t (IntKind.wrap .i64 (at_ + 1)) e >>= fun q1 =>
  if q1.2.2.2 = 0 then
    stmt_reader_is 4 ([58] : List UInt8) q1.2.1 q1.2.2.1 q1.2.2.2 >>= fun q2 =>
    if q2 = true then
      stmt_reader_other_Type q1.2.1 (IntKind.wrap .i64 (q1.2.2.1 + 1)) q1.2.2.2 >>= fun q3 =>
      stmt_reader_need 4 ([59] : List UInt8) q3.2.1 q3.2.2.1 q3.2.2.2 >>= fun q4 =>
      stmt_reader_made 21 q1.1 at_ [q3.1] q4.1 q4.2.1 q4.2.2 >>= fun q5 =>
      some (q5, q4.1, q4.2.1, q4.2.2)
    else
    stmt_reader_need 4 ([61] : List UInt8) q1.2.1 q1.2.2.1 q1.2.2.2 >>= fun q6 =>
    stmt_reader_expr q6.1 q6.2.1 q6.2.2 >>= fun q7 =>
    stmt_reader_need 4 ([59] : List UInt8) q7.2.1 q7.2.2.1 q7.2.2.2 >>= fun q8 =>
    stmt_reader_made 20 q1.1 at_ [q7.1] q8.1 q8.2.1 q8.2.2 >>= fun q9 =>
    some (q9, q8.1, q8.2.1, q8.2.2)
  else
  stmt_reader_need 4 ([61] : List UInt8) q1.2.1 q1.2.2.1 q1.2.2.2 >>= fun q10 =>
  stmt_reader_expr q10.1 q10.2.1 q10.2.2 >>= fun q11 =>
  stmt_reader_need 4 ([59] : List UInt8) q11.2.1 q11.2.2.1 q11.2.2.2 >>= fun q12 =>
  stmt_reader_made 20 q1.1 at_ [q11.1] q12.1 q12.2.1 q12.2.2 >>= fun q13 =>
  some (q13, q12.1, q12.2.1, q12.2.2)
def stmt_reader_set (t : List Token) (at_ : Int) (e : Int) : Option (Term × List Token × Int × Int) :=
  stmt_reader_expr t at_ e >>= fun q1 =>
  stmt_reader_need 4 ([61] : List UInt8) q1.2.1 q1.2.2.1 q1.2.2.2 >>= fun q2 =>
  stmt_reader_expr q2.1 q2.2.1 q2.2.2 >>= fun q3 =>
  stmt_reader_need 4 ([59] : List UInt8) q3.2.1 q3.2.2.1 q3.2.2.2 >>= fun q4 =>
  stmt_reader_made 22 ([] : List UInt8) at_ [q1.1, q3.1] q4.1 q4.2.1 q4.2.2 >>= fun q5 =>
  some (q5, q4.1, q4.2.1, q4.2.2)
def stmt_reader_show (t : List Token) (at_ : Int) (e : Int) : Option (Term × List Token × Int × Int) :=
  stmt_reader_single 26 t at_ e >>= fun q1 =>
  some (q1.1, q1.2.1, q1.2.2.1, q1.2.2.2)
def stmt_reader_block_B (stmt_reader_block_L4 : Int → (List Term) → Term → (List Token) → Int → Int → Option (Term × List Token × Int × Int)) (t : List Token) (at_ : Int) (e : Int) : Option (Term × List Token × Int × Int) :=
  stmt_reader_need 4 ([123] : List UInt8) t at_ e >>= fun q1 =>
  stmt_reader_block_L4 at_ [] (Term.mk 0 0 ([] : List UInt8) [] 0 0) q1.1 q1.2.1 q1.2.2
def stmt_reader_block_L4_B (stmt_reader_block_L4 : Int → (List Term) → Term → (List Token) → Int → Int → Option (Term × List Token × Int × Int)) (stmt_reader_stmt : (List Token) → Int → Int → Option (Term × List Token × Int × Int)) (from_ : Int) (l : List Term) (o2 : Term) (t : List Token) (at_ : Int) (e : Int) : Option (Term × List Token × Int × Int) :=
  if e = 0 then
    stmt_reader_is 4 ([125] : List UInt8) t at_ e >>= fun q1 =>
    if q1 = true then
      stmt_reader_need 4 ([125] : List UInt8) t at_ e >>= fun q3 =>
      stmt_reader_made 29 ([] : List UInt8) from_ l q3.1 q3.2.1 q3.2.2 >>= fun q4 =>
      some (q4, q3.1, q3.2.1, q3.2.2)
    else
    stmt_reader_stmt t at_ e >>= fun q2 =>
    if roomy 72 (List.length l + List.length [q2.1]) then
    stmt_reader_block_L4 from_ (l ++ [q2.1]) o2 q2.2.1 q2.2.2.1 q2.2.2.2
    else none
  else
  stmt_reader_need 4 ([125] : List UInt8) t at_ e >>= fun q5 =>
  stmt_reader_made 29 ([] : List UInt8) from_ l q5.1 q5.2.1 q5.2.2 >>= fun q6 =>
  some (q6, q5.1, q5.2.1, q5.2.2)
def stmt_reader_stmt_B (stmt_reader_block : (List Token) → Int → Int → Option (Term × List Token × Int × Int)) (stmt_reader_cond : (List Token) → Int → Int → Option (Term × List Token × Int × Int)) (stmt_reader_while : (List Token) → Int → Int → Option (Term × List Token × Int × Int)) (stmt_reader_count : (List Token) → Int → Int → Option (Term × List Token × Int × Int)) (t : List Token) (at_ : Int) (e : Int) : Option (Term × List Token × Int × Int) :=
  stmt_reader_now t at_ e >>= fun q1 =>
  stmt_kind q1 >>= fun q2 =>
  if q2 = 51 then
    stmt_reader_block t at_ e >>= fun q3 =>
    some (q3.1, q3.2.1, q3.2.2.1, q3.2.2.2)
  else if q2 = 67 then
    stmt_reader_set t at_ e >>= fun q4 =>
    some (q4.1, q4.2.1, q4.2.2.1, q4.2.2.2)
  else if q2 = 68 then
    stmt_reader_let t at_ e >>= fun q5 =>
    some (q5.1, q5.2.1, q5.2.2.1, q5.2.2.2)
  else if q2 = 69 then
    stmt_reader_cond t at_ e >>= fun q6 =>
    some (q6.1, q6.2.1, q6.2.2.1, q6.2.2.2)
  else if q2 = 70 then
    stmt_reader_while t at_ e >>= fun q7 =>
    some (q7.1, q7.2.1, q7.2.2.1, q7.2.2.2)
  else if q2 = 71 then
    stmt_reader_count t at_ e >>= fun q8 =>
    some (q8.1, q8.2.1, q8.2.2.1, q8.2.2.2)
  else if q2 = 72 then
    stmt_reader_show t at_ e >>= fun q9 =>
    some (q9.1, q9.2.1, q9.2.2.1, q9.2.2.2)
  else if q2 = 73 then
    stmt_reader_back t at_ e >>= fun q10 =>
    some (q10.1, q10.2.1, q10.2.2.1, q10.2.2.2)
  else if q2 = 74 then
    stmt_reader_call t at_ e >>= fun q11 =>
    some (q11.1, q11.2.1, q11.2.2.1, q11.2.2.2)
  else none
def stmt_reader_cond_B (stmt_reader_block : (List Token) → Int → Int → Option (Term × List Token × Int × Int)) (t : List Token) (at_ : Int) (e : Int) : Option (Term × List Token × Int × Int) :=
  stmt_reader_expr t (IntKind.wrap .i64 (at_ + 1)) e >>= fun q1 =>
  stmt_reader_block q1.2.1 q1.2.2.1 q1.2.2.2 >>= fun q2 =>
  if q2.2.2.2 = 0 then
    stmt_reader_is 3 ([101, 108, 115, 101] : List UInt8) q2.2.1 q2.2.2.1 q2.2.2.2 >>= fun q3 =>
    if q3 = true then
      stmt_reader_block q2.2.1 (IntKind.wrap .i64 (q2.2.2.1 + 1)) q2.2.2.2 >>= fun q4 =>
      stmt_reader_made 23 ([] : List UInt8) at_ [q1.1, q2.1, q4.1] q4.2.1 q4.2.2.1 q4.2.2.2 >>= fun q5 =>
      some (q5, q4.2.1, q4.2.2.1, q4.2.2.2)
    else
    stmt_reader_made 23 ([] : List UInt8) at_ [q1.1, q2.1, (Term.mk 29 0 ([] : List UInt8) [] q2.1.To q2.1.To)] q2.2.1 q2.2.2.1 q2.2.2.2 >>= fun q6 =>
    some (q6, q2.2.1, q2.2.2.1, q2.2.2.2)
  else
  stmt_reader_made 23 ([] : List UInt8) at_ [q1.1, q2.1, (Term.mk 29 0 ([] : List UInt8) [] q2.1.To q2.1.To)] q2.2.1 q2.2.2.1 q2.2.2.2 >>= fun q7 =>
  some (q7, q2.2.1, q2.2.2.1, q2.2.2.2)
def stmt_reader_while_B (stmt_reader_block : (List Token) → Int → Int → Option (Term × List Token × Int × Int)) (t : List Token) (at_ : Int) (e : Int) : Option (Term × List Token × Int × Int) :=
  stmt_reader_expr t (IntKind.wrap .i64 (at_ + 1)) e >>= fun q1 =>
  stmt_reader_block q1.2.1 q1.2.2.1 q1.2.2.2 >>= fun q2 =>
  stmt_reader_made 24 ([] : List UInt8) at_ [q1.1, q2.1] q2.2.1 q2.2.2.1 q2.2.2.2 >>= fun q3 =>
  some (q3, q2.2.1, q2.2.2.1, q2.2.2.2)
def stmt_reader_count_B (stmt_reader_block : (List Token) → Int → Int → Option (Term × List Token × Int × Int)) (t : List Token) (at_ : Int) (e : Int) : Option (Term × List Token × Int × Int) :=
  stmt_reader_name t (IntKind.wrap .i64 (at_ + 1)) e >>= fun q1 =>
  stmt_reader_need 4 ([61] : List UInt8) q1.2.1 q1.2.2.1 q1.2.2.2 >>= fun q2 =>
  stmt_reader_expr q2.1 q2.2.1 q2.2.2 >>= fun q3 =>
  stmt_reader_need 3 ([116, 111] : List UInt8) q3.2.1 q3.2.2.1 q3.2.2.2 >>= fun q4 =>
  stmt_reader_expr q4.1 q4.2.1 q4.2.2 >>= fun q5 =>
  stmt_reader_block q5.2.1 q5.2.2.1 q5.2.2.2 >>= fun q6 =>
  stmt_reader_made 25 q1.1 at_ [q3.1, q5.1, q6.1] q6.2.1 q6.2.2.1 q6.2.2.2 >>= fun q7 =>
  some (q7, q6.2.1, q6.2.2.1, q6.2.2.2)
inductive I_stmt_reader_block where
  | stmt_reader_block (t : List Token) (at_ : Int) (e : Int)
  | stmt_reader_block_L4 (from_ : Int) (l : List Term) (o2 : Term) (t : List Token) (at_ : Int) (e : Int)
  | stmt_reader_stmt (t : List Token) (at_ : Int) (e : Int)
  | stmt_reader_cond (t : List Token) (at_ : Int) (e : Int)
  | stmt_reader_while (t : List Token) (at_ : Int) (e : Int)
  | stmt_reader_count (t : List Token) (at_ : Int) (e : Int)
@[reducible] def R_stmt_reader_block : I_stmt_reader_block → Type
  | .stmt_reader_block _ _ _ => Term × List Token × Int × Int
  | .stmt_reader_block_L4 _ _ _ _ _ _ => Term × List Token × Int × Int
  | .stmt_reader_stmt _ _ _ => Term × List Token × Int × Int
  | .stmt_reader_cond _ _ _ => Term × List Token × Int × Int
  | .stmt_reader_while _ _ _ => Term × List Token × Int × Int
  | .stmt_reader_count _ _ _ => Term × List Token × Int × Int
def F_stmt_reader_block (g : Fam R_stmt_reader_block) : Fam R_stmt_reader_block
  | .stmt_reader_block t at_ e => stmt_reader_block_B (fun from_ l o2 t at_ e => g (I_stmt_reader_block.stmt_reader_block_L4 from_ l o2 t at_ e)) t at_ e
  | .stmt_reader_block_L4 from_ l o2 t at_ e => stmt_reader_block_L4_B (fun from_ l o2 t at_ e => g (I_stmt_reader_block.stmt_reader_block_L4 from_ l o2 t at_ e)) (fun t at_ e => g (I_stmt_reader_block.stmt_reader_stmt t at_ e)) from_ l o2 t at_ e
  | .stmt_reader_stmt t at_ e => stmt_reader_stmt_B (fun t at_ e => g (I_stmt_reader_block.stmt_reader_block t at_ e)) (fun t at_ e => g (I_stmt_reader_block.stmt_reader_cond t at_ e)) (fun t at_ e => g (I_stmt_reader_block.stmt_reader_while t at_ e)) (fun t at_ e => g (I_stmt_reader_block.stmt_reader_count t at_ e)) t at_ e
  | .stmt_reader_cond t at_ e => stmt_reader_cond_B (fun t at_ e => g (I_stmt_reader_block.stmt_reader_block t at_ e)) t at_ e
  | .stmt_reader_while t at_ e => stmt_reader_while_B (fun t at_ e => g (I_stmt_reader_block.stmt_reader_block t at_ e)) t at_ e
  | .stmt_reader_count t at_ e => stmt_reader_count_B (fun t at_ e => g (I_stmt_reader_block.stmt_reader_block t at_ e)) t at_ e
theorem D_stmt_reader_block : ∀ i, Good (fun g => F_stmt_reader_block g i)
  | .stmt_reader_block t at_ e => show Good (fun g : Fam R_stmt_reader_block => stmt_reader_block_B (fun from_ l o2 t at_ e => g (I_stmt_reader_block.stmt_reader_block_L4 from_ l o2 t at_ e)) t at_ e) by unfold stmt_reader_block_B; exact (.bind (.const _) fun _ => (.call _))
  | .stmt_reader_block_L4 from_ l o2 t at_ e => show Good (fun g : Fam R_stmt_reader_block => stmt_reader_block_L4_B (fun from_ l o2 t at_ e => g (I_stmt_reader_block.stmt_reader_block_L4 from_ l o2 t at_ e)) (fun t at_ e => g (I_stmt_reader_block.stmt_reader_stmt t at_ e)) from_ l o2 t at_ e) by unfold stmt_reader_block_L4_B; exact (.ite (.bind (.const _) fun _ => (.ite (.bind (.const _) fun _ => (.bind (.const _) fun _ => (.const _))) (.bind (.call _) fun _ => (.ite (.call _) (.const _))))) (.bind (.const _) fun _ => (.bind (.const _) fun _ => (.const _))))
  | .stmt_reader_stmt t at_ e => show Good (fun g : Fam R_stmt_reader_block => stmt_reader_stmt_B (fun t at_ e => g (I_stmt_reader_block.stmt_reader_block t at_ e)) (fun t at_ e => g (I_stmt_reader_block.stmt_reader_cond t at_ e)) (fun t at_ e => g (I_stmt_reader_block.stmt_reader_while t at_ e)) (fun t at_ e => g (I_stmt_reader_block.stmt_reader_count t at_ e)) t at_ e) by unfold stmt_reader_stmt_B; exact (.bind (.const _) fun _ => (.bind (.const _) fun _ => (.ite (.bind (.call _) fun _ => (.const _)) (.ite (.bind (.const _) fun _ => (.const _)) (.ite (.bind (.const _) fun _ => (.const _)) (.ite (.bind (.call _) fun _ => (.const _)) (.ite (.bind (.call _) fun _ => (.const _)) (.ite (.bind (.call _) fun _ => (.const _)) (.ite (.bind (.const _) fun _ => (.const _)) (.ite (.bind (.const _) fun _ => (.const _)) (.ite (.bind (.const _) fun _ => (.const _)) (.const _))))))))))))
  | .stmt_reader_cond t at_ e => show Good (fun g : Fam R_stmt_reader_block => stmt_reader_cond_B (fun t at_ e => g (I_stmt_reader_block.stmt_reader_block t at_ e)) t at_ e) by unfold stmt_reader_cond_B; exact (.bind (.const _) fun _ => (.bind (.call _) fun _ => (.ite (.bind (.const _) fun _ => (.ite (.bind (.call _) fun _ => (.bind (.const _) fun _ => (.const _))) (.bind (.const _) fun _ => (.const _)))) (.bind (.const _) fun _ => (.const _)))))
  | .stmt_reader_while t at_ e => show Good (fun g : Fam R_stmt_reader_block => stmt_reader_while_B (fun t at_ e => g (I_stmt_reader_block.stmt_reader_block t at_ e)) t at_ e) by unfold stmt_reader_while_B; exact (.bind (.const _) fun _ => (.bind (.call _) fun _ => (.bind (.const _) fun _ => (.const _))))
  | .stmt_reader_count t at_ e => show Good (fun g : Fam R_stmt_reader_block => stmt_reader_count_B (fun t at_ e => g (I_stmt_reader_block.stmt_reader_block t at_ e)) t at_ e) by unfold stmt_reader_count_B; exact (.bind (.const _) fun _ => (.bind (.const _) fun _ => (.bind (.const _) fun _ => (.bind (.const _) fun _ => (.bind (.const _) fun _ => (.bind (.call _) fun _ => (.bind (.const _) fun _ => (.const _))))))))
def stmt_reader_block (t : List Token) (at_ : Int) (e : Int) : Option (Term × List Token × Int × Int) := fixF F_stmt_reader_block (.stmt_reader_block t at_ e)
def stmt_reader_block_L4 (from_ : Int) (l : List Term) (o2 : Term) (t : List Token) (at_ : Int) (e : Int) : Option (Term × List Token × Int × Int) := fixF F_stmt_reader_block (.stmt_reader_block_L4 from_ l o2 t at_ e)
def stmt_reader_stmt (t : List Token) (at_ : Int) (e : Int) : Option (Term × List Token × Int × Int) := fixF F_stmt_reader_block (.stmt_reader_stmt t at_ e)
def stmt_reader_cond (t : List Token) (at_ : Int) (e : Int) : Option (Term × List Token × Int × Int) := fixF F_stmt_reader_block (.stmt_reader_cond t at_ e)
def stmt_reader_while (t : List Token) (at_ : Int) (e : Int) : Option (Term × List Token × Int × Int) := fixF F_stmt_reader_block (.stmt_reader_while t at_ e)
def stmt_reader_count (t : List Token) (at_ : Int) (e : Int) : Option (Term × List Token × Int × Int) := fixF F_stmt_reader_block (.stmt_reader_count t at_ e)
theorem stmt_reader_block_eq (t : List Token) (at_ : Int) (e : Int) : stmt_reader_block t at_ e = stmt_reader_block_B stmt_reader_block_L4 t at_ e := fixF_eq D_stmt_reader_block (.stmt_reader_block t at_ e)
theorem stmt_reader_block_L4_eq (from_ : Int) (l : List Term) (o2 : Term) (t : List Token) (at_ : Int) (e : Int) : stmt_reader_block_L4 from_ l o2 t at_ e = stmt_reader_block_L4_B stmt_reader_block_L4 stmt_reader_stmt from_ l o2 t at_ e := fixF_eq D_stmt_reader_block (.stmt_reader_block_L4 from_ l o2 t at_ e)
theorem stmt_reader_stmt_eq (t : List Token) (at_ : Int) (e : Int) : stmt_reader_stmt t at_ e = stmt_reader_stmt_B stmt_reader_block stmt_reader_cond stmt_reader_while stmt_reader_count t at_ e := fixF_eq D_stmt_reader_block (.stmt_reader_stmt t at_ e)
theorem stmt_reader_cond_eq (t : List Token) (at_ : Int) (e : Int) : stmt_reader_cond t at_ e = stmt_reader_cond_B stmt_reader_block t at_ e := fixF_eq D_stmt_reader_block (.stmt_reader_cond t at_ e)
theorem stmt_reader_while_eq (t : List Token) (at_ : Int) (e : Int) : stmt_reader_while t at_ e = stmt_reader_while_B stmt_reader_block t at_ e := fixF_eq D_stmt_reader_block (.stmt_reader_while t at_ e)
theorem stmt_reader_count_eq (t : List Token) (at_ : Int) (e : Int) : stmt_reader_count t at_ e = stmt_reader_count_B stmt_reader_block t at_ e := fixF_eq D_stmt_reader_block (.stmt_reader_count t at_ e)
def stmt_start_reader_block (t : List Token) (at_ : Int) : Option (Term × Int × Int) :=
  if at_ < 0 then
    some ((Term.mk 0 0 ([] : List UInt8) [] 0 0), 0, 13)
  else
  if at_ > (List.length t : Int) then
    some ((Term.mk 0 0 ([] : List UInt8) [] 0 0), 0, 13)
  else
  stmt_reader_block t at_ 0 >>= fun q1 =>
  if q1.2.2.2 = 0 then
    some (q1.1, q1.2.2.1, 0)
  else
  some ((Term.mk 0 0 ([] : List UInt8) [] 0 0), q1.2.2.1, q1.2.2.2)
def stmt_Block (t : List Token) (at_ : Int) : Option (Term × Int × Int) :=
  stmt_start_reader_block t at_ >>= fun q1 =>
  some (q1.1, q1.2.1, q1.2.2)
def unit_reader_other_Block (t : List Token) (at_ : Int) (e : Int) (K : Int) (N : Int) (S : Str) (L : List Term) (From : Int) (To : Int) : Option (Term × List Token × Int × Int × Int × Int × Str × List Term × Int × Int) :=
  if e = 0 then
    stmt_Block t at_ >>= fun q1 =>
    some (q1.1, t, q1.2.1, q1.2.2, K, N, S, L, From, To)
  else
  some ((Term.mk 0 0 ([] : List UInt8) [] 0 0), t, at_, e, K, N, S, L, From, To)
def unit_reader_other_Type (t : List Token) (at_ : Int) (e : Int) (K : Int) (N : Int) (S : Str) (L : List Term) (From : Int) (To : Int) : Option (Term × List Token × Int × Int × Int × Int × Str × List Term × Int × Int) :=
  if e = 0 then
    expr_Type t at_ >>= fun q1 =>
    some (q1.1, t, q1.2.1, q1.2.2, K, N, S, L, From, To)
  else
  some ((Term.mk 0 0 ([] : List UInt8) [] 0 0), t, at_, e, K, N, S, L, From, To)
def unit_reader_comma (t : List Token) (at_ : Int) (e : Int) (K : Int) (N : Int) (S : Str) (L : List Term) (From : Int) (To : Int) : Option (Bool × List Token × Int × Int × Int × Int × Str × List Term × Int × Int) :=
  unit_reader_take 4 ([44] : List UInt8) t at_ e K N S L From To >>= fun q1 =>
  some (q1.1, q1.2.1, q1.2.2.1, q1.2.2.2.1, q1.2.2.2.2.1, q1.2.2.2.2.2.1, q1.2.2.2.2.2.2.1, q1.2.2.2.2.2.2.2.1, q1.2.2.2.2.2.2.2.2.1, q1.2.2.2.2.2.2.2.2.2)
def unit_reader_part (t : List Token) (at_ : Int) (e : Int) (K : Int) (N : Int) (S : Str) (L : List Term) (From : Int) (To : Int) : Option (Term × List Token × Int × Int × Int × Int × Str × List Term × Int × Int) :=
  unit_reader_name t at_ e K N S L From To >>= fun q1 =>
  unit_reader_need 4 ([58] : List UInt8) q1.2.1 q1.2.2.1 q1.2.2.2.1 q1.2.2.2.2.1 q1.2.2.2.2.2.1 q1.2.2.2.2.2.2.1 q1.2.2.2.2.2.2.2.1 q1.2.2.2.2.2.2.2.2.1 q1.2.2.2.2.2.2.2.2.2 >>= fun q2 =>
  unit_reader_other_Type q2.1 q2.2.1 q2.2.2.1 q2.2.2.2.1 q2.2.2.2.2.1 q2.2.2.2.2.2.1 q2.2.2.2.2.2.2.1 q2.2.2.2.2.2.2.2.1 q2.2.2.2.2.2.2.2.2 >>= fun q3 =>
  unit_reader_made 34 0 q1.1 at_ [q3.1] q3.2.1 q3.2.2.1 q3.2.2.2.1 q3.2.2.2.2.1 q3.2.2.2.2.2.1 q3.2.2.2.2.2.2.1 q3.2.2.2.2.2.2.2.1 q3.2.2.2.2.2.2.2.2.1 q3.2.2.2.2.2.2.2.2.2 >>= fun q4 =>
  some (q4, q3.2.1, q3.2.2.1, q3.2.2.2.1, q3.2.2.2.2.1, q3.2.2.2.2.2.1, q3.2.2.2.2.2.2.1, q3.2.2.2.2.2.2.2.1, q3.2.2.2.2.2.2.2.2.1, q3.2.2.2.2.2.2.2.2.2)
def unit_reader_list_reader_part_reader_comma_L2_B (unit_reader_list_reader_part_reader_comma_L2 : (List Term) → (List Token) → Int → Int → Int → Int → Str → (List Term) → Int → Int → Option (List Term × List Token × Int × Int × Int × Int × Str × List Term × Int × Int)) (out : List Term) (t : List Token) (at_ : Int) (e : Int) (K : Int) (N : Int) (S : Str) (L : List Term) (From : Int) (To : Int) : Option (List Term × List Token × Int × Int × Int × Int × Str × List Term × Int × Int) :=
  if e = 0 then
    unit_reader_comma t at_ e K N S L From To >>= fun q1 =>
    if q1.1 = true then
      unit_reader_part q1.2.1 q1.2.2.1 q1.2.2.2.1 q1.2.2.2.2.1 q1.2.2.2.2.2.1 q1.2.2.2.2.2.2.1 q1.2.2.2.2.2.2.2.1 q1.2.2.2.2.2.2.2.2.1 q1.2.2.2.2.2.2.2.2.2 >>= fun q2 =>
      if roomy 72 (List.length out + List.length [q2.1]) then
      unit_reader_list_reader_part_reader_comma_L2 (out ++ [q2.1]) q2.2.1 q2.2.2.1 q2.2.2.2.1 q2.2.2.2.2.1 q2.2.2.2.2.2.1 q2.2.2.2.2.2.2.1 q2.2.2.2.2.2.2.2.1 q2.2.2.2.2.2.2.2.2.1 q2.2.2.2.2.2.2.2.2.2
      else none
    else
    some (out, q1.2.1, q1.2.2.1, q1.2.2.2.1, q1.2.2.2.2.1, q1.2.2.2.2.2.1, q1.2.2.2.2.2.2.1, q1.2.2.2.2.2.2.2.1, q1.2.2.2.2.2.2.2.2.1, q1.2.2.2.2.2.2.2.2.2)
  else
  some (out, t, at_, e, K, N, S, L, From, To)
inductive I_unit_reader_list_reader_part_reader_comma_L2 where
  | unit_reader_list_reader_part_reader_comma_L2 (out : List Term) (t : List Token) (at_ : Int) (e : Int) (K : Int) (N : Int) (S : Str) (L : List Term) (From : Int) (To : Int)
@[reducible] def R_unit_reader_list_reader_part_reader_comma_L2 : I_unit_reader_list_reader_part_reader_comma_L2 → Type
  | .unit_reader_list_reader_part_reader_comma_L2 _ _ _ _ _ _ _ _ _ _ => List Term × List Token × Int × Int × Int × Int × Str × List Term × Int × Int
def F_unit_reader_list_reader_part_reader_comma_L2 (g : Fam R_unit_reader_list_reader_part_reader_comma_L2) : Fam R_unit_reader_list_reader_part_reader_comma_L2
  | .unit_reader_list_reader_part_reader_comma_L2 out t at_ e K N S L From To => unit_reader_list_reader_part_reader_comma_L2_B (fun out t at_ e K N S L From To => g (I_unit_reader_list_reader_part_reader_comma_L2.unit_reader_list_reader_part_reader_comma_L2 out t at_ e K N S L From To)) out t at_ e K N S L From To
theorem D_unit_reader_list_reader_part_reader_comma_L2 : ∀ i, Good (fun g => F_unit_reader_list_reader_part_reader_comma_L2 g i)
  | .unit_reader_list_reader_part_reader_comma_L2 out t at_ e K N S L From To => show Good (fun g : Fam R_unit_reader_list_reader_part_reader_comma_L2 => unit_reader_list_reader_part_reader_comma_L2_B (fun out t at_ e K N S L From To => g (I_unit_reader_list_reader_part_reader_comma_L2.unit_reader_list_reader_part_reader_comma_L2 out t at_ e K N S L From To)) out t at_ e K N S L From To) by unfold unit_reader_list_reader_part_reader_comma_L2_B; exact (.ite (.bind (.const _) fun _ => (.ite (.bind (.const _) fun _ => (.ite (.call _) (.const _))) (.const _))) (.const _))
def unit_reader_list_reader_part_reader_comma_L2 (out : List Term) (t : List Token) (at_ : Int) (e : Int) (K : Int) (N : Int) (S : Str) (L : List Term) (From : Int) (To : Int) : Option (List Term × List Token × Int × Int × Int × Int × Str × List Term × Int × Int) := fixF F_unit_reader_list_reader_part_reader_comma_L2 (.unit_reader_list_reader_part_reader_comma_L2 out t at_ e K N S L From To)
theorem unit_reader_list_reader_part_reader_comma_L2_eq (out : List Term) (t : List Token) (at_ : Int) (e : Int) (K : Int) (N : Int) (S : Str) (L : List Term) (From : Int) (To : Int) : unit_reader_list_reader_part_reader_comma_L2 out t at_ e K N S L From To = unit_reader_list_reader_part_reader_comma_L2_B unit_reader_list_reader_part_reader_comma_L2 out t at_ e K N S L From To := fixF_eq D_unit_reader_list_reader_part_reader_comma_L2 (.unit_reader_list_reader_part_reader_comma_L2 out t at_ e K N S L From To)
def unit_reader_list_reader_part_reader_comma (t : List Token) (at_ : Int) (e : Int) (K : Int) (N : Int) (S : Str) (L : List Term) (From : Int) (To : Int) : Option (List Term × List Token × Int × Int × Int × Int × Str × List Term × Int × Int) :=
  unit_reader_part t at_ e K N S L From To >>= fun q1 =>
  unit_reader_list_reader_part_reader_comma_L2 [q1.1] q1.2.1 q1.2.2.1 q1.2.2.2.1 q1.2.2.2.2.1 q1.2.2.2.2.2.1 q1.2.2.2.2.2.2.1 q1.2.2.2.2.2.2.2.1 q1.2.2.2.2.2.2.2.2.1 q1.2.2.2.2.2.2.2.2.2
def unit_reader_params (t : List Token) (at_ : Int) (e : Int) (K : Int) (N : Int) (S : Str) (L : List Term) (From : Int) (To : Int) : Option (Term × List Token × Int × Int × Int × Int × Str × List Term × Int × Int) :=
  unit_reader_need 4 ([40] : List UInt8) t at_ e K N S L From To >>= fun q1 =>
  unit_reader_take 4 ([41] : List UInt8) q1.1 q1.2.1 q1.2.2.1 q1.2.2.2.1 q1.2.2.2.2.1 q1.2.2.2.2.2.1 q1.2.2.2.2.2.2.1 q1.2.2.2.2.2.2.2.1 q1.2.2.2.2.2.2.2.2 >>= fun q2 =>
  if q2.1 = true then
    unit_reader_made 35 0 ([] : List UInt8) at_ [] q2.2.1 q2.2.2.1 q2.2.2.2.1 q2.2.2.2.2.1 q2.2.2.2.2.2.1 q2.2.2.2.2.2.2.1 q2.2.2.2.2.2.2.2.1 q2.2.2.2.2.2.2.2.2.1 q2.2.2.2.2.2.2.2.2.2 >>= fun q3 =>
    some (q3, q2.2.1, q2.2.2.1, q2.2.2.2.1, q2.2.2.2.2.1, q2.2.2.2.2.2.1, q2.2.2.2.2.2.2.1, q2.2.2.2.2.2.2.2.1, q2.2.2.2.2.2.2.2.2.1, q2.2.2.2.2.2.2.2.2.2)
  else
  unit_reader_list_reader_part_reader_comma q2.2.1 q2.2.2.1 q2.2.2.2.1 q2.2.2.2.2.1 q2.2.2.2.2.2.1 q2.2.2.2.2.2.2.1 q2.2.2.2.2.2.2.2.1 q2.2.2.2.2.2.2.2.2.1 q2.2.2.2.2.2.2.2.2.2 >>= fun q4 =>
  unit_reader_need 4 ([41] : List UInt8) q4.2.1 q4.2.2.1 q4.2.2.2.1 q4.2.2.2.2.1 q4.2.2.2.2.2.1 q4.2.2.2.2.2.2.1 q4.2.2.2.2.2.2.2.1 q4.2.2.2.2.2.2.2.2.1 q4.2.2.2.2.2.2.2.2.2 >>= fun q5 =>
  unit_reader_made 35 0 ([] : List UInt8) at_ q4.1 q5.1 q5.2.1 q5.2.2.1 q5.2.2.2.1 q5.2.2.2.2.1 q5.2.2.2.2.2.1 q5.2.2.2.2.2.2.1 q5.2.2.2.2.2.2.2.1 q5.2.2.2.2.2.2.2.2 >>= fun q6 =>
  some (q6, q5.1, q5.2.1, q5.2.2.1, q5.2.2.2.1, q5.2.2.2.2.1, q5.2.2.2.2.2.1, q5.2.2.2.2.2.2.1, q5.2.2.2.2.2.2.2.1, q5.2.2.2.2.2.2.2.2)
def unit_reader_function (t : List Token) (at_ : Int) (e : Int) (K : Int) (N : Int) (S : Str) (L : List Term) (From : Int) (To : Int) : Option (Term × List Token × Int × Int × Int × Int × Str × List Term × Int × Int) :=
  unit_reader_take 3 ([112, 117, 98] : List UInt8) t at_ e K N S L From To >>= fun q1 =>
  if q1.1 = true then
    unit_reader_need 3 ([102, 110] : List UInt8) q1.2.1 q1.2.2.1 q1.2.2.2.1 q1.2.2.2.2.1 q1.2.2.2.2.2.1 q1.2.2.2.2.2.2.1 q1.2.2.2.2.2.2.2.1 q1.2.2.2.2.2.2.2.2.1 q1.2.2.2.2.2.2.2.2.2 >>= fun q2 =>
    unit_reader_name q2.1 q2.2.1 q2.2.2.1 q2.2.2.2.1 q2.2.2.2.2.1 q2.2.2.2.2.2.1 q2.2.2.2.2.2.2.1 q2.2.2.2.2.2.2.2.1 q2.2.2.2.2.2.2.2.2 >>= fun q3 =>
    unit_reader_params q3.2.1 q3.2.2.1 q3.2.2.2.1 q3.2.2.2.2.1 q3.2.2.2.2.2.1 q3.2.2.2.2.2.2.1 q3.2.2.2.2.2.2.2.1 q3.2.2.2.2.2.2.2.2.1 q3.2.2.2.2.2.2.2.2.2 >>= fun q4 =>
    unit_reader_need 4 ([58] : List UInt8) q4.2.1 q4.2.2.1 q4.2.2.2.1 q4.2.2.2.2.1 q4.2.2.2.2.2.1 q4.2.2.2.2.2.2.1 q4.2.2.2.2.2.2.2.1 q4.2.2.2.2.2.2.2.2.1 q4.2.2.2.2.2.2.2.2.2 >>= fun q5 =>
    unit_reader_other_Type q5.1 q5.2.1 q5.2.2.1 q5.2.2.2.1 q5.2.2.2.2.1 q5.2.2.2.2.2.1 q5.2.2.2.2.2.2.1 q5.2.2.2.2.2.2.2.1 q5.2.2.2.2.2.2.2.2 >>= fun q6 =>
    unit_reader_other_Block q6.2.1 q6.2.2.1 q6.2.2.2.1 q6.2.2.2.2.1 q6.2.2.2.2.2.1 q6.2.2.2.2.2.2.1 q6.2.2.2.2.2.2.2.1 q6.2.2.2.2.2.2.2.2.1 q6.2.2.2.2.2.2.2.2.2 >>= fun q7 =>
    unit_reader_made 33 1 q3.1 at_ [q4.1, q6.1, q7.1] q7.2.1 q7.2.2.1 q7.2.2.2.1 q7.2.2.2.2.1 q7.2.2.2.2.2.1 q7.2.2.2.2.2.2.1 q7.2.2.2.2.2.2.2.1 q7.2.2.2.2.2.2.2.2.1 q7.2.2.2.2.2.2.2.2.2 >>= fun q8 =>
    some (q8, q7.2.1, q7.2.2.1, q7.2.2.2.1, q7.2.2.2.2.1, q7.2.2.2.2.2.1, q7.2.2.2.2.2.2.1, q7.2.2.2.2.2.2.2.1, q7.2.2.2.2.2.2.2.2.1, q7.2.2.2.2.2.2.2.2.2)
  else
  unit_reader_need 3 ([102, 110] : List UInt8) q1.2.1 q1.2.2.1 q1.2.2.2.1 q1.2.2.2.2.1 q1.2.2.2.2.2.1 q1.2.2.2.2.2.2.1 q1.2.2.2.2.2.2.2.1 q1.2.2.2.2.2.2.2.2.1 q1.2.2.2.2.2.2.2.2.2 >>= fun q9 =>
  unit_reader_name q9.1 q9.2.1 q9.2.2.1 q9.2.2.2.1 q9.2.2.2.2.1 q9.2.2.2.2.2.1 q9.2.2.2.2.2.2.1 q9.2.2.2.2.2.2.2.1 q9.2.2.2.2.2.2.2.2 >>= fun q10 =>
  unit_reader_params q10.2.1 q10.2.2.1 q10.2.2.2.1 q10.2.2.2.2.1 q10.2.2.2.2.2.1 q10.2.2.2.2.2.2.1 q10.2.2.2.2.2.2.2.1 q10.2.2.2.2.2.2.2.2.1 q10.2.2.2.2.2.2.2.2.2 >>= fun q11 =>
  unit_reader_need 4 ([58] : List UInt8) q11.2.1 q11.2.2.1 q11.2.2.2.1 q11.2.2.2.2.1 q11.2.2.2.2.2.1 q11.2.2.2.2.2.2.1 q11.2.2.2.2.2.2.2.1 q11.2.2.2.2.2.2.2.2.1 q11.2.2.2.2.2.2.2.2.2 >>= fun q12 =>
  unit_reader_other_Type q12.1 q12.2.1 q12.2.2.1 q12.2.2.2.1 q12.2.2.2.2.1 q12.2.2.2.2.2.1 q12.2.2.2.2.2.2.1 q12.2.2.2.2.2.2.2.1 q12.2.2.2.2.2.2.2.2 >>= fun q13 =>
  unit_reader_other_Block q13.2.1 q13.2.2.1 q13.2.2.2.1 q13.2.2.2.2.1 q13.2.2.2.2.2.1 q13.2.2.2.2.2.2.1 q13.2.2.2.2.2.2.2.1 q13.2.2.2.2.2.2.2.2.1 q13.2.2.2.2.2.2.2.2.2 >>= fun q14 =>
  unit_reader_made 33 0 q10.1 at_ [q11.1, q13.1, q14.1] q14.2.1 q14.2.2.1 q14.2.2.2.1 q14.2.2.2.2.1 q14.2.2.2.2.2.1 q14.2.2.2.2.2.2.1 q14.2.2.2.2.2.2.2.1 q14.2.2.2.2.2.2.2.2.1 q14.2.2.2.2.2.2.2.2.2 >>= fun q15 =>
  some (q15, q14.2.1, q14.2.2.1, q14.2.2.2.1, q14.2.2.2.2.1, q14.2.2.2.2.2.1, q14.2.2.2.2.2.2.1, q14.2.2.2.2.2.2.2.1, q14.2.2.2.2.2.2.2.2.1, q14.2.2.2.2.2.2.2.2.2)
def unit_reader_global (t : List Token) (at_ : Int) (e : Int) (K : Int) (N : Int) (S : Str) (L : List Term) (From : Int) (To : Int) : Option (Term × List Token × Int × Int × Int × Int × Str × List Term × Int × Int) :=
  unit_reader_name t (IntKind.wrap .i64 (at_ + 1)) e K N S L From To >>= fun q1 =>
  unit_reader_need 4 ([58] : List UInt8) q1.2.1 q1.2.2.1 q1.2.2.2.1 q1.2.2.2.2.1 q1.2.2.2.2.2.1 q1.2.2.2.2.2.2.1 q1.2.2.2.2.2.2.2.1 q1.2.2.2.2.2.2.2.2.1 q1.2.2.2.2.2.2.2.2.2 >>= fun q2 =>
  unit_reader_other_Type q2.1 q2.2.1 q2.2.2.1 q2.2.2.2.1 q2.2.2.2.2.1 q2.2.2.2.2.2.1 q2.2.2.2.2.2.2.1 q2.2.2.2.2.2.2.2.1 q2.2.2.2.2.2.2.2.2 >>= fun q3 =>
  unit_reader_need 4 ([59] : List UInt8) q3.2.1 q3.2.2.1 q3.2.2.2.1 q3.2.2.2.2.1 q3.2.2.2.2.2.1 q3.2.2.2.2.2.2.1 q3.2.2.2.2.2.2.2.1 q3.2.2.2.2.2.2.2.2.1 q3.2.2.2.2.2.2.2.2.2 >>= fun q4 =>
  unit_reader_made 32 0 q1.1 at_ [q3.1] q4.1 q4.2.1 q4.2.2.1 q4.2.2.2.1 q4.2.2.2.2.1 q4.2.2.2.2.2.1 q4.2.2.2.2.2.2.1 q4.2.2.2.2.2.2.2.1 q4.2.2.2.2.2.2.2.2 >>= fun q5 =>
  some (q5, q4.1, q4.2.1, q4.2.2.1, q4.2.2.2.1, q4.2.2.2.2.1, q4.2.2.2.2.2.1, q4.2.2.2.2.2.2.1, q4.2.2.2.2.2.2.2.1, q4.2.2.2.2.2.2.2.2)
def unit_reader_field (t : List Token) (at_ : Int) (e : Int) (K : Int) (N : Int) (S : Str) (L : List Term) (From : Int) (To : Int) : Option (Term × List Token × Int × Int × Int × Int × Str × List Term × Int × Int) :=
  unit_reader_part t at_ e K N S L From To >>= fun q1 =>
  unit_reader_need 4 ([59] : List UInt8) q1.2.1 q1.2.2.1 q1.2.2.2.1 q1.2.2.2.2.1 q1.2.2.2.2.2.1 q1.2.2.2.2.2.2.1 q1.2.2.2.2.2.2.2.1 q1.2.2.2.2.2.2.2.2.1 q1.2.2.2.2.2.2.2.2.2 >>= fun q2 =>
  some (q1.1, q2.1, q2.2.1, q2.2.2.1, q2.2.2.2.1, q2.2.2.2.2.1, q2.2.2.2.2.2.1, q2.2.2.2.2.2.2.1, q2.2.2.2.2.2.2.2.1, q2.2.2.2.2.2.2.2.2)
def unit_reader_open (t : List Token) (at_ : Int) (e : Int) (K : Int) (N : Int) (S : Str) (L : List Term) (From : Int) (To : Int) : Option (Bool) :=
  unit_reader_is 4 ([125] : List UInt8) t at_ e K N S L From To >>= fun q1 =>
  some (!q1)
def unit_reader_list_reader_field_reader_open_L2_B (unit_reader_list_reader_field_reader_open_L2 : (List Term) → (List Token) → Int → Int → Int → Int → Str → (List Term) → Int → Int → Option (List Term × List Token × Int × Int × Int × Int × Str × List Term × Int × Int)) (out : List Term) (t : List Token) (at_ : Int) (e : Int) (K : Int) (N : Int) (S : Str) (L : List Term) (From : Int) (To : Int) : Option (List Term × List Token × Int × Int × Int × Int × Str × List Term × Int × Int) :=
  if e = 0 then
    unit_reader_open t at_ e K N S L From To >>= fun q1 =>
    if q1 = true then
      unit_reader_field t at_ e K N S L From To >>= fun q2 =>
      if roomy 72 (List.length out + List.length [q2.1]) then
      unit_reader_list_reader_field_reader_open_L2 (out ++ [q2.1]) q2.2.1 q2.2.2.1 q2.2.2.2.1 q2.2.2.2.2.1 q2.2.2.2.2.2.1 q2.2.2.2.2.2.2.1 q2.2.2.2.2.2.2.2.1 q2.2.2.2.2.2.2.2.2.1 q2.2.2.2.2.2.2.2.2.2
      else none
    else
    some (out, t, at_, e, K, N, S, L, From, To)
  else
  some (out, t, at_, e, K, N, S, L, From, To)
inductive I_unit_reader_list_reader_field_reader_open_L2 where
  | unit_reader_list_reader_field_reader_open_L2 (out : List Term) (t : List Token) (at_ : Int) (e : Int) (K : Int) (N : Int) (S : Str) (L : List Term) (From : Int) (To : Int)
@[reducible] def R_unit_reader_list_reader_field_reader_open_L2 : I_unit_reader_list_reader_field_reader_open_L2 → Type
  | .unit_reader_list_reader_field_reader_open_L2 _ _ _ _ _ _ _ _ _ _ => List Term × List Token × Int × Int × Int × Int × Str × List Term × Int × Int
def F_unit_reader_list_reader_field_reader_open_L2 (g : Fam R_unit_reader_list_reader_field_reader_open_L2) : Fam R_unit_reader_list_reader_field_reader_open_L2
  | .unit_reader_list_reader_field_reader_open_L2 out t at_ e K N S L From To => unit_reader_list_reader_field_reader_open_L2_B (fun out t at_ e K N S L From To => g (I_unit_reader_list_reader_field_reader_open_L2.unit_reader_list_reader_field_reader_open_L2 out t at_ e K N S L From To)) out t at_ e K N S L From To
theorem D_unit_reader_list_reader_field_reader_open_L2 : ∀ i, Good (fun g => F_unit_reader_list_reader_field_reader_open_L2 g i)
  | .unit_reader_list_reader_field_reader_open_L2 out t at_ e K N S L From To => show Good (fun g : Fam R_unit_reader_list_reader_field_reader_open_L2 => unit_reader_list_reader_field_reader_open_L2_B (fun out t at_ e K N S L From To => g (I_unit_reader_list_reader_field_reader_open_L2.unit_reader_list_reader_field_reader_open_L2 out t at_ e K N S L From To)) out t at_ e K N S L From To) by unfold unit_reader_list_reader_field_reader_open_L2_B; exact (.ite (.bind (.const _) fun _ => (.ite (.bind (.const _) fun _ => (.ite (.call _) (.const _))) (.const _))) (.const _))
def unit_reader_list_reader_field_reader_open_L2 (out : List Term) (t : List Token) (at_ : Int) (e : Int) (K : Int) (N : Int) (S : Str) (L : List Term) (From : Int) (To : Int) : Option (List Term × List Token × Int × Int × Int × Int × Str × List Term × Int × Int) := fixF F_unit_reader_list_reader_field_reader_open_L2 (.unit_reader_list_reader_field_reader_open_L2 out t at_ e K N S L From To)
theorem unit_reader_list_reader_field_reader_open_L2_eq (out : List Term) (t : List Token) (at_ : Int) (e : Int) (K : Int) (N : Int) (S : Str) (L : List Term) (From : Int) (To : Int) : unit_reader_list_reader_field_reader_open_L2 out t at_ e K N S L From To = unit_reader_list_reader_field_reader_open_L2_B unit_reader_list_reader_field_reader_open_L2 out t at_ e K N S L From To := fixF_eq D_unit_reader_list_reader_field_reader_open_L2 (.unit_reader_list_reader_field_reader_open_L2 out t at_ e K N S L From To)
def unit_reader_list_reader_field_reader_open (t : List Token) (at_ : Int) (e : Int) (K : Int) (N : Int) (S : Str) (L : List Term) (From : Int) (To : Int) : Option (List Term × List Token × Int × Int × Int × Int × Str × List Term × Int × Int) :=
  unit_reader_field t at_ e K N S L From To >>= fun q1 =>
  unit_reader_list_reader_field_reader_open_L2 [q1.1] q1.2.1 q1.2.2.1 q1.2.2.2.1 q1.2.2.2.2.1 q1.2.2.2.2.2.1 q1.2.2.2.2.2.2.1 q1.2.2.2.2.2.2.2.1 q1.2.2.2.2.2.2.2.2.1 q1.2.2.2.2.2.2.2.2.2
def unit_reader_record (t : List Token) (at_ : Int) (e : Int) (K : Int) (N : Int) (S : Str) (L : List Term) (From : Int) (To : Int) : Option (Term × List Token × Int × Int × Int × Int × Str × List Term × Int × Int) :=
  unit_reader_name t (IntKind.wrap .i64 (at_ + 1)) e K N S L From To >>= fun q1 =>
  unit_reader_need 4 ([123] : List UInt8) q1.2.1 q1.2.2.1 q1.2.2.2.1 q1.2.2.2.2.1 q1.2.2.2.2.2.1 q1.2.2.2.2.2.2.1 q1.2.2.2.2.2.2.2.1 q1.2.2.2.2.2.2.2.2.1 q1.2.2.2.2.2.2.2.2.2 >>= fun q2 =>
  unit_reader_list_reader_field_reader_open q2.1 q2.2.1 q2.2.2.1 q2.2.2.2.1 q2.2.2.2.2.1 q2.2.2.2.2.2.1 q2.2.2.2.2.2.2.1 q2.2.2.2.2.2.2.2.1 q2.2.2.2.2.2.2.2.2 >>= fun q3 =>
  unit_reader_need 4 ([125] : List UInt8) q3.2.1 q3.2.2.1 q3.2.2.2.1 q3.2.2.2.2.1 q3.2.2.2.2.2.1 q3.2.2.2.2.2.2.1 q3.2.2.2.2.2.2.2.1 q3.2.2.2.2.2.2.2.2.1 q3.2.2.2.2.2.2.2.2.2 >>= fun q4 =>
  unit_reader_made 30 0 q1.1 at_ q3.1 q4.1 q4.2.1 q4.2.2.1 q4.2.2.2.1 q4.2.2.2.2.1 q4.2.2.2.2.2.1 q4.2.2.2.2.2.2.1 q4.2.2.2.2.2.2.2.1 q4.2.2.2.2.2.2.2.2 >>= fun q5 =>
  some (q5, q4.1, q4.2.1, q4.2.2.1, q4.2.2.2.1, q4.2.2.2.2.1, q4.2.2.2.2.2.1, q4.2.2.2.2.2.2.1, q4.2.2.2.2.2.2.2.1, q4.2.2.2.2.2.2.2.2)
def unit_reader_decl (t : List Token) (at_ : Int) (e : Int) (K : Int) (N : Int) (S : Str) (L : List Term) (From : Int) (To : Int) : Option (Term × List Token × Int × Int × Int × Int × Str × List Term × Int × Int) :=
  unit_reader_is 3 ([114, 101, 99] : List UInt8) t at_ e K N S L From To >>= fun q1 =>
  if q1 = true then
    unit_reader_record t at_ e K N S L From To >>= fun q2 =>
    some (q2.1, q2.2.1, q2.2.2.1, q2.2.2.2.1, q2.2.2.2.2.1, q2.2.2.2.2.2.1, q2.2.2.2.2.2.2.1, q2.2.2.2.2.2.2.2.1, q2.2.2.2.2.2.2.2.2.1, q2.2.2.2.2.2.2.2.2.2)
  else
  unit_reader_is 3 ([99, 111, 110, 115, 116] : List UInt8) t at_ e K N S L From To >>= fun q3 =>
  if q3 = true then
    unit_reader_define t at_ e K N S L From To >>= fun q4 =>
    some (q4.1, q4.2.1, q4.2.2.1, q4.2.2.2.1, q4.2.2.2.2.1, q4.2.2.2.2.2.1, q4.2.2.2.2.2.2.1, q4.2.2.2.2.2.2.2.1, q4.2.2.2.2.2.2.2.2.1, q4.2.2.2.2.2.2.2.2.2)
  else
  unit_reader_is 3 ([118, 97, 114] : List UInt8) t at_ e K N S L From To >>= fun q5 =>
  if q5 = true then
    unit_reader_global t at_ e K N S L From To >>= fun q6 =>
    some (q6.1, q6.2.1, q6.2.2.1, q6.2.2.2.1, q6.2.2.2.2.1, q6.2.2.2.2.2.1, q6.2.2.2.2.2.2.1, q6.2.2.2.2.2.2.2.1, q6.2.2.2.2.2.2.2.2.1, q6.2.2.2.2.2.2.2.2.2)
  else
  unit_reader_is 3 ([112, 117, 98] : List UInt8) t at_ e K N S L From To >>= fun q7 =>
  if q7 = true then
    unit_reader_function t at_ e K N S L From To >>= fun q8 =>
    some (q8.1, q8.2.1, q8.2.2.1, q8.2.2.2.1, q8.2.2.2.2.1, q8.2.2.2.2.2.1, q8.2.2.2.2.2.2.1, q8.2.2.2.2.2.2.2.1, q8.2.2.2.2.2.2.2.2.1, q8.2.2.2.2.2.2.2.2.2)
  else
  unit_reader_is 3 ([102, 110] : List UInt8) t at_ e K N S L From To >>= fun q9 =>
  if q9 = true then
    unit_reader_function t at_ e K N S L From To >>= fun q10 =>
    some (q10.1, q10.2.1, q10.2.2.1, q10.2.2.2.1, q10.2.2.2.2.1, q10.2.2.2.2.2.1, q10.2.2.2.2.2.2.1, q10.2.2.2.2.2.2.2.1, q10.2.2.2.2.2.2.2.2.1, q10.2.2.2.2.2.2.2.2.2)
  else
  some ((Term.mk 0 0 ([] : List UInt8) [] 0 0), t, at_, 6, K, N, S, L, From, To)
def unit_Parse_L6_B (unit_Parse_L6 : Term → (List Token) → Int → Int → Int → Int → Str → (List Term) → Int → Int → Option (Term × Int × Int)) (o2 : Term) (t : List Token) (at_ : Int) (e : Int) (K : Int) (N : Int) (S : Str) (L : List Term) (From : Int) (To : Int) : Option (Term × Int × Int) :=
  idx t at_ >>= fun x =>
  if x.K = 5 then
    if (List.length L : Int) > 64 then
      some ((Term.mk 0 0 ([] : List UInt8) [] 0 0), 0, 11)
    else
    term_Depth (Term.mk K N S L From To) >>= fun q2 =>
    if q2 > 64 then
      some ((Term.mk 0 0 ([] : List UInt8) [] 0 0), 0, 7)
    else
    some ((Term.mk K N S L From To), 0, 0)
  else
  unit_reader_decl t at_ e K N S L From To >>= fun q1 =>
  if q1.2.2.2.1 = 0 then
    if roomy 72 (List.length q1.2.2.2.2.2.2.2.1 + List.length [q1.1]) then
    unit_Parse_L6 o2 q1.2.1 q1.2.2.1 q1.2.2.2.1 q1.2.2.2.2.1 q1.2.2.2.2.2.1 q1.2.2.2.2.2.2.1 (q1.2.2.2.2.2.2.2.1 ++ [q1.1]) q1.2.2.2.2.2.2.2.2.1 q1.2.2.2.2.2.2.2.2.2
    else none
  else
  idx q1.2.1 q1.2.2.1 >>= fun x1 =>
  some ((Term.mk 0 0 ([] : List UInt8) [] 0 0), x1.From, q1.2.2.2.1)
inductive I_unit_Parse_L6 where
  | unit_Parse_L6 (o2 : Term) (t : List Token) (at_ : Int) (e : Int) (K : Int) (N : Int) (S : Str) (L : List Term) (From : Int) (To : Int)
@[reducible] def R_unit_Parse_L6 : I_unit_Parse_L6 → Type
  | .unit_Parse_L6 _ _ _ _ _ _ _ _ _ _ => Term × Int × Int
def F_unit_Parse_L6 (g : Fam R_unit_Parse_L6) : Fam R_unit_Parse_L6
  | .unit_Parse_L6 o2 t at_ e K N S L From To => unit_Parse_L6_B (fun o2 t at_ e K N S L From To => g (I_unit_Parse_L6.unit_Parse_L6 o2 t at_ e K N S L From To)) o2 t at_ e K N S L From To
theorem D_unit_Parse_L6 : ∀ i, Good (fun g => F_unit_Parse_L6 g i)
  | .unit_Parse_L6 o2 t at_ e K N S L From To => show Good (fun g : Fam R_unit_Parse_L6 => unit_Parse_L6_B (fun o2 t at_ e K N S L From To => g (I_unit_Parse_L6.unit_Parse_L6 o2 t at_ e K N S L From To)) o2 t at_ e K N S L From To) by unfold unit_Parse_L6_B; exact (.bind (.const _) fun _ => (.ite (.ite (.const _) (.bind (.const _) fun _ => (.ite (.const _) (.const _)))) (.bind (.const _) fun _ => (.ite (.ite (.call _) (.const _)) (.bind (.const _) fun _ => (.const _))))))
def unit_Parse_L6 (o2 : Term) (t : List Token) (at_ : Int) (e : Int) (K : Int) (N : Int) (S : Str) (L : List Term) (From : Int) (To : Int) : Option (Term × Int × Int) := fixF F_unit_Parse_L6 (.unit_Parse_L6 o2 t at_ e K N S L From To)
theorem unit_Parse_L6_eq (o2 : Term) (t : List Token) (at_ : Int) (e : Int) (K : Int) (N : Int) (S : Str) (L : List Term) (From : Int) (To : Int) : unit_Parse_L6 o2 t at_ e K N S L From To = unit_Parse_L6_B unit_Parse_L6 o2 t at_ e K N S L From To := fixF_eq D_unit_Parse_L6 (.unit_Parse_L6 o2 t at_ e K N S L From To)
def unit_Parse (text : Str) : Option (Term × Int × Int) :=
  lex_Tokens text >>= fun q1 =>
  if q1.2.2 = 0 then
    unit_Parse_L6 (Term.mk 0 0 ([] : List UInt8) [] 0 0) q1.1 0 0 36 0 ([] : List UInt8) [] 0 (List.length text : Int)
  else
  some ((Term.mk 0 0 ([] : List UInt8) [] 0 0), q1.2.1, q1.2.2)
def law09awake  : Option (Bool) :=
  unit_Parse ([118, 97, 114, 32, 97, 58, 32, 105, 110, 116, 59] : List UInt8) >>= fun q1 =>
  if q1.2.2 = 0 then
    if q1.1.K = 36 then
      if (List.length q1.1.L : Int) = 1 then
        idx q1.1.L 0 >>= fun x =>
        some ((x.S == ([97] : List UInt8)))
      else
      some (false)
    else
    some (false)
  else
  some (false)
def ref07Within_B (ref07Within_L3 : Int → Int → Term → Option (Bool)) (t : Term) : Option (Bool) :=
  ref07Within_L3 t.From 0 t
def ref07Within_L3_B (ref07Within : Term → Option (Bool)) (ref07Within_L3 : Int → Int → Term → Option (Bool)) (at_ : Int) (i : Int) (t : Term) : Option (Bool) :=
  if i < (List.length t.L : Int) then
    idx t.L i >>= fun x =>
    if x.From < at_ then
      some (false)
    else
    idx t.L i >>= fun x1 =>
    if x1.To > t.To then
      some (false)
    else
    idx t.L i >>= fun x2 =>
    idx t.L i >>= fun x3 =>
    if x2.To < x3.From then
      some (false)
    else
    idx t.L i >>= fun x4 =>
    ref07Within x4 >>= fun q1 =>
    if q1 = true then
      idx t.L i >>= fun x5 =>
      ref07Within_L3 x5.To (IntKind.wrap .i64 (i + 1)) t
    else
    some (false)
  else
  some (true)
inductive I_ref07Within where
  | ref07Within (t : Term)
  | ref07Within_L3 (at_ : Int) (i : Int) (t : Term)
@[reducible] def R_ref07Within : I_ref07Within → Type
  | .ref07Within _ => Bool
  | .ref07Within_L3 _ _ _ => Bool
def F_ref07Within (g : Fam R_ref07Within) : Fam R_ref07Within
  | .ref07Within t => ref07Within_B (fun at_ i t => g (I_ref07Within.ref07Within_L3 at_ i t)) t
  | .ref07Within_L3 at_ i t => ref07Within_L3_B (fun t => g (I_ref07Within.ref07Within t)) (fun at_ i t => g (I_ref07Within.ref07Within_L3 at_ i t)) at_ i t
theorem D_ref07Within : ∀ i, Good (fun g => F_ref07Within g i)
  | .ref07Within t => show Good (fun g : Fam R_ref07Within => ref07Within_B (fun at_ i t => g (I_ref07Within.ref07Within_L3 at_ i t)) t) by unfold ref07Within_B; exact (.call _)
  | .ref07Within_L3 at_ i t => show Good (fun g : Fam R_ref07Within => ref07Within_L3_B (fun t => g (I_ref07Within.ref07Within t)) (fun at_ i t => g (I_ref07Within.ref07Within_L3 at_ i t)) at_ i t) by unfold ref07Within_L3_B; exact (.ite (.bind (.const _) fun _ => (.ite (.const _) (.bind (.const _) fun _ => (.ite (.const _) (.bind (.const _) fun _ => (.bind (.const _) fun _ => (.ite (.const _) (.bind (.const _) fun _ => (.bind (.call _) fun _ => (.ite (.bind (.const _) fun _ => (.call _)) (.const _))))))))))) (.const _))
def ref07Within (t : Term) : Option (Bool) := fixF F_ref07Within (.ref07Within t)
def ref07Within_L3 (at_ : Int) (i : Int) (t : Term) : Option (Bool) := fixF F_ref07Within (.ref07Within_L3 at_ i t)
theorem ref07Within_eq (t : Term) : ref07Within t = ref07Within_B ref07Within_L3 t := fixF_eq D_ref07Within (.ref07Within t)
theorem ref07Within_L3_eq (at_ : Int) (i : Int) (t : Term) : ref07Within_L3 at_ i t = ref07Within_L3_B ref07Within ref07Within_L3 at_ i t := fixF_eq D_ref07Within (.ref07Within_L3 at_ i t)
def law09UnitPlaces (text : Str) : Option (Bool) :=
  if (List.length text : Int) > 2000 then
    law09awake >>= fun q1 =>
    some (q1)
  else
  unit_Parse text >>= fun q2 =>
  if q2.2.2 = 0 then
    ref07Within q2.1 >>= fun q4 =>
    if q4 = true then
      if q2.1.From = 0 then
        if q2.1.To = (List.length text : Int) then
          law09awake >>= fun q5 =>
          some (q5)
        else
        some (false)
      else
      some (false)
    else
    some (false)
  else
  law09awake >>= fun q3 =>
  some (q3)
end
end Go.Proofs.Ytelddjedpmfclaa.M
