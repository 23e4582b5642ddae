/- For each function a plain one: what it comes to; none: a panic, or no end. -/
import Derived.Test.YtdpecjiflalkmaaTy
namespace Go.Proofs.Ytdpecjiflalkmaa.M
open Go Nt
set_option linter.unusedVariables false
noncomputable section
def lex_reader_isDigit (c : Int) (text : Str) (at_ : Int) (out : List Token) : Option (Bool × Str × Int × List Token) :=
  if c ≥ 48 then
    some (decide (c ≤ 57), text, at_, out)
  else
  some (false, text, at_, out)
def lex_reader_isLetter (c : Int) (text : Str) (at_ : Int) (out : List Token) : Option (Bool × Str × Int × List Token) :=
  if c ≥ 97 then
    if c ≤ 122 then
      some (true, text, at_, out)
    else
    if c ≥ 65 then
      if c ≤ 90 then
        some (true, text, at_, out)
      else
      some ((c == 95), text, at_, out)
    else
    some ((c == 95), text, at_, out)
  else
  if c ≥ 65 then
    if c ≤ 90 then
      some (true, text, at_, out)
    else
    some ((c == 95), text, at_, out)
  else
  some ((c == 95), text, at_, out)
def lex_reader_put (k : Int) (n : Int) (s : Str) (from_ : Int) (text : Str) (at_ : Int) (out : List Token) : Option (Str × Int × List Token) :=
  if roomy 48 (List.length out + List.length [(Token.mk k n s from_ at_)]) then
  some (text, at_, out ++ [(Token.mk k n s from_ at_)])
  else none
def lex_reader_number_L7_B (lex_reader_number_L7 : Int → Str → Int → Int → Int → Str → Int → (List Token) → Option (Int × Str × Int × List Token)) (from_ : Int) (s : Str) (v : Int) (v29 : Int) (v30 : Int) (text : Str) (at_ : Int) (out : List Token) : Option (Int × Str × Int × List Token) :=
  if v30 < v29 then
    idx s v30 >>= fun c =>
    lex_reader_number_L7 from_ s (IntKind.wrap .u64 ((IntKind.wrap .u64 (v * 10)) + (IntKind.wrap .u64 (IntKind.wrap .u8 ((Int.ofNat (UInt8.toNat c)) - 48))))) v29 (IntKind.wrap .i64 (v30 + 1)) text at_ out
  else
  if v > 9223372036854775807 then
    some (5, text, at_, out)
  else
  lex_reader_put 2 (IntKind.wrap .i64 v) ([] : List UInt8) from_ text at_ out >>= fun q1 =>
  some (0, q1.1, q1.2.1, q1.2.2)
inductive I_lex_reader_number_L7 where
  | lex_reader_number_L7 (from_ : Int) (s : Str) (v : Int) (v29 : Int) (v30 : Int) (text : Str) (at_ : Int) (out : List Token)
@[reducible] def R_lex_reader_number_L7 : I_lex_reader_number_L7 → Type
  | .lex_reader_number_L7 _ _ _ _ _ _ _ _ => Int × Str × Int × List Token
def F_lex_reader_number_L7 (g : Fam R_lex_reader_number_L7) : Fam R_lex_reader_number_L7
  | .lex_reader_number_L7 from_ s v v29 v30 text at_ out => lex_reader_number_L7_B (fun from_ s v v29 v30 text at_ out => g (I_lex_reader_number_L7.lex_reader_number_L7 from_ s v v29 v30 text at_ out)) from_ s v v29 v30 text at_ out
theorem D_lex_reader_number_L7 : ∀ i, Good (fun g => F_lex_reader_number_L7 g i)
  | .lex_reader_number_L7 from_ s v v29 v30 text at_ out => show Good (fun g : Fam R_lex_reader_number_L7 => lex_reader_number_L7_B (fun from_ s v v29 v30 text at_ out => g (I_lex_reader_number_L7.lex_reader_number_L7 from_ s v v29 v30 text at_ out)) from_ s v v29 v30 text at_ out) by unfold lex_reader_number_L7_B; exact (.ite (.bind (.const _) fun _ => (.call _)) (.ite (.const _) (.bind (.const _) fun _ => (.const _))))
def lex_reader_number_L7 (from_ : Int) (s : Str) (v : Int) (v29 : Int) (v30 : Int) (text : Str) (at_ : Int) (out : List Token) : Option (Int × Str × Int × List Token) := fixF F_lex_reader_number_L7 (.lex_reader_number_L7 from_ s v v29 v30 text at_ out)
theorem lex_reader_number_L7_eq (from_ : Int) (s : Str) (v : Int) (v29 : Int) (v30 : Int) (text : Str) (at_ : Int) (out : List Token) : lex_reader_number_L7 from_ s v v29 v30 text at_ out = lex_reader_number_L7_B lex_reader_number_L7 from_ s v v29 v30 text at_ out := fixF_eq D_lex_reader_number_L7 (.lex_reader_number_L7 from_ s v v29 v30 text at_ out)
def lex_reader_run_reader_isDigit_L2_B (lex_reader_run_reader_isDigit_L2 : Int → Str → Int → (List Token) → Option (Str × Str × Int × List Token)) (from_ : Int) (text : Str) (at_ : Int) (out : List Token) : Option (Str × Str × Int × List Token) :=
  if at_ < (List.length text : Int) then
    idx text at_ >>= fun c =>
    lex_reader_isDigit (Int.ofNat (UInt8.toNat c)) text at_ out >>= fun q1 =>
    if q1.1 = true then
      lex_reader_run_reader_isDigit_L2 from_ q1.2.1 (IntKind.wrap .i64 (q1.2.2.1 + 1)) q1.2.2.2
    else
    if (0 : Int) ≤ q1.2.2.1 then
    if Int.toNat q1.2.2.1 ≤ List.length q1.2.1 then
    if (0 : Int) ≤ from_ then
    if Int.toNat from_ ≤ Int.toNat q1.2.2.1 then
    some (List.drop (Int.toNat from_) (List.take (Int.toNat q1.2.2.1) q1.2.1), q1.2.1, q1.2.2.1, q1.2.2.2)
    else none
    else none
    else none
    else none
  else
  if (0 : Int) ≤ at_ then
  if Int.toNat at_ ≤ List.length text then
  if (0 : Int) ≤ from_ then
  if Int.toNat from_ ≤ Int.toNat at_ then
  some (List.drop (Int.toNat from_) (List.take (Int.toNat at_) text), text, at_, out)
  else none
  else none
  else none
  else none
inductive I_lex_reader_run_reader_isDigit_L2 where
  | lex_reader_run_reader_isDigit_L2 (from_ : Int) (text : Str) (at_ : Int) (out : List Token)
@[reducible] def R_lex_reader_run_reader_isDigit_L2 : I_lex_reader_run_reader_isDigit_L2 → Type
  | .lex_reader_run_reader_isDigit_L2 _ _ _ _ => Str × Str × Int × List Token
def F_lex_reader_run_reader_isDigit_L2 (g : Fam R_lex_reader_run_reader_isDigit_L2) : Fam R_lex_reader_run_reader_isDigit_L2
  | .lex_reader_run_reader_isDigit_L2 from_ text at_ out => lex_reader_run_reader_isDigit_L2_B (fun from_ text at_ out => g (I_lex_reader_run_reader_isDigit_L2.lex_reader_run_reader_isDigit_L2 from_ text at_ out)) from_ text at_ out
theorem D_lex_reader_run_reader_isDigit_L2 : ∀ i, Good (fun g => F_lex_reader_run_reader_isDigit_L2 g i)
  | .lex_reader_run_reader_isDigit_L2 from_ text at_ out => show Good (fun g : Fam R_lex_reader_run_reader_isDigit_L2 => lex_reader_run_reader_isDigit_L2_B (fun from_ text at_ out => g (I_lex_reader_run_reader_isDigit_L2.lex_reader_run_reader_isDigit_L2 from_ text at_ out)) from_ text at_ out) by unfold lex_reader_run_reader_isDigit_L2_B; exact (.ite (.bind (.const _) fun _ => (.bind (.const _) fun _ => (.ite (.call _) (.ite (.ite (.ite (.ite (.const _) (.const _)) (.const _)) (.const _)) (.const _))))) (.ite (.ite (.ite (.ite (.const _) (.const _)) (.const _)) (.const _)) (.const _)))
def lex_reader_run_reader_isDigit_L2 (from_ : Int) (text : Str) (at_ : Int) (out : List Token) : Option (Str × Str × Int × List Token) := fixF F_lex_reader_run_reader_isDigit_L2 (.lex_reader_run_reader_isDigit_L2 from_ text at_ out)
theorem lex_reader_run_reader_isDigit_L2_eq (from_ : Int) (text : Str) (at_ : Int) (out : List Token) : lex_reader_run_reader_isDigit_L2 from_ text at_ out = lex_reader_run_reader_isDigit_L2_B lex_reader_run_reader_isDigit_L2 from_ text at_ out := fixF_eq D_lex_reader_run_reader_isDigit_L2 (.lex_reader_run_reader_isDigit_L2 from_ text at_ out)
def lex_reader_run_reader_isDigit (text : Str) (at_ : Int) (out : List Token) : Option (Str × Str × Int × List Token) :=
  lex_reader_run_reader_isDigit_L2 at_ text at_ out
def lex_reader_number (text : Str) (at_ : Int) (out : List Token) : Option (Int × Str × Int × List Token) :=
  lex_reader_run_reader_isDigit text at_ out >>= fun q1 =>
  if (List.length q1.1 : Int) > 19 then
    some (5, q1.2.1, q1.2.2.1, q1.2.2.2)
  else
  if (List.length q1.1 : Int) > 1 then
    idx q1.1 0 >>= fun c =>
    if Int.ofNat (UInt8.toNat c) = 48 then
      some (5, q1.2.1, q1.2.2.1, q1.2.2.2)
    else
    lex_reader_number_L7 at_ q1.1 0 (List.length q1.1 : Int) 0 q1.2.1 q1.2.2.1 q1.2.2.2
  else
  lex_reader_number_L7 at_ q1.1 0 (List.length q1.1 : Int) 0 q1.2.1 q1.2.2.1 q1.2.2.2
def lex_reader_peek (k : Int) (text : Str) (at_ : Int) (out : List Token) : Option (Int × Str × Int × List Token) :=
  if (IntKind.wrap .i64 (at_ + k)) < (List.length text : Int) then
    idx text (IntKind.wrap .i64 (at_ + k)) >>= fun c =>
    some (Int.ofNat (UInt8.toNat c), text, at_, out)
  else
  some (0, text, at_, out)
def lex_isWord (s : Str) : Option (Bool) :=
  if s = ([114, 101, 99] : List UInt8) then
    some (true)
  else
  if s = ([99, 111, 110, 115, 116] : List UInt8) then
    some (true)
  else
  if s = ([118, 97, 114] : List UInt8) then
    some (true)
  else
  if s = ([112, 117, 98] : List UInt8) then
    some (true)
  else
  if s = ([102, 110] : List UInt8) then
    some (true)
  else
  if s = ([105, 110, 116] : List UInt8) then
    some (true)
  else
  if s = ([98, 111, 111, 108] : List UInt8) then
    some (true)
  else
  if s = ([108, 101, 116] : List UInt8) then
    some (true)
  else
  if s = ([105, 102] : List UInt8) then
    some (true)
  else
  if s = ([101, 108, 115, 101] : List UInt8) then
    some (true)
  else
  if s = ([119, 104, 105, 108, 101] : List UInt8) then
    some (true)
  else
  if s = ([102, 111, 114] : List UInt8) then
    some (true)
  else
  if s = ([116, 111] : List UInt8) then
    some (true)
  else
  if s = ([112, 114, 105, 110, 116] : List UInt8) then
    some (true)
  else
  if s = ([114, 101, 116, 117, 114, 110] : List UInt8) then
    some (true)
  else
  if s = ([100, 111] : List UInt8) then
    some (true)
  else
  if s = ([116, 114, 117, 101] : List UInt8) then
    some (true)
  else
  if s = ([102, 97, 108, 115, 101] : List UInt8) then
    some (true)
  else
  if s = ([114, 101, 97, 100] : List UInt8) then
    some (true)
  else
  if s = ([110, 101, 119] : List UInt8) then
    some (true)
  else
  some (false)
def lex_reader_isMore (c : Int) (text : Str) (at_ : Int) (out : List Token) : Option (Bool × Str × Int × List Token) :=
  lex_reader_isLetter c text at_ out >>= fun q1 =>
  if q1.1 = true then
    some (true, q1.2.1, q1.2.2.1, q1.2.2.2)
  else
  lex_reader_isDigit c q1.2.1 q1.2.2.1 q1.2.2.2 >>= fun q2 =>
  some (q2.1, q2.2.1, q2.2.2.1, q2.2.2.2)
def lex_reader_run_reader_isMore_L2_B (lex_reader_run_reader_isMore_L2 : Int → Str → Int → (List Token) → Option (Str × Str × Int × List Token)) (from_ : Int) (text : Str) (at_ : Int) (out : List Token) : Option (Str × Str × Int × List Token) :=
  if at_ < (List.length text : Int) then
    idx text at_ >>= fun c =>
    lex_reader_isMore (Int.ofNat (UInt8.toNat c)) text at_ out >>= fun q1 =>
    if q1.1 = true then
      lex_reader_run_reader_isMore_L2 from_ q1.2.1 (IntKind.wrap .i64 (q1.2.2.1 + 1)) q1.2.2.2
    else
    if (0 : Int) ≤ q1.2.2.1 then
    if Int.toNat q1.2.2.1 ≤ List.length q1.2.1 then
    if (0 : Int) ≤ from_ then
    if Int.toNat from_ ≤ Int.toNat q1.2.2.1 then
    some (List.drop (Int.toNat from_) (List.take (Int.toNat q1.2.2.1) q1.2.1), q1.2.1, q1.2.2.1, q1.2.2.2)
    else none
    else none
    else none
    else none
  else
  if (0 : Int) ≤ at_ then
  if Int.toNat at_ ≤ List.length text then
  if (0 : Int) ≤ from_ then
  if Int.toNat from_ ≤ Int.toNat at_ then
  some (List.drop (Int.toNat from_) (List.take (Int.toNat at_) text), text, at_, out)
  else none
  else none
  else none
  else none
inductive I_lex_reader_run_reader_isMore_L2 where
  | lex_reader_run_reader_isMore_L2 (from_ : Int) (text : Str) (at_ : Int) (out : List Token)
@[reducible] def R_lex_reader_run_reader_isMore_L2 : I_lex_reader_run_reader_isMore_L2 → Type
  | .lex_reader_run_reader_isMore_L2 _ _ _ _ => Str × Str × Int × List Token
def F_lex_reader_run_reader_isMore_L2 (g : Fam R_lex_reader_run_reader_isMore_L2) : Fam R_lex_reader_run_reader_isMore_L2
  | .lex_reader_run_reader_isMore_L2 from_ text at_ out => lex_reader_run_reader_isMore_L2_B (fun from_ text at_ out => g (I_lex_reader_run_reader_isMore_L2.lex_reader_run_reader_isMore_L2 from_ text at_ out)) from_ text at_ out
theorem D_lex_reader_run_reader_isMore_L2 : ∀ i, Good (fun g => F_lex_reader_run_reader_isMore_L2 g i)
  | .lex_reader_run_reader_isMore_L2 from_ text at_ out => show Good (fun g : Fam R_lex_reader_run_reader_isMore_L2 => lex_reader_run_reader_isMore_L2_B (fun from_ text at_ out => g (I_lex_reader_run_reader_isMore_L2.lex_reader_run_reader_isMore_L2 from_ text at_ out)) from_ text at_ out) by unfold lex_reader_run_reader_isMore_L2_B; exact (.ite (.bind (.const _) fun _ => (.bind (.const _) fun _ => (.ite (.call _) (.ite (.ite (.ite (.ite (.const _) (.const _)) (.const _)) (.const _)) (.const _))))) (.ite (.ite (.ite (.ite (.const _) (.const _)) (.const _)) (.const _)) (.const _)))
def lex_reader_run_reader_isMore_L2 (from_ : Int) (text : Str) (at_ : Int) (out : List Token) : Option (Str × Str × Int × List Token) := fixF F_lex_reader_run_reader_isMore_L2 (.lex_reader_run_reader_isMore_L2 from_ text at_ out)
theorem lex_reader_run_reader_isMore_L2_eq (from_ : Int) (text : Str) (at_ : Int) (out : List Token) : lex_reader_run_reader_isMore_L2 from_ text at_ out = lex_reader_run_reader_isMore_L2_B lex_reader_run_reader_isMore_L2 from_ text at_ out := fixF_eq D_lex_reader_run_reader_isMore_L2 (.lex_reader_run_reader_isMore_L2 from_ text at_ out)
def lex_reader_run_reader_isMore (text : Str) (at_ : Int) (out : List Token) : Option (Str × Str × Int × List Token) :=
  lex_reader_run_reader_isMore_L2 at_ text at_ out
def lex_reader_word (text : Str) (at_ : Int) (out : List Token) : Option (Int × Str × Int × List Token) :=
  lex_reader_run_reader_isMore text at_ out >>= fun q1 =>
  if (List.length q1.1 : Int) > 16 then
    some (3, q1.2.1, q1.2.2.1, q1.2.2.2)
  else
  lex_isWord q1.1 >>= fun q2 =>
  if q2 = true then
    lex_reader_put 3 0 q1.1 at_ q1.2.1 q1.2.2.1 q1.2.2.2 >>= fun q3 =>
    some (0, q3.1, q3.2.1, q3.2.2)
  else
  lex_reader_put 1 0 q1.1 at_ q1.2.1 q1.2.2.1 q1.2.2.2 >>= fun q4 =>
  some (0, q4.1, q4.2.1, q4.2.2)
def lex_signAt (c : Int) (d : Int) : Option (Int) :=
  if c = 61 then
    if d = 61 then
      some (2)
    else
    some (1)
  else
  if c = 33 then
    if d = 61 then
      some (2)
    else
    some (1)
  else
  if c = 60 then
    if d = 61 then
      some (2)
    else
    some (1)
  else
  if c = 62 then
    if d = 61 then
      some (2)
    else
    some (1)
  else
  if c = 38 then
    if d = c then
      some (2)
    else
    some (0)
  else
  if c = 124 then
    if d = c then
      some (2)
    else
    some (0)
  else
  if c = 123 then
    some (1)
  else
  if c = 125 then
    some (1)
  else
  if c = 40 then
    some (1)
  else
  if c = 41 then
    some (1)
  else
  if c = 91 then
    some (1)
  else
  if c = 93 then
    some (1)
  else
  if c = 44 then
    some (1)
  else
  if c = 59 then
    some (1)
  else
  if c = 58 then
    some (1)
  else
  if c = 46 then
    some (1)
  else
  if c = 43 then
    some (1)
  else
  if c = 45 then
    some (1)
  else
  if c = 42 then
    some (1)
  else
  if c = 47 then
    some (1)
  else
  if c = 37 then
    some (1)
  else
  if c = 64 then
    some (1)
  else
  some (0)
def lex_reader_one (text : Str) (at_ : Int) (out : List Token) : Option (Int × Str × Int × List Token) :=
  idx text at_ >>= fun c =>
  lex_reader_isLetter (Int.ofNat (UInt8.toNat c)) text at_ out >>= fun q1 =>
  if q1.1 = true then
    lex_reader_word q1.2.1 q1.2.2.1 q1.2.2.2 >>= fun q2 =>
    some (q2.1, q2.2.1, q2.2.2.1, q2.2.2.2)
  else
  lex_reader_isDigit (Int.ofNat (UInt8.toNat c)) q1.2.1 q1.2.2.1 q1.2.2.2 >>= fun q3 =>
  if q3.1 = true then
    lex_reader_number q3.2.1 q3.2.2.1 q3.2.2.2 >>= fun q4 =>
    some (q4.1, q4.2.1, q4.2.2.1, q4.2.2.2)
  else
  lex_reader_peek 1 q3.2.1 q3.2.2.1 q3.2.2.2 >>= fun q5 =>
  lex_signAt (Int.ofNat (UInt8.toNat c)) q5.1 >>= fun q6 =>
  if q6 = 0 then
    some (4, q5.2.1, q5.2.2.1, q5.2.2.2)
  else
  if (0 : Int) ≤ (IntKind.wrap .i64 (q5.2.2.1 + q6)) then
  if Int.toNat (IntKind.wrap .i64 (q5.2.2.1 + q6)) ≤ List.length q5.2.1 then
  if (0 : Int) ≤ q5.2.2.1 then
  if Int.toNat q5.2.2.1 ≤ Int.toNat (IntKind.wrap .i64 (q5.2.2.1 + q6)) then
  lex_reader_put 4 0 (List.drop (Int.toNat q5.2.2.1) (List.take (Int.toNat (IntKind.wrap .i64 (q5.2.2.1 + q6))) q5.2.1)) q5.2.2.1 q5.2.1 (IntKind.wrap .i64 (q5.2.2.1 + q6)) q5.2.2.2 >>= fun q7 =>
  some (0, q7.1, q7.2.1, q7.2.2)
  else none
  else none
  else none
  else none
def lex_reader_isLine (c : Int) (text : Str) (at_ : Int) (out : List Token) : Option (Bool × Str × Int × List Token) :=
  some (!(c == 10), text, at_, out)
def lex_reader_run_reader_isLine_L2_B (lex_reader_run_reader_isLine_L2 : Int → Str → Int → (List Token) → Option (Str × Str × Int × List Token)) (from_ : Int) (text : Str) (at_ : Int) (out : List Token) : Option (Str × Str × Int × List Token) :=
  if at_ < (List.length text : Int) then
    idx text at_ >>= fun c =>
    lex_reader_isLine (Int.ofNat (UInt8.toNat c)) text at_ out >>= fun q1 =>
    if q1.1 = true then
      lex_reader_run_reader_isLine_L2 from_ q1.2.1 (IntKind.wrap .i64 (q1.2.2.1 + 1)) q1.2.2.2
    else
    if (0 : Int) ≤ q1.2.2.1 then
    if Int.toNat q1.2.2.1 ≤ List.length q1.2.1 then
    if (0 : Int) ≤ from_ then
    if Int.toNat from_ ≤ Int.toNat q1.2.2.1 then
    some (List.drop (Int.toNat from_) (List.take (Int.toNat q1.2.2.1) q1.2.1), q1.2.1, q1.2.2.1, q1.2.2.2)
    else none
    else none
    else none
    else none
  else
  if (0 : Int) ≤ at_ then
  if Int.toNat at_ ≤ List.length text then
  if (0 : Int) ≤ from_ then
  if Int.toNat from_ ≤ Int.toNat at_ then
  some (List.drop (Int.toNat from_) (List.take (Int.toNat at_) text), text, at_, out)
  else none
  else none
  else none
  else none
inductive I_lex_reader_run_reader_isLine_L2 where
  | lex_reader_run_reader_isLine_L2 (from_ : Int) (text : Str) (at_ : Int) (out : List Token)
@[reducible] def R_lex_reader_run_reader_isLine_L2 : I_lex_reader_run_reader_isLine_L2 → Type
  | .lex_reader_run_reader_isLine_L2 _ _ _ _ => Str × Str × Int × List Token
def F_lex_reader_run_reader_isLine_L2 (g : Fam R_lex_reader_run_reader_isLine_L2) : Fam R_lex_reader_run_reader_isLine_L2
  | .lex_reader_run_reader_isLine_L2 from_ text at_ out => lex_reader_run_reader_isLine_L2_B (fun from_ text at_ out => g (I_lex_reader_run_reader_isLine_L2.lex_reader_run_reader_isLine_L2 from_ text at_ out)) from_ text at_ out
theorem D_lex_reader_run_reader_isLine_L2 : ∀ i, Good (fun g => F_lex_reader_run_reader_isLine_L2 g i)
  | .lex_reader_run_reader_isLine_L2 from_ text at_ out => show Good (fun g : Fam R_lex_reader_run_reader_isLine_L2 => lex_reader_run_reader_isLine_L2_B (fun from_ text at_ out => g (I_lex_reader_run_reader_isLine_L2.lex_reader_run_reader_isLine_L2 from_ text at_ out)) from_ text at_ out) by unfold lex_reader_run_reader_isLine_L2_B; exact (.ite (.bind (.const _) fun _ => (.bind (.const _) fun _ => (.ite (.call _) (.ite (.ite (.ite (.ite (.const _) (.const _)) (.const _)) (.const _)) (.const _))))) (.ite (.ite (.ite (.ite (.const _) (.const _)) (.const _)) (.const _)) (.const _)))
def lex_reader_run_reader_isLine_L2 (from_ : Int) (text : Str) (at_ : Int) (out : List Token) : Option (Str × Str × Int × List Token) := fixF F_lex_reader_run_reader_isLine_L2 (.lex_reader_run_reader_isLine_L2 from_ text at_ out)
theorem lex_reader_run_reader_isLine_L2_eq (from_ : Int) (text : Str) (at_ : Int) (out : List Token) : lex_reader_run_reader_isLine_L2 from_ text at_ out = lex_reader_run_reader_isLine_L2_B lex_reader_run_reader_isLine_L2 from_ text at_ out := fixF_eq D_lex_reader_run_reader_isLine_L2 (.lex_reader_run_reader_isLine_L2 from_ text at_ out)
def lex_reader_run_reader_isLine (text : Str) (at_ : Int) (out : List Token) : Option (Str × Str × Int × List Token) :=
  lex_reader_run_reader_isLine_L2 at_ text at_ out
def lex_reader_skip_L0_B (lex_reader_skip_L0 : Str → Int → (List Token) → Option (Str × Int × List Token)) (text : Str) (at_ : Int) (out : List Token) : Option (Str × Int × List Token) :=
  if at_ < (List.length text : Int) then
    idx text at_ >>= fun c =>
    if Int.ofNat (UInt8.toNat c) = 32 then
      lex_reader_skip_L0 text (IntKind.wrap .i64 (at_ + 1)) out
    else
    if Int.ofNat (UInt8.toNat c) = 9 then
      lex_reader_skip_L0 text (IntKind.wrap .i64 (at_ + 1)) out
    else
    if Int.ofNat (UInt8.toNat c) = 10 then
      lex_reader_skip_L0 text (IntKind.wrap .i64 (at_ + 1)) out
    else
    if Int.ofNat (UInt8.toNat c) = 13 then
      lex_reader_skip_L0 text (IntKind.wrap .i64 (at_ + 1)) out
    else
    if Int.ofNat (UInt8.toNat c) = 47 then
      lex_reader_peek 1 text at_ out >>= fun q1 =>
      if q1.1 = 47 then
        lex_reader_run_reader_isLine q1.2.1 q1.2.2.1 q1.2.2.2 >>= fun q2 =>
        lex_reader_skip_L0 q2.2.1 q2.2.2.1 q2.2.2.2
      else
      some (q1.2.1, q1.2.2.1, q1.2.2.2)
    else
    some (text, at_, out)
  else
  some (text, at_, out)
inductive I_lex_reader_skip_L0 where
  | lex_reader_skip_L0 (text : Str) (at_ : Int) (out : List Token)
@[reducible] def R_lex_reader_skip_L0 : I_lex_reader_skip_L0 → Type
  | .lex_reader_skip_L0 _ _ _ => Str × Int × List Token
def F_lex_reader_skip_L0 (g : Fam R_lex_reader_skip_L0) : Fam R_lex_reader_skip_L0
  | .lex_reader_skip_L0 text at_ out => lex_reader_skip_L0_B (fun text at_ out => g (I_lex_reader_skip_L0.lex_reader_skip_L0 text at_ out)) text at_ out
theorem D_lex_reader_skip_L0 : ∀ i, Good (fun g => F_lex_reader_skip_L0 g i)
  | .lex_reader_skip_L0 text at_ out => show Good (fun g : Fam R_lex_reader_skip_L0 => lex_reader_skip_L0_B (fun text at_ out => g (I_lex_reader_skip_L0.lex_reader_skip_L0 text at_ out)) text at_ out) by unfold lex_reader_skip_L0_B; exact (.ite (.bind (.const _) fun _ => (.ite (.call _) (.ite (.call _) (.ite (.call _) (.ite (.call _) (.ite (.bind (.const _) fun _ => (.ite (.bind (.const _) fun _ => (.call _)) (.const _))) (.const _))))))) (.const _))
def lex_reader_skip_L0 (text : Str) (at_ : Int) (out : List Token) : Option (Str × Int × List Token) := fixF F_lex_reader_skip_L0 (.lex_reader_skip_L0 text at_ out)
theorem lex_reader_skip_L0_eq (text : Str) (at_ : Int) (out : List Token) : lex_reader_skip_L0 text at_ out = lex_reader_skip_L0_B lex_reader_skip_L0 text at_ out := fixF_eq D_lex_reader_skip_L0 (.lex_reader_skip_L0 text at_ out)
def lex_reader_skip (text : Str) (at_ : Int) (out : List Token) : Option (Str × Int × List Token) :=
  lex_reader_skip_L0 text at_ out
def lex_Tokens_L5_B (lex_Tokens_L5 : Str → Str → Int → (List Token) → Option (List Token × Int × Int × H)) (text : Str) (text1 : Str) (at_ : Int) (out : List Token) : Option (List Token × Int × Int × H) :=
  if at_ < (List.length text : Int) then
    lex_reader_one text1 at_ out >>= fun q1 =>
    if q1.1 = 0 then
      lex_reader_skip q1.2.1 q1.2.2.1 q1.2.2.2 >>= fun q2 =>
      lex_Tokens_L5 text q2.1 q2.2.1 q2.2.2
    else
    some (([] : List Token), at_, q1.1, ([[.d (.str q1.2.1), .d (.int .i64 q1.2.2.1), .own 5 (List.map Token.toD q1.2.2.2)]] : H))
  else
  lex_reader_put 5 0 ([] : List UInt8) at_ text1 at_ out >>= fun q3 =>
  some (q3.2.2, 0, 0, ([[.d (.str q3.1), .d (.int .i64 q3.2.1), .own 5 (List.map Token.toD q3.2.2)]] : H))
inductive I_lex_Tokens_L5 where
  | lex_Tokens_L5 (text : Str) (text1 : Str) (at_ : Int) (out : List Token)
@[reducible] def R_lex_Tokens_L5 : I_lex_Tokens_L5 → Type
  | .lex_Tokens_L5 _ _ _ _ => List Token × Int × Int × H
def F_lex_Tokens_L5 (g : Fam R_lex_Tokens_L5) : Fam R_lex_Tokens_L5
  | .lex_Tokens_L5 text text1 at_ out => lex_Tokens_L5_B (fun text text1 at_ out => g (I_lex_Tokens_L5.lex_Tokens_L5 text text1 at_ out)) text text1 at_ out
theorem D_lex_Tokens_L5 : ∀ i, Good (fun g => F_lex_Tokens_L5 g i)
  | .lex_Tokens_L5 text text1 at_ out => show Good (fun g : Fam R_lex_Tokens_L5 => lex_Tokens_L5_B (fun text text1 at_ out => g (I_lex_Tokens_L5.lex_Tokens_L5 text text1 at_ out)) text text1 at_ out) by unfold lex_Tokens_L5_B; exact (.ite (.bind (.const _) fun _ => (.ite (.bind (.const _) fun _ => (.call _)) (.const _))) (.bind (.const _) fun _ => (.const _)))
def lex_Tokens_L5 (text : Str) (text1 : Str) (at_ : Int) (out : List Token) : Option (List Token × Int × Int × H) := fixF F_lex_Tokens_L5 (.lex_Tokens_L5 text text1 at_ out)
theorem lex_Tokens_L5_eq (text : Str) (text1 : Str) (at_ : Int) (out : List Token) : lex_Tokens_L5 text text1 at_ out = lex_Tokens_L5_B lex_Tokens_L5 text text1 at_ out := fixF_eq D_lex_Tokens_L5 (.lex_Tokens_L5 text text1 at_ out)
def lex_Tokens (text : Str) : Option (List Token × Int × Int × H) :=
  if (List.length text : Int) > 8192 then
    some (([] : List Token), 0, 3, ([] : H))
  else
  lex_reader_skip text 0 [] >>= fun q1 =>
  lex_Tokens_L5 text q1.1 q1.2.1 q1.2.2
def law05awake  : Option (Bool) :=
  lex_Tokens ([97, 32, 49] : List UInt8) >>= fun q1 =>
  if q1.2.2.1 = 0 then
    if (List.length q1.1 : Int) = 3 then
      idx q1.1 1 >>= fun x =>
      some ((x.N == 1))
    else
    some (false)
  else
  some (false)
def ref05Same_L4_B (ref05Same_L4 : (List Token) → (List Token) → Int → Option (Bool)) (a : List Token) (b : List Token) (i : Int) : Option (Bool) :=
  if i < (List.length a : Int) then
    idx a i >>= fun x =>
    idx b i >>= fun x1 =>
    if (x.K = x1.K) ∧ ((x.N = x1.N) ∧ ((x.S = x1.S) ∧ ((x.From = x1.From) ∧ ((x.To = x1.To) ∧ True)))) then
      ref05Same_L4 a b (IntKind.wrap .i64 (i + 1))
    else
    some (false)
  else
  some (true)
inductive I_ref05Same_L4 where
  | ref05Same_L4 (a : List Token) (b : List Token) (i : Int)
@[reducible] def R_ref05Same_L4 : I_ref05Same_L4 → Type
  | .ref05Same_L4 _ _ _ => Bool
def F_ref05Same_L4 (g : Fam R_ref05Same_L4) : Fam R_ref05Same_L4
  | .ref05Same_L4 a b i => ref05Same_L4_B (fun a b i => g (I_ref05Same_L4.ref05Same_L4 a b i)) a b i
theorem D_ref05Same_L4 : ∀ i, Good (fun g => F_ref05Same_L4 g i)
  | .ref05Same_L4 a b i => show Good (fun g : Fam R_ref05Same_L4 => ref05Same_L4_B (fun a b i => g (I_ref05Same_L4.ref05Same_L4 a b i)) a b i) by unfold ref05Same_L4_B; exact (.ite (.bind (.const _) fun _ => (.bind (.const _) fun _ => (.ite (.call _) (.const _)))) (.const _))
def ref05Same_L4 (a : List Token) (b : List Token) (i : Int) : Option (Bool) := fixF F_ref05Same_L4 (.ref05Same_L4 a b i)
theorem ref05Same_L4_eq (a : List Token) (b : List Token) (i : Int) : ref05Same_L4 a b i = ref05Same_L4_B ref05Same_L4 a b i := fixF_eq D_ref05Same_L4 (.ref05Same_L4 a b i)
def ref05Same (a : List Token) (b : List Token) : Option (Bool) :=
  if (List.length a : Int) = (List.length b : Int) then
    ref05Same_L4 a b 0
  else
  some (false)
def ref05Begins (text : Str) (at_ : Int) (s : Str) : Option (Bool) :=
  if (List.length s : Int) ≤ (IntKind.wrap .i64 ((List.length text : Int) - at_)) then
    if (0 : Int) ≤ (IntKind.wrap .i64 (at_ + (List.length s : Int))) then
    if Int.toNat (IntKind.wrap .i64 (at_ + (List.length s : Int))) ≤ List.length text then
    if (0 : Int) ≤ at_ then
    if Int.toNat at_ ≤ Int.toNat (IntKind.wrap .i64 (at_ + (List.length s : Int))) then
    some (((List.drop (Int.toNat at_) (List.take (Int.toNat (IntKind.wrap .i64 (at_ + (List.length s : Int)))) text)) == s))
    else none
    else none
    else none
    else none
  else
  some (false)
def ref05Blank (c : Int) : Option (Bool) :=
  if c = 32 then
    some (true)
  else
  if c = 9 then
    some (true)
  else
  if c = 10 then
    some (true)
  else
  some ((c == 13))
def ref05Next_L1_B (ref05Next_L1 : Str → Int → Option (Int)) (ref05Next_L5 : Str → Int → Option (Int)) (text : Str) (at_ : Int) : Option (Int) :=
  if at_ < (List.length text : Int) then
    idx text at_ >>= fun c =>
    ref05Blank (Int.ofNat (UInt8.toNat c)) >>= fun q1 =>
    if q1 = true then
      ref05Next_L1 text (IntKind.wrap .i64 (at_ + 1))
    else
    ref05Begins text at_ ([47, 47] : List UInt8) >>= fun q2 =>
    if q2 = true then
      ref05Next_L5 text at_
    else
    some (at_)
  else
  some (at_)
def ref05Next_L5_B (ref05Next_L1 : Str → Int → Option (Int)) (ref05Next_L5 : Str → Int → Option (Int)) (text : Str) (at_ : Int) : Option (Int) :=
  if at_ < (List.length text : Int) then
    idx text at_ >>= fun c =>
    if Int.ofNat (UInt8.toNat c) = 10 then
      ref05Next_L1 text at_
    else
    ref05Next_L5 text (IntKind.wrap .i64 (at_ + 1))
  else
  ref05Next_L1 text at_
inductive I_ref05Next_L1 where
  | ref05Next_L1 (text : Str) (at_ : Int)
  | ref05Next_L5 (text : Str) (at_ : Int)
@[reducible] def R_ref05Next_L1 : I_ref05Next_L1 → Type
  | .ref05Next_L1 _ _ => Int
  | .ref05Next_L5 _ _ => Int
def F_ref05Next_L1 (g : Fam R_ref05Next_L1) : Fam R_ref05Next_L1
  | .ref05Next_L1 text at_ => ref05Next_L1_B (fun text at_ => g (I_ref05Next_L1.ref05Next_L1 text at_)) (fun text at_ => g (I_ref05Next_L1.ref05Next_L5 text at_)) text at_
  | .ref05Next_L5 text at_ => ref05Next_L5_B (fun text at_ => g (I_ref05Next_L1.ref05Next_L1 text at_)) (fun text at_ => g (I_ref05Next_L1.ref05Next_L5 text at_)) text at_
theorem D_ref05Next_L1 : ∀ i, Good (fun g => F_ref05Next_L1 g i)
  | .ref05Next_L1 text at_ => show Good (fun g : Fam R_ref05Next_L1 => ref05Next_L1_B (fun text at_ => g (I_ref05Next_L1.ref05Next_L1 text at_)) (fun text at_ => g (I_ref05Next_L1.ref05Next_L5 text at_)) text at_) by unfold ref05Next_L1_B; exact (.ite (.bind (.const _) fun _ => (.bind (.const _) fun _ => (.ite (.call _) (.bind (.const _) fun _ => (.ite (.call _) (.const _)))))) (.const _))
  | .ref05Next_L5 text at_ => show Good (fun g : Fam R_ref05Next_L1 => ref05Next_L5_B (fun text at_ => g (I_ref05Next_L1.ref05Next_L1 text at_)) (fun text at_ => g (I_ref05Next_L1.ref05Next_L5 text at_)) text at_) by unfold ref05Next_L5_B; exact (.ite (.bind (.const _) fun _ => (.ite (.call _) (.call _))) (.call _))
def ref05Next_L1 (text : Str) (at_ : Int) : Option (Int) := fixF F_ref05Next_L1 (.ref05Next_L1 text at_)
def ref05Next_L5 (text : Str) (at_ : Int) : Option (Int) := fixF F_ref05Next_L1 (.ref05Next_L5 text at_)
theorem ref05Next_L1_eq (text : Str) (at_ : Int) : ref05Next_L1 text at_ = ref05Next_L1_B ref05Next_L1 ref05Next_L5 text at_ := fixF_eq D_ref05Next_L1 (.ref05Next_L1 text at_)
theorem ref05Next_L5_eq (text : Str) (at_ : Int) : ref05Next_L5 text at_ = ref05Next_L5_B ref05Next_L1 ref05Next_L5 text at_ := fixF_eq D_ref05Next_L1 (.ref05Next_L5 text at_)
def ref05Next (text : Str) (at_ : Int) : Option (Int) :=
  ref05Next_L1 text at_
def ref05Digit (c : Int) : Option (Bool) :=
  if (48 : Int) ≤ c then
    some (decide (c ≤ 57))
  else
  some (false)
def ref05Letter (c : Int) : Option (Bool) :=
  if (97 : Int) ≤ c then
    if c ≤ 122 then
      some (true)
    else
    if (65 : Int) ≤ c then
      if c ≤ 90 then
        some (true)
      else
      some ((c == 95))
    else
    some ((c == 95))
  else
  if (65 : Int) ≤ c then
    if c ≤ 90 then
      some (true)
    else
    some ((c == 95))
  else
  some ((c == 95))
def ref05Number_L5_B (ref05Number_L5 : Str → Int → Int → Option (Int × Bool)) (s : Str) (v : Int) (i : Int) : Option (Int × Bool) :=
  if i < (List.length s : Int) then
    idx s i >>= fun c =>
    if 10 ≠ (0 : Int) then
    if v > (IntKind.wrap .i64 (Int.tdiv (IntKind.wrap .i64 (9223372036854775807 - (IntKind.wrap .i64 (IntKind.wrap .u8 ((Int.ofNat (UInt8.toNat c)) - 48))))) 10)) then
      some (0, false)
    else
    ref05Number_L5 s (IntKind.wrap .i64 ((IntKind.wrap .i64 (v * 10)) + (IntKind.wrap .i64 (IntKind.wrap .u8 ((Int.ofNat (UInt8.toNat c)) - 48))))) (IntKind.wrap .i64 (i + 1))
    else none
  else
  some (v, true)
inductive I_ref05Number_L5 where
  | ref05Number_L5 (s : Str) (v : Int) (i : Int)
@[reducible] def R_ref05Number_L5 : I_ref05Number_L5 → Type
  | .ref05Number_L5 _ _ _ => Int × Bool
def F_ref05Number_L5 (g : Fam R_ref05Number_L5) : Fam R_ref05Number_L5
  | .ref05Number_L5 s v i => ref05Number_L5_B (fun s v i => g (I_ref05Number_L5.ref05Number_L5 s v i)) s v i
theorem D_ref05Number_L5 : ∀ i, Good (fun g => F_ref05Number_L5 g i)
  | .ref05Number_L5 s v i => show Good (fun g : Fam R_ref05Number_L5 => ref05Number_L5_B (fun s v i => g (I_ref05Number_L5.ref05Number_L5 s v i)) s v i) by unfold ref05Number_L5_B; exact (.ite (.bind (.const _) fun _ => (.ite (.ite (.const _) (.call _)) (.const _))) (.const _))
def ref05Number_L5 (s : Str) (v : Int) (i : Int) : Option (Int × Bool) := fixF F_ref05Number_L5 (.ref05Number_L5 s v i)
theorem ref05Number_L5_eq (s : Str) (v : Int) (i : Int) : ref05Number_L5 s v i = ref05Number_L5_B ref05Number_L5 s v i := fixF_eq D_ref05Number_L5 (.ref05Number_L5 s v i)
def ref05Number (s : Str) : Option (Int × Bool) :=
  if (List.length s : Int) = 0 then
    some (0, false)
  else
  if (List.length s : Int) > 1 then
    idx s 0 >>= fun c =>
    if Int.ofNat (UInt8.toNat c) = 48 then
      some (0, false)
    else
    ref05Number_L5 s 0 0
  else
  ref05Number_L5 s 0 0
def ref05One_L13_B (ref05One_L13 : Str → Int → Int → Token → Option (Token × Int)) (text : Str) (at_ : Int) (to_ : Int) (o4 : Token) : Option (Token × Int) :=
  if to_ < (List.length text : Int) then
    idx text to_ >>= fun c =>
    ref05Digit (Int.ofNat (UInt8.toNat c)) >>= fun q1 =>
    if q1 = true then
      ref05One_L13 text at_ (IntKind.wrap .i64 (to_ + 1)) o4
    else
    if (0 : Int) ≤ to_ then
    if Int.toNat to_ ≤ List.length text then
    if (0 : Int) ≤ at_ then
    if Int.toNat at_ ≤ Int.toNat to_ then
    ref05Number (List.drop (Int.toNat at_) (List.take (Int.toNat to_) text)) >>= fun q2 =>
    if q2.2 = true then
      some ((Token.mk 2 q2.1 ([] : List UInt8) at_ to_), 0)
    else
    some ((Token.mk 0 0 ([] : List UInt8) 0 0), 5)
    else none
    else none
    else none
    else none
  else
  if (0 : Int) ≤ to_ then
  if Int.toNat to_ ≤ List.length text then
  if (0 : Int) ≤ at_ then
  if Int.toNat at_ ≤ Int.toNat to_ then
  ref05Number (List.drop (Int.toNat at_) (List.take (Int.toNat to_) text)) >>= fun q3 =>
  if q3.2 = true then
    some ((Token.mk 2 q3.1 ([] : List UInt8) at_ to_), 0)
  else
  some ((Token.mk 0 0 ([] : List UInt8) 0 0), 5)
  else none
  else none
  else none
  else none
inductive I_ref05One_L13 where
  | ref05One_L13 (text : Str) (at_ : Int) (to_ : Int) (o4 : Token)
@[reducible] def R_ref05One_L13 : I_ref05One_L13 → Type
  | .ref05One_L13 _ _ _ _ => Token × Int
def F_ref05One_L13 (g : Fam R_ref05One_L13) : Fam R_ref05One_L13
  | .ref05One_L13 text at_ to_ o4 => ref05One_L13_B (fun text at_ to_ o4 => g (I_ref05One_L13.ref05One_L13 text at_ to_ o4)) text at_ to_ o4
theorem D_ref05One_L13 : ∀ i, Good (fun g => F_ref05One_L13 g i)
  | .ref05One_L13 text at_ to_ o4 => show Good (fun g : Fam R_ref05One_L13 => ref05One_L13_B (fun text at_ to_ o4 => g (I_ref05One_L13.ref05One_L13 text at_ to_ o4)) text at_ to_ o4) by unfold ref05One_L13_B; exact (.ite (.bind (.const _) fun _ => (.bind (.const _) fun _ => (.ite (.call _) (.ite (.ite (.ite (.ite (.bind (.const _) fun _ => (.ite (.const _) (.const _))) (.const _)) (.const _)) (.const _)) (.const _))))) (.ite (.ite (.ite (.ite (.bind (.const _) fun _ => (.ite (.const _) (.const _))) (.const _)) (.const _)) (.const _)) (.const _)))
def ref05One_L13 (text : Str) (at_ : Int) (to_ : Int) (o4 : Token) : Option (Token × Int) := fixF F_ref05One_L13 (.ref05One_L13 text at_ to_ o4)
theorem ref05One_L13_eq (text : Str) (at_ : Int) (to_ : Int) (o4 : Token) : ref05One_L13 text at_ to_ o4 = ref05One_L13_B ref05One_L13 text at_ to_ o4 := fixF_eq D_ref05One_L13 (.ref05One_L13 text at_ to_ o4)
def ref05One_L21_B (ref05One_L21 : Str → Int → (List Str) → Int → Token → Option (Token × Int)) (text : Str) (at_ : Int) (all : List Str) (i : Int) (o4 : Token) : Option (Token × Int) :=
  if i < (List.length all : Int) then
    idx all i >>= fun x =>
    ref05Begins text at_ x >>= fun q1 =>
    if q1 = true then
      idx all i >>= fun x1 =>
      idx all i >>= fun x2 =>
      some ((Token.mk 4 0 x1 at_ (IntKind.wrap .i64 (at_ + (List.length x2 : Int)))), 0)
    else
    ref05One_L21 text at_ all (IntKind.wrap .i64 (i + 1)) o4
  else
  some ((Token.mk 0 0 ([] : List UInt8) 0 0), 4)
inductive I_ref05One_L21 where
  | ref05One_L21 (text : Str) (at_ : Int) (all : List Str) (i : Int) (o4 : Token)
@[reducible] def R_ref05One_L21 : I_ref05One_L21 → Type
  | .ref05One_L21 _ _ _ _ _ => Token × Int
def F_ref05One_L21 (g : Fam R_ref05One_L21) : Fam R_ref05One_L21
  | .ref05One_L21 text at_ all i o4 => ref05One_L21_B (fun text at_ all i o4 => g (I_ref05One_L21.ref05One_L21 text at_ all i o4)) text at_ all i o4
theorem D_ref05One_L21 : ∀ i, Good (fun g => F_ref05One_L21 g i)
  | .ref05One_L21 text at_ all i o4 => show Good (fun g : Fam R_ref05One_L21 => ref05One_L21_B (fun text at_ all i o4 => g (I_ref05One_L21.ref05One_L21 text at_ all i o4)) text at_ all i o4) by unfold ref05One_L21_B; exact (.ite (.bind (.const _) fun _ => (.bind (.const _) fun _ => (.ite (.bind (.const _) fun _ => (.bind (.const _) fun _ => (.const _))) (.call _)))) (.const _))
def ref05One_L21 (text : Str) (at_ : Int) (all : List Str) (i : Int) (o4 : Token) : Option (Token × Int) := fixF F_ref05One_L21 (.ref05One_L21 text at_ all i o4)
theorem ref05One_L21_eq (text : Str) (at_ : Int) (all : List Str) (i : Int) (o4 : Token) : ref05One_L21 text at_ all i o4 = ref05One_L21_B ref05One_L21 text at_ all i o4 := fixF_eq D_ref05One_L21 (.ref05One_L21 text at_ all i o4)
def ref05Among_L2_B (ref05Among_L2 : Str → (List Str) → Int → Option (Bool)) (s : Str) (all : List Str) (i : Int) : Option (Bool) :=
  if i < (List.length all : Int) then
    idx all i >>= fun x =>
    if x = s then
      some (true)
    else
    ref05Among_L2 s all (IntKind.wrap .i64 (i + 1))
  else
  some (false)
inductive I_ref05Among_L2 where
  | ref05Among_L2 (s : Str) (all : List Str) (i : Int)
@[reducible] def R_ref05Among_L2 : I_ref05Among_L2 → Type
  | .ref05Among_L2 _ _ _ => Bool
def F_ref05Among_L2 (g : Fam R_ref05Among_L2) : Fam R_ref05Among_L2
  | .ref05Among_L2 s all i => ref05Among_L2_B (fun s all i => g (I_ref05Among_L2.ref05Among_L2 s all i)) s all i
theorem D_ref05Among_L2 : ∀ i, Good (fun g => F_ref05Among_L2 g i)
  | .ref05Among_L2 s all i => show Good (fun g : Fam R_ref05Among_L2 => ref05Among_L2_B (fun s all i => g (I_ref05Among_L2.ref05Among_L2 s all i)) s all i) by unfold ref05Among_L2_B; exact (.ite (.bind (.const _) fun _ => (.ite (.const _) (.call _))) (.const _))
def ref05Among_L2 (s : Str) (all : List Str) (i : Int) : Option (Bool) := fixF F_ref05Among_L2 (.ref05Among_L2 s all i)
theorem ref05Among_L2_eq (s : Str) (all : List Str) (i : Int) : ref05Among_L2 s all i = ref05Among_L2_B ref05Among_L2 s all i := fixF_eq D_ref05Among_L2 (.ref05Among_L2 s all i)
def ref05Among (s : Str) (all : List Str) : Option (Bool) :=
  ref05Among_L2 s all 0
def ref05Words  : Option (List Str) :=
  some ([([114, 101, 99] : List UInt8), ([99, 111, 110, 115, 116] : List UInt8), ([118, 97, 114] : List UInt8), ([112, 117, 98] : List UInt8), ([102, 110] : List UInt8), ([105, 110, 116] : List UInt8), ([98, 111, 111, 108] : List UInt8), ([108, 101, 116] : List UInt8), ([105, 102] : List UInt8), ([101, 108, 115, 101] : List UInt8), ([119, 104, 105, 108, 101] : List UInt8), ([102, 111, 114] : List UInt8), ([116, 111] : List UInt8), ([112, 114, 105, 110, 116] : List UInt8), ([114, 101, 116, 117, 114, 110] : List UInt8), ([100, 111] : List UInt8), ([116, 114, 117, 101] : List UInt8), ([102, 97, 108, 115, 101] : List UInt8), ([114, 101, 97, 100] : List UInt8), ([110, 101, 119] : List UInt8)])
def ref05One_L4_B (ref05One_L4 : Str → Int → Int → Token → Option (Token × Int)) (text : Str) (at_ : Int) (to_ : Int) (o4 : Token) : Option (Token × Int) :=
  if to_ < (List.length text : Int) then
    idx text to_ >>= fun c =>
    ref05Letter (Int.ofNat (UInt8.toNat c)) >>= fun q1 =>
    if q1 = true then
      ref05One_L4 text at_ (IntKind.wrap .i64 (to_ + 1)) o4
    else
    idx text to_ >>= fun c1 =>
    ref05Digit (Int.ofNat (UInt8.toNat c1)) >>= fun q2 =>
    if q2 = true then
      ref05One_L4 text at_ (IntKind.wrap .i64 (to_ + 1)) o4
    else
    if (IntKind.wrap .i64 (to_ - at_)) > 16 then
      some ((Token.mk 0 0 ([] : List UInt8) 0 0), 3)
    else
    if (0 : Int) ≤ to_ then
    if Int.toNat to_ ≤ List.length text then
    if (0 : Int) ≤ at_ then
    if Int.toNat at_ ≤ Int.toNat to_ then
    ref05Words >>= fun q3 =>
    ref05Among (List.drop (Int.toNat at_) (List.take (Int.toNat to_) text)) q3 >>= fun q4 =>
    if q4 = true then
      some ((Token.mk 3 0 (List.drop (Int.toNat at_) (List.take (Int.toNat to_) text)) at_ to_), 0)
    else
    some ((Token.mk 1 0 (List.drop (Int.toNat at_) (List.take (Int.toNat to_) text)) at_ to_), 0)
    else none
    else none
    else none
    else none
  else
  if (IntKind.wrap .i64 (to_ - at_)) > 16 then
    some ((Token.mk 0 0 ([] : List UInt8) 0 0), 3)
  else
  if (0 : Int) ≤ to_ then
  if Int.toNat to_ ≤ List.length text then
  if (0 : Int) ≤ at_ then
  if Int.toNat at_ ≤ Int.toNat to_ then
  ref05Words >>= fun q5 =>
  ref05Among (List.drop (Int.toNat at_) (List.take (Int.toNat to_) text)) q5 >>= fun q6 =>
  if q6 = true then
    some ((Token.mk 3 0 (List.drop (Int.toNat at_) (List.take (Int.toNat to_) text)) at_ to_), 0)
  else
  some ((Token.mk 1 0 (List.drop (Int.toNat at_) (List.take (Int.toNat to_) text)) at_ to_), 0)
  else none
  else none
  else none
  else none
inductive I_ref05One_L4 where
  | ref05One_L4 (text : Str) (at_ : Int) (to_ : Int) (o4 : Token)
@[reducible] def R_ref05One_L4 : I_ref05One_L4 → Type
  | .ref05One_L4 _ _ _ _ => Token × Int
def F_ref05One_L4 (g : Fam R_ref05One_L4) : Fam R_ref05One_L4
  | .ref05One_L4 text at_ to_ o4 => ref05One_L4_B (fun text at_ to_ o4 => g (I_ref05One_L4.ref05One_L4 text at_ to_ o4)) text at_ to_ o4
theorem D_ref05One_L4 : ∀ i, Good (fun g => F_ref05One_L4 g i)
  | .ref05One_L4 text at_ to_ o4 => show Good (fun g : Fam R_ref05One_L4 => ref05One_L4_B (fun text at_ to_ o4 => g (I_ref05One_L4.ref05One_L4 text at_ to_ o4)) text at_ to_ o4) by unfold ref05One_L4_B; exact (.ite (.bind (.const _) fun _ => (.bind (.const _) fun _ => (.ite (.call _) (.bind (.const _) fun _ => (.bind (.const _) fun _ => (.ite (.call _) (.ite (.const _) (.ite (.ite (.ite (.ite (.bind (.const _) fun _ => (.bind (.const _) fun _ => (.ite (.const _) (.const _)))) (.const _)) (.const _)) (.const _)) (.const _))))))))) (.ite (.const _) (.ite (.ite (.ite (.ite (.bind (.const _) fun _ => (.bind (.const _) fun _ => (.ite (.const _) (.const _)))) (.const _)) (.const _)) (.const _)) (.const _))))
def ref05One_L4 (text : Str) (at_ : Int) (to_ : Int) (o4 : Token) : Option (Token × Int) := fixF F_ref05One_L4 (.ref05One_L4 text at_ to_ o4)
theorem ref05One_L4_eq (text : Str) (at_ : Int) (to_ : Int) (o4 : Token) : ref05One_L4 text at_ to_ o4 = ref05One_L4_B ref05One_L4 text at_ to_ o4 := fixF_eq D_ref05One_L4 (.ref05One_L4 text at_ to_ o4)
def ref05Signs  : Option (List Str) :=
  some ([([61, 61] : List UInt8), ([33, 61] : List UInt8), ([60, 61] : List UInt8), ([62, 61] : List UInt8), ([38, 38] : List UInt8), ([124, 124] : List UInt8), ([123] : List UInt8), ([125] : List UInt8), ([40] : List UInt8), ([41] : List UInt8), ([91] : List UInt8), ([93] : List UInt8), ([44] : List UInt8), ([59] : List UInt8), ([58] : List UInt8), ([46] : List UInt8), ([61] : List UInt8), ([60] : List UInt8), ([62] : List UInt8), ([43] : List UInt8), ([45] : List UInt8), ([42] : List UInt8), ([47] : List UInt8), ([37] : List UInt8), ([33] : List UInt8), ([64] : List UInt8)])
def ref05One (text : Str) (at_ : Int) : Option (Token × Int) :=
  idx text at_ >>= fun c =>
  ref05Letter (Int.ofNat (UInt8.toNat c)) >>= fun q1 =>
  if q1 = true then
    ref05One_L4 text at_ at_ (Token.mk 0 0 ([] : List UInt8) 0 0)
  else
  ref05Digit (Int.ofNat (UInt8.toNat c)) >>= fun q2 =>
  if q2 = true then
    ref05One_L13 text at_ at_ (Token.mk 0 0 ([] : List UInt8) 0 0)
  else
  ref05Signs >>= fun q3 =>
  ref05One_L21 text at_ q3 0 (Token.mk 0 0 ([] : List UInt8) 0 0)
def ref05Tokens_L5_B (ref05Tokens_L5 : Str → (List Token) → Int → Option (List Token × Int × Int)) (text : Str) (out : List Token) (at_ : Int) : Option (List Token × Int × Int) :=
  if at_ < (List.length text : Int) then
    ref05One text at_ >>= fun q1 =>
    if q1.2 = 0 then
      if roomy 48 (List.length out + List.length [q1.1]) then
      ref05Next text q1.1.To >>= fun q2 =>
      ref05Tokens_L5 text (out ++ [q1.1]) q2
      else none
    else
    some (([] : List Token), at_, q1.2)
  else
  if roomy 48 (List.length out + List.length [(Token.mk 5 0 ([] : List UInt8) (List.length text : Int) (List.length text : Int))]) then
  some (out ++ [(Token.mk 5 0 ([] : List UInt8) (List.length text : Int) (List.length text : Int))], 0, 0)
  else none
inductive I_ref05Tokens_L5 where
  | ref05Tokens_L5 (text : Str) (out : List Token) (at_ : Int)
@[reducible] def R_ref05Tokens_L5 : I_ref05Tokens_L5 → Type
  | .ref05Tokens_L5 _ _ _ => List Token × Int × Int
def F_ref05Tokens_L5 (g : Fam R_ref05Tokens_L5) : Fam R_ref05Tokens_L5
  | .ref05Tokens_L5 text out at_ => ref05Tokens_L5_B (fun text out at_ => g (I_ref05Tokens_L5.ref05Tokens_L5 text out at_)) text out at_
theorem D_ref05Tokens_L5 : ∀ i, Good (fun g => F_ref05Tokens_L5 g i)
  | .ref05Tokens_L5 text out at_ => show Good (fun g : Fam R_ref05Tokens_L5 => ref05Tokens_L5_B (fun text out at_ => g (I_ref05Tokens_L5.ref05Tokens_L5 text out at_)) text out at_) by unfold ref05Tokens_L5_B; exact (.ite (.bind (.const _) fun _ => (.ite (.ite (.bind (.const _) fun _ => (.call _)) (.const _)) (.const _))) (.ite (.const _) (.const _)))
def ref05Tokens_L5 (text : Str) (out : List Token) (at_ : Int) : Option (List Token × Int × Int) := fixF F_ref05Tokens_L5 (.ref05Tokens_L5 text out at_)
theorem ref05Tokens_L5_eq (text : Str) (out : List Token) (at_ : Int) : ref05Tokens_L5 text out at_ = ref05Tokens_L5_B ref05Tokens_L5 text out at_ := fixF_eq D_ref05Tokens_L5 (.ref05Tokens_L5 text out at_)
def ref05Tokens (text : Str) : Option (List Token × Int × Int) :=
  if (List.length text : Int) > 8192 then
    some (([] : List Token), 0, 3)
  else
  ref05Next text 0 >>= fun q1 =>
  ref05Tokens_L5 text ([] : List Token) q1
def law05LexReads (text : Str) : Option (Bool) :=
  lex_Tokens text >>= fun q1 =>
  ref05Tokens text >>= fun q2 =>
  if q1.2.2.1 = q2.2.2 then
    if q1.2.1 = q2.2.1 then
      ref05Same q1.1 q2.1 >>= fun q3 =>
      if q3 = true then
        law05awake >>= fun q4 =>
        some (q4)
      else
      some (false)
    else
    some (false)
  else
  some (false)
def law05LexBack_L17_B (law05LexBack_L17 : (List Token) → (List Token) → Int → Option (Bool)) (x : List Token) (y : List Token) (i : Int) : Option (Bool) :=
  if i < (List.length x : Int) then
    idx x i >>= fun x1 =>
    idx y i >>= fun x2 =>
    if x1.K = x2.K then
      idx x i >>= fun x3 =>
      idx y i >>= fun x4 =>
      if x3.N = x4.N then
        idx x i >>= fun x5 =>
        idx y i >>= fun x6 =>
        if x5.S = x6.S then
          law05LexBack_L17 x y (IntKind.wrap .i64 (i + 1))
        else
        some (false)
      else
      some (false)
    else
    some (false)
  else
  law05awake >>= fun q1 =>
  some (q1)
inductive I_law05LexBack_L17 where
  | law05LexBack_L17 (x : List Token) (y : List Token) (i : Int)
@[reducible] def R_law05LexBack_L17 : I_law05LexBack_L17 → Type
  | .law05LexBack_L17 _ _ _ => Bool
def F_law05LexBack_L17 (g : Fam R_law05LexBack_L17) : Fam R_law05LexBack_L17
  | .law05LexBack_L17 x y i => law05LexBack_L17_B (fun x y i => g (I_law05LexBack_L17.law05LexBack_L17 x y i)) x y i
theorem D_law05LexBack_L17 : ∀ i, Good (fun g => F_law05LexBack_L17 g i)
  | .law05LexBack_L17 x y i => show Good (fun g : Fam R_law05LexBack_L17 => law05LexBack_L17_B (fun x y i => g (I_law05LexBack_L17.law05LexBack_L17 x y i)) x y i) by unfold law05LexBack_L17_B; exact (.ite (.bind (.const _) fun _ => (.bind (.const _) fun _ => (.ite (.bind (.const _) fun _ => (.bind (.const _) fun _ => (.ite (.bind (.const _) fun _ => (.bind (.const _) fun _ => (.ite (.call _) (.const _)))) (.const _)))) (.const _)))) (.bind (.const _) fun _ => (.const _)))
def law05LexBack_L17 (x : List Token) (y : List Token) (i : Int) : Option (Bool) := fixF F_law05LexBack_L17 (.law05LexBack_L17 x y i)
theorem law05LexBack_L17_eq (x : List Token) (y : List Token) (i : Int) : law05LexBack_L17 x y i = law05LexBack_L17_B law05LexBack_L17 x y i := fixF_eq D_law05LexBack_L17 (.law05LexBack_L17 x y i)
def lex_Digits_L6_B (lex_Digits_L6 : Int → Int → Int → (List Int) → Option (Str)) (n : Int) (i : Int) (u : Int) (b : List Int) : Option (Str) :=
  if 10 ≠ (0 : Int) then
  if 20 = List.length b ∧ (0 : Int) ≤ (IntKind.wrap .i64 (i - 1)) ∧ (IntKind.wrap .i64 (i - 1)) < (List.length b : Int) then
  if Int.toNat (IntKind.wrap .i64 (i - 1)) < List.length b then
  if 10 ≠ (0 : Int) then
  if IntKind.wrap .u64 (Int.tdiv u 10) = 0 then
    if n < 0 then
      if 20 = List.length (b.set (IntKind.wrap .i64 (i - 1)).toNat (IntKind.wrap .u8 (IntKind.wrap .u64 (48 + (Int.tmod u 10))))) ∧ (0 : Int) ≤ (IntKind.wrap .i64 ((IntKind.wrap .i64 (i - 1)) - 1)) ∧ (IntKind.wrap .i64 ((IntKind.wrap .i64 (i - 1)) - 1)) < (List.length (b.set (IntKind.wrap .i64 (i - 1)).toNat (IntKind.wrap .u8 (IntKind.wrap .u64 (48 + (Int.tmod u 10))))) : Int) then
      if Int.toNat (IntKind.wrap .i64 ((IntKind.wrap .i64 (i - 1)) - 1)) < List.length (b.set (IntKind.wrap .i64 (i - 1)).toNat (IntKind.wrap .u8 (IntKind.wrap .u64 (48 + (Int.tmod u 10))))) then
      if 20 = List.length ((b.set (IntKind.wrap .i64 (i - 1)).toNat (IntKind.wrap .u8 (IntKind.wrap .u64 (48 + (Int.tmod u 10))))).set (IntKind.wrap .i64 ((IntKind.wrap .i64 (i - 1)) - 1)).toNat 45) then
      if (0 : Int) ≤ (IntKind.wrap .i64 ((IntKind.wrap .i64 (i - 1)) - 1)) then
      if Int.toNat (IntKind.wrap .i64 ((IntKind.wrap .i64 (i - 1)) - 1)) ≤ List.length ((b.set (IntKind.wrap .i64 (i - 1)).toNat (IntKind.wrap .u8 (IntKind.wrap .u64 (48 + (Int.tmod u 10))))).set (IntKind.wrap .i64 ((IntKind.wrap .i64 (i - 1)) - 1)).toNat 45) then
      bytesOf (List.drop (Int.toNat (IntKind.wrap .i64 ((IntKind.wrap .i64 (i - 1)) - 1))) ((b.set (IntKind.wrap .i64 (i - 1)).toNat (IntKind.wrap .u8 (IntKind.wrap .u64 (48 + (Int.tmod u 10))))).set (IntKind.wrap .i64 ((IntKind.wrap .i64 (i - 1)) - 1)).toNat 45)) >>= fun s =>
      some (s)
      else none
      else none
      else none
      else none
      else none
    else
    if 20 = List.length (b.set (IntKind.wrap .i64 (i - 1)).toNat (IntKind.wrap .u8 (IntKind.wrap .u64 (48 + (Int.tmod u 10))))) then
    if (0 : Int) ≤ (IntKind.wrap .i64 (i - 1)) then
    if Int.toNat (IntKind.wrap .i64 (i - 1)) ≤ List.length (b.set (IntKind.wrap .i64 (i - 1)).toNat (IntKind.wrap .u8 (IntKind.wrap .u64 (48 + (Int.tmod u 10))))) then
    bytesOf (List.drop (Int.toNat (IntKind.wrap .i64 (i - 1))) (b.set (IntKind.wrap .i64 (i - 1)).toNat (IntKind.wrap .u8 (IntKind.wrap .u64 (48 + (Int.tmod u 10)))))) >>= fun s1 =>
    some (s1)
    else none
    else none
    else none
  else
  lex_Digits_L6 n (IntKind.wrap .i64 (i - 1)) (IntKind.wrap .u64 (Int.tdiv u 10)) (b.set (IntKind.wrap .i64 (i - 1)).toNat (IntKind.wrap .u8 (IntKind.wrap .u64 (48 + (Int.tmod u 10)))))
  else none
  else none
  else none
  else none
inductive I_lex_Digits_L6 where
  | lex_Digits_L6 (n : Int) (i : Int) (u : Int) (b : List Int)
@[reducible] def R_lex_Digits_L6 : I_lex_Digits_L6 → Type
  | .lex_Digits_L6 _ _ _ _ => Str
def F_lex_Digits_L6 (g : Fam R_lex_Digits_L6) : Fam R_lex_Digits_L6
  | .lex_Digits_L6 n i u b => lex_Digits_L6_B (fun n i u b => g (I_lex_Digits_L6.lex_Digits_L6 n i u b)) n i u b
theorem D_lex_Digits_L6 : ∀ i, Good (fun g => F_lex_Digits_L6 g i)
  | .lex_Digits_L6 n i u b => show Good (fun g : Fam R_lex_Digits_L6 => lex_Digits_L6_B (fun n i u b => g (I_lex_Digits_L6.lex_Digits_L6 n i u b)) n i u b) by unfold lex_Digits_L6_B; exact (.ite (.ite (.ite (.ite (.ite (.ite (.ite (.ite (.ite (.ite (.ite (.bind (.const _) fun _ => (.const _)) (.const _)) (.const _)) (.const _)) (.const _)) (.const _)) (.ite (.ite (.ite (.bind (.const _) fun _ => (.const _)) (.const _)) (.const _)) (.const _))) (.call _)) (.const _)) (.const _)) (.const _)) (.const _))
def lex_Digits_L6 (n : Int) (i : Int) (u : Int) (b : List Int) : Option (Str) := fixF F_lex_Digits_L6 (.lex_Digits_L6 n i u b)
theorem lex_Digits_L6_eq (n : Int) (i : Int) (u : Int) (b : List Int) : lex_Digits_L6 n i u b = lex_Digits_L6_B lex_Digits_L6 n i u b := fixF_eq D_lex_Digits_L6 (.lex_Digits_L6 n i u b)
def lex_Digits (n : Int) : Option (Str) :=
  if n < 0 then
    lex_Digits_L6 n 20 (IntKind.wrap .u64 (0 - (IntKind.wrap .u64 n))) [0, 0, 0, 0, 0, 0, 0, 0, 0, 0, 0, 0, 0, 0, 0, 0, 0, 0, 0, 0]
  else
  lex_Digits_L6 n 20 (IntKind.wrap .u64 n) [0, 0, 0, 0, 0, 0, 0, 0, 0, 0, 0, 0, 0, 0, 0, 0, 0, 0, 0, 0]
def lex_Spell (t : Token) : Option (Str) :=
  if t.K = 1 then
    some (t.S)
  else
  if t.K = 3 then
    some (t.S)
  else
  if t.K = 4 then
    some (t.S)
  else
  if t.K = 2 then
    lex_Digits t.N >>= fun q3 =>
    some (q3)
  else
  some (([] : List UInt8))
def law05LexBack_L6_B (law05LexBack_L6 : (List Token) → Str → Int → Option (Bool)) (x : List Token) (out : Str) (i : Int) : Option (Bool) :=
  if i < (List.length x : Int) then
    if i > 0 then
      if i < (IntKind.wrap .i64 ((List.length x : Int) - 1)) then
        if List.length out + List.length ([32] : List UInt8) ≤ 9223372036854775807 then
        idx x i >>= fun x1 =>
        lex_Spell x1 >>= fun q1 =>
        if List.length (out ++ ([32] : List UInt8)) + List.length q1 ≤ 9223372036854775807 then
        law05LexBack_L6 x ((out ++ ([32] : List UInt8)) ++ q1) (IntKind.wrap .i64 (i + 1))
        else none
        else none
      else
      idx x i >>= fun x2 =>
      lex_Spell x2 >>= fun q2 =>
      if List.length out + List.length q2 ≤ 9223372036854775807 then
      law05LexBack_L6 x (out ++ q2) (IntKind.wrap .i64 (i + 1))
      else none
    else
    idx x i >>= fun x3 =>
    lex_Spell x3 >>= fun q3 =>
    if List.length out + List.length q3 ≤ 9223372036854775807 then
    law05LexBack_L6 x (out ++ q3) (IntKind.wrap .i64 (i + 1))
    else none
  else
  if (List.length out : Int) > 8192 then
    law05awake >>= fun q4 =>
    some (q4)
  else
  lex_Tokens out >>= fun q5 =>
  if q5.2.2.1 = 0 then
    if (List.length x : Int) = (List.length q5.1 : Int) then
      law05LexBack_L17 x q5.1 0
    else
    some (false)
  else
  some (false)
inductive I_law05LexBack_L6 where
  | law05LexBack_L6 (x : List Token) (out : Str) (i : Int)
@[reducible] def R_law05LexBack_L6 : I_law05LexBack_L6 → Type
  | .law05LexBack_L6 _ _ _ => Bool
def F_law05LexBack_L6 (g : Fam R_law05LexBack_L6) : Fam R_law05LexBack_L6
  | .law05LexBack_L6 x out i => law05LexBack_L6_B (fun x out i => g (I_law05LexBack_L6.law05LexBack_L6 x out i)) x out i
theorem D_law05LexBack_L6 : ∀ i, Good (fun g => F_law05LexBack_L6 g i)
  | .law05LexBack_L6 x out i => show Good (fun g : Fam R_law05LexBack_L6 => law05LexBack_L6_B (fun x out i => g (I_law05LexBack_L6.law05LexBack_L6 x out i)) x out i) by unfold law05LexBack_L6_B; exact (.ite (.ite (.ite (.ite (.bind (.const _) fun _ => (.bind (.const _) fun _ => (.ite (.call _) (.const _)))) (.const _)) (.bind (.const _) fun _ => (.bind (.const _) fun _ => (.ite (.call _) (.const _))))) (.bind (.const _) fun _ => (.bind (.const _) fun _ => (.ite (.call _) (.const _))))) (.ite (.bind (.const _) fun _ => (.const _)) (.bind (.const _) fun _ => (.ite (.ite (.const _) (.const _)) (.const _)))))
def law05LexBack_L6 (x : List Token) (out : Str) (i : Int) : Option (Bool) := fixF F_law05LexBack_L6 (.law05LexBack_L6 x out i)
theorem law05LexBack_L6_eq (x : List Token) (out : Str) (i : Int) : law05LexBack_L6 x out i = law05LexBack_L6_B law05LexBack_L6 x out i := fixF_eq D_law05LexBack_L6 (.law05LexBack_L6 x out i)
def law05LexBack (text : Str) : Option (Bool) :=
  lex_Tokens text >>= fun q1 =>
  if q1.2.2.1 = 0 then
    law05LexBack_L6 q1.1 ([] : List UInt8) 0
  else
  law05awake >>= fun q2 =>
  some (q2)
def law05LexSpells_L6_B (law05LexSpells_L6 : Str → (List Token) → Int → Int → Option (Bool)) (text : Str) (x : List Token) (at_ : Int) (i : Int) : Option (Bool) :=
  if i < (List.length x : Int) then
    idx x i >>= fun x1 =>
    if x1.From < at_ then
      some (false)
    else
    idx x i >>= fun x2 =>
    idx x i >>= fun x3 =>
    if x2.To < x3.From then
      some (false)
    else
    idx x i >>= fun x4 =>
    if x4.To > (List.length text : Int) then
      some (false)
    else
    idx x i >>= fun x5 =>
    idx x i >>= fun x6 =>
    if (0 : Int) ≤ x6.To then
    if Int.toNat x6.To ≤ List.length text then
    if (0 : Int) ≤ x5.From then
    if Int.toNat x5.From ≤ Int.toNat x6.To then
    idx x i >>= fun x7 =>
    lex_Spell x7 >>= fun q1 =>
    if List.drop (Int.toNat x5.From) (List.take (Int.toNat x6.To) text) = q1 then
      idx x i >>= fun x8 =>
      law05LexSpells_L6 text x x8.To (IntKind.wrap .i64 (i + 1))
    else
    some (false)
    else none
    else none
    else none
    else none
  else
  if (List.length x : Int) > 0 then
    idx x (IntKind.wrap .i64 ((List.length x : Int) - 1)) >>= fun x9 =>
    if x9.K = 5 then
      law05awake >>= fun q2 =>
      some (q2)
    else
    some (false)
  else
  some (false)
inductive I_law05LexSpells_L6 where
  | law05LexSpells_L6 (text : Str) (x : List Token) (at_ : Int) (i : Int)
@[reducible] def R_law05LexSpells_L6 : I_law05LexSpells_L6 → Type
  | .law05LexSpells_L6 _ _ _ _ => Bool
def F_law05LexSpells_L6 (g : Fam R_law05LexSpells_L6) : Fam R_law05LexSpells_L6
  | .law05LexSpells_L6 text x at_ i => law05LexSpells_L6_B (fun text x at_ i => g (I_law05LexSpells_L6.law05LexSpells_L6 text x at_ i)) text x at_ i
theorem D_law05LexSpells_L6 : ∀ i, Good (fun g => F_law05LexSpells_L6 g i)
  | .law05LexSpells_L6 text x at_ i => show Good (fun g : Fam R_law05LexSpells_L6 => law05LexSpells_L6_B (fun text x at_ i => g (I_law05LexSpells_L6.law05LexSpells_L6 text x at_ i)) text x at_ i) by unfold law05LexSpells_L6_B; exact (.ite (.bind (.const _) fun _ => (.ite (.const _) (.bind (.const _) fun _ => (.bind (.const _) fun _ => (.ite (.const _) (.bind (.const _) fun _ => (.ite (.const _) (.bind (.const _) fun _ => (.bind (.const _) fun _ => (.ite (.ite (.ite (.ite (.bind (.const _) fun _ => (.bind (.const _) fun _ => (.ite (.bind (.const _) fun _ => (.call _)) (.const _)))) (.const _)) (.const _)) (.const _)) (.const _))))))))))) (.ite (.bind (.const _) fun _ => (.ite (.bind (.const _) fun _ => (.const _)) (.const _))) (.const _)))
def law05LexSpells_L6 (text : Str) (x : List Token) (at_ : Int) (i : Int) : Option (Bool) := fixF F_law05LexSpells_L6 (.law05LexSpells_L6 text x at_ i)
theorem law05LexSpells_L6_eq (text : Str) (x : List Token) (at_ : Int) (i : Int) : law05LexSpells_L6 text x at_ i = law05LexSpells_L6_B law05LexSpells_L6 text x at_ i := fixF_eq D_law05LexSpells_L6 (.law05LexSpells_L6 text x at_ i)
def law05LexSpells (text : Str) : Option (Bool) :=
  lex_Tokens text >>= fun q1 =>
  if q1.2.2.1 = 0 then
    law05LexSpells_L6 text q1.1 0 0
  else
  law05awake >>= fun q2 =>
  some (q2)
def lex_IsName (s : Str) : Option (Bool × H) :=
  if (List.length s : Int) = 0 then
    some (false, ([] : H))
  else
  if (List.length s : Int) > 16 then
    some (false, ([] : H))
  else
  lex_isWord s >>= fun q1 =>
  if q1 = true then
    some (false, ([] : H))
  else
  idx s 0 >>= fun c =>
  lex_reader_isLetter (Int.ofNat (UInt8.toNat c)) s 0 [] >>= fun q2 =>
  if q2.1 = true then
    lex_reader_run_reader_isMore q2.2.1 q2.2.2.1 q2.2.2.2 >>= fun q3 =>
    some (((List.length q3.1 : Int) == (List.length s : Int)), ([[.d (.str q3.2.1), .d (.int .i64 q3.2.2.1), .own 5 (List.map Token.toD q3.2.2.2)]] : H))
  else
  some (false, ([[.d (.str q2.2.1), .d (.int .i64 q2.2.2.1), .own 5 (List.map Token.toD q2.2.2.2)]] : H))
def ref05Digits_B (ref05Digits : Int → Option (Str)) (n : Int) : Option (Str) :=
  if n < 0 then
    if n > (-10) then
      bytesOf [IntKind.wrap .u8 (IntKind.wrap .i64 (48 - n))] >>= fun s =>
      if List.length ([45] : List UInt8) + List.length s ≤ 9223372036854775807 then
      some (([45] : List UInt8) ++ s)
      else none
    else
    if 10 ≠ (0 : Int) then
    ref05Digits (IntKind.wrap .i64 (Int.tdiv n 10)) >>= fun q1 =>
    if 10 ≠ (0 : Int) then
    bytesOf [IntKind.wrap .u8 (IntKind.wrap .i64 (48 - (Int.tmod n 10)))] >>= fun s1 =>
    if List.length q1 + List.length s1 ≤ 9223372036854775807 then
    some (q1 ++ s1)
    else none
    else none
    else none
  else
  if n < 10 then
    bytesOf [IntKind.wrap .u8 (IntKind.wrap .i64 (48 + n))] >>= fun s2 =>
    some (s2)
  else
  if 10 ≠ (0 : Int) then
  ref05Digits (IntKind.wrap .i64 (Int.tdiv n 10)) >>= fun q2 =>
  if 10 ≠ (0 : Int) then
  bytesOf [IntKind.wrap .u8 (IntKind.wrap .i64 (48 + (Int.tmod n 10)))] >>= fun s3 =>
  if List.length q2 + List.length s3 ≤ 9223372036854775807 then
  some (q2 ++ s3)
  else none
  else none
  else none
inductive I_ref05Digits where
  | ref05Digits (n : Int)
@[reducible] def R_ref05Digits : I_ref05Digits → Type
  | .ref05Digits _ => Str
def F_ref05Digits (g : Fam R_ref05Digits) : Fam R_ref05Digits
  | .ref05Digits n => ref05Digits_B (fun n => g (I_ref05Digits.ref05Digits n)) n
theorem D_ref05Digits : ∀ i, Good (fun g => F_ref05Digits g i)
  | .ref05Digits n => show Good (fun g : Fam R_ref05Digits => ref05Digits_B (fun n => g (I_ref05Digits.ref05Digits n)) n) by unfold ref05Digits_B; exact (.ite (.ite (.bind (.const _) fun _ => (.ite (.const _) (.const _))) (.ite (.bind (.call _) fun _ => (.ite (.bind (.const _) fun _ => (.ite (.const _) (.const _))) (.const _))) (.const _))) (.ite (.bind (.const _) fun _ => (.const _)) (.ite (.bind (.call _) fun _ => (.ite (.bind (.const _) fun _ => (.ite (.const _) (.const _))) (.const _))) (.const _))))
def ref05Digits (n : Int) : Option (Str) := fixF F_ref05Digits (.ref05Digits n)
theorem ref05Digits_eq (n : Int) : ref05Digits n = ref05Digits_B ref05Digits n := fixF_eq D_ref05Digits (.ref05Digits n)
def ref05IsName_L4_B (ref05IsName_L4 : Str → Int → Option (Bool)) (s : Str) (i : Int) : Option (Bool) :=
  if i < (List.length s : Int) then
    idx s i >>= fun c =>
    ref05Letter (Int.ofNat (UInt8.toNat c)) >>= fun q1 =>
    if q1 = true then
      ref05IsName_L4 s (IntKind.wrap .i64 (i + 1))
    else
    idx s i >>= fun c1 =>
    ref05Digit (Int.ofNat (UInt8.toNat c1)) >>= fun q2 =>
    if q2 = true then
      ref05IsName_L4 s (IntKind.wrap .i64 (i + 1))
    else
    some (false)
  else
  some (true)
inductive I_ref05IsName_L4 where
  | ref05IsName_L4 (s : Str) (i : Int)
@[reducible] def R_ref05IsName_L4 : I_ref05IsName_L4 → Type
  | .ref05IsName_L4 _ _ => Bool
def F_ref05IsName_L4 (g : Fam R_ref05IsName_L4) : Fam R_ref05IsName_L4
  | .ref05IsName_L4 s i => ref05IsName_L4_B (fun s i => g (I_ref05IsName_L4.ref05IsName_L4 s i)) s i
theorem D_ref05IsName_L4 : ∀ i, Good (fun g => F_ref05IsName_L4 g i)
  | .ref05IsName_L4 s i => show Good (fun g : Fam R_ref05IsName_L4 => ref05IsName_L4_B (fun s i => g (I_ref05IsName_L4.ref05IsName_L4 s i)) s i) by unfold ref05IsName_L4_B; exact (.ite (.bind (.const _) fun _ => (.bind (.const _) fun _ => (.ite (.call _) (.bind (.const _) fun _ => (.bind (.const _) fun _ => (.ite (.call _) (.const _))))))) (.const _))
def ref05IsName_L4 (s : Str) (i : Int) : Option (Bool) := fixF F_ref05IsName_L4 (.ref05IsName_L4 s i)
theorem ref05IsName_L4_eq (s : Str) (i : Int) : ref05IsName_L4 s i = ref05IsName_L4_B ref05IsName_L4 s i := fixF_eq D_ref05IsName_L4 (.ref05IsName_L4 s i)
def ref05IsName (s : Str) : Option (Bool) :=
  if (List.length s : Int) = 0 then
    some (false)
  else
  if (List.length s : Int) > 16 then
    some (false)
  else
  idx s 0 >>= fun c =>
  ref05Letter (Int.ofNat (UInt8.toNat c)) >>= fun q1 =>
  if q1 = true then
    ref05Words >>= fun q2 =>
    ref05Among s q2 >>= fun q3 =>
    if q3 = true then
      some (false)
    else
    ref05IsName_L4 s 0
  else
  some (false)
def law05LexNames (s : Str) (n : Int) : Option (Bool) :=
  lex_IsName s >>= fun q1 =>
  ref05IsName s >>= fun q2 =>
  if q1.1 = q2 then
    lex_Digits n >>= fun q3 =>
    ref05Digits n >>= fun q4 =>
    if q3 = q4 then
      if n < 0 then
        law05awake >>= fun q5 =>
        some (q5)
      else
      lex_Digits n >>= fun q6 =>
      lex_Tokens q6 >>= fun q7 =>
      if q7.2.2.1 = 0 then
        if (List.length q7.1 : Int) = 2 then
          idx q7.1 0 >>= fun x =>
          if x.K = 2 then
            idx q7.1 0 >>= fun x1 =>
            some ((x1.N == n))
          else
          some (false)
        else
        some (false)
      else
      some (false)
    else
    some (false)
  else
  some (false)
end
end Go.Proofs.Ytdpecjiflalkmaa.M
