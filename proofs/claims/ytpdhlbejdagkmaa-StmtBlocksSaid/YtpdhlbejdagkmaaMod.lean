/- For each function a plain one: what it comes to; none: a panic, or no end. -/
import Derived.Test.YtpdhlbejdagkmaaTy
namespace Go.Proofs.Ytpdhlbejdagkmaa.M
open Go Nt
set_option linter.unusedVariables false
noncomputable section
def stmt_reader_now (t : List Token) (at_ : Int) (e : Int) : Option (Token) :=
  if at_ < (List.length t : Int) then
    idx t at_ >>= fun x =>
    some (x)
  else
  some ((Token.mk 5 0 ([] : List UInt8) 0 0))
def stmt_reader_is (k : Int) (s : Str) (t : List Token) (at_ : Int) (e : Int) : Option (Bool) :=
  stmt_reader_now t at_ e >>= fun q1 =>
  if q1.K = k then
    some ((q1.S == s))
  else
  some (false)
def stmt_reader_made (k : Int) (s : Str) (from_ : Int) (parts : List Term) (t : List Token) (at_ : Int) (e : Int) : Option (Term) :=
  if e = 0 then
    idx t from_ >>= fun x =>
    idx t (IntKind.wrap .i64 (at_ - 1)) >>= fun x1 =>
    some ((Term.mk k 0 s parts x.From x1.To))
  else
  some ((Term.mk 0 0 ([] : List UInt8) [] 0 0))
def stmt_reader_need (k : Int) (s : Str) (t : List Token) (at_ : Int) (e : Int) : Option (List Token × Int × Int) :=
  if e = 0 then
    stmt_reader_is k s t at_ e >>= fun q1 =>
    if q1 = true then
      some (t, IntKind.wrap .i64 (at_ + 1), e)
    else
    some (t, at_, 6)
  else
  some (t, at_, e)
def stmt_kind (t : Token) : Option (Nat) :=
  if t.K = 4 then
    if t.S = ([123] : List UInt8) then
      some (15)
    else
    some (42)
  else
  if t.K = 3 then
    if t.S = ([108, 101, 116] : List UInt8) then
      some (43)
    else
    if t.S = ([105, 102] : List UInt8) then
      some (44)
    else
    if t.S = ([119, 104, 105, 108, 101] : List UInt8) then
      some (45)
    else
    if t.S = ([102, 111, 114] : List UInt8) then
      some (46)
    else
    if t.S = ([112, 114, 105, 110, 116] : List UInt8) then
      some (47)
    else
    if t.S = ([114, 101, 116, 117, 114, 110] : List UInt8) then
      some (48)
    else
    if t.S = ([100, 111] : List UInt8) then
      some (49)
    else
    some (42)
  else
  some (42)
def expr_operator (t : Token) : Option (Int × Int) :=
  if t.K = 4 then
    if t.S = ([124, 124] : List UInt8) then
      some (1, 1)
    else
    if t.S = ([38, 38] : List UInt8) then
      some (2, 2)
    else
    if t.S = ([61, 61] : List UInt8) then
      some (3, 3)
    else
    if t.S = ([33, 61] : List UInt8) then
      some (4, 3)
    else
    if t.S = ([60] : List UInt8) then
      some (5, 3)
    else
    if t.S = ([60, 61] : List UInt8) then
      some (6, 3)
    else
    if t.S = ([62] : List UInt8) then
      some (7, 3)
    else
    if t.S = ([62, 61] : List UInt8) then
      some (8, 3)
    else
    if t.S = ([43] : List UInt8) then
      some (9, 4)
    else
    if t.S = ([45] : List UInt8) then
      some (10, 4)
    else
    if t.S = ([42] : List UInt8) then
      some (11, 5)
    else
    if t.S = ([47] : List UInt8) then
      some (12, 5)
    else
    if t.S = ([37] : List UInt8) then
      some (13, 5)
    else
    some (0, 0)
  else
  some (0, 0)
def expr_parser_made (t : Term) (from_ : Int) (t1 : List Token) (at_ : Int) (e : Int) : Option (Term) :=
  if e = 0 then
    idx t1 from_ >>= fun x =>
    idx t1 (IntKind.wrap .i64 (at_ - 1)) >>= fun x1 =>
    some ({ t with From := x.From, To := x1.To })
  else
  some (t)
def expr_parser_now (t : List Token) (at_ : Int) (e : Int) : Option (Token) :=
  if at_ < (List.length t : Int) then
    idx t at_ >>= fun x =>
    some (x)
  else
  some ((Token.mk 5 0 ([] : List UInt8) 0 0))
def expr_parser_sign (s : Str) (t : List Token) (at_ : Int) (e : Int) : Option (Bool) :=
  expr_parser_now t at_ e >>= fun q1 =>
  if q1.K = 4 then
    some ((q1.S == s))
  else
  some (false)
def expr_parser_fail (t : List Token) (at_ : Int) (e : Int) : Option (List Token × Int × Int) :=
  if e = 0 then
    some (t, at_, 6)
  else
  some (t, at_, e)
def expr_parser_need (s : Str) (t : List Token) (at_ : Int) (e : Int) : Option (List Token × Int × Int) :=
  if e = 0 then
    expr_parser_sign s t at_ e >>= fun q1 =>
    if q1 = true then
      some (t, IntKind.wrap .i64 (at_ + 1), e)
    else
    expr_parser_fail t at_ e >>= fun q2 =>
    some (q2.1, q2.2.1, q2.2.2)
  else
  some (t, at_, e)
def expr_parser_name (t : List Token) (at_ : Int) (e : Int) : Option (Str × List Token × Int × Int) :=
  if e = 0 then
    expr_parser_now t at_ e >>= fun q1 =>
    if q1.K = 1 then
      some (q1.S, t, IntKind.wrap .i64 (at_ + 1), e)
    else
    expr_parser_fail t at_ e >>= fun q2 =>
    some (([] : List UInt8), q2.1, q2.2.1, q2.2.2)
  else
  some (([] : List UInt8), t, at_, e)
def expr_parser_expr_B (expr_parser_level : Int → (List Token) → Int → Int → Option (Term × List Token × Int × Int)) (t : List Token) (at_ : Int) (e : Int) : Option (Term × List Token × Int × Int) :=
  expr_parser_level 1 t at_ e >>= fun q1 =>
  some (q1.1, q1.2.1, q1.2.2.1, q1.2.2.2)
def expr_parser_level_B (expr_parser_level_L4 : Int → Int → Int → Term → Term → (List Token) → Int → Int → Option (Term × List Token × Int × Int)) (expr_parser_un : (List Token) → Int → Int → Option (Term × List Token × Int × Int)) (least : Int) (t : List Token) (at_ : Int) (e : Int) : Option (Term × List Token × Int × Int) :=
  expr_parser_un t at_ e >>= fun q1 =>
  expr_parser_level_L4 least at_ 6 (Term.mk 0 0 ([] : List UInt8) [] 0 0) q1.1 q1.2.1 q1.2.2.1 q1.2.2.2
def expr_parser_level_L4_B (expr_parser_level : Int → (List Token) → Int → Int → Option (Term × List Token × Int × Int)) (expr_parser_level_L4 : Int → Int → Int → Term → Term → (List Token) → Int → Int → Option (Term × List Token × Int × Int)) (least : Int) (from_ : Int) (most : Int) (o4 : Term) (left : Term) (t : List Token) (at_ : Int) (e : Int) : Option (Term × List Token × Int × Int) :=
  if e = 0 then
    expr_parser_now t at_ e >>= fun q1 =>
    expr_operator q1 >>= fun q2 =>
    if q2.2 < least then
      some (left, t, at_, e)
    else
    if q2.2 = 0 then
      some (left, t, at_, e)
    else
    if q2.2 > most then
      some (left, t, at_, e)
    else
    expr_parser_level (IntKind.wrap .i64 (q2.2 + 1)) t (IntKind.wrap .i64 (at_ + 1)) e >>= fun q3 =>
    expr_parser_made (Term.mk 10 q2.1 ([] : List UInt8) [left, q3.1] 0 0) from_ q3.2.1 q3.2.2.1 q3.2.2.2 >>= fun q4 =>
    if q2.2 = 3 then
      expr_parser_level_L4 least from_ 2 o4 q4 q3.2.1 q3.2.2.1 q3.2.2.2
    else
    expr_parser_level_L4 least from_ q2.2 o4 q4 q3.2.1 q3.2.2.1 q3.2.2.2
  else
  some (left, t, at_, e)
def expr_parser_un_B (expr_parser_un : (List Token) → Int → Int → Option (Term × List Token × Int × Int)) (expr_parser_post : (List Token) → Int → Int → Option (Term × List Token × Int × Int)) (t : List Token) (at_ : Int) (e : Int) : Option (Term × List Token × Int × Int) :=
  if e = 0 then
    expr_parser_sign ([45] : List UInt8) t at_ e >>= fun q1 =>
    if q1 = true then
      if (1 : Int) = 0 then
        expr_parser_post t at_ e >>= fun q2 =>
        some (q2.1, q2.2.1, q2.2.2.1, q2.2.2.2)
      else
      expr_parser_un t (IntKind.wrap .i64 (at_ + 1)) e >>= fun q3 =>
      expr_parser_made (Term.mk 11 1 ([] : List UInt8) [q3.1] 0 0) at_ q3.2.1 q3.2.2.1 q3.2.2.2 >>= fun q4 =>
      some (q4, q3.2.1, q3.2.2.1, q3.2.2.2)
    else
    expr_parser_sign ([33] : List UInt8) t at_ e >>= fun q5 =>
    if q5 = true then
      if (2 : Int) = 0 then
        expr_parser_post t at_ e >>= fun q6 =>
        some (q6.1, q6.2.1, q6.2.2.1, q6.2.2.2)
      else
      expr_parser_un t (IntKind.wrap .i64 (at_ + 1)) e >>= fun q7 =>
      expr_parser_made (Term.mk 11 2 ([] : List UInt8) [q7.1] 0 0) at_ q7.2.1 q7.2.2.1 q7.2.2.2 >>= fun q8 =>
      some (q8, q7.2.1, q7.2.2.1, q7.2.2.2)
    else
    if (0 : Int) = 0 then
      expr_parser_post t at_ e >>= fun q9 =>
      some (q9.1, q9.2.1, q9.2.2.1, q9.2.2.2)
    else
    expr_parser_un t (IntKind.wrap .i64 (at_ + 1)) e >>= fun q10 =>
    expr_parser_made (Term.mk 11 0 ([] : List UInt8) [q10.1] 0 0) at_ q10.2.1 q10.2.2.1 q10.2.2.2 >>= fun q11 =>
    some (q11, q10.2.1, q10.2.2.1, q10.2.2.2)
  else
  some ((Term.mk 0 0 ([] : List UInt8) [] 0 0), t, at_, e)
def expr_parser_post_B (expr_parser_post_L3 : Int → Term → Term → (List Token) → Int → Int → Option (Term × List Token × Int × Int)) (expr_parser_atom : (List Token) → Int → Int → Option (Term × List Token × Int × Int)) (t : List Token) (at_ : Int) (e : Int) : Option (Term × List Token × Int × Int) :=
  expr_parser_atom t at_ e >>= fun q1 =>
  expr_parser_post_L3 at_ (Term.mk 0 0 ([] : List UInt8) [] 0 0) q1.1 q1.2.1 q1.2.2.1 q1.2.2.2
def expr_parser_post_L3_B (expr_parser_expr : (List Token) → Int → Int → Option (Term × List Token × Int × Int)) (expr_parser_post_L3 : Int → Term → Term → (List Token) → Int → Int → Option (Term × List Token × Int × Int)) (from_ : Int) (o2 : Term) (x : Term) (t : List Token) (at_ : Int) (e : Int) : Option (Term × List Token × Int × Int) :=
  if e = 0 then
    expr_parser_sign ([91] : List UInt8) t at_ e >>= fun q1 =>
    if q1 = true then
      expr_parser_expr t (IntKind.wrap .i64 (at_ + 1)) e >>= fun q2 =>
      expr_parser_need ([93] : List UInt8) q2.2.1 q2.2.2.1 q2.2.2.2 >>= fun q3 =>
      expr_parser_made (Term.mk 12 0 ([] : List UInt8) [x, q2.1] 0 0) from_ q3.1 q3.2.1 q3.2.2 >>= fun q4 =>
      expr_parser_post_L3 from_ o2 q4 q3.1 q3.2.1 q3.2.2
    else
    expr_parser_sign ([46] : List UInt8) t at_ e >>= fun q5 =>
    if q5 = true then
      expr_parser_name t (IntKind.wrap .i64 (at_ + 1)) e >>= fun q6 =>
      expr_parser_made (Term.mk 13 0 q6.1 [x] 0 0) from_ q6.2.1 q6.2.2.1 q6.2.2.2 >>= fun q7 =>
      expr_parser_post_L3 from_ o2 q7 q6.2.1 q6.2.2.1 q6.2.2.2
    else
    some (x, t, at_, e)
  else
  some (x, t, at_, e)
def expr_parser_atom_B (expr_parser_args : Bool → (List Token) → Int → Int → Option (List Term × List Token × Int × Int)) (expr_parser_word : Str → Int → (List Token) → Int → Int → Option (Term × List Token × Int × Int)) (expr_parser_bracket : Str → Int → (List Token) → Int → Int → Option (Term × List Token × Int × Int)) (t : List Token) (at_ : Int) (e : Int) : Option (Term × List Token × Int × Int) :=
  if e = 0 then
    expr_parser_now t at_ e >>= fun q1 =>
    if q1.K = 2 then
      expr_parser_made (Term.mk 5 q1.N ([] : List UInt8) [] 0 0) at_ t (IntKind.wrap .i64 (at_ + 1)) e >>= fun q2 =>
      some (q2, t, IntKind.wrap .i64 (at_ + 1), e)
    else
    if q1.K = 1 then
      expr_parser_sign ([40] : List UInt8) t (IntKind.wrap .i64 (at_ + 1)) e >>= fun q3 =>
      if q3 = true then
        expr_parser_args true t (IntKind.wrap .i64 (at_ + 1)) e >>= fun q4 =>
        expr_parser_made (Term.mk 16 0 q1.S q4.1 0 0) at_ q4.2.1 q4.2.2.1 q4.2.2.2 >>= fun q5 =>
        some (q5, q4.2.1, q4.2.2.1, q4.2.2.2)
      else
      expr_parser_made (Term.mk 19 0 q1.S [] 0 0) at_ t (IntKind.wrap .i64 (at_ + 1)) e >>= fun q6 =>
      some (q6, t, IntKind.wrap .i64 (at_ + 1), e)
    else
    if q1.K = 3 then
      expr_parser_word q1.S at_ t at_ e >>= fun q7 =>
      some (q7.1, q7.2.1, q7.2.2.1, q7.2.2.2)
    else
    if q1.K = 4 then
      expr_parser_bracket q1.S at_ t at_ e >>= fun q8 =>
      some (q8.1, q8.2.1, q8.2.2.1, q8.2.2.2)
    else
    expr_parser_fail t at_ e >>= fun q9 =>
    some ((Term.mk 0 0 ([] : List UInt8) [] 0 0), q9.1, q9.2.1, q9.2.2)
  else
  some ((Term.mk 0 0 ([] : List UInt8) [] 0 0), t, at_, e)
def expr_parser_args_B (expr_parser_list_parser_expr : (List Token) → Int → Int → Option (List Term × List Token × Int × Int)) (few : Bool) (t : List Token) (at_ : Int) (e : Int) : Option (List Term × List Token × Int × Int) :=
  expr_parser_need ([40] : List UInt8) t at_ e >>= fun q1 =>
  if q1.2.2 = 0 then
    if few = true then
      expr_parser_sign ([41] : List UInt8) q1.1 q1.2.1 q1.2.2 >>= fun q2 =>
      if q2 = true then
        some (([] : List Term), q1.1, IntKind.wrap .i64 (q1.2.1 + 1), q1.2.2)
      else
      expr_parser_list_parser_expr q1.1 q1.2.1 q1.2.2 >>= fun q3 =>
      expr_parser_need ([41] : List UInt8) q3.2.1 q3.2.2.1 q3.2.2.2 >>= fun q4 =>
      some (q3.1, q4.1, q4.2.1, q4.2.2)
    else
    expr_parser_list_parser_expr q1.1 q1.2.1 q1.2.2 >>= fun q5 =>
    expr_parser_need ([41] : List UInt8) q5.2.1 q5.2.2.1 q5.2.2.2 >>= fun q6 =>
    some (q5.1, q6.1, q6.2.1, q6.2.2)
  else
  expr_parser_list_parser_expr q1.1 q1.2.1 q1.2.2 >>= fun q7 =>
  expr_parser_need ([41] : List UInt8) q7.2.1 q7.2.2.1 q7.2.2.2 >>= fun q8 =>
  some (q7.1, q8.1, q8.2.1, q8.2.2)
def expr_parser_word_B (expr_parser_args : Bool → (List Token) → Int → Int → Option (List Term × List Token × Int × Int)) (s : Str) (from_ : Int) (t : List Token) (at_ : Int) (e : Int) : Option (Term × List Token × Int × Int) :=
  if s = ([116, 114, 117, 101] : List UInt8) then
    expr_parser_made (Term.mk 6 1 ([] : List UInt8) [] 0 0) from_ t (IntKind.wrap .i64 (at_ + 1)) e >>= fun q1 =>
    some (q1, t, IntKind.wrap .i64 (at_ + 1), e)
  else
  if s = ([102, 97, 108, 115, 101] : List UInt8) then
    expr_parser_made (Term.mk 6 0 ([] : List UInt8) [] 0 0) from_ t (IntKind.wrap .i64 (at_ + 1)) e >>= fun q2 =>
    some (q2, t, IntKind.wrap .i64 (at_ + 1), e)
  else
  if s = ([114, 101, 97, 100] : List UInt8) then
    expr_parser_made (Term.mk 18 0 ([] : List UInt8) [] 0 0) from_ t (IntKind.wrap .i64 (at_ + 1)) e >>= fun q3 =>
    some (q3, t, IntKind.wrap .i64 (at_ + 1), e)
  else
  if s = ([110, 101, 119] : List UInt8) then
    expr_parser_name t (IntKind.wrap .i64 (at_ + 1)) e >>= fun q4 =>
    expr_parser_args false q4.2.1 q4.2.2.1 q4.2.2.2 >>= fun q5 =>
    expr_parser_made (Term.mk 15 0 q4.1 q5.1 0 0) from_ q5.2.1 q5.2.2.1 q5.2.2.2 >>= fun q6 =>
    some (q6, q5.2.1, q5.2.2.1, q5.2.2.2)
  else
  expr_parser_fail t (IntKind.wrap .i64 ((IntKind.wrap .i64 (at_ + 1)) - 1)) e >>= fun q7 =>
  some ((Term.mk 0 0 ([] : List UInt8) [] 0 0), q7.1, q7.2.1, q7.2.2)
def expr_parser_bracket_B (expr_parser_expr : (List Token) → Int → Int → Option (Term × List Token × Int × Int)) (expr_parser_args : Bool → (List Token) → Int → Int → Option (List Term × List Token × Int × Int)) (expr_parser_list_parser_expr : (List Token) → Int → Int → Option (List Term × List Token × Int × Int)) (s : Str) (from_ : Int) (t : List Token) (at_ : Int) (e : Int) : Option (Term × List Token × Int × Int) :=
  if s = ([40] : List UInt8) then
    expr_parser_expr t (IntKind.wrap .i64 (at_ + 1)) e >>= fun q1 =>
    expr_parser_need ([41] : List UInt8) q1.2.1 q1.2.2.1 q1.2.2.2 >>= fun q2 =>
    some (q1.1, q2.1, q2.2.1, q2.2.2)
  else
  if s = ([91] : List UInt8) then
    expr_parser_list_parser_expr t (IntKind.wrap .i64 (at_ + 1)) e >>= fun q3 =>
    expr_parser_need ([93] : List UInt8) q3.2.1 q3.2.2.1 q3.2.2.2 >>= fun q4 =>
    expr_parser_made (Term.mk 14 0 ([] : List UInt8) q3.1 0 0) from_ q4.1 q4.2.1 q4.2.2 >>= fun q5 =>
    some (q5, q4.1, q4.2.1, q4.2.2)
  else
  if s = ([64] : List UInt8) then
    expr_parser_name t (IntKind.wrap .i64 (at_ + 1)) e >>= fun q6 =>
    expr_parser_args true q6.2.1 q6.2.2.1 q6.2.2.2 >>= fun q7 =>
    expr_parser_made (Term.mk 17 0 q6.1 q7.1 0 0) from_ q7.2.1 q7.2.2.1 q7.2.2.2 >>= fun q8 =>
    some (q8, q7.2.1, q7.2.2.1, q7.2.2.2)
  else
  expr_parser_fail t (IntKind.wrap .i64 ((IntKind.wrap .i64 (at_ + 1)) - 1)) e >>= fun q9 =>
  some ((Term.mk 0 0 ([] : List UInt8) [] 0 0), q9.1, q9.2.1, q9.2.2)
def expr_parser_list_parser_expr_B (expr_parser_expr : (List Token) → Int → Int → Option (Term × List Token × Int × Int)) (expr_parser_list_parser_expr_L2 : (List Term) → (List Token) → Int → Int → Option (List Term × List Token × Int × Int)) (t : List Token) (at_ : Int) (e : Int) : Option (List Term × List Token × Int × Int) :=
  expr_parser_expr t at_ e >>= fun q1 =>
  expr_parser_list_parser_expr_L2 [q1.1] q1.2.1 q1.2.2.1 q1.2.2.2
def expr_parser_list_parser_expr_L2_B (expr_parser_expr : (List Token) → Int → Int → Option (Term × List Token × Int × Int)) (expr_parser_list_parser_expr_L2 : (List Term) → (List Token) → Int → Int → Option (List Term × List Token × Int × Int)) (out : List Term) (t : List Token) (at_ : Int) (e : Int) : Option (List Term × List Token × Int × Int) :=
  if e = 0 then
    expr_parser_sign ([44] : List UInt8) t at_ e >>= fun q1 =>
    if q1 = true then
      expr_parser_expr t (IntKind.wrap .i64 (at_ + 1)) e >>= fun q2 =>
      if roomy 72 (List.length out + List.length [q2.1]) then
      expr_parser_list_parser_expr_L2 (out ++ [q2.1]) q2.2.1 q2.2.2.1 q2.2.2.2
      else none
    else
    some (out, t, at_, e)
  else
  some (out, t, at_, e)
inductive I_expr_parser_expr where
  | expr_parser_expr (t : List Token) (at_ : Int) (e : Int)
  | expr_parser_level (least : Int) (t : List Token) (at_ : Int) (e : Int)
  | expr_parser_level_L4 (least : Int) (from_ : Int) (most : Int) (o4 : Term) (left : Term) (t : List Token) (at_ : Int) (e : Int)
  | expr_parser_un (t : List Token) (at_ : Int) (e : Int)
  | expr_parser_post (t : List Token) (at_ : Int) (e : Int)
  | expr_parser_post_L3 (from_ : Int) (o2 : Term) (x : Term) (t : List Token) (at_ : Int) (e : Int)
  | expr_parser_atom (t : List Token) (at_ : Int) (e : Int)
  | expr_parser_args (few : Bool) (t : List Token) (at_ : Int) (e : Int)
  | expr_parser_word (s : Str) (from_ : Int) (t : List Token) (at_ : Int) (e : Int)
  | expr_parser_bracket (s : Str) (from_ : Int) (t : List Token) (at_ : Int) (e : Int)
  | expr_parser_list_parser_expr (t : List Token) (at_ : Int) (e : Int)
  | expr_parser_list_parser_expr_L2 (out : List Term) (t : List Token) (at_ : Int) (e : Int)
@[reducible] def R_expr_parser_expr : I_expr_parser_expr → Type
  | .expr_parser_expr _ _ _ => Term × List Token × Int × Int
  | .expr_parser_level _ _ _ _ => Term × List Token × Int × Int
  | .expr_parser_level_L4 _ _ _ _ _ _ _ _ => Term × List Token × Int × Int
  | .expr_parser_un _ _ _ => Term × List Token × Int × Int
  | .expr_parser_post _ _ _ => Term × List Token × Int × Int
  | .expr_parser_post_L3 _ _ _ _ _ _ => Term × List Token × Int × Int
  | .expr_parser_atom _ _ _ => Term × List Token × Int × Int
  | .expr_parser_args _ _ _ _ => List Term × List Token × Int × Int
  | .expr_parser_word _ _ _ _ _ => Term × List Token × Int × Int
  | .expr_parser_bracket _ _ _ _ _ => Term × List Token × Int × Int
  | .expr_parser_list_parser_expr _ _ _ => List Term × List Token × Int × Int
  | .expr_parser_list_parser_expr_L2 _ _ _ _ => List Term × List Token × Int × Int
def F_expr_parser_expr (g : Fam R_expr_parser_expr) : Fam R_expr_parser_expr
  | .expr_parser_expr t at_ e => expr_parser_expr_B (fun least t at_ e => g (I_expr_parser_expr.expr_parser_level least t at_ e)) t at_ e
  | .expr_parser_level least t at_ e => expr_parser_level_B (fun least from_ most o4 left t at_ e => g (I_expr_parser_expr.expr_parser_level_L4 least from_ most o4 left t at_ e)) (fun t at_ e => g (I_expr_parser_expr.expr_parser_un t at_ e)) least t at_ e
  | .expr_parser_level_L4 least from_ most o4 left t at_ e => expr_parser_level_L4_B (fun least t at_ e => g (I_expr_parser_expr.expr_parser_level least t at_ e)) (fun least from_ most o4 left t at_ e => g (I_expr_parser_expr.expr_parser_level_L4 least from_ most o4 left t at_ e)) least from_ most o4 left t at_ e
  | .expr_parser_un t at_ e => expr_parser_un_B (fun t at_ e => g (I_expr_parser_expr.expr_parser_un t at_ e)) (fun t at_ e => g (I_expr_parser_expr.expr_parser_post t at_ e)) t at_ e
  | .expr_parser_post t at_ e => expr_parser_post_B (fun from_ o2 x t at_ e => g (I_expr_parser_expr.expr_parser_post_L3 from_ o2 x t at_ e)) (fun t at_ e => g (I_expr_parser_expr.expr_parser_atom t at_ e)) t at_ e
  | .expr_parser_post_L3 from_ o2 x t at_ e => expr_parser_post_L3_B (fun t at_ e => g (I_expr_parser_expr.expr_parser_expr t at_ e)) (fun from_ o2 x t at_ e => g (I_expr_parser_expr.expr_parser_post_L3 from_ o2 x t at_ e)) from_ o2 x t at_ e
  | .expr_parser_atom t at_ e => expr_parser_atom_B (fun few t at_ e => g (I_expr_parser_expr.expr_parser_args few t at_ e)) (fun s from_ t at_ e => g (I_expr_parser_expr.expr_parser_word s from_ t at_ e)) (fun s from_ t at_ e => g (I_expr_parser_expr.expr_parser_bracket s from_ t at_ e)) t at_ e
  | .expr_parser_args few t at_ e => expr_parser_args_B (fun t at_ e => g (I_expr_parser_expr.expr_parser_list_parser_expr t at_ e)) few t at_ e
  | .expr_parser_word s from_ t at_ e => expr_parser_word_B (fun few t at_ e => g (I_expr_parser_expr.expr_parser_args few t at_ e)) s from_ t at_ e
  | .expr_parser_bracket s from_ t at_ e => expr_parser_bracket_B (fun t at_ e => g (I_expr_parser_expr.expr_parser_expr t at_ e)) (fun few t at_ e => g (I_expr_parser_expr.expr_parser_args few t at_ e)) (fun t at_ e => g (I_expr_parser_expr.expr_parser_list_parser_expr t at_ e)) s from_ t at_ e
  | .expr_parser_list_parser_expr t at_ e => expr_parser_list_parser_expr_B (fun t at_ e => g (I_expr_parser_expr.expr_parser_expr t at_ e)) (fun out t at_ e => g (I_expr_parser_expr.expr_parser_list_parser_expr_L2 out t at_ e)) t at_ e
  | .expr_parser_list_parser_expr_L2 out t at_ e => expr_parser_list_parser_expr_L2_B (fun t at_ e => g (I_expr_parser_expr.expr_parser_expr t at_ e)) (fun out t at_ e => g (I_expr_parser_expr.expr_parser_list_parser_expr_L2 out t at_ e)) out t at_ e
theorem D_expr_parser_expr : ∀ i, Good (fun g => F_expr_parser_expr g i)
  | .expr_parser_expr t at_ e => show Good (fun g : Fam R_expr_parser_expr => expr_parser_expr_B (fun least t at_ e => g (I_expr_parser_expr.expr_parser_level least t at_ e)) t at_ e) by unfold expr_parser_expr_B; exact (.bind (.call _) fun _ => (.const _))
  | .expr_parser_level least t at_ e => show Good (fun g : Fam R_expr_parser_expr => expr_parser_level_B (fun least from_ most o4 left t at_ e => g (I_expr_parser_expr.expr_parser_level_L4 least from_ most o4 left t at_ e)) (fun t at_ e => g (I_expr_parser_expr.expr_parser_un t at_ e)) least t at_ e) by unfold expr_parser_level_B; exact (.bind (.call _) fun _ => (.call _))
  | .expr_parser_level_L4 least from_ most o4 left t at_ e => show Good (fun g : Fam R_expr_parser_expr => expr_parser_level_L4_B (fun least t at_ e => g (I_expr_parser_expr.expr_parser_level least t at_ e)) (fun least from_ most o4 left t at_ e => g (I_expr_parser_expr.expr_parser_level_L4 least from_ most o4 left t at_ e)) least from_ most o4 left t at_ e) by unfold expr_parser_level_L4_B; exact (.ite (.bind (.const _) fun _ => (.bind (.const _) fun _ => (.ite (.const _) (.ite (.const _) (.ite (.const _) (.bind (.call _) fun _ => (.bind (.const _) fun _ => (.ite (.call _) (.call _))))))))) (.const _))
  | .expr_parser_un t at_ e => show Good (fun g : Fam R_expr_parser_expr => expr_parser_un_B (fun t at_ e => g (I_expr_parser_expr.expr_parser_un t at_ e)) (fun t at_ e => g (I_expr_parser_expr.expr_parser_post t at_ e)) t at_ e) by unfold expr_parser_un_B; exact (.ite (.bind (.const _) fun _ => (.ite (.ite (.bind (.call _) fun _ => (.const _)) (.bind (.call _) fun _ => (.bind (.const _) fun _ => (.const _)))) (.bind (.const _) fun _ => (.ite (.ite (.bind (.call _) fun _ => (.const _)) (.bind (.call _) fun _ => (.bind (.const _) fun _ => (.const _)))) (.ite (.bind (.call _) fun _ => (.const _)) (.bind (.call _) fun _ => (.bind (.const _) fun _ => (.const _)))))))) (.const _))
  | .expr_parser_post t at_ e => show Good (fun g : Fam R_expr_parser_expr => expr_parser_post_B (fun from_ o2 x t at_ e => g (I_expr_parser_expr.expr_parser_post_L3 from_ o2 x t at_ e)) (fun t at_ e => g (I_expr_parser_expr.expr_parser_atom t at_ e)) t at_ e) by unfold expr_parser_post_B; exact (.bind (.call _) fun _ => (.call _))
  | .expr_parser_post_L3 from_ o2 x t at_ e => show Good (fun g : Fam R_expr_parser_expr => expr_parser_post_L3_B (fun t at_ e => g (I_expr_parser_expr.expr_parser_expr t at_ e)) (fun from_ o2 x t at_ e => g (I_expr_parser_expr.expr_parser_post_L3 from_ o2 x t at_ e)) from_ o2 x t at_ e) by unfold expr_parser_post_L3_B; exact (.ite (.bind (.const _) fun _ => (.ite (.bind (.call _) fun _ => (.bind (.const _) fun _ => (.bind (.const _) fun _ => (.call _)))) (.bind (.const _) fun _ => (.ite (.bind (.const _) fun _ => (.bind (.const _) fun _ => (.call _))) (.const _))))) (.const _))
  | .expr_parser_atom t at_ e => show Good (fun g : Fam R_expr_parser_expr => expr_parser_atom_B (fun few t at_ e => g (I_expr_parser_expr.expr_parser_args few t at_ e)) (fun s from_ t at_ e => g (I_expr_parser_expr.expr_parser_word s from_ t at_ e)) (fun s from_ t at_ e => g (I_expr_parser_expr.expr_parser_bracket s from_ t at_ e)) t at_ e) by unfold expr_parser_atom_B; exact (.ite (.bind (.const _) fun _ => (.ite (.bind (.const _) fun _ => (.const _)) (.ite (.bind (.const _) fun _ => (.ite (.bind (.call _) fun _ => (.bind (.const _) fun _ => (.const _))) (.bind (.const _) fun _ => (.const _)))) (.ite (.bind (.call _) fun _ => (.const _)) (.ite (.bind (.call _) fun _ => (.const _)) (.bind (.const _) fun _ => (.const _))))))) (.const _))
  | .expr_parser_args few t at_ e => show Good (fun g : Fam R_expr_parser_expr => expr_parser_args_B (fun t at_ e => g (I_expr_parser_expr.expr_parser_list_parser_expr t at_ e)) few t at_ e) by unfold expr_parser_args_B; exact (.bind (.const _) fun _ => (.ite (.ite (.bind (.const _) fun _ => (.ite (.const _) (.bind (.call _) fun _ => (.bind (.const _) fun _ => (.const _))))) (.bind (.call _) fun _ => (.bind (.const _) fun _ => (.const _)))) (.bind (.call _) fun _ => (.bind (.const _) fun _ => (.const _)))))
  | .expr_parser_word s from_ t at_ e => show Good (fun g : Fam R_expr_parser_expr => expr_parser_word_B (fun few t at_ e => g (I_expr_parser_expr.expr_parser_args few t at_ e)) s from_ t at_ e) by unfold expr_parser_word_B; exact (.ite (.bind (.const _) fun _ => (.const _)) (.ite (.bind (.const _) fun _ => (.const _)) (.ite (.bind (.const _) fun _ => (.const _)) (.ite (.bind (.const _) fun _ => (.bind (.call _) fun _ => (.bind (.const _) fun _ => (.const _)))) (.bind (.const _) fun _ => (.const _))))))
  | .expr_parser_bracket s from_ t at_ e => show Good (fun g : Fam R_expr_parser_expr => expr_parser_bracket_B (fun t at_ e => g (I_expr_parser_expr.expr_parser_expr t at_ e)) (fun few t at_ e => g (I_expr_parser_expr.expr_parser_args few t at_ e)) (fun t at_ e => g (I_expr_parser_expr.expr_parser_list_parser_expr t at_ e)) s from_ t at_ e) by unfold expr_parser_bracket_B; exact (.ite (.bind (.call _) fun _ => (.bind (.const _) fun _ => (.const _))) (.ite (.bind (.call _) fun _ => (.bind (.const _) fun _ => (.bind (.const _) fun _ => (.const _)))) (.ite (.bind (.const _) fun _ => (.bind (.call _) fun _ => (.bind (.const _) fun _ => (.const _)))) (.bind (.const _) fun _ => (.const _)))))
  | .expr_parser_list_parser_expr t at_ e => show Good (fun g : Fam R_expr_parser_expr => expr_parser_list_parser_expr_B (fun t at_ e => g (I_expr_parser_expr.expr_parser_expr t at_ e)) (fun out t at_ e => g (I_expr_parser_expr.expr_parser_list_parser_expr_L2 out t at_ e)) t at_ e) by unfold expr_parser_list_parser_expr_B; exact (.bind (.call _) fun _ => (.call _))
  | .expr_parser_list_parser_expr_L2 out t at_ e => show Good (fun g : Fam R_expr_parser_expr => expr_parser_list_parser_expr_L2_B (fun t at_ e => g (I_expr_parser_expr.expr_parser_expr t at_ e)) (fun out t at_ e => g (I_expr_parser_expr.expr_parser_list_parser_expr_L2 out t at_ e)) out t at_ e) by unfold expr_parser_list_parser_expr_L2_B; exact (.ite (.bind (.const _) fun _ => (.ite (.bind (.call _) fun _ => (.ite (.call _) (.const _))) (.const _))) (.const _))
def expr_parser_expr (t : List Token) (at_ : Int) (e : Int) : Option (Term × List Token × Int × Int) := fixF F_expr_parser_expr (.expr_parser_expr t at_ e)
def expr_parser_level (least : Int) (t : List Token) (at_ : Int) (e : Int) : Option (Term × List Token × Int × Int) := fixF F_expr_parser_expr (.expr_parser_level least t at_ e)
def expr_parser_level_L4 (least : Int) (from_ : Int) (most : Int) (o4 : Term) (left : Term) (t : List Token) (at_ : Int) (e : Int) : Option (Term × List Token × Int × Int) := fixF F_expr_parser_expr (.expr_parser_level_L4 least from_ most o4 left t at_ e)
def expr_parser_un (t : List Token) (at_ : Int) (e : Int) : Option (Term × List Token × Int × Int) := fixF F_expr_parser_expr (.expr_parser_un t at_ e)
def expr_parser_post (t : List Token) (at_ : Int) (e : Int) : Option (Term × List Token × Int × Int) := fixF F_expr_parser_expr (.expr_parser_post t at_ e)
def expr_parser_post_L3 (from_ : Int) (o2 : Term) (x : Term) (t : List Token) (at_ : Int) (e : Int) : Option (Term × List Token × Int × Int) := fixF F_expr_parser_expr (.expr_parser_post_L3 from_ o2 x t at_ e)
def expr_parser_atom (t : List Token) (at_ : Int) (e : Int) : Option (Term × List Token × Int × Int) := fixF F_expr_parser_expr (.expr_parser_atom t at_ e)
def expr_parser_args (few : Bool) (t : List Token) (at_ : Int) (e : Int) : Option (List Term × List Token × Int × Int) := fixF F_expr_parser_expr (.expr_parser_args few t at_ e)
def expr_parser_word (s : Str) (from_ : Int) (t : List Token) (at_ : Int) (e : Int) : Option (Term × List Token × Int × Int) := fixF F_expr_parser_expr (.expr_parser_word s from_ t at_ e)
def expr_parser_bracket (s : Str) (from_ : Int) (t : List Token) (at_ : Int) (e : Int) : Option (Term × List Token × Int × Int) := fixF F_expr_parser_expr (.expr_parser_bracket s from_ t at_ e)
def expr_parser_list_parser_expr (t : List Token) (at_ : Int) (e : Int) : Option (List Term × List Token × Int × Int) := fixF F_expr_parser_expr (.expr_parser_list_parser_expr t at_ e)
def expr_parser_list_parser_expr_L2 (out : List Term) (t : List Token) (at_ : Int) (e : Int) : Option (List Term × List Token × Int × Int) := fixF F_expr_parser_expr (.expr_parser_list_parser_expr_L2 out t at_ e)
theorem expr_parser_expr_eq (t : List Token) (at_ : Int) (e : Int) : expr_parser_expr t at_ e = expr_parser_expr_B expr_parser_level t at_ e := fixF_eq D_expr_parser_expr (.expr_parser_expr t at_ e)
theorem expr_parser_level_eq (least : Int) (t : List Token) (at_ : Int) (e : Int) : expr_parser_level least t at_ e = expr_parser_level_B expr_parser_level_L4 expr_parser_un least t at_ e := fixF_eq D_expr_parser_expr (.expr_parser_level least t at_ e)
theorem expr_parser_level_L4_eq (least : Int) (from_ : Int) (most : Int) (o4 : Term) (left : Term) (t : List Token) (at_ : Int) (e : Int) : expr_parser_level_L4 least from_ most o4 left t at_ e = expr_parser_level_L4_B expr_parser_level expr_parser_level_L4 least from_ most o4 left t at_ e := fixF_eq D_expr_parser_expr (.expr_parser_level_L4 least from_ most o4 left t at_ e)
theorem expr_parser_un_eq (t : List Token) (at_ : Int) (e : Int) : expr_parser_un t at_ e = expr_parser_un_B expr_parser_un expr_parser_post t at_ e := fixF_eq D_expr_parser_expr (.expr_parser_un t at_ e)
theorem expr_parser_post_eq (t : List Token) (at_ : Int) (e : Int) : expr_parser_post t at_ e = expr_parser_post_B expr_parser_post_L3 expr_parser_atom t at_ e := fixF_eq D_expr_parser_expr (.expr_parser_post t at_ e)
theorem expr_parser_post_L3_eq (from_ : Int) (o2 : Term) (x : Term) (t : List Token) (at_ : Int) (e : Int) : expr_parser_post_L3 from_ o2 x t at_ e = expr_parser_post_L3_B expr_parser_expr expr_parser_post_L3 from_ o2 x t at_ e := fixF_eq D_expr_parser_expr (.expr_parser_post_L3 from_ o2 x t at_ e)
theorem expr_parser_atom_eq (t : List Token) (at_ : Int) (e : Int) : expr_parser_atom t at_ e = expr_parser_atom_B expr_parser_args expr_parser_word expr_parser_bracket t at_ e := fixF_eq D_expr_parser_expr (.expr_parser_atom t at_ e)
theorem expr_parser_args_eq (few : Bool) (t : List Token) (at_ : Int) (e : Int) : expr_parser_args few t at_ e = expr_parser_args_B expr_parser_list_parser_expr few t at_ e := fixF_eq D_expr_parser_expr (.expr_parser_args few t at_ e)
theorem expr_parser_word_eq (s : Str) (from_ : Int) (t : List Token) (at_ : Int) (e : Int) : expr_parser_word s from_ t at_ e = expr_parser_word_B expr_parser_args s from_ t at_ e := fixF_eq D_expr_parser_expr (.expr_parser_word s from_ t at_ e)
theorem expr_parser_bracket_eq (s : Str) (from_ : Int) (t : List Token) (at_ : Int) (e : Int) : expr_parser_bracket s from_ t at_ e = expr_parser_bracket_B expr_parser_expr expr_parser_args expr_parser_list_parser_expr s from_ t at_ e := fixF_eq D_expr_parser_expr (.expr_parser_bracket s from_ t at_ e)
theorem expr_parser_list_parser_expr_eq (t : List Token) (at_ : Int) (e : Int) : expr_parser_list_parser_expr t at_ e = expr_parser_list_parser_expr_B expr_parser_expr expr_parser_list_parser_expr_L2 t at_ e := fixF_eq D_expr_parser_expr (.expr_parser_list_parser_expr t at_ e)
theorem expr_parser_list_parser_expr_L2_eq (out : List Term) (t : List Token) (at_ : Int) (e : Int) : expr_parser_list_parser_expr_L2 out t at_ e = expr_parser_list_parser_expr_L2_B expr_parser_expr expr_parser_list_parser_expr_L2 out t at_ e := fixF_eq D_expr_parser_expr (.expr_parser_list_parser_expr_L2 out t at_ e)
def expr_start_parser_expr (t : List Token) (at_ : Int) : Option (Term × Int × Int) :=
  if at_ < 0 then
    some ((Term.mk 0 0 ([] : List UInt8) [] 0 0), 0, 13)
  else
  if at_ > (List.length t : Int) then
    some ((Term.mk 0 0 ([] : List UInt8) [] 0 0), 0, 13)
  else
  expr_parser_expr t at_ 0 >>= fun q1 =>
  if q1.2.2.2 = 0 then
    some (q1.1, q1.2.2.1, 0)
  else
  some ((Term.mk 0 0 ([] : List UInt8) [] 0 0), q1.2.2.1, q1.2.2.2)
def expr_Parse (t : List Token) (at_ : Int) : Option (Term × Int × Int) :=
  expr_start_parser_expr t at_ >>= fun q1 =>
  some (q1.1, q1.2.1, q1.2.2)
def stmt_reader_other_Parse (t : List Token) (at_ : Int) (e : Int) : Option (Term × List Token × Int × Int) :=
  if e = 0 then
    if at_ > (List.length t : Int) then
      some ((Term.mk 0 0 ([] : List UInt8) [] 0 0), t, at_, 6)
    else
    expr_Parse t at_ >>= fun q1 =>
    some (q1.1, t, q1.2.1, q1.2.2)
  else
  some ((Term.mk 0 0 ([] : List UInt8) [] 0 0), t, at_, e)
def stmt_reader_expr (t : List Token) (at_ : Int) (e : Int) : Option (Term × List Token × Int × Int) :=
  stmt_reader_other_Parse t at_ e >>= fun q1 =>
  some (q1.1, q1.2.1, q1.2.2.1, q1.2.2.2)
def stmt_reader_single (k : Int) (t : List Token) (at_ : Int) (e : Int) : Option (Term × List Token × Int × Int) :=
  stmt_reader_expr t (IntKind.wrap .i64 (at_ + 1)) e >>= fun q1 =>
  stmt_reader_need 4 ([59] : List UInt8) q1.2.1 q1.2.2.1 q1.2.2.2 >>= fun q2 =>
  stmt_reader_made k ([] : List UInt8) at_ [q1.1] q2.1 q2.2.1 q2.2.2 >>= fun q3 =>
  some (q3, q2.1, q2.2.1, q2.2.2)
def stmt_reader_back (t : List Token) (at_ : Int) (e : Int) : Option (Term × List Token × Int × Int) :=
  stmt_reader_single 27 t at_ e >>= fun q1 =>
  some (q1.1, q1.2.1, q1.2.2.1, q1.2.2.2)
def stmt_reader_call (t : List Token) (at_ : Int) (e : Int) : Option (Term × List Token × Int × Int) :=
  stmt_reader_single 28 t at_ e >>= fun q1 =>
  some (q1.1, q1.2.1, q1.2.2.1, q1.2.2.2)
def stmt_reader_name (t : List Token) (at_ : Int) (e : Int) : Option (Str × List Token × Int × Int) :=
  if e = 0 then
    stmt_reader_now t at_ e >>= fun q1 =>
    if q1.K = 1 then
      some (q1.S, t, IntKind.wrap .i64 (at_ + 1), e)
    else
    some (([] : List UInt8), t, at_, 6)
  else
  some (([] : List UInt8), t, at_, e)
def expr_parser_kind_B (expr_parser_kind : (List Token) → Int → Int → Option (Term × List Token × Int × Int)) (t : List Token) (at_ : Int) (e : Int) : Option (Term × List Token × Int × Int) :=
  if e = 0 then
    expr_parser_now t at_ e >>= fun q1 =>
    if q1.K = 3 then
      if q1.S = ([105, 110, 116] : List UInt8) then
        expr_parser_made (Term.mk 1 0 ([] : List UInt8) [] 0 0) at_ t (IntKind.wrap .i64 (at_ + 1)) e >>= fun q2 =>
        some (q2, t, IntKind.wrap .i64 (at_ + 1), e)
      else
      if q1.S = ([98, 111, 111, 108] : List UInt8) then
        expr_parser_made (Term.mk 2 0 ([] : List UInt8) [] 0 0) at_ t (IntKind.wrap .i64 (at_ + 1)) e >>= fun q3 =>
        some (q3, t, IntKind.wrap .i64 (at_ + 1), e)
      else
      expr_parser_sign ([91] : List UInt8) t at_ e >>= fun q5 =>
      if q5 = true then
        expr_parser_now t (IntKind.wrap .i64 (at_ + 1)) e >>= fun q6 =>
        if q6.K = 2 then
          expr_parser_need ([93] : List UInt8) t (IntKind.wrap .i64 ((IntKind.wrap .i64 (at_ + 1)) + 1)) e >>= fun q8 =>
          expr_parser_kind q8.1 q8.2.1 q8.2.2 >>= fun q9 =>
          expr_parser_made (Term.mk 3 q6.N ([] : List UInt8) [q9.1] 0 0) at_ q9.2.1 q9.2.2.1 q9.2.2.2 >>= fun q10 =>
          some (q10, q9.2.1, q9.2.2.1, q9.2.2.2)
        else
        expr_parser_fail t (IntKind.wrap .i64 (at_ + 1)) e >>= fun q7 =>
        some ((Term.mk 0 0 ([] : List UInt8) [] 0 0), q7.1, q7.2.1, q7.2.2)
      else
      expr_parser_fail t at_ e >>= fun q11 =>
      some ((Term.mk 0 0 ([] : List UInt8) [] 0 0), q11.1, q11.2.1, q11.2.2)
    else
    if q1.K = 1 then
      expr_parser_made (Term.mk 4 0 q1.S [] 0 0) at_ t (IntKind.wrap .i64 (at_ + 1)) e >>= fun q29 =>
      some (q29, t, IntKind.wrap .i64 (at_ + 1), e)
    else
    expr_parser_sign ([91] : List UInt8) t at_ e >>= fun q30 =>
    if q30 = true then
      expr_parser_now t (IntKind.wrap .i64 (at_ + 1)) e >>= fun q31 =>
      if q31.K = 2 then
        expr_parser_need ([93] : List UInt8) t (IntKind.wrap .i64 ((IntKind.wrap .i64 (at_ + 1)) + 1)) e >>= fun q33 =>
        expr_parser_kind q33.1 q33.2.1 q33.2.2 >>= fun q34 =>
        expr_parser_made (Term.mk 3 q31.N ([] : List UInt8) [q34.1] 0 0) at_ q34.2.1 q34.2.2.1 q34.2.2.2 >>= fun q35 =>
        some (q35, q34.2.1, q34.2.2.1, q34.2.2.2)
      else
      expr_parser_fail t (IntKind.wrap .i64 (at_ + 1)) e >>= fun q32 =>
      some ((Term.mk 0 0 ([] : List UInt8) [] 0 0), q32.1, q32.2.1, q32.2.2)
    else
    expr_parser_fail t at_ e >>= fun q36 =>
    some ((Term.mk 0 0 ([] : List UInt8) [] 0 0), q36.1, q36.2.1, q36.2.2)
  else
  some ((Term.mk 0 0 ([] : List UInt8) [] 0 0), t, at_, e)
inductive I_expr_parser_kind where
  | expr_parser_kind (t : List Token) (at_ : Int) (e : Int)
@[reducible] def R_expr_parser_kind : I_expr_parser_kind → Type
  | .expr_parser_kind _ _ _ => Term × List Token × Int × Int
def F_expr_parser_kind (g : Fam R_expr_parser_kind) : Fam R_expr_parser_kind
  | .expr_parser_kind t at_ e => expr_parser_kind_B (fun t at_ e => g (I_expr_parser_kind.expr_parser_kind t at_ e)) t at_ e
theorem D_expr_parser_kind : ∀ i, Good (fun g => F_expr_parser_kind g i)
  | .expr_parser_kind t at_ e => show Good (fun g : Fam R_expr_parser_kind => expr_parser_kind_B (fun t at_ e => g (I_expr_parser_kind.expr_parser_kind t at_ e)) t at_ e) by unfold expr_parser_kind_B; exact (.ite (.bind (.const _) fun _ => (.ite (.ite (.bind (.const _) fun _ => (.const _)) (.ite (.bind (.const _) fun _ => (.const _)) (.bind (.const _) fun _ => (.ite (.bind (.const _) fun _ => (.ite (.bind (.const _) fun _ => (.bind (.call _) fun _ => (.bind (.const _) fun _ => (.const _)))) (.bind (.const _) fun _ => (.const _)))) (.bind (.const _) fun _ => (.const _)))))) (.ite (.bind (.const _) fun _ => (.const _)) (.bind (.const _) fun _ => (.ite (.bind (.const _) fun _ => (.ite (.bind (.const _) fun _ => (.bind (.call _) fun _ => (.bind (.const _) fun _ => (.const _)))) (.bind (.const _) fun _ => (.const _)))) (.bind (.const _) fun _ => (.const _))))))) (.const _))
def expr_parser_kind (t : List Token) (at_ : Int) (e : Int) : Option (Term × List Token × Int × Int) := fixF F_expr_parser_kind (.expr_parser_kind t at_ e)
theorem expr_parser_kind_eq (t : List Token) (at_ : Int) (e : Int) : expr_parser_kind t at_ e = expr_parser_kind_B expr_parser_kind t at_ e := fixF_eq D_expr_parser_kind (.expr_parser_kind t at_ e)
def expr_start_parser_kind (t : List Token) (at_ : Int) : Option (Term × Int × Int) :=
  if at_ < 0 then
    some ((Term.mk 0 0 ([] : List UInt8) [] 0 0), 0, 13)
  else
  if at_ > (List.length t : Int) then
    some ((Term.mk 0 0 ([] : List UInt8) [] 0 0), 0, 13)
  else
  expr_parser_kind t at_ 0 >>= fun q1 =>
  if q1.2.2.2 = 0 then
    some (q1.1, q1.2.2.1, 0)
  else
  some ((Term.mk 0 0 ([] : List UInt8) [] 0 0), q1.2.2.1, q1.2.2.2)
def expr_Type (t : List Token) (at_ : Int) : Option (Term × Int × Int) :=
  expr_start_parser_kind t at_ >>= fun q1 =>
  some (q1.1, q1.2.1, q1.2.2)
def stmt_reader_other_Type (t : List Token) (at_ : Int) (e : Int) : Option (Term × List Token × Int × Int) :=
  if e = 0 then
    if at_ > (List.length t : Int) then
      some ((Term.mk 0 0 ([] : List UInt8) [] 0 0), t, at_, 6)
    else
    expr_Type t at_ >>= fun q1 =>
    some (q1.1, t, q1.2.1, q1.2.2)
  else
  some ((Term.mk 0 0 ([] : List UInt8) [] 0 0), t, at_, e)
def stmt_reader_let (t : List Token) (at_ : Int) (e : Int) : Option (Term × List Token × Int × Int) :=
  stmt_reader_name t (IntKind.wrap .i64 (at_ + 1)) e >>= fun q1 =>
  if q1.2.2.2 = 0 then
    stmt_reader_is 4 ([58] : List UInt8) q1.2.1 q1.2.2.1 q1.2.2.2 >>= fun q2 =>
    if q2 = true then
      stmt_reader_other_Type q1.2.1 (IntKind.wrap .i64 (q1.2.2.1 + 1)) q1.2.2.2 >>= fun q3 =>
      stmt_reader_need 4 ([59] : List UInt8) q3.2.1 q3.2.2.1 q3.2.2.2 >>= fun q4 =>
      stmt_reader_made 21 q1.1 at_ [q3.1] q4.1 q4.2.1 q4.2.2 >>= fun q5 =>
      some (q5, q4.1, q4.2.1, q4.2.2)
    else
    stmt_reader_need 4 ([61] : List UInt8) q1.2.1 q1.2.2.1 q1.2.2.2 >>= fun q6 =>
    stmt_reader_expr q6.1 q6.2.1 q6.2.2 >>= fun q7 =>
    stmt_reader_need 4 ([59] : List UInt8) q7.2.1 q7.2.2.1 q7.2.2.2 >>= fun q8 =>
    stmt_reader_made 20 q1.1 at_ [q7.1] q8.1 q8.2.1 q8.2.2 >>= fun q9 =>
    some (q9, q8.1, q8.2.1, q8.2.2)
  else
  stmt_reader_need 4 ([61] : List UInt8) q1.2.1 q1.2.2.1 q1.2.2.2 >>= fun q10 =>
  stmt_reader_expr q10.1 q10.2.1 q10.2.2 >>= fun q11 =>
  stmt_reader_need 4 ([59] : List UInt8) q11.2.1 q11.2.2.1 q11.2.2.2 >>= fun q12 =>
  stmt_reader_made 20 q1.1 at_ [q11.1] q12.1 q12.2.1 q12.2.2 >>= fun q13 =>
  some (q13, q12.1, q12.2.1, q12.2.2)
def stmt_reader_set (t : List Token) (at_ : Int) (e : Int) : Option (Term × List Token × Int × Int) :=
  stmt_reader_expr t at_ e >>= fun q1 =>
  stmt_reader_need 4 ([61] : List UInt8) q1.2.1 q1.2.2.1 q1.2.2.2 >>= fun q2 =>
  stmt_reader_expr q2.1 q2.2.1 q2.2.2 >>= fun q3 =>
  stmt_reader_need 4 ([59] : List UInt8) q3.2.1 q3.2.2.1 q3.2.2.2 >>= fun q4 =>
  stmt_reader_made 22 ([] : List UInt8) at_ [q1.1, q3.1] q4.1 q4.2.1 q4.2.2 >>= fun q5 =>
  some (q5, q4.1, q4.2.1, q4.2.2)
def stmt_reader_show (t : List Token) (at_ : Int) (e : Int) : Option (Term × List Token × Int × Int) :=
  stmt_reader_single 26 t at_ e >>= fun q1 =>
  some (q1.1, q1.2.1, q1.2.2.1, q1.2.2.2)
def stmt_reader_stmt_B (stmt_reader_block : (List Token) → Int → Int → Option (Term × List Token × Int × Int)) (stmt_reader_cond : (List Token) → Int → Int → Option (Term × List Token × Int × Int)) (stmt_reader_while : (List Token) → Int → Int → Option (Term × List Token × Int × Int)) (stmt_reader_count : (List Token) → Int → Int → Option (Term × List Token × Int × Int)) (t : List Token) (at_ : Int) (e : Int) : Option (Term × List Token × Int × Int) :=
  stmt_reader_now t at_ e >>= fun q1 =>
  stmt_kind q1 >>= fun q2 =>
  if q2 = 15 then
    stmt_reader_block t at_ e >>= fun q3 =>
    some (q3.1, q3.2.1, q3.2.2.1, q3.2.2.2)
  else if q2 = 42 then
    stmt_reader_set t at_ e >>= fun q4 =>
    some (q4.1, q4.2.1, q4.2.2.1, q4.2.2.2)
  else if q2 = 43 then
    stmt_reader_let t at_ e >>= fun q5 =>
    some (q5.1, q5.2.1, q5.2.2.1, q5.2.2.2)
  else if q2 = 44 then
    stmt_reader_cond t at_ e >>= fun q6 =>
    some (q6.1, q6.2.1, q6.2.2.1, q6.2.2.2)
  else if q2 = 45 then
    stmt_reader_while t at_ e >>= fun q7 =>
    some (q7.1, q7.2.1, q7.2.2.1, q7.2.2.2)
  else if q2 = 46 then
    stmt_reader_count t at_ e >>= fun q8 =>
    some (q8.1, q8.2.1, q8.2.2.1, q8.2.2.2)
  else if q2 = 47 then
    stmt_reader_show t at_ e >>= fun q9 =>
    some (q9.1, q9.2.1, q9.2.2.1, q9.2.2.2)
  else if q2 = 48 then
    stmt_reader_back t at_ e >>= fun q10 =>
    some (q10.1, q10.2.1, q10.2.2.1, q10.2.2.2)
  else if q2 = 49 then
    stmt_reader_call t at_ e >>= fun q11 =>
    some (q11.1, q11.2.1, q11.2.2.1, q11.2.2.2)
  else none
def stmt_reader_block_B (stmt_reader_block_L4 : Int → (List Term) → Term → (List Token) → Int → Int → Option (Term × List Token × Int × Int)) (t : List Token) (at_ : Int) (e : Int) : Option (Term × List Token × Int × Int) :=
  stmt_reader_need 4 ([123] : List UInt8) t at_ e >>= fun q1 =>
  stmt_reader_block_L4 at_ [] (Term.mk 0 0 ([] : List UInt8) [] 0 0) q1.1 q1.2.1 q1.2.2
def stmt_reader_block_L4_B (stmt_reader_stmt : (List Token) → Int → Int → Option (Term × List Token × Int × Int)) (stmt_reader_block_L4 : Int → (List Term) → Term → (List Token) → Int → Int → Option (Term × List Token × Int × Int)) (from_ : Int) (l : List Term) (o2 : Term) (t : List Token) (at_ : Int) (e : Int) : Option (Term × List Token × Int × Int) :=
  if e = 0 then
    stmt_reader_is 4 ([125] : List UInt8) t at_ e >>= fun q1 =>
    if q1 = true then
      stmt_reader_need 4 ([125] : List UInt8) t at_ e >>= fun q3 =>
      stmt_reader_made 29 ([] : List UInt8) from_ l q3.1 q3.2.1 q3.2.2 >>= fun q4 =>
      some (q4, q3.1, q3.2.1, q3.2.2)
    else
    stmt_reader_stmt t at_ e >>= fun q2 =>
    if roomy 72 (List.length l + List.length [q2.1]) then
    stmt_reader_block_L4 from_ (l ++ [q2.1]) o2 q2.2.1 q2.2.2.1 q2.2.2.2
    else none
  else
  stmt_reader_need 4 ([125] : List UInt8) t at_ e >>= fun q5 =>
  stmt_reader_made 29 ([] : List UInt8) from_ l q5.1 q5.2.1 q5.2.2 >>= fun q6 =>
  some (q6, q5.1, q5.2.1, q5.2.2)
def stmt_reader_cond_B (stmt_reader_block : (List Token) → Int → Int → Option (Term × List Token × Int × Int)) (t : List Token) (at_ : Int) (e : Int) : Option (Term × List Token × Int × Int) :=
  stmt_reader_expr t (IntKind.wrap .i64 (at_ + 1)) e >>= fun q1 =>
  stmt_reader_block q1.2.1 q1.2.2.1 q1.2.2.2 >>= fun q2 =>
  if q2.2.2.2 = 0 then
    stmt_reader_is 3 ([101, 108, 115, 101] : List UInt8) q2.2.1 q2.2.2.1 q2.2.2.2 >>= fun q3 =>
    if q3 = true then
      stmt_reader_block q2.2.1 (IntKind.wrap .i64 (q2.2.2.1 + 1)) q2.2.2.2 >>= fun q4 =>
      stmt_reader_made 23 ([] : List UInt8) at_ [q1.1, q2.1, q4.1] q4.2.1 q4.2.2.1 q4.2.2.2 >>= fun q5 =>
      some (q5, q4.2.1, q4.2.2.1, q4.2.2.2)
    else
    stmt_reader_made 23 ([] : List UInt8) at_ [q1.1, q2.1, (Term.mk 29 0 ([] : List UInt8) [] q2.1.To q2.1.To)] q2.2.1 q2.2.2.1 q2.2.2.2 >>= fun q6 =>
    some (q6, q2.2.1, q2.2.2.1, q2.2.2.2)
  else
  stmt_reader_made 23 ([] : List UInt8) at_ [q1.1, q2.1, (Term.mk 29 0 ([] : List UInt8) [] q2.1.To q2.1.To)] q2.2.1 q2.2.2.1 q2.2.2.2 >>= fun q7 =>
  some (q7, q2.2.1, q2.2.2.1, q2.2.2.2)
def stmt_reader_while_B (stmt_reader_block : (List Token) → Int → Int → Option (Term × List Token × Int × Int)) (t : List Token) (at_ : Int) (e : Int) : Option (Term × List Token × Int × Int) :=
  stmt_reader_expr t (IntKind.wrap .i64 (at_ + 1)) e >>= fun q1 =>
  stmt_reader_block q1.2.1 q1.2.2.1 q1.2.2.2 >>= fun q2 =>
  stmt_reader_made 24 ([] : List UInt8) at_ [q1.1, q2.1] q2.2.1 q2.2.2.1 q2.2.2.2 >>= fun q3 =>
  some (q3, q2.2.1, q2.2.2.1, q2.2.2.2)
def stmt_reader_count_B (stmt_reader_block : (List Token) → Int → Int → Option (Term × List Token × Int × Int)) (t : List Token) (at_ : Int) (e : Int) : Option (Term × List Token × Int × Int) :=
  stmt_reader_name t (IntKind.wrap .i64 (at_ + 1)) e >>= fun q1 =>
  stmt_reader_need 4 ([61] : List UInt8) q1.2.1 q1.2.2.1 q1.2.2.2 >>= fun q2 =>
  stmt_reader_expr q2.1 q2.2.1 q2.2.2 >>= fun q3 =>
  stmt_reader_need 3 ([116, 111] : List UInt8) q3.2.1 q3.2.2.1 q3.2.2.2 >>= fun q4 =>
  stmt_reader_expr q4.1 q4.2.1 q4.2.2 >>= fun q5 =>
  stmt_reader_block q5.2.1 q5.2.2.1 q5.2.2.2 >>= fun q6 =>
  stmt_reader_made 25 q1.1 at_ [q3.1, q5.1, q6.1] q6.2.1 q6.2.2.1 q6.2.2.2 >>= fun q7 =>
  some (q7, q6.2.1, q6.2.2.1, q6.2.2.2)
inductive I_stmt_reader_stmt where
  | stmt_reader_stmt (t : List Token) (at_ : Int) (e : Int)
  | stmt_reader_block (t : List Token) (at_ : Int) (e : Int)
  | stmt_reader_block_L4 (from_ : Int) (l : List Term) (o2 : Term) (t : List Token) (at_ : Int) (e : Int)
  | stmt_reader_cond (t : List Token) (at_ : Int) (e : Int)
  | stmt_reader_while (t : List Token) (at_ : Int) (e : Int)
  | stmt_reader_count (t : List Token) (at_ : Int) (e : Int)
@[reducible] def R_stmt_reader_stmt : I_stmt_reader_stmt → Type
  | .stmt_reader_stmt _ _ _ => Term × List Token × Int × Int
  | .stmt_reader_block _ _ _ => Term × List Token × Int × Int
  | .stmt_reader_block_L4 _ _ _ _ _ _ => Term × List Token × Int × Int
  | .stmt_reader_cond _ _ _ => Term × List Token × Int × Int
  | .stmt_reader_while _ _ _ => Term × List Token × Int × Int
  | .stmt_reader_count _ _ _ => Term × List Token × Int × Int
def F_stmt_reader_stmt (g : Fam R_stmt_reader_stmt) : Fam R_stmt_reader_stmt
  | .stmt_reader_stmt t at_ e => stmt_reader_stmt_B (fun t at_ e => g (I_stmt_reader_stmt.stmt_reader_block t at_ e)) (fun t at_ e => g (I_stmt_reader_stmt.stmt_reader_cond t at_ e)) (fun t at_ e => g (I_stmt_reader_stmt.stmt_reader_while t at_ e)) (fun t at_ e => g (I_stmt_reader_stmt.stmt_reader_count t at_ e)) t at_ e
  | .stmt_reader_block t at_ e => stmt_reader_block_B (fun from_ l o2 t at_ e => g (I_stmt_reader_stmt.stmt_reader_block_L4 from_ l o2 t at_ e)) t at_ e
  | .stmt_reader_block_L4 from_ l o2 t at_ e => stmt_reader_block_L4_B (fun t at_ e => g (I_stmt_reader_stmt.stmt_reader_stmt t at_ e)) (fun from_ l o2 t at_ e => g (I_stmt_reader_stmt.stmt_reader_block_L4 from_ l o2 t at_ e)) from_ l o2 t at_ e
  | .stmt_reader_cond t at_ e => stmt_reader_cond_B (fun t at_ e => g (I_stmt_reader_stmt.stmt_reader_block t at_ e)) t at_ e
  | .stmt_reader_while t at_ e => stmt_reader_while_B (fun t at_ e => g (I_stmt_reader_stmt.stmt_reader_block t at_ e)) t at_ e
  | .stmt_reader_count t at_ e => stmt_reader_count_B (fun t at_ e => g (I_stmt_reader_stmt.stmt_reader_block t at_ e)) t at_ e
theorem D_stmt_reader_stmt : ∀ i, Good (fun g => F_stmt_reader_stmt g i)
  | .stmt_reader_stmt t at_ e => show Good (fun g : Fam R_stmt_reader_stmt => stmt_reader_stmt_B (fun t at_ e => g (I_stmt_reader_stmt.stmt_reader_block t at_ e)) (fun t at_ e => g (I_stmt_reader_stmt.stmt_reader_cond t at_ e)) (fun t at_ e => g (I_stmt_reader_stmt.stmt_reader_while t at_ e)) (fun t at_ e => g (I_stmt_reader_stmt.stmt_reader_count t at_ e)) t at_ e) by unfold stmt_reader_stmt_B; exact (.bind (.const _) fun _ => (.bind (.const _) fun _ => (.ite (.bind (.call _) fun _ => (.const _)) (.ite (.bind (.const _) fun _ => (.const _)) (.ite (.bind (.const _) fun _ => (.const _)) (.ite (.bind (.call _) fun _ => (.const _)) (.ite (.bind (.call _) fun _ => (.const _)) (.ite (.bind (.call _) fun _ => (.const _)) (.ite (.bind (.const _) fun _ => (.const _)) (.ite (.bind (.const _) fun _ => (.const _)) (.ite (.bind (.const _) fun _ => (.const _)) (.const _))))))))))))
  | .stmt_reader_block t at_ e => show Good (fun g : Fam R_stmt_reader_stmt => stmt_reader_block_B (fun from_ l o2 t at_ e => g (I_stmt_reader_stmt.stmt_reader_block_L4 from_ l o2 t at_ e)) t at_ e) by unfold stmt_reader_block_B; exact (.bind (.const _) fun _ => (.call _))
  | .stmt_reader_block_L4 from_ l o2 t at_ e => show Good (fun g : Fam R_stmt_reader_stmt => stmt_reader_block_L4_B (fun t at_ e => g (I_stmt_reader_stmt.stmt_reader_stmt t at_ e)) (fun from_ l o2 t at_ e => g (I_stmt_reader_stmt.stmt_reader_block_L4 from_ l o2 t at_ e)) from_ l o2 t at_ e) by unfold stmt_reader_block_L4_B; exact (.ite (.bind (.const _) fun _ => (.ite (.bind (.const _) fun _ => (.bind (.const _) fun _ => (.const _))) (.bind (.call _) fun _ => (.ite (.call _) (.const _))))) (.bind (.const _) fun _ => (.bind (.const _) fun _ => (.const _))))
  | .stmt_reader_cond t at_ e => show Good (fun g : Fam R_stmt_reader_stmt => stmt_reader_cond_B (fun t at_ e => g (I_stmt_reader_stmt.stmt_reader_block t at_ e)) t at_ e) by unfold stmt_reader_cond_B; exact (.bind (.const _) fun _ => (.bind (.call _) fun _ => (.ite (.bind (.const _) fun _ => (.ite (.bind (.call _) fun _ => (.bind (.const _) fun _ => (.const _))) (.bind (.const _) fun _ => (.const _)))) (.bind (.const _) fun _ => (.const _)))))
  | .stmt_reader_while t at_ e => show Good (fun g : Fam R_stmt_reader_stmt => stmt_reader_while_B (fun t at_ e => g (I_stmt_reader_stmt.stmt_reader_block t at_ e)) t at_ e) by unfold stmt_reader_while_B; exact (.bind (.const _) fun _ => (.bind (.call _) fun _ => (.bind (.const _) fun _ => (.const _))))
  | .stmt_reader_count t at_ e => show Good (fun g : Fam R_stmt_reader_stmt => stmt_reader_count_B (fun t at_ e => g (I_stmt_reader_stmt.stmt_reader_block t at_ e)) t at_ e) by unfold stmt_reader_count_B; exact (.bind (.const _) fun _ => (.bind (.const _) fun _ => (.bind (.const _) fun _ => (.bind (.const _) fun _ => (.bind (.const _) fun _ => (.bind (.call _) fun _ => (.bind (.const _) fun _ => (.const _))))))))
def stmt_reader_stmt (t : List Token) (at_ : Int) (e : Int) : Option (Term × List Token × Int × Int) := fixF F_stmt_reader_stmt (.stmt_reader_stmt t at_ e)
def stmt_reader_block (t : List Token) (at_ : Int) (e : Int) : Option (Term × List Token × Int × Int) := fixF F_stmt_reader_stmt (.stmt_reader_block t at_ e)
def stmt_reader_block_L4 (from_ : Int) (l : List Term) (o2 : Term) (t : List Token) (at_ : Int) (e : Int) : Option (Term × List Token × Int × Int) := fixF F_stmt_reader_stmt (.stmt_reader_block_L4 from_ l o2 t at_ e)
def stmt_reader_cond (t : List Token) (at_ : Int) (e : Int) : Option (Term × List Token × Int × Int) := fixF F_stmt_reader_stmt (.stmt_reader_cond t at_ e)
def stmt_reader_while (t : List Token) (at_ : Int) (e : Int) : Option (Term × List Token × Int × Int) := fixF F_stmt_reader_stmt (.stmt_reader_while t at_ e)
def stmt_reader_count (t : List Token) (at_ : Int) (e : Int) : Option (Term × List Token × Int × Int) := fixF F_stmt_reader_stmt (.stmt_reader_count t at_ e)
theorem stmt_reader_stmt_eq (t : List Token) (at_ : Int) (e : Int) : stmt_reader_stmt t at_ e = stmt_reader_stmt_B stmt_reader_block stmt_reader_cond stmt_reader_while stmt_reader_count t at_ e := fixF_eq D_stmt_reader_stmt (.stmt_reader_stmt t at_ e)
theorem stmt_reader_block_eq (t : List Token) (at_ : Int) (e : Int) : stmt_reader_block t at_ e = stmt_reader_block_B stmt_reader_block_L4 t at_ e := fixF_eq D_stmt_reader_stmt (.stmt_reader_block t at_ e)
theorem stmt_reader_block_L4_eq (from_ : Int) (l : List Term) (o2 : Term) (t : List Token) (at_ : Int) (e : Int) : stmt_reader_block_L4 from_ l o2 t at_ e = stmt_reader_block_L4_B stmt_reader_stmt stmt_reader_block_L4 from_ l o2 t at_ e := fixF_eq D_stmt_reader_stmt (.stmt_reader_block_L4 from_ l o2 t at_ e)
theorem stmt_reader_cond_eq (t : List Token) (at_ : Int) (e : Int) : stmt_reader_cond t at_ e = stmt_reader_cond_B stmt_reader_block t at_ e := fixF_eq D_stmt_reader_stmt (.stmt_reader_cond t at_ e)
theorem stmt_reader_while_eq (t : List Token) (at_ : Int) (e : Int) : stmt_reader_while t at_ e = stmt_reader_while_B stmt_reader_block t at_ e := fixF_eq D_stmt_reader_stmt (.stmt_reader_while t at_ e)
theorem stmt_reader_count_eq (t : List Token) (at_ : Int) (e : Int) : stmt_reader_count t at_ e = stmt_reader_count_B stmt_reader_block t at_ e := fixF_eq D_stmt_reader_stmt (.stmt_reader_count t at_ e)
def stmt_start_reader_block (t : List Token) (at_ : Int) : Option (Term × Int × Int) :=
  if at_ < 0 then
    some ((Term.mk 0 0 ([] : List UInt8) [] 0 0), 0, 13)
  else
  if at_ > (List.length t : Int) then
    some ((Term.mk 0 0 ([] : List UInt8) [] 0 0), 0, 13)
  else
  stmt_reader_block t at_ 0 >>= fun q1 =>
  if q1.2.2.2 = 0 then
    some (q1.1, q1.2.2.1, 0)
  else
  some ((Term.mk 0 0 ([] : List UInt8) [] 0 0), q1.2.2.1, q1.2.2.2)
def stmt_Block (t : List Token) (at_ : Int) : Option (Term × Int × Int) :=
  stmt_start_reader_block t at_ >>= fun q1 =>
  some (q1.1, q1.2.1, q1.2.2)
def law08awake  : Option (Bool) :=
  stmt_Block [(Token.mk 4 0 ([123] : List UInt8) 0 0), (Token.mk 4 0 ([125] : List UInt8) 0 2)] 0 >>= fun q1 =>
  if q1.2.2 = 0 then
    if q1.2.1 = 2 then
      if q1.1.K = 29 then
        some ((q1.1.To == 2))
      else
      some (false)
    else
    some (false)
  else
  some (false)
def ref06Placed_B (ref06Placed_L4 : Int → Term → Term → Option (Bool)) (a : Term) (b : Term) : Option (Bool) :=
  if a.K = b.K then
    if a.N = b.N then
      if a.S = b.S then
        if a.From = b.From then
          if a.To = b.To then
            if (List.length a.L : Int) = (List.length b.L : Int) then
              ref06Placed_L4 0 a b
            else
            some (false)
          else
          some (false)
        else
        some (false)
      else
      some (false)
    else
    some (false)
  else
  some (false)
def ref06Placed_L4_B (ref06Placed : Term → Term → Option (Bool)) (ref06Placed_L4 : Int → Term → Term → Option (Bool)) (i : Int) (a : Term) (b : Term) : Option (Bool) :=
  if i < (List.length a.L : Int) then
    idx a.L i >>= fun x =>
    idx b.L i >>= fun x1 =>
    ref06Placed x x1 >>= fun q1 =>
    if q1 = true then
      ref06Placed_L4 (IntKind.wrap .i64 (i + 1)) a b
    else
    some (false)
  else
  some (true)
inductive I_ref06Placed where
  | ref06Placed (a : Term) (b : Term)
  | ref06Placed_L4 (i : Int) (a : Term) (b : Term)
@[reducible] def R_ref06Placed : I_ref06Placed → Type
  | .ref06Placed _ _ => Bool
  | .ref06Placed_L4 _ _ _ => Bool
def F_ref06Placed (g : Fam R_ref06Placed) : Fam R_ref06Placed
  | .ref06Placed a b => ref06Placed_B (fun i a b => g (I_ref06Placed.ref06Placed_L4 i a b)) a b
  | .ref06Placed_L4 i a b => ref06Placed_L4_B (fun a b => g (I_ref06Placed.ref06Placed a b)) (fun i a b => g (I_ref06Placed.ref06Placed_L4 i a b)) i a b
theorem D_ref06Placed : ∀ i, Good (fun g => F_ref06Placed g i)
  | .ref06Placed a b => show Good (fun g : Fam R_ref06Placed => ref06Placed_B (fun i a b => g (I_ref06Placed.ref06Placed_L4 i a b)) a b) by unfold ref06Placed_B; exact (.ite (.ite (.ite (.ite (.ite (.ite (.call _) (.const _)) (.const _)) (.const _)) (.const _)) (.const _)) (.const _))
  | .ref06Placed_L4 i a b => show Good (fun g : Fam R_ref06Placed => ref06Placed_L4_B (fun a b => g (I_ref06Placed.ref06Placed a b)) (fun i a b => g (I_ref06Placed.ref06Placed_L4 i a b)) i a b) by unfold ref06Placed_L4_B; exact (.ite (.bind (.const _) fun _ => (.bind (.const _) fun _ => (.bind (.call _) fun _ => (.ite (.call _) (.const _))))) (.const _))
def ref06Placed (a : Term) (b : Term) : Option (Bool) := fixF F_ref06Placed (.ref06Placed a b)
def ref06Placed_L4 (i : Int) (a : Term) (b : Term) : Option (Bool) := fixF F_ref06Placed (.ref06Placed_L4 i a b)
theorem ref06Placed_eq (a : Term) (b : Term) : ref06Placed a b = ref06Placed_B ref06Placed_L4 a b := fixF_eq D_ref06Placed (.ref06Placed a b)
theorem ref06Placed_L4_eq (i : Int) (a : Term) (b : Term) : ref06Placed_L4 i a b = ref06Placed_L4_B ref06Placed ref06Placed_L4 i a b := fixF_eq D_ref06Placed (.ref06Placed_L4 i a b)
def law08same (x : Term) (to_ : Int) (e : Int) (t : List Token) (at_ : Int) (want : Ref07Got) : Option (Bool) :=
  if at_ < 0 then
    if e = 13 then
      if to_ = 0 then
        ref06Placed x (Term.mk 0 0 ([] : List UInt8) [] 0 0) >>= fun q1 =>
        some (q1)
      else
      some (false)
    else
    some (false)
  else
  if at_ > (List.length t : Int) then
    if e = 13 then
      if to_ = 0 then
        ref06Placed x (Term.mk 0 0 ([] : List UInt8) [] 0 0) >>= fun q2 =>
        some (q2)
      else
      some (false)
    else
    some (false)
  else
  if e = want.E then
    if to_ = want.At then
      ref06Placed x want.T_ >>= fun q3 =>
      some (q3)
    else
    some (false)
  else
  some (false)
def ref07Now (t : List Token) (at_ : Int) : Option (Token) :=
  if at_ < (List.length t : Int) then
    idx t at_ >>= fun x =>
    some (x)
  else
  some ((Token.mk 5 0 ([] : List UInt8) 0 0))
def ref07Sign (t : List Token) (at_ : Int) (s : Str) : Option (Bool) :=
  ref07Now t at_ >>= fun q1 =>
  if q1.K = 4 then
    ref07Now t at_ >>= fun q2 =>
    some ((q2.S == s))
  else
  some (false)
def ref07Bad (at_ : Int) : Option (Ref07Got) :=
  some ((Ref07Got.mk (Term.mk 0 0 ([] : List UInt8) [] 0 0) at_ 6))
def ref07Make (t : List Token) (from_ : Int) (to_ : Int) (k : Int) (n : Int) (s : Str) (parts : List Term) : Option (Ref07Got) :=
  idx t from_ >>= fun x =>
  idx t (IntKind.wrap .i64 (to_ - 1)) >>= fun x1 =>
  some ((Ref07Got.mk (Term.mk k n s parts x.From x1.To) to_ 0))
def ref07Word (t : List Token) (at_ : Int) (s : Str) : Option (Bool) :=
  ref07Now t at_ >>= fun q1 =>
  if q1.K = 3 then
    ref07Now t at_ >>= fun q2 =>
    some ((q2.S == s))
  else
  some (false)
def ref08Form (t : List Token) (at_ : Int) : Option (Int × List Ref08Item) :=
  ref07Word t at_ ([108, 101, 116] : List UInt8) >>= fun q1 =>
  if q1 = true then
    ref07Now t (IntKind.wrap .i64 (at_ + 1)) >>= fun q2 =>
    if q2.K = 1 then
      ref07Sign t (IntKind.wrap .i64 (at_ + 2)) ([58] : List UInt8) >>= fun q3 =>
      if q3 = true then
        some (21, [(Ref08Item.mk ([119, 111, 114, 100] : List UInt8) ([108, 101, 116] : List UInt8)), (Ref08Item.mk ([110, 97, 109, 101] : List UInt8) ([] : List UInt8)), (Ref08Item.mk ([115, 105, 103, 110] : List UInt8) ([58] : List UInt8)), (Ref08Item.mk ([116, 121, 112, 101] : List UInt8) ([] : List UInt8)), (Ref08Item.mk ([115, 105, 103, 110] : List UInt8) ([59] : List UInt8))])
      else
      some (20, [(Ref08Item.mk ([119, 111, 114, 100] : List UInt8) ([108, 101, 116] : List UInt8)), (Ref08Item.mk ([110, 97, 109, 101] : List UInt8) ([] : List UInt8)), (Ref08Item.mk ([115, 105, 103, 110] : List UInt8) ([61] : List UInt8)), (Ref08Item.mk ([101, 120, 112, 114] : List UInt8) ([] : List UInt8)), (Ref08Item.mk ([115, 105, 103, 110] : List UInt8) ([59] : List UInt8))])
    else
    some (20, [(Ref08Item.mk ([119, 111, 114, 100] : List UInt8) ([108, 101, 116] : List UInt8)), (Ref08Item.mk ([110, 97, 109, 101] : List UInt8) ([] : List UInt8)), (Ref08Item.mk ([115, 105, 103, 110] : List UInt8) ([61] : List UInt8)), (Ref08Item.mk ([101, 120, 112, 114] : List UInt8) ([] : List UInt8)), (Ref08Item.mk ([115, 105, 103, 110] : List UInt8) ([59] : List UInt8))])
  else
  ref07Word t at_ ([105, 102] : List UInt8) >>= fun q4 =>
  if q4 = true then
    some (23, [(Ref08Item.mk ([119, 111, 114, 100] : List UInt8) ([105, 102] : List UInt8)), (Ref08Item.mk ([101, 120, 112, 114] : List UInt8) ([] : List UInt8)), (Ref08Item.mk ([98, 108, 111, 99, 107] : List UInt8) ([] : List UInt8)), (Ref08Item.mk ([101, 108, 115, 101] : List UInt8) ([] : List UInt8))])
  else
  ref07Word t at_ ([119, 104, 105, 108, 101] : List UInt8) >>= fun q5 =>
  if q5 = true then
    some (24, [(Ref08Item.mk ([119, 111, 114, 100] : List UInt8) ([119, 104, 105, 108, 101] : List UInt8)), (Ref08Item.mk ([101, 120, 112, 114] : List UInt8) ([] : List UInt8)), (Ref08Item.mk ([98, 108, 111, 99, 107] : List UInt8) ([] : List UInt8))])
  else
  ref07Word t at_ ([102, 111, 114] : List UInt8) >>= fun q6 =>
  if q6 = true then
    some (25, [(Ref08Item.mk ([119, 111, 114, 100] : List UInt8) ([102, 111, 114] : List UInt8)), (Ref08Item.mk ([110, 97, 109, 101] : List UInt8) ([] : List UInt8)), (Ref08Item.mk ([115, 105, 103, 110] : List UInt8) ([61] : List UInt8)), (Ref08Item.mk ([101, 120, 112, 114] : List UInt8) ([] : List UInt8)), (Ref08Item.mk ([119, 111, 114, 100] : List UInt8) ([116, 111] : List UInt8)), (Ref08Item.mk ([101, 120, 112, 114] : List UInt8) ([] : List UInt8)), (Ref08Item.mk ([98, 108, 111, 99, 107] : List UInt8) ([] : List UInt8))])
  else
  ref07Word t at_ ([112, 114, 105, 110, 116] : List UInt8) >>= fun q7 =>
  if q7 = true then
    some (26, [(Ref08Item.mk ([119, 111, 114, 100] : List UInt8) ([112, 114, 105, 110, 116] : List UInt8)), (Ref08Item.mk ([101, 120, 112, 114] : List UInt8) ([] : List UInt8)), (Ref08Item.mk ([115, 105, 103, 110] : List UInt8) ([59] : List UInt8))])
  else
  ref07Word t at_ ([114, 101, 116, 117, 114, 110] : List UInt8) >>= fun q8 =>
  if q8 = true then
    some (27, [(Ref08Item.mk ([119, 111, 114, 100] : List UInt8) ([114, 101, 116, 117, 114, 110] : List UInt8)), (Ref08Item.mk ([101, 120, 112, 114] : List UInt8) ([] : List UInt8)), (Ref08Item.mk ([115, 105, 103, 110] : List UInt8) ([59] : List UInt8))])
  else
  ref07Word t at_ ([100, 111] : List UInt8) >>= fun q9 =>
  if q9 = true then
    some (28, [(Ref08Item.mk ([119, 111, 114, 100] : List UInt8) ([100, 111] : List UInt8)), (Ref08Item.mk ([101, 120, 112, 114] : List UInt8) ([] : List UInt8)), (Ref08Item.mk ([115, 105, 103, 110] : List UInt8) ([59] : List UInt8))])
  else
  some (22, [(Ref08Item.mk ([101, 120, 112, 114] : List UInt8) ([] : List UInt8)), (Ref08Item.mk ([115, 105, 103, 110] : List UInt8) ([61] : List UInt8)), (Ref08Item.mk ([101, 120, 112, 114] : List UInt8) ([] : List UInt8)), (Ref08Item.mk ([115, 105, 103, 110] : List UInt8) ([59] : List UInt8))])
def ref07Op_L3_B (ref07Op_L3 : (List Token) → Int → (List Str) → (List Int) → Int → Option (Int)) (t : List Token) (at_ : Int) (signs : List Str) (ops : List Int) (i : Int) : Option (Int) :=
  if i < (List.length signs : Int) then
    idx signs i >>= fun x =>
    ref07Sign t at_ x >>= fun q1 =>
    if q1 = true then
      idx ops i >>= fun x1 =>
      some (x1)
    else
    ref07Op_L3 t at_ signs ops (IntKind.wrap .i64 (i + 1))
  else
  some (0)
inductive I_ref07Op_L3 where
  | ref07Op_L3 (t : List Token) (at_ : Int) (signs : List Str) (ops : List Int) (i : Int)
@[reducible] def R_ref07Op_L3 : I_ref07Op_L3 → Type
  | .ref07Op_L3 _ _ _ _ _ => Int
def F_ref07Op_L3 (g : Fam R_ref07Op_L3) : Fam R_ref07Op_L3
  | .ref07Op_L3 t at_ signs ops i => ref07Op_L3_B (fun t at_ signs ops i => g (I_ref07Op_L3.ref07Op_L3 t at_ signs ops i)) t at_ signs ops i
theorem D_ref07Op_L3 : ∀ i, Good (fun g => F_ref07Op_L3 g i)
  | .ref07Op_L3 t at_ signs ops i => show Good (fun g : Fam R_ref07Op_L3 => ref07Op_L3_B (fun t at_ signs ops i => g (I_ref07Op_L3.ref07Op_L3 t at_ signs ops i)) t at_ signs ops i) by unfold ref07Op_L3_B; exact (.ite (.bind (.const _) fun _ => (.bind (.const _) fun _ => (.ite (.bind (.const _) fun _ => (.const _)) (.call _)))) (.const _))
def ref07Op_L3 (t : List Token) (at_ : Int) (signs : List Str) (ops : List Int) (i : Int) : Option (Int) := fixF F_ref07Op_L3 (.ref07Op_L3 t at_ signs ops i)
theorem ref07Op_L3_eq (t : List Token) (at_ : Int) (signs : List Str) (ops : List Int) (i : Int) : ref07Op_L3 t at_ signs ops i = ref07Op_L3_B ref07Op_L3 t at_ signs ops i := fixF_eq D_ref07Op_L3 (.ref07Op_L3 t at_ signs ops i)
def ref07Ops (level : Int) : Option (List Str × List Int) :=
  if level = 1 then
    some ([([124, 124] : List UInt8)], [1])
  else
  if level = 2 then
    some ([([38, 38] : List UInt8)], [2])
  else
  if level = 3 then
    some ([([61, 61] : List UInt8), ([33, 61] : List UInt8), ([60] : List UInt8), ([60, 61] : List UInt8), ([62] : List UInt8), ([62, 61] : List UInt8)], [3, 4, 5, 6, 7, 8])
  else
  if level = 4 then
    some ([([43] : List UInt8), ([45] : List UInt8)], [9, 10])
  else
  some ([([42] : List UInt8), ([47] : List UInt8), ([37] : List UInt8)], [11, 12, 13])
def ref07Op (t : List Token) (at_ : Int) (level : Int) : Option (Int) :=
  ref07Ops level >>= fun q1 =>
  ref07Op_L3 t at_ q1.1 q1.2 0
def ref07Expr_B (ref07Level : (List Token) → Int → Int → Option (Ref07Got)) (t : List Token) (at_ : Int) : Option (Ref07Got) :=
  ref07Level t at_ 1 >>= fun q1 =>
  some (q1)
def ref07Level_B (ref07Level : (List Token) → Int → Int → Option (Ref07Got)) (ref07Level_L5 : (List Token) → Int → Int → Int → Ref07Got → Ref07Got → Option (Ref07Got)) (ref07Un : (List Token) → Int → Option (Ref07Got)) (t : List Token) (at_ : Int) (level : Int) : Option (Ref07Got) :=
  if level = 6 then
    ref07Un t at_ >>= fun q1 =>
    some (q1)
  else
  ref07Level t at_ (IntKind.wrap .i64 (level + 1)) >>= fun q2 =>
  ref07Level_L5 t at_ level 0 (Ref07Got.mk (Term.mk 0 0 ([] : List UInt8) [] 0 0) 0 0) q2
def ref07Level_L5_B (ref07Level : (List Token) → Int → Int → Option (Ref07Got)) (ref07Level_L5 : (List Token) → Int → Int → Int → Ref07Got → Ref07Got → Option (Ref07Got)) (t : List Token) (at_ : Int) (level : Int) (times : Int) (o6 : Ref07Got) (left : Ref07Got) : Option (Ref07Got) :=
  if left.E = 0 then
    ref07Op t left.At level >>= fun q1 =>
    if q1 = 0 then
      some (left)
    else
    if level = 3 then
      if times = 1 then
        some (left)
      else
      ref07Level t (IntKind.wrap .i64 (left.At + 1)) (IntKind.wrap .i64 (level + 1)) >>= fun q2 =>
      if q2.E = 0 then
        ref07Make t at_ q2.At 10 q1 ([] : List UInt8) [left.T_, q2.T_] >>= fun q3 =>
        ref07Level_L5 t at_ level (IntKind.wrap .i64 (times + 1)) o6 q3
      else
      some (q2)
    else
    ref07Level t (IntKind.wrap .i64 (left.At + 1)) (IntKind.wrap .i64 (level + 1)) >>= fun q4 =>
    if q4.E = 0 then
      ref07Make t at_ q4.At 10 q1 ([] : List UInt8) [left.T_, q4.T_] >>= fun q5 =>
      ref07Level_L5 t at_ level (IntKind.wrap .i64 (times + 1)) o6 q5
    else
    some (q4)
  else
  some (left)
def ref07Un_B (ref07Un : (List Token) → Int → Option (Ref07Got)) (ref07Post : (List Token) → Int → Option (Ref07Got)) (t : List Token) (at_ : Int) : Option (Ref07Got) :=
  ref07Sign t at_ ([45] : List UInt8) >>= fun q1 =>
  if q1 = true then
    ref07Sign t at_ ([33] : List UInt8) >>= fun q2 =>
    if q2 = true then
      if (2 : Int) = 0 then
        ref07Post t at_ >>= fun q3 =>
        some (q3)
      else
      ref07Un t (IntKind.wrap .i64 (at_ + 1)) >>= fun q4 =>
      if q4.E = 0 then
        ref07Make t at_ q4.At 11 2 ([] : List UInt8) [q4.T_] >>= fun q5 =>
        some (q5)
      else
      some (q4)
    else
    if (1 : Int) = 0 then
      ref07Post t at_ >>= fun q6 =>
      some (q6)
    else
    ref07Un t (IntKind.wrap .i64 (at_ + 1)) >>= fun q7 =>
    if q7.E = 0 then
      ref07Make t at_ q7.At 11 1 ([] : List UInt8) [q7.T_] >>= fun q8 =>
      some (q8)
    else
    some (q7)
  else
  ref07Sign t at_ ([33] : List UInt8) >>= fun q9 =>
  if q9 = true then
    if (2 : Int) = 0 then
      ref07Post t at_ >>= fun q10 =>
      some (q10)
    else
    ref07Un t (IntKind.wrap .i64 (at_ + 1)) >>= fun q11 =>
    if q11.E = 0 then
      ref07Make t at_ q11.At 11 2 ([] : List UInt8) [q11.T_] >>= fun q12 =>
      some (q12)
    else
    some (q11)
  else
  if (0 : Int) = 0 then
    ref07Post t at_ >>= fun q13 =>
    some (q13)
  else
  ref07Un t (IntKind.wrap .i64 (at_ + 1)) >>= fun q14 =>
  if q14.E = 0 then
    ref07Make t at_ q14.At 11 0 ([] : List UInt8) [q14.T_] >>= fun q15 =>
    some (q15)
  else
  some (q14)
def ref07Post_B (ref07Post_L2 : (List Token) → Int → Ref07Got → Ref07Got → Option (Ref07Got)) (ref07Atom : (List Token) → Int → Option (Ref07Got)) (t : List Token) (at_ : Int) : Option (Ref07Got) :=
  ref07Atom t at_ >>= fun q1 =>
  ref07Post_L2 t at_ (Ref07Got.mk (Term.mk 0 0 ([] : List UInt8) [] 0 0) 0 0) q1
def ref07Post_L2_B (ref07Expr : (List Token) → Int → Option (Ref07Got)) (ref07Post_L2 : (List Token) → Int → Ref07Got → Ref07Got → Option (Ref07Got)) (t : List Token) (at_ : Int) (o4 : Ref07Got) (x : Ref07Got) : Option (Ref07Got) :=
  if x.E = 0 then
    ref07Sign t x.At ([91] : List UInt8) >>= fun q1 =>
    if q1 = true then
      ref07Expr t (IntKind.wrap .i64 (x.At + 1)) >>= fun q2 =>
      if q2.E = 0 then
        ref07Sign t q2.At ([93] : List UInt8) >>= fun q3 =>
        if q3 = true then
          ref07Make t at_ (IntKind.wrap .i64 (q2.At + 1)) 12 0 ([] : List UInt8) [x.T_, q2.T_] >>= fun q5 =>
          ref07Post_L2 t at_ o4 q5
        else
        ref07Bad q2.At >>= fun q4 =>
        some (q4)
      else
      some (q2)
    else
    ref07Sign t x.At ([46] : List UInt8) >>= fun q6 =>
    if q6 = true then
      ref07Now t (IntKind.wrap .i64 (x.At + 1)) >>= fun q7 =>
      if q7.K = 1 then
        ref07Make t at_ (IntKind.wrap .i64 (x.At + 2)) 13 0 q7.S [x.T_] >>= fun q9 =>
        ref07Post_L2 t at_ o4 q9
      else
      ref07Bad (IntKind.wrap .i64 (x.At + 1)) >>= fun q8 =>
      some (q8)
    else
    some (x)
  else
  some (x)
def ref07Atom_B (ref07Expr : (List Token) → Int → Option (Ref07Got)) (ref07Called : (List Token) → Int → Option (Ref07Got)) (t : List Token) (at_ : Int) : Option (Ref07Got) :=
  ref07Now t at_ >>= fun q1 =>
  if q1.K = 2 then
    ref07Make t at_ (IntKind.wrap .i64 (at_ + 1)) 5 q1.N ([] : List UInt8) ([] : List Term) >>= fun q2 =>
    some (q2)
  else
  ref07Word t at_ ([116, 114, 117, 101] : List UInt8) >>= fun q3 =>
  if q3 = true then
    ref07Make t at_ (IntKind.wrap .i64 (at_ + 1)) 6 1 ([] : List UInt8) ([] : List Term) >>= fun q4 =>
    some (q4)
  else
  ref07Word t at_ ([102, 97, 108, 115, 101] : List UInt8) >>= fun q5 =>
  if q5 = true then
    ref07Make t at_ (IntKind.wrap .i64 (at_ + 1)) 6 0 ([] : List UInt8) ([] : List Term) >>= fun q6 =>
    some (q6)
  else
  ref07Word t at_ ([114, 101, 97, 100] : List UInt8) >>= fun q7 =>
  if q7 = true then
    ref07Make t at_ (IntKind.wrap .i64 (at_ + 1)) 18 0 ([] : List UInt8) ([] : List Term) >>= fun q8 =>
    some (q8)
  else
  if q1.K = 1 then
    ref07Sign t (IntKind.wrap .i64 (at_ + 1)) ([40] : List UInt8) >>= fun q9 =>
    if q9 = true then
      ref07Sign t at_ ([40] : List UInt8) >>= fun q11 =>
      if q11 = true then
        ref07Expr t (IntKind.wrap .i64 (at_ + 1)) >>= fun q12 =>
        if q12.E = 0 then
          ref07Sign t q12.At ([41] : List UInt8) >>= fun q13 =>
          if q13 = true then
            some ({ q12 with At := IntKind.wrap .i64 (q12.At + 1) })
          else
          ref07Bad q12.At >>= fun q14 =>
          some (q14)
        else
        some (q12)
      else
      ref07Called t at_ >>= fun q15 =>
      some (q15)
    else
    ref07Make t at_ (IntKind.wrap .i64 (at_ + 1)) 19 0 q1.S ([] : List Term) >>= fun q10 =>
    some (q10)
  else
  ref07Sign t at_ ([40] : List UInt8) >>= fun q16 =>
  if q16 = true then
    ref07Expr t (IntKind.wrap .i64 (at_ + 1)) >>= fun q17 =>
    if q17.E = 0 then
      ref07Sign t q17.At ([41] : List UInt8) >>= fun q18 =>
      if q18 = true then
        some ({ q17 with At := IntKind.wrap .i64 (q17.At + 1) })
      else
      ref07Bad q17.At >>= fun q19 =>
      some (q19)
    else
    some (q17)
  else
  ref07Called t at_ >>= fun q20 =>
  some (q20)
def ref07Called_B (ref07Closed : (List Token) → Int → Bool → Str → Str → Option (List Term × Int × Int)) (t : List Token) (at_ : Int) : Option (Ref07Got) :=
  ref07Now t at_ >>= fun q1 =>
  if q1.K = 1 then
    ref07Now t at_ >>= fun q2 =>
    ref07Closed t (IntKind.wrap .i64 (at_ + 1)) true ([40] : List UInt8) ([41] : List UInt8) >>= fun q3 =>
    if q3.2.2 = 0 then
      ref07Make t at_ q3.2.1 16 0 q2.S q3.1 >>= fun q4 =>
      some (q4)
    else
    some ((Ref07Got.mk (Term.mk 0 0 ([] : List UInt8) [] 0 0) q3.2.1 q3.2.2))
  else
  ref07Sign t at_ ([91] : List UInt8) >>= fun q5 =>
  if q5 = true then
    ref07Closed t at_ false ([91] : List UInt8) ([93] : List UInt8) >>= fun q6 =>
    if q6.2.2 = 0 then
      ref07Make t at_ q6.2.1 14 0 ([] : List UInt8) q6.1 >>= fun q7 =>
      some (q7)
    else
    some ((Ref07Got.mk (Term.mk 0 0 ([] : List UInt8) [] 0 0) q6.2.1 q6.2.2))
  else
  ref07Sign t at_ ([64] : List UInt8) >>= fun q8 =>
  if q8 = true then
    ref07Now t (IntKind.wrap .i64 (at_ + 1)) >>= fun q9 =>
    if q9.K = 1 then
      ref07Now t (IntKind.wrap .i64 (at_ + 1)) >>= fun q11 =>
      ref07Word t at_ ([110, 101, 119] : List UInt8) >>= fun q12 =>
      if q12 = true then
        ref07Closed t (IntKind.wrap .i64 (at_ + 2)) false ([40] : List UInt8) ([41] : List UInt8) >>= fun q13 =>
        if q13.2.2 = 0 then
          ref07Make t at_ q13.2.1 15 0 q11.S q13.1 >>= fun q14 =>
          some (q14)
        else
        some ((Ref07Got.mk (Term.mk 0 0 ([] : List UInt8) [] 0 0) q13.2.1 q13.2.2))
      else
      ref07Closed t (IntKind.wrap .i64 (at_ + 2)) true ([40] : List UInt8) ([41] : List UInt8) >>= fun q15 =>
      if q15.2.2 = 0 then
        ref07Make t at_ q15.2.1 17 0 q11.S q15.1 >>= fun q16 =>
        some (q16)
      else
      some ((Ref07Got.mk (Term.mk 0 0 ([] : List UInt8) [] 0 0) q15.2.1 q15.2.2))
    else
    ref07Bad (IntKind.wrap .i64 (at_ + 1)) >>= fun q10 =>
    some (q10)
  else
  ref07Word t at_ ([110, 101, 119] : List UInt8) >>= fun q17 =>
  if q17 = true then
    ref07Now t (IntKind.wrap .i64 (at_ + 1)) >>= fun q18 =>
    if q18.K = 1 then
      ref07Now t (IntKind.wrap .i64 (at_ + 1)) >>= fun q20 =>
      ref07Word t at_ ([110, 101, 119] : List UInt8) >>= fun q21 =>
      if q21 = true then
        ref07Closed t (IntKind.wrap .i64 (at_ + 2)) false ([40] : List UInt8) ([41] : List UInt8) >>= fun q22 =>
        if q22.2.2 = 0 then
          ref07Make t at_ q22.2.1 15 0 q20.S q22.1 >>= fun q23 =>
          some (q23)
        else
        some ((Ref07Got.mk (Term.mk 0 0 ([] : List UInt8) [] 0 0) q22.2.1 q22.2.2))
      else
      ref07Closed t (IntKind.wrap .i64 (at_ + 2)) true ([40] : List UInt8) ([41] : List UInt8) >>= fun q24 =>
      if q24.2.2 = 0 then
        ref07Make t at_ q24.2.1 17 0 q20.S q24.1 >>= fun q25 =>
        some (q25)
      else
      some ((Ref07Got.mk (Term.mk 0 0 ([] : List UInt8) [] 0 0) q24.2.1 q24.2.2))
    else
    ref07Bad (IntKind.wrap .i64 (at_ + 1)) >>= fun q19 =>
    some (q19)
  else
  ref07Bad at_ >>= fun q26 =>
  some (q26)
def ref07Closed_B (ref07List : (List Token) → Int → Option (List Term × Int × Int)) (t : List Token) (open_ : Int) (few : Bool) (first : Str) (last : Str) : Option (List Term × Int × Int) :=
  ref07Sign t open_ first >>= fun q1 =>
  if q1 = true then
    if few = true then
      ref07Sign t (IntKind.wrap .i64 (open_ + 1)) last >>= fun q2 =>
      if q2 = true then
        some (([] : List Term), IntKind.wrap .i64 (open_ + 2), 0)
      else
      ref07List t (IntKind.wrap .i64 (open_ + 1)) >>= fun q3 =>
      if q3.2.2 = 0 then
        ref07Sign t q3.2.1 last >>= fun q4 =>
        if q4 = true then
          some (q3.1, IntKind.wrap .i64 (q3.2.1 + 1), 0)
        else
        some (q3.1, q3.2.1, 6)
      else
      some (q3.1, q3.2.1, q3.2.2)
    else
    ref07List t (IntKind.wrap .i64 (open_ + 1)) >>= fun q5 =>
    if q5.2.2 = 0 then
      ref07Sign t q5.2.1 last >>= fun q6 =>
      if q6 = true then
        some (q5.1, IntKind.wrap .i64 (q5.2.1 + 1), 0)
      else
      some (q5.1, q5.2.1, 6)
    else
    some (q5.1, q5.2.1, q5.2.2)
  else
  some (([] : List Term), open_, 6)
def ref07List_B (ref07List_L2 : (List Token) → Int → (List Term) → Option (List Term × Int × Int)) (t : List Token) (at_ : Int) : Option (List Term × Int × Int) :=
  ref07List_L2 t at_ ([] : List Term)
def ref07List_L2_B (ref07Expr : (List Token) → Int → Option (Ref07Got)) (ref07List_L2 : (List Token) → Int → (List Term) → Option (List Term × Int × Int)) (t : List Token) (at_ : Int) (out : List Term) : Option (List Term × Int × Int) :=
  ref07Expr t at_ >>= fun q1 =>
  if q1.E = 0 then
    if roomy 72 (List.length out + List.length [q1.T_]) then
    ref07Sign t q1.At ([44] : List UInt8) >>= fun q2 =>
    if q2 = true then
      ref07List_L2 t (IntKind.wrap .i64 (q1.At + 1)) (out ++ [q1.T_])
    else
    some (out ++ [q1.T_], q1.At, 0)
    else none
  else
  some (out, q1.At, q1.E)
inductive I_ref07Expr where
  | ref07Expr (t : List Token) (at_ : Int)
  | ref07Level (t : List Token) (at_ : Int) (level : Int)
  | ref07Level_L5 (t : List Token) (at_ : Int) (level : Int) (times : Int) (o6 : Ref07Got) (left : Ref07Got)
  | ref07Un (t : List Token) (at_ : Int)
  | ref07Post (t : List Token) (at_ : Int)
  | ref07Post_L2 (t : List Token) (at_ : Int) (o4 : Ref07Got) (x : Ref07Got)
  | ref07Atom (t : List Token) (at_ : Int)
  | ref07Called (t : List Token) (at_ : Int)
  | ref07Closed (t : List Token) (open_ : Int) (few : Bool) (first : Str) (last : Str)
  | ref07List (t : List Token) (at_ : Int)
  | ref07List_L2 (t : List Token) (at_ : Int) (out : List Term)
@[reducible] def R_ref07Expr : I_ref07Expr → Type
  | .ref07Expr _ _ => Ref07Got
  | .ref07Level _ _ _ => Ref07Got
  | .ref07Level_L5 _ _ _ _ _ _ => Ref07Got
  | .ref07Un _ _ => Ref07Got
  | .ref07Post _ _ => Ref07Got
  | .ref07Post_L2 _ _ _ _ => Ref07Got
  | .ref07Atom _ _ => Ref07Got
  | .ref07Called _ _ => Ref07Got
  | .ref07Closed _ _ _ _ _ => List Term × Int × Int
  | .ref07List _ _ => List Term × Int × Int
  | .ref07List_L2 _ _ _ => List Term × Int × Int
def F_ref07Expr (g : Fam R_ref07Expr) : Fam R_ref07Expr
  | .ref07Expr t at_ => ref07Expr_B (fun t at_ level => g (I_ref07Expr.ref07Level t at_ level)) t at_
  | .ref07Level t at_ level => ref07Level_B (fun t at_ level => g (I_ref07Expr.ref07Level t at_ level)) (fun t at_ level times o6 left => g (I_ref07Expr.ref07Level_L5 t at_ level times o6 left)) (fun t at_ => g (I_ref07Expr.ref07Un t at_)) t at_ level
  | .ref07Level_L5 t at_ level times o6 left => ref07Level_L5_B (fun t at_ level => g (I_ref07Expr.ref07Level t at_ level)) (fun t at_ level times o6 left => g (I_ref07Expr.ref07Level_L5 t at_ level times o6 left)) t at_ level times o6 left
  | .ref07Un t at_ => ref07Un_B (fun t at_ => g (I_ref07Expr.ref07Un t at_)) (fun t at_ => g (I_ref07Expr.ref07Post t at_)) t at_
  | .ref07Post t at_ => ref07Post_B (fun t at_ o4 x => g (I_ref07Expr.ref07Post_L2 t at_ o4 x)) (fun t at_ => g (I_ref07Expr.ref07Atom t at_)) t at_
  | .ref07Post_L2 t at_ o4 x => ref07Post_L2_B (fun t at_ => g (I_ref07Expr.ref07Expr t at_)) (fun t at_ o4 x => g (I_ref07Expr.ref07Post_L2 t at_ o4 x)) t at_ o4 x
  | .ref07Atom t at_ => ref07Atom_B (fun t at_ => g (I_ref07Expr.ref07Expr t at_)) (fun t at_ => g (I_ref07Expr.ref07Called t at_)) t at_
  | .ref07Called t at_ => ref07Called_B (fun t open_ few first last => g (I_ref07Expr.ref07Closed t open_ few first last)) t at_
  | .ref07Closed t open_ few first last => ref07Closed_B (fun t at_ => g (I_ref07Expr.ref07List t at_)) t open_ few first last
  | .ref07List t at_ => ref07List_B (fun t at_ out => g (I_ref07Expr.ref07List_L2 t at_ out)) t at_
  | .ref07List_L2 t at_ out => ref07List_L2_B (fun t at_ => g (I_ref07Expr.ref07Expr t at_)) (fun t at_ out => g (I_ref07Expr.ref07List_L2 t at_ out)) t at_ out
theorem D_ref07Expr : ∀ i, Good (fun g => F_ref07Expr g i)
  | .ref07Expr t at_ => show Good (fun g : Fam R_ref07Expr => ref07Expr_B (fun t at_ level => g (I_ref07Expr.ref07Level t at_ level)) t at_) by unfold ref07Expr_B; exact (.bind (.call _) fun _ => (.const _))
  | .ref07Level t at_ level => show Good (fun g : Fam R_ref07Expr => ref07Level_B (fun t at_ level => g (I_ref07Expr.ref07Level t at_ level)) (fun t at_ level times o6 left => g (I_ref07Expr.ref07Level_L5 t at_ level times o6 left)) (fun t at_ => g (I_ref07Expr.ref07Un t at_)) t at_ level) by unfold ref07Level_B; exact (.ite (.bind (.call _) fun _ => (.const _)) (.bind (.call _) fun _ => (.call _)))
  | .ref07Level_L5 t at_ level times o6 left => show Good (fun g : Fam R_ref07Expr => ref07Level_L5_B (fun t at_ level => g (I_ref07Expr.ref07Level t at_ level)) (fun t at_ level times o6 left => g (I_ref07Expr.ref07Level_L5 t at_ level times o6 left)) t at_ level times o6 left) by unfold ref07Level_L5_B; exact (.ite (.bind (.const _) fun _ => (.ite (.const _) (.ite (.ite (.const _) (.bind (.call _) fun _ => (.ite (.bind (.const _) fun _ => (.call _)) (.const _)))) (.bind (.call _) fun _ => (.ite (.bind (.const _) fun _ => (.call _)) (.const _)))))) (.const _))
  | .ref07Un t at_ => show Good (fun g : Fam R_ref07Expr => ref07Un_B (fun t at_ => g (I_ref07Expr.ref07Un t at_)) (fun t at_ => g (I_ref07Expr.ref07Post t at_)) t at_) by unfold ref07Un_B; exact (.bind (.const _) fun _ => (.ite (.bind (.const _) fun _ => (.ite (.ite (.bind (.call _) fun _ => (.const _)) (.bind (.call _) fun _ => (.ite (.bind (.const _) fun _ => (.const _)) (.const _)))) (.ite (.bind (.call _) fun _ => (.const _)) (.bind (.call _) fun _ => (.ite (.bind (.const _) fun _ => (.const _)) (.const _)))))) (.bind (.const _) fun _ => (.ite (.ite (.bind (.call _) fun _ => (.const _)) (.bind (.call _) fun _ => (.ite (.bind (.const _) fun _ => (.const _)) (.const _)))) (.ite (.bind (.call _) fun _ => (.const _)) (.bind (.call _) fun _ => (.ite (.bind (.const _) fun _ => (.const _)) (.const _))))))))
  | .ref07Post t at_ => show Good (fun g : Fam R_ref07Expr => ref07Post_B (fun t at_ o4 x => g (I_ref07Expr.ref07Post_L2 t at_ o4 x)) (fun t at_ => g (I_ref07Expr.ref07Atom t at_)) t at_) by unfold ref07Post_B; exact (.bind (.call _) fun _ => (.call _))
  | .ref07Post_L2 t at_ o4 x => show Good (fun g : Fam R_ref07Expr => ref07Post_L2_B (fun t at_ => g (I_ref07Expr.ref07Expr t at_)) (fun t at_ o4 x => g (I_ref07Expr.ref07Post_L2 t at_ o4 x)) t at_ o4 x) by unfold ref07Post_L2_B; exact (.ite (.bind (.const _) fun _ => (.ite (.bind (.call _) fun _ => (.ite (.bind (.const _) fun _ => (.ite (.bind (.const _) fun _ => (.call _)) (.bind (.const _) fun _ => (.const _)))) (.const _))) (.bind (.const _) fun _ => (.ite (.bind (.const _) fun _ => (.ite (.bind (.const _) fun _ => (.call _)) (.bind (.const _) fun _ => (.const _)))) (.const _))))) (.const _))
  | .ref07Atom t at_ => show Good (fun g : Fam R_ref07Expr => ref07Atom_B (fun t at_ => g (I_ref07Expr.ref07Expr t at_)) (fun t at_ => g (I_ref07Expr.ref07Called t at_)) t at_) by unfold ref07Atom_B; exact (.bind (.const _) fun _ => (.ite (.bind (.const _) fun _ => (.const _)) (.bind (.const _) fun _ => (.ite (.bind (.const _) fun _ => (.const _)) (.bind (.const _) fun _ => (.ite (.bind (.const _) fun _ => (.const _)) (.bind (.const _) fun _ => (.ite (.bind (.const _) fun _ => (.const _)) (.ite (.bind (.const _) fun _ => (.ite (.bind (.const _) fun _ => (.ite (.bind (.call _) fun _ => (.ite (.bind (.const _) fun _ => (.ite (.const _) (.bind (.const _) fun _ => (.const _)))) (.const _))) (.bind (.call _) fun _ => (.const _)))) (.bind (.const _) fun _ => (.const _)))) (.bind (.const _) fun _ => (.ite (.bind (.call _) fun _ => (.ite (.bind (.const _) fun _ => (.ite (.const _) (.bind (.const _) fun _ => (.const _)))) (.const _))) (.bind (.call _) fun _ => (.const _)))))))))))))
  | .ref07Called t at_ => show Good (fun g : Fam R_ref07Expr => ref07Called_B (fun t open_ few first last => g (I_ref07Expr.ref07Closed t open_ few first last)) t at_) by unfold ref07Called_B; exact (.bind (.const _) fun _ => (.ite (.bind (.const _) fun _ => (.bind (.call _) fun _ => (.ite (.bind (.const _) fun _ => (.const _)) (.const _)))) (.bind (.const _) fun _ => (.ite (.bind (.call _) fun _ => (.ite (.bind (.const _) fun _ => (.const _)) (.const _))) (.bind (.const _) fun _ => (.ite (.bind (.const _) fun _ => (.ite (.bind (.const _) fun _ => (.bind (.const _) fun _ => (.ite (.bind (.call _) fun _ => (.ite (.bind (.const _) fun _ => (.const _)) (.const _))) (.bind (.call _) fun _ => (.ite (.bind (.const _) fun _ => (.const _)) (.const _)))))) (.bind (.const _) fun _ => (.const _)))) (.bind (.const _) fun _ => (.ite (.bind (.const _) fun _ => (.ite (.bind (.const _) fun _ => (.bind (.const _) fun _ => (.ite (.bind (.call _) fun _ => (.ite (.bind (.const _) fun _ => (.const _)) (.const _))) (.bind (.call _) fun _ => (.ite (.bind (.const _) fun _ => (.const _)) (.const _)))))) (.bind (.const _) fun _ => (.const _)))) (.bind (.const _) fun _ => (.const _))))))))))
  | .ref07Closed t open_ few first last => show Good (fun g : Fam R_ref07Expr => ref07Closed_B (fun t at_ => g (I_ref07Expr.ref07List t at_)) t open_ few first last) by unfold ref07Closed_B; exact (.bind (.const _) fun _ => (.ite (.ite (.bind (.const _) fun _ => (.ite (.const _) (.bind (.call _) fun _ => (.ite (.bind (.const _) fun _ => (.ite (.const _) (.const _))) (.const _))))) (.bind (.call _) fun _ => (.ite (.bind (.const _) fun _ => (.ite (.const _) (.const _))) (.const _)))) (.const _)))
  | .ref07List t at_ => show Good (fun g : Fam R_ref07Expr => ref07List_B (fun t at_ out => g (I_ref07Expr.ref07List_L2 t at_ out)) t at_) by unfold ref07List_B; exact (.call _)
  | .ref07List_L2 t at_ out => show Good (fun g : Fam R_ref07Expr => ref07List_L2_B (fun t at_ => g (I_ref07Expr.ref07Expr t at_)) (fun t at_ out => g (I_ref07Expr.ref07List_L2 t at_ out)) t at_ out) by unfold ref07List_L2_B; exact (.bind (.call _) fun _ => (.ite (.ite (.bind (.const _) fun _ => (.ite (.call _) (.const _))) (.const _)) (.const _)))
def ref07Expr (t : List Token) (at_ : Int) : Option (Ref07Got) := fixF F_ref07Expr (.ref07Expr t at_)
def ref07Level (t : List Token) (at_ : Int) (level : Int) : Option (Ref07Got) := fixF F_ref07Expr (.ref07Level t at_ level)
def ref07Level_L5 (t : List Token) (at_ : Int) (level : Int) (times : Int) (o6 : Ref07Got) (left : Ref07Got) : Option (Ref07Got) := fixF F_ref07Expr (.ref07Level_L5 t at_ level times o6 left)
def ref07Un (t : List Token) (at_ : Int) : Option (Ref07Got) := fixF F_ref07Expr (.ref07Un t at_)
def ref07Post (t : List Token) (at_ : Int) : Option (Ref07Got) := fixF F_ref07Expr (.ref07Post t at_)
def ref07Post_L2 (t : List Token) (at_ : Int) (o4 : Ref07Got) (x : Ref07Got) : Option (Ref07Got) := fixF F_ref07Expr (.ref07Post_L2 t at_ o4 x)
def ref07Atom (t : List Token) (at_ : Int) : Option (Ref07Got) := fixF F_ref07Expr (.ref07Atom t at_)
def ref07Called (t : List Token) (at_ : Int) : Option (Ref07Got) := fixF F_ref07Expr (.ref07Called t at_)
def ref07Closed (t : List Token) (open_ : Int) (few : Bool) (first : Str) (last : Str) : Option (List Term × Int × Int) := fixF F_ref07Expr (.ref07Closed t open_ few first last)
def ref07List (t : List Token) (at_ : Int) : Option (List Term × Int × Int) := fixF F_ref07Expr (.ref07List t at_)
def ref07List_L2 (t : List Token) (at_ : Int) (out : List Term) : Option (List Term × Int × Int) := fixF F_ref07Expr (.ref07List_L2 t at_ out)
theorem ref07Expr_eq (t : List Token) (at_ : Int) : ref07Expr t at_ = ref07Expr_B ref07Level t at_ := fixF_eq D_ref07Expr (.ref07Expr t at_)
theorem ref07Level_eq (t : List Token) (at_ : Int) (level : Int) : ref07Level t at_ level = ref07Level_B ref07Level ref07Level_L5 ref07Un t at_ level := fixF_eq D_ref07Expr (.ref07Level t at_ level)
theorem ref07Level_L5_eq (t : List Token) (at_ : Int) (level : Int) (times : Int) (o6 : Ref07Got) (left : Ref07Got) : ref07Level_L5 t at_ level times o6 left = ref07Level_L5_B ref07Level ref07Level_L5 t at_ level times o6 left := fixF_eq D_ref07Expr (.ref07Level_L5 t at_ level times o6 left)
theorem ref07Un_eq (t : List Token) (at_ : Int) : ref07Un t at_ = ref07Un_B ref07Un ref07Post t at_ := fixF_eq D_ref07Expr (.ref07Un t at_)
theorem ref07Post_eq (t : List Token) (at_ : Int) : ref07Post t at_ = ref07Post_B ref07Post_L2 ref07Atom t at_ := fixF_eq D_ref07Expr (.ref07Post t at_)
theorem ref07Post_L2_eq (t : List Token) (at_ : Int) (o4 : Ref07Got) (x : Ref07Got) : ref07Post_L2 t at_ o4 x = ref07Post_L2_B ref07Expr ref07Post_L2 t at_ o4 x := fixF_eq D_ref07Expr (.ref07Post_L2 t at_ o4 x)
theorem ref07Atom_eq (t : List Token) (at_ : Int) : ref07Atom t at_ = ref07Atom_B ref07Expr ref07Called t at_ := fixF_eq D_ref07Expr (.ref07Atom t at_)
theorem ref07Called_eq (t : List Token) (at_ : Int) : ref07Called t at_ = ref07Called_B ref07Closed t at_ := fixF_eq D_ref07Expr (.ref07Called t at_)
theorem ref07Closed_eq (t : List Token) (open_ : Int) (few : Bool) (first : Str) (last : Str) : ref07Closed t open_ few first last = ref07Closed_B ref07List t open_ few first last := fixF_eq D_ref07Expr (.ref07Closed t open_ few first last)
theorem ref07List_eq (t : List Token) (at_ : Int) : ref07List t at_ = ref07List_B ref07List_L2 t at_ := fixF_eq D_ref07Expr (.ref07List t at_)
theorem ref07List_L2_eq (t : List Token) (at_ : Int) (out : List Term) : ref07List_L2 t at_ out = ref07List_L2_B ref07Expr ref07List_L2 t at_ out := fixF_eq D_ref07Expr (.ref07List_L2 t at_ out)
def ref07Type_B (ref07Type : (List Token) → Int → Option (Ref07Got)) (t : List Token) (at_ : Int) : Option (Ref07Got) :=
  ref07Word t at_ ([105, 110, 116] : List UInt8) >>= fun q1 =>
  if q1 = true then
    ref07Make t at_ (IntKind.wrap .i64 (at_ + 1)) 1 0 ([] : List UInt8) ([] : List Term) >>= fun q2 =>
    some (q2)
  else
  ref07Word t at_ ([98, 111, 111, 108] : List UInt8) >>= fun q3 =>
  if q3 = true then
    ref07Make t at_ (IntKind.wrap .i64 (at_ + 1)) 2 0 ([] : List UInt8) ([] : List Term) >>= fun q4 =>
    some (q4)
  else
  ref07Now t at_ >>= fun q5 =>
  if q5.K = 1 then
    ref07Now t at_ >>= fun q6 =>
    ref07Make t at_ (IntKind.wrap .i64 (at_ + 1)) 4 0 q6.S ([] : List Term) >>= fun q7 =>
    some (q7)
  else
  ref07Sign t at_ ([91] : List UInt8) >>= fun q8 =>
  if q8 = true then
    ref07Now t (IntKind.wrap .i64 (at_ + 1)) >>= fun q10 =>
    if q10.K = 2 then
      ref07Sign t (IntKind.wrap .i64 (at_ + 2)) ([93] : List UInt8) >>= fun q12 =>
      if q12 = true then
        ref07Type t (IntKind.wrap .i64 (at_ + 3)) >>= fun q14 =>
        if q14.E = 0 then
          ref07Now t (IntKind.wrap .i64 (at_ + 1)) >>= fun q15 =>
          ref07Make t at_ q14.At 3 q15.N ([] : List UInt8) [q14.T_] >>= fun q16 =>
          some (q16)
        else
        some (q14)
      else
      ref07Bad (IntKind.wrap .i64 (at_ + 2)) >>= fun q13 =>
      some (q13)
    else
    ref07Bad (IntKind.wrap .i64 (at_ + 1)) >>= fun q11 =>
    some (q11)
  else
  ref07Bad at_ >>= fun q9 =>
  some (q9)
inductive I_ref07Type where
  | ref07Type (t : List Token) (at_ : Int)
@[reducible] def R_ref07Type : I_ref07Type → Type
  | .ref07Type _ _ => Ref07Got
def F_ref07Type (g : Fam R_ref07Type) : Fam R_ref07Type
  | .ref07Type t at_ => ref07Type_B (fun t at_ => g (I_ref07Type.ref07Type t at_)) t at_
theorem D_ref07Type : ∀ i, Good (fun g => F_ref07Type g i)
  | .ref07Type t at_ => show Good (fun g : Fam R_ref07Type => ref07Type_B (fun t at_ => g (I_ref07Type.ref07Type t at_)) t at_) by unfold ref07Type_B; exact (.bind (.const _) fun _ => (.ite (.bind (.const _) fun _ => (.const _)) (.bind (.const _) fun _ => (.ite (.bind (.const _) fun _ => (.const _)) (.bind (.const _) fun _ => (.ite (.bind (.const _) fun _ => (.bind (.const _) fun _ => (.const _))) (.bind (.const _) fun _ => (.ite (.bind (.const _) fun _ => (.ite (.bind (.const _) fun _ => (.ite (.bind (.call _) fun _ => (.ite (.bind (.const _) fun _ => (.bind (.const _) fun _ => (.const _))) (.const _))) (.bind (.const _) fun _ => (.const _)))) (.bind (.const _) fun _ => (.const _)))) (.bind (.const _) fun _ => (.const _))))))))))
def ref07Type (t : List Token) (at_ : Int) : Option (Ref07Got) := fixF F_ref07Type (.ref07Type t at_)
theorem ref07Type_eq (t : List Token) (at_ : Int) : ref07Type t at_ = ref07Type_B ref07Type t at_ := fixF_eq D_ref07Type (.ref07Type t at_)
def ref08Stmt_B (ref08Stmt_L8 : (List Token) → Int → Int → (List Ref08Item) → (List Term) → Str → Int → Int → Ref07Got → Option (Ref07Got)) (ref08Block : (List Token) → Int → Option (Ref07Got)) (t : List Token) (at_ : Int) : Option (Ref07Got) :=
  ref07Sign t at_ ([123] : List UInt8) >>= fun q1 =>
  if q1 = true then
    ref08Block t at_ >>= fun q2 =>
    some (q2)
  else
  ref08Form t at_ >>= fun q3 =>
  ref08Stmt_L8 t at_ q3.1 q3.2 ([] : List Term) ([] : List UInt8) at_ 0 (Ref07Got.mk (Term.mk 0 0 ([] : List UInt8) [] 0 0) 0 0)
def ref08Stmt_L8_B (ref08Stmt_L8 : (List Token) → Int → Int → (List Ref08Item) → (List Term) → Str → Int → Int → Ref07Got → Option (Ref07Got)) (ref08Part : (List Token) → Int → Str → Option (Ref07Got)) (t : List Token) (at_ : Int) (kind : Int) (form : List Ref08Item) (parts : List Term) (name : Str) (to_ : Int) (i : Int) (o4 : Ref07Got) : Option (Ref07Got) :=
  if i < (List.length form : Int) then
    idx form i >>= fun x =>
    if x.What = ([119, 111, 114, 100] : List UInt8) then
      idx form i >>= fun x1 =>
      ref07Word t to_ x1.S >>= fun q1 =>
      if q1 = true then
        ref08Stmt_L8 t at_ kind form parts name (IntKind.wrap .i64 (to_ + 1)) (IntKind.wrap .i64 (i + 1)) o4
      else
      ref07Bad to_ >>= fun q2 =>
      some (q2)
    else
    if x.What = ([115, 105, 103, 110] : List UInt8) then
      idx form i >>= fun x6 =>
      ref07Sign t to_ x6.S >>= fun q11 =>
      if q11 = true then
        ref08Stmt_L8 t at_ kind form parts name (IntKind.wrap .i64 (to_ + 1)) (IntKind.wrap .i64 (i + 1)) o4
      else
      ref07Bad to_ >>= fun q12 =>
      some (q12)
    else
    if x.What = ([110, 97, 109, 101] : List UInt8) then
      ref07Now t to_ >>= fun q13 =>
      if q13.K = 1 then
        idx t to_ >>= fun x7 =>
        ref08Stmt_L8 t at_ kind form parts x7.S (IntKind.wrap .i64 (to_ + 1)) (IntKind.wrap .i64 (i + 1)) o4
      else
      ref07Bad to_ >>= fun q14 =>
      some (q14)
    else
    if x.What = ([101, 108, 115, 101] : List UInt8) then
      ref07Word t to_ ([101, 108, 115, 101] : List UInt8) >>= fun q15 =>
      if q15 = true then
        ref08Part t (IntKind.wrap .i64 (to_ + 1)) x.What >>= fun q16 =>
        if q16.E = 0 then
          if roomy 72 (List.length parts + List.length [q16.T_]) then
          ref08Stmt_L8 t at_ kind form (parts ++ [q16.T_]) name q16.At (IntKind.wrap .i64 (i + 1)) o4
          else none
        else
        some (q16)
      else
      idx t (IntKind.wrap .i64 (to_ - 1)) >>= fun x8 =>
      if roomy 72 (List.length parts + List.length [(Term.mk 29 0 ([] : List UInt8) [] x8.To x8.To)]) then
      ref08Stmt_L8 t at_ kind form (parts ++ [(Term.mk 29 0 ([] : List UInt8) [] x8.To x8.To)]) name to_ (IntKind.wrap .i64 (i + 1)) o4
      else none
    else
    ref08Part t to_ x.What >>= fun q19 =>
    if q19.E = 0 then
      if roomy 72 (List.length parts + List.length [q19.T_]) then
      ref08Stmt_L8 t at_ kind form (parts ++ [q19.T_]) name q19.At (IntKind.wrap .i64 (i + 1)) o4
      else none
    else
    some (q19)
  else
  ref07Make t at_ to_ kind 0 name parts >>= fun q20 =>
  some (q20)
def ref08Block_B (ref08Block_L5 : (List Token) → Int → (List Term) → Int → Ref07Got → Option (Ref07Got)) (t : List Token) (at_ : Int) : Option (Ref07Got) :=
  ref07Sign t at_ ([123] : List UInt8) >>= fun q1 =>
  if q1 = true then
    ref08Block_L5 t at_ ([] : List Term) (IntKind.wrap .i64 (at_ + 1)) (Ref07Got.mk (Term.mk 0 0 ([] : List UInt8) [] 0 0) 0 0)
  else
  ref07Bad at_ >>= fun q2 =>
  some (q2)
def ref08Block_L5_B (ref08Stmt : (List Token) → Int → Option (Ref07Got)) (ref08Block_L5 : (List Token) → Int → (List Term) → Int → Ref07Got → Option (Ref07Got)) (t : List Token) (at_ : Int) (parts : List Term) (to_ : Int) (o4 : Ref07Got) : Option (Ref07Got) :=
  ref07Sign t to_ ([125] : List UInt8) >>= fun q1 =>
  if q1 = true then
    ref07Make t at_ (IntKind.wrap .i64 (to_ + 1)) 29 0 ([] : List UInt8) parts >>= fun q3 =>
    some (q3)
  else
  ref08Stmt t to_ >>= fun q2 =>
  if q2.E = 0 then
    if roomy 72 (List.length parts + List.length [q2.T_]) then
    ref08Block_L5 t at_ (parts ++ [q2.T_]) q2.At o4
    else none
  else
  some (q2)
def ref08Part_B (ref08Block : (List Token) → Int → Option (Ref07Got)) (t : List Token) (at_ : Int) (what : Str) : Option (Ref07Got) :=
  if what = ([101, 120, 112, 114] : List UInt8) then
    ref07Expr t at_ >>= fun q1 =>
    some (q1)
  else
  if what = ([116, 121, 112, 101] : List UInt8) then
    ref07Type t at_ >>= fun q2 =>
    some (q2)
  else
  ref08Block t at_ >>= fun q3 =>
  some (q3)
inductive I_ref08Stmt where
  | ref08Stmt (t : List Token) (at_ : Int)
  | ref08Stmt_L8 (t : List Token) (at_ : Int) (kind : Int) (form : List Ref08Item) (parts : List Term) (name : Str) (to_ : Int) (i : Int) (o4 : Ref07Got)
  | ref08Block (t : List Token) (at_ : Int)
  | ref08Block_L5 (t : List Token) (at_ : Int) (parts : List Term) (to_ : Int) (o4 : Ref07Got)
  | ref08Part (t : List Token) (at_ : Int) (what : Str)
@[reducible] def R_ref08Stmt : I_ref08Stmt → Type
  | .ref08Stmt _ _ => Ref07Got
  | .ref08Stmt_L8 _ _ _ _ _ _ _ _ _ => Ref07Got
  | .ref08Block _ _ => Ref07Got
  | .ref08Block_L5 _ _ _ _ _ => Ref07Got
  | .ref08Part _ _ _ => Ref07Got
def F_ref08Stmt (g : Fam R_ref08Stmt) : Fam R_ref08Stmt
  | .ref08Stmt t at_ => ref08Stmt_B (fun t at_ kind form parts name to_ i o4 => g (I_ref08Stmt.ref08Stmt_L8 t at_ kind form parts name to_ i o4)) (fun t at_ => g (I_ref08Stmt.ref08Block t at_)) t at_
  | .ref08Stmt_L8 t at_ kind form parts name to_ i o4 => ref08Stmt_L8_B (fun t at_ kind form parts name to_ i o4 => g (I_ref08Stmt.ref08Stmt_L8 t at_ kind form parts name to_ i o4)) (fun t at_ what => g (I_ref08Stmt.ref08Part t at_ what)) t at_ kind form parts name to_ i o4
  | .ref08Block t at_ => ref08Block_B (fun t at_ parts to_ o4 => g (I_ref08Stmt.ref08Block_L5 t at_ parts to_ o4)) t at_
  | .ref08Block_L5 t at_ parts to_ o4 => ref08Block_L5_B (fun t at_ => g (I_ref08Stmt.ref08Stmt t at_)) (fun t at_ parts to_ o4 => g (I_ref08Stmt.ref08Block_L5 t at_ parts to_ o4)) t at_ parts to_ o4
  | .ref08Part t at_ what => ref08Part_B (fun t at_ => g (I_ref08Stmt.ref08Block t at_)) t at_ what
theorem D_ref08Stmt : ∀ i, Good (fun g => F_ref08Stmt g i)
  | .ref08Stmt t at_ => show Good (fun g : Fam R_ref08Stmt => ref08Stmt_B (fun t at_ kind form parts name to_ i o4 => g (I_ref08Stmt.ref08Stmt_L8 t at_ kind form parts name to_ i o4)) (fun t at_ => g (I_ref08Stmt.ref08Block t at_)) t at_) by unfold ref08Stmt_B; exact (.bind (.const _) fun _ => (.ite (.bind (.call _) fun _ => (.const _)) (.bind (.const _) fun _ => (.call _))))
  | .ref08Stmt_L8 t at_ kind form parts name to_ i o4 => show Good (fun g : Fam R_ref08Stmt => ref08Stmt_L8_B (fun t at_ kind form parts name to_ i o4 => g (I_ref08Stmt.ref08Stmt_L8 t at_ kind form parts name to_ i o4)) (fun t at_ what => g (I_ref08Stmt.ref08Part t at_ what)) t at_ kind form parts name to_ i o4) by unfold ref08Stmt_L8_B; exact (.ite (.bind (.const _) fun _ => (.ite (.bind (.const _) fun _ => (.bind (.const _) fun _ => (.ite (.call _) (.bind (.const _) fun _ => (.const _))))) (.ite (.bind (.const _) fun _ => (.bind (.const _) fun _ => (.ite (.call _) (.bind (.const _) fun _ => (.const _))))) (.ite (.bind (.const _) fun _ => (.ite (.bind (.const _) fun _ => (.call _)) (.bind (.const _) fun _ => (.const _)))) (.ite (.bind (.const _) fun _ => (.ite (.bind (.call _) fun _ => (.ite (.ite (.call _) (.const _)) (.const _))) (.bind (.const _) fun _ => (.ite (.call _) (.const _))))) (.bind (.call _) fun _ => (.ite (.ite (.call _) (.const _)) (.const _)))))))) (.bind (.const _) fun _ => (.const _)))
  | .ref08Block t at_ => show Good (fun g : Fam R_ref08Stmt => ref08Block_B (fun t at_ parts to_ o4 => g (I_ref08Stmt.ref08Block_L5 t at_ parts to_ o4)) t at_) by unfold ref08Block_B; exact (.bind (.const _) fun _ => (.ite (.call _) (.bind (.const _) fun _ => (.const _))))
  | .ref08Block_L5 t at_ parts to_ o4 => show Good (fun g : Fam R_ref08Stmt => ref08Block_L5_B (fun t at_ => g (I_ref08Stmt.ref08Stmt t at_)) (fun t at_ parts to_ o4 => g (I_ref08Stmt.ref08Block_L5 t at_ parts to_ o4)) t at_ parts to_ o4) by unfold ref08Block_L5_B; exact (.bind (.const _) fun _ => (.ite (.bind (.const _) fun _ => (.const _)) (.bind (.call _) fun _ => (.ite (.ite (.call _) (.const _)) (.const _)))))
  | .ref08Part t at_ what => show Good (fun g : Fam R_ref08Stmt => ref08Part_B (fun t at_ => g (I_ref08Stmt.ref08Block t at_)) t at_ what) by unfold ref08Part_B; exact (.ite (.bind (.const _) fun _ => (.const _)) (.ite (.bind (.const _) fun _ => (.const _)) (.bind (.call _) fun _ => (.const _))))
def ref08Stmt (t : List Token) (at_ : Int) : Option (Ref07Got) := fixF F_ref08Stmt (.ref08Stmt t at_)
def ref08Stmt_L8 (t : List Token) (at_ : Int) (kind : Int) (form : List Ref08Item) (parts : List Term) (name : Str) (to_ : Int) (i : Int) (o4 : Ref07Got) : Option (Ref07Got) := fixF F_ref08Stmt (.ref08Stmt_L8 t at_ kind form parts name to_ i o4)
def ref08Block (t : List Token) (at_ : Int) : Option (Ref07Got) := fixF F_ref08Stmt (.ref08Block t at_)
def ref08Block_L5 (t : List Token) (at_ : Int) (parts : List Term) (to_ : Int) (o4 : Ref07Got) : Option (Ref07Got) := fixF F_ref08Stmt (.ref08Block_L5 t at_ parts to_ o4)
def ref08Part (t : List Token) (at_ : Int) (what : Str) : Option (Ref07Got) := fixF F_ref08Stmt (.ref08Part t at_ what)
theorem ref08Stmt_eq (t : List Token) (at_ : Int) : ref08Stmt t at_ = ref08Stmt_B ref08Stmt_L8 ref08Block t at_ := fixF_eq D_ref08Stmt (.ref08Stmt t at_)
theorem ref08Stmt_L8_eq (t : List Token) (at_ : Int) (kind : Int) (form : List Ref08Item) (parts : List Term) (name : Str) (to_ : Int) (i : Int) (o4 : Ref07Got) : ref08Stmt_L8 t at_ kind form parts name to_ i o4 = ref08Stmt_L8_B ref08Stmt_L8 ref08Part t at_ kind form parts name to_ i o4 := fixF_eq D_ref08Stmt (.ref08Stmt_L8 t at_ kind form parts name to_ i o4)
theorem ref08Block_eq (t : List Token) (at_ : Int) : ref08Block t at_ = ref08Block_B ref08Block_L5 t at_ := fixF_eq D_ref08Stmt (.ref08Block t at_)
theorem ref08Block_L5_eq (t : List Token) (at_ : Int) (parts : List Term) (to_ : Int) (o4 : Ref07Got) : ref08Block_L5 t at_ parts to_ o4 = ref08Block_L5_B ref08Stmt ref08Block_L5 t at_ parts to_ o4 := fixF_eq D_ref08Stmt (.ref08Block_L5 t at_ parts to_ o4)
theorem ref08Part_eq (t : List Token) (at_ : Int) (what : Str) : ref08Part t at_ what = ref08Part_B ref08Block t at_ what := fixF_eq D_ref08Stmt (.ref08Part t at_ what)
def stmt_start_reader_stmt (t : List Token) (at_ : Int) : Option (Term × Int × Int) :=
  if at_ < 0 then
    some ((Term.mk 0 0 ([] : List UInt8) [] 0 0), 0, 13)
  else
  if at_ > (List.length t : Int) then
    some ((Term.mk 0 0 ([] : List UInt8) [] 0 0), 0, 13)
  else
  stmt_reader_stmt t at_ 0 >>= fun q1 =>
  if q1.2.2.2 = 0 then
    some (q1.1, q1.2.2.1, 0)
  else
  some ((Term.mk 0 0 ([] : List UInt8) [] 0 0), q1.2.2.1, q1.2.2.2)
def stmt_Parse (t : List Token) (at_ : Int) : Option (Term × Int × Int) :=
  stmt_start_reader_stmt t at_ >>= fun q1 =>
  some (q1.1, q1.2.1, q1.2.2)
def law08StmtReads (t : List Token) (at_ : Int) : Option (Bool) :=
  if (List.length t : Int) > 300 then
    law08awake >>= fun q1 =>
    some (q1)
  else
  stmt_Parse t at_ >>= fun q2 =>
  if at_ ≥ 0 then
    if at_ ≤ (List.length t : Int) then
      ref08Stmt t at_ >>= fun q3 =>
      law08same q2.1 q2.2.1 q2.2.2 t at_ q3 >>= fun q4 =>
      if q4 = true then
        law08awake >>= fun q5 =>
        some (q5)
      else
      some (false)
    else
    law08same q2.1 q2.2.1 q2.2.2 t at_ (Ref07Got.mk (Term.mk 0 0 ([] : List UInt8) [] 0 0) 0 0) >>= fun q6 =>
    if q6 = true then
      law08awake >>= fun q7 =>
      some (q7)
    else
    some (false)
  else
  law08same q2.1 q2.2.1 q2.2.2 t at_ (Ref07Got.mk (Term.mk 0 0 ([] : List UInt8) [] 0 0) 0 0) >>= fun q8 =>
  if q8 = true then
    law08awake >>= fun q9 =>
    some (q9)
  else
  some (false)
def law08StmtBlocks (t : List Token) (at_ : Int) : Option (Bool) :=
  if (List.length t : Int) > 300 then
    law08awake >>= fun q1 =>
    some (q1)
  else
  stmt_Block t at_ >>= fun q2 =>
  if at_ ≥ 0 then
    if at_ ≤ (List.length t : Int) then
      ref08Block t at_ >>= fun q3 =>
      law08same q2.1 q2.2.1 q2.2.2 t at_ q3 >>= fun q4 =>
      if q4 = true then
        law08awake >>= fun q5 =>
        some (q5)
      else
      some (false)
    else
    law08same q2.1 q2.2.1 q2.2.2 t at_ (Ref07Got.mk (Term.mk 0 0 ([] : List UInt8) [] 0 0) 0 0) >>= fun q6 =>
    if q6 = true then
      law08awake >>= fun q7 =>
      some (q7)
    else
    some (false)
  else
  law08same q2.1 q2.2.1 q2.2.2 t at_ (Ref07Got.mk (Term.mk 0 0 ([] : List UInt8) [] 0 0) 0 0) >>= fun q8 =>
  if q8 = true then
    law08awake >>= fun q9 =>
    some (q9)
  else
  some (false)
def ref05Begins (text : Str) (at_ : Int) (s : Str) : Option (Bool) :=
  if (List.length s : Int) ≤ (IntKind.wrap .i64 ((List.length text : Int) - at_)) then
    if (0 : Int) ≤ (IntKind.wrap .i64 (at_ + (List.length s : Int))) then
    if Int.toNat (IntKind.wrap .i64 (at_ + (List.length s : Int))) ≤ List.length text then
    if (0 : Int) ≤ at_ then
    if Int.toNat at_ ≤ Int.toNat (IntKind.wrap .i64 (at_ + (List.length s : Int))) then
    some (((List.drop (Int.toNat at_) (List.take (Int.toNat (IntKind.wrap .i64 (at_ + (List.length s : Int)))) text)) == s))
    else none
    else none
    else none
    else none
  else
  some (false)
def ref05Blank (c : Int) : Option (Bool) :=
  if c = 32 then
    some (true)
  else
  if c = 9 then
    some (true)
  else
  if c = 10 then
    some (true)
  else
  some ((c == 13))
def ref05Next_L1_B (ref05Next_L1 : Str → Int → Option (Int)) (ref05Next_L5 : Str → Int → Option (Int)) (text : Str) (at_ : Int) : Option (Int) :=
  if at_ < (List.length text : Int) then
    idx text at_ >>= fun c =>
    ref05Blank (Int.ofNat (UInt8.toNat c)) >>= fun q1 =>
    if q1 = true then
      ref05Next_L1 text (IntKind.wrap .i64 (at_ + 1))
    else
    ref05Begins text at_ ([47, 47] : List UInt8) >>= fun q2 =>
    if q2 = true then
      ref05Next_L5 text at_
    else
    some (at_)
  else
  some (at_)
def ref05Next_L5_B (ref05Next_L1 : Str → Int → Option (Int)) (ref05Next_L5 : Str → Int → Option (Int)) (text : Str) (at_ : Int) : Option (Int) :=
  if at_ < (List.length text : Int) then
    idx text at_ >>= fun c =>
    if Int.ofNat (UInt8.toNat c) = 10 then
      ref05Next_L1 text at_
    else
    ref05Next_L5 text (IntKind.wrap .i64 (at_ + 1))
  else
  ref05Next_L1 text at_
inductive I_ref05Next_L1 where
  | ref05Next_L1 (text : Str) (at_ : Int)
  | ref05Next_L5 (text : Str) (at_ : Int)
@[reducible] def R_ref05Next_L1 : I_ref05Next_L1 → Type
  | .ref05Next_L1 _ _ => Int
  | .ref05Next_L5 _ _ => Int
def F_ref05Next_L1 (g : Fam R_ref05Next_L1) : Fam R_ref05Next_L1
  | .ref05Next_L1 text at_ => ref05Next_L1_B (fun text at_ => g (I_ref05Next_L1.ref05Next_L1 text at_)) (fun text at_ => g (I_ref05Next_L1.ref05Next_L5 text at_)) text at_
  | .ref05Next_L5 text at_ => ref05Next_L5_B (fun text at_ => g (I_ref05Next_L1.ref05Next_L1 text at_)) (fun text at_ => g (I_ref05Next_L1.ref05Next_L5 text at_)) text at_
theorem D_ref05Next_L1 : ∀ i, Good (fun g => F_ref05Next_L1 g i)
  | .ref05Next_L1 text at_ => show Good (fun g : Fam R_ref05Next_L1 => ref05Next_L1_B (fun text at_ => g (I_ref05Next_L1.ref05Next_L1 text at_)) (fun text at_ => g (I_ref05Next_L1.ref05Next_L5 text at_)) text at_) by unfold ref05Next_L1_B; exact (.ite (.bind (.const _) fun _ => (.bind (.const _) fun _ => (.ite (.call _) (.bind (.const _) fun _ => (.ite (.call _) (.const _)))))) (.const _))
  | .ref05Next_L5 text at_ => show Good (fun g : Fam R_ref05Next_L1 => ref05Next_L5_B (fun text at_ => g (I_ref05Next_L1.ref05Next_L1 text at_)) (fun text at_ => g (I_ref05Next_L1.ref05Next_L5 text at_)) text at_) by unfold ref05Next_L5_B; exact (.ite (.bind (.const _) fun _ => (.ite (.call _) (.call _))) (.call _))
def ref05Next_L1 (text : Str) (at_ : Int) : Option (Int) := fixF F_ref05Next_L1 (.ref05Next_L1 text at_)
def ref05Next_L5 (text : Str) (at_ : Int) : Option (Int) := fixF F_ref05Next_L1 (.ref05Next_L5 text at_)
theorem ref05Next_L1_eq (text : Str) (at_ : Int) : ref05Next_L1 text at_ = ref05Next_L1_B ref05Next_L1 ref05Next_L5 text at_ := fixF_eq D_ref05Next_L1 (.ref05Next_L1 text at_)
theorem ref05Next_L5_eq (text : Str) (at_ : Int) : ref05Next_L5 text at_ = ref05Next_L5_B ref05Next_L1 ref05Next_L5 text at_ := fixF_eq D_ref05Next_L1 (.ref05Next_L5 text at_)
def ref05Next (text : Str) (at_ : Int) : Option (Int) :=
  ref05Next_L1 text at_
def ref05Digit (c : Int) : Option (Bool) :=
  if (48 : Int) ≤ c then
    some (decide (c ≤ 57))
  else
  some (false)
def ref05Letter (c : Int) : Option (Bool) :=
  if (97 : Int) ≤ c then
    if c ≤ 122 then
      some (true)
    else
    if (65 : Int) ≤ c then
      if c ≤ 90 then
        some (true)
      else
      some ((c == 95))
    else
    some ((c == 95))
  else
  if (65 : Int) ≤ c then
    if c ≤ 90 then
      some (true)
    else
    some ((c == 95))
  else
  some ((c == 95))
def ref05Number_L5_B (ref05Number_L5 : Str → Int → Int → Option (Int × Bool)) (s : Str) (v : Int) (i : Int) : Option (Int × Bool) :=
  if i < (List.length s : Int) then
    idx s i >>= fun c =>
    if 10 ≠ (0 : Int) then
    if v > (IntKind.wrap .i64 (Int.tdiv (IntKind.wrap .i64 (9223372036854775807 - (IntKind.wrap .i64 (IntKind.wrap .u8 ((Int.ofNat (UInt8.toNat c)) - 48))))) 10)) then
      some (0, false)
    else
    ref05Number_L5 s (IntKind.wrap .i64 ((IntKind.wrap .i64 (v * 10)) + (IntKind.wrap .i64 (IntKind.wrap .u8 ((Int.ofNat (UInt8.toNat c)) - 48))))) (IntKind.wrap .i64 (i + 1))
    else none
  else
  some (v, true)
inductive I_ref05Number_L5 where
  | ref05Number_L5 (s : Str) (v : Int) (i : Int)
@[reducible] def R_ref05Number_L5 : I_ref05Number_L5 → Type
  | .ref05Number_L5 _ _ _ => Int × Bool
def F_ref05Number_L5 (g : Fam R_ref05Number_L5) : Fam R_ref05Number_L5
  | .ref05Number_L5 s v i => ref05Number_L5_B (fun s v i => g (I_ref05Number_L5.ref05Number_L5 s v i)) s v i
theorem D_ref05Number_L5 : ∀ i, Good (fun g => F_ref05Number_L5 g i)
  | .ref05Number_L5 s v i => show Good (fun g : Fam R_ref05Number_L5 => ref05Number_L5_B (fun s v i => g (I_ref05Number_L5.ref05Number_L5 s v i)) s v i) by unfold ref05Number_L5_B; exact (.ite (.bind (.const _) fun _ => (.ite (.ite (.const _) (.call _)) (.const _))) (.const _))
def ref05Number_L5 (s : Str) (v : Int) (i : Int) : Option (Int × Bool) := fixF F_ref05Number_L5 (.ref05Number_L5 s v i)
theorem ref05Number_L5_eq (s : Str) (v : Int) (i : Int) : ref05Number_L5 s v i = ref05Number_L5_B ref05Number_L5 s v i := fixF_eq D_ref05Number_L5 (.ref05Number_L5 s v i)
def ref05Number (s : Str) : Option (Int × Bool) :=
  if (List.length s : Int) = 0 then
    some (0, false)
  else
  if (List.length s : Int) > 1 then
    idx s 0 >>= fun c =>
    if Int.ofNat (UInt8.toNat c) = 48 then
      some (0, false)
    else
    ref05Number_L5 s 0 0
  else
  ref05Number_L5 s 0 0
def ref05One_L13_B (ref05One_L13 : Str → Int → Int → Token → Option (Token × Int)) (text : Str) (at_ : Int) (to_ : Int) (o4 : Token) : Option (Token × Int) :=
  if to_ < (List.length text : Int) then
    idx text to_ >>= fun c =>
    ref05Digit (Int.ofNat (UInt8.toNat c)) >>= fun q1 =>
    if q1 = true then
      ref05One_L13 text at_ (IntKind.wrap .i64 (to_ + 1)) o4
    else
    if (0 : Int) ≤ to_ then
    if Int.toNat to_ ≤ List.length text then
    if (0 : Int) ≤ at_ then
    if Int.toNat at_ ≤ Int.toNat to_ then
    ref05Number (List.drop (Int.toNat at_) (List.take (Int.toNat to_) text)) >>= fun q2 =>
    if q2.2 = true then
      some ((Token.mk 2 q2.1 ([] : List UInt8) at_ to_), 0)
    else
    some ((Token.mk 0 0 ([] : List UInt8) 0 0), 5)
    else none
    else none
    else none
    else none
  else
  if (0 : Int) ≤ to_ then
  if Int.toNat to_ ≤ List.length text then
  if (0 : Int) ≤ at_ then
  if Int.toNat at_ ≤ Int.toNat to_ then
  ref05Number (List.drop (Int.toNat at_) (List.take (Int.toNat to_) text)) >>= fun q3 =>
  if q3.2 = true then
    some ((Token.mk 2 q3.1 ([] : List UInt8) at_ to_), 0)
  else
  some ((Token.mk 0 0 ([] : List UInt8) 0 0), 5)
  else none
  else none
  else none
  else none
inductive I_ref05One_L13 where
  | ref05One_L13 (text : Str) (at_ : Int) (to_ : Int) (o4 : Token)
@[reducible] def R_ref05One_L13 : I_ref05One_L13 → Type
  | .ref05One_L13 _ _ _ _ => Token × Int
def F_ref05One_L13 (g : Fam R_ref05One_L13) : Fam R_ref05One_L13
  | .ref05One_L13 text at_ to_ o4 => ref05One_L13_B (fun text at_ to_ o4 => g (I_ref05One_L13.ref05One_L13 text at_ to_ o4)) text at_ to_ o4
theorem D_ref05One_L13 : ∀ i, Good (fun g => F_ref05One_L13 g i)
  | .ref05One_L13 text at_ to_ o4 => show Good (fun g : Fam R_ref05One_L13 => ref05One_L13_B (fun text at_ to_ o4 => g (I_ref05One_L13.ref05One_L13 text at_ to_ o4)) text at_ to_ o4) by unfold ref05One_L13_B; exact (.ite (.bind (.const _) fun _ => (.bind (.const _) fun _ => (.ite (.call _) (.ite (.ite (.ite (.ite (.bind (.const _) fun _ => (.ite (.const _) (.const _))) (.const _)) (.const _)) (.const _)) (.const _))))) (.ite (.ite (.ite (.ite (.bind (.const _) fun _ => (.ite (.const _) (.const _))) (.const _)) (.const _)) (.const _)) (.const _)))
def ref05One_L13 (text : Str) (at_ : Int) (to_ : Int) (o4 : Token) : Option (Token × Int) := fixF F_ref05One_L13 (.ref05One_L13 text at_ to_ o4)
theorem ref05One_L13_eq (text : Str) (at_ : Int) (to_ : Int) (o4 : Token) : ref05One_L13 text at_ to_ o4 = ref05One_L13_B ref05One_L13 text at_ to_ o4 := fixF_eq D_ref05One_L13 (.ref05One_L13 text at_ to_ o4)
def ref05One_L21_B (ref05One_L21 : Str → Int → (List Str) → Int → Token → Option (Token × Int)) (text : Str) (at_ : Int) (all : List Str) (i : Int) (o4 : Token) : Option (Token × Int) :=
  if i < (List.length all : Int) then
    idx all i >>= fun x =>
    ref05Begins text at_ x >>= fun q1 =>
    if q1 = true then
      idx all i >>= fun x1 =>
      idx all i >>= fun x2 =>
      some ((Token.mk 4 0 x1 at_ (IntKind.wrap .i64 (at_ + (List.length x2 : Int)))), 0)
    else
    ref05One_L21 text at_ all (IntKind.wrap .i64 (i + 1)) o4
  else
  some ((Token.mk 0 0 ([] : List UInt8) 0 0), 4)
inductive I_ref05One_L21 where
  | ref05One_L21 (text : Str) (at_ : Int) (all : List Str) (i : Int) (o4 : Token)
@[reducible] def R_ref05One_L21 : I_ref05One_L21 → Type
  | .ref05One_L21 _ _ _ _ _ => Token × Int
def F_ref05One_L21 (g : Fam R_ref05One_L21) : Fam R_ref05One_L21
  | .ref05One_L21 text at_ all i o4 => ref05One_L21_B (fun text at_ all i o4 => g (I_ref05One_L21.ref05One_L21 text at_ all i o4)) text at_ all i o4
theorem D_ref05One_L21 : ∀ i, Good (fun g => F_ref05One_L21 g i)
  | .ref05One_L21 text at_ all i o4 => show Good (fun g : Fam R_ref05One_L21 => ref05One_L21_B (fun text at_ all i o4 => g (I_ref05One_L21.ref05One_L21 text at_ all i o4)) text at_ all i o4) by unfold ref05One_L21_B; exact (.ite (.bind (.const _) fun _ => (.bind (.const _) fun _ => (.ite (.bind (.const _) fun _ => (.bind (.const _) fun _ => (.const _))) (.call _)))) (.const _))
def ref05One_L21 (text : Str) (at_ : Int) (all : List Str) (i : Int) (o4 : Token) : Option (Token × Int) := fixF F_ref05One_L21 (.ref05One_L21 text at_ all i o4)
theorem ref05One_L21_eq (text : Str) (at_ : Int) (all : List Str) (i : Int) (o4 : Token) : ref05One_L21 text at_ all i o4 = ref05One_L21_B ref05One_L21 text at_ all i o4 := fixF_eq D_ref05One_L21 (.ref05One_L21 text at_ all i o4)
def ref05Among_L2_B (ref05Among_L2 : Str → (List Str) → Int → Option (Bool)) (s : Str) (all : List Str) (i : Int) : Option (Bool) :=
  if i < (List.length all : Int) then
    idx all i >>= fun x =>
    if x = s then
      some (true)
    else
    ref05Among_L2 s all (IntKind.wrap .i64 (i + 1))
  else
  some (false)
inductive I_ref05Among_L2 where
  | ref05Among_L2 (s : Str) (all : List Str) (i : Int)
@[reducible] def R_ref05Among_L2 : I_ref05Among_L2 → Type
  | .ref05Among_L2 _ _ _ => Bool
def F_ref05Among_L2 (g : Fam R_ref05Among_L2) : Fam R_ref05Among_L2
  | .ref05Among_L2 s all i => ref05Among_L2_B (fun s all i => g (I_ref05Among_L2.ref05Among_L2 s all i)) s all i
theorem D_ref05Among_L2 : ∀ i, Good (fun g => F_ref05Among_L2 g i)
  | .ref05Among_L2 s all i => show Good (fun g : Fam R_ref05Among_L2 => ref05Among_L2_B (fun s all i => g (I_ref05Among_L2.ref05Among_L2 s all i)) s all i) by unfold ref05Among_L2_B; exact (.ite (.bind (.const _) fun _ => (.ite (.const _) (.call _))) (.const _))
def ref05Among_L2 (s : Str) (all : List Str) (i : Int) : Option (Bool) := fixF F_ref05Among_L2 (.ref05Among_L2 s all i)
theorem ref05Among_L2_eq (s : Str) (all : List Str) (i : Int) : ref05Among_L2 s all i = ref05Among_L2_B ref05Among_L2 s all i := fixF_eq D_ref05Among_L2 (.ref05Among_L2 s all i)
def ref05Among (s : Str) (all : List Str) : Option (Bool) :=
  ref05Among_L2 s all 0
def ref05Words  : Option (List Str) :=
  some ([([114, 101, 99] : List UInt8), ([99, 111, 110, 115, 116] : List UInt8), ([118, 97, 114] : List UInt8), ([112, 117, 98] : List UInt8), ([102, 110] : List UInt8), ([105, 110, 116] : List UInt8), ([98, 111, 111, 108] : List UInt8), ([108, 101, 116] : List UInt8), ([105, 102] : List UInt8), ([101, 108, 115, 101] : List UInt8), ([119, 104, 105, 108, 101] : List UInt8), ([102, 111, 114] : List UInt8), ([116, 111] : List UInt8), ([112, 114, 105, 110, 116] : List UInt8), ([114, 101, 116, 117, 114, 110] : List UInt8), ([100, 111] : List UInt8), ([116, 114, 117, 101] : List UInt8), ([102, 97, 108, 115, 101] : List UInt8), ([114, 101, 97, 100] : List UInt8), ([110, 101, 119] : List UInt8)])
def ref05One_L4_B (ref05One_L4 : Str → Int → Int → Token → Option (Token × Int)) (text : Str) (at_ : Int) (to_ : Int) (o4 : Token) : Option (Token × Int) :=
  if to_ < (List.length text : Int) then
    idx text to_ >>= fun c =>
    ref05Letter (Int.ofNat (UInt8.toNat c)) >>= fun q1 =>
    if q1 = true then
      ref05One_L4 text at_ (IntKind.wrap .i64 (to_ + 1)) o4
    else
    idx text to_ >>= fun c1 =>
    ref05Digit (Int.ofNat (UInt8.toNat c1)) >>= fun q2 =>
    if q2 = true then
      ref05One_L4 text at_ (IntKind.wrap .i64 (to_ + 1)) o4
    else
    if (IntKind.wrap .i64 (to_ - at_)) > 16 then
      some ((Token.mk 0 0 ([] : List UInt8) 0 0), 3)
    else
    if (0 : Int) ≤ to_ then
    if Int.toNat to_ ≤ List.length text then
    if (0 : Int) ≤ at_ then
    if Int.toNat at_ ≤ Int.toNat to_ then
    ref05Words >>= fun q3 =>
    ref05Among (List.drop (Int.toNat at_) (List.take (Int.toNat to_) text)) q3 >>= fun q4 =>
    if q4 = true then
      some ((Token.mk 3 0 (List.drop (Int.toNat at_) (List.take (Int.toNat to_) text)) at_ to_), 0)
    else
    some ((Token.mk 1 0 (List.drop (Int.toNat at_) (List.take (Int.toNat to_) text)) at_ to_), 0)
    else none
    else none
    else none
    else none
  else
  if (IntKind.wrap .i64 (to_ - at_)) > 16 then
    some ((Token.mk 0 0 ([] : List UInt8) 0 0), 3)
  else
  if (0 : Int) ≤ to_ then
  if Int.toNat to_ ≤ List.length text then
  if (0 : Int) ≤ at_ then
  if Int.toNat at_ ≤ Int.toNat to_ then
  ref05Words >>= fun q5 =>
  ref05Among (List.drop (Int.toNat at_) (List.take (Int.toNat to_) text)) q5 >>= fun q6 =>
  if q6 = true then
    some ((Token.mk 3 0 (List.drop (Int.toNat at_) (List.take (Int.toNat to_) text)) at_ to_), 0)
  else
  some ((Token.mk 1 0 (List.drop (Int.toNat at_) (List.take (Int.toNat to_) text)) at_ to_), 0)
  else none
  else none
  else none
  else none
inductive I_ref05One_L4 where
  | ref05One_L4 (text : Str) (at_ : Int) (to_ : Int) (o4 : Token)
@[reducible] def R_ref05One_L4 : I_ref05One_L4 → Type
  | .ref05One_L4 _ _ _ _ => Token × Int
def F_ref05One_L4 (g : Fam R_ref05One_L4) : Fam R_ref05One_L4
  | .ref05One_L4 text at_ to_ o4 => ref05One_L4_B (fun text at_ to_ o4 => g (I_ref05One_L4.ref05One_L4 text at_ to_ o4)) text at_ to_ o4
theorem D_ref05One_L4 : ∀ i, Good (fun g => F_ref05One_L4 g i)
  | .ref05One_L4 text at_ to_ o4 => show Good (fun g : Fam R_ref05One_L4 => ref05One_L4_B (fun text at_ to_ o4 => g (I_ref05One_L4.ref05One_L4 text at_ to_ o4)) text at_ to_ o4) by unfold ref05One_L4_B; exact (.ite (.bind (.const _) fun _ => (.bind (.const _) fun _ => (.ite (.call _) (.bind (.const _) fun _ => (.bind (.const _) fun _ => (.ite (.call _) (.ite (.const _) (.ite (.ite (.ite (.ite (.bind (.const _) fun _ => (.bind (.const _) fun _ => (.ite (.const _) (.const _)))) (.const _)) (.const _)) (.const _)) (.const _))))))))) (.ite (.const _) (.ite (.ite (.ite (.ite (.bind (.const _) fun _ => (.bind (.const _) fun _ => (.ite (.const _) (.const _)))) (.const _)) (.const _)) (.const _)) (.const _))))
def ref05One_L4 (text : Str) (at_ : Int) (to_ : Int) (o4 : Token) : Option (Token × Int) := fixF F_ref05One_L4 (.ref05One_L4 text at_ to_ o4)
theorem ref05One_L4_eq (text : Str) (at_ : Int) (to_ : Int) (o4 : Token) : ref05One_L4 text at_ to_ o4 = ref05One_L4_B ref05One_L4 text at_ to_ o4 := fixF_eq D_ref05One_L4 (.ref05One_L4 text at_ to_ o4)
def ref05Signs  : Option (List Str) :=
  some ([([61, 61] : List UInt8), ([33, 61] : List UInt8), ([60, 61] : List UInt8), ([62, 61] : List UInt8), ([38, 38] : List UInt8), ([124, 124] : List UInt8), ([123] : List UInt8), ([125] : List UInt8), ([40] : List UInt8), ([41] : List UInt8), ([91] : List UInt8), ([93] : List UInt8), ([44] : List UInt8), ([59] : List UInt8), ([58] : List UInt8), ([46] : List UInt8), ([61] : List UInt8), ([60] : List UInt8), ([62] : List UInt8), ([43] : List UInt8), ([45] : List UInt8), ([42] : List UInt8), ([47] : List UInt8), ([37] : List UInt8), ([33] : List UInt8), ([64] : List UInt8)])
def ref05One (text : Str) (at_ : Int) : Option (Token × Int) :=
  idx text at_ >>= fun c =>
  ref05Letter (Int.ofNat (UInt8.toNat c)) >>= fun q1 =>
  if q1 = true then
    ref05One_L4 text at_ at_ (Token.mk 0 0 ([] : List UInt8) 0 0)
  else
  ref05Digit (Int.ofNat (UInt8.toNat c)) >>= fun q2 =>
  if q2 = true then
    ref05One_L13 text at_ at_ (Token.mk 0 0 ([] : List UInt8) 0 0)
  else
  ref05Signs >>= fun q3 =>
  ref05One_L21 text at_ q3 0 (Token.mk 0 0 ([] : List UInt8) 0 0)
def ref05Tokens_L5_B (ref05Tokens_L5 : Str → (List Token) → Int → Option (List Token × Int × Int)) (text : Str) (out : List Token) (at_ : Int) : Option (List Token × Int × Int) :=
  if at_ < (List.length text : Int) then
    ref05One text at_ >>= fun q1 =>
    if q1.2 = 0 then
      if roomy 48 (List.length out + List.length [q1.1]) then
      ref05Next text q1.1.To >>= fun q2 =>
      ref05Tokens_L5 text (out ++ [q1.1]) q2
      else none
    else
    some (([] : List Token), at_, q1.2)
  else
  if roomy 48 (List.length out + List.length [(Token.mk 5 0 ([] : List UInt8) (List.length text : Int) (List.length text : Int))]) then
  some (out ++ [(Token.mk 5 0 ([] : List UInt8) (List.length text : Int) (List.length text : Int))], 0, 0)
  else none
inductive I_ref05Tokens_L5 where
  | ref05Tokens_L5 (text : Str) (out : List Token) (at_ : Int)
@[reducible] def R_ref05Tokens_L5 : I_ref05Tokens_L5 → Type
  | .ref05Tokens_L5 _ _ _ => List Token × Int × Int
def F_ref05Tokens_L5 (g : Fam R_ref05Tokens_L5) : Fam R_ref05Tokens_L5
  | .ref05Tokens_L5 text out at_ => ref05Tokens_L5_B (fun text out at_ => g (I_ref05Tokens_L5.ref05Tokens_L5 text out at_)) text out at_
theorem D_ref05Tokens_L5 : ∀ i, Good (fun g => F_ref05Tokens_L5 g i)
  | .ref05Tokens_L5 text out at_ => show Good (fun g : Fam R_ref05Tokens_L5 => ref05Tokens_L5_B (fun text out at_ => g (I_ref05Tokens_L5.ref05Tokens_L5 text out at_)) text out at_) by unfold ref05Tokens_L5_B; exact (.ite (.bind (.const _) fun _ => (.ite (.ite (.bind (.const _) fun _ => (.call _)) (.const _)) (.const _))) (.ite (.const _) (.const _)))
def ref05Tokens_L5 (text : Str) (out : List Token) (at_ : Int) : Option (List Token × Int × Int) := fixF F_ref05Tokens_L5 (.ref05Tokens_L5 text out at_)
theorem ref05Tokens_L5_eq (text : Str) (out : List Token) (at_ : Int) : ref05Tokens_L5 text out at_ = ref05Tokens_L5_B ref05Tokens_L5 text out at_ := fixF_eq D_ref05Tokens_L5 (.ref05Tokens_L5 text out at_)
def ref05Tokens (text : Str) : Option (List Token × Int × Int) :=
  if (List.length text : Int) > 8192 then
    some (([] : List Token), 0, 3)
  else
  ref05Next text 0 >>= fun q1 =>
  ref05Tokens_L5 text ([] : List Token) q1
def ref06Same_B (ref06Same_L4 : Int → Term → Term → Option (Bool)) (a : Term) (b : Term) : Option (Bool) :=
  if a.K = b.K then
    if a.N = b.N then
      if a.S = b.S then
        if (List.length a.L : Int) = (List.length b.L : Int) then
          ref06Same_L4 0 a b
        else
        some (false)
      else
      some (false)
    else
    some (false)
  else
  some (false)
def ref06Same_L4_B (ref06Same : Term → Term → Option (Bool)) (ref06Same_L4 : Int → Term → Term → Option (Bool)) (i : Int) (a : Term) (b : Term) : Option (Bool) :=
  if i < (List.length a.L : Int) then
    idx a.L i >>= fun x =>
    idx b.L i >>= fun x1 =>
    ref06Same x x1 >>= fun q1 =>
    if q1 = true then
      ref06Same_L4 (IntKind.wrap .i64 (i + 1)) a b
    else
    some (false)
  else
  some (true)
inductive I_ref06Same where
  | ref06Same (a : Term) (b : Term)
  | ref06Same_L4 (i : Int) (a : Term) (b : Term)
@[reducible] def R_ref06Same : I_ref06Same → Type
  | .ref06Same _ _ => Bool
  | .ref06Same_L4 _ _ _ => Bool
def F_ref06Same (g : Fam R_ref06Same) : Fam R_ref06Same
  | .ref06Same a b => ref06Same_B (fun i a b => g (I_ref06Same.ref06Same_L4 i a b)) a b
  | .ref06Same_L4 i a b => ref06Same_L4_B (fun a b => g (I_ref06Same.ref06Same a b)) (fun i a b => g (I_ref06Same.ref06Same_L4 i a b)) i a b
theorem D_ref06Same : ∀ i, Good (fun g => F_ref06Same g i)
  | .ref06Same a b => show Good (fun g : Fam R_ref06Same => ref06Same_B (fun i a b => g (I_ref06Same.ref06Same_L4 i a b)) a b) by unfold ref06Same_B; exact (.ite (.ite (.ite (.ite (.call _) (.const _)) (.const _)) (.const _)) (.const _))
  | .ref06Same_L4 i a b => show Good (fun g : Fam R_ref06Same => ref06Same_L4_B (fun a b => g (I_ref06Same.ref06Same a b)) (fun i a b => g (I_ref06Same.ref06Same_L4 i a b)) i a b) by unfold ref06Same_L4_B; exact (.ite (.bind (.const _) fun _ => (.bind (.const _) fun _ => (.bind (.call _) fun _ => (.ite (.call _) (.const _))))) (.const _))
def ref06Same (a : Term) (b : Term) : Option (Bool) := fixF F_ref06Same (.ref06Same a b)
def ref06Same_L4 (i : Int) (a : Term) (b : Term) : Option (Bool) := fixF F_ref06Same (.ref06Same_L4 i a b)
theorem ref06Same_eq (a : Term) (b : Term) : ref06Same a b = ref06Same_B ref06Same_L4 a b := fixF_eq D_ref06Same (.ref06Same a b)
theorem ref06Same_L4_eq (i : Int) (a : Term) (b : Term) : ref06Same_L4 i a b = ref06Same_L4_B ref06Same ref06Same_L4 i a b := fixF_eq D_ref06Same (.ref06Same_L4 i a b)
def law08StmtJoins (a : Str) (b : Str) : Option (Bool) :=
  if (List.length a : Int) > 1000 then
    law08awake >>= fun q1 =>
    some (q1)
  else
  if (List.length b : Int) > 1000 then
    law08awake >>= fun q2 =>
    some (q2)
  else
  ref05Tokens a >>= fun q3 =>
  ref05Tokens b >>= fun q4 =>
  if q3.2.2 = 0 then
    if q4.2.2 = 0 then
      if (List.length q3.1 : Int) > 200 then
        law08awake >>= fun q7 =>
        some (q7)
      else
      if (List.length q4.1 : Int) > 200 then
        law08awake >>= fun q8 =>
        some (q8)
      else
      stmt_Parse q3.1 0 >>= fun q9 =>
      stmt_Parse q4.1 0 >>= fun q10 =>
      if q9.2.2 = 0 then
        if q10.2.2 = 0 then
          if q9.2.1 = IntKind.wrap .i64 ((List.length q3.1 : Int) - 1) then
            if q10.2.1 = IntKind.wrap .i64 ((List.length q4.1 : Int) - 1) then
              if (0 : Int) ≤ q9.2.1 then
              if Int.toNat q9.2.1 ≤ List.length q3.1 then
              if 0 ≤ Int.toNat q9.2.1 then
              if roomy 48 (List.length [(Token.mk 4 0 ([123] : List UInt8) 0 0)] + List.length (List.drop 0 (List.take (Int.toNat q9.2.1) q3.1))) then
              if (0 : Int) ≤ q10.2.1 then
              if Int.toNat q10.2.1 ≤ List.length q4.1 then
              if 0 ≤ Int.toNat q10.2.1 then
              if roomy 48 (List.length ([(Token.mk 4 0 ([123] : List UInt8) 0 0)] ++ (List.drop 0 (List.take (Int.toNat q9.2.1) q3.1))) + List.length (List.drop 0 (List.take (Int.toNat q10.2.1) q4.1))) then
              if roomy 48 (List.length (([(Token.mk 4 0 ([123] : List UInt8) 0 0)] ++ (List.drop 0 (List.take (Int.toNat q9.2.1) q3.1))) ++ (List.drop 0 (List.take (Int.toNat q10.2.1) q4.1))) + List.length [(Token.mk 4 0 ([125] : List UInt8) 0 0)]) then
              stmt_Block ((([(Token.mk 4 0 ([123] : List UInt8) 0 0)] ++ (List.drop 0 (List.take (Int.toNat q9.2.1) q3.1))) ++ (List.drop 0 (List.take (Int.toNat q10.2.1) q4.1))) ++ [(Token.mk 4 0 ([125] : List UInt8) 0 0)]) 0 >>= fun q15 =>
              if q15.2.2 = 0 then
                if q15.2.1 = (List.length ((([(Token.mk 4 0 ([123] : List UInt8) 0 0)] ++ (List.drop 0 (List.take (Int.toNat q9.2.1) q3.1))) ++ (List.drop 0 (List.take (Int.toNat q10.2.1) q4.1))) ++ [(Token.mk 4 0 ([125] : List UInt8) 0 0)]) : Int) then
                  if (List.length q15.1.L : Int) = 2 then
                    idx q15.1.L 0 >>= fun x =>
                    ref06Same x q9.1 >>= fun q16 =>
                    if q16 = true then
                      idx q15.1.L 1 >>= fun x1 =>
                      ref06Same x1 q10.1 >>= fun q17 =>
                      if q17 = true then
                        law08awake >>= fun q18 =>
                        some (q18)
                      else
                      some (false)
                    else
                    some (false)
                  else
                  some (false)
                else
                some (false)
              else
              some (false)
              else none
              else none
              else none
              else none
              else none
              else none
              else none
              else none
              else none
            else
            law08awake >>= fun q14 =>
            some (q14)
          else
          law08awake >>= fun q13 =>
          some (q13)
        else
        law08awake >>= fun q12 =>
        some (q12)
      else
      law08awake >>= fun q11 =>
      some (q11)
    else
    law08awake >>= fun q6 =>
    some (q6)
  else
  law08awake >>= fun q5 =>
  some (q5)
end
end Go.Proofs.Ytpdhlbejdagkmaa.M
