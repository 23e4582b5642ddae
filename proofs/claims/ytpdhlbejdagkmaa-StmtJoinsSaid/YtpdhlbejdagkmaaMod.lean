/- For each function a plain one: what it comes to; none: a panic, or no end. -/
import Derived.Test.YtpdhlbejdagkmaaTy
namespace Go.Proofs.Ytpdhlbejdagkmaa.M
open Go Nt
set_option linter.unusedVariables false
noncomputable section
def stmt_reader_now (t : List Token) (at_ : Int) (e : Int) : Option (Token) :=
  if at_ < (List.length t : Int) then
    idx t at_ >>= fun x =>
    some (x)
  else
  some ((Token.mk 5 0 ([] : List UInt8) 0 0))
def stmt_reader_is (k : Int) (s : Str) (t : List Token) (at_ : Int) (e : Int) : Option (Bool) :=
  stmt_reader_now t at_ e >>= fun q1 =>
  if q1.K = k then
    some ((q1.S == s))
  else
  some (false)
def stmt_reader_made (k : Int) (s : Str) (from_ : Int) (parts : List Term) (t : List Token) (at_ : Int) (e : Int) : Option (Term) :=
  if e = 0 then
    idx t from_ >>= fun x =>
    idx t (IntKind.wrap .i64 (at_ - 1)) >>= fun x1 =>
    some ((Term.mk k 0 s parts x.From x1.To))
  else
  some ((Term.mk 0 0 ([] : List UInt8) [] 0 0))
def stmt_reader_need (k : Int) (s : Str) (t : List Token) (at_ : Int) (e : Int) : Option (List Token × Int × Int) :=
  if e = 0 then
    stmt_reader_is k s t at_ e >>= fun q1 =>
    if q1 = true then
      some (t, IntKind.wrap .i64 (at_ + 1), e)
    else
    some (t, at_, 6)
  else
  some (t, at_, e)
def stmt_kind (t : Token) : Option (Nat) :=
  if t.K = 4 then
    if t.S = ([123] : List UInt8) then
      some (15)
    else
    some (42)
  else
  if t.K = 3 then
    if t.S = ([108, 101, 116] : List UInt8) then
      some (43)
    else
    if t.S = ([105, 102] : List UInt8) then
      some (44)
    else
    if t.S = ([119, 104, 105, 108, 101] : List UInt8) then
      some (45)
    else
    if t.S = ([102, 111, 114] : List UInt8) then
      some (46)
    else
    if t.S = ([112, 114, 105, 110, 116] : List UInt8) then
      some (47)
    else
    if t.S = ([114, 101, 116, 117, 114, 110] : List UInt8) then
      some (48)
    else
    if t.S = ([100, 111] : List UInt8) then
      some (49)
    else
    some (42)
  else
  some (42)
def expr_operator (t : Token) : Option (Int × Int) :=
  if t.K = 4 then
    if t.S = ([124, 124] : List UInt8) then
      some (1, 1)
    else
    if t.S = ([38, 38] : List UInt8) then
      some (2, 2)
    else
    if t.S = ([61, 61] : List UInt8) then
      some (3, 3)
    else
    if t.S = ([33, 61] : List UInt8) then
      some (4, 3)
    else
    if t.S = ([60] : List UInt8) then
      some (5, 3)
    else
    if t.S = ([60, 61] : List UInt8) then
      some (6, 3)
    else
    if t.S = ([62] : List UInt8) then
      some (7, 3)
    else
    if t.S = ([62, 61] : List UInt8) then
      some (8, 3)
    else
    if t.S = ([43] : List UInt8) then
      some (9, 4)
    else
    if t.S = ([45] : List UInt8) then
      some (10, 4)
    else
    if t.S = ([42] : List UInt8) then
      some (11, 5)
    else
    if t.S = ([47] : List UInt8) then
      some (12, 5)
    else
    if t.S = ([37] : List UInt8) then
      some (13, 5)
    else
    some (0, 0)
  else
  some (0, 0)
def expr_parser_made (t : Term) (from_ : Int) (t1 : List Token) (at_ : Int) (e : Int) : Option (Term) :=
  if e = 0 then
    idx t1 from_ >>= fun x =>
    idx t1 (IntKind.wrap .i64 (at_ - 1)) >>= fun x1 =>
    some ({ t with From := x.From, To := x1.To })
  else
  some (t)
def expr_parser_now (t : List Token) (at_ : Int) (e : Int) : Option (Token) :=
  if at_ < (List.length t : Int) then
    idx t at_ >>= fun x =>
    some (x)
  else
  some ((Token.mk 5 0 ([] : List UInt8) 0 0))
def expr_parser_sign (s : Str) (t : List Token) (at_ : Int) (e : Int) : Option (Bool) :=
  expr_parser_now t at_ e >>= fun q1 =>
  if q1.K = 4 then
    some ((q1.S == s))
  else
  some (false)
def expr_parser_fail (t : List Token) (at_ : Int) (e : Int) : Option (List Token × Int × Int) :=
  if e = 0 then
    some (t, at_, 6)
  else
  some (t, at_, e)
def expr_parser_need (s : Str) (t : List Token) (at_ : Int) (e : Int) : Option (List Token × Int × Int) :=
  if e = 0 then
    expr_parser_sign s t at_ e >>= fun q1 =>
    if q1 = true then
      some (t, IntKind.wrap .i64 (at_ + 1), e)
    else
    expr_parser_fail t at_ e >>= fun q2 =>
    some (q2.1, q2.2.1, q2.2.2)
  else
  some (t, at_, e)
def expr_parser_name (t : List Token) (at_ : Int) (e : Int) : Option (Str × List Token × Int × Int) :=
  if e = 0 then
    expr_parser_now t at_ e >>= fun q1 =>
    if q1.K = 1 then
      some (q1.S, t, IntKind.wrap .i64 (at_ + 1), e)
    else
    expr_parser_fail t at_ e >>= fun q2 =>
    some (([] : List UInt8), q2.1, q2.2.1, q2.2.2)
  else
  some (([] : List UInt8), t, at_, e)
def expr_parser_expr_B (expr_parser_level : Int → (List Token) → Int → Int → Option (Term × List Token × Int × Int)) (t : List Token) (at_ : Int) (e : Int) : Option (Term × List Token × Int × Int) :=
  expr_parser_level 1 t at_ e >>= fun q1 =>
  some (q1.1, q1.2.1, q1.2.2.1, q1.2.2.2)
def expr_parser_level_B (expr_parser_level_L4 : Int → Int → Int → Term → Term → (List Token) → Int → Int → Option (Term × List Token × Int × Int)) (expr_parser_un : (List Token) → Int → Int → Option (Term × List Token × Int × Int)) (least : Int) (t : List Token) (at_ : Int) (e : Int) : Option (Term × List Token × Int × Int) :=
  expr_parser_un t at_ e >>= fun q1 =>
  expr_parser_level_L4 least at_ 6 (Term.mk 0 0 ([] : List UInt8) [] 0 0) q1.1 q1.2.1 q1.2.2.1 q1.2.2.2
def expr_parser_level_L4_B (expr_parser_level : Int → (List Token) → Int → Int → Option (Term × List Token × Int × Int)) (expr_parser_level_L4 : Int → Int → Int → Term → Term → (List Token) → Int → Int → Option (Term × List Token × Int × Int)) (least : Int) (from_ : Int) (most : Int) (o4 : Term) (left : Term) (t : List Token) (at_ : Int) (e : Int) : Option (Term × List Token × Int × Int) :=
  if e = 0 then
    expr_parser_now t at_ e >>= fun q1 =>
    expr_operator q1 >>= fun q2 =>
    if q2.2 < least then
      some (left, t, at_, e)
    else
    if q2.2 = 0 then
      some (left, t, at_, e)
    else
    if q2.2 > most then
      some (left, t, at_, e)
    else
    expr_parser_level (IntKind.wrap .i64 (q2.2 + 1)) t (IntKind.wrap .i64 (at_ + 1)) e >>= fun q3 =>
    expr_parser_made (Term.mk 10 q2.1 ([] : List UInt8) [left, q3.1] 0 0) from_ q3.2.1 q3.2.2.1 q3.2.2.2 >>= fun q4 =>
    if q2.2 = 3 then
      expr_parser_level_L4 least from_ 2 o4 q4 q3.2.1 q3.2.2.1 q3.2.2.2
    else
    expr_parser_level_L4 least from_ q2.2 o4 q4 q3.2.1 q3.2.2.1 q3.2.2.2
  else
  some (left, t, at_, e)
def expr_parser_un_B (expr_parser_un : (List Token) → Int → Int → Option (Term × List Token × Int × Int)) (expr_parser_post : (List Token) → Int → Int → Option (Term × List Token × Int × Int)) (t : List Token) (at_ : Int) (e : Int) : Option (Term × List Token × Int × Int) :=
  if e = 0 then
    expr_parser_sign ([45] : List UInt8) t at_ e >>= fun q1 =>
    if q1 = true then
      if (1 : Int) = 0 then
        expr_parser_post t at_ e >>= fun q2 =>
        some (q2.1, q2.2.1, q2.2.2.1, q2.2.2.2)
      else
      expr_parser_un t (IntKind.wrap .i64 (at_ + 1)) e >>= fun q3 =>
      expr_parser_made (Term.mk 11 1 ([] : List UInt8) [q3.1] 0 0) at_ q3.2.1 q3.2.2.1 q3.2.2.2 >>= fun q4 =>
      some (q4, q3.2.1, q3.2.2.1, q3.2.2.2)
    else
    expr_parser_sign ([33] : List UInt8) t at_ e >>= fun q5 =>
    if q5 = true then
      if (2 : Int) = 0 then
        expr_parser_post t at_ e >>= fun q6 =>
        some (q6.1, q6.2.1, q6.2.2.1, q6.2.2.2)
      else
      expr_parser_un t (IntKind.wrap .i64 (at_ + 1)) e >>= fun q7 =>
      expr_parser_made (Term.mk 11 2 ([] : List UInt8) [q7.1] 0 0) at_ q7.2.1 q7.2.2.1 q7.2.2.2 >>= fun q8 =>
      some (q8, q7.2.1, q7.2.2.1, q7.2.2.2)
    else
    if (0 : Int) = 0 then
      expr_parser_post t at_ e >>= fun q9 =>
      some (q9.1, q9.2.1, q9.2.2.1, q9.2.2.2)
    else
    expr_parser_un t (IntKind.wrap .i64 (at_ + 1)) e >>= fun q10 =>
    expr_parser_made (Term.mk 11 0 ([] : List UInt8) [q10.1] 0 0) at_ q10.2.1 q10.2.2.1 q10.2.2.2 >>= fun q11 =>
    some (q11, q10.2.1, q10.2.2.1, q10.2.2.2)
  else
  some ((Term.mk 0 0 ([] : List UInt8) [] 0 0), t, at_, e)
def expr_parser_post_B (expr_parser_post_L3 : Int → Term → Term → (List Token) → Int → Int → Option (Term × List Token × Int × Int)) (expr_parser_atom : (List Token) → Int → Int → Option (Term × List Token × Int × Int)) (t : List Token) (at_ : Int) (e : Int) : Option (Term × List Token × Int × Int) :=
  expr_parser_atom t at_ e >>= fun q1 =>
  expr_parser_post_L3 at_ (Term.mk 0 0 ([] : List UInt8) [] 0 0) q1.1 q1.2.1 q1.2.2.1 q1.2.2.2
def expr_parser_post_L3_B (expr_parser_expr : (List Token) → Int → Int → Option (Term × List Token × Int × Int)) (expr_parser_post_L3 : Int → Term → Term → (List Token) → Int → Int → Option (Term × List Token × Int × Int)) (from_ : Int) (o2 : Term) (x : Term) (t : List Token) (at_ : Int) (e : Int) : Option (Term × List Token × Int × Int) :=
  if e = 0 then
    expr_parser_sign ([91] : List UInt8) t at_ e >>= fun q1 =>
    if q1 = true then
      expr_parser_expr t (IntKind.wrap .i64 (at_ + 1)) e >>= fun q2 =>
      expr_parser_need ([93] : List UInt8) q2.2.1 q2.2.2.1 q2.2.2.2 >>= fun q3 =>
      expr_parser_made (Term.mk 12 0 ([] : List UInt8) [x, q2.1] 0 0) from_ q3.1 q3.2.1 q3.2.2 >>= fun q4 =>
      expr_parser_post_L3 from_ o2 q4 q3.1 q3.2.1 q3.2.2
    else
    expr_parser_sign ([46] : List UInt8) t at_ e >>= fun q5 =>
    if q5 = true then
      expr_parser_name t (IntKind.wrap .i64 (at_ + 1)) e >>= fun q6 =>
      expr_parser_made (Term.mk 13 0 q6.1 [x] 0 0) from_ q6.2.1 q6.2.2.1 q6.2.2.2 >>= fun q7 =>
      expr_parser_post_L3 from_ o2 q7 q6.2.1 q6.2.2.1 q6.2.2.2
    else
    some (x, t, at_, e)
  else
  some (x, t, at_, e)
def expr_parser_atom_B (expr_parser_args : Bool → (List Token) → Int → Int → Option (List Term × List Token × Int × Int)) (expr_parser_word : Str → Int → (List Token) → Int → Int → Option (Term × List Token × Int × Int)) (expr_parser_bracket : Str → Int → (List Token) → Int → Int → Option (Term × List Token × Int × Int)) (t : List Token) (at_ : Int) (e : Int) : Option (Term × List Token × Int × Int) :=
  if e = 0 then
    expr_parser_now t at_ e >>= fun q1 =>
    if q1.K = 2 then
      expr_parser_made (Term.mk 5 q1.N ([] : List UInt8) [] 0 0) at_ t (IntKind.wrap .i64 (at_ + 1)) e >>= fun q2 =>
      some (q2, t, IntKind.wrap .i64 (at_ + 1), e)
    else
    if q1.K = 1 then
      expr_parser_sign ([40] : List UInt8) t (IntKind.wrap .i64 (at_ + 1)) e >>= fun q3 =>
      if q3 = true then
        expr_parser_args true t (IntKind.wrap .i64 (at_ + 1)) e >>= fun q4 =>
        expr_parser_made (Term.mk 16 0 q1.S q4.1 0 0) at_ q4.2.1 q4.2.2.1 q4.2.2.2 >>= fun q5 =>
        some (q5, q4.2.1, q4.2.2.1, q4.2.2.2)
      else
      expr_parser_made (Term.mk 19 0 q1.S [] 0 0) at_ t (IntKind.wrap .i64 (at_ + 1)) e >>= fun q6 =>
      some (q6, t, IntKind.wrap .i64 (at_ + 1), e)
    else
    if q1.K = 3 then
      expr_parser_word q1.S at_ t at_ e >>= fun q7 =>
      some (q7.1, q7.2.1, q7.2.2.1, q7.2.2.2)
    else
    if q1.K = 4 then
      expr_parser_bracket q1.S at_ t at_ e >>= fun q8 =>
      some (q8.1, q8.2.1, q8.2.2.1, q8.2.2.2)
    else
    expr_parser_fail t at_ e >>= fun q9 =>
    some ((Term.mk 0 0 ([] : List UInt8) [] 0 0), q9.1, q9.2.1, q9.2.2)
  else
  some ((Term.mk 0 0 ([] : List UInt8) [] 0 0), t, at_, e)
def expr_parser_args_B (expr_parser_list_parser_expr : (List Token) → Int → Int → Option (List Term × List Token × Int × Int)) (few : Bool) (t : List Token) (at_ : Int) (e : Int) : Option (List Term × List Token × Int × Int) :=
  expr_parser_need ([40] : List UInt8) t at_ e >>= fun q1 =>
  if q1.2.2 = 0 then
    if few = true then
      expr_parser_sign ([41] : List UInt8) q1.1 q1.2.1 q1.2.2 >>= fun q2 =>
      if q2 = true then
        some (([] : List Term), q1.1, IntKind.wrap .i64 (q1.2.1 + 1), q1.2.2)
      else
      expr_parser_list_parser_expr q1.1 q1.2.1 q1.2.2 >>= fun q3 =>
      expr_parser_need ([41] : List UInt8) q3.2.1 q3.2.2.1 q3.2.2.2 >>= fun q4 =>
      some (q3.1, q4.1, q4.2.1, q4.2.2)
    else
    expr_parser_list_parser_expr q1.1 q1.2.1 q1.2.2 >>= fun q5 =>
    expr_parser_need ([41] : List UInt8) q5.2.1 q5.2.2.1 q5.2.2.2 >>= fun q6 =>
    some (q5.1, q6.1, q6.2.1, q6.2.2)
  else
  expr_parser_list_parser_expr q1.1 q1.2.1 q1.2.2 >>= fun q7 =>
  expr_parser_need ([41] : List UInt8) q7.2.1 q7.2.2.1 q7.2.2.2 >>= fun q8 =>
  some (q7.1, q8.1, q8.2.1, q8.2.2)
def expr_parser_word_B (expr_parser_args : Bool → (List Token) → Int → Int → Option (List Term × List Token × Int × Int)) (s : Str) (from_ : Int) (t : List Token) (at_ : Int) (e : Int) : Option (Term × List Token × Int × Int) :=
  if s = ([116, 114, 117, 101] : List UInt8) then
    expr_parser_made (Term.mk 6 1 ([] : List UInt8) [] 0 0) from_ t (IntKind.wrap .i64 (at_ + 1)) e >>= fun q1 =>
    some (q1, t, IntKind.wrap .i64 (at_ + 1), e)
  else
  if s = ([102, 97, 108, 115, 101] : List UInt8) then
    expr_parser_made (Term.mk 6 0 ([] : List UInt8) [] 0 0) from_ t (IntKind.wrap .i64 (at_ + 1)) e >>= fun q2 =>
    some (q2, t, IntKind.wrap .i64 (at_ + 1), e)
  else
  if s = ([114, 101, 97, 100] : List UInt8) then
    expr_parser_made (Term.mk 18 0 ([] : List UInt8) [] 0 0) from_ t (IntKind.wrap .i64 (at_ + 1)) e >>= fun q3 =>
    some (q3, t, IntKind.wrap .i64 (at_ + 1), e)
  else
  if s = ([110, 101, 119] : List UInt8) then
    expr_parser_name t (IntKind.wrap .i64 (at_ + 1)) e >>= fun q4 =>
    expr_parser_args false q4.2.1 q4.2.2.1 q4.2.2.2 >>= fun q5 =>
    expr_parser_made (Term.mk 15 0 q4.1 q5.1 0 0) from_ q5.2.1 q5.2.2.1 q5.2.2.2 >>= fun q6 =>
    some (q6, q5.2.1, q5.2.2.1, q5.2.2.2)
  else
  expr_parser_fail t (IntKind.wrap .i64 ((IntKind.wrap .i64 (at_ + 1)) - 1)) e >>= fun q7 =>
  some ((Term.mk 0 0 ([] : List UInt8) [] 0 0), q7.1, q7.2.1, q7.2.2)
def expr_parser_bracket_B (expr_parser_expr : (List Token) → Int → Int → Option (Term × List Token × Int × Int)) (expr_parser_args : Bool → (List Token) → Int → Int → Option (List Term × List Token × Int × Int)) (expr_parser_list_parser_expr : (List Token) → Int → Int → Option (List Term × List Token × Int × Int)) (s : Str) (from_ : Int) (t : List Token) (at_ : Int) (e : Int) : Option (Term × List Token × Int × Int) :=
  if s = ([40] : List UInt8) then
    expr_parser_expr t (IntKind.wrap .i64 (at_ + 1)) e >>= fun q1 =>
    expr_parser_need ([41] : List UInt8) q1.2.1 q1.2.2.1 q1.2.2.2 >>= fun q2 =>
    some (q1.1, q2.1, q2.2.1, q2.2.2)
  else
  if s = ([91] : List UInt8) then
    expr_parser_list_parser_expr t (IntKind.wrap .i64 (at_ + 1)) e >>= fun q3 =>
    expr_parser_need ([93] : List UInt8) q3.2.1 q3.2.2.1 q3.2.2.2 >>= fun q4 =>
    expr_parser_made (Term.mk 14 0 ([] : List UInt8) q3.1 0 0) from_ q4.1 q4.2.1 q4.2.2 >>= fun q5 =>
    some (q5, q4.1, q4.2.1, q4.2.2)
  else
  if s = ([64] : List UInt8) then
    expr_parser_name t (IntKind.wrap .i64 (at_ + 1)) e >>= fun q6 =>
    expr_parser_args true q6.2.1 q6.2.2.1 q6.2.2.2 >>= fun q7 =>
    expr_parser_made (Term.mk 17 0 q6.1 q7.1 0 0) from_ q7.2.1 q7.2.2.1 q7.2.2.2 >>= fun q8 =>
    some (q8, q7.2.1, q7.2.2.1, q7.2.2.2)
  else
  expr_parser_fail t (IntKind.wrap .i64 ((IntKind.wrap .i64 (at_ + 1)) - 1)) e >>= fun q9 =>
  some ((Term.mk 0 0 ([] : List UInt8) [] 0 0), q9.1, q9.2.1, q9.2.2)
def expr_parser_list_parser_expr_B (expr_parser_expr : (List Token) → Int → Int → Option (Term × List Token × Int × Int)) (expr_parser_list_parser_expr_L2 : (List Term) → (List Token) → Int → Int → Option (List Term × List Token × Int × Int)) (t : List Token) (at_ : Int) (e : Int) : Option (List Term × List Token × Int × Int) :=
  expr_parser_expr t at_ e >>= fun q1 =>
  expr_parser_list_parser_expr_L2 [q1.1] q1.2.1 q1.2.2.1 q1.2.2.2
def expr_parser_list_parser_expr_L2_B (expr_parser_expr : (List Token) → Int → Int → Option (Term × List Token × Int × Int)) (expr_parser_list_parser_expr_L2 : (List Term) → (List Token) → Int → Int → Option (List Term × List Token × Int × Int)) (out : List Term) (t : List Token) (at_ : Int) (e : Int) : Option (List Term × List Token × Int × Int) :=
  if e = 0 then
    expr_parser_sign ([44] : List UInt8) t at_ e >>= fun q1 =>
    if q1 = true then
      expr_parser_expr t (IntKind.wrap .i64 (at_ + 1)) e >>= fun q2 =>
      if roomy 72 (List.length out + List.length [q2.1]) then
      expr_parser_list_parser_expr_L2 (out ++ [q2.1]) q2.2.1 q2.2.2.1 q2.2.2.2
      else none
    else
    some (out, t, at_, e)
  else
  some (out, t, at_, e)
inductive I_expr_parser_expr where
  | expr_parser_expr (t : List Token) (at_ : Int) (e : Int)
  | expr_parser_level (least : Int) (t : List Token) (at_ : Int) (e : Int)
  | expr_parser_level_L4 (least : Int) (from_ : Int) (most : Int) (o4 : Term) (left : Term) (t : List Token) (at_ : Int) (e : Int)
  | expr_parser_un (t : List Token) (at_ : Int) (e : Int)
  | expr_parser_post (t : List Token) (at_ : Int) (e : Int)
  | expr_parser_post_L3 (from_ : Int) (o2 : Term) (x : Term) (t : List Token) (at_ : Int) (e : Int)
  | expr_parser_atom (t : List Token) (at_ : Int) (e : Int)
  | expr_parser_args (few : Bool) (t : List Token) (at_ : Int) (e : Int)
  | expr_parser_word (s : Str) (from_ : Int) (t : List Token) (at_ : Int) (e : Int)
  | expr_parser_bracket (s : Str) (from_ : Int) (t : List Token) (at_ : Int) (e : Int)
  | expr_parser_list_parser_expr (t : List Token) (at_ : Int) (e : Int)
  | expr_parser_list_parser_expr_L2 (out : List Term) (t : List Token) (at_ : Int) (e : Int)
@[reducible] def R_expr_parser_expr : I_expr_parser_expr → Type
  | .expr_parser_expr _ _ _ => Term × List Token × Int × Int
  | .expr_parser_level _ _ _ _ => Term × List Token × Int × Int
  | .expr_parser_level_L4 _ _ _ _ _ _ _ _ => Term × List Token × Int × Int
  | .expr_parser_un _ _ _ => Term × List Token × Int × Int
  | .expr_parser_post _ _ _ => Term × List Token × Int × Int
  | .expr_parser_post_L3 _ _ _ _ _ _ => Term × List Token × Int × Int
  | .expr_parser_atom _ _ _ => Term × List Token × Int × Int
  | .expr_parser_args _ _ _ _ => List Term × List Token × Int × Int
  | .expr_parser_word _ _ _ _ _ => Term × List Token × Int × Int
  | .expr_parser_bracket _ _ _ _ _ => Term × List Token × Int × Int
  | .expr_parser_list_parser_expr _ _ _ => List Term × List Token × Int × Int
  | .expr_parser_list_parser_expr_L2 _ _ _ _ => List Term × List Token × Int × Int
def F_expr_parser_expr (g : Fam R_expr_parser_expr) : Fam R_expr_parser_expr
  | .expr_parser_expr t at_ e => expr_parser_expr_B (fun least t at_ e => g (I_expr_parser_expr.expr_parser_level least t at_ e)) t at_ e
  | .expr_parser_level least t at_ e => expr_parser_level_B (fun least from_ most o4 left t at_ e => g (I_expr_parser_expr.expr_parser_level_L4 least from_ most o4 left t at_ e)) (fun t at_ e => g (I_expr_parser_expr.expr_parser_un t at_ e)) least t at_ e
  | .expr_parser_level_L4 least from_ most o4 left t at_ e => expr_parser_level_L4_B (fun least t at_ e => g (I_expr_parser_expr.expr_parser_level least t at_ e)) (fun least from_ most o4 left t at_ e => g (I_expr_parser_expr.expr_parser_level_L4 least from_ most o4 left t at_ e)) least from_ most o4 left t at_ e
  | .expr_parser_un t at_ e => expr_parser_un_B (fun t at_ e => g (I_expr_parser_expr.expr_parser_un t at_ e)) (fun t at_ e => g (I_expr_parser_expr.expr_parser_post t at_ e)) t at_ e
  | .expr_parser_post t at_ e => expr_parser_post_B (fun from_ o2 x t at_ e => g (I_expr_parser_expr.expr_parser_post_L3 from_ o2 x t at_ e)) (fun t at_ e => g (I_expr_parser_expr.expr_parser_atom t at_ e)) t at_ e
  | .expr_parser_post_L3 from_ o2 x t at_ e => expr_parser_post_L3_B (fun t at_ e => g (I_expr_parser_expr.expr_parser_expr t at_ e)) (fun from_ o2 x t at_ e => g (I_expr_parser_expr.expr_parser_post_L3 from_ o2 x t at_ e)) from_ o2 x t at_ e
  | .expr_parser_atom t at_ e => expr_parser_atom_B (fun few t at_ e => g (I_expr_parser_expr.expr_parser_args few t at_ e)) (fun s from_ t at_ e => g (I_expr_parser_expr.expr_parser_word s from_ t at_ e)) (fun s from_ t at_ e => g (I_expr_parser_expr.expr_parser_bracket s from_ t at_ e)) t at_ e
  | .expr_parser_args few t at_ e => expr_parser_args_B (fun t at_ e => g (I_expr_parser_expr.expr_parser_list_parser_expr t at_ e)) few t at_ e
  | .expr_parser_word s from_ t at_ e => expr_parser_word_B (fun few t at_ e => g (I_expr_parser_expr.expr_parser_args few t at_ e)) s from_ t at_ e
  | .expr_parser_bracket s from_ t at_ e => expr_parser_bracket_B (fun t at_ e => g (I_expr_parser_expr.expr_parser_expr t at_ e)) (fun few t at_ e => g (I_expr_parser_expr.expr_parser_args few t at_ e)) (fun t at_ e => g (I_expr_parser_expr.expr_parser_list_parser_expr t at_ e)) s from_ t at_ e
  | .expr_parser_list_parser_expr t at_ e => expr_parser_list_parser_expr_B (fun t at_ e => g (I_expr_parser_expr.expr_parser_expr t at_ e)) (fun out t at_ e => g (I_expr_parser_expr.expr_parser_list_parser_expr_L2 out t at_ e)) t at_ e
  | .expr_parser_list_parser_expr_L2 out t at_ e => expr_parser_list_parser_expr_L2_B (fun t at_ e => g (I_expr_parser_expr.expr_parser_expr t at_ e)) (fun out t at_ e => g (I_expr_parser_expr.expr_parser_list_parser_expr_L2 out t at_ e)) out t at_ e
theorem D_expr_parser_expr : ∀ i, Good (fun g => F_expr_parser_expr g i)
  | .expr_parser_expr t at_ e => show Good (fun g : Fam R_expr_parser_expr => expr_parser_expr_B (fun least t at_ e => g (I_expr_parser_expr.expr_parser_level least t at_ e)) t at_ e) by unfold expr_parser_expr_B; exact (.bind (.call _) fun _ => (.const _))
  | .expr_parser_level least t at_ e => show Good (fun g : Fam R_expr_parser_expr => expr_parser_level_B (fun least from_ most o4 left t at_ e => g (I_expr_parser_expr.expr_parser_level_L4 least from_ most o4 left t at_ e)) (fun t at_ e => g (I_expr_parser_expr.expr_parser_un t at_ e)) least t at_ e) by unfold expr_parser_level_B; exact (.bind (.call _) fun _ => (.call _))
  | .expr_parser_level_L4 least from_ most o4 left t at_ e => show Good (fun g : Fam R_expr_parser_expr => expr_parser_level_L4_B (fun least t at_ e => g (I_expr_parser_expr.expr_parser_level least t at_ e)) (fun least from_ most o4 left t at_ e => g (I_expr_parser_expr.expr_parser_level_L4 least from_ most o4 left t at_ e)) least from_ most o4 left t at_ e) by unfold expr_parser_level_L4_B; exact (.ite (.bind (.const _) fun _ => (.bind (.const _) fun _ => (.ite (.const _) (.ite (.const _) (.ite (.const _) (.bind (.call _) fun _ => (.bind (.const _) fun _ => (.ite (.call _) (.call _))))))))) (.const _))
  | .expr_parser_un t at_ e => show Good (fun g : Fam R_expr_parser_expr => expr_parser_un_B (fun t at_ e => g (I_expr_parser_expr.expr_parser_un t at_ e)) (fun t at_ e => g (I_expr_parser_expr.expr_parser_post t at_ e)) t at_ e) by unfold expr_parser_un_B; exact (.ite (.bind (.const _) fun _ => (.ite (.ite (.bind (.call _) fun _ => (.const _)) (.bind (.call _) fun _ => (.bind (.const _) fun _ => (.const _)))) (.bind (.const _) fun _ => (.ite (.ite (.bind (.call _) fun _ => (.const _)) (.bind (.call _) fun _ => (.bind (.const _) fun _ => (.const _)))) (.ite (.bind (.call _) fun _ => (.const _)) (.bind (.call _) fun _ => (.bind (.const _) fun _ => (.const _)))))))) (.const _))
  | .expr_parser_post t at_ e => show Good (fun g : Fam R_expr_parser_expr => expr_parser_post_B (fun from_ o2 x t at_ e => g (I_expr_parser_expr.expr_parser_post_L3 from_ o2 x t at_ e)) (fun t at_ e => g (I_expr_parser_expr.expr_parser_atom t at_ e)) t at_ e) by unfold expr_parser_post_B; exact (.bind (.call _) fun _ => (.call _))
  | .expr_parser_post_L3 from_ o2 x t at_ e => show Good (fun g : Fam R_expr_parser_expr => expr_parser_post_L3_B (fun t at_ e => g (I_expr_parser_expr.expr_parser_expr t at_ e)) (fun from_ o2 x t at_ e => g (I_expr_parser_expr.expr_parser_post_L3 from_ o2 x t at_ e)) from_ o2 x t at_ e) by unfold expr_parser_post_L3_B; exact (.ite (.bind (.const _) fun _ => (.ite (.bind (.call _) fun _ => (.bind (.const _) fun _ => (.bind (.const _) fun _ => (.call _)))) (.bind (.const _) fun _ => (.ite (.bind (.const _) fun _ => (.bind (.const _) fun _ => (.call _))) (.const _))))) (.const _))
  | .expr_parser_atom t at_ e => show Good (fun g : Fam R_expr_parser_expr => expr_parser_atom_B (fun few t at_ e => g (I_expr_parser_expr.expr_parser_args few t at_ e)) (fun s from_ t at_ e => g (I_expr_parser_expr.expr_parser_word s from_ t at_ e)) (fun s from_ t at_ e => g (I_expr_parser_expr.expr_parser_bracket s from_ t at_ e)) t at_ e) by unfold expr_parser_atom_B; exact (.ite (.bind (.const _) fun _ => (.ite (.bind (.const _) fun _ => (.const _)) (.ite (.bind (.const _) fun _ => (.ite (.bind (.call _) fun _ => (.bind (.const _) fun _ => (.const _))) (.bind (.const _) fun _ => (.const _)))) (.ite (.bind (.call _) fun _ => (.const _)) (.ite (.bind (.call _) fun _ => (.const _)) (.bind (.const _) fun _ => (.const _))))))) (.const _))
  | .expr_parser_args few t at_ e => show Good (fun g : Fam R_expr_parser_expr => expr_parser_args_B (fun t at_ e => g (I_expr_parser_expr.expr_parser_list_parser_expr t at_ e)) few t at_ e) by unfold expr_parser_args_B; exact (.bind (.const _) fun _ => (.ite (.ite (.bind (.const _) fun _ => (.ite (.const _) (.bind (.call _) fun _ => (.bind (.const _) fun _ => (.const _))))) (.bind (.call _) fun _ => (.bind (.const _) fun _ => (.const _)))) (.bind (.call _) fun _ => (.bind (.const _) fun _ => (.const _)))))
  | .expr_parser_word s from_ t at_ e => show Good (fun g : Fam R_expr_parser_expr => expr_parser_word_B (fun few t at_ e => g (I_expr_parser_expr.expr_parser_args few t at_ e)) s from_ t at_ e) by unfold expr_parser_word_B; exact (.ite (.bind (.const _) fun _ => (.const _)) (.ite (.bind (.const _) fun _ => (.const _)) (.ite (.bind (.const _) fun _ => (.const _)) (.ite (.bind (.const _) fun _ => (.bind (.call _) fun _ => (.bind (.const _) fun _ => (.const _)))) (.bind (.const _) fun _ => (.const _))))))
  | .expr_parser_bracket s from_ t at_ e => show Good (fun g : Fam R_expr_parser_expr => expr_parser_bracket_B (fun t at_ e => g (I_expr_parser_expr.expr_parser_expr t at_ e)) (fun few t at_ e => g (I_expr_parser_expr.expr_parser_args few t at_ e)) (fun t at_ e => g (I_expr_parser_expr.expr_parser_list_parser_expr t at_ e)) s from_ t at_ e) by unfold expr_parser_bracket_B; exact (.ite (.bind (.call _) fun _ => (.bind (.const _) fun _ => (.const _))) (.ite (.bind (.call _) fun _ => (.bind (.const _) fun _ => (.bind (.const _) fun _ => (.const _)))) (.ite (.bind (.const _) fun _ => (.bind (.call _) fun _ => (.bind (.const _) fun _ => (.const _)))) (.bind (.const _) fun _ => (.const _)))))
  | .expr_parser_list_parser_expr t at_ e => show Good (fun g : Fam R_expr_parser_expr => expr_parser_list_parser_expr_B (fun t at_ e => g (I_expr_parser_expr.expr_parser_expr t at_ e)) (fun out t at_ e => g (I_expr_parser_expr.expr_parser_list_parser_expr_L2 out t at_ e)) t at_ e) by unfold expr_parser_list_parser_expr_B; exact (.bind (.call _) fun _ => (.call _))
  | .expr_parser_list_parser_expr_L2 out t at_ e => show Good (fun g : Fam R_expr_parser_expr => expr_parser_list_parser_expr_L2_B (fun t at_ e => g (I_expr_parser_expr.expr_parser_expr t at_ e)) (fun out t at_ e => g (I_expr_parser_expr.expr_parser_list_parser_expr_L2 out t at_ e)) out t at_ e) by unfold expr_parser_list_parser_expr_L2_B; exact (.ite (.bind (.const _) fun _ => (.ite (.bind (.call _) fun _ => (.ite (.call _) (.const _))) (.const _))) (.const _))
def expr_parser_expr (t : List Token) (at_ : Int) (e : Int) : Option (Term × List Token × Int × Int) := fixF F_expr_parser_expr (.expr_parser_expr t at_ e)
def expr_parser_level (least : Int) (t : List Token) (at_ : Int) (e : Int) : Option (Term × List Token × Int × Int) := fixF F_expr_parser_expr (.expr_parser_level least t at_ e)
def expr_parser_level_L4 (least : Int) (from_ : Int) (most : Int) (o4 : Term) (left : Term) (t : List Token) (at_ : Int) (e : Int) : Option (Term × List Token × Int × Int) := fixF F_expr_parser_expr (.expr_parser_level_L4 least from_ most o4 left t at_ e)
def expr_parser_un (t : List Token) (at_ : Int) (e : Int) : Option (Term × List Token × Int × Int) := fixF F_expr_parser_expr (.expr_parser_un t at_ e)
def expr_parser_post (t : List Token) (at_ : Int) (e : Int) : Option (Term × List Token × Int × Int) := fixF F_expr_parser_expr (.expr_parser_post t at_ e)
def expr_parser_post_L3 (from_ : Int) (o2 : Term) (x : Term) (t : List Token) (at_ : Int) (e : Int) : Option (Term × List Token × Int × Int) := fixF F_expr_parser_expr (.expr_parser_post_L3 from_ o2 x t at_ e)
def expr_parser_atom (t : List Token) (at_ : Int) (e : Int) : Option (Term × List Token × Int × Int) := fixF F_expr_parser_expr (.expr_parser_atom t at_ e)
def expr_parser_args (few : Bool) (t : List Token) (at_ : Int) (e : Int) : Option (List Term × List Token × Int × Int) := fixF F_expr_parser_expr (.expr_parser_args few t at_ e)
def expr_parser_word (s : Str) (from_ : Int) (t : List Token) (at_ : Int) (e : Int) : Option (Term × List Token × Int × Int) := fixF F_expr_parser_expr (.expr_parser_word s from_ t at_ e)
def expr_parser_bracket (s : Str) (from_ : Int) (t : List Token) (at_ : Int) (e : Int) : Option (Term × List Token × Int × Int) := fixF F_expr_parser_expr (.expr_parser_bracket s from_ t at_ e)
def expr_parser_list_parser_expr (t : List Token) (at_ : Int) (e : Int) : Option (List Term × List Token × Int × Int) := fixF F_expr_parser_expr (.expr_parser_list_parser_expr t at_ e)
def expr_parser_list_parser_expr_L2 (out : List Term) (t : List Token) (at_ : Int) (e : Int) : Option (List Term × List Token × Int × Int) := fixF F_expr_parser_expr (.expr_parser_list_parser_expr_L2 out t at_ e)
theorem expr_parser_expr_eq (t : List Token) (at_ : Int) (e : Int) : expr_parser_expr t at_ e = expr_parser_expr_B expr_parser_level t at_ e := fixF_eq D_expr_parser_expr (.expr_parser_expr t at_ e)
theorem expr_parser_level_eq (least : Int) (t : List Token) (at_ : Int) (e : Int) : expr_parser_level least t at_ e = expr_parser_level_B expr_parser_level_L4 expr_parser_un least t at_ e := fixF_eq D_expr_parser_expr (.expr_parser_level least t at_ e)
theorem expr_parser_level_L4_eq (least : Int) (from_ : Int) (most : Int) (o4 : Term) (left : Term) (t : List Token) (at_ : Int) (e : Int) : expr_parser_level_L4 least from_ most o4 left t at_ e = expr_parser_level_L4_B expr_parser_level expr_parser_level_L4 least from_ most o4 left t at_ e := fixF_eq D_expr_parser_expr (.expr_parser_level_L4 least from_ most o4 left t at_ e)
theorem expr_parser_un_eq (t : List Token) (at_ : Int) (e : Int) : expr_parser_un t at_ e = expr_parser_un_B expr_parser_un expr_parser_post t at_ e := fixF_eq D_expr_parser_expr (.expr_parser_un t at_ e)
theorem expr_parser_post_eq (t : List Token) (at_ : Int) (e : Int) : expr_parser_post t at_ e = expr_parser_post_B expr_parser_post_L3 expr_parser_atom t at_ e := fixF_eq D_expr_parser_expr (.expr_parser_post t at_ e)
theorem expr_parser_post_L3_eq (from_ : Int) (o2 : Term) (x : Term) (t : List Token) (at_ : Int) (e : Int) : expr_parser_post_L3 from_ o2 x t at_ e = expr_parser_post_L3_B expr_parser_expr expr_parser_post_L3 from_ o2 x t at_ e := fixF_eq D_expr_parser_expr (.expr_parser_post_L3 from_ o2 x t at_ e)
theorem expr_parser_atom_eq (t : List Token) (at_ : Int) (e : Int) : expr_parser_atom t at_ e = expr_parser_atom_B expr_parser_args expr_parser_word expr_parser_bracket t at_ e := fixF_eq D_expr_parser_expr (.expr_parser_atom t at_ e)
theorem expr_parser_args_eq (few : Bool) (t : List Token) (at_ : Int) (e : Int) : expr_parser_args few t at_ e = expr_parser_args_B expr_parser_list_parser_expr few t at_ e := fixF_eq D_expr_parser_expr (.expr_parser_args few t at_ e)
theorem expr_parser_word_eq (s : Str) (from_ : Int) (t : List Token) (at_ : Int) (e : Int) : expr_parser_word s from_ t at_ e = expr_parser_word_B expr_parser_args s from_ t at_ e := fixF_eq D_expr_parser_expr (.expr_parser_word s from_ t at_ e)
theorem expr_parser_bracket_eq (s : Str) (from_ : Int) (t : List Token) (at_ : Int) (e : Int) : expr_parser_bracket s from_ t at_ e = expr_parser_bracket_B expr_parser_expr expr_parser_args expr_parser_list_parser_expr s from_ t at_ e := fixF_eq D_expr_parser_expr (.expr_parser_bracket s from_ t at_ e)
theorem expr_parser_list_parser_expr_eq (t : List Token) (at_ : Int) (e : Int) : expr_parser_list_parser_expr t at_ e = expr_parser_list_parser_expr_B expr_parser_expr expr_parser_list_parser_expr_L2 t at_ e := fixF_eq D_expr_parser_expr (.expr_parser_list_parser_expr t at_ e)
theorem expr_parser_list_parser_expr_L2_eq (out : List Term) (t : List Token) (at_ : Int) (e : Int) : expr_parser_list_parser_expr_L2 out t at_ e = expr_parser_list_parser_expr_L2_B expr_parser_expr expr_parser_list_parser_expr_L2 out t at_ e := fixF_eq D_expr_parser_expr (.expr_parser_list_parser_expr_L2 out t at_ e)
def expr_start_parser_expr (t : List Token) (at_ : Int) : Option (Term × Int × Int) :=
  if at_ < 0 then
    some ((Term.mk 0 0 ([] : List UInt8) [] 0 0), 0, 13)
  else
  if at_ > (List.length t : Int) then
    some ((Term.mk 0 0 ([] : List UInt8) [] 0 0), 0, 13)
  else
  expr_parser_expr t at_ 0 >>= fun q1 =>
  if q1.2.2.2 = 0 then
    some (q1.1, q1.2.2.1, 0)
  else
  some ((Term.mk 0 0 ([] : List UInt8) [] 0 0), q1.2.2.1, q1.2.2.2)
def expr_Parse (t : List Token) (at_ : Int) : Option (Term × Int × Int) :=
  expr_start_parser_expr t at_ >>= fun q1 =>
  some (q1.1, q1.2.1, q1.2.2)
def stmt_reader_other_Parse (t : List Token) (at_ : Int) (e : Int) : Option (Term × List Token × Int × Int) :=
  if e = 0 then
    if at_ > (List.length t : Int) then
      some ((Term.mk 0 0 ([] : List UInt8) [] 0 0), t, at_, 6)
    else
    expr_Parse t at_ >>= fun q1 =>
    some (q1.1, t, q1.2.1, q1.2.2)
  else
  some ((Term.mk 0 0 ([] : List UInt8) [] 0 0), t, at_, e)
def stmt_reader_expr (t : List Token) (at_ : Int) (e : Int) : Option (Term × List Token × Int × Int) :=
  stmt_reader_other_Parse t at_ e >>= fun q1 =>
  some (q1.1, q1.2.1, q1.2.2.1, q1.2.2.2)
def stmt_reader_single (k : Int) (t : List Token) (at_ : Int) (e : Int) : Option (Term × List Token × Int × Int) :=
  stmt_reader_expr t (IntKind.wrap .i64 (at_ + 1)) e >>= fun q1 =>
  stmt_reader_need 4 ([59] : List UInt8) q1.2.1 q1.2.2.1 q1.2.2.2 >>= fun q2 =>
  stmt_reader_made k ([] : List UInt8) at_ [q1.1] q2.1 q2.2.1 q2.2.2 >>= fun q3 =>
  some (q3, q2.1, q2.2.1, q2.2.2)
def stmt_reader_back (t : List Token) (at_ : Int) (e : Int) : Option (Term × List Token × Int × Int) :=
  stmt_reader_single 27 t at_ e >>= fun q1 =>
  some (q1.1, q1.2.1, q1.2.2.1, q1.2.2.2)
def stmt_reader_call (t : List Token) (at_ : Int) (e : Int) : Option (Term × List Token × Int × Int) :=
  stmt_reader_single 28 t at_ e >>= fun q1 =>
  some (q1.1, q1.2.1, q1.2.2.1, q1.2.2.2)
def stmt_reader_name (t : List Token) (at_ : Int) (e : Int) : Option (Str × List Token × Int × Int) :=
  if e = 0 then
    stmt_reader_now t at_ e >>= fun q1 =>
    if q1.K = 1 then
      some (q1.S, t, IntKind.wrap .i64 (at_ + 1), e)
    else
    some (([] : List UInt8), t, at_, 6)
  else
  some (([] : List UInt8), t, at_, e)
def expr_parser_kind_B (expr_parser_kind : (List Token) → Int → Int → Option (Term × List Token × Int × Int)) (t : List Token) (at_ : Int) (e : Int) : Option (Term × List Token × Int × Int) :=
  if e = 0 then
    expr_parser_now t at_ e >>= fun q1 =>
    if q1.K = 3 then
      if q1.S = ([105, 110, 116] : List UInt8) then
        expr_parser_made (Term.mk 1 0 ([] : List UInt8) [] 0 0) at_ t (IntKind.wrap .i64 (at_ + 1)) e >>= fun q2 =>
        some (q2, t, IntKind.wrap .i64 (at_ + 1), e)
      else
      if q1.S = ([98, 111, 111, 108] : List UInt8) then
        expr_parser_made (Term.mk 2 0 ([] : List UInt8) [] 0 0) at_ t (IntKind.wrap .i64 (at_ + 1)) e >>= fun q3 =>
        some (q3, t, IntKind.wrap .i64 (at_ + 1), e)
      else
      expr_parser_sign ([91] : List UInt8) t at_ e >>= fun q5 =>
      if q5 = true then
        expr_parser_now t (IntKind.wrap .i64 (at_ + 1)) e >>= fun q6 =>
        if q6.K = 2 then
          expr_parser_need ([93] : List UInt8) t (IntKind.wrap .i64 ((IntKind.wrap .i64 (at_ + 1)) + 1)) e >>= fun q8 =>
          expr_parser_kind q8.1 q8.2.1 q8.2.2 >>= fun q9 =>
          expr_parser_made (Term.mk 3 q6.N ([] : List UInt8) [q9.1] 0 0) at_ q9.2.1 q9.2.2.1 q9.2.2.2 >>= fun q10 =>
          some (q10, q9.2.1, q9.2.2.1, q9.2.2.2)
        else
        expr_parser_fail t (IntKind.wrap .i64 (at_ + 1)) e >>= fun q7 =>
        some ((Term.mk 0 0 ([] : List UInt8) [] 0 0), q7.1, q7.2.1, q7.2.2)
      else
      expr_parser_fail t at_ e >>= fun q11 =>
      some ((Term.mk 0 0 ([] : List UInt8) [] 0 0), q11.1, q11.2.1, q11.2.2)
    else
    if q1.K = 1 then
      expr_parser_made (Term.mk 4 0 q1.S [] 0 0) at_ t (IntKind.wrap .i64 (at_ + 1)) e >>= fun q29 =>
      some (q29, t, IntKind.wrap .i64 (at_ + 1), e)
    else
    expr_parser_sign ([91] : List UInt8) t at_ e >>= fun q30 =>
    if q30 = true then
      expr_parser_now t (IntKind.wrap .i64 (at_ + 1)) e >>= fun q31 =>
      if q31.K = 2 then
        expr_parser_need ([93] : List UInt8) t (IntKind.wrap .i64 ((IntKind.wrap .i64 (at_ + 1)) + 1)) e >>= fun q33 =>
        expr_parser_kind q33.1 q33.2.1 q33.2.2 >>= fun q34 =>
        expr_parser_made (Term.mk 3 q31.N ([] : List UInt8) [q34.1] 0 0) at_ q34.2.1 q34.2.2.1 q34.2.2.2 >>= fun q35 =>
        some (q35, q34.2.1, q34.2.2.1, q34.2.2.2)
      else
      expr_parser_fail t (IntKind.wrap .i64 (at_ + 1)) e >>= fun q32 =>
      some ((Term.mk 0 0 ([] : List UInt8) [] 0 0), q32.1, q32.2.1, q32.2.2)
    else
    expr_parser_fail t at_ e >>= fun q36 =>
    some ((Term.mk 0 0 ([] : List UInt8) [] 0 0), q36.1, q36.2.1, q36.2.2)
  else
  some ((Term.mk 0 0 ([] : List UInt8) [] 0 0), t, at_, e)
inductive I_expr_parser_kind where
  | expr_parser_kind (t : List Token) (at_ : Int) (e : Int)
@[reducible] def R_expr_parser_kind : I_expr_parser_kind → Type
  | .expr_parser_kind _ _ _ => Term × List Token × Int × Int
def F_expr_parser_kind (g : Fam R_expr_parser_kind) : Fam R_expr_parser_kind
  | .expr_parser_kind t at_ e => expr_parser_kind_B (fun t at_ e => g (I_expr_parser_kind.expr_parser_kind t at_ e)) t at_ e
theorem D_expr_parser_kind : ∀ i, Good (fun g => F_expr_parser_kind g i)
  | .expr_parser_kind t at_ e => show Good (fun g : Fam R_expr_parser_kind => expr_parser_kind_B (fun t at_ e => g (I_expr_parser_kind.expr_parser_kind t at_ e)) t at_ e) by unfold expr_parser_kind_B; exact (.ite (.bind (.const _) fun _ => (.ite (.ite (.bind (.const _) fun _ => (.const _)) (.ite (.bind (.const _) fun _ => (.const _)) (.bind (.const _) fun _ => (.ite (.bind (.const _) fun _ => (.ite (.bind (.const _) fun _ => (.bind (.call _) fun _ => (.bind (.const _) fun _ => (.const _)))) (.bind (.const _) fun _ => (.const _)))) (.bind (.const _) fun _ => (.const _)))))) (.ite (.bind (.const _) fun _ => (.const _)) (.bind (.const _) fun _ => (.ite (.bind (.const _) fun _ => (.ite (.bind (.const _) fun _ => (.bind (.call _) fun _ => (.bind (.const _) fun _ => (.const _)))) (.bind (.const _) fun _ => (.const _)))) (.bind (.const _) fun _ => (.const _))))))) (.const _))
def expr_parser_kind (t : List Token) (at_ : Int) (e : Int) : Option (Term × List Token × Int × Int) := fixF F_expr_parser_kind (.expr_parser_kind t at_ e)
theorem expr_parser_kind_eq (t : List Token) (at_ : Int) (e : Int) : expr_parser_kind t at_ e = expr_parser_kind_B expr_parser_kind t at_ e := fixF_eq D_expr_parser_kind (.expr_parser_kind t at_ e)
def expr_start_parser_kind (t : List Token) (at_ : Int) : Option (Term × Int × Int) :=
  if at_ < 0 then
    some ((Term.mk 0 0 ([] : List UInt8) [] 0 0), 0, 13)
  else
  if at_ > (List.length t : Int) then
    some ((Term.mk 0 0 ([] : List UInt8) [] 0 0), 0, 13)
  else
  expr_parser_kind t at_ 0 >>= fun q1 =>
  if q1.2.2.2 = 0 then
    some (q1.1, q1.2.2.1, 0)
  else
  some ((Term.mk 0 0 ([] : List UInt8) [] 0 0), q1.2.2.1, q1.2.2.2)
def expr_Type (t : List Token) (at_ : Int) : Option (Term × Int × Int) :=
  expr_start_parser_kind t at_ >>= fun q1 =>
  some (q1.1, q1.2.1, q1.2.2)
def stmt_reader_other_Type (t : List Token) (at_ : Int) (e : Int) : Option (Term × List Token × Int × Int) :=
  if e = 0 then
    if at_ > (List.length t : Int) then
      some ((Term.mk 0 0 ([] : List UInt8) [] 0 0), t, at_, 6)
    else
    expr_Type t at_ >>= fun q1 =>
    some (q1.1, t, q1.2.1, q1.2.2)
  else
  some ((Term.mk 0 0 ([] : List UInt8) [] 0 0), t, at_, e)
def stmt_reader_let (t : List Token) (at_ : Int) (e : Int) : Option (Term × List Token × Int × Int) :=
  stmt_reader_name t (IntKind.wrap .i64 (at_ + 1)) e >>= fun q1 =>
  if q1.2.2.2 = 0 then
    stmt_reader_is 4 ([58] : List UInt8) q1.2.1 q1.2.2.1 q1.2.2.2 >>= fun q2 =>
    if q2 = true then
      stmt_reader_other_Type q1.2.1 (IntKind.wrap .i64 (q1.2.2.1 + 1)) q1.2.2.2 >>= fun q3 =>
      stmt_reader_need 4 ([59] : List UInt8) q3.2.1 q3.2.2.1 q3.2.2.2 >>= fun q4 =>
      stmt_reader_made 21 q1.1 at_ [q3.1] q4.1 q4.2.1 q4.2.2 >>= fun q5 =>
      some (q5, q4.1, q4.2.1, q4.2.2)
    else
    stmt_reader_need 4 ([61] : List UInt8) q1.2.1 q1.2.2.1 q1.2.2.2 >>= fun q6 =>
    stmt_reader_expr q6.1 q6.2.1 q6.2.2 >>= fun q7 =>
    stmt_reader_need 4 ([59] : List UInt8) q7.2.1 q7.2.2.1 q7.2.2.2 >>= fun q8 =>
    stmt_reader_made 20 q1.1 at_ [q7.1] q8.1 q8.2.1 q8.2.2 >>= fun q9 =>
    some (q9, q8.1, q8.2.1, q8.2.2)
  else
  stmt_reader_need 4 ([61] : List UInt8) q1.2.1 q1.2.2.1 q1.2.2.2 >>= fun q10 =>
  stmt_reader_expr q10.1 q10.2.1 q10.2.2 >>= fun q11 =>
  stmt_reader_need 4 ([59] : List UInt8) q11.2.1 q11.2.2.1 q11.2.2.2 >>= fun q12 =>
  stmt_reader_made 20 q1.1 at_ [q11.1] q12.1 q12.2.1 q12.2.2 >>= fun q13 =>
  some (q13, q12.1, q12.2.1, q12.2.2)
def stmt_reader_set (t : List Token) (at_ : Int) (e : Int) : Option (Term × List Token × Int × Int) :=
  stmt_reader_expr t at_ e >>= fun q1 =>
  stmt_reader_need 4 ([61] : List UInt8) q1.2.1 q1.2.2.1 q1.2.2.2 >>= fun q2 =>
  stmt_reader_expr q2.1 q2.2.1 q2.2.2 >>= fun q3 =>
  stmt_reader_need 4 ([59] : List UInt8) q3.2.1 q3.2.2.1 q3.2.2.2 >>= fun q4 =>
  stmt_reader_made 22 ([] : List UInt8) at_ [q1.1, q3.1] q4.1 q4.2.1 q4.2.2 >>= fun q5 =>
  some (q5, q4.1, q4.2.1, q4.2.2)
def stmt_reader_show (t : List Token) (at_ : Int) (e : Int) : Option (Term × List Token × Int × Int) :=
  stmt_reader_single 26 t at_ e >>= fun q1 =>
  some (q1.1, q1.2.1, q1.2.2.1, q1.2.2.2)
def stmt_reader_stmt_B (stmt_reader_block : (List Token) → Int → Int → Option (Term × List Token × Int × Int)) (stmt_reader_cond : (List Token) → Int → Int → Option (Term × List Token × Int × Int)) (stmt_reader_while : (List Token) → Int → Int → Option (Term × List Token × Int × Int)) (stmt_reader_count : (List Token) → Int → Int → Option (Term × List Token × Int × Int)) (t : List Token) (at_ : Int) (e : Int) : Option (Term × List Token × Int × Int) :=
  stmt_reader_now t at_ e >>= fun q1 =>
  stmt_kind q1 >>= fun q2 =>
  if q2 = 15 then
    stmt_reader_block t at_ e >>= fun q3 =>
    some (q3.1, q3.2.1, q3.2.2.1, q3.2.2.2)
  else if q2 = 42 then
    stmt_reader_set t at_ e >>= fun q4 =>
    some (q4.1, q4.2.1, q4.2.2.1, q4.2.2.2)
  else if q2 = 43 then
    stmt_reader_let t at_ e >>= fun q5 =>
    some (q5.1, q5.2.1, q5.2.2.1, q5.2.2.2)
  else if q2 = 44 then
    stmt_reader_cond t at_ e >>= fun q6 =>
    some (q6.1, q6.2.1, q6.2.2.1, q6.2.2.2)
  else if q2 = 45 then
    stmt_reader_while t at_ e >>= fun q7 =>
    some (q7.1, q7.2.1, q7.2.2.1, q7.2.2.2)
  else if q2 = 46 then
    stmt_reader_count t at_ e >>= fun q8 =>
    some (q8.1, q8.2.1, q8.2.2.1, q8.2.2.2)
  else if q2 = 47 then
    stmt_reader_show t at_ e >>= fun q9 =>
    some (q9.1, q9.2.1, q9.2.2.1, q9.2.2.2)
  else if q2 = 48 then
    stmt_reader_back t at_ e >>= fun q10 =>
    some (q10.1, q10.2.1, q10.2.2.1, q10.2.2.2)
  else if q2 = 49 then
    stmt_reader_call t at_ e >>= fun q11 =>
    some (q11.1, q11.2.1, q11.2.2.1, q11.2.2.2)
  else none
def stmt_reader_block_B (stmt_reader_block_L4 : Int → (List Term) → Term → (List Token) → Int → Int → Option (Term × List Token × Int × Int)) (t : List Token) (at_ : Int) (e : Int) : Option (Term × List Token × Int × Int) :=
  stmt_reader_need 4 ([123] : List UInt8) t at_ e >>= fun q1 =>
  stmt_reader_block_L4 at_ [] (Term.mk 0 0 ([] : List UInt8) [] 0 0) q1.1 q1.2.1 q1.2.2
def stmt_reader_block_L4_B (stmt_reader_stmt : (List Token) → Int → Int → Option (Term × List Token × Int × Int)) (stmt_reader_block_L4 : Int → (List Term) → Term → (List Token) → Int → Int → Option (Term × List Token × Int × Int)) (from_ : Int) (l : List Term) (o2 : Term) (t : List Token) (at_ : Int) (e : Int) : Option (Term × List Token × Int × Int) :=
  if e = 0 then
    stmt_reader_is 4 ([125] : List UInt8) t at_ e >>= fun q1 =>
    if q1 = true then
      stmt_reader_need 4 ([125] : List UInt8) t at_ e >>= fun q3 =>
      stmt_reader_made 29 ([] : List UInt8) from_ l q3.1 q3.2.1 q3.2.2 >>= fun q4 =>
      some (q4, q3.1, q3.2.1, q3.2.2)
    else
    stmt_reader_stmt t at_ e >>= fun q2 =>
    if roomy 72 (List.length l + List.length [q2.1]) then
    stmt_reader_block_L4 from_ (l ++ [q2.1]) o2 q2.2.1 q2.2.2.1 q2.2.2.2
    else none
  else
  stmt_reader_need 4 ([125] : List UInt8) t at_ e >>= fun q5 =>
  stmt_reader_made 29 ([] : List UInt8) from_ l q5.1 q5.2.1 q5.2.2 >>= fun q6 =>
  some (q6, q5.1, q5.2.1, q5.2.2)
def stmt_reader_cond_B (stmt_reader_block : (List Token) → Int → Int → Option (Term × List Token × Int × Int)) (t : List Token) (at_ : Int) (e : Int) : Option (Term × List Token × Int × Int) :=
  stmt_reader_expr t (IntKind.wrap .i64 (at_ + 1)) e >>= fun q1 =>
  stmt_reader_block q1.2.1 q1.2.2.1 q1.2.2.2 >>= fun q2 =>
  if q2.2.2.2 = 0 then
    stmt_reader_is 3 ([101, 108, 115, 101] : List UInt8) q2.2.1 q2.2.2.1 q2.2.2.2 >>= fun q3 =>
    if q3 = true then
      stmt_reader_block q2.2.1 (IntKind.wrap .i64 (q2.2.2.1 + 1)) q2.2.2.2 >>= fun q4 =>
      stmt_reader_made 23 ([] : List UInt8) at_ [q1.1, q2.1, q4.1] q4.2.1 q4.2.2.1 q4.2.2.2 >>= fun q5 =>
      some (q5, q4.2.1, q4.2.2.1, q4.2.2.2)
    else
    stmt_reader_made 23 ([] : List UInt8) at_ [q1.1, q2.1, (Term.mk 29 0 ([] : List UInt8) [] q2.1.To q2.1.To)] q2.2.1 q2.2.2.1 q2.2.2.2 >>= fun q6 =>
    some (q6, q2.2.1, q2.2.2.1, q2.2.2.2)
  else
  stmt_reader_made 23 ([] : List UInt8) at_ [q1.1, q2.1, (Term.mk 29 0 ([] : List UInt8) [] q2.1.To q2.1.To)] q2.2.1 q2.2.2.1 q2.2.2.2 >>= fun q7 =>
  some (q7, q2.2.1, q2.2.2.1, q2.2.2.2)
def stmt_reader_while_B (stmt_reader_block : (List Token) → Int → Int → Option (Term × List Token × Int × Int)) (t : List Token) (at_ : Int) (e : Int) : Option (Term × List Token × Int × Int) :=
  stmt_reader_expr t (IntKind.wrap .i64 (at_ + 1)) e >>= fun q1 =>
  stmt_reader_block q1.2.1 q1.2.2.1 q1.2.2.2 >>= fun q2 =>
  stmt_reader_made 24 ([] : List UInt8) at_ [q1.1, q2.1] q2.2.1 q2.2.2.1 q2.2.2.2 >>= fun q3 =>
  some (q3, q2.2.1, q2.2.2.1, q2.2.2.2)
def stmt_reader_count_B (stmt_reader_block : (List Token) → Int → Int → Option (Term × List Token × Int × Int)) (t : List Token) (at_ : Int) (e : Int) : Option (Term × List Token × Int × Int) :=
  stmt_reader_name t (IntKind.wrap .i64 (at_ + 1)) e >>= fun q1 =>
  stmt_reader_need 4 ([61] : List UInt8) q1.2.1 q1.2.2.1 q1.2.2.2 >>= fun q2 =>
  stmt_reader_expr q2.1 q2.2.1 q2.2.2 >>= fun q3 =>
  stmt_reader_need 3 ([116, 111] : List UInt8) q3.2.1 q3.2.2.1 q3.2.2.2 >>= fun q4 =>
  stmt_reader_expr q4.1 q4.2.1 q4.2.2 >>= fun q5 =>
  stmt_reader_block q5.2.1 q5.2.2.1 q5.2.2.2 >>= fun q6 =>
  stmt_reader_made 25 q1.1 at_ [q3.1, q5.1, q6.1] q6.2.1 q6.2.2.1 q6.2.2.2 >>= fun q7 =>
  some (q7, q6.2.1, q6.2.2.1, q6.2.2.2)
inductive I_stmt_reader_stmt where
  | stmt_reader_stmt (t : List Token) (at_ : Int) (e : Int)
  | stmt_reader_block (t : List Token) (at_ : Int) (e : Int)
  | stmt_reader_block_L4 (from_ : Int) (l : List Term) (o2 : Term) (t : List Token) (at_ : Int) (e : Int)
  | stmt_reader_cond (t : List Token) (at_ : Int) (e : Int)
  | stmt_reader_while (t : List Token) (at_ : Int) (e : Int)
  | stmt_reader_count (t : List Token) (at_ : Int) (e : Int)
@[reducible] def R_stmt_reader_stmt : I_stmt_reader_stmt → Type
  | .stmt_reader_stmt _ _ _ => Term × List Token × Int × Int
  | .stmt_reader_block _ _ _ => Term × List Token × Int × Int
  | .stmt_reader_block_L4 _ _ _ _ _ _ => Term × List Token × Int × Int
  | .stmt_reader_cond _ _ _ => Term × List Token × Int × Int
  | .stmt_reader_while _ _ _ => Term × List Token × Int × Int
  | .stmt_reader_count _ _ _ => Term × List Token × Int × Int
def F_stmt_reader_stmt (g : Fam R_stmt_reader_stmt) : Fam R_stmt_reader_stmt
  | .stmt_reader_stmt t at_ e => stmt_reader_stmt_B (fun t at_ e => g (I_stmt_reader_stmt.stmt_reader_block t at_ e)) (fun t at_ e => g (I_stmt_reader_stmt.stmt_reader_cond t at_ e)) (fun t at_ e => g (I_stmt_reader_stmt.stmt_reader_while t at_ e)) (fun t at_ e => g (I_stmt_reader_stmt.stmt_reader_count t at_ e)) t at_ e
  | .stmt_reader_block t at_ e => stmt_reader_block_B (fun from_ l o2 t at_ e => g (I_stmt_reader_stmt.stmt_reader_block_L4 from_ l o2 t at_ e)) t at_ e
  | .stmt_reader_block_L4 from_ l o2 t at_ e => stmt_reader_block_L4_B (fun t at_ e => g (I_stmt_reader_stmt.stmt_reader_stmt t at_ e)) (fun from_ l o2 t at_ e => g (I_stmt_reader_stmt.stmt_reader_block_L4 from_ l o2 t at_ e)) from_ l o2 t at_ e
  | .stmt_reader_cond t at_ e => stmt_reader_cond_B (fun t at_ e => g (I_stmt_reader_stmt.stmt_reader_block t at_ e)) t at_ e
  | .stmt_reader_while t at_ e => stmt_reader_while_B (fun t at_ e => g (I_stmt_reader_stmt.stmt_reader_block t at_ e)) t at_ e
  | .stmt_reader_count t at_ e => stmt_reader_count_B (fun t at_ e => g (I_stmt_reader_stmt.stmt_reader_block t at_ e)) t at_ e
theorem D_stmt_reader_stmt : ∀ i, Good (fun g => F_stmt_reader_stmt g i)
  | .stmt_reader_stmt t at_ e => show Good (fun g : Fam R_stmt_reader_stmt => stmt_reader_stmt_B (fun t at_ e => g (I_stmt_reader_stmt.stmt_reader_block t at_ e)) (fun t at_ e => g (I_stmt_reader_stmt.stmt_reader_cond t at_ e)) (fun t at_ e => g (I_stmt_reader_stmt.stmt_reader_while t at_ e)) (fun t at_ e => g (I_stmt_reader_stmt.stmt_reader_count t at_ e)) t at_ e) by unfold stmt_reader_stmt_B; exact (.bind (.const _) fun _ => (.bind (.const _) fun _ => (.ite (.bind (.call _) fun _ => (.const _)) (.ite (.bind (.const _) fun _ => (.const _)) (.ite (.bind (.const _) fun _ => (.const _)) (.ite (.bind (.call _) fun _ => (.const _)) (.ite (.bind (.call _) fun _ => (.const _)) (.ite (.bind (.call _) fun _ => (.const _)) (.ite (.bind (.const _) fun _ => (.const _)) (.ite (.bind (.const _) fun _ => (.const _)) (.ite (.bind (.const _) fun _ => (.const _)) (.const _))))))))))))
  | .stmt_reader_block t at_ e => show Good (fun g : Fam R_stmt_reader_stmt => stmt_reader_block_B (fun from_ l o2 t at_ e => g (I_stmt_reader_stmt.stmt_reader_block_L4 from_ l o2 t at_ e)) t at_ e) by unfold stmt_reader_block_B; exact (.bind (.const _) fun _ => (.call _))
  | .stmt_reader_block_L4 from_ l o2 t at_ e => show Good (fun g : Fam R_stmt_reader_stmt => stmt_reader_block_L4_B (fun t at_ e => g (I_stmt_reader_stmt.stmt_reader_stmt t at_ e)) (fun from_ l o2 t at_ e => g (I_stmt_reader_stmt.stmt_reader_block_L4 from_ l o2 t at_ e)) from_ l o2 t at_ e) by unfold stmt_reader_block_L4_B; exact (.ite (.bind (.const _) fun _ => (.ite (.bind (.const _) fun _ => (.bind (.const _) fun _ => (.const _))) (.bind (.call _) fun _ => (.ite (.call _) (.const _))))) (.bind (.const _) fun _ => (.bind (.const _) fun _ => (.const _))))
  | .stmt_reader_cond t at_ e => show Good (fun g : Fam R_stmt_reader_stmt => stmt_reader_cond_B (fun t at_ e => g (I_stmt_reader_stmt.stmt_reader_block t at_ e)) t at_ e) by unfold stmt_reader_cond_B; exact (.bind (.const _) fun _ => (.bind (.call _) fun _ => (.ite (.bind (.const _) fun _ => (.ite (.bind (.call _) fun _ => (.bind (.const _) fun _ => (.const _))) (.bind (.const _) fun _ => (.const _)))) (.bind (.const _) fun _ => (.const _)))))
  | .stmt_reader_while t at_ e => show Good (fun g : Fam R_stmt_reader_stmt => stmt_reader_while_B (fun t at_ e => g (I_stmt_reader_stmt.stmt_reader_block t at_ e)) t at_ e) by unfold stmt_reader_while_B; exact (.bind (.const _) fun _ => (.bind (.call _) fun _ => (.bind (.const _) fun _ => (.const _))))
  | .stmt_reader_count t at_ e => show Good (fun g : Fam R_stmt_reader_stmt => stmt_reader_count_B (fun t at_ e => g (I_stmt_reader_stmt.stmt_reader_block t at_ e)) t at_ e) by unfold stmt_reader_count_B; exact (.bind (.const _) fun _ => (.bind (.const _) fun _ => (.bind (.const _) fun _ => (.bind (.const _) fun _ => (.bind (.const _) fun _ => (.bind (.call _) fun _ => (.bind (.const _) fun _ => (.const _))))))))
def stmt_reader_stmt (t : List Token) (at_ : Int) (e : Int) : Option (Term × List Token × Int × Int) := fixF F_stmt_reader_stmt (.stmt_reader_stmt t at_ e)
def stmt_reader_block (t : List Token) (at_ : Int) (e : Int) : Option (Term × List Token × Int × Int) := fixF F_stmt_reader_stmt (.stmt_reader_block t at_ e)
def stmt_reader_block_L4 (from_ : Int) (l : List Term) (o2 : Term) (t : List Token) (at_ : Int) (e : Int) : Option (Term × List Token × Int × Int) := fixF F_stmt_reader_stmt (.stmt_reader_block_L4 from_ l o2 t at_ e)
def stmt_reader_cond (t : List Token) (at_ : Int) (e : Int) : Option (Term × List Token × Int × Int) := fixF F_stmt_reader_stmt (.stmt_reader_cond t at_ e)
def stmt_reader_while (t : List Token) (at_ : Int) (e : Int) : Option (Term × List Token × Int × Int) := fixF F_stmt_reader_stmt (.stmt_reader_while t at_ e)
def stmt_reader_count (t : List Token) (at_ : Int) (e : Int) : Option (Term × List Token × Int × Int) := fixF F_stmt_reader_stmt (.stmt_reader_count t at_ e)
theorem stmt_reader_stmt_eq (t : List Token) (at_ : Int) (e : Int) : stmt_reader_stmt t at_ e = stmt_reader_stmt_B stmt_reader_block stmt_reader_cond stmt_reader_while stmt_reader_count t at_ e := fixF_eq D_stmt_reader_stmt (.stmt_reader_stmt t at_ e)
theorem stmt_reader_block_eq (t : List Token) (at_ : Int) (e : Int) : stmt_reader_block t at_ e = stmt_reader_block_B stmt_reader_block_L4 t at_ e := fixF_eq D_stmt_reader_stmt (.stmt_reader_block t at_ e)
theorem stmt_reader_block_L4_eq (from_ : Int) (l : List Term) (o2 : Term) (t : List Token) (at_ : Int) (e : Int) : stmt_reader_block_L4 from_ l o2 t at_ e = stmt_reader_block_L4_B stmt_reader_stmt stmt_reader_block_L4 from_ l o2 t at_ e := fixF_eq D_stmt_reader_stmt (.stmt_reader_block_L4 from_ l o2 t at_ e)
theorem stmt_reader_cond_eq (t : List Token) (at_ : Int) (e : Int) : stmt_reader_cond t at_ e = stmt_reader_cond_B stmt_reader_block t at_ e := fixF_eq D_stmt_reader_stmt (.stmt_reader_cond t at_ e)
theorem stmt_reader_while_eq (t : List Token) (at_ : Int) (e : Int) : stmt_reader_while t at_ e = stmt_reader_while_B stmt_reader_block t at_ e := fixF_eq D_stmt_reader_stmt (.stmt_reader_while t at_ e)
theorem stmt_reader_count_eq (t : List Token) (at_ : Int) (e : Int) : stmt_reader_count t at_ e = stmt_reader_count_B stmt_reader_block t at_ e := fixF_eq D_stmt_reader_stmt (.stmt_reader_count t at_ e)
def stmt_start_reader_block (t : List Token) (at_ : Int) : Option (Term × Int × Int) :=
  if at_ < 0 then
    some ((Term.mk 0 0 ([] : List UInt8) [] 0 0), 0, 13)
  else
  if at_ > (List.length t : Int) then
    some ((Term.mk 0 0 ([] : List UInt8) [] 0 0), 0, 13)
  else
  stmt_reader_block t at_ 0 >>= fun q1 =>
  if q1.2.2.2 = 0 then
    some (q1.1, q1.2.2.1, 0)
  else
  some ((Term.mk 0 0 ([] : List UInt8) [] 0 0), q1.2.2.1, q1.2.2.2)
def stmt_Block (t : List Token) (at_ : Int) : Option (Term × Int × Int) :=
  stmt_start_reader_block t at_ >>= fun q1 =>
  some (q1.1, q1.2.1, q1.2.2)
def law08awake  : Option (Bool) :=
  stmt_Block [(Token.mk 4 0 ([123] : List UInt8) 0 0), (Token.mk 4 0 ([125] : List UInt8) 0 2)] 0 >>= fun q1 =>
  if q1.2.2 = 0 then
    if q1.2.1 = 2 then
      if q1.1.K = 29 then
        some ((q1.1.To == 2))
      else
      some (false)
    else
    some (false)
  else
  some (false)
def ref05Begins (text : Str) (at_ : Int) (s : Str) : Option (Bool) :=
  if (List.length s : Int) ≤ (IntKind.wrap .i64 ((List.length text : Int) - at_)) then
    if (0 : Int) ≤ (IntKind.wrap .i64 (at_ + (List.length s : Int))) then
    if Int.toNat (IntKind.wrap .i64 (at_ + (List.length s : Int))) ≤ List.length text then
    if (0 : Int) ≤ at_ then
    if Int.toNat at_ ≤ Int.toNat (IntKind.wrap .i64 (at_ + (List.length s : Int))) then
    some (((List.drop (Int.toNat at_) (List.take (Int.toNat (IntKind.wrap .i64 (at_ + (List.length s : Int)))) text)) == s))
    else none
    else none
    else none
    else none
  else
  some (false)
def ref05Blank (c : Int) : Option (Bool) :=
  if c = 32 then
    some (true)
  else
  if c = 9 then
    some (true)
  else
  if c = 10 then
    some (true)
  else
  some ((c == 13))
def ref05Next_L1_B (ref05Next_L1 : Str → Int → Option (Int)) (ref05Next_L5 : Str → Int → Option (Int)) (text : Str) (at_ : Int) : Option (Int) :=
  if at_ < (List.length text : Int) then
    idx text at_ >>= fun c =>
    ref05Blank (Int.ofNat (UInt8.toNat c)) >>= fun q1 =>
    if q1 = true then
      ref05Next_L1 text (IntKind.wrap .i64 (at_ + 1))
    else
    ref05Begins text at_ ([47, 47] : List UInt8) >>= fun q2 =>
    if q2 = true then
      ref05Next_L5 text at_
    else
    some (at_)
  else
  some (at_)
def ref05Next_L5_B (ref05Next_L1 : Str → Int → Option (Int)) (ref05Next_L5 : Str → Int → Option (Int)) (text : Str) (at_ : Int) : Option (Int) :=
  if at_ < (List.length text : Int) then
    idx text at_ >>= fun c =>
    if Int.ofNat (UInt8.toNat c) = 10 then
      ref05Next_L1 text at_
    else
    ref05Next_L5 text (IntKind.wrap .i64 (at_ + 1))
  else
  ref05Next_L1 text at_
inductive I_ref05Next_L1 where
  | ref05Next_L1 (text : Str) (at_ : Int)
  | ref05Next_L5 (text : Str) (at_ : Int)
@[reducible] def R_ref05Next_L1 : I_ref05Next_L1 → Type
  | .ref05Next_L1 _ _ => Int
  | .ref05Next_L5 _ _ => Int
def F_ref05Next_L1 (g : Fam R_ref05Next_L1) : Fam R_ref05Next_L1
  | .ref05Next_L1 text at_ => ref05Next_L1_B (fun text at_ => g (I_ref05Next_L1.ref05Next_L1 text at_)) (fun text at_ => g (I_ref05Next_L1.ref05Next_L5 text at_)) text at_
  | .ref05Next_L5 text at_ => ref05Next_L5_B (fun text at_ => g (I_ref05Next_L1.ref05Next_L1 text at_)) (fun text at_ => g (I_ref05Next_L1.ref05Next_L5 text at_)) text at_
theorem D_ref05Next_L1 : ∀ i, Good (fun g => F_ref05Next_L1 g i)
  | .ref05Next_L1 text at_ => show Good (fun g : Fam R_ref05Next_L1 => ref05Next_L1_B (fun text at_ => g (I_ref05Next_L1.ref05Next_L1 text at_)) (fun text at_ => g (I_ref05Next_L1.ref05Next_L5 text at_)) text at_) by unfold ref05Next_L1_B; exact (.ite (.bind (.const _) fun _ => (.bind (.const _) fun _ => (.ite (.call _) (.bind (.const _) fun _ => (.ite (.call _) (.const _)))))) (.const _))
  | .ref05Next_L5 text at_ => show Good (fun g : Fam R_ref05Next_L1 => ref05Next_L5_B (fun text at_ => g (I_ref05Next_L1.ref05Next_L1 text at_)) (fun text at_ => g (I_ref05Next_L1.ref05Next_L5 text at_)) text at_) by unfold ref05Next_L5_B; exact (.ite (.bind (.const _) fun _ => (.ite (.call _) (.call _))) (.call _))
def ref05Next_L1 (text : Str) (at_ : Int) : Option (Int) := fixF F_ref05Next_L1 (.ref05Next_L1 text at_)
def ref05Next_L5 (text : Str) (at_ : Int) : Option (Int) := fixF F_ref05Next_L1 (.ref05Next_L5 text at_)
theorem ref05Next_L1_eq (text : Str) (at_ : Int) : ref05Next_L1 text at_ = ref05Next_L1_B ref05Next_L1 ref05Next_L5 text at_ := fixF_eq D_ref05Next_L1 (.ref05Next_L1 text at_)
theorem ref05Next_L5_eq (text : Str) (at_ : Int) : ref05Next_L5 text at_ = ref05Next_L5_B ref05Next_L1 ref05Next_L5 text at_ := fixF_eq D_ref05Next_L1 (.ref05Next_L5 text at_)
def ref05Next (text : Str) (at_ : Int) : Option (Int) :=
  ref05Next_L1 text at_
def ref05Digit (c : Int) : Option (Bool) :=
  if (48 : Int) ≤ c then
    some (decide (c ≤ 57))
  else
  some (false)
def ref05Letter (c : Int) : Option (Bool) :=
  if (97 : Int) ≤ c then
    if c ≤ 122 then
      some (true)
    else
    if (65 : Int) ≤ c then
      if c ≤ 90 then
        some (true)
      else
      some ((c == 95))
    else
    some ((c == 95))
  else
  if (65 : Int) ≤ c then
    if c ≤ 90 then
      some (true)
    else
    some ((c == 95))
  else
  some ((c == 95))
def ref05Number_L5_B (ref05Number_L5 : Str → Int → Int → Option (Int × Bool)) (s : Str) (v : Int) (i : Int) : Option (Int × Bool) :=
  if i < (List.length s : Int) then
    idx s i >>= fun c =>
    if 10 ≠ (0 : Int) then
    if v > (IntKind.wrap .i64 (Int.tdiv (IntKind.wrap .i64 (9223372036854775807 - (IntKind.wrap .i64 (IntKind.wrap .u8 ((Int.ofNat (UInt8.toNat c)) - 48))))) 10)) then
      some (0, false)
    else
    ref05Number_L5 s (IntKind.wrap .i64 ((IntKind.wrap .i64 (v * 10)) + (IntKind.wrap .i64 (IntKind.wrap .u8 ((Int.ofNat (UInt8.toNat c)) - 48))))) (IntKind.wrap .i64 (i + 1))
    else none
  else
  some (v, true)
inductive I_ref05Number_L5 where
  | ref05Number_L5 (s : Str) (v : Int) (i : Int)
@[reducible] def R_ref05Number_L5 : I_ref05Number_L5 → Type
  | .ref05Number_L5 _ _ _ => Int × Bool
def F_ref05Number_L5 (g : Fam R_ref05Number_L5) : Fam R_ref05Number_L5
  | .ref05Number_L5 s v i => ref05Number_L5_B (fun s v i => g (I_ref05Number_L5.ref05Number_L5 s v i)) s v i
theorem D_ref05Number_L5 : ∀ i, Good (fun g => F_ref05Number_L5 g i)
  | .ref05Number_L5 s v i => show Good (fun g : Fam R_ref05Number_L5 => ref05Number_L5_B (fun s v i => g (I_ref05Number_L5.ref05Number_L5 s v i)) s v i) by unfold ref05Number_L5_B; exact (.ite (.bind (.const _) fun _ => (.ite (.ite (.const _) (.call _)) (.const _))) (.const _))
def ref05Number_L5 (s : Str) (v : Int) (i : Int) : Option (Int × Bool) := fixF F_ref05Number_L5 (.ref05Number_L5 s v i)
theorem ref05Number_L5_eq (s : Str) (v : Int) (i : Int) : ref05Number_L5 s v i = ref05Number_L5_B ref05Number_L5 s v i := fixF_eq D_ref05Number_L5 (.ref05Number_L5 s v i)
def ref05Number (s : Str) : Option (Int × Bool) :=
  if (List.length s : Int) = 0 then
    some (0, false)
  else
  if (List.length s : Int) > 1 then
    idx s 0 >>= fun c =>
    if Int.ofNat (UInt8.toNat c) = 48 then
      some (0, false)
    else
    ref05Number_L5 s 0 0
  else
  ref05Number_L5 s 0 0
def ref05One_L13_B (ref05One_L13 : Str → Int → Int → Token → Option (Token × Int)) (text : Str) (at_ : Int) (to_ : Int) (o4 : Token) : Option (Token × Int) :=
  if to_ < (List.length text : Int) then
    idx text to_ >>= fun c =>
    ref05Digit (Int.ofNat (UInt8.toNat c)) >>= fun q1 =>
    if q1 = true then
      ref05One_L13 text at_ (IntKind.wrap .i64 (to_ + 1)) o4
    else
    if (0 : Int) ≤ to_ then
    if Int.toNat to_ ≤ List.length text then
    if (0 : Int) ≤ at_ then
    if Int.toNat at_ ≤ Int.toNat to_ then
    ref05Number (List.drop (Int.toNat at_) (List.take (Int.toNat to_) text)) >>= fun q2 =>
    if q2.2 = true then
      some ((Token.mk 2 q2.1 ([] : List UInt8) at_ to_), 0)
    else
    some ((Token.mk 0 0 ([] : List UInt8) 0 0), 5)
    else none
    else none
    else none
    else none
  else
  if (0 : Int) ≤ to_ then
  if Int.toNat to_ ≤ List.length text then
  if (0 : Int) ≤ at_ then
  if Int.toNat at_ ≤ Int.toNat to_ then
  ref05Number (List.drop (Int.toNat at_) (List.take (Int.toNat to_) text)) >>= fun q3 =>
  if q3.2 = true then
    some ((Token.mk 2 q3.1 ([] : List UInt8) at_ to_), 0)
  else
  some ((Token.mk 0 0 ([] : List UInt8) 0 0), 5)
  else none
  else none
  else none
  else none
inductive I_ref05One_L13 where
  | ref05One_L13 (text : Str) (at_ : Int) (to_ : Int) (o4 : Token)
@[reducible] def R_ref05One_L13 : I_ref05One_L13 → Type
  | .ref05One_L13 _ _ _ _ => Token × Int
def F_ref05One_L13 (g : Fam R_ref05One_L13) : Fam R_ref05One_L13
  | .ref05One_L13 text at_ to_ o4 => ref05One_L13_B (fun text at_ to_ o4 => g (I_ref05One_L13.ref05One_L13 text at_ to_ o4)) text at_ to_ o4
theorem D_ref05One_L13 : ∀ i, Good (fun g => F_ref05One_L13 g i)
  | .ref05One_L13 text at_ to_ o4 => show Good (fun g : Fam R_ref05One_L13 => ref05One_L13_B (fun text at_ to_ o4 => g (I_ref05One_L13.ref05One_L13 text at_ to_ o4)) text at_ to_ o4) by unfold ref05One_L13_B; exact (.ite (.bind (.const _) fun _ => (.bind (.const _) fun _ => (.ite (.call _) (.ite (.ite (.ite (.ite (.bind (.const _) fun _ => (.ite (.const _) (.const _))) (.const _)) (.const _)) (.const _)) (.const _))))) (.ite (.ite (.ite (.ite (.bind (.const _) fun _ => (.ite (.const _) (.const _))) (.const _)) (.const _)) (.const _)) (.const _)))
def ref05One_L13 (text : Str) (at_ : Int) (to_ : Int) (o4 : Token) : Option (Token × Int) := fixF F_ref05One_L13 (.ref05One_L13 text at_ to_ o4)
theorem ref05One_L13_eq (text : Str) (at_ : Int) (to_ : Int) (o4 : Token) : ref05One_L13 text at_ to_ o4 = ref05One_L13_B ref05One_L13 text at_ to_ o4 := fixF_eq D_ref05One_L13 (.ref05One_L13 text at_ to_ o4)
def ref05One_L21_B (ref05One_L21 : Str → Int → (List Str) → Int → Token → Option (Token × Int)) (text : Str) (at_ : Int) (all : List Str) (i : Int) (o4 : Token) : Option (Token × Int) :=
  if i < (List.length all : Int) then
    idx all i >>= fun x =>
    ref05Begins text at_ x >>= fun q1 =>
    if q1 = true then
      idx all i >>= fun x1 =>
      idx all i >>= fun x2 =>
      some ((Token.mk 4 0 x1 at_ (IntKind.wrap .i64 (at_ + (List.length x2 : Int)))), 0)
    else
    ref05One_L21 text at_ all (IntKind.wrap .i64 (i + 1)) o4
  else
  some ((Token.mk 0 0 ([] : List UInt8) 0 0), 4)
inductive I_ref05One_L21 where
  | ref05One_L21 (text : Str) (at_ : Int) (all : List Str) (i : Int) (o4 : Token)
@[reducible] def R_ref05One_L21 : I_ref05One_L21 → Type
  | .ref05One_L21 _ _ _ _ _ => Token × Int
def F_ref05One_L21 (g : Fam R_ref05One_L21) : Fam R_ref05One_L21
  | .ref05One_L21 text at_ all i o4 => ref05One_L21_B (fun text at_ all i o4 => g (I_ref05One_L21.ref05One_L21 text at_ all i o4)) text at_ all i o4
theorem D_ref05One_L21 : ∀ i, Good (fun g => F_ref05One_L21 g i)
  | .ref05One_L21 text at_ all i o4 => show Good (fun g : Fam R_ref05One_L21 => ref05One_L21_B (fun text at_ all i o4 => g (I_ref05One_L21.ref05One_L21 text at_ all i o4)) text at_ all i o4) by unfold ref05One_L21_B; exact (.ite (.bind (.const _) fun _ => (.bind (.const _) fun _ => (.ite (.bind (.const _) fun _ => (.bind (.const _) fun _ => (.const _))) (.call _)))) (.const _))
def ref05One_L21 (text : Str) (at_ : Int) (all : List Str) (i : Int) (o4 : Token) : Option (Token × Int) := fixF F_ref05One_L21 (.ref05One_L21 text at_ all i o4)
theorem ref05One_L21_eq (text : Str) (at_ : Int) (all : List Str) (i : Int) (o4 : Token) : ref05One_L21 text at_ all i o4 = ref05One_L21_B ref05One_L21 text at_ all i o4 := fixF_eq D_ref05One_L21 (.ref05One_L21 text at_ all i o4)
def ref05Among_L2_B (ref05Among_L2 : Str → (List Str) → Int → Option (Bool)) (s : Str) (all : List Str) (i : Int) : Option (Bool) :=
  if i < (List.length all : Int) then
    idx all i >>= fun x =>
    if x = s then
      some (true)
    else
    ref05Among_L2 s all (IntKind.wrap .i64 (i + 1))
  else
  some (false)
inductive I_ref05Among_L2 where
  | ref05Among_L2 (s : Str) (all : List Str) (i : Int)
@[reducible] def R_ref05Among_L2 : I_ref05Among_L2 → Type
  | .ref05Among_L2 _ _ _ => Bool
def F_ref05Among_L2 (g : Fam R_ref05Among_L2) : Fam R_ref05Among_L2
  | .ref05Among_L2 s all i => ref05Among_L2_B (fun s all i => g (I_ref05Among_L2.ref05Among_L2 s all i)) s all i
theorem D_ref05Among_L2 : ∀ i, Good (fun g => F_ref05Among_L2 g i)
  | .ref05Among_L2 s all i => show Good (fun g : Fam R_ref05Among_L2 => ref05Among_L2_B (fun s all i => g (I_ref05Among_L2.ref05Among_L2 s all i)) s all i) by unfold ref05Among_L2_B; exact (.ite (.bind (.const _) fun _ => (.ite (.const _) (.call _))) (.const _))
def ref05Among_L2 (s : Str) (all : List Str) (i : Int) : Option (Bool) := fixF F_ref05Among_L2 (.ref05Among_L2 s all i)
theorem ref05Among_L2_eq (s : Str) (all : List Str) (i : Int) : ref05Among_L2 s all i = ref05Among_L2_B ref05Among_L2 s all i := fixF_eq D_ref05Among_L2 (.ref05Among_L2 s all i)
def ref05Among (s : Str) (all : List Str) : Option (Bool) :=
  ref05Among_L2 s all 0
def ref05Words  : Option (List Str) :=
  some ([([114, 101, 99] : List UInt8), ([99, 111, 110, 115, 116] : List UInt8), ([118, 97, 114] : List UInt8), ([112, 117, 98] : List UInt8), ([102, 110] : List UInt8), ([105, 110, 116] : List UInt8), ([98, 111, 111, 108] : List UInt8), ([108, 101, 116] : List UInt8), ([105, 102] : List UInt8), ([101, 108, 115, 101] : List UInt8), ([119, 104, 105, 108, 101] : List UInt8), ([102, 111, 114] : List UInt8), ([116, 111] : List UInt8), ([112, 114, 105, 110, 116] : List UInt8), ([114, 101, 116, 117, 114, 110] : List UInt8), ([100, 111] : List UInt8), ([116, 114, 117, 101] : List UInt8), ([102, 97, 108, 115, 101] : List UInt8), ([114, 101, 97, 100] : List UInt8), ([110, 101, 119] : List UInt8)])
def ref05One_L4_B (ref05One_L4 : Str → Int → Int → Token → Option (Token × Int)) (text : Str) (at_ : Int) (to_ : Int) (o4 : Token) : Option (Token × Int) :=
  if to_ < (List.length text : Int) then
    idx text to_ >>= fun c =>
    ref05Letter (Int.ofNat (UInt8.toNat c)) >>= fun q1 =>
    if q1 = true then
      ref05One_L4 text at_ (IntKind.wrap .i64 (to_ + 1)) o4
    else
    idx text to_ >>= fun c1 =>
    ref05Digit (Int.ofNat (UInt8.toNat c1)) >>= fun q2 =>
    if q2 = true then
      ref05One_L4 text at_ (IntKind.wrap .i64 (to_ + 1)) o4
    else
    if (IntKind.wrap .i64 (to_ - at_)) > 16 then
      some ((Token.mk 0 0 ([] : List UInt8) 0 0), 3)
    else
    if (0 : Int) ≤ to_ then
    if Int.toNat to_ ≤ List.length text then
    if (0 : Int) ≤ at_ then
    if Int.toNat at_ ≤ Int.toNat to_ then
    ref05Words >>= fun q3 =>
    ref05Among (List.drop (Int.toNat at_) (List.take (Int.toNat to_) text)) q3 >>= fun q4 =>
    if q4 = true then
      some ((Token.mk 3 0 (List.drop (Int.toNat at_) (List.take (Int.toNat to_) text)) at_ to_), 0)
    else
    some ((Token.mk 1 0 (List.drop (Int.toNat at_) (List.take (Int.toNat to_) text)) at_ to_), 0)
    else none
    else none
    else none
    else none
  else
  if (IntKind.wrap .i64 (to_ - at_)) > 16 then
    some ((Token.mk 0 0 ([] : List UInt8) 0 0), 3)
  else
  if (0 : Int) ≤ to_ then
  if Int.toNat to_ ≤ List.length text then
  if (0 : Int) ≤ at_ then
  if Int.toNat at_ ≤ Int.toNat to_ then
  ref05Words >>= fun q5 =>
  ref05Among (List.drop (Int.toNat at_) (List.take (Int.toNat to_) text)) q5 >>= fun q6 =>
  if q6 = true then
    some ((Token.mk 3 0 (List.drop (Int.toNat at_) (List.take (Int.toNat to_) text)) at_ to_), 0)
  else
  some ((Token.mk 1 0 (List.drop (Int.toNat at_) (List.take (Int.toNat to_) text)) at_ to_), 0)
  else none
  else none
  else none
  else none
inductive I_ref05One_L4 where
  | ref05One_L4 (text : Str) (at_ : Int) (to_ : Int) (o4 : Token)
@[reducible] def R_ref05One_L4 : I_ref05One_L4 → Type
  | .ref05One_L4 _ _ _ _ => Token × Int
def F_ref05One_L4 (g : Fam R_ref05One_L4) : Fam R_ref05One_L4
  | .ref05One_L4 text at_ to_ o4 => ref05One_L4_B (fun text at_ to_ o4 => g (I_ref05One_L4.ref05One_L4 text at_ to_ o4)) text at_ to_ o4
theorem D_ref05One_L4 : ∀ i, Good (fun g => F_ref05One_L4 g i)
  | .ref05One_L4 text at_ to_ o4 => show Good (fun g : Fam R_ref05One_L4 => ref05One_L4_B (fun text at_ to_ o4 => g (I_ref05One_L4.ref05One_L4 text at_ to_ o4)) text at_ to_ o4) by unfold ref05One_L4_B; exact (.ite (.bind (.const _) fun _ => (.bind (.const _) fun _ => (.ite (.call _) (.bind (.const _) fun _ => (.bind (.const _) fun _ => (.ite (.call _) (.ite (.const _) (.ite (.ite (.ite (.ite (.bind (.const _) fun _ => (.bind (.const _) fun _ => (.ite (.const _) (.const _)))) (.const _)) (.const _)) (.const _)) (.const _))))))))) (.ite (.const _) (.ite (.ite (.ite (.ite (.bind (.const _) fun _ => (.bind (.const _) fun _ => (.ite (.const _) (.const _)))) (.const _)) (.const _)) (.const _)) (.const _))))
def ref05One_L4 (text : Str) (at_ : Int) (to_ : Int) (o4 : Token) : Option (Token × Int) := fixF F_ref05One_L4 (.ref05One_L4 text at_ to_ o4)
theorem ref05One_L4_eq (text : Str) (at_ : Int) (to_ : Int) (o4 : Token) : ref05One_L4 text at_ to_ o4 = ref05One_L4_B ref05One_L4 text at_ to_ o4 := fixF_eq D_ref05One_L4 (.ref05One_L4 text at_ to_ o4)
def ref05Signs  : Option (List Str) :=
  some ([([61, 61] : List UInt8), ([33, 61] : List UInt8), ([60, 61] : List UInt8), ([62, 61] : List UInt8), ([38, 38] : List UInt8), ([124, 124] : List UInt8), ([123] : List UInt8), ([125] : List UInt8), ([40] : List UInt8), ([41] : List UInt8), ([91] : List UInt8), ([93] : List UInt8), ([44] : List UInt8), ([59] : List UInt8), ([58] : List UInt8), ([46] : List UInt8), ([61] : List UInt8), ([60] : List UInt8), ([62] : List UInt8), ([43] : List UInt8), ([45] : List UInt8), ([42] : List UInt8), ([47] : List UInt8), ([37] : List UInt8), ([33] : List UInt8), ([64] : List UInt8)])
def ref05One (text : Str) (at_ : Int) : Option (Token × Int) :=
  idx text at_ >>= fun c =>
  ref05Letter (Int.ofNat (UInt8.toNat c)) >>= fun q1 =>
  if q1 = true then
    ref05One_L4 text at_ at_ (Token.mk 0 0 ([] : List UInt8) 0 0)
  else
  ref05Digit (Int.ofNat (UInt8.toNat c)) >>= fun q2 =>
  if q2 = true then
    ref05One_L13 text at_ at_ (Token.mk 0 0 ([] : List UInt8) 0 0)
  else
  ref05Signs >>= fun q3 =>
  ref05One_L21 text at_ q3 0 (Token.mk 0 0 ([] : List UInt8) 0 0)
def ref05Tokens_L5_B (ref05Tokens_L5 : Str → (List Token) → Int → Option (List Token × Int × Int)) (text : Str) (out : List Token) (at_ : Int) : Option (List Token × Int × Int) :=
  if at_ < (List.length text : Int) then
    ref05One text at_ >>= fun q1 =>
    if q1.2 = 0 then
      if roomy 48 (List.length out + List.length [q1.1]) then
      ref05Next text q1.1.To >>= fun q2 =>
      ref05Tokens_L5 text (out ++ [q1.1]) q2
      else none
    else
    some (([] : List Token), at_, q1.2)
  else
  if roomy 48 (List.length out + List.length [(Token.mk 5 0 ([] : List UInt8) (List.length text : Int) (List.length text : Int))]) then
  some (out ++ [(Token.mk 5 0 ([] : List UInt8) (List.length text : Int) (List.length text : Int))], 0, 0)
  else none
inductive I_ref05Tokens_L5 where
  | ref05Tokens_L5 (text : Str) (out : List Token) (at_ : Int)
@[reducible] def R_ref05Tokens_L5 : I_ref05Tokens_L5 → Type
  | .ref05Tokens_L5 _ _ _ => List Token × Int × Int
def F_ref05Tokens_L5 (g : Fam R_ref05Tokens_L5) : Fam R_ref05Tokens_L5
  | .ref05Tokens_L5 text out at_ => ref05Tokens_L5_B (fun text out at_ => g (I_ref05Tokens_L5.ref05Tokens_L5 text out at_)) text out at_
theorem D_ref05Tokens_L5 : ∀ i, Good (fun g => F_ref05Tokens_L5 g i)
  | .ref05Tokens_L5 text out at_ => show Good (fun g : Fam R_ref05Tokens_L5 => ref05Tokens_L5_B (fun text out at_ => g (I_ref05Tokens_L5.ref05Tokens_L5 text out at_)) text out at_) by unfold ref05Tokens_L5_B; exact (.ite (.bind (.const _) fun _ => (.ite (.ite (.bind (.const _) fun _ => (.call _)) (.const _)) (.const _))) (.ite (.const _) (.const _)))
def ref05Tokens_L5 (text : Str) (out : List Token) (at_ : Int) : Option (List Token × Int × Int) := fixF F_ref05Tokens_L5 (.ref05Tokens_L5 text out at_)
theorem ref05Tokens_L5_eq (text : Str) (out : List Token) (at_ : Int) : ref05Tokens_L5 text out at_ = ref05Tokens_L5_B ref05Tokens_L5 text out at_ := fixF_eq D_ref05Tokens_L5 (.ref05Tokens_L5 text out at_)
def ref05Tokens (text : Str) : Option (List Token × Int × Int) :=
  if (List.length text : Int) > 8192 then
    some (([] : List Token), 0, 3)
  else
  ref05Next text 0 >>= fun q1 =>
  ref05Tokens_L5 text ([] : List Token) q1
def ref06Same_B (ref06Same_L4 : Int → Term → Term → Option (Bool)) (a : Term) (b : Term) : Option (Bool) :=
  if a.K = b.K then
    if a.N = b.N then
      if a.S = b.S then
        if (List.length a.L : Int) = (List.length b.L : Int) then
          ref06Same_L4 0 a b
        else
        some (false)
      else
      some (false)
    else
    some (false)
  else
  some (false)
def ref06Same_L4_B (ref06Same : Term → Term → Option (Bool)) (ref06Same_L4 : Int → Term → Term → Option (Bool)) (i : Int) (a : Term) (b : Term) : Option (Bool) :=
  if i < (List.length a.L : Int) then
    idx a.L i >>= fun x =>
    idx b.L i >>= fun x1 =>
    ref06Same x x1 >>= fun q1 =>
    if q1 = true then
      ref06Same_L4 (IntKind.wrap .i64 (i + 1)) a b
    else
    some (false)
  else
  some (true)
inductive I_ref06Same where
  | ref06Same (a : Term) (b : Term)
  | ref06Same_L4 (i : Int) (a : Term) (b : Term)
@[reducible] def R_ref06Same : I_ref06Same → Type
  | .ref06Same _ _ => Bool
  | .ref06Same_L4 _ _ _ => Bool
def F_ref06Same (g : Fam R_ref06Same) : Fam R_ref06Same
  | .ref06Same a b => ref06Same_B (fun i a b => g (I_ref06Same.ref06Same_L4 i a b)) a b
  | .ref06Same_L4 i a b => ref06Same_L4_B (fun a b => g (I_ref06Same.ref06Same a b)) (fun i a b => g (I_ref06Same.ref06Same_L4 i a b)) i a b
theorem D_ref06Same : ∀ i, Good (fun g => F_ref06Same g i)
  | .ref06Same a b => show Good (fun g : Fam R_ref06Same => ref06Same_B (fun i a b => g (I_ref06Same.ref06Same_L4 i a b)) a b) by unfold ref06Same_B; exact (.ite (.ite (.ite (.ite (.call _) (.const _)) (.const _)) (.const _)) (.const _))
  | .ref06Same_L4 i a b => show Good (fun g : Fam R_ref06Same => ref06Same_L4_B (fun a b => g (I_ref06Same.ref06Same a b)) (fun i a b => g (I_ref06Same.ref06Same_L4 i a b)) i a b) by unfold ref06Same_L4_B; exact (.ite (.bind (.const _) fun _ => (.bind (.const _) fun _ => (.bind (.call _) fun _ => (.ite (.call _) (.const _))))) (.const _))
def ref06Same (a : Term) (b : Term) : Option (Bool) := fixF F_ref06Same (.ref06Same a b)
def ref06Same_L4 (i : Int) (a : Term) (b : Term) : Option (Bool) := fixF F_ref06Same (.ref06Same_L4 i a b)
theorem ref06Same_eq (a : Term) (b : Term) : ref06Same a b = ref06Same_B ref06Same_L4 a b := fixF_eq D_ref06Same (.ref06Same a b)
theorem ref06Same_L4_eq (i : Int) (a : Term) (b : Term) : ref06Same_L4 i a b = ref06Same_L4_B ref06Same ref06Same_L4 i a b := fixF_eq D_ref06Same (.ref06Same_L4 i a b)
def stmt_start_reader_stmt (t : List Token) (at_ : Int) : Option (Term × Int × Int) :=
  if at_ < 0 then
    some ((Term.mk 0 0 ([] : List UInt8) [] 0 0), 0, 13)
  else
  if at_ > (List.length t : Int) then
    some ((Term.mk 0 0 ([] : List UInt8) [] 0 0), 0, 13)
  else
  stmt_reader_stmt t at_ 0 >>= fun q1 =>
  if q1.2.2.2 = 0 then
    some (q1.1, q1.2.2.1, 0)
  else
  some ((Term.mk 0 0 ([] : List UInt8) [] 0 0), q1.2.2.1, q1.2.2.2)
def stmt_Parse (t : List Token) (at_ : Int) : Option (Term × Int × Int) :=
  stmt_start_reader_stmt t at_ >>= fun q1 =>
  some (q1.1, q1.2.1, q1.2.2)
def law08StmtJoins (a : Str) (b : Str) : Option (Bool) :=
  if (List.length a : Int) > 1000 then
    law08awake >>= fun q1 =>
    some (q1)
  else
  if (List.length b : Int) > 1000 then
    law08awake >>= fun q2 =>
    some (q2)
  else
  ref05Tokens a >>= fun q3 =>
  ref05Tokens b >>= fun q4 =>
  if q3.2.2 = 0 then
    if q4.2.2 = 0 then
      if (List.length q3.1 : Int) > 200 then
        law08awake >>= fun q7 =>
        some (q7)
      else
      if (List.length q4.1 : Int) > 200 then
        law08awake >>= fun q8 =>
        some (q8)
      else
      stmt_Parse q3.1 0 >>= fun q9 =>
      stmt_Parse q4.1 0 >>= fun q10 =>
      if q9.2.2 = 0 then
        if q10.2.2 = 0 then
          if q9.2.1 = IntKind.wrap .i64 ((List.length q3.1 : Int) - 1) then
            if q10.2.1 = IntKind.wrap .i64 ((List.length q4.1 : Int) - 1) then
              if (0 : Int) ≤ q9.2.1 then
              if Int.toNat q9.2.1 ≤ List.length q3.1 then
              if 0 ≤ Int.toNat q9.2.1 then
              if roomy 48 (List.length [(Token.mk 4 0 ([123] : List UInt8) 0 0)] + List.length (List.drop 0 (List.take (Int.toNat q9.2.1) q3.1))) then
              if (0 : Int) ≤ q10.2.1 then
              if Int.toNat q10.2.1 ≤ List.length q4.1 then
              if 0 ≤ Int.toNat q10.2.1 then
              if roomy 48 (List.length ([(Token.mk 4 0 ([123] : List UInt8) 0 0)] ++ (List.drop 0 (List.take (Int.toNat q9.2.1) q3.1))) + List.length (List.drop 0 (List.take (Int.toNat q10.2.1) q4.1))) then
              if roomy 48 (List.length (([(Token.mk 4 0 ([123] : List UInt8) 0 0)] ++ (List.drop 0 (List.take (Int.toNat q9.2.1) q3.1))) ++ (List.drop 0 (List.take (Int.toNat q10.2.1) q4.1))) + List.length [(Token.mk 4 0 ([125] : List UInt8) 0 0)]) then
              stmt_Block ((([(Token.mk 4 0 ([123] : List UInt8) 0 0)] ++ (List.drop 0 (List.take (Int.toNat q9.2.1) q3.1))) ++ (List.drop 0 (List.take (Int.toNat q10.2.1) q4.1))) ++ [(Token.mk 4 0 ([125] : List UInt8) 0 0)]) 0 >>= fun q15 =>
              if q15.2.2 = 0 then
                if q15.2.1 = (List.length ((([(Token.mk 4 0 ([123] : List UInt8) 0 0)] ++ (List.drop 0 (List.take (Int.toNat q9.2.1) q3.1))) ++ (List.drop 0 (List.take (Int.toNat q10.2.1) q4.1))) ++ [(Token.mk 4 0 ([125] : List UInt8) 0 0)]) : Int) then
                  if (List.length q15.1.L : Int) = 2 then
                    idx q15.1.L 0 >>= fun x =>
                    ref06Same x q9.1 >>= fun q16 =>
                    if q16 = true then
                      idx q15.1.L 1 >>= fun x1 =>
                      ref06Same x1 q10.1 >>= fun q17 =>
                      if q17 = true then
                        law08awake >>= fun q18 =>
                        some (q18)
                      else
                      some (false)
                    else
                    some (false)
                  else
                  some (false)
                else
                some (false)
              else
              some (false)
              else none
              else none
              else none
              else none
              else none
              else none
              else none
              else none
              else none
            else
            law08awake >>= fun q14 =>
            some (q14)
          else
          law08awake >>= fun q13 =>
          some (q13)
        else
        law08awake >>= fun q12 =>
        some (q12)
      else
      law08awake >>= fun q11 =>
      some (q11)
    else
    law08awake >>= fun q6 =>
    some (q6)
  else
  law08awake >>= fun q5 =>
  some (q5)
end
end Go.Proofs.Ytpdhlbejdagkmaa.M
