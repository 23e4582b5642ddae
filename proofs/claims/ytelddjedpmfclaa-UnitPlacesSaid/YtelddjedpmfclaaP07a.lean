/- A parser's small steps: the token at a place, signs, places of terms; by the program. -/
import Derived.Test.YtelddjedpmfclaaBase
namespace Go.Proofs.Ytelddjedpmfclaa.M
open Go Nt
set_option linter.unusedVariables false
set_option linter.unusedSimpArgs false
abbrev tEnd : Token := ⟨5, 0, [], 0, 0⟩
/-- the token at a place -/
def tokAt (t : List Token) (a : Nat) : Token := (t[a]?).getD tEnd
def sgnAt (t : List Token) (a : Nat) (s : Str) : Bool := decide ((tokAt t a).K = 4) && ((tokAt t a).S == s)
theorem now_ok (t : List Token) (a : Nat) (e : Int) : expr_parser_now t a e = some (tokAt t a) := by
  unfold expr_parser_now tokAt
  by_cases h : a < t.length
  · rw [if_pos (show (a : Int) < (t.length : Int) by omega), idx_lt h, some_bind, List.getElem?_eq_getElem h]; rfl
  · rw [if_neg (show ¬ (a : Int) < (t.length : Int) by omega), List.getElem?_eq_none (by omega)]; rfl
theorem sign_ok (s : Str) (t : List Token) (a : Nat) (e : Int) : expr_parser_sign s t a e = some (sgnAt t a s) := by
  unfold expr_parser_sign sgnAt
  rw [now_ok, some_bind]
  by_cases h : (tokAt t a).K = 4
  · rw [if_pos h, decide_eq_true h]; rfl
  · rw [if_neg h, decide_eq_false h]; rfl
def wrdAt (t : List Token) (a : Nat) (s : Str) : Bool := decide ((tokAt t a).K = 3) && ((tokAt t a).S == s)
/-- a token that is no end stands within the list -/
theorem tokAt_lt {t : List Token} {a : Nat} (h : (tokAt t a).K ≠ 5) : a < t.length := by
  rcases Nat.lt_or_ge a t.length with h1 | h1
  · exact h1
  · exfalso; apply h; unfold tokAt; rw [List.getElem?_eq_none h1]; rfl
/-- the term x, from the token at f to the one ahead of a -/
def placed (t : List Token) (f a : Nat) (x : Term) : Term := { x with From := (tokAt t f).From, To := (tokAt t (a - 1)).To }
theorem made_ok (x : Term) (t : List Token) (hl : t.length ≤ 9223372036854775807) (f a : Nat) (hf : f < a) (ha : a ≤ t.length) : expr_parser_made x f t a 0 = some (placed t f a x) := by
  unfold expr_parser_made placed tokAt
  have h1 : IntKind.wrap .i64 ((a : Int) - 1) = ((a - 1 : Nat) : Int) := by rw [wi_id (by omega) (by omega)]; omega
  rw [if_pos rfl, idx_lt (show f < t.length by omega), some_bind, h1, idx_lt (show a - 1 < t.length by omega), some_bind, List.getElem?_eq_getElem (show f < t.length by omega), List.getElem?_eq_getElem (show a - 1 < t.length by omega)]; rfl
theorem made_bad (x : Term) (t : List Token) (f : Int) (a : Int) {e : Int} (h : e ≠ 0) : expr_parser_made x f t a e = some x := by
  unfold expr_parser_made
  rw [if_neg h]
theorem need_ok (s : Str) (t : List Token) (hl : t.length ≤ 9223372036854775807) (a : Nat) : expr_parser_need s t a 0 = some (t, ((if sgnAt t a s = true then a + 1 else a : Nat) : Int), if sgnAt t a s = true then 0 else 6) := by
  unfold expr_parser_need
  rw [if_pos rfl, sign_ok, some_bind]
  cases h : sgnAt t a s with
  | true =>
    have ha : a < t.length := tokAt_lt (by
      unfold sgnAt at h
      simp only [Bool.and_eq_true, decide_eq_true_eq] at h
      rw [h.1]; decide)
    simp only [if_true]
    rw [wi_id (by omega) (by omega), succ_cast]
  | false =>
    simp only [Bool.false_eq_true, if_false]
    rfl
theorem need_bad (s : Str) (t : List Token) (a : Int) {e : Int} (h : e ≠ 0) : expr_parser_need s t a e = some (t, a, e) := by
  unfold expr_parser_need
  rw [if_neg h]
end Go.Proofs.Ytelddjedpmfclaa.M
