/- ExprApart, as a plain law. -/
import Derived.Test.YtcjfddebnpakbaaP07s
import Derived.Test.YtcjfddebnpakbaaP07w
import Derived.Test.YtcjfddebnpakbaaP07z
namespace Go.Proofs.Ytcjfddebnpakbaa.M
open Go Nt
set_option linter.unusedVariables false
set_option linter.unusedSimpArgs false
/-- the program reads an expression at a place -/
theorem parse_ok (t : List Token) (hl : t.length ≤ 1048576) (a : Nat) (ha : a ≤ t.length) : ∃ r, Der t (.lev 1) a r ∧ expr_Parse t a = some (match r with | .ok x b => (x, (b : Int), 0) | .bad b => (zT7, (b : Int), 6)) := by
  obtain ⟨r, hr⟩ := der_all t (t.length - a) a (by omega) 1 (by omega) (by omega)
  refine ⟨r, hr, ?_⟩
  have hp := expr_1p ((prog_of_der hl hr ha).level (by omega))
  unfold expr_Parse expr_start_parser_expr
  rw [if_neg (by omega), if_neg (by omega)]
  cases r with
  | ok x b =>
    have hp : expr_parser_expr t (a : Int) 0 = some (x, t, (b : Int), 0) := hp
    rw [hp]; rfl
  | bad b =>
    obtain ⟨y, hp⟩ : ∃ y, expr_parser_expr t (a : Int) 0 = some (y, t, (b : Int), 6) := hp
    rw [hp]; rfl
/-- and as the rules say -/
theorem parse_der (t : List Token) (hl : t.length ≤ 1048576) (a : Nat) (ha : a ≤ t.length) {x : Term} {b : Nat} (h : Der t (.lev 1) a (.ok x b)) : expr_Parse t a = some (x, (b : Int), 0) := by
  have hp : expr_parser_expr t (a : Int) 0 = some (x, t, (b : Int), 0) := expr_1p ((prog_of_der hl h ha).level (by omega))
  unfold expr_Parse expr_start_parser_expr
  rw [if_neg (by omega), if_neg (by omega), hp]; rfl
theorem room48 {n : Nat} (h : n ≤ 1000) : roomy 48 n := by unfold roomy; omega
theorem exprApartLaw (x0 : List Token) (x1 : List Token) (x2 : List Token) (w0 : x0.length ≤ 9223372036854775807 ∧ ∀ x ∈ x0, Token.Wf x) (w1 : x1.length ≤ 9223372036854775807 ∧ ∀ x ∈ x1, Token.Wf x) (w2 : x2.length ≤ 9223372036854775807 ∧ ∀ x ∈ x2, Token.Wf x) :
    law07ExprApart x0 x1 x2 = some true := by
  unfold law07ExprApart
  rw [exprAwake_ok]
  by_cases h1 : (List.length x0 : Int) > 100
  · rw [if_pos h1]; rfl
  rw [if_neg h1]
  by_cases h2 : (List.length x1 : Int) > 200
  · rw [if_pos h2]; rfl
  rw [if_neg h2]
  by_cases h3 : (List.length x2 : Int) > 100
  · rw [if_pos h3]; rfl
  rw [if_neg h3]
  obtain ⟨r, hr, e1⟩ := parse_ok x1 (by omega) 0 (by omega)
  have e1' : expr_Parse x1 0 = _ := e1
  rw [e1', some_bind]
  cases r with
  | bad b => dsimp only; rw [if_neg (by decide)]; rfl
  | ok x b =>
    dsimp only
    rw [if_pos rfl]
    by_cases h4 : (b : Int) = (x1.length : Int)
    · rw [if_pos h4]
      have hb : b = x1.length := by omega
      subst hb
      rw [if_pos (room48 (by simp; omega)), if_pos (room48 (by simp; omega)), if_pos (room48 (by simp; omega)), if_pos (room48 (by simp; omega))]
      simp only [List.nil_append]
      have hlen : (x0 ++ x1 ++ [semi] ++ x2).length = x0.length + x1.length + 1 + x2.length := by simp; omega
      have S : Sub x1 (x0 ++ x1 ++ [semi] ++ x2) x0.length := by
        refine ⟨fun a ha => ?_, ?_⟩
        · unfold tokAt
          rw [List.append_assoc, List.append_assoc, List.getElem?_append_right (by omega), show a + x0.length - x0.length = a by omega, List.getElem?_append_left ha]
        · unfold tokAt
          rw [List.append_assoc, List.append_assoc, List.getElem?_append_right (by omega), show x1.length + x0.length - x0.length = x1.length by omega, List.getElem?_append_right (by omega), Nat.sub_self]; rfl
      have hd := der_sub S hr (by omega) trivial
      have hd' : Der (x0 ++ x1 ++ [semi] ++ x2) (.lev 1) x0.length (.ok x (x1.length + x0.length)) := by
        have : Der (x0 ++ x1 ++ [semi] ++ x2) (.lev 1) (0 + x0.length) (.ok x (x1.length + x0.length)) := hd
        rwa [Nat.zero_add] at this
      have e2 := parse_der (x0 ++ x1 ++ [semi] ++ x2) (by omega) x0.length (by omega) hd'
      rw [show (Token.mk 4 0 [59] 0 0) = semi from rfl, e2, some_bind]
      dsimp only
      rw [if_pos rfl, wi_id (by omega) (by omega), if_pos (by omega)]
      have hs := lev_sz hr
      rw [placed_refl 1000 x (by omega) (by omega), some_bind, if_pos rfl]; rfl
    · rw [if_neg h4]; rfl
end Go.Proofs.Ytcjfddebnpakbaa.M
