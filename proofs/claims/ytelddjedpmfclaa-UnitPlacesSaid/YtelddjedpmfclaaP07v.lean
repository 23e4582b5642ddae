/- The program reads an expression at a place. -/
import Derived.Test.YtelddjedpmfclaaP07p
namespace Go.Proofs.Ytelddjedpmfclaa.M
open Go Nt
set_option linter.unusedVariables false
set_option linter.unusedSimpArgs false
theorem parse_ok (t : List Token) (hl : t.length ≤ 1048576) (a : Nat) (ha : a ≤ t.length) : ∃ r, Der t (.lev 1) a r ∧ expr_Parse t a = some (match r with | .ok x b => (x, (b : Int), 0) | .bad b => (zT7, (b : Int), 6)) := by
  obtain ⟨r, hr⟩ := der_all t (t.length - a) a (by omega) 1 (by omega) (by omega)
  refine ⟨r, hr, ?_⟩
  have hp := expr_1p ((prog_of_der hl hr ha).level (by omega))
  unfold expr_Parse expr_start_parser_expr
  rw [if_neg (by omega), if_neg (by omega)]
  cases r with
  | ok x b =>
    have hp : expr_parser_expr t (a : Int) 0 = some (x, t, (b : Int), 0) := hp
    rw [hp]; rfl
  | bad b =>
    obtain ⟨y, hp⟩ : ∃ y, expr_parser_expr t (a : Int) 0 = some (y, t, (b : Int), 6) := hp
    rw [hp]; rfl
/-- and as the rules say -/
theorem parse_der (t : List Token) (hl : t.length ≤ 1048576) (a : Nat) (ha : a ≤ t.length) {x : Term} {b : Nat} (h : Der t (.lev 1) a (.ok x b)) : expr_Parse t a = some (x, (b : Int), 0) := by
  have hp : expr_parser_expr t (a : Int) 0 = some (x, t, (b : Int), 0) := expr_1p ((prog_of_der hl h ha).level (by omega))
  unfold expr_Parse expr_start_parser_expr
  rw [if_neg (by omega), if_neg (by omega), hp]; rfl
end Go.Proofs.Ytelddjedpmfclaa.M
