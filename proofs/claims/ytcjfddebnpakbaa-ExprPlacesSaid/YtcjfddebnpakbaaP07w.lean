/- Does the parser answer at all? -/
import Derived.Test.YtcjfddebnpakbaaP07a
namespace Go.Proofs.Ytcjfddebnpakbaa.M
open Go Nt
set_option linter.unusedVariables false
set_option linter.unusedSimpArgs false
abbrev T1 : List Token := [⟨2, 5, [], 0, 1⟩]
abbrev N5 : Term := ⟨5, 5, [], [], 0, 1⟩
theorem w_atom : expr_parser_atom T1 0 0 = some (N5, T1, 1, 0) := by rw [expr_parser_atom_eq]; rfl
theorem w_postL (o : Term) : expr_parser_post_L3 0 o N5 T1 1 0 = some (N5, T1, 1, 0) := by rw [expr_parser_post_L3_eq]; rfl
theorem w_post : expr_parser_post T1 0 0 = some (N5, T1, 1, 0) := by rw [expr_parser_post_eq]; unfold expr_parser_post_B; rw [w_atom, some_bind]; exact w_postL _
theorem w_sign (s : Str) : expr_parser_sign s T1 0 0 = some false := by
  have := sign_ok s T1 0 0
  rw [show ((0 : Nat) : Int) = 0 from rfl] at this
  rw [this]; rfl
theorem w_un : expr_parser_un T1 0 0 = some (N5, T1, 1, 0) := by
  rw [expr_parser_un_eq]; unfold expr_parser_un_B
  rw [if_pos rfl, w_sign, some_bind]
  try dsimp only
  rw [if_neg (by simp), w_sign, some_bind]
  try dsimp only
  rw [if_neg (by simp), if_pos rfl, w_post, some_bind]
theorem w_levelL (o : Term) : expr_parser_level_L4 1 0 6 o N5 T1 1 0 = some (N5, T1, 1, 0) := by rw [expr_parser_level_L4_eq]; rfl
theorem w_level : expr_parser_level 1 T1 0 0 = some (N5, T1, 1, 0) := by rw [expr_parser_level_eq]; unfold expr_parser_level_B; rw [w_un, some_bind]; exact w_levelL _
theorem w_expr : expr_parser_expr T1 0 0 = some (N5, T1, 1, 0) := by rw [expr_parser_expr_eq]; unfold expr_parser_expr_B; rw [w_level]; rfl
theorem exprAwake_ok : law07awake = some true := by
  have e : expr_Parse T1 0 = some (N5, 1, 0) := by
    unfold expr_Parse expr_start_parser_expr
    rw [if_neg (by decide), if_neg (by decide), w_expr]; rfl
  unfold law07awake
  rw [e]; rfl
end Go.Proofs.Ytcjfddebnpakbaa.M
