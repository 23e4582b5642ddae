/- ExprTypes, as a plain law. -/
import Derived.Test.YtcjfddebnpakbaaP07u
import Derived.Test.YtcjfddebnpakbaaP07w
import Derived.Test.YtcjfddebnpakbaaP7P
namespace Go.Proofs.Ytcjfddebnpakbaa.M
open Go Nt
set_option linter.unusedVariables false
set_option linter.unusedSimpArgs false
theorem typ_ts (t : List Token) : ∀ (n a : Nat), tsize (typ n t a).1 ≤ n + 1
  | 0, a => by simp [typ, tsize, tsizes]
  | n + 1, a => by
    have := typ_ts t n (a + 3)
    rw [typ]
    repeat' split
    all_goals (simp [placed, tsize, tsizes]; try omega)
theorem exprTypesLaw (x0 : List Token) (x1 : Int) (w0 : x0.length ≤ 9223372036854775807 ∧ ∀ x ∈ x0, Token.Wf x) (w1 : InK .i64 x1) : law07ExprTypes x0 x1 = some true := by
  unfold law07ExprTypes expr_Type expr_start_parser_kind
  have hz : ref06Placed zT7 zT7 = some true := placed_refl 10 zT7 (by simp [tsize, tsizes]) (by omega)
  by_cases h0 : x1 < 0
  · rw [if_pos h0, some_bind, some_bind, if_pos h0, if_pos rfl, if_pos rfl]
    exact congrArg (· >>= fun q2 => some q2) hz
  rw [if_neg h0]
  by_cases h1 : x1 > (x0.length : Int)
  · rw [if_pos h1, some_bind, some_bind, if_neg h0, if_pos h1, if_pos rfl, if_pos rfl]
    exact congrArg (· >>= fun q2 => some q2) hz
  rw [if_neg h1]
  obtain ⟨a, rfl⟩ := Int.eq_ofNat_of_zero_le (show 0 ≤ x1 by omega)
  obtain ⟨x, e1, e2⟩ := kind_ok x0 w0.1 (x0.length + 1) a (by omega) (by omega)
  have e1' : expr_parser_kind x0 (a : Int) 0 = _ := e1
  rw [e1', some_bind, exprAwake_ok]
  dsimp only
  by_cases h3 : (x0.length : Int) > 300
  · by_cases h4 : (typ (x0.length + 1) x0 a).2.2 = 0
    · rw [if_pos h4, some_bind, some_bind, if_neg h0, if_neg h1, if_pos h3]; rfl
    · rw [if_neg h4, some_bind, some_bind, if_neg h0, if_neg h1, if_pos h3]; rfl
  · have e3 := rtype_ok x0 (by omega) (x0.length + 1) a (by omega) (by omega)
    have e3' : ref07Type x0 (a : Int) = _ := e3
    have hs := typ_ts x0 (x0.length + 1) a
    have hp := placed_refl 1000 (typ (x0.length + 1) x0 a).1 (by omega) (by omega)
    by_cases h4 : (typ (x0.length + 1) x0 a).2.2 = 0
    · rw [if_pos h4, some_bind, some_bind, if_neg h0, if_neg h1, if_neg h3, e3', some_bind]
      dsimp only
      rw [h4, if_pos rfl, if_pos rfl, e2 h4, hp]; rfl
    · rw [if_neg h4, some_bind, some_bind, if_neg h0, if_neg h1, if_neg h3, e3', some_bind]
      dsimp only
      have hz1 : (typ (x0.length + 1) x0 a).1 = zT7 := by
        revert h4
        rw [typ]
        repeat' split
        all_goals (intro h; first | rfl | exact absurd rfl h)
      rw [if_pos rfl, if_pos rfl, hz1, hz]; rfl
end Go.Proofs.Ytcjfddebnpakbaa.M
