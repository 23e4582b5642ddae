/- ExprReads, as a plain law: of arguments of up to 1048576 values and letters. -/
import Derived.Test.YtcjfddebnpakbaaP07p
import Derived.Test.YtcjfddebnpakbaaP07w
import Derived.Test.YtcjfddebnpakbaaP7P
namespace Go.Proofs.Ytcjfddebnpakbaa.M
open Go Nt
set_option linter.unusedVariables false
set_option linter.unusedSimpArgs false
theorem toks_len {l : List Token} {r : List D} (h : bulks (eS Token.toD l :: r) ≤ 1048576) : l.length ≤ 1048576 := by
  have := bulks_map (f := Token.toD) (n := 1) (fun x => by simp [Token.toD, D.bulk, bulks]) l
  simp only [bulks, D.bulk] at h
  omega
/-- sizes of what is read -/
theorem tsizes_app (a b : List Term) : tsizes (a ++ b) = tsizes a + tsizes b := by
  induction a with
  | nil => simp [tsizes]
  | cons x r ih => simp [tsizes, ih]; omega
def SzM (t : List Token) : Cat → Nat → Res → Prop
  | .ll _ _ _ x, a, r => ∀ y b, r = .ok y b → tsize y + 2 * a ≤ tsize x + 2 * b
  | .pl _ x, a, r => ∀ y b, r = .ok y b → tsize y + 2 * a ≤ tsize x + 2 * b
  | .cls _, a, r => ∀ y b, r = .ok y b → tsizes y.L + 2 * a ≤ 2 * b
  | .lst acc, a, r => ∀ y b, r = .ok y b → tsizes y.L + 2 * a ≤ tsizes acc + 2 * b
  | _, a, r => ∀ y b, r = .ok y b → tsize y + 2 * a ≤ 2 * b
theorem sz_of_der {t : List Token} {c : Cat} {a : Nat} {r : Res} (h : Der t c a r) : SzM t c a r := by
  induction h with
  | un _ _ ih => intro y b e; cases e; have := ih _ _ rfl; simp [placed, tsize, tsizes]; omega
  | unP _ _ _ ih => exact ih
  | lev _ _ _ _ ih1 ih2 => intro y b e; have := ih1 _ _ rfl; have := ih2 y b e; omega
  | llE _ _ => intro y b e; cases e; omega
  | llG _ _ _ _ _ ih1 ih2 => intro y b e; have := ih1 _ _ rfl; have := ih2 y b e; simp [placed, tsize, tsizes] at this; omega
  | post _ _ ih1 ih2 => intro y b e; have := ih1 _ _ rfl; have := ih2 y b e; omega
  | plE _ _ => intro y b e; cases e; omega
  | plI _ _ _ _ ih1 ih2 => intro y b e; have := ih1 _ _ rfl; have := ih2 y b e; simp [placed, tsize, tsizes] at this; omega
  | plF _ _ _ _ ih => intro y b e; have := ih y b e; simp [placed, tsize, tsizes] at this; omega
  | one _ => intro y b e; cases e; simp [placed, tsize, tsizes]; omega
  | par _ _ _ ih => intro y b e; cases e; have := ih _ _ rfl; omega
  | @call a o b k s few l h1 _ ih => intro y b' e; cases e; have h2 := ih _ _ rfl; have h3 := atomK_call h1; simp only [placed, tsize] at h2 ⊢; omega
  | lis _ _ _ ih => intro y b e; cases e; have := ih _ _ rfl; simp [placed, tsize, tsizes] at this ⊢; omega
  | clsF _ _ => intro y b e; cases e; simp [tsizes]; omega
  | cls _ _ _ _ ih => intro y b e; cases e; have := ih _ _ rfl; simp [tsizes] at this ⊢; omega
  | lstE _ _ ih => intro y b e; cases e; have := ih _ _ rfl; simp [tsizes_app, tsizes]; omega
  | lstG _ _ _ ih1 ih2 => intro y b e; have := ih1 _ _ rfl; have := ih2 y b e; simp [tsizes_app, tsizes] at this; omega
  | _ => intro y b e; cases e
theorem lev_sz {t : List Token} {k a b : Nat} {x : Term} (h : Der t (.lev k) a (.ok x b)) : tsize x + 2 * a ≤ 2 * b := sz_of_der h x b rfl
theorem exprReadsLaw (x0 : List Token) (x1 : Int) (w0 : x0.length ≤ 9223372036854775807 ∧ ∀ x ∈ x0, Token.Wf x) (w1 : InK .i64 x1) (hb : bulks [(eS Token.toD) x0, (D.int .i64) x1] ≤ 1048576) : law07ExprReads x0 x1 = some true := by
  have hl := toks_len hb
  unfold law07ExprReads expr_Parse expr_start_parser_expr
  have hz : ref06Placed zT7 zT7 = some true := placed_refl 10 zT7 (by simp [tsize, tsizes]) (by omega)
  by_cases h0 : x1 < 0
  · rw [if_pos h0, some_bind, some_bind, if_pos h0, if_pos rfl, if_pos rfl]
    exact congrArg (· >>= fun q2 => some q2) hz
  rw [if_neg h0]
  by_cases h1 : x1 > (x0.length : Int)
  · rw [if_pos h1, some_bind, some_bind, if_neg h0, if_pos h1, if_pos rfl, if_pos rfl]
    exact congrArg (· >>= fun q2 => some q2) hz
  rw [if_neg h1]
  obtain ⟨a, rfl⟩ := Int.eq_ofNat_of_zero_le (show 0 ≤ x1 by omega)
  obtain ⟨r, hr⟩ := der_all x0 (x0.length - a) a (by omega) 1 (by omega) (by omega)
  have q := hr.inR (by omega)
  have hp := expr_1p ((prog_of_der hl hr (by omega)).level (by omega))
  have hq : ref07Expr x0 (a : Int) = some (got r) := expr_1 (ref_of_der hl hr (by omega))
  have hgo : ∀ (y : Term) (b : Nat) (e : Int), expr_parser_expr x0 (a : Int) 0 = some (y, x0, (b : Int), e) → got r = ⟨if e = 0 then y else zT7, (b : Int), e⟩ → ref06Placed (if e = 0 then y else zT7) (if e = 0 then y else zT7) = some true ∨ 300 < x0.length →
      ((expr_parser_expr x0 (a : Int) 0 >>= fun q1 => if q1.2.2.2 = 0 then some (q1.1, q1.2.2.1, 0) else some (Term.mk 0 0 [] [] 0 0, q1.2.2.1, q1.2.2.2)) >>= fun q1 => some (q1.1, q1.2.1, q1.2.2)) = some (if e = 0 then y else zT7, (b : Int), e) := by
    intro y b e h1 h2 h3
    rw [h1, some_bind]
    by_cases he : e = 0
    · subst he; rfl
    · dsimp only; rw [if_neg he, if_neg he]; rfl
  have main : ∀ (z : Term) (b e : Int), got r = ⟨z, b, e⟩ → (x0.length ≤ 300 → ref06Placed z z = some true) → ((expr_parser_expr x0 (a : Int) 0 >>= fun q1 => if q1.2.2.2 = 0 then some (q1.1, q1.2.2.1, 0) else some (Term.mk 0 0 [] [] 0 0, q1.2.2.1, q1.2.2.2)) >>= fun q1 => some (q1.1, q1.2.1, q1.2.2)) = some (z, b, e) →
      (((expr_parser_expr x0 (a : Int) 0 >>= fun q1 => if q1.2.2.2 = 0 then some (q1.1, q1.2.2.1, 0) else some (Term.mk 0 0 [] [] 0 0, q1.2.2.1, q1.2.2.2)) >>= fun q1 => some (q1.1, q1.2.1, q1.2.2)) >>= fun q1 =>
        if (a : Int) < 0 then (if q1.2.2 = 13 then (if q1.2.1 = 0 then (ref06Placed q1.1 (Term.mk 0 0 [] [] 0 0) >>= fun q2 => some q2) else some false) else some false)
        else if (a : Int) > (x0.length : Int) then (if q1.2.2 = 13 then (if q1.2.1 = 0 then (ref06Placed q1.1 (Term.mk 0 0 [] [] 0 0) >>= fun q3 => some q3) else some false) else some false)
        else if (x0.length : Int) > 300 then (law07awake >>= fun q4 => some q4)
        else ref07Expr x0 (a : Int) >>= fun q5 => if q1.2.2 = q5.E then (if q1.2.1 = q5.At then (ref06Placed q1.1 q5.T_ >>= fun q6 => if q6 = true then (law07awake >>= fun q7 => some q7) else some false) else some false) else some false) = some true := by
    intro z b e h2 h3 h4
    rw [h4, some_bind, if_neg h0, if_neg h1, exprAwake_ok, hq, h2]
    by_cases h5 : (x0.length : Int) > 300
    · rw [if_pos h5]; rfl
    · rw [if_neg h5, some_bind]
      dsimp only
      rw [if_pos rfl, if_pos rfl, h3 (by omega), some_bind, if_pos rfl]; rfl
  cases r with
  | ok x b =>
    have hp : expr_parser_expr x0 (a : Int) 0 = some (x, x0, (b : Int), 0) := hp
    simp only [InR] at q
    refine main x b 0 rfl (fun h => ?_) (by rw [hp]; rfl)
    have hs := lev_sz hr
    exact placed_refl 1000 x (by omega) (by omega)
  | bad b =>
    obtain ⟨y, hp⟩ : ∃ y, expr_parser_expr x0 (a : Int) 0 = some (y, x0, (b : Int), 6) := hp
    exact main zT7 b 6 rfl (fun _ => hz) (by rw [hp]; rfl)
end Go.Proofs.Ytcjfddebnpakbaa.M
