/- Sizes of what is read. -/
import Derived.Test.YtelddjedpmfclaaP07d
import Derived.Test.YtelddjedpmfclaaP7S
namespace Go.Proofs.Ytelddjedpmfclaa.M
open Go Nt
set_option linter.unusedVariables false
set_option linter.unusedSimpArgs false
/-- sizes of what is read -/
theorem tsizes_app (a b : List Term) : tsizes (a ++ b) = tsizes a + tsizes b := by
  induction a with
  | nil => simp [tsizes]
  | cons x r ih => simp [tsizes, ih]; omega
def SzM (t : List Token) : Cat → Nat → Res → Prop
  | .ll _ _ _ x, a, r => ∀ y b, r = .ok y b → tsize y + 2 * a ≤ tsize x + 2 * b
  | .pl _ x, a, r => ∀ y b, r = .ok y b → tsize y + 2 * a ≤ tsize x + 2 * b
  | .cls _, a, r => ∀ y b, r = .ok y b → tsizes y.L + 2 * a ≤ 2 * b
  | .lst acc, a, r => ∀ y b, r = .ok y b → tsizes y.L + 2 * a ≤ tsizes acc + 2 * b
  | _, a, r => ∀ y b, r = .ok y b → tsize y + 2 * a ≤ 2 * b
theorem sz_of_der {t : List Token} {c : Cat} {a : Nat} {r : Res} (h : Der t c a r) : SzM t c a r := by
  induction h with
  | un _ _ ih => intro y b e; cases e; have := ih _ _ rfl; simp [placed, tsize, tsizes]; omega
  | unP _ _ _ ih => exact ih
  | lev _ _ _ _ ih1 ih2 => intro y b e; have := ih1 _ _ rfl; have := ih2 y b e; omega
  | llE _ _ => intro y b e; cases e; omega
  | llG _ _ _ _ _ ih1 ih2 => intro y b e; have := ih1 _ _ rfl; have := ih2 y b e; simp [placed, tsize, tsizes] at this; omega
  | post _ _ ih1 ih2 => intro y b e; have := ih1 _ _ rfl; have := ih2 y b e; omega
  | plE _ _ => intro y b e; cases e; omega
  | plI _ _ _ _ ih1 ih2 => intro y b e; have := ih1 _ _ rfl; have := ih2 y b e; simp [placed, tsize, tsizes] at this; omega
  | plF _ _ _ _ ih => intro y b e; have := ih y b e; simp [placed, tsize, tsizes] at this; omega
  | one _ => intro y b e; cases e; simp [placed, tsize, tsizes]; omega
  | par _ _ _ ih => intro y b e; cases e; have := ih _ _ rfl; omega
  | @call a o b k s few l h1 _ ih => intro y b' e; cases e; have h2 := ih _ _ rfl; have h3 := atomK_call h1; simp only [placed, tsize] at h2 ⊢; omega
  | lis _ _ _ ih => intro y b e; cases e; have := ih _ _ rfl; simp [placed, tsize, tsizes] at this ⊢; omega
  | clsF _ _ => intro y b e; cases e; simp [tsizes]; omega
  | cls _ _ _ _ ih => intro y b e; cases e; have := ih _ _ rfl; simp [tsizes] at this ⊢; omega
  | lstE _ _ ih => intro y b e; cases e; have := ih _ _ rfl; simp [tsizes_app, tsizes]; omega
  | lstG _ _ _ ih1 ih2 => intro y b e; have := ih1 _ _ rfl; have := ih2 y b e; simp [tsizes_app, tsizes] at this; omega
  | _ => intro y b e; cases e
theorem lev_sz {t : List Token} {k a b : Nat} {x : Term} (h : Der t (.lev k) a (.ok x b)) : tsize x + 2 * a ≤ 2 * b := sz_of_der h x b rfl
end Go.Proofs.Ytelddjedpmfclaa.M
