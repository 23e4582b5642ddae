/- Types, as they stand. -/
import Derived.Test.YtelddjedpmfclaaP07a
namespace Go.Proofs.Ytelddjedpmfclaa.M
open Go Nt
set_option linter.unusedVariables false
set_option linter.unusedSimpArgs false
abbrev zT7 : Term := ⟨0, 0, [], [], 0, 0⟩
/-- the type at a place, the place behind it (or of what is wrong), what is wrong -/
def typ : Nat → List Token → Nat → Term × Nat × Int
  | 0, _, a => (zT7, a, 6)
  | n + 1, t, a =>
    if wrdAt t a [105, 110, 116] = true then (placed t a (a + 1) ⟨1, 0, [], [], 0, 0⟩, a + 1, 0)
    else if wrdAt t a [98, 111, 111, 108] = true then (placed t a (a + 1) ⟨2, 0, [], [], 0, 0⟩, a + 1, 0)
    else if (tokAt t a).K = 1 then (placed t a (a + 1) ⟨4, 0, (tokAt t a).S, [], 0, 0⟩, a + 1, 0)
    else if sgnAt t a [91] = true then
      (if (tokAt t (a + 1)).K = 2 then
        (if sgnAt t (a + 2) [93] = true then
          (if (typ n t (a + 3)).2.2 = 0 then (placed t a (typ n t (a + 3)).2.1 ⟨3, (tokAt t (a + 1)).N, [], [(typ n t (a + 3)).1], 0, 0⟩, (typ n t (a + 3)).2.1, 0) else (zT7, (typ n t (a + 3)).2.1, (typ n t (a + 3)).2.2))
        else (zT7, a + 2, 6))
      else (zT7, a + 1, 6))
    else (zT7, a, 6)
theorem sgnAt_lt {t : List Token} {a : Nat} {s : Str} (h : sgnAt t a s = true) : a < t.length := tokAt_lt (by
  unfold sgnAt at h
  simp only [Bool.and_eq_true, decide_eq_true_eq] at h
  rw [h.1]; decide)
theorem wrdAt_lt {t : List Token} {a : Nat} {s : Str} (h : wrdAt t a s = true) : a < t.length := tokAt_lt (by
  unfold wrdAt at h
  simp only [Bool.and_eq_true, decide_eq_true_eq] at h
  rw [h.1]; decide)
theorem typ_pl : ∀ (n : Nat) (t : List Token) (a : Nat), t.length < a + n → (typ n t a).2.2 = 0 → a < (typ n t a).2.1 ∧ (typ n t a).2.1 ≤ t.length
  | 0, t, a, _, h => by cases h
  | n + 1, t, a, hl, h => by
    rw [typ] at h ⊢
    by_cases h1 : wrdAt t a [105, 110, 116] = true
    · rw [if_pos h1]; have := wrdAt_lt h1; exact ⟨by simp, this⟩
    rw [if_neg h1] at h ⊢
    by_cases h2 : wrdAt t a [98, 111, 111, 108] = true
    · rw [if_pos h2]; have := wrdAt_lt h2; exact ⟨by simp, this⟩
    rw [if_neg h2] at h ⊢
    by_cases h3 : (tokAt t a).K = 1
    · rw [if_pos h3]; have := tokAt_lt (t := t) (a := a) (by rw [h3]; decide); exact ⟨by simp, this⟩
    rw [if_neg h3] at h ⊢
    by_cases h4 : sgnAt t a [91] = true
    · rw [if_pos h4] at h ⊢
      by_cases h5 : (tokAt t (a + 1)).K = 2
      · rw [if_pos h5] at h ⊢
        by_cases h6 : sgnAt t (a + 2) [93] = true
        · rw [if_pos h6] at h ⊢
          by_cases h7 : (typ n t (a + 3)).2.2 = 0
          · rw [if_pos h7]
            have := typ_pl n t (a + 3) (by omega) h7
            exact ⟨by show a < (typ n t (a + 3)).2.1; omega, this.2⟩
          · rw [if_neg h7] at h; exact absurd h h7
        · rw [if_neg h6] at h; cases h
      · rw [if_neg h5] at h; cases h
    · rw [if_neg h4] at h; cases h
end Go.Proofs.Ytelddjedpmfclaa.M
