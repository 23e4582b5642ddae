/- Words on tokens and atoms. -/
import Derived.Test.YtelddjedpmfclaaP07d
namespace Go.Proofs.Ytelddjedpmfclaa.M
open Go Nt
set_option linter.unusedVariables false
set_option linter.unusedSimpArgs false
theorem wi_succ {t : List Token} (hl : t.length ≤ 1048576) {a : Nat} (h : a ≤ t.length + 3) : IntKind.wrap .i64 ((a : Int) + 1) = ((a + 1 : Nat) : Int) := by rw [wi_id (by omega) (by omega)]; omega
theorem wi_succ2 {t : List Token} (hl : t.length ≤ 1048576) {a : Nat} (h : a ≤ t.length + 3) : IntKind.wrap .i64 ((a : Int) + 2) = ((a + 2 : Nat) : Int) := by rw [wi_id (by omega) (by omega)]; omega
theorem sgn_k {t : List Token} {a : Nat} {s : Str} (h : sgnAt t a s = true) : (tokAt t a).K = 4 ∧ (tokAt t a).S = s := by
  unfold sgnAt at h
  simpa using h
theorem wrd_k {t : List Token} {a : Nat} {s : Str} (h : wrdAt t a s = true) : (tokAt t a).K = 3 ∧ (tokAt t a).S = s := by
  unfold wrdAt at h
  simpa using h
theorem sgn_no {t : List Token} {a : Nat} (h : (tokAt t a).K ≠ 4) (s : Str) : sgnAt t a s = false := by unfold sgnAt; rw [decide_eq_false h]; rfl
theorem wrd_no {t : List Token} {a : Nat} (h : (tokAt t a).K ≠ 3) (s : Str) : wrdAt t a s = false := by unfold wrdAt; rw [decide_eq_false h]; rfl
theorem sgn_ne {t : List Token} {a : Nat} {s s' : Str} (h : sgnAt t a s = true) (hs : s ≠ s') : sgnAt t a s' = false := by
  unfold sgnAt; rw [(sgn_k h).2]; simp [hs]
theorem wrd_ne {t : List Token} {a : Nat} {s s' : Str} (h : wrdAt t a s = true) (hs : s ≠ s') : wrdAt t a s' = false := by
  unfold wrdAt; rw [(wrd_k h).2]; simp [hs]
theorem signs13 (s : Str) : s = [124, 124] ∨ s = [38, 38] ∨ s = [61, 61] ∨ s = [33, 61] ∨ s = [60] ∨ s = [60, 61] ∨ s = [62] ∨ s = [62, 61] ∨ s = [43] ∨ s = [45] ∨ s = [42] ∨ s = [47] ∨ s = [37] ∨
    (s ≠ [124, 124] ∧ s ≠ [38, 38] ∧ s ≠ [61, 61] ∧ s ≠ [33, 61] ∧ s ≠ [60] ∧ s ≠ [60, 61] ∧ s ≠ [62] ∧ s ≠ [62, 61] ∧ s ≠ [43] ∧ s ≠ [45] ∧ s ≠ [42] ∧ s ≠ [47] ∧ s ≠ [37]) := by
  by_cases h : s ∈ ([[124, 124], [38, 38], [61, 61], [33, 61], [60], [60, 61], [62], [62, 61], [43], [45], [42], [47], [37]] : List Str)
  · simp only [List.mem_cons, List.not_mem_nil, or_false] at h
    rcases h with h | h | h | h | h | h | h | h | h | h | h | h | h <;> simp [h]
  · simp only [List.mem_cons, List.not_mem_nil, or_false, not_or] at h
    simp only [h, false_or]
    exact h
theorem opOf_pos {x : Token} (h : 1 ≤ (opOf x).2) : (opOf x).1 ≠ 0 := by
  have hk := opOf_tok (x := x) (by omega)
  unfold opOf at h ⊢
  rcases signs13 x.S with e | e | e | e | e | e | e | e | e | e | e | e | e | ⟨e1, e2, e3, e4, e5, e6, e7, e8, e9, e10, e11, e12, e13⟩
  case inr.inr.inr.inr.inr.inr.inr.inr.inr.inr.inr.inr.inr => simp [hk, e1, e2, e3, e4, e5, e6, e7, e8, e9, e10, e11, e12, e13] at h
  all_goals (simp only [hk, e]; decide)
theorem room72 {n : Nat} (h : n ≤ 1048577) : roomy 72 n := by unfold roomy; omega
/-- what a kind of atom says of its token -/
theorem atomK_paren {t : List Token} {a : Nat} (h : atomK t a = .paren) : sgnAt t a [40] = true := by
  unfold atomK at h
  repeat' split at h
  all_goals first | (cases h; done) | assumption
theorem atomK_lis {t : List Token} {a : Nat} (h : atomK t a = .lis) : sgnAt t a [91] = true := by
  unfold atomK at h
  repeat' split at h
  all_goals first | (cases h; done) | assumption
theorem atomK_cases {t : List Token} {a o : Nat} {k : Int} {s : Str} {few : Bool} (h : atomK t a = .call k s o few) :
    (k = 16 ∧ s = (tokAt t a).S ∧ o = a + 1 ∧ few = true ∧ (tokAt t a).K = 1 ∧ sgnAt t (a + 1) [40] = true) ∨ (k = 15 ∧ s = (tokAt t (a + 1)).S ∧ o = a + 2 ∧ few = false ∧ wrdAt t a [110, 101, 119] = true ∧ (tokAt t (a + 1)).K = 1) ∨
    (k = 17 ∧ s = (tokAt t (a + 1)).S ∧ o = a + 2 ∧ few = true ∧ sgnAt t a [64] = true ∧ (tokAt t (a + 1)).K = 1) := by
  unfold atomK at h
  repeat' split at h
  all_goals first
    | (cases h; done)
    | (injection h with e1 e2 e3 e4; subst e1; subst e2; subst e3; subst e4
       first
       | exact .inl ⟨rfl, rfl, rfl, rfl, by assumption, by assumption⟩
       | exact .inr (.inl ⟨rfl, rfl, rfl, rfl, by assumption, by assumption⟩)
       | exact .inr (.inr ⟨rfl, rfl, rfl, rfl, by assumption, by assumption⟩))
theorem atomK_nm {t : List Token} {a : Nat} (h : atomK t a = .nm) : (wrdAt t a [110, 101, 119] = true ∨ sgnAt t a [64] = true) ∧ (tokAt t (a + 1)).K ≠ 1 := by
  unfold atomK at h
  repeat' split at h
  all_goals first
    | (cases h; done)
    | exact ⟨.inl (by assumption), by assumption⟩
    | exact ⟨.inr (by assumption), by assumption⟩
theorem atomK_no {t : List Token} {a : Nat} (h : atomK t a = .no) : (tokAt t a).K ≠ 2 ∧ (tokAt t a).K ≠ 1 ∧ wrdAt t a [116, 114, 117, 101] = false ∧ wrdAt t a [102, 97, 108, 115, 101] = false ∧ wrdAt t a [114, 101, 97, 100] = false ∧ wrdAt t a [110, 101, 119] = false ∧
    sgnAt t a [40] = false ∧ sgnAt t a [91] = false ∧ sgnAt t a [64] = false := by
  unfold atomK at h
  repeat' split at h
  all_goals first
    | (cases h; done)
    | (refine ⟨by assumption, by assumption, ?_, ?_, ?_, ?_, ?_, ?_, ?_⟩ <;> (first | (apply Bool.eq_false_iff.2; assumption)))
end Go.Proofs.Ytelddjedpmfclaa.M
