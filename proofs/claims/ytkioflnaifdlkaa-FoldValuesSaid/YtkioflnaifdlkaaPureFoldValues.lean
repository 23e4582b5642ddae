/- FoldValues, as a plain law. -/
import Derived.Test.YtkioflnaifdlkaaP20
import Derived.Test.YtkioflnaifdlkaaT6
import Derived.Test.YtkioflnaifdlkaaWf
namespace Go.Proofs.Ytkioflnaifdlkaa.M
open Go Nt
set_option linter.unusedVariables false
set_option linter.unusedSimpArgs false
/-- a literal of that kind -/
def lit (t : Term) (k : Int) : Bool := decide (t.K = k) && decide (t.S = []) && decide (t.L.length = 0) && (decide (k = 5) || decide (t.N = 0) || decide (t.N = 1))
theorem lit_ok (t : Term) (k : Int) : fold_literal t k = some (lit t k) := by
  unfold fold_literal lit
  by_cases h1 : t.K = k
  · by_cases h2 : t.S = []
    · by_cases h3 : t.L.length = 0
      · by_cases h4 : k = 5
        · simp [h1, h2, h3, h4]
        · by_cases h5 : t.N = 0
          · simp [h1, h2, h3, h4, h5]
          · simp [h1, h2, h3, h4, h5]; rfl
      · rw [if_pos h1, if_pos h2, if_neg (by omega)]; simp [h3]
    · simp [h1, h2]
  · simp [h1]
theorem rlit_ok (t : Term) : ref27Literal t = some (lit t 5 || lit t 6) := by
  unfold ref27Literal lit
  by_cases h2 : t.S = []
  · by_cases h3 : t.L.length = 0
    · by_cases h4 : t.K = 5
      · simp [h2, h3, h4]
      · by_cases h6 : t.K = 6
        · by_cases h5 : t.N = 0
          · simp [h2, h3, h6, h5]
          · simp [h2, h3, h6, h5]; rfl
        · simp [h2, h3, h4, h6]
    · rw [if_pos h2, if_neg (by omega)]; simp [h3]
  · simp [h2]
theorem both_no (t : Term) (k : Int) (h : t.L.length ≠ 2) : fold_both t k = some false := by
  unfold fold_both
  rw [if_neg (by omega)]
theorem both_ok (t : Term) (x y : Term) (h : t.L = [x, y]) (k : Int) : fold_both t k = some (lit x k && lit y k) := by
  unfold fold_both
  rw [h]
  have e0 : idx [x, y] 0 = some x := rfl
  have e1 : idx [x, y] 1 = some y := rfl
  rw [if_pos (by simp), e0, e1, some_bind, some_bind, lit_ok, lit_ok, some_bind]
  cases lit x k <;> cases lit y k <;> rfl
def resF (n : Int) (b5 b6 : Bool) : Int :=
  if n = 3 ∨ n = 4 then (if (b5 || b6) = true then 6 else 0) else if n = 1 ∨ n = 2 then (if b6 = true then 6 else 0)
  else if 5 ≤ n ∧ n ≤ 8 then (if b5 = true then 6 else 0) else if 9 ≤ n ∧ n ≤ 13 then (if b5 = true then 5 else 0) else 0
theorem result_ok (t : Term) (b5 b6 : Bool) (h5 : fold_both t 5 = some b5) (h6 : fold_both t 6 = some b6) : fold_result t = some (resF t.N b5 b6) := by
  unfold fold_result resF
  rw [h5, h6]
  simp only [some_bind]
  generalize t.N = n
  by_cases hn : 1 ≤ n ∧ n ≤ 13
  · rcases (show n = 1 ∨ n = 2 ∨ n = 3 ∨ n = 4 ∨ n = 5 ∨ n = 6 ∨ n = 7 ∨ n = 8 ∨ n = 9 ∨ n = 10 ∨ n = 11 ∨ n = 12 ∨ n = 13 by omega) with rfl | rfl | rfl | rfl | rfl | rfl | rfl | rfl | rfl | rfl | rfl | rfl | rfl <;>
    cases b5 <;> cases b6 <;> rfl
  · rw [if_neg (show ¬ n = 3 by omega), if_neg (show ¬ n = 4 by omega), if_neg (show ¬ n = 1 by omega), if_neg (show ¬ n = 2 by omega), if_neg (show ¬ n = 5 by omega), if_neg (show ¬ n = 6 by omega), if_neg (show ¬ n = 7 by omega), if_neg (show ¬ n = 8 by omega), if_neg (show ¬ n = 9 by omega), if_neg (show ¬ n = 10 by omega), if_neg (show ¬ n = 11 by omega), if_neg (show ¬ n = 12 by omega), if_neg (show ¬ n = 13 by omega)]
    rw [if_neg (show ¬ (n = 3 ∨ n = 4) by omega), if_neg (show ¬ (n = 1 ∨ n = 2) by omega), if_neg (show ¬ (5 ≤ n ∧ n ≤ 8) by omega), if_neg (show ¬ (9 ≤ n ∧ n ≤ 13) by omega)]
theorem tsize_leaf (k n : Int) : tsize ⟨k, n, [], [], 0, 0⟩ ≤ 1 := by rw [tsize_eq]; simp [tsizes]
theorem placed_leaf (k n : Int) : ref06Placed ⟨k, n, [], [], 0, 0⟩ ⟨k, n, [], [], 0, 0⟩ = some true := placed_refl 1 _ (tsize_leaf k n) (by omega)
abbrev zT : Term := ⟨0, 0, [], [], 0, 0⟩
/-- what literals come to -/
def foldF (t : Term) : Term × Bool :=
  if t.S = [] then
    match t.L with
    | [x] => if t.K = 11 then (if t.N = 1 ∧ lit x 5 = true then (⟨x.K, oneF 1 x.N, [], [], 0, 0⟩, true) else if t.N = 2 ∧ lit x 6 = true then (⟨x.K, oneF 2 x.N, [], [], 0, 0⟩, true) else (zT, false)) else (zT, false)
    | [x, y] => if t.K = 10 then (if resF t.N (lit x 5 && lit y 5) (lit x 6 && lit y 6) = 0 then (zT, false) else if (twoF t.N x.N y.N).2 = 0 then (⟨resF t.N (lit x 5 && lit y 5) (lit x 6 && lit y 6), (twoF t.N x.N y.N).1, [], [], 0, 0⟩, true) else (zT, false)) else (zT, false)
    | _ => (zT, false)
  else (zT, false)
theorem resF_no (n : Int) : resF n false false = 0 := by unfold resF; simp
theorem foldValue_ok (t : Term) : fold_Value t = some (foldF t) := by
  unfold fold_Value foldF
  by_cases hS : t.S = []
  · rw [if_pos hS, if_pos hS]
    rcases hL : t.L with _ | ⟨x, _ | ⟨y, _ | ⟨z, r⟩⟩⟩
    · rw [result_ok t false false (both_no t 5 (by rw [hL]; simp)) (both_no t 6 (by rw [hL]; simp)), some_bind, resF_no]
      simp
    · rw [result_ok t false false (both_no t 5 (by rw [hL]; simp)) (both_no t 6 (by rw [hL]; simp)), some_bind, resF_no]
      have e0 : idx [x] 0 = some x := rfl
      simp only [e0, some_bind, lit_ok, arithOne_ok]
      rw [if_pos True.intro, if_pos (show (([x] : List Term).length : Int) = 1 by simp)]
      by_cases hK : t.K = 11
      · rw [if_neg (show ¬ t.K = 10 by omega), if_pos hK, if_pos hK]
        by_cases h1 : t.N = 1
        · rw [if_pos h1, h1]
          cases lit x 5 <;> simp
        · rw [if_neg h1]
          by_cases h2 : t.N = 2
          · rw [if_pos h2, h2]
            cases lit x 6 <;> simp
          · rw [if_neg h2]
            simp [h1, h2]
      · rw [if_neg hK, if_neg hK]
        split <;> rfl
    · rw [result_ok t _ _ (both_ok t x y hL 5) (both_ok t x y hL 6), some_bind]
      have e0 : idx [x, y] 0 = some x := rfl
      have e1 : idx [x, y] 1 = some y := rfl
      simp only [e0, e1, some_bind, arithTwo_ok]
      by_cases hK : t.K = 10
      · rw [if_pos hK, if_pos hK]
        split
        · rfl
        · split <;> rfl
      · rw [if_neg hK, if_neg hK, if_neg (show ¬ (([x, y] : List Term).length : Int) = 1 by simp)]
        split <;> rfl
    · rw [result_ok t false false (both_no t 5 (by rw [hL]; simp)) (both_no t 6 (by rw [hL]; simp)), some_bind, resF_no]
      rw [if_pos rfl, if_neg (show ¬ ((x :: y :: z :: r).length : Int) = 1 by simp; omega)]
      split
      · rfl
      · split <;> rfl
  · rw [if_neg hS, if_neg hS]
theorem lit_kind {t : Term} {k : Int} (h : lit t k = true) : t.K = k := by
  unfold lit at h
  simp only [Bool.and_eq_true, decide_eq_true_eq] at h
  exact h.1.1.1
theorem refValue_ok (t : Term) (w : Term.Wf t) : ref27Value t = some (foldF t) := by
  unfold ref27Value foldF
  by_cases hS : t.S = []
  · rw [if_pos hS, if_pos hS]
    rcases hL : t.L with _ | ⟨x, _ | ⟨y, _ | ⟨z, r⟩⟩⟩
    · rfl
    · rw [if_neg (show ¬ (([x] : List Term).length : Int) = 0 by simp), if_neg (show ¬ (([x] : List Term).length : Int) > 2 by simp)]
      have e0 : idx [x] 0 = some x := rfl
      rw [ref27Value_L5_eq]; unfold ref27Value_L5_B
      rw [hL, if_pos (show (0 : Int) < (([x] : List Term).length : Int) by simp), e0, some_bind, rlit_ok, some_bind, some_bind, some_bind]
      rw [ref27Value_L5_eq]; unfold ref27Value_L5_B
      rw [hL, show IntKind.wrap .i64 (0 + 1) = 1 from rfl, if_neg (show ¬ (1 : Int) < (([x] : List Term).length : Int) by simp)]
      simp only [e0, some_bind, refOneA_ok, if_true]
      rw [if_pos (show (([x] : List Term).length : Int) = 1 by simp), if_neg (show ¬ (([x] : List Term).length : Int) = 2 by simp)]
      cases h5 : lit x 5 with
      | true =>
        have hk := lit_kind h5
        have h6 : lit x 6 = false := by
          cases h6 : lit x 6 with
          | false => rfl
          | true => have := lit_kind h6; omega
        simp only [Bool.true_or, if_true, h6]
        by_cases hK : t.K = 11
        · rw [if_pos hK, if_pos hK]
          by_cases h1 : t.N = 1
          · rw [if_pos h1, if_pos hk, h1]; simp
          · rw [if_neg h1, if_pos hk]
            by_cases h2 : t.N = 2
            · rw [if_pos h2]; simp [h1, h2]
            · rw [if_neg h2]; simp [h1, h2]
        · rw [if_neg hK, if_neg hK]; split <;> rfl
      | false =>
        cases h6 : lit x 6 with
        | true =>
          have hk := lit_kind h6
          simp only [Bool.false_or, if_true]
          by_cases hK : t.K = 11
          · rw [if_pos hK, if_pos hK, if_neg (show ¬ x.K = 5 by omega)]
            by_cases h1 : t.N = 1
            · rw [if_pos h1]; simp [h1]
            · rw [if_neg h1]
              by_cases h2 : t.N = 2
              · rw [if_pos h2, if_neg (show ¬ x.K = 5 by omega), h2]; simp
              · rw [if_neg h2]; simp [h1, h2]
          · rw [if_neg hK, if_neg hK]; split <;> rfl
        | false =>
          simp
    · have wx : in64 x.N := i64_iff.1 ((w.L_.2 x (by rw [hL]; simp)).N_)
      have wy : in64 y.N := i64_iff.1 ((w.L_.2 y (by rw [hL]; simp)).N_)
      rw [if_neg (show ¬ (([x, y] : List Term).length : Int) = 0 by simp), if_neg (show ¬ (([x, y] : List Term).length : Int) > 2 by simp)]
      have e0 : idx [x, y] 0 = some x := rfl
      have e1 : idx [x, y] 1 = some y := rfl
      rw [ref27Value_L5_eq]; unfold ref27Value_L5_B
      rw [hL, if_pos (show (0 : Int) < (([x, y] : List Term).length : Int) by simp), e0, some_bind, rlit_ok, some_bind, some_bind, some_bind]
      rw [ref27Value_L5_eq]; unfold ref27Value_L5_B
      rw [hL, show IntKind.wrap .i64 (0 + 1) = 1 from rfl, if_pos (show (1 : Int) < (([x, y] : List Term).length : Int) by simp), e1, some_bind, rlit_ok, some_bind, some_bind, e0, some_bind]
      rw [ref27Value_L5_eq]; unfold ref27Value_L5_B
      rw [hL, show IntKind.wrap .i64 (1 + 1) = 2 from rfl, if_neg (show ¬ (2 : Int) < (([x, y] : List Term).length : Int) by simp)]
      simp only [e0, e1, some_bind, refTwo_ok _ _ _ wx wy, if_true]
      rw [if_neg (show ¬ (([x, y] : List Term).length : Int) = 1 by simp), if_pos (show (([x, y] : List Term).length : Int) = 2 by simp)]
      have k5 : ∀ z : Term, lit z 5 = true → z.K = 5 ∧ lit z 6 = false := fun z h => by
        have hk := lit_kind h
        refine ⟨hk, ?_⟩
        cases h6 : lit z 6 with
        | false => rfl
        | true => have := lit_kind h6; omega
      have k6 : ∀ z : Term, lit z 6 = true → z.K = 6 ∧ lit z 5 = false := fun z h => by
        have hk := lit_kind h
        refine ⟨hk, ?_⟩
        cases h5 : lit z 5 with
        | false => rfl
        | true => have := lit_kind h5; omega
      -- both of one kind: what is left
      have tail : ∀ k : Int, (k = 5 ∨ k = 6) → x.K = k →
          (if t.K = 11 then some ((⟨0, 0, [], [], 0, 0⟩ : Term), false) else if t.K = 10 then (if t.N < 1 then some (zT, false) else if t.N > 13 then some (zT, false) else
            if x.K = 5 then (if t.N < 3 then some (zT, false) else if (twoF t.N x.N y.N).2 = 0 then (if t.N < 9 then some (⟨6, (twoF t.N x.N y.N).1, [], [], 0, 0⟩, true) else some (⟨5, (twoF t.N x.N y.N).1, [], [], 0, 0⟩, true)) else some (zT, false))
            else if t.N > 4 then some (zT, false) else if (twoF t.N x.N y.N).2 = 0 then (if t.N < 9 then some (⟨6, (twoF t.N x.N y.N).1, [], [], 0, 0⟩, true) else some (⟨5, (twoF t.N x.N y.N).1, [], [], 0, 0⟩, true)) else some (zT, false)) else some (zT, false)) =
          some (if t.K = 10 then (if resF t.N (decide (k = 5)) (decide (k = 6)) = 0 then (zT, false) else if (twoF t.N x.N y.N).2 = 0 then (⟨resF t.N (decide (k = 5)) (decide (k = 6)), (twoF t.N x.N y.N).1, [], [], 0, 0⟩, true) else (zT, false)) else (zT, false)) := by
        intro k hk hx
        by_cases hK : t.K = 10
        · rw [if_neg (show ¬ t.K = 11 by omega), if_pos hK, if_pos hK]
          generalize t.N = n
          unfold resF
          by_cases hn : 1 ≤ n ∧ n ≤ 13
          · rw [if_neg (show ¬ n < 1 by omega), if_neg (show ¬ n > 13 by omega)]
            rcases hk with rfl | rfl
            · rw [if_pos hx]
              by_cases h3 : n < 3
              · rw [if_pos h3]; simp [show ¬ (n = 3 ∨ n = 4) by omega, show n = 1 ∨ n = 2 by omega]
              · rw [if_neg h3]
                by_cases h9 : n < 9
                · have : (if n = 3 ∨ n = 4 then (if (decide ((5 : Int) = 5) || decide ((5 : Int) = 6)) = true then (6 : Int) else 0) else if n = 1 ∨ n = 2 then (if decide ((5 : Int) = 6) = true then 6 else 0) else if 5 ≤ n ∧ n ≤ 8 then (if decide ((5 : Int) = 5) = true then 6 else 0) else if 9 ≤ n ∧ n ≤ 13 then (if decide ((5 : Int) = 5) = true then 5 else 0) else 0) = 6 := by
                    by_cases h34 : n = 3 ∨ n = 4
                    · rw [if_pos h34]; rfl
                    · rw [if_neg h34, if_neg (show ¬ (n = 1 ∨ n = 2) by omega), if_pos (show 5 ≤ n ∧ n ≤ 8 by omega)]; rfl
                  rw [this, if_pos h9, if_neg (show ¬ (6 : Int) = 0 by decide)]
                  split <;> rfl
                · have : (if n = 3 ∨ n = 4 then (if (decide ((5 : Int) = 5) || decide ((5 : Int) = 6)) = true then (6 : Int) else 0) else if n = 1 ∨ n = 2 then (if decide ((5 : Int) = 6) = true then 6 else 0) else if 5 ≤ n ∧ n ≤ 8 then (if decide ((5 : Int) = 5) = true then 6 else 0) else if 9 ≤ n ∧ n ≤ 13 then (if decide ((5 : Int) = 5) = true then 5 else 0) else 0) = 5 := by
                    rw [if_neg (show ¬ (n = 3 ∨ n = 4) by omega), if_neg (show ¬ (n = 1 ∨ n = 2) by omega), if_neg (show ¬ (5 ≤ n ∧ n ≤ 8) by omega), if_pos (show 9 ≤ n ∧ n ≤ 13 by omega)]; rfl
                  rw [this, if_neg h9, if_neg (show ¬ (5 : Int) = 0 by decide)]
                  split <;> rfl
            · rw [if_neg (show ¬ x.K = 5 by omega)]
              by_cases h4 : n > 4
              · rw [if_pos h4]
                rw [if_neg (show ¬ (n = 3 ∨ n = 4) by omega), if_neg (show ¬ (n = 1 ∨ n = 2) by omega)]
                simp
              · rw [if_neg h4, if_pos (show n < 9 by omega)]
                have : (if n = 3 ∨ n = 4 then (if (decide ((6 : Int) = 5) || decide ((6 : Int) = 6)) = true then (6 : Int) else 0) else if n = 1 ∨ n = 2 then (if decide ((6 : Int) = 6) = true then 6 else 0) else if 5 ≤ n ∧ n ≤ 8 then (if decide ((6 : Int) = 5) = true then 6 else 0) else if 9 ≤ n ∧ n ≤ 13 then (if decide ((6 : Int) = 5) = true then 5 else 0) else 0) = 6 := by
                  by_cases h34 : n = 3 ∨ n = 4
                  · rw [if_pos h34]; rfl
                  · rw [if_neg h34, if_pos (show n = 1 ∨ n = 2 by omega)]; rfl
                rw [this, if_neg (show ¬ (6 : Int) = 0 by decide)]
                split <;> rfl
          · rw [if_neg (show ¬ (n = 3 ∨ n = 4) by omega), if_neg (show ¬ (n = 1 ∨ n = 2) by omega), if_neg (show ¬ (5 ≤ n ∧ n ≤ 8) by omega), if_neg (show ¬ (9 ≤ n ∧ n ≤ 13) by omega), if_pos rfl]
            split
            · rfl
            · split
              · rfl
              · omega
        · rw [if_neg hK, if_neg hK]; split <;> rfl
      cases hx5 : lit x 5 with
      | true =>
        have hx := k5 x hx5
        cases hy5 : lit y 5 with
        | true =>
          have hy := k5 y hy5
          have := tail 5 (.inl rfl) hx.1
          simp only [hx.2, hy.2, Bool.true_or, if_true, Bool.and_self, if_pos (show y.K = x.K by omega)]
          exact this
        | false =>
          cases hy6 : lit y 6 with
          | true =>
            have hy := k6 y hy6
            simp [hx.2, hx.1, hy.1, resF_no]
          | false => simp [hx.2, resF_no]
      | false =>
        cases hx6 : lit x 6 with
        | true =>
          have hx := k6 x hx6
          cases hy5 : lit y 5 with
          | true =>
            have hy := k5 y hy5
            simp [hx.1, hy.1, hy.2, resF_no]
          | false =>
            cases hy6 : lit y 6 with
            | true =>
              have hy := k6 y hy6
              have := tail 6 (.inr rfl) hx.1
              simp only [Bool.false_or, Bool.or_true, if_true, Bool.and_self, Bool.false_and, if_pos (show y.K = x.K by omega)]
              exact this
            | false => simp [resF_no]
        | false => simp [resF_no]
    · rw [if_neg (show ¬ ((x :: y :: z :: r).length : Int) = 0 by simp; omega), if_pos (show ((x :: y :: z :: r).length : Int) > 2 by simp; omega)]
  · rw [if_neg hS, if_neg hS]
theorem foldF_leaf (t : Term) : ref06Placed (foldF t).1 (foldF t).1 = some true := by
  unfold foldF
  repeat' split
  all_goals exact placed_leaf _ _
theorem foldAwake_ok : law27awake = some true := by
  unfold law27awake
  have e : ref25Num 2 = some ⟨5, 2, [], [], 0, 0⟩ := rfl
  have e3 : ref25Num 3 = some ⟨5, 3, [], [], 0, 0⟩ := rfl
  rw [e, e3, some_bind, some_bind]
  unfold ref25Bin
  rw [some_bind, foldValue_ok, some_bind]
  rfl
theorem foldValuesLaw (x0 : Term) (w0 : Term.Wf x0) : law27FoldValues x0 = some true := by
  unfold law27FoldValues
  obtain ⟨b, e, -⟩ := large_ok x0 w0
  rw [e, some_bind, foldAwake_ok, some_bind]
  cases b with
  | true => rw [if_pos rfl]
  | false =>
    rw [if_neg (by simp), foldValue_ok, refValue_ok x0 w0, some_bind, some_bind, if_pos rfl, foldF_leaf, some_bind, if_pos rfl]
end Go.Proofs.Ytkioflnaifdlkaa.M
