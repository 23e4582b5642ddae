/- Operators on numbers: what the program's and the reference's arithmetic come to. -/
import Derived.Test.YtkioflnaifdlkaaBase
namespace Go.Proofs.Ytkioflnaifdlkaa.M
open Go Nt
set_option linter.unusedVariables false
set_option linter.unusedSimpArgs false
def b01 (b : Bool) : Int := if b = true then 1 else 0
def cmpF (k a b : Int) : Bool := if k = 3 then a == b else if k = 4 then !(a == b) else if k = 5 then decide (a < b) else if k = 6 then decide (a ≤ b) else if k = 7 then decide (a > b) else decide (a ≥ b)
/-- what an operator of one operand answers -/
def oneF (k a : Int) : Int := if k = 1 then IntKind.wrap .i64 (0 - a) else if k = 2 then b01 (a == 0) else 0
/-- what an operator of two operands answers -/
def twoF (k a b : Int) : Int × Int :=
  if k = 1 then (b01 (!(a == 0) || !(b == 0)), 0) else if k = 2 then (b01 (!(a == 0) && !(b == 0)), 0)
  else if 3 ≤ k ∧ k ≤ 8 then (b01 (cmpF k a b), 0)
  else if k = 9 then (IntKind.wrap .i64 (a + b), 0) else if k = 10 then (IntKind.wrap .i64 (a - b), 0) else if k = 11 then (IntKind.wrap .i64 (a * b), 0)
  else if k = 12 then (if b = 0 then (0, 1) else (IntKind.wrap .i64 (a.tdiv b), 0)) else if k = 13 then (if b = 0 then (0, 1) else (a.tmod b, 0)) else (0, 0)
theorem truth_ok (b : Bool) : arith_truth b = some (b01 b) := by cases b <;> rfl
theorem rbool_ok (b : Bool) : ref20Bool b = some (b01 b) := by cases b <;> rfl
theorem wi_eq (n : Int) : IntKind.wrap .i64 n = (n + 9223372036854775808) % 18446744073709551616 - 9223372036854775808 := by rw [IntKind.wrap_i64]
theorem wi_wu (n : Int) : IntKind.wrap .i64 (IntKind.wrap .u64 n) = IntKind.wrap .i64 n := by rw [IntKind.wrap_u64, wi_eq, wi_eq]; omega
theorem wi_wu_neg (n : Int) : IntKind.wrap .i64 (IntKind.wrap .u64 (0 - n)) = IntKind.wrap .i64 (-n) := by rw [wi_wu]; congr 1; omega
theorem arithOne_ok (k a : Int) : arith_One k a = some (oneF k a, 0) := by
  unfold arith_One oneF
  by_cases h1 : k = 1
  · rw [if_pos h1, if_pos h1]
  rw [if_neg h1, if_neg h1]
  by_cases h2 : k = 2
  · rw [if_pos h2, if_pos h2, truth_ok]; rfl
  rw [if_neg h2, if_neg h2]
theorem refOneA_ok (k a : Int) : ref20One k a = some (oneF k a) := by
  unfold ref20One oneF
  by_cases h1 : k = 1
  · rw [if_pos h1, if_pos h1, wi_wu, IntKind.wrap_u64, wi_eq, wi_eq]; congr 1; omega
  rw [if_neg h1, if_neg h1]
  by_cases h2 : k = 2
  · rw [if_pos h2, if_pos h2, rbool_ok]; rfl
  rw [if_neg h2, if_neg h2]
theorem reckon_ok (k a b : Int) (h1 : 9 ≤ k) (h2 : k ≤ 13) : arith_reckon k a b = some (twoF k a b) := by
  unfold arith_reckon twoF
  rw [if_neg (show ¬ k = 1 by omega), if_neg (show ¬ k = 2 by omega), if_neg (show ¬ (3 ≤ k ∧ k ≤ 8) by omega)]
  by_cases h9 : k = 9
  · rw [if_pos h9, if_pos h9]
  rw [if_neg h9, if_neg h9]
  by_cases h10 : k = 10
  · rw [if_pos h10, if_pos h10]
  rw [if_neg h10, if_neg h10]
  by_cases h11 : k = 11
  · rw [if_pos h11, if_pos h11]
  rw [if_neg h11, if_neg h11]
  rcases (show k = 12 ∨ k = 13 by omega) with rfl | rfl
  · by_cases hb : b = 0 <;> simp [hb]
  · by_cases hb : b = 0 <;> simp [hb]
theorem class_ok (k : Int) : arith_class k = some (if k = 1 ∨ k = 2 then 0 else if 3 ≤ k ∧ k ≤ 8 then 1 else if 9 ≤ k ∧ k ≤ 13 then 2 else 3) := by
  unfold arith_class
  repeat' split
  all_goals first | rfl | omega
theorem arithTwo_ok (k a b : Int) : arith_Two k a b = some (twoF k a b) := by
  unfold arith_Two
  rw [class_ok, some_bind]
  by_cases h12 : k = 1 ∨ k = 2
  · rw [if_pos h12, if_pos rfl]
    unfold twoF
    by_cases h1 : k = 1
    · rw [if_pos h1, if_pos h1]
      by_cases ha : a = 0
      · rw [if_pos ha, truth_ok, ha]; rfl
      · rw [if_neg ha, truth_ok, show (a == 0) = false by simpa using ha]; rfl
    · rw [if_neg h1, if_neg h1, if_pos (show k = 2 by omega)]
      by_cases ha : a = 0
      · rw [if_pos ha, truth_ok, ha]; rfl
      · rw [if_neg ha, truth_ok, show (a == 0) = false by simpa using ha]; rfl
  rw [if_neg h12]
  by_cases h3 : 3 ≤ k ∧ k ≤ 8
  · rw [if_pos h3, if_neg (by omega), if_pos rfl]
    have : arith_compare k a b = some (cmpF k a b) := by
      unfold arith_compare cmpF
      repeat' split
      all_goals first | rfl | omega
    rw [this, some_bind, truth_ok]
    unfold twoF
    rw [if_neg (show ¬ k = 1 by omega), if_neg (show ¬ k = 2 by omega), if_pos h3]; rfl
  rw [if_neg h3]
  by_cases h9 : 9 ≤ k ∧ k ≤ 13
  · rw [if_pos h9, if_neg (by omega), if_neg (by omega), if_pos rfl, reckon_ok k a b h9.1 h9.2]; rfl
  · rw [if_neg h9, if_neg (by omega), if_neg (by omega), if_neg (by omega)]
    unfold twoF
    rw [if_neg (show ¬ k = 1 by omega), if_neg (show ¬ k = 2 by omega), if_neg h3, if_neg (show ¬ k = 9 by omega), if_neg (show ¬ k = 10 by omega), if_neg (show ¬ k = 11 by omega), if_neg (show ¬ k = 12 by omega), if_neg (show ¬ k = 13 by omega)]

/-! the reference's product -/
theorem timesLoop_ok : ∀ (y : Nat) (x r : Int), (y : Int) < 18446744073709551616 → ref20Times_L4 x y r = some (IntKind.wrap .i64 (r + x * y)) := by
  intro y
  induction y using Nat.strongRecOn with
  | _ y ih =>
    intro x r hy
    rw [ref20Times_L4_eq]; unfold ref20Times_L4_B
    by_cases h0 : (y : Int) > 0
    · rw [if_pos h0]
      simp only [ne_eq, show ¬ ((2 : Int) = 0) by decide, not_false_eq_true, if_true]
      have hd : Int.tdiv (y : Int) 2 = ((y / 2 : Nat) : Int) := by rw [Int.tdiv_eq_ediv_of_nonneg (by omega)]; omega
      have hm : Int.tmod (y : Int) 2 = ((y % 2 : Nat) : Int) := by rw [Int.tmod_eq_emod_of_nonneg (by omega)]; omega
      have hw : IntKind.wrap .u64 (((y / 2 : Nat) : Int)) = ((y / 2 : Nat) : Int) := by rw [IntKind.wrap_u64]; omega
      have hmul : x * (y : Int) = 2 * (x * ((y / 2 : Nat) : Int)) + x * ((y % 2 : Nat) : Int) := by
        have : (y : Int) = 2 * ((y / 2 : Nat) : Int) + ((y % 2 : Nat) : Int) := by omega
        rw [show x * (y : Int) = x * (2 * ((y / 2 : Nat) : Int) + ((y % 2 : Nat) : Int)) by rw [← this], Int.mul_add, Int.mul_left_comm]
      have hx : IntKind.wrap .u64 (x + x) * ((y / 2 : Nat) : Int) = 2 * (x * ((y / 2 : Nat) : Int)) - 18446744073709551616 * (((x + x) / 18446744073709551616) * ((y / 2 : Nat) : Int)) := by
        rw [IntKind.wrap_u64, show (x + x) % 18446744073709551616 = 2 * x - 18446744073709551616 * ((x + x) / 18446744073709551616) by omega, Int.sub_mul, Int.mul_assoc, Int.mul_assoc]
      rw [hm, hd, hw, ih (y / 2) (by omega) _ _ (by omega), ih (y / 2) (by omega) _ _ (by omega), hx, hmul]
      rcases Nat.mod_two_eq_zero_or_one y with h | h
      · rw [h, if_neg (by decide)]
        congr 1
        rw [wi_eq, wi_eq]
        generalize x * ((y / 2 : Nat) : Int) = t
        generalize ((x + x) / 18446744073709551616) * ((y / 2 : Nat) : Int) = s
        simp
        omega
      · rw [h, if_pos (by decide)]
        congr 1
        rw [wi_eq, wi_eq, IntKind.wrap_u64]
        generalize x * ((y / 2 : Nat) : Int) = t
        generalize ((x + x) / 18446744073709551616) * ((y / 2 : Nat) : Int) = s
        simp
        omega
    · rw [if_neg h0]
      have : (y : Int) = 0 := by omega
      rw [this]
      simp
theorem times_ok (a b : Int) : ref20Times a b = some (IntKind.wrap .i64 (a * b)) := by
  unfold ref20Times
  have hb : 0 ≤ IntKind.wrap .u64 b ∧ IntKind.wrap .u64 b < 18446744073709551616 := by rw [IntKind.wrap_u64]; omega
  obtain ⟨y, hy⟩ := Int.eq_ofNat_of_zero_le hb.1
  rw [hy, timesLoop_ok y _ _ (by omega), ← hy]
  congr 1
  rw [IntKind.wrap_u64, IntKind.wrap_u64, wi_eq, wi_eq]
  have : a % 18446744073709551616 * (b % 18446744073709551616) % 18446744073709551616 = a * b % 18446744073709551616 := (Int.mul_emod a b _).symm
  omega

/-! the reference's long division -/
theorem divLoop_ok (a b : Int) (ha : 0 ≤ a ∧ a < 18446744073709551616) (hb : 0 < b ∧ b < 18446744073709551616) : ∀ (n : Nat) (q r : Int), n ≤ 64 → a / 2 ^ n = b * q + r → 0 ≤ q → 0 ≤ r → r < b →
    ref20Divide_L4 a b q r ((n : Int) - 1) = some (a / b, a % b) := by
  intro n
  induction n with
  | zero =>
    intro q r _ h hq hr hrb
    rw [ref20Divide_L4_eq]; unfold ref20Divide_L4_B
    rw [if_neg (by omega)]
    have h' : a = b * q + r := by simpa using h
    have := (Int.ediv_emod_unique (a := a) (b := b) (r := r) (q := q) hb.1).2 ⟨by omega, hr, hrb⟩
    rw [this.1, this.2]
  | succ n ih =>
    intro q r hn h hq hr hrb
    rw [ref20Divide_L4_eq]; unfold ref20Divide_L4_B
    have hi : ((n + 1 : Nat) : Int) - 1 = (n : Int) := by omega
    rw [hi]
    have hw3 : IntKind.wrap .u64 (n : Int) = (n : Int) := by rw [IntKind.wrap_u64]; omega
    have hmin : Min.min (Int.toNat (n : Int)) (IntKind.bits .u64) = n := by simp [IntKind.bits]; omega
    rw [hw3, hmin]
    have hf : Int.fdiv a (2 ^ n) = a / 2 ^ n := by rw [Int.fdiv_eq_ediv_of_nonneg _ (by exact Int.le_of_lt (Int.pow_pos (by decide)))]
    rw [hf, if_pos (by omega), if_pos (by omega), if_pos (by decide)]
    have hhi : 0 ≤ a / 2 ^ n := Int.ediv_nonneg ha.1 (Int.le_of_lt (Int.pow_pos (by decide)))
    have hlt : a / 2 ^ n < 18446744073709551616 := Int.lt_of_le_of_lt (Int.ediv_le_self _ ha.1) ha.2
    have hhalf : a / 2 ^ n / 2 = a / 2 ^ (n + 1) := by rw [Int.ediv_ediv_of_nonneg (Int.le_of_lt (Int.pow_pos (by decide))), Int.pow_succ]
    rw [Int.tmod_eq_emod_of_nonneg hhi]
    generalize hA : a / 2 ^ n = A at *
    rw [h] at hhalf
    have hbq : 0 ≤ b * q := Int.mul_nonneg (Int.le_of_lt hb.1) hq
    have hqle : q ≤ b * q := by
      have := Int.mul_le_mul_of_nonneg_right (show 1 ≤ b by omega) hq
      omega
    generalize hB : b * q = B at *
    have h2q : b * (2 * q) = 2 * B := by rw [Int.mul_left_comm, hB]
    have h2q1 : b * (2 * q + 1) = 2 * B + b := by rw [Int.mul_add, h2q]; omega
    have hA2 : A = 2 * B + (2 * r + A % 2) := by omega
    have hm := Int.emod_nonneg A (show (2 : Int) ≠ 0 by decide)
    have e7 : IntKind.wrap .u64 (q * 2) = 2 * q := by rw [IntKind.wrap_u64]; omega
    have e6 : IntKind.wrap .u64 (IntKind.wrap .u64 (r * 2) + A % 2) = (2 * r + A % 2) % 18446744073709551616 := by rw [IntKind.wrap_u64, IntKind.wrap_u64]; omega
    have ei : IntKind.wrap .i64 ((n : Int) - 1) = (n : Int) - 1 := by rw [wi_eq]; omega
    rw [e7, e6, ei]
    by_cases hc : r ≥ 9223372036854775808
    · rw [if_pos hc]
      have e8 : IntKind.wrap .u64 ((2 * r + A % 2) % 18446744073709551616 - b) = 2 * r + A % 2 - b := by rw [IntKind.wrap_u64]; omega
      have e9 : IntKind.wrap .u64 (2 * q + 1) = 2 * q + 1 := by rw [IntKind.wrap_u64]; omega
      rw [e8, e9]
      exact ih (2 * q + 1) (2 * r + A % 2 - b) (by omega) (by rw [h2q1]; omega) (by omega) (by omega) (by omega)
    · have e6' : (2 * r + A % 2) % 18446744073709551616 = 2 * r + A % 2 := by omega
      rw [if_neg hc, e6']
      by_cases hg : 2 * r + A % 2 ≥ b
      · rw [if_pos hg]
        have e8 : IntKind.wrap .u64 (2 * r + A % 2 - b) = 2 * r + A % 2 - b := by rw [IntKind.wrap_u64]; omega
        have e9 : IntKind.wrap .u64 (2 * q + 1) = 2 * q + 1 := by rw [IntKind.wrap_u64]; omega
        rw [e8, e9]
        exact ih (2 * q + 1) (2 * r + A % 2 - b) (by omega) (by rw [h2q1]; omega) (by omega) (by omega) (by omega)
      · rw [if_neg hg]
        exact ih (2 * q) (2 * r + A % 2) (by omega) (by rw [h2q]; omega) (by omega) (by omega) (by omega)
theorem divide_ok (a b : Int) (ha : 0 ≤ a ∧ a < 18446744073709551616) (hb : 0 < b ∧ b < 18446744073709551616) : ref20Divide a b = some (a / b, a % b) := by
  unfold ref20Divide
  have h64 : a / 2 ^ 64 = b * 0 + 0 := by
    rw [show (2 : Int) ^ 64 = 18446744073709551616 from rfl]; omega
  exact divLoop_ok a b ha hb 64 0 0 (Nat.le_refl _) h64 (Int.le_refl _) (Int.le_refl _) hb.1
/-- a number's size -/
def szI (a : Int) : Int := if a < 0 then -a else a
abbrev in64 (a : Int) : Prop := -9223372036854775808 ≤ a ∧ a ≤ 9223372036854775807
theorem sizeA_ok (a : Int) (h : in64 a) : ref20Size a = some (szI a) := by
  unfold ref20Size szI
  by_cases h0 : a < 0
  · rw [if_pos h0, if_pos h0, IntKind.wrap_u64, IntKind.wrap_u64, wi_eq, wi_eq]; congr 1; omega
  · rw [if_neg h0, if_neg h0, IntKind.wrap_u64]; congr 1; omega
theorem tdiv_sz (a b : Int) : a.tdiv b = if decide (a < 0) = decide (b < 0) then szI a / szI b else -(szI a / szI b) := by
  unfold szI
  by_cases ha : a < 0 <;> by_cases hb : b < 0
  · simp only [ha, hb, if_true, decide_true]
    rw [← Int.tdiv_eq_ediv_of_nonneg (by omega), Int.neg_tdiv_neg]
  · simp only [ha, hb, if_true, if_false, decide_true, decide_false, Bool.true_eq_false]
    rw [← Int.tdiv_eq_ediv_of_nonneg (by omega), Int.neg_tdiv, Int.neg_neg]
  · simp only [ha, hb, if_true, if_false, decide_true, decide_false, Bool.false_eq_true]
    rw [← Int.tdiv_eq_ediv_of_nonneg (by omega), Int.tdiv_neg, Int.neg_neg]
  · simp only [ha, hb, if_false, decide_false, if_true]
    rw [← Int.tdiv_eq_ediv_of_nonneg (by omega)]
theorem tmod_sz (a b : Int) : a.tmod b = if a < 0 then -(szI a % szI b) else szI a % szI b := by
  unfold szI
  by_cases ha : a < 0 <;> by_cases hb : b < 0
  · simp only [ha, hb, if_true]
    rw [← Int.tmod_eq_emod_of_nonneg (by omega), Int.tmod_neg, Int.neg_tmod, Int.neg_neg]
  · simp only [ha, hb, if_true, if_false]
    rw [← Int.tmod_eq_emod_of_nonneg (by omega), Int.neg_tmod, Int.neg_neg]
  · simp only [ha, hb, if_true, if_false]
    rw [← Int.tmod_eq_emod_of_nonneg (by omega), Int.tmod_neg]
  · simp only [ha, hb, if_false]
    rw [← Int.tmod_eq_emod_of_nonneg (by omega)]
theorem quotient_ok (a b : Int) (ha : in64 a) (hb : in64 b) (h0 : b ≠ 0) : ref20Quotient a b = some (IntKind.wrap .i64 (a.tdiv b), a.tmod b) := by
  have sa : 0 ≤ szI a ∧ szI a ≤ 9223372036854775808 := by unfold szI; split <;> omega
  have sb : 0 < szI b ∧ szI b ≤ 9223372036854775808 := by unfold szI; split <;> omega
  unfold ref20Quotient
  rw [sizeA_ok a ha, sizeA_ok b hb, some_bind, some_bind, divide_ok _ _ (by omega) (by omega), some_bind]
  have hm : 0 ≤ szI a % szI b ∧ szI a % szI b < szI b := ⟨Int.emod_nonneg _ (by omega), Int.emod_lt_of_pos _ sb.1⟩
  have em : IntKind.wrap .i64 (szI a % szI b) = szI a % szI b := by rw [wi_eq]; omega
  have emn : IntKind.wrap .i64 (-(szI a % szI b)) = -(szI a % szI b) := by rw [wi_eq]; omega
  rw [tdiv_sz, tmod_sz, wi_wu_neg, wi_wu_neg, em, emn]
  by_cases hs : decide (a < 0) = decide (b < 0)
  · rw [if_pos hs, if_pos hs]
    by_cases hn : a < 0
    · rw [if_pos hn, if_pos hn]
    · rw [if_neg hn, if_neg hn]
  · rw [if_neg hs, if_neg hs]
    by_cases hn : a < 0
    · rw [if_pos hn, if_pos hn]
    · rw [if_neg hn, if_neg hn]
theorem wadd (a b : Int) : IntKind.wrap .i64 (IntKind.wrap .u64 (IntKind.wrap .u64 a + IntKind.wrap .u64 b)) = IntKind.wrap .i64 (a + b) := by
  rw [wi_wu, IntKind.wrap_u64, IntKind.wrap_u64, wi_eq, wi_eq]; omega
theorem wsub (a b : Int) : IntKind.wrap .i64 (IntKind.wrap .u64 (IntKind.wrap .u64 a - IntKind.wrap .u64 b)) = IntKind.wrap .i64 (a - b) := by
  rw [wi_wu, IntKind.wrap_u64, IntKind.wrap_u64, wi_eq, wi_eq]; omega
theorem refTwo_ok (k a b : Int) (ha : in64 a) (hb : in64 b) : ref20Two k a b = some (twoF k a b) := by
  unfold ref20Two twoF
  by_cases h1 : k = 1
  · rw [if_pos h1, if_pos h1]
    by_cases ha : a = 0
    · rw [if_pos ha, rbool_ok, ha]; rfl
    · rw [if_neg ha, rbool_ok, show (a == 0) = false by simpa using ha]; rfl
  rw [if_neg h1, if_neg h1]
  by_cases h2 : k = 2
  · rw [if_pos h2, if_pos h2]
    by_cases ha : a = 0
    · rw [if_pos ha, rbool_ok, ha]; rfl
    · rw [if_neg ha, rbool_ok, show (a == 0) = false by simpa using ha]; rfl
  rw [if_neg h2, if_neg h2]
  by_cases h38 : 3 ≤ k ∧ k ≤ 8
  · rw [if_pos h38]
    simp only [rbool_ok, some_bind]
    rcases (show k = 3 ∨ k = 4 ∨ k = 5 ∨ k = 6 ∨ k = 7 ∨ k = 8 by omega) with rfl | rfl | rfl | rfl | rfl | rfl
    · simp [cmpF, b01]
    · simp [cmpF, b01]
    · simp [cmpF, b01]
    · simp [cmpF, b01]
    · simp [cmpF, b01]
    · simp [cmpF, b01]
  rw [if_neg h38, if_neg (show ¬ k = 3 by omega), if_neg (show ¬ k = 4 by omega), if_neg (show ¬ k = 5 by omega), if_neg (show ¬ k = 8 by omega), if_neg (show ¬ k = 7 by omega), if_neg (show ¬ k = 6 by omega)]
  by_cases h9 : k = 9
  · rw [if_pos h9, if_pos h9, wadd]
  rw [if_neg h9, if_neg h9]
  by_cases h10 : k = 10
  · rw [if_pos h10, if_pos h10, wsub]
  rw [if_neg h10, if_neg h10]
  by_cases h11 : k = 11
  · rw [if_pos h11, if_pos h11, times_ok]; rfl
  rw [if_neg h11, if_neg h11]
  by_cases h12 : k = 12
  · rw [if_pos h12, if_pos h12]
    by_cases h0 : b = 0
    · rw [if_pos h0, if_pos h0]
    · rw [if_neg h0, if_neg h0, quotient_ok a b ha hb h0]; rfl
  rw [if_neg h12, if_neg h12]
  by_cases h13 : k = 13
  · rw [if_pos h13, if_pos h13]
    by_cases h0 : b = 0
    · rw [if_pos h0, if_pos h0]
    · rw [if_neg h0, if_neg h0, quotient_ok a b ha hb h0]; rfl
  rw [if_neg h13, if_neg h13]
end Go.Proofs.Ytkioflnaifdlkaa.M
