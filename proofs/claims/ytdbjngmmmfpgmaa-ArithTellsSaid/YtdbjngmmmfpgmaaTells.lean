/- Triples of the arithmetic functions and of the reference's, for all registers and all ints within 64 bits: both sides answer alike. -/
import Derived.Test.YtdbjngmmmfpgmaaOrders
import Derived.Test.YtdbjngmmmfpgmaaEv2
import Derived.Laws.Bits64
namespace Go.Proofs.Ytdbjngmmmfpgmaa.Ev
open Go Nt Go.Proofs
set_option linter.unusedVariables false
set_option linter.unusedSimpArgs false

theorem t17 (b : Bool) : Trip Try.prog 17 [.d (.bool b)] [] [.d (.int .i64 (b01 b))] [] :=
  trip_ev 1000 (by kernel_rfl) (by kernel_rfl) (by kernel_rfl) (by kernel_rfl) (e17 _ _ b _ _) (by cases b <;> simp [b01])
theorem t13a (k : Int) (h : k = 1 ∨ k = 2) : Trip Try.prog 13 [.d (.int .i64 k)] [] [.d (.int .i64 0)] [] := by
  refine trip_ev 1000 (by kernel_rfl) (by kernel_rfl) (by kernel_rfl) (by kernel_rfl) (e13 _ _ k _ _) ?_
  rcases h with rfl | rfl
  · rintro r0 rfl; exact ⟨rfl, rfl⟩
  · rintro r0 rfl r1 rfl; exact ⟨rfl, rfl⟩
theorem t13c (k : Int) (h1 : 9 ≤ k) (h2 : k ≤ 13) : Trip Try.prog 13 [.d (.int .i64 k)] [] [.d (.int .i64 2)] [] := by
  refine trip_ev 1000 (by kernel_rfl) (by kernel_rfl) (by kernel_rfl) (by kernel_rfl) (e13 _ _ k _ _) ?_
  rintro r0 rfl
  rw [show (k == 1) = false by simp; omega]
  rintro r1 rfl
  rw [show (k == 2) = false by simp; omega]
  rintro r2 rfl
  rw [decide_eq_true (show k ≥ 3 by omega)]
  rintro r3 rfl
  rw [decide_eq_false (show ¬ k ≤ 8 by omega)]
  rintro r4 rfl
  rw [decide_eq_true (show k ≥ 9 by omega)]
  rintro r5 rfl
  rw [decide_eq_true h2]
  exact ⟨rfl, rfl⟩
theorem t13d (k : Int) (h : k < 1 ∨ 13 < k) : Trip Try.prog 13 [.d (.int .i64 k)] [] [.d (.int .i64 3)] [] := by
  refine trip_ev 1000 (by kernel_rfl) (by kernel_rfl) (by kernel_rfl) (by kernel_rfl) (e13 _ _ k _ _) ?_
  rintro r0 rfl
  rw [show (k == 1) = false by simp; omega]
  rintro r1 rfl
  rw [show (k == 2) = false by simp; omega]
  rintro r2 rfl
  by_cases h3 : k ≥ 3
  · rw [decide_eq_true h3]
    rintro r3 rfl
    rw [decide_eq_false (show ¬ k ≤ 8 by omega)]
    rintro r4 rfl
    rw [decide_eq_true (show k ≥ 9 by omega)]
    rintro r5 rfl
    rw [decide_eq_false (show ¬ k ≤ 13 by omega)]
    exact ⟨rfl, rfl⟩
  · rw [decide_eq_false h3]
    rintro r4 rfl
    rw [decide_eq_false (show ¬ k ≥ 9 by omega)]
    exact ⟨rfl, rfl⟩

/-! numbers -/
abbrev wi (n : Int) : Int := IntKind.wrap IntKind.i64 n
abbrev wu (n : Int) : Int := IntKind.wrap IntKind.u64 n
theorem wi_eq (n : Int) : IntKind.wrap IntKind.i64 n = (n + 9223372036854775808) % 18446744073709551616 - 9223372036854775808 := by rw [IntKind.wrap_i64]

/-! the reference's product -/
theorem loop18 : ∀ (y : Nat) (x r v : Int), (y : Int) < 18446744073709551616 → v = IntKind.wrap IntKind.i64 (r + x * y) →
    Ok (cxOf Try.prog (Trip Try.prog) 18 Try.f18 ({ live := [(4, [.s 5, .s 6, .s 7])] } : Hn) [.d (.int .i64 v)] []) (kL Try.f18 4) ⟨27, [(5, .d (.int .u64 x)), (6, .d (.int .u64 y)), (7, .d (.int .u64 r))], [], [], 0⟩ := by
  intro y
  induction y using Nat.strongRecOn with
  | _ y ih =>
    intro x r v hy hv
    refine ok_ev 1000 (e18L _ _ x y r _ _) ?_
    rintro r0 rfl
    by_cases h0 : (y : Int) > 0
    · rw [decide_eq_true h0]
      refine ⟨by decide, ?_⟩
      rintro r1 rfl r2 rfl
      have hd : Int.tdiv (y : Int) 2 = ((y / 2 : Nat) : Int) := by rw [Int.tdiv_eq_ediv_of_nonneg (by omega)]; omega
      have hm : Int.tmod (y : Int) 2 = ((y % 2 : Nat) : Int) := by rw [Int.tmod_eq_emod_of_nonneg (by omega)]; omega
      have hw : IntKind.wrap IntKind.u64 (((y / 2 : Nat) : Int)) = ((y / 2 : Nat) : Int) := by rw [IntKind.wrap_u64]; omega
      have hmul : x * (y : Int) = 2 * (x * ((y / 2 : Nat) : Int)) + x * ((y % 2 : Nat) : Int) := by
        have : (y : Int) = 2 * ((y / 2 : Nat) : Int) + ((y % 2 : Nat) : Int) := by omega
        rw [show x * (y : Int) = x * (2 * ((y / 2 : Nat) : Int) + ((y % 2 : Nat) : Int)) by rw [← this], Int.mul_add, Int.mul_left_comm]
      have hx : IntKind.wrap IntKind.u64 (x + x) * ((y / 2 : Nat) : Int) = 2 * (x * ((y / 2 : Nat) : Int)) - 18446744073709551616 * (((x + x) / 18446744073709551616) * ((y / 2 : Nat) : Int)) := by
        rw [IntKind.wrap_u64, show (x + x) % 18446744073709551616 = 2 * x - 18446744073709551616 * ((x + x) / 18446744073709551616) by omega, Int.sub_mul, Int.mul_assoc, Int.mul_assoc]
      rw [hm, hd, hw]
      rcases Nat.mod_two_eq_zero_or_one y with h | h
      · rw [h, show (((0 : Nat) : Int) == 1) = false from rfl]
        rintro r6 rfl
        refine ⟨by decide, ?_⟩
        rintro r7 rfl
        refine ih (y / 2) (by omega) _ _ _ (by omega) ?_
        rw [hv, hx, hmul, h, wi_eq, wi_eq]
        generalize x * ((y / 2 : Nat) : Int) = t
        generalize ((x + x) / 18446744073709551616) * ((y / 2 : Nat) : Int) = s
        simp
        omega
      · rw [h, show (((1 : Nat) : Int) == 1) = true from rfl]
        rintro r3 rfl r4 rfl
        refine ⟨by decide, ?_⟩
        rintro r5 rfl
        refine ih (y / 2) (by omega) _ _ _ (by omega) ?_
        rw [hv, hx, hmul, h, wi_eq, wi_eq, IntKind.wrap_u64]
        generalize x * ((y / 2 : Nat) : Int) = t
        generalize ((x + x) / 18446744073709551616) * ((y / 2 : Nat) : Int) = s
        simp
        omega
    · rw [decide_eq_false h0]
      rintro r8 rfl
      have : (y : Int) = 0 := by omega
      rw [hv, this]
      simp
theorem t18 (a b : Int) : Trip Try.prog 18 [.d (.int .i64 a), .d (.int .i64 b)] [] [.d (.int .i64 (IntKind.wrap IntKind.i64 (a * b)))] [] := by
  refine trip_ev 1000 (by kernel_rfl) (by kernel_rfl) (by kernel_rfl) (by kernel_rfl) (e18 _ _ a b _ _) ?_
  rintro r0 rfl r1 rfl
  have hb : 0 ≤ IntKind.wrap IntKind.u64 b ∧ IntKind.wrap IntKind.u64 b < 18446744073709551616 := by rw [IntKind.wrap_u64]; omega
  obtain ⟨y, hy⟩ := Int.eq_ofNat_of_zero_le hb.1
  have := loop18 y (IntKind.wrap IntKind.u64 a) 0 (IntKind.wrap IntKind.i64 (a * b)) (by omega) (by
    rw [← hy, IntKind.wrap_u64, IntKind.wrap_u64, wi_eq, wi_eq]
    have : a % 18446744073709551616 * (b % 18446744073709551616) % 18446744073709551616 = a * b % 18446744073709551616 := (Int.mul_emod a b _).symm
    omega)
  rw [← hy] at this
  exact this

/-! the reference's long division -/
theorem loop20 (a b : Int) (ha : 0 ≤ a ∧ a < 18446744073709551616) (hb : 0 < b ∧ b < 18446744073709551616) : ∀ (n : Nat) (q r : Int), n ≤ 64 → a / 2 ^ n = b * q + r → 0 ≤ q → 0 ≤ r → r < b →
    Ok (cxOf Try.prog (Trip Try.prog) 20 Try.f20 ({ live := [(4, [.s 0, .s 1, .s 6, .s 7, .s 8])] } : Hn) [.d (.int .u64 (a / b)), .d (.int .u64 (a % b))] []) (kL Try.f20 4)
      ⟨39, [(0, .d (.int .u64 a)), (1, .d (.int .u64 b)), (6, .d (.int .u64 q)), (7, .d (.int .u64 r)), (8, .d (.int .i64 ((n : Int) - 1)))], [], [], 0⟩ := by
  intro n
  induction n with
  | zero =>
    intro q r _ h hq hr hrb
    refine ok_ev 1000 (e20L _ _ a b q r _ _ _) ?_
    rintro r0 rfl
    rw [decide_eq_false (by omega)]
    have h' : a = b * q + r := by simpa using h
    have := (Int.ediv_emod_unique (a := a) (b := b) (r := r) (q := q) hb.1).2 ⟨by omega, hr, hrb⟩
    exact ⟨by rw [this.1, this.2], rfl⟩
  | succ n ih =>
    intro q r hn h hq hr hrb
    refine ok_ev 1000 (e20L _ _ a b q r _ _ _) ?_
    have hi : ((n + 1 : Nat) : Int) - 1 = (n : Int) := by omega
    rw [hi]
    rintro r0 rfl
    rw [decide_eq_true (by omega)]
    rintro r1 rfl r2 rfl r3 rfl
    have hw3 : IntKind.wrap IntKind.u64 (n : Int) = (n : Int) := by rw [IntKind.wrap_u64]; omega
    rw [hw3]
    refine ⟨by omega, ?_⟩
    rintro r4 rfl
    refine ⟨by decide, ?_⟩
    have hmin : Min.min (Int.toNat (n : Int)) (IntKind.bits IntKind.u64) = n := by simp [IntKind.bits]; omega
    rw [hmin]
    have hf : Int.fdiv a (2 ^ n) = a / 2 ^ n := by rw [Int.fdiv_eq_ediv_of_nonneg _ (by exact Int.le_of_lt (Int.pow_pos (by decide)))]
    rw [hf]
    have hhi : 0 ≤ a / 2 ^ n := Int.ediv_nonneg ha.1 (Int.le_of_lt (Int.pow_pos (by decide)))
    have hlt : a / 2 ^ n < 18446744073709551616 := Int.lt_of_le_of_lt (Int.ediv_le_self _ ha.1) ha.2
    have hhalf : a / 2 ^ n / 2 = a / 2 ^ (n + 1) := by rw [Int.ediv_ediv_of_nonneg (Int.le_of_lt (Int.pow_pos (by decide))), Int.pow_succ]
    rintro r5 rfl
    rw [Int.tmod_eq_emod_of_nonneg hhi]
    rintro r6 rfl r7 rfl
    generalize hA : a / 2 ^ n = A at *
    rw [h] at hhalf
    have hbq : 0 ≤ b * q := Int.mul_nonneg (Int.le_of_lt hb.1) hq
    have hqle : q ≤ b * q := by
      have := Int.mul_le_mul_of_nonneg_right (show 1 ≤ b by omega) hq
      omega
    generalize hB : b * q = B at *
    have h2q : b * (2 * q) = 2 * B := by rw [Int.mul_left_comm, hB]
    have h2q1 : b * (2 * q + 1) = 2 * B + b := by rw [Int.mul_add, h2q]; omega
    have hA2 : A = 2 * B + (2 * r + A % 2) := by omega
    have hm := Int.emod_nonneg A (show (2 : Int) ≠ 0 by decide)
    have e7 : IntKind.wrap IntKind.u64 (q * 2) = 2 * q := by rw [IntKind.wrap_u64]; omega
    have e6 : IntKind.wrap IntKind.u64 (IntKind.wrap IntKind.u64 (r * 2) + A % 2) = (2 * r + A % 2) % 18446744073709551616 := by rw [IntKind.wrap_u64, IntKind.wrap_u64]; omega
    have ei : IntKind.wrap IntKind.i64 ((n : Int) - 1) = (n : Int) - 1 := by rw [wi_eq]; omega
    rw [e7, e6]
    by_cases hc : r ≥ 9223372036854775808
    · rw [decide_eq_true hc]
      rintro r8 rfl r9 rfl r10 rfl
      have e8 : IntKind.wrap IntKind.u64 ((2 * r + A % 2) % 18446744073709551616 - b) = 2 * r + A % 2 - b := by rw [IntKind.wrap_u64]; omega
      have e9 : IntKind.wrap IntKind.u64 (2 * q + 1) = 2 * q + 1 := by rw [IntKind.wrap_u64]; omega
      rw [e8, e9, ei]
      exact ih (2 * q + 1) (2 * r + A % 2 - b) (by omega) (by rw [h2q1]; omega) (by omega) (by omega) (by omega)
    · rw [decide_eq_false hc]
      have e6' : (2 * r + A % 2) % 18446744073709551616 = 2 * r + A % 2 := by omega
      rw [e6']
      rintro r11 rfl
      by_cases hg : 2 * r + A % 2 ≥ b
      · rw [decide_eq_true hg]
        rintro r12 rfl r13 rfl r14 rfl
        have e8 : IntKind.wrap IntKind.u64 (2 * r + A % 2 - b) = 2 * r + A % 2 - b := by rw [IntKind.wrap_u64]; omega
        have e9 : IntKind.wrap IntKind.u64 (2 * q + 1) = 2 * q + 1 := by rw [IntKind.wrap_u64]; omega
        rw [e8, e9, ei]
        exact ih (2 * q + 1) (2 * r + A % 2 - b) (by omega) (by rw [h2q1]; omega) (by omega) (by omega) (by omega)
      · rw [decide_eq_false hg]
        rintro r15 rfl
        rw [ei]
        exact ih (2 * q) (2 * r + A % 2) (by omega) (by rw [h2q]; omega) (by omega) (by omega) (by omega)
theorem t20 (a b : Int) (ha : 0 ≤ a ∧ a < 18446744073709551616) (hb : 0 < b ∧ b < 18446744073709551616) : Trip Try.prog 20 [.d (.int .u64 a), .d (.int .u64 b)] [] [.d (.int .u64 (a / b)), .d (.int .u64 (a % b))] [] := by
  refine trip_ev 1000 (by kernel_rfl) (by kernel_rfl) (by kernel_rfl) (by kernel_rfl) (e20 _ _ a b _ _) ?_
  have h64 : a / 2 ^ 64 = b * 0 + 0 := by
    rw [show (2 : Int) ^ 64 = 18446744073709551616 from rfl]; omega
  exact loop20 a b ha hb 64 0 0 (Nat.le_refl _) h64 (Int.le_refl _) (Int.le_refl _) hb.1
/-- a number's size -/
def szI (a : Int) : Int := if a < 0 then -a else a
theorem t8 (a : Int) (h : -9223372036854775808 ≤ a ∧ a ≤ 9223372036854775807) : Trip Try.prog 8 [.d (.int .i64 a)] [] [.d (.int .u64 (szI a))] [] := by
  refine trip_ev 1000 (by kernel_rfl) (by kernel_rfl) (by kernel_rfl) (by kernel_rfl) (e8 _ _ a _ _) ?_
  rintro r0 rfl
  by_cases h0 : a < 0
  · rw [decide_eq_true h0]
    rintro r1 rfl r2 rfl r3 rfl r4 rfl
    refine ⟨?_, rfl⟩
    rw [show IntKind.wrap IntKind.u64 (IntKind.wrap IntKind.u64 (IntKind.wrap IntKind.i64 (0 - IntKind.wrap IntKind.i64 (a + 1))) + 1) = szI a by rw [IntKind.wrap_u64, IntKind.wrap_u64, wi_eq, wi_eq]; simp only [szI, h0, if_true]; omega]
  · rw [decide_eq_false h0]
    rintro r5 rfl
    refine ⟨?_, rfl⟩
    rw [show IntKind.wrap IntKind.u64 a = szI a by rw [IntKind.wrap_u64]; simp only [szI, h0, if_false]; omega]
abbrev in64 (a : Int) : Prop := -9223372036854775808 ≤ a ∧ a ≤ 9223372036854775807
theorem szI_nat (a : Int) : szI a = (a.natAbs : Int) := by unfold szI; split <;> omega
theorem tdiv_sz (a b : Int) : a.tdiv b = if (decide (a < 0) == decide (b < 0)) = true then szI a / szI b else -(szI a / szI b) := by
  unfold szI
  by_cases ha : a < 0 <;> by_cases hb : b < 0
  · simp only [ha, hb, if_true, decide_true, beq_self_eq_true]
    rw [← Int.tdiv_eq_ediv_of_nonneg (by omega), Int.neg_tdiv_neg]
  · simp only [ha, hb, if_true, if_false, decide_true, decide_false, show (true == false) = false from rfl, Bool.false_eq_true]
    rw [← Int.tdiv_eq_ediv_of_nonneg (by omega), Int.neg_tdiv, Int.neg_neg]
  · simp only [ha, hb, if_true, if_false, decide_true, decide_false, show (false == true) = false from rfl, Bool.false_eq_true]
    rw [← Int.tdiv_eq_ediv_of_nonneg (by omega), Int.tdiv_neg, Int.neg_neg]
  · simp only [ha, hb, if_false, decide_false, beq_self_eq_true, if_true]
    rw [← Int.tdiv_eq_ediv_of_nonneg (by omega)]
theorem tmod_sz (a b : Int) : a.tmod b = if a < 0 then -(szI a % szI b) else szI a % szI b := by
  unfold szI
  by_cases ha : a < 0 <;> by_cases hb : b < 0
  · simp only [ha, hb, if_true]
    rw [← Int.tmod_eq_emod_of_nonneg (by omega), Int.tmod_neg, Int.neg_tmod, Int.neg_neg]
  · simp only [ha, hb, if_true, if_false]
    rw [← Int.tmod_eq_emod_of_nonneg (by omega), Int.neg_tmod, Int.neg_neg]
  · simp only [ha, hb, if_true, if_false]
    rw [← Int.tmod_eq_emod_of_nonneg (by omega), Int.tmod_neg]
  · simp only [ha, hb, if_false]
    rw [← Int.tmod_eq_emod_of_nonneg (by omega)]
theorem wi_wu (n : Int) : IntKind.wrap IntKind.i64 (IntKind.wrap IntKind.u64 n) = IntKind.wrap IntKind.i64 n := by rw [IntKind.wrap_u64, wi_eq, wi_eq]; omega
theorem wi_wu_neg (n : Int) : IntKind.wrap IntKind.i64 (IntKind.wrap IntKind.u64 (0 - n)) = IntKind.wrap IntKind.i64 (-n) := by rw [wi_wu]; congr 1; omega
theorem t19 (a b : Int) (ha : in64 a) (hb : in64 b) (h0 : b ≠ 0) : Trip Try.prog 19 [.d (.int .i64 a), .d (.int .i64 b)] [] [.d (.int .i64 (IntKind.wrap IntKind.i64 (a.tdiv b))), .d (.int .i64 (a.tmod b))] [] := by
  have sa : 0 ≤ szI a ∧ szI a ≤ 9223372036854775808 := by unfold szI; split <;> omega
  have sb : 0 < szI b ∧ szI b ≤ 9223372036854775808 := by unfold szI; split <;> omega
  refine trip_ev 1000 (by kernel_rfl) (by kernel_rfl) (by kernel_rfl) (by kernel_rfl) (e19 _ _ a b _ _) ⟨_, ⟨[], t8 a ha⟩, _, ⟨[], t8 b hb⟩, _, _, ⟨[], t20 (szI a) (szI b) (by omega) (by omega)⟩, ?_⟩
  have hm : 0 ≤ szI a % szI b ∧ szI a % szI b < szI b := ⟨Int.emod_nonneg _ (by omega), Int.emod_lt_of_pos _ sb.1⟩
  have em : IntKind.wrap IntKind.i64 (szI a % szI b) = szI a % szI b := by rw [wi_eq]; omega
  have emn : IntKind.wrap IntKind.i64 (-(szI a % szI b)) = -(szI a % szI b) := by rw [wi_eq]; omega
  rintro r4 rfl r5 rfl r6 rfl r7 rfl r8 rfl
  rw [tdiv_sz, tmod_sz]
  cases hs : decide (a < 0) == decide (b < 0) with
  | false =>
    rintro r9 rfl r10 rfl r11 rfl
    rw [wi_wu_neg]
    by_cases hn : a < 0
    · rw [decide_eq_true hn]
      rintro r12 rfl r13 rfl
      rw [wi_wu_neg, emn]
      simp only [hn, if_true, Bool.false_eq_true, if_false]
      exact ⟨trivial, trivial⟩
    · rw [decide_eq_false hn, em]
      simp only [hn, Bool.false_eq_true, if_false]
      exact ⟨trivial, trivial⟩
  | true =>
    rintro r14 rfl
    by_cases hn : a < 0
    · rw [decide_eq_true hn]
      rintro r15 rfl r16 rfl
      rw [wi_wu_neg, emn]
      simp only [hn, if_true]
      exact ⟨trivial, trivial⟩
    · rw [decide_eq_false hn, em]
      simp only [hn, if_true, if_false]
      exact ⟨trivial, trivial⟩

/-- what an operator of one operand answers -/
def oneF (k a : Int) : Int := if k = 1 then IntKind.wrap IntKind.i64 (-a) else if k = 2 then b01 (a == 0) else 0
theorem t11 (k a : Int) : Trip Try.prog 11 [.d (.int .i64 k), .d (.int .i64 a)] [] [.d (.int .i64 (oneF k a)), .d (.int .i64 0)] [] := by
  refine trip_ev 1000 (by kernel_rfl) (by kernel_rfl) (by kernel_rfl) (by kernel_rfl) (e11 _ _ k a _ _) ?_
  rintro r0 rfl
  by_cases h1 : k = 1
  · subst h1; rintro r1 rfl
    exact ⟨by simp [oneF], rfl⟩
  rw [show (k == 1) = false by simpa using h1]
  rintro r2 rfl
  by_cases h2 : k = 2
  · subst h2; rintro r3 rfl
    exact ⟨_, ⟨[], t14 _⟩, rfl, rfl⟩
  rw [show (k == 2) = false by simpa using h2]
  exact ⟨by simp [oneF, h1, h2], rfl⟩
theorem t12 (k a : Int) : Trip Try.prog 12 [.d (.int .i64 k), .d (.int .i64 a)] [] [.d (.int .i64 (oneF k a))] [] := by
  refine trip_ev 1000 (by kernel_rfl) (by kernel_rfl) (by kernel_rfl) (by kernel_rfl) (e12 _ _ k a _ _) ?_
  rintro r0 rfl
  by_cases h1 : k = 1
  · subst h1; rintro r1 rfl r2 rfl r3 rfl
    refine ⟨?_, rfl⟩
    rw [show IntKind.wrap IntKind.i64 (IntKind.wrap IntKind.u64 (0 - IntKind.wrap IntKind.u64 a)) = oneF 1 a by
      rw [wi_wu, IntKind.wrap_u64]
      simp only [oneF, if_true]
      rw [wi_eq, wi_eq]; omega]
  rw [show (k == 1) = false by simpa using h1]
  rintro r2 rfl
  by_cases h2 : k = 2
  · subst h2; rintro r3 rfl
    exact ⟨_, ⟨[], t17 _⟩, rfl, rfl⟩
  rw [show (k == 2) = false by simpa using h2]
  exact ⟨by simp [oneF, h1, h2], rfl⟩

/-- what an operator of two operands answers -/
def twoF (k a b : Int) : Int × Int :=
  if k = 1 then (b01 (!(a == 0) || !(b == 0)), 0) else if k = 2 then (b01 (!(a == 0) && !(b == 0)), 0)
  else if 3 ≤ k ∧ k ≤ 8 then (b01 (cmpF k a b), 0)
  else if k = 9 then (IntKind.wrap IntKind.i64 (a + b), 0) else if k = 10 then (IntKind.wrap IntKind.i64 (a - b), 0) else if k = 11 then (IntKind.wrap IntKind.i64 (a * b), 0)
  else if k = 12 then (if b = 0 then (0, 1) else (IntKind.wrap IntKind.i64 (a.tdiv b), 0)) else if k = 13 then (if b = 0 then (0, 1) else (a.tmod b, 0)) else (0, 0)
theorem t16 (k a b : Int) (h1 : 9 ≤ k) (h2 : k ≤ 13) : Trip Try.prog 16 [.d (.int .i64 k), .d (.int .i64 a), .d (.int .i64 b)] [] [.d (.int .i64 (twoF k a b).1), .d (.int .i64 (twoF k a b).2)] [] := by
  refine trip_ev 1000 (by kernel_rfl) (by kernel_rfl) (by kernel_rfl) (by kernel_rfl) (e16 _ _ k a b _ _) ?_
  rintro r0 rfl
  by_cases h9 : k = 9
  · subst h9; rintro r1 rfl; exact ⟨by simp [twoF], rfl⟩
  rw [show (k == 9) = false by simpa using h9]
  rintro r0 rfl
  by_cases h10 : k = 10
  · subst h10; rintro r1 rfl; exact ⟨by simp [twoF], rfl⟩
  rw [show (k == 10) = false by simpa using h10]
  rintro r0 rfl
  by_cases h11 : k = 11
  · subst h11; rintro r1 rfl; exact ⟨by simp [twoF], rfl⟩
  rw [show (k == 11) = false by simpa using h11]
  rintro r6 rfl
  by_cases hb : b = 0
  · subst hb
    rcases (show k = 12 ∨ k = 13 by omega) with rfl | rfl <;> exact ⟨by simp [twoF], rfl⟩
  rw [show (b == 0) = false by simpa using hb]
  rintro r7 rfl
  rcases (show k = 12 ∨ k = 13 by omega) with rfl | rfl
  · refine ⟨hb, ?_⟩; rintro r8 rfl; exact ⟨by simp [twoF, hb], rfl⟩
  · refine ⟨hb, ?_⟩; rintro r8 rfl; exact ⟨by simp [twoF, hb], rfl⟩
theorem t7 (k a b : Int) : Trip Try.prog 7 [.d (.int .i64 k), .d (.int .i64 a), .d (.int .i64 b)] [] [.d (.int .i64 (twoF k a b).1), .d (.int .i64 (twoF k a b).2)] [] := by
  have go := fun n => trip_ev 1000 (by kernel_rfl) (by kernel_rfl) (by kernel_rfl) (by kernel_rfl) (e7 (Trip Try.prog) (Ok (cxOf Try.prog (Trip Try.prog) 7 Try.f7 ({ pur := [13, 14, 15, 16] } : Hn) [.d (.int .i64 (twoF k a b).1), .d (.int .i64 (twoF k a b).2)] [])) k a b [.d (.int .i64 (twoF k a b).1), .d (.int .i64 (twoF k a b).2)] []) n
  apply go
  by_cases h1 : k = 1
  · subst h1
    refine ⟨_, ⟨[], t13a 1 (.inl rfl)⟩, ?_⟩
    rintro r1 rfl r2 rfl r3 rfl
    by_cases ha : a = 0
    · subst ha
      rintro r5 rfl
      exact ⟨_, ⟨[], t14 _⟩, rfl, rfl⟩
    · rw [show (a == 0) = false by simpa using ha]
      refine ⟨_, ⟨[], t14 _⟩, ?_, rfl⟩
      rw [show twoF 1 a b = (b01 (!(a == 0) || !(b == 0)), 0) from rfl, show (a == 0) = false by simpa using ha]
      rfl
  by_cases h2 : k = 2
  · subst h2
    refine ⟨_, ⟨[], t13a 2 (.inr rfl)⟩, ?_⟩
    rintro r1 rfl r2 rfl r3 rfl
    by_cases ha : a = 0
    · subst ha
      exact ⟨_, ⟨[], t14 _⟩, by simp [twoF], rfl⟩
    · rw [show (a == 0) = false by simpa using ha]
      rintro r5 rfl
      refine ⟨_, ⟨[], t14 _⟩, ?_, rfl⟩
      rw [show twoF 2 a b = (b01 (!(a == 0) && !(b == 0)), 0) from rfl, show (a == 0) = false by simpa using ha]
      rfl
  by_cases h3 : 3 ≤ k ∧ k ≤ 8
  · refine ⟨_, ⟨[], t13 k h3.1 h3.2⟩, ?_⟩
    rintro r1 rfl r2 rfl
    exact ⟨_, ⟨[], t15 k a b⟩, _, ⟨[], t14 _⟩, by simp [twoF, h1, h2, h3], rfl⟩
  by_cases h4 : 9 ≤ k ∧ k ≤ 13
  · refine ⟨_, ⟨[], t13c k h4.1 h4.2⟩, ?_⟩
    rintro r1 rfl r2 rfl r3 rfl
    exact ⟨_, _, ⟨[], t16 k a b h4.1 h4.2⟩, rfl, rfl⟩
  · refine ⟨_, ⟨[], t13d k (by omega)⟩, ?_⟩
    rintro r1 rfl r2 rfl r3 rfl
    exact ⟨by simp [twoF, h1, h2, h3, show ¬ k = 9 by omega, show ¬ k = 10 by omega, show ¬ k = 11 by omega, show ¬ k = 12 by omega, show ¬ k = 13 by omega], rfl⟩
theorem bb (b : Bool) : (b == true) = b := by cases b <;> rfl
theorem bf (b : Bool) : (b == false) = !b := by cases b <;> rfl
theorem wadd (a b : Int) : IntKind.wrap IntKind.i64 (IntKind.wrap IntKind.u64 (IntKind.wrap IntKind.u64 a + IntKind.wrap IntKind.u64 b)) = IntKind.wrap IntKind.i64 (a + b) := by
  rw [wi_wu, IntKind.wrap_u64, IntKind.wrap_u64, wi_eq, wi_eq]; omega
theorem wsub (a b : Int) : IntKind.wrap IntKind.i64 (IntKind.wrap IntKind.u64 (IntKind.wrap IntKind.u64 a - IntKind.wrap IntKind.u64 b)) = IntKind.wrap IntKind.i64 (a - b) := by
  rw [wi_wu, IntKind.wrap_u64, IntKind.wrap_u64, wi_eq, wi_eq]; omega
theorem t10 (k a b : Int) (ha : in64 a) (hb : in64 b) : Trip Try.prog 10 [.d (.int .i64 k), .d (.int .i64 a), .d (.int .i64 b)] [] [.d (.int .i64 (twoF k a b).1), .d (.int .i64 (twoF k a b).2)] [] := by
  refine trip_ev 1000 (by kernel_rfl) (by kernel_rfl) (by kernel_rfl) (by kernel_rfl) (e10 _ _ k a b _ _) ?_
  rintro r0 rfl
  by_cases h1 : k = 1
  · subst h1
    rintro r1 rfl
    by_cases ha : a = 0
    · subst ha
      rintro r2 rfl
      exact ⟨_, ⟨[], t17 _⟩, rfl, rfl⟩
    · rw [show (a == 0) = false by simpa using ha]
      refine ⟨_, ⟨[], t17 _⟩, ?_, rfl⟩
      rw [show twoF 1 a b = (b01 (!(a == 0) || !(b == 0)), 0) from rfl, show (a == 0) = false by simpa using ha]
      rfl
  rw [show (k == 1) = false by simpa using h1]
  rintro r0 rfl
  by_cases h2 : k = 2
  · subst h2
    rintro r1 rfl
    by_cases ha : a = 0
    · subst ha
      exact ⟨_, ⟨[], t17 _⟩, rfl, rfl⟩
    · rw [show (a == 0) = false by simpa using ha]
      rintro r5 rfl
      refine ⟨_, ⟨[], t17 _⟩, ?_, rfl⟩
      rw [show twoF 2 a b = (b01 (!(a == 0) && !(b == 0)), 0) from rfl, show (a == 0) = false by simpa using ha]
      rfl
  rw [show (k == 2) = false by simpa using h2]
  rintro r0 rfl
  by_cases h3 : k = 3
  · subst h3
    rintro r1 rfl r2 rfl r3 rfl
    refine ⟨_, ⟨[], t17 _⟩, ?_, rfl⟩
    rw [show ((3 : Int) == 3) = true from rfl, bb]; rfl
  rw [show (k == 3) = false by simpa using h3]
  rintro r0 rfl
  by_cases h4 : k = 4
  · subst h4
    rintro r1 rfl r2 rfl r3 rfl
    refine ⟨_, ⟨[], t17 _⟩, ?_, rfl⟩
    rw [bf]; rfl
  rw [show (k == 4) = false by simpa using h4]
  rintro r0 rfl
  by_cases h5 : k = 5
  · subst h5
    rintro r1 rfl r2 rfl r3 rfl
    refine ⟨_, ⟨[], t17 _⟩, ?_, rfl⟩
    rw [show ((5 : Int) == 5) = true from rfl, bb]; rfl
  rw [show (k == 5) = false by simpa using h5]
  rintro r0 rfl
  by_cases h8 : k = 8
  · subst h8
    rintro r1 rfl r2 rfl r3 rfl
    refine ⟨_, ⟨[], t17 _⟩, ?_, rfl⟩
    rw [bf, show (twoF 8 a b) = (b01 (decide (a ≥ b)), 0) from rfl, show (!decide (a < b)) = decide (a ≥ b) by by_cases h : a < b <;> simp [h]; omega]
  rw [show (k == 8) = false by simpa using h8]
  rintro r0 rfl
  by_cases h7 : k = 7
  · subst h7
    rintro r1 rfl r2 rfl r3 rfl
    refine ⟨_, ⟨[], t17 _⟩, ?_, rfl⟩
    rw [show ((7 : Int) == 7) = true from rfl, bb]; rfl
  rw [show (k == 7) = false by simpa using h7]
  rintro r0 rfl
  by_cases h6 : k = 6
  · subst h6
    rintro r1 rfl r2 rfl r3 rfl
    refine ⟨_, ⟨[], t17 _⟩, ?_, rfl⟩
    rw [bf, show (twoF 6 a b) = (b01 (decide (a ≤ b)), 0) from rfl, show (!decide (a > b)) = decide (a ≤ b) by by_cases h : a > b <;> simp [h]; omega]
  rw [show (k == 6) = false by simpa using h6]
  rintro r0 rfl
  by_cases h9 : k = 9
  · subst h9
    rintro r1 rfl r2 rfl r3 rfl r4 rfl
    rw [wadd]
    exact ⟨rfl, rfl⟩
  rw [show (k == 9) = false by simpa using h9]
  rintro r0 rfl
  by_cases h10 : k = 10
  · subst h10
    rintro r1 rfl r2 rfl r3 rfl r4 rfl
    rw [wsub]
    exact ⟨rfl, rfl⟩
  rw [show (k == 10) = false by simpa using h10]
  rintro r0 rfl
  by_cases h11 : k = 11
  · subst h11
    exact ⟨_, ⟨[], t18 a b⟩, rfl, rfl⟩
  rw [show (k == 11) = false by simpa using h11]
  rintro r0 rfl
  by_cases h12 : k = 12
  · subst h12
    rintro r1 rfl
    by_cases h0 : b = 0
    · subst h0; exact ⟨rfl, rfl⟩
    · rw [show (b == 0) = false by simpa using h0]
      refine ⟨_, _, ⟨[], t19 a b ha hb h0⟩, ?_⟩
      rintro r2 rfl
      exact ⟨by simp [twoF, h0], rfl⟩
  rw [show (k == 12) = false by simpa using h12]
  rintro r0 rfl
  by_cases h13 : k = 13
  · subst h13
    rintro r1 rfl
    by_cases h0 : b = 0
    · subst h0; exact ⟨rfl, rfl⟩
    · rw [show (b == 0) = false by simpa using h0]
      refine ⟨_, _, ⟨[], t19 a b ha hb h0⟩, ?_⟩
      rintro r2 rfl
      exact ⟨by simp [twoF, h0], rfl⟩
  rw [show (k == 13) = false by simpa using h13]
  exact ⟨by simp [twoF, h1, h2, h9, h10, h11, h12, h13, show ¬ (3 ≤ k ∧ k ≤ 8) by omega], rfl⟩
theorem t9b : Trip Try.prog 9 [.d (.int .i64 9), .d (.int .i64 1), .d (.int .i64 2)] [] [.d (.int .i64 3)] [] :=
  trip_ev 1000 (by kernel_rfl) (by kernel_rfl) (by kernel_rfl) (by kernel_rfl) (e9 _ _ 9 1 2 _ _) ⟨3, 0, ⟨[], t7 9 1 2⟩, rfl, rfl⟩
theorem t5 (k a b : Int) (ha : in64 a) (hb : in64 b) : Trip Try.prog 5 [.d (.int .i64 k), .d (.int .i64 a), .d (.int .i64 b)] [] [.d (.bool true)] [] := by
  refine trip_ev 1000 (by kernel_rfl) (by kernel_rfl) (by kernel_rfl) (by kernel_rfl) (e5 _ _ k a b _ _) ⟨_, _, ⟨[], t7 k a b⟩, _, _, ⟨[], t10 k a b ha hb⟩, _, _, ⟨[], t11 k a⟩, ?_⟩
  rintro r6 rfl
  rw [beq_self_eq_true]
  rintro r7 rfl
  rw [beq_self_eq_true]
  refine ⟨_, ⟨[], t12 k a⟩, ?_⟩
  rintro r9 rfl
  rw [beq_self_eq_true]
  rintro r10 rfl
  refine ⟨_, ⟨[], t9b⟩, ?_⟩
  rintro r12 rfl
  exact ⟨rfl, rfl⟩
end Go.Proofs.Ytdbjngmmmfpgmaa.Ev
