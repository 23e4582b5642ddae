/- Triples of the arithmetic functions that the orders row calls: what each returns, for all ints (the two-operand ones at registers 3 to 8). -/
import Derived.Test.YtdbjngmmmfpgmaaEv
namespace Go.Proofs.Ytdbjngmmmfpgmaa.Ev
open Go Nt Go.Proofs
set_option linter.unusedVariables false
set_option linter.unusedSimpArgs false

def b01 (b : Bool) : Int := if b then 1 else 0
theorem t14 (b : Bool) : Trip Try.prog 14 [.d (.bool b)] [] [.d (.int .i64 (b01 b))] [] :=
  trip_ev 1000 (by kernel_rfl) (by kernel_rfl) (by kernel_rfl) (by kernel_rfl) (e14 _ _ b _ _) (by cases b <;> simp [b01])
theorem t13 (k : Int) (h1 : 3 ≤ k) (h2 : k ≤ 8) : Trip Try.prog 13 [.d (.int .i64 k)] [] [.d (.int .i64 1)] [] := by
  refine trip_ev 1000 (by kernel_rfl) (by kernel_rfl) (by kernel_rfl) (by kernel_rfl) (e13 _ _ k _ _) ?_
  have a1 : (k == 1) = false := by simp; omega
  have a2 : (k == 2) = false := by simp; omega
  rintro r0 rfl
  rw [a1]
  rintro r1 rfl
  rw [a2]
  rintro r2 rfl
  rw [decide_eq_true (show k ≥ 3 from h1)]
  rintro r3 rfl
  rw [decide_eq_true h2]
  exact ⟨rfl, rfl⟩
def cmpF (k a b : Int) : Bool :=
  if k = 3 then a == b else if k = 4 then !(a == b) else if k = 5 then decide (a < b) else if k = 6 then decide (a ≤ b) else if k = 7 then decide (a > b) else decide (a ≥ b)
theorem t15 (k a b : Int) : Trip Try.prog 15 [.d (.int .i64 k), .d (.int .i64 a), .d (.int .i64 b)] [] [.d (.bool (cmpF k a b))] [] := by
  refine trip_ev 1000 (by kernel_rfl) (by kernel_rfl) (by kernel_rfl) (by kernel_rfl) (e15 _ _ k a b _ _) ?_
  rintro r0 rfl
  by_cases h3 : k = 3
  · subst h3; rintro r1 rfl; exact ⟨rfl, rfl⟩
  rw [show (k == 3) = false by simpa using h3]
  rintro r0 rfl
  by_cases h4 : k = 4
  · subst h4; rintro r1 rfl; exact ⟨rfl, rfl⟩
  rw [show (k == 4) = false by simpa using h4]
  rintro r0 rfl
  by_cases h5 : k = 5
  · subst h5; rintro r1 rfl; exact ⟨rfl, rfl⟩
  rw [show (k == 5) = false by simpa using h5]
  rintro r0 rfl
  by_cases h6 : k = 6
  · subst h6; rintro r1 rfl; exact ⟨rfl, rfl⟩
  rw [show (k == 6) = false by simpa using h6]
  rintro r0 rfl
  by_cases h7 : k = 7
  · subst h7; rintro r1 rfl; exact ⟨rfl, rfl⟩
  rw [show (k == 7) = false by simpa using h7]
  rintro r1 rfl
  simp [cmpF, h3, h4, h5, h6, h7]
theorem t9 (k a b : Int) (h1 : 3 ≤ k) (h2 : k ≤ 8) : Trip Try.prog 9 [.d (.int .i64 k), .d (.int .i64 a), .d (.int .i64 b)] [] [.d (.int .i64 (b01 (cmpF k a b)))] [] := by
  refine trip_ev 1000 (by kernel_rfl) (by kernel_rfl) (by kernel_rfl) (by kernel_rfl) (e9 _ _ k a b _ _) ⟨_, 0, ⟨[], ?_⟩, rfl, rfl⟩
  refine trip_ev 1000 (by kernel_rfl) (by kernel_rfl) (by kernel_rfl) (by kernel_rfl) (e7 _ _ k a b _ _) ⟨1, ⟨[], t13 k h1 h2⟩, ?_⟩
  rintro r1 rfl
  rintro r2 rfl
  exact ⟨_, ⟨[], t15 k a b⟩, _, ⟨[], t14 _⟩, rfl, rfl⟩
theorem w64 (n : Int) (h : -100 ≤ n ∧ n ≤ 100) : IntKind.wrap IntKind.i64 n = n := by rw [IntKind.wrap_i64]; omega
theorem t4 (a b : Int) : Trip Try.prog 4 [.d (.int .i64 a), .d (.int .i64 b)] [] [.d (.bool true)] [] := by
  refine trip_ev 1000 (by kernel_rfl) (by kernel_rfl) (by kernel_rfl) (by kernel_rfl) (e4 _ _ a b _ _)
    ⟨_, ⟨[], t9 5 a b (by decide) (by decide)⟩, _, ⟨[], t9 3 a b (by decide) (by decide)⟩, _, ⟨[], t9 7 a b (by decide) (by decide)⟩, ?_⟩
  have c3 : ∀ x y, cmpF 3 x y = (x == y) := fun _ _ => rfl
  have c4 : ∀ x y, cmpF 4 x y = !(x == y) := fun _ _ => rfl
  have c5 : ∀ x y, cmpF 5 x y = decide (x < y) := fun _ _ => rfl
  have c6 : ∀ x y, cmpF 6 x y = decide (x ≤ y) := fun _ _ => rfl
  have c7 : ∀ x y, cmpF 7 x y = decide (x > y) := fun _ _ => rfl
  have c8 : ∀ x y, cmpF 8 x y = decide (x ≥ y) := fun _ _ => rfl
  have hb : ∀ b, 0 ≤ b01 b ∧ b01 b ≤ 1 := fun b => by cases b <;> simp [b01]
  have g5 := hb (cmpF 5 a b)
  have g3 := hb (cmpF 3 a b)
  have g7 := hb (cmpF 7 a b)
  have s : b01 (cmpF 5 a b) + b01 (cmpF 3 a b) + b01 (cmpF 7 a b) = 1 := by
    rw [c3, c5, c7]
    rcases Int.lt_trichotomy a b with h | h | h
    · have h1 : ¬ b < a := by omega
      have h2 : ¬ a = b := by omega
      simp [b01, h, h1, h2]
    · subst h; simp [b01]
    · have h1 : ¬ a < b := by omega
      have h2 : ¬ a = b := by omega
      simp [b01, h, h1, h2]
  rintro r3 rfl r4 rfl r5 rfl
  rw [w64 (b01 (cmpF 5 a b) + b01 (cmpF 3 a b)) (by omega), w64 _ (by omega), s]
  rintro r6 rfl
  rw [decide_eq_false (show ¬ b01 (cmpF 5 a b) < 0 by omega)]
  rintro r7 rfl
  rw [decide_eq_false (show ¬ b01 (cmpF 3 a b) < 0 by omega)]
  rintro r8 rfl
  rw [decide_eq_false (show ¬ b01 (cmpF 7 a b) < 0 by omega)]
  refine ⟨_, ⟨[], t9 8 a b (by decide) (by decide)⟩, ?_⟩
  rintro r10 rfl r11 rfl
  rw [w64 _ (by omega), show (b01 (cmpF 8 a b) == 1 - b01 (cmpF 5 a b)) = true by rw [c8, c5]; by_cases h : a < b <;> simp [b01, h, Int.not_lt.1, Int.not_le.2]; all_goals omega]
  refine ⟨_, ⟨[], t9 4 a b (by decide) (by decide)⟩, ?_⟩
  rintro r13 rfl r14 rfl
  rw [w64 _ (by omega), show (b01 (cmpF 4 a b) == 1 - b01 (cmpF 3 a b)) = true by rw [c4, c3]; by_cases h : a = b <;> simp [b01, h]]
  refine ⟨_, ⟨[], t9 6 a b (by decide) (by decide)⟩, ?_⟩
  rintro r16 rfl r17 rfl
  rw [w64 _ (by omega), show (b01 (cmpF 6 a b) == 1 - b01 (cmpF 7 a b)) = true by rw [c6, c7]; by_cases h : b < a <;> simp [b01, h]; all_goals omega]
  refine ⟨_, ⟨[], t9 7 b a (by decide) (by decide)⟩, ?_⟩
  rintro r19 rfl
  rw [show (b01 (cmpF 7 b a) == b01 (cmpF 5 a b)) = true by rw [c7, c5]; simp]
  refine ⟨_, ⟨[], t9 8 b a (by decide) (by decide)⟩, _, ⟨[], t9 6 a b (by decide) (by decide)⟩, ?_⟩
  rintro r22 rfl
  rw [show (b01 (cmpF 8 b a) == b01 (cmpF 6 a b)) = true by rw [c8, c6]; simp]
  exact ⟨rfl, rfl⟩
end Go.Proofs.Ytdbjngmmmfpgmaa.Ev
