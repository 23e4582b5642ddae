/- Plain facts on 64-bit wrap-round: sums, products, quotients. No condition. -/
import Derived.RowKit
import Derived.IntWalk
namespace Go.Proofs.Ytdbjngmmmfpgmaa.Num
open Go.RowKit

theorem wf64 {a : Int} (h : (Lit.int .i64 a).wf = true) : -9223372036854775808 ≤ a ∧ a ≤ 9223372036854775807 := by
  simp only [Lit.wf, IntKind.min, IntKind.max, IntKind.signed, IntKind.bits, Bool.and_eq_true, decide_eq_true_eq, if_true] at h
  omega

theorem wrap_bmod (x : Int) : wrap64 x = Int.bmod x 18446744073709551616 := by
  unfold wrap64
  rw [Int.bmod_def]
  split <;> omega

theorem wrap_id {x : Int} (h : -9223372036854775808 ≤ x ∧ x ≤ 9223372036854775807) : wrap64 x = x := by
  unfold wrap64; omega

theorem wrap_range (x : Int) : -9223372036854775808 ≤ wrap64 x ∧ wrap64 x ≤ 9223372036854775807 := by
  unfold wrap64; omega

theorem add_l (x y : Int) : wrap64 (wrap64 x + y) = wrap64 (x + y) := by unfold wrap64; omega
theorem add_r (x y : Int) : wrap64 (x + wrap64 y) = wrap64 (x + y) := by unfold wrap64; omega
theorem mul_l (x y : Int) : wrap64 (wrap64 x * y) = wrap64 (x * y) := by
  simp only [wrap_bmod, Int.bmod_mul_bmod]
theorem mul_r (x y : Int) : wrap64 (x * wrap64 y) = wrap64 (x * y) := by
  rw [Int.mul_comm, mul_l, Int.mul_comm]

end Go.Proofs.Ytdbjngmmmfpgmaa.Num
