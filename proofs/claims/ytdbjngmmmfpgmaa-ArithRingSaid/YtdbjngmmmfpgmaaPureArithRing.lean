/- Of any three ints sums and products may be taken in any order and grouped in any way, a product goes over a sum, a difference is the sum with the opposite, and an opposite's opposite is the int itself. No condition. -/
import Derived.Test.YtdbjngmmmfpgmaaPArithRingx1
import Derived.Test.YtdbjngmmmfpgmaaNum
namespace Go.Proofs.Ytdbjngmmmfpgmaa.Pure
open Go.RowKit Go.Proofs.Ytdbjngmmmfpgmaa.PArithRing Go.Proofs.YtdbjngmmmfpgmaaW.PrintWords Go.Proofs.YtdbjngmmmfpgmaaW.PrintLast

namespace Ring
theorem add_f (k : Nat) (a b : Int) : notarylaw20_two.f (k + 3) 9 a b = some (wrap64 (a + b)) := by
  simp [notarylaw20_two.f, arith_Two.f, arith_class.f, arith_class.j0, arith_class.j1, arith_reckon.f]
theorem sub_f (k : Nat) (a b : Int) : notarylaw20_two.f (k + 3) 10 a b = some (wrap64 (a - b)) := by
  simp [notarylaw20_two.f, arith_Two.f, arith_class.f, arith_class.j0, arith_class.j1, arith_reckon.f]
theorem mul_f (k : Nat) (a b : Int) : notarylaw20_two.f (k + 3) 11 a b = some (wrap64 (a * b)) := by
  simp [notarylaw20_two.f, arith_Two.f, arith_class.f, arith_class.j0, arith_class.j1, arith_reckon.f]
theorem neg_f (a : Int) : arith_One.f 1 a = some (wrap64 (-a), 0) := by
  simp [arith_One.f]
end Ring

open Ring in
theorem ArithRing : notarylaw20_ArithRing.Pure := by
  intro a b c ha hb _
  have ha := Num.wf64 ha
  have hb := Num.wf64 hb
  refine ⟨0 + 3, ?_⟩
  unfold notarylaw20_ArithRing.f
  simp only [add_f, sub_f, mul_f, neg_f, Option.bind_some]
  have e1 : wrap64 (wrap64 (a + b) + c) = wrap64 (a + wrap64 (c + b)) := by
    rw [Num.add_l, Num.add_r]; congr 1; omega
  have e2 : wrap64 (wrap64 (a * b) * c) = wrap64 (a * wrap64 (c * b)) := by
    rw [Num.mul_l, Num.mul_r]; congr 1; rw [Int.mul_assoc, Int.mul_comm b c]
  have e3 : wrap64 (a * wrap64 (b + c)) = wrap64 (wrap64 (a * b) + wrap64 (a * c)) := by
    rw [Num.mul_r, Num.add_l, Num.add_r, Int.mul_add]
  have e4 : wrap64 (a - b) = wrap64 (a + wrap64 (-b)) := by
    rw [Num.add_r]; congr 1
  have e5 : wrap64 (-wrap64 (-b)) = b := by
    unfold wrap64; omega
  have e6 : wrap64 (a * 1) = a := by rw [Int.mul_one]; exact Num.wrap_id ha
  have e7 : wrap64 (a + 0) = a := by rw [Int.add_zero]; exact Num.wrap_id ha
  have e8 : wrap64 3 = 3 := by unfold wrap64; omega
  rw [if_pos e1, if_pos e2, if_pos e3, if_pos e4, if_pos e5, if_pos e6, if_pos e7]
  simp [e8]

end Go.Proofs.Ytdbjngmmmfpgmaa.Pure
