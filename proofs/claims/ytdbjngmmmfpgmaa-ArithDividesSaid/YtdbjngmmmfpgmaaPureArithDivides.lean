/- Any int is its quotient by any int but 0, times that one, plus what is left; what is left is smaller and has the sign; by 0 both calls tell the trap. No condition. -/
import Derived.Test.YtdbjngmmmfpgmaaPArithDividesx1
import Derived.Test.YtdbjngmmmfpgmaaNum
namespace Go.Proofs.Ytdbjngmmmfpgmaa.Pure
open Go.RowKit Go.Proofs.Ytdbjngmmmfpgmaa.PArithDivides Go.Proofs.YtdbjngmmmfpgmaaW.PrintWords Go.Proofs.YtdbjngmmmfpgmaaW.PrintLast

namespace Divides
theorem div_f (k : Nat) (a b : Int) : arith_Two.f (k + 3) 12 a b = some (if b = 0 then (0, 1) else (wrap64 (Int.tdiv a b), 0)) := by
  by_cases h : b = 0 <;> simp [arith_Two.f, arith_class.f, arith_class.j0, arith_class.j1, arith_reckon.f, h]
theorem rem_f (k : Nat) (a b : Int) : arith_Two.f (k + 3) 13 a b = some (if b = 0 then (0, 1) else (Int.tmod a b, 0)) := by
  by_cases h : b = 0 <;> simp [arith_Two.f, arith_class.f, arith_class.j0, arith_class.j1, arith_reckon.f, h]
theorem sub_f (k : Nat) (a b : Int) : notarylaw20_two.f (k + 3) 10 a b = some (wrap64 (a - b)) := by
  simp [notarylaw20_two.f, arith_Two.f, arith_class.f, arith_class.j0, arith_class.j1, arith_reckon.f]
theorem size_f (x : Int) (h : -9223372036854775808 ≤ x ∧ x ≤ 9223372036854775807) : notaryref20_Size.f x = some (x.natAbs : Int) := by
  unfold notaryref20_Size.f
  simp only [IntKind.wrap_u64, wrap64]
  split <;> (congr 1; omega)
end Divides

open Divides in
theorem ArithDivides : notarylaw20_ArithDivides.Pure := by
  intro a b ha hb
  have ha := Num.wf64 ha
  have hb := Num.wf64 hb
  refine ⟨0 + 3, ?_⟩
  unfold notarylaw20_ArithDivides.f
  rw [div_f, rem_f]
  simp only [Option.bind_some]
  by_cases h : b = 0
  · simp [h]
  · simp only [if_neg h, if_true, sub_f, Option.bind_some]
    have hn : (Int.tmod a b).natAbs = a.natAbs % b.natAbs := Int.natAbs_tmod a b
    have hlt : (Int.tmod a b).natAbs < b.natAbs := by rw [hn]; exact Nat.mod_lt _ (by omega)
    have e1 : wrap64 (wrap64 (wrap64 (a.tdiv b) * b) + a.tmod b) = a := by
      rw [Num.add_l, ← Num.add_l (wrap64 (a.tdiv b) * b), Num.mul_l, Num.add_l, Int.add_comm, Int.mul_comm, Int.tmod_add_mul_tdiv]
      exact Num.wrap_id ha
    rw [if_pos e1, size_f _ (by omega), size_f _ hb]
    simp only [Option.bind_some]
    rw [if_pos (by omega)]
    have e2 : wrap64 2 = 2 := by unfold wrap64; omega
    by_cases hz : Int.tmod a b = 0
    · simp [hz, e2]
    · rw [if_neg hz]
      have hs : (decide (a.tmod b < 0) == decide (a < 0)) = true := by
        by_cases h0 : a < 0
        · have := Int.tmod_nonneg b (show 0 ≤ -a by omega)
          rw [Int.neg_tmod] at this
          have : a.tmod b < 0 := by omega
          simp [h0, this]
        · have := Int.tmod_nonneg b (show 0 ≤ a by omega)
          have h1 : ¬ a.tmod b < 0 := by omega
          simp [h0, h1]
      rw [if_pos hs]
      simp [e2]

end Go.Proofs.Ytdbjngmmmfpgmaa.Pure
