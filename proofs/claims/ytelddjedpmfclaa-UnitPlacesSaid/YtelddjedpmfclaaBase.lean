/- Words and laws of plain lists, whole numbers and terms. -/
import Derived.Test.YtelddjedpmfclaaMod
import Derived.Test.YtelddjedpmfclaaWf
namespace Go.Proofs.Ytelddjedpmfclaa.M
open Go Nt
set_option linter.unusedVariables false
set_option linter.unusedSimpArgs false

theorem wi_id {n : Int} (h1 : -9223372036854775808 ≤ n) (h2 : n ≤ 9223372036854775807) : IntKind.wrap .i64 n = n := by rw [IntKind.wrap_i64]; omega
theorem i64_iff {n : Int} : InK .i64 n ↔ -9223372036854775808 ≤ n ∧ n ≤ 9223372036854775807 := by
  have h1 : IntKind.i64.min = -9223372036854775808 := by decide
  have h2 : IntKind.i64.max = 9223372036854775807 := by decide
  unfold InK; rw [h1, h2]
theorem idx_nat {α : Type} (l : List α) (n : Nat) : idx l (n : Int) = l[n]? := by unfold idx; rw [if_pos (by omega)]; rfl
theorem idx_lt {α : Type} {l : List α} {n : Nat} (h : n < l.length) : idx l (n : Int) = some l[n] := by rw [idx_nat]; exact List.getElem?_eq_getElem h
theorem idx_zero {α : Type} {l : List α} : idx l 0 = l[0]? := rfl
theorem some_bind {α β : Type} (x : α) (k : α → Option β) : (some x >>= k) = k x := rfl
theorem succ_cast (n : Nat) : ((n : Int) + 1) = ((n + 1 : Nat) : Int) := by omega
end Go.Proofs.Ytelddjedpmfclaa.M
