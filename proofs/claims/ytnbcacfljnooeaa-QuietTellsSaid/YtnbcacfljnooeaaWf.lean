import Derived.Test.YtnbcacfljnooeaaTy
import Derived.Test.YtnbcacfljnooeaaFwZ6
namespace Go.Proofs.Ytnbcacfljnooeaa.M
open Go Nt
set_option linter.unusedVariables false
inductive zA.Wf : zA → Prop
  | mk (y : zA) : (InK .i64 y.K) → (InK .i64 y.N) → (y.S.length ≤ 9223372036854775807) → (y.L.length ≤ 9223372036854775807) → (∀ x ∈ y.L, zA.Wf x) → (InK .i64 y.From) → (InK .i64 y.To) → zA.Wf y
theorem zA.Wf.L_ {y : zA} (h : zA.Wf y) : y.L.length ≤ 9223372036854775807 ∧ ∀ x ∈ y.L, zA.Wf x := by
  cases h; exact ⟨by assumption, by assumption⟩
end Go.Proofs.Ytnbcacfljnooeaa.M

