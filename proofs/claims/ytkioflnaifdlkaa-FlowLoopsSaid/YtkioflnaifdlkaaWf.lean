/- What arguments may be. -/
import Derived.Test.YtkioflnaifdlkaaTy
import Derived.Test.YtkioflnaifdlkaaFwZ6
namespace Go.Proofs.Ytkioflnaifdlkaa.M
open Go Nt
set_option linter.unusedVariables false
inductive Term.Wf : Term → Prop
  | mk (y : Term) : (InK .i64 y.K) → (InK .i64 y.N) → (y.S.length ≤ 9223372036854775807) → (y.L.length ≤ 9223372036854775807) → (∀ x ∈ y.L, Term.Wf x) → (InK .i64 y.From) → (InK .i64 y.To) → Term.Wf y
theorem Term.Wf.K_ {y : Term} (h : Term.Wf y) : InK .i64 y.K := by
  cases h with | mk _ h0 h1 h2 h3a h3b h4 h5 => exact h0
theorem Term.Wf.N_ {y : Term} (h : Term.Wf y) : InK .i64 y.N := by
  cases h with | mk _ h0 h1 h2 h3a h3b h4 h5 => exact h1
theorem Term.Wf.S_ {y : Term} (h : Term.Wf y) : y.S.length ≤ 9223372036854775807 := by
  cases h with | mk _ h0 h1 h2 h3a h3b h4 h5 => exact h2
theorem Term.Wf.L_ {y : Term} (h : Term.Wf y) : y.L.length ≤ 9223372036854775807 ∧ ∀ x ∈ y.L, Term.Wf x := by
  cases h with | mk _ h0 h1 h2 h3a h3b h4 h5 => exact ⟨h3a, h3b⟩
theorem Term.Wf.From_ {y : Term} (h : Term.Wf y) : InK .i64 y.From := by
  cases h with | mk _ h0 h1 h2 h3a h3b h4 h5 => exact h4
theorem Term.Wf.To_ {y : Term} (h : Term.Wf y) : InK .i64 y.To := by
  cases h with | mk _ h0 h1 h2 h3a h3b h4 h5 => exact h5
end Go.Proofs.Ytkioflnaifdlkaa.M
