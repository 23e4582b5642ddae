/- Arguments, out of data. -/
import Derived.Test.YtpdhlbejdagkmaaWf
import Derived.Test.YtpdhlbejdagkmaaProg
import Derived.KernelRfl
namespace Go.Proofs.Ytpdhlbejdagkmaa.M
open Go Nt Go.Proofs
set_option linter.unusedVariables false
set_option maxRecDepth 100000
theorem Token.ofTy (n : Nat) : ∀ c, HasTy Try.prog n 38 c → ∃ x : Token, mkD Try.prog 38 c = x.toD ∧ Token.Wf x := by
  induction n using Nat.strongRecOn with
  | _ n ih =>
    intro c h
    obtain ⟨m, hm, h⟩ := h.struct Try.underlying38
    obtain ⟨c0, r0, rfl, h0, c1, r1, rfl, h1, c2, r2, rfl, h2, c3, r3, rfl, h3, c4, r4, rfl, h4, rfl⟩ := h
    obtain ⟨x0, rfl, w0⟩ := h0.int Try.underlying3
    obtain ⟨x1, rfl, w1⟩ := h1.int Try.underlying2
    obtain ⟨x2, rfl, w2⟩ := h2.str Try.underlying9
    obtain ⟨x3, rfl, w3⟩ := h3.int Try.underlying3
    obtain ⟨x4, rfl, w4⟩ := h4.int Try.underlying3
    refine ⟨⟨x0, x1, x2, x3, x4⟩, ?_, .mk _ w0 w1 w2 w3 w4⟩
    rw [mkD_agg (by kernel_rfl), Token.toD_eq]
    simp only [List.cons_append, List.nil_append, List.append_nil]
end Go.Proofs.Ytpdhlbejdagkmaa.M
