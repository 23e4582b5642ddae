import Derived.Test.YtnbcacfljnooeaaWf
import Derived.Test.YtnbcacfljnooeaaProg
import Derived.KernelRfl
namespace Go.Proofs.Ytnbcacfljnooeaa.M
open Go Nt Go.Proofs
set_option linter.unusedVariables false
set_option maxRecDepth 100000
theorem zA.ofTy (n : Nat) : ∀ c, HasTy Try.prog n 24 c → ∃ x : zA, mkD Try.prog 24 c = x.toD ∧ zA.Wf x := by
  induction n using Nat.strongRecOn with
  | _ n ih =>
    intro c h
    obtain ⟨m, hm, h⟩ := h.struct Try.underlying24
    obtain ⟨c0, r0, rfl, h0, c1, r1, rfl, h1, c2, r2, rfl, h2, c3, r3, rfl, h3, c4, r4, rfl, h4, c5, r5, rfl, h5, rfl⟩ := h
    obtain ⟨x0, rfl, w0⟩ := h0.int Try.underlying3
    obtain ⟨x1, rfl, w1⟩ := h1.int Try.underlying2
    obtain ⟨x2, rfl, w2⟩ := h2.str Try.underlying9
    obtain ⟨m3, hm3, s3, rfl, l3, a3⟩ := h3.sl Try.underlying22
    obtain ⟨x3, e3, q3, v3⟩ := z6i (f := mkD Try.prog 24) (g := zA.toD) (W := (fun x => zA.Wf x)) (l := s3) (fun c hc => (ih m3 (by omega) c (a3 c hc)))
    have w3 : x3.length ≤ 9223372036854775807 ∧ ∀ x ∈ x3, zA.Wf x := ⟨by omega, v3⟩
    obtain ⟨x4, rfl, w4⟩ := h4.int Try.underlying3
    obtain ⟨x5, rfl, w5⟩ := h5.int Try.underlying3
    refine ⟨⟨x0, x1, x2, x3, x4, x5⟩, ?_, .mk _ w0 w1 w2 w3.1 w3.2 w4 w5⟩
    rw [z8T (by kernel_rfl), zA.toD_eq]
    simp only [List.cons_append, List.nil_append, List.append_nil, e3]
end Go.Proofs.Ytnbcacfljnooeaa.M

