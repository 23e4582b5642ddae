/- FlowLoops: whatever the input, the law is true. No condition. -/
import Derived.Test.YtkioflnaifdlkaaRows
import Derived.Test.YtkioflnaifdlkaaSound
import Derived.Test.YtkioflnaifdlkaaArgs
import Derived.Test.YtkioflnaifdlkaaPureFlowLoops
namespace Go.Proofs.Ytkioflnaifdlkaa.flowLoops
open Go Nt Go.Proofs Go.Proofs.Ytkioflnaifdlkaa.M
set_option linter.unusedVariables false
set_option maxRecDepth 100000
theorem own : ownKnob Try.prog.godebug = none := by kernel_rfl
theorem main : ∀ xs, ArgsTy Try.checked.prog Try.f4.params.toList xs → ∃ h', Trip Try.checked.prog 4 (xs.map .d) [] [.d (.bool true)] h' := by
  intro xs h
  have a0 : ArgsTy Try.prog [24] xs := by rw [Try.params4] at h; exact h
  clear h
  obtain ⟨y0, r0, rfl, ⟨n0, c0, g0, rfl⟩, a1⟩ := args_cons a0
  obtain ⟨x0, e0, w0⟩ := (fun m c h => Term.ofTy m c h) n0 c0 g0
  obtain rfl := args_nil a1
  have hr := flowLoopsLaw x0 w0
  have := T_law28FlowLoops x0 _ hr
  simp only [List.map_cons, List.map_nil, e0, Term.toD_eq]
  exact ⟨_, this⟩
theorem lifted (os : Os) (started : os.Started) (H : Type) (enc : TypeId × Value → H) :
    ReturnsInHanded {} Try.checked os 4 .any (Rows.flowLoopsSpec.pre6 enc Try.prog Try.f4 Rows.flowLoopsRow.domain false) (Rows.flowLoopsSpec.post enc Try.prog Try.f4 false true false false) :=
  law_lifted (C := Try.checked) [2, 3, 9, 22, 24] (by kernel_rfl) own started (by kernel_rfl) Try.func4
    (ChangeSpec.witness6 (enc := enc) (C := Try.checked) false ⟨#[], #[(.agg #[(.int .i64 0), (.int .i64 0), (.string ⟨#[]⟩), (.slice none 0 0), (.int .i64 0), (.int .i64 0)])], []⟩ 8 (by kernel_rfl) (by kernel_rfl) (by kernel_rfl) (by kernel_rfl))
    (by kernel_rfl) (by kernel_rfl) rfl Try.underlying4 rfl
    (fun ds hd => by
      have hd : ds.length = 1 := hd
      match ds, hd with
      | [d0], _ => exact ⟨rfl, rfl, rfl⟩)
    main
theorem over : Rows.flowLoopsRow.holds Try.pinned (OpenSpec.ofChange Rows.flowLoopsSpec) :=
  OpenClaim.holds_of_wide 4 Try.f4 rfl rfl rfl rfl rfl rfl rfl ⟨rfl, rfl, rfl, rfl, rfl⟩ rfl rfl rfl rfl rfl (by kernel_rfl) Try.func4 (by kernel_rfl)
    (of_decide_eq_true (by kernel_rfl)) (by unfold Func.isWrapper; first | (rw [if_pos (by decide +kernel)]; kernel_rfl) | (rw [if_neg (by decide +kernel)]; exact ⟨rfl, rfl⟩))
    (fun os started H enc _ => lifted os started H enc)
theorem proved : Rows.FlowLoopsSaid := over
end Go.Proofs.Ytkioflnaifdlkaa.flowLoops
namespace Go.Proofs.Ytkioflnaifdlkaa
/-- The row, under a short name, for the claim. -/
theorem flowLoops_holds : Rows.FlowLoopsSaid := flowLoops.proved
#print axioms flowLoops_holds
end Go.Proofs.Ytkioflnaifdlkaa
