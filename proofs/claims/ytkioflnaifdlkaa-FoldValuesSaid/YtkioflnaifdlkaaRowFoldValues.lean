/- FoldValues: whatever the input, the law is true. No condition. -/
import Derived.Test.YtkioflnaifdlkaaRows
import Derived.Test.YtkioflnaifdlkaaSound
import Derived.Test.YtkioflnaifdlkaaArgs
import Derived.Test.YtkioflnaifdlkaaPureFoldValues
namespace Go.Proofs.Ytkioflnaifdlkaa.foldValues
open Go Nt Go.Proofs Go.Proofs.Ytkioflnaifdlkaa.M
set_option linter.unusedVariables false
set_option maxRecDepth 100000
theorem own : ownKnob Try.prog.godebug = none := by kernel_rfl
theorem main : ∀ xs, ArgsTy Try.checked.prog Try.f3.params.toList xs → ∃ h', Trip Try.checked.prog 3 (xs.map .d) [] [.d (.bool true)] h' := by
  intro xs h
  have a0 : ArgsTy Try.prog [24] xs := by rw [Try.params3] at h; exact h
  clear h
  obtain ⟨y0, r0, rfl, ⟨n0, c0, g0, rfl⟩, a1⟩ := args_cons a0
  obtain ⟨x0, e0, w0⟩ := (fun m c h => Term.ofTy m c h) n0 c0 g0
  obtain rfl := args_nil a1
  have hr := foldValuesLaw x0 w0
  have := T_law27FoldValues x0 _ hr
  simp only [List.map_cons, List.map_nil, e0, Term.toD_eq]
  exact ⟨_, this⟩
theorem lifted (os : Os) (started : os.Started) (H : Type) (enc : TypeId × Value → H) :
    ReturnsInHanded {} Try.checked os 3 .any (Rows.foldValuesSpec.pre6 enc Try.prog Try.f3 Rows.foldValuesRow.domain false) (Rows.foldValuesSpec.post enc Try.prog Try.f3 false true false false) :=
  law_lifted (C := Try.checked) [2, 3, 9, 22, 24] (by kernel_rfl) own started (by kernel_rfl) Try.func3
    (ChangeSpec.witness6 (enc := enc) (C := Try.checked) false ⟨#[], #[(.agg #[(.int .i64 0), (.int .i64 0), (.string ⟨#[]⟩), (.slice none 0 0), (.int .i64 0), (.int .i64 0)])], []⟩ 8 (by kernel_rfl) (by kernel_rfl) (by kernel_rfl) (by kernel_rfl))
    (by kernel_rfl) (by kernel_rfl) rfl Try.underlying4 rfl
    (fun ds hd => by
      have hd : ds.length = 1 := hd
      match ds, hd with
      | [d0], _ => exact ⟨rfl, rfl, rfl⟩)
    main
theorem over : Rows.foldValuesRow.holds Try.pinned (OpenSpec.ofChange Rows.foldValuesSpec) :=
  OpenClaim.holds_of_wide 3 Try.f3 rfl rfl rfl rfl rfl rfl rfl ⟨rfl, rfl, rfl, rfl, rfl⟩ rfl rfl rfl rfl rfl (by kernel_rfl) Try.func3 (by kernel_rfl)
    (of_decide_eq_true (by kernel_rfl)) (by unfold Func.isWrapper; first | (rw [if_pos (by decide +kernel)]; kernel_rfl) | (rw [if_neg (by decide +kernel)]; exact ⟨rfl, rfl⟩))
    (fun os started H enc _ => lifted os started H enc)
theorem proved : Rows.FoldValuesSaid := over
end Go.Proofs.Ytkioflnaifdlkaa.foldValues
namespace Go.Proofs.Ytkioflnaifdlkaa
/-- The row, under a short name, for the claim. -/
theorem foldValues_holds : Rows.FoldValuesSaid := foldValues.proved
#print axioms foldValues_holds
end Go.Proofs.Ytkioflnaifdlkaa
