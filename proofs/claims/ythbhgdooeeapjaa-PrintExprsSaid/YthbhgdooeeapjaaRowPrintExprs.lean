import Derived.Test.YthbhgdooeeapjaaRows
import Derived.Test.YthbhgdooeeapjaaSound
import Derived.Test.YthbhgdooeeapjaaArgs
import Derived.Test.YthbhgdooeeapjaaPlain2
namespace Go.Proofs.Ythbhgdooeeapjaa.printExprs
open Go Nt Go.Proofs Go.Proofs.Ythbhgdooeeapjaa.M
set_option linter.unusedVariables false
set_option maxRecDepth 100000
theorem own : ownKnob Try.prog.godebug = none := by kernel_rfl
theorem main : ∀ xs, z5Q Try.checked.prog Try.f3.params.toList xs → ∃ h', Trip Try.checked.prog 3 (xs.map .d) [] [.d (.bool true)] h' := by
  intro xs h
  have a0 : z5Q Try.prog [9] xs := by rw [Try.params3] at h; exact h
  clear h
  obtain ⟨y0, r0, rfl, ⟨n0, c0, g0, rfl⟩, a1⟩ := y3Q a0
  obtain ⟨x0, e0, w0⟩ := (fun m c h => h.dStr Try.underlying9 (by kernel_rfl)) n0 c0 g0
  obtain rfl := z6w a1
  have hr := z9G x0 w0
  have := z5u x0 _ hr
  simp only [List.map_cons, List.map_nil, e0]
  exact ⟨_, this⟩
theorem lifted (os : Os) (started : os.Started) (H : Type) (enc : TypeId × Value → H) :
    ReturnsInHanded {} Try.checked os 3 .any (Rows.printExprsSpec.pre6 enc Try.prog Try.f3 Rows.printExprsRow.domain false) (Rows.printExprsSpec.post enc Try.prog Try.f3 false true false false) :=
  y3z (C := Try.checked) [9] (by kernel_rfl) own started (by kernel_rfl) Try.func3
    (ChangeSpec.witness6 (enc := enc) (C := Try.checked) false ⟨#[], #[(.string ⟨#[]⟩)], []⟩ 8 (by kernel_rfl) (by kernel_rfl) (by kernel_rfl) (by kernel_rfl))
    (by kernel_rfl) (by kernel_rfl) rfl Try.underlying4 rfl
    (fun ds hd => by
      have hd : ds.length = 1 := hd
      match ds, hd with
      | [d0], _ => exact ⟨rfl, rfl, rfl⟩)
    main
theorem over : Rows.printExprsRow.holds Try.pinned (OpenSpec.ofChange Rows.printExprsSpec) :=
  OpenClaim.holds_of_wide 3 Try.f3 rfl rfl rfl rfl rfl rfl rfl ⟨rfl, rfl, rfl, rfl, rfl⟩ rfl rfl rfl rfl rfl (by kernel_rfl) Try.func3 (by kernel_rfl)
    (of_decide_eq_true (by kernel_rfl)) (by unfold Func.isWrapper; first | (rw [if_pos (by decide +kernel)]; kernel_rfl) | (rw [if_neg (by decide +kernel)]; exact ⟨rfl, rfl⟩))
    (fun os started H enc _ => lifted os started H enc)
theorem proved : Rows.PrintExprsSaid := over
end Go.Proofs.Ythbhgdooeeapjaa.printExprs
namespace Go.Proofs.Ythbhgdooeeapjaa
theorem printExprs_holds : Rows.PrintExprsSaid := printExprs.proved
#print axioms printExprs_holds
end Go.Proofs.Ythbhgdooeeapjaa

