import Derived.Test.YthbhgdooeeapjaaRows
import Derived.Test.YthbhgdooeeapjaaSound
import Derived.Test.YthbhgdooeeapjaaArgs
import Derived.Test.YthbhgdooeeapjaaPlain2
namespace Go.Proofs.Ythbhgdooeeapjaa.printTexts
open Go Nt Go.Proofs Go.Proofs.Ythbhgdooeeapjaa.M
set_option linter.unusedVariables false
set_option maxRecDepth 100000
theorem own : ownKnob Try.prog.godebug = none := by kernel_rfl
theorem main : ∀ xs, z9E Try.checked.prog Try.f4.params.toList xs → ∃ h', Trip Try.checked.prog 4 (xs.map .d) [] [.d (.bool true)] h' := by
  intro xs h
  have a0 : z9E Try.prog [9] xs := by rw [Try.params4] at h; exact h
  clear h
  obtain ⟨y0, r0, rfl, ⟨n0, c0, g0, rfl⟩, a1⟩ := y9l a0
  obtain ⟨x0, e0, w0⟩ := (fun m c h => h.dStr Try.underlying9 (by kernel_rfl)) n0 c0 g0
  obtain rfl := y0z a1
  have hr := y4i x0 w0
  have := z9c x0 _ hr
  simp only [List.map_cons, List.map_nil, e0]
  exact ⟨_, this⟩
theorem lifted (os : Os) (started : os.Started) (H : Type) (enc : TypeId × Value → H) :
    ReturnsInHanded {} Try.checked os 4 .any (Rows.printTextsSpec.pre6 enc Try.prog Try.f4 Rows.printTextsRow.domain false) (Rows.printTextsSpec.post enc Try.prog Try.f4 false true false false) :=
  y8M (C := Try.checked) [9] (by kernel_rfl) own started (by kernel_rfl) Try.func4
    (ChangeSpec.witness6 (enc := enc) (C := Try.checked) false ⟨#[], #[(.string ⟨#[]⟩)], []⟩ 8 (by kernel_rfl) (by kernel_rfl) (by kernel_rfl) (by kernel_rfl))
    (by kernel_rfl) (by kernel_rfl) rfl Try.underlying4 rfl
    (fun ds hd => by
      have hd : ds.length = 1 := hd
      match ds, hd with
      | [d0], _ => exact ⟨rfl, rfl, rfl⟩)
    main
theorem over : Rows.printTextsRow.holds Try.pinned (OpenSpec.ofChange Rows.printTextsSpec) :=
  OpenClaim.holds_of_wide 4 Try.f4 rfl rfl rfl rfl rfl rfl rfl ⟨rfl, rfl, rfl, rfl, rfl⟩ rfl rfl rfl rfl rfl (by kernel_rfl) Try.func4 (by kernel_rfl)
    (of_decide_eq_true (by kernel_rfl)) (by unfold Func.isWrapper; first | (rw [if_pos (by decide +kernel)]; kernel_rfl) | (rw [if_neg (by decide +kernel)]; exact ⟨rfl, rfl⟩))
    (fun os started H enc _ => lifted os started H enc)
theorem proved : Rows.PrintTextsSaid := over
end Go.Proofs.Ythbhgdooeeapjaa.printTexts
namespace Go.Proofs.Ythbhgdooeeapjaa
theorem printTexts_holds : Rows.PrintTextsSaid := printTexts.proved
#print axioms printTexts_holds
end Go.Proofs.Ythbhgdooeeapjaa

