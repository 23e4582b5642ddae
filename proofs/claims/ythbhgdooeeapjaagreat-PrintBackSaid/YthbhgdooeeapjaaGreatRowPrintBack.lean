import Derived.Test.YthbhgdooeeapjaaGreatRows
import Derived.Test.YthbhgdooeeapjaaGreatSound
import Derived.Test.YthbhgdooeeapjaaGreatArgs
import Derived.Test.YthbhgdooeeapjaaGreatPlain3
namespace Go.Proofs.YthbhgdooeeapjaaGreat.printBack
open Go Nt Go.Proofs Go.Proofs.YthbhgdooeeapjaaGreat.M
set_option linter.unusedVariables false
set_option maxRecDepth 100000
theorem own : ownKnob Tryz.prog.godebug = none := by kernel_rfl
theorem main : ∀ xs, y2Y Tryz.checked.prog Tryz.f3.params.toList xs → ∃ h', Trip Tryz.checked.prog 3 (xs.map .d) [] [.d (.bool true)] h' := by
  intro xs h
  have a0 : y2Y Tryz.prog [9] xs := by rw [Tryz.params3] at h; exact h
  clear h
  obtain ⟨y0, r0, rfl, ⟨n0, c0, g0, rfl⟩, a1⟩ := v0T a0
  obtain ⟨x0, e0, w0⟩ := (fun m c h => h.dStr Tryz.underlying9 (by kernel_rfl)) n0 c0 g0
  obtain rfl := y3K a1
  have hr := y8c x0 w0
  have := y3l x0 _ hr
  simp only [List.map_cons, List.map_nil, e0]
  exact ⟨_, this⟩
theorem lifted (os : Os) (started : os.Started) (H : Type) (enc : TypeId × Value → H) :
    ReturnsInHanded {} Tryz.checked os 3 .any (Rows.printBackSpec.pre6 enc Tryz.prog Tryz.f3 Rows.printBackRow.domain false) (Rows.printBackSpec.post enc Tryz.prog Tryz.f3 false true false false) :=
  v0y (C := Tryz.checked) [9] (by kernel_rfl) own started (by kernel_rfl) Tryz.func3
    (ChangeSpec.witness6 (enc := enc) (C := Tryz.checked) false ⟨#[], #[(.string ⟨#[]⟩)], []⟩ 8 (by kernel_rfl) (by kernel_rfl) (by kernel_rfl) (by kernel_rfl))
    (by kernel_rfl) (by kernel_rfl) rfl Tryz.underlying4 rfl
    (fun ds hd => by
      have hd : ds.length = 1 := hd
      match ds, hd with
      | [d0], _ => exact ⟨rfl, rfl, rfl⟩)
    main
theorem over : Rows.printBackRow.holds Tryz.pinned (OpenSpec.ofChange Rows.printBackSpec) :=
  OpenClaim.holds_of_wide 3 Tryz.f3 rfl rfl rfl rfl rfl rfl rfl ⟨rfl, rfl, rfl, rfl, rfl⟩ rfl rfl rfl rfl rfl (by kernel_rfl) Tryz.func3 (by kernel_rfl)
    (of_decide_eq_true (by kernel_rfl)) (by unfold Func.isWrapper; first | (rw [if_pos (by decide +kernel)]; kernel_rfl) | (rw [if_neg (by decide +kernel)]; exact ⟨rfl, rfl⟩))
    (fun os started H enc _ => lifted os started H enc)
theorem proved : Rows.PrintBackSaid := over
end Go.Proofs.YthbhgdooeeapjaaGreat.printBack
namespace Go.Proofs.YthbhgdooeeapjaaGreat
theorem printBack_holds : Rows.PrintBackSaid := printBack.proved
#print axioms printBack_holds
end Go.Proofs.YthbhgdooeeapjaaGreat

