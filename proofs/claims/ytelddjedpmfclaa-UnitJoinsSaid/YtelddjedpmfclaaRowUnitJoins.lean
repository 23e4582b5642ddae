import Derived.Test.YtelddjedpmfclaaRows
import Derived.Test.YtelddjedpmfclaaSound
import Derived.Test.YtelddjedpmfclaaArgs
import Derived.Test.YtelddjedpmfclaaPlain2
namespace Go.Proofs.Ytelddjedpmfclaa.unitJoins
open Go Nt Go.Proofs Go.Proofs.Ytelddjedpmfclaa.M
set_option linter.unusedVariables false
set_option maxRecDepth 100000
theorem own : ownKnob Try.prog.godebug = none := by kernel_rfl
theorem main : ∀ xs, y0z Try.checked.prog Try.f3.params.toList xs → ∃ h', Trip Try.checked.prog 3 (xs.map .d) [] [.d (.bool true)] h' := by
  intro xs h
  have a0 : y0z Try.prog [9, 9] xs := by rw [Try.params3] at h; exact h
  clear h
  obtain ⟨y0, r0, rfl, ⟨n0, c0, g0, rfl⟩, a1⟩ := y4f a0
  obtain ⟨x0, e0, w0⟩ := (fun m c h => h.dStr Try.underlying9 (by kernel_rfl)) n0 c0 g0
  obtain ⟨y1, r1, rfl, ⟨n1, c1, g1, rfl⟩, a2⟩ := y4f a1
  obtain ⟨x1, e1, w1⟩ := (fun m c h => h.dStr Try.underlying9 (by kernel_rfl)) n1 c1 g1
  obtain rfl := y8V a2
  have hr := y5d x0 x1 w0 w1
  have := y0J x0 x1 _ hr
  simp only [List.map_cons, List.map_nil, e0, e1]
  exact ⟨_, this⟩
theorem lifted (os : Os) (started : os.Started) (H : Type) (enc : TypeId × Value → H) :
    ReturnsInHanded {} Try.checked os 3 .any (Rows.unitJoinsSpec.pre6 enc Try.prog Try.f3 Rows.unitJoinsRow.domain false) (Rows.unitJoinsSpec.post enc Try.prog Try.f3 false true false false) :=
  y6Y (C := Try.checked) [9] (by kernel_rfl) own started (by kernel_rfl) Try.func3
    (ChangeSpec.witness6 (enc := enc) (C := Try.checked) false ⟨#[], #[(.string ⟨#[]⟩), (.string ⟨#[]⟩)], []⟩ 8 (by kernel_rfl) (by kernel_rfl) (by kernel_rfl) (by kernel_rfl))
    (by kernel_rfl) (by kernel_rfl) rfl Try.underlying4 rfl
    (fun ds hd => by
      have hd : ds.length = 2 := hd
      match ds, hd with
      | [d0, d1], _ => exact ⟨rfl, rfl, rfl⟩)
    main
theorem over : Rows.unitJoinsRow.holds Try.pinned (OpenSpec.ofChange Rows.unitJoinsSpec) :=
  OpenClaim.holds_of_wide 3 Try.f3 rfl rfl rfl rfl rfl rfl rfl ⟨rfl, rfl, rfl, rfl, rfl⟩ rfl rfl rfl rfl rfl (by kernel_rfl) Try.func3 (by kernel_rfl)
    (of_decide_eq_true (by kernel_rfl)) (by unfold Func.isWrapper; first | (rw [if_pos (by decide +kernel)]; kernel_rfl) | (rw [if_neg (by decide +kernel)]; exact ⟨rfl, rfl⟩))
    (fun os started H enc _ => lifted os started H enc)
theorem proved : Rows.UnitJoinsSaid := over
end Go.Proofs.Ytelddjedpmfclaa.unitJoins
namespace Go.Proofs.Ytelddjedpmfclaa
theorem unitJoins_holds : Rows.UnitJoinsSaid := unitJoins.proved
#print axioms unitJoins_holds
end Go.Proofs.Ytelddjedpmfclaa

