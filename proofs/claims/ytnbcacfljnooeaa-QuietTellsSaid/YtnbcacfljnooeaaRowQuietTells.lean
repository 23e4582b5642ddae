import Derived.Test.YtnbcacfljnooeaaRows
import Derived.Test.YtnbcacfljnooeaaSound
import Derived.Test.YtnbcacfljnooeaaArgs
import Derived.Test.YtnbcacfljnooeaaPlain1
namespace Go.Proofs.Ytnbcacfljnooeaa.quietTells
open Go Nt Go.Proofs Go.Proofs.Ytnbcacfljnooeaa.M
set_option linter.unusedVariables false
set_option maxRecDepth 100000
theorem own : ownKnob Try.prog.godebug = none := by kernel_rfl
theorem main : ∀ xs, z1x Try.checked.prog Try.f4.params.toList xs → ∃ h', Trip Try.checked.prog 4 (xs.map .d) [] [.d (.bool true)] h' := by
  intro xs h
  have a0 : z1x Try.prog [24] xs := by rw [Try.params4] at h; exact h
  clear h
  obtain ⟨y0, r0, rfl, ⟨n0, c0, g0, rfl⟩, a1⟩ := z6Y a0
  obtain ⟨x0, e0, w0⟩ := (fun m c h => zA.ofTy m c h) n0 c0 g0
  obtain rfl := z8c a1
  have hr := z4g x0 w0
  have := z1g x0 _ hr
  simp only [List.map_cons, List.map_nil, e0, zA.toD_eq]
  exact ⟨_, this⟩
theorem lifted (os : Os) (started : os.Started) (H : Type) (enc : TypeId × Value → H) :
    ReturnsInHanded {} Try.checked os 4 .any (Rows.quietTellsSpec.pre6 enc Try.prog Try.f4 Rows.quietTellsRow.domain false) (Rows.quietTellsSpec.post enc Try.prog Try.f4 false true false false) :=
  z6O (C := Try.checked) [2, 3, 9, 22, 24] (by kernel_rfl) own started (by kernel_rfl) Try.func4
    (ChangeSpec.witness6 (enc := enc) (C := Try.checked) false ⟨#[], #[(.agg #[(.int .i64 0), (.int .i64 0), (.string ⟨#[]⟩), (.slice none 0 0), (.int .i64 0), (.int .i64 0)])], []⟩ 8 (by kernel_rfl) (by kernel_rfl) (by kernel_rfl) (by kernel_rfl))
    (by kernel_rfl) (by kernel_rfl) rfl Try.underlying4 rfl
    (fun ds hd => by
      have hd : ds.length = 1 := hd
      match ds, hd with
      | [d0], _ => exact ⟨rfl, rfl, rfl⟩)
    main
theorem over : Rows.quietTellsRow.holds Try.pinned (OpenSpec.ofChange Rows.quietTellsSpec) :=
  OpenClaim.holds_of_wide 4 Try.f4 rfl rfl rfl rfl rfl rfl rfl ⟨rfl, rfl, rfl, rfl, rfl⟩ rfl rfl rfl rfl rfl (by kernel_rfl) Try.func4 (by kernel_rfl)
    (of_decide_eq_true (by kernel_rfl)) (by unfold Func.isWrapper; first | (rw [if_pos (by decide +kernel)]; kernel_rfl) | (rw [if_neg (by decide +kernel)]; exact ⟨rfl, rfl⟩))
    (fun os started H enc _ => lifted os started H enc)
theorem proved : Rows.QuietTellsSaid := over
end Go.Proofs.Ytnbcacfljnooeaa.quietTells
namespace Go.Proofs.Ytnbcacfljnooeaa
theorem quietTells_holds : Rows.QuietTellsSaid := quietTells.proved
#print axioms quietTells_holds
end Go.Proofs.Ytnbcacfljnooeaa

