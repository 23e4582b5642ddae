/- LexNames: whatever the input, the law is true. No condition. -/
import Derived.Test.YtdpecjiflalkmaaRows
import Derived.Test.YtdpecjiflalkmaaSound
import Derived.Test.YtdpecjiflalkmaaArgs
import Derived.Test.YtdpecjiflalkmaaPureLexNames
namespace Go.Proofs.Ytdpecjiflalkmaa.lexNames
open Go Nt Go.Proofs Go.Proofs.Ytdpecjiflalkmaa.M
set_option linter.unusedVariables false
set_option maxRecDepth 100000
theorem own : ownKnob Try.prog.godebug = none := by kernel_rfl
theorem main : ∀ xs, ArgsTy Try.checked.prog Try.f4.params.toList xs → ∃ h', Trip Try.checked.prog 4 (xs.map .d) [] [.d (.bool true)] h' := by
  intro xs h
  have a0 : ArgsTy Try.prog [9, 2] xs := by rw [Try.params4] at h; exact h
  clear h
  obtain ⟨y0, r0, rfl, ⟨n0, c0, g0, rfl⟩, a1⟩ := args_cons a0
  obtain ⟨x0, e0, w0⟩ := (fun m c h => h.dStr Try.underlying9 (by kernel_rfl)) n0 c0 g0
  obtain ⟨y1, r1, rfl, ⟨n1, c1, g1, rfl⟩, a2⟩ := args_cons a1
  obtain ⟨x1, e1, w1⟩ := (fun m c h => h.dInt Try.underlying2 (by kernel_rfl)) n1 c1 g1
  obtain rfl := args_nil a2
  have hr := lexNamesLaw x0 x1 w0 w1
  have := T_law05LexNames x0 x1 _ hr
  simp only [List.map_cons, List.map_nil, e0, e1]
  exact ⟨_, this⟩
theorem lifted (os : Os) (started : os.Started) (H : Type) (enc : TypeId × Value → H) :
    ReturnsInHanded {} Try.checked os 4 .any (Rows.lexNamesSpec.pre6 enc Try.prog Try.f4 Rows.lexNamesRow.domain false) (Rows.lexNamesSpec.post enc Try.prog Try.f4 false true false false) :=
  law_lifted (C := Try.checked) [2, 9] (by kernel_rfl) own started (by kernel_rfl) Try.func4
    (ChangeSpec.witness6 (enc := enc) (C := Try.checked) false ⟨#[], #[(.string ⟨#[]⟩), (.int .i64 0)], []⟩ 8 (by kernel_rfl) (by kernel_rfl) (by kernel_rfl) (by kernel_rfl))
    (by kernel_rfl) (by kernel_rfl) rfl Try.underlying4 rfl
    (fun ds hd => by
      have hd : ds.length = 2 := hd
      match ds, hd with
      | [d0, d1], _ => exact ⟨rfl, rfl, rfl⟩)
    main
theorem over : Rows.lexNamesRow.holds Try.pinned (OpenSpec.ofChange Rows.lexNamesSpec) :=
  OpenClaim.holds_of_wide 4 Try.f4 rfl rfl rfl rfl rfl rfl rfl ⟨rfl, rfl, rfl, rfl, rfl⟩ rfl rfl rfl rfl rfl (by kernel_rfl) Try.func4 (by kernel_rfl)
    (of_decide_eq_true (by kernel_rfl)) (by unfold Func.isWrapper; first | (rw [if_pos (by decide +kernel)]; kernel_rfl) | (rw [if_neg (by decide +kernel)]; exact ⟨rfl, rfl⟩))
    (fun os started H enc _ => lifted os started H enc)
theorem proved : Rows.LexNamesSaid := over
end Go.Proofs.Ytdpecjiflalkmaa.lexNames
namespace Go.Proofs.Ytdpecjiflalkmaa
/-- The row, under a short name, for the claim. -/
theorem lexNames_holds : Rows.LexNamesSaid := lexNames.proved
#print axioms lexNames_holds
end Go.Proofs.Ytdpecjiflalkmaa
