/- ShiftBack: whatever the input, the law is true. No condition. -/
import Derived.Test.YtccabbnpnpfnfaaRows
import Derived.Test.YtccabbnpnpfnfaaSound
import Derived.Test.YtccabbnpnpfnfaaArgs
import Derived.Test.YtccabbnpnpfnfaaPureShiftBack
namespace Go.Proofs.Ytccabbnpnpfnfaa.shiftBack
open Go Nt Go.Proofs Go.Proofs.Ytccabbnpnpfnfaa.M
set_option linter.unusedVariables false
set_option maxRecDepth 100000
theorem own : ownKnob Try.prog.godebug = none := by kernel_rfl
theorem main : ∀ xs, ArgsTy Try.checked.prog Try.f4.params.toList xs → ∃ h', Trip Try.checked.prog 4 (xs.map .d) [] [.d (.bool true)] h' := by
  intro xs h
  have a0 : ArgsTy Try.prog [24, 3, 3] xs := by rw [Try.params4] at h; exact h
  clear h
  obtain ⟨y0, r0, rfl, ⟨n0, c0, g0, rfl⟩, a1⟩ := args_cons a0
  obtain ⟨x0, e0, w0⟩ := (fun m c h => Term.ofTy m c h) n0 c0 g0
  obtain ⟨y1, r1, rfl, ⟨n1, c1, g1, rfl⟩, a2⟩ := args_cons a1
  obtain ⟨x1, e1, w1⟩ := (fun m c h => h.dInt Try.underlying3 (by kernel_rfl)) n1 c1 g1
  obtain ⟨y2, r2, rfl, ⟨n2, c2, g2, rfl⟩, a3⟩ := args_cons a2
  obtain ⟨x2, e2, w2⟩ := (fun m c h => h.dInt Try.underlying3 (by kernel_rfl)) n2 c2 g2
  obtain rfl := args_nil a3
  have hr := shiftBackLaw x0 x1 x2 w0 w1 w2
  have := T_law14ShiftBack x0 x1 x2 _ hr
  simp only [List.map_cons, List.map_nil, e0, e1, e2, Term.toD_eq]
  exact ⟨_, this⟩
theorem lifted (os : Os) (started : os.Started) (H : Type) (enc : TypeId × Value → H) :
    ReturnsInHanded {} Try.checked os 4 .any (Rows.shiftBackSpec.pre6 enc Try.prog Try.f4 Rows.shiftBackRow.domain false) (Rows.shiftBackSpec.post enc Try.prog Try.f4 false true false false) :=
  law_lifted (C := Try.checked) [2, 3, 9, 22, 24] (by kernel_rfl) own started (by kernel_rfl) Try.func4
    (ChangeSpec.witness6 (enc := enc) (C := Try.checked) false ⟨#[], #[(.agg #[(.int .i64 0), (.int .i64 0), (.string ⟨#[]⟩), (.slice none 0 0), (.int .i64 0), (.int .i64 0)]), (.int .i64 0), (.int .i64 0)], []⟩ 8 (by kernel_rfl) (by kernel_rfl) (by kernel_rfl) (by kernel_rfl))
    (by kernel_rfl) (by kernel_rfl) rfl Try.underlying4 rfl
    (fun ds hd => by
      have hd : ds.length = 3 := hd
      match ds, hd with
      | [d0, d1, d2], _ => exact ⟨rfl, rfl, rfl⟩)
    main
theorem over : Rows.shiftBackRow.holds Try.pinned (OpenSpec.ofChange Rows.shiftBackSpec) :=
  OpenClaim.holds_of_wide 4 Try.f4 rfl rfl rfl rfl rfl rfl rfl ⟨rfl, rfl, rfl, rfl, rfl⟩ rfl rfl rfl rfl rfl (by kernel_rfl) Try.func4 (by kernel_rfl)
    (of_decide_eq_true (by kernel_rfl)) (by unfold Func.isWrapper; first | (rw [if_pos (by decide +kernel)]; kernel_rfl) | (rw [if_neg (by decide +kernel)]; exact ⟨rfl, rfl⟩))
    (fun os started H enc _ => lifted os started H enc)
theorem proved : Rows.ShiftBackSaid := over
end Go.Proofs.Ytccabbnpnpfnfaa.shiftBack
namespace Go.Proofs.Ytccabbnpnpfnfaa
/-- The row, under a short name, for the claim. -/
theorem shiftBack_holds : Rows.ShiftBackSaid := shiftBack.proved
#print axioms shiftBack_holds
end Go.Proofs.Ytccabbnpnpfnfaa
