/- ExprApart: whatever the input, the law is true. No condition. -/
import Derived.Test.YtcjfddebnpakbaaRows
import Derived.Test.YtcjfddebnpakbaaSound
import Derived.Test.YtcjfddebnpakbaaArgs
import Derived.Test.YtcjfddebnpakbaaPureExprApart
namespace Go.Proofs.Ytcjfddebnpakbaa.exprApart
open Go Nt Go.Proofs Go.Proofs.Ytcjfddebnpakbaa.M
set_option linter.unusedVariables false
set_option maxRecDepth 100000
theorem own : ownKnob Try.prog.godebug = none := by kernel_rfl
theorem main : ∀ xs, ArgsTy Try.checked.prog Try.f5.params.toList xs → ∃ h', Trip Try.checked.prog 5 (xs.map .d) [] [.d (.bool true)] h' := by
  intro xs h
  have a0 : ArgsTy Try.prog [22, 22, 22] xs := by rw [Try.params5] at h; exact h
  clear h
  obtain ⟨y0, r0, rfl, ⟨n0, c0, g0, rfl⟩, a1⟩ := args_cons a0
  obtain ⟨x0, e0, w0⟩ := (fun m c h => h.dSl Try.underlying22 (by kernel_rfl) (fun m c _ h => (fun m c h => Token.ofTy m c h) m c h)) n0 c0 g0
  obtain ⟨y1, r1, rfl, ⟨n1, c1, g1, rfl⟩, a2⟩ := args_cons a1
  obtain ⟨x1, e1, w1⟩ := (fun m c h => h.dSl Try.underlying22 (by kernel_rfl) (fun m c _ h => (fun m c h => Token.ofTy m c h) m c h)) n1 c1 g1
  obtain ⟨y2, r2, rfl, ⟨n2, c2, g2, rfl⟩, a3⟩ := args_cons a2
  obtain ⟨x2, e2, w2⟩ := (fun m c h => h.dSl Try.underlying22 (by kernel_rfl) (fun m c _ h => (fun m c h => Token.ofTy m c h) m c h)) n2 c2 g2
  obtain rfl := args_nil a3
  have hr := exprApartLaw x0 x1 x2 w0 w1 w2
  have := T_law07ExprApart x0 x1 x2 _ hr
  simp only [List.map_cons, List.map_nil, e0, e1, e2]
  exact ⟨_, this⟩
theorem lifted (os : Os) (started : os.Started) (H : Type) (enc : TypeId × Value → H) :
    ReturnsInHanded {} Try.checked os 5 .any (Rows.exprApartSpec.pre6 enc Try.prog Try.f5 Rows.exprApartRow.domain false) (Rows.exprApartSpec.post enc Try.prog Try.f5 false true false false) :=
  law_lifted (C := Try.checked) [2, 3, 9, 22, 38] (by kernel_rfl) own started (by kernel_rfl) Try.func5
    (ChangeSpec.witness6 (enc := enc) (C := Try.checked) false ⟨#[], #[(.slice none 0 0), (.slice none 0 0), (.slice none 0 0)], []⟩ 8 (by kernel_rfl) (by kernel_rfl) (by kernel_rfl) (by kernel_rfl))
    (by kernel_rfl) (by kernel_rfl) rfl Try.underlying4 rfl
    (fun ds hd => by
      have hd : ds.length = 3 := hd
      match ds, hd with
      | [d0, d1, d2], _ => exact ⟨rfl, rfl, rfl⟩)
    main
theorem over : Rows.exprApartRow.holds Try.pinned (OpenSpec.ofChange Rows.exprApartSpec) :=
  OpenClaim.holds_of_wide 5 Try.f5 rfl rfl rfl rfl rfl rfl rfl ⟨rfl, rfl, rfl, rfl, rfl⟩ rfl rfl rfl rfl rfl (by kernel_rfl) Try.func5 (by kernel_rfl)
    (of_decide_eq_true (by kernel_rfl)) (by unfold Func.isWrapper; first | (rw [if_pos (by decide +kernel)]; kernel_rfl) | (rw [if_neg (by decide +kernel)]; exact ⟨rfl, rfl⟩))
    (fun os started H enc _ => lifted os started H enc)
theorem proved : Rows.ExprApartSaid := over
end Go.Proofs.Ytcjfddebnpakbaa.exprApart
namespace Go.Proofs.Ytcjfddebnpakbaa
/-- The row, under a short name, for the claim. -/
theorem exprApart_holds : Rows.ExprApartSaid := exprApart.proved
#print axioms exprApart_holds
end Go.Proofs.Ytcjfddebnpakbaa
