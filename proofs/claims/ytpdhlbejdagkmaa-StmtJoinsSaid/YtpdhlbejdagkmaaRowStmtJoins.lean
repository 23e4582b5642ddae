/- StmtJoins: whatever the input, the law is true. No condition. -/
import Derived.Test.YtpdhlbejdagkmaaRows
import Derived.Test.YtpdhlbejdagkmaaSound
import Derived.Test.YtpdhlbejdagkmaaArgs
import Derived.Test.YtpdhlbejdagkmaaPureStmtJoins
namespace Go.Proofs.Ytpdhlbejdagkmaa.stmtJoins
open Go Nt Go.Proofs Go.Proofs.Ytpdhlbejdagkmaa.M
set_option linter.unusedVariables false
set_option maxRecDepth 100000
theorem own : ownKnob Try.prog.godebug = none := by kernel_rfl
theorem main : ∀ xs, ArgsTy Try.checked.prog Try.f5.params.toList xs → ∃ h', Trip Try.checked.prog 5 (xs.map .d) [] [.d (.bool true)] h' := by
  intro xs h
  have a0 : ArgsTy Try.prog [9, 9] xs := by rw [Try.params5] at h; exact h
  clear h
  obtain ⟨y0, r0, rfl, ⟨n0, c0, g0, rfl⟩, a1⟩ := args_cons a0
  obtain ⟨x0, e0, w0⟩ := (fun m c h => h.dStr Try.underlying9 (by kernel_rfl)) n0 c0 g0
  obtain ⟨y1, r1, rfl, ⟨n1, c1, g1, rfl⟩, a2⟩ := args_cons a1
  obtain ⟨x1, e1, w1⟩ := (fun m c h => h.dStr Try.underlying9 (by kernel_rfl)) n1 c1 g1
  obtain rfl := args_nil a2
  have hr := stmtJoinsLaw x0 x1 w0 w1
  have := T_law08StmtJoins x0 x1 _ hr
  simp only [List.map_cons, List.map_nil, e0, e1]
  exact ⟨_, this⟩
theorem lifted (os : Os) (started : os.Started) (H : Type) (enc : TypeId × Value → H) :
    ReturnsInHanded {} Try.checked os 5 .any (Rows.stmtJoinsSpec.pre6 enc Try.prog Try.f5 Rows.stmtJoinsRow.domain false) (Rows.stmtJoinsSpec.post enc Try.prog Try.f5 false true false false) :=
  law_lifted (C := Try.checked) [9] (by kernel_rfl) own started (by kernel_rfl) Try.func5
    (ChangeSpec.witness6 (enc := enc) (C := Try.checked) false ⟨#[], #[(.string ⟨#[]⟩), (.string ⟨#[]⟩)], []⟩ 8 (by kernel_rfl) (by kernel_rfl) (by kernel_rfl) (by kernel_rfl))
    (by kernel_rfl) (by kernel_rfl) rfl Try.underlying4 rfl
    (fun ds hd => by
      have hd : ds.length = 2 := hd
      match ds, hd with
      | [d0, d1], _ => exact ⟨rfl, rfl, rfl⟩)
    main
theorem over : Rows.stmtJoinsRow.holds Try.pinned (OpenSpec.ofChange Rows.stmtJoinsSpec) :=
  OpenClaim.holds_of_wide 5 Try.f5 rfl rfl rfl rfl rfl rfl rfl ⟨rfl, rfl, rfl, rfl, rfl⟩ rfl rfl rfl rfl rfl (by kernel_rfl) Try.func5 (by kernel_rfl)
    (of_decide_eq_true (by kernel_rfl)) (by unfold Func.isWrapper; first | (rw [if_pos (by decide +kernel)]; kernel_rfl) | (rw [if_neg (by decide +kernel)]; exact ⟨rfl, rfl⟩))
    (fun os started H enc _ => lifted os started H enc)
theorem proved : Rows.StmtJoinsSaid := over
end Go.Proofs.Ytpdhlbejdagkmaa.stmtJoins
namespace Go.Proofs.Ytpdhlbejdagkmaa
/-- The row, under a short name, for the claim. -/
theorem stmtJoins_holds : Rows.StmtJoinsSaid := stmtJoins.proved
#print axioms stmtJoins_holds
end Go.Proofs.Ytpdhlbejdagkmaa
