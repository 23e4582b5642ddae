/- StmtBlocks: whatever the input, the law is true. No condition. -/
import Derived.Test.YtpdhlbejdagkmaaRows
import Derived.Test.YtpdhlbejdagkmaaSound
import Derived.Test.YtpdhlbejdagkmaaArgs
import Derived.Test.YtpdhlbejdagkmaaPureStmtBlocks
namespace Go.Proofs.Ytpdhlbejdagkmaa.stmtBlocks
open Go Nt Go.Proofs Go.Proofs.Ytpdhlbejdagkmaa.M
set_option linter.unusedVariables false
set_option maxRecDepth 100000
theorem own : ownKnob Try.prog.godebug = none := by kernel_rfl
theorem main : ∀ xs, ArgsTy Try.checked.prog Try.f3.params.toList xs → ∃ h', Trip Try.checked.prog 3 (xs.map .d) [] [.d (.bool true)] h' := by
  intro xs h
  have a0 : ArgsTy Try.prog [22, 3] xs := by rw [Try.params3] at h; exact h
  clear h
  obtain ⟨y0, r0, rfl, ⟨n0, c0, g0, rfl⟩, a1⟩ := args_cons a0
  obtain ⟨x0, e0, w0⟩ := (fun m c h => h.dSl Try.underlying22 (by kernel_rfl) (fun m c _ h => (fun m c h => Token.ofTy m c h) m c h)) n0 c0 g0
  obtain ⟨y1, r1, rfl, ⟨n1, c1, g1, rfl⟩, a2⟩ := args_cons a1
  obtain ⟨x1, e1, w1⟩ := (fun m c h => h.dInt Try.underlying3 (by kernel_rfl)) n1 c1 g1
  obtain rfl := args_nil a2
  have hr := stmtBlocksLaw x0 x1 w0 w1
  have := T_law08StmtBlocks x0 x1 _ hr
  simp only [List.map_cons, List.map_nil, e0, e1]
  exact ⟨_, this⟩
theorem lifted (os : Os) (started : os.Started) (H : Type) (enc : TypeId × Value → H) :
    ReturnsInHanded {} Try.checked os 3 .any (Rows.stmtBlocksSpec.pre6 enc Try.prog Try.f3 Rows.stmtBlocksRow.domain false) (Rows.stmtBlocksSpec.post enc Try.prog Try.f3 false true false false) :=
  law_lifted (C := Try.checked) [2, 3, 9, 22, 38] (by kernel_rfl) own started (by kernel_rfl) Try.func3
    (ChangeSpec.witness6 (enc := enc) (C := Try.checked) false ⟨#[], #[(.slice none 0 0), (.int .i64 0)], []⟩ 8 (by kernel_rfl) (by kernel_rfl) (by kernel_rfl) (by kernel_rfl))
    (by kernel_rfl) (by kernel_rfl) rfl Try.underlying4 rfl
    (fun ds hd => by
      have hd : ds.length = 2 := hd
      match ds, hd with
      | [d0, d1], _ => exact ⟨rfl, rfl, rfl⟩)
    main
theorem over : Rows.stmtBlocksRow.holds Try.pinned (OpenSpec.ofChange Rows.stmtBlocksSpec) :=
  OpenClaim.holds_of_wide 3 Try.f3 rfl rfl rfl rfl rfl rfl rfl ⟨rfl, rfl, rfl, rfl, rfl⟩ rfl rfl rfl rfl rfl (by kernel_rfl) Try.func3 (by kernel_rfl)
    (of_decide_eq_true (by kernel_rfl)) (by unfold Func.isWrapper; first | (rw [if_pos (by decide +kernel)]; kernel_rfl) | (rw [if_neg (by decide +kernel)]; exact ⟨rfl, rfl⟩))
    (fun os started H enc _ => lifted os started H enc)
theorem proved : Rows.StmtBlocksSaid := over
end Go.Proofs.Ytpdhlbejdagkmaa.stmtBlocks
namespace Go.Proofs.Ytpdhlbejdagkmaa
/-- The row, under a short name, for the claim. -/
theorem stmtBlocks_holds : Rows.StmtBlocksSaid := stmtBlocks.proved
#print axioms stmtBlocks_holds
end Go.Proofs.Ytpdhlbejdagkmaa
