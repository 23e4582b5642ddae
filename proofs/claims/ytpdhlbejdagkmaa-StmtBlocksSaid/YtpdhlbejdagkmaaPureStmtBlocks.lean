/- StmtBlocks, as a plain law. -/
import Derived.Test.YtpdhlbejdagkmaaP08z
import Derived.Test.YtpdhlbejdagkmaaP08r
namespace Go.Proofs.Ytpdhlbejdagkmaa.M
open Go Nt
set_option linter.unusedVariables false
theorem stmtBlocksLaw (x0 : List Token) (x1 : Int) (w0 : x0.length ≤ 9223372036854775807 ∧ ∀ x ∈ x0, Token.Wf x) (w1 : InK .i64 x1) : law08StmtBlocks x0 x1 = some true := by
  unfold law08StmtBlocks
  rw [stmtAwake_ok]
  by_cases hl : (List.length x0 : Int) > 300
  · rw [if_pos hl]; rfl
  rw [if_neg hl]
  by_cases h : x1 < 0 ∨ x1 > (x0.length : Int)
  · have e : stmt_Block x0 x1 = some (zT7, 0, 13) := by
      unfold stmt_Block stmt_start_reader_block
      by_cases h0 : x1 < 0
      · rw [if_pos h0]; rfl
      · rw [if_neg h0, if_pos (h.resolve_left h0)]; rfl
    rw [e, some_bind]
    dsimp only
    by_cases h0 : x1 ≥ 0
    · rw [if_pos h0, if_neg (by omega), same_out x0 x1 _ h, some_bind, if_pos rfl]; rfl
    · rw [if_neg h0, same_out x0 x1 _ h, some_bind, if_pos rfl]; rfl
  · obtain ⟨a, rfl⟩ := Int.eq_ofNat_of_zero_le (show 0 ≤ x1 by omega)
    have ha : a ≤ x0.length := by omega
    obtain ⟨r, hr⟩ := (sder_all x0 (x0.length - a) a (by omega)).2
    have e1 : ref08Block x0 (a : Int) = some (got r) := ref_of_sder (by omega) hr ha
    rw [sblock_ok x0 (by omega) a ha hr, some_bind, if_pos (by omega), if_pos (by omega), e1, some_bind, got_ans, same_ok _ _ _ x0 a ha (blk_sz (by omega) ha hr), some_bind, if_pos rfl]; rfl
end Go.Proofs.Ytpdhlbejdagkmaa.M
