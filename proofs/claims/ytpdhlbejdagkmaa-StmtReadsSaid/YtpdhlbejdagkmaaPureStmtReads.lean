/- StmtReads, as a plain law. -/
import Derived.Test.YtpdhlbejdagkmaaP08z
import Derived.Test.YtpdhlbejdagkmaaP08r
namespace Go.Proofs.Ytpdhlbejdagkmaa.M
open Go Nt
set_option linter.unusedVariables false
theorem stmtReadsLaw (x0 : List Token) (x1 : Int) (w0 : x0.length ≤ 9223372036854775807 ∧ ∀ x ∈ x0, Token.Wf x) (w1 : InK .i64 x1) : law08StmtReads x0 x1 = some true := by
  unfold law08StmtReads
  rw [stmtAwake_ok]
  by_cases hl : (List.length x0 : Int) > 300
  · rw [if_pos hl]; rfl
  rw [if_neg hl]
  by_cases h : x1 < 0 ∨ x1 > (x0.length : Int)
  · have e : stmt_Parse x0 x1 = some (zT7, 0, 13) := by
      unfold stmt_Parse stmt_start_reader_stmt
      by_cases h0 : x1 < 0
      · rw [if_pos h0]; rfl
      · rw [if_neg h0, if_pos (h.resolve_left h0)]; rfl
    rw [e, some_bind]
    dsimp only
    by_cases h0 : x1 ≥ 0
    · rw [if_pos h0, if_neg (by omega), same_out x0 x1 _ h, some_bind, if_pos rfl]; rfl
    · rw [if_neg h0, same_out x0 x1 _ h, some_bind, if_pos rfl]; rfl
  · obtain ⟨a, rfl⟩ := Int.eq_ofNat_of_zero_le (show 0 ≤ x1 by omega)
    have ha : a ≤ x0.length := by omega
    obtain ⟨r, hr⟩ := (sder_all x0 (x0.length - a) a (by omega)).1
    have e1 : ref08Stmt x0 (a : Int) = some (got r) := ref_of_sder (by omega) hr ha
    rw [sparse_ok x0 (by omega) a ha hr, some_bind, if_pos (by omega), if_pos (by omega), e1, some_bind, got_ans, same_ok _ _ _ x0 a ha (stmt_sz (by omega) ha hr), some_bind, if_pos rfl]; rfl
end Go.Proofs.Ytpdhlbejdagkmaa.M
