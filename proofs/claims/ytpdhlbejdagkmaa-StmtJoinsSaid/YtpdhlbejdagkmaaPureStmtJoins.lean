/- StmtJoins, as a plain law. -/
import Derived.Test.YtpdhlbejdagkmaaP08s
import Derived.Test.YtpdhlbejdagkmaaR05
namespace Go.Proofs.Ytpdhlbejdagkmaa.M
open Go Nt
set_option linter.unusedVariables false
theorem room48 {n : Nat} (h : n ≤ 1000) : roomy 48 n := by unfold roomy; omega
theorem stmtJoinsLaw (x0 : Str) (x1 : Str) (w0 : x0.length ≤ 9223372036854775807) (w1 : x1.length ≤ 9223372036854775807) : law08StmtJoins x0 x1 = some true := by
  unfold law08StmtJoins
  rw [stmtAwake_ok]
  by_cases h1 : (List.length x0 : Int) > 1000
  · rw [if_pos h1]; rfl
  rw [if_neg h1]
  by_cases h2 : (List.length x1 : Int) > 1000
  · rw [if_pos h2]; rfl
  rw [if_neg h2, rtokens_ok x0 w0, rtokens_ok x1 w1, some_bind, some_bind]
  by_cases h3 : (lexes x0).2.2 = 0
  · rw [if_pos h3]
    by_cases h4 : (lexes x1).2.2 = 0
    · rw [if_pos h4]
      by_cases h5 : (List.length (lexes x0).1 : Int) > 200
      · rw [if_pos h5]; rfl
      rw [if_neg h5]
      by_cases h6 : (List.length (lexes x1).1 : Int) > 200
      · rw [if_pos h6]; rfl
      rw [if_neg h6]
      generalize hs : (lexes x0).1 = s at *
      generalize hu : (lexes x1).1 = u at *
      obtain ⟨r1, d1⟩ := (sder_all s (s.length - 0) 0 (by omega)).1
      obtain ⟨r2, d2⟩ := (sder_all u (u.length - 0) 0 (by omega)).1
      have e1 := sparse_ok s (by omega) 0 (by omega) d1
      have e2 := sparse_ok u (by omega) 0 (by omega) d2
      rw [show ((0 : Nat) : Int) = 0 from rfl] at e1 e2
      rw [e1, e2, some_bind, some_bind]
      cases r1 with
      | bad b => rw [if_neg (show ¬ (ans (.bad b)).2.2 = 0 by simp [ans])]; rfl
      | ok x b =>
        rw [if_pos (show (ans (.ok x b)).2.2 = 0 from rfl)]
        cases r2 with
        | bad b => rw [if_neg (show ¬ (ans (.bad b)).2.2 = 0 by simp [ans])]; rfl
        | ok y c =>
          rw [if_pos (show (ans (.ok y c)).2.2 = 0 from rfl)]
          have q1 := d1.inS (by omega); simp only [InS] at q1
          have q2 := d2.inS (by omega); simp only [InS] at q2
          show (if (b : Int) = _ then _ else _) = _
          rw [wi_id (n := (List.length s : Int) - 1) (by omega) (by omega), wi_id (n := (List.length u : Int) - 1) (by omega) (by omega)]
          by_cases h7 : (b : Int) = (List.length s : Int) - 1
          · rw [if_pos h7]
            show (if (c : Int) = _ then _ else _) = _
            by_cases h8 : (c : Int) = (List.length u : Int) - 1
            · rw [if_pos h8]
              show (if (0 : Int) ≤ (b : Int) then _ else _) = _
              have t1 : Int.toNat (ans (.ok x b)).2.1 = b := by simp [ans]
              have t2 : Int.toNat (ans (.ok y c)).2.1 = c := by simp [ans]
              rw [t1, t2, List.drop_zero, List.drop_zero]
              have l1 : (List.take b s).length = b := by rw [List.length_take]; omega
              have l2 : (List.take c u).length = c := by rw [List.length_take]; omega
              generalize hall : ([(Token.mk 4 0 [123] 0 0)] ++ List.take b s ++ List.take c u ++ [(Token.mk 4 0 [125] 0 0)]) = all
              have la : all.length = b + c + 2 := by rw [← hall]; simp [l1, l2]; omega
              rw [if_pos (by omega), if_pos (by omega), if_pos (by omega), if_pos (room48 (by simp [l1]; omega))]
              show (if (0 : Int) ≤ (c : Int) then _ else _) = _
              rw [if_pos (by omega), if_pos (by omega), if_pos (by omega), if_pos (room48 (by simp [l1, l2]; omega)), if_pos (room48 (by simp [l1, l2]; omega))]
              -- the tokens of all
              have k0 : tokAt all 0 = ⟨4, 0, [123], 0, 0⟩ := by rw [← hall]; rfl
              have k1 : ∀ i, i < b → tokAt all (i + 1) = tokAt s i := fun i hi => by
                rw [← hall]
                unfold tokAt
                rw [List.append_assoc, List.append_assoc, List.getElem?_append_right (by simp), show i + 1 - [(Token.mk 4 0 [123] 0 0)].length = i from rfl, List.getElem?_append_left (by omega), List.getElem?_take_of_lt hi]
              have k2 : ∀ i, i < c → tokAt all (i + (b + 1)) = tokAt u i := fun i hi => by
                rw [← hall]
                unfold tokAt
                rw [List.append_assoc, List.append_assoc, List.getElem?_append_right (by simp; omega), show i + (b + 1) - [(Token.mk 4 0 [123] 0 0)].length = i + b by simp, List.getElem?_append_right (by omega), l1, show i + b - b = i by omega, List.getElem?_append_left (by omega), List.getElem?_take_of_lt hi]
              have k3 : tokAt all (c + (b + 1)) = ⟨4, 0, [125], 0, 0⟩ := by
                rw [← hall]
                unfold tokAt
                rw [List.append_assoc, List.append_assoc, List.getElem?_append_right (by simp; omega), show c + (b + 1) - [(Token.mk 4 0 [123] 0 0)].length = c + b by simp, List.getElem?_append_right (by omega), l1, show c + b - b = c by omega, List.getElem?_append_right (by omega), l2, Nat.sub_self]; rfl
              obtain ⟨s1, s2⟩ := stmt_start (by omega) (by omega) d1
              obtain ⟨u1, u2⟩ := stmt_start (by omega) (by omega) d2
              have kb : tokAt all (b + 1) = tokAt u 0 := by have := k2 0 (by omega); rwa [Nat.zero_add] at this
              have f1 := sder_pre (t := s) (u := all) (d := 1) (m := b) k1 (by unfold wrdAt at u2 ⊢; rw [kb]; exact u2) (by omega) d1 (by omega) trivial x b rfl (Nat.le_refl _)
              have f2 := sder_pre (t := u) (u := all) (d := b + 1) (m := c) k2 (by unfold wrdAt; rw [k3]; rfl) (by omega) d2 (by omega) trivial y c rfl (Nat.le_refl _)
              have f1' : SDer all .stmt 1 (.ok x (b + 1)) := f1
              have f2' : SDer all .stmt (b + 1) (.ok y (c + (b + 1))) := by have : SDer all .stmt (0 + (b + 1)) (.ok y (c + (b + 1))) := f2; rwa [Nat.zero_add] at this
              have g1 : sgnAt all 1 [125] = false := by
                have := k1 0 (by omega)
                unfold sgnAt at s1 ⊢; rw [show (1 : Nat) = 0 + 1 from rfl, this]; exact s1
              have g2 : sgnAt all (b + 1) [125] = false := by unfold sgnAt at u1 ⊢; rw [kb]; exact u1
              have g3 : sgnAt all (c + (b + 1)) [125] = true := by unfold sgnAt; rw [k3]; rfl
              have fin : SDer all .blk 0 (.ok (placed all 0 (c + (b + 1) + 1) ⟨29, 0, [], [x, y], 0, 0⟩) (c + (b + 1) + 1)) :=
                .b1 (by unfold sgnAt; rw [k0]; rfl) (.lG g1 f1' (.lG g2 f2' (.lE g3)))
              have e3 := sblock_ok all (by omega) 0 (by omega) fin
              rw [show ((0 : Nat) : Int) = 0 from rfl] at e3
              rw [e3, some_bind, if_pos (show (ans (Res.ok _ _)).2.2 = 0 from rfl)]
              show (if ((c + (b + 1) + 1 : Nat) : Int) = _ then _ else _) = _
              rw [if_pos (by omega)]
              have z1 : tsize x ≤ 1000000 := stmt_sz (r := .ok x b) (by omega) (by omega) d1
              have z2 : tsize y ≤ 1000000 := stmt_sz (r := .ok y c) (by omega) (by omega) d2
              show (if ((List.length [x, y] : Nat) : Int) = 2 then _ else _) = _
              rw [if_pos (by simp)]
              show (idx [x, y] 0 >>= _) = _
              rw [show idx [x, y] 0 = some x from rfl, some_bind]
              show (ref06Same x x >>= _) = _
              rw [same_refl 1000000 x z1 (by omega), some_bind, if_pos rfl]
              show (idx [x, y] 1 >>= _) = _
              rw [show idx [x, y] 1 = some y from rfl, some_bind]
              show (ref06Same y y >>= _) = _
              rw [same_refl 1000000 y z2 (by omega), some_bind, if_pos rfl]; rfl
            · rw [if_neg h8]; rfl
          · rw [if_neg h7]; rfl
    · rw [if_neg h4]; rfl
  · rw [if_neg h3]; rfl
end Go.Proofs.Ytpdhlbejdagkmaa.M
