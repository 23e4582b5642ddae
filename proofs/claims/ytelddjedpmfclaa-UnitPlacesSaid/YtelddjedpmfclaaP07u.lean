/- Types, read by the program. -/
import Derived.Test.YtelddjedpmfclaaP07t
namespace Go.Proofs.Ytelddjedpmfclaa.M
open Go Nt
set_option linter.unusedVariables false
set_option linter.unusedSimpArgs false
theorem kind_bad (t : List Token) (a : Int) {e : Int} (h : e ≠ 0) : expr_parser_kind t a e = some (zT7, t, a, e) := by
  rw [expr_parser_kind_eq]; unfold expr_parser_kind_B
  rw [if_neg h]
theorem fail_ok (t : List Token) (a : Int) : expr_parser_fail t a 0 = some (t, a, 6) := rfl
theorem kind_ok (t : List Token) (hl : t.length ≤ 9223372036854775807) : ∀ (n a : Nat), t.length < a + n → a ≤ t.length →
    ∃ x, expr_parser_kind t a 0 = some (x, t, ((typ n t a).2.1 : Int), (typ n t a).2.2) ∧ ((typ n t a).2.2 = 0 → x = (typ n t a).1) := by
  intro n
  induction n with
  | zero => intro a h1 h2; omega
  | succ n ih =>
    intro a h1 h2
    rw [expr_parser_kind_eq]; unfold expr_parser_kind_B
    rw [if_pos rfl, now_ok, some_bind]
    try dsimp only
    have c1 : ∀ b : Nat, b < t.length → IntKind.wrap .i64 ((b : Int) + 1) = ((b + 1 : Nat) : Int) := fun b hb => by rw [wi_id (by omega) (by omega)]; omega
    -- a sign ahead
    have tail : wrdAt t a [105, 110, 116] = false → wrdAt t a [98, 111, 111, 108] = false → (tokAt t a).K ≠ 1 →
        ∃ x, (expr_parser_sign ([91] : List UInt8) t a 0 >>= fun q30 =>
          if q30 = true then
            expr_parser_now t (IntKind.wrap .i64 ((a : Int) + 1)) 0 >>= fun q31 =>
            if q31.K = 2 then
              expr_parser_need ([93] : List UInt8) t (IntKind.wrap .i64 ((IntKind.wrap .i64 ((a : Int) + 1)) + 1)) 0 >>= fun q33 =>
              expr_parser_kind q33.1 q33.2.1 q33.2.2 >>= fun q34 =>
              expr_parser_made (Term.mk 3 q31.N ([] : List UInt8) [q34.1] 0 0) a q34.2.1 q34.2.2.1 q34.2.2.2 >>= fun q35 =>
              some (q35, q34.2.1, q34.2.2.1, q34.2.2.2)
            else
            expr_parser_fail t (IntKind.wrap .i64 ((a : Int) + 1)) 0 >>= fun q32 =>
            some ((Term.mk 0 0 ([] : List UInt8) [] 0 0), q32.1, q32.2.1, q32.2.2)
          else
          expr_parser_fail t a 0 >>= fun q36 =>
          some ((Term.mk 0 0 ([] : List UInt8) [] 0 0), q36.1, q36.2.1, q36.2.2)) = some (x, t, ((typ (n + 1) t a).2.1 : Int), (typ (n + 1) t a).2.2) ∧ ((typ (n + 1) t a).2.2 = 0 → x = (typ (n + 1) t a).1) := by
      intro w1 w2 w3
      rw [typ, w1, w2, if_neg (by simp), if_neg (by simp), if_neg w3, sign_ok, some_bind]
      try dsimp only
      by_cases g4 : sgnAt t a [91] = true
      · have k4 := sgnAt_lt g4
        rw [if_pos g4, if_pos g4, c1 a k4, now_ok, some_bind]
        try dsimp only
        by_cases g5 : (tokAt t (a + 1)).K = 2
        · have k5 := tokAt_lt (t := t) (a := a + 1) (by rw [g5]; decide)
          rw [if_pos g5, if_pos g5, c1 (a + 1) k5, show a + 1 + 1 = a + 2 from rfl, need_ok _ _ hl, some_bind]
          try dsimp only
          by_cases g6 : sgnAt t (a + 2) [93] = true
          · have k6 := sgnAt_lt g6
            rw [if_pos g6, if_pos g6, if_pos g6, show a + 2 + 1 = a + 3 from rfl]
            obtain ⟨x, e1, e2⟩ := ih (a + 3) (by omega) (by omega)
            rw [e1, some_bind]
            try dsimp only
            by_cases g7 : (typ n t (a + 3)).2.2 = 0
            · have hp := typ_pl n t (a + 3) (by omega) g7
              rw [if_pos g7, g7, made_ok _ t hl a _ (by omega) hp.2, some_bind, e2 g7]
              exact ⟨_, rfl, fun _ => rfl⟩
            · rw [if_neg g7, made_bad _ _ _ _ g7, some_bind]
              exact ⟨_, rfl, fun h => absurd h g7⟩
          · rw [if_neg g6, if_neg g6, if_neg g6, kind_bad _ _ (by decide), some_bind]
            try dsimp only
            rw [made_bad _ _ _ _ (by decide), some_bind]
            exact ⟨_, rfl, fun h => by cases h⟩
        · rw [if_neg g5, if_neg g5, fail_ok, some_bind]
          exact ⟨_, rfl, fun h => by cases h⟩
      · rw [if_neg g4, if_neg g4, fail_ok, some_bind]
        exact ⟨_, rfl, fun h => by cases h⟩
    by_cases k3 : (tokAt t a).K = 3
    · have hlt := tokAt_lt (t := t) (a := a) (by rw [k3]; decide)
      rw [if_pos k3]
      by_cases s1 : (tokAt t a).S = [105, 110, 116]
      · have w1 : wrdAt t a [105, 110, 116] = true := by unfold wrdAt; rw [k3, s1]; rfl
        rw [if_pos s1, c1 a hlt, made_ok _ t hl a (a + 1) (by omega) (by omega), some_bind, typ, if_pos w1]
        exact ⟨_, rfl, fun _ => rfl⟩
      have w1 : wrdAt t a [105, 110, 116] = false := by unfold wrdAt; rw [beq_eq_false_iff_ne.2 s1]; simp
      rw [if_neg s1]
      by_cases s2 : (tokAt t a).S = [98, 111, 111, 108]
      · have w2 : wrdAt t a [98, 111, 111, 108] = true := by unfold wrdAt; rw [k3, s2]; rfl
        rw [if_pos s2, c1 a hlt, made_ok _ t hl a (a + 1) (by omega) (by omega), some_bind, typ, w1, if_neg (by simp), if_pos w2]
        exact ⟨_, rfl, fun _ => rfl⟩
      have w2 : wrdAt t a [98, 111, 111, 108] = false := by unfold wrdAt; rw [beq_eq_false_iff_ne.2 s2]; simp
      rw [if_neg s2]
      exact tail w1 w2 (by omega)
    · rw [if_neg k3]
      have w : ∀ s, wrdAt t a s = false := fun s => by unfold wrdAt; rw [decide_eq_false k3]; rfl
      by_cases k1 : (tokAt t a).K = 1
      · have hlt := tokAt_lt (t := t) (a := a) (by rw [k1]; decide)
        rw [if_pos k1, c1 a hlt, made_ok _ t hl a (a + 1) (by omega) (by omega), some_bind, typ, w, w, if_neg (by simp), if_neg (by simp), if_pos k1]
        exact ⟨_, rfl, fun _ => rfl⟩
      · rw [if_neg k1]
        exact tail (w _) (w _) k1
end Go.Proofs.Ytelddjedpmfclaa.M
