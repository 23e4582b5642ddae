/- The program reads an expression as the rules say. -/
import Derived.Test.YtelddjedpmfclaaP07g
import Derived.Test.YtelddjedpmfclaaP07u
namespace Go.Proofs.Ytelddjedpmfclaa.M
open Go Nt
set_option linter.unusedVariables false
set_option linter.unusedSimpArgs false
def PR (t : List Token) (p : Option (Term × List Token × Int × Int)) : Res → Prop
  | .ok x b => p = some (x, t, (b : Int), 0)
  | .bad b => ∃ y, p = some (y, t, (b : Int), 6)
theorem six : (6 : Int) ≠ 0 := by decide
theorem operator_ok (x : Token) : expr_operator x = some ((opOf x).1, ((opOf x).2 : Int)) := by
  unfold expr_operator opOf
  by_cases hk : x.K = 4
  · rcases signs13 x.S with e | e | e | e | e | e | e | e | e | e | e | e | e | ⟨e1, e2, e3, e4, e5, e6, e7, e8, e9, e10, e11, e12, e13⟩
    case inr.inr.inr.inr.inr.inr.inr.inr.inr.inr.inr.inr.inr => simp [hk, e1, e2, e3, e4, e5, e6, e7, e8, e9, e10, e11, e12, e13]
    all_goals (simp only [hk, e]; rfl)
  · simp [hk]
theorem L4_bad (least f m : Int) (o x : Term) (t : List Token) (a : Int) {e : Int} (h : e ≠ 0) : expr_parser_level_L4 least f m o x t a e = some (x, t, a, e) := by
  rw [expr_parser_level_L4_eq]; unfold expr_parser_level_L4_B
  rw [if_neg h]
theorem L4_most (least f : Int) (m1 m2 : Int) (o x : Term) (t : List Token) (a : Nat) (h : ((opOf (tokAt t a)).2 : Int) > m1 ↔ ((opOf (tokAt t a)).2 : Int) > m2) : expr_parser_level_L4 least f m1 o x t a 0 = expr_parser_level_L4 least f m2 o x t a 0 := by
  rw [expr_parser_level_L4_eq, expr_parser_level_L4_eq least f m2]; unfold expr_parser_level_L4_B
  rw [if_pos rfl, if_pos rfl, now_ok, some_bind, some_bind, operator_ok, some_bind, some_bind]
  dsimp only
  by_cases h1 : ((opOf (tokAt t a)).2 : Int) > m1
  · rw [if_pos h1, if_pos (h.1 h1)]
  · rw [if_neg h1, if_neg (fun h' => h1 (h.2 h'))]
theorem L4_stop (least : Nat) (hl : 1 ≤ least) (f : Int) (o x : Term) (t : List Token) (a : Nat) : expr_parser_level_L4 least f ((least - 1 : Nat) : Int) o x t a 0 = some (x, t, (a : Int), 0) := by
  rw [expr_parser_level_L4_eq]; unfold expr_parser_level_L4_B
  rw [if_pos rfl, now_ok, some_bind, operator_ok, some_bind]
  dsimp only
  by_cases h1 : ((opOf (tokAt t a)).2 : Int) < least
  · rw [if_pos h1]
  · rw [if_neg h1, if_neg (by omega), if_pos (by omega)]
theorem un_bad (t : List Token) (a : Int) {e : Int} (h : e ≠ 0) : expr_parser_un t a e = some (zT7, t, a, e) := by
  rw [expr_parser_un_eq]; unfold expr_parser_un_B
  rw [if_neg h]
theorem level_bad (k : Int) (t : List Token) (a : Int) {e : Int} (h : e ≠ 0) : expr_parser_level k t a e = some (zT7, t, a, e) := by
  rw [expr_parser_level_eq]; unfold expr_parser_level_B
  rw [un_bad _ _ h, some_bind, L4_bad _ _ _ _ _ _ _ h]
theorem expr_bad (t : List Token) (a : Int) {e : Int} (h : e ≠ 0) : expr_parser_expr t a e = some (zT7, t, a, e) := by
  rw [expr_parser_expr_eq]; unfold expr_parser_expr_B
  rw [level_bad _ _ _ h]; rfl
theorem L2_bad (l : List Term) (t : List Token) (a : Int) {e : Int} (h : e ≠ 0) : expr_parser_list_parser_expr_L2 l t a e = some (l, t, a, e) := by
  rw [expr_parser_list_parser_expr_L2_eq]; unfold expr_parser_list_parser_expr_L2_B
  rw [if_neg h]
theorem list_bad (t : List Token) (a : Int) {e : Int} (h : e ≠ 0) : expr_parser_list_parser_expr t a e = some ([zT7], t, a, e) := by
  rw [expr_parser_list_parser_expr_eq]; unfold expr_parser_list_parser_expr_B
  rw [expr_bad _ _ h, some_bind, L2_bad _ _ _ h]
theorem args_bad (few : Bool) (t : List Token) (a : Int) {e : Int} (h : e ≠ 0) : expr_parser_args few t a e = some ([zT7], t, a, e) := by
  rw [expr_parser_args_eq]; unfold expr_parser_args_B
  rw [need_bad _ _ _ h, some_bind, if_neg h, list_bad _ _ h, some_bind, need_bad _ _ _ h]; rfl
theorem L3_bad (f : Int) (o x : Term) (t : List Token) (a : Int) {e : Int} (h : e ≠ 0) : expr_parser_post_L3 f o x t a e = some (x, t, a, e) := by
  rw [expr_parser_post_L3_eq]; unfold expr_parser_post_L3_B
  rw [if_neg h]
theorem name_yes (t : List Token) (hl : t.length ≤ 1048576) (a : Nat) (h : (tokAt t a).K = 1) : expr_parser_name t a 0 = some ((tokAt t a).S, t, ((a + 1 : Nat) : Int), 0) := by
  have ha := tokAt_lt (t := t) (a := a) (by rw [h]; decide)
  unfold expr_parser_name
  rw [if_pos rfl, now_ok, some_bind, if_pos h, wi_succ hl (by omega)]
theorem name_no (t : List Token) (a : Nat) (h : (tokAt t a).K ≠ 1) : expr_parser_name t a 0 = some ([], t, (a : Int), 6) := by
  unfold expr_parser_name
  rw [if_pos rfl, now_ok, some_bind, if_neg h]; rfl
theorem expr_1p {t : List Token} {a : Nat} {r : Res} (h : PR t (expr_parser_level (1 : Nat) t a 0) r) : PR t (expr_parser_expr t a 0) r := by
  have e : expr_parser_expr t a 0 = (expr_parser_level (1 : Nat) t a 0 >>= fun q1 => some (q1.1, q1.2.1, q1.2.2.1, q1.2.2.2)) := by
    rw [expr_parser_expr_eq]; rfl
  rw [e]
  cases r with
  | ok x b => rw [show expr_parser_level (1 : Nat) t a 0 = _ from h]; rfl
  | bad b => obtain ⟨y, h⟩ := h; rw [h]; exact ⟨y, rfl⟩
/-- how tightly operators may bind behind so many of a level -/
def mst (k m : Nat) : Int := if k = 3 ∧ 1 ≤ m then 2 else k
def PM (t : List Token) : Cat → Nat → Res → Prop
  | .lev k, a, r => (k = 6 → PR t (expr_parser_un t a 0) r) ∧ ∀ least, 1 ≤ least → least ≤ k →
      (∀ x b, r = .ok x b → expr_parser_level (least : Nat) t a 0 = expr_parser_level_L4 (least : Nat) a ((k - 1 : Nat) : Int) zT7 x t b 0) ∧ (∀ b, r = .bad b → ∃ y, expr_parser_level (least : Nat) t a 0 = some (y, t, (b : Int), 6))
  | .ll k m f x, a, r => f < a → 1 ≤ k → k ≤ 5 → (k = 3 → m ≤ 1) → ∀ least, 1 ≤ least → least ≤ k → ∀ o,
      (∀ y b, r = .ok y b → expr_parser_level_L4 (least : Nat) f (mst k m) o x t a 0 = expr_parser_level_L4 (least : Nat) f ((k - 1 : Nat) : Int) o y t b 0) ∧ (∀ b, r = .bad b → ∃ y, expr_parser_level_L4 (least : Nat) f (mst k m) o x t a 0 = some (y, t, (b : Int), 6))
  | .post, a, r => PR t (expr_parser_post t a 0) r
  | .pl f x, a, r => f < a → ∀ o, PR t (expr_parser_post_L3 f o x t a 0) r
  | .atom, a, r => PR t (expr_parser_atom t a 0) r
  | .cls few, a, r => (∀ l b, r = .ok l b → expr_parser_args few t a 0 = some (l.L, t, (b : Int), 0)) ∧ (∀ b, r = .bad b → ∃ l, expr_parser_args few t a 0 = some (l, t, (b : Int), 6))
  | .lst acc, a, r => acc.length < a →
      (∀ l b, r = .ok l b → (expr_parser_expr t a 0 >>= fun q => expr_parser_list_parser_expr_L2 (acc ++ [q.1]) q.2.1 q.2.2.1 q.2.2.2) = some (l.L, t, (b : Int), 0)) ∧
      (∀ b, r = .bad b → ∃ l, (expr_parser_expr t a 0 >>= fun q => expr_parser_list_parser_expr_L2 (acc ++ [q.1]) q.2.1 q.2.2.1 q.2.2.2) = some (l, t, (b : Int), 6))
theorem PM.level {t : List Token} {k a : Nat} {r : Res} (h : PM t (.lev k) a r) (hk : 1 ≤ k) : PR t (expr_parser_level (k : Nat) t a 0) r := by
  obtain ⟨h1, h2⟩ := h.2 k hk (Nat.le_refl _)
  cases r with
  | ok x b =>
    show _ = _
    rw [h1 x b rfl, L4_stop k hk]
  | bad b => exact h2 b rfl
theorem list_eq (t : List Token) (a : Int) (e : Int) : expr_parser_list_parser_expr t a e = (expr_parser_expr t a e >>= fun q => expr_parser_list_parser_expr_L2 ([] ++ [q.1]) q.2.1 q.2.2.1 q.2.2.2) := by
  rw [expr_parser_list_parser_expr_eq]; rfl
theorem need_yes (s : Str) (t : List Token) (hl : t.length ≤ 1048576) (a : Nat) (h : sgnAt t a s = true) : expr_parser_need s t a 0 = some (t, ((a + 1 : Nat) : Int), 0) := by
  rw [need_ok s t (by omega) a, if_pos h, if_pos h]
theorem need_no (s : Str) (t : List Token) (hl : t.length ≤ 1048576) (a : Nat) (h : sgnAt t a s = false) : expr_parser_need s t a 0 = some (t, (a : Int), 6) := by
  rw [need_ok s t (by omega) a, if_neg (by rw [h]; simp), if_neg (by rw [h]; simp)]
theorem patom_one (t : List Token) (hl : t.length ≤ 1048576) (a : Nat) {k n : Int} {s : Str} (h : atomK t a = .one k n s) : expr_parser_atom t a 0 = some (placed t a (a + 1) ⟨k, n, s, [], 0, 0⟩, t, ((a + 1 : Nat) : Int), 0) := by
  have ha := atomK_lt (t := t) (a := a) (by rw [h]; simp)
  have mk := fun x => made_ok x t (by omega) a (a + 1) (by omega) (by omega)
  rw [expr_parser_atom_eq]; unfold expr_parser_atom_B
  rw [if_pos rfl, now_ok, some_bind, wi_succ hl (by omega)]
  unfold atomK at h
  by_cases h1 : (tokAt t a).K = 2
  · rw [if_pos h1] at h ⊢
    injection h with e1 e2 e3; subst e1; subst e2; subst e3
    rw [mk]; rfl
  rw [if_neg h1] at h ⊢
  by_cases h2 : (tokAt t a).K = 1
  · rw [if_pos h2] at h ⊢
    rw [sign_ok, some_bind]
    by_cases h3 : sgnAt t (a + 1) [40] = true
    · rw [if_pos h3] at h; cases h
    · rw [if_neg h3] at h ⊢
      injection h with e1 e2 e3; subst e1; subst e2; subst e3
      rw [mk]; rfl
  rw [if_neg h2] at h ⊢
  have wd : ∀ {s' : Str}, wrdAt t a s' = true → (tokAt t a).K = 3 ∧ (tokAt t a).S = s' := fun h => wrd_k h
  have word : ∀ {s' : Str} {x : Term}, wrdAt t a s' = true → expr_parser_word s' (a : Int) t (a : Int) 0 = some (x, t, ((a + 1 : Nat) : Int), 0) →
      (if (tokAt t a).K = 3 then expr_parser_word (tokAt t a).S a t a 0 >>= fun q7 => some (q7.1, q7.2.1, q7.2.2.1, q7.2.2.2)
        else if (tokAt t a).K = 4 then expr_parser_bracket (tokAt t a).S a t a 0 >>= fun q8 => some (q8.1, q8.2.1, q8.2.2.1, q8.2.2.2)
        else expr_parser_fail t a 0 >>= fun q9 => some (Term.mk 0 0 [] [] 0 0, q9.1, q9.2.1, q9.2.2)) = some (x, t, ((a + 1 : Nat) : Int), 0) := fun hw he => by
    rw [if_pos (wd hw).1, (wd hw).2, he]; rfl
  by_cases h3 : wrdAt t a [116, 114, 117, 101] = true
  · rw [if_pos h3] at h
    injection h with e1 e2 e3; subst e1; subst e2; subst e3
    refine word h3 ?_
    rw [expr_parser_word_eq]; unfold expr_parser_word_B
    rw [if_pos rfl, wi_succ hl (by omega), mk]; rfl
  rw [if_neg h3] at h
  by_cases h4 : wrdAt t a [102, 97, 108, 115, 101] = true
  · rw [if_pos h4] at h
    injection h with e1 e2 e3; subst e1; subst e2; subst e3
    refine word h4 ?_
    rw [expr_parser_word_eq]; unfold expr_parser_word_B
    rw [if_neg (by decide), if_pos rfl, wi_succ hl (by omega), mk]; rfl
  rw [if_neg h4] at h
  by_cases h5 : wrdAt t a [114, 101, 97, 100] = true
  · rw [if_pos h5] at h
    injection h with e1 e2 e3; subst e1; subst e2; subst e3
    refine word h5 ?_
    rw [expr_parser_word_eq]; unfold expr_parser_word_B
    rw [if_neg (by decide), if_neg (by decide), if_pos rfl, wi_succ hl (by omega), mk]; rfl
  rw [if_neg h5] at h
  repeat' split at h
  all_goals cases h
theorem patom_br (t : List Token) (a : Nat) (s : Str) (h : sgnAt t a s = true) : expr_parser_atom t a 0 = (expr_parser_bracket s a t a 0 >>= fun q8 => some (q8.1, q8.2.1, q8.2.2.1, q8.2.2.2)) := by
  obtain ⟨hk, hs⟩ := sgn_k h
  rw [expr_parser_atom_eq]; unfold expr_parser_atom_B
  rw [if_pos rfl, now_ok, some_bind, if_neg (by rw [hk]; decide), if_neg (by rw [hk]; decide), if_neg (by rw [hk]; decide), if_pos hk, hs]
theorem patom_wd (t : List Token) (a : Nat) (s : Str) (h : wrdAt t a s = true) : expr_parser_atom t a 0 = (expr_parser_word s a t a 0 >>= fun q8 => some (q8.1, q8.2.1, q8.2.2.1, q8.2.2.2)) := by
  obtain ⟨hk, hs⟩ := wrd_k h
  rw [expr_parser_atom_eq]; unfold expr_parser_atom_B
  rw [if_pos rfl, now_ok, some_bind, if_neg (by rw [hk]; decide), if_neg (by rw [hk]; decide), if_pos hk, hs]
theorem patom_call (t : List Token) (hl : t.length ≤ 1048576) (a : Nat) {k : Int} {s : Str} {o : Nat} {few : Bool} (h : atomK t a = .call k s o few) :
    expr_parser_atom t a 0 = (expr_parser_args few t o 0 >>= fun q => expr_parser_made ⟨k, 0, s, q.1, 0, 0⟩ a q.2.1 q.2.2.1 q.2.2.2 >>= fun z => some (z, q.2.1, q.2.2.1, q.2.2.2)) := by
  rcases atomK_cases h with ⟨rfl, rfl, rfl, rfl, h1, h2⟩ | ⟨rfl, rfl, rfl, rfl, h1, h2⟩ | ⟨rfl, rfl, rfl, rfl, h1, h2⟩
  · have ha := tokAt_lt (t := t) (a := a) (by rw [h1]; decide)
    rw [expr_parser_atom_eq]; unfold expr_parser_atom_B
    rw [if_pos rfl, now_ok, some_bind, if_neg (by rw [h1]; decide), if_pos h1, wi_succ hl (by omega), sign_ok, some_bind, if_pos h2]
  · have ha := wrdAt_lt h1
    rw [patom_wd t a _ h1, expr_parser_word_eq]; unfold expr_parser_word_B
    rw [if_neg (by decide), if_neg (by decide), if_neg (by decide), if_pos rfl, wi_succ hl (by omega), name_yes t hl (a + 1) h2, some_bind]
    show ((expr_parser_args false t ((a + 1 + 1 : Nat) : Int) 0 >>= _) >>= _) = _
    cases expr_parser_args false t ((a + 1 + 1 : Nat) : Int) 0 with
    | none => rfl
    | some q =>
      rw [some_bind]
      dsimp only
      cases expr_parser_made ⟨15, 0, (tokAt t (a + 1)).S, q.1, 0, 0⟩ a q.2.1 q.2.2.1 q.2.2.2 <;> rfl
  · have ha := sgnAt_lt h1
    rw [patom_br t a _ h1, expr_parser_bracket_eq]; unfold expr_parser_bracket_B
    rw [if_neg (by decide), if_neg (by decide), if_pos rfl, wi_succ hl (by omega), name_yes t hl (a + 1) h2, some_bind]
    show ((expr_parser_args true t ((a + 1 + 1 : Nat) : Int) 0 >>= _) >>= _) = _
    cases expr_parser_args true t ((a + 1 + 1 : Nat) : Int) 0 with
    | none => rfl
    | some q =>
      rw [some_bind]
      dsimp only
      cases expr_parser_made ⟨17, 0, (tokAt t (a + 1)).S, q.1, 0, 0⟩ a q.2.1 q.2.2.1 q.2.2.2 <;> rfl
theorem args_list (few : Bool) (t : List Token) (hl : t.length ≤ 1048576) (a : Nat) (h1 : sgnAt t a [40] = true) (h2 : few = true → sgnAt t (a + 1) [41] = false) :
    expr_parser_args few t a 0 = (expr_parser_list_parser_expr t ((a + 1 : Nat) : Int) 0 >>= fun q => expr_parser_need [41] q.2.1 q.2.2.1 q.2.2.2 >>= fun z => some (q.1, z.1, z.2.1, z.2.2)) := by
  rw [expr_parser_args_eq]; unfold expr_parser_args_B
  rw [need_yes _ t hl a h1, some_bind]
  dsimp only
  rw [if_pos rfl]
  cases few with
  | false => rw [if_neg (by simp)]
  | true => rw [if_pos rfl, sign_ok, some_bind, h2 rfl, if_neg (by simp)]
theorem prog_of_der {t : List Token} (hl : t.length ≤ 1048576) {c : Cat} {a : Nat} {r : Res} (h : Der t c a r) : a ≤ t.length → PM t c a r := by
  -- an operand, and what follows it
  have unLev : ∀ {a : Nat} {r : Res}, PR t (expr_parser_un t a 0) r → PM t (.lev 6) a r := by
    intro a r h
    refine ⟨fun _ => h, fun least h1 h2 => ⟨fun x b e => ?_, fun b e => ?_⟩⟩
    · subst e
      rw [expr_parser_level_eq]; unfold expr_parser_level_B
      rw [show expr_parser_un t a 0 = _ from h, some_bind]
      refine L4_most _ _ _ _ _ _ _ _ ?_
      have h5 := opOf_le (tokAt t b)
      show ((opOf (tokAt t b)).2 : Int) > 6 ↔ ((opOf (tokAt t b)).2 : Int) > ((5 : Nat) : Int)
      omega
    · subst e
      obtain ⟨y, h⟩ := h
      rw [expr_parser_level_eq]; unfold expr_parser_level_B
      rw [h, some_bind]
      exact ⟨_, L4_bad _ _ _ _ _ _ _ six⟩
  induction h with
  | @un a b n x h1 hd ih =>
    intro ha
    have h0 : a < t.length := h1.elim (fun h => sgnAt_lt h.2) (fun h => sgnAt_lt h.2)
    have q := hd.inR (by omega)
    simp only [InR] at q
    have e : expr_parser_un t ((a + 1 : Nat) : Int) 0 = some (x, t, (b : Int), 0) := (ih (by omega)).1 rfl
    refine unLev ?_
    show _ = _
    rw [expr_parser_un_eq]; unfold expr_parser_un_B
    rw [if_pos rfl, sign_ok, some_bind, wi_succ hl (by omega)]
    rcases h1 with ⟨rfl, h1⟩ | ⟨rfl, h1⟩
    · rw [if_pos h1, if_neg (by decide), e, some_bind, made_ok _ t (by omega) a b (by omega) q.2]; rfl
    · rw [if_neg (by rw [sgn_ne h1 (by decide)]; simp), sign_ok, some_bind, if_pos h1, if_neg (by decide), e, some_bind, made_ok _ t (by omega) a b (by omega) q.2]; rfl
  | @unB a b h1 hd ih =>
    intro ha
    have h0 : a < t.length := h1.elim (fun h => sgnAt_lt h) (fun h => sgnAt_lt h)
    obtain ⟨y, e⟩ : ∃ y, expr_parser_un t ((a + 1 : Nat) : Int) 0 = some (y, t, (b : Int), 6) := (ih (by omega)).1 rfl
    refine unLev ?_
    show ∃ y, _ = _
    rw [expr_parser_un_eq]; unfold expr_parser_un_B
    rw [if_pos rfl, sign_ok, some_bind, wi_succ hl (by omega)]
    rcases h1 with h1 | h1
    · rw [if_pos h1, if_neg (by decide), e, some_bind, made_bad _ _ _ _ six]; exact ⟨_, rfl⟩
    · rw [if_neg (by rw [sgn_ne h1 (by decide)]; simp), sign_ok, some_bind, if_pos h1, if_neg (by decide), e, some_bind, made_bad _ _ _ _ six]; exact ⟨_, rfl⟩
  | @unP a r h1 h2 hd ih =>
    intro ha
    have e : PR t (expr_parser_post t a 0) r := ih ha
    refine unLev ?_
    rw [expr_parser_un_eq]; unfold expr_parser_un_B
    rw [if_pos rfl, sign_ok, some_bind, h1, if_neg (by simp), sign_ok, some_bind, h2, if_neg (by simp), if_pos rfl]
    cases r with
    | ok x b => rw [show expr_parser_post t a 0 = _ from e]; rfl
    | bad b => obtain ⟨y, e⟩ := e; rw [e]; exact ⟨y, rfl⟩
  | @lev k a b x r h1 h2 hd hd2 ih1 ih2 =>
    intro ha
    have q := hd.inR ha
    simp only [InR] at q
    refine ⟨fun h => by omega, fun least g1 g2 => ?_⟩
    obtain ⟨e1, -⟩ := (ih1 ha).2 least g1 (by omega)
    have e1 := e1 x b rfl
    obtain ⟨e2, e3⟩ := ih2 q.2 q.1 h1 h2 (fun _ => by omega) least g1 g2 zT7
    have hm : ((k + 1 - 1 : Nat) : Int) = mst k 0 := by unfold mst; rw [if_neg (by omega)]; rfl
    rw [hm] at e1
    refine ⟨fun y c e => by rw [e1, e2 y c e], fun c e => by rw [e1]; exact e3 c e⟩
  | @levB k a b h1 h2 hd ih1 =>
    intro ha
    refine ⟨fun h => by omega, fun least g1 g2 => ?_⟩
    obtain ⟨-, e1⟩ := (ih1 ha).2 least g1 (by omega)
    exact ⟨(fun _ _ e => by cases e), fun c e => by cases e; exact e1 b rfl⟩
  | @llE k m f a x h0 h1 =>
    intro ha hf _ hk hm least g1 g2 o
    refine ⟨fun y b e => ?_, fun _ e => by cases e⟩
    cases e
    refine L4_most _ _ _ _ _ _ _ _ ?_
    unfold mst
    split <;> omega
  | @llG k m f a b x y r h1 h2 h3 hd hd2 ih1 ih2 =>
    intro ha hf _ hk hm least g1 g2 o
    have h0 := tokAt_lt (t := t) (a := a) (by rw [opOf_tok (by omega)]; decide)
    have q := hd.inR (by omega)
    simp only [InR] at q
    have e : expr_parser_level ((k + 1 : Nat) : Int) t ((a + 1 : Nat) : Int) 0 = some (y, t, (b : Int), 0) := (ih1 (by omega)).level (by omega)
    obtain ⟨e2, e3⟩ := ih2 q.2 (by omega) h1 hk (fun h => by omega) least g1 g2 o
    have hs : expr_parser_level_L4 (least : Nat) f (mst k m) o x t a 0 = expr_parser_level_L4 (least : Nat) f (mst k (m + 1)) o (placed t f b ⟨10, (opOf (tokAt t a)).1, [], [x, y], 0, 0⟩) t b 0 := by
      have hm0 : mst k m = k := by unfold mst; rw [if_neg (by omega)]
      rw [hm0, expr_parser_level_L4_eq]; unfold expr_parser_level_L4_B
      rw [if_pos rfl, now_ok, some_bind, operator_ok, some_bind]
      dsimp only
      rw [if_neg (by omega), if_neg (by omega), if_neg (by omega), h2]
      have c2 : IntKind.wrap .i64 ((k : Int) + 1) = ((k + 1 : Nat) : Int) := by rw [wi_id (by omega) (by omega)]; omega
      rw [c2, wi_succ hl (by omega), e, some_bind, made_ok _ t (by omega) f b (by omega) q.2, some_bind]
      dsimp only
      by_cases hk3 : (k : Int) = 3
      · rw [if_pos hk3]; unfold mst; rw [if_pos (by omega)]
      · rw [if_neg hk3]; unfold mst; rw [if_neg (by omega)]
    rw [hs]
    exact ⟨e2, e3⟩
  | @llB k m f a b x h1 h2 h3 hd ih1 =>
    intro ha hf _ hk hm least g1 g2 o
    have h0 := tokAt_lt (t := t) (a := a) (by rw [opOf_tok (by omega)]; decide)
    obtain ⟨y, e⟩ : ∃ y, expr_parser_level ((k + 1 : Nat) : Int) t ((a + 1 : Nat) : Int) 0 = some (y, t, (b : Int), 6) := (ih1 (by omega)).level (by omega)
    refine ⟨(fun _ _ e => by cases e), fun c e' => ?_⟩
    cases e'
    have hm0 : mst k m = k := by unfold mst; rw [if_neg (by omega)]
    rw [hm0, expr_parser_level_L4_eq]; unfold expr_parser_level_L4_B
    rw [if_pos rfl, now_ok, some_bind, operator_ok, some_bind]
    dsimp only
    rw [if_neg (by omega), if_neg (by omega), if_neg (by omega), h2]
    have c2 : IntKind.wrap .i64 ((k : Int) + 1) = ((k + 1 : Nat) : Int) := by rw [wi_id (by omega) (by omega)]; omega
    rw [c2, wi_succ hl (by omega), e, some_bind, made_bad _ _ _ _ six, some_bind]
    dsimp only
    by_cases hk3 : (k : Int) = 3
    · rw [if_pos hk3]; exact ⟨_, L4_bad _ _ _ _ _ _ _ six⟩
    · rw [if_neg hk3]; exact ⟨_, L4_bad _ _ _ _ _ _ _ six⟩
  | @post a b x r hd hd2 ih1 ih2 =>
    intro ha
    have q := hd.inR ha
    simp only [InR] at q
    have e : expr_parser_atom t a 0 = some (x, t, (b : Int), 0) := ih1 ha
    show PR t (expr_parser_post t a 0) r
    rw [expr_parser_post_eq]; unfold expr_parser_post_B
    rw [e, some_bind]
    exact ih2 q.2 q.1 _
  | @postB a b hd ih1 =>
    intro ha
    obtain ⟨y, e⟩ : ∃ y, expr_parser_atom t a 0 = some (y, t, (b : Int), 6) := ih1 ha
    show PR t (expr_parser_post t a 0) (.bad b)
    rw [expr_parser_post_eq]; unfold expr_parser_post_B
    rw [e, some_bind]
    exact ⟨_, L3_bad _ _ _ _ _ six⟩
  | @plE f a x h1 h2 =>
    intro ha hf o
    show _ = _
    rw [expr_parser_post_L3_eq]; unfold expr_parser_post_L3_B
    rw [if_pos rfl, sign_ok, some_bind, h1, if_neg (by simp), sign_ok, some_bind, h2, if_neg (by simp)]
  | @plI f a b x i r h1 hd h2 hd2 ih1 ih2 =>
    intro ha hf o
    have h0 := sgnAt_lt h1
    have hb := sgnAt_lt h2
    have q := hd.inR (by omega)
    simp only [InR] at q
    have e : expr_parser_expr t ((a + 1 : Nat) : Int) 0 = some (i, t, (b : Int), 0) := expr_1p ((ih1 (by omega)).level (by omega))
    have e2 : PR t (expr_parser_post_L3 f o _ t ((b + 1 : Nat) : Int) 0) r := ih2 (by omega) (by omega) o
    rw [expr_parser_post_L3_eq]; unfold expr_parser_post_L3_B
    rw [if_pos rfl, sign_ok, some_bind, h1, if_pos rfl, wi_succ hl (by omega), e, some_bind]
    dsimp only
    rw [need_yes _ t hl b h2, some_bind]
    dsimp only
    rw [made_ok _ t (by omega) f (b + 1) (by omega) (by omega), some_bind]
    exact e2
  | @plI1 f a b x h1 hd ih1 =>
    intro ha hf o
    have h0 := sgnAt_lt h1
    obtain ⟨y, e⟩ : ∃ y, expr_parser_expr t ((a + 1 : Nat) : Int) 0 = some (y, t, (b : Int), 6) := expr_1p ((ih1 (by omega)).level (by omega))
    rw [expr_parser_post_L3_eq]; unfold expr_parser_post_L3_B
    rw [if_pos rfl, sign_ok, some_bind, h1, if_pos rfl, wi_succ hl (by omega), e, some_bind]
    dsimp only
    rw [need_bad _ _ _ six, some_bind]
    dsimp only
    rw [made_bad _ _ _ _ six, some_bind]
    exact ⟨_, L3_bad _ _ _ _ _ six⟩
  | @plI2 f a b x i h1 hd h2 ih1 =>
    intro ha hf o
    have h0 := sgnAt_lt h1
    have e : expr_parser_expr t ((a + 1 : Nat) : Int) 0 = some (i, t, (b : Int), 0) := expr_1p ((ih1 (by omega)).level (by omega))
    rw [expr_parser_post_L3_eq]; unfold expr_parser_post_L3_B
    rw [if_pos rfl, sign_ok, some_bind, h1, if_pos rfl, wi_succ hl (by omega), e, some_bind]
    dsimp only
    rw [need_no _ t hl b h2, some_bind]
    dsimp only
    rw [made_bad _ _ _ _ six, some_bind]
    exact ⟨_, L3_bad _ _ _ _ _ six⟩
  | @plF f a x r h0 h1 h2 hd ih =>
    intro ha hf o
    have h3 := tokAt_lt (t := t) (a := a + 1) (by rw [h2]; decide)
    have e2 : PR t (expr_parser_post_L3 f o _ t ((a + 2 : Nat) : Int) 0) r := ih (by omega) (by omega) o
    rw [expr_parser_post_L3_eq]; unfold expr_parser_post_L3_B
    rw [if_pos rfl, sign_ok, some_bind, h0, if_neg (by simp), sign_ok, some_bind, h1, if_pos rfl, wi_succ hl (by omega), name_yes t hl (a + 1) h2, some_bind]
    dsimp only
    rw [made_ok _ t (by omega) f (a + 1 + 1) (by omega) (by omega), some_bind]
    exact e2
  | @plFB f a x h0 h1 h2 =>
    intro ha hf o
    have h3 := sgnAt_lt h1
    rw [expr_parser_post_L3_eq]; unfold expr_parser_post_L3_B
    rw [if_pos rfl, sign_ok, some_bind, h0, if_neg (by simp), sign_ok, some_bind, h1, if_pos rfl, wi_succ hl (by omega), name_no t (a + 1) h2, some_bind]
    dsimp only
    rw [made_bad _ _ _ _ six, some_bind]
    exact ⟨_, L3_bad _ _ _ _ _ six⟩
  | one h1 => intro ha; exact patom_one t hl _ h1
  | @par a b x h1 hd h2 ih =>
    intro ha
    have h0 := sgnAt_lt (atomK_paren h1)
    have hb := sgnAt_lt h2
    have e : expr_parser_expr t ((a + 1 : Nat) : Int) 0 = some (x, t, (b : Int), 0) := expr_1p ((ih (by omega)).level (by omega))
    show expr_parser_atom t a 0 = _
    rw [patom_br t a _ (atomK_paren h1), expr_parser_bracket_eq]; unfold expr_parser_bracket_B
    rw [if_pos rfl, wi_succ hl (by omega), e, some_bind]
    dsimp only
    rw [need_yes _ t hl b h2]; rfl
  | @par1 a b h1 hd ih =>
    intro ha
    have h0 := sgnAt_lt (atomK_paren h1)
    obtain ⟨y, e⟩ : ∃ y, expr_parser_expr t ((a + 1 : Nat) : Int) 0 = some (y, t, (b : Int), 6) := expr_1p ((ih (by omega)).level (by omega))
    show ∃ y, expr_parser_atom t a 0 = _
    rw [patom_br t a _ (atomK_paren h1), expr_parser_bracket_eq]; unfold expr_parser_bracket_B
    rw [if_pos rfl, wi_succ hl (by omega), e, some_bind]
    dsimp only
    rw [need_bad _ _ _ six]; exact ⟨_, rfl⟩
  | @par2 a b x h1 hd h2 ih =>
    intro ha
    have h0 := sgnAt_lt (atomK_paren h1)
    have e : expr_parser_expr t ((a + 1 : Nat) : Int) 0 = some (x, t, (b : Int), 0) := expr_1p ((ih (by omega)).level (by omega))
    show ∃ y, expr_parser_atom t a 0 = _
    rw [patom_br t a _ (atomK_paren h1), expr_parser_bracket_eq]; unfold expr_parser_bracket_B
    rw [if_pos rfl, wi_succ hl (by omega), e, some_bind]
    dsimp only
    rw [need_no _ t hl b h2]; exact ⟨_, rfl⟩
  | @call a o b k s few l h1 hd ih =>
    intro ha
    have h0 := atomK_call h1
    have q := hd.inR h0.2
    simp only [InR] at q
    have e := (ih h0.2).1 _ _ rfl
    show expr_parser_atom t a 0 = _
    rw [patom_call t hl a h1, e, some_bind]
    dsimp only
    rw [made_ok _ t (by omega) a b (by omega) q.2]; rfl
  | @callB a o b k s few h1 hd ih =>
    intro ha
    have h0 := atomK_call h1
    obtain ⟨l, e⟩ := (ih h0.2).2 _ rfl
    show ∃ y, expr_parser_atom t a 0 = _
    rw [patom_call t hl a h1, e, some_bind]
    dsimp only
    rw [made_bad _ _ _ _ six]; exact ⟨_, rfl⟩
  | @lis a b l h1 hd h2 ih =>
    intro ha
    have h0 := sgnAt_lt (atomK_lis h1)
    have hb := sgnAt_lt h2
    have q := hd.inR (by omega)
    simp only [InR] at q
    have e := (ih (by omega) (by simp)).1 _ _ rfl
    show expr_parser_atom t a 0 = _
    rw [patom_br t a _ (atomK_lis h1), expr_parser_bracket_eq]; unfold expr_parser_bracket_B
    rw [if_neg (by decide), if_pos rfl, wi_succ hl (by omega), list_eq, e, some_bind]
    dsimp only
    rw [need_yes _ t hl b h2, some_bind]
    dsimp only
    rw [made_ok _ t (by omega) a (b + 1) (by omega) (by omega)]; rfl
  | @lis1 a b h1 hd ih =>
    intro ha
    have h0 := sgnAt_lt (atomK_lis h1)
    obtain ⟨l, e⟩ := (ih (by omega) (by simp)).2 _ rfl
    show ∃ y, expr_parser_atom t a 0 = _
    rw [patom_br t a _ (atomK_lis h1), expr_parser_bracket_eq]; unfold expr_parser_bracket_B
    rw [if_neg (by decide), if_pos rfl, wi_succ hl (by omega), list_eq, e, some_bind]
    dsimp only
    rw [need_bad _ _ _ six, some_bind]
    dsimp only
    rw [made_bad _ _ _ _ six]; exact ⟨_, rfl⟩
  | @lis2 a b l h1 hd h2 ih =>
    intro ha
    have h0 := sgnAt_lt (atomK_lis h1)
    have e := (ih (by omega) (by simp)).1 _ _ rfl
    show ∃ y, expr_parser_atom t a 0 = _
    rw [patom_br t a _ (atomK_lis h1), expr_parser_bracket_eq]; unfold expr_parser_bracket_B
    rw [if_neg (by decide), if_pos rfl, wi_succ hl (by omega), list_eq, e, some_bind]
    dsimp only
    rw [need_no _ t hl b h2, some_bind]
    dsimp only
    rw [made_bad _ _ _ _ six]; exact ⟨_, rfl⟩
  | @nm a h1 =>
    intro ha
    obtain ⟨h2, h3⟩ := atomK_nm h1
    show ∃ y, expr_parser_atom t a 0 = _
    rcases h2 with h2 | h2
    · have h0 := wrdAt_lt h2
      rw [patom_wd t a _ h2, expr_parser_word_eq]; unfold expr_parser_word_B
      rw [if_neg (by decide), if_neg (by decide), if_neg (by decide), if_pos rfl, wi_succ hl (by omega), name_no t (a + 1) h3, some_bind]
      dsimp only
      rw [args_bad _ _ _ six, some_bind]
      dsimp only
      rw [made_bad _ _ _ _ six]; exact ⟨_, rfl⟩
    · have h0 := sgnAt_lt h2
      rw [patom_br t a _ h2, expr_parser_bracket_eq]; unfold expr_parser_bracket_B
      rw [if_neg (by decide), if_neg (by decide), if_pos rfl, wi_succ hl (by omega), name_no t (a + 1) h3, some_bind]
      dsimp only
      rw [args_bad _ _ _ six, some_bind]
      dsimp only
      rw [made_bad _ _ _ _ six]; exact ⟨_, rfl⟩
  | @no a h1 =>
    intro ha
    obtain ⟨k2, k1, w1, w2, w3, w4, s1, s2, s3⟩ := atomK_no h1
    show ∃ y, expr_parser_atom t a 0 = _
    rw [expr_parser_atom_eq]; unfold expr_parser_atom_B
    rw [if_pos rfl, now_ok, some_bind, if_neg k2, if_neg k1]
    have back : a < t.length → IntKind.wrap .i64 ((IntKind.wrap .i64 ((a : Int) + 1)) - 1) = (a : Int) := fun h => by
      rw [wi_succ hl (by omega), wi_id (by omega) (by omega)]; omega
    by_cases k3 : (tokAt t a).K = 3
    · have h0 := tokAt_lt (t := t) (a := a) (by rw [k3]; decide)
      have ne : ∀ s, wrdAt t a s = false → (tokAt t a).S ≠ s := fun s h e => by
        unfold wrdAt at h; rw [k3, e] at h; simp at h
      rw [if_pos k3, expr_parser_word_eq]; unfold expr_parser_word_B
      rw [if_neg (ne _ w1), if_neg (ne _ w2), if_neg (ne _ w3), if_neg (ne _ w4), back h0]
      exact ⟨_, rfl⟩
    · rw [if_neg k3]
      by_cases k4 : (tokAt t a).K = 4
      · have h0 := tokAt_lt (t := t) (a := a) (by rw [k4]; decide)
        have ne : ∀ s, sgnAt t a s = false → (tokAt t a).S ≠ s := fun s h e => by
          unfold sgnAt at h; rw [k4, e] at h; simp at h
        rw [if_pos k4, expr_parser_bracket_eq]; unfold expr_parser_bracket_B
        rw [if_neg (ne _ s1), if_neg (ne _ s2), if_neg (ne _ s3), back h0]
        exact ⟨_, rfl⟩
      · rw [if_neg k4]
        exact ⟨_, rfl⟩
  | @cls0 a few h1 =>
    intro ha
    refine ⟨(fun _ _ h => by cases h), fun b h => ?_⟩
    cases h
    rw [expr_parser_args_eq]; unfold expr_parser_args_B
    rw [need_no _ t hl a h1, some_bind]
    dsimp only
    rw [if_neg (by decide), list_bad _ _ six, some_bind]
    dsimp only
    rw [need_bad _ _ _ six]
    exact ⟨_, rfl⟩
  | @clsF a h1 h2 =>
    intro ha
    have h0 := sgnAt_lt h2
    refine ⟨fun _ _ h => ?_, fun b h => by cases h⟩
    cases h
    rw [expr_parser_args_eq]; unfold expr_parser_args_B
    rw [need_yes _ t hl a h1, some_bind]
    dsimp only
    rw [if_pos rfl, if_pos rfl, sign_ok, some_bind, h2, if_pos rfl, wi_succ hl (by omega)]
  | @cls a b few l h1 h2 hd h3 ih =>
    intro ha
    have h0 := sgnAt_lt h1
    have hb := sgnAt_lt h3
    have e := (ih (by omega) (by simp)).1 _ _ rfl
    refine ⟨fun _ _ h => ?_, fun b h => by cases h⟩
    cases h
    rw [args_list few t hl a h1 h2, list_eq, e, some_bind]
    dsimp only
    rw [need_yes _ t hl b h3]; rfl
  | @cls1 a b few h1 h2 hd ih =>
    intro ha
    have h0 := sgnAt_lt h1
    obtain ⟨l, e⟩ := (ih (by omega) (by simp)).2 _ rfl
    refine ⟨(fun _ _ h => by cases h), fun _ h => ?_⟩
    cases h
    rw [args_list few t hl a h1 h2, list_eq, e, some_bind]
    dsimp only
    rw [need_bad _ _ _ six]
    exact ⟨_, rfl⟩
  | @cls2 a b few l h1 h2 hd h3 ih =>
    intro ha
    have h0 := sgnAt_lt h1
    have e := (ih (by omega) (by simp)).1 _ _ rfl
    refine ⟨(fun _ _ h => by cases h), fun _ h => ?_⟩
    cases h
    rw [args_list few t hl a h1 h2, list_eq, e, some_bind]
    dsimp only
    rw [need_no _ t hl b h3]
    exact ⟨_, rfl⟩
  | @lstE a b acc x hd h1 ih =>
    intro ha hacc
    have e : expr_parser_expr t a 0 = some (x, t, (b : Int), 0) := expr_1p ((ih ha).level (by omega))
    refine ⟨fun _ _ h => ?_, fun _ h => by cases h⟩
    cases h
    rw [e, some_bind]
    dsimp only
    rw [expr_parser_list_parser_expr_L2_eq]; unfold expr_parser_list_parser_expr_L2_B
    rw [if_pos rfl, sign_ok, some_bind, h1]; rfl
  | @lstG a b acc x r hd h1 hd2 ih1 ih2 =>
    intro ha hacc
    have hb := sgnAt_lt h1
    have q := hd.inR ha
    simp only [InR] at q
    have e : expr_parser_expr t a 0 = some (x, t, (b : Int), 0) := expr_1p ((ih1 ha).level (by omega))
    have e2 := ih2 (by omega) (by simp; omega)
    have hs : (expr_parser_expr t a 0 >>= fun q => expr_parser_list_parser_expr_L2 (acc ++ [q.1]) q.2.1 q.2.2.1 q.2.2.2) = (expr_parser_expr t ((b + 1 : Nat) : Int) 0 >>= fun q => expr_parser_list_parser_expr_L2 ((acc ++ [x]) ++ [q.1]) q.2.1 q.2.2.1 q.2.2.2) := by
      rw [e, some_bind]
      dsimp only
      rw [expr_parser_list_parser_expr_L2_eq]; unfold expr_parser_list_parser_expr_L2_B
      rw [if_pos rfl, sign_ok, some_bind, h1, if_pos rfl, wi_succ hl (by omega)]
      congr 1
      funext q
      rw [if_pos (room72 (by simp; omega))]
    rw [hs]
    exact e2
  | @lstB a b acc hd ih =>
    intro ha hacc
    obtain ⟨y, e⟩ : ∃ y, expr_parser_expr t a 0 = some (y, t, (b : Int), 6) := expr_1p ((ih ha).level (by omega))
    refine ⟨(fun _ _ h => by cases h), fun _ h => ?_⟩
    cases h
    rw [e, some_bind]
    exact ⟨_, L2_bad _ _ _ six⟩
end Go.Proofs.Ytelddjedpmfclaa.M
