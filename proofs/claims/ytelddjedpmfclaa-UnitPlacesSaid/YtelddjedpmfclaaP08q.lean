/- The program reads a statement as the rules say: all together. -/
import Derived.Test.YtelddjedpmfclaaP08p
namespace Go.Proofs.Ytelddjedpmfclaa.M
open Go Nt
set_option linter.unusedVariables false
set_option linter.unusedSimpArgs false
def FM (t : List Token) (k : Int) (f : Nat) (p : Option (List Term × Str × Int × Int)) (r : Res) : Prop :=
  (∀ x b, r = .ok x b → ∃ ps nm, p = some (ps, nm, (b : Int), 0) ∧ x = placed t f b ⟨k, 0, nm, ps, 0, 0⟩ ∧ f < b ∧ b ≤ t.length) ∧ (∀ b, r = .bad b → ∃ ps nm, p = some (ps, nm, (b : Int), 6))
def PS (t : List Token) : SCat → Nat → Res → Prop
  | .stmt, a, r => PR t (stmt_reader_stmt t a 0) r
  | .blk, a, r => PR t (stmt_reader_block t a 0) r
  | .sl f acc, a, r => f < a → acc.length < a → ∀ o, PR t (stmt_reader_block_L4 f acc o t a 0) r
  | .form k f its parts name, a, r => FM t k f (runIts t its parts name a 0) r
theorem FM.fin {t : List Token} (hl : t.length ≤ 1048576) {k : Int} {f : Nat} {p : Option (List Term × Str × Int × Int)} {r : Res} (h : FM t k f p r) : PR t (mkF t k f p) r := by
  cases r with
  | ok x b =>
    obtain ⟨ps, nm, e, e2, h1, h2⟩ := h.1 x b rfl
    show _ = _
    rw [e]; unfold mkF; rw [some_bind]
    dsimp only
    rw [smade_ok k nm ps t (by omega) f b h1 h2, e2]; rfl
  | bad b =>
    obtain ⟨ps, nm, e⟩ := h.2 b rfl
    show ∃ y, _ = _
    rw [e]; unfold mkF; rw [some_bind]
    dsimp only
    rw [smade_bad _ _ _ _ _ _ six]
    exact ⟨_, rfl⟩
theorem FM.bad {t : List Token} {k : Int} {f b : Nat} {its : List It} {ps : List Term} {nm : Str} : FM t k f (runIts t its ps nm b 6) (.bad b) :=
  ⟨(fun _ _ h => by cases h), fun c h => by cases h; exact run_bad t b six its ps nm⟩
theorem kind_at (t : List Token) (a : Nat) : (sgnAt t a [123] = true → stmt_kind (tokAt t a) = some 51) ∧ (wrdAt t a wLet = true → stmt_kind (tokAt t a) = some 68) ∧ (wrdAt t a wIf = true → stmt_kind (tokAt t a) = some 69) ∧ (wrdAt t a wWhile = true → stmt_kind (tokAt t a) = some 70) ∧
    (wrdAt t a wFor = true → stmt_kind (tokAt t a) = some 71) ∧ (wrdAt t a wPrint = true → stmt_kind (tokAt t a) = some 72) ∧ (wrdAt t a wReturn = true → stmt_kind (tokAt t a) = some 73) ∧ (wrdAt t a wDo = true → stmt_kind (tokAt t a) = some 74) := by
  have w : ∀ {s : Str} {n : Nat}, stmt_kind ⟨3, (tokAt t a).N, s, (tokAt t a).From, (tokAt t a).To⟩ = some n → wrdAt t a s = true → stmt_kind (tokAt t a) = some n := fun {s n} h hw => by
    obtain ⟨h1, h2⟩ := wrd_k hw
    rw [← h, ← h1, ← h2]
  refine ⟨fun h => ?_, w rfl, w rfl, w rfl, w rfl, w rfl, w rfl, w rfl⟩
  obtain ⟨h1, h2⟩ := sgn_k h
  unfold stmt_kind
  rw [if_pos h1, if_pos h2]
theorem kind_set (t : List Token) (a : Nat) (h0 : sgnAt t a [123] = false) (h1 : ¬ wrdAt t a wLet = true) (h2 : ¬ wrdAt t a wIf = true) (h3 : ¬ wrdAt t a wWhile = true) (h4 : ¬ wrdAt t a wFor = true) (h5 : ¬ wrdAt t a wPrint = true) (h6 : ¬ wrdAt t a wReturn = true) (h7 : ¬ wrdAt t a wDo = true) : stmt_kind (tokAt t a) = some 67 := by
  unfold stmt_kind
  by_cases k4 : (tokAt t a).K = 4
  · rw [if_pos k4, if_neg (fun e => by unfold sgnAt at h0; rw [k4, e] at h0; simp at h0)]
  · rw [if_neg k4]
    by_cases k3 : (tokAt t a).K = 3
    · have ne : ∀ s, ¬ wrdAt t a s = true → ¬ (tokAt t a).S = s := fun s h e => h (by unfold wrdAt; rw [k3, e]; simp)
      rw [if_pos k3, if_neg (ne _ h1), if_neg (ne _ h2), if_neg (ne _ h3), if_neg (ne _ h4), if_neg (ne _ h5), if_neg (ne _ h6), if_neg (ne _ h7)]
    · rw [if_neg k3]
theorem PR.id {t : List Token} {p : Option (Term × List Token × Int × Int)} {r : Res} (h : PR t p r) : PR t (p >>= fun x => some (x.1, x.2.1, x.2.2.1, x.2.2.2)) r := by
  cases p with
  | none => cases r with
    | ok x b => cases h
    | bad b => obtain ⟨y, h⟩ := h; cases h
  | some q => exact h
/-- what a statement's form comes to -/
theorem stmt_form {t : List Token} (hl : t.length ≤ 1048576) {a : Nat} {r : Res} (ha : a ≤ t.length) (h0 : sgnAt t a [123] = false) (h : FM t (formOf t a).1 a (runIts t (formOf t a).2 [] [] a 0) r) : PR t (stmt_reader_stmt t a 0) r := by
  have w1 : ∀ {s : Str} {its : List It}, wrdAt t a s = true → runIts t (.word s :: its) [] [] a 0 = runIts t its [] [] ((a + 1 : Nat) : Int) 0 := fun {s its} hw => by
    rw [runIts, sneed_wrd s t hl a, if_pos hw]; rfl
  obtain ⟨-, q1, q2, q3, q4, q5, q6, q7⟩ := kind_at t a
  rw [stmt_reader_stmt_eq]; unfold stmt_reader_stmt_B
  rw [snow_ok, some_bind]
  unfold formOf at h
  by_cases g1 : wrdAt t a wLet = true
  · have hlt := wrdAt_lt g1
    rw [if_pos g1] at h
    rw [q1 g1, some_bind, if_neg (by decide), if_neg (by decide), if_pos rfl]
    by_cases g2 : (tokAt t (a + 1)).K = 1 ∧ sgnAt t (a + 2) [58] = true
    · rw [if_pos g2] at h
      dsimp only at h
      rw [w1 g1] at h
      rw [let21_ok t hl a g2.1 g2.2]
      exact (h.fin hl).id
    · rw [if_neg g2] at h
      dsimp only at h
      rw [w1 g1] at h
      rw [let20_ok t hl a hlt g2]
      exact (h.fin hl).id
  rw [if_neg g1] at h
  by_cases g2 : wrdAt t a wIf = true
  · have hlt := wrdAt_lt g2
    rw [if_pos g2] at h
    dsimp only at h
    rw [w1 g2] at h
    rw [q2 g2, some_bind, if_neg (by decide), if_neg (by decide), if_neg (by decide), if_pos rfl, cond_ok t hl a hlt (blk_t t)]
    exact (h.fin hl).id
  rw [if_neg g2] at h
  by_cases g3 : wrdAt t a wWhile = true
  · have hlt := wrdAt_lt g3
    rw [if_pos g3] at h
    dsimp only at h
    rw [w1 g3] at h
    rw [q3 g3, some_bind, if_neg (by decide), if_neg (by decide), if_neg (by decide), if_neg (by decide), if_pos rfl, while_ok t hl a hlt (blk_t t)]
    exact (h.fin hl).id
  rw [if_neg g3] at h
  by_cases g4 : wrdAt t a wFor = true
  · have hlt := wrdAt_lt g4
    rw [if_pos g4] at h
    dsimp only at h
    rw [w1 g4] at h
    rw [q4 g4, some_bind, if_neg (by decide), if_neg (by decide), if_neg (by decide), if_neg (by decide), if_neg (by decide), if_pos rfl, count_ok t hl a hlt (blk_t t)]
    exact (h.fin hl).id
  rw [if_neg g4] at h
  by_cases g5 : wrdAt t a wPrint = true
  · have hlt := wrdAt_lt g5
    rw [if_pos g5] at h
    dsimp only at h
    rw [w1 g5] at h
    rw [q5 g5, some_bind, if_neg (by decide), if_neg (by decide), if_neg (by decide), if_neg (by decide), if_neg (by decide), if_neg (by decide), if_pos rfl]
    unfold stmt_reader_show
    rw [single_ok, wi_succ hl (by omega)]
    exact (h.fin hl).id.id
  rw [if_neg g5] at h
  by_cases g6 : wrdAt t a wReturn = true
  · have hlt := wrdAt_lt g6
    rw [if_pos g6] at h
    dsimp only at h
    rw [w1 g6] at h
    rw [q6 g6, some_bind, if_neg (by decide), if_neg (by decide), if_neg (by decide), if_neg (by decide), if_neg (by decide), if_neg (by decide), if_neg (by decide), if_pos rfl]
    unfold stmt_reader_back
    rw [single_ok, wi_succ hl (by omega)]
    exact (h.fin hl).id.id
  rw [if_neg g6] at h
  by_cases g7 : wrdAt t a wDo = true
  · have hlt := wrdAt_lt g7
    rw [if_pos g7] at h
    dsimp only at h
    rw [w1 g7] at h
    rw [q7 g7, some_bind, if_neg (by decide), if_neg (by decide), if_neg (by decide), if_neg (by decide), if_neg (by decide), if_neg (by decide), if_neg (by decide), if_neg (by decide), if_pos rfl]
    unfold stmt_reader_call
    rw [single_ok, wi_succ hl (by omega)]
    exact (h.fin hl).id.id
  rw [if_neg g7] at h
  dsimp only at h
  rw [kind_set t a h0 g1 g2 g3 g4 g5 g6 g7, some_bind, if_neg (by decide), if_pos rfl, set_ok]
  exact (h.fin hl).id
theorem prog_of_sder {t : List Token} (hl : t.length ≤ 1048576) {c : SCat} {a : Nat} {r : Res} (h : SDer t c a r) : a ≤ t.length → PS t c a r := by
  have at_lt : ∀ {b : Nat} {s : Str}, wrdAt t b s = true → IntKind.wrap .i64 ((b : Int) + 1) = ((b + 1 : Nat) : Int) := fun {b s} h => by
    have := wrdAt_lt h
    exact wi_succ hl (by omega)
  induction h with
  | @sB a r h1 hd ih =>
    intro ha
    have e : PR t (stmt_reader_block t a 0) r := ih ha
    show PR t (stmt_reader_stmt t a 0) r
    rw [stmt_reader_stmt_eq]; unfold stmt_reader_stmt_B
    rw [snow_ok, some_bind, (kind_at t a).1 h1, some_bind, if_pos rfl]
    exact e.id
  | sF h1 _ ih => intro ha; exact stmt_form hl ha h1 (ih ha)
  | @b0 a h1 =>
    intro ha
    show PR t (stmt_reader_block t a 0) (.bad a)
    rw [stmt_reader_block_eq]; unfold stmt_reader_block_B
    rw [sneed_sgn _ t hl a, h1, if_neg (by simp), some_bind]
    exact ⟨_, sl_bad _ _ _ _ _ six⟩
  | @b1 a r h1 hd ih =>
    intro ha
    have h0 := sgnAt_lt h1
    show PR t (stmt_reader_block t a 0) r
    rw [stmt_reader_block_eq]; unfold stmt_reader_block_B
    rw [sneed_sgn _ t hl a, if_pos h1, some_bind]
    exact ih (by omega) (by omega) (by simp) _
  | @lE f a acc h1 =>
    intro ha hf hacc o
    have h0 := sgnAt_lt h1
    show _ = _
    rw [stmt_reader_block_L4_eq]; unfold stmt_reader_block_L4_B
    rw [if_pos rfl, sis_sgn, some_bind, if_pos h1, sneed_sgn _ t hl a, if_pos h1, some_bind]
    dsimp only
    rw [smade_ok 29 [] acc t (by omega) f (a + 1) (by omega) (by omega)]; rfl
  | @lG f a b acc x r h1 hd _ ih1 ih2 =>
    intro ha hf hacc o
    have q := hd.inS ha; simp only [InS] at q
    have e : stmt_reader_stmt t a 0 = some (x, t, (b : Int), 0) := ih1 ha
    rw [stmt_reader_block_L4_eq]; unfold stmt_reader_block_L4_B
    rw [if_pos rfl, sis_sgn, some_bind, h1, if_neg (by simp), e, some_bind, if_pos (room72 (by simp; omega))]
    exact ih2 q.2 (by omega) (by simp; omega) o
  | @lB f a b acc h1 hd ih1 =>
    intro ha hf hacc o
    obtain ⟨y, e⟩ : ∃ y, stmt_reader_stmt t a 0 = some (y, t, (b : Int), 6) := ih1 ha
    rw [stmt_reader_block_L4_eq]; unfold stmt_reader_block_L4_B
    rw [if_pos rfl, sis_sgn, some_bind, h1, if_neg (by simp), e, some_bind, if_pos (room72 (by simp; omega))]
    exact ⟨_, sl_bad _ _ _ _ _ six⟩
  | @fE f a k parts name h1 =>
    intro ha
    exact ⟨fun x b e => by cases e; exact ⟨parts, name, rfl, rfl, h1, ha⟩, fun b e => by cases e⟩
  | @fW f a k s its parts name r h1 _ ih =>
    intro ha
    have h0 := wrdAt_lt h1
    show FM t k f (runIts t (.word s :: its) parts name a 0) r
    rw [runIts, sneed_wrd s t hl a, if_pos h1, some_bind]
    exact ih (by omega)
  | @fW0 f a k s its parts name h1 =>
    intro ha
    show FM t k f (runIts t (.word s :: its) parts name a 0) (.bad a)
    rw [runIts, sneed_wrd s t hl a, h1, if_neg (by simp), some_bind]
    exact FM.bad
  | @fS f a k s its parts name r h1 _ ih =>
    intro ha
    have h0 := sgnAt_lt h1
    show FM t k f (runIts t (.sign s :: its) parts name a 0) r
    rw [runIts, sneed_sgn s t hl a, if_pos h1, some_bind]
    exact ih (by omega)
  | @fS0 f a k s its parts name h1 =>
    intro ha
    show FM t k f (runIts t (.sign s :: its) parts name a 0) (.bad a)
    rw [runIts, sneed_sgn s t hl a, h1, if_neg (by simp), some_bind]
    exact FM.bad
  | @fN f a k its parts name r h1 _ ih =>
    intro ha
    have h0 := tokAt_lt (t := t) (a := a) (by rw [h1]; decide)
    show FM t k f (runIts t (.name :: its) parts name a 0) r
    rw [runIts, sname_ok t hl a, if_pos h1, some_bind]
    exact ih (by omega)
  | @fN0 f a k its parts name h1 =>
    intro ha
    show FM t k f (runIts t (.name :: its) parts name a 0) (.bad a)
    rw [runIts, sname_ok t hl a, if_neg h1, some_bind]
    exact FM.bad
  | @fX f a b k its parts name x r hd _ ih =>
    intro ha
    have q := hd.inR ha; simp only [InR] at q
    show FM t k f (runIts t (.expr :: its) parts name a 0) r
    rw [runIts, sexpr_ok t hl a ha hd, some_bind]
    exact ih q.2
  | @fX0 f a b k its parts name hd =>
    intro ha
    show FM t k f (runIts t (.expr :: its) parts name a 0) (.bad b)
    rw [runIts, sexpr_no t hl a ha hd, some_bind]
    exact FM.bad
  | @fT f a k its parts name r h1 _ ih =>
    intro ha
    have q : a < (typAt t a).2.1 ∧ (typAt t a).2.1 ≤ t.length := typ_pl (t.length + 1) t a (by omega) h1
    show FM t k f (runIts t (.type :: its) parts name a 0) r
    rw [runIts, stype_ok t hl a ha, if_pos h1, some_bind]
    dsimp only
    have h1' : (typ (t.length + 1) t a).2.2 = 0 := h1
    rw [h1']
    exact ih q.2
  | @fT0 f a k its parts name h1 =>
    intro ha
    show FM t k f (runIts t (.type :: its) parts name a 0) (.bad _)
    rw [runIts, stype_ok t hl a ha, if_neg h1, some_bind]
    dsimp only
    have h6 : (typ (t.length + 1) t a).2.2 = 6 := (typ_err (t.length + 1) t a).resolve_left h1
    rw [h6]
    exact FM.bad
  | @fK f a b k its parts name x r hd _ ih1 ih2 =>
    intro ha
    have q := hd.inS ha; simp only [InS] at q
    have e : stmt_reader_block t a 0 = some (x, t, (b : Int), 0) := ih1 ha
    show FM t k f (runIts t (.block :: its) parts name a 0) r
    rw [runIts, e, some_bind]
    exact ih2 q.2
  | @fK0 f a b k its parts name hd ih1 =>
    intro ha
    obtain ⟨y, e⟩ : ∃ y, stmt_reader_block t a 0 = some (y, t, (b : Int), 6) := ih1 ha
    show FM t k f (runIts t (.block :: its) parts name a 0) (.bad b)
    rw [runIts, e, some_bind]
    exact FM.bad
  | @fE0 f a b k its parts name hd ih1 =>
    intro ha
    obtain ⟨y, e⟩ : ∃ y, stmt_reader_block t a 0 = some (y, t, (b : Int), 6) := ih1 ha
    show FM t k f (runIts t (.be :: its) parts name a 0) (.bad b)
    rw [runIts, e, some_bind]
    dsimp only
    rw [if_neg six]
    exact FM.bad
  | @fE1 f a b k its parts name x r hd hw _ ih1 ih2 =>
    intro ha
    have q := hd.inS ha; simp only [InS] at q
    have e : stmt_reader_block t a 0 = some (x, t, (b : Int), 0) := ih1 ha
    show FM t k f (runIts t (.be :: its) parts name a 0) r
    rw [runIts, e, some_bind]
    dsimp only
    rw [if_pos rfl, sis_wrd, some_bind, hw, if_neg (by simp), blk_to hd trivial x b rfl]
    exact ih2 q.2
  | @fE2 f a b c k its parts name x y r hd hw hd2 _ ih1 ih2 ih3 =>
    intro ha
    have hb := wrdAt_lt hw
    have q := hd.inS ha; simp only [InS] at q
    have q2 := hd2.inS (by omega); simp only [InS] at q2
    have e : stmt_reader_block t a 0 = some (x, t, (b : Int), 0) := ih1 ha
    have e2 : stmt_reader_block t ((b + 1 : Nat) : Int) 0 = some (y, t, (c : Int), 0) := ih2 (by omega)
    show FM t k f (runIts t (.be :: its) parts name a 0) r
    rw [runIts, e, some_bind]
    dsimp only
    rw [if_pos rfl, sis_wrd, some_bind, if_pos hw, at_lt hw, e2, some_bind]
    exact ih3 q2.2
  | @fE3 f a b c k its parts name x hd hw hd2 ih1 ih2 =>
    intro ha
    have hb := wrdAt_lt hw
    have e : stmt_reader_block t a 0 = some (x, t, (b : Int), 0) := ih1 ha
    obtain ⟨y, e2⟩ : ∃ y, stmt_reader_block t ((b + 1 : Nat) : Int) 0 = some (y, t, (c : Int), 6) := ih2 (by omega)
    show FM t k f (runIts t (.be :: its) parts name a 0) (.bad c)
    rw [runIts, e, some_bind]
    dsimp only
    rw [if_pos rfl, sis_wrd, some_bind, if_pos hw, at_lt hw, e2, some_bind]
    exact FM.bad
/-- the program's answers -/
def ans : Res → Term × Int × Int
  | .ok x b => (x, (b : Int), 0)
  | .bad b => (zT7, (b : Int), 6)
theorem sblock_ok (t : List Token) (hl : t.length ≤ 1048576) (a : Nat) (ha : a ≤ t.length) {r : Res} (h : SDer t .blk a r) : stmt_Block t a = some (ans r) := by
  have hp : PR t (stmt_reader_block t a 0) r := prog_of_sder hl h ha
  unfold stmt_Block stmt_start_reader_block
  rw [if_neg (by omega), if_neg (by omega)]
  cases r with
  | ok x b => rw [show stmt_reader_block t (a : Int) 0 = some (x, t, (b : Int), 0) from hp]; rfl
  | bad b => obtain ⟨y, hp⟩ := hp; rw [hp]; rfl
end Go.Proofs.Ytelddjedpmfclaa.M
