/- The program reads a statement as the rules say. -/
import Derived.Test.YtelddjedpmfclaaP08d
namespace Go.Proofs.Ytelddjedpmfclaa.M
open Go Nt
set_option linter.unusedVariables false
set_option linter.unusedSimpArgs false
theorem snow_ok (t : List Token) (a : Nat) (e : Int) : stmt_reader_now t a e = some (tokAt t a) := by
  unfold stmt_reader_now tokAt
  by_cases h : a < t.length
  · rw [if_pos (show (a : Int) < (t.length : Int) by omega), idx_lt h, some_bind, List.getElem?_eq_getElem h]; rfl
  · rw [if_neg (show ¬ (a : Int) < (t.length : Int) by omega), List.getElem?_eq_none (by omega)]; rfl
theorem sis_sgn (s : Str) (t : List Token) (a : Nat) (e : Int) : stmt_reader_is 4 s t a e = some (sgnAt t a s) := by
  unfold stmt_reader_is sgnAt
  rw [snow_ok, some_bind]
  by_cases h : (tokAt t a).K = 4
  · rw [if_pos h, decide_eq_true h]; rfl
  · rw [if_neg h, decide_eq_false h]; rfl
theorem sis_wrd (s : Str) (t : List Token) (a : Nat) (e : Int) : stmt_reader_is 3 s t a e = some (wrdAt t a s) := by
  unfold stmt_reader_is wrdAt
  rw [snow_ok, some_bind]
  by_cases h : (tokAt t a).K = 3
  · rw [if_pos h, decide_eq_true h]; rfl
  · rw [if_neg h, decide_eq_false h]; rfl
theorem sneed_sgn (s : Str) (t : List Token) (hl : t.length ≤ 1048576) (a : Nat) : stmt_reader_need 4 s t a 0 = if sgnAt t a s = true then some (t, ((a + 1 : Nat) : Int), 0) else some (t, (a : Int), 6) := by
  unfold stmt_reader_need
  rw [if_pos rfl, sis_sgn, some_bind]
  by_cases h : sgnAt t a s = true
  · have := sgnAt_lt h
    rw [if_pos h, if_pos h, wi_succ hl (by omega)]
  · rw [if_neg h, if_neg h]
theorem sneed_wrd (s : Str) (t : List Token) (hl : t.length ≤ 1048576) (a : Nat) : stmt_reader_need 3 s t a 0 = if wrdAt t a s = true then some (t, ((a + 1 : Nat) : Int), 0) else some (t, (a : Int), 6) := by
  unfold stmt_reader_need
  rw [if_pos rfl, sis_wrd, some_bind]
  by_cases h : wrdAt t a s = true
  · have := wrdAt_lt h
    rw [if_pos h, if_pos h, wi_succ hl (by omega)]
  · rw [if_neg h, if_neg h]
theorem sneed_bad (k : Int) (s : Str) (t : List Token) (a : Int) {e : Int} (h : e ≠ 0) : stmt_reader_need k s t a e = some (t, a, e) := by
  unfold stmt_reader_need; rw [if_neg h]
theorem sname_ok (t : List Token) (hl : t.length ≤ 1048576) (a : Nat) : stmt_reader_name t a 0 = if (tokAt t a).K = 1 then some ((tokAt t a).S, t, ((a + 1 : Nat) : Int), 0) else some ([], t, (a : Int), 6) := by
  unfold stmt_reader_name
  rw [if_pos rfl, snow_ok, some_bind]
  by_cases h : (tokAt t a).K = 1
  · have := tokAt_lt (t := t) (a := a) (by rw [h]; decide)
    rw [if_pos h, if_pos h, wi_succ hl (by omega)]
  · rw [if_neg h, if_neg h]
theorem sname_bad (t : List Token) (a : Int) {e : Int} (h : e ≠ 0) : stmt_reader_name t a e = some ([], t, a, e) := by
  unfold stmt_reader_name; rw [if_neg h]
theorem smade_ok (k : Int) (s : Str) (l : List Term) (t : List Token) (hl : t.length ≤ 9223372036854775807) (f a : Nat) (hf : f < a) (ha : a ≤ t.length) : stmt_reader_made k s f l t a 0 = some (placed t f a ⟨k, 0, s, l, 0, 0⟩) := by
  unfold stmt_reader_made placed tokAt
  have h1 : IntKind.wrap .i64 ((a : Int) - 1) = ((a - 1 : Nat) : Int) := by rw [wi_id (by omega) (by omega)]; omega
  rw [if_pos rfl, idx_lt (show f < t.length by omega), some_bind, h1, idx_lt (show a - 1 < t.length by omega), some_bind, List.getElem?_eq_getElem (show f < t.length by omega), List.getElem?_eq_getElem (show a - 1 < t.length by omega)]; rfl
theorem smade_bad (k : Int) (s : Str) (l : List Term) (t : List Token) (f a : Int) {e : Int} (h : e ≠ 0) : stmt_reader_made k s f l t a e = some zT7 := by
  unfold stmt_reader_made; rw [if_neg h]
theorem sother_bad (t : List Token) (a : Int) {e : Int} (h : e ≠ 0) : stmt_reader_other_Parse t a e = some (zT7, t, a, e) ∧ stmt_reader_other_Type t a e = some (zT7, t, a, e) := by
  unfold stmt_reader_other_Parse stmt_reader_other_Type; rw [if_neg h, if_neg h]; exact ⟨rfl, rfl⟩
theorem sexpr_bad (t : List Token) (a : Int) {e : Int} (h : e ≠ 0) : stmt_reader_expr t a e = some (zT7, t, a, e) := by
  unfold stmt_reader_expr; rw [(sother_bad t a h).1]; rfl
theorem sexpr_ok (t : List Token) (hl : t.length ≤ 1048576) (a : Nat) (ha : a ≤ t.length) {x : Term} {b : Nat} (h : Der t (.lev 1) a (.ok x b)) : stmt_reader_expr t a 0 = some (x, t, (b : Int), 0) := by
  unfold stmt_reader_expr stmt_reader_other_Parse
  rw [if_pos rfl, if_neg (by omega), parse_der t hl a ha h]; rfl
theorem sexpr_no (t : List Token) (hl : t.length ≤ 1048576) (a : Nat) (ha : a ≤ t.length) {b : Nat} (h : Der t (.lev 1) a (.bad b)) : stmt_reader_expr t a 0 = some (zT7, t, (b : Int), 6) := by
  obtain ⟨y, hp⟩ : ∃ y, expr_parser_expr t (a : Int) 0 = some (y, t, (b : Int), 6) := expr_1p ((prog_of_der hl h ha).level (by omega))
  unfold stmt_reader_expr stmt_reader_other_Parse expr_Parse expr_start_parser_expr
  rw [if_pos rfl, if_neg (by omega), if_neg (by omega), if_neg (by omega), hp]; rfl
theorem stype_ok (t : List Token) (hl : t.length ≤ 1048576) (a : Nat) (ha : a ≤ t.length) : stmt_reader_other_Type t a 0 = some (if (typAt t a).2.2 = 0 then (typAt t a).1 else zT7, t, ((typAt t a).2.1 : Int), (typAt t a).2.2) := by
  obtain ⟨x, e1, e2⟩ := kind_ok t (by omega) (t.length + 1) a (by omega) ha
  unfold stmt_reader_other_Type expr_Type expr_start_parser_kind
  rw [if_pos rfl, if_neg (by omega), if_neg (by omega), if_neg (by omega), e1, some_bind]
  dsimp only
  by_cases h : (typAt t a).2.2 = 0
  · rw [if_pos h, if_pos h, e2 h]
    show some _ = _
    rw [h]
  · rw [if_neg h, if_neg h]; rfl
theorem sl_bad (f : Int) (l : List Term) (o : Term) (t : List Token) (a : Int) {e : Int} (h : e ≠ 0) : stmt_reader_block_L4 f l o t a e = some (zT7, t, a, e) := by
  rw [stmt_reader_block_L4_eq]; unfold stmt_reader_block_L4_B
  rw [if_neg h, sneed_bad _ _ _ _ h, some_bind, smade_bad _ _ _ _ _ _ h]; rfl
theorem blk_bad (t : List Token) (a : Int) {e : Int} (h : e ≠ 0) : stmt_reader_block t a e = some (zT7, t, a, e) := by
  rw [stmt_reader_block_eq]; unfold stmt_reader_block_B
  rw [sneed_bad _ _ _ _ h, some_bind, sl_bad _ _ _ _ _ h]
/-- a form's items, as the program goes over them -/
noncomputable def runIts (t : List Token) : List It → List Term → Str → Int → Int → Option (List Term × Str × Int × Int)
  | [], ps, nm, a, e => some (ps, nm, a, e)
  | .word s :: r, ps, nm, a, e => stmt_reader_need 3 s t a e >>= fun q => runIts t r ps nm q.2.1 q.2.2
  | .sign s :: r, ps, nm, a, e => stmt_reader_need 4 s t a e >>= fun q => runIts t r ps nm q.2.1 q.2.2
  | .name :: r, ps, nm, a, e => stmt_reader_name t a e >>= fun q => runIts t r ps q.1 q.2.2.1 q.2.2.2
  | .expr :: r, ps, nm, a, e => stmt_reader_expr t a e >>= fun q => runIts t r (ps ++ [q.1]) nm q.2.2.1 q.2.2.2
  | .type :: r, ps, nm, a, e => stmt_reader_other_Type t a e >>= fun q => runIts t r (ps ++ [q.1]) nm q.2.2.1 q.2.2.2
  | .block :: r, ps, nm, a, e => stmt_reader_block t a e >>= fun q => runIts t r (ps ++ [q.1]) nm q.2.2.1 q.2.2.2
  | .be :: r, ps, nm, a, e => stmt_reader_block t a e >>= fun q =>
      if q.2.2.2 = 0 then (stmt_reader_is 3 wElse t q.2.2.1 q.2.2.2 >>= fun z => if z = true then (stmt_reader_block t (IntKind.wrap .i64 (q.2.2.1 + 1)) q.2.2.2 >>= fun w => runIts t r (ps ++ [q.1] ++ [w.1]) nm w.2.2.1 w.2.2.2)
        else runIts t r (ps ++ [q.1] ++ [emptyBlk q.1.To]) nm q.2.2.1 q.2.2.2)
      else runIts t r (ps ++ [q.1] ++ [emptyBlk q.1.To]) nm q.2.2.1 q.2.2.2
theorem run_bad (t : List Token) (a : Int) {e : Int} (h : e ≠ 0) : ∀ (its : List It) (ps : List Term) (nm : Str), ∃ ps' nm', runIts t its ps nm a e = some (ps', nm', a, e)
  | [], ps, nm => ⟨ps, nm, rfl⟩
  | .word s :: r, ps, nm => by rw [runIts, sneed_bad _ _ _ _ h]; exact run_bad t a h r ps nm
  | .sign s :: r, ps, nm => by rw [runIts, sneed_bad _ _ _ _ h]; exact run_bad t a h r ps nm
  | .name :: r, ps, nm => by rw [runIts, sname_bad _ _ h]; exact run_bad t a h r ps []
  | .expr :: r, ps, nm => by rw [runIts, sexpr_bad _ _ h]; exact run_bad t a h r _ nm
  | .type :: r, ps, nm => by rw [runIts, (sother_bad _ _ h).2]; exact run_bad t a h r _ nm
  | .block :: r, ps, nm => by rw [runIts, blk_bad _ _ h]; exact run_bad t a h r _ nm
  | .be :: r, ps, nm => by
    rw [runIts, blk_bad _ _ h, some_bind]
    dsimp only
    rw [if_neg h]; exact run_bad t a h r _ nm
/-- a statement's function, as its items -/
noncomputable abbrev mkF (t : List Token) (k : Int) (f : Int) (q : Option (List Term × Str × Int × Int)) : Option (Term × List Token × Int × Int) :=
  q >>= fun q => stmt_reader_made k q.2.1 f q.1 t q.2.2.1 q.2.2.2 >>= fun z => some (z, t, q.2.2.1, q.2.2.2)
/-- steps hand the tokens on -/
theorem need_t {k : Int} {s : Str} {t : List Token} {a e : Int} {q : List Token × Int × Int} (h : stmt_reader_need k s t a e = some q) : q.1 = t := by
  unfold stmt_reader_need at h
  by_cases he : e = 0
  · rw [if_pos he] at h
    cases hi : stmt_reader_is k s t a e with
    | none => rw [hi] at h; cases h
    | some z =>
      rw [hi, some_bind] at h
      split at h <;> (cases h; rfl)
  · rw [if_neg he] at h; cases h; rfl
theorem name_t {t : List Token} {a e : Int} {q : Str × List Token × Int × Int} (h : stmt_reader_name t a e = some q) : q.2.1 = t := by
  unfold stmt_reader_name at h
  by_cases he : e = 0
  · rw [if_pos he] at h
    cases hi : stmt_reader_now t a e with
    | none => rw [hi] at h; cases h
    | some z =>
      rw [hi, some_bind] at h
      split at h <;> (cases h; rfl)
  · rw [if_neg he] at h; cases h; rfl
theorem expr_t {t : List Token} {a e : Int} {q : Term × List Token × Int × Int} (h : stmt_reader_expr t a e = some q) : q.2.1 = t := by
  unfold stmt_reader_expr stmt_reader_other_Parse at h
  by_cases he : e = 0
  · rw [if_pos he] at h
    by_cases h1 : a > (List.length t : Int)
    · rw [if_pos h1] at h; cases h; rfl
    · rw [if_neg h1] at h
      cases hi : expr_Parse t a with
      | none => rw [hi] at h; cases h
      | some z => rw [hi] at h; cases h; rfl
  · rw [if_neg he] at h; cases h; rfl
theorem type_t {t : List Token} {a e : Int} {q : Term × List Token × Int × Int} (h : stmt_reader_other_Type t a e = some q) : q.2.1 = t := by
  unfold stmt_reader_other_Type at h
  by_cases he : e = 0
  · rw [if_pos he] at h
    by_cases h1 : a > (List.length t : Int)
    · rw [if_pos h1] at h; cases h; rfl
    · rw [if_neg h1] at h
      cases hi : expr_Type t a with
      | none => rw [hi] at h; cases h
      | some z => rw [hi] at h; cases h; rfl
  · rw [if_neg he] at h; cases h; rfl
theorem bind_congr' {α β : Type} {p : Option α} {f g : α → Option β} (h : ∀ q, p = some q → f q = g q) : (p >>= f) = (p >>= g) := by
  cases p with
  | none => rfl
  | some q => exact h q rfl
theorem assoc {α β γ : Type} (p : Option α) (f : α → Option β) (g : β → Option γ) : ((p >>= f) >>= g) = (p >>= fun x => f x >>= g) := by cases p <;> rfl
theorem single_ok (t : List Token) (k a : Int) : stmt_reader_single k t a 0 = mkF t k a (runIts t [.expr, .sign [59]] [] [] (IntKind.wrap .i64 (a + 1)) 0) := by
  unfold stmt_reader_single mkF
  simp only [runIts, assoc]
  refine bind_congr' fun q hq => ?_
  rw [expr_t hq]
  refine bind_congr' fun z hz => ?_
  rw [need_t hz]; rfl
theorem set_ok (t : List Token) (a : Int) : stmt_reader_set t a 0 = mkF t 22 a (runIts t [.expr, .sign [61], .expr, .sign [59]] [] [] a 0) := by
  unfold stmt_reader_set mkF
  simp only [runIts, assoc]
  refine bind_congr' fun q hq => ?_
  rw [expr_t hq]
  refine bind_congr' fun z hz => ?_
  rw [need_t hz]
  refine bind_congr' fun q hq => ?_
  rw [expr_t hq]
  refine bind_congr' fun z hz => ?_
  rw [need_t hz]; rfl
theorem let21_ok (t : List Token) (hl : t.length ≤ 1048576) (a : Nat) (h1 : (tokAt t (a + 1)).K = 1) (h2 : sgnAt t (a + 2) [58] = true) : stmt_reader_let t a 0 = mkF t 21 a (runIts t [.name, .sign [58], .type, .sign [59]] [] [] ((a + 1 : Nat) : Int) 0) := by
  have k1 := tokAt_lt (t := t) (a := a + 1) (by rw [h1]; decide)
  have k2 := sgnAt_lt h2
  have e1 := sname_ok t hl (a + 1)
  rw [if_pos h1] at e1
  have e2 := sneed_sgn [58] t hl (a + 2)
  rw [if_pos h2] at e2
  unfold stmt_reader_let mkF
  simp only [runIts, assoc]
  rw [wi_succ hl (by omega), e1, some_bind, some_bind]
  show (if (0 : Int) = 0 then _ else _) = (stmt_reader_need 4 [58] t ((a + 2 : Nat) : Int) 0 >>= _)
  rw [if_pos rfl, e2, some_bind]
  show (stmt_reader_is 4 [58] t ((a + 2 : Nat) : Int) 0 >>= _) = _
  rw [sis_sgn, some_bind, if_pos h2]
  show (stmt_reader_other_Type t (IntKind.wrap .i64 (((a + 2 : Nat) : Int) + 1)) 0 >>= _) = _
  rw [wi_succ hl (by omega)]
  refine bind_congr' fun q hq => ?_
  rw [type_t hq]
  refine bind_congr' fun z hz => ?_
  rw [need_t hz]; rfl
theorem let20_ok (t : List Token) (hl : t.length ≤ 1048576) (a : Nat) (ha : a < t.length) (h : ¬ ((tokAt t (a + 1)).K = 1 ∧ sgnAt t (a + 2) [58] = true)) : stmt_reader_let t a 0 = mkF t 20 a (runIts t [.name, .sign [61], .expr, .sign [59]] [] [] ((a + 1 : Nat) : Int) 0) := by
  have rest : ∀ (nm : Str) (b e : Int), (stmt_reader_need 4 [61] t b e >>= fun q6 => stmt_reader_expr q6.1 q6.2.1 q6.2.2 >>= fun q7 => stmt_reader_need 4 [59] q7.2.1 q7.2.2.1 q7.2.2.2 >>= fun q8 => stmt_reader_made 20 nm a [q7.1] q8.1 q8.2.1 q8.2.2 >>= fun q9 => some (q9, q8.1, q8.2.1, q8.2.2)) =
      (stmt_reader_need 4 [61] t b e >>= fun q => stmt_reader_expr t q.2.1 q.2.2 >>= fun q => stmt_reader_need 4 [59] t q.2.2.1 q.2.2.2 >>= fun z => stmt_reader_made 20 nm a [q.1] t z.2.1 z.2.2 >>= fun y => some (y, t, z.2.1, z.2.2)) := by
    intro nm b e
    refine bind_congr' fun q hq => ?_
    rw [need_t hq]
    refine bind_congr' fun z hz => ?_
    rw [expr_t hz]
    refine bind_congr' fun y hy => ?_
    rw [need_t hy]
  unfold stmt_reader_let mkF
  simp only [runIts, assoc]
  rw [wi_succ hl (by omega), sname_ok t hl (a + 1)]
  by_cases h1 : (tokAt t (a + 1)).K = 1
  · rw [if_pos h1, some_bind, some_bind]
    show (if (0 : Int) = 0 then _ else _) = _
    rw [if_pos rfl]
    show (stmt_reader_is 4 [58] t ((a + 2 : Nat) : Int) 0 >>= _) = _
    rw [sis_sgn, some_bind, if_neg (fun h' => h ⟨h1, h'⟩)]
    exact rest _ _ _
  · rw [if_neg h1, some_bind, some_bind]
    show (if (6 : Int) = 0 then _ else _) = _
    rw [if_neg six]
    exact rest _ _ _
theorem blkT (t : List Token) (a : Int) (e : Int) {q : Term × List Token × Int × Int} (h : stmt_reader_block t a e = some q) (hq : q.2.1 = t) : q = (q.1, t, q.2.2.1, q.2.2.2) := by
  obtain ⟨x, y, z, w⟩ := q
  dsimp only at hq; subst hq; rfl
theorem while_ok (t : List Token) (hl : t.length ≤ 1048576) (a : Nat) (ha : a < t.length) (hb : ∀ b e q, stmt_reader_block t b e = some q → q.2.1 = t) : stmt_reader_while t a 0 = mkF t 24 a (runIts t [.expr, .block] [] [] ((a + 1 : Nat) : Int) 0) := by
  rw [stmt_reader_while_eq]; unfold stmt_reader_while_B mkF
  simp only [runIts, assoc]
  rw [wi_succ hl (by omega)]
  refine bind_congr' fun q hq => ?_
  rw [expr_t hq]
  refine bind_congr' fun z hz => ?_
  rw [hb _ _ _ hz]; rfl
theorem count_ok (t : List Token) (hl : t.length ≤ 1048576) (a : Nat) (ha : a < t.length) (hb : ∀ b e q, stmt_reader_block t b e = some q → q.2.1 = t) : stmt_reader_count t a 0 = mkF t 25 a (runIts t [.name, .sign [61], .expr, .word wTo, .expr, .block] [] [] ((a + 1 : Nat) : Int) 0) := by
  rw [stmt_reader_count_eq]; unfold stmt_reader_count_B mkF
  simp only [runIts, assoc]
  rw [wi_succ hl (by omega)]
  refine bind_congr' fun q hq => ?_
  rw [name_t hq]
  refine bind_congr' fun q hq => ?_
  rw [need_t hq]
  refine bind_congr' fun q hq => ?_
  rw [expr_t hq]
  refine bind_congr' fun q hq => ?_
  rw [need_t hq]
  refine bind_congr' fun q hq => ?_
  rw [expr_t hq]
  refine bind_congr' fun z hz => ?_
  rw [hb _ _ _ hz]; rfl
theorem cond_ok (t : List Token) (hl : t.length ≤ 1048576) (a : Nat) (ha : a < t.length) (hb : ∀ b e q, stmt_reader_block t b e = some q → q.2.1 = t) : stmt_reader_cond t a 0 = mkF t 23 a (runIts t [.expr, .be] [] [] ((a + 1 : Nat) : Int) 0) := by
  rw [stmt_reader_cond_eq]; unfold stmt_reader_cond_B mkF
  simp only [runIts, assoc]
  rw [wi_succ hl (by omega)]
  refine bind_congr' fun q hq => ?_
  rw [expr_t hq]
  refine bind_congr' fun z hz => ?_
  rw [hb _ _ _ hz]
  by_cases h0 : z.2.2.2 = 0
  · rw [if_pos h0, if_pos h0]
    simp only [assoc]
    refine bind_congr' fun y hy => ?_
    by_cases h1 : y = true
    · rw [if_pos h1, if_pos h1]
      simp only [assoc]
      refine bind_congr' fun w hw => ?_
      rw [hb _ _ _ hw]; rfl
    · rw [if_neg h1, if_neg h1]; rfl
  · rw [if_neg h0, if_neg h0]; rfl
/-- a block hands the tokens on -/
theorem blk_t (t : List Token) : ∀ b e q, stmt_reader_block t b e = some q → q.2.1 = t := by
  have made_fin : ∀ {k : Int} {s : Str} {f : Int} {l : List Term} {t' : List Token} {a e : Int} {q : Term × List Token × Int × Int}, (stmt_reader_made k s f l t' a e >>= fun z => some (z, t', a, e)) = some q → q.2.1 = t' := fun {k s f l t' a e q} h => by
    obtain ⟨z, -, h⟩ := w_bind h
    cases h; rfl
  have all : ∀ i r, fixF F_stmt_reader_block i = some r → (match i, r with
      | .stmt_reader_stmt t _ _, r => r.2.1 = t
      | .stmt_reader_block t _ _, r => r.2.1 = t
      | .stmt_reader_block_L4 _ _ _ t _ _, r => r.2.1 = t
      | .stmt_reader_cond t _ _, r => r.2.1 = t
      | .stmt_reader_while t _ _, r => r.2.1 = t
      | .stmt_reader_count t _ _, r => r.2.1 = t : Prop) := by
    refine fixF_induct D_stmt_reader_block (P := fun i r => (match i, r with
      | .stmt_reader_stmt t _ _, r => r.2.1 = t
      | .stmt_reader_block t _ _, r => r.2.1 = t
      | .stmt_reader_block_L4 _ _ _ t _ _, r => r.2.1 = t
      | .stmt_reader_cond t _ _, r => r.2.1 = t
      | .stmt_reader_while t _ _, r => r.2.1 = t
      | .stmt_reader_count t _ _, r => r.2.1 = t : Prop)) fun g ih i r h => ?_
    cases i with
    | stmt_reader_stmt t a e =>
      replace h : stmt_reader_stmt_B (fun t a e => g (.stmt_reader_block t a e)) (fun t a e => g (.stmt_reader_cond t a e)) (fun t a e => g (.stmt_reader_while t a e)) (fun t a e => g (.stmt_reader_count t a e)) t a e = some r := h
      unfold stmt_reader_stmt_B at h
      obtain ⟨q1, -, h⟩ := w_bind h
      obtain ⟨q2, -, h⟩ := w_bind h
      show r.2.1 = t
      have sg : ∀ {k : Int} {q : Term × List Token × Int × Int}, stmt_reader_single k t a e = some q → q.2.1 = t := fun {k q} h => by
        unfold stmt_reader_single at h
        obtain ⟨x, h1, h⟩ := w_bind h
        obtain ⟨y, h2, h⟩ := w_bind h
        have := made_fin h
        rw [this, need_t h2, expr_t h1]
      have lt : ∀ {q : Term × List Token × Int × Int}, stmt_reader_let t a e = some q → q.2.1 = t := fun {q} h => by
        unfold stmt_reader_let at h
        obtain ⟨x, h1, h⟩ := w_bind h
        have e1 := name_t h1
        have tail : ∀ {q : Term × List Token × Int × Int}, (stmt_reader_need 4 [61] x.2.1 x.2.2.1 x.2.2.2 >>= fun q6 => stmt_reader_expr q6.1 q6.2.1 q6.2.2 >>= fun q7 => stmt_reader_need 4 [59] q7.2.1 q7.2.2.1 q7.2.2.2 >>= fun q8 => stmt_reader_made 20 x.1 a [q7.1] q8.1 q8.2.1 q8.2.2 >>= fun q9 => some (q9, q8.1, q8.2.1, q8.2.2)) = some q → q.2.1 = t := fun {q} h => by
          obtain ⟨y, h2, h⟩ := w_bind h
          obtain ⟨z, h3, h⟩ := w_bind h
          obtain ⟨w, h4, h⟩ := w_bind h
          have := made_fin h
          rw [this, need_t h4, expr_t h3, need_t h2, e1]
        split at h
        · obtain ⟨y, h2, h⟩ := w_bind h
          split at h
          · obtain ⟨z, h3, h⟩ := w_bind h
            obtain ⟨w, h4, h⟩ := w_bind h
            have := made_fin h
            rw [this, need_t h4, type_t h3, e1]
          · exact tail h
        · exact tail h
      have st : ∀ {q : Term × List Token × Int × Int}, stmt_reader_set t a e = some q → q.2.1 = t := fun {q} h => by
        unfold stmt_reader_set at h
        obtain ⟨x, h1, h⟩ := w_bind h
        obtain ⟨y, h2, h⟩ := w_bind h
        obtain ⟨z, h3, h⟩ := w_bind h
        obtain ⟨w, h4, h⟩ := w_bind h
        have := made_fin h
        rw [this, need_t h4, expr_t h3, need_t h2, expr_t h1]
      have sh : ∀ {q : Term × List Token × Int × Int} {p : Option (Term × List Token × Int × Int)}, (p >>= fun x => some (x.1, x.2.1, x.2.2.1, x.2.2.2)) = some q → p = some q := fun {q p} h => by
        obtain ⟨x, h1, h⟩ := w_bind h
        cases h; exact h1
      repeat' split at h
      · exact ih _ _ (sh h)
      · exact st (sh h)
      · exact lt (sh h)
      · exact ih _ _ (sh h)
      · exact ih _ _ (sh h)
      · exact ih _ _ (sh h)
      · have := sh h; unfold stmt_reader_show at this; exact sg (sh this)
      · have := sh h; unfold stmt_reader_back at this; exact sg (sh this)
      · have := sh h; unfold stmt_reader_call at this; exact sg (sh this)
      · cases h
    | stmt_reader_block t a e =>
      replace h : stmt_reader_block_B (fun f l o t a e => g (.stmt_reader_block_L4 f l o t a e)) t a e = some r := h
      unfold stmt_reader_block_B at h
      obtain ⟨x, h1, h⟩ := w_bind h
      have := ih _ _ h
      show r.2.1 = t
      rw [show r.2.1 = x.1 from this, need_t h1]
    | stmt_reader_block_L4 f l o t a e =>
      replace h : stmt_reader_block_L4_B (fun f l o t a e => g (.stmt_reader_block_L4 f l o t a e)) (fun t a e => g (.stmt_reader_stmt t a e)) f l o t a e = some r := h
      unfold stmt_reader_block_L4_B at h
      show r.2.1 = t
      split at h
      · obtain ⟨x, h1, h⟩ := w_bind h
        split at h
        · obtain ⟨y, h2, h⟩ := w_bind h
          rw [made_fin h, need_t h2]
        · obtain ⟨y, h2, h⟩ := w_bind h
          split at h
          · have e1 := ih _ _ h
            have e2 := ih _ _ h2
            rw [show r.2.1 = y.2.1 from e1]; exact e2
          · cases h
      · obtain ⟨y, h2, h⟩ := w_bind h
        rw [made_fin h, need_t h2]
    | stmt_reader_cond t a e =>
      replace h : stmt_reader_cond_B (fun t a e => g (.stmt_reader_block t a e)) t a e = some r := h
      unfold stmt_reader_cond_B at h
      show r.2.1 = t
      obtain ⟨x, h1, h⟩ := w_bind h
      obtain ⟨y, h2, h⟩ := w_bind h
      have e1 := expr_t h1
      have e2 : y.2.1 = x.2.1 := ih _ _ h2
      split at h
      · obtain ⟨z, h3, h⟩ := w_bind h
        split at h
        · obtain ⟨w, h4, h⟩ := w_bind h
          have e3 : w.2.1 = y.2.1 := ih _ _ h4
          rw [made_fin h, e3, e2, e1]
        · rw [made_fin h, e2, e1]
      · rw [made_fin h, e2, e1]
    | stmt_reader_while t a e =>
      replace h : stmt_reader_while_B (fun t a e => g (.stmt_reader_block t a e)) t a e = some r := h
      unfold stmt_reader_while_B at h
      show r.2.1 = t
      obtain ⟨x, h1, h⟩ := w_bind h
      obtain ⟨y, h2, h⟩ := w_bind h
      have e2 : y.2.1 = x.2.1 := ih _ _ h2
      rw [made_fin h, e2, expr_t h1]
    | stmt_reader_count t a e =>
      replace h : stmt_reader_count_B (fun t a e => g (.stmt_reader_block t a e)) t a e = some r := h
      unfold stmt_reader_count_B at h
      show r.2.1 = t
      obtain ⟨x1, h1, h⟩ := w_bind h
      obtain ⟨x2, h2, h⟩ := w_bind h
      obtain ⟨x3, h3, h⟩ := w_bind h
      obtain ⟨x4, h4, h⟩ := w_bind h
      obtain ⟨x5, h5, h⟩ := w_bind h
      obtain ⟨x6, h6, h⟩ := w_bind h
      have e6 : x6.2.1 = x5.2.1 := ih _ _ h6
      rw [made_fin h, e6, expr_t h5, need_t h4, expr_t h3, need_t h2, name_t h1]
  intro b e q h
  exact all (.stmt_reader_block t b e) q h
end Go.Proofs.Ytelddjedpmfclaa.M
