/- The reference reads an expression as the rules say. -/
import Derived.Test.YtpdhlbejdagkmaaP07d
namespace Go.Proofs.Ytpdhlbejdagkmaa.M
open Go Nt
set_option linter.unusedVariables false
set_option linter.unusedSimpArgs false
def got : Res → Ref07Got
  | .ok x b => ⟨x, (b : Int), 0⟩
  | .bad b => ⟨zT7, (b : Int), 6⟩
theorem wi_succ {t : List Token} (hl : t.length ≤ 1048576) {a : Nat} (h : a ≤ t.length + 3) : IntKind.wrap .i64 ((a : Int) + 1) = ((a + 1 : Nat) : Int) := by rw [wi_id (by omega) (by omega)]; omega
theorem wi_succ2 {t : List Token} (hl : t.length ≤ 1048576) {a : Nat} (h : a ≤ t.length + 3) : IntKind.wrap .i64 ((a : Int) + 2) = ((a + 2 : Nat) : Int) := by rw [wi_id (by omega) (by omega)]; omega
theorem sgn_k {t : List Token} {a : Nat} {s : Str} (h : sgnAt t a s = true) : (tokAt t a).K = 4 ∧ (tokAt t a).S = s := by
  unfold sgnAt at h
  simpa using h
theorem wrd_k {t : List Token} {a : Nat} {s : Str} (h : wrdAt t a s = true) : (tokAt t a).K = 3 ∧ (tokAt t a).S = s := by
  unfold wrdAt at h
  simpa using h
theorem sgn_no {t : List Token} {a : Nat} (h : (tokAt t a).K ≠ 4) (s : Str) : sgnAt t a s = false := by unfold sgnAt; rw [decide_eq_false h]; rfl
theorem wrd_no {t : List Token} {a : Nat} (h : (tokAt t a).K ≠ 3) (s : Str) : wrdAt t a s = false := by unfold wrdAt; rw [decide_eq_false h]; rfl
theorem sgn_ne {t : List Token} {a : Nat} {s s' : Str} (h : sgnAt t a s = true) (hs : s ≠ s') : sgnAt t a s' = false := by
  unfold sgnAt; rw [(sgn_k h).2]; simp [hs]
theorem wrd_ne {t : List Token} {a : Nat} {s s' : Str} (h : wrdAt t a s = true) (hs : s ≠ s') : wrdAt t a s' = false := by
  unfold wrdAt; rw [(wrd_k h).2]; simp [hs]
/-- the operator of a level -/
def opFind (t : List Token) (a : Nat) : List Str → List Int → Int
  | s :: ss, o :: os => if sgnAt t a s = true then o else opFind t a ss os
  | _, _ => 0
theorem op_loop (t : List Token) (a : Nat) (ss : List Str) (os : List Int) (he : ss.length = os.length) (hs : ss.length ≤ 100) : ∀ (n i : Nat), i + n = ss.length → ref07Op_L3 t a ss os i = some (opFind t a (ss.drop i) (os.drop i)) := by
  intro n
  induction n with
  | zero =>
    intro i hi
    rw [ref07Op_L3_eq]; unfold ref07Op_L3_B
    rw [if_neg (by omega), List.drop_eq_nil_of_le (show ss.length ≤ i by omega)]
    rfl
  | succ n ih =>
    intro i hi
    have h1 : i < ss.length := by omega
    have h2 : i < os.length := by omega
    rw [ref07Op_L3_eq]; unfold ref07Op_L3_B
    rw [if_pos (by omega), idx_lt h1, some_bind, rsign_ok, some_bind, List.drop_eq_getElem_cons h1, List.drop_eq_getElem_cons h2, opFind]
    by_cases h : sgnAt t a ss[i] = true
    · rw [if_pos h, if_pos h, idx_lt h2]; rfl
    · rw [if_neg h, if_neg h, wi_id (by omega) (by omega), succ_cast, ih (i + 1) (by omega)]
theorem signs13 (s : Str) : s = [124, 124] ∨ s = [38, 38] ∨ s = [61, 61] ∨ s = [33, 61] ∨ s = [60] ∨ s = [60, 61] ∨ s = [62] ∨ s = [62, 61] ∨ s = [43] ∨ s = [45] ∨ s = [42] ∨ s = [47] ∨ s = [37] ∨
    (s ≠ [124, 124] ∧ s ≠ [38, 38] ∧ s ≠ [61, 61] ∧ s ≠ [33, 61] ∧ s ≠ [60] ∧ s ≠ [60, 61] ∧ s ≠ [62] ∧ s ≠ [62, 61] ∧ s ≠ [43] ∧ s ≠ [45] ∧ s ≠ [42] ∧ s ≠ [47] ∧ s ≠ [37]) := by
  by_cases h : s ∈ ([[124, 124], [38, 38], [61, 61], [33, 61], [60], [60, 61], [62], [62, 61], [43], [45], [42], [47], [37]] : List Str)
  · simp only [List.mem_cons, List.not_mem_nil, or_false] at h
    rcases h with h | h | h | h | h | h | h | h | h | h | h | h | h <;> simp [h]
  · simp only [List.mem_cons, List.not_mem_nil, or_false, not_or] at h
    simp only [h, false_or]
    exact h
theorem rop_ok (t : List Token) (a k : Nat) (h1 : 1 ≤ k) (h2 : k ≤ 5) : ref07Op t a k = some (if (opOf (tokAt t a)).2 = k then (opOf (tokAt t a)).1 else 0) := by
  have hk : k = 1 ∨ k = 2 ∨ k = 3 ∨ k = 4 ∨ k = 5 := by omega
  rcases hk with rfl | rfl | rfl | rfl | rfl
  all_goals
    have e0 : ∀ ss os, ss.length = os.length → ss.length ≤ 100 → ref07Op_L3 t a ss os 0 = some (opFind t a ss os) := fun ss os h1 h2 => by
      have := op_loop t a ss os h1 h2 ss.length 0 (by omega)
      simpa using this
    unfold ref07Op ref07Ops
    simp only [some_bind, if_true, Int.reduceEq, if_false, Int.cast_ofNat_Int]
    rw [e0 _ _ rfl (by decide)]
    simp only [opFind, sgnAt]
    obtain ⟨x, hx⟩ : ∃ x, tokAt t a = x := ⟨_, rfl⟩
    simp only [hx]
    unfold opOf
    by_cases hk : x.K = 4
    · rcases signs13 x.S with e | e | e | e | e | e | e | e | e | e | e | e | e | ⟨e1, e2, e3, e4, e5, e6, e7, e8, e9, e10, e11, e12, e13⟩
      case inr.inr.inr.inr.inr.inr.inr.inr.inr.inr.inr.inr.inr => simp [hk, e1, e2, e3, e4, e5, e6, e7, e8, e9, e10, e11, e12, e13]
      all_goals (simp only [hk, e]; rfl)
    · simp [hk]
theorem opOf_pos {x : Token} (h : 1 ≤ (opOf x).2) : (opOf x).1 ≠ 0 := by
  have hk := opOf_tok (x := x) (by omega)
  unfold opOf at h ⊢
  rcases signs13 x.S with e | e | e | e | e | e | e | e | e | e | e | e | e | ⟨e1, e2, e3, e4, e5, e6, e7, e8, e9, e10, e11, e12, e13⟩
  case inr.inr.inr.inr.inr.inr.inr.inr.inr.inr.inr.inr.inr => simp [hk, e1, e2, e3, e4, e5, e6, e7, e8, e9, e10, e11, e12, e13] at h
  all_goals (simp only [hk, e]; decide)
theorem rclosed_bad (t : List Token) (a : Nat) (few : Bool) (o c : Str) (h : sgnAt t a o = false) : ref07Closed t a few o c = some ([], (a : Int), 6) := by
  rw [ref07Closed_eq]; unfold ref07Closed_B
  rw [rsign_ok, some_bind, h]; rfl
theorem rclosed_few (t : List Token) (hl : t.length ≤ 1048576) (a : Nat) (o c : Str) (h : sgnAt t a o = true) (h2 : sgnAt t (a + 1) c = true) : ref07Closed t a true o c = some ([], ((a + 2 : Nat) : Int), 0) := by
  have ha := sgnAt_lt h
  rw [ref07Closed_eq]; unfold ref07Closed_B
  rw [rsign_ok, some_bind, h, if_pos rfl, if_pos rfl, wi_succ hl (by omega), rsign_ok, some_bind, h2, if_pos rfl, wi_succ2 hl (by omega)]
theorem rclosed_list (t : List Token) (hl : t.length ≤ 1048576) (a : Nat) (few : Bool) (o c : Str) (h : sgnAt t a o = true) (h2 : few = true → sgnAt t (a + 1) c = false) :
    ref07Closed t a few o c = (ref07List t ((a + 1 : Nat) : Int) >>= fun q => if q.2.2 = 0 then (ref07Sign t q.2.1 c >>= fun z => if z = true then some (q.1, IntKind.wrap .i64 (q.2.1 + 1), 0) else some (q.1, q.2.1, 6)) else some (q.1, q.2.1, q.2.2)) := by
  have ha := sgnAt_lt h
  rw [ref07Closed_eq]; unfold ref07Closed_B
  rw [rsign_ok, some_bind, h, if_pos rfl, wi_succ hl (by omega)]
  cases few with
  | false => rw [if_neg (by simp)]
  | true => rw [if_pos rfl, rsign_ok, some_bind, h2 rfl, if_neg (by simp)]
/-- what the rules say of the reference -/
def RM (t : List Token) : Cat → Nat → Res → Prop
  | .lev k, a, r => ref07Level t a k = some (got r)
  | .ll k m f x, a, r => f < a → m ≤ a → k ≤ 5 → ∀ o, ref07Level_L5 t f k m o ⟨x, (a : Int), 0⟩ = some (got r)
  | .post, a, r => ref07Post t a = some (got r)
  | .pl f x, a, r => f < a → ∀ o, ref07Post_L2 t f o ⟨x, (a : Int), 0⟩ = some (got r)
  | .atom, a, r => ref07Atom t a = some (got r)
  | .cls few, a, r => (∀ l b, r = .ok l b → ref07Closed t a few [40] [41] = some (l.L, (b : Int), 0)) ∧ (∀ b, r = .bad b → ∃ l, ref07Closed t a few [40] [41] = some (l, (b : Int), 6))
  | .lst acc, a, r => acc.length < a → (∀ l b, r = .ok l b → ref07List_L2 t a acc = some (l.L, (b : Int), 0)) ∧ (∀ b, r = .bad b → ∃ l, ref07List_L2 t a acc = some (l, (b : Int), 6))
theorem level_6 (t : List Token) (a : Nat) (g : Ref07Got) (h : ref07Un t a = some g) : ref07Level t a (6 : Nat) = some g := by
  rw [ref07Level_eq]; unfold ref07Level_B
  rw [if_pos (by decide), h]; rfl
theorem expr_1 {t : List Token} {a : Nat} {g : Ref07Got} (h : ref07Level t a (1 : Nat) = some g) : ref07Expr t a = some g := by
  rw [ref07Expr_eq]; unfold ref07Expr_B
  rw [show ((1 : Int)) = ((1 : Nat) : Int) from rfl, h]; rfl
theorem rlist_eq (t : List Token) (a : Nat) : ref07List t a = ref07List_L2 t a [] := by rw [ref07List_eq]; rfl
theorem room72 {n : Nat} (h : n ≤ 1048577) : roomy 72 n := by unfold roomy; omega

theorem un_level6 {t : List Token} {a : Nat} {g : Ref07Got} (h : ref07Level t a (6 : Nat) = some g) : ref07Un t a = some g := by
  rw [ref07Level_eq] at h; unfold ref07Level_B at h
  rw [if_pos (by decide)] at h
  cases hu : ref07Un t a with
  | none => rw [hu] at h; cases h
  | some x => rw [hu] at h; exact h
theorem call_16 (t : List Token) (hl : t.length ≤ 1048576) (a : Nat) (h1 : (tokAt t a).K = 1) : ref07Called t a = (ref07Closed t ((a + 1 : Nat) : Int) true [40] [41] >>= fun q => if q.2.2 = 0 then (ref07Make t a q.2.1 16 0 (tokAt t a).S q.1 >>= fun z => some z) else some ⟨zT7, q.2.1, q.2.2⟩) := by
  have ha := tokAt_lt (t := t) (a := a) (by rw [h1]; decide)
  rw [ref07Called_eq]; unfold ref07Called_B
  rw [rnow_ok, some_bind, if_pos h1, some_bind, wi_succ hl (by omega)]
theorem call_lis (t : List Token) (a : Nat) (h1 : sgnAt t a [91] = true) : ref07Called t a = (ref07Closed t a false [91] [93] >>= fun q => if q.2.2 = 0 then (ref07Make t a q.2.1 14 0 [] q.1 >>= fun z => some z) else some ⟨zT7, q.2.1, q.2.2⟩) := by
  rw [ref07Called_eq]; unfold ref07Called_B
  rw [rnow_ok, some_bind, if_neg (by rw [(sgn_k h1).1]; decide), rsign_ok, some_bind, h1, if_pos rfl]
theorem call_17 (t : List Token) (hl : t.length ≤ 1048576) (a : Nat) (h1 : sgnAt t a [64] = true) (h2 : (tokAt t (a + 1)).K = 1) : ref07Called t a = (ref07Closed t ((a + 2 : Nat) : Int) true [40] [41] >>= fun q => if q.2.2 = 0 then (ref07Make t a q.2.1 17 0 (tokAt t (a + 1)).S q.1 >>= fun z => some z) else some ⟨zT7, q.2.1, q.2.2⟩) := by
  have ha := sgnAt_lt h1
  rw [ref07Called_eq]; unfold ref07Called_B
  rw [rnow_ok, some_bind, if_neg (by rw [(sgn_k h1).1]; decide), rsign_ok, some_bind, sgn_ne h1 (by decide), if_neg (by simp), rsign_ok, some_bind, h1, if_pos rfl, wi_succ hl (by omega), rnow_ok, some_bind, if_pos h2, some_bind, rword_ok, some_bind, wrd_no (by rw [(sgn_k h1).1]; decide), if_neg (by simp), wi_succ2 hl (by omega)]
theorem call_17n (t : List Token) (hl : t.length ≤ 1048576) (a : Nat) (h1 : sgnAt t a [64] = true) (h2 : (tokAt t (a + 1)).K ≠ 1) : ref07Called t a = some ⟨zT7, ((a + 1 : Nat) : Int), 6⟩ := by
  have ha := sgnAt_lt h1
  rw [ref07Called_eq]; unfold ref07Called_B
  rw [rnow_ok, some_bind, if_neg (by rw [(sgn_k h1).1]; decide), rsign_ok, some_bind, sgn_ne h1 (by decide), if_neg (by simp), rsign_ok, some_bind, h1, if_pos rfl, wi_succ hl (by omega), rnow_ok, some_bind, if_neg h2]
  rfl
theorem call_15 (t : List Token) (hl : t.length ≤ 1048576) (a : Nat) (h1 : wrdAt t a [110, 101, 119] = true) (h2 : (tokAt t (a + 1)).K = 1) : ref07Called t a = (ref07Closed t ((a + 2 : Nat) : Int) false [40] [41] >>= fun q => if q.2.2 = 0 then (ref07Make t a q.2.1 15 0 (tokAt t (a + 1)).S q.1 >>= fun z => some z) else some ⟨zT7, q.2.1, q.2.2⟩) := by
  have ha := wrdAt_lt h1
  have hk : (tokAt t a).K ≠ 4 := by rw [(wrd_k h1).1]; decide
  rw [ref07Called_eq]; unfold ref07Called_B
  rw [rnow_ok, some_bind, if_neg (by rw [(wrd_k h1).1]; decide), rsign_ok, some_bind, sgn_no hk, if_neg (by simp), rsign_ok, some_bind, sgn_no hk, if_neg (by simp), rword_ok, some_bind, h1, if_pos rfl, wi_succ hl (by omega), rnow_ok, some_bind, if_pos h2, some_bind, some_bind, if_pos rfl, wi_succ2 hl (by omega)]
theorem call_15n (t : List Token) (hl : t.length ≤ 1048576) (a : Nat) (h1 : wrdAt t a [110, 101, 119] = true) (h2 : (tokAt t (a + 1)).K ≠ 1) : ref07Called t a = some ⟨zT7, ((a + 1 : Nat) : Int), 6⟩ := by
  have ha := wrdAt_lt h1
  have hk : (tokAt t a).K ≠ 4 := by rw [(wrd_k h1).1]; decide
  rw [ref07Called_eq]; unfold ref07Called_B
  rw [rnow_ok, some_bind, if_neg (by rw [(wrd_k h1).1]; decide), rsign_ok, some_bind, sgn_no hk, if_neg (by simp), rsign_ok, some_bind, sgn_no hk, if_neg (by simp), rword_ok, some_bind, h1, if_pos rfl, wi_succ hl (by omega), rnow_ok, some_bind, if_neg h2]
  rfl
/-- what the kinds of atoms are for the reference -/
theorem ratom_one (t : List Token) (hl : t.length ≤ 1048576) (a : Nat) {k n : Int} {s : Str} (h : atomK t a = .one k n s) : ref07Atom t a = some ⟨placed t a (a + 1) ⟨k, n, s, [], 0, 0⟩, ((a + 1 : Nat) : Int), 0⟩ := by
  have ha := atomK_lt (t := t) (a := a) (by rw [h]; simp)
  have mk := fun k n s => rmake_ok t (by omega) a (a + 1) (by omega) (by omega) k n s []
  rw [ref07Atom_eq]; unfold ref07Atom_B
  rw [rnow_ok, some_bind, wi_succ hl (by omega)]
  unfold atomK at h
  by_cases h1 : (tokAt t a).K = 2
  · rw [if_pos h1] at h ⊢
    injection h with e1 e2 e3; subst e1; subst e2; subst e3
    rw [mk]; rfl
  rw [if_neg h1] at h ⊢
  by_cases h2 : (tokAt t a).K = 1
  · rw [if_pos h2] at h
    have w := fun s => wrd_no (t := t) (a := a) (by rw [h2]; decide) s
    rw [rword_ok, some_bind, w, if_neg (by simp), rword_ok, some_bind, w, if_neg (by simp), rword_ok, some_bind, w, if_neg (by simp), if_pos h2, rsign_ok, some_bind]
    by_cases h3 : sgnAt t (a + 1) [40] = true
    · rw [if_pos h3] at h; cases h
    · rw [if_neg h3] at h ⊢
      injection h with e1 e2 e3; subst e1; subst e2; subst e3
      rw [mk]; rfl
  rw [if_neg h2] at h
  rw [rword_ok, some_bind]
  by_cases h3 : wrdAt t a [116, 114, 117, 101] = true
  · rw [if_pos h3] at h ⊢
    injection h with e1 e2 e3; subst e1; subst e2; subst e3
    rw [mk]; rfl
  rw [if_neg h3] at h ⊢
  rw [rword_ok, some_bind]
  by_cases h4 : wrdAt t a [102, 97, 108, 115, 101] = true
  · rw [if_pos h4] at h ⊢
    injection h with e1 e2 e3; subst e1; subst e2; subst e3
    rw [mk]; rfl
  rw [if_neg h4] at h ⊢
  rw [rword_ok, some_bind]
  by_cases h5 : wrdAt t a [114, 101, 97, 100] = true
  · rw [if_pos h5] at h ⊢
    injection h with e1 e2 e3; subst e1; subst e2; subst e3
    rw [mk]; rfl
  rw [if_neg h5] at h
  repeat' split at h
  all_goals cases h
theorem ratom_paren (t : List Token) (hl : t.length ≤ 1048576) (a : Nat) (h1 : sgnAt t a [40] = true) :
    ref07Atom t a = (ref07Expr t ((a + 1 : Nat) : Int) >>= fun q => if q.E = 0 then (ref07Sign t q.At [41] >>= fun z => if z = true then some { q with At := IntKind.wrap .i64 (q.At + 1) } else (ref07Bad q.At >>= fun y => some y)) else some q) := by
  have ha := sgnAt_lt h1
  have hk := (sgn_k h1).1
  have w := fun s => wrd_no (t := t) (a := a) (by rw [hk]; decide) s
  rw [ref07Atom_eq]; unfold ref07Atom_B
  rw [rnow_ok, some_bind, if_neg (by rw [hk]; decide), rword_ok, some_bind, w, if_neg (by simp), rword_ok, some_bind, w, if_neg (by simp), rword_ok, some_bind, w, if_neg (by simp), if_neg (by rw [hk]; decide), rsign_ok, some_bind, h1, if_pos rfl, wi_succ hl (by omega)]
/-- a call, a list, and what is none -/
theorem ratom_called (t : List Token) (hl : t.length ≤ 1048576) (a : Nat) (ha : a ≤ t.length) (h1 : (tokAt t a).K ≠ 2) (h2 : (tokAt t a).K = 1 → sgnAt t (a + 1) [40] = true) (h3 : wrdAt t a [116, 114, 117, 101] = false) (h4 : wrdAt t a [102, 97, 108, 115, 101] = false) (h5 : wrdAt t a [114, 101, 97, 100] = false)
    (h6 : sgnAt t a [40] = false) : ref07Atom t a = (ref07Called t a >>= fun q => some q) := by
  rw [ref07Atom_eq]; unfold ref07Atom_B
  rw [rnow_ok, some_bind, if_neg h1, rword_ok, some_bind, h3, if_neg (by simp), rword_ok, some_bind, h4, if_neg (by simp), rword_ok, some_bind, h5, if_neg (by simp)]
  by_cases hk : (tokAt t a).K = 1
  · rw [if_pos hk, wi_succ hl (by omega), rsign_ok, some_bind, h2 hk, if_pos rfl, rsign_ok, some_bind, h6, if_neg (by simp)]
  · rw [if_neg hk, rsign_ok, some_bind, h6, if_neg (by simp)]
/-- what a kind of atom says of its token -/
theorem atomK_paren {t : List Token} {a : Nat} (h : atomK t a = .paren) : sgnAt t a [40] = true := by
  unfold atomK at h
  repeat' split at h
  all_goals first | (cases h; done) | assumption
theorem atomK_lis {t : List Token} {a : Nat} (h : atomK t a = .lis) : sgnAt t a [91] = true := by
  unfold atomK at h
  repeat' split at h
  all_goals first | (cases h; done) | assumption
theorem atomK_cases {t : List Token} {a o : Nat} {k : Int} {s : Str} {few : Bool} (h : atomK t a = .call k s o few) :
    (k = 16 ∧ s = (tokAt t a).S ∧ o = a + 1 ∧ few = true ∧ (tokAt t a).K = 1 ∧ sgnAt t (a + 1) [40] = true) ∨ (k = 15 ∧ s = (tokAt t (a + 1)).S ∧ o = a + 2 ∧ few = false ∧ wrdAt t a [110, 101, 119] = true ∧ (tokAt t (a + 1)).K = 1) ∨
    (k = 17 ∧ s = (tokAt t (a + 1)).S ∧ o = a + 2 ∧ few = true ∧ sgnAt t a [64] = true ∧ (tokAt t (a + 1)).K = 1) := by
  unfold atomK at h
  repeat' split at h
  all_goals first
    | (cases h; done)
    | (injection h with e1 e2 e3 e4; subst e1; subst e2; subst e3; subst e4
       first
       | exact .inl ⟨rfl, rfl, rfl, rfl, by assumption, by assumption⟩
       | exact .inr (.inl ⟨rfl, rfl, rfl, rfl, by assumption, by assumption⟩)
       | exact .inr (.inr ⟨rfl, rfl, rfl, rfl, by assumption, by assumption⟩))
theorem atomK_nm {t : List Token} {a : Nat} (h : atomK t a = .nm) : (wrdAt t a [110, 101, 119] = true ∨ sgnAt t a [64] = true) ∧ (tokAt t (a + 1)).K ≠ 1 := by
  unfold atomK at h
  repeat' split at h
  all_goals first
    | (cases h; done)
    | exact ⟨.inl (by assumption), by assumption⟩
    | exact ⟨.inr (by assumption), by assumption⟩
theorem atomK_no {t : List Token} {a : Nat} (h : atomK t a = .no) : (tokAt t a).K ≠ 2 ∧ (tokAt t a).K ≠ 1 ∧ wrdAt t a [116, 114, 117, 101] = false ∧ wrdAt t a [102, 97, 108, 115, 101] = false ∧ wrdAt t a [114, 101, 97, 100] = false ∧ wrdAt t a [110, 101, 119] = false ∧
    sgnAt t a [40] = false ∧ sgnAt t a [91] = false ∧ sgnAt t a [64] = false := by
  unfold atomK at h
  repeat' split at h
  all_goals first
    | (cases h; done)
    | (refine ⟨by assumption, by assumption, ?_, ?_, ?_, ?_, ?_, ?_, ?_⟩ <;> (first | (apply Bool.eq_false_iff.2; assumption)))
theorem ref_of_der {t : List Token} (hl : t.length ≤ 1048576) {c : Cat} {a : Nat} {r : Res} (h : Der t c a r) : a ≤ t.length → RM t c a r := by
  have clsOk : ∀ {a : Nat}, a ≤ t.length → ∀ {k : Int} {s : Str} {o : Nat} {few : Bool}, atomK t a = .call k s o few → ∀ {q : Option (List Term × Int × Int)}, ref07Closed t o few [40] [41] = q →
      ref07Atom t a = (q >>= fun q => if q.2.2 = 0 then (ref07Make t a q.2.1 k 0 s q.1 >>= fun z => some z) else some ⟨zT7, q.2.1, q.2.2⟩) >>= fun q => some q := by
    intro a ha k s o few hk q hq
    rcases atomK_cases hk with ⟨rfl, rfl, rfl, rfl, h1, h2⟩ | ⟨rfl, rfl, rfl, rfl, h1, h2⟩ | ⟨rfl, rfl, rfl, rfl, h1, h2⟩
    · have w := fun s => wrd_no (t := t) (a := a) (by rw [h1]; decide) s
      rw [ratom_called t hl a ha (by rw [h1]; decide) (fun _ => h2) (w _) (w _) (w _) (sgn_no (by rw [h1]; decide) _), call_16 t hl a h1, hq]
    · have hk := (wrd_k h1).1
      rw [ratom_called t hl a ha (by rw [hk]; decide) (fun h => by rw [hk] at h; cases h) (wrd_ne h1 (by decide)) (wrd_ne h1 (by decide)) (wrd_ne h1 (by decide)) (sgn_no (by rw [hk]; decide) _), call_15 t hl a h1 h2, hq]
    · have hk := (sgn_k h1).1
      have w := fun s => wrd_no (t := t) (a := a) (by rw [hk]; decide) s
      rw [ratom_called t hl a ha (by rw [hk]; decide) (fun h => by rw [hk] at h; cases h) (w _) (w _) (w _) (sgn_ne h1 (by decide)), call_17 t hl a h1 h2, hq]
  have lisOk : ∀ {a : Nat}, a ≤ t.length → atomK t a = .lis → ref07Atom t a = (ref07List_L2 t ((a + 1 : Nat) : Int) [] >>= fun q => if q.2.2 = 0 then (ref07Sign t q.2.1 [93] >>= fun z => if z = true then some (q.1, IntKind.wrap .i64 (q.2.1 + 1), 0) else some (q.1, q.2.1, 6)) else some (q.1, q.2.1, q.2.2)) >>=
      (fun q => if q.2.2 = 0 then (ref07Make t a q.2.1 14 0 [] q.1 >>= fun z => some z) else some ⟨zT7, q.2.1, q.2.2⟩) >>= fun q => some q := by
    intro a ha hk
    have h1 := atomK_lis hk
    have hk := (sgn_k h1).1
    have w := fun s => wrd_no (t := t) (a := a) (by rw [hk]; decide) s
    rw [ratom_called t hl a ha (by rw [hk]; decide) (fun h => by rw [hk] at h; cases h) (w _) (w _) (w _) (sgn_ne h1 (by decide)), call_lis t a h1, rclosed_list t hl a false _ _ h1 (fun h => by cases h), rlist_eq]
  induction h with
  | @un a b n x h1 hd ih =>
    intro ha
    have h0 : a < t.length := h1.elim (fun h => sgnAt_lt h.2) (fun h => sgnAt_lt h.2)
    have q := hd.inR (by omega)
    simp only [InR] at q
    have e := un_level6 (ih (by omega))
    refine level_6 t a _ ?_
    rw [ref07Un_eq]; unfold ref07Un_B
    rw [rsign_ok, some_bind, wi_succ hl (by omega)]
    rcases h1 with ⟨rfl, h1⟩ | ⟨rfl, h1⟩
    · rw [if_pos h1, rsign_ok, some_bind, sgn_ne h1 (by decide), if_neg (by simp), if_neg (by decide), e, some_bind]
      show (if (0 : Int) = 0 then _ else _) = _
      rw [if_pos rfl]
      show (ref07Make t a b 11 1 [] [x] >>= _) = _
      rw [rmake_ok t (by omega) a b (by omega) q.2]; rfl
    · rw [if_neg (by rw [sgn_ne h1 (by decide)]; simp), rsign_ok, some_bind, if_pos h1, if_neg (by decide), e, some_bind]
      show (if (0 : Int) = 0 then _ else _) = _
      rw [if_pos rfl]
      show (ref07Make t a b 11 2 [] [x] >>= _) = _
      rw [rmake_ok t (by omega) a b (by omega) q.2]; rfl
  | @unB a b h1 hd ih =>
    intro ha
    have h0 : a < t.length := h1.elim (fun h => sgnAt_lt h) (fun h => sgnAt_lt h)
    have e := un_level6 (ih (by omega))
    refine level_6 t a _ ?_
    rw [ref07Un_eq]; unfold ref07Un_B
    rw [rsign_ok, some_bind, wi_succ hl (by omega)]
    rcases h1 with h1 | h1
    · rw [if_pos h1, rsign_ok, some_bind, sgn_ne h1 (by decide), if_neg (by simp), if_neg (by decide), e, some_bind]; rfl
    · rw [if_neg (by rw [sgn_ne h1 (by decide)]; simp), rsign_ok, some_bind, if_pos h1, if_neg (by decide), e, some_bind]; rfl
  | @unP a r h1 h2 hd ih =>
    intro ha
    have e : ref07Post t a = some (got r) := ih ha
    refine level_6 t a _ ?_
    rw [ref07Un_eq]; unfold ref07Un_B
    rw [rsign_ok, some_bind, h1, if_neg (by simp), rsign_ok, some_bind, h2, if_neg (by simp), if_pos rfl, e]; rfl
  | @lev k a b x r h1 h2 hd hd2 ih1 ih2 =>
    intro ha
    have q := hd.inR ha
    simp only [InR] at q
    show ref07Level t a k = _
    rw [ref07Level_eq]; unfold ref07Level_B
    rw [if_neg (by omega), wi_id (by omega) (by omega), succ_cast]
    have e : ref07Level t a ((k + 1 : Nat) : Int) = _ := ih1 ha
    rw [e, some_bind]
    exact ih2 q.2 (by omega) (by omega) h2 _
  | @levB k a b h1 h2 hd ih1 =>
    intro ha
    show ref07Level t a k = _
    rw [ref07Level_eq]; unfold ref07Level_B
    rw [if_neg (by omega), wi_id (by omega) (by omega), succ_cast]
    have e : ref07Level t a ((k + 1 : Nat) : Int) = _ := ih1 ha
    rw [e, some_bind, ref07Level_L5_eq]; unfold ref07Level_L5_B
    rw [if_neg (by simp [got])]
  | @llE k m f a x h0 h1 =>
    intro ha hf hm hk o
    rw [ref07Level_L5_eq]; unfold ref07Level_L5_B
    rw [if_pos rfl, rop_ok t a k h0 hk, some_bind]
    rcases h1 with h1 | ⟨rfl, rfl⟩
    · rw [if_neg h1, if_pos rfl]; rfl
    · by_cases h2 : (opOf (tokAt t a)).2 = 3
      · rw [if_pos h2]
        by_cases h3 : (opOf (tokAt t a)).1 = 0
        · rw [if_pos h3]; rfl
        · rw [if_neg h3, if_pos (by decide), if_pos (by decide)]; rfl
      · rw [if_neg h2, if_pos rfl]; rfl
  | @llG k m f a b x y r h1 h2 h3 hd hd2 ih1 ih2 =>
    intro ha hf hm hk o
    have h0 := tokAt_lt (t := t) (a := a) (by rw [opOf_tok (by omega)]; decide)
    have q := hd.inR (by omega)
    simp only [InR] at q
    have e : ref07Level t ((a + 1 : Nat) : Int) ((k + 1 : Nat) : Int) = some ⟨y, (b : Int), 0⟩ := ih1 (by omega)
    have e2 : ref07Level_L5 t f k ((m + 1 : Nat) : Int) o ⟨_, (b : Int), 0⟩ = some (got r) := ih2 (by omega) (by omega) (by omega) hk o
    have hop : (opOf (tokAt t a)).1 ≠ 0 := opOf_pos (by omega)
    rw [ref07Level_L5_eq]; unfold ref07Level_L5_B
    rw [if_pos rfl, rop_ok t a k h1 hk, some_bind, if_pos h2, if_neg hop]
    have hk3 : (k : Int) = 3 → (m : Int) ≠ 1 := fun h h' => h3 ⟨by omega, by omega⟩
    have c1 : IntKind.wrap .i64 ((a : Int) + 1) = ((a + 1 : Nat) : Int) := wi_succ hl (by omega)
    have c2 : IntKind.wrap .i64 ((k : Int) + 1) = ((k + 1 : Nat) : Int) := by rw [wi_id (by omega) (by omega)]; omega
    have c3 : IntKind.wrap .i64 ((m : Int) + 1) = ((m + 1 : Nat) : Int) := by rw [wi_id (by omega) (by omega)]; omega
    by_cases h4 : (k : Int) = 3
    · rw [if_pos h4, if_neg (hk3 h4), c1, c2, e, some_bind, if_pos rfl, rmake_ok t (by omega) f b (by omega) q.2, some_bind, c3, e2]
    · rw [if_neg h4, c1, c2, e, some_bind, if_pos rfl, rmake_ok t (by omega) f b (by omega) q.2, some_bind, c3, e2]
  | @llB k m f a b x h1 h2 h3 hd ih1 =>
    intro ha hf hm hk o
    have h0 := tokAt_lt (t := t) (a := a) (by rw [opOf_tok (by omega)]; decide)
    have e : ref07Level t ((a + 1 : Nat) : Int) ((k + 1 : Nat) : Int) = some ⟨zT7, (b : Int), 6⟩ := ih1 (by omega)
    have hop : (opOf (tokAt t a)).1 ≠ 0 := opOf_pos (by omega)
    rw [ref07Level_L5_eq]; unfold ref07Level_L5_B
    rw [if_pos rfl, rop_ok t a k h1 hk, some_bind, if_pos h2, if_neg hop]
    have hk3 : (k : Int) = 3 → (m : Int) ≠ 1 := fun h h' => h3 ⟨by omega, by omega⟩
    have c1 : IntKind.wrap .i64 ((a : Int) + 1) = ((a + 1 : Nat) : Int) := wi_succ hl (by omega)
    have c2 : IntKind.wrap .i64 ((k : Int) + 1) = ((k + 1 : Nat) : Int) := by rw [wi_id (by omega) (by omega)]; omega
    by_cases h4 : (k : Int) = 3
    · rw [if_pos h4, if_neg (hk3 h4), c1, c2, e, some_bind]; rfl
    · rw [if_neg h4, c1, c2, e, some_bind]; rfl
  | @post a b x r hd hd2 ih1 ih2 =>
    intro ha
    have q := hd.inR ha
    simp only [InR] at q
    have e : ref07Atom t a = some ⟨x, (b : Int), 0⟩ := ih1 ha
    show ref07Post t a = _
    rw [ref07Post_eq]; unfold ref07Post_B
    rw [e, some_bind]
    exact ih2 q.2 q.1 _
  | @postB a b hd ih1 =>
    intro ha
    have e : ref07Atom t a = some ⟨zT7, (b : Int), 6⟩ := ih1 ha
    show ref07Post t a = _
    rw [ref07Post_eq]; unfold ref07Post_B
    rw [e, some_bind, ref07Post_L2_eq]; unfold ref07Post_L2_B
    rw [if_neg (by simp)]; rfl
  | @plE f a x h1 h2 =>
    intro ha hf o
    rw [ref07Post_L2_eq]; unfold ref07Post_L2_B
    rw [if_pos rfl, rsign_ok, some_bind, h1, if_neg (by simp), rsign_ok, some_bind, h2, if_neg (by simp)]; rfl
  | @plI f a b x i r h1 hd h2 hd2 ih1 ih2 =>
    intro ha hf o
    have h0 := sgnAt_lt h1
    have hb := sgnAt_lt h2
    have q := hd.inR (by omega)
    simp only [InR] at q
    have e : ref07Expr t ((a + 1 : Nat) : Int) = some ⟨i, (b : Int), 0⟩ := expr_1 (ih1 (by omega))
    have e2 : ref07Post_L2 t f o ⟨_, ((b + 1 : Nat) : Int), 0⟩ = some (got r) := ih2 (by omega) (by omega) o
    rw [ref07Post_L2_eq]; unfold ref07Post_L2_B
    rw [if_pos rfl, rsign_ok, some_bind, h1, if_pos rfl, wi_succ hl (by omega), e, some_bind, if_pos rfl, rsign_ok, some_bind, h2, if_pos rfl, wi_succ hl (by omega), rmake_ok t (by omega) f (b + 1) (by omega) (by omega), some_bind, e2]
  | @plI1 f a b x h1 hd ih1 =>
    intro ha hf o
    have h0 := sgnAt_lt h1
    have e : ref07Expr t ((a + 1 : Nat) : Int) = some ⟨zT7, (b : Int), 6⟩ := expr_1 (ih1 (by omega))
    rw [ref07Post_L2_eq]; unfold ref07Post_L2_B
    rw [if_pos rfl, rsign_ok, some_bind, h1, if_pos rfl, wi_succ hl (by omega), e, some_bind]; rfl
  | @plI2 f a b x i h1 hd h2 ih1 =>
    intro ha hf o
    have h0 := sgnAt_lt h1
    have e : ref07Expr t ((a + 1 : Nat) : Int) = some ⟨i, (b : Int), 0⟩ := expr_1 (ih1 (by omega))
    rw [ref07Post_L2_eq]; unfold ref07Post_L2_B
    rw [if_pos rfl, rsign_ok, some_bind, h1, if_pos rfl, wi_succ hl (by omega), e, some_bind, if_pos rfl, rsign_ok, some_bind, h2]; rfl
  | @plF f a x r h0 h1 h2 hd ih =>
    intro ha hf o
    have h3 := tokAt_lt (t := t) (a := a + 1) (by rw [h2]; decide)
    have e2 : ref07Post_L2 t f o ⟨_, ((a + 2 : Nat) : Int), 0⟩ = some (got r) := ih (by omega) (by omega) o
    rw [ref07Post_L2_eq]; unfold ref07Post_L2_B
    rw [if_pos rfl, rsign_ok, some_bind, h0, if_neg (by simp), rsign_ok, some_bind, h1, if_pos rfl, wi_succ hl (by omega), rnow_ok, some_bind, if_pos h2, wi_succ2 hl (by omega), rmake_ok t (by omega) f (a + 2) (by omega) (by omega), some_bind, e2]
  | @plFB f a x h0 h1 h2 =>
    intro ha hf o
    have h3 := sgnAt_lt h1
    rw [ref07Post_L2_eq]; unfold ref07Post_L2_B
    rw [if_pos rfl, rsign_ok, some_bind, h0, if_neg (by simp), rsign_ok, some_bind, h1, if_pos rfl, wi_succ hl (by omega), rnow_ok, some_bind, if_neg h2]; rfl
  | one h1 => intro ha; exact ratom_one t hl _ h1
  | @par a b x h1 hd h2 ih =>
    intro ha
    have h0 := sgnAt_lt (atomK_paren h1)
    have hb := sgnAt_lt h2
    have e : ref07Expr t ((a + 1 : Nat) : Int) = some ⟨x, (b : Int), 0⟩ := expr_1 (ih (by omega))
    show ref07Atom t a = _
    rw [ratom_paren t hl a (atomK_paren h1), e, some_bind, if_pos rfl, rsign_ok, some_bind, h2, if_pos rfl, wi_succ hl (by omega)]; rfl
  | @par1 a b h1 hd ih =>
    intro ha
    have h0 := sgnAt_lt (atomK_paren h1)
    have e : ref07Expr t ((a + 1 : Nat) : Int) = some ⟨zT7, (b : Int), 6⟩ := expr_1 (ih (by omega))
    show ref07Atom t a = _
    rw [ratom_paren t hl a (atomK_paren h1), e, some_bind]; rfl
  | @par2 a b x h1 hd h2 ih =>
    intro ha
    have h0 := sgnAt_lt (atomK_paren h1)
    have e : ref07Expr t ((a + 1 : Nat) : Int) = some ⟨x, (b : Int), 0⟩ := expr_1 (ih (by omega))
    show ref07Atom t a = _
    rw [ratom_paren t hl a (atomK_paren h1), e, some_bind, if_pos rfl, rsign_ok, some_bind, h2]; rfl
  | @call a o b k s few l h1 hd ih =>
    intro ha
    have h0 := atomK_call h1
    have q := hd.inR h0.2
    simp only [InR] at q
    have e := (ih h0.2).1 _ _ rfl
    show ref07Atom t a = _
    rw [clsOk ha h1 e, some_bind, if_pos rfl]
    show (ref07Make t a b k 0 s l >>= _) >>= _ = _
    rw [rmake_ok t (by omega) a b (by omega) q.2]; rfl
  | @callB a o b k s few h1 hd ih =>
    intro ha
    have h0 := atomK_call h1
    obtain ⟨l, e⟩ := (ih h0.2).2 _ rfl
    show ref07Atom t a = _
    rw [clsOk ha h1 e, some_bind]; rfl
  | @lis a b l h1 hd h2 ih =>
    intro ha
    have h0 := atomK_lt (t := t) (a := a) (by rw [h1]; simp)
    have hb := sgnAt_lt h2
    have q := hd.inR (by omega)
    simp only [InR] at q
    have e := (ih (by omega) (by simp)).1 _ _ rfl
    show ref07Atom t a = _
    rw [lisOk ha h1, e, some_bind, if_pos rfl, rsign_ok, some_bind, h2, if_pos rfl, wi_succ hl (by omega), some_bind, if_pos rfl]
    show (ref07Make t a ((b + 1 : Nat) : Int) 14 0 [] l >>= _) >>= _ = _
    rw [rmake_ok t (by omega) a (b + 1) (by omega) (by omega)]; rfl
  | @lis1 a b h1 hd ih =>
    intro ha
    have h0 := atomK_lt (t := t) (a := a) (by rw [h1]; simp)
    obtain ⟨l, e⟩ := (ih (by omega) (by simp)).2 _ rfl
    show ref07Atom t a = _
    rw [lisOk ha h1, e, some_bind]; rfl
  | @lis2 a b l h1 hd h2 ih =>
    intro ha
    have h0 := atomK_lt (t := t) (a := a) (by rw [h1]; simp)
    have e := (ih (by omega) (by simp)).1 _ _ rfl
    show ref07Atom t a = _
    rw [lisOk ha h1, e, some_bind, if_pos rfl, rsign_ok, some_bind, h2]; rfl
  | @nm a h1 =>
    intro ha
    obtain ⟨h2, h3⟩ := atomK_nm h1
    show ref07Atom t a = _
    rcases h2 with h2 | h2
    · have hk := (wrd_k h2).1
      rw [ratom_called t hl a ha (by rw [hk]; decide) (fun h => by rw [hk] at h; cases h) (wrd_ne h2 (by decide)) (wrd_ne h2 (by decide)) (wrd_ne h2 (by decide)) (sgn_no (by rw [hk]; decide) _), call_15n t hl a h2 h3]; rfl
    · have hk := (sgn_k h2).1
      have w := fun s => wrd_no (t := t) (a := a) (by rw [hk]; decide) s
      rw [ratom_called t hl a ha (by rw [hk]; decide) (fun h => by rw [hk] at h; cases h) (w _) (w _) (w _) (sgn_ne h2 (by decide)), call_17n t hl a h2 h3]; rfl
  | @no a h1 =>
    intro ha
    obtain ⟨k2, k1, w1, w2, w3, w4, s1, s2, s3⟩ := atomK_no h1
    show ref07Atom t a = _
    rw [ratom_called t hl a ha k2 (fun h => absurd h k1) w1 w2 w3 s1, ref07Called_eq]; unfold ref07Called_B
    rw [rnow_ok, some_bind, if_neg k1, rsign_ok, some_bind, s2, if_neg (by simp), rsign_ok, some_bind, s3, if_neg (by simp), rword_ok, some_bind, w4, if_neg (by simp)]; rfl
  | @cls0 a few h1 =>
    intro ha
    exact ⟨(fun _ _ h => by cases h), fun b h => by cases h; exact ⟨_, rclosed_bad t a few _ _ h1⟩⟩
  | @clsF a h1 h2 =>
    intro ha
    exact ⟨(fun _ _ h => by cases h; exact rclosed_few t hl a _ _ h1 h2), fun b h => by cases h⟩
  | @cls a b few l h1 h2 hd h3 ih =>
    intro ha
    have h0 := sgnAt_lt h1
    have hb := sgnAt_lt h3
    have e := (ih (by omega) (by simp)).1 _ _ rfl
    refine ⟨fun _ _ h => ?_, fun b h => by cases h⟩
    cases h
    rw [rclosed_list t hl a few _ _ h1 h2, rlist_eq, e, some_bind, if_pos rfl, rsign_ok, some_bind, h3, if_pos rfl, wi_succ hl (by omega)]
  | @cls1 a b few h1 h2 hd ih =>
    intro ha
    have h0 := sgnAt_lt h1
    obtain ⟨l, e⟩ := (ih (by omega) (by simp)).2 _ rfl
    refine ⟨(fun _ _ h => by cases h), fun _ h => ?_⟩
    cases h
    rw [rclosed_list t hl a few _ _ h1 h2, rlist_eq, e, some_bind]
    exact ⟨_, rfl⟩
  | @cls2 a b few l h1 h2 hd h3 ih =>
    intro ha
    have h0 := sgnAt_lt h1
    have e := (ih (by omega) (by simp)).1 _ _ rfl
    refine ⟨(fun _ _ h => by cases h), fun _ h => ?_⟩
    cases h
    rw [rclosed_list t hl a few _ _ h1 h2, rlist_eq, e, some_bind, if_pos rfl, rsign_ok, some_bind, h3]
    exact ⟨_, rfl⟩
  | @lstE a b acc x hd h1 ih =>
    intro ha hacc
    have e : ref07Expr t a = some ⟨x, (b : Int), 0⟩ := expr_1 (ih ha)
    refine ⟨fun _ _ h => ?_, fun _ h => by cases h⟩
    cases h
    rw [ref07List_L2_eq]; unfold ref07List_L2_B
    rw [e, some_bind, if_pos rfl, if_pos (room72 (by simp; omega)), rsign_ok, some_bind, h1]; rfl
  | @lstG a b acc x r hd h1 hd2 ih1 ih2 =>
    intro ha hacc
    have hb := sgnAt_lt h1
    have q := hd.inR ha
    simp only [InR] at q
    have e : ref07Expr t a = some ⟨x, (b : Int), 0⟩ := expr_1 (ih1 ha)
    have e2 := ih2 (by omega) (by simp; omega)
    rw [ref07List_L2_eq]; unfold ref07List_L2_B
    rw [e, some_bind, if_pos rfl, if_pos (room72 (by simp; omega)), rsign_ok, some_bind, h1, if_pos rfl, wi_succ hl (by omega)]
    exact e2
  | @lstB a b acc hd ih =>
    intro ha hacc
    have e : ref07Expr t a = some ⟨zT7, (b : Int), 6⟩ := expr_1 (ih ha)
    refine ⟨(fun _ _ h => by cases h), fun _ h => ?_⟩
    cases h
    rw [ref07List_L2_eq]; unfold ref07List_L2_B
    rw [e, some_bind]
    exact ⟨_, rfl⟩
end Go.Proofs.Ytpdhlbejdagkmaa.M
