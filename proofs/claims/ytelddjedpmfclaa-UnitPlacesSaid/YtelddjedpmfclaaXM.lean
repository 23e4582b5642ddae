/- Declarations, read by the program. -/
import Derived.Test.YtelddjedpmfclaaXS
namespace Go.Proofs.Ytelddjedpmfclaa.M
open Go Nt
set_option linter.unusedVariables false
set_option linter.unusedSectionVars false
set_option linter.unusedSimpArgs false
/-- what the tokens are: in order, the last one the end -/
structure Tk (t : List Token) (n : Nat) : Prop where
  mon : Mon t
  len : n + 1 = t.length
  lst : (tokAt t n).K = 5
  room : t.length ≤ 1048576
theorem Tk.ln {t : List Token} {n : Nat} (h : Tk t n) : Lst t n := fun i hi => by
  by_cases e : i = n
  · subst e; exact h.lst
  · unfold tokAt; have := h.len; rw [List.getElem?_eq_none (by omega)]; rfl
theorem Tk.idx {t : List Token} {n : Nat} (h : Tk t n) {a : Nat} (ha : a ≤ n) : idx t (a : Int) = some (tokAt t a) := by
  have := h.len
  rw [idx_lt (show a < t.length by omega)]; unfold tokAt; rw [List.getElem?_eq_getElem (show a < t.length by omega)]; rfl
/-- a term of the tokens from one place to another -/
def G (t : List Token) (a b : Nat) (x : Term) : Prop := Bt t a b x ∧ tsize x + 400 * a ≤ 400 * b ∧ a < b
/-- parts -/
def LL (c : Nat) (t : List Token) (f a : Nat) (l : List Term) : Prop := CH t f a l ∧ tsizes l + 400 * f + c ≤ 400 * a ∧ f + l.length ≤ a
theorem LL.nil {c : Nat} {t : List Token} {f a : Nat} (h : 400 * f + c ≤ 400 * a) : LL c t f a [] := ⟨CH.nil _ _ _, by simp only [tsizes]; omega, by simp; omega⟩
theorem tsizes_snoc (l : List Term) (x : Term) : tsizes (l ++ [x]) = tsizes l + tsize x := by rw [tsizes_app]; simp [tsizes]
section
variable {t : List Token} {n : Nat} (tk : Tk t n)
include tk
theorem LL.step {c f a a' : Nat} {l : List Term} (h : LL c t f a l) (h1 : a ≤ a') (h2 : a' ≤ n) : LL c t f a' l := by
  obtain ⟨g1, g2, g3⟩ := h
  have := tk.len
  exact ⟨g1.step tk.mon h1 (by omega), by omega, by omega⟩
theorem LL.snoc {c f a b : Nat} {l : List Term} {x : Term} (h : LL c t f a l) (hx : G t a b x) (h2 : b ≤ n) : LL c t f b (l ++ [x]) := by
  obtain ⟨g1, g2, g3⟩ := h
  obtain ⟨x1, x2, x3⟩ := hx
  have := tk.len
  exact ⟨g1.snoc tk.mon (by omega) x3 (by omega) x1, by rw [tsizes_snoc]; omega, by rw [List.length_append]; simp only [List.length_cons, List.length_nil]; omega⟩
theorem LL.mk {f b : Nat} {l : List Term} {k m : Int} {s : Str} (h : LL 1 t f b l) (h2 : b ≤ n) : G t f b ⟨k, m, s, l, (tokAt t f).From, (tokAt t (b - 1)).To⟩ := by
  obtain ⟨g1, g2, g3⟩ := h
  have := tk.len
  exact ⟨g1.mk (k := k) (n := m) (s := s) tk.mon (by omega) (by omega), by simp only [tsize]; omega, by omega⟩
variable (K N : Int) (S : Str) (L : List Term) (F T : Int)
/-- what a reader hands back -/
def Ret {α : Type} (t : List Token) (n : Nat) (K N : Int) (S : Str) (L : List Term) (F T : Int) (a : Nat) (e : Int) (p : Option (α × List Token × Int × Int × Int × Int × Str × List Term × Int × Int)) (P : α → Nat → Prop) : Prop :=
  ∃ (x : α) (b : Nat) (e' : Int), p = some (x, t, (b : Int), e', K, N, S, L, F, T) ∧ a ≤ b ∧ b ≤ n ∧ (e' = 0 → e = 0 ∧ P x b)
def isAt (t : List Token) (k : Int) (s : Str) (a : Nat) : Bool := decide ((tokAt t a).K = k) && ((tokAt t a).S == s)
theorem isAt_ln {k : Int} {s : Str} {a : Nat} (hk : k ≠ 5) (h : isAt t k s a = true) : a < n := tokAt_ln tk.ln (by
  unfold isAt at h
  simp only [Bool.and_eq_true, decide_eq_true_eq] at h
  rw [h.1]; exact hk)
theorem is_ok (k : Int) (s : Str) {a : Nat} (e : Int) (ha : a ≤ n) : unit_reader_is k s t a e K N S L F T = some (isAt t k s a) := by
  unfold unit_reader_is isAt
  rw [tk.idx ha, some_bind]
  by_cases h : (tokAt t a).K = k
  · rw [if_pos h, some_bind, decide_eq_true h]; rfl
  · rw [if_neg h, decide_eq_false h]; rfl
theorem wsucc {a : Nat} (ha : a ≤ n) : IntKind.wrap .i64 ((a : Int) + 1) = ((a + 1 : Nat) : Int) := by
  have := tk.len; have := tk.room
  rw [wi_id (by omega) (by omega)]; omega
theorem take_yes (k : Int) (s : Str) {a : Nat} {e : Int} (ha : a ≤ n) (he : e = 0) (h : isAt t k s a = true) : unit_reader_take k s t a e K N S L F T = some (true, t, ((a + 1 : Nat) : Int), e, K, N, S, L, F, T) := by
  unfold unit_reader_take
  rw [if_pos he, is_ok tk K N S L F T k s e ha, some_bind, if_pos h, wsucc tk ha]
theorem take_no (k : Int) (s : Str) {a : Nat} {e : Int} (ha : a ≤ n) (h : ¬ (e = 0 ∧ isAt t k s a = true)) : unit_reader_take k s t a e K N S L F T = some (false, t, (a : Int), e, K, N, S, L, F, T) := by
  unfold unit_reader_take
  by_cases he : e = 0
  · rw [if_pos he, is_ok tk K N S L F T k s e ha, some_bind, if_neg (fun g => h ⟨he, g⟩)]
  · rw [if_neg he]
theorem uneed_ok (k : Int) (s : Str) {a : Nat} (e : Int) (hk : k ≠ 5) (ha : a ≤ n) : ∃ (b : Nat) (e' : Int), unit_reader_need k s t a e K N S L F T = some (t, (b : Int), e', K, N, S, L, F, T) ∧ a ≤ b ∧ b ≤ n ∧ (e' = 0 → e = 0 ∧ b = a + 1) := by
  unfold unit_reader_need
  by_cases he : e = 0
  · rw [if_pos he]
    by_cases h : isAt t k s a = true
    · rw [take_yes tk K N S L F T k s ha he h, some_bind, if_pos rfl]
      have := isAt_ln tk hk h
      exact ⟨a + 1, e, rfl, by omega, by omega, fun _ => ⟨he, rfl⟩⟩
    · rw [take_no tk K N S L F T k s ha (fun g => h g.2), some_bind]; dsimp only
      rw [if_neg (by decide)]
      exact ⟨a, 6, rfl, by omega, ha, fun g => absurd g (by decide)⟩
  · rw [if_neg he]
    exact ⟨a, e, rfl, by omega, ha, fun g => absurd g he⟩
theorem name_ok {a : Nat} (e : Int) (ha : a ≤ n) : Ret t n K N S L F T a e (unit_reader_name t a e K N S L F T) (fun _ b => b = a + 1) := by
  unfold unit_reader_name
  by_cases he : e = 0
  · rw [if_pos he, tk.idx ha, some_bind]
    by_cases h : (tokAt t a).K = 1
    · have h0 := tokAt_ln tk.ln (a := a) (by rw [h]; decide)
      have h1 := tk.len
      have h2 := tk.room
      rw [if_pos h, wsucc tk ha, wi_id (by omega) (by omega), show ((a + 1 : Nat) : Int) - 1 = (a : Int) by omega, tk.idx ha, some_bind]
      exact ⟨_, a + 1, e, rfl, by omega, by omega, fun _ => ⟨he, rfl⟩⟩
    · rw [if_neg h]
      exact ⟨_, a, 6, rfl, by omega, ha, fun g => absurd g (by decide)⟩
  · rw [if_neg he]
    exact ⟨_, a, e, rfl, by omega, ha, fun g => absurd g he⟩
theorem made_okU (k m : Int) (s : Str) {f b : Nat} (l : List Term) (e : Int) (hb : b ≤ n) (h : e = 0 → LL 1 t f b l) : ∃ x, unit_reader_made k m s f l t b e K N S L F T = some x ∧ (e = 0 → G t f b x) := by
  unfold unit_reader_made
  by_cases he : e = 0
  · have g := h he
    have g2 := g.2.2
    have g1 := g.2.1
    have h1 := tk.len
    have h2 := tk.room
    rw [if_pos he, tk.idx (show f ≤ n by omega), some_bind, wi_id (by omega) (by omega), show (b : Int) - 1 = ((b - 1 : Nat) : Int) by omega, tk.idx (show b - 1 ≤ n by omega), some_bind]
    exact ⟨_, rfl, fun _ => LL.mk tk g hb⟩
  · rw [if_neg he]
    exact ⟨_, rfl, fun g => absurd g he⟩
theorem type_ok {a : Nat} (e : Int) (ha : a ≤ n) : Ret t n K N S L F T a e (unit_reader_other_Type t a e K N S L F T) (fun x b => G t a b x) := by
  have h1 := tk.len
  have h2 := tk.room
  unfold unit_reader_other_Type
  by_cases he : e = 0
  · rw [if_pos he]
    unfold expr_Type expr_start_parser_kind
    obtain ⟨x, e1, e2⟩ := kind_ok t (by omega) (t.length + 1) a (by omega) (by omega)
    rw [if_neg (by omega), if_neg (by omega), e1, some_bind]
    dsimp only
    by_cases h3 : (typ (t.length + 1) t a).2.2 = 0
    · have q := typ_pln tk.ln (t.length + 1) a (by omega) h3
      obtain ⟨g1, g2⟩ := typ_bt tk.mon (t.length + 1) a (by omega) h3
      rw [if_pos h3, some_bind, some_bind, e2 h3]
      exact ⟨(typ (t.length + 1) t a).1, (typ (t.length + 1) t a).2.1, 0, rfl, by omega, q.2, fun _ => ⟨he, g1, by omega, q.1⟩⟩
    · have q := typ_badpln tk.ln (t.length + 1) a (by omega) ha h3
      rw [if_neg h3, some_bind, some_bind]
      exact ⟨_, (typ (t.length + 1) t a).2.1, _, rfl, q.1, q.2, fun g => absurd g h3⟩
  · rw [if_neg he]
    exact ⟨_, a, e, rfl, by omega, ha, fun g => absurd g he⟩
theorem block_ok {a : Nat} (e : Int) (ha : a ≤ n) : Ret t n K N S L F T a e (unit_reader_other_Block t a e K N S L F T) (fun x b => G t a b x) := by
  have h1 := tk.len
  have h2 := tk.room
  unfold unit_reader_other_Block
  by_cases he : e = 0
  · rw [if_pos he]
    obtain ⟨r, hr⟩ := (sder_all t (t.length - a) a (by omega)).2
    rw [sblock_ok t (by omega) a (by omega) hr, some_bind]
    have q := hr.inSn tk.ln (show n < t.length by omega) ha
    cases r with
    | ok x b =>
      simp only [InSn] at q
      have g1 := bt_of_sder tk.mon hr (by omega) x b rfl
      have g2 : tsize x + 400 * a + 500 ≤ 400 * b := ss_of_sder tk.mon hr (by omega) x b rfl
      exact ⟨x, b, 0, rfl, by omega, q.2, fun _ => ⟨he, g1, by omega, q.1⟩⟩
    | bad b =>
      simp only [InSn] at q
      exact ⟨zT7, b, 6, rfl, q.1, q.2, fun g => absurd g (by decide)⟩
  · rw [if_neg he]
    exact ⟨_, a, e, rfl, by omega, ha, fun g => absurd g he⟩
end
end Go.Proofs.Ytelddjedpmfclaa.M
/-! Declarations, read by the program: whole ones. -/
namespace Go.Proofs.Ytelddjedpmfclaa.M
open Go Nt
set_option linter.unusedVariables false
set_option linter.unusedSectionVars false
set_option linter.unusedSimpArgs false
section
variable {t : List Token} {n : Nat} (tk : Tk t n) (K N : Int) (S : Str) (L : List Term) (F T : Int)
include tk
theorem part_ok {a : Nat} (e : Int) (ha : a ≤ n) : Ret t n K N S L F T a e (unit_reader_part t a e K N S L F T) (fun x b => G t a b x) := by
  unfold unit_reader_part
  obtain ⟨s, b1, e1, h1, l1, m1, P1⟩ := name_ok tk K N S L F T e ha
  rw [h1, some_bind]; dsimp only
  obtain ⟨b2, e2, h2, l2, m2, P2⟩ := uneed_ok tk K N S L F T 4 [58] e1 (by decide) m1
  rw [h2, some_bind]; dsimp only
  obtain ⟨x3, b3, e3, h3, l3, m3, P3⟩ := type_ok tk K N S L F T e2 m2
  rw [h3, some_bind]; dsimp only
  obtain ⟨x, h4, P4⟩ := made_okU tk K N S L F T 34 0 s (f := a) (b := b3) [x3] e3 m3 (fun h => by
    obtain ⟨q3, g3⟩ := P3 h
    obtain ⟨q2, g2⟩ := P2 q3
    obtain ⟨q1, g1⟩ := P1 q2
    exact LL.snoc tk (l := []) (LL.nil (a := b2) (by omega)) g3 m3)
  rw [h4, some_bind]
  exact ⟨x, b3, e3, rfl, by omega, m3, fun h => ⟨(P1 (P2 (P3 h).1).1).1, P4 h⟩⟩
theorem parts_bad {out : List Term} {a : Int} {e : Int} (h : e ≠ 0) : unit_reader_list_reader_part_reader_comma_L2 out t a e K N S L F T = some (out, t, a, e, K, N, S, L, F, T) := by
  rw [unit_reader_list_reader_part_reader_comma_L2_eq]; unfold unit_reader_list_reader_part_reader_comma_L2_B
  rw [if_neg h]
theorem roomL {c f a : Nat} {l : List Term} {x : Term} (h : LL c t f a l) (ha : a ≤ n) : roomy 72 (List.length l + List.length [x]) := by
  have := h.2.2; have := tk.len; have := tk.room
  exact room72 (by simp only [List.length_cons, List.length_nil]; omega)
theorem partsL_ok {c f : Nat} : ∀ (k : Nat) (out : List Term) (a : Nat) (e : Int), n < a + k → a ≤ n → (e = 0 → LL c t f a out) → Ret t n K N S L F T a e (unit_reader_list_reader_part_reader_comma_L2 out t a e K N S L F T) (fun l b => LL c t f b l) := by
  intro k
  induction k with
  | zero => intro out a e h1 h2; omega
  | succ k ih =>
    intro out a e h1 h2 hl
    by_cases he : e = 0
    · rw [unit_reader_list_reader_part_reader_comma_L2_eq]; unfold unit_reader_list_reader_part_reader_comma_L2_B unit_reader_comma
      rw [if_pos he]
      by_cases h : isAt t 4 [44] a = true
      · have hlt := isAt_ln tk (by decide) h
        rw [take_yes tk K N S L F T 4 [44] h2 he h, some_bind, some_bind]; dsimp only
        rw [if_pos rfl]
        obtain ⟨x, b, e1, h3, l3, m3, P3⟩ := part_ok tk K N S L F T (a := a + 1) e (by omega)
        rw [h3, some_bind]; dsimp only
        rw [if_pos (roomL tk (hl he) h2)]
        obtain ⟨y, b', e2, h4, l4, m4, P4⟩ := ih (out ++ [x]) b e1 (by omega) m3 (fun h => LL.snoc tk (LL.step tk (hl he) (show a ≤ a + 1 by omega) (by omega)) (P3 h).2 m3)
        exact ⟨y, b', e2, h4, by omega, m4, fun h => ⟨he, (P4 h).2⟩⟩
      · rw [take_no tk K N S L F T 4 [44] h2 (fun g => h g.2), some_bind, some_bind]; dsimp only
        rw [if_neg (by decide)]
        exact ⟨_, a, e, rfl, by omega, h2, fun _ => ⟨he, hl he⟩⟩
    · rw [parts_bad tk K N S L F T he]
      exact ⟨_, a, e, rfl, by omega, h2, fun g => absurd g he⟩
theorem params_ok {a : Nat} (e : Int) (ha : a ≤ n) : Ret t n K N S L F T a e (unit_reader_params t a e K N S L F T) (fun x b => G t a b x) := by
  unfold unit_reader_params
  obtain ⟨b1, e1, h1, l1, m1, P1⟩ := uneed_ok tk K N S L F T 4 [40] e (by decide) ha
  rw [h1, some_bind]; dsimp only
  by_cases h : e1 = 0 ∧ isAt t 4 [41] b1 = true
  · have hlt := isAt_ln tk (by decide) h.2
    rw [take_yes tk K N S L F T 4 [41] m1 h.1 h.2, some_bind]; dsimp only
    rw [if_pos rfl]
    obtain ⟨x, h4, P4⟩ := made_okU tk K N S L F T 35 0 [] (f := a) (b := b1 + 1) [] e1 (by omega) (fun h => LL.nil (by have := P1 h; omega))
    rw [h4, some_bind]
    exact ⟨x, b1 + 1, e1, rfl, by omega, by omega, fun h => ⟨(P1 h).1, P4 h⟩⟩
  · rw [take_no tk K N S L F T 4 [41] m1 h, some_bind]; dsimp only
    rw [if_neg (by decide)]
    unfold unit_reader_list_reader_part_reader_comma
    obtain ⟨x, b2, e2, h2, l2, m2, P2⟩ := part_ok tk K N S L F T e1 m1
    rw [h2, some_bind]; dsimp only
    obtain ⟨y, b3, e3, h3, l3, m3, P3⟩ := partsL_ok (c := 1) (f := a) tk K N S L F T (n + 1) [x] b2 e2 (by omega) m2 (fun h => by
      obtain ⟨q2, g2⟩ := P2 h
      have := (P1 q2).2
      exact LL.snoc tk (l := []) (LL.nil (a := b1) (by omega)) g2 m2)
    rw [h3, some_bind]; dsimp only
    obtain ⟨b4, e4, h4, l4, m4, P4⟩ := uneed_ok tk K N S L F T 4 [41] e3 (by decide) m3
    rw [h4, some_bind]; dsimp only
    obtain ⟨z, h5, P5⟩ := made_okU tk K N S L F T 35 0 [] (f := a) (b := b4) y e4 m4 (fun h => LL.step tk (P3 (P4 h).1).2 l4 m4)
    rw [h5, some_bind]
    exact ⟨z, b4, e4, rfl, by omega, m4, fun h => ⟨(P1 (P2 (P3 (P4 h).1).1).1).1, P5 h⟩⟩
/-- a function from its name on -/
theorem fn_rest {a b0 : Nat} (k : Int) (e e0 : Int) (hb : b0 ≤ n) (hab : a ≤ b0) (h0 : e0 = 0 → e = 0 ∧ a < b0) : Ret t n K N S L F T a e (
    unit_reader_name t b0 e0 K N S L F T >>= fun q3 =>
    unit_reader_params q3.2.1 q3.2.2.1 q3.2.2.2.1 q3.2.2.2.2.1 q3.2.2.2.2.2.1 q3.2.2.2.2.2.2.1 q3.2.2.2.2.2.2.2.1 q3.2.2.2.2.2.2.2.2.1 q3.2.2.2.2.2.2.2.2.2 >>= fun q4 =>
    unit_reader_need 4 ([58] : List UInt8) q4.2.1 q4.2.2.1 q4.2.2.2.1 q4.2.2.2.2.1 q4.2.2.2.2.2.1 q4.2.2.2.2.2.2.1 q4.2.2.2.2.2.2.2.1 q4.2.2.2.2.2.2.2.2.1 q4.2.2.2.2.2.2.2.2.2 >>= fun q5 =>
    unit_reader_other_Type q5.1 q5.2.1 q5.2.2.1 q5.2.2.2.1 q5.2.2.2.2.1 q5.2.2.2.2.2.1 q5.2.2.2.2.2.2.1 q5.2.2.2.2.2.2.2.1 q5.2.2.2.2.2.2.2.2 >>= fun q6 =>
    unit_reader_other_Block q6.2.1 q6.2.2.1 q6.2.2.2.1 q6.2.2.2.2.1 q6.2.2.2.2.2.1 q6.2.2.2.2.2.2.1 q6.2.2.2.2.2.2.2.1 q6.2.2.2.2.2.2.2.2.1 q6.2.2.2.2.2.2.2.2.2 >>= fun q7 =>
    unit_reader_made 33 k q3.1 a [q4.1, q6.1, q7.1] q7.2.1 q7.2.2.1 q7.2.2.2.1 q7.2.2.2.2.1 q7.2.2.2.2.2.1 q7.2.2.2.2.2.2.1 q7.2.2.2.2.2.2.2.1 q7.2.2.2.2.2.2.2.2.1 q7.2.2.2.2.2.2.2.2.2 >>= fun q8 =>
    some (q8, q7.2.1, q7.2.2.1, q7.2.2.2.1, q7.2.2.2.2.1, q7.2.2.2.2.2.1, q7.2.2.2.2.2.2.1, q7.2.2.2.2.2.2.2.1, q7.2.2.2.2.2.2.2.2.1, q7.2.2.2.2.2.2.2.2.2)) (fun x b => G t a b x) := by
  obtain ⟨s, b1, e1, h1, l1, m1, P1⟩ := name_ok tk K N S L F T e0 hb
  rw [h1, some_bind]; dsimp only
  obtain ⟨x2, b2, e2, h2, l2, m2, P2⟩ := params_ok tk K N S L F T e1 m1
  rw [h2, some_bind]; dsimp only
  obtain ⟨b3, e3, h3, l3, m3, P3⟩ := uneed_ok tk K N S L F T 4 [58] e2 (by decide) m2
  rw [h3, some_bind]; dsimp only
  obtain ⟨x4, b4, e4, h4, l4, m4, P4⟩ := type_ok tk K N S L F T e3 m3
  rw [h4, some_bind]; dsimp only
  obtain ⟨x5, b5, e5, h5, l5, m5, P5⟩ := block_ok tk K N S L F T e4 m4
  rw [h5, some_bind]; dsimp only
  obtain ⟨x, h6, P6⟩ := made_okU tk K N S L F T 33 k s (f := a) (b := b5) [x2, x4, x5] e5 m5 (fun h => by
    obtain ⟨q4, g5⟩ := P5 h
    obtain ⟨q3, g4⟩ := P4 q4
    obtain ⟨q2, g3⟩ := P3 q3
    obtain ⟨q1, g2⟩ := P2 q2
    obtain ⟨q0, g1⟩ := P1 q1
    have := (h0 q0).2
    have c1 := LL.snoc tk (l := []) (LL.nil (c := 1) (f := a) (a := b1) (by omega)) g2 m2
    have c2 := LL.snoc tk (LL.step tk c1 l3 m3) g4 m4
    exact LL.snoc tk c2 g5 m5)
  rw [h6, some_bind]
  exact ⟨x, b5, e5, rfl, by omega, m5, fun h => ⟨(h0 (P1 (P2 (P3 (P4 (P5 h).1).1).1).1).1).1, P6 h⟩⟩
theorem function_ok {a : Nat} (e : Int) (ha : a ≤ n) : Ret t n K N S L F T a e (unit_reader_function t a e K N S L F T) (fun x b => G t a b x) := by
  unfold unit_reader_function
  by_cases h : e = 0 ∧ isAt t 3 [112, 117, 98] a = true
  · have hlt := isAt_ln tk (by decide) h.2
    rw [take_yes tk K N S L F T 3 _ ha h.1 h.2, some_bind]; dsimp only
    rw [if_pos rfl]
    obtain ⟨b1, e1, h1, l1, m1, P1⟩ := uneed_ok tk K N S L F T 3 [102, 110] (a := a + 1) e (by decide) (by omega)
    rw [h1, some_bind]; dsimp only
    exact fn_rest tk K N S L F T 1 e e1 m1 (by omega) (fun h => ⟨(P1 h).1, by omega⟩)
  · rw [take_no tk K N S L F T 3 _ ha h, some_bind]; dsimp only
    rw [if_neg (by decide)]
    obtain ⟨b1, e1, h1, l1, m1, P1⟩ := uneed_ok tk K N S L F T 3 [102, 110] e (by decide) ha
    rw [h1, some_bind]; dsimp only
    exact fn_rest tk K N S L F T 0 e e1 m1 (by omega) (fun h => ⟨(P1 h).1, by have := (P1 h).2; omega⟩)
theorem global_ok {a : Nat} (e : Int) (ha : a < n) : Ret t n K N S L F T a e (unit_reader_global t a e K N S L F T) (fun x b => G t a b x) := by
  unfold unit_reader_global
  rw [wsucc tk (by omega)]
  obtain ⟨s, b1, e1, h1, l1, m1, P1⟩ := name_ok tk K N S L F T (a := a + 1) e (by omega)
  rw [h1, some_bind]; dsimp only
  obtain ⟨b2, e2, h2, l2, m2, P2⟩ := uneed_ok tk K N S L F T 4 [58] e1 (by decide) m1
  rw [h2, some_bind]; dsimp only
  obtain ⟨x3, b3, e3, h3, l3, m3, P3⟩ := type_ok tk K N S L F T e2 m2
  rw [h3, some_bind]; dsimp only
  obtain ⟨b4, e4, h4, l4, m4, P4⟩ := uneed_ok tk K N S L F T 4 [59] e3 (by decide) m3
  rw [h4, some_bind]; dsimp only
  obtain ⟨x, h5, P5⟩ := made_okU tk K N S L F T 32 0 s (f := a) (b := b4) [x3] e4 m4 (fun h => by
    obtain ⟨q3, g4⟩ := P4 h
    obtain ⟨q2, g3⟩ := P3 q3
    exact LL.step tk (LL.snoc tk (l := []) (LL.nil (a := b2) (by omega)) g3 m3) l4 m4)
  rw [h5, some_bind]
  exact ⟨x, b4, e4, rfl, by omega, m4, fun h => ⟨(P1 (P2 (P3 (P4 h).1).1).1).1, P5 h⟩⟩
theorem field_ok {a : Nat} (e : Int) (ha : a ≤ n) : Ret t n K N S L F T a e (unit_reader_field t a e K N S L F T) (fun x b => ∃ c, c + 1 = b ∧ G t a c x) := by
  unfold unit_reader_field
  obtain ⟨x, b1, e1, h1, l1, m1, P1⟩ := part_ok tk K N S L F T e ha
  rw [h1, some_bind]; dsimp only
  obtain ⟨b2, e2, h2, l2, m2, P2⟩ := uneed_ok tk K N S L F T 4 [59] e1 (by decide) m1
  rw [h2, some_bind]
  exact ⟨x, b2, e2, rfl, by omega, m2, fun h => ⟨(P1 (P2 h).1).1, b1, (P2 h).2.symm, (P1 (P2 h).1).2⟩⟩
theorem fields_bad {out : List Term} {a : Int} {e : Int} (h : e ≠ 0) : unit_reader_list_reader_field_reader_open_L2 out t a e K N S L F T = some (out, t, a, e, K, N, S, L, F, T) := by
  rw [unit_reader_list_reader_field_reader_open_L2_eq]; unfold unit_reader_list_reader_field_reader_open_L2_B
  rw [if_neg h]
theorem fieldsL_ok {c f : Nat} : ∀ (k : Nat) (out : List Term) (a : Nat) (e : Int), n < a + k → a ≤ n → (e = 0 → LL c t f a out) → Ret t n K N S L F T a e (unit_reader_list_reader_field_reader_open_L2 out t a e K N S L F T) (fun l b => LL c t f b l) := by
  intro k
  induction k with
  | zero => intro out a e h1 h2; omega
  | succ k ih =>
    intro out a e h1 h2 hl
    by_cases he : e = 0
    · rw [unit_reader_list_reader_field_reader_open_L2_eq]; unfold unit_reader_list_reader_field_reader_open_L2_B unit_reader_open
      rw [if_pos he, is_ok tk K N S L F T 4 [125] e h2, some_bind, some_bind]
      by_cases h : (!isAt t 4 [125] a) = true
      · rw [if_pos h]
        obtain ⟨x, b, e1, h3, l3, m3, P3⟩ := field_ok tk K N S L F T e h2
        rw [h3, some_bind]; dsimp only
        rw [if_pos (roomL tk (hl he) h2)]
        by_cases h5 : e1 = 0
        · obtain ⟨q, c', hc, g⟩ := P3 h5
          have hlt := g.2.2
          obtain ⟨y, b', e2, h4, l4, m4, P4⟩ := ih (out ++ [x]) b e1 (by omega) m3 (fun _ => LL.step tk (LL.snoc tk (hl he) g (by omega)) (show c' ≤ b by omega) m3)
          exact ⟨y, b', e2, h4, by omega, m4, fun h => ⟨he, (P4 h).2⟩⟩
        · rw [fields_bad tk K N S L F T h5]
          exact ⟨_, b, e1, rfl, l3, m3, fun g => absurd g h5⟩
      · rw [if_neg h]
        exact ⟨_, a, e, rfl, by omega, h2, fun _ => ⟨he, hl he⟩⟩
    · rw [fields_bad tk K N S L F T he]
      exact ⟨_, a, e, rfl, by omega, h2, fun g => absurd g he⟩
theorem record_ok {a : Nat} (e : Int) (ha : a < n) : Ret t n K N S L F T a e (unit_reader_record t a e K N S L F T) (fun x b => G t a b x) := by
  unfold unit_reader_record unit_reader_list_reader_field_reader_open
  rw [wsucc tk (by omega)]
  obtain ⟨s, b1, e1, h1, l1, m1, P1⟩ := name_ok tk K N S L F T (a := a + 1) e (by omega)
  rw [h1, some_bind]; dsimp only
  obtain ⟨b2, e2, h2, l2, m2, P2⟩ := uneed_ok tk K N S L F T 4 [123] e1 (by decide) m1
  rw [h2, some_bind]; dsimp only
  obtain ⟨x3, b3, e3, h3, l3, m3, P3⟩ := field_ok tk K N S L F T e2 m2
  rw [h3, some_bind]; dsimp only
  obtain ⟨y, b4, e4, h4, l4, m4, P4⟩ := fieldsL_ok (c := 1) (f := a) tk K N S L F T (n + 1) [x3] b3 e3 (by omega) m3 (fun h => by
    obtain ⟨q2, c', hc, g⟩ := P3 h
    exact LL.step tk (LL.snoc tk (l := []) (LL.nil (a := b2) (by omega)) g (by omega)) (show c' ≤ b3 by omega) m3)
  rw [h4, some_bind]; dsimp only
  obtain ⟨b5, e5, h5, l5, m5, P5⟩ := uneed_ok tk K N S L F T 4 [125] e4 (by decide) m4
  rw [h5, some_bind]; dsimp only
  obtain ⟨z, h6, P6⟩ := made_okU tk K N S L F T 30 0 s (f := a) (b := b5) y e5 m5 (fun h => LL.step tk (P4 (P5 h).1).2 l5 m5)
  rw [h6, some_bind]
  exact ⟨z, b5, e5, rfl, by omega, m5, fun h => ⟨(P1 (P2 (P3 (P4 (P5 h).1).1).1).1).1, P6 h⟩⟩
end
end Go.Proofs.Ytelddjedpmfclaa.M
/-! A module, read by the program. -/
namespace Go.Proofs.Ytelddjedpmfclaa.M
open Go Nt
set_option linter.unusedVariables false
set_option linter.unusedSectionVars false
set_option linter.unusedSimpArgs false
theorem der_one {u : List Token} {k m : Int} {s : Str} (h : atomK u 0 = .one k m s) (h4 : (tokAt u 0).K ≠ 4) (h1 : u.length = 1) : Der u (.lev 1) 0 (.ok (placed u 0 1 ⟨k, m, s, [], 0, 0⟩) 1) := by
  have e1 : tokAt u 1 = tEnd := by unfold tokAt; rw [List.getElem?_eq_none (by omega)]; rfl
  have sg : ∀ s, sgnAt u 1 s = false := fun s => by unfold sgnAt; rw [e1]; rfl
  have op : (opOf (tokAt u 1)).2 = 0 := by rw [e1]; rfl
  have d6 : Der u (.lev 6) 0 (.ok (placed u 0 1 ⟨k, m, s, [], 0, 0⟩) 1) := .unP (sgn_no h4 _) (sgn_no h4 _) (.post (.one h) (.plE (sg _) (sg _)))
  have lev : ∀ k', 1 ≤ k' → k' ≤ 5 → Der u (.lev (k' + 1)) 0 (.ok (placed u 0 1 ⟨k, m, s, [], 0, 0⟩) 1) → Der u (.lev k') 0 (.ok (placed u 0 1 ⟨k, m, s, [], 0, 0⟩) 1) := fun k' h1 h2 hd => .lev h1 h2 hd (.llE h1 (.inl (by omega)))
  exact lev 1 (by omega) (by omega) (lev 2 (by omega) (by omega) (lev 3 (by omega) (by omega) (lev 4 (by omega) (by omega) (lev 5 (by omega) (by omega) d6))))
theorem lit_ok (x : Token) (h : x.K = 2 ∨ (x.K = 3 ∧ (x.S = [116, 114, 117, 101] ∨ x.S = [102, 97, 108, 115, 101]))) : ∃ k m s, expr_Parse [x] 0 = some (⟨k, m, s, [], x.From, x.To⟩, 1, 0) := by
  have e0 : tokAt [x] 0 = x := rfl
  have fin : ∀ {k m : Int} {s : Str}, atomK [x] 0 = .one k m s → (tokAt [x] 0).K ≠ 4 → ∃ k m s, expr_Parse [x] 0 = some (⟨k, m, s, [], x.From, x.To⟩, 1, 0) := fun {k m s} h1 h2 =>
    ⟨k, m, s, parse_der [x] (by simp) 0 (by simp) (der_one h1 h2 rfl)⟩
  rcases h with h | ⟨h, h2 | h2⟩
  · refine fin (k := 5) (m := x.N) (s := []) ?_ (by rw [e0, h]; decide)
    unfold atomK; rw [if_pos (by rw [e0, h])]; rfl
  · refine fin (k := 6) (m := 1) (s := []) ?_ (by rw [e0, h]; decide)
    have hw : wrdAt [x] 0 [116, 114, 117, 101] = true := by unfold wrdAt; rw [e0, h, h2]; rfl
    unfold atomK; rw [if_neg (by rw [e0, h]; decide), if_neg (by rw [e0, h]; decide), if_pos hw]
  · refine fin (k := 6) (m := 0) (s := []) ?_ (by rw [e0, h]; decide)
    have hw : wrdAt [x] 0 [102, 97, 108, 115, 101] = true := by unfold wrdAt; rw [e0, h, h2]; rfl
    have hw2 : wrdAt [x] 0 [116, 114, 117, 101] = false := wrd_ne hw (by decide)
    unfold atomK; rw [if_neg (by rw [e0, h]; decide), if_neg (by rw [e0, h]; decide), if_neg (by rw [hw2]; decide), if_pos hw]
/-- the walk over a term comes to its end -/
theorem walk_some : ∀ (t : Term) (path : List Int) (s d : Int), path.length + tsize t ≤ 1000000 → ∃ r, term_walk_meter_see t path s d = some r := by
  intro t
  induction t using Term.ind with
  | h t ih =>
    intro path s d hs
    have hlen := tsizes_len t.L
    have hts := tsize_eq t
    have loop : ∀ (k i : Nat) (s d : Int), i + k = t.L.length → ∃ r, term_walk_meter_see_L3 path t.L (t.L.length : Int) (i : Int) s d = some r := by
      intro k
      induction k with
      | zero =>
        intro i s d hi
        rw [term_walk_meter_see_L3_eq]; unfold term_walk_meter_see_L3_B
        rw [if_neg (by omega)]; exact ⟨_, rfl⟩
      | succ k ihk =>
        intro i s d hi
        have hlt : i < t.L.length := by omega
        have ht := tsizes_take t.L i
        have hd := tsizes_drop hlt
        rw [term_walk_meter_see_L3_eq]; unfold term_walk_meter_see_L3_B
        rw [if_pos (by omega), idx_lt hlt, some_bind, if_pos (by omega), if_pos (by simp), if_pos (by omega), if_pos rfl, if_pos (by omega)]
        rw [if_pos (by unfold roomy; simp; omega)]
        obtain ⟨r, hr⟩ := ih _ (List.getElem_mem hlt) (List.drop 0 (List.take (Int.toNat (List.length path : Int)) path) ++ [(i : Int)]) s d (by simp; omega)
        rw [hr, some_bind, wi_id (by omega) (by omega), succ_cast]
        exact ihk (i + 1) _ _ (by omega)
    rw [term_walk_meter_see_eq]; unfold term_walk_meter_see_B term_meter_see
    rw [some_bind]
    exact loop t.L.length 0 _ _ (by omega)
section
variable {t : List Token} {n : Nat} (tk : Tk t n) (K N : Int) (S : Str) (L : List Term) (F T : Int)
include tk
theorem literal_ok {a : Nat} (e : Int) (ha : a ≤ n) : Ret t n K N S L F T a e (unit_reader_literal t a e K N S L F T) (fun x b => G t a b x) := by
  unfold unit_reader_literal
  by_cases he : e = 0
  · rw [if_pos he, tk.idx ha, some_bind]
    have fin : a < n → ((tokAt t a).K = 2 ∨ ((tokAt t a).K = 3 ∧ ((tokAt t a).S = [116, 114, 117, 101] ∨ (tokAt t a).S = [102, 97, 108, 115, 101]))) → Ret t n K N S L F T a e
      (if (0 : Int) ≤ (IntKind.wrap .i64 ((a : Int) + 1)) then
       if Int.toNat (IntKind.wrap .i64 ((a : Int) + 1)) ≤ List.length t then
       if (0 : Int) ≤ (a : Int) then
       if Int.toNat (a : Int) ≤ Int.toNat (IntKind.wrap .i64 ((a : Int) + 1)) then
       expr_Parse (List.drop (Int.toNat (a : Int)) (List.take (Int.toNat (IntKind.wrap .i64 ((a : Int) + 1))) t)) 0 >>= fun q5 =>
       some (q5.1, t, IntKind.wrap .i64 ((a : Int) + 1), e, K, N, S, L, F, T)
       else none
       else none
       else none
       else none) (fun x b => G t a b x) := fun hlt hx => by
      have h1 := tk.len
      obtain ⟨k, m, s, hp⟩ := lit_ok (tokAt t a) hx
      have hsl : List.drop (Int.toNat (a : Int)) (List.take (Int.toNat ((a + 1 : Nat) : Int)) t) = [tokAt t a] := by
        rw [show Int.toNat (a : Int) = a from rfl, show Int.toNat ((a + 1 : Nat) : Int) = a + 1 from rfl, List.drop_take, show a + 1 - a = 1 by omega, List.drop_eq_getElem_cons (show a < t.length by omega)]
        unfold tokAt; rw [List.getElem?_eq_getElem (show a < t.length by omega)]; rfl
      rw [wsucc tk ha, if_pos (by omega), if_pos (by omega), if_pos (by omega), if_pos (by omega), hsl, hp, some_bind]
      refine ⟨_, a + 1, e, rfl, by omega, by omega, fun _ => ⟨he, ⟨Int.le_refl _, ?_, Int.le_refl _, .mk _ trivial (by simp)⟩, ?_, by omega⟩⟩
      · exact (tk.mon.le (Nat.le_refl a) (by omega)).1
      · simp only [tsize, tsizes]; omega
    by_cases h2 : (tokAt t a).K = 2
    · rw [if_pos h2]
      exact fin (tokAt_ln tk.ln (by rw [h2]; decide)) (.inl h2)
    · rw [if_neg h2, is_ok tk K N S L F T 3 _ e ha, some_bind]
      by_cases h3 : isAt t 3 [116, 114, 117, 101] a = true
      · rw [if_pos h3]
        exact fin (isAt_ln tk (by decide) h3) (.inr ⟨(wrd_k h3).1, .inl (wrd_k h3).2⟩)
      · rw [if_neg h3, is_ok tk K N S L F T 3 _ e ha, some_bind]
        by_cases h4 : isAt t 3 [102, 97, 108, 115, 101] a = true
        · rw [if_pos h4]
          exact fin (isAt_ln tk (by decide) h4) (.inr ⟨(wrd_k h4).1, .inr (wrd_k h4).2⟩)
        · rw [if_neg h4]
          exact ⟨_, a, 6, rfl, by omega, ha, fun g => absurd g (by decide)⟩
  · rw [if_neg he]
    exact ⟨_, a, e, rfl, by omega, ha, fun g => absurd g he⟩
theorem define_ok {a : Nat} (e : Int) (ha : a < n) : Ret t n K N S L F T a e (unit_reader_define t a e K N S L F T) (fun x b => G t a b x) := by
  unfold unit_reader_define
  rw [wsucc tk (by omega)]
  obtain ⟨s, b1, e1, h1, l1, m1, P1⟩ := name_ok tk K N S L F T (a := a + 1) e (by omega)
  rw [h1, some_bind]; dsimp only
  obtain ⟨b2, e2, h2, l2, m2, P2⟩ := uneed_ok tk K N S L F T 4 [61] e1 (by decide) m1
  rw [h2, some_bind]; dsimp only
  obtain ⟨x3, b3, e3, h3, l3, m3, P3⟩ := literal_ok tk K N S L F T e2 m2
  rw [h3, some_bind]; dsimp only
  obtain ⟨b4, e4, h4, l4, m4, P4⟩ := uneed_ok tk K N S L F T 4 [59] e3 (by decide) m3
  rw [h4, some_bind]; dsimp only
  obtain ⟨x, h5, P5⟩ := made_okU tk K N S L F T 31 0 s (f := a) (b := b4) [x3] e4 m4 (fun h => by
    obtain ⟨q3, g4⟩ := P4 h
    obtain ⟨q2, g3⟩ := P3 q3
    exact LL.step tk (LL.snoc tk (l := []) (LL.nil (a := b2) (by omega)) g3 m3) l4 m4)
  rw [h5, some_bind]
  exact ⟨x, b4, e4, rfl, by omega, m4, fun h => ⟨(P1 (P2 (P3 (P4 h).1).1).1).1, P5 h⟩⟩
theorem Ret.id {a : Nat} {e : Int} {p : Option (Term × List Token × Int × Int × Int × Int × Str × List Term × Int × Int)} {P : Term → Nat → Prop} (h : Ret t n K N S L F T a e p P) :
    Ret t n K N S L F T a e (p >>= fun q2 => some (q2.1, q2.2.1, q2.2.2.1, q2.2.2.2.1, q2.2.2.2.2.1, q2.2.2.2.2.2.1, q2.2.2.2.2.2.2.1, q2.2.2.2.2.2.2.2.1, q2.2.2.2.2.2.2.2.2.1, q2.2.2.2.2.2.2.2.2.2)) P := by
  obtain ⟨x, b, e', h1, h2⟩ := h
  rw [h1, some_bind]
  exact ⟨x, b, e', rfl, h2⟩
theorem decl_ok {a : Nat} (e : Int) (ha : a ≤ n) : Ret t n K N S L F T a e (unit_reader_decl t a e K N S L F T) (fun x b => G t a b x) := by
  unfold unit_reader_decl
  rw [is_ok tk K N S L F T 3 _ e ha, some_bind]
  by_cases h1 : isAt t 3 [114, 101, 99] a = true
  · rw [if_pos h1]; exact Ret.id tk K N S L F T (record_ok tk K N S L F T e (isAt_ln tk (by decide) h1))
  rw [if_neg h1, is_ok tk K N S L F T 3 _ e ha, some_bind]
  by_cases h2 : isAt t 3 [99, 111, 110, 115, 116] a = true
  · rw [if_pos h2]; exact Ret.id tk K N S L F T (define_ok tk K N S L F T e (isAt_ln tk (by decide) h2))
  rw [if_neg h2, is_ok tk K N S L F T 3 _ e ha, some_bind]
  by_cases h3 : isAt t 3 [118, 97, 114] a = true
  · rw [if_pos h3]; exact Ret.id tk K N S L F T (global_ok tk K N S L F T e (isAt_ln tk (by decide) h3))
  rw [if_neg h3, is_ok tk K N S L F T 3 _ e ha, some_bind]
  by_cases h4 : isAt t 3 [112, 117, 98] a = true
  · rw [if_pos h4]; exact Ret.id tk K N S L F T (function_ok tk K N S L F T e ha)
  rw [if_neg h4, is_ok tk K N S L F T 3 _ e ha, some_bind]
  by_cases h5 : isAt t 3 [102, 110] a = true
  · rw [if_pos h5]; exact Ret.id tk K N S L F T (function_ok tk K N S L F T e ha)
  rw [if_neg h5]
  exact ⟨_, a, 6, rfl, by omega, ha, fun g => absurd g (by decide)⟩
/-- the module -/
theorem module_ok (hn : n ≤ 2400) (h0 : 0 ≤ (tokAt t 0).From) (hT : ∀ i, i ≤ n → (tokAt t i).To ≤ T) (o2 : Term) : ∀ (k a : Nat) (L : List Term), n < a + k → a ≤ n → LL 0 t 0 a L →
    ∃ m q e, unit_Parse_L6 o2 t (a : Int) 0 36 N S L 0 T = some (m, q, e) ∧ (e = 0 → Wn m ∧ tsize m ≤ 1000000 ∧ m.From = 0 ∧ m.To = T) := by
  intro k
  induction k with
  | zero => intro a L h1 h2; omega
  | succ k ih =>
    intro a L h1 h2 hl
    obtain ⟨c1, c2, c3⟩ := hl
    have hlen := tk.len
    rw [unit_Parse_L6_eq]; unfold unit_Parse_L6_B
    rw [tk.idx h2, some_bind]
    by_cases h5 : (tokAt t a).K = 5
    · rw [if_pos h5]
      by_cases h6 : (List.length L : Int) > 64
      · rw [if_pos h6]; exact ⟨_, _, _, rfl, fun g => absurd g (by decide)⟩
      · rw [if_neg h6]
        have hs : tsize ⟨36, N, S, L, 0, T⟩ = 1 + tsizes L := tsize_eq _
        obtain ⟨r, hr⟩ := walk_some ⟨36, N, S, L, 0, T⟩ [] 0 0 (by rw [hs]; simp only [List.length_nil]; omega)
        unfold term_Depth
        rw [hr, some_bind, some_bind]
        by_cases h7 : r.2 > 64
        · rw [if_pos h7]; exact ⟨_, _, _, rfl, fun g => absurd g (by decide)⟩
        · rw [if_neg h7]
          refine ⟨_, _, _, rfl, fun _ => ⟨?_, by rw [hs]; omega, rfl, rfl⟩⟩
          obtain ⟨q0, d1, d2, d3, d4⟩ := c1
          refine .mk _ (d1.mono ?_ h0) d4
          show q0 ≤ T
          rcases d3 with d3 | ⟨d3, d5⟩
          · have := hT 0 (by omega); have := (tk.mon.le (Nat.le_refl 0) (by omega)).1; omega
          · have := hT (a - 1) (by omega); omega
    · rw [if_neg h5]
      obtain ⟨x, b, e', h3, l3, m3, P3⟩ := decl_ok tk 36 N S L 0 T 0 h2
      rw [h3, some_bind]; dsimp only
      by_cases h8 : e' = 0
      · obtain ⟨-, g⟩ := P3 h8
        have hlt := g.2.2
        rw [if_pos h8, if_pos (roomL tk ⟨c1, c2, c3⟩ h2), h8]
        exact ih b (L ++ [x]) (by omega) m3 (LL.snoc tk ⟨c1, c2, c3⟩ g m3)
      · rw [if_neg h8, tk.idx m3, some_bind]
        exact ⟨_, _, _, rfl, fun g => absurd g h8⟩
end
end Go.Proofs.Ytelddjedpmfclaa.M
/-! Does the reader of modules answer at all? -/
namespace Go.Proofs.Ytelddjedpmfclaa.M
open Go Nt
set_option linter.unusedVariables false
set_option linter.unusedSectionVars false
set_option maxRecDepth 10000
abbrev TA : List Token := [⟨3, 0, [118, 97, 114], 0, 3⟩, ⟨1, 0, [97], 4, 5⟩, ⟨4, 0, [58], 5, 6⟩, ⟨3, 0, [105, 110, 116], 7, 10⟩, ⟨4, 0, [59], 10, 11⟩, ⟨5, 0, [], 11, 11⟩]
abbrev xA1 : Term := ⟨1, 0, [], [], 7, 10⟩
abbrev xA2 : Term := ⟨32, 0, [97], [xA1], 0, 11⟩
abbrev xA3 : Term := ⟨36, 0, [], [xA2], 0, 11⟩
theorem wa1 : term_walk_meter_see_L3 [0, 0] [] 0 0 3 3 = some (3, 3) := by rw [term_walk_meter_see_L3_eq]; rfl
theorem wb1 : term_walk_meter_see xA1 [0, 0] 2 2 = some (3, 3) := by rw [term_walk_meter_see_eq]; exact wa1
theorem wa2' : term_walk_meter_see_L3 [0] [xA1] 1 1 3 3 = some (3, 3) := by rw [term_walk_meter_see_L3_eq]; rfl
theorem wa2 : term_walk_meter_see_L3 [0] [xA1] 1 0 2 2 = some (3, 3) := by
  rw [term_walk_meter_see_L3_eq]
  show (term_walk_meter_see xA1 [0, 0] 2 2 >>= fun q1 => term_walk_meter_see_L3 [0] [xA1] 1 1 q1.1 q1.2) = _
  rw [wb1]; exact wa2'
theorem wb2 : term_walk_meter_see xA2 [0] 1 1 = some (3, 3) := by rw [term_walk_meter_see_eq]; exact wa2
theorem wa3' : term_walk_meter_see_L3 [] [xA2] 1 1 3 3 = some (3, 3) := by rw [term_walk_meter_see_L3_eq]; rfl
theorem wa3 : term_walk_meter_see_L3 [] [xA2] 1 0 1 1 = some (3, 3) := by
  rw [term_walk_meter_see_L3_eq]
  show (term_walk_meter_see xA2 [0] 1 1 >>= fun q1 => term_walk_meter_see_L3 [] [xA2] 1 1 q1.1 q1.2) = _
  rw [wb2]; exact wa3'
theorem wb3 : term_walk_meter_see xA3 [] 0 0 = some (3, 3) := by rw [term_walk_meter_see_eq]; exact wa3
theorem ka : expr_parser_kind TA 3 0 = some (xA1, TA, 4, 0) := by rw [expr_parser_kind_eq]; rfl
theorem ta : unit_reader_other_Type TA 3 0 36 0 [] [] 0 11 = some (xA1, TA, 4, 0, 36, 0, [], [], 0, 11) := by
  unfold unit_reader_other_Type expr_Type expr_start_parser_kind
  rw [if_pos rfl, if_neg (by decide), if_neg (by decide), ka]; rfl
theorem ga : unit_reader_global TA 0 0 36 0 [] [] 0 11 = some (xA2, TA, 5, 0, 36, 0, [], [], 0, 11) := by
  unfold unit_reader_global
  rw [show unit_reader_name TA (IntKind.wrap .i64 (0 + 1)) 0 36 0 [] [] 0 11 = some ([97], TA, 2, 0, 36, 0, [], [], 0, 11) from rfl, some_bind]
  rw [show unit_reader_need 4 [58] TA 2 0 36 0 [] [] 0 11 = some (TA, 3, 0, 36, 0, [], [], 0, 11) from rfl, some_bind]
  rw [ta]; rfl
theorem pa2 (o : Term) : unit_Parse_L6 o TA 5 0 36 0 [] [xA2] 0 11 = some (xA3, 0, 0) := by
  rw [unit_Parse_L6_eq]
  show (term_Depth xA3 >>= fun q2 => if q2 > 64 then some ((Term.mk 0 0 ([] : List UInt8) [] 0 0), 0, 7) else some (xA3, 0, 0)) = _
  unfold term_Depth
  rw [wb3]; rfl
theorem pa (o : Term) : unit_Parse_L6 o TA 0 0 36 0 [] [] 0 11 = some (xA3, 0, 0) := by
  rw [unit_Parse_L6_eq]; unfold unit_Parse_L6_B unit_reader_decl
  rw [show idx TA 0 = some ⟨3, 0, [118, 97, 114], 0, 3⟩ from rfl, some_bind, if_neg (by decide)]
  rw [show unit_reader_is 3 [114, 101, 99] TA 0 0 36 0 [] [] 0 11 = some false from rfl, some_bind, if_neg (by decide)]
  rw [show unit_reader_is 3 [99, 111, 110, 115, 116] TA 0 0 36 0 [] [] 0 11 = some false from rfl, some_bind, if_neg (by decide)]
  rw [show unit_reader_is 3 [118, 97, 114] TA 0 0 36 0 [] [] 0 11 = some true from rfl, some_bind, if_pos rfl, ga]
  exact pa2 o
theorem unitAwake_ok : law09awake = some true := by
  unfold law09awake unit_Parse
  rw [tokens_ok _ (by decide)]
  have : lexes [118, 97, 114, 32, 97, 58, 32, 105, 110, 116, 59] = (TA, 0, 0) := by rfl
  rw [this, some_bind, if_pos rfl]
  show (unit_Parse_L6 _ TA 0 0 36 0 [] [] 0 11 >>= _) = _
  rw [pa]; rfl
end Go.Proofs.Ytelddjedpmfclaa.M
