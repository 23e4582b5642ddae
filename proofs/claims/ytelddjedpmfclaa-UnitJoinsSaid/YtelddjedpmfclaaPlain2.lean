import Derived.Test.YtelddjedpmfclaaPlain1
namespace Go.Proofs.Ytelddjedpmfclaa.M
open Go Nt
set_option linter.unusedVariables false
set_option linter.unusedSimpArgs false
set_option linter.unusedSectionVars false
structure Tk (t : List zB) (n : Nat) : Prop where
  mon : Mon t
  len : n + 1 = t.length
  lst : (zQ t n).K = 5
  room : t.length ≤ 1048576
theorem Tk.ln {t : List zB} {n : Nat} (h : Tk t n) : Lst t n := fun i hi => by
  by_cases e : i = n
  · subst e; exact h.lst
  · unfold zQ; have := h.len; rw [List.getElem?_eq_none (by omega)]; rfl
theorem Tk.idx {t : List zB} {n : Nat} (h : Tk t n) {a : Nat} (ha : a ≤ n) : idx t (a : Int) = some (zQ t a) := by
  have := h.len
  rw [z2r (show a < t.length by omega)]; unfold zQ; rw [List.getElem?_eq_getElem (show a < t.length by omega)]; rfl
def G (t : List zB) (a b : Nat) (x : zD) : Prop := Bt t a b x ∧ z0s x + 400 * a ≤ 400 * b ∧ a < b
def LL (c : Nat) (t : List zB) (f a : Nat) (l : List zD) : Prop := CH t f a l ∧ wR l + 400 * f + c ≤ 400 * a ∧ f + l.length ≤ a
theorem LL.nil {c : Nat} {t : List zB} {f a : Nat} (h : 400 * f + c ≤ 400 * a) : LL c t f a [] := ⟨CH.nil _ _ _, by simp only [wR]; omega, by simp; omega⟩
theorem y5L (l : List zD) (x : zD) : wR (l ++ [x]) = wR l + z0s x := by rw [z5I]; simp [wR]
section
variable {t : List zB} {n : Nat} (tk : Tk t n)
include tk
theorem LL.step {c f a a' : Nat} {l : List zD} (h : LL c t f a l) (h1 : a ≤ a') (h2 : a' ≤ n) : LL c t f a' l := by
  obtain ⟨g1, g2, g3⟩ := h
  have := tk.len
  exact ⟨g1.step tk.mon h1 (by omega), by omega, by omega⟩
theorem LL.snoc {c f a b : Nat} {l : List zD} {x : zD} (h : LL c t f a l) (hx : G t a b x) (h2 : b ≤ n) : LL c t f b (l ++ [x]) := by
  obtain ⟨g1, g2, g3⟩ := h
  obtain ⟨x1, x2, x3⟩ := hx
  have := tk.len
  exact ⟨g1.snoc tk.mon (by omega) x3 (by omega) x1, by rw [y5L]; omega, by rw [List.length_append]; simp only [List.length_cons, List.length_nil]; omega⟩
theorem LL.mk {f b : Nat} {l : List zD} {k m : Int} {s : Str} (h : LL 1 t f b l) (h2 : b ≤ n) : G t f b ⟨k, m, s, l, (zQ t f).From, (zQ t (b - 1)).To⟩ := by
  obtain ⟨g1, g2, g3⟩ := h
  have := tk.len
  exact ⟨g1.mk (k := k) (n := m) (s := s) tk.mon (by omega) (by omega), by simp only [z0s]; omega, by omega⟩
variable (K N : Int) (S : Str) (L : List zD) (F T : Int)
def Ret {α : Type} (t : List zB) (n : Nat) (K N : Int) (S : Str) (L : List zD) (F T : Int) (a : Nat) (e : Int) (p : Option (α × List zB × Int × Int × Int × Int × Str × List zD × Int × Int)) (P : α → Nat → Prop) : Prop :=
  ∃ (x : α) (b : Nat) (e' : Int), p = some (x, t, (b : Int), e', K, N, S, L, F, T) ∧ a ≤ b ∧ b ≤ n ∧ (e' = 0 → e = 0 ∧ P x b)
def z5R (t : List zB) (k : Int) (s : Str) (a : Nat) : Bool := decide ((zQ t a).K = k) && ((zQ t a).S == s)
theorem z4d {k : Int} {s : Str} {a : Nat} (hk : k ≠ 5) (h : z5R t k s a = true) : a < n := z1V tk.ln (by
  unfold z5R at h
  simp only [Bool.and_eq_true, decide_eq_true_eq] at h
  rw [h.1]; exact hk)
theorem z5u (k : Int) (s : Str) {a : Nat} (e : Int) (ha : a ≤ n) : wW k s t a e K N S L F T = some (z5R t k s a) := by
  unfold wW z5R
  rw [tk.idx ha, zA]
  by_cases h : (zQ t a).K = k
  · rw [if_pos h, zA, decide_eq_true h]; rfl
  · rw [if_neg h, decide_eq_false h]; rfl
theorem z6R {a : Nat} (ha : a ≤ n) : IntKind.wrap .i64 ((a : Int) + 1) = ((a + 1 : Nat) : Int) := by
  have := tk.len; have := tk.room
  rw [z2h (by omega) (by omega)]; omega
theorem z2E (k : Int) (s : Str) {a : Nat} {e : Int} (ha : a ≤ n) (he : e = 0) (h : z5R t k s a = true) : jX k s t a e K N S L F T = some (true, t, ((a + 1 : Nat) : Int), e, K, N, S, L, F, T) := by
  unfold jX
  rw [if_pos he, z5u tk K N S L F T k s e ha, zA, if_pos h, z6R tk ha]
theorem z4I (k : Int) (s : Str) {a : Nat} {e : Int} (ha : a ≤ n) (h : ¬ (e = 0 ∧ z5R t k s a = true)) : jX k s t a e K N S L F T = some (false, t, (a : Int), e, K, N, S, L, F, T) := by
  unfold jX
  by_cases he : e = 0
  · rw [if_pos he, z5u tk K N S L F T k s e ha, zA, if_neg (fun g => h ⟨he, g⟩)]
  · rw [if_neg he]
theorem gA (k : Int) (s : Str) {a : Nat} (e : Int) (hk : k ≠ 5) (ha : a ≤ n) : ∃ (b : Nat) (e' : Int), yK k s t a e K N S L F T = some (t, (b : Int), e', K, N, S, L, F, T) ∧ a ≤ b ∧ b ≤ n ∧ (e' = 0 → e = 0 ∧ b = a + 1) := by
  unfold yK
  by_cases he : e = 0
  · rw [if_pos he]
    by_cases h : z5R t k s a = true
    · rw [z2E tk K N S L F T k s ha he h, zA, if_pos rfl]
      have := z4d tk hk h
      exact ⟨a + 1, e, rfl, by omega, by omega, fun _ => ⟨he, rfl⟩⟩
    · rw [z4I tk K N S L F T k s ha (fun g => h g.2), zA]; dsimp only
      rw [if_neg (by decide)]
      exact ⟨a, 6, rfl, by omega, ha, fun g => absurd g (by decide)⟩
  · rw [if_neg he]
    exact ⟨a, e, rfl, by omega, ha, fun g => absurd g he⟩
theorem z4g {a : Nat} (e : Int) (ha : a ≤ n) : Ret t n K N S L F T a e (vO t a e K N S L F T) (fun _ b => b = a + 1) := by
  unfold vO
  by_cases he : e = 0
  · rw [if_pos he, tk.idx ha, zA]
    by_cases h : (zQ t a).K = 1
    · have h0 := z1V tk.ln (a := a) (by rw [h]; decide)
      have h1 := tk.len
      have h2 := tk.room
      rw [if_pos h, z6R tk ha, z2h (by omega) (by omega), show ((a + 1 : Nat) : Int) - 1 = (a : Int) by omega, tk.idx ha, zA]
      exact ⟨_, a + 1, e, rfl, by omega, by omega, fun _ => ⟨he, rfl⟩⟩
    · rw [if_neg h]
      exact ⟨_, a, 6, rfl, by omega, ha, fun g => absurd g (by decide)⟩
  · rw [if_neg he]
    exact ⟨_, a, e, rfl, by omega, ha, fun g => absurd g he⟩
theorem z5T (k m : Int) (s : Str) {f b : Nat} (l : List zD) (e : Int) (hb : b ≤ n) (h : e = 0 → LL 1 t f b l) : ∃ x, yH k m s f l t b e K N S L F T = some x ∧ (e = 0 → G t f b x) := by
  unfold yH
  by_cases he : e = 0
  · have g := h he
    have g2 := g.2.2
    have g1 := g.2.1
    have h1 := tk.len
    have h2 := tk.room
    rw [if_pos he, tk.idx (show f ≤ n by omega), zA, z2h (by omega) (by omega), show (b : Int) - 1 = ((b - 1 : Nat) : Int) by omega, tk.idx (show b - 1 ≤ n by omega), zA]
    exact ⟨_, rfl, fun _ => LL.mk tk g hb⟩
  · rw [if_neg he]
    exact ⟨_, rfl, fun g => absurd g he⟩
theorem z8f {a : Nat} (e : Int) (ha : a ≤ n) : Ret t n K N S L F T a e (yL t a e K N S L F T) (fun x b => G t a b x) := by
  have h1 := tk.len
  have h2 := tk.room
  unfold yL
  by_cases he : e = 0
  · rw [if_pos he]
    unfold z3s jB
    obtain ⟨x, e1, e2⟩ := y3I t (by omega) (t.length + 1) a (by omega) (by omega)
    rw [if_neg (by omega), if_neg (by omega), e1, zA]
    dsimp only
    by_cases h3 : (typ (t.length + 1) t a).2.2 = 0
    · have q := y5M tk.ln (t.length + 1) a (by omega) h3
      obtain ⟨g1, g2⟩ := y6z tk.mon (t.length + 1) a (by omega) h3
      rw [if_pos h3, zA, zA, e2 h3]
      exact ⟨(typ (t.length + 1) t a).1, (typ (t.length + 1) t a).2.1, 0, rfl, by omega, q.2, fun _ => ⟨he, g1, by omega, q.1⟩⟩
    · have q := y0x tk.ln (t.length + 1) a (by omega) ha h3
      rw [if_neg h3, zA, zA]
      exact ⟨_, (typ (t.length + 1) t a).2.1, _, rfl, q.1, q.2, fun g => absurd g h3⟩
  · rw [if_neg he]
    exact ⟨_, a, e, rfl, by omega, ha, fun g => absurd g he⟩
theorem y3o {a : Nat} (e : Int) (ha : a ≤ n) : Ret t n K N S L F T a e (vD t a e K N S L F T) (fun x b => G t a b x) := by
  have h1 := tk.len
  have h2 := tk.room
  unfold vD
  by_cases he : e = 0
  · rw [if_pos he]
    obtain ⟨r, hr⟩ := (y6s t (t.length - a) a (by omega)).2
    rw [y2s t (by omega) a (by omega) hr, zA]
    have q := hr.inSn tk.ln (show n < t.length by omega) ha
    cases r with
    | ok x b =>
      simp only [y0I] at q
      have g1 := y6G tk.mon hr (by omega) x b rfl
      have g2 : z0s x + 400 * a + 500 ≤ 400 * b := y7h tk.mon hr (by omega) x b rfl
      exact ⟨x, b, 0, rfl, by omega, q.2, fun _ => ⟨he, g1, by omega, q.1⟩⟩
    | bad b =>
      simp only [y0I] at q
      exact ⟨zT7, b, 6, rfl, q.1, q.2, fun g => absurd g (by decide)⟩
  · rw [if_neg he]
    exact ⟨_, a, e, rfl, by omega, ha, fun g => absurd g he⟩
end
section
variable {t : List zB} {n : Nat} (tk : Tk t n) (K N : Int) (S : Str) (L : List zD) (F T : Int)
include tk
theorem y0s {a : Nat} (e : Int) (ha : a ≤ n) : Ret t n K N S L F T a e (jW t a e K N S L F T) (fun x b => G t a b x) := by
  unfold jW
  obtain ⟨s, b1, e1, h1, l1, m1, P1⟩ := z4g tk K N S L F T e ha
  rw [h1, zA]; dsimp only
  obtain ⟨b2, e2, h2, l2, m2, P2⟩ := gA tk K N S L F T 4 [58] e1 (by decide) m1
  rw [h2, zA]; dsimp only
  obtain ⟨x3, b3, e3, h3, l3, m3, P3⟩ := z8f tk K N S L F T e2 m2
  rw [h3, zA]; dsimp only
  obtain ⟨x, h4, P4⟩ := z5T tk K N S L F T 34 0 s (f := a) (b := b3) [x3] e3 m3 (fun h => by
    obtain ⟨q3, g3⟩ := P3 h
    obtain ⟨q2, g2⟩ := P2 q3
    obtain ⟨q1, g1⟩ := P1 q2
    exact LL.snoc tk (l := []) (LL.nil (a := b2) (by omega)) g3 m3)
  rw [h4, zA]
  exact ⟨x, b3, e3, rfl, by omega, m3, fun h => ⟨(P1 (P2 (P3 h).1).1).1, P4 h⟩⟩
theorem y4U {out : List zD} {a : Int} {e : Int} (h : e ≠ 0) : zF out t a e K N S L F T = some (out, t, a, e, K, N, S, L, F, T) := by
  rw [uC]; unfold yF
  rw [if_neg h]
theorem y9I {c f a : Nat} {l : List zD} {x : zD} (h : LL c t f a l) (ha : a ≤ n) : z2N 72 (List.length l + List.length [x]) := by
  have := h.2.2; have := tk.len; have := tk.room
  exact y6q (by simp only [List.length_cons, List.length_nil]; omega)
theorem y4T {c f : Nat} : ∀ (k : Nat) (out : List zD) (a : Nat) (e : Int), n < a + k → a ≤ n → (e = 0 → LL c t f a out) → Ret t n K N S L F T a e (zF out t a e K N S L F T) (fun l b => LL c t f b l) := by
  intro k
  induction k with
  | zero => intro out a e h1 h2; omega
  | succ k ih =>
    intro out a e h1 h2 hl
    by_cases he : e = 0
    · rw [uC]; unfold yF z1A
      rw [if_pos he]
      by_cases h : z5R t 4 [44] a = true
      · have hlt := z4d tk (by decide) h
        rw [z2E tk K N S L F T 4 [44] h2 he h, zA, zA]; dsimp only
        rw [if_pos rfl]
        obtain ⟨x, b, e1, h3, l3, m3, P3⟩ := y0s tk K N S L F T (a := a + 1) e (by omega)
        rw [h3, zA]; dsimp only
        rw [if_pos (y9I tk (hl he) h2)]
        obtain ⟨y, b', e2, h4, l4, m4, P4⟩ := ih (out ++ [x]) b e1 (by omega) m3 (fun h => LL.snoc tk (LL.step tk (hl he) (show a ≤ a + 1 by omega) (by omega)) (P3 h).2 m3)
        exact ⟨y, b', e2, h4, by omega, m4, fun h => ⟨he, (P4 h).2⟩⟩
      · rw [z4I tk K N S L F T 4 [44] h2 (fun g => h g.2), zA, zA]; dsimp only
        rw [if_neg (by decide)]
        exact ⟨_, a, e, rfl, by omega, h2, fun _ => ⟨he, hl he⟩⟩
    · rw [y4U tk K N S L F T he]
      exact ⟨_, a, e, rfl, by omega, h2, fun g => absurd g he⟩
theorem y2l {a : Nat} (e : Int) (ha : a ≤ n) : Ret t n K N S L F T a e (wJ t a e K N S L F T) (fun x b => G t a b x) := by
  unfold wJ
  obtain ⟨b1, e1, h1, l1, m1, P1⟩ := gA tk K N S L F T 4 [40] e (by decide) ha
  rw [h1, zA]; dsimp only
  by_cases h : e1 = 0 ∧ z5R t 4 [41] b1 = true
  · have hlt := z4d tk (by decide) h.2
    rw [z2E tk K N S L F T 4 [41] m1 h.1 h.2, zA]; dsimp only
    rw [if_pos rfl]
    obtain ⟨x, h4, P4⟩ := z5T tk K N S L F T 35 0 [] (f := a) (b := b1 + 1) [] e1 (by omega) (fun h => LL.nil (by have := P1 h; omega))
    rw [h4, zA]
    exact ⟨x, b1 + 1, e1, rfl, by omega, by omega, fun h => ⟨(P1 h).1, P4 h⟩⟩
  · rw [z4I tk K N S L F T 4 [41] m1 h, zA]; dsimp only
    rw [if_neg (by decide)]
    unfold vW
    obtain ⟨x, b2, e2, h2, l2, m2, P2⟩ := y0s tk K N S L F T e1 m1
    rw [h2, zA]; dsimp only
    obtain ⟨y, b3, e3, h3, l3, m3, P3⟩ := y4T (c := 1) (f := a) tk K N S L F T (n + 1) [x] b2 e2 (by omega) m2 (fun h => by
      obtain ⟨q2, g2⟩ := P2 h
      have := (P1 q2).2
      exact LL.snoc tk (l := []) (LL.nil (a := b1) (by omega)) g2 m2)
    rw [h3, zA]; dsimp only
    obtain ⟨b4, e4, h4, l4, m4, P4⟩ := gA tk K N S L F T 4 [41] e3 (by decide) m3
    rw [h4, zA]; dsimp only
    obtain ⟨z, h5, P5⟩ := z5T tk K N S L F T 35 0 [] (f := a) (b := b4) y e4 m4 (fun h => LL.step tk (P3 (P4 h).1).2 l4 m4)
    rw [h5, zA]
    exact ⟨z, b4, e4, rfl, by omega, m4, fun h => ⟨(P1 (P2 (P3 (P4 h).1).1).1).1, P5 h⟩⟩
theorem y3v {a b0 : Nat} (k : Int) (e e0 : Int) (hb : b0 ≤ n) (hab : a ≤ b0) (h0 : e0 = 0 → e = 0 ∧ a < b0) : Ret t n K N S L F T a e (
    vO t b0 e0 K N S L F T >>= fun q3 =>
    wJ q3.2.1 q3.2.2.1 q3.2.2.2.1 q3.2.2.2.2.1 q3.2.2.2.2.2.1 q3.2.2.2.2.2.2.1 q3.2.2.2.2.2.2.2.1 q3.2.2.2.2.2.2.2.2.1 q3.2.2.2.2.2.2.2.2.2 >>= fun q4 =>
    yK 4 ([58] : List UInt8) q4.2.1 q4.2.2.1 q4.2.2.2.1 q4.2.2.2.2.1 q4.2.2.2.2.2.1 q4.2.2.2.2.2.2.1 q4.2.2.2.2.2.2.2.1 q4.2.2.2.2.2.2.2.2.1 q4.2.2.2.2.2.2.2.2.2 >>= fun q5 =>
    yL q5.1 q5.2.1 q5.2.2.1 q5.2.2.2.1 q5.2.2.2.2.1 q5.2.2.2.2.2.1 q5.2.2.2.2.2.2.1 q5.2.2.2.2.2.2.2.1 q5.2.2.2.2.2.2.2.2 >>= fun q6 =>
    vD q6.2.1 q6.2.2.1 q6.2.2.2.1 q6.2.2.2.2.1 q6.2.2.2.2.2.1 q6.2.2.2.2.2.2.1 q6.2.2.2.2.2.2.2.1 q6.2.2.2.2.2.2.2.2.1 q6.2.2.2.2.2.2.2.2.2 >>= fun q7 =>
    yH 33 k q3.1 a [q4.1, q6.1, q7.1] q7.2.1 q7.2.2.1 q7.2.2.2.1 q7.2.2.2.2.1 q7.2.2.2.2.2.1 q7.2.2.2.2.2.2.1 q7.2.2.2.2.2.2.2.1 q7.2.2.2.2.2.2.2.2.1 q7.2.2.2.2.2.2.2.2.2 >>= fun q8 =>
    some (q8, q7.2.1, q7.2.2.1, q7.2.2.2.1, q7.2.2.2.2.1, q7.2.2.2.2.2.1, q7.2.2.2.2.2.2.1, q7.2.2.2.2.2.2.2.1, q7.2.2.2.2.2.2.2.2.1, q7.2.2.2.2.2.2.2.2.2)) (fun x b => G t a b x) := by
  obtain ⟨s, b1, e1, h1, l1, m1, P1⟩ := z4g tk K N S L F T e0 hb
  rw [h1, zA]; dsimp only
  obtain ⟨x2, b2, e2, h2, l2, m2, P2⟩ := y2l tk K N S L F T e1 m1
  rw [h2, zA]; dsimp only
  obtain ⟨b3, e3, h3, l3, m3, P3⟩ := gA tk K N S L F T 4 [58] e2 (by decide) m2
  rw [h3, zA]; dsimp only
  obtain ⟨x4, b4, e4, h4, l4, m4, P4⟩ := z8f tk K N S L F T e3 m3
  rw [h4, zA]; dsimp only
  obtain ⟨x5, b5, e5, h5, l5, m5, P5⟩ := y3o tk K N S L F T e4 m4
  rw [h5, zA]; dsimp only
  obtain ⟨x, h6, P6⟩ := z5T tk K N S L F T 33 k s (f := a) (b := b5) [x2, x4, x5] e5 m5 (fun h => by
    obtain ⟨q4, g5⟩ := P5 h
    obtain ⟨q3, g4⟩ := P4 q4
    obtain ⟨q2, g3⟩ := P3 q3
    obtain ⟨q1, g2⟩ := P2 q2
    obtain ⟨q0, g1⟩ := P1 q1
    have := (h0 q0).2
    have c1 := LL.snoc tk (l := []) (LL.nil (c := 1) (f := a) (a := b1) (by omega)) g2 m2
    have c2 := LL.snoc tk (LL.step tk c1 l3 m3) g4 m4
    exact LL.snoc tk c2 g5 m5)
  rw [h6, zA]
  exact ⟨x, b5, e5, rfl, by omega, m5, fun h => ⟨(h0 (P1 (P2 (P3 (P4 (P5 h).1).1).1).1).1).1, P6 h⟩⟩
theorem y1Q {a : Nat} (e : Int) (ha : a ≤ n) : Ret t n K N S L F T a e (uI t a e K N S L F T) (fun x b => G t a b x) := by
  unfold uI
  by_cases h : e = 0 ∧ z5R t 3 [112, 117, 98] a = true
  · have hlt := z4d tk (by decide) h.2
    rw [z2E tk K N S L F T 3 _ ha h.1 h.2, zA]; dsimp only
    rw [if_pos rfl]
    obtain ⟨b1, e1, h1, l1, m1, P1⟩ := gA tk K N S L F T 3 [102, 110] (a := a + 1) e (by decide) (by omega)
    rw [h1, zA]; dsimp only
    exact y3v tk K N S L F T 1 e e1 m1 (by omega) (fun h => ⟨(P1 h).1, by omega⟩)
  · rw [z4I tk K N S L F T 3 _ ha h, zA]; dsimp only
    rw [if_neg (by decide)]
    obtain ⟨b1, e1, h1, l1, m1, P1⟩ := gA tk K N S L F T 3 [102, 110] e (by decide) ha
    rw [h1, zA]; dsimp only
    exact y3v tk K N S L F T 0 e e1 m1 (by omega) (fun h => ⟨(P1 h).1, by have := (P1 h).2; omega⟩)
theorem y7E {a : Nat} (e : Int) (ha : a < n) : Ret t n K N S L F T a e (uN t a e K N S L F T) (fun x b => G t a b x) := by
  unfold uN
  rw [z6R tk (by omega)]
  obtain ⟨s, b1, e1, h1, l1, m1, P1⟩ := z4g tk K N S L F T (a := a + 1) e (by omega)
  rw [h1, zA]; dsimp only
  obtain ⟨b2, e2, h2, l2, m2, P2⟩ := gA tk K N S L F T 4 [58] e1 (by decide) m1
  rw [h2, zA]; dsimp only
  obtain ⟨x3, b3, e3, h3, l3, m3, P3⟩ := z8f tk K N S L F T e2 m2
  rw [h3, zA]; dsimp only
  obtain ⟨b4, e4, h4, l4, m4, P4⟩ := gA tk K N S L F T 4 [59] e3 (by decide) m3
  rw [h4, zA]; dsimp only
  obtain ⟨x, h5, P5⟩ := z5T tk K N S L F T 32 0 s (f := a) (b := b4) [x3] e4 m4 (fun h => by
    obtain ⟨q3, g4⟩ := P4 h
    obtain ⟨q2, g3⟩ := P3 q3
    exact LL.step tk (LL.snoc tk (l := []) (LL.nil (a := b2) (by omega)) g3 m3) l4 m4)
  rw [h5, zA]
  exact ⟨x, b4, e4, rfl, by omega, m4, fun h => ⟨(P1 (P2 (P3 (P4 h).1).1).1).1, P5 h⟩⟩
theorem y1j {a : Nat} (e : Int) (ha : a ≤ n) : Ret t n K N S L F T a e (gB t a e K N S L F T) (fun x b => ∃ c, c + 1 = b ∧ G t a c x) := by
  unfold gB
  obtain ⟨x, b1, e1, h1, l1, m1, P1⟩ := y0s tk K N S L F T e ha
  rw [h1, zA]; dsimp only
  obtain ⟨b2, e2, h2, l2, m2, P2⟩ := gA tk K N S L F T 4 [59] e1 (by decide) m1
  rw [h2, zA]
  exact ⟨x, b2, e2, rfl, by omega, m2, fun h => ⟨(P1 (P2 h).1).1, b1, (P2 h).2.symm, (P1 (P2 h).1).2⟩⟩
theorem y0m {out : List zD} {a : Int} {e : Int} (h : e ≠ 0) : zE out t a e K N S L F T = some (out, t, a, e, K, N, S, L, F, T) := by
  rw [uB]; unfold yE
  rw [if_neg h]
theorem y2R {c f : Nat} : ∀ (k : Nat) (out : List zD) (a : Nat) (e : Int), n < a + k → a ≤ n → (e = 0 → LL c t f a out) → Ret t n K N S L F T a e (zE out t a e K N S L F T) (fun l b => LL c t f b l) := by
  intro k
  induction k with
  | zero => intro out a e h1 h2; omega
  | succ k ih =>
    intro out a e h1 h2 hl
    by_cases he : e = 0
    · rw [uB]; unfold yE z1M
      rw [if_pos he, z5u tk K N S L F T 4 [125] e h2, zA, zA]
      by_cases h : (!z5R t 4 [125] a) = true
      · rw [if_pos h]
        obtain ⟨x, b, e1, h3, l3, m3, P3⟩ := y1j tk K N S L F T e h2
        rw [h3, zA]; dsimp only
        rw [if_pos (y9I tk (hl he) h2)]
        by_cases h5 : e1 = 0
        · obtain ⟨q, c', hc, g⟩ := P3 h5
          have hlt := g.2.2
          obtain ⟨y, b', e2, h4, l4, m4, P4⟩ := ih (out ++ [x]) b e1 (by omega) m3 (fun _ => LL.step tk (LL.snoc tk (hl he) g (by omega)) (show c' ≤ b by omega) m3)
          exact ⟨y, b', e2, h4, by omega, m4, fun h => ⟨he, (P4 h).2⟩⟩
        · rw [y0m tk K N S L F T h5]
          exact ⟨_, b, e1, rfl, l3, m3, fun g => absurd g h5⟩
      · rw [if_neg h]
        exact ⟨_, a, e, rfl, by omega, h2, fun _ => ⟨he, hl he⟩⟩
    · rw [y0m tk K N S L F T he]
      exact ⟨_, a, e, rfl, by omega, h2, fun g => absurd g he⟩
theorem y8k {a : Nat} (e : Int) (ha : a < n) : Ret t n K N S L F T a e (gI t a e K N S L F T) (fun x b => G t a b x) := by
  unfold gI vV
  rw [z6R tk (by omega)]
  obtain ⟨s, b1, e1, h1, l1, m1, P1⟩ := z4g tk K N S L F T (a := a + 1) e (by omega)
  rw [h1, zA]; dsimp only
  obtain ⟨b2, e2, h2, l2, m2, P2⟩ := gA tk K N S L F T 4 [123] e1 (by decide) m1
  rw [h2, zA]; dsimp only
  obtain ⟨x3, b3, e3, h3, l3, m3, P3⟩ := y1j tk K N S L F T e2 m2
  rw [h3, zA]; dsimp only
  obtain ⟨y, b4, e4, h4, l4, m4, P4⟩ := y2R (c := 1) (f := a) tk K N S L F T (n + 1) [x3] b3 e3 (by omega) m3 (fun h => by
    obtain ⟨q2, c', hc, g⟩ := P3 h
    exact LL.step tk (LL.snoc tk (l := []) (LL.nil (a := b2) (by omega)) g (by omega)) (show c' ≤ b3 by omega) m3)
  rw [h4, zA]; dsimp only
  obtain ⟨b5, e5, h5, l5, m5, P5⟩ := gA tk K N S L F T 4 [125] e4 (by decide) m4
  rw [h5, zA]; dsimp only
  obtain ⟨z, h6, P6⟩ := z5T tk K N S L F T 30 0 s (f := a) (b := b5) y e5 m5 (fun h => LL.step tk (P4 (P5 h).1).2 l5 m5)
  rw [h6, zA]
  exact ⟨z, b5, e5, rfl, by omega, m5, fun h => ⟨(P1 (P2 (P3 (P4 (P5 h).1).1).1).1).1, P6 h⟩⟩
end
theorem y7w {u : List zB} {k m : Int} {s : Str} (h : z0V u 0 = .one k m s) (h4 : (zQ u 0).K ≠ 4) (h1 : u.length = 1) : Der u (.lev 1) 0 (.ok (placed u 0 1 ⟨k, m, s, [], 0, 0⟩) 1) := by
  have e1 : zQ u 1 = v1B := by unfold zQ; rw [List.getElem?_eq_none (by omega)]; rfl
  have sg : ∀ s, vB u 1 s = false := fun s => by unfold vB; rw [e1]; rfl
  have op : (y1h (zQ u 1)).2 = 0 := by rw [e1]; rfl
  have d6 : Der u (.lev 6) 0 (.ok (placed u 0 1 ⟨k, m, s, [], 0, 0⟩) 1) := .unP (v0a h4 _) (v0a h4 _) (.post (.one h) (.plE (sg _) (sg _)))
  have lev : ∀ k', 1 ≤ k' → k' ≤ 5 → Der u (.lev (k' + 1)) 0 (.ok (placed u 0 1 ⟨k, m, s, [], 0, 0⟩) 1) → Der u (.lev k') 0 (.ok (placed u 0 1 ⟨k, m, s, [], 0, 0⟩) 1) := fun k' h1 h2 hd => .lev h1 h2 hd (.llE h1 (.inl (by omega)))
  exact lev 1 (by omega) (by omega) (lev 2 (by omega) (by omega) (lev 3 (by omega) (by omega) (lev 4 (by omega) (by omega) (lev 5 (by omega) (by omega) d6))))
theorem v1d (x : zB) (h : x.K = 2 ∨ (x.K = 3 ∧ (x.S = [116, 114, 117, 101] ∨ x.S = [102, 97, 108, 115, 101]))) : ∃ k m s, z0n [x] 0 = some (⟨k, m, s, [], x.From, x.To⟩, 1, 0) := by
  have e0 : zQ [x] 0 = x := rfl
  have fin : ∀ {k m : Int} {s : Str}, z0V [x] 0 = .one k m s → (zQ [x] 0).K ≠ 4 → ∃ k m s, z0n [x] 0 = some (⟨k, m, s, [], x.From, x.To⟩, 1, 0) := fun {k m s} h1 h2 =>
    ⟨k, m, s, y2m [x] (by simp) 0 (by simp) (y7w h1 h2 rfl)⟩
  rcases h with h | ⟨h, h2 | h2⟩
  · refine fin (k := 5) (m := x.N) (s := []) ?_ (by rw [e0, h]; decide)
    unfold z0V; rw [if_pos (by rw [e0, h])]; rfl
  · refine fin (k := 6) (m := 1) (s := []) ?_ (by rw [e0, h]; decide)
    have hw : vM [x] 0 [116, 114, 117, 101] = true := by unfold vM; rw [e0, h, h2]; rfl
    unfold z0V; rw [if_neg (by rw [e0, h]; decide), if_neg (by rw [e0, h]; decide), if_pos hw]
  · refine fin (k := 6) (m := 0) (s := []) ?_ (by rw [e0, h]; decide)
    have hw : vM [x] 0 [102, 97, 108, 115, 101] = true := by unfold vM; rw [e0, h, h2]; rfl
    have hw2 : vM [x] 0 [116, 114, 117, 101] = false := v0e hw (by decide)
    unfold z0V; rw [if_neg (by rw [e0, h]; decide), if_neg (by rw [e0, h]; decide), if_neg (by rw [hw2]; decide), if_pos hw]
theorem y8Q : ∀ (t : zD) (path : List Int) (s d : Int), path.length + z0s t ≤ 1000000 → ∃ r, zX t path s d = some r := by
  intro t
  induction t using zD.ind with
  | h t ih =>
    intro path s d hs
    have hlen := z4v t.L
    have hts := z3P t
    have loop : ∀ (k i : Nat) (s d : Int), i + k = t.L.length → ∃ r, zN path t.L (t.L.length : Int) (i : Int) s d = some r := by
      intro k
      induction k with
      | zero =>
        intro i s d hi
        rw [vY]; unfold wI
        rw [if_neg (by omega)]; exact ⟨_, rfl⟩
      | succ k ihk =>
        intro i s d hi
        have hlt : i < t.L.length := by omega
        have ht := z4K t.L i
        have hd := z4J hlt
        rw [vY]; unfold wI
        rw [if_pos (by omega), z2r hlt, zA, if_pos (by omega), if_pos (by simp), if_pos (by omega), if_pos rfl, if_pos (by omega)]
        rw [if_pos (by unfold z2N; simp; omega)]
        obtain ⟨r, hr⟩ := ih _ (List.getElem_mem hlt) (List.drop 0 (List.take (Int.toNat (List.length path : Int)) path) ++ [(i : Int)]) s d (by simp; omega)
        rw [hr, zA, z2h (by omega) (by omega), z1x]
        exact ihk (i + 1) _ _ (by omega)
    rw [z0k]; unfold jU z2B
    rw [zA]
    exact loop t.L.length 0 _ _ (by omega)
section
variable {t : List zB} {n : Nat} (tk : Tk t n) (K N : Int) (S : Str) (L : List zD) (F T : Int)
include tk
theorem y2W {a : Nat} (e : Int) (ha : a ≤ n) : Ret t n K N S L F T a e (vC t a e K N S L F T) (fun x b => G t a b x) := by
  unfold vC
  by_cases he : e = 0
  · rw [if_pos he, tk.idx ha, zA]
    have fin : a < n → ((zQ t a).K = 2 ∨ ((zQ t a).K = 3 ∧ ((zQ t a).S = [116, 114, 117, 101] ∨ (zQ t a).S = [102, 97, 108, 115, 101]))) → Ret t n K N S L F T a e
      (if (0 : Int) ≤ (IntKind.wrap .i64 ((a : Int) + 1)) then
       if Int.toNat (IntKind.wrap .i64 ((a : Int) + 1)) ≤ List.length t then
       if (0 : Int) ≤ (a : Int) then
       if Int.toNat (a : Int) ≤ Int.toNat (IntKind.wrap .i64 ((a : Int) + 1)) then
       z0n (List.drop (Int.toNat (a : Int)) (List.take (Int.toNat (IntKind.wrap .i64 ((a : Int) + 1))) t)) 0 >>= fun q5 =>
       some (q5.1, t, IntKind.wrap .i64 ((a : Int) + 1), e, K, N, S, L, F, T)
       else none
       else none
       else none
       else none) (fun x b => G t a b x) := fun hlt hx => by
      have h1 := tk.len
      obtain ⟨k, m, s, hp⟩ := v1d (zQ t a) hx
      have hsl : List.drop (Int.toNat (a : Int)) (List.take (Int.toNat ((a + 1 : Nat) : Int)) t) = [zQ t a] := by
        rw [show Int.toNat (a : Int) = a from rfl, show Int.toNat ((a + 1 : Nat) : Int) = a + 1 from rfl, List.drop_take, show a + 1 - a = 1 by omega, List.drop_eq_getElem_cons (show a < t.length by omega)]
        unfold zQ; rw [List.getElem?_eq_getElem (show a < t.length by omega)]; rfl
      rw [z6R tk ha, if_pos (by omega), if_pos (by omega), if_pos (by omega), if_pos (by omega), hsl, hp, zA]
      refine ⟨_, a + 1, e, rfl, by omega, by omega, fun _ => ⟨he, ⟨Int.le_refl _, ?_, Int.le_refl _, .mk _ trivial (by simp)⟩, ?_, by omega⟩⟩
      · exact (tk.mon.le (Nat.le_refl a) (by omega)).1
      · simp only [z0s, wR]; omega
    by_cases h2 : (zQ t a).K = 2
    · rw [if_pos h2]
      exact fin (z1V tk.ln (by rw [h2]; decide)) (.inl h2)
    · rw [if_neg h2, z5u tk K N S L F T 3 _ e ha, zA]
      by_cases h3 : z5R t 3 [116, 114, 117, 101] a = true
      · rw [if_pos h3]
        exact fin (z4d tk (by decide) h3) (.inr ⟨(y2M h3).1, .inl (y2M h3).2⟩)
      · rw [if_neg h3, z5u tk K N S L F T 3 _ e ha, zA]
        by_cases h4 : z5R t 3 [102, 97, 108, 115, 101] a = true
        · rw [if_pos h4]
          exact fin (z4d tk (by decide) h4) (.inr ⟨(y2M h4).1, .inr (y2M h4).2⟩)
        · rw [if_neg h4]
          exact ⟨_, a, 6, rfl, by omega, ha, fun g => absurd g (by decide)⟩
  · rw [if_neg he]
    exact ⟨_, a, e, rfl, by omega, ha, fun g => absurd g he⟩
theorem y7v {a : Nat} (e : Int) (ha : a < n) : Ret t n K N S L F T a e (gH t a e K N S L F T) (fun x b => G t a b x) := by
  unfold gH
  rw [z6R tk (by omega)]
  obtain ⟨s, b1, e1, h1, l1, m1, P1⟩ := z4g tk K N S L F T (a := a + 1) e (by omega)
  rw [h1, zA]; dsimp only
  obtain ⟨b2, e2, h2, l2, m2, P2⟩ := gA tk K N S L F T 4 [61] e1 (by decide) m1
  rw [h2, zA]; dsimp only
  obtain ⟨x3, b3, e3, h3, l3, m3, P3⟩ := y2W tk K N S L F T e2 m2
  rw [h3, zA]; dsimp only
  obtain ⟨b4, e4, h4, l4, m4, P4⟩ := gA tk K N S L F T 4 [59] e3 (by decide) m3
  rw [h4, zA]; dsimp only
  obtain ⟨x, h5, P5⟩ := z5T tk K N S L F T 31 0 s (f := a) (b := b4) [x3] e4 m4 (fun h => by
    obtain ⟨q3, g4⟩ := P4 h
    obtain ⟨q2, g3⟩ := P3 q3
    exact LL.step tk (LL.snoc tk (l := []) (LL.nil (a := b2) (by omega)) g3 m3) l4 m4)
  rw [h5, zA]
  exact ⟨x, b4, e4, rfl, by omega, m4, fun h => ⟨(P1 (P2 (P3 (P4 h).1).1).1).1, P5 h⟩⟩
theorem Ret.id {a : Nat} {e : Int} {p : Option (zD × List zB × Int × Int × Int × Int × Str × List zD × Int × Int)} {P : zD → Nat → Prop} (h : Ret t n K N S L F T a e p P) :
    Ret t n K N S L F T a e (p >>= fun q2 => some (q2.1, q2.2.1, q2.2.2.1, q2.2.2.2.1, q2.2.2.2.2.1, q2.2.2.2.2.2.1, q2.2.2.2.2.2.2.1, q2.2.2.2.2.2.2.2.1, q2.2.2.2.2.2.2.2.2.1, q2.2.2.2.2.2.2.2.2.2)) P := by
  obtain ⟨x, b, e', h1, h2⟩ := h
  rw [h1, zA]
  exact ⟨x, b, e', rfl, h2⟩
theorem y7t {a : Nat} (e : Int) (ha : a ≤ n) : Ret t n K N S L F T a e (jV t a e K N S L F T) (fun x b => G t a b x) := by
  unfold jV
  rw [z5u tk K N S L F T 3 _ e ha, zA]
  by_cases h1 : z5R t 3 [114, 101, 99] a = true
  · rw [if_pos h1]; exact Ret.id tk K N S L F T (y8k tk K N S L F T e (z4d tk (by decide) h1))
  rw [if_neg h1, z5u tk K N S L F T 3 _ e ha, zA]
  by_cases h2 : z5R t 3 [99, 111, 110, 115, 116] a = true
  · rw [if_pos h2]; exact Ret.id tk K N S L F T (y7v tk K N S L F T e (z4d tk (by decide) h2))
  rw [if_neg h2, z5u tk K N S L F T 3 _ e ha, zA]
  by_cases h3 : z5R t 3 [118, 97, 114] a = true
  · rw [if_pos h3]; exact Ret.id tk K N S L F T (y7E tk K N S L F T e (z4d tk (by decide) h3))
  rw [if_neg h3, z5u tk K N S L F T 3 _ e ha, zA]
  by_cases h4 : z5R t 3 [112, 117, 98] a = true
  · rw [if_pos h4]; exact Ret.id tk K N S L F T (y1Q tk K N S L F T e ha)
  rw [if_neg h4, z5u tk K N S L F T 3 _ e ha, zA]
  by_cases h5 : z5R t 3 [102, 110] a = true
  · rw [if_pos h5]; exact Ret.id tk K N S L F T (y1Q tk K N S L F T e ha)
  rw [if_neg h5]
  exact ⟨_, a, 6, rfl, by omega, ha, fun g => absurd g (by decide)⟩
theorem y7Z (hn : n ≤ 2400) (h0 : 0 ≤ (zQ t 0).From) (hT : ∀ i, i ≤ n → (zQ t i).To ≤ T) (o2 : zD) : ∀ (k a : Nat) (L : List zD), n < a + k → a ≤ n → LL 0 t 0 a L →
    ∃ m q e, yZ o2 t (a : Int) 0 36 N S L 0 T = some (m, q, e) ∧ (e = 0 → Wn m ∧ z0s m ≤ 1000000 ∧ m.From = 0 ∧ m.To = T) := by
  intro k
  induction k with
  | zero => intro a L h1 h2; omega
  | succ k ih =>
    intro a L h1 h2 hl
    obtain ⟨c1, c2, c3⟩ := hl
    have hlen := tk.len
    rw [z0X]; unfold gJ
    rw [tk.idx h2, zA]
    by_cases h5 : (zQ t a).K = 5
    · rw [if_pos h5]
      by_cases h6 : (List.length L : Int) > 64
      · rw [if_pos h6]; exact ⟨_, _, _, rfl, fun g => absurd g (by decide)⟩
      · rw [if_neg h6]
        have hs : z0s ⟨36, N, S, L, 0, T⟩ = 1 + wR L := z3P _
        obtain ⟨r, hr⟩ := y8Q ⟨36, N, S, L, 0, T⟩ [] 0 0 (by rw [hs]; simp only [List.length_nil]; omega)
        unfold z2U
        rw [hr, zA, zA]
        by_cases h7 : r.2 > 64
        · rw [if_pos h7]; exact ⟨_, _, _, rfl, fun g => absurd g (by decide)⟩
        · rw [if_neg h7]
          refine ⟨_, _, _, rfl, fun _ => ⟨?_, by rw [hs]; omega, rfl, rfl⟩⟩
          obtain ⟨q0, d1, d2, d3, d4⟩ := c1
          refine .mk _ (d1.mono ?_ h0) d4
          show q0 ≤ T
          rcases d3 with d3 | ⟨d3, d5⟩
          · have := hT 0 (by omega); have := (tk.mon.le (Nat.le_refl 0) (by omega)).1; omega
          · have := hT (a - 1) (by omega); omega
    · rw [if_neg h5]
      obtain ⟨x, b, e', h3, l3, m3, P3⟩ := y7t tk 36 N S L 0 T 0 h2
      rw [h3, zA]; dsimp only
      by_cases h8 : e' = 0
      · obtain ⟨-, g⟩ := P3 h8
        have hlt := g.2.2
        rw [if_pos h8, if_pos (y9I tk ⟨c1, c2, c3⟩ h2), h8]
        exact ih b (L ++ [x]) (by omega) m3 (LL.snoc tk ⟨c1, c2, c3⟩ g m3)
      · rw [if_neg h8, tk.idx m3, zA]
        exact ⟨_, _, _, rfl, fun g => absurd g h8⟩
end
set_option maxRecDepth 10000
abbrev TA : List zB := [⟨3, 0, [118, 97, 114], 0, 3⟩, ⟨1, 0, [97], 4, 5⟩, ⟨4, 0, [58], 5, 6⟩, ⟨3, 0, [105, 110, 116], 7, 10⟩, ⟨4, 0, [59], 10, 11⟩, ⟨5, 0, [], 11, 11⟩]
abbrev xA1 : zD := ⟨1, 0, [], [], 7, 10⟩
abbrev xA2 : zD := ⟨32, 0, [97], [xA1], 0, 11⟩
abbrev xA3 : zD := ⟨36, 0, [], [xA2], 0, 11⟩
theorem wa1 : zN [0, 0] [] 0 0 3 3 = some (3, 3) := by rw [vY]; rfl
theorem wb1 : zX xA1 [0, 0] 2 2 = some (3, 3) := by rw [z0k]; exact wa1
theorem v1D : zN [0] [xA1] 1 1 3 3 = some (3, 3) := by rw [vY]; rfl
theorem wa2 : zN [0] [xA1] 1 0 2 2 = some (3, 3) := by
  rw [vY]
  show (zX xA1 [0, 0] 2 2 >>= fun q1 => zN [0] [xA1] 1 1 q1.1 q1.2) = _
  rw [wb1]; exact v1D
theorem wb2 : zX xA2 [0] 1 1 = some (3, 3) := by rw [z0k]; exact wa2
theorem v1E : zN [] [xA2] 1 1 3 3 = some (3, 3) := by rw [vY]; rfl
theorem wa3 : zN [] [xA2] 1 0 1 1 = some (3, 3) := by
  rw [vY]
  show (zX xA2 [0] 1 1 >>= fun q1 => zN [] [xA2] 1 1 q1.1 q1.2) = _
  rw [wb2]; exact v1E
theorem wb3 : zX xA3 [] 0 0 = some (3, 3) := by rw [z0k]; exact wa3
theorem ka : yN TA 3 0 = some (xA1, TA, 4, 0) := by rw [z2K]; rfl
theorem ta : yL TA 3 0 36 0 [] [] 0 11 = some (xA1, TA, 4, 0, 36, 0, [], [], 0, 11) := by
  unfold yL z3s jB
  rw [if_pos rfl, if_neg (by decide), if_neg (by decide), ka]; rfl
theorem ga : uN TA 0 0 36 0 [] [] 0 11 = some (xA2, TA, 5, 0, 36, 0, [], [], 0, 11) := by
  unfold uN
  rw [show vO TA (IntKind.wrap .i64 (0 + 1)) 0 36 0 [] [] 0 11 = some ([97], TA, 2, 0, 36, 0, [], [], 0, 11) from rfl, zA]
  rw [show yK 4 [58] TA 2 0 36 0 [] [] 0 11 = some (TA, 3, 0, 36, 0, [], [], 0, 11) from rfl, zA]
  rw [ta]; rfl
theorem pa2 (o : zD) : yZ o TA 5 0 36 0 [] [xA2] 0 11 = some (xA3, 0, 0) := by
  rw [z0X]
  show (z2U xA3 >>= fun q2 => if q2 > 64 then some ((zD.mk 0 0 ([] : List UInt8) [] 0 0), 0, 7) else some (xA3, 0, 0)) = _
  unfold z2U
  rw [wb3]; rfl
theorem pa (o : zD) : yZ o TA 0 0 36 0 [] [] 0 11 = some (xA3, 0, 0) := by
  rw [z0X]; unfold gJ jV
  rw [show idx TA 0 = some ⟨3, 0, [118, 97, 114], 0, 3⟩ from rfl, zA, if_neg (by decide)]
  rw [show wW 3 [114, 101, 99] TA 0 0 36 0 [] [] 0 11 = some false from rfl, zA, if_neg (by decide)]
  rw [show wW 3 [99, 111, 110, 115, 116] TA 0 0 36 0 [] [] 0 11 = some false from rfl, zA, if_neg (by decide)]
  rw [show wW 3 [118, 97, 114] TA 0 0 36 0 [] [] 0 11 = some true from rfl, zA, if_pos rfl, ga]
  exact pa2 o
theorem z2V : z1N = some true := by
  unfold z1N z1z
  rw [y2C _ (by decide)]
  have : z2a [118, 97, 114, 32, 97, 58, 32, 105, 110, 116, 59] = (TA, 0, 0) := by rfl
  rw [this, zA, if_pos rfl]
  show (yZ _ TA 0 0 36 0 [] [] 0 11 >>= _) = _
  rw [pa]; rfl
mutual
def mv (w : Int) : zD → zD
  | ⟨K, N, S, L, F, T⟩ => ⟨K, N, S, mvs w L, F + w, T + w⟩
def mvs (w : Int) : List zD → List zD
  | [] => []
  | x :: r => mv w x :: mvs w r
end
theorem y2a (w : Int) (a b : List zD) : mvs w (a ++ b) = mvs w a ++ mvs w b := by
  induction a with
  | nil => simp [mvs]
  | cons x r ih => simp [mvs, ih]
theorem y0r (w : Int) (a : List zD) : (mvs w a).length = a.length := by
  induction a with
  | nil => simp [mvs]
  | cons x r ih => simp [mvs, ih]
structure MT (t t' : List zB) (d : Nat) (w : Int) (B : Nat) : Prop where
  K : ∀ i, i < B → (zQ t' (i + d)).K = (zQ t i).K
  N : ∀ i, i < B → (zQ t' (i + d)).N = (zQ t i).N
  S : ∀ i, i < B → (zQ t' (i + d)).S = (zQ t i).S
  F : ∀ i, i < B → (zQ t' (i + d)).From = (zQ t i).From + w
  T : ∀ i, i < B → (zQ t' (i + d)).To = (zQ t i).To + w
def mvX (w : Int) : Cat → zD → zD
  | .cls _, x => lT (mvs w x.L)
  | .lst _, x => lT (mvs w x.L)
  | _, x => mv w x
def mvC (d : Nat) (w : Int) : Cat → Cat
  | .ll k m f x => .ll k m (f + d) (mv w x)
  | .pl f x => .pl (f + d) (mv w x)
  | .lst acc => .lst (mvs w acc)
  | .lev k => .lev k
  | .post => .post
  | .atom => .atom
  | .cls few => .cls few
section
variable {t t' : List zB} {d : Nat} {w : Int} {B : Nat} (h : MT t t' d w B)
include h
theorem MT.sgn {a : Nat} (ha : a < B) (s : Str) : vB t' (a + d) s = vB t a s := by unfold vB; rw [h.K a ha, h.S a ha]
theorem MT.wrd {a : Nat} (ha : a < B) (s : Str) : vM t' (a + d) s = vM t a s := by unfold vM; rw [h.K a ha, h.S a ha]
theorem MT.op {a : Nat} (ha : a < B) : y1h (zQ t' (a + d)) = y1h (zQ t a) := by unfold y1h; rw [h.K a ha, h.S a ha]
theorem MT.placed {f b : Nat} (hf : f < b) (hb : b ≤ B) (k n : Int) (s : Str) (l : List zD) : mv w (placed t f b ⟨k, n, s, l, 0, 0⟩) = placed t' (f + d) (b + d) ⟨k, n, s, mvs w l, 0, 0⟩ := by
  show mv w ⟨k, n, s, l, (zQ t f).From, (zQ t (b - 1)).To⟩ = ⟨k, n, s, mvs w l, (zQ t' (f + d)).From, (zQ t' (b + d - 1)).To⟩
  rw [show b + d - 1 = (b - 1) + d by omega, h.F f (by omega), h.T (b - 1) (by omega), mv]
theorem MT.atom {a : Nat} (ha : a + 1 < B) : z0V t' (a + d) = match z0V t a with
    | .call k s o few => .call k s (o + d) few
    | .one k n s => .one k n s
    | .paren => .paren
    | .lis => .lis
    | .nm => .nm
    | .no => .no := by
  unfold z0V
  rw [show a + d + 1 = (a + 1) + d by omega, show a + d + 2 = (a + 2) + d by omega]
  simp only [h.sgn ha, h.sgn (show a < B by omega), h.wrd (show a < B by omega), h.K a (by omega), h.N a (by omega), h.S a (by omega), h.K (a + 1) ha, h.S (a + 1) ha]
  repeat' split
  all_goals first | rfl | simp_all
theorem v0V (hB : B ≤ t.length) {c : Cat} {a : Nat} {r : Res} (hd : Der t c a r) : a ≤ t.length → (match c with | .ll _ _ f _ => f < a | .pl f _ => f < a | _ => True) → ∀ x b, r = .ok x b → b < B → Der t' (mvC d w c) (a + d) (.ok (mvX w c x) (b + d)) := by
  have one : ∀ x : zD, mvs w [x] = [mv w x] := fun x => by simp [mvs]
  have two : ∀ x y : zD, mvs w [x, y] = [mv w x, mv w y] := fun x y => by simp [mvs]
  have ac : ∀ a : Nat, a + 1 + d = a + d + 1 := fun a => by omega
  induction hd with
  | @un a b n x h1 hd ih =>
    intro ha _ y b' e hb; cases e
    have q := hd.inR (by have := h1.elim (fun h => zU h.2) (fun h => zU h.2); omega)
    simp only [InR] at q
    have g := ih (by omega) trivial x b rfl hb
    simp only [mvC, mvX] at g ⊢
    rw [h.placed (by omega) (by omega), one]
    rw [ac] at g
    exact .un (by rw [h.sgn (by omega), h.sgn (by omega)]; exact h1) g
  | @unP a r h1 h2 hd ih =>
    intro ha _ y b e hb
    subst e
    have q := hd.inR ha; simp only [InR] at q
    exact .unP (by rw [h.sgn (by omega)]; exact h1) (by rw [h.sgn (by omega)]; exact h2) (ih ha trivial y b rfl hb)
  | @lev k a b x r h1 h2 hd hd2 ih1 ih2 =>
    intro ha _ y c e hb
    have q := hd.inR ha; simp only [InR] at q
    have q2 := hd2.inR q.2
    rw [e] at q2; simp only [InR] at q2
    exact .lev h1 h2 (ih1 ha trivial x b rfl (by omega)) (ih2 q.2 q.1 y c e hb)
  | @llE k m f a x h1 h2 => intro ha _ y b e hb; cases e; exact .llE h1 (by rw [h.op hb]; exact h2)
  | @llG k m f a b x y r h1 h2 h3 hd hd2 ih1 ih2 =>
    intro ha hf z c e hb
    have h0 := wT (t := t) (a := a) (by rw [z4s (by omega)]; decide)
    have q := hd.inR (by omega); simp only [InR] at q
    have q2 := hd2.inR q.2
    rw [e] at q2; simp only [InR] at q2
    have hf : f < a := hf
    have g1 := ih1 (by omega) trivial y b rfl (by omega)
    have g2 := ih2 q.2 (show f < b by omega) z c e hb
    rw [ac] at g1
    simp only [mvC] at g2 ⊢
    rw [h.placed (by omega) (by omega), two] at g2
    refine .llG h1 (by rw [h.op (by omega)]; exact h2) h3 g1 ?_
    rw [h.op (by omega)]; exact g2
  | @post a b x r hd hd2 ih1 ih2 =>
    intro ha _ y c e hb
    have q := hd.inR ha; simp only [InR] at q
    have q2 := hd2.inR q.2
    rw [e] at q2; simp only [InR] at q2
    exact .post (ih1 ha trivial x b rfl (by omega)) (ih2 q.2 q.1 y c e hb)
  | @plE f a x h1 h2 => intro ha _ y b e hb; cases e; exact .plE (by rw [h.sgn hb]; exact h1) (by rw [h.sgn hb]; exact h2)
  | @plI f a b x i r h1 hd h2 hd2 ih1 ih2 =>
    intro ha hf z c e hb
    have h0 := zU h1
    have h3 := zU h2
    have q := hd.inR (by omega); simp only [InR] at q
    have q2 := hd2.inR (by omega)
    rw [e] at q2; simp only [InR] at q2
    have hf : f < a := hf
    have g1 := ih1 (by omega) trivial i b rfl (by omega)
    have g2 := ih2 (by omega) (show f < b + 1 by omega) z c e hb
    rw [ac] at g1 g2
    simp only [mvC] at g2 ⊢
    rw [h.placed (by omega) (by omega), two, ac] at g2
    exact .plI (by rw [h.sgn (by omega)]; exact h1) g1 (by rw [h.sgn (by omega)]; exact h2) g2
  | @plF f a x r h0 h1 h2 hd ih =>
    intro ha hf z c e hb
    have h3 := wT (t := t) (a := a + 1) (by rw [h2]; decide)
    have q2 := hd.inR (by omega)
    rw [e] at q2; simp only [InR] at q2
    have hf : f < a := hf
    have g2 := ih (by omega) (show f < a + 2 by omega) z c e hb
    simp only [mvC] at g2 ⊢
    rw [h.placed (by omega) (by omega), one, show a + 2 + d = a + d + 2 by omega] at g2
    have k1 := h.K (a + 1) (by omega)
    have k2 := h.S (a + 1) (by omega)
    rw [ac] at k1 k2
    refine .plF (by rw [h.sgn (by omega)]; exact h0) (by rw [h.sgn (by omega)]; exact h1) (by rw [k1]; exact h2) ?_
    rw [k2]; exact g2
  | @one a k n s h1 =>
    intro ha _ y b e hb; cases e
    simp only [mvC, mvX]
    rw [h.placed (by omega) (by omega), show mvs w [] = [] by simp [mvs], ac]
    exact .one (by rw [h.atom hb, h1])
  | @par a b x h1 hd h2 ih =>
    intro ha _ y b' e hb; cases e
    have h0 := z1d (t := t) (a := a) (by rw [h1]; simp)
    have q := hd.inR (by omega); simp only [InR] at q
    have g1 := ih (by omega) trivial x b rfl (by omega)
    rw [ac] at g1
    rw [ac]
    exact .par (by rw [h.atom (by omega), h1]) g1 (by rw [h.sgn (by omega)]; exact h2)
  | @call a o b k s few l h1 hd ih =>
    intro ha _ y b' e hb; cases e
    have h0 := z2Q h1
    have q := hd.inR h0.2; simp only [InR] at q
    have g1 := ih h0.2 trivial (lT l) b rfl hb
    simp only [mvC, mvX] at g1 ⊢
    rw [h.placed (by omega) (by omega)]
    exact .call (o := o + d) (few := few) (by rw [h.atom (by omega), h1]) g1
  | @lis a b l h1 hd h2 ih =>
    intro ha _ y b' e hb; cases e
    have h0 := z1d (t := t) (a := a) (by rw [h1]; simp)
    have q := hd.inR (by omega); simp only [InR] at q
    have g1 := ih (by omega) trivial (lT l) b rfl (by omega)
    rw [ac] at g1
    show Der t' .atom (a + d) (.ok (mv w _) _)
    rw [h.placed (by omega) (by omega), ac]
    simp only [mvC, mvX, mvs] at g1
    exact .lis (by rw [h.atom (by omega), h1]) g1 (by rw [h.sgn (by omega)]; exact h2)
  | @clsF a h1 h2 =>
    intro ha _ y b e hb; cases e
    have h0 := zU h2
    simp only [mvC, mvX, mvs]
    rw [show a + 2 + d = a + d + 2 by omega]
    exact .clsF (by rw [h.sgn (by omega)]; exact h1) (by rw [← ac, h.sgn (by omega)]; exact h2)
  | @cls a b few l h1 h2 hd h3 ih =>
    intro ha _ y b' e hb; cases e
    have h0 := zU h1
    have q := hd.inR (by omega); simp only [InR] at q
    have g1 := ih (by omega) trivial (lT l) b rfl (by omega)
    rw [ac] at g1
    simp only [mvC, mvX, mvs] at g1 ⊢
    rw [ac]
    exact .cls (by rw [h.sgn (by omega)]; exact h1) (fun hf => by rw [← ac, h.sgn (by omega)]; exact h2 hf) g1 (by rw [h.sgn (by omega)]; exact h3)
  | @lstE a b acc x hd h1 ih =>
    intro ha _ y b' e hb; cases e
    have g1 := ih ha trivial x b rfl hb
    simp only [mvC, mvX] at g1 ⊢
    rw [y2a, one]
    exact .lstE g1 (by rw [h.sgn hb]; exact h1)
  | @lstG a b acc x r hd h1 hd2 ih1 ih2 =>
    intro ha _ y b' e hb
    have h0 := zU h1
    have q := hd.inR ha; simp only [InR] at q
    have q2 := hd2.inR (by omega)
    rw [e] at q2; simp only [InR] at q2
    have g1 := ih1 ha trivial x b rfl (by omega)
    have g2 := ih2 (by omega) trivial y b' e hb
    simp only [mvC, mvX] at g1 g2 ⊢
    rw [y2a, one, ac] at g2
    exact .lstG g1 (by rw [h.sgn (by omega)]; exact h1) g2
  | _ => intro _ _ _ _ e; cases e
end
section
variable {t t' : List zB} {d : Nat} {w : Int} {B : Nat} (h : MT t t' d w B)
include h
theorem y8L (hB : B ≤ t.length) : ∀ (n m a : Nat), t.length < a + n → t'.length < a + d + m → (typ n t a).2.2 = 0 → (typ n t a).2.1 ≤ B → typ m t' (a + d) = (mv w (typ n t a).1, (typ n t a).2.1 + d, 0)
  | 0, m, a, hl, hm, e, hb => by cases e
  | n + 1, 0, a, hl, hm, e, hb => by
    have q := z5J (n + 1) t a (by omega) e
    have k := h.K a (by omega)
    have : (zQ t' (a + d)).K = 5 := by unfold zQ; rw [List.getElem?_eq_none (by omega)]; rfl
    rw [this] at k
    exfalso
    rw [typ] at e
    by_cases h1 : vM t a [105, 110, 116] = true
    · unfold vM at h1; rw [← k] at h1; simp at h1
    rw [if_neg h1] at e
    by_cases h2 : vM t a [98, 111, 111, 108] = true
    · unfold vM at h2; rw [← k] at h2; simp at h2
    rw [if_neg h2, if_neg (by rw [← k]; decide)] at e
    by_cases h4 : vB t a [91] = true
    · unfold vB at h4; rw [← k] at h4; simp at h4
    · rw [if_neg h4] at e; cases e
  | n + 1, m + 1, a, hl, hm, e, hb => by
    have q := z5J (n + 1) t a (by omega) e
    have ac : a + 1 + d = a + d + 1 := by omega
    rw [typ] at e hb q ⊢
    rw [typ]
    by_cases h1 : vM t a [105, 110, 116] = true
    · rw [if_pos h1] at hb q ⊢
      rw [if_pos (by rw [h.wrd (by omega)]; exact h1), h.placed (by omega) (by omega), ac]; simp [mvs]
    rw [if_neg h1] at e hb q ⊢
    rw [if_neg (by rw [h.wrd (by omega)]; exact h1)]
    by_cases h2 : vM t a [98, 111, 111, 108] = true
    · rw [if_pos h2] at hb q ⊢
      rw [if_pos (by rw [h.wrd (by omega)]; exact h2), h.placed (by omega) (by omega), ac]; simp [mvs]
    rw [if_neg h2] at e hb q ⊢
    rw [if_neg (by rw [h.wrd (by omega)]; exact h2)]
    by_cases h3 : (zQ t a).K = 1
    · rw [if_pos h3] at hb q ⊢
      rw [if_pos (by rw [h.K a (by omega)]; exact h3), h.placed (by omega) (by omega), ac, h.S a (by omega)]; simp [mvs]
    rw [if_neg h3] at e hb q ⊢
    rw [if_neg (by rw [h.K a (by omega)]; exact h3)]
    by_cases h4 : vB t a [91] = true
    · rw [if_pos h4] at e hb q ⊢
      rw [if_pos (by rw [h.sgn (by omega)]; exact h4)]
      by_cases h5 : (zQ t (a + 1)).K = 2
      · rw [if_pos h5] at e hb q ⊢
        by_cases h6 : vB t (a + 2) [93] = true
        · rw [if_pos h6] at e hb q ⊢
          by_cases h7 : (typ n t (a + 3)).2.2 = 0
          · rw [if_pos h7] at hb q ⊢
            have q3 := z5J n t (a + 3) (by omega) h7
            have hb : (typ n t (a + 3)).2.1 ≤ B := hb
            have g := y8L hB n m (a + 3) (by omega) (by omega) h7 hb
            have k1 := h.K (a + 1) (by omega)
            have k2 := h.N (a + 1) (by omega)
            have k3 := h.sgn (a := a + 2) (by omega) [93]
            rw [ac] at k1 k2
            rw [show a + 2 + d = a + d + 2 by omega] at k3
            rw [show a + 3 + d = a + d + 3 by omega] at g
            rw [if_pos (by rw [k1]; exact h5), if_pos (by rw [k3]; exact h6), g, if_pos rfl]
            dsimp only
            rw [h.placed (by omega) hb, k2]; simp [mvs]
          · rw [if_neg h7] at e; exact absurd e h7
        · rw [if_neg h6] at e; cases e
      · rw [if_neg h5] at e; cases e
    · rw [if_neg h4] at e; cases e
end
def mvS (d : Nat) (w : Int) : y5h → y5h
  | .sl f acc => .sl (f + d) (mvs w acc)
  | .form k f its parts name => .form k (f + d) its (mvs w parts) name
  | .stmt => .stmt
  | .blk => .blk
section
variable {t t' : List zB} {d : Nat} {w : Int} {B : Nat} (h : MT t t' d w B)
include h
theorem v0r {a b : Nat} {x : zD} (hd : SDer t (.form (z3u t a).1 a (z3u t a).2 [] []) a (.ok x b)) (ha : a ≤ t.length) (hb : b < B) (hB : B ≤ t.length) : z3u t' (a + d) = z3u t a := by
  have q := hd.inS ha; simp only [InS] at q
  have e : ∀ s, vM t' (a + d) s = vM t a s := fun s => h.wrd (by omega) s
  by_cases h1 : vM t a v0M = true
  · have h3 : a + 2 < B := by
      unfold z3u at hd
      rw [if_pos h1] at hd
      by_cases h2 : (zQ t (a + 1)).K = 1 ∧ vB t (a + 2) [58] = true
      · rw [if_pos h2] at hd
        have := zU h2.2
        cases hd with
        | fW _ hd => cases hd with
          | fN _ hd => have q := hd.inS (by omega); simp only [InS] at q; have := q.1.2 (by simp); omega
      · rw [if_neg h2] at hd
        have hl := uD h1
        cases hd with
        | fW _ hd => cases hd with
          | fN g hd =>
            have := wT (t := t) (a := a + 1) (by rw [g]; decide)
            have q := hd.inS (by omega); simp only [InS] at q; have := q.1.2 (by simp); omega
    unfold z3u
    have k1 := h.K (a + 1) (by omega)
    have k2 := h.sgn (a := a + 2) h3 [58]
    rw [show a + 1 + d = a + d + 1 by omega] at k1
    rw [show a + 2 + d = a + d + 2 by omega] at k2
    rw [e, k1, k2, if_pos h1, if_pos h1]
  · unfold z3u
    simp only [e]
    rw [if_neg h1, if_neg h1]
theorem v0G (hB : B ≤ t.length) {c : y5h} {a : Nat} {r : Res} (hd : SDer t c a r) : a ≤ t.length → (match c with | .sl f _ => f < a | .form _ f _ _ _ => f ≤ a | _ => True) → ∀ x b, r = .ok x b → (match c with | .blk => b ≤ B | .sl _ _ => b ≤ B | _ => b < B) → SDer t' (mvS d w c) (a + d) (.ok (mv w x) (b + d)) := by
  have ac : ∀ a : Nat, a + 1 + d = a + d + 1 := fun a => by omega
  have sn : ∀ (p : List zD) (x : zD), mvs w (p ++ [x]) = mvs w p ++ [mv w x] := fun p x => by rw [y2a]; simp [mvs]
  induction hd with
  | @sB a r h1 hd ih =>
    intro ha _ x b e hb
    subst e
    have hb : b < B := hb
    have q := hd.inS ha; simp only [InS] at q
    exact .sB (by rw [h.sgn (by omega)]; exact h1) (ih ha trivial x b rfl (show b ≤ B by omega))
  | @sF a r h1 hd ih =>
    intro ha _ x b e hb
    subst e
    have hb : b < B := hb
    have q := hd.inS ha; simp only [InS] at q
    have g := ih ha (Nat.le_refl a) x b rfl hb
    have fm := v0r h hd ha hb hB
    have hab : a < b := q.1.2 (by unfold z3u; (repeat' split) <;> simp)
    refine .sF (by rw [h.sgn (by omega)]; exact h1) ?_
    rw [fm]; simpa [mvS, mvs] using g
  | @b1 a r h1 hd ih =>
    intro ha _ x b e hb
    subst e
    have hb : b ≤ B := hb
    have h0 := zU h1
    have q := hd.inS (by omega); simp only [InS] at q
    have g := ih (by omega) (show a < a + 1 by omega) x b rfl hb
    simp only [mvS, mvs] at g ⊢
    rw [ac] at g
    exact .b1 (by rw [h.sgn (by omega)]; exact h1) g
  | @lE f a acc h1 =>
    intro ha hf x b e hb; cases e
    have hb : a + 1 ≤ B := hb
    have hf : f < a := hf
    simp only [mvS]
    rw [h.placed (by omega) hb, ac]
    exact .lE (by rw [h.sgn (by omega)]; exact h1)
  | @lG f a b acc x r h1 hd hd2 ih1 ih2 =>
    intro ha hf y b' e hb
    subst e
    have hb : b' ≤ B := hb
    have hf : f < a := hf
    have q := hd.inS ha; simp only [InS] at q
    have q2 := hd2.inS q.2; simp only [InS] at q2
    have g1 := ih1 ha trivial x b rfl (show b < B by omega)
    have g2 := ih2 q.2 (show f < b by omega) y b' rfl hb
    simp only [mvS] at g1 g2 ⊢
    rw [sn] at g2
    exact .lG (by rw [h.sgn (by omega)]; exact h1) g1 g2
  | @fE f a k parts name h1 =>
    intro ha hf x b e hb; cases e
    have hb : a < B := hb
    simp only [mvS]
    rw [h.placed h1 (by omega)]
    exact .fE (by omega)
  | @fW f a k s its parts name r h1 hd ih =>
    intro ha hf x b e hb
    subst e
    have hb : b < B := hb
    have hf : f ≤ a := hf
    have h0 := uD h1
    have q := hd.inS (by omega); simp only [InS] at q
    have g := ih (by omega) (show f ≤ a + 1 by omega) x b rfl hb
    simp only [mvS] at g ⊢
    rw [ac] at g
    exact .fW (by rw [h.wrd (by omega)]; exact h1) g
  | @fS f a k s its parts name r h1 hd ih =>
    intro ha hf x b e hb
    subst e
    have hb : b < B := hb
    have hf : f ≤ a := hf
    have h0 := zU h1
    have q := hd.inS (by omega); simp only [InS] at q
    have g := ih (by omega) (show f ≤ a + 1 by omega) x b rfl hb
    simp only [mvS] at g ⊢
    rw [ac] at g
    exact .fS (by rw [h.sgn (by omega)]; exact h1) g
  | @fN f a k its parts name r h1 hd ih =>
    intro ha hf x b e hb
    subst e
    have hb : b < B := hb
    have hf : f ≤ a := hf
    have h0 := wT (t := t) (a := a) (by rw [h1]; decide)
    have q := hd.inS (by omega); simp only [InS] at q
    have g := ih (by omega) (show f ≤ a + 1 by omega) x b rfl hb
    simp only [mvS] at g ⊢
    rw [ac] at g
    refine .fN (by rw [h.K a (by omega)]; exact h1) ?_
    rw [h.S a (by omega)]; exact g
  | @fX f a b k its parts name x r hd hd2 ih =>
    intro ha hf y b' e hb
    subst e
    have hb : b' < B := hb
    have hf : f ≤ a := hf
    have q := hd.inR ha; simp only [InR] at q
    have q2 := hd2.inS q.2; simp only [InS] at q2
    have g1 := v0V h hB hd ha trivial x b rfl (by omega)
    have g2 := ih q.2 (show f ≤ b by omega) y b' rfl hb
    simp only [mvS, mvC, mvX] at g1 g2 ⊢
    rw [sn] at g2
    exact .fX g1 g2
  | @fT f a k its parts name r h1 hd ih =>
    intro ha hf y b' e hb
    subst e
    have hb : b' < B := hb
    have hf : f ≤ a := hf
    have q : a < (z3B t a).2.1 ∧ (z3B t a).2.1 ≤ t.length := z5J (t.length + 1) t a (by omega) h1
    have q2 := hd.inS q.2; simp only [InS] at q2
    have g2 := ih q.2 (show f ≤ (z3B t a).2.1 by omega) y b' rfl hb
    have g1 : z3B t' (a + d) = _ := y8L h hB (t.length + 1) (t'.length + 1) a (by omega) (by omega) h1 (by have : (typ (t.length + 1) t a).2.1 = (z3B t a).2.1 := rfl; omega)
    simp only [mvS] at g2 ⊢
    rw [sn] at g2
    refine .fT (by rw [g1]) ?_
    rw [g1]; exact g2
  | @fK f a b k its parts name x r hd hd2 ih1 ih2 =>
    intro ha hf y b' e hb
    subst e
    have hb : b' < B := hb
    have hf : f ≤ a := hf
    have q := hd.inS ha; simp only [InS] at q
    have q2 := hd2.inS q.2; simp only [InS] at q2
    have g1 := ih1 ha trivial x b rfl (show b ≤ B by omega)
    have g2 := ih2 q.2 (show f ≤ b by omega) y b' rfl hb
    simp only [mvS] at g1 g2 ⊢
    rw [sn] at g2
    exact .fK g1 g2
  | @fE1 f a b k its parts name x r hd h2 hd2 ih1 ih2 =>
    intro ha hf y b' e hb
    subst e
    have hb : b' < B := hb
    have hf : f ≤ a := hf
    have q := hd.inS ha; simp only [InS] at q
    have q2 := hd2.inS q.2; simp only [InS] at q2
    have g1 := ih1 ha trivial x b rfl (show b ≤ B by omega)
    have g2 := ih2 q.2 (show f ≤ b by omega) y b' rfl hb
    have k := h.T (b - 1) (by omega)
    rw [show b - 1 + d = b + d - 1 by omega] at k
    simp only [mvS] at g1 g2 ⊢
    rw [sn, sn, mv, show mvs w [] = [] by simp [mvs], ← k] at g2
    exact .fE1 g1 (by rw [h.wrd (by omega)]; exact h2) g2
  | @fE2 f a b c k its parts name x y r hd h2 hd2 hd3 ih1 ih2 ih3 =>
    intro ha hf z b' e hb
    subst e
    have hb : b' < B := hb
    have hf : f ≤ a := hf
    have h0 := uD h2
    have q := hd.inS ha; simp only [InS] at q
    have q2 := hd2.inS (by omega); simp only [InS] at q2
    have q3 := hd3.inS q2.2; simp only [InS] at q3
    have g1 := ih1 ha trivial x b rfl (show b ≤ B by omega)
    have g2 := ih2 (by omega) trivial y c rfl (show c ≤ B by omega)
    have g3 := ih3 q2.2 (show f ≤ c by omega) z b' rfl hb
    simp only [mvS] at g1 g2 g3 ⊢
    rw [sn, sn] at g3
    rw [ac] at g2
    exact .fE2 g1 (by rw [h.wrd (by omega)]; exact h2) g2 g3
  | _ => intro _ _ _ _ e; cases e
end
section
variable {t t' : List zB} {n n' d B : Nat} {w : Int} (tk : Tk t n) (tk' : Tk t' n') (h : MT t t' d w B) (hB : B ≤ n) (hd : B + d ≤ n')
variable (K N : Int) (S : Str) (L : List zD) (F T : Int) (K' N' : Int) (S' : Str) (L' : List zD) (F' T' : Int)
include tk tk' h hB hd
theorem z4e {a : Nat} (ha : a < B) (k : Int) (s : Str) : z5R t' k s (a + d) = z5R t k s a := by unfold z5R; rw [h.K a ha, h.S a ha]
theorem y2b {a b : Nat} {s : Str} (ha : a < B) (e : vO t a 0 K N S L F T = some (s, t, (b : Int), 0, K, N, S, L, F, T)) :
    b = a + 1 ∧ vO t' ((a + d : Nat) : Int) 0 K' N' S' L' F' T' = some (s, t', ((b + d : Nat) : Int), 0, K', N', S', L', F', T') := by
  have h1 := tk.len; have h2 := tk.room; have h3 := tk'.len; have h4 := tk'.room
  unfold vO at e ⊢
  rw [if_pos rfl, tk.idx (by omega), zA] at e
  rw [if_pos rfl, tk'.idx (by omega), zA, h.K a ha]
  by_cases hk : (zQ t a).K = 1
  · rw [if_pos hk, z6R tk (by omega), z2h (by omega) (by omega), show ((a + 1 : Nat) : Int) - 1 = (a : Int) by omega, tk.idx (by omega), zA] at e
    simp only [Option.some.injEq, Prod.mk.injEq] at e
    have hb : b = a + 1 := by omega
    rw [if_pos hk, z6R tk' (by omega), z2h (by omega) (by omega), show ((a + d + 1 : Nat) : Int) - 1 = ((a + d : Nat) : Int) by omega, tk'.idx (by omega), zA, h.S a ha, e.1, hb]
    exact ⟨rfl, by rw [show a + d + 1 = a + 1 + d by omega]⟩
  · rw [if_neg hk] at e
    simp only [Option.some.injEq, Prod.mk.injEq] at e
    exact absurd e.2.2.2.1 (by decide)
theorem z3y {a b : Nat} (k : Int) (s : Str) (ha : a < B) (e : yK k s t a 0 K N S L F T = some (t, (b : Int), 0, K, N, S, L, F, T)) :
    b = a + 1 ∧ yK k s t' ((a + d : Nat) : Int) 0 K' N' S' L' F' T' = some (t', ((b + d : Nat) : Int), 0, K', N', S', L', F', T') := by
  unfold yK at e ⊢
  rw [if_pos rfl] at e ⊢
  by_cases hk : z5R t k s a = true
  · rw [z2E tk K N S L F T k s (by omega) rfl hk, zA, if_pos rfl] at e
    simp only [Option.some.injEq, Prod.mk.injEq] at e
    have hb : b = a + 1 := by omega
    rw [z2E tk' K' N' S' L' F' T' k s (by omega) rfl (by rw [z4e tk tk' h hB hd ha]; exact hk), zA, if_pos rfl, hb]
    exact ⟨rfl, by rw [show a + d + 1 = a + 1 + d by omega]⟩
  · rw [z4I tk K N S L F T k s (by omega) (fun g => hk g.2), zA] at e
    dsimp only at e
    rw [if_neg (by decide)] at e
    simp only [Option.some.injEq, Prod.mk.injEq] at e
    exact absurd e.2.2.1 (by decide)
theorem y9a {a b : Nat} {x : zD} (ha : a ≤ n) (hb : b ≤ B) (e : vD t a 0 K N S L F T = some (x, t, (b : Int), 0, K, N, S, L, F, T)) :
    vD t' ((a + d : Nat) : Int) 0 K' N' S' L' F' T' = some (mv w x, t', ((b + d : Nat) : Int), 0, K', N', S', L', F', T') := by
  have h1 := tk.len; have h2 := tk.room; have h3 := tk'.len; have h4 := tk'.room
  unfold vD at e ⊢
  obtain ⟨r, hr⟩ := (y6s t (t.length - a) a (by omega)).2
  rw [if_pos rfl, y2s t (by omega) a (by omega) hr, zA] at e
  cases r with
  | bad c =>
    simp only [ans, Option.some.injEq, Prod.mk.injEq] at e
    exact absurd e.2.2.2.1 (by decide)
  | ok y c =>
    simp only [ans, Option.some.injEq, Prod.mk.injEq] at e
    obtain ⟨rfl, -, e2, -⟩ := e
    have hc : c = b := by omega
    subst hc
    have q := hr.inS (by omega); simp only [InS] at q
    have g := v0G h (by omega) hr (by omega) trivial y c rfl hb
    have g' : SDer t' .blk (a + d) (.ok (mv w y) (c + d)) := g
    rw [if_pos rfl, y2s t' (by omega) (a + d) (by omega) g', zA]; rfl
theorem y5N {a b : Nat} {x : zD} (ha : a ≤ n) (hb : b ≤ B) (e : yL t a 0 K N S L F T = some (x, t, (b : Int), 0, K, N, S, L, F, T)) :
    yL t' ((a + d : Nat) : Int) 0 K' N' S' L' F' T' = some (mv w x, t', ((b + d : Nat) : Int), 0, K', N', S', L', F', T') := by
  have h1 := tk.len; have h2 := tk.room; have h3 := tk'.len; have h4 := tk'.room
  unfold yL z3s jB at e ⊢
  obtain ⟨y, e1, e2⟩ := y3I t (by omega) (t.length + 1) a (by omega) (by omega)
  rw [if_pos rfl, if_neg (by omega), if_neg (by omega), e1, zA] at e
  dsimp only at e
  by_cases h5 : (typ (t.length + 1) t a).2.2 = 0
  · rw [if_pos h5, zA, zA, e2 h5] at e
    simp only [Option.some.injEq, Prod.mk.injEq] at e
    obtain ⟨e3, -, e4, -⟩ := e
    have hbb : (typ (t.length + 1) t a).2.1 = b := by omega
    have q := z5J (t.length + 1) t a (by omega) h5
    obtain ⟨z, f1, f2⟩ := y3I t' (by omega) (t'.length + 1) (a + d) (by omega) (by omega)
    have g := y8L h (by omega) (t.length + 1) (t'.length + 1) a (by omega) (by omega) h5 (by omega)
    rw [g] at f1 f2
    dsimp only at f1 f2
    rw [if_pos rfl, if_neg (by omega), if_neg (by omega), f1, zA]
    dsimp only
    rw [if_pos rfl, zA, zA, f2 rfl, hbb, e3]
  · rw [if_neg h5, zA, zA] at e
    simp only [Option.some.injEq, Prod.mk.injEq] at e
    exact absurd e.2.2.2.1 h5
theorem z8c {f b : Nat} (k m : Int) (s : Str) (l : List zD) {x : zD} (hf : f < b) (hb : b ≤ B) (e : yH k m s f l t b 0 K N S L F T = some x) :
    yH k m s ((f + d : Nat) : Int) (mvs w l) t' ((b + d : Nat) : Int) 0 K' N' S' L' F' T' = some (mv w x) := by
  have h1 := tk.len; have h2 := tk.room; have h3 := tk'.len; have h4 := tk'.room
  unfold yH at e ⊢
  rw [if_pos rfl, tk.idx (show f ≤ n by omega), zA, z2h (by omega) (by omega), show (b : Int) - 1 = ((b - 1 : Nat) : Int) by omega, tk.idx (show b - 1 ≤ n by omega), zA] at e
  rw [if_pos rfl, tk'.idx (show f + d ≤ n' by omega), zA, z2h (by omega) (by omega), show ((b + d : Nat) : Int) - 1 = ((b - 1 + d : Nat) : Int) by omega, tk'.idx (show b - 1 + d ≤ n' by omega), zA, h.F f (by omega), h.T (b - 1) (by omega)]
  injection e with e
  rw [← e, mv]
end
section
variable {t t' : List zB} {n n' d B : Nat} {w : Int} (tk : Tk t n) (tk' : Tk t' n') (h : MT t t' d w B) (hB : B ≤ n) (hd : B + d ≤ n')
variable (K N : Int) (S : Str) (L : List zD) (F T : Int) (K' N' : Int) (S' : Str) (L' : List zD) (F' T' : Int)
include tk tk' h hB hd
theorem y5D {a b : Nat} {x : zD} (ha : a < B) (hb : b ≤ B) (e : jW t a 0 K N S L F T = some (x, t, (b : Int), 0, K, N, S, L, F, T)) :
    jW t' ((a + d : Nat) : Int) 0 K' N' S' L' F' T' = some (mv w x, t', ((b + d : Nat) : Int), 0, K', N', S', L', F', T') := by
  unfold jW at e ⊢
  obtain ⟨s, b1, e1, h1, l1, m1, P1⟩ := z4g tk K N S L F T (a := a) 0 (by omega)
  rw [h1, zA] at e; dsimp only at e
  obtain ⟨b2, e2, h2, l2, m2, P2⟩ := gA tk K N S L F T 4 [58] e1 (by decide) m1
  rw [h2, zA] at e; dsimp only at e
  obtain ⟨x3, b3, e3, h3, l3, m3, P3⟩ := z8f tk K N S L F T e2 m2
  rw [h3, zA] at e; dsimp only at e
  cases hm : yH 34 0 s a [x3] t b3 e3 K N S L F T with
  | none => rw [hm] at e; cases e
  | some z =>
    rw [hm, zA] at e
    simp only [Option.some.injEq, Prod.mk.injEq] at e
    obtain ⟨rfl, -, e4, rfl, -⟩ := e
    have hbb : b3 = b := by omega
    subst hbb
    obtain ⟨rfl, g3⟩ := P3 rfl
    obtain ⟨rfl, g2⟩ := P2 rfl
    obtain ⟨-, g1⟩ := P1 rfl
    have q3 := g3.2.2
    have n1 := (y2b tk tk' h hB hd K N S L F T K' N' S' L' F' T' ha h1).2
    have n2 := (z3y tk tk' h hB hd K N S L F T K' N' S' L' F' T' 4 [58] (a := b1) (by omega) h2).2
    have n3 := y5N tk tk' h hB hd K N S L F T K' N' S' L' F' T' m2 hb h3
    have n4 := z8c tk tk' h hB hd K N S L F T K' N' S' L' F' T' 34 0 s [x3] (f := a) (by omega) hb hm
    rw [n1, zA]; dsimp only
    rw [n2, zA]; dsimp only
    rw [n3, zA]; dsimp only
    rw [show mvs w [x3] = [mv w x3] by simp [mvs]] at n4
    rw [n4, zA]
theorem y5Y {a b : Nat} {x : zD} (ha : a < B) (hb : b ≤ B) (e : gB t a 0 K N S L F T = some (x, t, (b : Int), 0, K, N, S, L, F, T)) :
    gB t' ((a + d : Nat) : Int) 0 K' N' S' L' F' T' = some (mv w x, t', ((b + d : Nat) : Int), 0, K', N', S', L', F', T') := by
  unfold gB at e ⊢
  obtain ⟨x1, b1, e1, h1, l1, m1, P1⟩ := y0s tk K N S L F T (a := a) 0 (by omega)
  rw [h1, zA] at e; dsimp only at e
  obtain ⟨b2, e2, h2, l2, m2, P2⟩ := gA tk K N S L F T 4 [59] e1 (by decide) m1
  rw [h2, zA] at e
  simp only [Option.some.injEq, Prod.mk.injEq] at e
  obtain ⟨rfl, -, e4, rfl, -⟩ := e
  have hbb : b2 = b := by omega
  subst hbb
  obtain ⟨rfl, g2⟩ := P2 rfl
  have n1 := y5D tk tk' h hB hd K N S L F T K' N' S' L' F' T' ha (show b1 ≤ B by omega) h1
  have n2 := (z3y tk tk' h hB hd K N S L F T K' N' S' L' F' T' 4 [59] (a := b1) (by omega) h2).2
  rw [n1, zA]; dsimp only
  rw [n2, zA]
theorem y7D {a b : Nat} {x : zD} (ha : a < B) (hb : b ≤ B) (e : uN t a 0 K N S L F T = some (x, t, (b : Int), 0, K, N, S, L, F, T)) :
    uN t' ((a + d : Nat) : Int) 0 K' N' S' L' F' T' = some (mv w x, t', ((b + d : Nat) : Int), 0, K', N', S', L', F', T') := by
  unfold uN at e ⊢
  rw [z6R tk (by omega)] at e
  rw [z6R tk' (by omega)]
  obtain ⟨s, b1, e1, h1, l1, m1, P1⟩ := z4g tk K N S L F T (a := a + 1) 0 (by omega)
  rw [h1, zA] at e; dsimp only at e
  obtain ⟨b2, e2, h2, l2, m2, P2⟩ := gA tk K N S L F T 4 [58] e1 (by decide) m1
  rw [h2, zA] at e; dsimp only at e
  obtain ⟨x3, b3, e3, h3, l3, m3, P3⟩ := z8f tk K N S L F T e2 m2
  rw [h3, zA] at e; dsimp only at e
  obtain ⟨b4, e4, h4, l4, m4, P4⟩ := gA tk K N S L F T 4 [59] e3 (by decide) m3
  rw [h4, zA] at e; dsimp only at e
  cases hm : yH 32 0 s a [x3] t b4 e4 K N S L F T with
  | none => rw [hm] at e; cases e
  | some z =>
    rw [hm, zA] at e
    simp only [Option.some.injEq, Prod.mk.injEq] at e
    obtain ⟨rfl, -, e5, rfl, -⟩ := e
    have hbb : b4 = b := by omega
    subst hbb
    obtain ⟨rfl, g4⟩ := P4 rfl
    obtain ⟨rfl, g3⟩ := P3 rfl
    obtain ⟨rfl, g2⟩ := P2 rfl
    obtain ⟨-, g1⟩ := P1 rfl
    have q3 := g3.2.2
    have n1 := (y2b tk tk' h hB hd K N S L F T K' N' S' L' F' T' (a := a + 1) (by omega) h1).2
    have n2 := (z3y tk tk' h hB hd K N S L F T K' N' S' L' F' T' 4 [58] (a := b1) (by omega) h2).2
    have n3 := y5N tk tk' h hB hd K N S L F T K' N' S' L' F' T' m2 (show b3 ≤ B by omega) h3
    have n4 := (z3y tk tk' h hB hd K N S L F T K' N' S' L' F' T' 4 [59] (a := b3) (by omega) h4).2
    have n5 := z8c tk tk' h hB hd K N S L F T K' N' S' L' F' T' 32 0 s [x3] (f := a) (by omega) hb hm
    rw [show ((a + d + 1 : Nat) : Int) = ((a + 1 + d : Nat) : Int) by omega, n1, zA]; dsimp only
    rw [n2, zA]; dsimp only
    rw [n3, zA]; dsimp only
    rw [n4, zA]; dsimp only
    rw [show mvs w [x3] = [mv w x3] by simp [mvs]] at n5
    rw [n5, zA]
end
theorem y6m (w : Int) (l : List zD) (x : zD) : mvs w (l ++ [x]) = mvs w l ++ [mv w x] := by rw [y2a]; simp [mvs]
section
variable {t t' : List zB} {n n' d B : Nat} {w : Int} (tk : Tk t n) (tk' : Tk t' n') (h : MT t t' d w B) (hB : B ≤ n) (hd : B + d ≤ n')
variable (K N : Int) (S : Str) (L : List zD) (F T : Int) (K' N' : Int) (S' : Str) (L' : List zD) (F' T' : Int)
include tk tk' h hB hd
theorem y8f : ∀ (k : Nat) (out : List zD) (a b : Nat) (l : List zD), n < a + k → a ≤ n → b < B → zF out t a 0 K N S L F T = some (l, t, (b : Int), 0, K, N, S, L, F, T) →
    a ≤ b ∧ zF (mvs w out) t' ((a + d : Nat) : Int) 0 K' N' S' L' F' T' = some (mvs w l, t', ((b + d : Nat) : Int), 0, K', N', S', L', F', T') := by
  intro k
  induction k with
  | zero => intro out a b l h1 h2; omega
  | succ k ih =>
    intro out a b l h1 h2 hb e
    rw [uC] at e ⊢; unfold yF z1A at e ⊢
    rw [if_pos rfl] at e ⊢
    by_cases hc : z5R t 4 [44] a = true
    · have hlt := z4d tk (by decide) hc
      rw [z2E tk K N S L F T 4 [44] h2 rfl hc, zA, zA] at e; dsimp only at e
      rw [if_pos rfl] at e
      obtain ⟨x, b1, e1, h3, l3, m3, P3⟩ := y0s tk K N S L F T (a := a + 1) 0 (by omega)
      rw [h3, zA] at e; dsimp only at e
      by_cases hr : z2N 72 (List.length out + List.length [x])
      · rw [if_pos hr] at e
        by_cases he : e1 = 0
        · subst he
          obtain ⟨q1, q2⟩ := ih (out ++ [x]) b1 b l (by omega) m3 hb e
          have n1 := y5D tk tk' h hB hd K N S L F T K' N' S' L' F' T' (a := a + 1) (b := b1) (by omega) (by omega) h3
          rw [z2E tk' K' N' S' L' F' T' 4 [44] (by omega) rfl (by rw [z4e tk tk' h hB hd (by omega)]; exact hc), zA, zA]; dsimp only
          rw [if_pos rfl, show a + d + 1 = a + 1 + d by omega, n1, zA]; dsimp only
          rw [if_pos (by rw [y0r]; exact hr), ← y6m]
          exact ⟨by omega, q2⟩
        · rw [y4U tk K N S L F T he] at e
          simp only [Option.some.injEq, Prod.mk.injEq] at e
          exact absurd e.2.2.2.1 he
      · rw [if_neg hr] at e; cases e
    · rw [z4I tk K N S L F T 4 [44] h2 (fun g => hc g.2), zA, zA] at e; dsimp only at e
      rw [if_neg (by decide)] at e
      simp only [Option.some.injEq, Prod.mk.injEq] at e
      obtain ⟨rfl, -, e2, -⟩ := e
      have hab : a = b := by omega
      subst hab
      rw [z4I tk' K' N' S' L' F' T' 4 [44] (by omega) (fun g => hc (by rw [← z4e tk tk' h hB hd hb]; exact g.2)), zA, zA]; dsimp only
      rw [if_neg (by decide)]
      exact ⟨Nat.le_refl _, rfl⟩
theorem y8d {a b : Nat} {x : zD} (ha : a < B) (hb : b ≤ B) (e : wJ t a 0 K N S L F T = some (x, t, (b : Int), 0, K, N, S, L, F, T)) :
    wJ t' ((a + d : Nat) : Int) 0 K' N' S' L' F' T' = some (mv w x, t', ((b + d : Nat) : Int), 0, K', N', S', L', F', T') := by
  unfold wJ at e ⊢
  obtain ⟨b1, e1, h1, l1, m1, P1⟩ := gA tk K N S L F T 4 [40] (a := a) 0 (by decide) (by omega)
  rw [h1, zA] at e; dsimp only at e
  by_cases hc : e1 = 0 ∧ z5R t 4 [41] b1 = true
  · obtain ⟨rfl, hc2⟩ := hc
    have hlt := z4d tk (by decide) hc2
    rw [z2E tk K N S L F T 4 [41] m1 rfl hc2, zA] at e; dsimp only at e
    rw [if_pos rfl] at e
    cases hm : yH 35 0 [] a [] t ((b1 + 1 : Nat) : Int) 0 K N S L F T with
    | none => rw [hm] at e; cases e
    | some z =>
      rw [hm, zA] at e
      simp only [Option.some.injEq, Prod.mk.injEq] at e
      obtain ⟨rfl, -, e4, -⟩ := e
      have hbb : b1 + 1 = b := by omega
      subst hbb
      have n1 := (z3y tk tk' h hB hd K N S L F T K' N' S' L' F' T' 4 [40] (a := a) (by omega) h1).2
      have n4 := z8c tk tk' h hB hd K N S L F T K' N' S' L' F' T' 35 0 [] [] (f := a) (by omega) hb hm
      rw [n1, zA]; dsimp only
      rw [z2E tk' K' N' S' L' F' T' 4 [41] (by omega) rfl (by rw [z4e tk tk' h hB hd (by omega)]; exact hc2), zA]; dsimp only
      rw [if_pos rfl, show b1 + d + 1 = b1 + 1 + d by omega]
      rw [show mvs w [] = [] by simp [mvs]] at n4
      rw [n4, zA]
  · rw [z4I tk K N S L F T 4 [41] m1 hc, zA] at e; dsimp only at e
    rw [if_neg (by decide)] at e
    unfold vW at e ⊢
    obtain ⟨x2, b2, e2, h2, l2, m2, P2⟩ := y0s tk K N S L F T e1 m1
    rw [h2, zA] at e; dsimp only at e
    obtain ⟨y, b3, e3, h3, l3, m3, P3⟩ := y4T (c := 1) (f := a) tk K N S L F T (n + 1) [x2] b2 e2 (by omega) m2 (fun h => by
      obtain ⟨q2, g2⟩ := P2 h
      have := (P1 q2).2
      exact LL.snoc tk (l := []) (LL.nil (a := b1) (by omega)) g2 m2)
    rw [h3, zA] at e; dsimp only at e
    obtain ⟨b4, e4, h4, l4, m4, P4⟩ := gA tk K N S L F T 4 [41] e3 (by decide) m3
    rw [h4, zA] at e; dsimp only at e
    cases hm : yH 35 0 [] a y t (b4 : Int) e4 K N S L F T with
    | none => rw [hm] at e; cases e
    | some z =>
      rw [hm, zA] at e
      simp only [Option.some.injEq, Prod.mk.injEq] at e
      obtain ⟨rfl, -, e5, rfl, -⟩ := e
      have hbb : b4 = b := by omega
      subst hbb
      obtain ⟨rfl, g4⟩ := P4 rfl
      obtain ⟨rfl, g3⟩ := P3 rfl
      obtain ⟨rfl, g2⟩ := P2 rfl
      obtain ⟨-, g1⟩ := P1 rfl
      have q2 := g2.2.2
      have hc2 : ¬ z5R t 4 [41] b1 = true := fun g => hc ⟨rfl, g⟩
      have n1 := (z3y tk tk' h hB hd K N S L F T K' N' S' L' F' T' 4 [40] (a := a) (by omega) h1).2
      have n2 := y5D tk tk' h hB hd K N S L F T K' N' S' L' F' T' (a := b1) (b := b2) (by omega) (by omega) h2
      have n3 := (y8f tk tk' h hB hd K N S L F T K' N' S' L' F' T' (n + 1) [x2] b2 b3 y (by omega) m2 (by omega) h3).2
      have n4 := (z3y tk tk' h hB hd K N S L F T K' N' S' L' F' T' 4 [41] (a := b3) (by omega) h4).2
      have n5 := z8c tk tk' h hB hd K N S L F T K' N' S' L' F' T' 35 0 [] y (f := a) (by omega) hb hm
      rw [n1, zA]; dsimp only
      rw [z4I tk' K' N' S' L' F' T' 4 [41] (by omega) (fun g => hc2 (by rw [← z4e tk tk' h hB hd (by omega)]; exact g.2)), zA]; dsimp only
      rw [if_neg (by decide), n2, zA]; dsimp only
      rw [show mvs w [x2] = [mv w x2] by simp [mvs]] at n3
      rw [n3, zA]; dsimp only
      rw [n4, zA]; dsimp only
      rw [n5, zA]
theorem v0X {a b0 b : Nat} (k : Int) {x : zD} (hab : a < b0) (hb0 : b0 ≤ n) (hb : b ≤ B) (e : (
    vO t b0 0 K N S L F T >>= fun q3 =>
    wJ q3.2.1 q3.2.2.1 q3.2.2.2.1 q3.2.2.2.2.1 q3.2.2.2.2.2.1 q3.2.2.2.2.2.2.1 q3.2.2.2.2.2.2.2.1 q3.2.2.2.2.2.2.2.2.1 q3.2.2.2.2.2.2.2.2.2 >>= fun q4 =>
    yK 4 ([58] : List UInt8) q4.2.1 q4.2.2.1 q4.2.2.2.1 q4.2.2.2.2.1 q4.2.2.2.2.2.1 q4.2.2.2.2.2.2.1 q4.2.2.2.2.2.2.2.1 q4.2.2.2.2.2.2.2.2.1 q4.2.2.2.2.2.2.2.2.2 >>= fun q5 =>
    yL q5.1 q5.2.1 q5.2.2.1 q5.2.2.2.1 q5.2.2.2.2.1 q5.2.2.2.2.2.1 q5.2.2.2.2.2.2.1 q5.2.2.2.2.2.2.2.1 q5.2.2.2.2.2.2.2.2 >>= fun q6 =>
    vD q6.2.1 q6.2.2.1 q6.2.2.2.1 q6.2.2.2.2.1 q6.2.2.2.2.2.1 q6.2.2.2.2.2.2.1 q6.2.2.2.2.2.2.2.1 q6.2.2.2.2.2.2.2.2.1 q6.2.2.2.2.2.2.2.2.2 >>= fun q7 =>
    yH 33 k q3.1 a [q4.1, q6.1, q7.1] q7.2.1 q7.2.2.1 q7.2.2.2.1 q7.2.2.2.2.1 q7.2.2.2.2.2.1 q7.2.2.2.2.2.2.1 q7.2.2.2.2.2.2.2.1 q7.2.2.2.2.2.2.2.2.1 q7.2.2.2.2.2.2.2.2.2 >>= fun q8 =>
    some (q8, q7.2.1, q7.2.2.1, q7.2.2.2.1, q7.2.2.2.2.1, q7.2.2.2.2.2.1, q7.2.2.2.2.2.2.1, q7.2.2.2.2.2.2.2.1, q7.2.2.2.2.2.2.2.2.1, q7.2.2.2.2.2.2.2.2.2)) = some (x, t, (b : Int), 0, K, N, S, L, F, T)) :
    (vO t' ((b0 + d : Nat) : Int) 0 K' N' S' L' F' T' >>= fun q3 =>
    wJ q3.2.1 q3.2.2.1 q3.2.2.2.1 q3.2.2.2.2.1 q3.2.2.2.2.2.1 q3.2.2.2.2.2.2.1 q3.2.2.2.2.2.2.2.1 q3.2.2.2.2.2.2.2.2.1 q3.2.2.2.2.2.2.2.2.2 >>= fun q4 =>
    yK 4 ([58] : List UInt8) q4.2.1 q4.2.2.1 q4.2.2.2.1 q4.2.2.2.2.1 q4.2.2.2.2.2.1 q4.2.2.2.2.2.2.1 q4.2.2.2.2.2.2.2.1 q4.2.2.2.2.2.2.2.2.1 q4.2.2.2.2.2.2.2.2.2 >>= fun q5 =>
    yL q5.1 q5.2.1 q5.2.2.1 q5.2.2.2.1 q5.2.2.2.2.1 q5.2.2.2.2.2.1 q5.2.2.2.2.2.2.1 q5.2.2.2.2.2.2.2.1 q5.2.2.2.2.2.2.2.2 >>= fun q6 =>
    vD q6.2.1 q6.2.2.1 q6.2.2.2.1 q6.2.2.2.2.1 q6.2.2.2.2.2.1 q6.2.2.2.2.2.2.1 q6.2.2.2.2.2.2.2.1 q6.2.2.2.2.2.2.2.2.1 q6.2.2.2.2.2.2.2.2.2 >>= fun q7 =>
    yH 33 k q3.1 ((a + d : Nat) : Int) [q4.1, q6.1, q7.1] q7.2.1 q7.2.2.1 q7.2.2.2.1 q7.2.2.2.2.1 q7.2.2.2.2.2.1 q7.2.2.2.2.2.2.1 q7.2.2.2.2.2.2.2.1 q7.2.2.2.2.2.2.2.2.1 q7.2.2.2.2.2.2.2.2.2 >>= fun q8 =>
    some (q8, q7.2.1, q7.2.2.1, q7.2.2.2.1, q7.2.2.2.2.1, q7.2.2.2.2.2.1, q7.2.2.2.2.2.2.1, q7.2.2.2.2.2.2.2.1, q7.2.2.2.2.2.2.2.2.1, q7.2.2.2.2.2.2.2.2.2)) = some (mv w x, t', ((b + d : Nat) : Int), 0, K', N', S', L', F', T') := by
  obtain ⟨s, b1, e1, h1, l1, m1, P1⟩ := z4g tk K N S L F T 0 hb0
  rw [h1, zA] at e; dsimp only at e
  obtain ⟨x2, b2, e2, h2, l2, m2, P2⟩ := y2l tk K N S L F T e1 m1
  rw [h2, zA] at e; dsimp only at e
  obtain ⟨b3, e3, h3, l3, m3, P3⟩ := gA tk K N S L F T 4 [58] e2 (by decide) m2
  rw [h3, zA] at e; dsimp only at e
  obtain ⟨x4, b4, e4, h4, l4, m4, P4⟩ := z8f tk K N S L F T e3 m3
  rw [h4, zA] at e; dsimp only at e
  obtain ⟨x5, b5, e5, h5, l5, m5, P5⟩ := y3o tk K N S L F T e4 m4
  rw [h5, zA] at e; dsimp only at e
  cases hm : yH 33 k s a [x2, x4, x5] t (b5 : Int) e5 K N S L F T with
  | none => rw [hm] at e; cases e
  | some z =>
    rw [hm, zA] at e
    simp only [Option.some.injEq, Prod.mk.injEq] at e
    obtain ⟨rfl, -, e6, rfl, -⟩ := e
    have hbb : b5 = b := by omega
    subst hbb
    obtain ⟨rfl, g5⟩ := P5 rfl
    obtain ⟨rfl, g4⟩ := P4 rfl
    obtain ⟨rfl, g3⟩ := P3 rfl
    obtain ⟨rfl, g2⟩ := P2 rfl
    obtain ⟨-, g1⟩ := P1 rfl
    have q5 := g5.2.2
    have q4 := g4.2.2
    have q2 := g2.2.2
    have n1 := (y2b tk tk' h hB hd K N S L F T K' N' S' L' F' T' (a := b0) (by omega) h1).2
    have n2 := y8d tk tk' h hB hd K N S L F T K' N' S' L' F' T' (a := b1) (b := b2) (by omega) (by omega) h2
    have n3 := (z3y tk tk' h hB hd K N S L F T K' N' S' L' F' T' 4 [58] (a := b2) (by omega) h3).2
    have n4 := y5N tk tk' h hB hd K N S L F T K' N' S' L' F' T' m3 (show b4 ≤ B by omega) h4
    have n5 := y9a tk tk' h hB hd K N S L F T K' N' S' L' F' T' m4 (show b5 ≤ B by omega) h5
    have n6 := z8c tk tk' h hB hd K N S L F T K' N' S' L' F' T' 33 k s [x2, x4, x5] (f := a) (by omega) hb hm
    rw [n1, zA]; dsimp only
    rw [n2, zA]; dsimp only
    rw [n3, zA]; dsimp only
    rw [n4, zA]; dsimp only
    rw [n5, zA]; dsimp only
    rw [show mvs w [x2, x4, x5] = [mv w x2, mv w x4, mv w x5] by simp [mvs]] at n6
    rw [n6, zA]
theorem v0W {a b0 b : Nat} (k : Int) {x : zD} (hab : a < b0) (hb0 : b0 ≤ n) (e : (
    vO t b0 0 K N S L F T >>= fun q3 =>
    wJ q3.2.1 q3.2.2.1 q3.2.2.2.1 q3.2.2.2.2.1 q3.2.2.2.2.2.1 q3.2.2.2.2.2.2.1 q3.2.2.2.2.2.2.2.1 q3.2.2.2.2.2.2.2.2.1 q3.2.2.2.2.2.2.2.2.2 >>= fun q4 =>
    yK 4 ([58] : List UInt8) q4.2.1 q4.2.2.1 q4.2.2.2.1 q4.2.2.2.2.1 q4.2.2.2.2.2.1 q4.2.2.2.2.2.2.1 q4.2.2.2.2.2.2.2.1 q4.2.2.2.2.2.2.2.2.1 q4.2.2.2.2.2.2.2.2.2 >>= fun q5 =>
    yL q5.1 q5.2.1 q5.2.2.1 q5.2.2.2.1 q5.2.2.2.2.1 q5.2.2.2.2.2.1 q5.2.2.2.2.2.2.1 q5.2.2.2.2.2.2.2.1 q5.2.2.2.2.2.2.2.2 >>= fun q6 =>
    vD q6.2.1 q6.2.2.1 q6.2.2.2.1 q6.2.2.2.2.1 q6.2.2.2.2.2.1 q6.2.2.2.2.2.2.1 q6.2.2.2.2.2.2.2.1 q6.2.2.2.2.2.2.2.2.1 q6.2.2.2.2.2.2.2.2.2 >>= fun q7 =>
    yH 33 k q3.1 a [q4.1, q6.1, q7.1] q7.2.1 q7.2.2.1 q7.2.2.2.1 q7.2.2.2.2.1 q7.2.2.2.2.2.1 q7.2.2.2.2.2.2.1 q7.2.2.2.2.2.2.2.1 q7.2.2.2.2.2.2.2.2.1 q7.2.2.2.2.2.2.2.2.2 >>= fun q8 =>
    some (q8, q7.2.1, q7.2.2.1, q7.2.2.2.1, q7.2.2.2.2.1, q7.2.2.2.2.2.1, q7.2.2.2.2.2.2.1, q7.2.2.2.2.2.2.2.1, q7.2.2.2.2.2.2.2.2.1, q7.2.2.2.2.2.2.2.2.2)) = some (x, t, (b : Int), 0, K, N, S, L, F, T)) : b0 < b := by
  obtain ⟨s, b1, e1, h1, l1, m1, P1⟩ := z4g tk K N S L F T 0 hb0
  rw [h1, zA] at e; dsimp only at e
  obtain ⟨x2, b2, e2, h2, l2, m2, P2⟩ := y2l tk K N S L F T e1 m1
  rw [h2, zA] at e; dsimp only at e
  obtain ⟨b3, e3, h3, l3, m3, P3⟩ := gA tk K N S L F T 4 [58] e2 (by decide) m2
  rw [h3, zA] at e; dsimp only at e
  obtain ⟨x4, b4, e4, h4, l4, m4, P4⟩ := z8f tk K N S L F T e3 m3
  rw [h4, zA] at e; dsimp only at e
  obtain ⟨x5, b5, e5, h5, l5, m5, P5⟩ := y3o tk K N S L F T e4 m4
  rw [h5, zA] at e; dsimp only at e
  cases hm : yH 33 k s a [x2, x4, x5] t (b5 : Int) e5 K N S L F T with
  | none => rw [hm] at e; cases e
  | some z =>
    rw [hm, zA] at e
    simp only [Option.some.injEq, Prod.mk.injEq] at e
    obtain ⟨rfl, -, e6, rfl, -⟩ := e
    have hbb : b5 = b := by omega
    subst hbb
    obtain ⟨rfl, g5⟩ := P5 rfl
    obtain ⟨rfl, g4⟩ := P4 rfl
    obtain ⟨rfl, g3⟩ := P3 rfl
    obtain ⟨rfl, g2⟩ := P2 rfl
    obtain ⟨-, g1⟩ := P1 rfl
    have q5 := g5.2.2
    have q4 := g4.2.2
    have q2 := g2.2.2
    omega
theorem y1P {a b : Nat} {x : zD} (ha : a < B) (hb : b ≤ B) (e : uI t a 0 K N S L F T = some (x, t, (b : Int), 0, K, N, S, L, F, T)) :
    uI t' ((a + d : Nat) : Int) 0 K' N' S' L' F' T' = some (mv w x, t', ((b + d : Nat) : Int), 0, K', N', S', L', F', T') := by
  unfold uI at e ⊢
  by_cases hc : z5R t 3 [112, 117, 98] a = true
  · have hlt := z4d tk (by decide) hc
    rw [z2E tk K N S L F T 3 _ (by omega) rfl hc, zA] at e; dsimp only at e
    rw [if_pos rfl] at e
    obtain ⟨b1, e1, h1, l1, m1, P1⟩ := gA tk K N S L F T 3 [102, 110] (a := a + 1) 0 (by decide) (by omega)
    rw [h1, zA] at e; dsimp only at e
    have e0 := e
    obtain ⟨x', b', e', hh, lb, -, PP⟩ := y3v tk K N S L F T (a := a) (b0 := b1) 1 e1 e1 m1 (by omega) (fun q => ⟨q, by omega⟩)
    rw [hh] at e
    simp only [Option.some.injEq, Prod.mk.injEq] at e
    obtain ⟨-, -, e4, rfl, -⟩ := e
    obtain ⟨rfl, g⟩ := PP rfl
    obtain ⟨-, g1⟩ := P1 rfl
    have hb1 : a + 1 < B := by
      obtain ⟨s, c1, f1, k1, u1, v1, Q1⟩ := z4g tk K N S L F T (a := b1) 0 m1
      have q := v0W tk tk' h hB hd K N S L F T 1 (by omega) m1 e0
      omega
    rw [z2E tk' K' N' S' L' F' T' 3 _ (by omega) rfl (by rw [z4e tk tk' h hB hd (by omega)]; exact hc), zA]; dsimp only
    rw [if_pos rfl, show a + d + 1 = a + 1 + d by omega, (z3y tk tk' h hB hd K N S L F T K' N' S' L' F' T' 3 [102, 110] (a := a + 1) (by omega) h1).2, zA]; dsimp only
    exact v0X tk tk' h hB hd K N S L F T K' N' S' L' F' T' 1 (by omega) m1 hb e0
  · rw [z4I tk K N S L F T 3 _ (by omega) (fun g => hc g.2), zA] at e; dsimp only at e
    rw [if_neg (by decide)] at e
    obtain ⟨b1, e1, h1, l1, m1, P1⟩ := gA tk K N S L F T 3 [102, 110] (a := a) 0 (by decide) (by omega)
    rw [h1, zA] at e; dsimp only at e
    have e0 := e
    obtain ⟨x', b', e', hh, lb, -, PP⟩ := y3v tk K N S L F T (a := a) (b0 := b1) 0 e1 e1 m1 (by omega) (fun q => ⟨q, by have := (P1 q).2; omega⟩)
    rw [hh] at e
    simp only [Option.some.injEq, Prod.mk.injEq] at e
    obtain ⟨-, -, e4, rfl, -⟩ := e
    obtain ⟨rfl, g⟩ := PP rfl
    obtain ⟨-, g1⟩ := P1 rfl
    rw [z4I tk' K' N' S' L' F' T' 3 _ (by omega) (fun g => hc (by rw [← z4e tk tk' h hB hd (by omega)]; exact g.2)), zA]; dsimp only
    rw [if_neg (by decide), (z3y tk tk' h hB hd K N S L F T K' N' S' L' F' T' 3 [102, 110] (a := a) (by omega) h1).2, zA]; dsimp only
    exact v0X tk tk' h hB hd K N S L F T K' N' S' L' F' T' 0 (by omega) m1 hb e0
end
section
variable {t : List zB} {n : Nat} (tk : Tk t n) (K N : Int) (S : Str) (L : List zD) (F T : Int)
include tk
theorem y5x {a : Nat} (ha : a < n) {k m : Int} {s : Str} (g2 : z0V [zQ t a] 0 = .one k m s) (g3 : (zQ t a).K ≠ 4)
    (g4 : vC t a 0 K N S L F T = (z0n [zQ t a] 0 >>= fun q5 => some (q5.1, t, ((a + 1 : Nat) : Int), 0, K, N, S, L, F, T))) :
    vC t a 0 K N S L F T = some (⟨k, m, s, [], (zQ t a).From, (zQ t a).To⟩, t, ((a + 1 : Nat) : Int), 0, K, N, S, L, F, T) := by
  have hp : z0n [zQ t a] 0 = _ := y2m [zQ t a] (by simp) 0 (by simp) (y7w g2 g3 rfl)
  rw [g4, hp]; rfl
theorem y7V {a : Nat} (ha : a < n) : List.drop (Int.toNat (a : Int)) (List.take (Int.toNat ((a + 1 : Nat) : Int)) t) = [zQ t a] := by
  have h1 := tk.len
  rw [show Int.toNat (a : Int) = a from rfl, show Int.toNat ((a + 1 : Nat) : Int) = a + 1 from rfl, List.drop_take, show a + 1 - a = 1 by omega, List.drop_eq_getElem_cons (show a < t.length by omega)]
  unfold zQ; rw [List.getElem?_eq_getElem (show a < t.length by omega)]; rfl
theorem v1b {a : Nat} (ha : a < n) (h : (zQ t a).K = 2) : vC t a 0 K N S L F T = some (⟨5, (zQ t a).N, [], [], (zQ t a).From, (zQ t a).To⟩, t, ((a + 1 : Nat) : Int), 0, K, N, S, L, F, T) := by
  have h1 := tk.len
  have h2 := tk.room
  have e0 : zQ [zQ t a] 0 = zQ t a := rfl
  refine y5x tk K N S L F T ha ?_ (by rw [h]; decide) ?_
  · unfold z0V; rw [e0, if_pos h]
  · unfold vC
    rw [if_pos rfl, tk.idx (by omega), zA, if_pos h, z6R tk (by omega), if_pos (by omega), if_pos (by omega), if_pos (by omega), if_pos (by omega), y7V tk ha]
theorem v1e {a : Nat} (ha : a < n) (h : z5R t 3 [116, 114, 117, 101] a = true) : vC t a 0 K N S L F T = some (⟨6, 1, [], [], (zQ t a).From, (zQ t a).To⟩, t, ((a + 1 : Nat) : Int), 0, K, N, S, L, F, T) := by
  have h1 := tk.len
  have h2 := tk.room
  have e0 : zQ [zQ t a] 0 = zQ t a := rfl
  have hk := y2M h
  have hw : vM [zQ t a] 0 [116, 114, 117, 101] = true := h
  refine y5x tk K N S L F T ha ?_ (by rw [hk.1]; decide) ?_
  · unfold z0V; rw [e0, if_neg (by rw [hk.1]; decide), if_neg (by rw [hk.1]; decide), if_pos hw]
  · unfold vC
    rw [if_pos rfl, tk.idx (by omega), zA, if_neg (by rw [hk.1]; decide), z5u tk K N S L F T 3 _ 0 (by omega), zA, if_pos h, z6R tk (by omega), if_pos (by omega), if_pos (by omega), if_pos (by omega), if_pos (by omega), y7V tk ha]
theorem v1c {a : Nat} (ha : a < n) (h : z5R t 3 [102, 97, 108, 115, 101] a = true) : vC t a 0 K N S L F T = some (⟨6, 0, [], [], (zQ t a).From, (zQ t a).To⟩, t, ((a + 1 : Nat) : Int), 0, K, N, S, L, F, T) := by
  have h1 := tk.len
  have h2 := tk.room
  have e0 : zQ [zQ t a] 0 = zQ t a := rfl
  have hk := y2M h
  have hw : vM [zQ t a] 0 [102, 97, 108, 115, 101] = true := h
  have h3 : z5R t 3 [116, 114, 117, 101] a = false := v0e h (by decide)
  have h4 : vM [zQ t a] 0 [116, 114, 117, 101] = false := h3
  refine y5x tk K N S L F T ha ?_ (by rw [hk.1]; decide) ?_
  · unfold z0V; rw [e0, if_neg (by rw [hk.1]; decide), if_neg (by rw [hk.1]; decide), if_neg (by rw [h4]; decide), if_pos hw]
  · unfold vC
    rw [if_pos rfl, tk.idx (by omega), zA, if_neg (by rw [hk.1]; decide), z5u tk K N S L F T 3 _ 0 (by omega), zA, if_neg (by rw [h3]; decide), z5u tk K N S L F T 3 _ 0 (by omega), zA, if_pos h, z6R tk (by omega), if_pos (by omega), if_pos (by omega), if_pos (by omega), if_pos (by omega), y7V tk ha]
theorem v1t {a : Nat} (ha : a ≤ n) (h1 : (zQ t a).K ≠ 2) (h2 : ¬ z5R t 3 [116, 114, 117, 101] a = true) (h3 : ¬ z5R t 3 [102, 97, 108, 115, 101] a = true) : vC t a 0 K N S L F T = some (zT7, t, (a : Int), 6, K, N, S, L, F, T) := by
  unfold vC
  rw [if_pos rfl, tk.idx ha, zA, if_neg h1, z5u tk K N S L F T 3 _ 0 ha, zA, if_neg h2, z5u tk K N S L F T 3 _ 0 ha, zA, if_neg h3]
end
section
variable {t t' : List zB} {n n' d B : Nat} {w : Int} (tk : Tk t n) (tk' : Tk t' n') (h : MT t t' d w B) (hB : B ≤ n) (hd : B + d ≤ n')
variable (K N : Int) (S : Str) (L : List zD) (F T : Int) (K' N' : Int) (S' : Str) (L' : List zD) (F' T' : Int)
include tk tk' h hB hd
theorem y7b {a b : Nat} {x : zD} (ha : a < B) (e : vC t a 0 K N S L F T = some (x, t, (b : Int), 0, K, N, S, L, F, T)) :
    vC t' ((a + d : Nat) : Int) 0 K' N' S' L' F' T' = some (mv w x, t', ((b + d : Nat) : Int), 0, K', N', S', L', F', T') := by
  have hlt : a < n := by omega
  have hlt' : a + d < n' := by omega
  by_cases h2 : (zQ t a).K = 2
  · rw [v1b tk K N S L F T hlt h2] at e
    simp only [Option.some.injEq, Prod.mk.injEq] at e
    obtain ⟨rfl, -, e4, -⟩ := e
    have hb : b = a + 1 := by omega
    rw [v1b tk' K' N' S' L' F' T' hlt' (by rw [h.K a ha]; exact h2), h.N a ha, h.F a ha, h.T a ha, hb, show a + d + 1 = a + 1 + d by omega]
    simp [mv, mvs]
  by_cases h3 : z5R t 3 [116, 114, 117, 101] a = true
  · rw [v1e tk K N S L F T hlt h3] at e
    simp only [Option.some.injEq, Prod.mk.injEq] at e
    obtain ⟨rfl, -, e4, -⟩ := e
    have hb : b = a + 1 := by omega
    rw [v1e tk' K' N' S' L' F' T' hlt' (by rw [z4e tk tk' h hB hd ha]; exact h3), h.F a ha, h.T a ha, hb, show a + d + 1 = a + 1 + d by omega]
    simp [mv, mvs]
  by_cases h4 : z5R t 3 [102, 97, 108, 115, 101] a = true
  · rw [v1c tk K N S L F T hlt h4] at e
    simp only [Option.some.injEq, Prod.mk.injEq] at e
    obtain ⟨rfl, -, e4, -⟩ := e
    have hb : b = a + 1 := by omega
    rw [v1c tk' K' N' S' L' F' T' hlt' (by rw [z4e tk tk' h hB hd ha]; exact h4), h.F a ha, h.T a ha, hb, show a + d + 1 = a + 1 + d by omega]
    simp [mv, mvs]
  rw [v1t tk K N S L F T (by omega) h2 h3 h4] at e
  simp only [Option.some.injEq, Prod.mk.injEq] at e
  exact absurd e.2.2.2.1 (by decide)
theorem y7u {a b : Nat} {x : zD} (ha : a < B) (hb : b ≤ B) (e : gH t a 0 K N S L F T = some (x, t, (b : Int), 0, K, N, S, L, F, T)) :
    gH t' ((a + d : Nat) : Int) 0 K' N' S' L' F' T' = some (mv w x, t', ((b + d : Nat) : Int), 0, K', N', S', L', F', T') := by
  unfold gH at e ⊢
  rw [z6R tk (by omega)] at e
  rw [z6R tk' (by omega)]
  obtain ⟨s, b1, e1, h1, l1, m1, P1⟩ := z4g tk K N S L F T (a := a + 1) 0 (by omega)
  rw [h1, zA] at e; dsimp only at e
  obtain ⟨b2, e2, h2, l2, m2, P2⟩ := gA tk K N S L F T 4 [61] e1 (by decide) m1
  rw [h2, zA] at e; dsimp only at e
  obtain ⟨x3, b3, e3, h3, l3, m3, P3⟩ := y2W tk K N S L F T e2 m2
  rw [h3, zA] at e; dsimp only at e
  obtain ⟨b4, e4, h4, l4, m4, P4⟩ := gA tk K N S L F T 4 [59] e3 (by decide) m3
  rw [h4, zA] at e; dsimp only at e
  cases hm : yH 31 0 s a [x3] t b4 e4 K N S L F T with
  | none => rw [hm] at e; cases e
  | some z =>
    rw [hm, zA] at e
    simp only [Option.some.injEq, Prod.mk.injEq] at e
    obtain ⟨rfl, -, e5, rfl, -⟩ := e
    have hbb : b4 = b := by omega
    subst hbb
    obtain ⟨rfl, g4⟩ := P4 rfl
    obtain ⟨rfl, g3⟩ := P3 rfl
    obtain ⟨rfl, g2⟩ := P2 rfl
    obtain ⟨-, g1⟩ := P1 rfl
    have q3 := g3.2.2
    have n1 := (y2b tk tk' h hB hd K N S L F T K' N' S' L' F' T' (a := a + 1) (by omega) h1).2
    have n2 := (z3y tk tk' h hB hd K N S L F T K' N' S' L' F' T' 4 [61] (a := b1) (by omega) h2).2
    have n3 := y7b tk tk' h hB hd K N S L F T K' N' S' L' F' T' (a := b2) (b := b3) (by omega) h3
    have n4 := (z3y tk tk' h hB hd K N S L F T K' N' S' L' F' T' 4 [59] (a := b3) (by omega) h4).2
    have n5 := z8c tk tk' h hB hd K N S L F T K' N' S' L' F' T' 31 0 s [x3] (f := a) (by omega) hb hm
    rw [show ((a + d + 1 : Nat) : Int) = ((a + 1 + d : Nat) : Int) by omega, n1, zA]; dsimp only
    rw [n2, zA]; dsimp only
    rw [n3, zA]; dsimp only
    rw [n4, zA]; dsimp only
    rw [show mvs w [x3] = [mv w x3] by simp [mvs]] at n5
    rw [n5, zA]
theorem y6M : ∀ (k : Nat) (out : List zD) (a b : Nat) (l : List zD), n < a + k → a ≤ n → b < B → zE out t a 0 K N S L F T = some (l, t, (b : Int), 0, K, N, S, L, F, T) →
    a ≤ b ∧ zE (mvs w out) t' ((a + d : Nat) : Int) 0 K' N' S' L' F' T' = some (mvs w l, t', ((b + d : Nat) : Int), 0, K', N', S', L', F', T') := by
  intro k
  induction k with
  | zero => intro out a b l h1 h2; omega
  | succ k ih =>
    intro out a b l h1 h2 hb e
    rw [uB] at e ⊢; unfold yE z1M at e ⊢
    rw [if_pos rfl] at e ⊢
    rw [z5u tk K N S L F T 4 [125] 0 h2, zA, zA] at e
    by_cases hc : (!z5R t 4 [125] a) = true
    · rw [if_pos hc] at e
      obtain ⟨x, b1, e1, h3, l3, m3, P3⟩ := y1j tk K N S L F T (a := a) 0 (by omega)
      rw [h3, zA] at e; dsimp only at e
      by_cases hr : z2N 72 (List.length out + List.length [x])
      · rw [if_pos hr] at e
        by_cases he : e1 = 0
        · subst he
          obtain ⟨-, c', hc', g⟩ := P3 rfl
          have q3 := g.2.2
          obtain ⟨q1, q2⟩ := ih (out ++ [x]) b1 b l (by omega) m3 hb e
          have n1 := y5Y tk tk' h hB hd K N S L F T K' N' S' L' F' T' (a := a) (b := b1) (by omega) (by omega) h3
          rw [z5u tk' K' N' S' L' F' T' 4 [125] 0 (by omega), zA, zA, z4e tk tk' h hB hd (by omega), if_pos hc, n1, zA]; dsimp only
          rw [if_pos (by rw [y0r]; exact hr), ← y6m]
          exact ⟨by omega, q2⟩
        · rw [y0m tk K N S L F T he] at e
          simp only [Option.some.injEq, Prod.mk.injEq] at e
          exact absurd e.2.2.2.1 he
      · rw [if_neg hr] at e; cases e
    · rw [if_neg hc] at e
      simp only [Option.some.injEq, Prod.mk.injEq] at e
      obtain ⟨rfl, -, e2, -⟩ := e
      have hab : a = b := by omega
      subst hab
      rw [z5u tk' K' N' S' L' F' T' 4 [125] 0 (by omega), zA, zA, z4e tk tk' h hB hd hb, if_neg hc]
      exact ⟨Nat.le_refl _, rfl⟩
theorem y8j {a b : Nat} {x : zD} (ha : a < B) (hb : b ≤ B) (e : gI t a 0 K N S L F T = some (x, t, (b : Int), 0, K, N, S, L, F, T)) :
    gI t' ((a + d : Nat) : Int) 0 K' N' S' L' F' T' = some (mv w x, t', ((b + d : Nat) : Int), 0, K', N', S', L', F', T') := by
  unfold gI vV at e ⊢
  rw [z6R tk (by omega)] at e
  rw [z6R tk' (by omega)]
  obtain ⟨s, b1, e1, h1, l1, m1, P1⟩ := z4g tk K N S L F T (a := a + 1) 0 (by omega)
  rw [h1, zA] at e; dsimp only at e
  obtain ⟨b2, e2, h2, l2, m2, P2⟩ := gA tk K N S L F T 4 [123] e1 (by decide) m1
  rw [h2, zA] at e; dsimp only at e
  obtain ⟨x3, b3, e3, h3, l3, m3, P3⟩ := y1j tk K N S L F T e2 m2
  rw [h3, zA] at e; dsimp only at e
  obtain ⟨y, b4, e4, h4, l4, m4, P4⟩ := y2R (c := 1) (f := a) tk K N S L F T (n + 1) [x3] b3 e3 (by omega) m3 (fun h => by
    obtain ⟨q2, c', hc, g⟩ := P3 h
    exact LL.step tk (LL.snoc tk (l := []) (LL.nil (a := b2) (by omega)) g (by omega)) (show c' ≤ b3 by omega) m3)
  rw [h4, zA] at e; dsimp only at e
  obtain ⟨b5, e5, h5, l5, m5, P5⟩ := gA tk K N S L F T 4 [125] e4 (by decide) m4
  rw [h5, zA] at e; dsimp only at e
  cases hm : yH 30 0 s a y t b5 e5 K N S L F T with
  | none => rw [hm] at e; cases e
  | some z =>
    rw [hm, zA] at e
    simp only [Option.some.injEq, Prod.mk.injEq] at e
    obtain ⟨rfl, -, e6, rfl, -⟩ := e
    have hbb : b5 = b := by omega
    subst hbb
    obtain ⟨rfl, g5⟩ := P5 rfl
    obtain ⟨rfl, g4⟩ := P4 rfl
    obtain ⟨rfl, c', hc', g3⟩ := P3 rfl
    obtain ⟨rfl, g2⟩ := P2 rfl
    obtain ⟨-, g1⟩ := P1 rfl
    have q3 := g3.2.2
    have n1 := (y2b tk tk' h hB hd K N S L F T K' N' S' L' F' T' (a := a + 1) (by omega) h1).2
    have n2 := (z3y tk tk' h hB hd K N S L F T K' N' S' L' F' T' 4 [123] (a := b1) (by omega) h2).2
    have n3 := y5Y tk tk' h hB hd K N S L F T K' N' S' L' F' T' (a := b2) (b := b3) (by omega) (by omega) h3
    have n4 := (y6M tk tk' h hB hd K N S L F T K' N' S' L' F' T' (n + 1) [x3] b3 b4 y (by omega) m3 (by omega) h4).2
    have n5 := (z3y tk tk' h hB hd K N S L F T K' N' S' L' F' T' 4 [125] (a := b4) (by omega) h5).2
    have n6 := z8c tk tk' h hB hd K N S L F T K' N' S' L' F' T' 30 0 s y (f := a) (by omega) hb hm
    rw [show ((a + d + 1 : Nat) : Int) = ((a + 1 + d : Nat) : Int) by omega, n1, zA]; dsimp only
    rw [n2, zA]; dsimp only
    rw [n3, zA]; dsimp only
    rw [show mvs w [x3] = [mv w x3] by simp [mvs]] at n4
    rw [n4, zA]; dsimp only
    rw [n5, zA]; dsimp only
    rw [n6, zA]
theorem v0p {a b : Nat} {x : zD} (ha : a < B) (hb : b ≤ B) (e : jV t a 0 K N S L F T = some (x, t, (b : Int), 0, K, N, S, L, F, T)) :
    jV t' ((a + d : Nat) : Int) 0 K' N' S' L' F' T' = some (mv w x, t', ((b + d : Nat) : Int), 0, K', N', S', L', F', T') := by
  have k1 : ∀ {p : Option (zD × List zB × Int × Int × Int × Int × Str × List zD × Int × Int)}, (p >>= fun q2 => some (q2.1, q2.2.1, q2.2.2.1, q2.2.2.2.1, q2.2.2.2.2.1, q2.2.2.2.2.2.1, q2.2.2.2.2.2.2.1, q2.2.2.2.2.2.2.2.1, q2.2.2.2.2.2.2.2.2.1, q2.2.2.2.2.2.2.2.2.2)) = p := fun {p} => by
    cases p <;> rfl
  have hn : a ≤ n := by omega
  have hn' : a + d ≤ n' := by omega
  unfold jV at e ⊢
  simp only [k1, z5u tk K N S L F T 3 _ 0 hn, z5u tk' K' N' S' L' F' T' 3 _ 0 hn', zA, z4e tk tk' h hB hd ha] at e ⊢
  by_cases c1 : z5R t 3 [114, 101, 99] a = true
  · rw [if_pos c1] at e ⊢
    exact y8j tk tk' h hB hd K N S L F T K' N' S' L' F' T' ha hb e
  rw [if_neg c1] at e ⊢
  by_cases c2 : z5R t 3 [99, 111, 110, 115, 116] a = true
  · rw [if_pos c2] at e ⊢
    exact y7u tk tk' h hB hd K N S L F T K' N' S' L' F' T' ha hb e
  rw [if_neg c2] at e ⊢
  by_cases c3 : z5R t 3 [118, 97, 114] a = true
  · rw [if_pos c3] at e ⊢
    exact y7D tk tk' h hB hd K N S L F T K' N' S' L' F' T' ha hb e
  rw [if_neg c3] at e ⊢
  by_cases c4 : z5R t 3 [112, 117, 98] a = true
  · rw [if_pos c4] at e ⊢
    exact y1P tk tk' h hB hd K N S L F T K' N' S' L' F' T' ha hb e
  rw [if_neg c4] at e ⊢
  by_cases c5 : z5R t 3 [102, 110] a = true
  · rw [if_pos c5] at e ⊢
    exact y1P tk tk' h hB hd K N S L F T K' N' S' L' F' T' ha hb e
  rw [if_neg c5] at e
  simp only [Option.some.injEq, Prod.mk.injEq] at e
  exact absurd e.2.2.2.1 (by decide)
end
theorem y9A (w : Int) (t : zD) : mv w t = ⟨t.K, t.N, t.S, mvs w t.L, t.From + w, t.To + w⟩ := by cases t; simp [mv]
theorem y9B {w : Int} {l : List zD} {i : Nat} (h : i < l.length) : mvs w (l.take (i + 1)) = mvs w (l.take i) ++ [mv w l[i]] := by
  rw [List.take_succ_eq_append_getElem h, y2a]; simp [mvs]
theorem y7s {q : Int} : ∀ {l : List zD} {p : Int}, Chn q p l → ∀ x ∈ l, p ≤ x.From ∧ x.From ≤ x.To ∧ x.To ≤ q
  | [], p, _, x, hx => by simp at hx
  | y :: r, p, ⟨h1, h2, h3, h4⟩, x, hx => by
    rcases List.mem_cons.1 hx with rfl | hx
    · exact ⟨h1, h2, h3⟩
    · have := y7s h4 x hx; omega
theorem y9y {w : Nat} (hw : w ≤ 1000000) : ∀ t : zD, Wn t → 0 ≤ t.From → t.From ≤ t.To → t.To ≤ 1000000 → z0s t ≤ 1000000 → uR t (w : Int) = some (mv (w : Int) t) := by
  intro t
  induction t using zD.ind with
  | h t ih =>
    intro hn h0 h1 h2 hs
    obtain ⟨_, c1, c2⟩ := hn
    have hlen := z4v t.L
    have hts := z3P t
    have loop : ∀ (k i : Nat) (o : zD), i + k = t.L.length → vS (w : Int) (mvs (w : Int) (t.L.take i)) (i : Int) t o = some (mv (w : Int) t) := by
      intro k
      induction k with
      | zero =>
        intro i o hi
        rw [z6b]; unfold z0K
        rw [if_neg (by omega), z2h (by omega) (by omega), z2h (by omega) (by omega), List.take_of_length_le (by omega), y9A]
      | succ k ihk =>
        intro i o hi
        have hlt : i < t.L.length := by omega
        have ht := z4K t.L i
        have hd := z4J hlt
        have hm := List.getElem_mem hlt
        have g := y7s c1 _ hm
        rw [z6b]; unfold z0K
        rw [if_pos (by omega), z2r hlt, zA, ih _ hm (c2 _ hm) (by omega) g.2.1 (by omega) (by omega), zA, if_pos (by unfold z2N; rw [y0r]; simp; omega), z2h (by omega) (by omega), z1x, ← y9B hlt]
        exact ihk (i + 1) o (by omega)
    rw [y3O]; unfold z2T
    have := loop t.L.length 0 (zD.mk 0 0 ([] : List UInt8) [] 0 0) (by omega)
    simpa [mvs] using this
theorem v0z (r s : List zB) (e : zB) : MT (r ++ [e]) (r ++ s) 0 0 r.length := by
  have g : ∀ i, i < r.length → zQ (r ++ s) (i + 0) = zQ (r ++ [e]) i := fun i hi => by
    unfold zQ
    rw [Nat.add_zero, List.getElem?_append_left hi, List.getElem?_append_left hi]
  exact ⟨fun i hi => by rw [g i hi], fun i hi => by rw [g i hi], fun i hi => by rw [g i hi], fun i hi => by rw [g i hi]; omega, fun i hi => by rw [g i hi]; omega⟩
theorem y9z (r s : List zB) (w : Int) (f : zB → zB) (hf : ∀ x, (f x).K = x.K ∧ (f x).N = x.N ∧ (f x).S = x.S ∧ (f x).From = x.From + w ∧ (f x).To = x.To + w) : MT s (r ++ s.map f) r.length w s.length := by
  have g : ∀ i, i < s.length → zQ (r ++ s.map f) (i + r.length) = f (zQ s i) := fun i hi => by
    unfold zQ
    rw [List.getElem?_append_right (by omega), Nat.add_sub_cancel, List.getElem?_map, List.getElem?_eq_getElem hi]; rfl
  exact ⟨fun i hi => by rw [g i hi]; exact (hf _).1, fun i hi => by rw [g i hi]; exact (hf _).2.1, fun i hi => by rw [g i hi]; exact (hf _).2.2.1, fun i hi => by rw [g i hi]; exact (hf _).2.2.2.1, fun i hi => by rw [g i hi]; exact (hf _).2.2.2.2⟩
mutual
def ht : zD → Nat
  | ⟨_, _, _, L, _, _⟩ => 1 + hts L
def hts : List zD → Nat
  | [] => 0
  | x :: r => max (ht x) (hts r)
end
theorem y6P (t : zD) : ht t = 1 + hts t.L := by cases t; simp [ht]
theorem v0t (a b : List zD) : hts (a ++ b) = max (hts a) (hts b) := by
  induction a with
  | nil => simp [hts]
  | cons x r ih => simp [hts, ih, Nat.max_assoc]
theorem v1r (w : Int) : ∀ t : zD, ht (mv w t) = ht t := by
  intro t
  induction t using zD.ind with
  | h t ih =>
    have : ∀ l : List zD, (∀ x ∈ l, ht (mv w x) = ht x) → hts (mvs w l) = hts l := by
      intro l
      induction l with
      | nil => intro _; simp [mvs]
      | cons x r ihr =>
        intro hh
        have h1 := hh x (by simp)
        have h2 := ihr (fun y hy => hh y (by simp [hy]))
        simp only [mvs, hts, h1, h2]
    rw [y9A, y6P, y6P]
    exact congrArg (1 + ·) (this t.L ih)
theorem y9T (w : Int) : ∀ l : List zD, hts (mvs w l) = hts l
  | [] => by simp [mvs]
  | x :: r => by simp only [mvs, hts, v1r, y9T w r]
theorem y9l {l : List zD} {i : Nat} (h : i < l.length) : hts (l.drop i) = max (ht l[i]) (hts (l.drop (i + 1))) := by
  rw [List.drop_eq_getElem_cons h]; simp [hts]
theorem v0N : ∀ t : zD, z0s t ≤ 1000000 → ∀ (path : List Int) (s d : Int), path.length + z0s t ≤ 1000000 → ∃ s', zX t path s d = some (s', max d ((path.length + ht t : Nat) : Int)) := by
  intro t
  induction t using zD.ind with
  | h t ih =>
    intro hs path s d hp
    have hlen := z4v t.L
    have hts' := z3P t
    have loop : ∀ (k i : Nat) (s d : Int), i + k = t.L.length → ((path.length + 1 : Nat) : Int) ≤ d → ∃ s', zN path t.L (t.L.length : Int) (i : Int) s d = some (s', max d ((path.length + 1 + hts (t.L.drop i) : Nat) : Int)) := by
      intro k
      induction k with
      | zero =>
        intro i s d hi hd
        rw [vY]; unfold wI
        rw [if_neg (by omega), List.drop_eq_nil_of_le (by omega)]
        exact ⟨s, by congr 2; simp only [hts]; rw [Int.max_def]; split <;> omega⟩
      | succ k ihk =>
        intro i s d hi hd
        have hlt : i < t.L.length := by omega
        have ht := z4K t.L i
        have hdd := z4J hlt
        rw [vY]; unfold wI
        rw [if_pos (by omega), z2r hlt, zA, if_pos (by omega), if_pos (by simp), if_pos (by omega), if_pos rfl, if_pos (by omega)]
        rw [if_pos (by unfold z2N; simp; omega)]
        have hpl : (List.drop 0 (List.take (Int.toNat (List.length path : Int)) path) ++ [(i : Int)]).length = path.length + 1 := by simp
        obtain ⟨s1, g1⟩ := ih _ (List.getElem_mem hlt) (by omega) (List.drop 0 (List.take (Int.toNat (List.length path : Int)) path) ++ [(i : Int)]) s d (by rw [hpl]; omega)
        rw [g1, zA, z2h (by omega) (by omega), z1x, hpl]
        obtain ⟨s2, g2⟩ := ihk (i + 1) s1 (max d ((path.length + 1 + Go.Proofs.Ytelddjedpmfclaa.M.ht t.L[i] : Nat) : Int)) (by omega) (by rw [Int.max_def]; split <;> omega)
        refine ⟨s2, ?_⟩
        dsimp only
        rw [g2, y9l hlt]
        congr 2
        simp only [Int.max_def, Nat.max_def]; (repeat' split) <;> omega
    rw [z0k]; unfold jU z2B
    rw [zA, z2h (n := (List.length path : Int) + 1) (by omega) (by omega)]
    obtain ⟨s2, g2⟩ := loop t.L.length 0 (IntKind.wrap .i64 (s + 1)) (max d ((List.length path : Int) + 1)) (by omega) (by rw [Int.max_def]; split <;> omega)
    refine ⟨s2, ?_⟩
    have g2' : zN path t.L (List.length t.L : Int) 0 (IntKind.wrap .i64 (s + 1)) (max d ((List.length path : Int) + 1)) = _ := g2
    dsimp only
    rw [g2', y6P]
    congr 2
    simp only [Int.max_def, List.drop_zero]; (repeat' split) <;> omega
theorem y5P {t : zD} (h : z0s t ≤ 1000000) : z2U t = some (ht t : Int) := by
  unfold z2U
  obtain ⟨s, e⟩ := v0N t h [] 0 0 (by simpa using h)
  rw [e, zA]
  simp only [List.length_nil, Nat.zero_add]
  rw [Int.max_def, if_pos (by omega)]
inductive Dl (t : List zB) (n : Nat) (T : Int) : Nat → List zD → List zD → Prop
  | nil (L : List zD) : Dl t n T n L []
  | cons {a b : Nat} {L : List zD} {x : zD} {l : List zD} : a < b → b ≤ n → jV t (a : Int) 0 36 0 [] L 0 T = some (x, t, (b : Int), 0, 36, 0, [], L, 0, T) → Dl t n T b (L ++ [x]) l → Dl t n T a L (x :: l)
section
variable {t : List zB} {n : Nat} (tk : Tk t n) (T : Int)
include tk
theorem y9E (hn : n ≤ 2400) (hk : ∀ i, i < n → (zQ t i).K ≠ 5) (o2 : zD) : ∀ (k a : Nat) (L : List zD), n < a + k → a ≤ n → LL 0 t 0 a L →
    ∃ m q e, yZ o2 t (a : Int) 0 36 0 [] L 0 T = some (m, q, e) ∧ (e = 0 → ∃ l, m = ⟨36, 0, [], L ++ l, 0, T⟩ ∧ Dl t n T a L l ∧ ht m ≤ 64 ∧ wR (L ++ l) ≤ 400 * n) := by
  intro k
  induction k with
  | zero => intro a L h1 h2; omega
  | succ k ih =>
    intro a L h1 h2 hl
    obtain ⟨c1, c2, c3⟩ := hl
    have hlen := tk.len
    rw [z0X]; unfold gJ
    rw [tk.idx h2, zA]
    by_cases h5 : (zQ t a).K = 5
    · have han : a = n := by
        by_cases h : a = n
        · exact h
        · exact absurd h5 (hk a (by omega))
      subst han
      rw [if_pos h5]
      by_cases h6 : (List.length L : Int) > 64
      · rw [if_pos h6]; exact ⟨_, _, _, rfl, fun g => absurd g (by decide)⟩
      · rw [if_neg h6]
        have hs : z0s ⟨36, 0, [], L, 0, T⟩ = 1 + wR L := z3P _
        rw [y5P (by rw [hs]; omega), zA]
        by_cases h7 : (ht ⟨36, 0, [], L, 0, T⟩ : Int) > 64
        · rw [if_pos h7]; exact ⟨_, _, _, rfl, fun g => absurd g (by decide)⟩
        · rw [if_neg h7]
          exact ⟨_, _, _, rfl, fun _ => ⟨[], by rw [List.append_nil], .nil L, by omega, by rw [List.append_nil]; omega⟩⟩
    · rw [if_neg h5]
      obtain ⟨x, b, e', h3, l3, m3, P3⟩ := y7t tk 36 0 [] L 0 T 0 h2
      rw [h3, zA]; dsimp only
      by_cases h8 : e' = 0
      · obtain ⟨-, g⟩ := P3 h8
        have hlt := g.2.2
        subst h8
        rw [if_pos rfl, if_pos (y9I tk ⟨c1, c2, c3⟩ h2)]
        obtain ⟨m, q, e, e1, e2⟩ := ih b (L ++ [x]) (by omega) m3 (LL.snoc tk ⟨c1, c2, c3⟩ g m3)
        refine ⟨m, q, e, e1, fun h => ?_⟩
        obtain ⟨l, f1, f2, f3, f4⟩ := e2 h
        exact ⟨x :: l, by rw [f1, List.append_assoc]; rfl, .cons hlt m3 h3 f2, f3, by rw [List.append_assoc] at f4; exact f4⟩
      · rw [if_neg h8, tk.idx m3, zA]
        exact ⟨_, _, _, rfl, fun g => absurd g h8⟩
end
section
variable {t t' : List zB} {n n' d : Nat} {w : Int} (tk : Tk t n) (tk' : Tk t' n') (h : MT t t' d w n) (hd : n + d ≤ n') (T T' : Int)
include tk tk' h hd
theorem y9Y (hk : ∀ i, i < n → (zQ t i).K ≠ 5) (o : zD) {a : Nat} {L l : List zD} (hl : Dl t n T a L l) : a ≤ n → ∀ L' : List zD, L'.length + l.length ≤ 64 →
    yZ o t' ((a + d : Nat) : Int) 0 36 0 [] L' 0 T' = yZ o t' ((n + d : Nat) : Int) 0 36 0 [] (L' ++ mvs w l) 0 T' := by
  induction hl with
  | nil L => intro _ L' _; simp [mvs]
  | @cons a b L x l h1 h2 h3 h4 ih =>
    intro ha L' hL
    simp only [List.length_cons] at hL
    have g := v0p tk tk' h (Nat.le_refl n) hd 36 0 [] L 0 T 36 0 [] L' 0 T' (a := a) (b := b) (by omega) h2 h3
    have e := ih h2 (L' ++ [mv w x]) (by simp; omega)
    rw [show L' ++ mvs w (x :: l) = (L' ++ [mv w x]) ++ mvs w l by simp [mvs], ← e]
    conv => lhs; rw [z0X]
    unfold gJ
    rw [tk'.idx (show a + d ≤ n' by omega), zA, if_neg (by rw [h.K a (by omega)]; exact hk a (by omega)), g, zA]
    dsimp only
    rw [if_pos rfl, if_pos (by unfold z2N; simp; omega)]
end
theorem MT.sub {t t' : List zB} {d B B' : Nat} {w : Int} (h : MT t t' d w B) (hb : B' ≤ B) : MT t t' d w B' :=
  ⟨fun i hi => h.K i (by omega), fun i hi => h.N i (by omega), fun i hi => h.S i (by omega), fun i hi => h.F i (by omega), fun i hi => h.T i (by omega)⟩
theorem v0A : ∀ t : zD, mv 0 t = t := by
  intro t
  induction t using zD.ind with
  | h t ih =>
    have : ∀ l : List zD, (∀ x ∈ l, mv 0 x = x) → mvs 0 l = l := by
      intro l
      induction l with
      | nil => intro _; simp [mvs]
      | cons x r ihr =>
        intro hh
        simp only [mvs, hh x (by simp), ihr (fun y hy => hh y (by simp [hy]))]
    rw [y9A, this t.L ih]
    cases t; simp
theorem y6n : ∀ l : List zD, mvs 0 l = l
  | [] => by simp [mvs]
  | x :: r => by simp only [mvs, v0A, y6n r]
theorem y8e {t : List zB} {n : Nat} (tk : Tk t n) (o : zD) (L : List zD) (T : Int) (h1 : L.length ≤ 64) (h2 : wR L + 1 ≤ 1000000) (h3 : hts L < 64) :
    yZ o t (n : Int) 0 36 0 [] L 0 T = some (⟨36, 0, [], L, 0, T⟩, 0, 0) := by
  rw [z0X]; unfold gJ
  have hs : z0s ⟨36, 0, [], L, 0, T⟩ = 1 + wR L := z3P _
  have hh : ht ⟨36, 0, [], L, 0, T⟩ = 1 + hts L := y6P _
  rw [tk.idx (Nat.le_refl n), zA, if_pos tk.lst, if_neg (by omega), y5P (by rw [hs]; omega), zA, hh, if_neg (by omega)]
theorem y6x (w : Int) : ∀ t : zD, z0s (mv w t) = z0s t := by
  intro t
  induction t using zD.ind with
  | h t ih =>
    have : ∀ l : List zD, (∀ x ∈ l, z0s (mv w x) = z0s x) → wR (mvs w l) = wR l := by
      intro l
      induction l with
      | nil => intro _; simp [mvs]
      | cons x r ihr =>
        intro hh
        have h1 := hh x (by simp)
        have h2 := ihr (fun y hy => hh y (by simp [hy]))
        simp only [mvs, wR, h1, h2]
    rw [y9A, z3P, z3P]
    exact congrArg (1 + ·) (this t.L ih)
theorem y5b (w : Int) : ∀ l : List zD, wR (mvs w l) = wR l
  | [] => by simp [mvs]
  | x :: r => by simp only [mvs, wR, y6x, y5b w r]
theorem y8a (w : Int) : ∀ (l : List zD) (i : Nat), (mvs w l)[i]? = l[i]?.map (mv w)
  | [], i => by simp [mvs]
  | x :: r, 0 => by simp [mvs]
  | x :: r, i + 1 => by simp [mvs, y8a w r i]
theorem y6y (p : UInt8 → Bool) (h : p 10 = false) : ∀ (l b : List UInt8), tw p (l ++ 10 :: b) = tw p l
  | [], b => by simp [tw, h]
  | c :: r, b => by
    simp only [List.cons_append, tw]
    rw [y6y p h r b]
theorem v0B (c : UInt8) (r b : List UInt8) : one (c :: r ++ 10 :: b) = one (c :: r) := by
  have em : mor 10 = false := rfl
  have ed : dgt 10 = false := rfl
  have tk : ∀ n, n ≤ (c :: r).length → (c :: (r ++ 10 :: b)).take n = (c :: r).take n := fun n hn => by
    rw [← List.cons_append, List.take_append_of_le_length hn]
  have sg : sgn c.toNat (hd0 (r ++ 10 :: b)) = sgn c.toNat (hd0 r) := by
    cases r with
    | nil =>
      show sgn c.toNat 10 = sgn c.toNat 0
      unfold sgn
      split
      · rfl
      · split
        · rw [if_neg (by omega), if_neg (by omega)]
        · rfl
    | cons d r => rfl
  rw [List.cons_append, one, one]
  have t1 := y6y mor em (c :: r) b
  have t2 := y6y dgt ed (c :: r) b
  rw [List.cons_append] at t1 t2
  rw [t1, t2, sg, tk _ (y3W mor (c :: r)), tk _ (y3W dgt (c :: r)), tk _ (y5I c r)]
theorem y9j (n : Nat) (hn : n ≠ 10) (l b : List UInt8) : y5g n (l ++ 10 :: b) = y5g n l := by
  cases l with
  | nil => simp [y5g]; omega
  | cons c r => rfl
theorem z9H : ∀ (n m : Nat) (l : List UInt8), l.length ≤ n → l.length ≤ m → nxt n l = nxt m l
  | 0, m, l, h1, h2 => by
    have : l = [] := List.length_eq_zero_iff.1 (by omega)
    subst this; cases m <;> rfl
  | n + 1, 0, l, h1, h2 => by
    have : l = [] := List.length_eq_zero_iff.1 (by omega)
    subst this; rfl
  | n + 1, m + 1, [], h1, h2 => rfl
  | n + 1, m + 1, c :: r, h1, h2 => by
    simp only [List.length_cons] at h1 h2
    rw [nxt, nxt]
    by_cases hb : blk c = true
    · rw [if_pos hb, if_pos hb, z9H n m r (by omega) (by omega)]
    · rw [if_neg hb, if_neg hb]
      by_cases hc : c.toNat = 47 ∧ y5g 47 r = true
      · rw [if_pos hc, if_pos hc]
        have hl : lin c = true := by unfold lin; simp [hc.1]
        have ht : 1 ≤ tw lin (c :: r) := by rw [tw, if_pos hl]; omega
        rw [z9H n m ((c :: r).drop (tw lin (c :: r))) (by rw [List.length_drop, List.length_cons]; omega) (by rw [List.length_drop, List.length_cons]; omega)]
      · rw [if_neg hc, if_neg hc]
theorem y3M : ∀ (n : Nat) (l b : List UInt8), l.length + 1 + b.length ≤ n → nxt n (l ++ 10 :: b) = if nxt n l = l.length then l.length + 1 + nxt n b else nxt n l
  | 0, l, b, h => by omega
  | n + 1, [], b, h => by
    simp only [List.length_nil] at h
    rw [show nxt (n + 1) [] = 0 from rfl, if_pos (show (0 : Nat) = ([] : List UInt8).length from rfl)]
    show nxt (n + 1) (10 :: b) = _
    rw [nxt, if_pos (by rfl), z9H n (n + 1) b (by omega) (by omega)]; simp; omega
  | n + 1, c :: r, b, h => by
    simp only [List.length_cons] at h ⊢
    rw [List.cons_append, nxt, nxt]
    by_cases hb : blk c = true
    · rw [if_pos hb, if_pos hb, y3M n r b (by omega), z9H n (n + 1) b (by omega) (by omega)]
      split <;> split <;> omega
    · rw [if_neg hb, if_neg hb, y9j 47 (by decide)]
      by_cases hc : c.toNat = 47 ∧ y5g 47 r = true
      · rw [if_pos hc, if_pos hc]
        have hl : lin c = true := by unfold lin; simp [hc.1]
        have ht : 1 ≤ tw lin (c :: r) := by rw [tw, if_pos hl]; omega
        have hle := y3W lin (c :: r)
        have e := y6y lin rfl (c :: r) b
        rw [List.cons_append] at e
        rw [e, ← List.cons_append, List.drop_append_of_le_length hle, y3M n ((c :: r).drop (tw lin (c :: r))) b (by rw [List.length_drop, List.length_cons]; omega), z9H n (n + 1) b (by omega) (by omega)]
        have hd : ((c :: r).drop (tw lin (c :: r))).length = r.length + 1 - tw lin (c :: r) := by rw [List.length_drop, List.length_cons]
        rw [hd]
        simp only [List.length_cons] at hle
        split <;> split <;> omega
      · rw [if_neg hc, if_neg hc, if_neg (by omega)]
def mvK (w : Int) (x : zB) : zB := ⟨x.K, x.N, x.S, x.From + w, x.To + w⟩
theorem z9P (n : Nat) (c : UInt8) (r : List UInt8) (p : Nat) (out : List zB) : z7z (n + 1) (c :: r) p out = match one (c :: r) with
    | .inl e => ([], (p : Int), e)
    | .inr (k, m, t, l) => z7z n (((c :: r).drop l).drop (nxt 10000 ((c :: r).drop l))) (p + l + nxt 10000 ((c :: r).drop l)) (out ++ [⟨k, m, t, p, ((p + l : Nat) : Int)⟩]) := by
  rw [z7z]
  cases one (c :: r) <;> rfl
theorem y4X (w : Nat) : ∀ (n m : Nat) (s : List UInt8) (p : Nat) (out out' : List zB), s.length < n → s.length < m → (z7z n s p out).2.2 = 0 → (∃ e, one s = .inl e → False) ∨ True →
    ∃ r, z7z n s p out = (out ++ r, 0, 0) ∧ z7z m s (p + w) out' = (out' ++ r.map (mvK (w : Int)), 0, 0)
  | 0, m, s, p, out, out', h1, h2, h, _ => by omega
  | n + 1, 0, s, p, out, out', h1, h2, h, _ => by omega
  | n + 1, m + 1, [], p, out, out', h1, h2, h, _ => by
    refine ⟨[⟨5, 0, [], p, p⟩], rfl, ?_⟩
    rw [z7z]
    simp only [List.map_cons, List.map_nil, mvK]
    rw [show ((p + w : Nat) : Int) = (p : Int) + (w : Int) by omega]
  | n + 1, m + 1, c :: r, p, out, out', h1, h2, h, _ => by
    rw [z9P] at h ⊢
    rw [z9P]
    cases ho : one (c :: r) with
    | inl e =>
      rw [ho] at h
      exfalso
      have he2 : e = 0 := h
      rw [one] at ho
      subst he2
      revert ho
      repeat' split
      all_goals (intro ho; first | (injection ho with ho; omega) | cases ho)
    | inr q =>
      obtain ⟨k, m', t, l⟩ := q
      rw [ho] at h
      dsimp only at h ⊢
      have hlen := y2j ho
      have hle := z5B 10000 ((c :: r).drop l)
      rw [List.length_drop] at hle
      obtain ⟨r', e1, e2⟩ := y4X w n m _ _ _ (out' ++ [⟨k, m', t, ((p + w : Nat) : Int), ((p + w + l : Nat) : Int)⟩]) (by rw [List.length_drop, List.length_drop]; omega) (by rw [List.length_drop, List.length_drop]; omega) h (.inr trivial)
      refine ⟨⟨k, m', t, p, ((p + l : Nat) : Int)⟩ :: r', by rw [e1]; simp, ?_⟩
      rw [show p + w + l + nxt 10000 ((c :: r).drop l) = p + l + nxt 10000 ((c :: r).drop l) + w by omega, e2]
      simp only [List.map_cons, mvK, List.append_assoc, List.singleton_append, Prod.mk.injEq, and_true, List.append_cancel_left_eq, List.cons.injEq, zB.mk.injEq, true_and]
      omega
theorem y8G (A b : List UInt8) (hA : A.length + 1 + b.length ≤ 8192) : ∀ (n m p : Nat) (out : List zB), A.length < p + n → A.length + 1 + b.length < p + m → p < A.length → (z7z n (A.drop p) p out).2.2 = 0 →
    ∃ r, (z7z n (A.drop p) p out).1 = out ++ r ++ [⟨5, 0, [], A.length, A.length⟩] ∧ ∃ m2, b.length < nxt 10000 b + m2 ∧ z7z m ((A ++ 10 :: b).drop p) p out = z7z m2 (b.drop (nxt 10000 b)) (A.length + 1 + nxt 10000 b) (out ++ r) := by
  intro n
  induction n with
  | zero => intro m p out h1 h2 h3; omega
  | succ n ih =>
    intro m p out h1 h2 h3 he
    cases m with
    | zero => omega
    | succ m =>
      have hd := List.drop_eq_getElem_cons h3
      have hj : (A ++ 10 :: b).drop p = A[p] :: A.drop (p + 1) ++ 10 :: b := by rw [List.drop_append_of_le_length (by omega), hd]
      rw [hd, z9P] at he ⊢
      rw [hj, List.cons_append, z9P, ← List.cons_append, v0B]
      cases ho : one (A[p] :: A.drop (p + 1)) with
      | inl e =>
        rw [ho] at he
        exfalso
        have he2 : e = 0 := he
        rw [one] at ho
        subst he2
        revert ho
        repeat' split
        all_goals (intro ho; first | (injection ho with ho; omega) | cases ho)
      | inr q =>
        obtain ⟨k, m', t, l⟩ := q
        rw [ho] at he
        dsimp only at he ⊢
        have hlen := y2j ho
        rw [← hd, List.length_drop] at hlen
        rw [← hd] at he ⊢
        have e1 : (A.drop p ++ 10 :: b).drop l = (A.drop p).drop l ++ 10 :: b := List.drop_append_of_le_length (by rw [List.length_drop]; omega)
        have e2 : (A.drop p).drop l = A.drop (p + l) := List.drop_drop ..
        have hl2 : (A.drop (p + l)).length = A.length - (p + l) := List.length_drop
        have hle := z5B 10000 (A.drop (p + l))
        have hnb := z5B 10000 b
        have hn := y3M 10000 (A.drop (p + l)) b (by rw [hl2]; omega)
        rw [e1, e2, hn]
        rw [e2, List.drop_drop (l := A)] at he
        rw [List.drop_drop (l := A)]
        by_cases hz : nxt 10000 (A.drop (p + l)) = (A.drop (p + l)).length
        · rw [if_pos hz]
          have hp : p + l + nxt 10000 (A.drop (p + l)) = A.length := by omega
          rw [hp, List.drop_eq_nil_of_le (as := A) (by omega)]
          cases n with
          | zero => omega
          | succ n =>
            refine ⟨[⟨k, m', t, p, ((p + l : Nat) : Int)⟩], by rw [z7z], m, by omega, ?_⟩
            rw [List.drop_append, List.drop_eq_nil_of_le (by omega), List.nil_append, hl2, show A.length - (p + l) + 1 + nxt 10000 b - (A.length - (p + l)) = nxt 10000 b + 1 by omega, List.drop_succ_cons, show p + l + (A.length - (p + l) + 1 + nxt 10000 b) = A.length + 1 + nxt 10000 b by omega]
        · rw [if_neg hz]
          obtain ⟨r, g1, m2, g2, g3⟩ := ih m (p + l + nxt 10000 (A.drop (p + l))) (out ++ [⟨k, m', t, p, ((p + l : Nat) : Int)⟩]) (by omega) (by omega) (by omega) he
          refine ⟨⟨k, m', t, p, ((p + l : Nat) : Int)⟩ :: r, by rw [g1]; simp, m2, g2, ?_⟩
          have e3 : (A.drop (p + l) ++ 10 :: b).drop (nxt 10000 (A.drop (p + l))) = (A ++ 10 :: b).drop (p + l + nxt 10000 (A.drop (p + l))) := by
            rw [List.drop_append_of_le_length hle, List.drop_append_of_le_length (l₁ := A) (by omega), List.drop_drop]
          rw [e3, g3]
          simp
theorem y6Z {A b : List UInt8} (hA : A.length ≤ 1000) (hb : b.length ≤ 1000) (h1 : (z2a A).2.2 = 0) (h2 : (z2a b).2.2 = 0) :
    ∃ r, (z2a A).1 = r ++ [⟨5, 0, [], A.length, A.length⟩] ∧ z2a (A ++ [10] ++ b) = (r ++ (z2a b).1.map (mvK ((A.length + 1 : Nat) : Int)), 0, 0) := by
  have hj : A ++ [10] ++ b = A ++ 10 :: b := by simp
  have hjl : (A ++ 10 :: b).length = A.length + 1 + b.length := by simp; omega
  unfold z2a at h1 h2 ⊢
  rw [hj, if_neg (show ¬ A.length > 8192 by omega), if_neg (show ¬ (A ++ 10 :: b).length > 8192 by rw [hjl]; omega), if_neg (show ¬ b.length > 8192 by omega)]
  rw [if_neg (by omega)] at h1 h2
  have hz := z5B 10000 A
  have hnb := z5B 10000 b
  have hn := y3M 10000 A b (by omega)
  rw [hn]
  have mvb : ∀ m out', b.length < nxt 10000 b + m → z7z m (b.drop (nxt 10000 b)) (A.length + 1 + nxt 10000 b) out' = (out' ++ (z7z 10000 (b.drop (nxt 10000 b)) (nxt 10000 b) []).1.map (mvK ((A.length + 1 : Nat) : Int)), 0, 0) := fun m out' hm => by
    obtain ⟨r, e1, e2⟩ := y4X (A.length + 1) 10000 m (b.drop (nxt 10000 b)) (nxt 10000 b) [] out' (by rw [List.length_drop]; omega) (by rw [List.length_drop]; omega) h2 (.inr trivial)
    rw [show A.length + 1 + nxt 10000 b = nxt 10000 b + (A.length + 1) by omega, e2, e1, List.nil_append]
  by_cases hc : nxt 10000 A = A.length
  · rw [if_pos hc, hc, List.drop_eq_nil_of_le (Nat.le_refl _)]
    refine ⟨[], rfl, ?_⟩
    have e : (A ++ 10 :: b).drop (A.length + 1 + nxt 10000 b) = b.drop (nxt 10000 b) := by
      rw [List.drop_append, List.drop_eq_nil_of_le (by omega), List.nil_append, show A.length + 1 + nxt 10000 b - A.length = nxt 10000 b + 1 by omega, List.drop_succ_cons]
    rw [e, mvb 10000 [] (by omega)]
  · rw [if_neg hc]
    obtain ⟨r, g1, m2, g2, g3⟩ := y8G A b (by omega) 10000 10000 (nxt 10000 A) [] (by omega) (by omega) (by omega) h1
    refine ⟨r, by rw [g1]; simp, ?_⟩
    rw [g3, mvb m2 _ g2]; simp
theorem y2n (n : Nat) : ∀ t : zD, z0s t ≤ n → (n : Int) ≤ 9223372036854775807 → wO t t = some true := by
  intro t
  induction t using zD.ind with
  | h t ih =>
    intro hs hn
    have hlen := z4v t.L
    rw [z3P] at hs
    have loop : ∀ (k i : Nat), i + k = t.L.length → vK i t t = some true := by
      intro k
      induction k with
      | zero =>
        intro i hi
        rw [z5C]; unfold z0B
        rw [if_neg (by omega)]
      | succ k ihk =>
        intro i hi
        rw [z5C]; unfold z0B
        have hd := z4J (show i < t.L.length by omega)
        have ht := z4K t.L i
        have e := ih _ (List.getElem_mem (show i < t.L.length by omega)) (by omega) hn
        rw [if_pos (by omega), z2r (show i < t.L.length by omega), zA, zA, e, zA, if_pos rfl, z2h (by omega) (by omega), z1x]
        exact ihk (i + 1) (by omega)
    rw [y2L]; unfold z2o
    simp only [if_true]
    exact loop t.L.length 0 (by omega)
theorem z6X : ∀ {l : List zB} {a : Nat}, Ord a l → 0 < l.length ∧ (zQ l (l.length - 1)).K = 5 ∧ ∀ i, i < l.length - 1 → (zQ l i).K ≠ 5
  | [], a, h => h.elim
  | x :: r, a, ⟨f, t, h1, h2, h3, h4, h5⟩ => by
    rcases h5 with ⟨rfl, h⟩ | ⟨h0, h5⟩
    · exact ⟨by simp, h, fun i hi => by simp at hi⟩
    · obtain ⟨g1, g2, g3⟩ := z6X h5
      refine ⟨by simp, ?_, fun i hi => ?_⟩
      · have : (x :: r).length - 1 = (r.length - 1) + 1 := by simp; omega
        rw [this]; exact g2
      · cases i with
        | zero => exact h0
        | succ i => exact g3 i (by simp at hi; omega)
theorem y1k {x : Str} (h : (z2a x).2.2 = 0) (hx : x.length ≤ 4100) : Tk (z2a x).1 ((z2a x).1.length - 1) := by
  have ho := z5A h
  obtain ⟨-, hm⟩ := y5B ho
  obtain ⟨hpos, hk, -⟩ := z6X ho
  have := (y6i h).1
  exact ⟨hm, by omega, hk, by omega⟩
theorem y4S (x : Str) (hx : x.length ≤ 1000) : ∃ m q e, z1z x = some (m, q, e) ∧ (e = 0 → (z2a x).2.2 = 0 ∧ ∃ l, m = ⟨36, 0, [], l, 0, (x.length : Int)⟩ ∧ Dl (z2a x).1 ((z2a x).1.length - 1) (x.length : Int) 0 [] l ∧ ht m ≤ 64 ∧ wR l ≤ 401000 ∧ Wn m) := by
  unfold z1z
  rw [y2C x (by omega), zA]
  by_cases h2 : (z2a x).2.2 = 0
  · rw [if_pos h2]
    have tk := y1k h2 (by omega)
    obtain ⟨g1, g2⟩ := y6i h2
    have hl := tk.len
    have h0 := (y5B (z5A h2)).1 0 (by omega)
    obtain ⟨m, q, e, e1, e2⟩ := y7Z tk 0 [] (List.length x : Int) (by omega) (by simpa using h0) (fun i hi => by
        have hlt : i < (z2a x).1.length := by omega
        have : zQ (z2a x).1 i = (z2a x).1[i] := by unfold zQ; rw [List.getElem?_eq_getElem hlt]; rfl
        rw [this]; exact g2 _ (List.getElem_mem hlt)) (zD.mk 0 0 ([] : List UInt8) [] 0 0) ((z2a x).1.length) 0 [] (by omega) (by omega) (LL.nil (by omega))
    obtain ⟨m', q', e', e1', e2'⟩ := y9E tk (List.length x : Int) (by omega) (z6X (z5A h2)).2.2 (zD.mk 0 0 ([] : List UInt8) [] 0 0) ((z2a x).1.length) 0 [] (by omega) (by omega) (LL.nil (by omega))
    rw [e1] at e1'
    simp only [Option.some.injEq, Prod.mk.injEq] at e1'
    obtain ⟨rfl, rfl, rfl⟩ := e1'
    refine ⟨m, q, e, e1, fun h => ⟨h2, ?_⟩⟩
    obtain ⟨l, f1, f2, f3, f4⟩ := e2' h
    rw [List.nil_append] at f1 f4
    exact ⟨l, f1, f2, f3, by omega, (e2 h).1⟩
  · rw [if_neg h2]
    exact ⟨_, _, _, rfl, fun g => absurd g h2⟩
theorem y6Q {a : Str} {x y z : zD} {w : Nat} (hw : IntKind.wrap .i64 ((List.length a : Int) + 1) = (w : Int)) (hz : z.L = x.L ++ mvs (w : Int) y.L) (hn : x.L.length + y.L.length ≤ 64)
    (h1 : ∀ e ∈ x.L, wO e e = some true) (h2 : ∀ e ∈ y.L, uR e (w : Int) = some (mv (w : Int) e) ∧ wO (mv (w : Int) e) (mv (w : Int) e) = some true) : ∀ (k i : Nat), i + k = x.L.length + y.L.length → yI a (i : Int) x y z = some true := by
  have hzl : z.L.length = x.L.length + y.L.length := by rw [hz, List.length_append, y0r]
  intro k
  induction k with
  | zero =>
    intro i hi
    rw [z3Z]; unfold gD
    rw [if_neg (by omega), z2V]; rfl
  | succ k ih =>
    intro i hi
    rw [z3Z]; unfold gD
    rw [if_pos (by omega)]
    by_cases hx : i < x.L.length
    · have e : z.L[i]'(by omega) = x.L[i] := by simp only [hz]; exact List.getElem_append_left hx
      rw [if_pos (by omega), z2r (show i < z.L.length by omega), zA, z2r hx, zA, e, h1 _ (List.getElem_mem hx), zA, if_pos rfl, if_neg (by omega), z2h (by omega) (by omega), z1x]
      exact ih (i + 1) (by omega)
    · have hy : i - x.L.length < y.L.length := by omega
      have e : z.L[i]'(by omega) = mv (w : Int) (y.L[i - x.L.length]) := by
        have : z.L[i]? = some (mv (w : Int) (y.L[i - x.L.length])) := by
          rw [hz, List.getElem?_append_right (by omega), y8a, List.getElem?_eq_getElem hy]; rfl
        rw [List.getElem?_eq_getElem (show i < z.L.length by omega)] at this
        injection this
      obtain ⟨g1, g2⟩ := h2 _ (List.getElem_mem hy)
      rw [if_neg (by omega), if_pos (by omega), z2r (show i < z.L.length by omega), zA, z2h (n := (i : Int) - _) (by omega) (by omega), show (i : Int) - (x.L.length : Int) = ((i - x.L.length : Nat) : Int) by omega, z2r hy, zA, hw, g1, zA, e, g2, zA, if_pos rfl, z2h (by omega) (by omega), z1x]
      exact ih (i + 1) (by omega)
theorem y5d (x0 : Str) (x1 : Str) (w0 : x0.length ≤ 9223372036854775807) (w1 : x1.length ≤ 9223372036854775807) : z3O x0 x1 = some true := by
  unfold z3O
  by_cases c1 : (List.length x0 : Int) > 1000
  · rw [if_pos c1, z2V]; rfl
  by_cases c2 : (List.length x1 : Int) > 1000
  · rw [if_neg c1, if_pos c2, z2V]; rfl
  rw [if_neg c1, if_neg c2]
  obtain ⟨m, q, e, e1, e2⟩ := y4S x0 (by omega)
  obtain ⟨m', q', e', e1', e2'⟩ := y4S x1 (by omega)
  rw [e1, zA, e1', zA]
  dsimp only
  by_cases n3 : e ≠ 0
  · rw [if_neg n3, z2V]; rfl
  have c3 : e = 0 := by omega
  by_cases n4 : e' ≠ 0
  · rw [if_pos c3, if_neg n4, z2V]; rfl
  have c4 : e' = 0 := by omega
  obtain ⟨lx, l, rfl, dl, hh, hs, hw⟩ := e2 c3
  obtain ⟨lx', l', rfl, dl', hh', hs', hw'⟩ := e2' c4
  have hlen := z4v l
  have hlen' := z4v l'
  rw [if_pos c3, if_pos c4]
  dsimp only
  rw [z2h (by omega) (by omega)]
  by_cases c5 : (l.length : Int) + (l'.length : Int) > 64
  · rw [if_pos c5, z2V]; rfl
  rw [if_neg c5, if_pos (by simp; omega), if_pos (by simp; omega)]
  obtain ⟨r, j1, j2⟩ := y6Z (A := x0) (b := x1) (by omega) (by omega) lx lx'
  have jl : (x0 ++ [10] ++ x1).length = x0.length + 1 + x1.length := by simp; omega
  have tkz : Tk (z2a (x0 ++ [10] ++ x1)).1 ((z2a (x0 ++ [10] ++ x1)).1.length - 1) := y1k (by rw [j2]) (by rw [jl]; omega)
  rw [j2] at tkz
  dsimp only at tkz
  have tkx := y1k lx (by omega)
  have tky := y1k lx' (by omega)
  have kx := (z6X (z5A lx)).2.2
  have ky := (z6X (z5A lx')).2.2
  have py := (z6X (z5A lx')).1
  rw [j1] at tkx kx dl
  have nl : (r ++ [(⟨5, 0, [], (x0.length : Int), (x0.length : Int)⟩ : zB)]).length - 1 = r.length := by simp
  have nz : (r ++ List.map (mvK ((x0.length + 1 : Nat) : Int)) (z2a x1).1).length - 1 = (z2a x1).1.length - 1 + r.length := by simp; omega
  rw [nl] at tkx kx dl
  rw [nz] at tkz
  have ez : z1z (x0 ++ [10] ++ x1) = some (⟨36, 0, [], l ++ mvs ((x0.length + 1 : Nat) : Int) l', 0, ((x0 ++ [10] ++ x1).length : Int)⟩, 0, 0) := by
    unfold z1z
    rw [y2C _ (by rw [jl]; omega), j2, zA, if_pos rfl]
    dsimp only
    have m1 := v0z r (List.map (mvK ((x0.length + 1 : Nat) : Int)) (z2a x1).1) ⟨5, 0, [], (x0.length : Int), (x0.length : Int)⟩
    have m2 := y9z r (z2a x1).1 ((x0.length + 1 : Nat) : Int) (mvK ((x0.length + 1 : Nat) : Int)) (fun x => ⟨rfl, rfl, rfl, rfl, rfl⟩)
    have r1 := y9Y tkx tkz m1 (by omega) (x0.length : Int) ((x0 ++ [10] ++ x1).length : Int) kx (zD.mk 0 0 ([] : List UInt8) [] 0 0) dl (by omega) [] (by simp; omega)
    have r2 := y9Y tky tkz (m2.sub (by omega)) (by omega) (x1.length : Int) ((x0 ++ [10] ++ x1).length : Int) ky (zD.mk 0 0 ([] : List UInt8) [] 0 0) dl' (by omega) l (by omega)
    rw [y6n, List.nil_append] at r1
    have r1' : yZ (zD.mk 0 0 ([] : List UInt8) [] 0 0) (r ++ List.map (mvK ((x0.length + 1 : Nat) : Int)) (z2a x1).1) 0 0 36 0 [] [] 0 ((x0 ++ [10] ++ x1).length : Int) = _ := r1
    rw [r1', show ((r.length + 0 : Nat) : Int) = ((0 + r.length : Nat) : Int) by omega, r2]
    have h3 : ht ⟨36, 0, [], l, 0, (x0.length : Int)⟩ = 1 + hts l := y6P _
    have h4 : ht ⟨36, 0, [], l', 0, (x1.length : Int)⟩ = 1 + hts l' := y6P _
    exact y8e tkz _ _ _ (by rw [List.length_append, y0r]; omega) (by rw [z5I, y5b]; omega) (by rw [v0t, y9T]; omega)
  rw [ez, zA]
  dsimp only
  rw [if_pos rfl, if_pos (by rw [List.length_append, y0r]; omega), if_pos rfl]
  have mem_sz : ∀ {l : List zD} {x : zD}, x ∈ l → z0s x ≤ wR l := fun {l x} hx => by
    obtain ⟨i, hi, rfl⟩ := List.getElem_of_mem hx
    have := z4J hi
    have := z4K l i
    omega
  obtain ⟨_, ch, wn⟩ := hw'
  refine y6Q (w := x0.length + 1) (by rw [z2h (by omega) (by omega)]; omega) rfl (by show l.length + l'.length ≤ 64; omega) (fun x hx => ?_) (fun y hy => ?_) (l.length + l'.length) 0 (by show 0 + (l.length + l'.length) = l.length + l'.length; omega)
  · have := mem_sz hx
    have hx' : x ∈ l := hx
    exact y2n 1000000 x (by have := mem_sz hx'; omega) (by omega)
  · have hy' : y ∈ l' := hy
    have s1 := mem_sz hy'
    have g := y7s ch y hy
    have g1 : (0 : Int) ≤ y.From := g.1
    have g2 : y.To ≤ (x1.length : Int) := g.2.2
    exact ⟨y9y (by omega) y (wn y hy) g1 g.2.1 (by omega) (by omega), y2n 1000000 _ (by rw [y6x]; omega) (by omega)⟩
end Go.Proofs.Ytelddjedpmfclaa.M

