/- The parts of what is read stand within it, in their order. -/
import Derived.Test.YtelddjedpmfclaaP07z
import Derived.Test.YtelddjedpmfclaaR05
namespace Go.Proofs.Ytelddjedpmfclaa.M
open Go Nt
set_option linter.unusedVariables false
set_option linter.unusedSimpArgs false
/-- terms one behind the other, from a place to another one -/
def Chn (q : Int) : Int → List Term → Prop
  | _, [] => True
  | p, x :: r => p ≤ x.From ∧ x.From ≤ x.To ∧ x.To ≤ q ∧ Chn q x.To r
inductive Wn : Term → Prop
  | mk (t : Term) : Chn t.To t.From t.L → (∀ x ∈ t.L, Wn x) → Wn t
theorem Chn.mono {q q' : Int} (hq : q ≤ q') : ∀ {l : List Term} {p p' : Int}, p' ≤ p → Chn q p l → Chn q' p' l
  | [], _, _, _, _ => trivial
  | x :: r, p, p', hp, ⟨h1, h2, h3, h4⟩ => ⟨by omega, h2, by omega, Chn.mono hq (Int.le_refl _) h4⟩
theorem Chn.snoc {q : Int} {x : Term} (h1 : x.From ≤ x.To) (h2 : x.To ≤ q) : ∀ {l : List Term} {p q0 : Int}, Chn q0 p l → q0 ≤ x.From → p ≤ q0 → Chn q p (l ++ [x])
  | [], p, q0, _, h3, h4 => ⟨by omega, h1, h2, trivial⟩
  | y :: r, p, q0, ⟨g1, g2, g3, g4⟩, h3, h4 => ⟨g1, g2, by omega, Chn.snoc h1 h2 g4 h3 g3⟩
theorem within_ok : ∀ t : Term, Wn t → tsize t ≤ 1000000 → ref07Within t = some true := by
  intro t
  induction t using Term.ind with
  | h t ih =>
    intro hw hs
    obtain ⟨_, h1, h2⟩ := hw
    have hlen := tsizes_len t.L
    rw [tsize_eq] at hs
    have loop : ∀ (k i : Nat) (p : Int), i + k = t.L.length → Chn t.To p (t.L.drop i) → ref07Within_L3 p i t = some true := by
      intro k
      induction k with
      | zero =>
        intro i p hi _
        rw [ref07Within_L3_eq]; unfold ref07Within_L3_B
        rw [if_neg (by omega)]
      | succ k ihk =>
        intro i p hi hc
        have hlt : i < t.L.length := by omega
        rw [List.drop_eq_getElem_cons hlt] at hc
        obtain ⟨c1, c2, c3, c4⟩ := hc
        have ht := tsizes_take t.L i
        have hd := tsizes_drop hlt
        have e := ih _ (List.getElem_mem hlt) (h2 _ (List.getElem_mem hlt)) (by omega)
        rw [ref07Within_L3_eq]; unfold ref07Within_L3_B
        rw [if_pos (by omega), idx_lt hlt, some_bind, if_neg (by omega), some_bind, if_neg (by omega), some_bind, some_bind, if_neg (by omega), some_bind, e, some_bind, if_pos rfl, some_bind, wi_id (by omega) (by omega), succ_cast]
        exact ihk (i + 1) _ (by omega) c4
    rw [ref07Within_eq]; unfold ref07Within_B
    exact loop t.L.length 0 t.From (by omega) h1
/-- tokens in their order -/
def Mon (t : List Token) : Prop := ∀ i j, i ≤ j → j < t.length → (tokAt t i).From ≤ (tokAt t i).To ∧ (i < j → (tokAt t i).To ≤ (tokAt t j).From)
theorem ord_mon : ∀ {l : List Token} {a : Nat}, Ord a l → (∀ i, i < l.length → (a : Int) ≤ (tokAt l i).From) ∧ Mon l
  | [], a, h => h.elim
  | x :: r, a, ⟨f, t, h1, h2, h3, h4, h5⟩ => by
    have c0 : tokAt (x :: r) 0 = x := rfl
    have cs : ∀ i, tokAt (x :: r) (i + 1) = tokAt r i := fun i => rfl
    rcases h5 with ⟨rfl, -⟩ | ⟨-, h5⟩
    · refine ⟨fun i hi => ?_, fun i j hij hj => ?_⟩
      · have : i = 0 := by simpa using hi
        subst this; rw [c0]; omega
      · have : j = 0 := by simpa using hj
        have : i = 0 := by omega
        subst this; rw [c0]; exact ⟨by omega, fun h => by omega⟩
    · obtain ⟨g1, g2⟩ := ord_mon h5
      refine ⟨fun i hi => ?_, fun i j hij hj => ?_⟩
      · cases i with
        | zero => rw [c0]; omega
        | succ i => rw [cs]; have := g1 i (by simpa using hi); omega
      · cases i with
        | zero =>
          rw [c0]
          refine ⟨by omega, fun h => ?_⟩
          cases j with
          | zero => omega
          | succ j => rw [cs]; have := g1 j (by simpa using hj); omega
        | succ i =>
          cases j with
          | zero => omega
          | succ j => rw [cs, cs]; have := g2 i j (by omega) (by simpa using hj); exact ⟨this.1, fun h => this.2 (by omega)⟩
/-- a term of the tokens from one place to another -/
def Bt (t : List Token) (a b : Nat) (x : Term) : Prop := (tokAt t a).From ≤ x.From ∧ x.From ≤ x.To ∧ x.To ≤ (tokAt t (b - 1)).To ∧ Wn x
def BM (t : List Token) : Cat → Nat → Res → Prop
  | .ll _ _ f x, a, r => f < a → Bt t f a x → ∀ y b, r = .ok y b → Bt t f b y
  | .pl f x, a, r => f < a → Bt t f a x → ∀ y b, r = .ok y b → Bt t f b y
  | .cls _, a, r => ∀ y b, r = .ok y b → ∃ q : Int, Chn q (tokAt t a).From y.L ∧ q ≤ (tokAt t (b - 1)).To ∧ ∀ x ∈ y.L, Wn x
  | .lst acc, a, r => ∀ p q0 : Int, Chn q0 p acc → p ≤ q0 → q0 ≤ (tokAt t a).From → (∀ x ∈ acc, Wn x) → ∀ y b, r = .ok y b → Chn (tokAt t (b - 1)).To p y.L ∧ ∀ x ∈ y.L, Wn x
  | _, a, r => ∀ y b, r = .ok y b → Bt t a b y
theorem bt_of_der {t : List Token} (hm : Mon t) {c : Cat} {a : Nat} {r : Res} (h : Der t c a r) : a ≤ t.length → BM t c a r := by
  have le : ∀ {i j : Nat}, i ≤ j → j < t.length → (tokAt t i).From ≤ (tokAt t j).To ∧ (tokAt t i).From ≤ (tokAt t j).From ∧ (tokAt t i).To ≤ (tokAt t j).To := fun {i j} h1 h2 => by
    have q1 := hm i j h1 h2
    have q2 := hm j j (Nat.le_refl _) h2
    by_cases e : i = j
    · subst e; omega
    · have := q1.2 (by omega); omega
  have lt : ∀ {i j : Nat}, i < j → j < t.length → (tokAt t i).To ≤ (tokAt t j).From := fun {i j} h1 h2 => (hm i j (by omega) h2).2 h1
  -- a term of parts
  have mk : ∀ {f b : Nat} {k n : Int} {s : Str} {l : List Term}, f < b → b ≤ t.length → Chn (tokAt t (b - 1)).To (tokAt t f).From l → (∀ x ∈ l, Wn x) → Bt t f b (placed t f b ⟨k, n, s, l, 0, 0⟩) := fun {f b k n s l} h1 h2 h3 h4 => by
    have := le (i := f) (j := b - 1) (by omega) (by omega)
    exact ⟨Int.le_refl _, this.1, Int.le_refl _, .mk _ h3 h4⟩
  induction h with
  | @un a b n x h1 hd ih =>
    intro ha y b' e; cases e
    have h0 : a < t.length := h1.elim (fun h => sgnAt_lt h.2) (fun h => sgnAt_lt h.2)
    have q := hd.inR (by omega); simp only [InR] at q
    obtain ⟨i1, i2, i3, i4⟩ := ih (by omega) x b rfl
    have := le (i := a) (j := a + 1) (by omega) (by omega)
    exact mk (by omega) q.2 ⟨by omega, i2, i3, trivial⟩ (by simpa using i4)
  | unP _ _ _ ih => exact ih
  | @lev k a b x r h1 h2 hd _ ih1 ih2 =>
    intro ha y c e
    have q := hd.inR ha; simp only [InR] at q
    exact ih2 q.2 q.1 (ih1 ha x b rfl) y c e
  | llE _ _ => intro ha hf hx y b e; cases e; exact hx
  | @llG k m f a b x y r h1 h2 h3 hd _ ih1 ih2 =>
    intro ha hf hx z c e
    have h0 := tokAt_lt (t := t) (a := a) (by rw [opOf_tok (by omega)]; decide)
    have q := hd.inR (by omega); simp only [InR] at q
    obtain ⟨i1, i2, i3, i4⟩ := ih1 (by omega) y b rfl
    obtain ⟨j1, j2, j3, j4⟩ := hx
    have g1 := lt (i := a - 1) (j := a + 1) (by omega) (by omega)
    have g2 := le (i := a - 1) (j := b - 1) (by omega) (by omega)
    exact ih2 q.2 (by omega) (mk (by omega) q.2 ⟨j1, j2, by omega, by omega, i2, i3, trivial⟩ (by simpa using ⟨j4, i4⟩)) z c e
  | @post a b x r hd _ ih1 ih2 =>
    intro ha y c e
    have q := hd.inR ha; simp only [InR] at q
    exact ih2 q.2 q.1 (ih1 ha x b rfl) y c e
  | plE _ _ => intro ha hf hx y b e; cases e; exact hx
  | @plI f a b x i r h1 hd h2 _ ih1 ih2 =>
    intro ha hf hx z c e
    have h0 := sgnAt_lt h1
    have hb := sgnAt_lt h2
    have q := hd.inR (by omega); simp only [InR] at q
    obtain ⟨i1, i2, i3, i4⟩ := ih1 (by omega) i b rfl
    obtain ⟨j1, j2, j3, j4⟩ := hx
    have g1 := lt (i := a - 1) (j := a + 1) (by omega) (by omega)
    have g2 := le (i := b - 1) (j := b) (by omega) (by omega)
    have g3 := le (i := a - 1) (j := b) (by omega) (by omega)
    exact ih2 (by omega) (by omega) (mk (by omega) (by omega) ⟨j1, j2, by show x.To ≤ (tokAt t b).To; omega, by omega, i2, by show i.To ≤ (tokAt t b).To; omega, trivial⟩ (by simpa using ⟨j4, i4⟩)) z c e
  | @plF f a x r h0 h1 h2 _ ih =>
    intro ha hf hx z c e
    have h3 := tokAt_lt (t := t) (a := a + 1) (by rw [h2]; decide)
    obtain ⟨j1, j2, j3, j4⟩ := hx
    have g3 := le (i := a - 1) (j := a + 1) (by omega) (by omega)
    exact ih (by omega) (by omega) (mk (by omega) (by omega) ⟨j1, j2, by show x.To ≤ (tokAt t (a + 1)).To; omega, trivial⟩ (by simpa using j4)) z c e
  | @one a k n s h1 =>
    intro ha y b e; cases e
    have h0 := atomK_lt (t := t) (a := a) (by rw [h1]; simp)
    exact mk (by omega) (by omega) trivial (by simp)
  | @par a b x h1 hd h2 ih =>
    intro ha y b' e; cases e
    have h0 := atomK_lt (t := t) (a := a) (by rw [h1]; simp)
    have hb := sgnAt_lt h2
    have q := hd.inR (by omega); simp only [InR] at q
    obtain ⟨i1, i2, i3, i4⟩ := ih (by omega) x b rfl
    have g1 := le (i := a) (j := a + 1) (by omega) (by omega)
    have g2 := le (i := b - 1) (j := b) (by omega) (by omega)
    exact ⟨by omega, i2, by show x.To ≤ (tokAt t b).To; omega, i4⟩
  | @call a o b k s few l h1 hd ih =>
    intro ha y b' e; cases e
    have h0 := atomK_call h1
    have q := hd.inR h0.2; simp only [InR] at q
    obtain ⟨z, i1, i2, i3⟩ := ih h0.2 _ b rfl
    have g1 := le (i := a) (j := o) (by omega) (by omega)
    exact mk (by omega) q.2 (i1.mono i2 g1.2.1) i3
  | @lis a b l h1 hd h2 ih =>
    intro ha y b' e; cases e
    have h0 := atomK_lt (t := t) (a := a) (by rw [h1]; simp)
    have hb := sgnAt_lt h2
    have q := hd.inR (by omega); simp only [InR] at q
    have g1 := le (i := a) (j := a + 1) (by omega) (by omega)
    have g2 := le (i := b - 1) (j := b) (by omega) (by omega)
    obtain ⟨i1, i2⟩ := ih (by omega) (tokAt t a).From (tokAt t a).From trivial (Int.le_refl _) g1.2.1 (by simp) _ b rfl
    exact mk (by omega) (by omega) (i1.mono g2.2.2 (Int.le_refl _)) i2
  | @clsF a h1 h2 =>
    intro ha y b e; cases e
    exact ⟨(tokAt t (a + 2 - 1)).To, trivial, Int.le_refl _, by simp⟩
  | @cls a b few l h1 h2 hd h3 ih =>
    intro ha y b' e; cases e
    have h0 := sgnAt_lt h1
    have hb := sgnAt_lt h3
    have q := hd.inR (by omega); simp only [InR] at q
    have g1 := le (i := a) (j := a + 1) (by omega) (by omega)
    have g2 := le (i := b - 1) (j := b) (by omega) (by omega)
    obtain ⟨i1, i2⟩ := ih (by omega) (tokAt t a).From (tokAt t a).From trivial (Int.le_refl _) g1.2.1 (by simp) _ b rfl
    exact ⟨_, i1, g2.2.2, i2⟩
  | @lstE a b acc x hd h1 ih =>
    intro ha p q0 c1 c2 c3 c4 y b' e; cases e
    have q := hd.inR ha; simp only [InR] at q
    obtain ⟨i1, i2, i3, i4⟩ := ih ha x b rfl
    refine ⟨Chn.snoc i2 i3 c1 (by omega) c2, fun z hz => ?_⟩
    rcases List.mem_append.1 hz with hz | hz
    · exact c4 z hz
    · simp at hz; subst hz; exact i4
  | @lstG a b acc x r hd h1 hd2 ih1 ih2 =>
    intro ha p q0 c1 c2 c3 c4 y b' e
    have hb := sgnAt_lt h1
    have q := hd.inR ha; simp only [InR] at q
    obtain ⟨i1, i2, i3, i4⟩ := ih1 ha x b rfl
    by_cases hb1 : b + 1 < t.length
    · have g1 := lt (i := b - 1) (j := b + 1) (by omega) (by omega)
      refine ih2 (by omega) p x.To (Chn.snoc i2 (Int.le_refl _) c1 (by omega) c2) (by omega) (by omega) (fun z hz => ?_) y b' e
      rcases List.mem_append.1 hz with hz | hz
      · exact c4 z hz
      · simp at hz; subst hz; exact i4
    · subst e
      have q2 := hd2.inR (by omega)
      simp only [InR] at q2
      omega
  | _ => first | (intro _ _ _ e; cases e; done) | (intro _ _ _ _ _ e; cases e; done) | (intro _ _ _ _ _ _ _ _ _ e; cases e; done)
end Go.Proofs.Ytelddjedpmfclaa.M
