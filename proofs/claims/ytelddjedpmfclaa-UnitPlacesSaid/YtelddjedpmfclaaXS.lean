/- What is read of a statement stands within it; its size. -/
import Derived.Test.YtelddjedpmfclaaXB
namespace Go.Proofs.Ytelddjedpmfclaa.M
open Go Nt
set_option linter.unusedVariables false
set_option linter.unusedSimpArgs false
theorem Mon.le {t : List Token} (hm : Mon t) {i j : Nat} (h1 : i ≤ j) (h2 : j < t.length) : (tokAt t i).From ≤ (tokAt t j).To ∧ (tokAt t i).From ≤ (tokAt t j).From ∧ (tokAt t i).To ≤ (tokAt t j).To := by
  have q1 := hm i j h1 h2
  have q2 := hm j j (Nat.le_refl _) h2
  by_cases e : i = j
  · subst e; omega
  · have := q1.2 (by omega); omega
theorem Mon.lt {t : List Token} (hm : Mon t) {i j : Nat} (h1 : i < j) (h2 : j < t.length) : (tokAt t i).To ≤ (tokAt t j).From := (hm i j (by omega) h2).2 h1
/-- parts one behind the other, from a token on -/
def CH (t : List Token) (f a : Nat) (l : List Term) : Prop := ∃ q0 : Int, Chn q0 (tokAt t f).From l ∧ (tokAt t f).From ≤ q0 ∧ (q0 = (tokAt t f).From ∨ (f < a ∧ q0 ≤ (tokAt t (a - 1)).To)) ∧ ∀ x ∈ l, Wn x
theorem CH.nil (t : List Token) (f a : Nat) : CH t f a [] := ⟨_, trivial, Int.le_refl _, .inl rfl, by simp⟩
theorem CH.step {t : List Token} (hm : Mon t) {f a a' : Nat} {l : List Term} (h1 : a ≤ a') (h2 : a' ≤ t.length) : CH t f a l → CH t f a' l := by
  rintro ⟨q0, c1, c2, c3, c4⟩
  refine ⟨q0, c1, c2, ?_, c4⟩
  rcases c3 with c3 | ⟨c3, c5⟩
  · exact .inl c3
  · have := (hm.le (i := a - 1) (j := a' - 1) (by omega) (by omega)).2.2
    exact .inr ⟨by omega, by omega⟩
theorem CH.snoc {t : List Token} (hm : Mon t) {f a b : Nat} {l : List Term} {x : Term} (h0 : f ≤ a) (h1 : a < b) (h2 : b ≤ t.length) (hx : Bt t a b x) : CH t f a l → CH t f b (l ++ [x]) := by
  rintro ⟨q0, c1, c2, c3, c4⟩
  obtain ⟨x1, x2, x3, x4⟩ := hx
  have g : q0 ≤ (tokAt t a).From := by
    rcases c3 with c3 | ⟨c3, c5⟩
    · have := (hm.le (i := f) (j := a) h0 (by omega)).2.1; omega
    · have := hm.lt (i := a - 1) (j := a) (by omega) (by omega); omega
  refine ⟨x.To, Chn.snoc x2 (Int.le_refl _) c1 (by omega) c2, by omega, .inr ⟨by omega, x3⟩, fun z hz => ?_⟩
  rcases List.mem_append.1 hz with hz | hz
  · exact c4 z hz
  · simp at hz; subst hz; exact x4
theorem CH.snocE {t : List Token} (hm : Mon t) {f b : Nat} {l : List Term} (h1 : f < b) (h2 : b ≤ t.length) : CH t f b l → CH t f b (l ++ [emptyBlk (tokAt t (b - 1)).To]) := by
  rintro ⟨q0, c1, c2, c3, c4⟩
  have g0 := (hm.le (i := f) (j := b - 1) (by omega) (by omega)).1
  have g : q0 ≤ (tokAt t (b - 1)).To := by
    rcases c3 with c3 | ⟨c3, c5⟩ <;> omega
  refine ⟨(tokAt t (b - 1)).To, Chn.snoc (x := emptyBlk (tokAt t (b - 1)).To) (Int.le_refl _) (Int.le_refl _) c1 g c2, g0, .inr ⟨h1, Int.le_refl _⟩, fun z hz => ?_⟩
  rcases List.mem_append.1 hz with hz | hz
  · exact c4 z hz
  · simp at hz; subst hz; exact .mk _ trivial (by simp)
theorem CH.chn {t : List Token} (hm : Mon t) {f b : Nat} {l : List Term} (h1 : f < b) (h2 : b ≤ t.length) : CH t f b l → Chn (tokAt t (b - 1)).To (tokAt t f).From l ∧ ∀ x ∈ l, Wn x := by
  rintro ⟨q0, c1, c2, c3, c4⟩
  have g0 := (hm.le (i := f) (j := b - 1) (by omega) (by omega)).1
  have g : q0 ≤ (tokAt t (b - 1)).To := by
    rcases c3 with c3 | ⟨c3, c5⟩ <;> omega
  exact ⟨c1.mono g (Int.le_refl _), c4⟩
theorem CH.mk {t : List Token} (hm : Mon t) {f b : Nat} {l : List Term} {k n : Int} {s : Str} (h1 : f < b) (h2 : b ≤ t.length) (h : CH t f b l) : Bt t f b (placed t f b ⟨k, n, s, l, 0, 0⟩) := by
  have g0 := (hm.le (i := f) (j := b - 1) (by omega) (by omega)).1
  obtain ⟨g1, g2⟩ := h.chn hm h1 h2
  exact ⟨Int.le_refl _, g0, Int.le_refl _, .mk _ g1 g2⟩
theorem typ_bt {t : List Token} (hm : Mon t) : ∀ (n a : Nat), t.length < a + n → (typ n t a).2.2 = 0 → Bt t a (typ n t a).2.1 (typ n t a).1 ∧ tsize (typ n t a).1 + a ≤ (typ n t a).2.1
  | 0, a, _, h => by cases h
  | n + 1, a, hl, h => by
    have leaf : ∀ (k : Int) (s : Str), a < t.length → Bt t a (a + 1) (placed t a (a + 1) ⟨k, 0, s, [], 0, 0⟩) ∧ tsize (placed t a (a + 1) ⟨k, 0, s, [], 0, 0⟩) + a ≤ a + 1 := fun k s ha => ⟨(CH.nil t a (a + 1)).mk hm (by omega) (by omega), by simp [placed, tsize, tsizes]; omega⟩
    rw [typ] at h ⊢
    by_cases h1 : wrdAt t a [105, 110, 116] = true
    · rw [if_pos h1]; exact leaf _ _ (wrdAt_lt h1)
    rw [if_neg h1] at h ⊢
    by_cases h2 : wrdAt t a [98, 111, 111, 108] = true
    · rw [if_pos h2]; exact leaf _ _ (wrdAt_lt h2)
    rw [if_neg h2] at h ⊢
    by_cases h3 : (tokAt t a).K = 1
    · rw [if_pos h3]; exact leaf _ _ (tokAt_lt (t := t) (a := a) (by rw [h3]; decide))
    rw [if_neg h3] at h ⊢
    by_cases h4 : sgnAt t a [91] = true
    · rw [if_pos h4] at h ⊢
      by_cases h5 : (tokAt t (a + 1)).K = 2
      · rw [if_pos h5] at h ⊢
        by_cases h6 : sgnAt t (a + 2) [93] = true
        · rw [if_pos h6] at h ⊢
          by_cases h7 : (typ n t (a + 3)).2.2 = 0
          · rw [if_pos h7]
            have q := typ_pl n t (a + 3) (by omega) h7
            obtain ⟨g1, g2⟩ := typ_bt hm n (a + 3) (by omega) h7
            refine ⟨CH.mk hm (show a < (typ n t (a + 3)).2.1 by omega) q.2 ?_, ?_⟩
            · have := (CH.nil t a (a + 3)).snoc hm (by omega) q.1 q.2 g1
              simpa using this
            · show tsize (placed t a (typ n t (a + 3)).2.1 ⟨3, _, [], [(typ n t (a + 3)).1], 0, 0⟩) + a ≤ (typ n t (a + 3)).2.1
              simp only [placed, tsize, tsizes]; omega
          · rw [if_neg h7] at h; exact absurd h h7
        · rw [if_neg h6] at h; cases h
      · rw [if_neg h5] at h; cases h
    · rw [if_neg h4] at h; cases h
def SB (t : List Token) : SCat → Nat → Res → Prop
  | .stmt, a, r => ∀ y b, r = .ok y b → Bt t a b y
  | .blk, a, r => ∀ y b, r = .ok y b → Bt t a b y
  | .sl f acc, a, r => f < a → CH t f a acc → ∀ y b, r = .ok y b → Bt t f b y
  | .form k f its parts name, a, r => f ≤ a → CH t f a parts → ∀ y b, r = .ok y b → Bt t f b y
theorem bt_of_sder {t : List Token} (hm : Mon t) {c : SCat} {a : Nat} {r : Res} (h : SDer t c a r) : a ≤ t.length → SB t c a r := by
  induction h with
  | sB _ _ ih => intro ha y b e; exact ih ha y b e
  | @sF a r h1 hd ih => intro ha y b e; exact ih ha (Nat.le_refl _) (CH.nil _ _ _) y b e
  | b0 _ => intro ha y b e; cases e
  | @b1 a r h1 _ ih => intro ha y b e; have h0 := sgnAt_lt h1; exact ih (by omega) (by omega) (CH.nil _ _ _) y b e
  | @lE f a acc h1 => intro ha hf hc y b e; cases e; have h0 := sgnAt_lt h1; exact CH.mk hm (by omega) (by omega) (hc.step hm (by omega) (by omega))
  | @lG f a b acc x r h1 hd _ ih1 ih2 =>
    intro ha hf hc y b' e
    have q := hd.inS ha; simp only [InS] at q
    exact ih2 q.2 (by omega) (hc.snoc hm (by omega) q.1 q.2 (ih1 ha x b rfl)) y b' e
  | lB _ _ _ => intro ha _ _ y b e; cases e
  | fE h1 => intro ha hf hc y b e; cases e; exact CH.mk hm h1 ha hc
  | fW h1 _ ih => intro ha hf hc y b e; have h0 := wrdAt_lt h1; exact ih (by omega) (by omega) (hc.step hm (by omega) (by omega)) y b e
  | fW0 _ => intro ha _ _ y b e; cases e
  | fS h1 _ ih => intro ha hf hc y b e; have h0 := sgnAt_lt h1; exact ih (by omega) (by omega) (hc.step hm (by omega) (by omega)) y b e
  | fS0 _ => intro ha _ _ y b e; cases e
  | @fN f a k its parts name r h1 _ ih => intro ha hf hc y b e; have h0 := tokAt_lt (t := t) (a := a) (by rw [h1]; decide); exact ih (by omega) (by omega) (hc.step hm (by omega) (by omega)) y b e
  | fN0 _ => intro ha _ _ y b e; cases e
  | @fX f a b k its parts name x r hd _ ih => intro ha hf hc y b' e; have q := hd.inR ha; simp only [InR] at q; exact ih q.2 (by omega) (hc.snoc hm hf q.1 q.2 (bt_of_der hm hd ha x b rfl)) y b' e
  | fX0 _ => intro ha _ _ y b e; cases e
  | @fT f a k its parts name r h1 _ ih =>
    intro ha hf hc y b e
    have q : a < (typAt t a).2.1 ∧ (typAt t a).2.1 ≤ t.length := typ_pl (t.length + 1) t a (by omega) h1
    exact ih q.2 (by omega) (hc.snoc hm hf q.1 q.2 (typ_bt hm (t.length + 1) a (by omega) h1).1) y b e
  | fT0 _ => intro ha _ _ y b e; cases e
  | @fK f a b k its parts name x r hd _ ih1 ih2 => intro ha hf hc y b' e; have q := hd.inS ha; simp only [InS] at q; exact ih2 q.2 (by omega) (hc.snoc hm hf q.1 q.2 (ih1 ha x b rfl)) y b' e
  | fK0 _ _ => intro ha _ _ y b e; cases e
  | fE0 _ _ => intro ha _ _ y b e; cases e
  | @fE1 f a b k its parts name x r hd _ _ ih1 ih2 =>
    intro ha hf hc y b' e
    have q := hd.inS ha; simp only [InS] at q
    exact ih2 q.2 (by omega) ((hc.snoc hm hf q.1 q.2 (ih1 ha x b rfl)).snocE hm (by omega) q.2) y b' e
  | @fE2 f a b c k its parts name x y r hd hw hd2 _ ih1 ih2 ih3 =>
    intro ha hf hc z b' e
    have hb := wrdAt_lt hw
    have q := hd.inS ha; simp only [InS] at q
    have q2 := hd2.inS (by omega); simp only [InS] at q2
    exact ih3 q2.2 (by omega) (CH.snoc hm (by omega) q2.1 q2.2 (ih2 (by omega) y c rfl) ((hc.snoc hm hf q.1 q.2 (ih1 ha x b rfl)).step hm (by omega) (by omega))) z b' e
  | fE3 _ _ _ _ _ => intro ha _ _ y b e; cases e
def SS (t : List Token) : SCat → Nat → Res → Prop
  | .stmt, a, r => ∀ y b, r = .ok y b → tsize y + 400 * a + 19 ≤ 400 * b
  | .blk, a, r => ∀ y b, r = .ok y b → tsize y + 400 * a + 500 ≤ 400 * b
  | .sl f acc, a, r => ∀ y b, r = .ok y b → tsize y + 400 * a + 300 ≤ tsizes acc + 400 * b
  | .form k f its parts name, a, r => ∀ y b, r = .ok y b → tsize y + 400 * a ≤ 1 + tsizes parts + 400 * b ∧ (its ≠ [] → tsize y + 400 * a + 20 ≤ 1 + tsizes parts + 400 * b)
theorem ss_of_sder {t : List Token} (hm : Mon t) {c : SCat} {a : Nat} {r : Res} (h : SDer t c a r) : a ≤ t.length → SS t c a r := by
  have sz : ∀ (p : List Term) (x : Term), tsizes (p ++ [x]) = tsizes p + tsize x := fun p x => by rw [tsizes_app]; simp [tsizes]
  induction h with
  | sB _ _ ih => intro ha y b e; have := ih ha y b e; omega
  | @sF a r h1 hd ih =>
    intro ha y b e
    have := (ih ha y b e).2 (by unfold formOf; (repeat' split) <;> simp)
    simp only [tsizes] at this
    omega
  | b0 _ => intro ha y b e; cases e
  | @b1 a r h1 _ ih => intro ha y b e; have h0 := sgnAt_lt h1; have h2 := ih (by omega) y b e; rw [show tsizes [] = 0 from rfl, Nat.mul_add] at h2; clear h0 h1 ih e; show tsize y + 400 * a + 500 ≤ 400 * b; omega
  | lE h1 => intro ha y b e; cases e; simp only [placed, tsize]; omega
  | lG h1 hd _ ih1 ih2 => intro ha y b e; have q := hd.inS ha; simp only [InS] at q; have g1 := ih1 ha _ _ rfl; have g2 := ih2 q.2 y b e; rw [sz] at g2; omega
  | lB _ _ _ => intro ha y b e; cases e
  | fE _ => intro ha y b e; cases e; simp only [placed, tsize]; exact ⟨by omega, fun h => absurd rfl h⟩
  | fW h1 _ ih => intro ha y b e; have h0 := wrdAt_lt h1; have := (ih (by omega) y b e).1; exact ⟨by omega, fun _ => by omega⟩
  | fW0 _ => intro ha y b e; cases e
  | fS h1 _ ih => intro ha y b e; have h0 := sgnAt_lt h1; have := (ih (by omega) y b e).1; exact ⟨by omega, fun _ => by omega⟩
  | fS0 _ => intro ha y b e; cases e
  | @fN f a k its parts name r h1 _ ih => intro ha y b e; have h0 := tokAt_lt (t := t) (a := a) (by rw [h1]; decide); have := (ih (by omega) y b e).1; exact ⟨by omega, fun _ => by omega⟩
  | fN0 _ => intro ha y b e; cases e
  | fX hd _ ih => intro ha y b e; have q := hd.inR ha; simp only [InR] at q; have g := lev_sz hd; have := (ih q.2 y b e).1; rw [sz] at this; exact ⟨by omega, fun _ => by omega⟩
  | fX0 _ => intro ha y b e; cases e
  | @fT f a k its parts name r h1 _ ih =>
    intro ha y b e
    have q : a < (typAt t a).2.1 ∧ (typAt t a).2.1 ≤ t.length := typ_pl (t.length + 1) t a (by omega) h1
    have g : tsize (typAt t a).1 + a ≤ (typAt t a).2.1 := (typ_bt hm (t.length + 1) a (by omega) h1).2
    have := (ih q.2 y b e).1
    rw [sz] at this
    exact ⟨by omega, fun _ => by omega⟩
  | fT0 _ => intro ha y b e; cases e
  | fK hd _ ih1 ih2 => intro ha y b e; have q := hd.inS ha; simp only [InS] at q; have g := ih1 ha _ _ rfl; have := (ih2 q.2 y b e).1; rw [sz] at this; exact ⟨by omega, fun _ => by omega⟩
  | fK0 _ _ => intro ha y b e; cases e
  | fE0 _ _ => intro ha y b e; cases e
  | fE1 hd _ _ ih1 ih2 =>
    intro ha y b e
    have q := hd.inS ha; simp only [InS] at q
    have g := ih1 ha _ _ rfl
    have := (ih2 q.2 y b e).1
    rw [sz, sz] at this
    simp only [tsize, tsizes] at this
    exact ⟨by omega, fun _ => by omega⟩
  | fE2 hd hw hd2 _ ih1 ih2 ih3 =>
    intro ha y b e
    have hb := wrdAt_lt hw
    have q := hd.inS ha; simp only [InS] at q
    have q2 := hd2.inS (by omega); simp only [InS] at q2
    have g := ih1 ha _ _ rfl
    have g2 := ih2 (by omega) _ _ rfl
    have := (ih3 q2.2 y b e).1
    rw [sz, sz] at this
    exact ⟨by omega, fun _ => by omega⟩
  | fE3 _ _ _ _ _ => intro ha y b e; cases e
end Go.Proofs.Ytelddjedpmfclaa.M
