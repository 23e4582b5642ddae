import Derived.Test.YthbhgdooeeapjaaGreatPlain1
namespace Go.Proofs.YthbhgdooeeapjaaGreat.M
open Go Nt
set_option linter.unusedVariables false
set_option linter.unusedSimpArgs false
set_option linter.unusedSectionVars false
def Lst (t : List zB) (n : Nat) : Prop := ∀ i, n ≤ i → (zP t i).K = 5
theorem z2H {t : List zB} {n a : Nat} (hn : Lst t n) (h : (zP t a).K ≠ 5) : a < n := Nat.lt_of_not_le fun h1 => h (hn a h1)
theorem z0j {t : List zB} {n a : Nat} {s : Str} (hn : Lst t n) (h : yK t a s = true) : a < n := z2H hn (by
  unfold yK at h
  simp only [Bool.and_eq_true, decide_eq_true_eq] at h
  rw [h.1]; decide)
theorem z5G {t : List zB} {n a : Nat} {s : Str} (hn : Lst t n) (h : vC t a s = true) : a < n := z2H hn (by
  unfold vC at h
  simp only [Bool.and_eq_true, decide_eq_true_eq] at h
  rw [h.1]; decide)
theorem z5E {t : List zB} {n : Nat} (hn : Lst t n) {a : Nat} (h : z0o t a ≠ .no) : a < n := by
  unfold z0o at h
  by_cases h1 : (zP t a).K = 2
  · exact z2H hn (by rw [h1]; decide)
  rw [if_neg h1] at h
  by_cases h2 : (zP t a).K = 1
  · exact z2H hn (by rw [h2]; decide)
  rw [if_neg h2] at h
  by_cases h3 : vC t a [116, 114, 117, 101] = true
  · exact z5G hn h3
  rw [if_neg h3] at h
  by_cases h3 : vC t a [102, 97, 108, 115, 101] = true
  · exact z5G hn h3
  rw [if_neg h3] at h
  by_cases h3 : vC t a [114, 101, 97, 100] = true
  · exact z5G hn h3
  rw [if_neg h3] at h
  by_cases h3 : vC t a [110, 101, 119] = true
  · exact z5G hn h3
  rw [if_neg h3] at h
  by_cases h3 : yK t a [40] = true
  · exact z0j hn h3
  rw [if_neg h3] at h
  by_cases h3 : yK t a [91] = true
  · exact z0j hn h3
  rw [if_neg h3] at h
  by_cases h3 : yK t a [64] = true
  · exact z0j hn h3
  rw [if_neg h3] at h
  exact absurd rfl h
theorem y4h {t : List zB} {n : Nat} (hn : Lst t n) {a o : Nat} {k : Int} {s : Str} {few : Bool} (h : z0o t a = .call k s o few) : a < o ∧ o ≤ n := by
  have h0 := z5E hn (t := t) (a := a) (by rw [h]; simp)
  unfold z0o at h
  repeat' split at h
  all_goals first
    | (cases h; done)
    | (injection h with h1 h2 h3 h4; subst h3; rename_i q; have := z2H (t := t) (n := n) hn (a := a + 1) (by rw [q]; decide); omega)
    | (injection h with h1 h2 h3 h4; subst h3; omega)
def z7g (n : Nat) (c : Cat) (a : Nat) : Res → Prop
  | .ok x b => (match c with | .ll _ _ _ _ => a ≤ b | .pl _ _ => a ≤ b | _ => a < b) ∧ b ≤ n
  | .bad b => a ≤ b ∧ b ≤ n
theorem Der.inRn {t : List zB} {n : Nat} (hn : Lst t n) {c : Cat} {a : Nat} {r : Res} (h : Der t c a r) : a ≤ n → z7g n c a r := by
  induction h with
  | un h1 _ ih =>
    intro _
    have ha : _ < n := h1.elim (fun h => z0j hn h.2) (fun h => z0j hn h.2)
    have := ih (by omega); simp only [z7g] at this ⊢; omega
  | unB h1 _ ih =>
    intro _
    have ha : _ < n := h1.elim (fun h => z0j hn h) (fun h => z0j hn h)
    have := ih (by omega); simp only [z7g] at this ⊢; omega
  | unP _ _ _ ih => intro h; exact ih h
  | @lev k a b x r h1 h2 _ _ ih1 ih2 =>
    intro h
    have q1 := ih1 h; simp only [z7g] at q1
    have q2 := ih2 q1.2
    cases r <;> simp only [z7g] at q2 ⊢ <;> omega
  | levB _ _ _ ih => intro h; exact ih h
  | llE _ _ => intro h; simp only [z7g]; omega
  | @llG k m f a b x y r h1 h2 h3 _ _ ih1 ih2 =>
    intro h
    have ha := z2H (t := t) (n := n) hn (a := a) (by rw [z5a (by omega)]; decide)
    have q1 := ih1 (by omega); simp only [z7g] at q1
    have q2 := ih2 q1.2
    cases r <;> simp only [z7g] at q2 ⊢ <;> omega
  | @llB k m f a b x h1 h2 h3 _ ih1 =>
    intro h
    have ha := z2H (t := t) (n := n) hn (a := a) (by rw [z5a (by omega)]; decide)
    have q1 := ih1 (by omega); simp only [z7g] at q1 ⊢; omega
  | @post a b x r _ _ ih1 ih2 =>
    intro h
    have q1 := ih1 h; simp only [z7g] at q1
    have q2 := ih2 q1.2
    cases r <;> simp only [z7g] at q2 ⊢ <;> omega
  | postB _ ih => intro h; exact ih h
  | plE _ _ => intro h; simp only [z7g]; omega
  | @plI f a b x i r h1 _ h2 _ ih1 ih2 =>
    intro h
    have ha := z0j hn h1
    have hb := z0j hn h2
    have q1 := ih1 (by omega); simp only [z7g] at q1
    have q2 := ih2 (by omega)
    cases r <;> simp only [z7g] at q2 ⊢ <;> omega
  | plI1 h1 _ ih =>
    intro h
    have ha := z0j hn h1
    have q1 := ih (by omega); simp only [z7g] at q1 ⊢; omega
  | plI2 h1 _ _ ih =>
    intro h
    have ha := z0j hn h1
    have q1 := ih (by omega); simp only [z7g] at q1 ⊢; omega
  | @plF f a x r h0 h1 h2 _ ih =>
    intro h
    have ha := z2H (t := t) (n := n) hn (a := a + 1) (by rw [h2]; decide)
    have q2 := ih (by omega)
    cases r <;> simp only [z7g] at q2 ⊢ <;> omega
  | plFB _ h1 _ => intro h; have := z0j hn h1; simp only [z7g]; omega
  | one h1 => intro h; have := z5E hn (by rw [h1]; simp); simp only [z7g]; omega
  | par h1 _ h2 ih =>
    intro h; have ha := z5E hn (by rw [h1]; simp); have hb := z0j hn h2
    have q1 := ih (by omega); simp only [z7g] at q1 ⊢; omega
  | par1 h1 _ ih =>
    intro h; have ha := z5E hn (by rw [h1]; simp)
    have q1 := ih (by omega); simp only [z7g] at q1 ⊢; omega
  | par2 h1 _ _ ih =>
    intro h; have ha := z5E hn (by rw [h1]; simp)
    have q1 := ih (by omega); simp only [z7g] at q1 ⊢; omega
  | call h1 _ ih =>
    intro h; have ha := y4h hn h1
    have q1 := ih (by omega); simp only [z7g] at q1 ⊢; omega
  | callB h1 _ ih =>
    intro h; have ha := y4h hn h1
    have q1 := ih (by omega); simp only [z7g] at q1 ⊢; omega
  | lis h1 _ h2 ih =>
    intro h; have ha := z5E hn (by rw [h1]; simp); have hb := z0j hn h2
    have q1 := ih (by omega); simp only [z7g] at q1 ⊢; omega
  | lis1 h1 _ ih =>
    intro h; have ha := z5E hn (by rw [h1]; simp)
    have q1 := ih (by omega); simp only [z7g] at q1 ⊢; omega
  | lis2 h1 _ _ ih =>
    intro h; have ha := z5E hn (by rw [h1]; simp)
    have q1 := ih (by omega); simp only [z7g] at q1 ⊢; omega
  | nm h1 => intro h; have ha := z5E hn (by rw [h1]; simp); simp only [z7g]; omega
  | no _ => intro h; simp only [z7g]; omega
  | cls0 _ => intro h; simp only [z7g]; omega
  | clsF h1 h2 => intro h; have ha := z0j hn h2; simp only [z7g]; omega
  | cls h1 _ _ h2 ih =>
    intro h; have ha := z0j hn h1; have hb := z0j hn h2
    have q1 := ih (by omega); simp only [z7g] at q1 ⊢; omega
  | cls1 h1 _ _ ih =>
    intro h; have ha := z0j hn h1
    have q1 := ih (by omega); simp only [z7g] at q1 ⊢; omega
  | cls2 h1 _ _ _ ih =>
    intro h; have ha := z0j hn h1
    have q1 := ih (by omega); simp only [z7g] at q1 ⊢; omega
  | lstE _ _ ih => intro h; have q1 := ih h; simp only [z7g] at q1 ⊢; omega
  | @lstG a b acc x r _ h2 _ ih1 ih2 =>
    intro h; have hb := z0j hn h2
    have q1 := ih1 h; simp only [z7g] at q1
    have q2 := ih2 (by omega)
    cases r <;> simp only [z7g] at q2 ⊢ <;> omega
  | lstB _ ih => intro h; have q1 := ih h; simp only [z7g] at q1 ⊢; omega
theorem y9e {t : List zB} {m : Nat} (hn : Lst t m) : ∀ (n a : Nat), m < a + n → (typ n t a).2.2 = 0 → a < (typ n t a).2.1 ∧ (typ n t a).2.1 ≤ m
  | 0, a, _, h => by cases h
  | n + 1, a, hl, h => by
    rw [typ] at h ⊢
    by_cases h1 : vC t a [105, 110, 116] = true
    · rw [if_pos h1]; have := z5G hn h1; exact ⟨by simp, this⟩
    rw [if_neg h1] at h ⊢
    by_cases h2 : vC t a [98, 111, 111, 108] = true
    · rw [if_pos h2]; have := z5G hn h2; exact ⟨by simp, this⟩
    rw [if_neg h2] at h ⊢
    by_cases h3 : (zP t a).K = 1
    · rw [if_pos h3]; have := z2H (t := t) (n := m) hn (a := a) (by rw [h3]; decide); exact ⟨by simp, this⟩
    rw [if_neg h3] at h ⊢
    by_cases h4 : yK t a [91] = true
    · rw [if_pos h4] at h ⊢
      by_cases h5 : (zP t (a + 1)).K = 2
      · rw [if_pos h5] at h ⊢
        by_cases h6 : yK t (a + 2) [93] = true
        · rw [if_pos h6] at h ⊢
          by_cases h7 : (typ n t (a + 3)).2.2 = 0
          · rw [if_pos h7]
            have := y9e hn n (a + 3) (by omega) h7
            exact ⟨by show a < (typ n t (a + 3)).2.1; omega, this.2⟩
          · rw [if_neg h7] at h; exact absurd h h7
        · rw [if_neg h6] at h; cases h
      · rw [if_neg h5] at h; cases h
    · rw [if_neg h4] at h; cases h
theorem y2V {t : List zB} {m : Nat} (hn : Lst t m) : ∀ (n a : Nat), m < a + n → a ≤ m → (typ n t a).2.2 ≠ 0 → a ≤ (typ n t a).2.1 ∧ (typ n t a).2.1 ≤ m
  | 0, a, h1, h2, _ => by omega
  | n + 1, a, h1, h2, h => by
    rw [typ] at h ⊢
    by_cases g1 : vC t a [105, 110, 116] = true
    · rw [if_pos g1] at h; exact absurd rfl h
    rw [if_neg g1] at h ⊢
    by_cases g2 : vC t a [98, 111, 111, 108] = true
    · rw [if_pos g2] at h; exact absurd rfl h
    rw [if_neg g2] at h ⊢
    by_cases g3 : (zP t a).K = 1
    · rw [if_pos g3] at h; exact absurd rfl h
    rw [if_neg g3] at h ⊢
    by_cases g4 : yK t a [91] = true
    · have k4 := z0j hn g4
      rw [if_pos g4] at h ⊢
      by_cases g5 : (zP t (a + 1)).K = 2
      · have k5 := z2H (t := t) (n := m) hn (a := a + 1) (by rw [g5]; decide)
        rw [if_pos g5] at h ⊢
        by_cases g6 : yK t (a + 2) [93] = true
        · have k6 := z0j hn g6
          rw [if_pos g6] at h ⊢
          by_cases g7 : (typ n t (a + 3)).2.2 = 0
          · rw [if_pos g7] at h; exact absurd rfl h
          · rw [if_neg g7]
            have := y2V hn n (a + 3) (by omega) (by omega) g7
            exact ⟨by show a ≤ (typ n t (a + 3)).2.1; omega, this.2⟩
        · rw [if_neg g6]; exact ⟨by show a ≤ a + 2; omega, by show a + 2 ≤ m; omega⟩
      · rw [if_neg g5]; exact ⟨by show a ≤ a + 1; omega, by show a + 1 ≤ m; omega⟩
    · rw [if_neg g4]; exact ⟨Nat.le_refl _, h2⟩
def y3k (n : Nat) (c : y9m) (a : Nat) : Res → Prop
  | .ok x b => (match c with | .form _ _ its _ _ => a ≤ b ∧ (its ≠ [] → a < b) | _ => a < b) ∧ b ≤ n
  | .bad b => a ≤ b ∧ b ≤ n
theorem SDer.inSn {t : List zB} {mm : Nat} (hn : Lst t mm) (hlt : mm < t.length) {c : y9m} {a : Nat} {r : Res} (h : SDer t c a r) : a ≤ mm → y3k mm c a r := by
  have step : ∀ {k : Int} {f a b : Nat} {it : It} {its : List It} {p p' : List zD} {n n' : Str} {r : Res}, a < b → y3k mm (.form k f its p' n') b r → y3k mm (.form k f (it :: its) p n) a r := by
    intro k f a b it its p p' n n' r h1 h2
    cases r with
    | ok x c => simp only [y3k] at h2 ⊢; exact ⟨⟨by omega, fun _ => by omega⟩, h2.2⟩
    | bad c => simp only [y3k] at h2 ⊢; omega
  induction h with
  | sB _ _ ih => intro h; exact ih h
  | @sF a r h1 hd ih =>
    intro h
    have q := ih h
    cases r with
    | ok x b =>
      simp only [y3k] at q ⊢
      refine ⟨q.1.2 ?_, q.2⟩
      unfold z5B
      repeat' split
      all_goals simp
    | bad b => exact q
  | b0 _ => intro h; simp only [y3k]; omega
  | @b1 a r h1 _ ih =>
    intro h
    have := z0j hn h1
    have q := ih (by omega)
    cases r <;> simp only [y3k] at q ⊢ <;> omega
  | lE h1 => intro h; have := z0j hn h1; simp only [y3k]; omega
  | @lG f a b acc x r h1 _ _ ih1 ih2 =>
    intro h
    have q1 := ih1 h; simp only [y3k] at q1
    have q2 := ih2 q1.2
    cases r <;> simp only [y3k] at q2 ⊢ <;> omega
  | lB _ _ ih => intro h; exact ih h
  | fE _ => intro h; simp only [y3k]; exact ⟨⟨Nat.le_refl _, fun h => absurd rfl h⟩, h⟩
  | fW h1 _ ih => intro h; have := z5G hn h1; exact step (by omega) (ih (by omega))
  | fW0 _ => intro h; simp only [y3k]; omega
  | fS h1 _ ih => intro h; have := z0j hn h1; exact step (by omega) (ih (by omega))
  | fS0 _ => intro h; simp only [y3k]; omega
  | @fN f a k its parts name r h1 _ ih => intro h; have := z2H (t := t) (n := mm) hn (a := a) (by rw [h1]; decide); exact step (Nat.lt_succ_self a) (ih (by omega))
  | fN0 _ => intro h; simp only [y3k]; omega
  | fX hd _ ih => intro h; have q := hd.inRn hn h; simp only [z7g] at q; exact step q.1 (ih q.2)
  | fX0 hd => intro h; have q := hd.inRn hn h; simp only [z7g, y3k] at q ⊢; exact q
  | @fT f a k its parts name r h1 _ ih => intro h; have q := y9e hn (t.length + 1) a (by omega) h1; exact step q.1 (ih q.2)
  | @fT0 f a k its parts name h1 => intro h; have q := y2V hn (t.length + 1) a (by omega) h h1; simp only [y3k]; exact q
  | fK _ _ ih1 ih2 => intro h; have q := ih1 h; simp only [y3k] at q; exact step q.1 (ih2 q.2)
  | fK0 _ ih => intro h; exact ih h
  | fE0 _ ih => intro h; exact ih h
  | fE1 _ _ _ ih1 ih2 => intro h; have q := ih1 h; simp only [y3k] at q; exact step q.1 (ih2 q.2)
  | @fE2 f a b c k its parts name x y r _ h2 _ _ ih1 ih2 ih3 =>
    intro h
    have hb := z5G hn h2
    have q := ih1 h; simp only [y3k] at q
    have q2 := ih2 (by omega); simp only [y3k] at q2
    exact step (by omega) (ih3 q2.2)
  | @fE3 f a b c k its parts name x _ h2 _ ih1 ih2 =>
    intro h
    have hb := z5G hn h2
    have q := ih1 h; simp only [y3k] at q
    have q2 := ih2 (by omega); simp only [y3k] at q2 ⊢
    omega
theorem Mon.le {t : List zB} (hm : Mon t) {i j : Nat} (h1 : i ≤ j) (h2 : j < t.length) : (zP t i).From ≤ (zP t j).To ∧ (zP t i).From ≤ (zP t j).From ∧ (zP t i).To ≤ (zP t j).To := by
  have q1 := hm i j h1 h2
  have q2 := hm j j (Nat.le_refl _) h2
  by_cases e : i = j
  · subst e; omega
  · have := q1.2 (by omega); omega
theorem Mon.lt {t : List zB} (hm : Mon t) {i j : Nat} (h1 : i < j) (h2 : j < t.length) : (zP t i).To ≤ (zP t j).From := (hm i j (by omega) h2).2 h1
def CH (t : List zB) (f a : Nat) (l : List zD) : Prop := ∃ q0 : Int, Chn q0 (zP t f).From l ∧ (zP t f).From ≤ q0 ∧ (q0 = (zP t f).From ∨ (f < a ∧ q0 ≤ (zP t (a - 1)).To)) ∧ ∀ x ∈ l, Wn x
theorem CH.nil (t : List zB) (f a : Nat) : CH t f a [] := ⟨_, trivial, Int.le_refl _, .inl rfl, by simp⟩
theorem CH.step {t : List zB} (hm : Mon t) {f a a' : Nat} {l : List zD} (h1 : a ≤ a') (h2 : a' ≤ t.length) : CH t f a l → CH t f a' l := by
  rintro ⟨q0, c1, c2, c3, c4⟩
  refine ⟨q0, c1, c2, ?_, c4⟩
  rcases c3 with c3 | ⟨c3, c5⟩
  · exact .inl c3
  · have := (hm.le (i := a - 1) (j := a' - 1) (by omega) (by omega)).2.2
    exact .inr ⟨by omega, by omega⟩
theorem CH.snoc {t : List zB} (hm : Mon t) {f a b : Nat} {l : List zD} {x : zD} (h0 : f ≤ a) (h1 : a < b) (h2 : b ≤ t.length) (hx : Bt t a b x) : CH t f a l → CH t f b (l ++ [x]) := by
  rintro ⟨q0, c1, c2, c3, c4⟩
  obtain ⟨x1, x2, x3, x4⟩ := hx
  have g : q0 ≤ (zP t a).From := by
    rcases c3 with c3 | ⟨c3, c5⟩
    · have := (hm.le (i := f) (j := a) h0 (by omega)).2.1; omega
    · have := hm.lt (i := a - 1) (j := a) (by omega) (by omega); omega
  refine ⟨x.To, Chn.snoc x2 (Int.le_refl _) c1 (by omega) c2, by omega, .inr ⟨by omega, x3⟩, fun z hz => ?_⟩
  rcases List.mem_append.1 hz with hz | hz
  · exact c4 z hz
  · simp at hz; subst hz; exact x4
theorem CH.snocE {t : List zB} (hm : Mon t) {f b : Nat} {l : List zD} (h1 : f < b) (h2 : b ≤ t.length) : CH t f b l → CH t f b (l ++ [z6i (zP t (b - 1)).To]) := by
  rintro ⟨q0, c1, c2, c3, c4⟩
  have g0 := (hm.le (i := f) (j := b - 1) (by omega) (by omega)).1
  have g : q0 ≤ (zP t (b - 1)).To := by
    rcases c3 with c3 | ⟨c3, c5⟩ <;> omega
  refine ⟨(zP t (b - 1)).To, Chn.snoc (x := z6i (zP t (b - 1)).To) (Int.le_refl _) (Int.le_refl _) c1 g c2, g0, .inr ⟨h1, Int.le_refl _⟩, fun z hz => ?_⟩
  rcases List.mem_append.1 hz with hz | hz
  · exact c4 z hz
  · simp at hz; subst hz; exact .mk _ trivial (by simp)
theorem CH.chn {t : List zB} (hm : Mon t) {f b : Nat} {l : List zD} (h1 : f < b) (h2 : b ≤ t.length) : CH t f b l → Chn (zP t (b - 1)).To (zP t f).From l ∧ ∀ x ∈ l, Wn x := by
  rintro ⟨q0, c1, c2, c3, c4⟩
  have g0 := (hm.le (i := f) (j := b - 1) (by omega) (by omega)).1
  have g : q0 ≤ (zP t (b - 1)).To := by
    rcases c3 with c3 | ⟨c3, c5⟩ <;> omega
  exact ⟨c1.mono g (Int.le_refl _), c4⟩
theorem CH.mk {t : List zB} (hm : Mon t) {f b : Nat} {l : List zD} {k n : Int} {s : Str} (h1 : f < b) (h2 : b ≤ t.length) (h : CH t f b l) : Bt t f b (uG t f b ⟨k, n, s, l, 0, 0⟩) := by
  have g0 := (hm.le (i := f) (j := b - 1) (by omega) (by omega)).1
  obtain ⟨g1, g2⟩ := h.chn hm h1 h2
  exact ⟨Int.le_refl _, g0, Int.le_refl _, .mk _ g1 g2⟩
theorem v0a {t : List zB} (hm : Mon t) : ∀ (n a : Nat), t.length < a + n → (typ n t a).2.2 = 0 → Bt t a (typ n t a).2.1 (typ n t a).1 ∧ jB (typ n t a).1 + a ≤ (typ n t a).2.1
  | 0, a, _, h => by cases h
  | n + 1, a, hl, h => by
    have leaf : ∀ (k : Int) (s : Str), a < t.length → Bt t a (a + 1) (uG t a (a + 1) ⟨k, 0, s, [], 0, 0⟩) ∧ jB (uG t a (a + 1) ⟨k, 0, s, [], 0, 0⟩) + a ≤ a + 1 := fun k s ha => ⟨(CH.nil t a (a + 1)).mk hm (by omega) (by omega), by simp [uG, jB, yR]; omega⟩
    rw [typ] at h ⊢
    by_cases h1 : vC t a [105, 110, 116] = true
    · rw [if_pos h1]; exact leaf _ _ (uU h1)
    rw [if_neg h1] at h ⊢
    by_cases h2 : vC t a [98, 111, 111, 108] = true
    · rw [if_pos h2]; exact leaf _ _ (uU h2)
    rw [if_neg h2] at h ⊢
    by_cases h3 : (zP t a).K = 1
    · rw [if_pos h3]; exact leaf _ _ (uC (t := t) (a := a) (by rw [h3]; decide))
    rw [if_neg h3] at h ⊢
    by_cases h4 : yK t a [91] = true
    · rw [if_pos h4] at h ⊢
      by_cases h5 : (zP t (a + 1)).K = 2
      · rw [if_pos h5] at h ⊢
        by_cases h6 : yK t (a + 2) [93] = true
        · rw [if_pos h6] at h ⊢
          by_cases h7 : (typ n t (a + 3)).2.2 = 0
          · rw [if_pos h7]
            have q := y2l n t (a + 3) (by omega) h7
            obtain ⟨g1, g2⟩ := v0a hm n (a + 3) (by omega) h7
            refine ⟨CH.mk hm (show a < (typ n t (a + 3)).2.1 by omega) q.2 ?_, ?_⟩
            · have := (CH.nil t a (a + 3)).snoc hm (by omega) q.1 q.2 g1
              simpa using this
            · show jB (uG t a (typ n t (a + 3)).2.1 ⟨3, _, [], [(typ n t (a + 3)).1], 0, 0⟩) + a ≤ (typ n t (a + 3)).2.1
              simp only [uG, jB, yR]; omega
          · rw [if_neg h7] at h; exact absurd h h7
        · rw [if_neg h6] at h; cases h
      · rw [if_neg h5] at h; cases h
    · rw [if_neg h4] at h; cases h
def SB (t : List zB) : y9m → Nat → Res → Prop
  | .stmt, a, r => ∀ y b, r = .ok y b → Bt t a b y
  | .blk, a, r => ∀ y b, r = .ok y b → Bt t a b y
  | .sl f acc, a, r => f < a → CH t f a acc → ∀ y b, r = .ok y b → Bt t f b y
  | .form k f its parts name, a, r => f ≤ a → CH t f a parts → ∀ y b, r = .ok y b → Bt t f b y
theorem v0f {t : List zB} (hm : Mon t) {c : y9m} {a : Nat} {r : Res} (h : SDer t c a r) : a ≤ t.length → SB t c a r := by
  induction h with
  | sB _ _ ih => intro ha y b e; exact ih ha y b e
  | @sF a r h1 hd ih => intro ha y b e; exact ih ha (Nat.le_refl _) (CH.nil _ _ _) y b e
  | b0 _ => intro ha y b e; cases e
  | @b1 a r h1 _ ih => intro ha y b e; have h0 := yF h1; exact ih (by omega) (by omega) (CH.nil _ _ _) y b e
  | @lE f a acc h1 => intro ha hf hc y b e; cases e; have h0 := yF h1; exact CH.mk hm (by omega) (by omega) (hc.step hm (by omega) (by omega))
  | @lG f a b acc x r h1 hd _ ih1 ih2 =>
    intro ha hf hc y b' e
    have q := hd.inS ha; simp only [InS] at q
    exact ih2 q.2 (by omega) (hc.snoc hm (by omega) q.1 q.2 (ih1 ha x b rfl)) y b' e
  | lB _ _ _ => intro ha _ _ y b e; cases e
  | fE h1 => intro ha hf hc y b e; cases e; exact CH.mk hm h1 ha hc
  | fW h1 _ ih => intro ha hf hc y b e; have h0 := uU h1; exact ih (by omega) (by omega) (hc.step hm (by omega) (by omega)) y b e
  | fW0 _ => intro ha _ _ y b e; cases e
  | fS h1 _ ih => intro ha hf hc y b e; have h0 := yF h1; exact ih (by omega) (by omega) (hc.step hm (by omega) (by omega)) y b e
  | fS0 _ => intro ha _ _ y b e; cases e
  | @fN f a k its parts name r h1 _ ih => intro ha hf hc y b e; have h0 := uC (t := t) (a := a) (by rw [h1]; decide); exact ih (by omega) (by omega) (hc.step hm (by omega) (by omega)) y b e
  | fN0 _ => intro ha _ _ y b e; cases e
  | @fX f a b k its parts name x r hd _ ih => intro ha hf hc y b' e; have q := hd.inR ha; simp only [InR] at q; exact ih q.2 (by omega) (hc.snoc hm hf q.1 q.2 (v1a hm hd ha x b rfl)) y b' e
  | fX0 _ => intro ha _ _ y b e; cases e
  | @fT f a k its parts name r h1 _ ih =>
    intro ha hf hc y b e
    have q : a < (z4Y t a).2.1 ∧ (z4Y t a).2.1 ≤ t.length := y2l (t.length + 1) t a (by omega) h1
    exact ih q.2 (by omega) (hc.snoc hm hf q.1 q.2 (v0a hm (t.length + 1) a (by omega) h1).1) y b e
  | fT0 _ => intro ha _ _ y b e; cases e
  | @fK f a b k its parts name x r hd _ ih1 ih2 => intro ha hf hc y b' e; have q := hd.inS ha; simp only [InS] at q; exact ih2 q.2 (by omega) (hc.snoc hm hf q.1 q.2 (ih1 ha x b rfl)) y b' e
  | fK0 _ _ => intro ha _ _ y b e; cases e
  | fE0 _ _ => intro ha _ _ y b e; cases e
  | @fE1 f a b k its parts name x r hd _ _ ih1 ih2 =>
    intro ha hf hc y b' e
    have q := hd.inS ha; simp only [InS] at q
    exact ih2 q.2 (by omega) ((hc.snoc hm hf q.1 q.2 (ih1 ha x b rfl)).snocE hm (by omega) q.2) y b' e
  | @fE2 f a b c k its parts name x y r hd hw hd2 _ ih1 ih2 ih3 =>
    intro ha hf hc z b' e
    have hb := uU hw
    have q := hd.inS ha; simp only [InS] at q
    have q2 := hd2.inS (by omega); simp only [InS] at q2
    exact ih3 q2.2 (by omega) (CH.snoc hm (by omega) q2.1 q2.2 (ih2 (by omega) y c rfl) ((hc.snoc hm hf q.1 q.2 (ih1 ha x b rfl)).step hm (by omega) (by omega))) z b' e
  | fE3 _ _ _ _ _ => intro ha _ _ y b e; cases e
def SS (t : List zB) : y9m → Nat → Res → Prop
  | .stmt, a, r => ∀ y b, r = .ok y b → jB y + 400 * a + 19 ≤ 400 * b
  | .blk, a, r => ∀ y b, r = .ok y b → jB y + 400 * a + 500 ≤ 400 * b
  | .sl f acc, a, r => ∀ y b, r = .ok y b → jB y + 400 * a + 300 ≤ yR acc + 400 * b
  | .form k f its parts name, a, r => ∀ y b, r = .ok y b → jB y + 400 * a ≤ 1 + yR parts + 400 * b ∧ (its ≠ [] → jB y + 400 * a + 20 ≤ 1 + yR parts + 400 * b)
theorem v0K {t : List zB} (hm : Mon t) {c : y9m} {a : Nat} {r : Res} (h : SDer t c a r) : a ≤ t.length → SS t c a r := by
  have sz : ∀ (p : List zD) (x : zD), yR (p ++ [x]) = yR p + jB x := fun p x => by rw [z8Q]; simp [yR]
  induction h with
  | sB _ _ ih => intro ha y b e; have := ih ha y b e; omega
  | @sF a r h1 hd ih =>
    intro ha y b e
    have := (ih ha y b e).2 (by unfold z5B; (repeat' split) <;> simp)
    simp only [yR] at this
    omega
  | b0 _ => intro ha y b e; cases e
  | @b1 a r h1 _ ih => intro ha y b e; have h0 := yF h1; have h2 := ih (by omega) y b e; rw [show yR [] = 0 from rfl, Nat.mul_add] at h2; clear h0 h1 ih e; show jB y + 400 * a + 500 ≤ 400 * b; omega
  | lE h1 => intro ha y b e; cases e; simp only [uG, jB]; omega
  | lG h1 hd _ ih1 ih2 => intro ha y b e; have q := hd.inS ha; simp only [InS] at q; have g1 := ih1 ha _ _ rfl; have g2 := ih2 q.2 y b e; rw [sz] at g2; omega
  | lB _ _ _ => intro ha y b e; cases e
  | fE _ => intro ha y b e; cases e; simp only [uG, jB]; exact ⟨by omega, fun h => absurd rfl h⟩
  | fW h1 _ ih => intro ha y b e; have h0 := uU h1; have := (ih (by omega) y b e).1; exact ⟨by omega, fun _ => by omega⟩
  | fW0 _ => intro ha y b e; cases e
  | fS h1 _ ih => intro ha y b e; have h0 := yF h1; have := (ih (by omega) y b e).1; exact ⟨by omega, fun _ => by omega⟩
  | fS0 _ => intro ha y b e; cases e
  | @fN f a k its parts name r h1 _ ih => intro ha y b e; have h0 := uC (t := t) (a := a) (by rw [h1]; decide); have := (ih (by omega) y b e).1; exact ⟨by omega, fun _ => by omega⟩
  | fN0 _ => intro ha y b e; cases e
  | fX hd _ ih => intro ha y b e; have q := hd.inR ha; simp only [InR] at q; have g := v5V hd; have := (ih q.2 y b e).1; rw [sz] at this; exact ⟨by omega, fun _ => by omega⟩
  | fX0 _ => intro ha y b e; cases e
  | @fT f a k its parts name r h1 _ ih =>
    intro ha y b e
    have q : a < (z4Y t a).2.1 ∧ (z4Y t a).2.1 ≤ t.length := y2l (t.length + 1) t a (by omega) h1
    have g : jB (z4Y t a).1 + a ≤ (z4Y t a).2.1 := (v0a hm (t.length + 1) a (by omega) h1).2
    have := (ih q.2 y b e).1
    rw [sz] at this
    exact ⟨by omega, fun _ => by omega⟩
  | fT0 _ => intro ha y b e; cases e
  | fK hd _ ih1 ih2 => intro ha y b e; have q := hd.inS ha; simp only [InS] at q; have g := ih1 ha _ _ rfl; have := (ih2 q.2 y b e).1; rw [sz] at this; exact ⟨by omega, fun _ => by omega⟩
  | fK0 _ _ => intro ha y b e; cases e
  | fE0 _ _ => intro ha y b e; cases e
  | fE1 hd _ _ ih1 ih2 =>
    intro ha y b e
    have q := hd.inS ha; simp only [InS] at q
    have g := ih1 ha _ _ rfl
    have := (ih2 q.2 y b e).1
    rw [sz, sz] at this
    simp only [jB, yR] at this
    exact ⟨by omega, fun _ => by omega⟩
  | fE2 hd hw hd2 _ ih1 ih2 ih3 =>
    intro ha y b e
    have hb := uU hw
    have q := hd.inS ha; simp only [InS] at q
    have q2 := hd2.inS (by omega); simp only [InS] at q2
    have g := ih1 ha _ _ rfl
    have g2 := ih2 (by omega) _ _ rfl
    have := (ih3 q2.2 y b e).1
    rw [sz, sz] at this
    exact ⟨by omega, fun _ => by omega⟩
  | fE3 _ _ _ _ _ => intro ha y b e; cases e
inductive PT : zD → List Str → Prop
  | int {F T : Int} : PT ⟨1, 0, [], [], F, T⟩ [[105, 110, 116]]
  | bool {F T : Int} : PT ⟨2, 0, [], [], F, T⟩ [[98, 111, 111, 108]]
  | rcd {s : Str} {F T : Int} : Nm s → PT ⟨4, 0, s, [], F, T⟩ [s]
  | arr {n : Nat} {x : zD} {w : List Str} {F T : Int} : n ≤ 9223372036854775807 → Tok 2 n [] (y1p n) → PT x w → PT ⟨3, (n : Int), [], [x], F, T⟩ ([[91], y1p n, [93]] ++ w)
inductive FK : Int → List It → Prop
  | new : FK 21 [.word z8R, .name, .sign [58], .type, .sign [59]]
  | let_ : FK 20 [.word z8R, .name, .sign [61], .expr, .sign [59]]
  | if_ : FK 23 [.word wIf, .expr, .be]
  | while : FK 24 [.word z1t, .expr, .block]
  | for : FK 25 [.word z9v, .name, .sign [61], .expr, .word wTo, .expr, .block]
  | print : FK 26 [.word z1s, .expr, .sign [59]]
  | ret : FK 27 [.word z0a, .expr, .sign [59]]
  | do_ : FK 28 [.word wDo, .expr, .sign [59]]
  | set : FK 22 [.expr, .sign [61], .expr, .sign [59]]
theorem v6M (t : List zB) (a : Nat) : FK (z5B t a).1 (z5B t a).2 := by
  unfold z5B
  repeat' split
  all_goals constructor
inductive SC where
  | st (x : zD)
  | bl (x : zD)
  | ss (l : List zD)
  | fm (its : List It) (ps : List zD) (nm : Str)
inductive PS : SC → List Str → Prop
  | blk {l : List zD} {w : List Str} {F T : Int} : PS (.ss l) w → PS (.bl ⟨29, 0, [], l, F, T⟩) ([[123]] ++ w ++ [[125]])
  | ss0 : PS (.ss []) []
  | ssc {x : zD} {l : List zD} {w wl : List Str} : PS (.st x) w → PS (.ss l) wl → PS (.ss (x :: l)) (w ++ wl)
  | stB {x : zD} {w : List Str} : PS (.bl x) w → PS (.st x) w
  | stF {k : Int} {its : List It} {ps : List zD} {nm : Str} {w : List Str} {F T : Int} : FK k its → (.name ∉ its → nm = []) → PS (.fm its ps nm) w → PS (.st ⟨k, 0, nm, ps, F, T⟩) w
  | f0 {nm : Str} : PS (.fm [] [] nm) []
  | fW {s : Str} {its : List It} {ps : List zD} {nm : Str} {w : List Str} : PS (.fm its ps nm) w → PS (.fm (.word s :: its) ps nm) ([s] ++ w)
  | fS {s : Str} {its : List It} {ps : List zD} {nm : Str} {w : List Str} : PS (.fm its ps nm) w → PS (.fm (.sign s :: its) ps nm) ([s] ++ w)
  | fN {its : List It} {ps : List zD} {nm : Str} {w : List Str} : Nm nm → PS (.fm its ps nm) w → PS (.fm (.name :: its) ps nm) ([nm] ++ w)
  | fX {its : List It} {x : zD} {ps : List zD} {nm : Str} {wx w : List Str} : PR (.ex x) wx → PS (.fm its ps nm) w → PS (.fm (.expr :: its) (x :: ps) nm) (wx ++ w)
  | fT {its : List It} {x : zD} {ps : List zD} {nm : Str} {wx w : List Str} : PT x wx → PS (.fm its ps nm) w → PS (.fm (.type :: its) (x :: ps) nm) (wx ++ w)
  | fK {its : List It} {x : zD} {ps : List zD} {nm : Str} {wx w : List Str} : PS (.bl x) wx → PS (.fm its ps nm) w → PS (.fm (.block :: its) (x :: ps) nm) (wx ++ w)
  | fE1 {its : List It} {x : zD} {ps : List zD} {nm : Str} {wx w : List Str} {F T : Int} : PS (.bl x) wx → PS (.fm its ps nm) w → PS (.fm (.be :: its) (x :: ⟨29, 0, [], [], F, T⟩ :: ps) nm) (wx ++ w)
  | fE2 {its : List It} {x y : zD} {ps : List zD} {nm : Str} {wx wy w : List Str} : PS (.bl x) wx → PS (.bl y) wy → y.L ≠ [] → PS (.fm its ps nm) w → PS (.fm (.be :: its) (x :: y :: ps) nm) (wx ++ ([[101, 108, 115, 101]] ++ wy) ++ w)
theorem v5M {y : zD} {w : List Str} (h : PS (.bl y) w) (hy : y.L = []) : ∃ F T, y = ⟨29, 0, [], [], F, T⟩ := by
  cases h with
  | @blk l w F T _ =>
    have e : l = [] := hy
    exact ⟨F, T, by rw [e]⟩
def nmC : List It → Nat
  | [] => 0
  | .name :: r => nmC r + 1
  | _ :: r => nmC r
theorem v6L {k : Int} {its : List It} (h : FK k its) : nmC its ≤ 1 := by cases h <;> decide
theorem v1P : ∀ {its : List It}, It.name ∉ its → nmC its = 0
  | [], _ => rfl
  | i :: r, h => by
    have h1 : It.name ∉ r := fun g => h (by simp [g])
    have h2 : i ≠ .name := fun g => h (by simp [g])
    cases i with
    | name => exact absurd rfl h2
    | _ => exact v1P (its := r) h1
section
variable {t : List zB} (tf : TF t) (hm : Mon t)
include tf hm
theorem v2N : ∀ (n a : Nat), t.length < a + n → (typ n t a).2.2 = 0 → ∃ w, PT (typ n t a).1 w
  | 0, a, _, h => by cases h
  | n + 1, a, hl, h => by
    rw [typ] at h ⊢
    by_cases h1 : vC t a [105, 110, 116] = true
    · rw [if_pos h1]; exact ⟨_, .int⟩
    rw [if_neg h1] at h ⊢
    by_cases h2 : vC t a [98, 111, 111, 108] = true
    · rw [if_pos h2]; exact ⟨_, .bool⟩
    rw [if_neg h2] at h ⊢
    by_cases h3 : (zP t a).K = 1
    · rw [if_pos h3]
      have h0 := uC (t := t) (a := a) (by rw [h3]; decide)
      exact ⟨_, .rcd ((v3a tf hm h0).nm h3)⟩
    rw [if_neg h3] at h ⊢
    by_cases h4 : yK t a [91] = true
    · rw [if_pos h4] at h ⊢
      by_cases h5 : (zP t (a + 1)).K = 2
      · rw [if_pos h5] at h ⊢
        by_cases h6 : yK t (a + 2) [93] = true
        · rw [if_pos h6] at h ⊢
          by_cases h7 : (typ n t (a + 3)).2.2 = 0
          · rw [if_pos h7]
            obtain ⟨w, hw⟩ := v2N n (a + 3) (by omega) h7
            have h0 := uC (t := t) (a := a + 1) (by rw [h5]; decide)
            obtain ⟨m, g1, g2, g3, -⟩ := (v3a tf hm h0).nu h5
            refine ⟨[[91], y1p m, [93]] ++ w, ?_⟩
            show PT ⟨3, (zP t (a + 1)).N, [], [(typ n t (a + 3)).1], _, _⟩ _
            rw [g1]; exact .arr g2 g3 hw
          · rw [if_neg h7] at h; exact absurd h h7
        · rw [if_neg h6] at h; cases h
      · rw [if_neg h5] at h; cases h
    · rw [if_neg h4] at h; cases h
def PSM (t : List zB) (c : y9m) (a : Nat) (r : Res) : Prop := ∀ x b, r = .ok x b → match c with
  | .stmt => ∃ w, PS (.st x) w
  | .blk => ∃ w, PS (.bl x) w
  | .sl f acc => ∃ l w F T, x = ⟨29, 0, [], acc ++ l, F, T⟩ ∧ PS (.ss l) w
  | .form k f its parts name => nmC its ≤ 1 → ∃ ps nm w F T, x = ⟨k, 0, nm, parts ++ ps, F, T⟩ ∧ PS (.fm its ps nm) w ∧ (nmC its = 0 → nm = name)
theorem v0F {c : y9m} {a : Nat} {r : Res} (h : SDer t c a r) : a ≤ t.length → PSM t c a r := by
  induction h with
  | sB _ _ ih => intro ha x b e; obtain ⟨w, hw⟩ := ih ha x b e; exact ⟨w, .stB hw⟩
  | @sF a r h1 hd ih =>
    intro ha x b e
    have hk := v6M t a
    obtain ⟨ps, nm, w, F, T, rfl, h2, h3⟩ := ih ha x b e (v6L hk)
    exact ⟨w, .stF hk (fun h => h3 (v1P h)) h2⟩
  | b0 _ => intro ha x b e; cases e
  | @b1 a r h1 _ ih =>
    intro ha x b e
    have h0 := yF h1
    obtain ⟨l, w, F, T, rfl, hw⟩ := ih (by omega) x b e
    exact ⟨_, .blk hw⟩
  | lE h1 => intro ha x b e; cases e; exact ⟨[], [], _, _, by rw [List.append_nil]; rfl, .ss0⟩
  | lG h1 hd _ ih1 ih2 =>
    intro ha x b e
    have q := hd.inS ha; simp only [InS] at q
    obtain ⟨w, hw⟩ := ih1 ha _ _ rfl
    obtain ⟨l, wl, F, T, rfl, hl⟩ := ih2 q.2 x b e
    exact ⟨_ :: l, _, F, T, by simp, .ssc hw hl⟩
  | lB _ _ _ => intro ha x b e; cases e
  | fE _ => intro ha x b e; cases e; exact fun _ => ⟨[], _, [], _, _, by rw [List.append_nil]; rfl, .f0, fun _ => rfl⟩
  | fW h1 _ ih => intro ha x b e hn; have h0 := uU h1; obtain ⟨ps, nm, w, F, T, rfl, h2, h3⟩ := ih (by omega) x b e hn; exact ⟨ps, nm, _, F, T, rfl, .fW h2, h3⟩
  | fW0 _ => intro ha x b e; cases e
  | fS h1 _ ih => intro ha x b e hn; have h0 := yF h1; obtain ⟨ps, nm, w, F, T, rfl, h2, h3⟩ := ih (by omega) x b e hn; exact ⟨ps, nm, _, F, T, rfl, .fS h2, h3⟩
  | fS0 _ => intro ha x b e; cases e
  | @fN f a k its parts name r h1 _ ih =>
    intro ha x b e hn
    have h0 := uC (t := t) (a := a) (by rw [h1]; decide)
    simp only [nmC] at hn
    obtain ⟨ps, nm, w, F, T, rfl, h2, h3⟩ := ih (by omega) x b e (by omega)
    have h4 := h3 (by omega)
    subst h4
    exact ⟨ps, _, _, F, T, rfl, .fN ((v3a tf hm h0).nm h1) h2, fun h => by simp [nmC] at h⟩
  | fN0 _ => intro ha x b e; cases e
  | fX hd _ ih =>
    intro ha x b e hn
    have q := hd.inR ha; simp only [InR] at q
    obtain ⟨w1, p1, -⟩ := v5Q tf hm hd ha _ _ rfl
    obtain ⟨ps, nm, w, F, T, rfl, h2, h3⟩ := ih q.2 x b e hn
    exact ⟨_ :: ps, nm, _, F, T, by simp, .fX p1 h2, h3⟩
  | fX0 _ => intro ha x b e; cases e
  | @fT f a k its parts name r h1 _ ih =>
    intro ha x b e hn
    have q : a < (z4Y t a).2.1 ∧ (z4Y t a).2.1 ≤ t.length := y2l (t.length + 1) t a (by omega) h1
    obtain ⟨w1, p1⟩ := v2N tf hm (t.length + 1) a (by omega) h1
    obtain ⟨ps, nm, w, F, T, rfl, h2, h3⟩ := ih q.2 x b e hn
    exact ⟨_ :: ps, nm, _, F, T, by simp, .fT p1 h2, h3⟩
  | fT0 _ => intro ha x b e; cases e
  | fK hd _ ih1 ih2 =>
    intro ha x b e hn
    have q := hd.inS ha; simp only [InS] at q
    obtain ⟨w1, p1⟩ := ih1 ha _ _ rfl
    obtain ⟨ps, nm, w, F, T, rfl, h2, h3⟩ := ih2 q.2 x b e hn
    exact ⟨_ :: ps, nm, _, F, T, by simp, .fK p1 h2, h3⟩
  | fK0 _ _ => intro ha x b e; cases e
  | fE0 _ _ => intro ha x b e; cases e
  | @fE1 f a b0 k its parts name x0 r hd _ _ ih1 ih2 =>
    intro ha x b e hn
    have q := hd.inS ha; simp only [InS] at q
    obtain ⟨w1, p1⟩ := ih1 ha _ _ rfl
    obtain ⟨ps, nm, w, F, T, rfl, h2, h3⟩ := ih2 q.2 x b e hn
    exact ⟨x0 :: z6i (zP t (b0 - 1)).To :: ps, nm, _, F, T, by simp, .fE1 p1 h2, h3⟩
  | @fE2 f a b0 c k its parts name x0 y0 r hd hw hd2 _ ih1 ih2 ih3 =>
    intro ha x b e hn
    have hb := uU hw
    have q := hd.inS ha; simp only [InS] at q
    have q2 := hd2.inS (by omega); simp only [InS] at q2
    obtain ⟨w1, p1⟩ := ih1 ha _ _ rfl
    obtain ⟨w2, p2⟩ := ih2 (by omega) _ _ rfl
    obtain ⟨ps, nm, w, F, T, rfl, h2, h3⟩ := ih3 q2.2 x b e hn
    by_cases hy : y0.L = []
    · have : ∃ F T, y0 = ⟨29, 0, [], [], F, T⟩ := v5M p2 hy
      obtain ⟨F', T', rfl⟩ := this
      exact ⟨x0 :: ⟨29, 0, [], [], F', T'⟩ :: ps, nm, _, F, T, by simp, .fE1 p1 h2, h3⟩
    · exact ⟨x0 :: y0 :: ps, nm, _, F, T, by simp, .fE2 p1 p2 hy h2, h3⟩
  | fE3 _ _ _ _ _ => intro ha x b e; cases e
end
inductive PN : zD → List Str → Prop
  | mk {s : Str} {x : zD} {w : List Str} {F T : Int} : Nm s → PT x w → PN ⟨34, 0, s, [x], F, T⟩ ([s, [58]] ++ w)
inductive PNs : List zD → List Str → Prop
  | one {x : zD} {w : List Str} : PN x w → PNs [x] w
  | cons {x : zD} {l : List zD} {w wl : List Str} : PN x w → PNs l wl → PNs (x :: l) (w ++ [[44]] ++ wl)
inductive PFs : List zD → List Str → Prop
  | nil : PFs [] []
  | cons {x : zD} {l : List zD} {w wl : List Str} : PN x w → PFs l wl → PFs (x :: l) (w ++ [[59]] ++ wl)
inductive PL : zD → List Str → Prop
  | num {n : Nat} {F T : Int} : n ≤ 9223372036854775807 → Tok 2 n [] (y1p n) → PL ⟨5, (n : Int), [], [], F, T⟩ [y1p n]
  | tru {F T : Int} : PL ⟨6, 1, [], [], F, T⟩ [[116, 114, 117, 101]]
  | fal {F T : Int} : PL ⟨6, 0, [], [], F, T⟩ [[102, 97, 108, 115, 101]]
theorem PL.pr {x : zD} {w : List Str} (h : PL x w) : PR (.ex x) w := by
  cases h with
  | num h1 h2 => exact .num h1 h2
  | tru => exact .tru
  | fal => exact .fal
inductive PD : zD → List Str → Prop
  | rcd {s : Str} {l : List zD} {w : List Str} {F T : Int} : Nm s → l ≠ [] → PFs l w → PD ⟨30, 0, s, l, F, T⟩ ([[114, 101, 99], s, [123]] ++ w ++ [[125]])
  | const {s : Str} {x : zD} {w : List Str} {F T : Int} : Nm s → PL x w → PD ⟨31, 0, s, [x], F, T⟩ ([[99, 111, 110, 115, 116], s, [61]] ++ w ++ [[59]])
  | var {s : Str} {x : zD} {w : List Str} {F T : Int} : Nm s → PT x w → PD ⟨32, 0, s, [x], F, T⟩ ([[118, 97, 114], s, [58]] ++ w ++ [[59]])
  | fn0 {n : Int} {s : Str} {x y : zD} {wx wy : List Str} {F T F' T' : Int} : n = 0 ∨ n = 1 → Nm s → PT x wx → PS (.bl y) wy → PD ⟨33, n, s, [⟨35, 0, [], [], F', T'⟩, x, y], F, T⟩ ((if n = 1 then [[112, 117, 98]] else []) ++ [[102, 110], s, [40]] ++ [] ++ [[41], [58]] ++ wx ++ wy)
  | fn {n : Int} {s : Str} {l : List zD} {x y : zD} {wl wx wy : List Str} {F T F' T' : Int} : n = 0 ∨ n = 1 → Nm s → PNs l wl → PT x wx → PS (.bl y) wy → PD ⟨33, n, s, [⟨35, 0, [], l, F', T'⟩, x, y], F, T⟩ ((if n = 1 then [[112, 117, 98]] else []) ++ [[102, 110], s, [40]] ++ wl ++ [[41], [58]] ++ wx ++ wy)
inductive PDs : List zD → List (List Str) → Prop
  | nil : PDs [] []
  | snoc {l : List zD} {x : zD} {ws : List (List Str)} {w : List Str} : PDs l ws → PD x w → PDs (l ++ [x]) (ws ++ [w])
theorem PNs.snoc {l : List zD} {w : List Str} (h : PNs l w) {x : zD} {wx : List Str} (hx : PN x wx) : ∃ w', PNs (l ++ [x]) w' := by
  induction h with
  | one h1 => exact ⟨_, .cons h1 (.one hx)⟩
  | cons h1 _ ih => obtain ⟨w', h'⟩ := ih; exact ⟨_, .cons h1 h'⟩
theorem PFs.snoc {l : List zD} {w : List Str} (h : PFs l w) {x : zD} {wx : List Str} (hx : PN x wx) : ∃ w', PFs (l ++ [x]) w' := by
  induction h with
  | nil => exact ⟨_, .cons hx .nil⟩
  | cons h1 _ ih => obtain ⟨w', h'⟩ := ih; exact ⟨_, .cons h1 h'⟩
def v7a (x : zD) : Prop := ∃ F T l, x = ⟨35, 0, [], l, F, T⟩ ∧ (l = [] ∨ ∃ w, PNs l w)
structure Tk (t : List zB) (n : Nat) : Prop where
  mon : Mon t
  len : n + 1 = t.length
  lst : (zP t n).K = 5
  room : t.length ≤ 1048576
  tf : TF t
theorem Tk.ln {t : List zB} {n : Nat} (h : Tk t n) : Lst t n := fun i hi => by
  by_cases e : i = n
  · subst e; exact h.lst
  · unfold zP; have := h.len; rw [List.getElem?_eq_none (by omega)]; rfl
theorem Tk.idx {t : List zB} {n : Nat} (h : Tk t n) {a : Nat} (ha : a ≤ n) : idx t (a : Int) = some (zP t a) := by
  have := h.len
  rw [z3D (show a < t.length by omega)]; unfold zP; rw [List.getElem?_eq_getElem (show a < t.length by omega)]; rfl
def G (t : List zB) (a b : Nat) (x : zD) : Prop := Bt t a b x ∧ jB x + 400 * a ≤ 400 * b ∧ a < b
def LL (c : Nat) (t : List zB) (f a : Nat) (l : List zD) : Prop := CH t f a l ∧ yR l + 400 * f + c ≤ 400 * a ∧ f + l.length ≤ a
theorem LL.nil {c : Nat} {t : List zB} {f a : Nat} (h : 400 * f + c ≤ 400 * a) : LL c t f a [] := ⟨CH.nil _ _ _, by simp only [yR]; omega, by simp; omega⟩
theorem y9d (l : List zD) (x : zD) : yR (l ++ [x]) = yR l + jB x := by rw [z8Q]; simp [yR]
section
variable {t : List zB} {n : Nat} (tk : Tk t n)
include tk
theorem LL.step {c f a a' : Nat} {l : List zD} (h : LL c t f a l) (h1 : a ≤ a') (h2 : a' ≤ n) : LL c t f a' l := by
  obtain ⟨g1, g2, g3⟩ := h
  have := tk.len
  exact ⟨g1.step tk.mon h1 (by omega), by omega, by omega⟩
theorem LL.snoc {c f a b : Nat} {l : List zD} {x : zD} (h : LL c t f a l) (hx : G t a b x) (h2 : b ≤ n) : LL c t f b (l ++ [x]) := by
  obtain ⟨g1, g2, g3⟩ := h
  obtain ⟨x1, x2, x3⟩ := hx
  have := tk.len
  exact ⟨g1.snoc tk.mon (by omega) x3 (by omega) x1, by rw [y9d]; omega, by rw [List.length_append]; simp only [List.length_cons, List.length_nil]; omega⟩
theorem LL.mk {f b : Nat} {l : List zD} {k m : Int} {s : Str} (h : LL 1 t f b l) (h2 : b ≤ n) : G t f b ⟨k, m, s, l, (zP t f).From, (zP t (b - 1)).To⟩ := by
  obtain ⟨g1, g2, g3⟩ := h
  have := tk.len
  exact ⟨g1.mk (k := k) (n := m) (s := s) tk.mon (by omega) (by omega), by simp only [jB]; omega, by omega⟩
variable (K N : Int) (S : Str) (L : List zD) (F T : Int)
def Ret {α : Type} (t : List zB) (n : Nat) (K N : Int) (S : Str) (L : List zD) (F T : Int) (a : Nat) (e : Int) (p : Option (α × List zB × Int × Int × Int × Int × Str × List zD × Int × Int)) (P : α → Nat → Prop) : Prop :=
  ∃ (x : α) (b : Nat) (e' : Int), p = some (x, t, (b : Int), e', K, N, S, L, F, T) ∧ a ≤ b ∧ b ≤ n ∧ (e' = 0 → e = 0 ∧ P x b)
def y0s (t : List zB) (k : Int) (s : Str) (a : Nat) : Bool := decide ((zP t a).K = k) && ((zP t a).S == s)
theorem z7l {k : Int} {s : Str} {a : Nat} (hk : k ≠ 5) (h : y0s t k s a = true) : a < n := z2H tk.ln (by
  unfold y0s at h
  simp only [Bool.and_eq_true, decide_eq_true_eq] at h
  rw [h.1]; exact hk)
theorem z9q (k : Int) (s : Str) {a : Nat} (e : Int) (ha : a ≤ n) : jV k s t a e K N S L F T = some (y0s t k s a) := by
  unfold jV y0s
  rw [tk.idx ha, zA]
  by_cases h : (zP t a).K = k
  · rw [if_pos h, zA, decide_eq_true h]; rfl
  · rw [if_neg h, decide_eq_false h]; rfl
theorem y5t {a : Nat} (ha : a ≤ n) : IntKind.wrap .i64 ((a : Int) + 1) = ((a + 1 : Nat) : Int) := by
  have := tk.len; have := tk.room
  rw [z3B (by omega) (by omega)]; omega
theorem z6n (k : Int) (s : Str) {a : Nat} {e : Int} (ha : a ≤ n) (he : e = 0) (h : y0s t k s a = true) : gS k s t a e K N S L F T = some (true, t, ((a + 1 : Nat) : Int), e, K, N, S, L, F, T) := by
  unfold gS
  rw [if_pos he, z9q tk K N S L F T k s e ha, zA, if_pos h, y5t tk ha]
theorem y0x (k : Int) (s : Str) {a : Nat} {e : Int} (ha : a ≤ n) (h : ¬ (e = 0 ∧ y0s t k s a = true)) : gS k s t a e K N S L F T = some (false, t, (a : Int), e, K, N, S, L, F, T) := by
  unfold gS
  by_cases he : e = 0
  · rw [if_pos he, z9q tk K N S L F T k s e ha, zA, if_neg (fun g => h ⟨he, g⟩)]
  · rw [if_neg he]
theorem z3s (k : Int) (s : Str) {a : Nat} (e : Int) (hk : k ≠ 5) (ha : a ≤ n) : ∃ (b : Nat) (e' : Int), yM k s t a e K N S L F T = some (t, (b : Int), e', K, N, S, L, F, T) ∧ a ≤ b ∧ b ≤ n ∧ (e' = 0 → e = 0 ∧ b = a + 1) := by
  unfold yM
  by_cases he : e = 0
  · rw [if_pos he]
    by_cases h : y0s t k s a = true
    · rw [z6n tk K N S L F T k s ha he h, zA, if_pos rfl]
      have := z7l tk hk h
      exact ⟨a + 1, e, rfl, by omega, by omega, fun _ => ⟨he, rfl⟩⟩
    · rw [y0x tk K N S L F T k s ha (fun g => h g.2), zA]; dsimp only
      rw [if_neg (by decide)]
      exact ⟨a, 6, rfl, by omega, ha, fun g => absurd g (by decide)⟩
  · rw [if_neg he]
    exact ⟨a, e, rfl, by omega, ha, fun g => absurd g he⟩
theorem y4O {a : Nat} (e : Int) (ha : a ≤ n) : Ret t n K N S L F T a e (wY t a e K N S L F T) (fun s b => b = a + 1 ∧ Nm s) := by
  unfold wY
  by_cases he : e = 0
  · rw [if_pos he, tk.idx ha, zA]
    by_cases h : (zP t a).K = 1
    · have h0 := z2H tk.ln (a := a) (by rw [h]; decide)
      have h1 := tk.len
      have h2 := tk.room
      rw [if_pos h, y5t tk ha, z3B (by omega) (by omega), show ((a + 1 : Nat) : Int) - 1 = (a : Int) by omega, tk.idx ha, zA]
      exact ⟨_, a + 1, e, rfl, by omega, by omega, fun _ => ⟨he, rfl, (y2Q tk.tf tk.mon h).2.1⟩⟩
    · rw [if_neg h]
      exact ⟨_, a, 6, rfl, by omega, ha, fun g => absurd g (by decide)⟩
  · rw [if_neg he]
    exact ⟨_, a, e, rfl, by omega, ha, fun g => absurd g he⟩
theorem z7n (k m : Int) (s : Str) {f b : Nat} (l : List zD) (e : Int) (hb : b ≤ n) (h : e = 0 → LL 1 t f b l) : ∃ x, wA k m s f l t b e K N S L F T = some x ∧ (e = 0 → G t f b x ∧ ∃ F' T', x = ⟨k, m, s, l, F', T'⟩) := by
  unfold wA
  by_cases he : e = 0
  · have g := h he
    have g2 := g.2.2
    have g1 := g.2.1
    have h1 := tk.len
    have h2 := tk.room
    rw [if_pos he, tk.idx (show f ≤ n by omega), zA, z3B (by omega) (by omega), show (b : Int) - 1 = ((b - 1 : Nat) : Int) by omega, tk.idx (show b - 1 ≤ n by omega), zA]
    exact ⟨_, rfl, fun _ => ⟨LL.mk tk g hb, _, _, rfl⟩⟩
  · rw [if_neg he]
    exact ⟨_, rfl, fun g => absurd g he⟩
theorem y9f {a : Nat} (e : Int) (ha : a ≤ n) : Ret t n K N S L F T a e (vK t a e K N S L F T) (fun x b => G t a b x ∧ ∃ w, PT x w) := by
  have h1 := tk.len
  have h2 := tk.room
  unfold vK
  by_cases he : e = 0
  · rw [if_pos he]
    unfold z5l z0d
    obtain ⟨x, e1, e2⟩ := y6F t (by omega) (t.length + 1) a (by omega) (by omega)
    rw [if_neg (by omega), if_neg (by omega), e1, zA]
    dsimp only
    by_cases h3 : (typ (t.length + 1) t a).2.2 = 0
    · have q := y9e tk.ln (t.length + 1) a (by omega) h3
      obtain ⟨g1, g2⟩ := v0a tk.mon (t.length + 1) a (by omega) h3
      rw [if_pos h3, zA, zA, e2 h3]
      exact ⟨(typ (t.length + 1) t a).1, (typ (t.length + 1) t a).2.1, 0, rfl, by omega, q.2, fun _ => ⟨he, ⟨g1, by omega, q.1⟩, v2N tk.tf tk.mon (t.length + 1) a (by omega) h3⟩⟩
    · have q := y2V tk.ln (t.length + 1) a (by omega) ha h3
      rw [if_neg h3, zA, zA]
      exact ⟨_, (typ (t.length + 1) t a).2.1, _, rfl, q.1, q.2, fun g => absurd g h3⟩
  · rw [if_neg he]
    exact ⟨_, a, e, rfl, by omega, ha, fun g => absurd g he⟩
theorem v3g {a : Nat} (e : Int) (ha : a ≤ n) : Ret t n K N S L F T a e (vX t a e K N S L F T) (fun x b => G t a b x ∧ ∃ w, PS (.bl x) w) := by
  have h1 := tk.len
  have h2 := tk.room
  unfold vX
  by_cases he : e = 0
  · rw [if_pos he]
    obtain ⟨r, hr⟩ := (v3T t (t.length - a) a (by omega)).2
    rw [y8g t (by omega) a (by omega) hr, zA]
    have q := hr.inSn tk.ln (show n < t.length by omega) ha
    cases r with
    | ok x b =>
      simp only [y3k] at q
      have g1 := v0f tk.mon hr (by omega) x b rfl
      have g2 : jB x + 400 * a + 500 ≤ 400 * b := v0K tk.mon hr (by omega) x b rfl
      exact ⟨x, b, 0, rfl, by omega, q.2, fun _ => ⟨he, ⟨g1, by omega, q.1⟩, v0F tk.tf tk.mon hr (by omega) x b rfl⟩⟩
    | bad b =>
      simp only [y3k] at q
      exact ⟨zT7, b, 6, rfl, q.1, q.2, fun g => absurd g (by decide)⟩
  · rw [if_neg he]
    exact ⟨_, a, e, rfl, by omega, ha, fun g => absurd g he⟩
end
section
variable {t : List zB} {n : Nat} (tk : Tk t n) (K N : Int) (S : Str) (L : List zD) (F T : Int)
include tk
theorem y8T {a : Nat} (e : Int) (ha : a ≤ n) : Ret t n K N S L F T a e (gR t a e K N S L F T) (fun x b => G t a b x ∧ ∃ w, PN x w) := by
  unfold gR
  obtain ⟨s, b1, e1, h1, l1, m1, P1⟩ := y4O tk K N S L F T e ha
  rw [h1, zA]; dsimp only
  obtain ⟨b2, e2, h2, l2, m2, P2⟩ := z3s tk K N S L F T 4 [58] e1 (by decide) m1
  rw [h2, zA]; dsimp only
  obtain ⟨x3, b3, e3, h3, l3, m3, P3⟩ := y9f tk K N S L F T e2 m2
  rw [h3, zA]; dsimp only
  obtain ⟨x, h4, P4⟩ := z7n tk K N S L F T 34 0 s (f := a) (b := b3) [x3] e3 m3 (fun h => by
    obtain ⟨q3, g3⟩ := P3 h
    obtain ⟨q2, g2⟩ := P2 q3
    obtain ⟨q1, g1⟩ := P1 q2
    exact LL.snoc tk (l := []) (LL.nil (a := b2) (by omega)) g3.1 m3)
  rw [h4, zA]
  refine ⟨x, b3, e3, rfl, by omega, m3, fun h => ⟨(P1 (P2 (P3 h).1).1).1, (P4 h).1, ?_⟩⟩
  obtain ⟨-, F', T', rfl⟩ := P4 h
  obtain ⟨q3, -, w, hw⟩ := P3 h
  exact ⟨_, .mk (P1 (P2 q3).1).2.2 hw⟩
theorem v2a {out : List zD} {a : Int} {e : Int} (h : e ≠ 0) : zH out t a e K N S L F T = some (out, t, a, e, K, N, S, L, F, T) := by
  rw [wL]; unfold yA
  rw [if_neg h]
theorem v5m {c f a : Nat} {l : List zD} {x : zD} (h : LL c t f a l) (ha : a ≤ n) : z4F 72 (List.length l + List.length [x]) := by
  have := h.2.2; have := tk.len; have := tk.room
  exact y8f (by simp only [List.length_cons, List.length_nil]; omega)
theorem v1Z {c f : Nat} : ∀ (k : Nat) (out : List zD) (a : Nat) (e : Int), n < a + k → a ≤ n → (e = 0 → LL c t f a out ∧ ∃ w, PNs out w) → Ret t n K N S L F T a e (zH out t a e K N S L F T) (fun l b => LL c t f b l ∧ ∃ w, PNs l w) := by
  intro k
  induction k with
  | zero => intro out a e h1 h2; omega
  | succ k ih =>
    intro out a e h1 h2 hl
    by_cases he : e = 0
    · rw [wL]; unfold yA z1A
      rw [if_pos he]
      by_cases h : y0s t 4 [44] a = true
      · have hlt := z7l tk (by decide) h
        rw [z6n tk K N S L F T 4 [44] h2 he h, zA, zA]; dsimp only
        rw [if_pos rfl]
        obtain ⟨x, b, e1, h3, l3, m3, P3⟩ := y8T tk K N S L F T (a := a + 1) e (by omega)
        rw [h3, zA]; dsimp only
        rw [if_pos (v5m tk (hl he).1 h2)]
        obtain ⟨y, b', e2, h4, l4, m4, P4⟩ := ih (out ++ [x]) b e1 (by omega) m3 (fun h => ⟨LL.snoc tk (LL.step tk (hl he).1 (show a ≤ a + 1 by omega) (by omega)) (P3 h).2.1 m3, by
          obtain ⟨w, hw⟩ := (hl he).2
          obtain ⟨w', hw'⟩ := (P3 h).2.2
          exact hw.snoc hw'⟩)
        exact ⟨y, b', e2, h4, by omega, m4, fun h => ⟨he, (P4 h).2⟩⟩
      · rw [y0x tk K N S L F T 4 [44] h2 (fun g => h g.2), zA, zA]; dsimp only
        rw [if_neg (by decide)]
        exact ⟨_, a, e, rfl, by omega, h2, fun _ => ⟨he, hl he⟩⟩
    · rw [v2a tk K N S L F T he]
      exact ⟨_, a, e, rfl, by omega, h2, fun g => absurd g he⟩
theorem v1X {a : Nat} (e : Int) (ha : a ≤ n) : Ret t n K N S L F T a e (wG t a e K N S L F T) (fun x b => G t a b x ∧ v7a x) := by
  unfold wG
  obtain ⟨b1, e1, h1, l1, m1, P1⟩ := z3s tk K N S L F T 4 [40] e (by decide) ha
  rw [h1, zA]; dsimp only
  by_cases h : e1 = 0 ∧ y0s t 4 [41] b1 = true
  · have hlt := z7l tk (by decide) h.2
    rw [z6n tk K N S L F T 4 [41] m1 h.1 h.2, zA]; dsimp only
    rw [if_pos rfl]
    obtain ⟨x, h4, P4⟩ := z7n tk K N S L F T 35 0 [] (f := a) (b := b1 + 1) [] e1 (by omega) (fun h => LL.nil (by have := P1 h; omega))
    rw [h4, zA]
    refine ⟨x, b1 + 1, e1, rfl, by omega, by omega, fun h => ⟨(P1 h).1, (P4 h).1, ?_⟩⟩
    obtain ⟨-, F', T', rfl⟩ := P4 h
    exact ⟨F', T', [], rfl, .inl rfl⟩
  · rw [y0x tk K N S L F T 4 [41] m1 h, zA]; dsimp only
    rw [if_neg (by decide)]
    unfold wE
    obtain ⟨x, b2, e2, h2, l2, m2, P2⟩ := y8T tk K N S L F T e1 m1
    rw [h2, zA]; dsimp only
    obtain ⟨y, b3, e3, h3, l3, m3, P3⟩ := v1Z (c := 1) (f := a) tk K N S L F T (n + 1) [x] b2 e2 (by omega) m2 (fun h => by
      obtain ⟨q2, g2, w, hw⟩ := P2 h
      have := (P1 q2).2
      exact ⟨LL.snoc tk (l := []) (LL.nil (a := b1) (by omega)) g2 m2, _, .one hw⟩)
    rw [h3, zA]; dsimp only
    obtain ⟨b4, e4, h4, l4, m4, P4⟩ := z3s tk K N S L F T 4 [41] e3 (by decide) m3
    rw [h4, zA]; dsimp only
    obtain ⟨z, h5, P5⟩ := z7n tk K N S L F T 35 0 [] (f := a) (b := b4) y e4 m4 (fun h => LL.step tk (P3 (P4 h).1).2.1 l4 m4)
    rw [h5, zA]
    refine ⟨z, b4, e4, rfl, by omega, m4, fun h => ⟨(P1 (P2 (P3 (P4 h).1).1).1).1, (P5 h).1, ?_⟩⟩
    obtain ⟨-, F', T', rfl⟩ := P5 h
    exact ⟨F', T', y, rfl, .inr (P3 (P4 h).1).2.2⟩
theorem v1k {a b0 : Nat} (k : Int) (hk : k = 0 ∨ k = 1) (e e0 : Int) (hb : b0 ≤ n) (hab : a ≤ b0) (h0 : e0 = 0 → e = 0 ∧ a < b0) : Ret t n K N S L F T a e (
    wY t b0 e0 K N S L F T >>= fun q3 =>
    wG q3.2.1 q3.2.2.1 q3.2.2.2.1 q3.2.2.2.2.1 q3.2.2.2.2.2.1 q3.2.2.2.2.2.2.1 q3.2.2.2.2.2.2.2.1 q3.2.2.2.2.2.2.2.2.1 q3.2.2.2.2.2.2.2.2.2 >>= fun q4 =>
    yM 4 ([58] : List UInt8) q4.2.1 q4.2.2.1 q4.2.2.2.1 q4.2.2.2.2.1 q4.2.2.2.2.2.1 q4.2.2.2.2.2.2.1 q4.2.2.2.2.2.2.2.1 q4.2.2.2.2.2.2.2.2.1 q4.2.2.2.2.2.2.2.2.2 >>= fun q5 =>
    vK q5.1 q5.2.1 q5.2.2.1 q5.2.2.2.1 q5.2.2.2.2.1 q5.2.2.2.2.2.1 q5.2.2.2.2.2.2.1 q5.2.2.2.2.2.2.2.1 q5.2.2.2.2.2.2.2.2 >>= fun q6 =>
    vX q6.2.1 q6.2.2.1 q6.2.2.2.1 q6.2.2.2.2.1 q6.2.2.2.2.2.1 q6.2.2.2.2.2.2.1 q6.2.2.2.2.2.2.2.1 q6.2.2.2.2.2.2.2.2.1 q6.2.2.2.2.2.2.2.2.2 >>= fun q7 =>
    wA 33 k q3.1 a [q4.1, q6.1, q7.1] q7.2.1 q7.2.2.1 q7.2.2.2.1 q7.2.2.2.2.1 q7.2.2.2.2.2.1 q7.2.2.2.2.2.2.1 q7.2.2.2.2.2.2.2.1 q7.2.2.2.2.2.2.2.2.1 q7.2.2.2.2.2.2.2.2.2 >>= fun q8 =>
    some (q8, q7.2.1, q7.2.2.1, q7.2.2.2.1, q7.2.2.2.2.1, q7.2.2.2.2.2.1, q7.2.2.2.2.2.2.1, q7.2.2.2.2.2.2.2.1, q7.2.2.2.2.2.2.2.2.1, q7.2.2.2.2.2.2.2.2.2)) (fun x b => G t a b x ∧ ∃ w, PD x w) := by
  obtain ⟨s, b1, e1, h1, l1, m1, P1⟩ := y4O tk K N S L F T e0 hb
  rw [h1, zA]; dsimp only
  obtain ⟨x2, b2, e2, h2, l2, m2, P2⟩ := v1X tk K N S L F T e1 m1
  rw [h2, zA]; dsimp only
  obtain ⟨b3, e3, h3, l3, m3, P3⟩ := z3s tk K N S L F T 4 [58] e2 (by decide) m2
  rw [h3, zA]; dsimp only
  obtain ⟨x4, b4, e4, h4, l4, m4, P4⟩ := y9f tk K N S L F T e3 m3
  rw [h4, zA]; dsimp only
  obtain ⟨x5, b5, e5, h5, l5, m5, P5⟩ := v3g tk K N S L F T e4 m4
  rw [h5, zA]; dsimp only
  obtain ⟨x, h6, P6⟩ := z7n tk K N S L F T 33 k s (f := a) (b := b5) [x2, x4, x5] e5 m5 (fun h => by
    obtain ⟨q4, g5⟩ := P5 h
    obtain ⟨q3, g4⟩ := P4 q4
    obtain ⟨q2, g3⟩ := P3 q3
    obtain ⟨q1, g2⟩ := P2 q2
    obtain ⟨q0, g1⟩ := P1 q1
    have := (h0 q0).2
    have c1 := LL.snoc tk (l := []) (LL.nil (c := 1) (f := a) (a := b1) (by omega)) g2.1 m2
    have c2 := LL.snoc tk (LL.step tk c1 l3 m3) g4.1 m4
    exact LL.snoc tk c2 g5.1 m5)
  rw [h6, zA]
  refine ⟨x, b5, e5, rfl, by omega, m5, fun h => ⟨(h0 (P1 (P2 (P3 (P4 (P5 h).1).1).1).1).1).1, (P6 h).1, ?_⟩⟩
  obtain ⟨-, F', T', rfl⟩ := P6 h
  obtain ⟨q4, -, wb, hwb⟩ := P5 h
  obtain ⟨q3, -, wt, hwt⟩ := P4 q4
  obtain ⟨q2, -⟩ := P3 q3
  obtain ⟨q1, -, F2, T2, l, rfl, hl⟩ := P2 q2
  rcases hl with rfl | ⟨wl, hl⟩
  · exact ⟨_, .fn0 hk (P1 q1).2.2 hwt hwb⟩
  · exact ⟨_, .fn hk (P1 q1).2.2 hl hwt hwb⟩
theorem y4B {a : Nat} (e : Int) (ha : a ≤ n) : Ret t n K N S L F T a e (jW t a e K N S L F T) (fun x b => G t a b x ∧ ∃ w, PD x w) := by
  unfold jW
  by_cases h : e = 0 ∧ y0s t 3 [112, 117, 98] a = true
  · have hlt := z7l tk (by decide) h.2
    rw [z6n tk K N S L F T 3 _ ha h.1 h.2, zA]; dsimp only
    rw [if_pos rfl]
    obtain ⟨b1, e1, h1, l1, m1, P1⟩ := z3s tk K N S L F T 3 [102, 110] (a := a + 1) e (by decide) (by omega)
    rw [h1, zA]; dsimp only
    exact v1k tk K N S L F T 1 (.inr rfl) e e1 m1 (by omega) (fun h => ⟨(P1 h).1, by omega⟩)
  · rw [y0x tk K N S L F T 3 _ ha h, zA]; dsimp only
    rw [if_neg (by decide)]
    obtain ⟨b1, e1, h1, l1, m1, P1⟩ := z3s tk K N S L F T 3 [102, 110] e (by decide) ha
    rw [h1, zA]; dsimp only
    exact v1k tk K N S L F T 0 (.inl rfl) e e1 m1 (by omega) (fun h => ⟨(P1 h).1, by have := (P1 h).2; omega⟩)
theorem v1m {a : Nat} (e : Int) (ha : a < n) : Ret t n K N S L F T a e (z1j t a e K N S L F T) (fun x b => G t a b x ∧ ∃ w, PD x w) := by
  unfold z1j
  rw [y5t tk (by omega)]
  obtain ⟨s, b1, e1, h1, l1, m1, P1⟩ := y4O tk K N S L F T (a := a + 1) e (by omega)
  rw [h1, zA]; dsimp only
  obtain ⟨b2, e2, h2, l2, m2, P2⟩ := z3s tk K N S L F T 4 [58] e1 (by decide) m1
  rw [h2, zA]; dsimp only
  obtain ⟨x3, b3, e3, h3, l3, m3, P3⟩ := y9f tk K N S L F T e2 m2
  rw [h3, zA]; dsimp only
  obtain ⟨b4, e4, h4, l4, m4, P4⟩ := z3s tk K N S L F T 4 [59] e3 (by decide) m3
  rw [h4, zA]; dsimp only
  obtain ⟨x, h5, P5⟩ := z7n tk K N S L F T 32 0 s (f := a) (b := b4) [x3] e4 m4 (fun h => by
    obtain ⟨q3, g4⟩ := P4 h
    obtain ⟨q2, g3⟩ := P3 q3
    exact LL.step tk (LL.snoc tk (l := []) (LL.nil (a := b2) (by omega)) g3.1 m3) l4 m4)
  rw [h5, zA]
  refine ⟨x, b4, e4, rfl, by omega, m4, fun h => ⟨(P1 (P2 (P3 (P4 h).1).1).1).1, (P5 h).1, ?_⟩⟩
  obtain ⟨-, F', T', rfl⟩ := P5 h
  obtain ⟨q3, -, w, hw⟩ := P3 (P4 h).1
  exact ⟨_, .var (P1 (P2 q3).1).2.2 hw⟩
theorem y9u {a : Nat} (e : Int) (ha : a ≤ n) : Ret t n K N S L F T a e (z0v t a e K N S L F T) (fun x b => ∃ c, c + 1 = b ∧ G t a c x ∧ ∃ w, PN x w) := by
  unfold z0v
  obtain ⟨x, b1, e1, h1, l1, m1, P1⟩ := y8T tk K N S L F T e ha
  rw [h1, zA]; dsimp only
  obtain ⟨b2, e2, h2, l2, m2, P2⟩ := z3s tk K N S L F T 4 [59] e1 (by decide) m1
  rw [h2, zA]
  exact ⟨x, b2, e2, rfl, by omega, m2, fun h => ⟨(P1 (P2 h).1).1, b1, (P2 h).2.symm, (P1 (P2 h).1).2⟩⟩
theorem y5G {out : List zD} {a : Int} {e : Int} (h : e ≠ 0) : zG out t a e K N S L F T = some (out, t, a, e, K, N, S, L, F, T) := by
  rw [wJ]; unfold zZ
  rw [if_neg h]
theorem v0m {c f : Nat} : ∀ (k : Nat) (out : List zD) (a : Nat) (e : Int), n < a + k → a ≤ n → (e = 0 → LL c t f a out ∧ ∃ w, PFs out w) → Ret t n K N S L F T a e (zG out t a e K N S L F T) (fun l b => LL c t f b l ∧ (∃ w, PFs l w) ∧ out.length ≤ l.length) := by
  intro k
  induction k with
  | zero => intro out a e h1 h2; omega
  | succ k ih =>
    intro out a e h1 h2 hl
    by_cases he : e = 0
    · rw [wJ]; unfold zZ z1S
      rw [if_pos he, z9q tk K N S L F T 4 [125] e h2, zA, zA]
      by_cases h : (!y0s t 4 [125] a) = true
      · rw [if_pos h]
        obtain ⟨x, b, e1, h3, l3, m3, P3⟩ := y9u tk K N S L F T e h2
        rw [h3, zA]; dsimp only
        rw [if_pos (v5m tk (hl he).1 h2)]
        by_cases h5 : e1 = 0
        · obtain ⟨q, c', hc, g, w, hw⟩ := P3 h5
          have hlt := g.2.2
          obtain ⟨w0, hw0⟩ := (hl he).2
          obtain ⟨y, b', e2, h4, l4, m4, P4⟩ := ih (out ++ [x]) b e1 (by omega) m3 (fun _ => ⟨LL.step tk (LL.snoc tk (hl he).1 g (by omega)) (show c' ≤ b by omega) m3, hw0.snoc hw⟩)
          exact ⟨y, b', e2, h4, by omega, m4, fun h => ⟨he, (P4 h).2.1, (P4 h).2.2.1, by have := (P4 h).2.2.2; simp at this; omega⟩⟩
        · rw [y5G tk K N S L F T h5]
          exact ⟨_, b, e1, rfl, l3, m3, fun g => absurd g h5⟩
      · rw [if_neg h]
        exact ⟨_, a, e, rfl, by omega, h2, fun _ => ⟨he, (hl he).1, (hl he).2, Nat.le_refl _⟩⟩
    · rw [y5G tk K N S L F T he]
      exact ⟨_, a, e, rfl, by omega, h2, fun g => absurd g he⟩
theorem v2j {a : Nat} (e : Int) (ha : a < n) : Ret t n K N S L F T a e (z1k t a e K N S L F T) (fun x b => G t a b x ∧ ∃ w, PD x w) := by
  unfold z1k wD
  rw [y5t tk (by omega)]
  obtain ⟨s, b1, e1, h1, l1, m1, P1⟩ := y4O tk K N S L F T (a := a + 1) e (by omega)
  rw [h1, zA]; dsimp only
  obtain ⟨b2, e2, h2, l2, m2, P2⟩ := z3s tk K N S L F T 4 [123] e1 (by decide) m1
  rw [h2, zA]; dsimp only
  obtain ⟨x3, b3, e3, h3, l3, m3, P3⟩ := y9u tk K N S L F T e2 m2
  rw [h3, zA]; dsimp only
  obtain ⟨y, b4, e4, h4, l4, m4, P4⟩ := v0m (c := 1) (f := a) tk K N S L F T (n + 1) [x3] b3 e3 (by omega) m3 (fun h => by
    obtain ⟨q2, c', hc, g, w, hw⟩ := P3 h
    exact ⟨LL.step tk (LL.snoc tk (l := []) (LL.nil (a := b2) (by omega)) g (by omega)) (show c' ≤ b3 by omega) m3, _, .cons hw .nil⟩)
  rw [h4, zA]; dsimp only
  obtain ⟨b5, e5, h5, l5, m5, P5⟩ := z3s tk K N S L F T 4 [125] e4 (by decide) m4
  rw [h5, zA]; dsimp only
  obtain ⟨z, h6, P6⟩ := z7n tk K N S L F T 30 0 s (f := a) (b := b5) y e5 m5 (fun h => LL.step tk (P4 (P5 h).1).2.1 l5 m5)
  rw [h6, zA]
  refine ⟨z, b5, e5, rfl, by omega, m5, fun h => ⟨(P1 (P2 (P3 (P4 (P5 h).1).1).1).1).1, (P6 h).1, ?_⟩⟩
  obtain ⟨-, F', T', rfl⟩ := P6 h
  obtain ⟨q4, -, ⟨w, hw⟩, hl⟩ := P4 (P5 h).1
  exact ⟨_, .rcd (P1 (P2 (P3 q4).1).1).2.2 (fun e => by rw [e] at hl; simp at hl) hw⟩
end
theorem v1c {u : List zB} {k m : Int} {s : Str} (h : z0o u 0 = .one k m s) (h4 : (zP u 0).K ≠ 4) (h1 : u.length = 1) : Der u (.lev 1) 0 (.ok (uG u 0 1 ⟨k, m, s, [], 0, 0⟩) 1) := by
  have e1 : zP u 1 = v6Z := by unfold zP; rw [List.getElem?_eq_none (by omega)]; rfl
  have sg : ∀ s, yK u 1 s = false := fun s => by unfold yK; rw [e1]; rfl
  have op : (z6z (zP u 1)).2 = 0 := by rw [e1]; rfl
  have d6 : Der u (.lev 6) 0 (.ok (uG u 0 1 ⟨k, m, s, [], 0, 0⟩) 1) := .unP (v4r h4 _) (v4r h4 _) (.post (.one h) (.plE (sg _) (sg _)))
  have lev : ∀ k', 1 ≤ k' → k' ≤ 5 → Der u (.lev (k' + 1)) 0 (.ok (uG u 0 1 ⟨k, m, s, [], 0, 0⟩) 1) → Der u (.lev k') 0 (.ok (uG u 0 1 ⟨k, m, s, [], 0, 0⟩) 1) := fun k' h1 h2 hd => .lev h1 h2 hd (.llE h1 (.inl (by omega)))
  exact lev 1 (by omega) (by omega) (lev 2 (by omega) (by omega) (lev 3 (by omega) (by omega) (lev 4 (by omega) (by omega) (lev 5 (by omega) (by omega) d6))))
theorem v5X (x : zB) (tf : v5K x) (h : x.K = 2 ∨ (x.K = 3 ∧ (x.S = [116, 114, 117, 101] ∨ x.S = [102, 97, 108, 115, 101]))) : ∃ k m s, z0T [x] 0 = some (⟨k, m, s, [], x.From, x.To⟩, 1, 0) ∧ ∃ w, PL ⟨k, m, s, [], x.From, x.To⟩ w := by
  have e0 : zP [x] 0 = x := rfl
  have fin : ∀ {k m : Int} {s : Str}, z0o [x] 0 = .one k m s → (zP [x] 0).K ≠ 4 → (∃ w, PL ⟨k, m, s, [], x.From, x.To⟩ w) → ∃ k m s, z0T [x] 0 = some (⟨k, m, s, [], x.From, x.To⟩, 1, 0) ∧ ∃ w, PL ⟨k, m, s, [], x.From, x.To⟩ w := fun {k m s} h1 h2 h3 =>
    ⟨k, m, s, y4X [x] (by simp) 0 (by simp) (v1c h1 h2 rfl), h3⟩
  rcases h with h | ⟨h, h2 | h2⟩
  · obtain ⟨m, q1, q2, q3, -⟩ := tf.nu h
    refine fin (k := 5) (m := x.N) (s := []) ?_ (by rw [e0, h]; decide) ⟨_, by rw [q1]; exact .num q2 q3⟩
    unfold z0o; rw [if_pos (by rw [e0, h])]; rfl
  · refine fin (k := 6) (m := 1) (s := []) ?_ (by rw [e0, h]; decide) ⟨_, .tru⟩
    have hw : vC [x] 0 [116, 114, 117, 101] = true := by unfold vC; rw [e0, h, h2]; rfl
    unfold z0o; rw [if_neg (by rw [e0, h]; decide), if_neg (by rw [e0, h]; decide), if_pos hw]
  · refine fin (k := 6) (m := 0) (s := []) ?_ (by rw [e0, h]; decide) ⟨_, .fal⟩
    have hw : vC [x] 0 [102, 97, 108, 115, 101] = true := by unfold vC; rw [e0, h, h2]; rfl
    have hw2 : vC [x] 0 [116, 114, 117, 101] = false := y5s hw (by decide)
    unfold z0o; rw [if_neg (by rw [e0, h]; decide), if_neg (by rw [e0, h]; decide), if_neg (by rw [hw2]; decide), if_pos hw]
section
variable {t : List zB} {n : Nat} (tk : Tk t n) (K N : Int) (S : Str) (L : List zD) (F T : Int)
include tk
theorem v0C {a : Nat} (e : Int) (ha : a ≤ n) : Ret t n K N S L F T a e (z0q t a e K N S L F T) (fun x b => G t a b x ∧ ∃ w, PL x w) := by
  unfold z0q
  by_cases he : e = 0
  · rw [if_pos he, tk.idx ha, zA]
    have fin : a < n → ((zP t a).K = 2 ∨ ((zP t a).K = 3 ∧ ((zP t a).S = [116, 114, 117, 101] ∨ (zP t a).S = [102, 97, 108, 115, 101]))) → Ret t n K N S L F T a e
      (if (0 : Int) ≤ (IntKind.wrap .i64 ((a : Int) + 1)) then
       if Int.toNat (IntKind.wrap .i64 ((a : Int) + 1)) ≤ List.length t then
       if (0 : Int) ≤ (a : Int) then
       if Int.toNat (a : Int) ≤ Int.toNat (IntKind.wrap .i64 ((a : Int) + 1)) then
       z0T (List.drop (Int.toNat (a : Int)) (List.take (Int.toNat (IntKind.wrap .i64 ((a : Int) + 1))) t)) 0 >>= fun q5 =>
       some (q5.1, t, IntKind.wrap .i64 ((a : Int) + 1), e, K, N, S, L, F, T)
       else none
       else none
       else none
       else none) (fun x b => G t a b x ∧ ∃ w, PL x w) := fun hlt hx => by
      have h1 := tk.len
      obtain ⟨k, m, s, hp, hw⟩ := v5X (zP t a) (v3a tk.tf tk.mon (by omega)) hx
      have hsl : List.drop (Int.toNat (a : Int)) (List.take (Int.toNat ((a + 1 : Nat) : Int)) t) = [zP t a] := by
        rw [show Int.toNat (a : Int) = a from rfl, show Int.toNat ((a + 1 : Nat) : Int) = a + 1 from rfl, List.drop_take, show a + 1 - a = 1 by omega, List.drop_eq_getElem_cons (show a < t.length by omega)]
        unfold zP; rw [List.getElem?_eq_getElem (show a < t.length by omega)]; rfl
      rw [y5t tk ha, if_pos (by omega), if_pos (by omega), if_pos (by omega), if_pos (by omega), hsl, hp, zA]
      refine ⟨_, a + 1, e, rfl, by omega, by omega, fun _ => ⟨he, ⟨⟨Int.le_refl _, ?_, Int.le_refl _, .mk _ trivial (by simp)⟩, ?_, by omega⟩, hw⟩⟩
      · exact (tk.mon.le (Nat.le_refl a) (by omega)).1
      · simp only [jB, yR]; omega
    by_cases h2 : (zP t a).K = 2
    · rw [if_pos h2]
      exact fin (z2H tk.ln (by rw [h2]; decide)) (.inl h2)
    · rw [if_neg h2, z9q tk K N S L F T 3 _ e ha, zA]
      by_cases h3 : y0s t 3 [116, 114, 117, 101] a = true
      · rw [if_pos h3]
        exact fin (z7l tk (by decide) h3) (.inr ⟨(y5r h3).1, .inl (y5r h3).2⟩)
      · rw [if_neg h3, z9q tk K N S L F T 3 _ e ha, zA]
        by_cases h4 : y0s t 3 [102, 97, 108, 115, 101] a = true
        · rw [if_pos h4]
          exact fin (z7l tk (by decide) h4) (.inr ⟨(y5r h4).1, .inr (y5r h4).2⟩)
        · rw [if_neg h4]
          exact ⟨_, a, 6, rfl, by omega, ha, fun g => absurd g (by decide)⟩
  · rw [if_neg he]
    exact ⟨_, a, e, rfl, by omega, ha, fun g => absurd g he⟩
theorem v1b {a : Nat} (e : Int) (ha : a < n) : Ret t n K N S L F T a e (z1i t a e K N S L F T) (fun x b => G t a b x ∧ ∃ w, PD x w) := by
  unfold z1i
  rw [y5t tk (by omega)]
  obtain ⟨s, b1, e1, h1, l1, m1, P1⟩ := y4O tk K N S L F T (a := a + 1) e (by omega)
  rw [h1, zA]; dsimp only
  obtain ⟨b2, e2, h2, l2, m2, P2⟩ := z3s tk K N S L F T 4 [61] e1 (by decide) m1
  rw [h2, zA]; dsimp only
  obtain ⟨x3, b3, e3, h3, l3, m3, P3⟩ := v0C tk K N S L F T e2 m2
  rw [h3, zA]; dsimp only
  obtain ⟨b4, e4, h4, l4, m4, P4⟩ := z3s tk K N S L F T 4 [59] e3 (by decide) m3
  rw [h4, zA]; dsimp only
  obtain ⟨x, h5, P5⟩ := z7n tk K N S L F T 31 0 s (f := a) (b := b4) [x3] e4 m4 (fun h => by
    obtain ⟨q3, g4⟩ := P4 h
    obtain ⟨q2, g3⟩ := P3 q3
    exact LL.step tk (LL.snoc tk (l := []) (LL.nil (a := b2) (by omega)) g3.1 m3) l4 m4)
  rw [h5, zA]
  refine ⟨x, b4, e4, rfl, by omega, m4, fun h => ⟨(P1 (P2 (P3 (P4 h).1).1).1).1, (P5 h).1, ?_⟩⟩
  obtain ⟨-, F', T', rfl⟩ := P5 h
  obtain ⟨q3, -, w, hw⟩ := P3 (P4 h).1
  exact ⟨_, .const (P1 (P2 q3).1).2.2 hw⟩
theorem Ret.id {a : Nat} {e : Int} {p : Option (zD × List zB × Int × Int × Int × Int × Str × List zD × Int × Int)} {P : zD → Nat → Prop} (h : Ret t n K N S L F T a e p P) :
    Ret t n K N S L F T a e (p >>= fun q2 => some (q2.1, q2.2.1, q2.2.2.1, q2.2.2.2.1, q2.2.2.2.2.1, q2.2.2.2.2.2.1, q2.2.2.2.2.2.2.1, q2.2.2.2.2.2.2.2.1, q2.2.2.2.2.2.2.2.2.1, q2.2.2.2.2.2.2.2.2.2)) P := by
  obtain ⟨x, b, e', h1, h2⟩ := h
  rw [h1, zA]
  exact ⟨x, b, e', rfl, h2⟩
theorem v4I {a : Nat} (e : Int) (ha : a ≤ n) : Ret t n K N S L F T a e (z1l t a e K N S L F T) (fun x b => G t a b x ∧ ∃ w, PD x w) := by
  unfold z1l
  rw [z9q tk K N S L F T 3 _ e ha, zA]
  by_cases h1 : y0s t 3 [114, 101, 99] a = true
  · rw [if_pos h1]; exact Ret.id tk K N S L F T (v2j tk K N S L F T e (z7l tk (by decide) h1))
  rw [if_neg h1, z9q tk K N S L F T 3 _ e ha, zA]
  by_cases h2 : y0s t 3 [99, 111, 110, 115, 116] a = true
  · rw [if_pos h2]; exact Ret.id tk K N S L F T (v1b tk K N S L F T e (z7l tk (by decide) h2))
  rw [if_neg h2, z9q tk K N S L F T 3 _ e ha, zA]
  by_cases h3 : y0s t 3 [118, 97, 114] a = true
  · rw [if_pos h3]; exact Ret.id tk K N S L F T (v1m tk K N S L F T e (z7l tk (by decide) h3))
  rw [if_neg h3, z9q tk K N S L F T 3 _ e ha, zA]
  by_cases h4 : y0s t 3 [112, 117, 98] a = true
  · rw [if_pos h4]; exact Ret.id tk K N S L F T (y4B tk K N S L F T e ha)
  rw [if_neg h4, z9q tk K N S L F T 3 _ e ha, zA]
  by_cases h5 : y0s t 3 [102, 110] a = true
  · rw [if_pos h5]; exact Ret.id tk K N S L F T (y4B tk K N S L F T e ha)
  rw [if_neg h5]
  exact ⟨_, a, 6, rfl, by omega, ha, fun g => absurd g (by decide)⟩
end
mutual
def ht : zD → Nat
  | ⟨_, _, _, L, _, _⟩ => 1 + hts L
def hts : List zD → Nat
  | [] => 0
  | x :: r => max (ht x) (hts r)
end
theorem v4P (t : zD) : ht t = 1 + hts t.L := by cases t; simp [ht]
theorem v3u {l : List zD} {i : Nat} (h : i < l.length) : hts (l.drop i) = max (ht l[i]) (hts (l.drop (i + 1))) := by
  rw [List.drop_eq_getElem_cons h]; simp [hts]
theorem v5A : ∀ t : zD, jB t ≤ 1000000 → ∀ (path : List Int) (s d : Int), path.length + jB t ≤ 1000000 → ∃ s', yN t path s d = some (s', max d ((path.length + ht t : Nat) : Int)) := by
  intro t
  induction t using zD.ind with
  | h t ih =>
    intro hs path s d hp
    have hlen := y5X t.L
    have hts' := z8P t
    have loop : ∀ (k i : Nat) (s d : Int), i + k = t.L.length → ((path.length + 1 : Nat) : Int) ≤ d → ∃ s', zW path t.L (t.L.length : Int) (i : Int) s d = some (s', max d ((path.length + 1 + hts (t.L.drop i) : Nat) : Int)) := by
      intro k
      induction k with
      | zero =>
        intro i s d hi hd
        rw [z3G]; unfold jA
        rw [if_neg (by omega), List.drop_eq_nil_of_le (by omega)]
        exact ⟨s, by congr 2; simp only [hts]; rw [Int.max_def]; split <;> omega⟩
      | succ k ihk =>
        intro i s d hi hd
        have hlt : i < t.L.length := by omega
        have ht := y5p t.L i
        have hdd := y5o hlt
        rw [z3G]; unfold jA
        rw [if_pos (by omega), z3D hlt, zA, if_pos (by omega), if_pos (by simp), if_pos (by omega), if_pos rfl, if_pos (by omega)]
        rw [if_pos (by unfold z4F; simp; omega)]
        have hpl : (List.drop 0 (List.take (Int.toNat (List.length path : Int)) path) ++ [(i : Int)]).length = path.length + 1 := by simp
        obtain ⟨s1, g1⟩ := ih _ (List.getElem_mem hlt) (by omega) (List.drop 0 (List.take (Int.toNat (List.length path : Int)) path) ++ [(i : Int)]) s d (by rw [hpl]; omega)
        rw [g1, zA, z3B (by omega) (by omega), z1J, hpl]
        obtain ⟨s2, g2⟩ := ihk (i + 1) s1 (max d ((path.length + 1 + Go.Proofs.YthbhgdooeeapjaaGreat.M.ht t.L[i] : Nat) : Int)) (by omega) (by rw [Int.max_def]; split <;> omega)
        refine ⟨s2, ?_⟩
        dsimp only
        rw [g2, v3u hlt]
        congr 2
        simp only [Int.max_def, Nat.max_def]; (repeat' split) <;> omega
    rw [z7H]; unfold z0u z5b
    rw [zA, z3B (n := (List.length path : Int) + 1) (by omega) (by omega)]
    obtain ⟨s2, g2⟩ := loop t.L.length 0 (IntKind.wrap .i64 (s + 1)) (max d ((List.length path : Int) + 1)) (by omega) (by rw [Int.max_def]; split <;> omega)
    refine ⟨s2, ?_⟩
    have g2' : zW path t.L (List.length t.L : Int) 0 (IntKind.wrap .i64 (s + 1)) (max d ((List.length path : Int) + 1)) = _ := g2
    dsimp only
    rw [g2', v4P]
    congr 2
    simp only [Int.max_def, List.drop_zero]; (repeat' split) <;> omega
theorem y9i {t : zD} (h : jB t ≤ 1000000) : z7e t = some (ht t : Int) := by
  unfold z7e
  obtain ⟨s, e⟩ := v5A t h [] 0 0 (by simpa using h)
  rw [e, zA]
  simp only [List.length_nil, Nat.zero_add]
  rw [Int.max_def, if_pos (by omega)]
theorem v1V {n : Int} (h1 : 1 ≤ n) (h2 : n ≤ 13) : n = 1 ∨ n = 2 ∨ n = 3 ∨ n = 4 ∨ n = 5 ∨ n = 6 ∨ n = 7 ∨ n = 8 ∨ n = 9 ∨ n = 10 ∨ n = 11 ∨ n = 12 ∨ n = 13 := by omega
theorem y9Q {n : Int} (h1 : 1 ≤ n) (h2 : n ≤ 13) : z6Y n = some (v0O n, (z7h n : Int)) := by
  rcases v1V h1 h2 with rfl | rfl | rfl | rfl | rfl | rfl | rfl | rfl | rfl | rfl | rfl | rfl | rfl <;> rfl
theorem y1X (n : Int) : 1 ≤ z7h n ∧ z7h n ≤ 5 := by unfold z7h; (repeat' split) <;> omega
theorem v6p {c : XC} {w : List Str} (h : PR c w) : w ≠ [] := by
  induction h <;> simp_all [hw] <;> (try split) <;> simp_all
theorem v5O {c : XC} {w : List Str} (h : PR c w) : match c with | .ex x => z2G x = some (bnd x : Int) | .ls _ => True := by
  cases h with
  | bin h1 h2 _ _ => 
    show z2G _ = _
    unfold z2G
    rw [if_pos rfl, y9Q h1 h2, zA]; rfl
  | call h _ _ => rcases h with rfl | rfl | rfl <;> rfl
  | call0 h _ => rcases h with rfl | rfl <;> rfl
  | one _ => trivial
  | cons _ _ => trivial
  | _ => rfl
theorem y2L (w : List Str) : w.length ≤ szw w := by
  induction w with
  | nil => simp
  | cons x r ih => simp [szw]; omega
theorem uE (ws out : List Str) (h : szw out + szw ws ≤ 1000000000) : zK ws out = some (out ++ ws) := by
  have h1 := y2L ws
  have h2 := y2L out
  unfold zK
  rw [if_pos (by unfold z4F; omega)]
theorem z6W (K N : Int) (S : Str) (x : zD) (r : List zD) (F T : Int) : yL ⟨K, N, S, x :: r, F, T⟩ 0 = some x := by
  unfold yL
  rw [if_pos (by simp only [List.length_cons]; omega)]; rfl
theorem y5A (K N : Int) (S : Str) (x y : zD) (r : List zD) (F T : Int) : yL ⟨K, N, S, x :: y :: r, F, T⟩ 1 = some y := by
  unfold yL
  rw [if_pos (by simp only [List.length_cons]; omega)]; rfl
theorem y2J {x : zD} {w : List Str} (hp : PR (.ex x) w) (hx : ∀ out, szw out + szw w ≤ 1000000000 → print_writer_expr x out = some (out ++ w)) (least : Nat) (out : List Str) (h : szw out + szw (hw least x w) ≤ 1000000000) : print_writer_held x (least : Int) out = some (out ++ hw least x w) := by
  have hb : z2G x = some (bnd x : Int) := v5O hp
  rw [z9r]; unfold z0W
  rw [hb, zA]
  unfold hw at h ⊢
  by_cases hc : least ≤ bnd x
  · rw [if_pos hc] at h ⊢
    rw [if_pos (show (bnd x : Int) ≥ (least : Int) by omega), hx out h]; rfl
  · rw [if_neg hc] at h ⊢
    rw [zL, zL] at h
    simp only [szw, List.length_cons, List.length_nil] at h
    rw [if_neg (show ¬ (bnd x : Int) ≥ (least : Int) by omega), uE _ _ (by simp only [szw, List.length_cons, List.length_nil]; omega), zA, hx _ (by rw [zL]; simp only [szw, List.length_cons, List.length_nil]; omega), zA, uE _ _ (by rw [zL, zL]; simp only [szw, List.length_cons, List.length_nil]; omega), zA]
    simp
def y6U (i : Nat) (w : List Str) : List Str := if i = 0 then w else [[44]] ++ w
def PPM : XC → List Str → Prop
  | .ex x, w => ∀ out, szw out + szw w ≤ 1000000000 → print_writer_expr x out = some (out ++ w)
  | .ls l, w => ∀ (L : List zD) (i : Nat) (out : List Str), L.drop i = l → L.length ≤ 1000000000 → szw out + szw (y6U i w) ≤ 1000000000 → print_writer_list_writer_expr_L1 L (L.length : Int) (i : Int) out = some (out ++ y6U i w)
theorem v4e (L : List zD) (out : List Str) (i : Nat) (h : L.length ≤ i) : print_writer_list_writer_expr_L1 L (L.length : Int) (i : Int) out = some out := by
  rw [z1G]; unfold vS
  rw [if_neg (by omega)]
theorem v0Q {L l : List zD} {i : Nat} {x : zD} {w : List Str} (hL : L.length ≤ 1000000000) (hx : ∀ out, szw out + szw w ≤ 1000000000 → print_writer_expr x out = some (out ++ w)) (h : L.drop i = x :: l) (out : List Str) (hs : szw out + szw (y6U i w) ≤ 1000000000) :
    print_writer_list_writer_expr_L1 L (L.length : Int) (i : Int) out = print_writer_list_writer_expr_L1 L (L.length : Int) ((i + 1 : Nat) : Int) (out ++ y6U i w) ∧ L.drop (i + 1) = l := by
  have hlt : i < L.length := by
    have := congrArg List.length h
    rw [List.length_drop, List.length_cons] at this; omega
  have hd := List.drop_eq_getElem_cons hlt
  rw [h] at hd
  injection hd with e1 e2
  refine ⟨?_, e2.symm⟩
  conv => lhs; rw [z1G]
  unfold vS
  unfold y6U at hs ⊢
  rw [if_pos (by omega), z3D hlt, zA, ← e1]
  by_cases hi : i = 0
  · rw [if_pos hi] at hs ⊢
    rw [if_neg (by omega), hx out hs, zA, z3B (by omega) (by omega), z1J]
  · rw [if_neg hi] at hs ⊢
    rw [zL] at hs
    simp only [szw, List.length_cons, List.length_nil] at hs
    rw [if_pos (by omega), uE _ _ (by simp only [szw, List.length_cons, List.length_nil]; omega), zA, hx _ (by rw [zL]; simp only [szw, List.length_cons, List.length_nil]; omega), zA, z3B (by omega) (by omega), z1J, List.append_assoc]
theorem y6c {l : List zD} {w : List Str} (hp : PR (.ls l) w) (ih : PPM (.ls l) w) (hl : l.length ≤ 1000000000) (out : List Str) (h : szw out + szw w ≤ 1000000000) : print_writer_list_writer_expr l out = some (out ++ w) := by
  rw [z2e]; unfold wH
  have := ih l 0 out (by simp) hl h
  exact this
theorem y3K (out : List Str) : print_writer_list_writer_expr [] out = some out := by
  rw [z2e]; unfold wH
  exact v4e [] out 0 (by simp)
def v6G : XC → List Str → Prop
  | .ex _, _ => True
  | .ls l, w => l.length ≤ w.length
theorem v4n {c : XC} {w : List Str} (h : PR c w) : v6G c w := by
  induction h with
  | @one x w h _ =>
    have := v6p h
    show [x].length ≤ w.length
    cases w with
    | nil => exact absurd rfl this
    | cons _ _ => simp
  | @cons x l w wl h1 h2 _ ih =>
    have h3 : l.length ≤ wl.length := ih
    show (x :: l).length ≤ (w ++ [[44]] ++ wl).length
    simp; omega
  | _ => trivial
theorem z8L {c : XC} {w : List Str} (h : PR c w) : PPM c w := by
  induction h with
  | @num n F T h1 h2 =>
    intro out ho
    rw [vY]; unfold vB; dsimp only
    rw [if_pos rfl, y7v _ (by show _ ∧ _; omega), zA, if_neg (show ¬ ((n : Int) < 0) by omega), List.nil_append, show ((n : Int)).natAbs = n by omega, uE _ _ ho]; rfl
  | tru => intro out ho; rw [vY]; unfold vB; dsimp only; rw [if_neg (by decide), if_pos rfl, if_pos rfl, uE _ _ ho]; rfl
  | fal => intro out ho; rw [vY]; unfold vB; dsimp only; rw [if_neg (by decide), if_pos rfl, if_neg (by decide), uE _ _ ho]; rfl
  | rd => intro out ho; rw [vY]; unfold vB; dsimp only; rw [if_neg (by decide), if_neg (by decide), if_pos rfl, uE _ _ ho]; rfl
  | name _ => intro out ho; rw [vY]; unfold vB; dsimp only; rw [if_neg (by decide), if_neg (by decide), if_neg (by decide), if_pos rfl, uE _ _ ho]; rfl
  | @bin n x y wx wy F T h1 h2 p1 p2 ih1 ih2 =>
    intro out ho
    rw [zL, zL] at ho
    have hl := y1X n
    have e2 := ih2
    rw [vY]; unfold vB; dsimp only
    rw [if_neg (by decide), if_neg (by decide), if_neg (by decide), if_neg (by decide), if_pos rfl, y9Q h1 h2, zA]
    dsimp only
    have step : ∀ lf : Nat, lf = y4L n → (yL ⟨10, n, [], [x, y], F, T⟩ 0 >>= fun q8 => print_writer_held q8 (lf : Int) out >>= fun q9 => zK [v0O n] q9 >>= fun q10 => yL ⟨10, n, [], [x, y], F, T⟩ 1 >>= fun q11 => print_writer_held q11 (IntKind.wrap .i64 ((z7h n : Int) + 1)) q10 >>= fun q12 => some (q12)) = some (out ++ (hw (y4L n) x wx ++ [v0O n] ++ hw (z7h n + 1) y wy)) := fun lf e => by
      rw [z6W, zA, e, y2J p1 ih1 _ _ (by omega), zA, uE _ _ (by rw [zL]; omega), zA, y5A, zA, z3B (by omega) (by omega), show (z7h n : Int) + 1 = ((z7h n + 1 : Nat) : Int) by omega, y2J p2 ih2 _ _ (by rw [zL, zL]; omega), zA]
      simp
    by_cases h3 : z7h n = 3
    · rw [if_pos (show (z7h n : Int) = 3 by omega)]
      exact step 4 (by unfold y4L; rw [if_pos h3])
    · rw [if_neg (show ¬ (z7h n : Int) = 3 by omega)]
      exact step (z7h n) (by unfold y4L; rw [if_neg h3])
  | @neg x wx F T p1 ih1 =>
    intro out ho
    rw [zL] at ho
    rw [vY]; unfold vB; dsimp only
    rw [if_neg (by decide), if_neg (by decide), if_neg (by decide), if_neg (by decide), if_neg (by decide), if_pos rfl, if_pos rfl, uE _ _ (by omega), zA, z6W, zA, show (6 : Int) = ((6 : Nat) : Int) from rfl, y2J p1 ih1 _ _ (by rw [zL]; omega), zA]
    simp
  | @not x wx F T p1 ih1 =>
    intro out ho
    rw [zL] at ho
    rw [vY]; unfold vB; dsimp only
    rw [if_neg (by decide), if_neg (by decide), if_neg (by decide), if_neg (by decide), if_neg (by decide), if_pos rfl, if_neg (by decide), uE _ _ (by omega), zA, z6W, zA, show (6 : Int) = ((6 : Nat) : Int) from rfl, y2J p1 ih1 _ _ (by rw [zL]; omega), zA]
    simp
  | @index x i wx wi F T p1 p2 ih1 ih2 =>
    intro out ho
    rw [zL, zL, zL] at ho
    rw [vY]; unfold vB; dsimp only
    rw [if_neg (by decide), if_neg (by decide), if_neg (by decide), if_neg (by decide), if_neg (by decide), if_neg (by decide), uZ]; unfold vP; dsimp only
    rw [if_pos rfl, z6W, zA, show (7 : Int) = ((7 : Nat) : Int) from rfl, y2J p1 ih1 _ _ (by omega), zA, uE _ _ (by rw [zL]; omega), zA, y5A, zA, ih2 _ (by rw [zL, zL]; omega), zA, uE _ _ (by rw [zL, zL, zL]; omega), zA, zA]
    simp
  | @field s x wx F T p0 p1 ih1 =>
    intro out ho
    rw [zL] at ho
    rw [vY]; unfold vB; dsimp only
    rw [if_neg (by decide), if_neg (by decide), if_neg (by decide), if_neg (by decide), if_neg (by decide), if_neg (by decide), uZ]; unfold vP; dsimp only
    rw [if_neg (by decide), if_pos rfl, z6W, zA, show (7 : Int) = ((7 : Nat) : Int) from rfl, y2J p1 ih1 _ _ (by omega), zA, uE _ _ (by rw [zL]; omega), zA, zA]
    simp
  | @lis l w F T p1 ih1 =>
    intro out ho
    rw [zL, zL] at ho
    have hl : l.length ≤ w.length := v4n p1
    have hw1 := y2L w
    rw [vY]; unfold vB; dsimp only
    rw [if_neg (by decide), if_neg (by decide), if_neg (by decide), if_neg (by decide), if_neg (by decide), if_neg (by decide), uZ]; unfold vP; dsimp only
    rw [if_neg (by decide), if_neg (by decide), if_pos rfl, uE _ _ (by omega), zA, y6c p1 ih1 (by omega) _ (by rw [zL]; omega), zA, uE _ _ (by rw [zL, zL]; omega), zA, zA]
    simp
  | @call k s l w F T hk p0 p1 ih1 =>
    intro out ho
    rw [zL, zL, zL] at ho
    have hl : l.length ≤ w.length := v4n p1
    have hw1 := y2L w
    rw [vY]; unfold vB
    rcases hk with rfl | rfl | rfl
    · have ho' : szw out + (szw [[110, 101, 119], s] + szw [[40]] + szw w + szw [[41]]) ≤ 1000000000 := ho
      dsimp only
      rw [if_neg (by decide), if_neg (by decide), if_neg (by decide), if_neg (by decide), if_neg (by decide), if_neg (by decide), uZ]; unfold vP; dsimp only
      rw [if_neg (by decide), if_neg (by decide), if_neg (by decide), if_neg (by decide), if_neg (by decide), if_pos rfl, uE _ _ (by omega), zA, uE _ _ (by rw [zL]; omega), zA, y6c p1 ih1 (by omega) _ (by rw [zL, zL]; omega), zA, uE _ _ (by rw [zL, zL, zL]; omega), zA, zA]
      simp [z9A]
    · have ho' : szw out + (szw [s] + szw [[40]] + szw w + szw [[41]]) ≤ 1000000000 := ho
      dsimp only
      rw [if_neg (by decide), if_neg (by decide), if_neg (by decide), if_neg (by decide), if_neg (by decide), if_neg (by decide), uZ]; unfold vP; dsimp only
      rw [if_neg (by decide), if_neg (by decide), if_neg (by decide), if_pos rfl, uE _ _ (by omega), zA, uE _ _ (by rw [zL]; omega), zA, y6c p1 ih1 (by omega) _ (by rw [zL, zL]; omega), zA, uE _ _ (by rw [zL, zL, zL]; omega), zA, zA]
      simp [z9A]
    · have ho' : szw out + (szw [[64], s] + szw [[40]] + szw w + szw [[41]]) ≤ 1000000000 := ho
      dsimp only
      rw [if_neg (by decide), if_neg (by decide), if_neg (by decide), if_neg (by decide), if_neg (by decide), if_neg (by decide), uZ]; unfold vP; dsimp only
      rw [if_neg (by decide), if_neg (by decide), if_neg (by decide), if_neg (by decide), if_pos rfl, uE _ _ (by omega), zA, uE _ _ (by rw [zL]; omega), zA, y6c p1 ih1 (by omega) _ (by rw [zL, zL]; omega), zA, uE _ _ (by rw [zL, zL, zL]; omega), zA, zA]
      simp [z9A]
  | @call0 k s F T hk p0 =>
    intro out ho
    rw [zL, zL, zL] at ho
    simp only [szw] at ho
    rw [vY]; unfold vB
    rcases hk with rfl | rfl
    · have ho' : szw out + (szw [s] + szw [[40]] + 0 + szw [[41]]) ≤ 1000000000 := ho
      dsimp only
      rw [if_neg (by decide), if_neg (by decide), if_neg (by decide), if_neg (by decide), if_neg (by decide), if_neg (by decide), uZ]; unfold vP; dsimp only
      rw [if_neg (by decide), if_neg (by decide), if_neg (by decide), if_pos rfl, uE _ _ (by omega), zA, uE _ _ (by rw [zL]; omega), zA, y3K, zA, uE _ _ (by rw [zL, zL]; omega), zA, zA]
      simp [z9A]
    · have ho' : szw out + (szw [[64], s] + szw [[40]] + 0 + szw [[41]]) ≤ 1000000000 := ho
      dsimp only
      rw [if_neg (by decide), if_neg (by decide), if_neg (by decide), if_neg (by decide), if_neg (by decide), if_neg (by decide), uZ]; unfold vP; dsimp only
      rw [if_neg (by decide), if_neg (by decide), if_neg (by decide), if_neg (by decide), if_pos rfl, uE _ _ (by omega), zA, uE _ _ (by rw [zL]; omega), zA, y3K, zA, uE _ _ (by rw [zL, zL]; omega), zA, zA]
      simp [z9A]
  | @one x w p1 ih1 =>
    intro L i out hd hL hs
    obtain ⟨e1, e2⟩ := v0Q hL ih1 hd out hs
    rw [e1, v4e _ _ _ (by have := congrArg List.length e2; simp at this; omega)]
  | @cons x l w wl p1 p2 ih1 ih2 =>
    intro L i out hd hL hs
    have e0 : y6U i (w ++ [[44]] ++ wl) = y6U i w ++ y6U (i + 1) wl := by unfold y6U; rw [if_neg (show ¬ i + 1 = 0 by omega)]; split <;> simp
    rw [e0, zL] at hs
    obtain ⟨e1, e2⟩ := v0Q hL ih1 hd out (by omega)
    rw [e1, ih2 L (i + 1) _ e2 hL (by rw [zL]; omega), e0, List.append_assoc]
theorem z7x {s : Str} (h : Nm s) : s.length ≤ 16 := by
  have ho : one s = .inr (1, 0, s, s.length) := by have := h [] (.inl rfl); rwa [List.append_nil] at this
  cases s with
  | nil => cases ho
  | cons c r =>
    rw [one] at ho
    by_cases h1 : ltr c = true
    · rw [if_pos h1] at ho
      by_cases h2 : tw mor (c :: r) > 16
      · rw [if_pos h2] at ho; cases ho
      · rw [if_neg h2] at ho
        injection ho with ho
        simp only [Prod.mk.injEq] at ho
        omega
    · rw [if_neg h1] at ho
      by_cases h2 : dgt c = true
      · rw [if_pos h2] at ho
        split at ho
        · cases ho
        · injection ho with ho
          simp only [Prod.mk.injEq] at ho
          exact absurd ho.1 (by decide)
      · rw [if_neg h2] at ho
        split at ho
        · cases ho
        · injection ho with ho
          simp only [Prod.mk.injEq] at ho
          exact absurd ho.1 (by decide)
theorem v4i {n : Nat} (h : n ≤ 9223372036854775807) : (y1p n).length ≤ 19 := y8C 19 n (by omega) (by omega)
theorem v6v {n : Int} (h1 : 1 ≤ n) (h2 : n ≤ 13) : (v0O n).length ≤ 2 := by
  rcases v1V h1 h2 with rfl | rfl | rfl | rfl | rfl | rfl | rfl | rfl | rfl | rfl | rfl | rfl | rfl <;> decide
def SzX : XC → List Str → Prop
  | .ex x, w => szw w + 10 ≤ 200 * jB x
  | .ls l, w => szw w ≤ 200 * yR l
theorem v6q {c : XC} {w : List Str} (h : PR c w) : SzX c w := by
  induction h with
  | num h1 _ => have := v4i h1; simp only [SzX, szw, jB, yR]; omega
  | tru => simp only [SzX, szw, jB, yR, List.length_cons, List.length_nil]; omega
  | fal => simp only [SzX, szw, jB, yR, List.length_cons, List.length_nil]; omega
  | rd => simp only [SzX, szw, jB, yR, List.length_cons, List.length_nil]; omega
  | name h => have := z7x h; simp only [SzX, szw, jB, yR]; omega
  | @bin n x y wx wy F T h1 h2 _ _ ih1 ih2 =>
    have := v6v h1 h2
    have e1 := z8B (y4L n) x wx
    have e2 := z8B (z7h n + 1) y wy
    simp only [SzX, szw, jB, yR, zL] at ih1 ih2 ⊢; omega
  | @neg x wx F T _ ih => have e1 := z8B 6 x wx; simp only [SzX, szw, jB, yR, zL, List.length_cons, List.length_nil] at ih ⊢; omega
  | @not x wx F T _ ih => have e1 := z8B 6 x wx; simp only [SzX, szw, jB, yR, zL, List.length_cons, List.length_nil] at ih ⊢; omega
  | @index x i wx wi F T _ _ ih1 ih2 => have e1 := z8B 7 x wx; simp only [SzX, szw, jB, yR, zL, List.length_cons, List.length_nil] at ih1 ih2 ⊢; omega
  | @field s x wx F T h _ ih => have := z7x h; have e1 := z8B 7 x wx; simp only [SzX, szw, jB, yR, zL, List.length_cons, List.length_nil] at ih ⊢; omega
  | lis _ ih => simp only [SzX, szw, jB, yR, zL, List.length_cons, List.length_nil] at ih ⊢; omega
  | @call k s l w F T _ h _ ih =>
    have := z7x h
    have e : szw (z9A k s) ≤ 30 := by unfold z9A; (repeat' split) <;> simp only [szw, List.length_cons, List.length_nil] <;> omega
    simp only [SzX, szw, jB, yR, zL, List.length_cons, List.length_nil] at ih ⊢; omega
  | @call0 k s F T _ h =>
    have := z7x h
    have e : szw (z9A k s) ≤ 30 := by unfold z9A; (repeat' split) <;> simp only [szw, List.length_cons, List.length_nil] <;> omega
    simp only [SzX, szw, jB, yR, zL, List.length_cons, List.length_nil]; omega
  | one _ ih => simp only [SzX, yR] at ih ⊢; omega
  | cons _ _ ih1 ih2 => simp only [SzX, szw, yR, zL, List.length_cons, List.length_nil] at ih1 ih2 ⊢; omega
theorem v2h {x : zD} {w : List Str} (h : PT x w) : szw w + 10 ≤ 200 * jB x := by
  induction h with
  | int => simp only [szw, jB, yR, List.length_cons, List.length_nil]; omega
  | bool => simp only [szw, jB, yR, List.length_cons, List.length_nil]; omega
  | rcd h => have := z7x h; simp only [szw, jB, yR]; omega
  | arr h1 _ _ ih => have := v4i h1; simp only [szw, jB, yR, zL, List.length_cons, List.length_nil] at ih ⊢; omega
def itB : List It → Nat
  | [] => 0
  | .word s :: r => s.length + 1 + itB r
  | .sign s :: r => s.length + 1 + itB r
  | .name :: r => 17 + itB r
  | .be :: r => 5 + itB r
  | _ :: r => itB r
theorem v7b {k : Int} {its : List It} (h : FK k its) : itB its ≤ 60 := by cases h <;> decide
def SzS : SC → List Str → Prop
  | .st x, w => szw w + 10 ≤ 200 * jB x
  | .bl x, w => szw w + 10 ≤ 200 * jB x
  | .ss l, w => szw w ≤ 200 * yR l
  | .fm its ps _, w => szw w ≤ 200 * yR ps + itB its
theorem v5i {c : SC} {w : List Str} (h : PS c w) : SzS c w := by
  induction h with
  | blk _ ih => simp only [SzS, szw, jB, zL, List.length_cons, List.length_nil] at ih ⊢; omega
  | ss0 => simp only [SzS, szw, yR]; omega
  | ssc _ _ ih1 ih2 => simp only [SzS, szw, yR, zL] at ih1 ih2 ⊢; omega
  | stB _ ih => exact ih
  | stF hk _ _ ih => have := v7b hk; simp only [SzS, jB] at ih ⊢; omega
  | f0 => simp only [SzS, szw, yR, itB]; omega
  | fW _ ih => simp only [SzS, szw, itB, zL] at ih ⊢; omega
  | fS _ ih => simp only [SzS, szw, itB, zL] at ih ⊢; omega
  | fN h _ ih => have := z7x h; simp only [SzS, szw, itB, zL] at ih ⊢; omega
  | fX h _ ih => have e := v6q h; simp only [SzX] at e; simp only [SzS, yR, itB, zL] at ih ⊢; omega
  | fT h _ ih => have e := v2h h; simp only [SzS, yR, itB, zL] at ih ⊢; omega
  | fK _ _ ih1 ih2 => simp only [SzS, yR, itB, zL] at ih1 ih2 ⊢; omega
  | fE1 _ _ ih1 ih2 => simp only [SzS, jB, yR, itB, zL] at ih1 ih2 ⊢; omega
  | fE2 _ _ _ _ ih1 ih2 ih3 => simp only [SzS, szw, yR, itB, zL, List.length_cons, List.length_nil] at ih1 ih2 ih3 ⊢; omega
theorem v5f {x : zD} {w : List Str} (h : PN x w) : szw w + 10 ≤ 200 * jB x := by
  cases h with
  | mk h1 h2 => have := z7x h1; have e := v2h h2; simp only [szw, jB, yR, zL, List.length_cons, List.length_nil]; omega
theorem v6n {l : List zD} {w : List Str} (h : PNs l w) : szw w ≤ 200 * yR l := by
  induction h with
  | one h => have := v5f h; simp only [yR]; omega
  | cons h _ ih => have := v5f h; simp only [szw, yR, zL, List.length_cons, List.length_nil]; omega
theorem v6j {l : List zD} {w : List Str} (h : PFs l w) : szw w ≤ 200 * yR l := by
  induction h with
  | nil => simp only [szw, yR]; omega
  | cons h _ ih => have := v5f h; simp only [szw, yR, zL, List.length_cons, List.length_nil]; omega
theorem v6S {x : zD} {w : List Str} (h : PD x w) : szw w + 10 ≤ 200 * jB x := by
  cases h with
  | rcd h _ h2 => have := z7x h; have e := v6j h2; simp only [szw, jB, zL, List.length_cons, List.length_nil]; omega
  | const h h2 => have := z7x h; have e := v6q h2.pr; simp only [SzX] at e; simp only [szw, jB, yR, zL, List.length_cons, List.length_nil]; omega
  | var h h2 => have := z7x h; have e := v2h h2; simp only [szw, jB, yR, zL, List.length_cons, List.length_nil]; omega
  | @fn0 n s x y wx wy F T F' T' _ h h2 h3 =>
    have := z7x h; have e := v2h h2; have e3 := v5i h3
    have e4 : szw (if n = 1 then [[112, 117, 98]] else ([] : List Str)) ≤ 4 := by split <;> simp [szw]
    simp only [SzS] at e3
    simp only [szw, jB, yR, zL, List.length_cons, List.length_nil]; omega
  | @fn n s l x y wl wx wy F T F' T' _ h hl h2 h3 =>
    have := z7x h; have e := v2h h2; have e3 := v5i h3; have e5 := v6n hl
    have e4 : szw (if n = 1 then [[112, 117, 98]] else ([] : List Str)) ≤ 4 := by split <;> simp [szw]
    simp only [SzS] at e3
    simp only [szw, jB, yR, zL, List.length_cons, List.length_nil]; omega
theorem y4K {x : zD} {w : List Str} (h : PT x w) : ∀ out, szw out + szw w ≤ 1000000000 → print_writer_kind x out = some (out ++ w) := by
  induction h with
  | int => intro out ho; rw [z1q]; unfold uS; dsimp only; rw [if_pos rfl, uE _ _ ho]; rfl
  | bool => intro out ho; rw [z1q]; unfold uS; dsimp only; rw [if_neg (by decide), if_pos rfl, uE _ _ ho]; rfl
  | rcd _ => intro out ho; rw [z1q]; unfold uS; dsimp only; rw [if_neg (by decide), if_neg (by decide), if_neg (by decide), if_pos rfl, uE _ _ ho]; rfl
  | @arr n x w F T h1 h2 h3 ih =>
    intro out ho
    rw [zL] at ho
    rw [z1q]; unfold uS; dsimp only
    rw [if_neg (by decide), if_neg (by decide), if_pos rfl, y7v _ (by show _ ∧ _; omega), zA, if_neg (show ¬ ((n : Int) < 0) by omega), List.nil_append, show ((n : Int)).natAbs = n by omega, uE _ _ (by omega), zA, z6W, zA, ih _ (by rw [zL]; omega), zA]
    simp
theorem y6A {K N : Int} {s : Str} {x : zD} {r : List zD} {F T : Int} {w : List Str} (h : PT x w) (out : List Str) (ho : szw out + szw ([s, [58]] ++ w) ≤ 1000000000) : jF ⟨K, N, s, x :: r, F, T⟩ out = some (out ++ ([s, [58]] ++ w)) := by
  rw [zL] at ho
  unfold jF; dsimp only
  rw [uE _ _ (by omega), zA, z6W, zA, y4K h _ (by rw [zL]; omega), zA]
  simp
theorem y2M {x : zD} {w : List Str} (h : PR (.ex x) w) (ws out : List Str) (ho : szw out + szw (ws ++ w ++ [[59]]) ≤ 1000000000) : jU x ws out = some (out ++ (ws ++ w ++ [[59]])) := by
  rw [zL, zL] at ho
  unfold jU
  rw [uE _ _ (by omega), zA, z8L h _ (by rw [zL]; omega), zA, uE _ _ (by rw [zL, zL]; omega), zA]
  simp
def FMM (BK : zD → List Str → Prop) : List It → List zD → Str → List Str → Prop
  | [], ps, nm, w => ps = [] ∧ w = []
  | .word s :: its, ps, nm, w => ∃ w', w = [s] ++ w' ∧ FMM BK its ps nm w'
  | .sign s :: its, ps, nm, w => ∃ w', w = [s] ++ w' ∧ FMM BK its ps nm w'
  | .name :: its, ps, nm, w => ∃ w', w = [nm] ++ w' ∧ FMM BK its ps nm w'
  | .expr :: its, ps, nm, w => ∃ x ps' wx w', ps = x :: ps' ∧ w = wx ++ w' ∧ PR (.ex x) wx ∧ FMM BK its ps' nm w'
  | .type :: its, ps, nm, w => ∃ x ps' wx w', ps = x :: ps' ∧ w = wx ++ w' ∧ PT x wx ∧ FMM BK its ps' nm w'
  | .block :: its, ps, nm, w => ∃ x ps' wx w', ps = x :: ps' ∧ w = wx ++ w' ∧ wx ≠ [] ∧ BK x wx ∧ FMM BK its ps' nm w'
  | .be :: its, ps, nm, w => ∃ x y ps' wx wy w', ps = x :: y :: ps' ∧ w = wx ++ wy ++ w' ∧ wx ≠ [] ∧ BK x wx ∧ ((y.L = [] ∧ wy = []) ∨ (y.L ≠ [] ∧ ∃ wz, wy = [[101, 108, 115, 101]] ++ wz ∧ wz ≠ [] ∧ BK y wz)) ∧ FMM BK its ps' nm w'
def BKp (x : zD) (w : List Str) : Prop := ∀ out, szw out + szw w ≤ 1000000000 → print_writer_block x out = some (out ++ w)
def PPS : SC → List Str → Prop
  | .st x, w => ∀ out, szw out + szw w ≤ 1000000000 → print_writer_stmt x out = some (out ++ w)
  | .bl x, w => w ≠ [] ∧ BKp x w
  | .ss l, w => ∀ (L : List zD) (i : Nat) (out : List Str), L.drop i = l → L.length ≤ 1000000000 → szw out + szw (w ++ [[125]]) ≤ 1000000000 → print_writer_block_L3 L (L.length : Int) (i : Int) out = some (out ++ (w ++ [[125]]))
  | .fm its ps nm, w => FMM BKp its ps nm w
theorem v5t {k : Int} {its : List It} {ps : List zD} {nm : Str} {w : List Str} {F T : Int} (hk : FK k its) (h : FMM BKp its ps nm w) (out : List Str) (ho : szw out + szw w ≤ 1000000000) : print_writer_stmt ⟨k, 0, nm, ps, F, T⟩ out = some (out ++ w) := by
  rw [z5D]; unfold z0p
  cases hk with
  | new =>
    obtain ⟨w1, rfl, w2, rfl, w3, rfl, x, ps', wx, w4, rfl, rfl, hx, w5, rfl, rfl, rfl⟩ := h
    dsimp only
    rw [if_neg (by decide), if_neg (by decide), if_pos rfl, uE _ _ (by simp only [zL, szw, z8R, wIf, z1t, z9v, z1s, z0a, wDo, z3A, wTo, List.length_cons, List.length_nil] at ho ⊢; omega), zA, y6A hx _ (by simp only [zL, szw, z8R, wIf, z1t, z9v, z1s, z0a, wDo, z3A, wTo, List.length_cons, List.length_nil] at ho ⊢; omega), zA, uE _ _ (by simp only [zL, szw, z8R, wIf, z1t, z9v, z1s, z0a, wDo, z3A, wTo, List.length_cons, List.length_nil] at ho ⊢; omega), zA]
    simp
  | let_ =>
    obtain ⟨w1, rfl, w2, rfl, w3, rfl, x, ps', wx, w4, rfl, rfl, hx, w5, rfl, rfl, rfl⟩ := h
    dsimp only
    rw [if_neg (by decide), if_pos rfl, z6W, zA, y2M hx _ _ (by simp only [zL, szw, z8R, wIf, z1t, z9v, z1s, z0a, wDo, z3A, wTo, List.length_cons, List.length_nil] at ho ⊢; omega), zA]
    simp
  | if_ =>
    obtain ⟨w1, rfl, x, ps', wx, w2, rfl, rfl, hx, y, z, ps'', wy, wz, w3, rfl, rfl, -, hy, hz, rfl, rfl⟩ := h
    dsimp only
    rw [if_neg (by decide), if_neg (by decide), if_neg (by decide), if_neg (by decide), if_neg (by decide), if_neg (by decide), if_neg (by decide), z2Q]; unfold jJ; dsimp only
    have p2 : yL ⟨23, 0, nm, [x, y, z], F, T⟩ 2 = some z := by unfold yL; rw [if_pos (by simp only [List.length_cons, List.length_nil]; omega)]; rfl
    rw [if_pos rfl, uE _ _ (by simp only [zL, szw, z8R, wIf, z1t, z9v, z1s, z0a, wDo, z3A, wTo, List.length_cons, List.length_nil] at ho ⊢; omega), zA, z6W, zA, z8L hx _ (by simp only [zL, szw, z8R, wIf, z1t, z9v, z1s, z0a, wDo, z3A, wTo, List.length_cons, List.length_nil] at ho ⊢; omega), zA, y5A, zA, hy _ (by simp only [zL, szw, z8R, wIf, z1t, z9v, z1s, z0a, wDo, z3A, wTo, List.length_cons, List.length_nil] at ho ⊢; omega), zA, p2, zA]
    rcases hz with ⟨hz, rfl⟩ | ⟨hz, wq, rfl, -, hq⟩
    · rw [hz, if_neg (by decide)]; simp
    · have hpos : (List.length z.L : Int) > 0 := by cases hl : z.L with
        | nil => exact absurd hl hz
        | cons a b => simp only [List.length_cons]; omega
      rw [if_pos hpos, uE _ _ (by simp only [zL, szw, z8R, wIf, z1t, z9v, z1s, z0a, wDo, z3A, wTo, List.length_cons, List.length_nil] at ho ⊢; omega), zA, zA, hq _ (by simp only [zL, szw, z8R, wIf, z1t, z9v, z1s, z0a, wDo, z3A, wTo, List.length_cons, List.length_nil] at ho ⊢; omega), zA]
      simp
  | «while» =>
    obtain ⟨w1, rfl, x, ps', wx, w2, rfl, rfl, hx, y, ps'', wy, w3, rfl, rfl, -, hy, rfl, rfl⟩ := h
    dsimp only
    rw [if_neg (by decide), if_neg (by decide), if_neg (by decide), if_neg (by decide), if_neg (by decide), if_neg (by decide), if_neg (by decide), z2Q]; unfold jJ; dsimp only
    rw [if_neg (by decide), if_pos rfl, uE _ _ (by simp only [zL, szw, z8R, wIf, z1t, z9v, z1s, z0a, wDo, z3A, wTo, List.length_cons, List.length_nil] at ho ⊢; omega), zA, z6W, zA, z8L hx _ (by simp only [zL, szw, z8R, wIf, z1t, z9v, z1s, z0a, wDo, z3A, wTo, List.length_cons, List.length_nil] at ho ⊢; omega), zA, y5A, zA, hy _ (by simp only [zL, szw, z8R, wIf, z1t, z9v, z1s, z0a, wDo, z3A, wTo, List.length_cons, List.length_nil] at ho ⊢; omega), zA, zA]
    simp
  | «for» =>
    obtain ⟨w1, rfl, w2, rfl, w3, rfl, x, ps', wx, w4, rfl, rfl, hx, w5, rfl, y, ps'', wy, w6, rfl, rfl, hy, z, ps3, wz, w7, rfl, rfl, -, hz, rfl, rfl⟩ := h
    dsimp only
    rw [if_neg (by decide), if_neg (by decide), if_neg (by decide), if_neg (by decide), if_neg (by decide), if_neg (by decide), if_neg (by decide), z2Q]; unfold jJ; dsimp only
    have p2 : yL ⟨25, 0, nm, [x, y, z], F, T⟩ 2 = some z := by unfold yL; rw [if_pos (by simp only [List.length_cons, List.length_nil]; omega)]; rfl
    rw [if_neg (by decide), if_neg (by decide), if_pos rfl, uE _ _ (by simp only [zL, szw, z8R, wIf, z1t, z9v, z1s, z0a, wDo, z3A, wTo, List.length_cons, List.length_nil] at ho ⊢; omega), zA, z6W, zA, z8L hx _ (by simp only [zL, szw, z8R, wIf, z1t, z9v, z1s, z0a, wDo, z3A, wTo, List.length_cons, List.length_nil] at ho ⊢; omega), zA, uE _ _ (by simp only [zL, szw, z8R, wIf, z1t, z9v, z1s, z0a, wDo, z3A, wTo, List.length_cons, List.length_nil] at ho ⊢; omega), zA, y5A, zA, z8L hy _ (by simp only [zL, szw, z8R, wIf, z1t, z9v, z1s, z0a, wDo, z3A, wTo, List.length_cons, List.length_nil] at ho ⊢; omega), zA, p2, zA, hz _ (by simp only [zL, szw, z8R, wIf, z1t, z9v, z1s, z0a, wDo, z3A, wTo, List.length_cons, List.length_nil] at ho ⊢; omega), zA, zA]
    simp
  | print =>
    obtain ⟨w1, rfl, x, ps', wx, w4, rfl, rfl, hx, w5, rfl, rfl, rfl⟩ := h
    dsimp only
    rw [if_neg (by decide), if_neg (by decide), if_neg (by decide), if_neg (by decide), if_pos rfl, z6W, zA, y2M hx _ _ (by simp only [zL, szw, z8R, wIf, z1t, z9v, z1s, z0a, wDo, z3A, wTo, List.length_cons, List.length_nil] at ho ⊢; omega), zA]
    simp
  | ret =>
    obtain ⟨w1, rfl, x, ps', wx, w4, rfl, rfl, hx, w5, rfl, rfl, rfl⟩ := h
    dsimp only
    rw [if_neg (by decide), if_neg (by decide), if_neg (by decide), if_neg (by decide), if_neg (by decide), if_pos rfl, z6W, zA, y2M hx _ _ (by simp only [zL, szw, z8R, wIf, z1t, z9v, z1s, z0a, wDo, z3A, wTo, List.length_cons, List.length_nil] at ho ⊢; omega), zA]
    simp
  | do_ =>
    obtain ⟨w1, rfl, x, ps', wx, w4, rfl, rfl, hx, w5, rfl, rfl, rfl⟩ := h
    dsimp only
    rw [if_neg (by decide), if_neg (by decide), if_neg (by decide), if_neg (by decide), if_neg (by decide), if_neg (by decide), if_pos rfl, z6W, zA, y2M hx _ _ (by simp only [zL, szw, z8R, wIf, z1t, z9v, z1s, z0a, wDo, z3A, wTo, List.length_cons, List.length_nil] at ho ⊢; omega), zA]
    simp
  | set =>
    obtain ⟨x, ps', wx, w1, rfl, rfl, hx, w2, rfl, y, ps'', wy, w4, rfl, rfl, hy, w5, rfl, rfl, rfl⟩ := h
    dsimp only
    rw [if_neg (by decide), if_neg (by decide), if_neg (by decide), if_pos rfl, z6W, zA, z8L hx _ (by simp only [zL, szw, z8R, wIf, z1t, z9v, z1s, z0a, wDo, z3A, wTo, List.length_cons, List.length_nil] at ho ⊢; omega), zA, y5A, zA, y2M hy _ _ (by simp only [zL, szw, z8R, wIf, z1t, z9v, z1s, z0a, wDo, z3A, wTo, List.length_cons, List.length_nil] at ho ⊢; omega), zA]
    simp
def LnS : SC → List Str → Prop
  | .ss l, w => l.length ≤ szw w
  | .st _, w => 1 ≤ szw w
  | .bl _, w => 1 ≤ szw w
  | .fm its _ _, w => its = [] ∨ 1 ≤ szw w
theorem y5T {w : List Str} (h : w ≠ []) : 1 ≤ szw w := by
  cases w with
  | nil => exact absurd rfl h
  | cons x r => simp only [szw]; omega
theorem v6s {c : SC} {w : List Str} (h : PS c w) : LnS c w := by
  induction h with
  | blk _ _ => exact y5T (by simp)
  | ss0 => exact Nat.le_refl _
  | ssc _ _ ih1 ih2 => simp only [LnS, zL, List.length_cons] at ih1 ih2 ⊢; omega
  | stB _ ih => exact ih
  | stF hk _ _ ih =>
    simp only [LnS] at ih ⊢
    rcases ih with rfl | ih
    · cases hk
    · exact ih
  | f0 => exact .inl rfl
  | fW _ _ => exact .inr (y5T (by simp))
  | fS _ _ => exact .inr (y5T (by simp))
  | fN _ _ _ => exact .inr (y5T (by simp))
  | fX h _ _ => exact .inr (y5T (by have := v6p h; simp [this]))
  | fT h _ _ => exact .inr (y5T (by cases h <;> simp))
  | fK _ _ ih _ => simp only [LnS] at ih ⊢; rw [zL]; exact .inr (by omega)
  | fE1 _ _ ih _ => simp only [LnS] at ih ⊢; rw [zL]; exact .inr (by omega)
  | fE2 _ _ _ _ ih _ _ => simp only [LnS] at ih ⊢; rw [zL, zL]; exact .inr (by omega)
theorem y9P {c : SC} {w : List Str} (h : PS c w) : PPS c w := by
  induction h with
  | @blk l w F T hp ih =>
    refine ⟨by simp, fun out ho => ?_⟩
    have hz := v5i hp
    simp only [zL] at ho
    have hll : l.length ≤ 1000000000 := by have := v6s hp; simp only [LnS] at this; omega
    rw [z8w]; unfold z0G
    rw [uE _ _ (by omega), zA]
    have := ih l 0 (out ++ [[123]]) (by simp) hll (by rw [zL, zL]; omega)
    rw [show print_writer_block_L3 l (l.length : Int) 0 (out ++ [[123]]) = _ from this]
    simp
  | ss0 =>
    intro L i out hd hL ho
    rw [z3X]; unfold jO
    have : L.length ≤ i := by have := congrArg List.length hd; simp at this; omega
    rw [if_neg (by omega), uE _ _ (by simpa using ho)]; rfl
  | @ssc x l w wl h1 h2 ih1 ih2 =>
    intro L i out hd hL ho
    rw [zL, zL] at ho
    have hlt : i < L.length := by
      have := congrArg List.length hd
      rw [List.length_drop, List.length_cons] at this; omega
    have hdd := List.drop_eq_getElem_cons hlt
    rw [hd] at hdd
    injection hdd with e1 e2
    rw [z3X]; unfold jO
    rw [if_pos (by omega), z3D hlt, zA, ← e1, ih1 out (by omega), zA, z3B (by omega) (by omega), z1J, ih2 L (i + 1) _ e2.symm hL (by rw [zL, zL]; omega)]
    simp
  | @stB x w hb ih =>
    intro out ho
    have hK : x.K = 29 := by cases hb; rfl
    rw [z5D]; unfold z0p
    rw [if_pos hK, ih.2 out ho]; rfl
  | stF hk _ _ ih => intro out ho; exact v5t hk ih out ho
  | f0 => exact ⟨rfl, rfl⟩
  | fW _ ih => exact ⟨_, rfl, ih⟩
  | fS _ ih => exact ⟨_, rfl, ih⟩
  | fN _ _ ih => exact ⟨_, rfl, ih⟩
  | fX h _ ih => exact ⟨_, _, _, _, rfl, rfl, h, ih⟩
  | fT h _ ih => exact ⟨_, _, _, _, rfl, rfl, h, ih⟩
  | fK _ _ ih1 ih2 => exact ⟨_, _, _, _, rfl, rfl, ih1.1, ih1.2, ih2⟩
  | @fE1 its x ps nm wx w F T _ _ ih1 ih2 => exact ⟨_, _, _, wx, [], w, rfl, by simp, ih1.1, ih1.2, .inl ⟨rfl, rfl⟩, ih2⟩
  | fE2 _ _ hy _ ih1 ih2 ih3 => exact ⟨_, _, _, _, _, _, rfl, by simp, ih1.1, ih1.2, .inr ⟨hy, _, rfl, ih2.1, ih2.2⟩, ih3⟩
theorem v5e {x : zD} {w : List Str} (h : PN x w) (out : List Str) (ho : szw out + szw w ≤ 1000000000) : jF x out = some (out ++ w) := by
  cases h with
  | mk h1 h2 => exact y6A h2 out ho
theorem y7w {l : List zD} {L : List zD} {i : Nat} {x : zD} (hd : L.drop i = x :: l) : ∃ h : i < L.length, L[i] = x ∧ L.drop (i + 1) = l := by
  have hlt : i < L.length := by
    have := congrArg List.length hd
    rw [List.length_drop, List.length_cons] at this; omega
  have hdd := List.drop_eq_getElem_cons hlt
  rw [hd] at hdd
  injection hdd with e1 e2
  exact ⟨hlt, e1.symm, e2.symm⟩
theorem v1L (L : List zD) (out : List Str) (i : Nat) (h : L.length ≤ i) : print_writer_list_writer_named_L1 L (L.length : Int) (i : Int) out = some out := by
  rw [z1x]; unfold vO
  rw [if_neg (by omega)]
theorem y9L {L l : List zD} {i : Nat} {x : zD} {w : List Str} (hL : L.length ≤ 1000000000) (hx : PN x w) (h : L.drop i = x :: l) (out : List Str) (hs : szw out + szw (y6U i w) ≤ 1000000000) :
    print_writer_list_writer_named_L1 L (L.length : Int) (i : Int) out = print_writer_list_writer_named_L1 L (L.length : Int) ((i + 1 : Nat) : Int) (out ++ y6U i w) ∧ L.drop (i + 1) = l := by
  obtain ⟨hlt, e1, e2⟩ := y7w h
  refine ⟨?_, e2⟩
  conv => lhs; rw [z1x]
  unfold vO
  unfold y6U at hs ⊢
  rw [if_pos (by omega), z3D hlt, zA, e1]
  by_cases hi : i = 0
  · rw [if_pos hi] at hs ⊢
    rw [if_neg (by omega), v5e hx out hs, zA, z3B (by omega) (by omega), z1J]
  · rw [if_neg hi] at hs ⊢
    rw [zL] at hs
    rw [if_pos (by omega), uE _ _ (by omega), zA, v5e hx _ (by rw [zL]; omega), zA, z3B (by omega) (by omega), z1J, List.append_assoc]
theorem v6m {l : List zD} {w : List Str} (h : PNs l w) : ∀ (L : List zD) (i : Nat) (out : List Str), L.drop i = l → L.length ≤ 1000000000 → szw out + szw (y6U i w) ≤ 1000000000 → print_writer_list_writer_named_L1 L (L.length : Int) (i : Int) out = some (out ++ y6U i w) := by
  induction h with
  | one hx =>
    intro L i out hd hL hs
    obtain ⟨e1, e2⟩ := y9L hL hx hd out hs
    rw [e1, v1L _ _ _ (by have := congrArg List.length e2; simp at this; omega)]
  | @cons x l w wl hx _ ih =>
    intro L i out hd hL hs
    have e0 : y6U i (w ++ [[44]] ++ wl) = y6U i w ++ y6U (i + 1) wl := by unfold y6U; rw [if_neg (show ¬ i + 1 = 0 by omega)]; split <;> simp
    rw [e0, zL] at hs
    obtain ⟨e1, e2⟩ := y9L hL hx hd out (by omega)
    rw [e1, ih L (i + 1) _ e2 hL (by rw [zL]; omega), e0, List.append_assoc]
theorem v6i {l : List zD} {w : List Str} (h : PFs l w) : ∀ (L : List zD) (i : Nat) (out : List Str), L.drop i = l → L.length ≤ 1000000000 → szw out + szw (w ++ [[125]]) ≤ 1000000000 → print_writer_decl_L5 L (L.length : Int) (i : Int) out = some (out ++ (w ++ [[125]])) := by
  induction h with
  | nil =>
    intro L i out hd hL ho
    rw [z4D]; unfold gA
    have : L.length ≤ i := by have := congrArg List.length hd; simp at this; omega
    rw [if_neg (by omega), uE _ _ (by simpa using ho)]; rfl
  | @cons x l w wl hx _ ih =>
    intro L i out hd hL ho
    simp only [zL] at ho
    obtain ⟨hlt, e1, e2⟩ := y7w hd
    rw [z4D]; unfold gA
    rw [if_pos (by omega), z3D hlt, zA, e1, v5e hx _ (by omega), zA, uE _ _ (by rw [zL]; omega), zA, z3B (by omega) (by omega), z1J, ih L (i + 1) _ e2 hL (by simp only [zL]; omega)]
    simp
theorem v6l {l : List zD} {w : List Str} (h : PNs l w) : l.length ≤ szw w := by
  induction h with
  | @one x w h => cases h; simp only [zL, szw, List.length_cons, List.length_nil]; omega
  | @cons x l w wl h _ ih => simp only [zL, szw, List.length_cons, List.length_nil]; omega
theorem v6h {l : List zD} {w : List Str} (h : PFs l w) : l.length ≤ szw w := by
  induction h with
  | nil => exact Nat.le_refl _
  | @cons x l w wl h _ ih => simp only [zL, szw, List.length_cons, List.length_nil]; omega
theorem v4J {x : zD} {w : List Str} (h : PD x w) (out : List Str) (ho : szw out + szw w ≤ 1000000000) : z2v x out = some (out ++ w) := by
  unfold z2v
  cases h with
  | @rcd s l w F T hn _ hf =>
    have hl := v6h hf
    simp only [zL] at ho
    dsimp only
    rw [if_pos rfl, uE _ _ (by omega), zA]
    have := v6i hf l 0 (out ++ [[114, 101, 99], s, [123]]) (by simp) (by omega) (by simp only [zL]; omega)
    rw [show print_writer_decl_L5 l (l.length : Int) 0 (out ++ [[114, 101, 99], s, [123]]) = _ from this]
    simp
  | @const s x w F T hn hp =>
    dsimp only
    rw [if_neg (by decide), if_pos rfl, z6W, zA, y2M hp.pr _ _ ho]; rfl
  | @var s x w F T hn ht =>
    have e : szw ([[118, 97, 114], s, [58]] ++ w ++ [[59]]) = szw [[118, 97, 114]] + (szw [s, [58]] + szw w) + szw [[59]] := by simp only [zL, szw]; omega
    rw [e] at ho
    dsimp only
    rw [if_neg (by decide), if_neg (by decide), if_pos rfl, uE _ _ (by omega), zA, y6A ht _ (by simp only [zL]; omega), zA, uE _ _ (by simp only [zL]; omega), zA]
    simp
  | @fn0 n s x y wx wy F T F' T' hn2 hn ht hb =>
    simp only [zL] at ho
    have hb' : ∀ out, szw out + szw wy ≤ 1000000000 → print_writer_block y out = some (out ++ wy) := (y9P hb).2
    dsimp only
    have p2 : yL ⟨33, n, s, [⟨35, 0, [], [], F', T'⟩, x, y], F, T⟩ 2 = some y := by unfold yL; rw [if_pos (by simp only [List.length_cons, List.length_nil]; omega)]; rfl
    have pl : ∀ out, vU [] out = some out := fun out => by unfold vU; exact v1L [] out 0 (by simp)
    rcases hn2 with rfl | rfl
    · rw [if_neg (show ¬ (0 : Int) = 1 by decide)] at ho ⊢
      rw [if_neg (by decide), if_neg (by decide), if_neg (by decide), if_pos rfl, if_neg (by decide), uE _ _ (by omega), zA, z6W, zA]
      dsimp only
      rw [pl, zA, uE _ _ (by simp only [zL]; omega), zA, y5A, zA, y4K ht _ (by simp only [zL]; omega), zA, p2, zA, hb' _ (by simp only [zL]; omega), zA]
      simp
    · rw [if_pos (show (1 : Int) = 1 by decide)] at ho ⊢
      rw [if_neg (by decide), if_neg (by decide), if_neg (by decide), if_pos rfl, if_pos rfl, uE _ _ (by omega), zA, uE _ _ (by simp only [zL]; omega), zA, z6W, zA]
      dsimp only
      rw [pl, zA, uE _ _ (by simp only [zL]; omega), zA, y5A, zA, y4K ht _ (by simp only [zL]; omega), zA, p2, zA, hb' _ (by simp only [zL]; omega), zA]
      simp
  | @fn n s l x y wl wx wy F T F' T' hn2 hn hp ht hb =>
    have hl := v6l hp
    simp only [zL] at ho
    have hb' : ∀ out, szw out + szw wy ≤ 1000000000 → print_writer_block y out = some (out ++ wy) := (y9P hb).2
    dsimp only
    have p2 : yL ⟨33, n, s, [⟨35, 0, [], l, F', T'⟩, x, y], F, T⟩ 2 = some y := by unfold yL; rw [if_pos (by simp only [List.length_cons, List.length_nil]; omega)]; rfl
    have pl : ∀ out, szw out + szw wl ≤ 1000000000 → vU l out = some (out ++ wl) := fun out h => by
      unfold vU
      exact v6m hp l 0 out (by simp) (by omega) h
    rcases hn2 with rfl | rfl
    · rw [if_neg (show ¬ (0 : Int) = 1 by decide)] at ho ⊢
      rw [if_neg (by decide), if_neg (by decide), if_neg (by decide), if_pos rfl, if_neg (by decide), uE _ _ (by omega), zA, z6W, zA]
      dsimp only
      rw [pl _ (by simp only [zL]; omega), zA, uE _ _ (by simp only [zL]; omega), zA, y5A, zA, y4K ht _ (by simp only [zL]; omega), zA, p2, zA, hb' _ (by simp only [zL]; omega), zA]
      simp
    · rw [if_pos (show (1 : Int) = 1 by decide)] at ho ⊢
      rw [if_neg (by decide), if_neg (by decide), if_neg (by decide), if_pos rfl, if_pos rfl, uE _ _ (by omega), zA, uE _ _ (by simp only [zL]; omega), zA, z6W, zA]
      dsimp only
      rw [pl _ (by simp only [zL]; omega), zA, uE _ _ (by simp only [zL]; omega), zA, y5A, zA, y4K ht _ (by simp only [zL]; omega), zA, p2, zA, hb' _ (by simp only [zL]; omega), zA]
      simp
mutual
def z1m : zD → zD
  | ⟨K, N, S, L, _, _⟩ => ⟨K, N, S, uL L, 0, 0⟩
def uL : List zD → List zD
  | [] => []
  | x :: r => z1m x :: uL r
end
abbrev TM (x : zB) (w : Str) : Prop := Tok x.K x.N x.S w
theorem y8i {x : zB} {w : Str} (h : TM x w) : one w = .inr (x.K, x.N, x.S, w.length) := by
  have := h [] (.inl rfl); rwa [List.append_nil] at this
theorem z9u {x : zB} {w : Str} {k n : Int} {s : Str} {l : Nat} (h : TM x w) (ho : one w = .inr (k, n, s, l)) : x.K = k ∧ x.N = n ∧ x.S = s := by
  have := y8i h
  rw [this] at ho
  injection ho with ho
  simp only [Prod.mk.injEq] at ho
  exact ⟨ho.1, ho.2.1, ho.2.2.1⟩
def At (u : List zB) : Nat → List Str → Prop
  | _, [] => True
  | a, w :: r => (a < u.length ∧ TM (zP u a) w) ∧ At u (a + 1) r
theorem z0e {u : List zB} : ∀ {x y : List Str} {a : Nat}, At u a (x ++ y) → At u a x ∧ At u (a + x.length) y
  | [], y, a, h => ⟨trivial, by simpa using h⟩
  | w :: r, y, a, ⟨h1, h2⟩ => by
    obtain ⟨g1, g2⟩ := z0e h2
    exact ⟨⟨h1, g1⟩, by rw [List.length_cons, show a + (r.length + 1) = a + 1 + r.length by omega]; exact g2⟩
section
variable {u : List zB}
theorem z2w {a : Nat} {s : Str} (h : TM (zP u a) s) (ho : one s = .inr (4, 0, s, s.length)) : yK u a s = true := by
  obtain ⟨h1, -, h3⟩ := z9u h ho
  unfold yK; rw [h1, h3]; simp
theorem z4d {a : Nat} {w s : Str} (h : TM (zP u a) w) (hne : w ≠ s) : yK u a s = false := by
  cases hs : yK u a s with
  | false => rfl
  | true =>
    exfalso
    unfold yK at hs
    simp only [Bool.and_eq_true, decide_eq_true_eq, beq_iff_eq] at hs
    have h1 := y8i h
    rcases z8u h1 with ⟨h2, -, -⟩ | ⟨-, -, -, h2⟩
    · omega
    · rw [hs.2, List.take_of_length_le (Nat.le_refl _)] at h2; exact hne h2.symm
def Fol (u : List zB) (k b : Nat) : Prop := (z6z (zP u b)).2 < k ∧ yK u b [91] = false ∧ yK u b [46] = false ∧ yK u b [40] = false
theorem Fol.mono {k k' b : Nat} (h : Fol u k b) (hk : k ≤ k') : Fol u k' b := ⟨by have := h.1; omega, h.2⟩
theorem z8o {b : Nat} {w : Str} (h : TM (zP u b) w) (hw : w = [41] ∨ w = [93] ∨ w = [44]) : Fol u 1 b := by
  have hn : ∀ s : Str, w ≠ s → yK u b s = false := fun s hs => z4d h hs
  have ho : one w = .inr (4, 0, w, 1) := by rcases hw with rfl | rfl | rfl <;> rfl
  obtain ⟨h1, -, h3⟩ := z9u h ho
  refine ⟨?_, hn _ ?_, hn _ ?_, hn _ ?_⟩
  · unfold z6z
    rw [if_pos h1, h3]
    rcases hw with rfl | rfl | rfl <;> decide
  all_goals (rcases hw with rfl | rfl | rfl <;> decide)
theorem y9S {n : Int} (h1 : 1 ≤ n) (h2 : n ≤ 13) : one (v0O n) = .inr (4, 0, v0O n, (v0O n).length) := by
  rcases v1V h1 h2 with rfl | rfl | rfl | rfl | rfl | rfl | rfl | rfl | rfl | rfl | rfl | rfl | rfl <;> rfl
theorem v5a {b : Nat} {n : Int} (h1 : 1 ≤ n) (h2 : n ≤ 13) (h : TM (zP u b) (v0O n)) : z6z (zP u b) = (n, z7h n) ∧ Fol u (z7h n + 1) b := by
  obtain ⟨g1, -, g3⟩ := z9u h (y9S h1 h2)
  have e : z6z (zP u b) = (n, z7h n) := by
    unfold z6z
    rw [if_pos g1, g3]
    rcases v1V h1 h2 with rfl | rfl | rfl | rfl | rfl | rfl | rfl | rfl | rfl | rfl | rfl | rfl | rfl <;> rfl
  refine ⟨e, by rw [e]; exact Nat.lt_succ_self _, ?_, ?_, ?_⟩
  all_goals (refine z4d h ?_; rcases v1V h1 h2 with rfl | rfl | rfl | rfl | rfl | rfl | rfl | rfl | rfl | rfl | rfl | rfl | rfl <;> decide)
def LV (u : List zB) (a b : Nat) (x : zD) (k : Nat) : Prop := ∃ y, z1m y = z1m x ∧ Der u (.lev k) a (.ok y b)
def CN (u : List zB) (a b : Nat) (x : zD) (k : Nat) : Prop := ∃ y m, z1m y = z1m x ∧ (k = 3 → 4 ≤ bnd x → m = 0) ∧ ∀ r, Der u (.ll k m a y) b r → Der u (.lev k) a r
def Q7 (u : List zB) (a b : Nat) (x : zD) : Prop := yK u a [45] = false ∧ yK u a [33] = false ∧ ∃ y, z1m y = z1m x ∧ ∀ r, Der u (.pl a y) b r → Der u .post a r
theorem v5Y {a b k : Nat} {x : zD} (h1 : 1 ≤ k) (h2 : k ≤ 5) (h : LV u a b x (k + 1)) : CN u a b x k := by
  obtain ⟨y, e, hd⟩ := h
  exact ⟨y, 0, e, fun _ _ => rfl, fun r hr => .lev h1 h2 hd hr⟩
theorem v5P {a b k : Nat} {x : zD} (h1 : 1 ≤ k) (hf : Fol u k b) (h : CN u a b x k) : LV u a b x k := by
  obtain ⟨y, m, e, -, hd⟩ := h
  exact ⟨y, e, hd _ (.llE h1 (.inl (by have := hf.1; omega)))⟩
theorem v5j {a b : Nat} {x : zD} (hf : Fol u 6 b) (h : Q7 u a b x) : LV u a b x 6 := by
  obtain ⟨s1, s2, y, e, hd⟩ := h
  exact ⟨y, e, .unP s1 s2 (hd _ (.plE hf.2.1 hf.2.2.1))⟩
theorem v2X {a b j : Nat} {x : zD} (hj : j ≤ 6) (h : Fol u j b → LV u a b x j) : ∀ d k, k + d = j → 1 ≤ k → (Fol u k b → LV u a b x k) ∧ (k < j → Fol u (k + 1) b → CN u a b x k) := by
  intro d
  induction d with
  | zero => intro k hk h1; have : k = j := by omega
            subst this; exact ⟨h, fun h => by omega⟩
  | succ d ih =>
    intro k hk h1
    have g := (ih (k + 1) (by omega) (by omega)).1
    exact ⟨fun hf => v5P h1 hf (v5Y h1 (by omega) (g (hf.mono (by omega)))), fun _ hf => v5Y h1 (by omega) (g hf)⟩
def QM (u : List zB) : XC → List Str → Prop
  | .ex x, w => ∀ a, At u a w →
      (bnd x = 7 → yK u (a + w.length) [40] = false → Q7 u a (a + w.length) x) ∧
      (∀ k, 1 ≤ k → k ≤ 6 → k ≤ bnd x → Fol u k (a + w.length) → LV u a (a + w.length) x k) ∧
      (∀ k, 1 ≤ k → k ≤ 5 → k ≤ bnd x → Fol u (k + 1) (a + w.length) → CN u a (a + w.length) x k)
  | .ls l, w => ∀ acc a, At u a w → yK u (a + w.length) [44] = false → Fol u 1 (a + w.length) → ∃ l', uL l' = uL l ∧ Der u (.lst acc) a (.ok (lT (acc ++ l')) (a + w.length))
theorem v2Z {x : zD} {a b : Nat} (hb : bnd x = 7) (h : yK u b [40] = false → Q7 u a b x) :
    (bnd x = 7 → yK u b [40] = false → Q7 u a b x) ∧ (∀ k, 1 ≤ k → k ≤ 6 → k ≤ bnd x → Fol u k b → LV u a b x k) ∧ (∀ k, 1 ≤ k → k ≤ 5 → k ≤ bnd x → Fol u (k + 1) b → CN u a b x k) := by
  have top : Fol u 6 b → LV u a b x 6 := fun hf => v5j hf (h hf.2.2.2)
  exact ⟨fun _ => h, fun k h1 h2 _ hf => (v2X (Nat.le_refl 6) top (6 - k) k (by omega) h1).1 hf, fun k h1 h2 _ hf => (v2X (Nat.le_refl 6) top (6 - k) k (by omega) h1).2 (by omega) hf⟩
theorem v6W {x : zD} {a b : Nat} (hb : bnd x = 6) (top : Fol u 6 b → LV u a b x 6) :
    (bnd x = 7 → yK u b [40] = false → Q7 u a b x) ∧ (∀ k, 1 ≤ k → k ≤ 6 → k ≤ bnd x → Fol u k b → LV u a b x k) ∧ (∀ k, 1 ≤ k → k ≤ 5 → k ≤ bnd x → Fol u (k + 1) b → CN u a b x k) :=
  ⟨fun h => by omega, fun k h1 h2 _ hf => (v2X (Nat.le_refl 6) top (6 - k) k (by omega) h1).1 hf, fun k h1 h2 _ hf => (v2X (Nat.le_refl 6) top (6 - k) k (by omega) h1).2 (by omega) hf⟩
theorem v7c {x : zD} {a b kk : Nat} (hb : bnd x = kk) (h5 : 1 ≤ kk ∧ kk ≤ 5) (h : Fol u (kk + 1) b → CN u a b x kk) :
    (bnd x = 7 → yK u b [40] = false → Q7 u a b x) ∧ (∀ k, 1 ≤ k → k ≤ 6 → k ≤ bnd x → Fol u k b → LV u a b x k) ∧ (∀ k, 1 ≤ k → k ≤ 5 → k ≤ bnd x → Fol u (k + 1) b → CN u a b x k) := by
  have top : Fol u kk b → LV u a b x kk := fun hf => v5P h5.1 hf (h (hf.mono (by omega)))
  refine ⟨fun h => by omega, fun k h1 h2 h3 hf => (v2X (by omega) top (kk - k) k (by omega) h1).1 hf, fun k h1 h2 h3 hf => ?_⟩
  by_cases e : k = kk
  · subst e; exact h hf
  · exact (v2X (by omega) top (kk - k) k (by omega) h1).2 (by omega) hf
theorem y6D {x : zD} {w : List Str} (ih : QM u (.ex x) w) {a : Nat} (h : At u a ([[40]] ++ w ++ [[41]])) : Q7 u a (a + ([[40]] ++ w ++ [[41]]).length) x := by
  obtain ⟨h1, h2⟩ := z0e h
  obtain ⟨h3, h4⟩ := z0e h1
  have t1 : TM (zP u a) [40] := h3.1.2
  have e0 : a + ([[40]] : List Str).length = a + 1 := rfl
  rw [e0] at h4
  have e1 : a + (([[40]] : List Str) ++ w).length = a + 1 + w.length := by simp; omega
  rw [e1] at h2
  have t2 : TM (zP u (a + 1 + w.length)) [41] := h2.1.2
  have hb : 1 ≤ bnd x := by unfold bnd; have := y1X x.N; (repeat' split) <;> omega
  obtain ⟨y, e, hd⟩ := (ih (a + 1) h4).2.1 1 (Nat.le_refl 1) (by omega) hb (z8o t2 (.inl rfl))
  have hsg := z2w t1 rfl
  have hk : z0o u a = .paren := by
    obtain ⟨k1, -, k3⟩ := z9u t1 (show one [40] = .inr (4, 0, [40], 1) from rfl)
    have hw : ∀ s, vC u a s = false := fun s => by unfold vC; rw [k1]; rfl
    unfold z0o
    rw [if_neg (by rw [k1]; decide), if_neg (by rw [k1]; decide), hw, if_neg (by decide), hw, if_neg (by decide), hw, if_neg (by decide), hw, if_neg (by decide), if_pos hsg]
  have e2 : a + (([[40]] : List Str) ++ w ++ [[41]]).length = a + 1 + w.length + 1 := by simp; omega
  rw [e2]
  exact ⟨z4d t1 (by decide), z4d t1 (by decide), y, e, fun r hr => .post (.par hk hd (z2w t2 rfl)) hr⟩
theorem y8I {x : zD} {w : List Str} (ih : QM u (.ex x) w) {a k : Nat} (h1 : 1 ≤ k) (h2 : k ≤ 6) (h : At u a (hw k x w)) (hf : Fol u k (a + (hw k x w).length)) : LV u a (a + (hw k x w).length) x k := by
  unfold hw at h hf ⊢
  by_cases hc : k ≤ bnd x
  · rw [if_pos hc] at h hf ⊢
    exact (ih a h).2.1 k h1 h2 hc hf
  · rw [if_neg hc] at h hf ⊢
    have top : Fol u 6 (a + ([[40]] ++ w ++ [[41]]).length) → LV u a (a + ([[40]] ++ w ++ [[41]]).length) x 6 := fun hf => v5j hf (y6D ih h)
    exact (v2X (Nat.le_refl 6) top (6 - k) k (by omega) h1).1 hf
theorem v4j {x : zD} {w : List Str} (ih : QM u (.ex x) w) {a : Nat} (h : At u a (hw 7 x w)) (hf : yK u (a + (hw 7 x w).length) [40] = false) : Q7 u a (a + (hw 7 x w).length) x := by
  unfold hw at h hf ⊢
  by_cases hc : 7 ≤ bnd x
  · rw [if_pos hc] at h hf ⊢
    have : bnd x = 7 := by
      have := y1X x.N
      unfold bnd at hc ⊢; (repeat' split) <;> (repeat' split at hc) <;> omega
    exact (ih a h).1 this hf
  · rw [if_neg hc] at h hf ⊢
    exact y6D ih h
theorem v4O {x : zD} {w : List Str} (ih : QM u (.ex x) w) {a : Nat} {n : Int} (h1 : 1 ≤ n) (h2 : n ≤ 13) (h : At u a (hw (y4L n) x w)) (hf : Fol u (z7h n + 1) (a + (hw (y4L n) x w).length)) :
    ∃ y m, z1m y = z1m x ∧ ¬ (z7h n = 3 ∧ m = 1) ∧ ∀ r, Der u (.ll (z7h n) m a y) (a + (hw (y4L n) x w).length) r → Der u (.lev (z7h n)) a r := by
  have hl := y1X n
  have hle : z7h n ≤ y4L n := by unfold y4L; split <;> omega
  have fin : CN u a (a + (hw (y4L n) x w).length) x (z7h n) → (z7h n = 3 → 4 ≤ bnd x ∨ False) → ∃ y m, z1m y = z1m x ∧ ¬ (z7h n = 3 ∧ m = 1) ∧ ∀ r, Der u (.ll (z7h n) m a y) (a + (hw (y4L n) x w).length) r → Der u (.lev (z7h n)) a r := fun ⟨y, m, e, c1, c2⟩ c3 =>
    ⟨y, m, e, fun ⟨g1, g2⟩ => by rcases c3 g1 with c | c
                                 · have := c1 g1 c; omega
                                 · exact c, c2⟩
  unfold hw at h hf fin ⊢
  by_cases hc : y4L n ≤ bnd x
  · rw [if_pos hc] at h hf fin ⊢
    refine fin ((ih a h).2.2 (z7h n) hl.1 hl.2 (by omega) hf) (fun g => .inl ?_)
    unfold y4L at hc; rw [if_pos g] at hc; exact hc
  · rw [if_neg hc] at h hf ⊢
    have top : Fol u 6 (a + ([[40]] ++ w ++ [[41]]).length) → LV u a (a + ([[40]] ++ w ++ [[41]]).length) x 6 := fun hf => v5j hf (y6D ih h)
    obtain ⟨y, e, hd⟩ := (v2X (Nat.le_refl 6) top (6 - (z7h n + 1)) (z7h n + 1) (by omega) (by omega)).1 hf
    exact ⟨y, 0, e, fun ⟨_, g⟩ => by omega, fun r hr => .lev hl.1 hl.2 hd hr⟩
end
theorem y9Y {k n : Int} {t w s : Str} {n' : Int} {t' : Str} {l : Nat} (h : Tok k n t w) (ho : one s = .inr (4, n', t', l)) (hk : k ≠ 4) : w ≠ s := by
  rintro rfl
  have := h [] (.inl rfl)
  rw [List.append_nil, ho] at this
  injection this with this
  simp only [Prod.mk.injEq] at this
  exact hk this.1.symm
theorem v0o {c : XC} {w : List Str} (h : PR c w) : ∃ w0 r, w = w0 :: r ∧ w0 ≠ [41] := by
  have hwf : ∀ {k : Nat} {x : zD} {w : List Str}, (∃ w0 r, w = w0 :: r ∧ w0 ≠ [41]) → ∃ w0 r, hw k x w = w0 :: r ∧ w0 ≠ [41] := fun {k x w} ⟨w0, r, e, hn⟩ => by
    unfold hw; split
    · exact ⟨w0, r, e, hn⟩
    · exact ⟨[40], _, rfl, by decide⟩
  induction h with
  | num h1 h2 => exact ⟨_, _, rfl, y9Y h2 (show one [41] = .inr (4, 0, [41], 1) from rfl) (by decide)⟩
  | tru => exact ⟨_, _, rfl, by decide⟩
  | fal => exact ⟨_, _, rfl, by decide⟩
  | rd => exact ⟨_, _, rfl, by decide⟩
  | name h => exact ⟨_, _, rfl, y9Y h (show one [41] = .inr (4, 0, [41], 1) from rfl) (by decide)⟩
  | @bin n x y wx wy F T h1 h2 p1 p2 ih1 ih2 => obtain ⟨w0, r, e, hn⟩ := hwf (k := y4L n) (x := x) ih1; rw [e]; exact ⟨w0, _, rfl, hn⟩
  | neg _ _ => exact ⟨_, _, rfl, by decide⟩
  | not _ _ => exact ⟨_, _, rfl, by decide⟩
  | @index x i wx wi F T p1 p2 ih1 ih2 => obtain ⟨w0, r, e, hn⟩ := hwf (k := 7) (x := x) ih1; rw [e]; exact ⟨w0, _, rfl, hn⟩
  | @field s x wx F T p0 p1 ih1 => obtain ⟨w0, r, e, hn⟩ := hwf (k := 7) (x := x) ih1; rw [e]; exact ⟨w0, _, rfl, hn⟩
  | lis _ _ => exact ⟨_, _, rfl, by decide⟩
  | call hk h _ _ =>
    rcases hk with rfl | rfl | rfl
    · exact ⟨_, _, rfl, by decide⟩
    · exact ⟨_, _, rfl, y9Y h (show one [41] = .inr (4, 0, [41], 1) from rfl) (by decide)⟩
    · exact ⟨_, _, rfl, by decide⟩
  | call0 hk h =>
    rcases hk with rfl | rfl
    · exact ⟨_, _, rfl, y9Y h (show one [41] = .inr (4, 0, [41], 1) from rfl) (by decide)⟩
    · exact ⟨_, _, rfl, by decide⟩
  | one _ ih => exact ih
  | cons _ _ ih _ => obtain ⟨w0, r, e, hn⟩ := ih; rw [e]; exact ⟨w0, _, rfl, hn⟩
section
variable {u : List zB}
theorem v5F {a : Nat} {s : Str} (h : (zP u a).K ≠ 4) : yK u a s = false := by unfold yK; rw [decide_eq_false h]; rfl
theorem y4i {a : Nat} {k n : Int} {s : Str} {F T : Int} (h : z0o u a = .one k n s) (h4 : (zP u a).K ≠ 4) : Q7 u a (a + 1) ⟨k, n, s, [], F, T⟩ :=
  ⟨v5F h4, v5F h4, _, by simp [z1m, uG, uL], fun r hr => .post (.one h) hr⟩
theorem y6S {a : Nat} {s : Str} (h : TM (zP u a) s) (ho : one s = .inr (3, 0, s, s.length)) : vC u a s = true ∧ (zP u a).K = 3 ∧ (zP u a).S = s := by
  obtain ⟨h1, -, h3⟩ := z9u h ho
  exact ⟨by unfold vC; rw [h1, h3]; simp, h1, h3⟩
theorem z8s {a : Nat} {s : Str} (h : TM (zP u a) s) (hn : Nm s) : (zP u a).K = 1 ∧ (zP u a).S = s := by
  have ho : one s = .inr (1, 0, s, s.length) := by have := hn [] (.inl rfl); rwa [List.append_nil] at this
  obtain ⟨h1, -, h3⟩ := z9u h ho
  exact ⟨h1, h3⟩
theorem y7s {k : Int} {s : Str} (hk : k = 15 ∨ k = 16 ∨ k = 17) (hn : Nm s) {a : Nat} (h : At u a (z9A k s ++ [[40]])) : ∃ few, z0o u a = .call k s (a + (z9A k s).length) few ∧ (k = 16 ∨ k = 17 → few = true) ∧ yK u a [45] = false ∧ yK u a [33] = false := by
  rcases hk with rfl | rfl | rfl
  · have h' : At u a [[110, 101, 119], s, [40]] := h
    obtain ⟨⟨-, h1⟩, ⟨-, h2⟩, -⟩ := h'
    obtain ⟨w1, w2, w3⟩ := y6S h1 rfl
    obtain ⟨n1, n2⟩ := z8s h2 hn
    refine ⟨false, ?_, fun h => by omega, v5F (by rw [w2]; decide), v5F (by rw [w2]; decide)⟩
    unfold z0o
    rw [if_neg (by rw [w2]; decide), if_neg (by rw [w2]; decide), y5s w1 (by decide), if_neg (by decide), y5s w1 (by decide), if_neg (by decide), y5s w1 (by decide), if_neg (by decide), if_pos w1, if_pos n1, n2]; rfl
  · have h' : At u a [s, [40]] := h
    obtain ⟨⟨-, h1⟩, ⟨-, h2⟩, -⟩ := h'
    obtain ⟨n1, n2⟩ := z8s h1 hn
    refine ⟨true, ?_, fun _ => rfl, v5F (by rw [n1]; decide), v5F (by rw [n1]; decide)⟩
    unfold z0o
    rw [if_neg (by rw [n1]; decide), if_pos n1, if_pos (z2w h2 rfl), n2]; rfl
  · have h' : At u a [[64], s, [40]] := h
    obtain ⟨⟨-, h1⟩, ⟨-, h2⟩, -⟩ := h'
    obtain ⟨k1, -, k3⟩ := z9u h1 (show one [64] = .inr (4, 0, [64], 1) from rfl)
    obtain ⟨n1, n2⟩ := z8s h2 hn
    have hw : ∀ s, vC u a s = false := fun s => by unfold vC; rw [k1]; rfl
    refine ⟨true, ?_, fun _ => rfl, z4d h1 (by decide), z4d h1 (by decide)⟩
    unfold z0o
    rw [if_neg (by rw [k1]; decide), if_neg (by rw [k1]; decide), hw, if_neg (by decide), hw, if_neg (by decide), hw, if_neg (by decide), hw, if_neg (by decide), z4d h1 (by decide), if_neg (by decide), z4d h1 (by decide), if_neg (by decide), if_pos (z2w h1 rfl), if_pos n1, n2]; rfl
theorem v3N {c : XC} {w : List Str} (h : PR c w) : QM u c w := by
  induction h with
  | @num n F T h1 h2 =>
    intro a ha
    obtain ⟨⟨-, t1⟩, -⟩ := ha
    have ho : one (y1p n) = .inr (2, n, [], (y1p n).length) := by have := h2 [] (.inl rfl); rwa [List.append_nil] at this
    obtain ⟨k1, k2, -⟩ := z9u t1 ho
    refine v2Z rfl fun _ => y4i ?_ (by rw [k1]; decide)
    unfold z0o; rw [if_pos k1, k2]
  | @tru F T =>
    intro a ha
    obtain ⟨⟨-, t1⟩, -⟩ := ha
    obtain ⟨w1, w2, w3⟩ := y6S t1 rfl
    refine v2Z rfl fun _ => y4i ?_ (by rw [w2]; decide)
    unfold z0o; rw [if_neg (by rw [w2]; decide), if_neg (by rw [w2]; decide), if_pos w1]
  | @fal F T =>
    intro a ha
    obtain ⟨⟨-, t1⟩, -⟩ := ha
    obtain ⟨w1, w2, w3⟩ := y6S t1 rfl
    refine v2Z rfl fun _ => y4i ?_ (by rw [w2]; decide)
    unfold z0o; rw [if_neg (by rw [w2]; decide), if_neg (by rw [w2]; decide), y5s w1 (by decide), if_neg (by decide), if_pos w1]
  | @rd F T =>
    intro a ha
    obtain ⟨⟨-, t1⟩, -⟩ := ha
    obtain ⟨w1, w2, w3⟩ := y6S t1 rfl
    refine v2Z rfl fun _ => y4i ?_ (by rw [w2]; decide)
    unfold z0o; rw [if_neg (by rw [w2]; decide), if_neg (by rw [w2]; decide), y5s w1 (by decide), if_neg (by decide), y5s w1 (by decide), if_neg (by decide), if_pos w1]
  | @name s F T hn =>
    intro a ha
    obtain ⟨⟨-, t1⟩, -⟩ := ha
    obtain ⟨n1, n2⟩ := z8s t1 hn
    refine v2Z rfl fun hf => y4i ?_ (by rw [n1]; decide)
    have hf' : yK u (a + 1) [40] = false := hf
    unfold z0o; rw [if_neg (by rw [n1]; decide), if_pos n1, hf', if_neg (by decide), n2]
  | @bin n x y wx wy F T h1 h2 p1 p2 ih1 ih2 =>
    intro a ha
    have hl := y1X n
    obtain ⟨g1, g2⟩ := z0e ha
    obtain ⟨g3, g4⟩ := z0e g1
    have t1 := g4.1.2
    obtain ⟨o1, o2⟩ := v5a h1 h2 t1
    have el : a + (hw (y4L n) x wx ++ [v0O n]).length = a + (hw (y4L n) x wx).length + 1 := by simp; omega
    rw [el] at g2
    have eb : a + (hw (y4L n) x wx ++ [v0O n] ++ hw (z7h n + 1) y wy).length = a + (hw (y4L n) x wx).length + 1 + (hw (z7h n + 1) y wy).length := by simp; omega
    rw [eb]
    refine v7c (kk := z7h n) rfl hl fun hf => ?_
    obtain ⟨y1, m, e1, c1, d1⟩ := v4O ih1 h1 h2 g3 o2
    obtain ⟨y2, e2, d2⟩ := y8I ih2 (by omega) (by omega) g2 hf
    refine ⟨uG u a (a + (hw (y4L n) x wx).length + 1 + (hw (z7h n + 1) y wy).length) ⟨10, n, [], [y1, y2], 0, 0⟩, m + 1, by simp [z1m, uG, uL, e1, e2], fun q1 q2 => ?_, fun r hr => d1 r (.llG hl.1 (by rw [o1]) c1 d2 ?_)⟩
    · have : bnd ⟨10, n, [], [x, y], F, T⟩ = z7h n := rfl
      omega
    · rw [o1]; exact hr
  | @neg x wx F T p1 ih1 =>
    intro a ha
    obtain ⟨g1, g2⟩ := z0e ha
    have t1 := g1.1.2
    have eb : a + ([[45]] ++ hw 6 x wx).length = a + 1 + (hw 6 x wx).length := by simp; omega
    rw [eb]
    refine v6W rfl fun hf => ?_
    obtain ⟨y, e, d⟩ := y8I ih1 (by omega) (by omega) g2 hf
    exact ⟨uG u a (a + 1 + (hw 6 x wx).length) ⟨11, 1, [], [y], 0, 0⟩, by simp [z1m, uG, uL, e], .un (.inl ⟨rfl, z2w t1 rfl⟩) d⟩
  | @not x wx F T p1 ih1 =>
    intro a ha
    obtain ⟨g1, g2⟩ := z0e ha
    have t1 := g1.1.2
    have eb : a + ([[33]] ++ hw 6 x wx).length = a + 1 + (hw 6 x wx).length := by simp; omega
    rw [eb]
    refine v6W rfl fun hf => ?_
    obtain ⟨y, e, d⟩ := y8I ih1 (by omega) (by omega) g2 hf
    exact ⟨uG u a (a + 1 + (hw 6 x wx).length) ⟨11, 2, [], [y], 0, 0⟩, by simp [z1m, uG, uL, e], .un (.inr ⟨rfl, z2w t1 rfl⟩) d⟩
  | @index x i wx wi F T p1 p2 ih1 ih2 =>
    intro a ha
    obtain ⟨g1, g2⟩ := z0e ha
    obtain ⟨g3, g4⟩ := z0e g1
    obtain ⟨g5, g6⟩ := z0e g3
    have t1 := g6.1.2
    have e4 : a + (hw 7 x wx ++ [[91]]).length = a + (hw 7 x wx).length + 1 := by simp; omega
    have e2 : a + (hw 7 x wx ++ [[91]] ++ wi).length = a + (hw 7 x wx).length + 1 + wi.length := by simp; omega
    have eb : a + (hw 7 x wx ++ [[91]] ++ wi ++ [[93]]).length = a + (hw 7 x wx).length + 1 + wi.length + 1 := by simp; omega
    rw [e4] at g4
    rw [e2] at g2
    rw [eb]
    have t2 := g2.1.2
    refine v2Z rfl fun hf => ?_
    obtain ⟨s1, s2, y1, q1, d1⟩ := v4j ih1 g5 (z4d t1 (by decide))
    have hb : 1 ≤ bnd i := by unfold bnd; have := y1X i.N; (repeat' split) <;> omega
    obtain ⟨y2, q2, d2⟩ := (ih2 _ g4).2.1 1 (Nat.le_refl 1) (by omega) hb (z8o t2 (.inr (.inl rfl)))
    exact ⟨s1, s2, uG u a (a + (hw 7 x wx).length + 1 + wi.length + 1) ⟨12, 0, [], [y1, y2], 0, 0⟩, by simp [z1m, uG, uL, q1, q2], fun r hr => d1 r (.plI (z2w t1 rfl) d2 (z2w t2 rfl) hr)⟩
  | @field s x wx F T hn p1 ih1 =>
    intro a ha
    obtain ⟨g1, g2⟩ := z0e ha
    have t1 := g2.1.2
    have t2 := g2.2.1.2
    have eb : a + (hw 7 x wx ++ [[46], s]).length = a + (hw 7 x wx).length + 2 := by simp; omega
    rw [eb]
    refine v2Z rfl fun hf => ?_
    obtain ⟨s1, s2, y1, q1, d1⟩ := v4j ih1 g1 (z4d t1 (by decide))
    obtain ⟨n1, n2⟩ := z8s t2 hn
    refine ⟨s1, s2, uG u a (a + (hw 7 x wx).length + 2) ⟨13, 0, s, [y1], 0, 0⟩, by simp [z1m, uG, uL, q1], fun r hr => d1 r (.plF (z4d t1 (by decide)) (z2w t1 rfl) n1 ?_)⟩
    rw [n2]; exact hr
  | @lis l w F T p1 ih1 =>
    intro a ha
    obtain ⟨g1, g2⟩ := z0e ha
    obtain ⟨g3, g4⟩ := z0e g1
    have t1 := g3.1.2
    have e2 : a + ([[91]] ++ w).length = a + 1 + w.length := by simp; omega
    have eb : a + ([[91]] ++ w ++ [[93]]).length = a + 1 + w.length + 1 := by simp; omega
    have g4' : At u (a + 1) w := g4
    rw [e2] at g2
    rw [eb]
    have t2 := g2.1.2
    refine v2Z rfl fun hf => ?_
    obtain ⟨l', q, d⟩ := ih1 [] (a + 1) g4' (z4d t2 (by decide)) (z8o t2 (.inr (.inl rfl)))
    have hk : z0o u a = .lis := by
      obtain ⟨k1, -, k3⟩ := z9u t1 (show one [91] = .inr (4, 0, [91], 1) from rfl)
      have hw : ∀ s, vC u a s = false := fun s => by unfold vC; rw [k1]; rfl
      unfold z0o
      rw [if_neg (by rw [k1]; decide), if_neg (by rw [k1]; decide), hw, if_neg (by decide), hw, if_neg (by decide), hw, if_neg (by decide), hw, if_neg (by decide), z4d t1 (by decide), if_neg (by decide), if_pos (z2w t1 rfl)]
    exact ⟨z4d t1 (by decide), z4d t1 (by decide), uG u a (a + 1 + w.length + 1) ⟨14, 0, [], l', 0, 0⟩, by simp [z1m, uG, q], fun r hr => .post (.lis hk d (z2w t2 rfl)) hr⟩
  | @call k s l w F T hk hn p1 ih1 =>
    intro a ha
    obtain ⟨g1, g2⟩ := z0e ha
    obtain ⟨g3, g4⟩ := z0e g1
    obtain ⟨g5, g6⟩ := z0e g3
    have t1 := g6.1.2
    have e4 : a + (z9A k s ++ [[40]]).length = a + (z9A k s).length + 1 := by simp; omega
    have e2 : a + (z9A k s ++ [[40]] ++ w).length = a + (z9A k s).length + 1 + w.length := by simp; omega
    have eb : a + (z9A k s ++ [[40]] ++ w ++ [[41]]).length = a + (z9A k s).length + 1 + w.length + 1 := by simp; omega
    rw [e4] at g4
    rw [e2] at g2
    rw [eb]
    have t2 := g2.1.2
    have hb7 : bnd ⟨k, 0, s, l, F, T⟩ = 7 := by rcases hk with rfl | rfl | rfl <;> rfl
    refine v2Z hb7 fun hf => ?_
    obtain ⟨few, hkk, hfew, s1, s2⟩ := y7s hk hn g3
    obtain ⟨l', q, d⟩ := ih1 [] (a + (z9A k s).length + 1) g4 (z4d t2 (by decide)) (z8o t2 (.inl rfl))
    obtain ⟨w0, r0, ew, hw0⟩ := v0o p1
    rw [ew] at g4
    exact ⟨s1, s2, uG u a (a + (z9A k s).length + 1 + w.length + 1) ⟨k, 0, s, l', 0, 0⟩, by simp [z1m, uG, q], fun r hr => .post (.call hkk (.cls (z2w t1 rfl) (fun _ => z4d g4.1.2 hw0) d (z2w t2 rfl))) hr⟩
  | @call0 k s F T hk hn =>
    intro a ha
    rw [List.append_nil] at ha
    obtain ⟨g1, g2⟩ := z0e ha
    obtain ⟨g5, g6⟩ := z0e g1
    have t1 := g6.1.2
    have e2 : a + (z9A k s ++ [[40]]).length = a + (z9A k s).length + 1 := by simp; omega
    have eb : a + (z9A k s ++ [[40]] ++ [] ++ [[41]]).length = a + (z9A k s).length + 2 := by simp; omega
    rw [e2] at g2
    rw [eb]
    have t2 := g2.1.2
    have hb7 : bnd ⟨k, 0, s, [], F, T⟩ = 7 := by rcases hk with rfl | rfl <;> rfl
    refine v2Z hb7 fun hf => ?_
    obtain ⟨few, hkk, hfew, s1, s2⟩ := y7s (by omega) hn g1
    have hft := hfew hk
    rw [hft] at hkk
    exact ⟨s1, s2, uG u a (a + (z9A k s).length + 2) ⟨k, 0, s, [], 0, 0⟩, by simp [z1m, uG, uL], fun r hr => .post (.call hkk (.clsF (z2w t1 rfl) (z2w t2 rfl))) hr⟩
  | @one x w p1 ih1 =>
    intro acc a ha h44 hf
    have hb : 1 ≤ bnd x := by unfold bnd; have := y1X x.N; (repeat' split) <;> omega
    obtain ⟨y, e, d⟩ := (ih1 a ha).2.1 1 (Nat.le_refl 1) (by omega) hb hf
    exact ⟨[y], by simp [uL, e], .lstE d h44⟩
  | @cons x l w wl p1 p2 ih1 ih2 =>
    intro acc a ha h44 hf
    obtain ⟨g1, g2⟩ := z0e ha
    obtain ⟨g3, g4⟩ := z0e g1
    have t1 := g4.1.2
    have e2 : a + (w ++ [[44]]).length = a + w.length + 1 := by simp; omega
    have eb : a + (w ++ [[44]] ++ wl).length = a + w.length + 1 + wl.length := by simp; omega
    rw [e2] at g2
    rw [eb] at h44 hf ⊢
    have hb : 1 ≤ bnd x := by unfold bnd; have := y1X x.N; (repeat' split) <;> omega
    obtain ⟨y, e, d⟩ := (ih1 a g3).2.1 1 (Nat.le_refl 1) (by omega) hb (z8o t1 (.inr (.inr rfl)))
    obtain ⟨l', q, d2⟩ := ih2 (acc ++ [y]) _ g2 h44 hf
    refine ⟨y :: l', by simp [uL, e, q], ?_⟩
    have := Der.lstG d (z2w t1 rfl) d2
    rw [List.append_assoc] at this
    exact this
end
abbrev J (w : List Str) : Str := y4E w [32]
theorem v4w (w : List Str) : (J w).length ≤ szw w := by
  have tail : ∀ r : List Str, ((r.map (([32] : Str) ++ ·)).flatten).length = szw r := by
    intro r
    induction r with
    | nil => rfl
    | cons x r ih => simp [szw] at ih ⊢; omega
  cases w with
  | nil => simp [J, y4E]
  | cons x r =>
    show (x ++ (r.map (([32] : Str) ++ ·)).flatten).length ≤ _
    rw [List.length_append, tail]; simp [szw]
theorem v5J {w : List Str} (h : w ≠ []) : (J w).length + 1 = szw w := by
  have tail : ∀ r : List Str, ((r.map (([32] : Str) ++ ·)).flatten).length = szw r := by
    intro r
    induction r with
    | nil => rfl
    | cons x r ih => simp [szw] at ih ⊢; omega
  cases w with
  | nil => exact absurd rfl h
  | cons x r =>
    show (x ++ (r.map (([32] : Str) ++ ·)).flatten).length + 1 = _
    rw [List.length_append, tail]; simp [szw]; omega
def TW (w : List Str) : Prop := ∀ x ∈ w, ∃ k n t, Tok k n t x
theorem vL {a b : List Str} (ha : TW a) (hb : TW b) : TW (a ++ b) := fun x hx => by
  rcases List.mem_append.1 hx with h | h
  · exact ha x h
  · exact hb x h
theorem z1y {w : Str} {k n : Int} {t : Str} (h : Tok k n t w) : TW [w] := fun x hx => by
  rw [List.mem_singleton] at hx; subst hx; exact ⟨_, _, _, h⟩
theorem z1X {w : Str} {k n : Int} {t : Str} (h : one w = .inr (k, n, t, w.length)) : Tok k n t w := by
  have := (v1U h).1
  rwa [List.take_of_length_le (Nat.le_refl _)] at this
theorem v0N {k : Nat} {x : zD} {w : List Str} (h : TW w) : TW (hw k x w) := by
  unfold hw; split
  · exact h
  · exact vL (vL (z1y (z1X (w := [40]) rfl)) h) (z1y (z1X (w := [41]) rfl))
theorem v4t {k : Int} {s : Str} (h : Nm s) : TW (z9A k s) := by
  unfold z9A
  split
  · exact z1y h
  · split
    · exact vL (a := [[64]]) (z1y (z1X (w := [64]) rfl)) (z1y h)
    · exact vL (a := [[110, 101, 119]]) (z1y (z1X (w := [110, 101, 119]) rfl)) (z1y h)
theorem v6r {c : XC} {w : List Str} (h : PR c w) : TW w := by
  have o1 : TW [[40]] := z1y (z1X (w := [40]) rfl)
  have o2 : TW [[41]] := z1y (z1X (w := [41]) rfl)
  have o3 : TW [[91]] := z1y (z1X (w := [91]) rfl)
  have o4 : TW [[93]] := z1y (z1X (w := [93]) rfl)
  induction h with
  | num h1 h2 => exact z1y h2
  | tru => exact z1y (z1X (w := [116, 114, 117, 101]) rfl)
  | fal => exact z1y (z1X (w := [102, 97, 108, 115, 101]) rfl)
  | rd => exact z1y (z1X (w := [114, 101, 97, 100]) rfl)
  | name h => exact z1y h
  | bin h1 h2 _ _ ih1 ih2 => exact vL (vL (v0N ih1) (z1y (z1X (y9S h1 h2)))) (v0N ih2)
  | neg _ ih => exact vL (z1y (z1X (w := [45]) rfl)) (v0N ih)
  | not _ ih => exact vL (z1y (z1X (w := [33]) rfl)) (v0N ih)
  | index _ _ ih1 ih2 => exact vL (vL (vL (v0N ih1) o3) ih2) o4
  | field h _ ih => exact vL (v0N ih) (vL (a := [[46]]) (z1y (z1X (w := [46]) rfl)) (z1y h))
  | lis _ ih => exact vL (vL o3 ih) o4
  | call _ h _ ih => exact vL (vL (vL (v4t h) o1) ih) o2
  | call0 _ h => exact vL (vL (vL (v4t h) o1) (fun x hx => by simp at hx)) o2
  | one _ ih => exact ih
  | cons _ _ ih1 ih2 => exact vL (vL ih1 (z1y (z1X (w := [44]) rfl))) ih2
theorem v5T : ∀ r : List Str, (r.map (([32] : Str) ++ ·)).flatten = jn r
  | [] => rfl
  | w :: r => by rw [List.map_cons, List.flatten_cons, v5T r]; rfl
theorem v5I (ws : List Str) : J ws = body ws := by
  cases ws with
  | nil => rfl
  | cons w r => show w ++ (r.map (([32] : Str) ++ ·)).flatten = w ++ jn r; rw [v5T]
def LW : List zB → List Str → Prop
  | [], [] => True
  | y :: ys, w :: ws => TM y w ∧ LW ys ws
  | _, _ => False
theorem LW.len : ∀ {ys : List zB} {ws : List Str}, LW ys ws → ys.length = ws.length
  | [], [], _ => rfl
  | _ :: _, _ :: _, h => by rw [List.length_cons, List.length_cons, LW.len h.2]
  | [], _ :: _, h => h.elim
  | _ :: _, [], h => h.elim
theorem v5L : ∀ {ys : List zB} {ws : List Str} (pre : List zB) (e : zB), LW ys ws → At (pre ++ ys ++ [e]) pre.length ws
  | [], [], _, _, _ => trivial
  | y :: ys, w :: ws, pre, e, ⟨h1, h2⟩ => by
    have h := v5L (pre ++ [y]) e h2
    rw [show pre ++ [y] ++ ys ++ [e] = pre ++ (y :: ys) ++ [e] by simp, List.length_append] at h
    refine ⟨⟨by simp, ?_⟩, h⟩
    have : zP (pre ++ (y :: ys) ++ [e]) pre.length = y := by
      unfold zP
      rw [List.append_assoc, List.getElem?_append_right (Nat.le_refl _), Nat.sub_self]; rfl
    rw [this]; exact h1
  | [], _ :: _, _, _, h => h.elim
  | _ :: _, [], _, _, h => h.elim
theorem y7h {ws : List Str} (h : TW ws) (m : Nat) : nxt m (body ws) = 0 := by
  cases ws with
  | nil => cases m <;> rfl
  | cons w ws =>
    obtain ⟨k, n, t, hw⟩ := h w (by simp)
    exact v5w hw (v4l ws) m
theorem v2m : ∀ (ws : List Str), TW ws → ∀ (n a : Nat) (out : List zB), ws.length < n → ∃ ys e, z7f n (body ws) a out = (out ++ ys ++ [e], 0, 0) ∧ e.K = 5 ∧ LW ys ws
  | [], _, n, a, out, hn => by
    obtain ⟨n, rfl⟩ : ∃ m, n = m + 1 := ⟨n - 1, by omega⟩
    exact ⟨[], ⟨5, 0, [], a, a⟩, by rw [List.append_nil]; rfl, rfl, trivial⟩
  | w :: ws, h, n, a, out, hn => by
    obtain ⟨n, rfl⟩ : ∃ m, n = m + 1 := ⟨n - 1, by simp only [List.length_cons] at hn; omega⟩
    obtain ⟨k, m0, t, hw⟩ := h w (by simp)
    have h4 : TW ws := fun x hx => h x (by simp [hx])
    have ho := hw _ (v4l ws)
    have hne := z7r ho
    have hbody : body (w :: ws) = w ++ jn ws := rfl
    have ht : ∀ s : List UInt8, s ≠ [] → z7f (n + 1) s a out = match one s with
        | .inl e => ([], (a : Int), e)
        | .inr (k, m, t, l) => z7f n ((s.drop l).drop (nxt 10000 (s.drop l))) (a + l + nxt 10000 (s.drop l)) (out ++ [⟨k, m, t, a, ((a + l : Nat) : Int)⟩]) := fun s hs => by
      cases s with
      | nil => exact absurd rfl hs
      | cons c q =>
        rw [z7f]; first | done | (rcases one (c :: q) with e | ⟨k, m, t, l⟩ <;> rfl)
    rw [hbody, ht _ (fun e => by have h9 := congrArg List.length e; simp only [List.length_append, List.length_nil] at h9; omega), ho]
    dsimp only
    rw [List.drop_left]
    have hsk : (jn ws).drop (nxt 10000 (jn ws)) = body ws := by
      cases ws with
      | nil => rfl
      | cons v vs =>
        have : nxt 10000 (jn (v :: vs)) = nxt 9999 (body (v :: vs)) + 1 := by rw [jn, nxt, if_pos (by decide)]; rfl
        rw [this, y7h h4]; rfl
    rw [hsk]
    obtain ⟨ys, e, e1, e2, e3⟩ := v2m ws h4 n (a + w.length + nxt 10000 (jn ws)) (out ++ [⟨k, m0, t, a, ((a + w.length : Nat) : Int)⟩]) (by simp at hn; omega)
    exact ⟨⟨k, m0, t, a, ((a + w.length : Nat) : Int)⟩ :: ys, e, by rw [e1]; simp, e2, hw, e3⟩
theorem y8N {ws : List Str} (h : TW ws) (hl : szw ws ≤ 8192) : ∃ ys e, z5n (J ws) = (ys ++ [e], 0, 0) ∧ e.K = 5 ∧ LW ys ws := by
  have h1 := v4w ws
  have h2 := y2L ws
  unfold z5n
  rw [if_neg (by omega), v5I, y7h h, List.drop_zero]
  obtain ⟨ys, e, e1, e2, e3⟩ := v2m ws h 10000 0 [] (by omega)
  exact ⟨ys, e, by rw [e1]; simp, e2, e3⟩
theorem v2p (n : Nat) (hn : (n : Int) ≤ 9223372036854775807) : ∀ x y : zD, z1m x = z1m y → jB x ≤ n → z0t x y = some true := by
  have bl : ∀ {l l' : List zD}, uL l = uL l' → l.length = l'.length ∧ ∀ (i : Nat) (h : i < l.length) (h' : i < l'.length), z1m l[i] = z1m l'[i] := by
    intro l
    induction l with
    | nil => intro l' e; cases l' with
      | nil => exact ⟨rfl, fun i h => by simp at h⟩
      | cons _ _ => simp [uL] at e
    | cons x r ih => intro l' e; cases l' with
      | nil => simp [uL] at e
      | cons y s =>
        simp only [uL, List.cons.injEq] at e
        obtain ⟨g1, g2⟩ := ih e.2
        refine ⟨by simp [g1], fun i h h' => ?_⟩
        cases i with
        | zero => exact e.1
        | succ i => exact g2 i (by simpa using h) (by simpa using h')
  intro x
  induction x using zD.ind with
  | h x ih =>
    intro y e hs
    obtain ⟨K, N, S, L, F, T⟩ := x
    obtain ⟨K', N', S', L', F', T'⟩ := y
    simp only [z1m, zD.mk.injEq] at e
    obtain ⟨rfl, rfl, rfl, e, -, -⟩ := e
    obtain ⟨g1, g2⟩ := bl e
    have hlen := y5X L
    rw [z8P] at hs
    dsimp only at hs ih
    have loop : ∀ (k i : Nat), i + k = L.length → wZ (i : Int) ⟨K, N, S, L, F, T⟩ ⟨K, N, S, L', F', T'⟩ = some true := by
      intro k
      induction k with
      | zero =>
        intro i hi
        rw [z8y]; unfold z2c; dsimp only
        rw [if_neg (by omega)]
      | succ k ihk =>
        intro i hi
        have hlt : i < L.length := by omega
        have hd := y5o hlt
        have ht := y5p L i
        rw [z8y]; unfold z2c; dsimp only
        rw [if_pos (by omega), z3D hlt, zA, z3D (show i < L'.length by omega), zA, ih _ (List.getElem_mem hlt) _ (g2 i hlt (by omega)) (by omega), zA, if_pos rfl, z3B (by omega) (by omega), z1J]
        exact ihk (i + 1) (by omega)
    rw [y8e]; unfold z4W; dsimp only
    simp only [g1, if_true]
    exact loop L.length 0 (by omega)
theorem v1v {w : List Str} (h : szw w ≤ 1000000000) : strings_Join w [32] = some (J w) := by
  have h1 := v4w w
  have h2 := y2L w
  unfold strings_Join
  rw [if_pos ⟨by omega, by show (J w).length ≤ _; omega⟩]
theorem y6G : z3V = some true := by
  unfold z3V z8K
  rw [z1q]; unfold uS; dsimp only
  rw [if_pos rfl, uE _ _ (by decide), zA, zA]
  unfold z1z
  rw [v1v (by decide)]; rfl
theorem y9M : ∀ {l : List zB} {a : Nat}, Ord a l → 0 < l.length ∧ (zP l (l.length - 1)).K = 5
  | [], a, h => h.elim
  | x :: r, a, ⟨f, t, h1, h2, h3, h4, h5⟩ => by
    rcases h5 with ⟨rfl, h⟩ | ⟨h0, h5⟩
    · exact ⟨by simp, h⟩
    · obtain ⟨g1, g2⟩ := y9M h5
      refine ⟨by simp, ?_⟩
      have : (x :: r).length - 1 = (r.length - 1) + 1 := by simp; omega
      rw [this]; exact g2
def MT (ws : List (List Str)) : Str := (ws.map fun w => J w ++ [10]).flatten
inductive QD : List zD → List (List Str) → Prop
  | nil : QD [] []
  | cons {x : zD} {w : List Str} {l : List zD} {ws : List (List Str)} : PD x w → QD l ws → QD (x :: l) (w :: ws)
theorem QD.snoc {l : List zD} {ws : List (List Str)} (h : QD l ws) {x : zD} {w : List Str} (hx : PD x w) : QD (l ++ [x]) (ws ++ [w]) := by
  induction h with
  | nil => exact .cons hx .nil
  | cons h1 _ ih => exact .cons h1 ih
theorem v5u {l : List zD} {ws : List (List Str)} (h : QD l ws) : ∀ u : Str, u.length + 200 * yR l ≤ 1000000000 → z1Y l u = some (u ++ MT ws) := by
  induction h with
  | nil => intro u _; simp [z1Y, MT]
  | @cons x w l ws h1 _ ih =>
    intro u hu
    have h2 := v6S h1
    have h3 := v4w w
    simp only [yR] at hu
    unfold z1Y
    rw [v4J h1 [] (by simp only [szw]; omega), zA, List.nil_append]
    unfold z1z
    rw [v1v (by omega), zA, zA, if_pos (by omega), ih _ (by simp only [List.length_append, List.length_cons, List.length_nil]; omega)]
    have e : MT (w :: ws) = J w ++ [10] ++ MT ws := by simp [MT]
    rw [e]; simp
section
variable {t : List zB} {n : Nat} (tk : Tk t n) (T : Int)
include tk
theorem v6P (hn : n ≤ 2400) (hk : ∀ i, i < n → (zP t i).K ≠ 5) (o2 : zD) : ∀ (k a : Nat) (L : List zD) (ws : List (List Str)), n < a + k → a ≤ n → LL 0 t 0 a L → QD L ws →
    ∃ m q e, vQ o2 t (a : Int) 0 36 0 [] L 0 T = some (m, q, e) ∧ (e = 0 → ∃ l ws, m = ⟨36, 0, [], l, 0, T⟩ ∧ QD l ws ∧ ht m ≤ 64 ∧ yR l ≤ 400 * n ∧ l.length ≤ 64) := by
  intro k
  induction k with
  | zero => intro a L ws h1 h2; omega
  | succ k ih =>
    intro a L ws h1 h2 hl hq
    obtain ⟨c1, c2, c3⟩ := hl
    have hlen := tk.len
    rw [z5u]; unfold z1d
    rw [tk.idx h2, zA]
    by_cases h5 : (zP t a).K = 5
    · have han : a = n := by
        by_cases h : a = n
        · exact h
        · exact absurd h5 (hk a (by omega))
      subst han
      rw [if_pos h5]
      by_cases h6 : (List.length L : Int) > 64
      · rw [if_pos h6]; exact ⟨_, _, _, rfl, fun g => absurd g (by decide)⟩
      · rw [if_neg h6]
        have hs : jB ⟨36, 0, [], L, 0, T⟩ = 1 + yR L := z8P _
        rw [y9i (by rw [hs]; omega), zA]
        by_cases h7 : (ht ⟨36, 0, [], L, 0, T⟩ : Int) > 64
        · rw [if_pos h7]; exact ⟨_, _, _, rfl, fun g => absurd g (by decide)⟩
        · rw [if_neg h7]
          exact ⟨_, _, _, rfl, fun _ => ⟨L, ws, rfl, hq, by omega, by omega, by omega⟩⟩
    · rw [if_neg h5]
      obtain ⟨x, b, e', h3, l3, m3, P3⟩ := v4I tk 36 0 [] L 0 T 0 h2
      rw [h3, zA]; dsimp only
      by_cases h8 : e' = 0
      · obtain ⟨-, g, w, hw⟩ := P3 h8
        have hlt := g.2.2
        subst h8
        rw [if_pos rfl, if_pos (v5m tk ⟨c1, c2, c3⟩ h2)]
        exact ih b (L ++ [x]) (ws ++ [w]) (by omega) m3 (LL.snoc tk ⟨c1, c2, c3⟩ g m3) (hq.snoc hw)
      · rw [if_neg h8, tk.idx m3, zA]
        exact ⟨_, _, _, rfl, fun g => absurd g h8⟩
end
theorem y8a : ∀ {l : List zB} {a : Nat}, Ord a l → ∀ i, i < l.length - 1 → (zP l i).K ≠ 5
  | [], a, h => h.elim
  | x :: r, a, ⟨f, t, h1, h2, h3, h4, h5⟩ => by
    rcases h5 with ⟨rfl, h⟩ | ⟨h0, h5⟩
    · exact fun i hi => by simp at hi
    · have g3 := y8a h5
      intro i hi
      cases i with
      | zero => exact h0
      | succ i => exact g3 i (by simp at hi; omega)
theorem y9H {x : Str} (h : (z5n x).2.2 = 0) (hx : x.length ≤ 8192) : Tk (z5n x).1 ((z5n x).1.length - 1) := by
  have ho := y7X h
  obtain ⟨-, hm⟩ := v1W ho
  obtain ⟨hpos, hk⟩ := y9M ho
  have := (y9G h).1
  exact ⟨hm, by omega, hk, by omega, v0A x⟩
theorem v5b (x : Str) (hx : x.length ≤ 2000) : ∃ m q e, z3Y x = some (m, q, e) ∧ (e = 0 → ∃ l ws, m = ⟨36, 0, [], l, 0, (x.length : Int)⟩ ∧ QD l ws ∧ ht m ≤ 64 ∧ yR l ≤ 801000 ∧ l.length ≤ 64) := by
  unfold z3Y
  rw [y8j x (by omega), zA]
  by_cases h2 : (z5n x).2.2 = 0
  · rw [if_pos h2]
    have tk := y9H h2 (by omega)
    obtain ⟨g1, g2⟩ := y9G h2
    have hl := tk.len
    obtain ⟨m, q, e, e1, e2⟩ := v6P tk (List.length x : Int) (by omega) (y8a (y7X h2)) (zD.mk 0 0 ([] : List UInt8) [] 0 0) ((z5n x).1.length) 0 [] [] (by omega) (by omega) (LL.nil (by omega)) .nil
    refine ⟨m, q, e, e1, fun h => ?_⟩
    obtain ⟨l, ws, k1, k2, k3, k4, k5⟩ := e2 h
    exact ⟨l, ws, k1, k2, k3, by omega, k5⟩
  · rw [if_neg h2]
    exact ⟨_, _, _, rfl, fun g => absurd g h2⟩
theorem gY {y : zD} {K N : Int} {S : Str} {L : List zD} {F T : Int} (h : z1m y = z1m ⟨K, N, S, L, F, T⟩) : ∃ L' F' T', y = ⟨K, N, S, L', F', T'⟩ ∧ uL L' = uL L := by
  obtain ⟨K', N', S', L', F', T'⟩ := y
  simp only [z1m, zD.mk.injEq] at h
  obtain ⟨rfl, rfl, rfl, h, -, -⟩ := h
  exact ⟨L', F', T', rfl, h⟩
theorem gW {L : List zD} (h : uL L = uL []) : L = [] := by
  cases L with
  | nil => rfl
  | cons x r => simp [uL] at h
theorem z0s {L : List zD} {x : zD} {r : List zD} (h : uL L = uL (x :: r)) : ∃ y s, L = y :: s ∧ z1m y = z1m x ∧ uL s = uL r := by
  cases L with
  | nil => simp [uL] at h
  | cons y s => simp only [uL, List.cons.injEq] at h; exact ⟨y, s, rfl, h.1, h.2⟩
theorem z6q {L : List zD} {x : zD} (h : uL L = uL [x]) : ∃ y, L = [y] ∧ z1m y = z1m x := by
  obtain ⟨y, s, rfl, h1, h2⟩ := z0s h
  rw [gW h2]; exact ⟨y, rfl, h1⟩
theorem y6f {L : List zD} {x y : zD} (h : uL L = uL [x, y]) : ∃ x' y', L = [x', y'] ∧ z1m x' = z1m x ∧ z1m y' = z1m y := by
  obtain ⟨x', s, rfl, h1, h2⟩ := z0s h
  obtain ⟨y', rfl, h3⟩ := z6q h2
  exact ⟨x', y', rfl, h1, h3⟩
theorem y2K {x y : zD} (h : z1m y = z1m x) (k : Nat) (w : List Str) : hw k y w = hw k x w := by
  obtain ⟨K, N, S, L, F, T⟩ := x
  obtain ⟨L', F', T', rfl, -⟩ := gY h
  rfl
def v6I : XC → XC → Prop
  | .ex y, .ex x => z1m y = z1m x
  | .ls l', .ls l => uL l' = uL l
  | _, _ => False
theorem v5h {c : XC} {w : List Str} (h : PR c w) : ∀ c', v6I c' c → PR c' w := by
  induction h with
  | num h1 h2 =>
    rintro (y | l) e
    · obtain ⟨L, F, T, rfl, eL⟩ := gY e; rw [gW eL]; exact .num h1 h2
    · exact e.elim
  | tru =>
    rintro (y | l) e
    · obtain ⟨L, F, T, rfl, eL⟩ := gY e; rw [gW eL]; exact .tru
    · exact e.elim
  | fal =>
    rintro (y | l) e
    · obtain ⟨L, F, T, rfl, eL⟩ := gY e; rw [gW eL]; exact .fal
    · exact e.elim
  | rd =>
    rintro (y | l) e
    · obtain ⟨L, F, T, rfl, eL⟩ := gY e; rw [gW eL]; exact .rd
    · exact e.elim
  | name h1 =>
    rintro (y | l) e
    · obtain ⟨L, F, T, rfl, eL⟩ := gY e; rw [gW eL]; exact .name h1
    · exact e.elim
  | bin h1 h2 _ _ ih1 ih2 =>
    rintro (y | l) e
    · obtain ⟨L, F, T, rfl, eL⟩ := gY e
      obtain ⟨x', y', rfl, e1, e2⟩ := y6f eL
      rw [← y2K e1, ← y2K e2]
      exact .bin h1 h2 (ih1 (.ex x') e1) (ih2 (.ex y') e2)
    · exact e.elim
  | neg _ ih =>
    rintro (y | l) e
    · obtain ⟨L, F, T, rfl, eL⟩ := gY e
      obtain ⟨x', rfl, e1⟩ := z6q eL
      rw [← y2K e1]
      exact .neg (ih (.ex x') e1)
    · exact e.elim
  | not _ ih =>
    rintro (y | l) e
    · obtain ⟨L, F, T, rfl, eL⟩ := gY e
      obtain ⟨x', rfl, e1⟩ := z6q eL
      rw [← y2K e1]
      exact .not (ih (.ex x') e1)
    · exact e.elim
  | index _ _ ih1 ih2 =>
    rintro (y | l) e
    · obtain ⟨L, F, T, rfl, eL⟩ := gY e
      obtain ⟨x', y', rfl, e1, e2⟩ := y6f eL
      rw [← y2K e1]
      exact .index (ih1 (.ex x') e1) (ih2 (.ex y') e2)
    · exact e.elim
  | field h1 _ ih =>
    rintro (y | l) e
    · obtain ⟨L, F, T, rfl, eL⟩ := gY e
      obtain ⟨x', rfl, e1⟩ := z6q eL
      rw [← y2K e1]
      exact .field h1 (ih (.ex x') e1)
    · exact e.elim
  | lis _ ih =>
    rintro (y | l) e
    · obtain ⟨L, F, T, rfl, eL⟩ := gY e
      exact .lis (ih (.ls L) eL)
    · exact e.elim
  | call h1 h2 _ ih =>
    rintro (y | l) e
    · obtain ⟨L, F, T, rfl, eL⟩ := gY e
      exact .call h1 h2 (ih (.ls L) eL)
    · exact e.elim
  | call0 h1 h2 =>
    rintro (y | l) e
    · obtain ⟨L, F, T, rfl, eL⟩ := gY e; rw [gW eL]; exact .call0 h1 h2
    · exact e.elim
  | one _ ih =>
    rintro (y | l) e
    · exact e.elim
    · obtain ⟨y, rfl, eL⟩ := z6q e; exact .one (ih (.ex y) eL)
  | cons _ _ ih1 ih2 =>
    rintro (y | l) e
    · exact e.elim
    · obtain ⟨y, s, rfl, e1, e2⟩ := z0s e; exact .cons (ih1 (.ex y) e1) (ih2 (.ls s) e2)
theorem y5a {x : zD} {w : List Str} (h : PT x w) : ∀ y, z1m y = z1m x → PT y w := by
  induction h with
  | int => intro y e; obtain ⟨L, F, T, rfl, eL⟩ := gY e; rw [gW eL]; exact .int
  | bool => intro y e; obtain ⟨L, F, T, rfl, eL⟩ := gY e; rw [gW eL]; exact .bool
  | rcd h => intro y e; obtain ⟨L, F, T, rfl, eL⟩ := gY e; rw [gW eL]; exact .rcd h
  | arr h1 h2 _ ih =>
    intro y e; obtain ⟨L, F, T, rfl, eL⟩ := gY e
    obtain ⟨x', rfl, e1⟩ := z6q eL
    exact .arr h1 h2 (ih _ e1)
def v6H : SC → SC → Prop
  | .st y, .st x => z1m y = z1m x
  | .bl y, .bl x => z1m y = z1m x
  | .ss l', .ss l => uL l' = uL l
  | .fm its' l' nm', .fm its l nm => its' = its ∧ uL l' = uL l ∧ nm' = nm
  | _, _ => False
theorem v2g {c : SC} {w : List Str} (h : PS c w) : ∀ c', v6H c' c → PS c' w := by
  induction h with
  | blk _ ih =>
    rintro (y | y | l | ⟨a, b, d⟩) e
    all_goals try exact e.elim
    obtain ⟨L, F, T, rfl, eL⟩ := gY e; exact .blk (ih (.ss L) eL)
  | ss0 =>
    rintro (y | y | l | ⟨a, b, d⟩) e
    all_goals try exact e.elim
    rw [gW e]; exact .ss0
  | ssc _ _ ih1 ih2 =>
    rintro (y | y | l | ⟨a, b, d⟩) e
    all_goals try exact e.elim
    obtain ⟨y, s, rfl, e1, e2⟩ := z0s e; exact .ssc (ih1 (.st y) e1) (ih2 (.ss s) e2)
  | stB _ ih =>
    rintro (y | y | l | ⟨a, b, d⟩) e
    all_goals try exact e.elim
    exact .stB (ih (.bl y) e)
  | stF hk hn _ ih =>
    rintro (y | y | l | ⟨a, b, d⟩) e
    all_goals try exact e.elim
    obtain ⟨L, F, T, rfl, eL⟩ := gY e; exact .stF hk hn (ih (.fm _ L _) ⟨rfl, eL, rfl⟩)
  | f0 =>
    rintro (y | y | l | ⟨a, b, d⟩) e
    all_goals try exact e.elim
    obtain ⟨rfl, eL, rfl⟩ := e; rw [gW eL]; exact .f0
  | fW _ ih =>
    rintro (y | y | l | ⟨a, b, d⟩) e
    all_goals try exact e.elim
    obtain ⟨rfl, eL, rfl⟩ := e; exact .fW (ih (.fm _ b _) ⟨rfl, eL, rfl⟩)
  | fS _ ih =>
    rintro (y | y | l | ⟨a, b, d⟩) e
    all_goals try exact e.elim
    obtain ⟨rfl, eL, rfl⟩ := e; exact .fS (ih (.fm _ b _) ⟨rfl, eL, rfl⟩)
  | fN h _ ih =>
    rintro (y | y | l | ⟨a, b, d⟩) e
    all_goals try exact e.elim
    obtain ⟨rfl, eL, rfl⟩ := e; exact .fN h (ih (.fm _ b _) ⟨rfl, eL, rfl⟩)
  | fX h _ ih =>
    rintro (y | y | l | ⟨a, b, d⟩) e
    all_goals try exact e.elim
    obtain ⟨rfl, eL, rfl⟩ := e
    obtain ⟨y, s, rfl, e1, e2⟩ := z0s eL
    exact .fX (v5h h (.ex y) e1) (ih (.fm _ s _) ⟨rfl, e2, rfl⟩)
  | fT h _ ih =>
    rintro (y | y | l | ⟨a, b, d⟩) e
    all_goals try exact e.elim
    obtain ⟨rfl, eL, rfl⟩ := e
    obtain ⟨y, s, rfl, e1, e2⟩ := z0s eL
    exact .fT (y5a h y e1) (ih (.fm _ s _) ⟨rfl, e2, rfl⟩)
  | fK _ _ ih1 ih2 =>
    rintro (y | y | l | ⟨a, b, d⟩) e
    all_goals try exact e.elim
    obtain ⟨rfl, eL, rfl⟩ := e
    obtain ⟨y, s, rfl, e1, e2⟩ := z0s eL
    exact .fK (ih1 (.bl y) e1) (ih2 (.fm _ s _) ⟨rfl, e2, rfl⟩)
  | fE1 _ _ ih1 ih2 =>
    rintro (y | y | l | ⟨a, b, d⟩) e
    all_goals try exact e.elim
    obtain ⟨rfl, eL, rfl⟩ := e
    obtain ⟨y, s, rfl, e1, e2⟩ := z0s eL
    obtain ⟨z, s2, rfl, e3, e4⟩ := z0s e2
    obtain ⟨L, F, T, rfl, e5⟩ := gY e3
    rw [gW e5]
    exact .fE1 (ih1 (.bl y) e1) (ih2 (.fm _ s2 _) ⟨rfl, e4, rfl⟩)
  | fE2 _ _ hy _ ih1 ih2 ih3 =>
    rintro (y | y | l | ⟨a, b, d⟩) e
    all_goals try exact e.elim
    obtain ⟨rfl, eL, rfl⟩ := e
    obtain ⟨y, s, rfl, e1, e2⟩ := z0s eL
    obtain ⟨z, s2, rfl, e3, e4⟩ := z0s e2
    refine .fE2 (ih1 (.bl y) e1) (ih2 (.bl z) e3) (fun e0 => hy ?_) (ih3 (.fm _ s2 _) ⟨rfl, e4, rfl⟩)
    obtain ⟨K, N, S, L, F, T⟩ := z
    obtain ⟨L', F', T', e6, e5⟩ := gY e3.symm
    rw [e6]
    show L' = []
    rw [show L = [] from e0] at e5
    exact gW e5
theorem y8V {x : zD} {w : List Str} (h : PN x w) {y : zD} (e : z1m y = z1m x) : PN y w := by
  cases h with
  | mk h1 h2 =>
    obtain ⟨L, F, T, rfl, eL⟩ := gY e
    obtain ⟨x', rfl, e1⟩ := z6q eL
    exact .mk h1 (y5a h2 _ e1)
theorem v3R {l : List zD} {w : List Str} (h : PNs l w) : ∀ l', uL l' = uL l → PNs l' w := by
  induction h with
  | one h1 => intro l' e; obtain ⟨y, rfl, eL⟩ := z6q e; exact .one (y8V h1 eL)
  | cons h1 _ ih => intro l' e; obtain ⟨y, s, rfl, e1, e2⟩ := z0s e; exact .cons (y8V h1 e1) (ih _ e2)
theorem v3Q {l : List zD} {w : List Str} (h : PFs l w) : ∀ l', uL l' = uL l → PFs l' w := by
  induction h with
  | nil => intro l' e; rw [gW e]; exact .nil
  | cons h1 _ ih => intro l' e; obtain ⟨y, s, rfl, e1, e2⟩ := z0s e; exact .cons (y8V h1 e1) (ih _ e2)
theorem v5d {x : zD} {w : List Str} (h : PL x w) {y : zD} (e : z1m y = z1m x) : PL y w := by
  cases h with
  | num h1 h2 => obtain ⟨L, F, T, rfl, eL⟩ := gY e; rw [gW eL]; exact .num h1 h2
  | tru => obtain ⟨L, F, T, rfl, eL⟩ := gY e; rw [gW eL]; exact .tru
  | fal => obtain ⟨L, F, T, rfl, eL⟩ := gY e; rw [gW eL]; exact .fal
theorem v5c {x : zD} {w : List Str} (h : PD x w) {y : zD} (e : z1m y = z1m x) : PD y w := by
  cases h with
  | rcd h1 h2 h3 =>
    obtain ⟨L, F, T, rfl, eL⟩ := gY e
    exact .rcd h1 (fun e0 => by subst e0; exact h2 (gW eL.symm)) (v3Q h3 _ eL)
  | const h1 h2 =>
    obtain ⟨L, F, T, rfl, eL⟩ := gY e
    obtain ⟨x', rfl, e1⟩ := z6q eL
    exact .const h1 (v5d h2 e1)
  | var h1 h2 =>
    obtain ⟨L, F, T, rfl, eL⟩ := gY e
    obtain ⟨x', rfl, e1⟩ := z6q eL
    exact .var h1 (y5a h2 _ e1)
  | fn0 h1 h2 h3 h4 =>
    obtain ⟨L, F, T, rfl, eL⟩ := gY e
    obtain ⟨p, s, rfl, e1, e2⟩ := z0s eL
    obtain ⟨x', y', rfl, e3, e4⟩ := y6f e2
    obtain ⟨L, F', T', rfl, e5⟩ := gY e1
    rw [gW e5]
    exact .fn0 h1 h2 (y5a h3 _ e3) (v2g h4 (.bl y') e4)
  | fn h1 h2 hp h3 h4 =>
    obtain ⟨L, F, T, rfl, eL⟩ := gY e
    obtain ⟨p, s, rfl, e1, e2⟩ := z0s eL
    obtain ⟨x', y', rfl, e3, e4⟩ := y6f e2
    obtain ⟨L, F', T', rfl, e5⟩ := gY e1
    exact .fn h1 h2 (v3R hp _ e5) (y5a h3 _ e3) (v2g h4 (.bl y') e4)
theorem v5k {l : List zD} {ws : List (List Str)} (h : QD l ws) : ∀ l', uL l' = uL l → QD l' ws := by
  induction h with
  | nil => intro l' e; rw [gW e]; exact .nil
  | cons h1 _ ih => intro l' e; obtain ⟨y, s, rfl, e1, e2⟩ := z0s e; exact .cons (v5c h1 e1) (ih _ e2)
theorem v1r : ∀ x : zD, ht (z1m x) = ht x ∧ jB (z1m x) = jB x := by
  intro x
  induction x using zD.ind with
  | h x ih =>
    obtain ⟨K, N, S, L, F, T⟩ := x
    dsimp only at ih
    have : ∀ l : List zD, (∀ x ∈ l, ht (z1m x) = ht x ∧ jB (z1m x) = jB x) → hts (uL l) = hts l ∧ yR (uL l) = yR l := by
      intro l
      induction l with
      | nil => intro _; simp [uL]
      | cons y r ihr =>
        intro hh
        have h1 := hh y (by simp)
        have h2 := ihr (fun z hz => hh z (by simp [hz]))
        simp [uL, hts, yR, h1, h2]
    have := this L ih
    simp [z1m, ht, jB, this]
theorem y6g : ∀ {l l' : List zD}, uL l' = uL l → hts l' = hts l ∧ yR l' = yR l ∧ l'.length = l.length
  | [], l', e => by rw [gW e]; exact ⟨rfl, rfl, rfl⟩
  | x :: r, l', e => by
    obtain ⟨y, s, rfl, e1, e2⟩ := z0s e
    obtain ⟨h1, h2, h3⟩ := y6g e2
    have h4 := v1r x
    have h5 := v1r y
    rw [e1] at h5
    simp only [hts, yR, List.length_cons]
    omega
theorem y6N {k n : Int} {t w s : Str} {k' n' : Int} {t' : Str} {l : Nat} (h : Tok k n t w) (ho : one s = .inr (k', n', t', l)) (hk : k ≠ k') : w ≠ s := by
  rintro rfl
  have := h [] (.inl rfl)
  rw [List.append_nil, ho] at this
  injection this with this
  simp only [Prod.mk.injEq] at this
  exact hk this.1.symm
def EW (w : Str) : Prop := (∃ n, Tok 2 n [] w) ∨ Nm w ∨ w ∈ ([[116, 114, 117, 101], [102, 97, 108, 115, 101], [114, 101, 97, 100], [45], [33], [91], [40], [64], [110, 101, 119]] : List Str)
theorem EW.ne {w s : Str} (h : EW w) (hs : s ∈ ([[123], [125], z8R, wIf, z1t, z9v, z1s, z0a, wDo, z3A] : List Str)) : w ≠ s := by
  rcases h with ⟨n, h⟩ | h | h
  · simp only [List.mem_cons, List.not_mem_nil, or_false] at hs
    rcases hs with rfl | rfl | rfl | rfl | rfl | rfl | rfl | rfl | rfl | rfl
    all_goals first | exact y6N h (k' := 4) rfl (by decide) | exact y6N h (k' := 3) rfl (by decide)
  · simp only [List.mem_cons, List.not_mem_nil, or_false] at hs
    rcases hs with rfl | rfl | rfl | rfl | rfl | rfl | rfl | rfl | rfl | rfl
    all_goals first | exact y6N h (k' := 4) rfl (by decide) | exact y6N h (k' := 3) rfl (by decide)
  · simp only [List.mem_cons, List.not_mem_nil, or_false] at hs h
    rcases h with rfl | rfl | rfl | rfl | rfl | rfl | rfl | rfl | rfl <;> rcases hs with rfl | rfl | rfl | rfl | rfl | rfl | rfl | rfl | rfl | rfl <;> decide
theorem y9v {c : XC} {w : List Str} (h : PR c w) : ∃ w0 r, w = w0 :: r ∧ EW w0 := by
  have hwf : ∀ {k : Nat} {x : zD} {w : List Str}, (∃ w0 r, w = w0 :: r ∧ EW w0) → ∃ w0 r, hw k x w = w0 :: r ∧ EW w0 := fun {k x w} ⟨w0, r, e, hn⟩ => by
    unfold hw; split
    · exact ⟨w0, r, e, hn⟩
    · exact ⟨[40], _, rfl, .inr (.inr (by simp))⟩
  induction h with
  | num h1 h2 => exact ⟨_, _, rfl, .inl ⟨_, h2⟩⟩
  | tru => exact ⟨_, _, rfl, .inr (.inr (by simp))⟩
  | fal => exact ⟨_, _, rfl, .inr (.inr (by simp))⟩
  | rd => exact ⟨_, _, rfl, .inr (.inr (by simp))⟩
  | name h => exact ⟨_, _, rfl, .inr (.inl h)⟩
  | @bin n x y wx wy F T h1 h2 p1 p2 ih1 ih2 => obtain ⟨w0, r, e, hn⟩ := hwf (k := y4L n) (x := x) ih1; rw [e]; exact ⟨w0, _, rfl, hn⟩
  | neg _ _ => exact ⟨_, _, rfl, .inr (.inr (by simp))⟩
  | not _ _ => exact ⟨_, _, rfl, .inr (.inr (by simp))⟩
  | @index x i wx wi F T p1 p2 ih1 ih2 => obtain ⟨w0, r, e, hn⟩ := hwf (k := 7) (x := x) ih1; rw [e]; exact ⟨w0, _, rfl, hn⟩
  | @field s x wx F T p0 p1 ih1 => obtain ⟨w0, r, e, hn⟩ := hwf (k := 7) (x := x) ih1; rw [e]; exact ⟨w0, _, rfl, hn⟩
  | lis _ _ => exact ⟨_, _, rfl, .inr (.inr (by simp))⟩
  | call hk h _ _ =>
    rcases hk with rfl | rfl | rfl
    · exact ⟨_, _, rfl, .inr (.inr (by simp))⟩
    · exact ⟨_, _, rfl, .inr (.inl h)⟩
    · exact ⟨_, _, rfl, .inr (.inr (by simp))⟩
  | call0 hk h =>
    rcases hk with rfl | rfl
    · exact ⟨_, _, rfl, .inr (.inl h)⟩
    · exact ⟨_, _, rfl, .inr (.inr (by simp))⟩
  | one _ ih => exact ih
  | cons _ _ ih1 _ => obtain ⟨w0, r, e, hn⟩ := ih1; rw [e]; exact ⟨w0, _, rfl, hn⟩
section
variable {u : List zB}
theorem z5o {a : Nat} {s : Str} (h : TM (zP u a) s) (ho : one s = .inr (3, 0, s, s.length)) : vC u a s = true := by
  obtain ⟨h1, -, h3⟩ := z9u h ho
  unfold vC; rw [h1, h3]; simp
theorem y2X {a : Nat} {w s : Str} (h : TM (zP u a) w) (hne : w ≠ s) : vC u a s = false := by
  cases hs : vC u a s with
  | false => rfl
  | true =>
    exfalso
    unfold vC at hs
    simp only [Bool.and_eq_true, decide_eq_true_eq, beq_iff_eq] at hs
    have h1 := y8i h
    rcases z8u h1 with ⟨h2, -, -⟩ | ⟨-, -, -, h2⟩
    · omega
    · rw [hs.2, List.take_of_length_le (Nat.le_refl _)] at h2; exact hne h2.symm
theorem v1Q {a : Nat} {n : Nat} {w : Str} (h : TM (zP u a) w) (hn : Tok 2 n [] w) : (zP u a).K = 2 ∧ (zP u a).N = n := by
  have ho : one w = .inr (2, n, [], w.length) := by have := hn [] (.inl rfl); rwa [List.append_nil] at this
  obtain ⟨h1, h2, -⟩ := z9u h ho
  exact ⟨h1, h2⟩
theorem v4u {x : zD} {w : List Str} (h : PT x w) : ∀ a n, At u a w → u.length < a + n → ∃ y, typ n u a = (y, a + w.length, 0) ∧ z1m y = z1m x := by
  induction h with
  | int =>
    intro a n ha hn
    have t1 := ha.1.2
    obtain ⟨n, rfl⟩ : ∃ m, n = m + 1 := ⟨n - 1, by have := ha.1.1; omega⟩
    rw [typ, if_pos (z5o t1 rfl)]
    exact ⟨_, rfl, rfl⟩
  | bool =>
    intro a n ha hn
    have t1 := ha.1.2
    obtain ⟨n, rfl⟩ : ∃ m, n = m + 1 := ⟨n - 1, by have := ha.1.1; omega⟩
    rw [typ, if_neg (by rw [y2X t1 (by decide)]; decide), if_pos (z5o t1 rfl)]
    exact ⟨_, rfl, rfl⟩
  | rcd h1 =>
    intro a n ha hn
    have t1 := ha.1.2
    obtain ⟨n, rfl⟩ : ∃ m, n = m + 1 := ⟨n - 1, by have := ha.1.1; omega⟩
    obtain ⟨k1, k2⟩ := z8s t1 h1
    rw [typ, if_neg (by unfold vC; rw [k1]; simp), if_neg (by unfold vC; rw [k1]; simp), if_pos k1, k2]
    exact ⟨_, rfl, rfl⟩
  | @arr m x w F T h1 h2 h3 ih =>
    intro a n ha hn
    have hlt := ha.1.1
    have t1 := ha.1.2
    have t2 := ha.2.1.2
    have t3 := ha.2.2.1.2
    have h4 : At u (a + 3) w := ha.2.2.2
    obtain ⟨n, rfl⟩ : ∃ m, n = m + 1 := ⟨n - 1, by omega⟩
    obtain ⟨k1, -, k3⟩ := z9u t1 (show one [91] = .inr (4, 0, [91], 1) from rfl)
    obtain ⟨n1, n2⟩ := v1Q t2 h2
    obtain ⟨y, e1, e2⟩ := ih (a + 3) n h4 (by omega)
    have s3 := z2w t3 (show one [93] = .inr (4, 0, [93], 1) from rfl)
    rw [typ, if_neg (by unfold vC; rw [k1]; simp), if_neg (by unfold vC; rw [k1]; simp), if_neg (by rw [k1]; decide), if_pos (z2w t1 rfl), if_pos n1, if_pos s3, e1, if_pos rfl, n2]
    have el : a + ([[91], y1p m, [93]] ++ w).length = a + 3 + w.length := by simp; omega
    rw [el]
    exact ⟨_, rfl, by simp [z1m, uG, uL, e2]⟩
theorem v6K {x : zD} {w : List Str} (h : PR (.ex x) w) {a : Nat} (ha : At u a w) (hf : Fol u 1 (a + w.length)) : ∃ y, z1m y = z1m x ∧ Der u (.lev 1) a (.ok y (a + w.length)) := by
  have hb : 1 ≤ bnd x := by unfold bnd; have := y1X x.N; (repeat' split) <;> omega
  exact (v3N h a ha).2.1 1 (Nat.le_refl 1) (by omega) hb hf
def v3p : List It → Bool
  | .sign s :: _ => s == [61] || s == [59]
  | .word s :: _ => s == wTo
  | .be :: _ => true
  | .block :: _ => true
  | _ => false
def z6x : List It → Bool
  | [] => true
  | .expr :: r => v3p r && z6x r
  | .be :: r => r.isEmpty
  | .word s :: r => [z8R, wIf, z1t, z9v, z1s, z0a, wDo, wTo].contains s && z6x r
  | .sign s :: r => [[58], [59], [61]].contains s && z6x r
  | _ :: r => z6x r
theorem v1S {s : Str} (h : [z8R, wIf, z1t, z9v, z1s, z0a, wDo, wTo].contains s = true) : one s = .inr (3, 0, s, s.length) := by
  simp only [List.contains_eq_mem, List.mem_cons, List.not_mem_nil, or_false, decide_eq_true_eq] at h
  rcases h with rfl | rfl | rfl | rfl | rfl | rfl | rfl | rfl <;> rfl
theorem v1R {s : Str} (h : ([[58], [59], [61]] : List Str).contains s = true) : one s = .inr (4, 0, s, s.length) := by
  simp only [List.contains_eq_mem, List.mem_cons, List.not_mem_nil, or_false, decide_eq_true_eq] at h
  rcases h with rfl | rfl | rfl <;> rfl
theorem y9w {k : Int} {its : List It} (h : FK k its) : z6x its = true := by cases h <;> rfl
theorem y0M {x : zD} {w : List Str} (h : PS (.bl x) w) : ∃ r, w = [123] :: r := by
  cases h with
  | blk _ => exact ⟨_, rfl⟩
theorem v1l {its : List It} {ps : List zD} {nm : Str} {w : List Str} (h : PS (.fm its ps nm) w) (hf : v3p its = true) : ∃ w0 r, w = w0 :: r ∧ (w0 = [61] ∨ w0 = [59] ∨ w0 = wTo ∨ w0 = [123]) := by
  cases h with
  | f0 => cases hf
  | fW _ =>
    simp only [v3p, beq_iff_eq] at hf
    exact ⟨_, _, rfl, .inr (.inr (.inl hf))⟩
  | fS _ =>
    simp only [v3p, Bool.or_eq_true, beq_iff_eq] at hf
    rcases hf with hf | hf
    · exact ⟨_, _, rfl, .inl hf⟩
    · exact ⟨_, _, rfl, .inr (.inl hf)⟩
  | fN _ _ => cases hf
  | fX _ _ => cases hf
  | fT _ _ => cases hf
  | fK h1 _ => obtain ⟨r, rfl⟩ := y0M h1; exact ⟨_, _, rfl, .inr (.inr (.inr rfl))⟩
  | fE1 h1 _ => obtain ⟨r, rfl⟩ := y0M h1; exact ⟨_, _, rfl, .inr (.inr (.inr rfl))⟩
  | fE2 h1 _ _ _ => obtain ⟨r, rfl⟩ := y0M h1; exact ⟨_, _, rfl, .inr (.inr (.inr rfl))⟩
theorem v5S {b : Nat} {w0 : Str} (h : TM (zP u b) w0) (hw : w0 = [61] ∨ w0 = [59] ∨ w0 = wTo ∨ w0 = [123]) : Fol u 1 b := by
  have hn : ∀ s : Str, w0 ≠ s → yK u b s = false := fun s hs => z4d h hs
  have hop : (z6z (zP u b)).2 < 1 := by
    rcases hw with rfl | rfl | rfl | rfl
    · obtain ⟨h1, -, h3⟩ := z9u h (show one [61] = .inr (4, 0, [61], 1) from rfl)
      unfold z6z; rw [if_pos h1, h3]; decide
    · obtain ⟨h1, -, h3⟩ := z9u h (show one [59] = .inr (4, 0, [59], 1) from rfl)
      unfold z6z; rw [if_pos h1, h3]; decide
    · obtain ⟨h1, -, h3⟩ := z9u h (show one wTo = .inr (3, 0, wTo, 2) from rfl)
      unfold z6z; rw [if_neg (by rw [h1]; decide)]; decide
    · obtain ⟨h1, -, h3⟩ := z9u h (show one [123] = .inr (4, 0, [123], 1) from rfl)
      unfold z6z; rw [if_pos h1, h3]; decide
  refine ⟨hop, hn _ ?_, hn _ ?_, hn _ ?_⟩
  all_goals (rcases hw with rfl | rfl | rfl | rfl <;> decide)
theorem v4L {k : Int} {its : List It} (hk : FK k its) {ps : List zD} {nm : Str} {w : List Str} (h : PS (.fm its ps nm) w) {a : Nat} (ha : At u a w) : yK u a [123] = false ∧ z5B u a = (k, its) := by
  unfold z5B
  cases hk with
  | new =>
    cases h with | fW h => cases h with | fN hn h => cases h with | fS h =>
    have t1 := ha.1.2
    have t2 := ha.2.1.2
    have t3 := ha.2.2.1.2
    obtain ⟨k1, k2⟩ := z8s t2 hn
    refine ⟨z4d t1 (by decide), ?_⟩
    rw [if_pos (z5o t1 rfl), if_pos ⟨k1, z2w t3 rfl⟩]
  | let_ =>
    cases h with | fW h => cases h with | fN hn h => cases h with | fS h =>
    have t1 := ha.1.2
    have t3 := ha.2.2.1.2
    refine ⟨z4d t1 (by decide), ?_⟩
    rw [if_pos (z5o t1 rfl), if_neg (fun g => by have := g.2; rw [z4d t3 (by decide)] at this; cases this)]
  | if_ =>
    cases h with | fW h =>
    have t1 := ha.1.2
    refine ⟨z4d t1 (by decide), ?_⟩
    have no : ∀ s, wIf ≠ s → ¬ vC u a s = true := fun s h g => by rw [y2X t1 h] at g; cases g
    rw [if_neg (no _ (by decide)), if_pos (z5o t1 rfl)]
  | «while» =>
    cases h with | fW h =>
    have t1 := ha.1.2
    refine ⟨z4d t1 (by decide), ?_⟩
    have no : ∀ s, z1t ≠ s → ¬ vC u a s = true := fun s h g => by rw [y2X t1 h] at g; cases g
    rw [if_neg (no _ (by decide)), if_neg (no _ (by decide)), if_pos (z5o t1 rfl)]
  | «for» =>
    cases h with | fW h =>
    have t1 := ha.1.2
    refine ⟨z4d t1 (by decide), ?_⟩
    have no : ∀ s, z9v ≠ s → ¬ vC u a s = true := fun s h g => by rw [y2X t1 h] at g; cases g
    rw [if_neg (no _ (by decide)), if_neg (no _ (by decide)), if_neg (no _ (by decide)), if_pos (z5o t1 rfl)]
  | print =>
    cases h with | fW h =>
    have t1 := ha.1.2
    refine ⟨z4d t1 (by decide), ?_⟩
    have no : ∀ s, z1s ≠ s → ¬ vC u a s = true := fun s h g => by rw [y2X t1 h] at g; cases g
    rw [if_neg (no _ (by decide)), if_neg (no _ (by decide)), if_neg (no _ (by decide)), if_neg (no _ (by decide)), if_pos (z5o t1 rfl)]
  | ret =>
    cases h with | fW h =>
    have t1 := ha.1.2
    refine ⟨z4d t1 (by decide), ?_⟩
    have no : ∀ s, z0a ≠ s → ¬ vC u a s = true := fun s h g => by rw [y2X t1 h] at g; cases g
    rw [if_neg (no _ (by decide)), if_neg (no _ (by decide)), if_neg (no _ (by decide)), if_neg (no _ (by decide)), if_neg (no _ (by decide)), if_pos (z5o t1 rfl)]
  | do_ =>
    cases h with | fW h =>
    have t1 := ha.1.2
    refine ⟨z4d t1 (by decide), ?_⟩
    have no : ∀ s, wDo ≠ s → ¬ vC u a s = true := fun s h g => by rw [y2X t1 h] at g; cases g
    rw [if_neg (no _ (by decide)), if_neg (no _ (by decide)), if_neg (no _ (by decide)), if_neg (no _ (by decide)), if_neg (no _ (by decide)), if_neg (no _ (by decide)), if_pos (z5o t1 rfl)]
  | set =>
    cases h with | fX hx h =>
    obtain ⟨w0, r, rfl, hw⟩ := y9v hx
    have t1 := ha.1.2
    refine ⟨z4d t1 (hw.ne (by simp)), ?_⟩
    have no : ∀ s, s ∈ ([[123], [125], z8R, wIf, z1t, z9v, z1s, z0a, wDo, z3A] : List Str) → ¬ vC u a s = true := fun s h g => by rw [y2X t1 (hw.ne h)] at g; cases g
    rw [if_neg (no _ (by simp)), if_neg (no _ (by simp)), if_neg (no _ (by simp)), if_neg (no _ (by simp)), if_neg (no _ (by simp)), if_neg (no _ (by simp)), if_neg (no _ (by simp))]
theorem y9U {x : zD} {w : List Str} (h : PS (.st x) w) : ∃ w0 r, w = w0 :: r ∧ w0 ≠ [125] ∧ w0 ≠ z3A := by
  cases h with
  | stB h => obtain ⟨r, rfl⟩ := y0M h; exact ⟨_, _, rfl, by decide, by decide⟩
  | stF hk _ h =>
    cases hk with
    | set => cases h with | fX hx h => obtain ⟨w0, r, rfl, hw⟩ := y9v hx; exact ⟨_, _, rfl, hw.ne (by simp), hw.ne (by simp)⟩
    | _ => cases h with | fW h => exact ⟨_, _, rfl, by decide, by decide⟩
def RS (u : List zB) : SC → List Str → Prop
  | .st x, w => ∀ a, At u a w → vC u (a + w.length) z3A = false → ∃ y, z1m y = z1m x ∧ SDer u .stmt a (.ok y (a + w.length))
  | .bl x, w => ∀ a, At u a w → ∃ y, z1m y = z1m x ∧ SDer u .blk a (.ok y (a + w.length))
  | .ss l, w => ∀ f acc a, At u a w → TM (zP u (a + w.length)) [125] → ∃ l', uL l' = uL l ∧ SDer u (.sl f acc) a (.ok (uG u f (a + w.length + 1) ⟨29, 0, [], acc ++ l', 0, 0⟩) (a + w.length + 1))
  | .fm its ps nm, w => z6x its = true → ∀ k f parts name a, At u a w → f < a + w.length → (It.name ∈ its ∨ name = nm) → (It.be ∈ its → vC u (a + w.length) z3A = false) → ∃ ps', uL ps' = uL ps ∧ SDer u (.form k f its parts name) a (.ok (uG u f (a + w.length) ⟨k, 0, nm, parts ++ ps', 0, 0⟩) (a + w.length))
theorem v6T {c : SC} {w : List Str} (h : PS c w) : RS u c w := by
  induction h with
  | @blk l w F T h ih =>
    intro a ha
    obtain ⟨g1, g2⟩ := z0e ha
    have t1 := g1.1.2
    have g3 : At u (a + 1) w := g1.2
    have e2 : a + ([[123]] ++ w).length = a + 1 + w.length := by simp; omega
    have eb : a + ([[123]] ++ w ++ [[125]]).length = a + 1 + w.length + 1 := by simp; omega
    rw [e2] at g2
    rw [eb]
    obtain ⟨l', e, d⟩ := ih a [] (a + 1) g3 g2.1.2
    exact ⟨_, by simp [z1m, uG, e], .b1 (z2w t1 rfl) d⟩
  | ss0 =>
    intro f acc a ha ht
    refine ⟨[], rfl, ?_⟩
    rw [List.append_nil]
    exact .lE (z2w ht rfl)
  | @ssc x l w wl h1 h2 ih1 ih2 =>
    intro f acc a ha ht
    obtain ⟨g1, g2⟩ := z0e ha
    obtain ⟨w0, r, e0, n1, n2⟩ := y9U h1
    have eb : a + (w ++ wl).length = a + w.length + wl.length := by simp; omega
    rw [eb] at ht ⊢
    have hne : vC u (a + w.length) z3A = false := by
      cases h2 with
      | ss0 => exact y2X ht (by decide)
      | ssc h3 h4 =>
        obtain ⟨v0, r', e', m1, m2⟩ := y9U h3
        rw [e'] at g2
        exact y2X g2.1.2 m2
    obtain ⟨y, e1, d1⟩ := ih1 a g1 hne
    obtain ⟨l', e2, d2⟩ := ih2 f (acc ++ [y]) (a + w.length) g2 ht
    refine ⟨y :: l', by simp [uL, e1, e2], ?_⟩
    rw [e0] at g1
    have := SDer.lG (z4d g1.1.2 n1) d1 d2
    rw [List.append_assoc] at this
    exact this
  | @stB x w h ih =>
    intro a ha _
    obtain ⟨y, e, d⟩ := ih a ha
    obtain ⟨r, rfl⟩ := y0M h
    exact ⟨y, e, .sB (z2w ha.1.2 rfl) d⟩
  | @stF k its ps nm w F T hk hn h ih =>
    intro a ha he
    obtain ⟨f1, f2⟩ := v4L hk h ha
    have hw : 0 < w.length := by
      have := v6s (PS.stF (F := 0) (T := 0) hk hn h)
      simp only [LnS] at this
      cases w with
      | nil => simp [szw] at this
      | cons _ _ => simp
    obtain ⟨ps', e, d⟩ := ih (y9w hk) k a [] [] a ha (by omega) (by
      by_cases h : It.name ∈ its
      · exact .inl h
      · exact .inr (hn h).symm) (fun _ => he)
    exact ⟨uG u a (a + w.length) ⟨k, 0, nm, [] ++ ps', 0, 0⟩, by simp [z1m, uG, e], .sF f1 (by rw [f2]; exact d)⟩
  | @f0 nm =>
    intro _ k f parts name a ha hf hn _
    have : name = nm := hn.resolve_left (by simp)
    subst this
    exact ⟨[], rfl, by rw [List.append_nil]; exact .fE hf⟩
  | @fW s its ps nm w h ih =>
    intro hok k f parts name a ha hf hn hb
    have eb : a + ([s] ++ w).length = a + 1 + w.length := by simp; omega
    rw [eb] at hf hb ⊢
    simp only [z6x, Bool.and_eq_true] at hok
    obtain ⟨ps', e, d⟩ := ih hok.2 k f parts name (a + 1) ha.2 hf (hn.imp (fun h => by simpa using h) id) (fun h => hb (by simp [h]))
    exact ⟨ps', e, .fW (z5o ha.1.2 (v1S hok.1)) d⟩
  | @fS s its ps nm w h ih =>
    intro hok k f parts name a ha hf hn hb
    have eb : a + ([s] ++ w).length = a + 1 + w.length := by simp; omega
    rw [eb] at hf hb ⊢
    simp only [z6x, Bool.and_eq_true] at hok
    obtain ⟨ps', e, d⟩ := ih hok.2 k f parts name (a + 1) ha.2 hf (hn.imp (fun h => by simpa using h) id) (fun h => hb (by simp [h]))
    exact ⟨ps', e, .fS (z2w ha.1.2 (v1R hok.1)) d⟩
  | @fN its ps nm w hnm h ih =>
    intro hok k f parts name a ha hf hn hb
    have eb : a + ([nm] ++ w).length = a + 1 + w.length := by simp; omega
    rw [eb] at hf hb ⊢
    obtain ⟨k1, k2⟩ := z8s ha.1.2 hnm
    obtain ⟨ps', e, d⟩ := ih hok k f parts nm (a + 1) ha.2 hf (.inr rfl) (fun h => hb (by simp [h]))
    exact ⟨ps', e, .fN k1 (by rw [k2]; exact d)⟩
  | @fX its x ps nm wx w hx h ih =>
    intro hok k f parts name a ha hf hn hb
    have eb : a + (wx ++ w).length = a + wx.length + w.length := by simp; omega
    rw [eb] at hf hb ⊢
    simp only [z6x, Bool.and_eq_true] at hok
    obtain ⟨g1, g2⟩ := z0e ha
    obtain ⟨w0, r, e0, hw0⟩ := v1l h hok.1
    have hfol : Fol u 1 (a + wx.length) := by
      rw [e0] at g2; exact v5S g2.1.2 hw0
    obtain ⟨y, e1, d1⟩ := v6K hx g1 hfol
    obtain ⟨ps', e, d⟩ := ih hok.2 k f (parts ++ [y]) name (a + wx.length) g2 hf (hn.imp (fun h => by simpa using h) id) (fun h => hb (by simp [h]))
    refine ⟨y :: ps', by simp [uL, e1, e], .fX d1 ?_⟩
    rw [List.append_assoc] at d; exact d
  | @fT its x ps nm wx w hx h ih =>
    intro hok k f parts name a ha hf hn hb
    have eb : a + (wx ++ w).length = a + wx.length + w.length := by simp; omega
    rw [eb] at hf hb ⊢
    obtain ⟨g1, g2⟩ := z0e ha
    obtain ⟨y, e1, e2⟩ := v4u hx a (u.length + 1) g1 (by omega)
    obtain ⟨ps', e, d⟩ := ih hok k f (parts ++ [y]) name (a + wx.length) g2 hf (hn.imp (fun h => by simpa using h) id) (fun h => hb (by simp [h]))
    refine ⟨y :: ps', by simp [uL, e2, e], .fT (by rw [show z4Y u a = _ from e1]) ?_⟩
    rw [show z4Y u a = _ from e1]
    rw [List.append_assoc] at d; exact d
  | @fK its x ps nm wx w hx h ih1 ih =>
    intro hok k f parts name a ha hf hn hb
    have eb : a + (wx ++ w).length = a + wx.length + w.length := by simp; omega
    rw [eb] at hf hb ⊢
    obtain ⟨g1, g2⟩ := z0e ha
    obtain ⟨y, e1, d1⟩ := ih1 a g1
    obtain ⟨ps', e, d⟩ := ih hok k f (parts ++ [y]) name (a + wx.length) g2 hf (hn.imp (fun h => by simpa using h) id) (fun h => hb (by simp [h]))
    refine ⟨y :: ps', by simp [uL, e1, e], .fK d1 ?_⟩
    rw [List.append_assoc] at d; exact d
  | @fE1 its x ps nm wx w F T hx h ih1 ih =>
    intro hok k f parts name a ha hf hn hb
    have hits : its = [] := by simpa [z6x] using hok
    subst hits
    have hw : w = [] := by cases h; rfl
    subst hw
    rw [List.append_nil] at ha hf hb ⊢
    obtain ⟨y, e1, d1⟩ := ih1 a ha
    obtain ⟨ps', e, d⟩ := ih rfl k f (parts ++ [y] ++ [z6i (zP u (a + wx.length - 1)).To]) name (a + wx.length) trivial (by simpa using hf) (hn.imp (fun h => by simp at h) id) (fun h => by simp at h)
    refine ⟨y :: z6i (zP u (a + wx.length - 1)).To :: ps', by simp [uL, z1m, e1, e], .fE1 d1 (hb (by simp)) ?_⟩
    simpa using d
  | @fE2 its x y ps nm wx wy w hx hy hne h ih1 ih2 ih =>
    intro hok k f parts name a ha hf hn hb
    have hits : its = [] := by simpa [z6x] using hok
    subst hits
    have hw : w = [] := by cases h; rfl
    subst hw
    rw [List.append_nil] at ha hf hb ⊢
    obtain ⟨g1, g2⟩ := z0e ha
    have eb : a + (wx ++ ([[101, 108, 115, 101]] ++ wy)).length = a + wx.length + 1 + wy.length := by simp; omega
    rw [eb] at hf hb ⊢
    obtain ⟨x', e1, d1⟩ := ih1 a g1
    obtain ⟨y', e2, d2⟩ := ih2 (a + wx.length + 1) g2.2
    obtain ⟨ps', e, d⟩ := ih rfl k f (parts ++ [x'] ++ [y']) name (a + wx.length + 1 + wy.length) trivial (by simpa using hf) (hn.imp (fun h => by simp at h) id) (fun h => by simp at h)
    refine ⟨x' :: y' :: ps', by simp [uL, z1m, e1, e2, e], .fE2 d1 (z5o g2.1.2 rfl) d2 ?_⟩
    simpa using d
end
end Go.Proofs.YthbhgdooeeapjaaGreat.M

