/- Where the last token is the end, no result lies behind it; what is read of a block stands within it. -/
import Derived.Test.YtelddjedpmfclaaP08q
import Derived.Test.YtelddjedpmfclaaP07y
namespace Go.Proofs.Ytelddjedpmfclaa.M
open Go Nt
set_option linter.unusedVariables false
set_option linter.unusedSimpArgs false
def Lst (t : List Token) (n : Nat) : Prop := ∀ i, n ≤ i → (tokAt t i).K = 5
theorem tokAt_ln {t : List Token} {n a : Nat} (hn : Lst t n) (h : (tokAt t a).K ≠ 5) : a < n := Nat.lt_of_not_le fun h1 => h (hn a h1)
theorem sgnAt_ln {t : List Token} {n a : Nat} {s : Str} (hn : Lst t n) (h : sgnAt t a s = true) : a < n := tokAt_ln hn (by
  unfold sgnAt at h
  simp only [Bool.and_eq_true, decide_eq_true_eq] at h
  rw [h.1]; decide)
theorem wrdAt_ln {t : List Token} {n a : Nat} {s : Str} (hn : Lst t n) (h : wrdAt t a s = true) : a < n := tokAt_ln hn (by
  unfold wrdAt at h
  simp only [Bool.and_eq_true, decide_eq_true_eq] at h
  rw [h.1]; decide)
theorem atomK_ln {t : List Token} {n : Nat} (hn : Lst t n) {a : Nat} (h : atomK t a ≠ .no) : a < n := by
  unfold atomK at h
  by_cases h1 : (tokAt t a).K = 2
  · exact tokAt_ln hn (by rw [h1]; decide)
  rw [if_neg h1] at h
  by_cases h2 : (tokAt t a).K = 1
  · exact tokAt_ln hn (by rw [h2]; decide)
  rw [if_neg h2] at h
  by_cases h3 : wrdAt t a [116, 114, 117, 101] = true
  · exact wrdAt_ln hn h3
  rw [if_neg h3] at h
  by_cases h3 : wrdAt t a [102, 97, 108, 115, 101] = true
  · exact wrdAt_ln hn h3
  rw [if_neg h3] at h
  by_cases h3 : wrdAt t a [114, 101, 97, 100] = true
  · exact wrdAt_ln hn h3
  rw [if_neg h3] at h
  by_cases h3 : wrdAt t a [110, 101, 119] = true
  · exact wrdAt_ln hn h3
  rw [if_neg h3] at h
  by_cases h3 : sgnAt t a [40] = true
  · exact sgnAt_ln hn h3
  rw [if_neg h3] at h
  by_cases h3 : sgnAt t a [91] = true
  · exact sgnAt_ln hn h3
  rw [if_neg h3] at h
  by_cases h3 : sgnAt t a [64] = true
  · exact sgnAt_ln hn h3
  rw [if_neg h3] at h
  exact absurd rfl h
theorem atomK_calln {t : List Token} {n : Nat} (hn : Lst t n) {a o : Nat} {k : Int} {s : Str} {few : Bool} (h : atomK t a = .call k s o few) : a < o ∧ o ≤ n := by
  have h0 := atomK_ln hn (t := t) (a := a) (by rw [h]; simp)
  unfold atomK at h
  repeat' split at h
  all_goals first
    | (cases h; done)
    | (injection h with h1 h2 h3 h4; subst h3; rename_i q; have := tokAt_ln (t := t) (n := n) hn (a := a + 1) (by rw [q]; decide); omega)
    | (injection h with h1 h2 h3 h4; subst h3; omega)
def InRn (n : Nat) (c : Cat) (a : Nat) : Res → Prop
  | .ok x b => (match c with | .ll _ _ _ _ => a ≤ b | .pl _ _ => a ≤ b | _ => a < b) ∧ b ≤ n
  | .bad b => a ≤ b ∧ b ≤ n
theorem Der.inRn {t : List Token} {n : Nat} (hn : Lst t n) {c : Cat} {a : Nat} {r : Res} (h : Der t c a r) : a ≤ n → InRn n c a r := by
  induction h with
  | un h1 _ ih =>
    intro _
    have ha : _ < n := h1.elim (fun h => sgnAt_ln hn h.2) (fun h => sgnAt_ln hn h.2)
    have := ih (by omega); simp only [InRn] at this ⊢; omega
  | unB h1 _ ih =>
    intro _
    have ha : _ < n := h1.elim (fun h => sgnAt_ln hn h) (fun h => sgnAt_ln hn h)
    have := ih (by omega); simp only [InRn] at this ⊢; omega
  | unP _ _ _ ih => intro h; exact ih h
  | @lev k a b x r h1 h2 _ _ ih1 ih2 =>
    intro h
    have q1 := ih1 h; simp only [InRn] at q1
    have q2 := ih2 q1.2
    cases r <;> simp only [InRn] at q2 ⊢ <;> omega
  | levB _ _ _ ih => intro h; exact ih h
  | llE _ _ => intro h; simp only [InRn]; omega
  | @llG k m f a b x y r h1 h2 h3 _ _ ih1 ih2 =>
    intro h
    have ha := tokAt_ln (t := t) (n := n) hn (a := a) (by rw [opOf_tok (by omega)]; decide)
    have q1 := ih1 (by omega); simp only [InRn] at q1
    have q2 := ih2 q1.2
    cases r <;> simp only [InRn] at q2 ⊢ <;> omega
  | @llB k m f a b x h1 h2 h3 _ ih1 =>
    intro h
    have ha := tokAt_ln (t := t) (n := n) hn (a := a) (by rw [opOf_tok (by omega)]; decide)
    have q1 := ih1 (by omega); simp only [InRn] at q1 ⊢; omega
  | @post a b x r _ _ ih1 ih2 =>
    intro h
    have q1 := ih1 h; simp only [InRn] at q1
    have q2 := ih2 q1.2
    cases r <;> simp only [InRn] at q2 ⊢ <;> omega
  | postB _ ih => intro h; exact ih h
  | plE _ _ => intro h; simp only [InRn]; omega
  | @plI f a b x i r h1 _ h2 _ ih1 ih2 =>
    intro h
    have ha := sgnAt_ln hn h1
    have hb := sgnAt_ln hn h2
    have q1 := ih1 (by omega); simp only [InRn] at q1
    have q2 := ih2 (by omega)
    cases r <;> simp only [InRn] at q2 ⊢ <;> omega
  | plI1 h1 _ ih =>
    intro h
    have ha := sgnAt_ln hn h1
    have q1 := ih (by omega); simp only [InRn] at q1 ⊢; omega
  | plI2 h1 _ _ ih =>
    intro h
    have ha := sgnAt_ln hn h1
    have q1 := ih (by omega); simp only [InRn] at q1 ⊢; omega
  | @plF f a x r h0 h1 h2 _ ih =>
    intro h
    have ha := tokAt_ln (t := t) (n := n) hn (a := a + 1) (by rw [h2]; decide)
    have q2 := ih (by omega)
    cases r <;> simp only [InRn] at q2 ⊢ <;> omega
  | plFB _ h1 _ => intro h; have := sgnAt_ln hn h1; simp only [InRn]; omega
  | one h1 => intro h; have := atomK_ln hn (by rw [h1]; simp); simp only [InRn]; omega
  | par h1 _ h2 ih =>
    intro h; have ha := atomK_ln hn (by rw [h1]; simp); have hb := sgnAt_ln hn h2
    have q1 := ih (by omega); simp only [InRn] at q1 ⊢; omega
  | par1 h1 _ ih =>
    intro h; have ha := atomK_ln hn (by rw [h1]; simp)
    have q1 := ih (by omega); simp only [InRn] at q1 ⊢; omega
  | par2 h1 _ _ ih =>
    intro h; have ha := atomK_ln hn (by rw [h1]; simp)
    have q1 := ih (by omega); simp only [InRn] at q1 ⊢; omega
  | call h1 _ ih =>
    intro h; have ha := atomK_calln hn h1
    have q1 := ih (by omega); simp only [InRn] at q1 ⊢; omega
  | callB h1 _ ih =>
    intro h; have ha := atomK_calln hn h1
    have q1 := ih (by omega); simp only [InRn] at q1 ⊢; omega
  | lis h1 _ h2 ih =>
    intro h; have ha := atomK_ln hn (by rw [h1]; simp); have hb := sgnAt_ln hn h2
    have q1 := ih (by omega); simp only [InRn] at q1 ⊢; omega
  | lis1 h1 _ ih =>
    intro h; have ha := atomK_ln hn (by rw [h1]; simp)
    have q1 := ih (by omega); simp only [InRn] at q1 ⊢; omega
  | lis2 h1 _ _ ih =>
    intro h; have ha := atomK_ln hn (by rw [h1]; simp)
    have q1 := ih (by omega); simp only [InRn] at q1 ⊢; omega
  | nm h1 => intro h; have ha := atomK_ln hn (by rw [h1]; simp); simp only [InRn]; omega
  | no _ => intro h; simp only [InRn]; omega
  | cls0 _ => intro h; simp only [InRn]; omega
  | clsF h1 h2 => intro h; have ha := sgnAt_ln hn h2; simp only [InRn]; omega
  | cls h1 _ _ h2 ih =>
    intro h; have ha := sgnAt_ln hn h1; have hb := sgnAt_ln hn h2
    have q1 := ih (by omega); simp only [InRn] at q1 ⊢; omega
  | cls1 h1 _ _ ih =>
    intro h; have ha := sgnAt_ln hn h1
    have q1 := ih (by omega); simp only [InRn] at q1 ⊢; omega
  | cls2 h1 _ _ _ ih =>
    intro h; have ha := sgnAt_ln hn h1
    have q1 := ih (by omega); simp only [InRn] at q1 ⊢; omega
  | lstE _ _ ih => intro h; have q1 := ih h; simp only [InRn] at q1 ⊢; omega
  | @lstG a b acc x r _ h2 _ ih1 ih2 =>
    intro h; have hb := sgnAt_ln hn h2
    have q1 := ih1 h; simp only [InRn] at q1
    have q2 := ih2 (by omega)
    cases r <;> simp only [InRn] at q2 ⊢ <;> omega
  | lstB _ ih => intro h; have q1 := ih h; simp only [InRn] at q1 ⊢; omega

theorem typ_pln {t : List Token} {m : Nat} (hn : Lst t m) : ∀ (n a : Nat), m < a + n → (typ n t a).2.2 = 0 → a < (typ n t a).2.1 ∧ (typ n t a).2.1 ≤ m
  | 0, a, _, h => by cases h
  | n + 1, a, hl, h => by
    rw [typ] at h ⊢
    by_cases h1 : wrdAt t a [105, 110, 116] = true
    · rw [if_pos h1]; have := wrdAt_ln hn h1; exact ⟨by simp, this⟩
    rw [if_neg h1] at h ⊢
    by_cases h2 : wrdAt t a [98, 111, 111, 108] = true
    · rw [if_pos h2]; have := wrdAt_ln hn h2; exact ⟨by simp, this⟩
    rw [if_neg h2] at h ⊢
    by_cases h3 : (tokAt t a).K = 1
    · rw [if_pos h3]; have := tokAt_ln (t := t) (n := m) hn (a := a) (by rw [h3]; decide); exact ⟨by simp, this⟩
    rw [if_neg h3] at h ⊢
    by_cases h4 : sgnAt t a [91] = true
    · rw [if_pos h4] at h ⊢
      by_cases h5 : (tokAt t (a + 1)).K = 2
      · rw [if_pos h5] at h ⊢
        by_cases h6 : sgnAt t (a + 2) [93] = true
        · rw [if_pos h6] at h ⊢
          by_cases h7 : (typ n t (a + 3)).2.2 = 0
          · rw [if_pos h7]
            have := typ_pln hn n (a + 3) (by omega) h7
            exact ⟨by show a < (typ n t (a + 3)).2.1; omega, this.2⟩
          · rw [if_neg h7] at h; exact absurd h h7
        · rw [if_neg h6] at h; cases h
      · rw [if_neg h5] at h; cases h
    · rw [if_neg h4] at h; cases h
theorem typ_badpln {t : List Token} {m : Nat} (hn : Lst t m) : ∀ (n a : Nat), m < a + n → a ≤ m → (typ n t a).2.2 ≠ 0 → a ≤ (typ n t a).2.1 ∧ (typ n t a).2.1 ≤ m
  | 0, a, h1, h2, _ => by omega
  | n + 1, a, h1, h2, h => by
    rw [typ] at h ⊢
    by_cases g1 : wrdAt t a [105, 110, 116] = true
    · rw [if_pos g1] at h; exact absurd rfl h
    rw [if_neg g1] at h ⊢
    by_cases g2 : wrdAt t a [98, 111, 111, 108] = true
    · rw [if_pos g2] at h; exact absurd rfl h
    rw [if_neg g2] at h ⊢
    by_cases g3 : (tokAt t a).K = 1
    · rw [if_pos g3] at h; exact absurd rfl h
    rw [if_neg g3] at h ⊢
    by_cases g4 : sgnAt t a [91] = true
    · have k4 := sgnAt_ln hn g4
      rw [if_pos g4] at h ⊢
      by_cases g5 : (tokAt t (a + 1)).K = 2
      · have k5 := tokAt_ln (t := t) (n := m) hn (a := a + 1) (by rw [g5]; decide)
        rw [if_pos g5] at h ⊢
        by_cases g6 : sgnAt t (a + 2) [93] = true
        · have k6 := sgnAt_ln hn g6
          rw [if_pos g6] at h ⊢
          by_cases g7 : (typ n t (a + 3)).2.2 = 0
          · rw [if_pos g7] at h; exact absurd rfl h
          · rw [if_neg g7]
            have := typ_badpln hn n (a + 3) (by omega) (by omega) g7
            exact ⟨by show a ≤ (typ n t (a + 3)).2.1; omega, this.2⟩
        · rw [if_neg g6]; exact ⟨by show a ≤ a + 2; omega, by show a + 2 ≤ m; omega⟩
      · rw [if_neg g5]; exact ⟨by show a ≤ a + 1; omega, by show a + 1 ≤ m; omega⟩
    · rw [if_neg g4]; exact ⟨Nat.le_refl _, h2⟩
def InSn (n : Nat) (c : SCat) (a : Nat) : Res → Prop
  | .ok x b => (match c with | .form _ _ its _ _ => a ≤ b ∧ (its ≠ [] → a < b) | _ => a < b) ∧ b ≤ n
  | .bad b => a ≤ b ∧ b ≤ n
theorem SDer.inSn {t : List Token} {mm : Nat} (hn : Lst t mm) (hlt : mm < t.length) {c : SCat} {a : Nat} {r : Res} (h : SDer t c a r) : a ≤ mm → InSn mm c a r := by
  -- one step, and the rest of a form
  have step : ∀ {k : Int} {f a b : Nat} {it : It} {its : List It} {p p' : List Term} {n n' : Str} {r : Res}, a < b → InSn mm (.form k f its p' n') b r → InSn mm (.form k f (it :: its) p n) a r := by
    intro k f a b it its p p' n n' r h1 h2
    cases r with
    | ok x c => simp only [InSn] at h2 ⊢; exact ⟨⟨by omega, fun _ => by omega⟩, h2.2⟩
    | bad c => simp only [InSn] at h2 ⊢; omega
  induction h with
  | sB _ _ ih => intro h; exact ih h
  | @sF a r h1 hd ih =>
    intro h
    have q := ih h
    cases r with
    | ok x b =>
      simp only [InSn] at q ⊢
      refine ⟨q.1.2 ?_, q.2⟩
      unfold formOf
      repeat' split
      all_goals simp
    | bad b => exact q
  | b0 _ => intro h; simp only [InSn]; omega
  | @b1 a r h1 _ ih =>
    intro h
    have := sgnAt_ln hn h1
    have q := ih (by omega)
    cases r <;> simp only [InSn] at q ⊢ <;> omega
  | lE h1 => intro h; have := sgnAt_ln hn h1; simp only [InSn]; omega
  | @lG f a b acc x r h1 _ _ ih1 ih2 =>
    intro h
    have q1 := ih1 h; simp only [InSn] at q1
    have q2 := ih2 q1.2
    cases r <;> simp only [InSn] at q2 ⊢ <;> omega
  | lB _ _ ih => intro h; exact ih h
  | fE _ => intro h; simp only [InSn]; exact ⟨⟨Nat.le_refl _, fun h => absurd rfl h⟩, h⟩
  | fW h1 _ ih => intro h; have := wrdAt_ln hn h1; exact step (by omega) (ih (by omega))
  | fW0 _ => intro h; simp only [InSn]; omega
  | fS h1 _ ih => intro h; have := sgnAt_ln hn h1; exact step (by omega) (ih (by omega))
  | fS0 _ => intro h; simp only [InSn]; omega
  | @fN f a k its parts name r h1 _ ih => intro h; have := tokAt_ln (t := t) (n := mm) hn (a := a) (by rw [h1]; decide); exact step (Nat.lt_succ_self a) (ih (by omega))
  | fN0 _ => intro h; simp only [InSn]; omega
  | fX hd _ ih => intro h; have q := hd.inRn hn h; simp only [InRn] at q; exact step q.1 (ih q.2)
  | fX0 hd => intro h; have q := hd.inRn hn h; simp only [InRn, InSn] at q ⊢; exact q
  | @fT f a k its parts name r h1 _ ih => intro h; have q := typ_pln hn (t.length + 1) a (by omega) h1; exact step q.1 (ih q.2)
  | @fT0 f a k its parts name h1 => intro h; have q := typ_badpln hn (t.length + 1) a (by omega) h h1; simp only [InSn]; exact q
  | fK _ _ ih1 ih2 => intro h; have q := ih1 h; simp only [InSn] at q; exact step q.1 (ih2 q.2)
  | fK0 _ ih => intro h; exact ih h
  | fE0 _ ih => intro h; exact ih h
  | fE1 _ _ _ ih1 ih2 => intro h; have q := ih1 h; simp only [InSn] at q; exact step q.1 (ih2 q.2)
  | @fE2 f a b c k its parts name x y r _ h2 _ _ ih1 ih2 ih3 =>
    intro h
    have hb := wrdAt_ln hn h2
    have q := ih1 h; simp only [InSn] at q
    have q2 := ih2 (by omega); simp only [InSn] at q2
    exact step (by omega) (ih3 q2.2)
  | @fE3 f a b c k its parts name x _ h2 _ ih1 ih2 =>
    intro h
    have hb := wrdAt_ln hn h2
    have q := ih1 h; simp only [InSn] at q
    have q2 := ih2 (by omega); simp only [InSn] at q2 ⊢
    omega
end Go.Proofs.Ytelddjedpmfclaa.M
