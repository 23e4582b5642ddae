/- ExprPlaces, as a plain law. -/
import Derived.Test.YtcjfddebnpakbaaP07v
import Derived.Test.YtcjfddebnpakbaaP07w
import Derived.Test.YtcjfddebnpakbaaP07y
namespace Go.Proofs.Ytcjfddebnpakbaa.M
open Go Nt
set_option linter.unusedVariables false
set_option linter.unusedSimpArgs false
theorem ord_last : ∀ {l : List Token} {a : Nat}, Ord a l → 0 < l.length ∧ (tokAt l (l.length - 1)).K = 5
  | [], a, h => h.elim
  | x :: r, a, ⟨f, t, h1, h2, h3, h4, h5⟩ => by
    rcases h5 with ⟨rfl, h⟩ | ⟨-, h5⟩
    · exact ⟨by simp, h⟩
    · obtain ⟨g1, g2⟩ := ord_last h5
      refine ⟨by simp, ?_⟩
      have : (x :: r).length - 1 = (r.length - 1) + 1 := by simp; omega
      rw [this]; exact g2
/-- the last token of what is read is no end -/
theorem last_of_der {t : List Token} {c : Cat} {a : Nat} {r : Res} (h : Der t c a r) : a ≤ t.length → ∀ y b, r = .ok y b → a < b → (tokAt t (b - 1)).K ≠ 5 := by
  induction h with
  | @un a b n x h1 hd ih =>
    intro ha y b' e _; cases e
    have h0 : a < t.length := h1.elim (fun h => sgnAt_lt h.2) (fun h => sgnAt_lt h.2)
    have q := hd.inR (by omega); simp only [InR] at q
    exact ih (by omega) x b rfl q.1
  | unP _ _ _ ih => exact ih
  | @lev k a b x r h1 h2 hd _ ih1 ih2 =>
    intro ha y c e hc
    have q := hd.inR ha; simp only [InR] at q
    by_cases h : b < c
    · exact ih2 q.2 y c e h
    · have q2 := (by assumption : Der _ (.ll k 0 a x) b r).inR q.2
      subst e; simp only [InR] at q2
      have : c = b := by omega
      subst this; exact ih1 ha x c rfl q.1
  | llE _ _ => intro ha y b e h; cases e; omega
  | @llG k m f a b x y r h1 h2 h3 hd hd2 ih1 ih2 =>
    intro ha z c e hc
    have h0 := tokAt_lt (t := t) (a := a) (by rw [opOf_tok (by omega)]; decide)
    have q := hd.inR (by omega); simp only [InR] at q
    by_cases h : b < c
    · exact ih2 q.2 z c e h
    · have q2 := hd2.inR q.2
      subst e; simp only [InR] at q2
      have : c = b := by omega
      subst this; exact ih1 (by omega) y c rfl q.1
  | @post a b x r hd hd2 ih1 ih2 =>
    intro ha y c e hc
    have q := hd.inR ha; simp only [InR] at q
    by_cases h : b < c
    · exact ih2 q.2 y c e h
    · have q2 := hd2.inR q.2
      subst e; simp only [InR] at q2
      have : c = b := by omega
      subst this; exact ih1 ha x c rfl q.1
  | plE _ _ => intro ha y b e h; cases e; omega
  | @plI f a b x i r h1 hd h2 hd2 ih1 ih2 =>
    intro ha z c e hc
    have h0 := sgnAt_lt h1
    have hb := sgnAt_lt h2
    by_cases h : b + 1 < c
    · exact ih2 (by omega) z c e h
    · have q2 := hd2.inR (by omega)
      subst e; simp only [InR] at q2
      have : c = b + 1 := by omega
      subst this
      show (tokAt t b).K ≠ 5
      unfold sgnAt at h2; simp at h2; rw [h2.1]; decide
  | @plF f a x r h0 h1 h2 hd2 ih =>
    intro ha z c e hc
    have h3 := tokAt_lt (t := t) (a := a + 1) (by rw [h2]; decide)
    by_cases h : a + 2 < c
    · exact ih (by omega) z c e h
    · have q2 := hd2.inR (by omega)
      subst e; simp only [InR] at q2
      have : c = a + 2 := by omega
      subst this
      show (tokAt t (a + 1)).K ≠ 5
      rw [h2]; decide
  | @one a k n s h1 =>
    intro ha y b e _; cases e
    show (tokAt t a).K ≠ 5
    intro h5
    unfold atomK wrdAt sgnAt at h1
    rw [h5] at h1
    simp at h1
  | @par a b x h1 hd h2 ih =>
    intro ha y b' e _; cases e
    show (tokAt t b).K ≠ 5
    unfold sgnAt at h2; simp at h2; rw [h2.1]; decide
  | @call a o b k s few l h1 hd ih =>
    intro ha y b' e _; cases e
    have h0 := atomK_call h1
    have q := hd.inR h0.2; simp only [InR] at q
    exact ih h0.2 _ b rfl q.1
  | @lis a b l h1 hd h2 ih =>
    intro ha y b' e _; cases e
    show (tokAt t b).K ≠ 5
    unfold sgnAt at h2; simp at h2; rw [h2.1]; decide
  | @clsF a h1 h2 =>
    intro ha y b e _; cases e
    show (tokAt t (a + 1)).K ≠ 5
    unfold sgnAt at h2; simp at h2; rw [h2.1]; decide
  | @cls a b few l h1 h2 hd h3 ih =>
    intro ha y b' e _; cases e
    show (tokAt t b).K ≠ 5
    unfold sgnAt at h3; simp at h3; rw [h3.1]; decide
  | @lstE a b acc x hd h1 ih =>
    intro ha y b' e hc; cases e
    exact ih ha x b rfl hc
  | @lstG a b acc x r hd h1 hd2 ih1 ih2 =>
    intro ha y b' e hc
    have hb := sgnAt_lt h1
    have q2 := hd2.inR (by omega)
    have e2 := e
    subst e2; simp only [InR] at q2
    exact ih2 (by omega) y b' e q2.1
  | _ => intro _ _ _ e; cases e
theorem exprPlacesLaw (x0 : Str) (w0 : x0.length ≤ 9223372036854775807) : law07ExprPlaces x0 = some true := by
  unfold law07ExprPlaces
  rw [rtokens_ok x0 w0, some_bind, exprAwake_ok]
  by_cases h1 : (lexes x0).2.2 = 0
  · rw [if_pos h1]
    by_cases h2 : (List.length (lexes x0).1 : Int) > 300
    · rw [if_pos h2]; rfl
    rw [if_neg h2]
    have ho := lexes_ord h1
    obtain ⟨-, hm⟩ := ord_mon ho
    obtain ⟨hpos, hk⟩ := ord_last ho
    obtain ⟨r, hr, e1⟩ := parse_ok (lexes x0).1 (by omega) 0 (by omega)
    have e1' : expr_Parse (lexes x0).1 0 = _ := e1
    rw [e1', some_bind]
    cases r with
    | bad b => dsimp only; rw [if_neg (by decide)]; rfl
    | ok x b =>
      have q := hr.inR (by omega)
      simp only [InR] at q
      have hl := last_of_der hr (by omega) x b rfl q.1
      have hlt : b < (lexes x0).1.length := by
        rcases Nat.lt_or_ge b (lexes x0).1.length with h | h
        · exact h
        · exfalso
          have : b = (lexes x0).1.length := by omega
          subst this; exact hl hk
      obtain ⟨i1, i2, i3, i4⟩ := bt_of_der hm hr (by omega) x b rfl
      have hs := lev_sz hr
      dsimp only
      rw [if_pos rfl, if_pos (by omega), if_pos (by omega), wi_id (by omega) (by omega), show (b : Int) - 1 = ((b - 1 : Nat) : Int) by omega, idx_lt (show b - 1 < (lexes x0).1.length by omega), some_bind]
      have ht : tokAt (lexes x0).1 (b - 1) = (lexes x0).1[b - 1] := by unfold tokAt; rw [List.getElem?_eq_getElem (show b - 1 < (lexes x0).1.length by omega)]; rfl
      rw [ht] at i3
      rw [if_pos i3, within_ok x i4 (by omega), some_bind, if_pos rfl]; rfl
  · rw [if_neg h1]; rfl
end Go.Proofs.Ytcjfddebnpakbaa.M
