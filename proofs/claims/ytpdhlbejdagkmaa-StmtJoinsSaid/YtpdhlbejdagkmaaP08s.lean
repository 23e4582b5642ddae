/- What is read stands for itself among other tokens. -/
import Derived.Test.YtpdhlbejdagkmaaP08y
namespace Go.Proofs.Ytpdhlbejdagkmaa.M
open Go Nt
set_option linter.unusedVariables false
set_option linter.unusedSimpArgs false
def shC' (d : Nat) : Cat → Cat
  | .ll k m f x => .ll k m (f + d) x
  | .pl f x => .pl (f + d) x
  | c => c
def wfC' : Cat → Nat → Prop
  | .ll _ _ f _, a => f < a
  | .pl f _, a => f < a
  | _, _ => True
section
variable {t u : List Token} {d m : Nat}
theorem pre_sgn (S : ∀ i, i ≤ m → tokAt u (i + d) = tokAt t i) {a : Nat} (ha : a ≤ m) (s : Str) : sgnAt u (a + d) s = sgnAt t a s := by unfold sgnAt; rw [S a ha]
theorem pre_wrd (S : ∀ i, i ≤ m → tokAt u (i + d) = tokAt t i) {a : Nat} (ha : a ≤ m) (s : Str) : wrdAt u (a + d) s = wrdAt t a s := by unfold wrdAt; rw [S a ha]
theorem pre_placed (S : ∀ i, i ≤ m → tokAt u (i + d) = tokAt t i) {f b : Nat} (hf : f < b) (hb : b ≤ m + 1) (x : Term) : placed u (f + d) (b + d) x = placed t f b x := by
  unfold placed
  rw [S f (by omega), show b + d - 1 = (b - 1) + d by omega, S (b - 1) (by omega)]
def shK (d : Nat) : AK → AK
  | .call k s o few => .call k s (o + d) few
  | x => x
theorem pre_atomK (S : ∀ i, i ≤ m → tokAt u (i + d) = tokAt t i) {a : Nat} (ha : a + 1 ≤ m) : atomK u (a + d) = shK d (atomK t a) := by
  have e0 := S a (by omega)
  have e1 : tokAt u (a + d + 1) = tokAt t (a + 1) := by rw [show a + d + 1 = a + 1 + d by omega]; exact S _ ha
  have s1 : sgnAt u (a + d + 1) [40] = sgnAt t (a + 1) [40] := by unfold sgnAt; rw [e1]
  have g := fun s => pre_sgn S (a := a) (by omega) s
  have w := fun s => pre_wrd S (a := a) (by omega) s
  unfold atomK
  simp only [e0, e1, s1, g, w]
  have h2 : a + d + 1 = (a + 1) + d := by omega
  have h3 : a + d + 2 = (a + 2) + d := by omega
  rw [h2, h3]
  by_cases c1 : (tokAt t a).K = 2
  · rw [if_pos c1, if_pos c1]; rfl
  rw [if_neg c1, if_neg c1]
  by_cases c2 : (tokAt t a).K = 1
  · rw [if_pos c2, if_pos c2]
    by_cases c3 : sgnAt t (a + 1) [40] = true
    · rw [if_pos c3, if_pos c3]; rfl
    · rw [if_neg c3, if_neg c3]; rfl
  rw [if_neg c2, if_neg c2]
  by_cases c4 : wrdAt t a [116, 114, 117, 101] = true
  · rw [if_pos c4, if_pos c4]; rfl
  rw [if_neg c4, if_neg c4]
  by_cases c4 : wrdAt t a [102, 97, 108, 115, 101] = true
  · rw [if_pos c4, if_pos c4]; rfl
  rw [if_neg c4, if_neg c4]
  by_cases c4 : wrdAt t a [114, 101, 97, 100] = true
  · rw [if_pos c4, if_pos c4]; rfl
  rw [if_neg c4, if_neg c4]
  by_cases c4 : wrdAt t a [110, 101, 119] = true
  · rw [if_pos c4, if_pos c4]
    by_cases c5 : (tokAt t (a + 1)).K = 1
    · rw [if_pos c5, if_pos c5]; rfl
    · rw [if_neg c5, if_neg c5]; rfl
  rw [if_neg c4, if_neg c4]
  by_cases c4 : sgnAt t a [40] = true
  · rw [if_pos c4, if_pos c4]; rfl
  rw [if_neg c4, if_neg c4]
  by_cases c4 : sgnAt t a [91] = true
  · rw [if_pos c4, if_pos c4]; rfl
  rw [if_neg c4, if_neg c4]
  by_cases c4 : sgnAt t a [64] = true
  · rw [if_pos c4, if_pos c4]
    by_cases c5 : (tokAt t (a + 1)).K = 1
    · rw [if_pos c5, if_pos c5]; rfl
    · rw [if_neg c5, if_neg c5]; rfl
  rw [if_neg c4, if_neg c4]; rfl
theorem der_pre (S : ∀ i, i ≤ m → tokAt u (i + d) = tokAt t i) {c : Cat} {a : Nat} {r : Res} (h : Der t c a r) : a ≤ t.length → wfC' c a → ∀ x b, r = .ok x b → b ≤ m → Der u (shC' d c) (a + d) (.ok x (b + d)) := by
  have cast : ∀ {c : Cat} {a a' : Nat} {r : Res}, a = a' → Der u c a r → Der u c a' r := fun e h => e ▸ h
  induction h with
  | @un a b n x h1 hd ih =>
    intro ha _ y b' e hm; cases e
    have h0 : a < t.length := h1.elim (fun h => sgnAt_lt h.2) (fun h => sgnAt_lt h.2)
    have q := hd.inR (by omega); simp only [InR] at q
    have := Der.un (t := u) (a := a + d) (b := b + d) (n := n) (x := x) (by rw [pre_sgn S (by omega), pre_sgn S (by omega)]; exact h1) (cast (by omega) (ih (by omega) trivial x b rfl hm))
    rw [pre_placed S (by omega) (by omega)] at this
    exact this
  | @unP a r h1 h2 hd ih =>
    intro ha _ y b e hm
    have q := hd.inR ha
    subst e; simp only [InR] at q
    exact .unP (by rw [pre_sgn S (by omega)]; exact h1) (by rw [pre_sgn S (by omega)]; exact h2) (ih ha trivial y b rfl hm)
  | @lev k a b x r h1 h2 hd hd2 ih1 ih2 =>
    intro ha _ y c e hm
    have q := hd.inR ha; simp only [InR] at q
    have q2 := hd2.inR q.2
    subst e; simp only [InR] at q2
    exact .lev h1 h2 (ih1 ha trivial x b rfl (by omega)) (ih2 q.2 q.1 y c rfl hm)
  | @llE k m' f a x h1 h2 =>
    intro ha _ y b e hm; cases e
    exact .llE h1 (by rw [S a hm]; exact h2)
  | @llG k m' f a b x y r h1 h2 h3 hd hd2 ih1 ih2 =>
    intro ha hf z c e hm
    have h0 := tokAt_lt (t := t) (a := a) (by rw [opOf_tok (by omega)]; decide)
    have q := hd.inR (by omega); simp only [InR] at q
    have q2 := hd2.inR q.2
    subst e; simp only [InR] at q2
    change f < a at hf
    have e2 := ih2 q.2 (show f < b by omega) z c rfl hm
    refine .llG h1 (by rw [S a (by omega)]; exact h2) h3 (cast (by omega) (ih1 (by omega) trivial y b rfl (by omega))) ?_
    rw [pre_placed S (by omega) (by omega), S a (by omega)]
    exact e2
  | @post a b x r hd hd2 ih1 ih2 =>
    intro ha _ y c e hm
    have q := hd.inR ha; simp only [InR] at q
    have q2 := hd2.inR q.2
    subst e; simp only [InR] at q2
    exact .post (ih1 ha trivial x b rfl (by omega)) (ih2 q.2 q.1 y c rfl hm)
  | @plE f a x h1 h2 =>
    intro ha _ y b e hm; cases e
    exact .plE (by rw [pre_sgn S hm]; exact h1) (by rw [pre_sgn S hm]; exact h2)
  | @plI f a b x i r h1 hd h2 hd2 ih1 ih2 =>
    intro ha hf z c e hm
    have h0 := sgnAt_lt h1
    have hb := sgnAt_lt h2
    have q := hd.inR (by omega); simp only [InR] at q
    have q2 := hd2.inR (by omega)
    subst e; simp only [InR] at q2
    change f < a at hf
    have e2 := ih2 (by omega) (show f < b + 1 by omega) z c rfl hm
    refine .plI (b := b + d) (by rw [pre_sgn S (by omega)]; exact h1) (cast (by omega) (ih1 (by omega) trivial i b rfl (by omega))) (by rw [pre_sgn S (by omega)]; exact h2) ?_
    have e := pre_placed S (f := f) (b := b + 1) (by omega) (by omega) ⟨12, 0, [], [x, i], 0, 0⟩
    rw [show b + 1 + d = b + d + 1 by omega] at e e2
    rw [e]
    exact e2
  | @plF f a x r h0 h1 h2 hd2 ih =>
    intro ha hf z c e hm
    have h3 := tokAt_lt (t := t) (a := a + 1) (by rw [h2]; decide)
    have q2 := hd2.inR (by omega)
    subst e; simp only [InR] at q2
    change f < a at hf
    have e2 := ih (by omega) (show f < a + 2 by omega) z c rfl hm
    have ek : (tokAt u (a + d + 1)) = tokAt t (a + 1) := by rw [show a + d + 1 = a + 1 + d by omega]; exact S _ (by omega)
    refine .plF (by rw [pre_sgn S (by omega)]; exact h0) (by rw [pre_sgn S (by omega)]; exact h1) (by rw [ek]; exact h2) ?_
    have e := pre_placed S (f := f) (b := a + 2) (by omega) (by omega) ⟨13, 0, (tokAt t (a + 1)).S, [x], 0, 0⟩
    rw [show a + 2 + d = a + d + 2 by omega] at e e2
    rw [ek, e]
    exact e2
  | @one a k n s h1 =>
    intro ha _ y b e hm; cases e
    have := Der.one (t := u) (a := a + d) (k := k) (n := n) (s := s) (by rw [pre_atomK S hm, h1]; rfl)
    have e := pre_placed S (f := a) (b := a + 1) (by omega) (by omega) ⟨k, n, s, [], 0, 0⟩
    rw [show a + d + 1 = a + 1 + d by omega, e] at this
    exact this
  | @par a b x h1 hd h2 ih =>
    intro ha _ y b' e hm; cases e
    have h0 := atomK_lt (t := t) (a := a) (by rw [h1]; simp)
    have q := hd.inR (by omega); simp only [InR] at q
    have := Der.par (t := u) (a := a + d) (b := b + d) (x := x) (by rw [pre_atomK S (by omega), h1]; rfl) (cast (by omega) (ih (by omega) trivial x b rfl (by omega))) (by rw [pre_sgn S (by omega)]; exact h2)
    rw [show b + d + 1 = b + 1 + d by omega] at this
    exact this
  | @call a o b k s few l h1 hd ih =>
    intro ha _ y b' e hm; cases e
    have h0 := atomK_call h1
    have q := hd.inR h0.2; simp only [InR] at q
    have := Der.call (t := u) (a := a + d) (o := o + d) (b := b + d) (k := k) (s := s) (few := few) (l := l) (by rw [pre_atomK S (by omega), h1]; rfl) (ih h0.2 trivial _ b rfl hm)
    rw [pre_placed S (by omega) (by omega)] at this
    exact this
  | @lis a b l h1 hd h2 ih =>
    intro ha _ y b' e hm; cases e
    have h0 := atomK_lt (t := t) (a := a) (by rw [h1]; simp)
    have q := hd.inR (by omega); simp only [InR] at q
    have := Der.lis (t := u) (a := a + d) (b := b + d) (l := l) (by rw [pre_atomK S (by omega), h1]; rfl) (cast (by omega) (ih (by omega) trivial _ b rfl (by omega))) (by rw [pre_sgn S (by omega)]; exact h2)
    have e := pre_placed S (f := a) (b := b + 1) (by omega) (by omega) ⟨14, 0, [], l, 0, 0⟩
    rw [show b + d + 1 = b + 1 + d by omega, e] at this
    exact this
  | @clsF a h1 h2 =>
    intro ha _ y b e hm; cases e
    have := Der.clsF (t := u) (a := a + d) (by rw [pre_sgn S (by omega)]; exact h1) (by rw [show a + d + 1 = a + 1 + d by omega, pre_sgn S (by omega)]; exact h2)
    rw [show a + d + 2 = a + 2 + d by omega] at this
    exact this
  | @cls a b few l h1 h2 hd h3 ih =>
    intro ha _ y b' e hm; cases e
    have h0 := sgnAt_lt h1
    have q := hd.inR (by omega); simp only [InR] at q
    have := Der.cls (t := u) (a := a + d) (b := b + d) (few := few) (l := l) (by rw [pre_sgn S (by omega)]; exact h1) (fun hf => by rw [show a + d + 1 = a + 1 + d by omega, pre_sgn S (by omega)]; exact h2 hf) (cast (by omega) (ih (by omega) trivial _ b rfl (by omega))) (by rw [pre_sgn S (by omega)]; exact h3)
    rw [show b + d + 1 = b + 1 + d by omega] at this
    exact this
  | @lstE a b acc x hd h1 ih =>
    intro ha _ y b' e hm; cases e
    exact .lstE (ih ha trivial x b rfl hm) (by rw [pre_sgn S (by omega)]; exact h1)
  | @lstG a b acc x r hd h1 hd2 ih1 ih2 =>
    intro ha _ y b' e hm
    have hb := sgnAt_lt h1
    have q := hd.inR ha; simp only [InR] at q
    have q2 := hd2.inR (by omega)
    have e2 := e
    subst e2; simp only [InR] at q2
    exact .lstG (ih1 ha trivial x b rfl (by omega)) (by rw [pre_sgn S (by omega)]; exact h1) (cast (by omega) (ih2 (by omega) trivial y b' e hm))
  | _ => intro _ _ _ _ e; cases e
/-- a type's tokens are its own -/
theorem typ_pre : ∀ (n n' a : Nat), (typ n t a).2.2 = 0 → n ≤ n' → (∀ i, a ≤ i → i < (typ n t a).2.1 → tokAt u (i + d) = tokAt t i) → t.length < a + n → typ n' u (a + d) = ((typ n t a).1, (typ n t a).2.1 + d, 0)
  | 0, _, _, h, _, _, _ => by cases h
  | n + 1, 0, _, _, h, _, _ => by omega
  | n + 1, n' + 1, a, h, hn, S, hl => by
    have hp := typ_pl (n + 1) t a hl h
    have e0 := S a (Nat.le_refl _) hp.1
    have w : ∀ s, wrdAt u (a + d) s = wrdAt t a s := fun s => by unfold wrdAt; rw [e0]
    have g : ∀ s, sgnAt u (a + d) s = sgnAt t a s := fun s => by unfold sgnAt; rw [e0]
    have pl : ∀ (b : Nat) (x : Term), b = a + 1 → placed u (a + d) (b + d) x = placed t a b x := fun b x e => by
      subst e
      unfold placed
      rw [show a + 1 + d - 1 = a + d by omega, e0]; rfl
    rw [typ] at h S ⊢
    rw [typ, w, w, e0, g]
    by_cases h1 : wrdAt t a [105, 110, 116] = true
    · rw [if_pos h1, if_pos h1, show a + d + 1 = a + 1 + d by omega, pl _ _ rfl]
    rw [if_neg h1] at h S ⊢
    rw [if_neg h1]
    by_cases h2 : wrdAt t a [98, 111, 111, 108] = true
    · rw [if_pos h2, if_pos h2, show a + d + 1 = a + 1 + d by omega, pl _ _ rfl]
    rw [if_neg h2] at h S ⊢
    rw [if_neg h2]
    by_cases h3 : (tokAt t a).K = 1
    · rw [if_pos h3, if_pos h3, show a + d + 1 = a + 1 + d by omega, pl _ _ rfl]
    rw [if_neg h3] at h S ⊢
    rw [if_neg h3]
    by_cases h4 : sgnAt t a [91] = true
    · rw [if_pos h4] at h S ⊢
      rw [if_pos h4]
      by_cases h5 : (tokAt t (a + 1)).K = 2
      · rw [if_pos h5] at h S ⊢
        by_cases h6 : sgnAt t (a + 2) [93] = true
        · rw [if_pos h6] at h S ⊢
          by_cases h7 : (typ n t (a + 3)).2.2 = 0
          · rw [if_pos h7] at S ⊢
            have hp2 := typ_pl n t (a + 3) (by omega) h7
            have S' : ∀ i, a ≤ i → i < (typ n t (a + 3)).2.1 → tokAt u (i + d) = tokAt t i := S
            have e1 : tokAt u (a + d + 1) = tokAt t (a + 1) := by rw [show a + d + 1 = a + 1 + d by omega]; exact S' _ (by omega) (by omega)
            have e2 : sgnAt u (a + d + 2) [93] = sgnAt t (a + 2) [93] := by unfold sgnAt; rw [show a + d + 2 = a + 2 + d by omega, S' _ (by omega) (by omega)]
            have ih := typ_pre n n' (a + 3) h7 (by omega) (fun i h1 h2 => S' i (by omega) h2) (by omega)
            rw [e1, if_pos h5, e2, if_pos h6, show a + d + 3 = a + 3 + d by omega, ih]
            dsimp only
            rw [if_pos rfl]
            have hpl : placed u (a + d) ((typ n t (a + 3)).2.1 + d) ⟨3, (tokAt t (a + 1)).N, [], [(typ n t (a + 3)).1], 0, 0⟩ = placed t a (typ n t (a + 3)).2.1 ⟨3, (tokAt t (a + 1)).N, [], [(typ n t (a + 3)).1], 0, 0⟩ := by
              unfold placed
              rw [e0, show (typ n t (a + 3)).2.1 + d - 1 = ((typ n t (a + 3)).2.1 - 1) + d by omega, S' _ (by omega) (by omega)]
            rw [hpl]
          · rw [if_neg h7] at h; exact absurd h h7
        · rw [if_neg h6] at h; cases h
      · rw [if_neg h5] at h; cases h
    · rw [if_neg h4] at h; cases h
def shS (d : Nat) : SCat → SCat
  | .sl f acc => .sl (f + d) acc
  | .form k f its parts name => .form k (f + d) its parts name
  | c => c
/-- an expression is not the last item -/
def lastOk : List It → Bool
  | [] => true
  | [.expr] => false
  | _ :: r => lastOk r
theorem lastOk_tl {x : It} {r : List It} (h : lastOk (x :: r) = true) : lastOk r = true := by
  cases r with
  | nil => rfl
  | cons y r => cases x <;> exact h
def wfS : SCat → Nat → Prop
  | .sl f _, a => f < a
  | .form _ f its _ _, a => f ≤ a ∧ lastOk its = true
  | _, _ => True
theorem sder_pre (S : ∀ i, i < m → tokAt u (i + d) = tokAt t i) (hE : wrdAt u (m + d) wElse = false) (hn : t.length ≤ u.length) {c : SCat} {a : Nat} {r : Res} (h : SDer t c a r) : a ≤ t.length → wfS c a → ∀ x b, r = .ok x b → b ≤ m → SDer u (shS d c) (a + d) (.ok x (b + d)) := by
  have cast : ∀ {c : SCat} {a a' : Nat} {r : Res}, a = a' → SDer u c a r → SDer u c a' r := fun e h => e ▸ h
  have sgn : ∀ {a : Nat} (s : Str), a < m → sgnAt u (a + d) s = sgnAt t a s := fun {a} s h => by unfold sgnAt; rw [S a h]
  have wrd : ∀ {a : Nat} (s : Str), a < m → wrdAt u (a + d) s = wrdAt t a s := fun {a} s h => by unfold wrdAt; rw [S a h]
  have pl : ∀ {f b : Nat} (x : Term), f < b → b ≤ m → placed u (f + d) (b + d) x = placed t f b x := fun {f b} x h1 h2 => by
    unfold placed
    rw [S f (by omega), show b + d - 1 = (b - 1) + d by omega, S (b - 1) (by omega)]
  induction h with
  | @sB a r h1 hd ih =>
    intro ha _ x b e hm
    have q := hd.inS ha
    have e2 := e
    subst e2; simp only [InS] at q
    exact .sB (by rw [sgn _ (by omega)]; exact h1) (ih ha trivial x b e hm)
  | @sF a r h1 hd ih =>
    intro ha _ x b e hm
    have q := (SDer.sF h1 hd).inS ha
    have e2 := e
    subst e2; simp only [InS] at q
    have e0 := S a (by omega)
    by_cases h12 : a + 2 < m ∨ wrdAt t a wLet = false
    · have hf : formOf u (a + d) = formOf t a := by
        unfold formOf
        rw [wrd _ (by omega), wrd _ (by omega), wrd _ (by omega), wrd _ (by omega), wrd _ (by omega), wrd _ (by omega), wrd _ (by omega)]
        rcases h12 with h | h
        · rw [show a + d + 1 = a + 1 + d by omega, show a + d + 2 = a + 2 + d by omega, S (a + 1) (by omega), sgn _ (by omega)]
        · rw [h]; rfl
      refine .sF (by rw [sgn _ (by omega)]; exact h1) ?_
      rw [hf]
      exact ih ha ⟨Nat.le_refl _, by unfold formOf; (repeat' split) <;> rfl⟩ x b rfl hm
    · -- a statement "let" is longer
      exfalso
      have hw : wrdAt t a wLet = true := by cases h : wrdAt t a wLet with | true => rfl | false => exact absurd (.inr h) h12
      have hlen : m ≤ a + 2 := by
        rcases Nat.lt_or_ge (a + 2) m with h | h
        · exact absurd (.inl h) h12
        · exact h
      unfold formOf at hd
      rw [if_pos hw] at hd
      have tail : ∀ {k : Int} {its : List It} {s : Str}, SDer t (.form k a (.word wLet :: .name :: .sign s :: its) [] []) a (.ok x b) → False := by
        intro k its s h
        cases h with
        | fW _ h => cases h with
          | fN _ h => cases h with
            | fS h1 h =>
              have := sgnAt_lt h1
              have q := h.inS (by omega); simp only [InS] at q; omega
      split at hd
      · exact tail hd
      · exact tail hd
  | @b1 a r h1 hd ih =>
    intro ha _ x b e hm
    have h0 := sgnAt_lt h1
    have q := hd.inS (by omega)
    have e2 := e
    subst e2; simp only [InS] at q
    exact .b1 (by rw [sgn _ (by omega)]; exact h1) (cast (by omega) (ih (by omega) (Nat.lt_succ_self a) x b e hm))
  | @lE f a acc h1 =>
    intro ha hf x b e hm; cases e
    change f < a at hf
    have := SDer.lE (t := u) (f := f + d) (a := a + d) (acc := acc) (by rw [sgn _ (by omega)]; exact h1)
    have e := pl (f := f) (b := a + 1) ⟨29, 0, [], acc, 0, 0⟩ (by omega) hm
    rw [show a + d + 1 = a + 1 + d by omega, e] at this
    exact this
  | @lG f a b acc x r h1 hd hd2 ih1 ih2 =>
    intro ha hf y c e hm
    change f < a at hf
    have q := hd.inS ha; simp only [InS] at q
    have q2 := hd2.inS q.2
    have e2 := e
    subst e2; simp only [InS] at q2
    exact .lG (by rw [sgn _ (by omega)]; exact h1) (ih1 ha trivial x b rfl (by omega)) (ih2 q.2 (show f < b by omega) y c e hm)
  | @fE f a k parts name h1 =>
    intro ha hf x b e hm; cases e
    have := SDer.fE (t := u) (f := f + d) (a := a + d) (k := k) (parts := parts) (name := name) (by omega)
    rw [pl _ h1 hm] at this
    exact this
  | @fW f a k s its parts name r h1 hd ih =>
    intro ha hf x b e hm
    have h0 := wrdAt_lt h1
    have q := hd.inS (by omega)
    have e2 := e
    subst e2; simp only [InS] at q
    exact .fW (by rw [wrd _ (by omega)]; exact h1) (cast (by omega) (ih (by omega) ⟨Nat.le_succ_of_le hf.1, lastOk_tl hf.2⟩ x b e hm))
  | @fS f a k s its parts name r h1 hd ih =>
    intro ha hf x b e hm
    have h0 := sgnAt_lt h1
    have q := hd.inS (by omega)
    have e2 := e
    subst e2; simp only [InS] at q
    exact .fS (by rw [sgn _ (by omega)]; exact h1) (cast (by omega) (ih (by omega) ⟨Nat.le_succ_of_le hf.1, lastOk_tl hf.2⟩ x b e hm))
  | @fN f a k its parts name r h1 hd ih =>
    intro ha hf x b e hm
    have h0 := tokAt_lt (t := t) (a := a) (by rw [h1]; decide)
    have q := hd.inS (by omega)
    have e2 := e
    subst e2; simp only [InS] at q
    have e3 := ih (by omega) ⟨Nat.le_succ_of_le hf.1, lastOk_tl hf.2⟩ x b e hm
    refine .fN (by rw [S a (by omega)]; exact h1) ?_
    rw [S a (by omega)]
    exact cast (by omega) e3
  | @fX f a b k its parts name x r hd hd2 ih =>
    intro ha hf y c e hm
    have q := hd.inR ha; simp only [InR] at q
    have q2 := hd2.inS q.2
    have e2 := e
    subst e2; simp only [InS] at q2
    have hne : its ≠ [] := fun h => by subst h; exact absurd hf.2 (by simp [lastOk])
    have hbc := q2.1.2 hne
    have hd' : Der u (.lev 1) (a + d) (.ok x (b + d)) := der_pre (m := b) (fun i hi => S i (by omega)) hd ha trivial x b rfl (Nat.le_refl _)
    exact .fX hd' (ih q.2 ⟨Nat.le_trans hf.1 (by omega), lastOk_tl hf.2⟩ y c e hm)
  | @fT f a k its parts name r h1 hd2 ih =>
    intro ha hf y c e hm
    have q : a < (typAt t a).2.1 ∧ (typAt t a).2.1 ≤ t.length := typ_pl (t.length + 1) t a (by omega) h1
    have q2 := hd2.inS q.2
    have e2 := e
    subst e2; simp only [InS] at q2
    have ht : typAt u (a + d) = ((typAt t a).1, (typAt t a).2.1 + d, 0) := typ_pre (t.length + 1) (u.length + 1) a h1 (by omega) (fun i h1 h2 => S i (by
      have : i < (typAt t a).2.1 := h2
      omega)) (by omega)
    have e3 := ih q.2 ⟨Nat.le_trans hf.1 (by omega), lastOk_tl hf.2⟩ y c e hm
    refine .fT (by rw [ht]) ?_
    rw [ht]
    exact e3
  | @fK f a b k its parts name x r hd hd2 ih1 ih2 =>
    intro ha hf y c e hm
    have q := hd.inS ha; simp only [InS] at q
    have q2 := hd2.inS q.2
    have e2 := e
    subst e2; simp only [InS] at q2
    exact .fK (ih1 ha trivial x b rfl (by omega)) (ih2 q.2 ⟨Nat.le_trans hf.1 (by omega), lastOk_tl hf.2⟩ y c e hm)
  | @fE1 f a b k its parts name x r hd hw hd2 ih1 ih2 =>
    intro ha hf y c e hm
    have q := hd.inS ha; simp only [InS] at q
    have q2 := hd2.inS q.2
    have e2 := e
    subst e2; simp only [InS] at q2
    have hw' : wrdAt u (b + d) wElse = false := by
      by_cases h : b < m
      · rw [wrd _ h]; exact hw
      · have : b = m := by omega
        subst this; exact hE
    have e3 := ih2 q.2 ⟨Nat.le_trans hf.1 (by omega), lastOk_tl hf.2⟩ y c e hm
    refine .fE1 (ih1 ha trivial x b rfl (by omega)) hw' ?_
    rw [show b + d - 1 = (b - 1) + d by omega, S (b - 1) (by omega)]
    exact e3
  | @fE2 f a b c k its parts name x y r hd hw hd2 hd3 ih1 ih2 ih3 =>
    intro ha hf z c' e hm
    have hb := wrdAt_lt hw
    have q := hd.inS ha; simp only [InS] at q
    have q2 := hd2.inS (by omega); simp only [InS] at q2
    have q3 := hd3.inS q2.2
    have e2 := e
    subst e2; simp only [InS] at q3
    exact .fE2 (ih1 ha trivial x b rfl (by omega)) (by rw [wrd _ (by omega)]; exact hw) (cast (by omega) (ih2 (by omega) trivial y c rfl (by omega))) (ih3 q2.2 ⟨Nat.le_trans hf.1 (by omega), lastOk_tl hf.2⟩ z c' e hm)
  | _ => intro _ _ _ _ e; cases e
end
/-- an expression does not begin with what is no atom -/
theorem no_expr {t : List Token} (hl : t.length ≤ 300) {a : Nat} (ha : a ≤ t.length) (h : atomK t a = .no) (h1 : sgnAt t a [45] = false) (h2 : sgnAt t a [33] = false) {x : Term} {b : Nat} (hd : Der t (.lev 1) a (.ok x b)) : False := by
  have d6 : Der t (.lev 6) a (.bad a) := .unP h1 h2 (.postB (.no h))
  have d1 : Der t (.lev 1) a (.bad a) := .levB (by omega) (by omega) (.levB (by omega) (by omega) (.levB (by omega) (by omega) (.levB (by omega) (by omega) (.levB (by omega) (by omega) d6))))
  have e1 : expr_parser_level (1 : Nat) t a 0 = some (x, t, (b : Int), 0) := (prog_of_der (by omega) hd ha).level (by omega)
  obtain ⟨y, e2⟩ : ∃ y, expr_parser_level (1 : Nat) t a 0 = some (y, t, (a : Int), 6) := (prog_of_der (by omega) d1 ha).level (by omega)
  rw [e1] at e2
  injection e2 with e2
  have := congrArg (fun q => q.2.2.2) e2
  simp at this
theorem stmt_start {t : List Token} (hl : t.length ≤ 300) {a : Nat} (ha : a ≤ t.length) {x : Term} {b : Nat} (h : SDer t .stmt a (.ok x b)) : sgnAt t a [125] = false ∧ wrdAt t a wElse = false := by
  have go : atomK t a = .no → sgnAt t a [45] = false → sgnAt t a [33] = false → sgnAt t a [123] = false → formOf t a = (22, [.expr, .sign [61], .expr, .sign [59]]) → False := fun h1 h2 h3 h4 h5 => by
    cases h with
    | sB g _ => rw [h4] at g; cases g
    | sF _ hd =>
      rw [h5] at hd
      cases hd with
      | fX hd _ => exact no_expr hl ha h1 h2 h3 hd
  constructor
  · cases hs : sgnAt t a [125] with
    | false => rfl
    | true =>
      exfalso
      obtain ⟨k, e⟩ := sgn_k hs
      refine go ?_ (sgn_ne hs (by decide)) (sgn_ne hs (by decide)) (sgn_ne hs (by decide)) ?_
      · unfold atomK wrdAt sgnAt; rw [k, e]; rfl
      · unfold formOf wrdAt; rw [k, e]; rfl
  · cases hs : wrdAt t a wElse with
    | false => rfl
    | true =>
      exfalso
      obtain ⟨k, e⟩ := wrd_k hs
      have k4 : (tokAt t a).K ≠ 4 := by rw [k]; decide
      refine go ?_ (sgn_no k4 _) (sgn_no k4 _) (sgn_no k4 _) ?_
      · unfold atomK wrdAt sgnAt; rw [k, e]; rfl
      · unfold formOf wrdAt; rw [k, e]; rfl
theorem same_refl (n : Nat) : ∀ t : Term, tsize t ≤ n → (n : Int) ≤ 9223372036854775807 → ref06Same t t = some true := by
  intro t
  induction t using Term.ind with
  | h t ih =>
    intro hs hn
    have hlen := tsizes_len t.L
    rw [tsize_eq] at hs
    have loop : ∀ (k i : Nat), i + k = t.L.length → ref06Same_L4 i t t = some true := by
      intro k
      induction k with
      | zero =>
        intro i hi
        rw [ref06Same_L4_eq]; unfold ref06Same_L4_B
        rw [if_neg (by omega)]
      | succ k ihk =>
        intro i hi
        rw [ref06Same_L4_eq]; unfold ref06Same_L4_B
        have hd := tsizes_drop (show i < t.L.length by omega)
        have ht := tsizes_take t.L i
        have e := ih _ (List.getElem_mem (show i < t.L.length by omega)) (by omega) hn
        rw [if_pos (by omega), idx_lt (show i < t.L.length by omega), some_bind, some_bind, e, some_bind, if_pos rfl, wi_id (by omega) (by omega), succ_cast]
        exact ihk (i + 1) (by omega)
    rw [ref06Same_eq]; unfold ref06Same_B
    simp only [if_true]
    exact loop t.L.length 0 (by omega)
end Go.Proofs.Ytpdhlbejdagkmaa.M
