/- What stands ahead of an expression, and behind a semicolon, does not matter. -/
import Derived.Test.YtcjfddebnpakbaaP07p
namespace Go.Proofs.Ytcjfddebnpakbaa.M
open Go Nt
set_option linter.unusedVariables false
set_option linter.unusedSimpArgs false
abbrev semi : Token := ⟨4, 0, [59], 0, 0⟩
/-- tokens that stand within others, from a place on, with a semicolon behind them -/
structure Sub (t u : List Token) (d : Nat) : Prop where
  at_ : ∀ a, a < t.length → tokAt u (a + d) = tokAt t a
  end_ : tokAt u (t.length + d) = semi
section
variable {t u : List Token} {d : Nat}
theorem tokAt_end {a : Nat} (h : ¬ a < t.length) : tokAt t a = tEnd := by unfold tokAt; rw [List.getElem?_eq_none (by omega)]; rfl
theorem Sub.sgn (S : Sub t u d) {a : Nat} (ha : a ≤ t.length) {s : Str} (hs : ([59] : Str) ≠ s) : sgnAt u (a + d) s = sgnAt t a s := by
  by_cases h : a < t.length
  · unfold sgnAt; rw [S.at_ a h]
  · have e : a = t.length := by omega
    subst e
    unfold sgnAt
    rw [S.end_, tokAt_end h]
    simp [semi, tEnd, hs]
theorem Sub.wrd (S : Sub t u d) {a : Nat} (ha : a ≤ t.length) (s : Str) : wrdAt u (a + d) s = wrdAt t a s := by
  by_cases h : a < t.length
  · unfold wrdAt; rw [S.at_ a h]
  · have e : a = t.length := by omega
    subst e
    unfold wrdAt
    rw [S.end_, tokAt_end h]
    simp [semi, tEnd]
theorem Sub.k12 (S : Sub t u d) {a : Nat} (ha : a ≤ t.length) (k : Int) (h4 : k ≠ 4) (h5 : k ≠ 5) : (tokAt u (a + d)).K = k ↔ (tokAt t a).K = k := by
  by_cases h : a < t.length
  · rw [S.at_ a h]
  · have e : a = t.length := by omega
    subst e
    rw [S.end_, tokAt_end h]
    simp only [semi, tEnd]
    omega
theorem Sub.opl (S : Sub t u d) {a : Nat} (ha : a ≤ t.length) : (opOf (tokAt u (a + d))).2 = (opOf (tokAt t a)).2 := by
  by_cases h : a < t.length
  · rw [S.at_ a h]
  · have e : a = t.length := by omega
    subst e
    rw [S.end_, tokAt_end h]
    rfl
theorem Sub.placed (S : Sub t u d) {f b : Nat} (hf : f < b) (hb : b ≤ t.length) (x : Term) : placed u (f + d) (b + d) x = placed t f b x := by
  unfold Go.Proofs.Ytcjfddebnpakbaa.M.placed
  rw [S.at_ f (by omega), show b + d - 1 = (b - 1) + d by omega, S.at_ (b - 1) (by omega)]
def shAK (d : Nat) : AK → AK
  | .call k s o few => .call k s (o + d) few
  | x => x
theorem Sub.atomK (S : Sub t u d) {a : Nat} (ha : a ≤ t.length) : atomK u (a + d) = shAK d (atomK t a) := by
  by_cases h : a < t.length
  · have e1 := S.at_ a h
    have w := fun s => S.wrd ha s
    have s1 := S.sgn (a := a + 1) (by omega) (s := [40]) (by decide)
    have k1 := S.k12 (a := a + 1) (by omega) 1 (by decide) (by decide)
    have g1 := S.sgn ha (s := [40]) (by decide)
    have g2 := S.sgn ha (s := [91]) (by decide)
    have g3 := S.sgn ha (s := [64]) (by decide)
    have hS : (tokAt t (a + 1)).K = 1 → (tokAt u (a + 1 + d)).S = (tokAt t (a + 1)).S := fun hk => by
      have := tokAt_lt (t := t) (a := a + 1) (by rw [hk]; decide)
      rw [S.at_ (a + 1) this]
    unfold Go.Proofs.Ytcjfddebnpakbaa.M.atomK
    rw [show a + d + 1 = a + 1 + d by omega, e1, s1, g1, g2, g3, show a + d + 2 = a + 2 + d by omega]
    simp only [w, k1]
    by_cases c1 : (tokAt t a).K = 2
    · rw [if_pos c1, if_pos c1]; rfl
    rw [if_neg c1, if_neg c1]
    by_cases c2 : (tokAt t a).K = 1
    · rw [if_pos c2, if_pos c2]
      by_cases c3 : sgnAt t (a + 1) [40] = true
      · rw [if_pos c3, if_pos c3]; rfl
      · rw [if_neg c3, if_neg c3]; rfl
    rw [if_neg c2, if_neg c2]
    by_cases c4 : wrdAt t a [116, 114, 117, 101] = true
    · rw [if_pos c4, if_pos c4]; rfl
    rw [if_neg c4, if_neg c4]
    by_cases c4 : wrdAt t a [102, 97, 108, 115, 101] = true
    · rw [if_pos c4, if_pos c4]; rfl
    rw [if_neg c4, if_neg c4]
    by_cases c4 : wrdAt t a [114, 101, 97, 100] = true
    · rw [if_pos c4, if_pos c4]; rfl
    rw [if_neg c4, if_neg c4]
    by_cases c4 : wrdAt t a [110, 101, 119] = true
    · rw [if_pos c4, if_pos c4]
      by_cases c5 : (tokAt t (a + 1)).K = 1
      · rw [if_pos c5, if_pos c5, hS c5]; rfl
      · rw [if_neg c5, if_neg c5]; rfl
    rw [if_neg c4, if_neg c4]
    by_cases c4 : sgnAt t a [40] = true
    · rw [if_pos c4, if_pos c4]; rfl
    rw [if_neg c4, if_neg c4]
    by_cases c4 : sgnAt t a [91] = true
    · rw [if_pos c4, if_pos c4]; rfl
    rw [if_neg c4, if_neg c4]
    by_cases c4 : sgnAt t a [64] = true
    · rw [if_pos c4, if_pos c4]
      by_cases c5 : (tokAt t (a + 1)).K = 1
      · rw [if_pos c5, if_pos c5, hS c5]; rfl
      · rw [if_neg c5, if_neg c5]; rfl
    rw [if_neg c4, if_neg c4]; rfl
  · have e : a = t.length := by omega
    subst e
    have n1 : Go.Proofs.Ytcjfddebnpakbaa.M.atomK t t.length = .no := by
      have := tokAt_end h
      unfold Go.Proofs.Ytcjfddebnpakbaa.M.atomK wrdAt sgnAt
      rw [this]; rfl
    have n2 : Go.Proofs.Ytcjfddebnpakbaa.M.atomK u (t.length + d) = .no := by
      unfold Go.Proofs.Ytcjfddebnpakbaa.M.atomK wrdAt sgnAt
      rw [S.end_]; rfl
    rw [n1, n2]; rfl
def shC (d : Nat) : Cat → Cat
  | .ll k m f x => .ll k m (f + d) x
  | .pl f x => .pl (f + d) x
  | c => c
def shR (d : Nat) : Res → Res
  | .ok x b => .ok x (b + d)
  | .bad b => .bad (b + d)
/-- is the term's first place ahead? -/
def wfC : Cat → Nat → Prop
  | .ll _ _ f _, a => f < a
  | .pl f _, a => f < a
  | _, _ => True
theorem der_sub (S : Sub t u d) {c : Cat} {a : Nat} {r : Res} (h : Der t c a r) : a ≤ t.length → wfC c a → Der u (shC d c) (a + d) (shR d r) := by
  have cast : ∀ {c : Cat} {a a' : Nat} {r : Res}, a = a' → Der u c a r → Der u c a' r := fun e h => e ▸ h
  induction h with
  | @un a b n x h1 hd ih =>
    intro ha _
    have h0 : a < t.length := h1.elim (fun h => sgnAt_lt h.2) (fun h => sgnAt_lt h.2)
    have q := hd.inR (by omega); simp only [InR] at q
    have := Der.un (t := u) (a := a + d) (b := b + d) (n := n) (x := x) (by rw [S.sgn ha (by decide), S.sgn ha (by decide)]; exact h1) (cast (by omega) (ih (by omega) trivial))
    rw [S.placed (by omega) q.2] at this
    exact this
  | @unB a b h1 hd ih =>
    intro ha _
    have h0 : a < t.length := h1.elim (fun h => sgnAt_lt h) (fun h => sgnAt_lt h)
    exact .unB (by rw [S.sgn ha (by decide), S.sgn ha (by decide)]; exact h1) (cast (by omega) (ih (by omega) trivial))
  | unP h1 h2 _ ih =>
    intro ha _
    exact .unP (by rw [S.sgn ha (by decide)]; exact h1) (by rw [S.sgn ha (by decide)]; exact h2) (ih ha trivial)
  | @lev k a b x r h1 h2 hd _ ih1 ih2 =>
    intro ha _
    have q := hd.inR ha; simp only [InR] at q
    exact .lev h1 h2 (ih1 ha trivial) (ih2 q.2 q.1)
  | levB h1 h2 _ ih => intro ha _; exact .levB h1 h2 (ih ha trivial)
  | llE h1 h2 => intro ha _; exact .llE h1 (by rw [S.opl ha]; exact h2)
  | @llG k m f a b x y r h1 h2 h3 hd _ ih1 ih2 =>
    intro ha hf
    have h0 := tokAt_lt (t := t) (a := a) (by rw [opOf_tok (by omega)]; decide)
    have q := hd.inR (by omega); simp only [InR] at q
    change f < a at hf
    have e2 := ih2 q.2 (show f < b by omega)
    refine .llG h1 (by rw [S.opl ha]; exact h2) h3 (cast (by omega) (ih1 (by omega) trivial)) ?_
    rw [S.placed (by omega) q.2, S.at_ a h0]
    exact e2
  | @llB k m f a b x h1 h2 h3 hd ih1 =>
    intro ha hf
    have h0 := tokAt_lt (t := t) (a := a) (by rw [opOf_tok (by omega)]; decide)
    exact .llB h1 (by rw [S.opl ha]; exact h2) h3 (cast (by omega) (ih1 (by omega) trivial))
  | @post a b x r hd _ ih1 ih2 =>
    intro ha _
    have q := hd.inR ha; simp only [InR] at q
    exact .post (ih1 ha trivial) (ih2 q.2 q.1)
  | postB _ ih => intro ha _; exact .postB (ih ha trivial)
  | plE h1 h2 => intro ha _; exact .plE (by rw [S.sgn ha (by decide)]; exact h1) (by rw [S.sgn ha (by decide)]; exact h2)
  | @plI f a b x i r h1 hd h2 _ ih1 ih2 =>
    intro ha hf
    have h0 := sgnAt_lt h1
    have hb := sgnAt_lt h2
    have q := hd.inR (by omega); simp only [InR] at q
    change f < a at hf
    have e2 := ih2 (by omega) (show f < b + 1 by omega)
    refine .plI (b := b + d) (by rw [S.sgn ha (by decide)]; exact h1) (cast (by omega) (ih1 (by omega) trivial)) (by rw [S.sgn (by omega) (by decide)]; exact h2) ?_
    have e := S.placed (f := f) (b := b + 1) (by omega) (by omega) ⟨12, 0, [], [x, i], 0, 0⟩
    rw [show b + 1 + d = b + d + 1 by omega] at e e2
    rw [e]
    exact e2
  | @plI1 f a b x h1 hd ih1 =>
    intro ha hf
    have h0 := sgnAt_lt h1
    exact .plI1 (by rw [S.sgn ha (by decide)]; exact h1) (cast (by omega) (ih1 (by omega) trivial))
  | @plI2 f a b x i h1 hd h2 ih1 =>
    intro ha hf
    have h0 := sgnAt_lt h1
    have q := hd.inR (by omega); simp only [InR] at q
    exact .plI2 (by rw [S.sgn ha (by decide)]; exact h1) (cast (by omega) (ih1 (by omega) trivial)) (by rw [S.sgn (by omega) (by decide)]; exact h2)
  | @plF f a x r h0 h1 h2 _ ih =>
    intro ha hf
    have h3 := tokAt_lt (t := t) (a := a + 1) (by rw [h2]; decide)
    change f < a at hf
    have e2 := ih (by omega) (show f < a + 2 by omega)
    have ek : (tokAt u (a + d + 1)) = tokAt t (a + 1) := by rw [show a + d + 1 = a + 1 + d by omega]; exact S.at_ _ h3
    refine .plF (by rw [S.sgn ha (by decide)]; exact h0) (by rw [S.sgn ha (by decide)]; exact h1) (by rw [ek]; exact h2) ?_
    have e := S.placed (f := f) (b := a + 2) (by omega) (by omega) ⟨13, 0, (tokAt t (a + 1)).S, [x], 0, 0⟩
    rw [show a + 2 + d = a + d + 2 by omega] at e e2
    rw [ek, e]
    exact e2
  | @plFB f a x h0 h1 h2 =>
    intro ha hf
    have h3 := sgnAt_lt h1
    have := Der.plFB (t := u) (f := f + d) (a := a + d) (x := x) (by rw [S.sgn ha (by decide)]; exact h0) (by rw [S.sgn ha (by decide)]; exact h1) (by rw [show a + d + 1 = a + 1 + d by omega]; exact fun h => h2 ((S.k12 (by omega) 1 (by decide) (by decide)).1 h))
    rw [show a + d + 1 = a + 1 + d by omega] at this
    exact this
  | @one a k n s h1 =>
    intro ha _
    have h0 := atomK_lt (t := t) (a := a) (by rw [h1]; simp)
    have := Der.one (t := u) (a := a + d) (k := k) (n := n) (s := s) (by rw [S.atomK ha, h1]; rfl)
    have e := S.placed (f := a) (b := a + 1) (by omega) (by omega) ⟨k, n, s, [], 0, 0⟩
    rw [show a + d + 1 = a + 1 + d by omega, e] at this
    exact this
  | @par a b x h1 hd h2 ih =>
    intro ha _
    have h0 := atomK_lt (t := t) (a := a) (by rw [h1]; simp)
    have hb := sgnAt_lt h2
    have := Der.par (t := u) (a := a + d) (b := b + d) (x := x) (by rw [S.atomK ha, h1]; rfl) (cast (by omega) (ih (by omega) trivial)) (by rw [S.sgn (by omega) (by decide)]; exact h2)
    rw [show b + d + 1 = b + 1 + d by omega] at this
    exact this
  | @par1 a b h1 hd ih =>
    intro ha _
    have h0 := atomK_lt (t := t) (a := a) (by rw [h1]; simp)
    exact .par1 (by rw [S.atomK ha, h1]; rfl) (cast (by omega) (ih (by omega) trivial))
  | @par2 a b x h1 hd h2 ih =>
    intro ha _
    have h0 := atomK_lt (t := t) (a := a) (by rw [h1]; simp)
    have q := hd.inR (by omega); simp only [InR] at q
    exact .par2 (by rw [S.atomK ha, h1]; rfl) (cast (by omega) (ih (by omega) trivial)) (by rw [S.sgn (by omega) (by decide)]; exact h2)
  | @call a o b k s few l h1 hd ih =>
    intro ha _
    have h0 := atomK_call h1
    have q := hd.inR h0.2; simp only [InR] at q
    have := Der.call (t := u) (a := a + d) (o := o + d) (b := b + d) (k := k) (s := s) (few := few) (l := l) (by rw [S.atomK ha, h1]; rfl) (ih h0.2 trivial)
    rw [S.placed (by omega) q.2] at this
    exact this
  | @callB a o b k s few h1 hd ih =>
    intro ha _
    have h0 := atomK_call h1
    exact .callB (o := o + d) (k := k) (s := s) (few := few) (by rw [S.atomK ha, h1]; rfl) (ih h0.2 trivial)
  | @lis a b l h1 hd h2 ih =>
    intro ha _
    have h0 := atomK_lt (t := t) (a := a) (by rw [h1]; simp)
    have hb := sgnAt_lt h2
    have q := hd.inR (by omega); simp only [InR] at q
    have := Der.lis (t := u) (a := a + d) (b := b + d) (l := l) (by rw [S.atomK ha, h1]; rfl) (cast (by omega) (ih (by omega) trivial)) (by rw [S.sgn (by omega) (by decide)]; exact h2)
    have e := S.placed (f := a) (b := b + 1) (by omega) (by omega) ⟨14, 0, [], l, 0, 0⟩
    rw [show b + d + 1 = b + 1 + d by omega, e] at this
    exact this
  | @lis1 a b h1 hd ih =>
    intro ha _
    have h0 := atomK_lt (t := t) (a := a) (by rw [h1]; simp)
    exact .lis1 (by rw [S.atomK ha, h1]; rfl) (cast (by omega) (ih (by omega) trivial))
  | @lis2 a b l h1 hd h2 ih =>
    intro ha _
    have h0 := atomK_lt (t := t) (a := a) (by rw [h1]; simp)
    have q := hd.inR (by omega); simp only [InR] at q
    exact .lis2 (l := l) (by rw [S.atomK ha, h1]; rfl) (cast (by omega) (ih (by omega) trivial)) (by rw [S.sgn (by omega) (by decide)]; exact h2)
  | @nm a h1 =>
    intro ha _
    have := Der.nm (t := u) (a := a + d) (by rw [S.atomK ha, h1]; rfl)
    rw [show a + d + 1 = a + 1 + d by omega] at this
    exact this
  | no h1 => intro ha _; exact .no (by rw [S.atomK ha, h1]; rfl)
  | cls0 h1 => intro ha _; exact .cls0 (by rw [S.sgn ha (by decide)]; exact h1)
  | @clsF a h1 h2 =>
    intro ha _
    have h0 := sgnAt_lt h1
    have := Der.clsF (t := u) (a := a + d) (by rw [S.sgn ha (by decide)]; exact h1) (by rw [show a + d + 1 = a + 1 + d by omega, S.sgn (by omega) (by decide)]; exact h2)
    rw [show a + d + 2 = a + 2 + d by omega] at this
    exact this
  | @cls a b few l h1 h2 hd h3 ih =>
    intro ha _
    have h0 := sgnAt_lt h1
    have hb := sgnAt_lt h3
    have := Der.cls (t := u) (a := a + d) (b := b + d) (few := few) (l := l) (by rw [S.sgn ha (by decide)]; exact h1) (fun hf => by rw [show a + d + 1 = a + 1 + d by omega, S.sgn (by omega) (by decide)]; exact h2 hf) (cast (by omega) (ih (by omega) trivial)) (by rw [S.sgn (by omega) (by decide)]; exact h3)
    rw [show b + d + 1 = b + 1 + d by omega] at this
    exact this
  | @cls1 a b few h1 h2 hd ih =>
    intro ha _
    have h0 := sgnAt_lt h1
    exact .cls1 (by rw [S.sgn ha (by decide)]; exact h1) (fun hf => by rw [show a + d + 1 = a + 1 + d by omega, S.sgn (by omega) (by decide)]; exact h2 hf) (cast (by omega) (ih (by omega) trivial))
  | @cls2 a b few l h1 h2 hd h3 ih =>
    intro ha _
    have h0 := sgnAt_lt h1
    have q := hd.inR (by omega); simp only [InR] at q
    exact .cls2 (l := l) (by rw [S.sgn ha (by decide)]; exact h1) (fun hf => by rw [show a + d + 1 = a + 1 + d by omega, S.sgn (by omega) (by decide)]; exact h2 hf) (cast (by omega) (ih (by omega) trivial)) (by rw [S.sgn (by omega) (by decide)]; exact h3)
  | @lstE a b acc x hd h1 ih =>
    intro ha _
    have q := hd.inR ha; simp only [InR] at q
    exact .lstE (ih ha trivial) (by rw [S.sgn (by omega) (by decide)]; exact h1)
  | @lstG a b acc x r hd h1 _ ih1 ih2 =>
    intro ha _
    have hb := sgnAt_lt h1
    have q := hd.inR ha; simp only [InR] at q
    exact .lstG (ih1 ha trivial) (by rw [S.sgn (by omega) (by decide)]; exact h1) (cast (by omega) (ih2 (by omega) trivial))
  | lstB _ ih => intro ha _; exact .lstB (ih ha trivial)
end
end Go.Proofs.Ytcjfddebnpakbaa.M
