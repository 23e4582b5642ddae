import Derived.Test.YthbhgdooeeapjaaPlain1
namespace Go.Proofs.Ythbhgdooeeapjaa.M
open Go Nt
set_option linter.unusedVariables false
set_option linter.unusedSimpArgs false
set_option linter.unusedSectionVars false
def got : Res → zH
  | .ok x b => ⟨x, (b : Int), 0⟩
  | .bad b => ⟨zT7, (b : Int), 6⟩
def y1b (t : List zC) (a : Nat) : List Str → List Int → Int
  | s :: ss, o :: os => if zY t a s = true then o else y1b t a ss os
  | _, _ => 0
theorem y6T (t : List zC) (a : Nat) (ss : List Str) (os : List Int) (he : ss.length = os.length) (hs : ss.length ≤ 100) : ∀ (n i : Nat), i + n = ss.length → vP t a ss os i = some (y1b t a (ss.drop i) (os.drop i)) := by
  intro n
  induction n with
  | zero =>
    intro i hi
    rw [z5m]; unfold gJ
    rw [if_neg (by omega), List.drop_eq_nil_of_le (show ss.length ≤ i by omega)]
    rfl
  | succ n ih =>
    intro i hi
    have h1 : i < ss.length := by omega
    have h2 : i < os.length := by omega
    rw [z5m]; unfold gJ
    rw [if_pos (by omega), gV h1, zA, yA, zA, List.drop_eq_getElem_cons h1, List.drop_eq_getElem_cons h2, y1b]
    by_cases h : zY t a ss[i] = true
    · rw [if_pos h, if_pos h, gV h2]; rfl
    · rw [if_neg h, if_neg h, uS (by omega) (by omega), wR, ih (i + 1) (by omega)]
theorem y4R (t : List zC) (a k : Nat) (h1 : 1 ≤ k) (h2 : k ≤ 5) : z7I t a k = some (if (z3u (zP t a)).2 = k then (z3u (zP t a)).1 else 0) := by
  have hk : k = 1 ∨ k = 2 ∨ k = 3 ∨ k = 4 ∨ k = 5 := by omega
  rcases hk with rfl | rfl | rfl | rfl | rfl
  all_goals
    have e0 : ∀ ss os, ss.length = os.length → ss.length ≤ 100 → vP t a ss os 0 = some (y1b t a ss os) := fun ss os h1 h2 => by
      have := y6T t a ss os h1 h2 ss.length 0 (by omega)
      simpa using this
    unfold z7I z1W
    simp only [zA, if_true, Int.reduceEq, if_false, Int.cast_ofNat_Int]
    rw [e0 _ _ rfl (by decide)]
    simp only [y1b, zY]
    obtain ⟨x, hx⟩ : ∃ x, zP t a = x := ⟨_, rfl⟩
    simp only [hx]
    unfold z3u
    by_cases hk : x.K = 4
    · rcases y4Y x.S with e | e | e | e | e | e | e | e | e | e | e | e | e | ⟨e1, e2, e3, e4, e5, e6, e7, e8, e9, e10, e11, e12, e13⟩
      case inr.inr.inr.inr.inr.inr.inr.inr.inr.inr.inr.inr.inr => simp [hk, e1, e2, e3, e4, e5, e6, e7, e8, e9, e10, e11, e12, e13]
      all_goals (simp only [hk, e]; rfl)
    · simp [hk]
theorem y2d (t : List zC) (a : Nat) (few : Bool) (o c : Str) (h : zY t a o = false) : yC t a few o c = some ([], (a : Int), 6) := by
  rw [z2e]; unfold uO
  rw [yA, zA, h]; rfl
theorem y2e (t : List zC) (hl : t.length ≤ 1048576) (a : Nat) (o c : Str) (h : zY t a o = true) (h2 : zY t (a + 1) c = true) : yC t a true o c = some ([], ((a + 2 : Nat) : Int), 0) := by
  have ha := zT h
  rw [z2e]; unfold uO
  rw [yA, zA, h, if_pos rfl, if_pos rfl, wZ hl (by omega), yA, zA, h2, if_pos rfl, z6A hl (by omega)]
theorem z1V (t : List zC) (hl : t.length ≤ 1048576) (a : Nat) (few : Bool) (o c : Str) (h : zY t a o = true) (h2 : few = true → zY t (a + 1) c = false) :
    yC t a few o c = (wJ t ((a + 1 : Nat) : Int) >>= fun q => if q.2.2 = 0 then (vI t q.2.1 c >>= fun z => if z = true then some (q.1, IntKind.wrap .i64 (q.2.1 + 1), 0) else some (q.1, q.2.1, 6)) else some (q.1, q.2.1, q.2.2)) := by
  have ha := zT h
  rw [z2e]; unfold uO
  rw [yA, zA, h, if_pos rfl, wZ hl (by omega)]
  cases few with
  | false => rw [if_neg (by simp)]
  | true => rw [if_pos rfl, yA, zA, h2 rfl, if_neg (by simp)]
def RM (t : List zC) : Cat → Nat → Res → Prop
  | .lev k, a, r => zR t a k = some (got r)
  | .ll k m f x, a, r => f < a → m ≤ a → k ≤ 5 → ∀ o, zZ t f k m o ⟨x, (a : Int), 0⟩ = some (got r)
  | .post, a, r => vW t a = some (got r)
  | .pl f x, a, r => f < a → ∀ o, yG t f o ⟨x, (a : Int), 0⟩ = some (got r)
  | .atom, a, r => yS t a = some (got r)
  | .cls few, a, r => (∀ l b, r = .ok l b → yC t a few [40] [41] = some (l.L, (b : Int), 0)) ∧ (∀ b, r = .bad b → ∃ l, yC t a few [40] [41] = some (l, (b : Int), 6))
  | .lst acc, a, r => acc.length < a → (∀ l b, r = .ok l b → yF t a acc = some (l.L, (b : Int), 0)) ∧ (∀ b, r = .bad b → ∃ l, yF t a acc = some (l, (b : Int), 6))
theorem y1Y (t : List zC) (a : Nat) (g : zH) (h : wO t a = some g) : zR t a (6 : Nat) = some g := by
  rw [z1p]; unfold uP
  rw [if_pos (by decide), h]; rfl
theorem z3n {t : List zC} {a : Nat} {g : zH} (h : zR t a (1 : Nat) = some g) : zQ t a = some g := by
  rw [y1e]; unfold z0R
  rw [show ((1 : Int)) = ((1 : Nat) : Int) from rfl, h]; rfl
theorem z6y (t : List zC) (a : Nat) : wJ t a = yF t a [] := by rw [y1f]; rfl
theorem y1m {t : List zC} {a : Nat} {g : zH} (h : zR t a (6 : Nat) = some g) : wO t a = some g := by
  rw [z1p] at h; unfold uP at h
  rw [if_pos (by decide)] at h
  cases hu : wO t a with
  | none => rw [hu] at h; cases h
  | some x => rw [hu] at h; exact h
theorem y6D (t : List zC) (hl : t.length ≤ 1048576) (a : Nat) (h1 : (zP t a).K = 1) : yX t a = (yC t ((a + 1 : Nat) : Int) true [40] [41] >>= fun q => if q.2.2 = 0 then (yT t a q.2.1 16 0 (zP t a).S q.1 >>= fun z => some z) else some ⟨zT7, q.2.1, q.2.2⟩) := by
  have ha := uR (t := t) (a := a) (by rw [h1]; decide)
  rw [jA]; unfold wA
  rw [jX, zA, if_pos h1, zA, wZ hl (by omega)]
theorem y5B (t : List zC) (a : Nat) (h1 : zY t a [91] = true) : yX t a = (yC t a false [91] [93] >>= fun q => if q.2.2 = 0 then (yT t a q.2.1 14 0 [] q.1 >>= fun z => some z) else some ⟨zT7, q.2.1, q.2.2⟩) := by
  rw [jA]; unfold wA
  rw [jX, zA, if_neg (by rw [(z9L h1).1]; decide), yA, zA, h1, if_pos rfl]
theorem y6E (t : List zC) (hl : t.length ≤ 1048576) (a : Nat) (h1 : zY t a [64] = true) (h2 : (zP t (a + 1)).K = 1) : yX t a = (yC t ((a + 2 : Nat) : Int) true [40] [41] >>= fun q => if q.2.2 = 0 then (yT t a q.2.1 17 0 (zP t (a + 1)).S q.1 >>= fun z => some z) else some ⟨zT7, q.2.1, q.2.2⟩) := by
  have ha := zT h1
  rw [jA]; unfold wA
  rw [jX, zA, if_neg (by rw [(z9L h1).1]; decide), yA, zA, z5q h1 (by decide), if_neg (by simp), yA, zA, h1, if_pos rfl, wZ hl (by omega), jX, zA, if_pos h2, zA, jI, zA, z7V (by rw [(z9L h1).1]; decide), if_neg (by simp), z6A hl (by omega)]
theorem y5A (t : List zC) (hl : t.length ≤ 1048576) (a : Nat) (h1 : zY t a [64] = true) (h2 : (zP t (a + 1)).K ≠ 1) : yX t a = some ⟨zT7, ((a + 1 : Nat) : Int), 6⟩ := by
  have ha := zT h1
  rw [jA]; unfold wA
  rw [jX, zA, if_neg (by rw [(z9L h1).1]; decide), yA, zA, z5q h1 (by decide), if_neg (by simp), yA, zA, h1, if_pos rfl, wZ hl (by omega), jX, zA, if_neg h2]
  rfl
theorem y6C (t : List zC) (hl : t.length ≤ 1048576) (a : Nat) (h1 : uA t a [110, 101, 119] = true) (h2 : (zP t (a + 1)).K = 1) : yX t a = (yC t ((a + 2 : Nat) : Int) false [40] [41] >>= fun q => if q.2.2 = 0 then (yT t a q.2.1 15 0 (zP t (a + 1)).S q.1 >>= fun z => some z) else some ⟨zT7, q.2.1, q.2.2⟩) := by
  have ha := z2K h1
  have hk : (zP t a).K ≠ 4 := by rw [(y1n h1).1]; decide
  rw [jA]; unfold wA
  rw [jX, zA, if_neg (by rw [(y1n h1).1]; decide), yA, zA, z7M hk, if_neg (by simp), yA, zA, z7M hk, if_neg (by simp), jI, zA, h1, if_pos rfl, wZ hl (by omega), jX, zA, if_pos h2, zA, zA, if_pos rfl, z6A hl (by omega)]
theorem y5z (t : List zC) (hl : t.length ≤ 1048576) (a : Nat) (h1 : uA t a [110, 101, 119] = true) (h2 : (zP t (a + 1)).K ≠ 1) : yX t a = some ⟨zT7, ((a + 1 : Nat) : Int), 6⟩ := by
  have ha := z2K h1
  have hk : (zP t a).K ≠ 4 := by rw [(y1n h1).1]; decide
  rw [jA]; unfold wA
  rw [jX, zA, if_neg (by rw [(y1n h1).1]; decide), yA, zA, z7M hk, if_neg (by simp), yA, zA, z7M hk, if_neg (by simp), jI, zA, h1, if_pos rfl, wZ hl (by omega), jX, zA, if_neg h2]
  rfl
theorem y4J (t : List zC) (hl : t.length ≤ 1048576) (a : Nat) {k n : Int} {s : Str} (h : wU t a = .one k n s) : yS t a = some ⟨wS t a (a + 1) ⟨k, n, s, [], 0, 0⟩, ((a + 1 : Nat) : Int), 0⟩ := by
  have ha := jP (t := t) (a := a) (by rw [h]; simp)
  have mk := fun k n s => z1q t (by omega) a (a + 1) (by omega) (by omega) k n s []
  rw [z3C]; unfold gI
  rw [jX, zA, wZ hl (by omega)]
  unfold wU at h
  by_cases h1 : (zP t a).K = 2
  · rw [if_pos h1] at h ⊢
    injection h with e1 e2 e3; subst e1; subst e2; subst e3
    rw [mk]; rfl
  rw [if_neg h1] at h ⊢
  by_cases h2 : (zP t a).K = 1
  · rw [if_pos h2] at h
    have w := fun s => z7V (t := t) (a := a) (by rw [h2]; decide) s
    rw [jI, zA, w, if_neg (by simp), jI, zA, w, if_neg (by simp), jI, zA, w, if_neg (by simp), if_pos h2, yA, zA]
    by_cases h3 : zY t (a + 1) [40] = true
    · rw [if_pos h3] at h; cases h
    · rw [if_neg h3] at h ⊢
      injection h with e1 e2 e3; subst e1; subst e2; subst e3
      rw [mk]; rfl
  rw [if_neg h2] at h
  rw [jI, zA]
  by_cases h3 : uA t a [116, 114, 117, 101] = true
  · rw [if_pos h3] at h ⊢
    injection h with e1 e2 e3; subst e1; subst e2; subst e3
    rw [mk]; rfl
  rw [if_neg h3] at h ⊢
  rw [jI, zA]
  by_cases h4 : uA t a [102, 97, 108, 115, 101] = true
  · rw [if_pos h4] at h ⊢
    injection h with e1 e2 e3; subst e1; subst e2; subst e3
    rw [mk]; rfl
  rw [if_neg h4] at h ⊢
  rw [jI, zA]
  by_cases h5 : uA t a [114, 101, 97, 100] = true
  · rw [if_pos h5] at h ⊢
    injection h with e1 e2 e3; subst e1; subst e2; subst e3
    rw [mk]; rfl
  rw [if_neg h5] at h
  repeat' split at h
  all_goals cases h
theorem z4I (t : List zC) (hl : t.length ≤ 1048576) (a : Nat) (h1 : zY t a [40] = true) :
    yS t a = (zQ t ((a + 1 : Nat) : Int) >>= fun q => if q.E = 0 then (vI t q.At [41] >>= fun z => if z = true then some { q with At := IntKind.wrap .i64 (q.At + 1) } else (z0Y q.At >>= fun y => some y)) else some q) := by
  have ha := zT h1
  have hk := (z9L h1).1
  have w := fun s => z7V (t := t) (a := a) (by rw [hk]; decide) s
  rw [z3C]; unfold gI
  rw [jX, zA, if_neg (by rw [hk]; decide), jI, zA, w, if_neg (by simp), jI, zA, w, if_neg (by simp), jI, zA, w, if_neg (by simp), if_neg (by rw [hk]; decide), yA, zA, h1, if_pos rfl, wZ hl (by omega)]
theorem gH (t : List zC) (hl : t.length ≤ 1048576) (a : Nat) (ha : a ≤ t.length) (h1 : (zP t a).K ≠ 2) (h2 : (zP t a).K = 1 → zY t (a + 1) [40] = true) (h3 : uA t a [116, 114, 117, 101] = false) (h4 : uA t a [102, 97, 108, 115, 101] = false) (h5 : uA t a [114, 101, 97, 100] = false)
    (h6 : zY t a [40] = false) : yS t a = (yX t a >>= fun q => some q) := by
  rw [z3C]; unfold gI
  rw [jX, zA, if_neg h1, jI, zA, h3, if_neg (by simp), jI, zA, h4, if_neg (by simp), jI, zA, h5, if_neg (by simp)]
  by_cases hk : (zP t a).K = 1
  · rw [if_pos hk, wZ hl (by omega), yA, zA, h2 hk, if_pos rfl, yA, zA, h6, if_neg (by simp)]
  · rw [if_neg hk, yA, zA, h6, if_neg (by simp)]
theorem z8D {t : List zC} (hl : t.length ≤ 1048576) {c : Cat} {a : Nat} {r : Res} (h : Der t c a r) : a ≤ t.length → RM t c a r := by
  have clsOk : ∀ {a : Nat}, a ≤ t.length → ∀ {k : Int} {s : Str} {o : Nat} {few : Bool}, wU t a = .call k s o few → ∀ {q : Option (List zI × Int × Int)}, yC t o few [40] [41] = q →
      yS t a = (q >>= fun q => if q.2.2 = 0 then (yT t a q.2.1 k 0 s q.1 >>= fun z => some z) else some ⟨zT7, q.2.1, q.2.2⟩) >>= fun q => some q := by
    intro a ha k s o few hk q hq
    rcases y1x hk with ⟨rfl, rfl, rfl, rfl, h1, h2⟩ | ⟨rfl, rfl, rfl, rfl, h1, h2⟩ | ⟨rfl, rfl, rfl, rfl, h1, h2⟩
    · have w := fun s => z7V (t := t) (a := a) (by rw [h1]; decide) s
      rw [gH t hl a ha (by rw [h1]; decide) (fun _ => h2) (w _) (w _) (w _) (z7M (by rw [h1]; decide) _), y6D t hl a h1, hq]
    · have hk := (y1n h1).1
      rw [gH t hl a ha (by rw [hk]; decide) (fun h => by rw [hk] at h; cases h) (z2S h1 (by decide)) (z2S h1 (by decide)) (z2S h1 (by decide)) (z7M (by rw [hk]; decide) _), y6C t hl a h1 h2, hq]
    · have hk := (z9L h1).1
      have w := fun s => z7V (t := t) (a := a) (by rw [hk]; decide) s
      rw [gH t hl a ha (by rw [hk]; decide) (fun h => by rw [hk] at h; cases h) (w _) (w _) (w _) (z5q h1 (by decide)), y6E t hl a h1 h2, hq]
  have lisOk : ∀ {a : Nat}, a ≤ t.length → wU t a = .lis → yS t a = (yF t ((a + 1 : Nat) : Int) [] >>= fun q => if q.2.2 = 0 then (vI t q.2.1 [93] >>= fun z => if z = true then some (q.1, IntKind.wrap .i64 (q.2.1 + 1), 0) else some (q.1, q.2.1, 6)) else some (q.1, q.2.1, q.2.2)) >>=
      (fun q => if q.2.2 = 0 then (yT t a q.2.1 14 0 [] q.1 >>= fun z => some z) else some ⟨zT7, q.2.1, q.2.2⟩) >>= fun q => some q := by
    intro a ha hk
    have h1 := y3U hk
    have hk := (z9L h1).1
    have w := fun s => z7V (t := t) (a := a) (by rw [hk]; decide) s
    rw [gH t hl a ha (by rw [hk]; decide) (fun h => by rw [hk] at h; cases h) (w _) (w _) (w _) (z5q h1 (by decide)), y5B t a h1, z1V t hl a false _ _ h1 (fun h => by cases h), z6y]
  induction h with
  | @un a b n x h1 hd ih =>
    intro ha
    have h0 : a < t.length := h1.elim (fun h => zT h.2) (fun h => zT h.2)
    have q := hd.inR (by omega)
    simp only [InR] at q
    have e := y1m (ih (by omega))
    refine y1Y t a _ ?_
    rw [z5J]; unfold z1d
    rw [yA, zA, wZ hl (by omega)]
    rcases h1 with ⟨rfl, h1⟩ | ⟨rfl, h1⟩
    · rw [if_pos h1, yA, zA, z5q h1 (by decide), if_neg (by simp), if_neg (by decide), e, zA]
      show (if (0 : Int) = 0 then _ else _) = _
      rw [if_pos rfl]
      show (yT t a b 11 1 [] [x] >>= _) = _
      rw [z1q t (by omega) a b (by omega) q.2]; rfl
    · rw [if_neg (by rw [z5q h1 (by decide)]; simp), yA, zA, if_pos h1, if_neg (by decide), e, zA]
      show (if (0 : Int) = 0 then _ else _) = _
      rw [if_pos rfl]
      show (yT t a b 11 2 [] [x] >>= _) = _
      rw [z1q t (by omega) a b (by omega) q.2]; rfl
  | @unB a b h1 hd ih =>
    intro ha
    have h0 : a < t.length := h1.elim (fun h => zT h) (fun h => zT h)
    have e := y1m (ih (by omega))
    refine y1Y t a _ ?_
    rw [z5J]; unfold z1d
    rw [yA, zA, wZ hl (by omega)]
    rcases h1 with h1 | h1
    · rw [if_pos h1, yA, zA, z5q h1 (by decide), if_neg (by simp), if_neg (by decide), e, zA]; rfl
    · rw [if_neg (by rw [z5q h1 (by decide)]; simp), yA, zA, if_pos h1, if_neg (by decide), e, zA]; rfl
  | @unP a r h1 h2 hd ih =>
    intro ha
    have e : vW t a = some (got r) := ih ha
    refine y1Y t a _ ?_
    rw [z5J]; unfold z1d
    rw [yA, zA, h1, if_neg (by simp), yA, zA, h2, if_neg (by simp), if_pos rfl, e]; rfl
  | @lev k a b x r h1 h2 hd hd2 ih1 ih2 =>
    intro ha
    have q := hd.inR ha
    simp only [InR] at q
    show zR t a k = _
    rw [z1p]; unfold uP
    rw [if_neg (by omega), uS (by omega) (by omega), wR]
    have e : zR t a ((k + 1 : Nat) : Int) = _ := ih1 ha
    rw [e, zA]
    exact ih2 q.2 (by omega) (by omega) h2 _
  | @levB k a b h1 h2 hd ih1 =>
    intro ha
    show zR t a k = _
    rw [z1p]; unfold uP
    rw [if_neg (by omega), uS (by omega) (by omega), wR]
    have e : zR t a ((k + 1 : Nat) : Int) = _ := ih1 ha
    rw [e, zA, z0d]; unfold wF
    rw [if_neg (by simp [got])]
  | @llE k m f a x h0 h1 =>
    intro ha hf hm hk o
    rw [z0d]; unfold wF
    rw [if_pos rfl, y4R t a k h0 hk, zA]
    rcases h1 with h1 | ⟨rfl, rfl⟩
    · rw [if_neg h1, if_pos rfl]; rfl
    · by_cases h2 : (z3u (zP t a)).2 = 3
      · rw [if_pos h2]
        by_cases h3 : (z3u (zP t a)).1 = 0
        · rw [if_pos h3]; rfl
        · rw [if_neg h3, if_pos (by decide), if_pos (by decide)]; rfl
      · rw [if_neg h2, if_pos rfl]; rfl
  | @llG k m f a b x y r h1 h2 h3 hd hd2 ih1 ih2 =>
    intro ha hf hm hk o
    have h0 := uR (t := t) (a := a) (by rw [z1U (by omega)]; decide)
    have q := hd.inR (by omega)
    simp only [InR] at q
    have e : zR t ((a + 1 : Nat) : Int) ((k + 1 : Nat) : Int) = some ⟨y, (b : Int), 0⟩ := ih1 (by omega)
    have e2 : zZ t f k ((m + 1 : Nat) : Int) o ⟨_, (b : Int), 0⟩ = some (got r) := ih2 (by omega) (by omega) (by omega) hk o
    have hop : (z3u (zP t a)).1 ≠ 0 := y2M (by omega)
    rw [z0d]; unfold wF
    rw [if_pos rfl, y4R t a k h1 hk, zA, if_pos h2, if_neg hop]
    have hk3 : (k : Int) = 3 → (m : Int) ≠ 1 := fun h h' => h3 ⟨by omega, by omega⟩
    have c1 : IntKind.wrap .i64 ((a : Int) + 1) = ((a + 1 : Nat) : Int) := wZ hl (by omega)
    have c2 : IntKind.wrap .i64 ((k : Int) + 1) = ((k + 1 : Nat) : Int) := by rw [uS (by omega) (by omega)]; omega
    have c3 : IntKind.wrap .i64 ((m : Int) + 1) = ((m + 1 : Nat) : Int) := by rw [uS (by omega) (by omega)]; omega
    by_cases h4 : (k : Int) = 3
    · rw [if_pos h4, if_neg (hk3 h4), c1, c2, e, zA, if_pos rfl, z1q t (by omega) f b (by omega) q.2, zA, c3, e2]
    · rw [if_neg h4, c1, c2, e, zA, if_pos rfl, z1q t (by omega) f b (by omega) q.2, zA, c3, e2]
  | @llB k m f a b x h1 h2 h3 hd ih1 =>
    intro ha hf hm hk o
    have h0 := uR (t := t) (a := a) (by rw [z1U (by omega)]; decide)
    have e : zR t ((a + 1 : Nat) : Int) ((k + 1 : Nat) : Int) = some ⟨zT7, (b : Int), 6⟩ := ih1 (by omega)
    have hop : (z3u (zP t a)).1 ≠ 0 := y2M (by omega)
    rw [z0d]; unfold wF
    rw [if_pos rfl, y4R t a k h1 hk, zA, if_pos h2, if_neg hop]
    have hk3 : (k : Int) = 3 → (m : Int) ≠ 1 := fun h h' => h3 ⟨by omega, by omega⟩
    have c1 : IntKind.wrap .i64 ((a : Int) + 1) = ((a + 1 : Nat) : Int) := wZ hl (by omega)
    have c2 : IntKind.wrap .i64 ((k : Int) + 1) = ((k + 1 : Nat) : Int) := by rw [uS (by omega) (by omega)]; omega
    by_cases h4 : (k : Int) = 3
    · rw [if_pos h4, if_neg (hk3 h4), c1, c2, e, zA]; rfl
    · rw [if_neg h4, c1, c2, e, zA]; rfl
  | @post a b x r hd hd2 ih1 ih2 =>
    intro ha
    have q := hd.inR ha
    simp only [InR] at q
    have e : yS t a = some ⟨x, (b : Int), 0⟩ := ih1 ha
    show vW t a = _
    rw [z6c]; unfold z0j
    rw [e, zA]
    exact ih2 q.2 q.1 _
  | @postB a b hd ih1 =>
    intro ha
    have e : yS t a = some ⟨zT7, (b : Int), 6⟩ := ih1 ha
    show vW t a = _
    rw [z6c]; unfold z0j
    rw [e, zA, uJ]; unfold vU
    rw [if_neg (by simp)]; rfl
  | @plE f a x h1 h2 =>
    intro ha hf o
    rw [uJ]; unfold vU
    rw [if_pos rfl, yA, zA, h1, if_neg (by simp), yA, zA, h2, if_neg (by simp)]; rfl
  | @plI f a b x i r h1 hd h2 hd2 ih1 ih2 =>
    intro ha hf o
    have h0 := zT h1
    have hb := zT h2
    have q := hd.inR (by omega)
    simp only [InR] at q
    have e : zQ t ((a + 1 : Nat) : Int) = some ⟨i, (b : Int), 0⟩ := z3n (ih1 (by omega))
    have e2 : yG t f o ⟨_, ((b + 1 : Nat) : Int), 0⟩ = some (got r) := ih2 (by omega) (by omega) o
    rw [uJ]; unfold vU
    rw [if_pos rfl, yA, zA, h1, if_pos rfl, wZ hl (by omega), e, zA, if_pos rfl, yA, zA, h2, if_pos rfl, wZ hl (by omega), z1q t (by omega) f (b + 1) (by omega) (by omega), zA, e2]
  | @plI1 f a b x h1 hd ih1 =>
    intro ha hf o
    have h0 := zT h1
    have e : zQ t ((a + 1 : Nat) : Int) = some ⟨zT7, (b : Int), 6⟩ := z3n (ih1 (by omega))
    rw [uJ]; unfold vU
    rw [if_pos rfl, yA, zA, h1, if_pos rfl, wZ hl (by omega), e, zA]; rfl
  | @plI2 f a b x i h1 hd h2 ih1 =>
    intro ha hf o
    have h0 := zT h1
    have e : zQ t ((a + 1 : Nat) : Int) = some ⟨i, (b : Int), 0⟩ := z3n (ih1 (by omega))
    rw [uJ]; unfold vU
    rw [if_pos rfl, yA, zA, h1, if_pos rfl, wZ hl (by omega), e, zA, if_pos rfl, yA, zA, h2]; rfl
  | @plF f a x r h0 h1 h2 hd ih =>
    intro ha hf o
    have h3 := uR (t := t) (a := a + 1) (by rw [h2]; decide)
    have e2 : yG t f o ⟨_, ((a + 2 : Nat) : Int), 0⟩ = some (got r) := ih (by omega) (by omega) o
    rw [uJ]; unfold vU
    rw [if_pos rfl, yA, zA, h0, if_neg (by simp), yA, zA, h1, if_pos rfl, wZ hl (by omega), jX, zA, if_pos h2, z6A hl (by omega), z1q t (by omega) f (a + 2) (by omega) (by omega), zA, e2]
  | @plFB f a x h0 h1 h2 =>
    intro ha hf o
    have h3 := zT h1
    rw [uJ]; unfold vU
    rw [if_pos rfl, yA, zA, h0, if_neg (by simp), yA, zA, h1, if_pos rfl, wZ hl (by omega), jX, zA, if_neg h2]; rfl
  | one h1 => intro ha; exact y4J t hl _ h1
  | @par a b x h1 hd h2 ih =>
    intro ha
    have h0 := zT (z0G h1)
    have hb := zT h2
    have e : zQ t ((a + 1 : Nat) : Int) = some ⟨x, (b : Int), 0⟩ := z3n (ih (by omega))
    show yS t a = _
    rw [z4I t hl a (z0G h1), e, zA, if_pos rfl, yA, zA, h2, if_pos rfl, wZ hl (by omega)]; rfl
  | @par1 a b h1 hd ih =>
    intro ha
    have h0 := zT (z0G h1)
    have e : zQ t ((a + 1 : Nat) : Int) = some ⟨zT7, (b : Int), 6⟩ := z3n (ih (by omega))
    show yS t a = _
    rw [z4I t hl a (z0G h1), e, zA]; rfl
  | @par2 a b x h1 hd h2 ih =>
    intro ha
    have h0 := zT (z0G h1)
    have e : zQ t ((a + 1 : Nat) : Int) = some ⟨x, (b : Int), 0⟩ := z3n (ih (by omega))
    show yS t a = _
    rw [z4I t hl a (z0G h1), e, zA, if_pos rfl, yA, zA, h2]; rfl
  | @call a o b k s few l h1 hd ih =>
    intro ha
    have h0 := z1s h1
    have q := hd.inR h0.2
    simp only [InR] at q
    have e := (ih h0.2).1 _ _ rfl
    show yS t a = _
    rw [clsOk ha h1 e, zA, if_pos rfl]
    show (yT t a b k 0 s l >>= _) >>= _ = _
    rw [z1q t (by omega) a b (by omega) q.2]; rfl
  | @callB a o b k s few h1 hd ih =>
    intro ha
    have h0 := z1s h1
    obtain ⟨l, e⟩ := (ih h0.2).2 _ rfl
    show yS t a = _
    rw [clsOk ha h1 e, zA]; rfl
  | @lis a b l h1 hd h2 ih =>
    intro ha
    have h0 := jP (t := t) (a := a) (by rw [h1]; simp)
    have hb := zT h2
    have q := hd.inR (by omega)
    simp only [InR] at q
    have e := (ih (by omega) (by simp)).1 _ _ rfl
    show yS t a = _
    rw [lisOk ha h1, e, zA, if_pos rfl, yA, zA, h2, if_pos rfl, wZ hl (by omega), zA, if_pos rfl]
    show (yT t a ((b + 1 : Nat) : Int) 14 0 [] l >>= _) >>= _ = _
    rw [z1q t (by omega) a (b + 1) (by omega) (by omega)]; rfl
  | @lis1 a b h1 hd ih =>
    intro ha
    have h0 := jP (t := t) (a := a) (by rw [h1]; simp)
    obtain ⟨l, e⟩ := (ih (by omega) (by simp)).2 _ rfl
    show yS t a = _
    rw [lisOk ha h1, e, zA]; rfl
  | @lis2 a b l h1 hd h2 ih =>
    intro ha
    have h0 := jP (t := t) (a := a) (by rw [h1]; simp)
    have e := (ih (by omega) (by simp)).1 _ _ rfl
    show yS t a = _
    rw [lisOk ha h1, e, zA, if_pos rfl, yA, zA, h2]; rfl
  | @nm a h1 =>
    intro ha
    obtain ⟨h2, h3⟩ := y5x h1
    show yS t a = _
    rcases h2 with h2 | h2
    · have hk := (y1n h2).1
      rw [gH t hl a ha (by rw [hk]; decide) (fun h => by rw [hk] at h; cases h) (z2S h2 (by decide)) (z2S h2 (by decide)) (z2S h2 (by decide)) (z7M (by rw [hk]; decide) _), y5z t hl a h2 h3]; rfl
    · have hk := (z9L h2).1
      have w := fun s => z7V (t := t) (a := a) (by rw [hk]; decide) s
      rw [gH t hl a ha (by rw [hk]; decide) (fun h => by rw [hk] at h; cases h) (w _) (w _) (w _) (z5q h2 (by decide)), y5A t hl a h2 h3]; rfl
  | @no a h1 =>
    intro ha
    obtain ⟨k2, k1, w1, w2, w3, w4, s1, s2, s3⟩ := y5y h1
    show yS t a = _
    rw [gH t hl a ha k2 (fun h => absurd h k1) w1 w2 w3 s1, jA]; unfold wA
    rw [jX, zA, if_neg k1, yA, zA, s2, if_neg (by simp), yA, zA, s3, if_neg (by simp), jI, zA, w4, if_neg (by simp)]; rfl
  | @cls0 a few h1 =>
    intro ha
    exact ⟨(fun _ _ h => by cases h), fun b h => by cases h; exact ⟨_, y2d t a few _ _ h1⟩⟩
  | @clsF a h1 h2 =>
    intro ha
    exact ⟨(fun _ _ h => by cases h; exact y2e t hl a _ _ h1 h2), fun b h => by cases h⟩
  | @cls a b few l h1 h2 hd h3 ih =>
    intro ha
    have h0 := zT h1
    have hb := zT h3
    have e := (ih (by omega) (by simp)).1 _ _ rfl
    refine ⟨fun _ _ h => ?_, fun b h => by cases h⟩
    cases h
    rw [z1V t hl a few _ _ h1 h2, z6y, e, zA, if_pos rfl, yA, zA, h3, if_pos rfl, wZ hl (by omega)]
  | @cls1 a b few h1 h2 hd ih =>
    intro ha
    have h0 := zT h1
    obtain ⟨l, e⟩ := (ih (by omega) (by simp)).2 _ rfl
    refine ⟨(fun _ _ h => by cases h), fun _ h => ?_⟩
    cases h
    rw [z1V t hl a few _ _ h1 h2, z6y, e, zA]
    exact ⟨_, rfl⟩
  | @cls2 a b few l h1 h2 hd h3 ih =>
    intro ha
    have h0 := zT h1
    have e := (ih (by omega) (by simp)).1 _ _ rfl
    refine ⟨(fun _ _ h => by cases h), fun _ h => ?_⟩
    cases h
    rw [z1V t hl a few _ _ h1 h2, z6y, e, zA, if_pos rfl, yA, zA, h3]
    exact ⟨_, rfl⟩
  | @lstE a b acc x hd h1 ih =>
    intro ha hacc
    have e : zQ t a = some ⟨x, (b : Int), 0⟩ := z3n (ih ha)
    refine ⟨fun _ _ h => ?_, fun _ h => by cases h⟩
    cases h
    rw [z1N]; unfold uE
    rw [e, zA, if_pos rfl, if_pos (y6t (by simp; omega)), yA, zA, h1]; rfl
  | @lstG a b acc x r hd h1 hd2 ih1 ih2 =>
    intro ha hacc
    have hb := zT h1
    have q := hd.inR ha
    simp only [InR] at q
    have e : zQ t a = some ⟨x, (b : Int), 0⟩ := z3n (ih1 ha)
    have e2 := ih2 (by omega) (by simp; omega)
    rw [z1N]; unfold uE
    rw [e, zA, if_pos rfl, if_pos (y6t (by simp; omega)), yA, zA, h1, if_pos rfl, wZ hl (by omega)]
    exact e2
  | @lstB a b acc hd ih =>
    intro ha hacc
    have e : zQ t a = some ⟨zT7, (b : Int), 6⟩ := z3n (ih ha)
    refine ⟨(fun _ _ h => by cases h), fun _ h => ?_⟩
    cases h
    rw [z1N]; unfold uE
    rw [e, zA]
    exact ⟨_, rfl⟩
theorem y4n {w : List Str} (h : szw w ≤ 1000000000) : strings_Join w [32] = some (J w) := by
  have h1 := z3R w
  have h2 := z2D w
  unfold strings_Join
  rw [if_pos ⟨by omega, by show (J w).length ≤ _; omega⟩]
theorem z9F : z0o = some true := by
  unfold z0o z3L
  rw [z3V]; unfold wN; dsimp only
  rw [if_pos rfl, uD _ _ (by decide), zA, zA]
  unfold uF
  rw [y4n (by decide)]; rfl
theorem z9G (x0 : Str) (w0 : x0.length ≤ 9223372036854775807) : z0z x0 = some true := by
  unfold z0z
  rw [z9F]
  by_cases h1 : (List.length x0 : Int) > 500
  · rw [if_pos h1]; rfl
  rw [if_neg h1, z8F x0 w0, zA]
  by_cases h2 : (z3T x0).2.2 = 0
  · rw [if_pos h2]
    obtain ⟨g1, g2⟩ := y5S h2
    have ho := y4y h2
    obtain ⟨hm0, hm⟩ := y4F ho
    have tf := y3A x0
    generalize ht : (z3T x0).1 = t at *
    obtain ⟨r, hr⟩ := y6J t t.length 0 (by omega) 1 (by omega) (by omega)
    have e1 : zQ t 0 = some (got r) := z3n (a := 0) (z8D (by omega) hr (by omega))
    rw [e1, zA]
    cases r with
    | bad b => rfl
    | ok x b =>
      obtain ⟨w, p1, p2, p3, p4⟩ := y7t tf hm hr (by omega) x b rfl
      have hb1 : (zP t (b - 1)).To ≤ (x0.length : Int) := by
        have hlt : b - 1 < t.length := by omega
        have : zP t (b - 1) = t[b - 1] := by unfold zP; rw [List.getElem?_eq_getElem hlt]; rfl
        rw [this]; exact g2 _ (List.getElem_mem hlt)
      have hb2 := hm0 0 (by omega)
      have hsz : szw w ≤ 4000 := by unfold byt at p4; omega
      have e2 : z1u x = some (J w) := by
        unfold z1u
        rw [y6b p1 [] (by simp only [szw]; omega), zA, List.nil_append]
        unfold uF
        rw [y4n (by omega)]; rfl
      have e3 : yH x = some (J w) := y7C p1 (by omega)
      have hj := z3R w
      have htw := y7R p1
      obtain ⟨ys, e, l1, l2, l3⟩ := y1Z htw (by omega)
      have hlen := l3.len
      have hat := y7q [] e l3
      rw [List.nil_append] at hat
      have htk : zP (ys ++ [e]) w.length = e := by
        unfold zP
        rw [List.getElem?_append_right (by omega), hlen, Nat.sub_self]; rfl
      have hbn : 1 ≤ bnd x := by unfold bnd; have := z4f x.N; (repeat' split) <;> omega
      obtain ⟨y, q1, q2⟩ := (y5Z p1 0 hat).2.1 1 (Nat.le_refl 1) (by omega) hbn (y6K (by rw [Nat.zero_add, htk]; exact l2) (Nat.le_refl 1))
      rw [Nat.zero_add] at q2
      have hul : (ys ++ [e]).length = w.length + 1 := by rw [List.length_append, hlen]; rfl
      have hwl := z2D w
      have e4 : zQ (ys ++ [e]) 0 = some ⟨y, (w.length : Int), 0⟩ := z3n (a := 0) (z8D (by omega) q2 (by omega))
      have hts := y7w hr
      show (if (0 : Int) = 0 then _ else _) = _
      rw [if_pos rfl]
      show (z1u x >>= _) = _
      rw [e2, zA]
      show (yH x >>= _) = _
      rw [e3, zA, if_pos rfl, z8F _ (by omega), zA, l1]
      dsimp only
      rw [if_pos rfl, e4, zA]
      dsimp only
      rw [if_pos rfl, if_pos (by rw [hul, uS (by omega) (by omega)]; omega)]
      show (vZ x y >>= _) = _
      rw [y4V 1000000 (by omega) x y q1.symm (by omega), zA, if_pos rfl]; rfl
  · rw [if_neg h2]; rfl
end Go.Proofs.Ythbhgdooeeapjaa.M

