import Derived.Test.YtelddjedpmfclaaGreatPlain1
namespace Go.Proofs.YtelddjedpmfclaaGreat.M
open Go Nt
set_option linter.unusedVariables false
set_option linter.unusedSimpArgs false
set_option linter.unusedSectionVars false
theorem v7f (c : UInt8) (t : Str) (a : Int) (o : List zB) : z1x (Int.ofNat (UInt8.toNat c)) t a o = some (ltr c) := by
  unfold z1x ltr
  generalize c.toNat = n
  rw [show Int.ofNat n = (n : Int) from rfl]
  repeat' split
  all_goals (simp only [Option.some.injEq]; rw [Bool.eq_iff_iff]; simp; omega)
theorem v5n (c : UInt8) (t : Str) (a : Int) (o : List zB) : z1c (Int.ofNat (UInt8.toNat c)) t a o = some (dgt c) := by
  unfold z1c dgt
  generalize c.toNat = n
  rw [show Int.ofNat n = (n : Int) from rfl]
  repeat' split
  all_goals (simp only [Option.some.injEq]; rw [Bool.eq_iff_iff]; simp; omega)
theorem v7Z (c : UInt8) (t : Str) (a : Int) (o : List zB) : z2T (Int.ofNat (UInt8.toNat c)) t a o = some (mor c) := by
  unfold z2T mor
  rw [v7f, zA]
  cases ltr c with
  | true => rfl
  | false => rw [if_neg (by simp), v5n, zA]; rfl
theorem v8g (c : UInt8) (t : Str) (a : Int) (o : List zB) : z3a (Int.ofNat (UInt8.toNat c)) t a o = some (lin c) := by
  unfold z3a lin
  generalize c.toNat = n
  rw [show Int.ofNat n = (n : Int) from rfl]
  simp only [Option.some.injEq]; rw [Bool.eq_iff_iff]; simp; omega
theorem v3I (text : Str) (hl : text.length ≤ 1000000) (out : List zB) (f : Nat) : ∀ (k a : Nat), a + k = text.length → f ≤ a →
    zR f text a out = some ((text.take (a + tw mor (text.drop a))).drop f, text, ((a + tw mor (text.drop a) : Nat) : Int), out) := by
  intro k
  induction k with
  | zero =>
    intro a ha hf
    rw [z2q]; unfold wO
    have h1 : text.drop a = [] := List.drop_eq_nil_of_le (by omega)
    rw [if_neg (by omega), v6k (by omega) hf, h1]; rfl
  | succ k ih =>
    intro a ha hf
    have hl2 : a < text.length := by omega
    rw [z2q]; unfold wO
    rw [if_pos (by omega), z1W hl2, zA, v7Z, zA, z6V _ hl2]
    cases hm : mor text[a] with
    | true =>
      simp only [if_true]
      rw [z0Q (by omega) (by omega), gI, ih (a + 1) (by omega) (by omega)]
      rw [show a + 1 + tw mor (List.drop (a + 1) text) = a + (tw mor (List.drop (a + 1) text) + 1) by omega]
    | false =>
      simp only [Bool.false_eq_true, if_false]
      rw [v6k (by omega) hf]; rfl
theorem v2c (text : Str) (hl : text.length ≤ 1000000) (out : List zB) (f : Nat) : ∀ (k a : Nat), a + k = text.length → f ≤ a →
    zO f text a out = some ((text.take (a + tw dgt (text.drop a))).drop f, text, ((a + tw dgt (text.drop a) : Nat) : Int), out) := by
  intro k
  induction k with
  | zero =>
    intro a ha hf
    rw [z2a]; unfold wL
    have h1 : text.drop a = [] := List.drop_eq_nil_of_le (by omega)
    rw [if_neg (by omega), v6k (by omega) hf, h1]; rfl
  | succ k ih =>
    intro a ha hf
    have hl2 : a < text.length := by omega
    rw [z2a]; unfold wL
    rw [if_pos (by omega), z1W hl2, zA, v5n, zA, z6V _ hl2]
    cases hm : dgt text[a] with
    | true =>
      simp only [if_true]
      rw [z0Q (by omega) (by omega), gI, ih (a + 1) (by omega) (by omega)]
      rw [show a + 1 + tw dgt (List.drop (a + 1) text) = a + (tw dgt (List.drop (a + 1) text) + 1) by omega]
    | false =>
      simp only [Bool.false_eq_true, if_false]
      rw [v6k (by omega) hf]; rfl
theorem v3T (text : Str) (hl : text.length ≤ 1000000) (out : List zB) (f : Nat) : ∀ (k a : Nat), a + k = text.length → f ≤ a →
    zS f text a out = some ((text.take (a + tw lin (text.drop a))).drop f, text, ((a + tw lin (text.drop a) : Nat) : Int), out) := by
  intro k
  induction k with
  | zero =>
    intro a ha hf
    rw [z2o]; unfold wQ
    have h1 : text.drop a = [] := List.drop_eq_nil_of_le (by omega)
    rw [if_neg (by omega), v6k (by omega) hf, h1]; rfl
  | succ k ih =>
    intro a ha hf
    have hl2 : a < text.length := by omega
    rw [z2o]; unfold wQ
    rw [if_pos (by omega), z1W hl2, zA, v8g, zA, z6V _ hl2]
    cases hm : lin text[a] with
    | true =>
      simp only [if_true]
      rw [z0Q (by omega) (by omega), gI, ih (a + 1) (by omega) (by omega)]
      rw [show a + 1 + tw lin (List.drop (a + 1) text) = a + (tw lin (List.drop (a + 1) text) + 1) by omega]
    | false =>
      simp only [Bool.false_eq_true, if_false]
      rw [v6k (by omega) hf]; rfl
theorem v5J (text : Str) (hl : text.length ≤ 1000000) (a : Nat) (out : List zB) : z2i 1 text a out = some (match text.drop (a + 1) with | d :: _ => Int.ofNat d.toNat | [] => 0) ∨ text.length < a := by
  by_cases h : text.length < a
  · exact .inr h
  left
  unfold z2i
  rw [z0Q (by omega) (by omega), gI]
  by_cases h2 : a + 1 < text.length
  · rw [if_pos (by omega), z1W h2, zA, List.drop_eq_getElem_cons h2]
  · rw [if_neg (by omega), List.drop_eq_nil_of_le (by omega)]
theorem v5e (text : Str) (hl : text.length ≤ 1000000) (out : List zB) : ∀ (n a : Nat), text.length ≤ a + n → a ≤ text.length →
    yJ text a out = some (text, ((a + nxt n (text.drop a) : Nat) : Int), out) := by
  intro n
  induction n with
  | zero =>
    intro a h1 h2
    rw [z5V]; unfold z0x
    rw [if_neg (by omega)]; rfl
  | succ n ih =>
    intro a h1 h2
    rw [z5V]; unfold z0x
    by_cases h3 : a < text.length
    · rw [if_pos (by omega), z1W h3, zA, z0Q (by omega) (by omega), gI]
      have hd := List.drop_eq_getElem_cons h3
      simp only [show (32 : Int) = ((32 : Nat) : Int) from rfl, show (9 : Int) = ((9 : Nat) : Int) from rfl, show (10 : Int) = ((10 : Nat) : Int) from rfl, show (13 : Int) = ((13 : Nat) : Int) from rfl, show (47 : Int) = ((47 : Nat) : Int) from rfl, v0z]
      by_cases hb : blk text[a] = true
      · have hgo : yJ text ((a + 1 : Nat) : Int) out = some (text, ((a + nxt (n + 1) (text.drop a) : Nat) : Int), out) := by
          rw [ih (a + 1) (by omega) (by omega), hd, nxt, if_pos hb]
          rw [show a + 1 + nxt n (List.drop (a + 1) text) = a + (nxt n (List.drop (a + 1) text) + 1) by omega]
        unfold blk at hb
        simp only [Bool.or_eq_true, beq_iff_eq] at hb
        repeat' split
        all_goals first | exact hgo | omega
      · have hb' : blk text[a] = false := by simpa using hb
        have hb2 := hb'
        unfold blk at hb'
        simp only [Bool.or_eq_false_iff, beq_eq_false_iff_ne] at hb'
        rw [if_neg hb'.1.1.1, if_neg hb'.1.1.2, if_neg hb'.1.2, if_neg hb'.2]
        by_cases h47 : text[a].toNat = 47
        · rw [if_pos h47]
          have hp := (v5J text hl a out).resolve_right (by omega)
          rw [hp, zA]
          have hlin : lin text[a] = true := by unfold lin; simp [h47]
          have hrest : ∀ (hh : v1b 47 (text.drop (a + 1)) = true), yJ text ((a + tw lin (text.drop a) : Nat) : Int) out = some (text, ((a + nxt (n + 1) (text.drop a) : Nat) : Int), out) := fun hh => by
            have htw : 1 ≤ tw lin (text.drop a) := by rw [z6V _ h3, if_pos hlin]; omega
            have hle := y8l lin (text.drop a)
            rw [List.length_drop] at hle
            rw [ih (a + tw lin (text.drop a)) (by omega) (by omega)]
            have e : nxt (n + 1) (text.drop a) = tw lin (text.drop a) + nxt n ((text.drop a).drop (tw lin (text.drop a))) := by
              conv => lhs; rw [hd, nxt, if_neg (by rw [hb2]; simp), if_pos ⟨h47, hh⟩, ← hd]
            rw [e, List.drop_drop, Nat.add_assoc]
          cases hr : text.drop (a + 1) with
          | nil =>
            simp only []
            rw [if_neg (by omega), hd, nxt, if_neg (by rw [hb2]; simp), if_neg (by rw [hr]; simp [v1b])]; rfl
          | cons d r =>
            simp only [v0z]
            by_cases hd47 : d.toNat = 47
            · rw [if_pos hd47]
              unfold z0S
              rw [v3T text hl out a (text.length - a) a (by omega) (by omega), zA]
              exact hrest (by rw [hr]; simp [v1b, hd47])
            · rw [if_neg hd47, hd, nxt, if_neg (by rw [hb2]; simp), if_neg (by rw [hr]; simp [v1b, hd47])]; rfl
        · rw [if_neg h47, hd, nxt, if_neg (by rw [hb2]; simp), if_neg (by simp [h47])]; rfl
    · have h4 : text.drop a = [] := List.drop_eq_nil_of_le (by omega)
      rw [if_neg (by omega), h4]; rfl
theorem v7x (s : Str) : z7G s = some (isW s) := by
  have := v6Z s wordsL
  unfold z7G
  exact this
theorem y5Y (k n : Int) (s : Str) (f : Int) (text : Str) (a : Int) (out : List zB) (h : out.length ≤ 1000000) : z1z k n s f text a out = some (text, a, out ++ [⟨k, n, s, f, a⟩]) := by
  unfold z1z
  rw [if_pos (by unfold z1i; simp; omega)]
theorem v3Q (f : Int) (w : Str) (hd : ∀ c ∈ w, dgt c = true) (hw : w.length ≤ 19) (text : Str) (a : Int) (out : List zB) (ho : out.length ≤ 1000000) : ∀ (k i v : Nat), i + k = w.length → v < 10 ^ i →
    yD f w v w.length i text a out = some (if v0i v (w.drop i) > 9223372036854775807 then (5, text, a, out) else (0, text, a, out ++ [⟨2, (v0i v (w.drop i) : Int), [], f, a⟩])) := by
  intro k
  induction k with
  | zero =>
    intro i v hi hv
    rw [z5o]; unfold gW
    have h1 : w.drop i = [] := List.drop_eq_nil_of_le (by omega)
    rw [if_neg (by omega), h1, y5F]
    by_cases h : v > 9223372036854775807
    · rw [if_pos (by omega), if_pos h]
    · rw [if_neg (by omega), if_neg h, y5Y _ _ _ _ _ _ _ ho, zA, z0Q (by omega) (by omega)]
  | succ k ih =>
    intro i v hi hv
    have h3 : i < w.length := by omega
    rw [z5o]; unfold gW
    have hc := hd _ (List.getElem_mem h3)
    unfold dgt at hc
    simp only [Bool.and_eq_true, decide_eq_true_eq] at hc
    have hp : 10 ^ i ≤ 10 ^ 18 := Nat.pow_le_pow_right (by omega) (by omega)
    rw [if_pos (by omega), z1W h3, zA, List.drop_eq_getElem_cons h3, z9Q]
    rw [show Int.ofNat (UInt8.toNat w[i]) = ((UInt8.toNat w[i] : Nat) : Int) from rfl]
    rw [v8b (by omega) (by omega), v7G (n := ((UInt8.toNat w[i] : Nat) : Int) - 48) (by omega) (by omega), v7G (n := (v : Int) * 10) (by omega) (by omega), v7G (by omega) (by omega), z0Q (by omega) (by omega), gI]
    rw [show (v : Int) * 10 + (((UInt8.toNat w[i] : Nat) : Int) - 48) = ((v * 10 + (w[i].toNat - 48) : Nat) : Int) by omega]
    exact ih (i + 1) _ (by omega) (by rw [Nat.pow_succ]; omega)
theorem v5N (c d : Nat) : z8d (c : Int) (d : Int) = some ((sgn c d : Nat) : Int) := by
  have hs := v7c c singles
  unfold z8d sgn
  have two : ∀ k : Nat, c = k → (k = 61 ∨ k = 33 ∨ k = 60 ∨ k = 62) → (if (d : Int) = 61 then some (2 : Int) else some 1) = some ((if c = 61 ∨ c = 33 ∨ c = 60 ∨ c = 62 then (if d = 61 then 2 else 1) else if c = 38 ∨ c = 124 then (if d = c then 2 else 0) else if singles.contains c = true then 1 else 0 : Nat) : Int) := fun k hk h => by
    rw [if_pos (show c = 61 ∨ c = 33 ∨ c = 60 ∨ c = 62 by omega)]
    by_cases h2 : d = 61
    · rw [if_pos (show (d : Int) = 61 by omega), if_pos h2]; rfl
    · rw [if_neg (show ¬ (d : Int) = 61 by omega), if_neg h2]; rfl
  have same : (c = 38 ∨ c = 124) → (if (d : Int) = (c : Int) then some (2 : Int) else some 0) = some ((if c = 61 ∨ c = 33 ∨ c = 60 ∨ c = 62 then (if d = 61 then 2 else 1) else if c = 38 ∨ c = 124 then (if d = c then 2 else 0) else if singles.contains c = true then 1 else 0 : Nat) : Int) := fun h => by
    rw [if_neg (show ¬ (c = 61 ∨ c = 33 ∨ c = 60 ∨ c = 62) by omega), if_pos h]
    by_cases h2 : d = c
    · rw [if_pos (show (d : Int) = (c : Int) by omega), if_pos h2]; rfl
    · rw [if_neg (show ¬ (d : Int) = (c : Int) by omega), if_neg h2]; rfl
  by_cases h61 : (c : Int) = 61
  · rw [if_pos h61]; exact two 61 (by omega) (by omega)
  rw [if_neg h61]
  by_cases h33 : (c : Int) = 33
  · rw [if_pos h33]; exact two 33 (by omega) (by omega)
  rw [if_neg h33]
  by_cases h60 : (c : Int) = 60
  · rw [if_pos h60]; exact two 60 (by omega) (by omega)
  rw [if_neg h60]
  by_cases h62 : (c : Int) = 62
  · rw [if_pos h62]; exact two 62 (by omega) (by omega)
  rw [if_neg h62]
  by_cases h38 : (c : Int) = 38
  · rw [if_pos h38]; exact same (by omega)
  rw [if_neg h38]
  by_cases h124 : (c : Int) = 124
  · rw [if_pos h124]; exact same (by omega)
  rw [if_neg h124, if_neg (show ¬ (c = 61 ∨ c = 33 ∨ c = 60 ∨ c = 62) by omega), if_neg (show ¬ (c = 38 ∨ c = 124) by omega)]
  exact hs
theorem v6E (text : Str) (hl : text.length ≤ 1000000) (a : Nat) (ha : a ≤ text.length) (out : List zB) : z2i 1 text a out = some ((hd0 (text.drop (a + 1)) : Nat) : Int) := by
  rw [(v5J text hl a out).resolve_right (by omega)]
  cases text.drop (a + 1) <;> rfl
theorem v7T (text : Str) (hl : text.length ≤ 1000000) (a : Nat) (ha : a < text.length) (out : List zB) (ho : out.length ≤ 1000000) :
    (∃ k n s l, one (text.drop a) = .inr (k, n, s, l) ∧ z3p text a out = some (0, text, ((a + l : Nat) : Int), out ++ [⟨k, n, s, a, ((a + l : Nat) : Int)⟩])) ∨
    (∃ e a', one (text.drop a) = .inl e ∧ e ≠ 0 ∧ z3p text a out = some (e, text, a', out)) := by
  have hd := List.drop_eq_getElem_cons ha
  unfold z3p
  rw [z1W ha, zA, v7f, zA]
  have hle := y8l mor (text.drop a)
  have hle2 := y8l dgt (text.drop a)
  rw [List.length_drop] at hle hle2
  cases h1 : ltr text[a] with
  | true =>
    simp only [if_true]
    unfold z4V z0T
    rw [v3I text hl out a (text.length - a) a (by omega) (by omega), zA, y0i]
    simp only []
    have hlen : ((text.drop a).take (tw mor (text.drop a))).length = tw mor (text.drop a) := by rw [List.length_take, List.length_drop]; omega
    have hone : one (text.drop a) = if tw mor (text.drop a) > 16 then .inl 3 else .inr (if isW ((text.drop a).take (tw mor (text.drop a))) = true then 3 else 1, 0, (text.drop a).take (tw mor (text.drop a)), tw mor (text.drop a)) := by
      conv => lhs; rw [hd, one, if_pos h1, ← hd]
    rw [hlen, hone]
    by_cases h2 : tw mor (text.drop a) > 16
    · rw [if_pos h2, if_pos (show ((tw mor (List.drop a text) : Nat) : Int) > 16 by omega)]
      exact .inr ⟨3, _, rfl, by decide, rfl⟩
    · rw [if_neg h2, if_neg (show ¬ ((tw mor (List.drop a text) : Nat) : Int) > 16 by omega), v7x, zA]
      left
      cases isW ((text.drop a).take (tw mor (text.drop a))) with
      | true =>
        simp only [if_true]
        rw [y5Y _ _ _ _ _ _ _ ho, zA, zA]
        exact ⟨3, 0, _, _, rfl, rfl⟩
      | false =>
        simp only [Bool.false_eq_true, if_false]
        rw [y5Y _ _ _ _ _ _ _ ho, zA, zA]
        exact ⟨1, 0, _, _, rfl, rfl⟩
  | false =>
    simp only [Bool.false_eq_true, if_false]
    rw [v5n, zA]
    cases h2 : dgt text[a] with
    | true =>
      simp only [if_true]
      unfold z3O z0I
      rw [v2c text hl out a (text.length - a) a (by omega) (by omega), zA, y0i]
      simp only []
      have hlen : ((text.drop a).take (tw dgt (text.drop a))).length = tw dgt (text.drop a) := by rw [List.length_take, List.length_drop]; omega
      have hall := v4z dgt (text.drop a)
      have hone : one (text.drop a) = match num ((text.drop a).take (tw dgt (text.drop a))) with | none => .inl 5 | some n => .inr (2, (n : Int), [], tw dgt (text.drop a)) := by
        conv => lhs; rw [hd, one, if_neg (by rw [h1]; simp), if_pos h2, ← hd]
        cases num ((text.drop a).take (tw dgt (text.drop a))) <;> rfl
      have hpos : 1 ≤ tw dgt (text.drop a) := by rw [z6V _ ha, if_pos h2]; omega
      rw [hone]
      generalize hw : (text.drop a).take (tw dgt (text.drop a)) = w at *
      have tl : w.length ≤ 19 → (yD (a : Int) w 0 w.length 0 text ((a + tw dgt (text.drop a) : Nat) : Int) out) = some (if v0i 0 w > 9223372036854775807 then (5, text, ((a + tw dgt (text.drop a) : Nat) : Int), out) else (0, text, ((a + tw dgt (text.drop a) : Nat) : Int), out ++ [⟨2, (v0i 0 w : Int), [], (a : Int), ((a + tw dgt (text.drop a) : Nat) : Int)⟩])) := fun h19 => by
        have := v3Q (a : Int) w hall h19 text ((a + tw dgt (text.drop a) : Nat) : Int) out ho w.length 0 0 (by omega) (by omega)
        simpa using this
      by_cases h19 : (List.length w : Int) > 19
      · rw [if_pos h19]
        right
        have hnum : num w = none := by
          unfold num
          by_cases hz : w.length > 1 ∧ v1b 48 w = true
          · rw [if_pos hz]
          · rw [if_neg hz, if_pos ?_]
            cases w with
            | nil => simp at h19
            | cons x q =>
              have hx : x.toNat ≠ 48 := fun e => hz ⟨by omega, by simp [v1b, e]⟩
              have hdx := hall x (by simp)
              unfold dgt at hdx
              simp only [Bool.and_eq_true, decide_eq_true_eq] at hdx
              have hlow := v2x q (0 * 10 + (x.toNat - 48))
              rw [z9Q]
              have hq : 19 ≤ q.length := by simp at h19; omega
              have hp : 10 ^ 19 ≤ 10 ^ q.length := Nat.pow_le_pow_right (by omega) hq
              have : 1 * 10 ^ q.length ≤ (0 * 10 + (x.toNat - 48)) * 10 ^ q.length := Nat.mul_le_mul_right _ (by omega)
              omega
        rw [hnum]
        exact ⟨5, _, rfl, by decide, rfl⟩
      · rw [if_neg h19]
        have fin : ¬ (w.length > 1 ∧ v1b 48 w = true) → (∃ k n s l, (match num w with | none => (.inl 5 : Int ⊕ (Int × Int × Str × Nat)) | some n => .inr (2, (n : Int), [], tw dgt (text.drop a))) = .inr (k, n, s, l) ∧
            (yD (a : Int) w 0 w.length 0 text ((a + tw dgt (text.drop a) : Nat) : Int) out >>= fun q4 => some (q4.1, q4.2.1, q4.2.2.1, q4.2.2.2)) = some (0, text, ((a + l : Nat) : Int), out ++ [⟨k, n, s, (a : Int), ((a + l : Nat) : Int)⟩])) ∨
            (∃ e a', (match num w with | none => (.inl 5 : Int ⊕ (Int × Int × Str × Nat)) | some n => .inr (2, (n : Int), [], tw dgt (text.drop a))) = .inl e ∧ e ≠ 0 ∧ (yD (a : Int) w 0 w.length 0 text ((a + tw dgt (text.drop a) : Nat) : Int) out >>= fun q4 => some (q4.1, q4.2.1, q4.2.2.1, q4.2.2.2)) = some (e, text, a', out)) := fun hz => by
          rw [tl (by omega), zA]
          unfold num
          rw [if_neg hz]
          by_cases hv : v0i 0 w > 9223372036854775807
          · rw [if_pos hv, if_pos hv]; exact .inr ⟨5, _, rfl, by decide, rfl⟩
          · rw [if_neg hv, if_neg hv]; exact .inl ⟨2, _, _, _, rfl, rfl⟩
        by_cases hl1 : (List.length w : Int) > 1
        · rw [if_pos hl1]
          cases w with
          | nil => simp at hl1
          | cons x q =>
            rw [v2X]
            simp only [List.getElem?_cons_zero, zA, show (48 : Int) = ((48 : Nat) : Int) from rfl, v0z]
            by_cases h48 : x.toNat = 48
            · rw [if_pos h48]
              right
              have : num (x :: q) = none := by unfold num; rw [if_pos ⟨by omega, by simp [v1b, h48]⟩]
              rw [this]
              exact ⟨5, _, rfl, by decide, rfl⟩
            · rw [if_neg h48]
              exact fin (by simp [v1b, h48])
        · rw [if_neg hl1]
          exact fin (by omega)
    | false =>
      simp only [Bool.false_eq_true, if_false]
      have hone : one (text.drop a) = if sgn text[a].toNat (hd0 (text.drop (a + 1))) = 0 then .inl 4 else .inr (4, 0, (text.drop a).take (sgn text[a].toNat (hd0 (text.drop (a + 1)))), sgn text[a].toNat (hd0 (text.drop (a + 1)))) := by
        conv => lhs; rw [hd, one, if_neg (by rw [h1]; simp), if_neg (by rw [h2]; simp), ← hd]
      have hsl := v4Z text[a] (text.drop (a + 1))
      rw [← hd, List.length_drop] at hsl
      rw [v6E text hl a (by omega), zA]
      rw [show Int.ofNat (UInt8.toNat text[a]) = ((UInt8.toNat text[a] : Nat) : Int) from rfl, v5N, zA, hone]
      by_cases h3 : sgn text[a].toNat (hd0 (text.drop (a + 1))) = 0
      · rw [if_pos h3, if_pos (show ((sgn text[a].toNat (hd0 (text.drop (a + 1))) : Nat) : Int) = 0 by omega)]
        exact .inr ⟨4, _, rfl, by decide, rfl⟩
      · rw [if_neg h3, if_neg (show ¬ ((sgn text[a].toNat (hd0 (text.drop (a + 1))) : Nat) : Int) = 0 by omega)]
        left
        generalize sgn text[a].toNat (hd0 (text.drop (a + 1))) = g at *
        rw [z0Q (by omega) (by omega), show (a : Int) + (g : Int) = ((a + g : Nat) : Int) by omega, v6k (by omega) (by omega)]
        rw [show Int.toNat ((a + g : Nat) : Int) = a + g from rfl, show Int.toNat (a : Int) = a from rfl, y0i, y5Y _ _ _ _ _ _ _ ho, zA]
        exact ⟨4, 0, _, _, rfl, rfl⟩
theorem v7u (text : Str) (hl : text.length ≤ 9000) : ∀ (n a : Nat) (out : List zB), text.length < a + n → a ≤ text.length → out.length ≤ a →
    uL text text a out = some (y5B n (text.drop a) a out) := by
  intro n
  induction n with
  | zero => intro a out h1 h2; omega
  | succ n ih =>
    intro a out h1 h2 ho
    rw [y5p]; unfold z2X
    by_cases ha : a < text.length
    · have hd := List.drop_eq_getElem_cons ha
      rw [if_pos (show (a : Int) < (List.length text : Int) by omega)]
      have ht : y5B (n + 1) (text.drop a) a out = match one (text.drop a) with
        | .inl e => ([], (a : Int), e)
        | .inr (k, m, t, l) => y5B n (((text.drop a).drop l).drop (nxt 10000 ((text.drop a).drop l))) (a + l + nxt 10000 ((text.drop a).drop l)) (out ++ [⟨k, m, t, a, ((a + l : Nat) : Int)⟩]) := by
        rw [hd, y5B]
        rfl
      rw [ht]
      rcases v7T text (by omega) a ha out (by omega) with ⟨k, m, t, l, e1, e2⟩ | ⟨e, a', e1, e0, e2⟩
      · have hlen := y8B e1
        rw [List.length_drop] at hlen
        rw [e1, e2, zA]
        simp only []
        rw [if_pos True.intro]
        unfold z2S
        have hle := y0X 10000 (text.drop (a + l))
        rw [List.length_drop] at hle
        rw [v5e text (by omega) _ 10000 (a + l) (by omega) (by omega), zA, show (text.drop a).drop l = text.drop (a + l) from List.drop_drop .., List.drop_drop (l := text)]
        exact ih (a + l + nxt 10000 (text.drop (a + l))) (out ++ [(⟨k, m, t, a, ((a + l : Nat) : Int)⟩ : zB)]) (by omega) (by omega) (by simp only [List.length_append, List.length_cons, List.length_nil]; omega)
      · rw [e1, e2, zA]
        simp only []
        rw [if_neg e0]
    · have h4 : text.drop a = [] := List.drop_eq_nil_of_le (by omega)
      have h5 : a = text.length := by omega
      rw [if_neg (show ¬ (a : Int) < (List.length text : Int) by omega), h4, y5B]
      rw [y5Y _ _ _ _ _ _ _ (by omega), zA]
theorem v0j (text : Str) (h : text.length ≤ 9223372036854775807) : z8e text = some (z9D text) := by
  unfold z8e z9D
  by_cases h1 : (List.length text : Int) > 8192
  · rw [if_pos h1, if_pos (show text.length > 8192 by omega)]
  · rw [if_neg h1, if_neg (show ¬ text.length > 8192 by omega)]
    unfold z2S
    have hle := y0X 10000 text
    have e2 := v5e text (by omega) [] 10000 0 (by omega) (by omega)
    rw [show ((0 : Nat) : Int) = 0 from rfl, List.drop_zero, Nat.zero_add] at e2
    rw [e2, zA]
    exact v7u text (by omega) 10000 (nxt 10000 text) [] (by omega) (by omega) (by simp)
theorem v7F (text : List UInt8) : ∀ (n a : Nat) (out : List zB), text.length < a + n → a ≤ text.length → (y5B n (text.drop a) a out).2.2 = 0 → ∃ r, (y5B n (text.drop a) a out).1 = out ++ r ∧ r.length + a ≤ text.length + 1 ∧ ∀ x ∈ r, x.To ≤ (text.length : Int) := by
  intro n
  induction n with
  | zero => intro a out h1 h2; omega
  | succ n ih =>
    intro a out h1 h2 he
    by_cases ha : a < text.length
    · have hd := List.drop_eq_getElem_cons ha
      have ht : y5B (n + 1) (text.drop a) a out = match one (text.drop a) with
        | .inl e => ([], (a : Int), e)
        | .inr (k, m, t, l) => y5B n (((text.drop a).drop l).drop (nxt 10000 ((text.drop a).drop l))) (a + l + nxt 10000 ((text.drop a).drop l)) (out ++ [⟨k, m, t, a, ((a + l : Nat) : Int)⟩]) := by
        rw [hd, y5B]
        rfl
      rw [ht] at he ⊢
      cases ho : one (text.drop a) with
      | inl e =>
        rw [ho] at he
        exfalso
        have he2 : e = 0 := he
        rw [hd] at ho
        rw [one] at ho
        subst he2
        revert ho
        repeat' split
        all_goals (intro ho; first | (injection ho with ho; omega) | cases ho)
      | inr q =>
        obtain ⟨k, m, t, l⟩ := q
        rw [ho] at he
        dsimp only at he ⊢
        have hlen := y8B ho
        rw [List.length_drop] at hlen
        have hle := y0X 10000 (text.drop (a + l))
        rw [List.length_drop] at hle
        rw [show (text.drop a).drop l = text.drop (a + l) from List.drop_drop .., List.drop_drop (l := text)] at he ⊢
        obtain ⟨r, e1, e2, e3⟩ := ih (a + l + nxt 10000 (text.drop (a + l))) _ (by omega) (by omega) he
        refine ⟨⟨k, m, t, a, ((a + l : Nat) : Int)⟩ :: r, by rw [e1]; simp, by simp only [List.length_cons]; omega, fun x hx => ?_⟩
        rcases List.mem_cons.1 hx with rfl | hx
        · show ((a + l : Nat) : Int) ≤ _; omega
        · exact e3 x hx
    · have h4 : text.drop a = [] := List.drop_eq_nil_of_le (by omega)
      have h5 : a = text.length := by omega
      rw [h4, y5B]
      exact ⟨[⟨5, 0, [], a, a⟩], rfl, by simp only [List.length_cons, List.length_nil]; omega, fun x hx => by simp at hx; subst hx; show (a : Int) ≤ _; omega⟩
theorem v2L {text : Str} (h : (z9D text).2.2 = 0) : (z9D text).1.length ≤ text.length + 1 ∧ ∀ x ∈ (z9D text).1, x.To ≤ (text.length : Int) := by
  unfold z9D at h ⊢
  by_cases h1 : text.length > 8192
  · rw [if_pos h1] at h; cases h
  · rw [if_neg h1] at h ⊢
    have hle := y0X 10000 text
    obtain ⟨r, e1, e2, e3⟩ := v7F text 10000 (nxt 10000 text) [] (by omega) (by omega) h
    rw [e1]; exact ⟨by rw [List.nil_append]; omega, by rw [List.nil_append]; exact e3⟩
structure Tk (t : List zB) (n : Nat) : Prop where
  mon : Mon t
  len : n + 1 = t.length
  lst : (zQ t n).K = 5
  room : t.length ≤ 1048576
theorem Tk.ln {t : List zB} {n : Nat} (h : Tk t n) : Lst t n := fun i hi => by
  by_cases e : i = n
  · subst e; exact h.lst
  · unfold zQ; have := h.len; rw [List.getElem?_eq_none (by omega)]; rfl
theorem Tk.idx {t : List zB} {n : Nat} (h : Tk t n) {a : Nat} (ha : a ≤ n) : idx t (a : Int) = some (zQ t a) := by
  have := h.len
  rw [z1W (show a < t.length by omega)]; unfold zQ; rw [List.getElem?_eq_getElem (show a < t.length by omega)]; rfl
def G (t : List zB) (a b : Nat) (x : zE) : Prop := Bt t a b x ∧ z1s x + 400 * a ≤ 400 * b ∧ a < b
def LL (c : Nat) (t : List zB) (f a : Nat) (l : List zE) : Prop := CH t f a l ∧ gA l + 400 * f + c ≤ 400 * a ∧ f + l.length ≤ a
theorem LL.nil {c : Nat} {t : List zB} {f a : Nat} (h : 400 * f + c ≤ 400 * a) : LL c t f a [] := ⟨CH.nil _ _ _, by simp only [gA]; omega, by simp; omega⟩
theorem v2f (l : List zE) (x : zE) : gA (l ++ [x]) = gA l + z1s x := by rw [y0u]; simp [gA]
section
variable {t : List zB} {n : Nat} (tk : Tk t n)
include tk
theorem LL.step {c f a a' : Nat} {l : List zE} (h : LL c t f a l) (h1 : a ≤ a') (h2 : a' ≤ n) : LL c t f a' l := by
  obtain ⟨g1, g2, g3⟩ := h
  have := tk.len
  exact ⟨g1.step tk.mon h1 (by omega), by omega, by omega⟩
theorem LL.snoc {c f a b : Nat} {l : List zE} {x : zE} (h : LL c t f a l) (hx : G t a b x) (h2 : b ≤ n) : LL c t f b (l ++ [x]) := by
  obtain ⟨g1, g2, g3⟩ := h
  obtain ⟨x1, x2, x3⟩ := hx
  have := tk.len
  exact ⟨g1.snoc tk.mon (by omega) x3 (by omega) x1, by rw [v2f]; omega, by rw [List.length_append]; simp only [List.length_cons, List.length_nil]; omega⟩
theorem LL.mk {f b : Nat} {l : List zE} {k m : Int} {s : Str} (h : LL 1 t f b l) (h2 : b ≤ n) : G t f b ⟨k, m, s, l, (zQ t f).From, (zQ t (b - 1)).To⟩ := by
  obtain ⟨g1, g2, g3⟩ := h
  have := tk.len
  exact ⟨g1.mk (k := k) (n := m) (s := s) tk.mon (by omega) (by omega), by simp only [z1s]; omega, by omega⟩
variable (K N : Int) (S : Str) (L : List zE) (F T : Int)
def Ret {α : Type} (t : List zB) (n : Nat) (K N : Int) (S : Str) (L : List zE) (F T : Int) (a : Nat) (e : Int) (p : Option (α × List zB × Int × Int × Int × Int × Str × List zE × Int × Int)) (P : α → Nat → Prop) : Prop :=
  ∃ (x : α) (b : Nat) (e' : Int), p = some (x, t, (b : Int), e', K, N, S, L, F, T) ∧ a ≤ b ∧ b ≤ n ∧ (e' = 0 → e = 0 ∧ P x b)
def y7l (t : List zB) (k : Int) (s : Str) (a : Nat) : Bool := decide ((zQ t a).K = k) && ((zQ t a).S == s)
theorem z8A {k : Int} {s : Str} {a : Nat} (hk : k ≠ 5) (h : y7l t k s a = true) : a < n := z1G tk.ln (by
  unfold y7l at h
  simp only [Bool.and_eq_true, decide_eq_true_eq] at h
  rw [h.1]; exact hk)
theorem z7y (k : Int) (s : Str) {a : Nat} (e : Int) (ha : a ≤ n) : jH k s t a e K N S L F T = some (y7l t k s a) := by
  unfold jH y7l
  rw [tk.idx ha, zA]
  by_cases h : (zQ t a).K = k
  · rw [if_pos h, zA, decide_eq_true h]; rfl
  · rw [if_neg h, decide_eq_false h]; rfl
theorem z6d {a : Nat} (ha : a ≤ n) : IntKind.wrap .i64 ((a : Int) + 1) = ((a + 1 : Nat) : Int) := by
  have := tk.len; have := tk.room
  rw [z0Q (by omega) (by omega)]; omega
theorem z7g (k : Int) (s : Str) {a : Nat} {e : Int} (ha : a ≤ n) (he : e = 0) (h : y7l t k s a = true) : z0s k s t a e K N S L F T = some (true, t, ((a + 1 : Nat) : Int), e, K, N, S, L, F, T) := by
  unfold z0s
  rw [if_pos he, z7y tk K N S L F T k s e ha, zA, if_pos h, z6d tk ha]
theorem z7E (k : Int) (s : Str) {a : Nat} {e : Int} (ha : a ≤ n) (h : ¬ (e = 0 ∧ y7l t k s a = true)) : z0s k s t a e K N S L F T = some (false, t, (a : Int), e, K, N, S, L, F, T) := by
  unfold z0s
  by_cases he : e = 0
  · rw [if_pos he, z7y tk K N S L F T k s e ha, zA, if_neg (fun g => h ⟨he, g⟩)]
  · rw [if_neg he]
theorem z3V (k : Int) (s : Str) {a : Nat} (e : Int) (hk : k ≠ 5) (ha : a ≤ n) : ∃ (b : Nat) (e' : Int), yE k s t a e K N S L F T = some (t, (b : Int), e', K, N, S, L, F, T) ∧ a ≤ b ∧ b ≤ n ∧ (e' = 0 → e = 0 ∧ b = a + 1) := by
  unfold yE
  by_cases he : e = 0
  · rw [if_pos he]
    by_cases h : y7l t k s a = true
    · rw [z7g tk K N S L F T k s ha he h, zA, if_pos rfl]
      have := z8A tk hk h
      exact ⟨a + 1, e, rfl, by omega, by omega, fun _ => ⟨he, rfl⟩⟩
    · rw [z7E tk K N S L F T k s ha (fun g => h g.2), zA]; dsimp only
      rw [if_neg (by decide)]
      exact ⟨a, 6, rfl, by omega, ha, fun g => absurd g (by decide)⟩
  · rw [if_neg he]
    exact ⟨a, e, rfl, by omega, ha, fun g => absurd g he⟩
theorem y6Y {a : Nat} (e : Int) (ha : a ≤ n) : Ret t n K N S L F T a e (wC t a e K N S L F T) (fun _ b => b = a + 1) := by
  unfold wC
  by_cases he : e = 0
  · rw [if_pos he, tk.idx ha, zA]
    by_cases h : (zQ t a).K = 1
    · have h0 := z1G tk.ln (a := a) (by rw [h]; decide)
      have h1 := tk.len
      have h2 := tk.room
      rw [if_pos h, z6d tk ha, z0Q (by omega) (by omega), show ((a + 1 : Nat) : Int) - 1 = (a : Int) by omega, tk.idx ha, zA]
      exact ⟨_, a + 1, e, rfl, by omega, by omega, fun _ => ⟨he, rfl⟩⟩
    · rw [if_neg h]
      exact ⟨_, a, 6, rfl, by omega, ha, fun g => absurd g (by decide)⟩
  · rw [if_neg he]
    exact ⟨_, a, e, rfl, by omega, ha, fun g => absurd g he⟩
theorem z8F (k m : Int) (s : Str) {f b : Nat} (l : List zE) (e : Int) (hb : b ≤ n) (h : e = 0 → LL 1 t f b l) : ∃ x, vO k m s f l t b e K N S L F T = some x ∧ (e = 0 → G t f b x) := by
  unfold vO
  by_cases he : e = 0
  · have g := h he
    have g2 := g.2.2
    have g1 := g.2.1
    have h1 := tk.len
    have h2 := tk.room
    rw [if_pos he, tk.idx (show f ≤ n by omega), zA, z0Q (by omega) (by omega), show (b : Int) - 1 = ((b - 1 : Nat) : Int) by omega, tk.idx (show b - 1 ≤ n by omega), zA]
    exact ⟨_, rfl, fun _ => LL.mk tk g hb⟩
  · rw [if_neg he]
    exact ⟨_, rfl, fun g => absurd g he⟩
theorem y3K {a : Nat} (e : Int) (ha : a ≤ n) : Ret t n K N S L F T a e (yL t a e K N S L F T) (fun x b => G t a b x) := by
  have h1 := tk.len
  have h2 := tk.room
  unfold yL
  by_cases he : e = 0
  · rw [if_pos he]
    unfold z5c gY
    obtain ⟨x, e1, e2⟩ := v1r t (by omega) (t.length + 1) a (by omega) (by omega)
    rw [if_neg (by omega), if_neg (by omega), e1, zA]
    dsimp only
    by_cases h3 : (typ (t.length + 1) t a).2.2 = 0
    · have q := v2e tk.ln (t.length + 1) a (by omega) h3
      obtain ⟨g1, g2⟩ := v3l tk.mon (t.length + 1) a (by omega) h3
      rw [if_pos h3, zA, zA, e2 h3]
      exact ⟨(typ (t.length + 1) t a).1, (typ (t.length + 1) t a).2.1, 0, rfl, by omega, q.2, fun _ => ⟨he, g1, by omega, q.1⟩⟩
    · have q := y3H tk.ln (t.length + 1) a (by omega) ha h3
      rw [if_neg h3, zA, zA]
      exact ⟨_, (typ (t.length + 1) t a).2.1, _, rfl, q.1, q.2, fun g => absurd g h3⟩
  · rw [if_neg he]
    exact ⟨_, a, e, rfl, by omega, ha, fun g => absurd g he⟩
theorem v2y {a : Nat} (e : Int) (ha : a ≤ n) : Ret t n K N S L F T a e (vQ t a e K N S L F T) (fun x b => G t a b x) := by
  have h1 := tk.len
  have h2 := tk.room
  unfold vQ
  by_cases he : e = 0
  · rw [if_pos he]
    obtain ⟨r, hr⟩ := (v2Q t (t.length - a) a (by omega)).2
    rw [y9o t (by omega) a (by omega) hr, zA]
    have q := hr.inSn tk.ln (show n < t.length by omega) ha
    cases r with
    | ok x b =>
      simp only [y4M] at q
      have g1 := v3x tk.mon hr (by omega) x b rfl
      have g2 : z1s x + 400 * a + 500 ≤ 400 * b := v3O tk.mon hr (by omega) x b rfl
      exact ⟨x, b, 0, rfl, by omega, q.2, fun _ => ⟨he, g1, by omega, q.1⟩⟩
    | bad b =>
      simp only [y4M] at q
      exact ⟨zT7, b, 6, rfl, q.1, q.2, fun g => absurd g (by decide)⟩
  · rw [if_neg he]
    exact ⟨_, a, e, rfl, by omega, ha, fun g => absurd g he⟩
end
section
variable {t : List zB} {n : Nat} (tk : Tk t n) (K N : Int) (S : Str) (L : List zE) (F T : Int)
include tk
theorem y3Z {a : Nat} (e : Int) (ha : a ≤ n) : Ret t n K N S L F T a e (uY t a e K N S L F T) (fun x b => G t a b x) := by
  unfold uY
  obtain ⟨s, b1, e1, h1, l1, m1, P1⟩ := y6Y tk K N S L F T e ha
  rw [h1, zA]; dsimp only
  obtain ⟨b2, e2, h2, l2, m2, P2⟩ := z3V tk K N S L F T 4 [58] e1 (by decide) m1
  rw [h2, zA]; dsimp only
  obtain ⟨x3, b3, e3, h3, l3, m3, P3⟩ := y3K tk K N S L F T e2 m2
  rw [h3, zA]; dsimp only
  obtain ⟨x, h4, P4⟩ := z8F tk K N S L F T 34 0 s (f := a) (b := b3) [x3] e3 m3 (fun h => by
    obtain ⟨q3, g3⟩ := P3 h
    obtain ⟨q2, g2⟩ := P2 q3
    obtain ⟨q1, g1⟩ := P1 q2
    exact LL.snoc tk (l := []) (LL.nil (a := b2) (by omega)) g3 m3)
  rw [h4, zA]
  exact ⟨x, b3, e3, rfl, by omega, m3, fun h => ⟨(P1 (P2 (P3 h).1).1).1, P4 h⟩⟩
theorem z9N {out : List zE} {a : Int} {e : Int} (h : e ≠ 0) : zH out t a e K N S L F T = some (out, t, a, e, K, N, S, L, F, T) := by
  rw [jP]; unfold yO
  rw [if_neg h]
theorem v6j {c f a : Nat} {l : List zE} {x : zE} (h : LL c t f a l) (ha : a ≤ n) : z1i 72 (List.length l + List.length [x]) := by
  have := h.2.2; have := tk.len; have := tk.room
  exact y0g (by simp only [List.length_cons, List.length_nil]; omega)
theorem v5b {c f : Nat} : ∀ (k : Nat) (out : List zE) (a : Nat) (e : Int), n < a + k → a ≤ n → (e = 0 → LL c t f a out) → Ret t n K N S L F T a e (zH out t a e K N S L F T) (fun l b => LL c t f b l) := by
  intro k
  induction k with
  | zero => intro out a e h1 h2; omega
  | succ k ih =>
    intro out a e h1 h2 hl
    by_cases he : e = 0
    · rw [jP]; unfold yO z2R
      rw [if_pos he]
      by_cases h : y7l t 4 [44] a = true
      · have hlt := z8A tk (by decide) h
        rw [z7g tk K N S L F T 4 [44] h2 he h, zA, zA]; dsimp only
        rw [if_pos rfl]
        obtain ⟨x, b, e1, h3, l3, m3, P3⟩ := y3Z tk K N S L F T (a := a + 1) e (by omega)
        rw [h3, zA]; dsimp only
        rw [if_pos (v6j tk (hl he) h2)]
        obtain ⟨y, b', e2, h4, l4, m4, P4⟩ := ih (out ++ [x]) b e1 (by omega) m3 (fun h => LL.snoc tk (LL.step tk (hl he) (show a ≤ a + 1 by omega) (by omega)) (P3 h).2 m3)
        exact ⟨y, b', e2, h4, by omega, m4, fun h => ⟨he, (P4 h).2⟩⟩
      · rw [z7E tk K N S L F T 4 [44] h2 (fun g => h g.2), zA, zA]; dsimp only
        rw [if_neg (by decide)]
        exact ⟨_, a, e, rfl, by omega, h2, fun _ => ⟨he, hl he⟩⟩
    · rw [z9N tk K N S L F T he]
      exact ⟨_, a, e, rfl, by omega, h2, fun g => absurd g he⟩
theorem y9M {a : Nat} (e : Int) (ha : a ≤ n) : Ret t n K N S L F T a e (uK t a e K N S L F T) (fun x b => G t a b x) := by
  unfold uK
  obtain ⟨b1, e1, h1, l1, m1, P1⟩ := z3V tk K N S L F T 4 [40] e (by decide) ha
  rw [h1, zA]; dsimp only
  by_cases h : e1 = 0 ∧ y7l t 4 [41] b1 = true
  · have hlt := z8A tk (by decide) h.2
    rw [z7g tk K N S L F T 4 [41] m1 h.1 h.2, zA]; dsimp only
    rw [if_pos rfl]
    obtain ⟨x, h4, P4⟩ := z8F tk K N S L F T 35 0 [] (f := a) (b := b1 + 1) [] e1 (by omega) (fun h => LL.nil (by have := P1 h; omega))
    rw [h4, zA]
    exact ⟨x, b1 + 1, e1, rfl, by omega, by omega, fun h => ⟨(P1 h).1, P4 h⟩⟩
  · rw [z7E tk K N S L F T 4 [41] m1 h, zA]; dsimp only
    rw [if_neg (by decide)]
    unfold vZ
    obtain ⟨x, b2, e2, h2, l2, m2, P2⟩ := y3Z tk K N S L F T e1 m1
    rw [h2, zA]; dsimp only
    obtain ⟨y, b3, e3, h3, l3, m3, P3⟩ := v5b (c := 1) (f := a) tk K N S L F T (n + 1) [x] b2 e2 (by omega) m2 (fun h => by
      obtain ⟨q2, g2⟩ := P2 h
      have := (P1 q2).2
      exact LL.snoc tk (l := []) (LL.nil (a := b1) (by omega)) g2 m2)
    rw [h3, zA]; dsimp only
    obtain ⟨b4, e4, h4, l4, m4, P4⟩ := z3V tk K N S L F T 4 [41] e3 (by decide) m3
    rw [h4, zA]; dsimp only
    obtain ⟨z, h5, P5⟩ := z8F tk K N S L F T 35 0 [] (f := a) (b := b4) y e4 m4 (fun h => LL.step tk (P3 (P4 h).1).2 l4 m4)
    rw [h5, zA]
    exact ⟨z, b4, e4, rfl, by omega, m4, fun h => ⟨(P1 (P2 (P3 (P4 h).1).1).1).1, P5 h⟩⟩
theorem v5R {a b0 : Nat} (k : Int) (e e0 : Int) (hb : b0 ≤ n) (hab : a ≤ b0) (h0 : e0 = 0 → e = 0 ∧ a < b0) : Ret t n K N S L F T a e (
    wC t b0 e0 K N S L F T >>= fun q3 =>
    uK q3.2.1 q3.2.2.1 q3.2.2.2.1 q3.2.2.2.2.1 q3.2.2.2.2.2.1 q3.2.2.2.2.2.2.1 q3.2.2.2.2.2.2.2.1 q3.2.2.2.2.2.2.2.2.1 q3.2.2.2.2.2.2.2.2.2 >>= fun q4 =>
    yE 4 ([58] : List UInt8) q4.2.1 q4.2.2.1 q4.2.2.2.1 q4.2.2.2.2.1 q4.2.2.2.2.2.1 q4.2.2.2.2.2.2.1 q4.2.2.2.2.2.2.2.1 q4.2.2.2.2.2.2.2.2.1 q4.2.2.2.2.2.2.2.2.2 >>= fun q5 =>
    yL q5.1 q5.2.1 q5.2.2.1 q5.2.2.2.1 q5.2.2.2.2.1 q5.2.2.2.2.2.1 q5.2.2.2.2.2.2.1 q5.2.2.2.2.2.2.2.1 q5.2.2.2.2.2.2.2.2 >>= fun q6 =>
    vQ q6.2.1 q6.2.2.1 q6.2.2.2.1 q6.2.2.2.2.1 q6.2.2.2.2.2.1 q6.2.2.2.2.2.2.1 q6.2.2.2.2.2.2.2.1 q6.2.2.2.2.2.2.2.2.1 q6.2.2.2.2.2.2.2.2.2 >>= fun q7 =>
    vO 33 k q3.1 a [q4.1, q6.1, q7.1] q7.2.1 q7.2.2.1 q7.2.2.2.1 q7.2.2.2.2.1 q7.2.2.2.2.2.1 q7.2.2.2.2.2.2.1 q7.2.2.2.2.2.2.2.1 q7.2.2.2.2.2.2.2.2.1 q7.2.2.2.2.2.2.2.2.2 >>= fun q8 =>
    some (q8, q7.2.1, q7.2.2.1, q7.2.2.2.1, q7.2.2.2.2.1, q7.2.2.2.2.2.1, q7.2.2.2.2.2.2.1, q7.2.2.2.2.2.2.2.1, q7.2.2.2.2.2.2.2.2.1, q7.2.2.2.2.2.2.2.2.2)) (fun x b => G t a b x) := by
  obtain ⟨s, b1, e1, h1, l1, m1, P1⟩ := y6Y tk K N S L F T e0 hb
  rw [h1, zA]; dsimp only
  obtain ⟨x2, b2, e2, h2, l2, m2, P2⟩ := y9M tk K N S L F T e1 m1
  rw [h2, zA]; dsimp only
  obtain ⟨b3, e3, h3, l3, m3, P3⟩ := z3V tk K N S L F T 4 [58] e2 (by decide) m2
  rw [h3, zA]; dsimp only
  obtain ⟨x4, b4, e4, h4, l4, m4, P4⟩ := y3K tk K N S L F T e3 m3
  rw [h4, zA]; dsimp only
  obtain ⟨x5, b5, e5, h5, l5, m5, P5⟩ := v2y tk K N S L F T e4 m4
  rw [h5, zA]; dsimp only
  obtain ⟨x, h6, P6⟩ := z8F tk K N S L F T 33 k s (f := a) (b := b5) [x2, x4, x5] e5 m5 (fun h => by
    obtain ⟨q4, g5⟩ := P5 h
    obtain ⟨q3, g4⟩ := P4 q4
    obtain ⟨q2, g3⟩ := P3 q3
    obtain ⟨q1, g2⟩ := P2 q2
    obtain ⟨q0, g1⟩ := P1 q1
    have := (h0 q0).2
    have c1 := LL.snoc tk (l := []) (LL.nil (c := 1) (f := a) (a := b1) (by omega)) g2 m2
    have c2 := LL.snoc tk (LL.step tk c1 l3 m3) g4 m4
    exact LL.snoc tk c2 g5 m5)
  rw [h6, zA]
  exact ⟨x, b5, e5, rfl, by omega, m5, fun h => ⟨(h0 (P1 (P2 (P3 (P4 (P5 h).1).1).1).1).1).1, P6 h⟩⟩
theorem y6I {a : Nat} (e : Int) (ha : a ≤ n) : Ret t n K N S L F T a e (gV t a e K N S L F T) (fun x b => G t a b x) := by
  unfold gV
  by_cases h : e = 0 ∧ y7l t 3 [112, 117, 98] a = true
  · have hlt := z8A tk (by decide) h.2
    rw [z7g tk K N S L F T 3 _ ha h.1 h.2, zA]; dsimp only
    rw [if_pos rfl]
    obtain ⟨b1, e1, h1, l1, m1, P1⟩ := z3V tk K N S L F T 3 [102, 110] (a := a + 1) e (by decide) (by omega)
    rw [h1, zA]; dsimp only
    exact v5R tk K N S L F T 1 e e1 m1 (by omega) (fun h => ⟨(P1 h).1, by omega⟩)
  · rw [z7E tk K N S L F T 3 _ ha h, zA]; dsimp only
    rw [if_neg (by decide)]
    obtain ⟨b1, e1, h1, l1, m1, P1⟩ := z3V tk K N S L F T 3 [102, 110] e (by decide) ha
    rw [h1, zA]; dsimp only
    exact v5R tk K N S L F T 0 e e1 m1 (by omega) (fun h => ⟨(P1 h).1, by have := (P1 h).2; omega⟩)
theorem v4o {a : Nat} (e : Int) (ha : a < n) : Ret t n K N S L F T a e (z0d t a e K N S L F T) (fun x b => G t a b x) := by
  unfold z0d
  rw [z6d tk (by omega)]
  obtain ⟨s, b1, e1, h1, l1, m1, P1⟩ := y6Y tk K N S L F T (a := a + 1) e (by omega)
  rw [h1, zA]; dsimp only
  obtain ⟨b2, e2, h2, l2, m2, P2⟩ := z3V tk K N S L F T 4 [58] e1 (by decide) m1
  rw [h2, zA]; dsimp only
  obtain ⟨x3, b3, e3, h3, l3, m3, P3⟩ := y3K tk K N S L F T e2 m2
  rw [h3, zA]; dsimp only
  obtain ⟨b4, e4, h4, l4, m4, P4⟩ := z3V tk K N S L F T 4 [59] e3 (by decide) m3
  rw [h4, zA]; dsimp only
  obtain ⟨x, h5, P5⟩ := z8F tk K N S L F T 32 0 s (f := a) (b := b4) [x3] e4 m4 (fun h => by
    obtain ⟨q3, g4⟩ := P4 h
    obtain ⟨q2, g3⟩ := P3 q3
    exact LL.step tk (LL.snoc tk (l := []) (LL.nil (a := b2) (by omega)) g3 m3) l4 m4)
  rw [h5, zA]
  exact ⟨x, b4, e4, rfl, by omega, m4, fun h => ⟨(P1 (P2 (P3 (P4 h).1).1).1).1, P5 h⟩⟩
theorem v2D {a : Nat} (e : Int) (ha : a ≤ n) : Ret t n K N S L F T a e (gD t a e K N S L F T) (fun x b => ∃ c, c + 1 = b ∧ G t a c x) := by
  unfold gD
  obtain ⟨x, b1, e1, h1, l1, m1, P1⟩ := y3Z tk K N S L F T e ha
  rw [h1, zA]; dsimp only
  obtain ⟨b2, e2, h2, l2, m2, P2⟩ := z3V tk K N S L F T 4 [59] e1 (by decide) m1
  rw [h2, zA]
  exact ⟨x, b2, e2, rfl, by omega, m2, fun h => ⟨(P1 (P2 h).1).1, b1, (P2 h).2.symm, (P1 (P2 h).1).2⟩⟩
theorem z6B {out : List zE} {a : Int} {e : Int} (h : e ≠ 0) : zG out t a e K N S L F T = some (out, t, a, e, K, N, S, L, F, T) := by
  rw [jQ]; unfold yP
  rw [if_neg h]
theorem v4a {c f : Nat} : ∀ (k : Nat) (out : List zE) (a : Nat) (e : Int), n < a + k → a ≤ n → (e = 0 → LL c t f a out) → Ret t n K N S L F T a e (zG out t a e K N S L F T) (fun l b => LL c t f b l) := by
  intro k
  induction k with
  | zero => intro out a e h1 h2; omega
  | succ k ih =>
    intro out a e h1 h2 hl
    by_cases he : e = 0
    · rw [jQ]; unfold yP z3l
      rw [if_pos he, z7y tk K N S L F T 4 [125] e h2, zA, zA]
      by_cases h : (!y7l t 4 [125] a) = true
      · rw [if_pos h]
        obtain ⟨x, b, e1, h3, l3, m3, P3⟩ := v2D tk K N S L F T e h2
        rw [h3, zA]; dsimp only
        rw [if_pos (v6j tk (hl he) h2)]
        by_cases h5 : e1 = 0
        · obtain ⟨q, c', hc, g⟩ := P3 h5
          have hlt := g.2.2
          obtain ⟨y, b', e2, h4, l4, m4, P4⟩ := ih (out ++ [x]) b e1 (by omega) m3 (fun _ => LL.step tk (LL.snoc tk (hl he) g (by omega)) (show c' ≤ b by omega) m3)
          exact ⟨y, b', e2, h4, by omega, m4, fun h => ⟨he, (P4 h).2⟩⟩
        · rw [z6B tk K N S L F T h5]
          exact ⟨_, b, e1, rfl, l3, m3, fun g => absurd g h5⟩
      · rw [if_neg h]
        exact ⟨_, a, e, rfl, by omega, h2, fun _ => ⟨he, hl he⟩⟩
    · rw [z6B tk K N S L F T he]
      exact ⟨_, a, e, rfl, by omega, h2, fun g => absurd g he⟩
theorem v5k {a : Nat} (e : Int) (ha : a < n) : Ret t n K N S L F T a e (z1b t a e K N S L F T) (fun x b => G t a b x) := by
  unfold z1b uA
  rw [z6d tk (by omega)]
  obtain ⟨s, b1, e1, h1, l1, m1, P1⟩ := y6Y tk K N S L F T (a := a + 1) e (by omega)
  rw [h1, zA]; dsimp only
  obtain ⟨b2, e2, h2, l2, m2, P2⟩ := z3V tk K N S L F T 4 [123] e1 (by decide) m1
  rw [h2, zA]; dsimp only
  obtain ⟨x3, b3, e3, h3, l3, m3, P3⟩ := v2D tk K N S L F T e2 m2
  rw [h3, zA]; dsimp only
  obtain ⟨y, b4, e4, h4, l4, m4, P4⟩ := v4a (c := 1) (f := a) tk K N S L F T (n + 1) [x3] b3 e3 (by omega) m3 (fun h => by
    obtain ⟨q2, c', hc, g⟩ := P3 h
    exact LL.step tk (LL.snoc tk (l := []) (LL.nil (a := b2) (by omega)) g (by omega)) (show c' ≤ b3 by omega) m3)
  rw [h4, zA]; dsimp only
  obtain ⟨b5, e5, h5, l5, m5, P5⟩ := z3V tk K N S L F T 4 [125] e4 (by decide) m4
  rw [h5, zA]; dsimp only
  obtain ⟨z, h6, P6⟩ := z8F tk K N S L F T 30 0 s (f := a) (b := b5) y e5 m5 (fun h => LL.step tk (P4 (P5 h).1).2 l5 m5)
  rw [h6, zA]
  exact ⟨z, b5, e5, rfl, by omega, m5, fun h => ⟨(P1 (P2 (P3 (P4 (P5 h).1).1).1).1).1, P6 h⟩⟩
end
theorem v4t {u : List zB} {k m : Int} {s : Str} (h : z1R u 0 = .one k m s) (h4 : (zQ u 0).K ≠ 4) (h1 : u.length = 1) : Der u (.lev 1) 0 (.ok (jM u 0 1 ⟨k, m, s, [], 0, 0⟩) 1) := by
  have e1 : zQ u 1 = v8q := by unfold zQ; rw [List.getElem?_eq_none (by omega)]; rfl
  have sg : ∀ s, yT u 1 s = false := fun s => by unfold yT; rw [e1]; rfl
  have op : (y0Q (zQ u 1)).2 = 0 := by rw [e1]; rfl
  have d6 : Der u (.lev 6) 0 (.ok (jM u 0 1 ⟨k, m, s, [], 0, 0⟩) 1) := .unP (y3n h4 _) (y3n h4 _) (.post (.one h) (.plE (sg _) (sg _)))
  have lev : ∀ k', 1 ≤ k' → k' ≤ 5 → Der u (.lev (k' + 1)) 0 (.ok (jM u 0 1 ⟨k, m, s, [], 0, 0⟩) 1) → Der u (.lev k') 0 (.ok (jM u 0 1 ⟨k, m, s, [], 0, 0⟩) 1) := fun k' h1 h2 hd => .lev h1 h2 hd (.llE h1 (.inl (by omega)))
  exact lev 1 (by omega) (by omega) (lev 2 (by omega) (by omega) (lev 3 (by omega) (by omega) (lev 4 (by omega) (by omega) (lev 5 (by omega) (by omega) d6))))
theorem v7U (x : zB) (h : x.K = 2 ∨ (x.K = 3 ∧ (x.S = [116, 114, 117, 101] ∨ x.S = [102, 97, 108, 115, 101]))) : ∃ k m s, z1w [x] 0 = some (⟨k, m, s, [], x.From, x.To⟩, 1, 0) := by
  have e0 : zQ [x] 0 = x := rfl
  have fin : ∀ {k m : Int} {s : Str}, z1R [x] 0 = .one k m s → (zQ [x] 0).K ≠ 4 → ∃ k m s, z1w [x] 0 = some (⟨k, m, s, [], x.From, x.To⟩, 1, 0) := fun {k m s} h1 h2 =>
    ⟨k, m, s, y6J [x] (by simp) 0 (by simp) (v4t h1 h2 rfl)⟩
  rcases h with h | ⟨h, h2 | h2⟩
  · refine fin (k := 5) (m := x.N) (s := []) ?_ (by rw [e0, h]; decide)
    unfold z1R; rw [if_pos (by rw [e0, h])]; rfl
  · refine fin (k := 6) (m := 1) (s := []) ?_ (by rw [e0, h]; decide)
    have hw : vD [x] 0 [116, 114, 117, 101] = true := by unfold vD; rw [e0, h, h2]; rfl
    unfold z1R; rw [if_neg (by rw [e0, h]; decide), if_neg (by rw [e0, h]; decide), if_pos hw]
  · refine fin (k := 6) (m := 0) (s := []) ?_ (by rw [e0, h]; decide)
    have hw : vD [x] 0 [102, 97, 108, 115, 101] = true := by unfold vD; rw [e0, h, h2]; rfl
    have hw2 : vD [x] 0 [116, 114, 117, 101] = false := z7F hw (by decide)
    unfold z1R; rw [if_neg (by rw [e0, h]; decide), if_neg (by rw [e0, h]; decide), if_neg (by rw [hw2]; decide), if_pos hw]
section
variable {t : List zB} {n : Nat} (tk : Tk t n) (K N : Int) (S : Str) (L : List zE) (F T : Int)
include tk
theorem v3W {a : Nat} (e : Int) (ha : a ≤ n) : Ret t n K N S L F T a e (vM t a e K N S L F T) (fun x b => G t a b x) := by
  unfold vM
  by_cases he : e = 0
  · rw [if_pos he, tk.idx ha, zA]
    have fin : a < n → ((zQ t a).K = 2 ∨ ((zQ t a).K = 3 ∧ ((zQ t a).S = [116, 114, 117, 101] ∨ (zQ t a).S = [102, 97, 108, 115, 101]))) → Ret t n K N S L F T a e
      (if (0 : Int) ≤ (IntKind.wrap .i64 ((a : Int) + 1)) then
       if Int.toNat (IntKind.wrap .i64 ((a : Int) + 1)) ≤ List.length t then
       if (0 : Int) ≤ (a : Int) then
       if Int.toNat (a : Int) ≤ Int.toNat (IntKind.wrap .i64 ((a : Int) + 1)) then
       z1w (List.drop (Int.toNat (a : Int)) (List.take (Int.toNat (IntKind.wrap .i64 ((a : Int) + 1))) t)) 0 >>= fun q5 =>
       some (q5.1, t, IntKind.wrap .i64 ((a : Int) + 1), e, K, N, S, L, F, T)
       else none
       else none
       else none
       else none) (fun x b => G t a b x) := fun hlt hx => by
      have h1 := tk.len
      obtain ⟨k, m, s, hp⟩ := v7U (zQ t a) hx
      have hsl : List.drop (Int.toNat (a : Int)) (List.take (Int.toNat ((a + 1 : Nat) : Int)) t) = [zQ t a] := by
        rw [show Int.toNat (a : Int) = a from rfl, show Int.toNat ((a + 1 : Nat) : Int) = a + 1 from rfl, List.drop_take, show a + 1 - a = 1 by omega, List.drop_eq_getElem_cons (show a < t.length by omega)]
        unfold zQ; rw [List.getElem?_eq_getElem (show a < t.length by omega)]; rfl
      rw [z6d tk ha, if_pos (by omega), if_pos (by omega), if_pos (by omega), if_pos (by omega), hsl, hp, zA]
      refine ⟨_, a + 1, e, rfl, by omega, by omega, fun _ => ⟨he, ⟨Int.le_refl _, ?_, Int.le_refl _, .mk _ trivial (by simp)⟩, ?_, by omega⟩⟩
      · exact (tk.mon.le (Nat.le_refl a) (by omega)).1
      · simp only [z1s, gA]; omega
    by_cases h2 : (zQ t a).K = 2
    · rw [if_pos h2]
      exact fin (z1G tk.ln (by rw [h2]; decide)) (.inl h2)
    · rw [if_neg h2, z7y tk K N S L F T 3 _ e ha, zA]
      by_cases h3 : y7l t 3 [116, 114, 117, 101] a = true
      · rw [if_pos h3]
        exact fin (z8A tk (by decide) h3) (.inr ⟨(y0M h3).1, .inl (y0M h3).2⟩)
      · rw [if_neg h3, z7y tk K N S L F T 3 _ e ha, zA]
        by_cases h4 : y7l t 3 [102, 97, 108, 115, 101] a = true
        · rw [if_pos h4]
          exact fin (z8A tk (by decide) h4) (.inr ⟨(y0M h4).1, .inr (y0M h4).2⟩)
        · rw [if_neg h4]
          exact ⟨_, a, 6, rfl, by omega, ha, fun g => absurd g (by decide)⟩
  · rw [if_neg he]
    exact ⟨_, a, e, rfl, by omega, ha, fun g => absurd g he⟩
theorem v4V {a : Nat} (e : Int) (ha : a < n) : Ret t n K N S L F T a e (z1h t a e K N S L F T) (fun x b => G t a b x) := by
  unfold z1h
  rw [z6d tk (by omega)]
  obtain ⟨s, b1, e1, h1, l1, m1, P1⟩ := y6Y tk K N S L F T (a := a + 1) e (by omega)
  rw [h1, zA]; dsimp only
  obtain ⟨b2, e2, h2, l2, m2, P2⟩ := z3V tk K N S L F T 4 [61] e1 (by decide) m1
  rw [h2, zA]; dsimp only
  obtain ⟨x3, b3, e3, h3, l3, m3, P3⟩ := v3W tk K N S L F T e2 m2
  rw [h3, zA]; dsimp only
  obtain ⟨b4, e4, h4, l4, m4, P4⟩ := z3V tk K N S L F T 4 [59] e3 (by decide) m3
  rw [h4, zA]; dsimp only
  obtain ⟨x, h5, P5⟩ := z8F tk K N S L F T 31 0 s (f := a) (b := b4) [x3] e4 m4 (fun h => by
    obtain ⟨q3, g4⟩ := P4 h
    obtain ⟨q2, g3⟩ := P3 q3
    exact LL.step tk (LL.snoc tk (l := []) (LL.nil (a := b2) (by omega)) g3 m3) l4 m4)
  rw [h5, zA]
  exact ⟨x, b4, e4, rfl, by omega, m4, fun h => ⟨(P1 (P2 (P3 (P4 h).1).1).1).1, P5 h⟩⟩
theorem Ret.id {a : Nat} {e : Int} {p : Option (zE × List zB × Int × Int × Int × Int × Str × List zE × Int × Int)} {P : zE → Nat → Prop} (h : Ret t n K N S L F T a e p P) :
    Ret t n K N S L F T a e (p >>= fun q2 => some (q2.1, q2.2.1, q2.2.2.1, q2.2.2.2.1, q2.2.2.2.2.1, q2.2.2.2.2.2.1, q2.2.2.2.2.2.2.1, q2.2.2.2.2.2.2.2.1, q2.2.2.2.2.2.2.2.2.1, q2.2.2.2.2.2.2.2.2.2)) P := by
  obtain ⟨x, b, e', h1, h2⟩ := h
  rw [h1, zA]
  exact ⟨x, b, e', rfl, h2⟩
theorem v7h {a : Nat} (e : Int) (ha : a ≤ n) : Ret t n K N S L F T a e (z0H t a e K N S L F T) (fun x b => G t a b x) := by
  unfold z0H
  rw [z7y tk K N S L F T 3 _ e ha, zA]
  by_cases h1 : y7l t 3 [114, 101, 99] a = true
  · rw [if_pos h1]; exact Ret.id tk K N S L F T (v5k tk K N S L F T e (z8A tk (by decide) h1))
  rw [if_neg h1, z7y tk K N S L F T 3 _ e ha, zA]
  by_cases h2 : y7l t 3 [99, 111, 110, 115, 116] a = true
  · rw [if_pos h2]; exact Ret.id tk K N S L F T (v4V tk K N S L F T e (z8A tk (by decide) h2))
  rw [if_neg h2, z7y tk K N S L F T 3 _ e ha, zA]
  by_cases h3 : y7l t 3 [118, 97, 114] a = true
  · rw [if_pos h3]; exact Ret.id tk K N S L F T (v4o tk K N S L F T e (z8A tk (by decide) h3))
  rw [if_neg h3, z7y tk K N S L F T 3 _ e ha, zA]
  by_cases h4 : y7l t 3 [112, 117, 98] a = true
  · rw [if_pos h4]; exact Ret.id tk K N S L F T (y6I tk K N S L F T e ha)
  rw [if_neg h4, z7y tk K N S L F T 3 _ e ha, zA]
  by_cases h5 : y7l t 3 [102, 110] a = true
  · rw [if_pos h5]; exact Ret.id tk K N S L F T (y6I tk K N S L F T e ha)
  rw [if_neg h5]
  exact ⟨_, a, 6, rfl, by omega, ha, fun g => absurd g (by decide)⟩
end
set_option maxRecDepth 10000
abbrev TA : List zB := [⟨3, 0, [118, 97, 114], 0, 3⟩, ⟨1, 0, [97], 4, 5⟩, ⟨4, 0, [58], 5, 6⟩, ⟨3, 0, [105, 110, 116], 7, 10⟩, ⟨4, 0, [59], 10, 11⟩, ⟨5, 0, [], 11, 11⟩]
abbrev xA1 : zE := ⟨1, 0, [], [], 7, 10⟩
abbrev xA2 : zE := ⟨32, 0, [97], [xA1], 0, 11⟩
abbrev xA3 : zE := ⟨36, 0, [], [xA2], 0, 11⟩
theorem wa1 : zP [0, 0] [] 0 0 3 3 = some (3, 3) := by rw [jS]; rfl
theorem wb1 : yF xA1 [0, 0] 2 2 = some (3, 3) := by rw [z2m]; exact wa1
theorem v8w : zP [0] [xA1] 1 1 3 3 = some (3, 3) := by rw [jS]; rfl
theorem wa2 : zP [0] [xA1] 1 0 2 2 = some (3, 3) := by
  rw [jS]
  show (yF xA1 [0, 0] 2 2 >>= fun q1 => zP [0] [xA1] 1 1 q1.1 q1.2) = _
  rw [wb1]; exact v8w
theorem wb2 : yF xA2 [0] 1 1 = some (3, 3) := by rw [z2m]; exact wa2
theorem v8u : zP [] [xA2] 1 1 3 3 = some (3, 3) := by rw [jS]; rfl
theorem wa3 : zP [] [xA2] 1 0 1 1 = some (3, 3) := by
  rw [jS]
  show (yF xA2 [0] 1 1 >>= fun q1 => zP [] [xA2] 1 1 q1.1 q1.2) = _
  rw [wb2]; exact v8u
theorem wb3 : yF xA3 [] 0 0 = some (3, 3) := by rw [z2m]; exact wa3
theorem ka : yY TA 3 0 = some (xA1, TA, 4, 0) := by rw [z4r]; rfl
theorem ta : yL TA 3 0 36 0 [] [] 0 11 = some (xA1, TA, 4, 0, 36, 0, [], [], 0, 11) := by
  unfold yL z5c gY
  rw [if_pos rfl, if_neg (by decide), if_neg (by decide), ka]; rfl
theorem ga : z0d TA 0 0 36 0 [] [] 0 11 = some (xA2, TA, 5, 0, 36, 0, [], [], 0, 11) := by
  unfold z0d
  rw [show wC TA (IntKind.wrap .i64 (0 + 1)) 0 36 0 [] [] 0 11 = some ([97], TA, 2, 0, 36, 0, [], [], 0, 11) from rfl, zA]
  rw [show yE 4 [58] TA 2 0 36 0 [] [] 0 11 = some (TA, 3, 0, 36, 0, [], [], 0, 11) from rfl, zA]
  rw [ta]; rfl
theorem pa2 (o : zE) : wP o TA 5 0 36 0 [] [xA2] 0 11 = some (xA3, 0, 0) := by
  rw [z6g]
  show (z6C xA3 >>= fun q2 => if q2 > 64 then some ((zE.mk 0 0 ([] : List UInt8) [] 0 0), 0, 7) else some (xA3, 0, 0)) = _
  unfold z6C
  rw [wb3]; rfl
theorem pa (o : zE) : wP o TA 0 0 36 0 [] [] 0 11 = some (xA3, 0, 0) := by
  rw [z6g]; unfold z1Z z0H
  rw [show idx TA 0 = some ⟨3, 0, [118, 97, 114], 0, 3⟩ from rfl, zA, if_neg (by decide)]
  rw [show jH 3 [114, 101, 99] TA 0 0 36 0 [] [] 0 11 = some false from rfl, zA, if_neg (by decide)]
  rw [show jH 3 [99, 111, 110, 115, 116] TA 0 0 36 0 [] [] 0 11 = some false from rfl, zA, if_neg (by decide)]
  rw [show jH 3 [118, 97, 114] TA 0 0 36 0 [] [] 0 11 = some true from rfl, zA, if_pos rfl, ga]
  exact pa2 o
theorem v0H : z6D = some true := by
  unfold z6D z5I
  rw [v0j _ (by decide)]
  have : z9D [118, 97, 114, 32, 97, 58, 32, 105, 110, 116, 59] = (TA, 0, 0) := by rfl
  rw [this, zA, if_pos rfl]
  show (wP _ TA 0 0 36 0 [] [] 0 11 >>= _) = _
  rw [pa]; rfl
theorem z1e (t : List zB) (a : Nat) : z0f t a = some (zQ t a) := by
  unfold z0f zQ
  by_cases h : a < t.length
  · rw [if_pos (show (a : Int) < (t.length : Int) by omega), z1W h, zA, List.getElem?_eq_getElem h]; rfl
  · rw [if_neg (show ¬ (a : Int) < (t.length : Int) by omega), List.getElem?_eq_none (by omega)]; rfl
theorem yG (s : Str) (t : List zB) (a : Nat) : yH t a s = some (yT t a s) := by
  unfold yH yT
  rw [z1e, zA]
  by_cases h : (zQ t a).K = 4
  · rw [if_pos h, decide_eq_true h]; rfl
  · rw [if_neg h, decide_eq_false h]; rfl
theorem uD (s : Str) (t : List zB) (a : Nat) : uW t a s = some (vD t a s) := by
  unfold uW vD
  rw [z1e, zA]
  by_cases h : (zQ t a).K = 3
  · rw [if_pos h, decide_eq_true h]; rfl
  · rw [if_neg h, decide_eq_false h]; rfl
theorem z1o (t : List zB) (hl : t.length ≤ 9223372036854775807) (f a : Nat) (hf : f < a) (ha : a ≤ t.length) (k n : Int) (s : Str) (l : List zE) : yS t f a k n s l = some ⟨jM t f a ⟨k, n, s, l, 0, 0⟩, (a : Int), 0⟩ := by
  unfold yS jM zQ
  have h1 : IntKind.wrap .i64 ((a : Int) - 1) = ((a - 1 : Nat) : Int) := by rw [z0Q (by omega) (by omega)]; omega
  rw [z1W (show f < t.length by omega), zA, h1, z1W (show a - 1 < t.length by omega), zA, List.getElem?_eq_getElem (show f < t.length by omega), List.getElem?_eq_getElem (show a - 1 < t.length by omega)]; rfl
theorem v6y (t : List zB) (hl : t.length ≤ 1048576) : ∀ (n a : Nat), t.length < a + n → a ≤ t.length + 3 → jJ t a = some ⟨(typ n t a).1, ((typ n t a).2.1 : Int), (typ n t a).2.2⟩ := by
  intro n
  induction n with
  | zero =>
    intro a h1 h2
    rw [y4E]; unfold z4x
    have hk : zQ t a = v8q := by unfold zQ; rw [List.getElem?_eq_none (by omega)]; rfl
    have hw : ∀ s, vD t a s = false := fun s => by unfold vD; rw [hk]; rfl
    have hs : ∀ s, yT t a s = false := fun s => by unfold yT; rw [hk]; rfl
    rw [uD, zA, hw, if_neg (by simp), uD, zA, hw, if_neg (by simp), z1e, zA, hk, if_neg (by decide), yG, zA, hs, if_neg (by simp)]
    rfl
  | succ n ih =>
    intro a h1 h2
    rw [y4E]; unfold z4x
    rw [typ]
    have c1 : IntKind.wrap .i64 ((a : Int) + 1) = ((a + 1 : Nat) : Int) := by rw [z0Q (by omega) (by omega)]; omega
    have c2 : IntKind.wrap .i64 ((a : Int) + 2) = ((a + 2 : Nat) : Int) := by rw [z0Q (by omega) (by omega)]; omega
    have c3 : IntKind.wrap .i64 ((a : Int) + 3) = ((a + 3 : Nat) : Int) := by rw [z0Q (by omega) (by omega)]; omega
    rw [c1, c2, c3, uD, zA]
    by_cases g1 : vD t a [105, 110, 116] = true
    · have := uV g1
      rw [if_pos g1, if_pos g1, z1o t (by omega) a (a + 1) (by omega) (by omega)]; rfl
    rw [if_neg g1, if_neg g1, uD, zA]
    by_cases g2 : vD t a [98, 111, 111, 108] = true
    · have := uV g2
      rw [if_pos g2, if_pos g2, z1o t (by omega) a (a + 1) (by omega) (by omega)]; rfl
    rw [if_neg g2, if_neg g2, z1e, zA]
    by_cases g3 : (zQ t a).K = 1
    · have := uT (t := t) (a := a) (by rw [g3]; decide)
      rw [if_pos g3, if_pos g3, zA, z1o t (by omega) a (a + 1) (by omega) (by omega)]; rfl
    rw [if_neg g3, if_neg g3, yG, zA]
    by_cases g4 : yT t a [91] = true
    · rw [if_pos g4, if_pos g4, z1e, zA]
      by_cases g5 : (zQ t (a + 1)).K = 2
      · rw [if_pos g5, if_pos g5, yG, zA]
        by_cases g6 : yT t (a + 2) [93] = true
        · have := zV g6
          rw [if_pos g6, if_pos g6, ih (a + 3) (by omega) (by omega), zA]
          dsimp only
          by_cases g7 : (typ n t (a + 3)).2.2 = 0
          · have hp := y1c n t (a + 3) (by omega) g7
            rw [if_pos g7, if_pos g7, zA, z1o t (by omega) a _ (by omega) hp.2]; rfl
          · rw [if_neg g7, if_neg g7]
            have hz : ∀ (n a : Nat), (typ n t a).2.2 ≠ 0 → (typ n t a).1 = zT7 := by
              intro n a h
              cases n with
              | zero => rfl
              | succ n =>
                rw [typ] at h ⊢
                revert h
                repeat' split
                all_goals (intro h; first | rfl | exact absurd rfl h)
            rw [hz _ _ g7]
        · rw [if_neg g6, if_neg g6]; rfl
      · rw [if_neg g5, if_neg g5]; rfl
    · rw [if_neg g4, if_neg g4]; rfl
def got : Res → zI
  | .ok x b => ⟨x, (b : Int), 0⟩
  | .bad b => ⟨zT7, (b : Int), 6⟩
def v0d (t : List zB) (a : Nat) : List Str → List Int → Int
  | s :: ss, o :: os => if yT t a s = true then o else v0d t a ss os
  | _, _ => 0
theorem v7j (t : List zB) (a : Nat) (ss : List Str) (os : List Int) (he : ss.length = os.length) (hs : ss.length ≤ 100) : ∀ (n i : Nat), i + n = ss.length → gS t a ss os i = some (v0d t a (ss.drop i) (os.drop i)) := by
  intro n
  induction n with
  | zero =>
    intro i hi
    rw [y2B]; unfold z3A
    rw [if_neg (by omega), List.drop_eq_nil_of_le (show ss.length ≤ i by omega)]
    rfl
  | succ n ih =>
    intro i hi
    have h1 : i < ss.length := by omega
    have h2 : i < os.length := by omega
    rw [y2B]; unfold z3A
    rw [if_pos (by omega), z1W h1, zA, yG, zA, List.drop_eq_getElem_cons h1, List.drop_eq_getElem_cons h2, v0d]
    by_cases h : yT t a ss[i] = true
    · rw [if_pos h, if_pos h, z1W h2]; rfl
    · rw [if_neg h, if_neg h, z0Q (by omega) (by omega), gI, ih (i + 1) (by omega)]
theorem v4r (t : List zB) (a k : Nat) (h1 : 1 ≤ k) (h2 : k ≤ 5) : y5W t a k = some (if (y0Q (zQ t a)).2 = k then (y0Q (zQ t a)).1 else 0) := by
  have hk : k = 1 ∨ k = 2 ∨ k = 3 ∨ k = 4 ∨ k = 5 := by omega
  rcases hk with rfl | rfl | rfl | rfl | rfl
  all_goals
    have e0 : ∀ ss os, ss.length = os.length → ss.length ≤ 100 → gS t a ss os 0 = some (v0d t a ss os) := fun ss os h1 h2 => by
      have := v7j t a ss os h1 h2 ss.length 0 (by omega)
      simpa using this
    unfold y5W y5A
    simp only [zA, if_true, Int.reduceEq, if_false, Int.cast_ofNat_Int]
    rw [e0 _ _ rfl (by decide)]
    simp only [v0d, yT]
    obtain ⟨x, hx⟩ : ∃ x, zQ t a = x := ⟨_, rfl⟩
    simp only [hx]
    unfold y0Q
    by_cases hk : x.K = 4
    · rcases v1q x.S with e | e | e | e | e | e | e | e | e | e | e | e | e | ⟨e1, e2, e3, e4, e5, e6, e7, e8, e9, e10, e11, e12, e13⟩
      case inr.inr.inr.inr.inr.inr.inr.inr.inr.inr.inr.inr.inr => simp [hk, e1, e2, e3, e4, e5, e6, e7, e8, e9, e10, e11, e12, e13]
      all_goals (simp only [hk, e]; rfl)
    · simp [hk]
theorem v1g (t : List zB) (a : Nat) (few : Bool) (o c : Str) (h : yT t a o = false) : wK t a few o c = some ([], (a : Int), 6) := by
  rw [z7t]; unfold z2z
  rw [yG, zA, h]; rfl
theorem v1B (t : List zB) (hl : t.length ≤ 1048576) (a : Nat) (o c : Str) (h : yT t a o = true) (h2 : yT t (a + 1) c = true) : wK t a true o c = some ([], ((a + 2 : Nat) : Int), 0) := by
  have ha := zV h
  rw [z7t]; unfold z2z
  rw [yG, zA, h, if_pos rfl, if_pos rfl, vL hl (by omega), yG, zA, h2, if_pos rfl, y3c hl (by omega)]
theorem z7o (t : List zB) (hl : t.length ≤ 1048576) (a : Nat) (few : Bool) (o c : Str) (h : yT t a o = true) (h2 : few = true → yT t (a + 1) c = false) :
    wK t a few o c = (z1r t ((a + 1 : Nat) : Int) >>= fun q => if q.2.2 = 0 then (yH t q.2.1 c >>= fun z => if z = true then some (q.1, IntKind.wrap .i64 (q.2.1 + 1), 0) else some (q.1, q.2.1, 6)) else some (q.1, q.2.1, q.2.2)) := by
  have ha := zV h
  rw [z7t]; unfold z2z
  rw [yG, zA, h, if_pos rfl, vL hl (by omega)]
  cases few with
  | false => rw [if_neg (by simp)]
  | true => rw [if_pos rfl, yG, zA, h2 rfl, if_neg (by simp)]
def RM (t : List zB) : Cat → Nat → Res → Prop
  | .lev k, a, r => vV t a k = some (got r)
  | .ll k m f x, a, r => f < a → m ≤ a → k ≤ 5 → ∀ o, wI t f k m o ⟨x, (a : Int), 0⟩ = some (got r)
  | .post, a, r => z0v t a = some (got r)
  | .pl f x, a, r => f < a → ∀ o, wR t f o ⟨x, (a : Int), 0⟩ = some (got r)
  | .atom, a, r => vP t a = some (got r)
  | .cls few, a, r => (∀ l b, r = .ok l b → wK t a few [40] [41] = some (l.L, (b : Int), 0)) ∧ (∀ b, r = .bad b → ∃ l, wK t a few [40] [41] = some (l, (b : Int), 6))
  | .lst acc, a, r => acc.length < a → (∀ l b, r = .ok l b → wT t a acc = some (l.L, (b : Int), 0)) ∧ (∀ b, r = .bad b → ∃ l, wT t a acc = some (l, (b : Int), 6))
theorem v2o (t : List zB) (a : Nat) (g : zI) (h : z1t t a = some g) : vV t a (6 : Nat) = some g := by
  rw [z6u]; unfold z2x
  rw [if_pos (by decide), h]; rfl
theorem y0S {t : List zB} {a : Nat} {g : zI} (h : vV t a (1 : Nat) = some g) : vS t a = some g := by
  rw [v0p]; unfold z5w
  rw [show ((1 : Int)) = ((1 : Nat) : Int) from rfl, h]; rfl
theorem y5C (t : List zB) (a : Nat) : z1r t a = wT t a [] := by rw [y9Z]; rfl
theorem y9l {t : List zB} {a : Nat} {g : zI} (h : vV t a (6 : Nat) = some g) : z1t t a = some g := by
  rw [z6u] at h; unfold z2x at h
  rw [if_pos (by decide)] at h
  cases hu : z1t t a with
  | none => rw [hu] at h; cases h
  | some x => rw [hu] at h; exact h
theorem v7L (t : List zB) (hl : t.length ≤ 1048576) (a : Nat) (h1 : (zQ t a).K = 1) : jA t a = (wK t ((a + 1 : Nat) : Int) true [40] [41] >>= fun q => if q.2.2 = 0 then (yS t a q.2.1 16 0 (zQ t a).S q.1 >>= fun z => some z) else some ⟨zT7, q.2.1, q.2.2⟩) := by
  have ha := uT (t := t) (a := a) (by rw [h1]; decide)
  rw [z2G]; unfold z0G
  rw [z1e, zA, if_pos h1, zA, vL hl (by omega)]
theorem v6U (t : List zB) (a : Nat) (h1 : yT t a [91] = true) : jA t a = (wK t a false [91] [93] >>= fun q => if q.2.2 = 0 then (yS t a q.2.1 14 0 [] q.1 >>= fun z => some z) else some ⟨zT7, q.2.1, q.2.2⟩) := by
  rw [z2G]; unfold z0G
  rw [z1e, zA, if_neg (by rw [(y6M h1).1]; decide), yG, zA, h1, if_pos rfl]
theorem v7B (t : List zB) (hl : t.length ≤ 1048576) (a : Nat) (h1 : yT t a [64] = true) (h2 : (zQ t (a + 1)).K = 1) : jA t a = (wK t ((a + 2 : Nat) : Int) true [40] [41] >>= fun q => if q.2.2 = 0 then (yS t a q.2.1 17 0 (zQ t (a + 1)).S q.1 >>= fun z => some z) else some ⟨zT7, q.2.1, q.2.2⟩) := by
  have ha := zV h1
  rw [z2G]; unfold z0G
  rw [z1e, zA, if_neg (by rw [(y6M h1).1]; decide), yG, zA, z9M h1 (by decide), if_neg (by simp), yG, zA, h1, if_pos rfl, vL hl (by omega), z1e, zA, if_pos h2, zA, uD, zA, y6G (by rw [(y6M h1).1]; decide), if_neg (by simp), y3c hl (by omega)]
theorem v6z (t : List zB) (hl : t.length ≤ 1048576) (a : Nat) (h1 : yT t a [64] = true) (h2 : (zQ t (a + 1)).K ≠ 1) : jA t a = some ⟨zT7, ((a + 1 : Nat) : Int), 6⟩ := by
  have ha := zV h1
  rw [z2G]; unfold z0G
  rw [z1e, zA, if_neg (by rw [(y6M h1).1]; decide), yG, zA, z9M h1 (by decide), if_neg (by simp), yG, zA, h1, if_pos rfl, vL hl (by omega), z1e, zA, if_neg h2]
  rfl
theorem v7m (t : List zB) (hl : t.length ≤ 1048576) (a : Nat) (h1 : vD t a [110, 101, 119] = true) (h2 : (zQ t (a + 1)).K = 1) : jA t a = (wK t ((a + 2 : Nat) : Int) false [40] [41] >>= fun q => if q.2.2 = 0 then (yS t a q.2.1 15 0 (zQ t (a + 1)).S q.1 >>= fun z => some z) else some ⟨zT7, q.2.1, q.2.2⟩) := by
  have ha := uV h1
  have hk : (zQ t a).K ≠ 4 := by rw [(y0M h1).1]; decide
  rw [z2G]; unfold z0G
  rw [z1e, zA, if_neg (by rw [(y0M h1).1]; decide), yG, zA, y3n hk, if_neg (by simp), yG, zA, y3n hk, if_neg (by simp), uD, zA, h1, if_pos rfl, vL hl (by omega), z1e, zA, if_pos h2, zA, zA, if_pos rfl, y3c hl (by omega)]
theorem v6I (t : List zB) (hl : t.length ≤ 1048576) (a : Nat) (h1 : vD t a [110, 101, 119] = true) (h2 : (zQ t (a + 1)).K ≠ 1) : jA t a = some ⟨zT7, ((a + 1 : Nat) : Int), 6⟩ := by
  have ha := uV h1
  have hk : (zQ t a).K ≠ 4 := by rw [(y0M h1).1]; decide
  rw [z2G]; unfold z0G
  rw [z1e, zA, if_neg (by rw [(y0M h1).1]; decide), yG, zA, y3n hk, if_neg (by simp), yG, zA, y3n hk, if_neg (by simp), uD, zA, h1, if_pos rfl, vL hl (by omega), z1e, zA, if_neg h2]
  rfl
theorem y9z (t : List zB) (hl : t.length ≤ 1048576) (a : Nat) {k n : Int} {s : Str} (h : z1R t a = .one k n s) : vP t a = some ⟨jM t a (a + 1) ⟨k, n, s, [], 0, 0⟩, ((a + 1 : Nat) : Int), 0⟩ := by
  have ha := z1V (t := t) (a := a) (by rw [h]; simp)
  have mk := fun k n s => z1o t (by omega) a (a + 1) (by omega) (by omega) k n s []
  rw [z9l]; unfold z3x
  rw [z1e, zA, vL hl (by omega)]
  unfold z1R at h
  by_cases h1 : (zQ t a).K = 2
  · rw [if_pos h1] at h ⊢
    injection h with e1 e2 e3; subst e1; subst e2; subst e3
    rw [mk]; rfl
  rw [if_neg h1] at h ⊢
  by_cases h2 : (zQ t a).K = 1
  · rw [if_pos h2] at h
    have w := fun s => y6G (t := t) (a := a) (by rw [h2]; decide) s
    rw [uD, zA, w, if_neg (by simp), uD, zA, w, if_neg (by simp), uD, zA, w, if_neg (by simp), if_pos h2, yG, zA]
    by_cases h3 : yT t (a + 1) [40] = true
    · rw [if_pos h3] at h; cases h
    · rw [if_neg h3] at h ⊢
      injection h with e1 e2 e3; subst e1; subst e2; subst e3
      rw [mk]; rfl
  rw [if_neg h2] at h
  rw [uD, zA]
  by_cases h3 : vD t a [116, 114, 117, 101] = true
  · rw [if_pos h3] at h ⊢
    injection h with e1 e2 e3; subst e1; subst e2; subst e3
    rw [mk]; rfl
  rw [if_neg h3] at h ⊢
  rw [uD, zA]
  by_cases h4 : vD t a [102, 97, 108, 115, 101] = true
  · rw [if_pos h4] at h ⊢
    injection h with e1 e2 e3; subst e1; subst e2; subst e3
    rw [mk]; rfl
  rw [if_neg h4] at h ⊢
  rw [uD, zA]
  by_cases h5 : vD t a [114, 101, 97, 100] = true
  · rw [if_pos h5] at h ⊢
    injection h with e1 e2 e3; subst e1; subst e2; subst e3
    rw [mk]; rfl
  rw [if_neg h5] at h
  repeat' split at h
  all_goals cases h
theorem y1w (t : List zB) (hl : t.length ≤ 1048576) (a : Nat) (h1 : yT t a [40] = true) :
    vP t a = (vS t ((a + 1 : Nat) : Int) >>= fun q => if q.E = 0 then (yH t q.At [41] >>= fun z => if z = true then some { q with At := IntKind.wrap .i64 (q.At + 1) } else (wW q.At >>= fun y => some y)) else some q) := by
  have ha := zV h1
  have hk := (y6M h1).1
  have w := fun s => y6G (t := t) (a := a) (by rw [hk]; decide) s
  rw [z9l]; unfold z3x
  rw [z1e, zA, if_neg (by rw [hk]; decide), uD, zA, w, if_neg (by simp), uD, zA, w, if_neg (by simp), uD, zA, w, if_neg (by simp), if_neg (by rw [hk]; decide), yG, zA, h1, if_pos rfl, vL hl (by omega)]
theorem z3C (t : List zB) (hl : t.length ≤ 1048576) (a : Nat) (ha : a ≤ t.length) (h1 : (zQ t a).K ≠ 2) (h2 : (zQ t a).K = 1 → yT t (a + 1) [40] = true) (h3 : vD t a [116, 114, 117, 101] = false) (h4 : vD t a [102, 97, 108, 115, 101] = false) (h5 : vD t a [114, 101, 97, 100] = false)
    (h6 : yT t a [40] = false) : vP t a = (jA t a >>= fun q => some q) := by
  rw [z9l]; unfold z3x
  rw [z1e, zA, if_neg h1, uD, zA, h3, if_neg (by simp), uD, zA, h4, if_neg (by simp), uD, zA, h5, if_neg (by simp)]
  by_cases hk : (zQ t a).K = 1
  · rw [if_pos hk, vL hl (by omega), yG, zA, h2 hk, if_pos rfl, yG, zA, h6, if_neg (by simp)]
  · rw [if_neg hk, yG, zA, h6, if_neg (by simp)]
theorem v3B {t : List zB} (hl : t.length ≤ 1048576) {c : Cat} {a : Nat} {r : Res} (h : Der t c a r) : a ≤ t.length → RM t c a r := by
  have clsOk : ∀ {a : Nat}, a ≤ t.length → ∀ {k : Int} {s : Str} {o : Nat} {few : Bool}, z1R t a = .call k s o few → ∀ {q : Option (List zE × Int × Int)}, wK t o few [40] [41] = q →
      vP t a = (q >>= fun q => if q.2.2 = 0 then (yS t a q.2.1 k 0 s q.1 >>= fun z => some z) else some ⟨zT7, q.2.1, q.2.2⟩) >>= fun q => some q := by
    intro a ha k s o few hk q hq
    rcases y7a hk with ⟨rfl, rfl, rfl, rfl, h1, h2⟩ | ⟨rfl, rfl, rfl, rfl, h1, h2⟩ | ⟨rfl, rfl, rfl, rfl, h1, h2⟩
    · have w := fun s => y6G (t := t) (a := a) (by rw [h1]; decide) s
      rw [z3C t hl a ha (by rw [h1]; decide) (fun _ => h2) (w _) (w _) (w _) (y3n (by rw [h1]; decide) _), v7L t hl a h1, hq]
    · have hk := (y0M h1).1
      rw [z3C t hl a ha (by rw [hk]; decide) (fun h => by rw [hk] at h; cases h) (z7F h1 (by decide)) (z7F h1 (by decide)) (z7F h1 (by decide)) (y3n (by rw [hk]; decide) _), v7m t hl a h1 h2, hq]
    · have hk := (y6M h1).1
      have w := fun s => y6G (t := t) (a := a) (by rw [hk]; decide) s
      rw [z3C t hl a ha (by rw [hk]; decide) (fun h => by rw [hk] at h; cases h) (w _) (w _) (w _) (z9M h1 (by decide)), v7B t hl a h1 h2, hq]
  have lisOk : ∀ {a : Nat}, a ≤ t.length → z1R t a = .lis → vP t a = (wT t ((a + 1 : Nat) : Int) [] >>= fun q => if q.2.2 = 0 then (yH t q.2.1 [93] >>= fun z => if z = true then some (q.1, IntKind.wrap .i64 (q.2.1 + 1), 0) else some (q.1, q.2.1, 6)) else some (q.1, q.2.1, q.2.2)) >>=
      (fun q => if q.2.2 = 0 then (yS t a q.2.1 14 0 [] q.1 >>= fun z => some z) else some ⟨zT7, q.2.1, q.2.2⟩) >>= fun q => some q := by
    intro a ha hk
    have h1 := z7a hk
    have hk := (y6M h1).1
    have w := fun s => y6G (t := t) (a := a) (by rw [hk]; decide) s
    rw [z3C t hl a ha (by rw [hk]; decide) (fun h => by rw [hk] at h; cases h) (w _) (w _) (w _) (z9M h1 (by decide)), v6U t a h1, z7o t hl a false _ _ h1 (fun h => by cases h), y5C]
  induction h with
  | @un a b n x h1 hd ih =>
    intro ha
    have h0 : a < t.length := h1.elim (fun h => zV h.2) (fun h => zV h.2)
    have q := hd.inR (by omega)
    simp only [InR] at q
    have e := y9l (ih (by omega))
    refine v2o t a _ ?_
    rw [y3W]; unfold z5W
    rw [yG, zA, vL hl (by omega)]
    rcases h1 with ⟨rfl, h1⟩ | ⟨rfl, h1⟩
    · rw [if_pos h1, yG, zA, z9M h1 (by decide), if_neg (by simp), if_neg (by decide), e, zA]
      show (if (0 : Int) = 0 then _ else _) = _
      rw [if_pos rfl]
      show (yS t a b 11 1 [] [x] >>= _) = _
      rw [z1o t (by omega) a b (by omega) q.2]; rfl
    · rw [if_neg (by rw [z9M h1 (by decide)]; simp), yG, zA, if_pos h1, if_neg (by decide), e, zA]
      show (if (0 : Int) = 0 then _ else _) = _
      rw [if_pos rfl]
      show (yS t a b 11 2 [] [x] >>= _) = _
      rw [z1o t (by omega) a b (by omega) q.2]; rfl
  | @unB a b h1 hd ih =>
    intro ha
    have h0 : a < t.length := h1.elim (fun h => zV h) (fun h => zV h)
    have e := y9l (ih (by omega))
    refine v2o t a _ ?_
    rw [y3W]; unfold z5W
    rw [yG, zA, vL hl (by omega)]
    rcases h1 with h1 | h1
    · rw [if_pos h1, yG, zA, z9M h1 (by decide), if_neg (by simp), if_neg (by decide), e, zA]; rfl
    · rw [if_neg (by rw [z9M h1 (by decide)]; simp), yG, zA, if_pos h1, if_neg (by decide), e, zA]; rfl
  | @unP a r h1 h2 hd ih =>
    intro ha
    have e : z0v t a = some (got r) := ih ha
    refine v2o t a _ ?_
    rw [y3W]; unfold z5W
    rw [yG, zA, h1, if_neg (by simp), yG, zA, h2, if_neg (by simp), if_pos rfl, e]; rfl
  | @lev k a b x r h1 h2 hd hd2 ih1 ih2 =>
    intro ha
    have q := hd.inR ha
    simp only [InR] at q
    show vV t a k = _
    rw [z6u]; unfold z2x
    rw [if_neg (by omega), z0Q (by omega) (by omega), gI]
    have e : vV t a ((k + 1 : Nat) : Int) = _ := ih1 ha
    rw [e, zA]
    exact ih2 q.2 (by omega) (by omega) h2 _
  | @levB k a b h1 h2 hd ih1 =>
    intro ha
    show vV t a k = _
    rw [z6u]; unfold z2x
    rw [if_neg (by omega), z0Q (by omega) (by omega), gI]
    have e : vV t a ((k + 1 : Nat) : Int) = _ := ih1 ha
    rw [e, zA, z4m]; unfold z0X
    rw [if_neg (by simp [got])]
  | @llE k m f a x h0 h1 =>
    intro ha hf hm hk o
    rw [z4m]; unfold z0X
    rw [if_pos rfl, v4r t a k h0 hk, zA]
    rcases h1 with h1 | ⟨rfl, rfl⟩
    · rw [if_neg h1, if_pos rfl]; rfl
    · by_cases h2 : (y0Q (zQ t a)).2 = 3
      · rw [if_pos h2]
        by_cases h3 : (y0Q (zQ t a)).1 = 0
        · rw [if_pos h3]; rfl
        · rw [if_neg h3, if_pos (by decide), if_pos (by decide)]; rfl
      · rw [if_neg h2, if_pos rfl]; rfl
  | @llG k m f a b x y r h1 h2 h3 hd hd2 ih1 ih2 =>
    intro ha hf hm hk o
    have h0 := uT (t := t) (a := a) (by rw [z4S (by omega)]; decide)
    have q := hd.inR (by omega)
    simp only [InR] at q
    have e : vV t ((a + 1 : Nat) : Int) ((k + 1 : Nat) : Int) = some ⟨y, (b : Int), 0⟩ := ih1 (by omega)
    have e2 : wI t f k ((m + 1 : Nat) : Int) o ⟨_, (b : Int), 0⟩ = some (got r) := ih2 (by omega) (by omega) (by omega) hk o
    have hop : (y0Q (zQ t a)).1 ≠ 0 := v3b (by omega)
    rw [z4m]; unfold z0X
    rw [if_pos rfl, v4r t a k h1 hk, zA, if_pos h2, if_neg hop]
    have hk3 : (k : Int) = 3 → (m : Int) ≠ 1 := fun h h' => h3 ⟨by omega, by omega⟩
    have c1 : IntKind.wrap .i64 ((a : Int) + 1) = ((a + 1 : Nat) : Int) := vL hl (by omega)
    have c2 : IntKind.wrap .i64 ((k : Int) + 1) = ((k + 1 : Nat) : Int) := by rw [z0Q (by omega) (by omega)]; omega
    have c3 : IntKind.wrap .i64 ((m : Int) + 1) = ((m + 1 : Nat) : Int) := by rw [z0Q (by omega) (by omega)]; omega
    by_cases h4 : (k : Int) = 3
    · rw [if_pos h4, if_neg (hk3 h4), c1, c2, e, zA, if_pos rfl, z1o t (by omega) f b (by omega) q.2, zA, c3, e2]
    · rw [if_neg h4, c1, c2, e, zA, if_pos rfl, z1o t (by omega) f b (by omega) q.2, zA, c3, e2]
  | @llB k m f a b x h1 h2 h3 hd ih1 =>
    intro ha hf hm hk o
    have h0 := uT (t := t) (a := a) (by rw [z4S (by omega)]; decide)
    have e : vV t ((a + 1 : Nat) : Int) ((k + 1 : Nat) : Int) = some ⟨zT7, (b : Int), 6⟩ := ih1 (by omega)
    have hop : (y0Q (zQ t a)).1 ≠ 0 := v3b (by omega)
    rw [z4m]; unfold z0X
    rw [if_pos rfl, v4r t a k h1 hk, zA, if_pos h2, if_neg hop]
    have hk3 : (k : Int) = 3 → (m : Int) ≠ 1 := fun h h' => h3 ⟨by omega, by omega⟩
    have c1 : IntKind.wrap .i64 ((a : Int) + 1) = ((a + 1 : Nat) : Int) := vL hl (by omega)
    have c2 : IntKind.wrap .i64 ((k : Int) + 1) = ((k + 1 : Nat) : Int) := by rw [z0Q (by omega) (by omega)]; omega
    by_cases h4 : (k : Int) = 3
    · rw [if_pos h4, if_neg (hk3 h4), c1, c2, e, zA]; rfl
    · rw [if_neg h4, c1, c2, e, zA]; rfl
  | @post a b x r hd hd2 ih1 ih2 =>
    intro ha
    have q := hd.inR ha
    simp only [InR] at q
    have e : vP t a = some ⟨x, (b : Int), 0⟩ := ih1 ha
    show z0v t a = _
    rw [y4v]; unfold z4v
    rw [e, zA]
    exact ih2 q.2 q.1 _
  | @postB a b hd ih1 =>
    intro ha
    have e : vP t a = some ⟨zT7, (b : Int), 6⟩ := ih1 ha
    show z0v t a = _
    rw [y4v]; unfold z4v
    rw [e, zA, z2d]; unfold z0r
    rw [if_neg (by simp)]; rfl
  | @plE f a x h1 h2 =>
    intro ha hf o
    rw [z2d]; unfold z0r
    rw [if_pos rfl, yG, zA, h1, if_neg (by simp), yG, zA, h2, if_neg (by simp)]; rfl
  | @plI f a b x i r h1 hd h2 hd2 ih1 ih2 =>
    intro ha hf o
    have h0 := zV h1
    have hb := zV h2
    have q := hd.inR (by omega)
    simp only [InR] at q
    have e : vS t ((a + 1 : Nat) : Int) = some ⟨i, (b : Int), 0⟩ := y0S (ih1 (by omega))
    have e2 : wR t f o ⟨_, ((b + 1 : Nat) : Int), 0⟩ = some (got r) := ih2 (by omega) (by omega) o
    rw [z2d]; unfold z0r
    rw [if_pos rfl, yG, zA, h1, if_pos rfl, vL hl (by omega), e, zA, if_pos rfl, yG, zA, h2, if_pos rfl, vL hl (by omega), z1o t (by omega) f (b + 1) (by omega) (by omega), zA, e2]
  | @plI1 f a b x h1 hd ih1 =>
    intro ha hf o
    have h0 := zV h1
    have e : vS t ((a + 1 : Nat) : Int) = some ⟨zT7, (b : Int), 6⟩ := y0S (ih1 (by omega))
    rw [z2d]; unfold z0r
    rw [if_pos rfl, yG, zA, h1, if_pos rfl, vL hl (by omega), e, zA]; rfl
  | @plI2 f a b x i h1 hd h2 ih1 =>
    intro ha hf o
    have h0 := zV h1
    have e : vS t ((a + 1 : Nat) : Int) = some ⟨i, (b : Int), 0⟩ := y0S (ih1 (by omega))
    rw [z2d]; unfold z0r
    rw [if_pos rfl, yG, zA, h1, if_pos rfl, vL hl (by omega), e, zA, if_pos rfl, yG, zA, h2]; rfl
  | @plF f a x r h0 h1 h2 hd ih =>
    intro ha hf o
    have h3 := uT (t := t) (a := a + 1) (by rw [h2]; decide)
    have e2 : wR t f o ⟨_, ((a + 2 : Nat) : Int), 0⟩ = some (got r) := ih (by omega) (by omega) o
    rw [z2d]; unfold z0r
    rw [if_pos rfl, yG, zA, h0, if_neg (by simp), yG, zA, h1, if_pos rfl, vL hl (by omega), z1e, zA, if_pos h2, y3c hl (by omega), z1o t (by omega) f (a + 2) (by omega) (by omega), zA, e2]
  | @plFB f a x h0 h1 h2 =>
    intro ha hf o
    have h3 := zV h1
    rw [z2d]; unfold z0r
    rw [if_pos rfl, yG, zA, h0, if_neg (by simp), yG, zA, h1, if_pos rfl, vL hl (by omega), z1e, zA, if_neg h2]; rfl
  | one h1 => intro ha; exact y9z t hl _ h1
  | @par a b x h1 hd h2 ih =>
    intro ha
    have h0 := zV (z1N h1)
    have hb := zV h2
    have e : vS t ((a + 1 : Nat) : Int) = some ⟨x, (b : Int), 0⟩ := y0S (ih (by omega))
    show vP t a = _
    rw [y1w t hl a (z1N h1), e, zA, if_pos rfl, yG, zA, h2, if_pos rfl, vL hl (by omega)]; rfl
  | @par1 a b h1 hd ih =>
    intro ha
    have h0 := zV (z1N h1)
    have e : vS t ((a + 1 : Nat) : Int) = some ⟨zT7, (b : Int), 6⟩ := y0S (ih (by omega))
    show vP t a = _
    rw [y1w t hl a (z1N h1), e, zA]; rfl
  | @par2 a b x h1 hd h2 ih =>
    intro ha
    have h0 := zV (z1N h1)
    have e : vS t ((a + 1 : Nat) : Int) = some ⟨x, (b : Int), 0⟩ := y0S (ih (by omega))
    show vP t a = _
    rw [y1w t hl a (z1N h1), e, zA, if_pos rfl, yG, zA, h2]; rfl
  | @call a o b k s few l h1 hd ih =>
    intro ha
    have h0 := z3S h1
    have q := hd.inR h0.2
    simp only [InR] at q
    have e := (ih h0.2).1 _ _ rfl
    show vP t a = _
    rw [clsOk ha h1 e, zA, if_pos rfl]
    show (yS t a b k 0 s l >>= _) >>= _ = _
    rw [z1o t (by omega) a b (by omega) q.2]; rfl
  | @callB a o b k s few h1 hd ih =>
    intro ha
    have h0 := z3S h1
    obtain ⟨l, e⟩ := (ih h0.2).2 _ rfl
    show vP t a = _
    rw [clsOk ha h1 e, zA]; rfl
  | @lis a b l h1 hd h2 ih =>
    intro ha
    have h0 := z1V (t := t) (a := a) (by rw [h1]; simp)
    have hb := zV h2
    have q := hd.inR (by omega)
    simp only [InR] at q
    have e := (ih (by omega) (by simp)).1 _ _ rfl
    show vP t a = _
    rw [lisOk ha h1, e, zA, if_pos rfl, yG, zA, h2, if_pos rfl, vL hl (by omega), zA, if_pos rfl]
    show (yS t a ((b + 1 : Nat) : Int) 14 0 [] l >>= _) >>= _ = _
    rw [z1o t (by omega) a (b + 1) (by omega) (by omega)]; rfl
  | @lis1 a b h1 hd ih =>
    intro ha
    have h0 := z1V (t := t) (a := a) (by rw [h1]; simp)
    obtain ⟨l, e⟩ := (ih (by omega) (by simp)).2 _ rfl
    show vP t a = _
    rw [lisOk ha h1, e, zA]; rfl
  | @lis2 a b l h1 hd h2 ih =>
    intro ha
    have h0 := z1V (t := t) (a := a) (by rw [h1]; simp)
    have e := (ih (by omega) (by simp)).1 _ _ rfl
    show vP t a = _
    rw [lisOk ha h1, e, zA, if_pos rfl, yG, zA, h2]; rfl
  | @nm a h1 =>
    intro ha
    obtain ⟨h2, h3⟩ := v3p h1
    show vP t a = _
    rcases h2 with h2 | h2
    · have hk := (y0M h2).1
      rw [z3C t hl a ha (by rw [hk]; decide) (fun h => by rw [hk] at h; cases h) (z7F h2 (by decide)) (z7F h2 (by decide)) (z7F h2 (by decide)) (y3n (by rw [hk]; decide) _), v6I t hl a h2 h3]; rfl
    · have hk := (y6M h2).1
      have w := fun s => y6G (t := t) (a := a) (by rw [hk]; decide) s
      rw [z3C t hl a ha (by rw [hk]; decide) (fun h => by rw [hk] at h; cases h) (w _) (w _) (w _) (z9M h2 (by decide)), v6z t hl a h2 h3]; rfl
  | @no a h1 =>
    intro ha
    obtain ⟨k2, k1, w1, w2, w3, w4, s1, s2, s3⟩ := v3h h1
    show vP t a = _
    rw [z3C t hl a ha k2 (fun h => absurd h k1) w1 w2 w3 s1, z2G]; unfold z0G
    rw [z1e, zA, if_neg k1, yG, zA, s2, if_neg (by simp), yG, zA, s3, if_neg (by simp), uD, zA, w4, if_neg (by simp)]; rfl
  | @cls0 a few h1 =>
    intro ha
    exact ⟨(fun _ _ h => by cases h), fun b h => by cases h; exact ⟨_, v1g t a few _ _ h1⟩⟩
  | @clsF a h1 h2 =>
    intro ha
    exact ⟨(fun _ _ h => by cases h; exact v1B t hl a _ _ h1 h2), fun b h => by cases h⟩
  | @cls a b few l h1 h2 hd h3 ih =>
    intro ha
    have h0 := zV h1
    have hb := zV h3
    have e := (ih (by omega) (by simp)).1 _ _ rfl
    refine ⟨fun _ _ h => ?_, fun b h => by cases h⟩
    cases h
    rw [z7o t hl a few _ _ h1 h2, y5C, e, zA, if_pos rfl, yG, zA, h3, if_pos rfl, vL hl (by omega)]
  | @cls1 a b few h1 h2 hd ih =>
    intro ha
    have h0 := zV h1
    obtain ⟨l, e⟩ := (ih (by omega) (by simp)).2 _ rfl
    refine ⟨(fun _ _ h => by cases h), fun _ h => ?_⟩
    cases h
    rw [z7o t hl a few _ _ h1 h2, y5C, e, zA]
    exact ⟨_, rfl⟩
  | @cls2 a b few l h1 h2 hd h3 ih =>
    intro ha
    have h0 := zV h1
    have e := (ih (by omega) (by simp)).1 _ _ rfl
    refine ⟨(fun _ _ h => by cases h), fun _ h => ?_⟩
    cases h
    rw [z7o t hl a few _ _ h1 h2, y5C, e, zA, if_pos rfl, yG, zA, h3]
    exact ⟨_, rfl⟩
  | @lstE a b acc x hd h1 ih =>
    intro ha hacc
    have e : vS t a = some ⟨x, (b : Int), 0⟩ := y0S (ih ha)
    refine ⟨fun _ _ h => ?_, fun _ h => by cases h⟩
    cases h
    rw [z6M]; unfold z1X
    rw [e, zA, if_pos rfl, if_pos (y0g (by simp; omega)), yG, zA, h1]; rfl
  | @lstG a b acc x r hd h1 hd2 ih1 ih2 =>
    intro ha hacc
    have hb := zV h1
    have q := hd.inR ha
    simp only [InR] at q
    have e : vS t a = some ⟨x, (b : Int), 0⟩ := y0S (ih1 ha)
    have e2 := ih2 (by omega) (by simp; omega)
    rw [z6M]; unfold z1X
    rw [e, zA, if_pos rfl, if_pos (y0g (by simp; omega)), yG, zA, h1, if_pos rfl, vL hl (by omega)]
    exact e2
  | @lstB a b acc hd ih =>
    intro ha hacc
    have e : vS t a = some ⟨zT7, (b : Int), 6⟩ := y0S (ih ha)
    refine ⟨(fun _ _ h => by cases h), fun _ h => ?_⟩
    cases h
    rw [z6M]; unfold z1X
    rw [e, zA]
    exact ⟨_, rfl⟩
abbrev iW (s : Str) : zN := ⟨[119, 111, 114, 100], s⟩
abbrev iS (s : Str) : zN := ⟨[115, 105, 103, 110], s⟩
abbrev iN : zN := ⟨[110, 97, 109, 101], []⟩
abbrev iX : zN := ⟨[101, 120, 112, 114], []⟩
abbrev iT : zN := ⟨[116, 121, 112, 101], []⟩
abbrev iK : zN := ⟨[98, 108, 111, 99, 107], []⟩
abbrev iL : zN := ⟨[101, 108, 115, 101], []⟩
def v5X : List It → List zN
  | [] => []
  | .word s :: r => iW s :: v5X r
  | .sign s :: r => iS s :: v5X r
  | .name :: r => iN :: v5X r
  | .expr :: r => iX :: v5X r
  | .type :: r => iT :: v5X r
  | .block :: r => iK :: v5X r
  | .be :: r => iK :: iL :: v5X r
theorem v6J (t : List zB) (hl : t.length ≤ 1048576) (a : Nat) (ha : a ≤ t.length) : z9V t a = some ((z6r t a).1, v5X (z6r t a).2) := by
  unfold z9V z6r
  rw [uD, zA]
  by_cases h1 : vD t a v7l = true
  · have := uV h1
    rw [if_pos h1, if_pos h1, vL (t := t) (by omega) (by omega), z1e, zA]
    by_cases h2 : (zQ t (a + 1)).K = 1
    · rw [if_pos h2, y3c (t := t) (by omega) (by omega), yG, zA]
      by_cases h3 : yT t (a + 2) [58] = true
      · rw [if_pos h3, if_pos ⟨h2, h3⟩]; rfl
      · rw [if_neg h3, if_neg (fun h => h3 h.2)]; rfl
    · rw [if_neg h2, if_neg (fun h => h2 h.1)]; rfl
  rw [if_neg h1, if_neg h1, uD, zA]
  by_cases h2 : vD t a wIf = true
  · rw [if_pos h2, if_pos h2]; rfl
  rw [if_neg h2, if_neg h2, uD, zA]
  by_cases h2 : vD t a y7U = true
  · rw [if_pos h2, if_pos h2]; rfl
  rw [if_neg h2, if_neg h2, uD, zA]
  by_cases h2 : vD t a v7O = true
  · rw [if_pos h2, if_pos h2]; rfl
  rw [if_neg h2, if_neg h2, uD, zA]
  by_cases h2 : vD t a y8a = true
  · rw [if_pos h2, if_pos h2]; rfl
  rw [if_neg h2, if_neg h2, uD, zA]
  by_cases h2 : vD t a y3L = true
  · rw [if_pos h2, if_pos h2]; rfl
  rw [if_neg h2, if_neg h2, uD, zA]
  by_cases h2 : vD t a wDo = true
  · rw [if_pos h2, if_pos h2]; rfl
  rw [if_neg h2, if_neg h2]; rfl
def RS (t : List zB) : v3j → Nat → Res → Prop
  | .stmt, a, r => z0R t a = some (got r)
  | .blk, a, r => vH t a = some (got r)
  | .sl f acc, a, r => f < a → acc.length < a → ∀ o, wX t f acc a o = some (got r)
  | .form k f its parts name, a, r => f ≤ a → ∀ (form : List zN) (i : Nat) (o : zI), form.drop i = v5X its → form.length ≤ 100 → parts.length ≤ i → yQ t f k form parts name a i o = some (got r)
theorem v3m {t : List zB} (hl : t.length ≤ 1048576) {a : Nat} (ha : a ≤ t.length) {r : Res} (h : Der t (.lev 1) a r) : vS t a = some (got r) := y0S (v3B (by omega) h ha)
theorem y7P (t : List zB) (a : Nat) {g : zI} (h : vS t a = some g) : z0D t a [101, 120, 112, 114] = some g := by
  rw [z9I]; unfold z3w
  rw [if_pos rfl, h]; rfl
theorem y7E (t : List zB) (a : Nat) {g : zI} (h : jJ t a = some g) : z0D t a [116, 121, 112, 101] = some g := by
  rw [z9I]; unfold z3w
  rw [if_neg (by decide), if_pos rfl, h]; rfl
theorem z5Y (t : List zB) (a : Nat) (s : Str) (h1 : s ≠ [101, 120, 112, 114]) (h2 : s ≠ [116, 121, 112, 101]) {g : zI} (h : vH t a = some g) : z0D t a s = some g := by
  rw [z9I]; unfold z3w
  rw [if_neg h1, if_neg h2, h]; rfl
theorem z1d {α : Type} {l : List α} {i : Nat} {x : α} {r : List α} (h : l.drop i = x :: r) : i < l.length ∧ l[i]? = some x ∧ l.drop (i + 1) = r := by
  have h1 : i < l.length := by
    rcases Nat.lt_or_ge i l.length with h1 | h1
    · exact h1
    · rw [List.drop_eq_nil_of_le h1] at h; cases h
  rw [List.drop_eq_getElem_cons h1] at h
  injection h with h2 h3
  exact ⟨h1, by rw [List.getElem?_eq_getElem h1, h2], h3⟩
theorem y3y {α : Type} {l : List α} {i : Nat} {x : α} (h : l[i]? = some x) : idx l (i : Int) = some x := by rw [v5d]; exact h
theorem v2F (t : List zB) (hl : t.length ≤ 1048576) (f : Nat) (k : Int) (form : List zN) (parts : List zE) (name : Str) (a i : Nat) (ha : a ≤ t.length) (o : zI) (s : Str) (hi : form[i]? = some (iW s)) (hf : form.length ≤ 100) :
    yQ t f k form parts name a i o = if vD t a s = true then yQ t f k form parts name ((a + 1 : Nat) : Int) ((i + 1 : Nat) : Int) o else some ⟨zT7, a, 6⟩ := by
  have h1 : i < form.length := (List.getElem?_eq_some_iff.1 hi).1
  rw [z2Y]; unfold z0B
  rw [if_pos (by omega), y3y hi, zA, if_pos rfl, zA, uD, zA]
  by_cases h : vD t a s = true
  · rw [if_pos h, if_pos h, vL (t := t) (by omega) (by omega), z0Q (by omega) (by omega), gI]
  · rw [if_neg h, if_neg h]; rfl
theorem v2z (t : List zB) (hl : t.length ≤ 1048576) (f : Nat) (k : Int) (form : List zN) (parts : List zE) (name : Str) (a i : Nat) (ha : a ≤ t.length) (o : zI) (s : Str) (hi : form[i]? = some (iS s)) (hf : form.length ≤ 100) :
    yQ t f k form parts name a i o = if yT t a s = true then yQ t f k form parts name ((a + 1 : Nat) : Int) ((i + 1 : Nat) : Int) o else some ⟨zT7, a, 6⟩ := by
  have h1 : i < form.length := (List.getElem?_eq_some_iff.1 hi).1
  rw [z2Y]; unfold z0B
  rw [if_pos (by omega), y3y hi, zA, if_neg (show ¬ ([115, 105, 103, 110] : Str) = [119, 111, 114, 100] by decide), if_pos rfl, zA, yG, zA]
  by_cases h : yT t a s = true
  · rw [if_pos h, if_pos h, vL (t := t) (by omega) (by omega), z0Q (by omega) (by omega), gI]
  · rw [if_neg h, if_neg h]; rfl
theorem v3o (t : List zB) (hl : t.length ≤ 1048576) (f : Nat) (k : Int) (form : List zN) (parts : List zE) (name : Str) (a i : Nat) (ha : a ≤ t.length) (o : zI) (hi : form[i]? = some iN) (hf : form.length ≤ 100) :
    yQ t f k form parts name a i o = if (zQ t a).K = 1 then yQ t f k form parts (zQ t a).S ((a + 1 : Nat) : Int) ((i + 1 : Nat) : Int) o else some ⟨zT7, a, 6⟩ := by
  have h1 : i < form.length := (List.getElem?_eq_some_iff.1 hi).1
  rw [z2Y]; unfold z0B
  rw [if_pos (by omega), y3y hi, zA, if_neg (by decide), if_neg (by decide), if_pos rfl, z1e, zA]
  by_cases h : (zQ t a).K = 1
  · have hlt := uT (t := t) (a := a) (by rw [h]; decide)
    have e : zQ t a = t[a] := by unfold zQ; rw [List.getElem?_eq_getElem hlt]; rfl
    rw [if_pos h, if_pos h, z1W hlt, zA, vL (t := t) (by omega) (by omega), z0Q (by omega) (by omega), gI, e]
  · rw [if_neg h, if_neg h]; rfl
theorem z5M (t : List zB) (hl : t.length ≤ 1048576) (f : Nat) (k : Int) (form : List zN) (parts : List zE) (name : Str) (a i : Nat) (ha : a ≤ t.length) (o : zI) (x : zN) (hi : form[i]? = some x) (hf : form.length ≤ 100) (hp : parts.length ≤ 200)
    (n1 : x.What ≠ [119, 111, 114, 100]) (n2 : x.What ≠ [115, 105, 103, 110]) (n3 : x.What ≠ [110, 97, 109, 101]) (n4 : x.What ≠ [101, 108, 115, 101]) {g : zI} (hg : z0D t a x.What = some g) :
    yQ t f k form parts name a i o = if g.E = 0 then yQ t f k form (parts ++ [g.T_]) name g.At ((i + 1 : Nat) : Int) o else some g := by
  have h1 : i < form.length := (List.getElem?_eq_some_iff.1 hi).1
  rw [z2Y]; unfold z0B
  rw [if_pos (by omega), y3y hi, zA, if_neg n1, if_neg n2, if_neg n3, if_neg n4, hg, zA]
  by_cases h : g.E = 0
  · rw [if_pos h, if_pos h, if_pos (y0g (by simp; omega)), z0Q (by omega) (by omega), gI]
  · rw [if_neg h, if_neg h]
theorem y8I (t : List zB) (hl : t.length ≤ 1048576) (f : Nat) (k : Int) (form : List zN) (parts : List zE) (name : Str) (a i : Nat) (ha : a ≤ t.length) (ha0 : 0 < a) (o : zI) (hi : form[i]? = some iL) (hf : form.length ≤ 100) (hp : parts.length ≤ 200) :
    yQ t f k form parts name a i o = if vD t a y9P = true then
      (z0D t ((a + 1 : Nat) : Int) y9P >>= fun g => if g.E = 0 then yQ t f k form (parts ++ [g.T_]) name g.At ((i + 1 : Nat) : Int) o else some g)
      else yQ t f k form (parts ++ [y0r (zQ t (a - 1)).To]) name a ((i + 1 : Nat) : Int) o := by
  have h1 : i < form.length := (List.getElem?_eq_some_iff.1 hi).1
  rw [z2Y]; unfold z0B
  rw [if_pos (by omega), y3y hi, zA, if_neg (by decide), if_neg (by decide), if_neg (by decide), if_pos rfl, uD, zA]
  by_cases h : vD t a y9P = true
  · rw [if_pos h, if_pos h, vL (t := t) (by omega) (by omega)]
    congr 1
    funext g
    by_cases hg : g.E = 0
    · rw [if_pos hg, if_pos hg, if_pos (y0g (by simp; omega)), z0Q (by omega) (by omega), gI]
    · rw [if_neg hg, if_neg hg]
  · have e : zQ t (a - 1) = t[a - 1] := by unfold zQ; rw [List.getElem?_eq_getElem (show a - 1 < t.length by omega)]; rfl
    rw [if_neg h, if_neg h, z0Q (n := (a : Int) - 1) (by omega) (by omega), show (a : Int) - 1 = ((a - 1 : Nat) : Int) by omega, z1W (show a - 1 < t.length by omega), zA, if_pos (y0g (by simp; omega)), z0Q (by omega) (by omega), gI, e]
theorem y8t (t : List zB) (hl : t.length ≤ 1048576) (a : Nat) (ha : a ≤ t.length) : jJ t a = some ⟨(z4A t a).1, ((z4A t a).2.1 : Int), (z4A t a).2.2⟩ := v6y t hl (t.length + 1) a (by omega) (by omega)
theorem v2V : ∀ (n : Nat) (t : List zB) (a : Nat), (typ n t a).2.2 ≠ 0 → (typ n t a).1 = zT7 := by
  intro n t a h
  cases n with
  | zero => rfl
  | succ n =>
    rw [typ] at h ⊢
    revert h
    repeat' split
    all_goals (intro h; first | rfl | exact absurd rfl h)
theorem v2a {t : List zB} (hl : t.length ≤ 1048576) {c : v3j} {a : Nat} {r : Res} (h : SDer t c a r) : a ≤ t.length → RS t c a r := by
  induction h with
  | @sB a r h1 hd ih =>
    intro ha
    have e : vH t a = some (got r) := ih ha
    show z0R t a = _
    rw [y4s]; unfold z4t
    rw [yG, zA, if_pos h1, e]; rfl
  | @sF a r h1 hd ih =>
    intro ha
    show z0R t a = _
    rw [y4s]; unfold z4t
    rw [yG, zA, h1, if_neg (by simp), v6J t hl a ha, zA]
    refine ih ha (Nat.le_refl _) (v5X (z6r t a).2) 0 _ rfl ?_ (by simp)
    unfold z6r
    repeat' split
    all_goals decide
  | @b0 a h1 =>
    intro ha
    show vH t a = _
    rw [y2D]; unfold z3H
    rw [yG, zA, h1]; rfl
  | @b1 a r h1 hd ih =>
    intro ha
    have h0 := zV h1
    show vH t a = _
    rw [y2D]; unfold z3H
    rw [yG, zA, if_pos h1, vL (t := t) (by omega) (by omega)]
    exact ih (by omega) (by omega) (by simp) _
  | @lE f a acc h1 =>
    intro ha hf hacc o
    have h0 := zV h1
    rw [z6k]; unfold z1B
    rw [yG, zA, if_pos h1, vL (t := t) (by omega) (by omega), z1o t (by omega) f (a + 1) (by omega) (by omega)]; rfl
  | @lG f a b acc x r h1 hd _ ih1 ih2 =>
    intro ha hf hacc o
    have q := hd.inS ha; simp only [InS] at q
    have e : z0R t a = some ⟨x, (b : Int), 0⟩ := ih1 ha
    rw [z6k]; unfold z1B
    rw [yG, zA, h1, if_neg (by simp), e, zA, if_pos rfl, if_pos (y0g (by simp; omega))]
    exact ih2 q.2 (by omega) (by simp; omega) o
  | @lB f a b acc h1 hd ih1 =>
    intro ha hf hacc o
    have e : z0R t a = some ⟨zT7, (b : Int), 6⟩ := ih1 ha
    rw [z6k]; unfold z1B
    rw [yG, zA, h1, if_neg (by simp), e, zA]; rfl
  | @fE f a k parts name h1 =>
    intro ha hf form i o hd hl2 hp
    rw [z2Y]; unfold z0B
    have : form.length ≤ i := by
      rcases Nat.lt_or_ge i form.length with h | h
      · rw [List.drop_eq_getElem_cons h] at hd; cases hd
      · exact h
    rw [if_neg (by omega), z1o t (by omega) f a h1 ha]; rfl
  | @fW f a k s its parts name r h1 _ ih =>
    intro ha hf form i o hd hl2 hp
    have h0 := uV h1
    obtain ⟨g1, g2, g3⟩ := z1d hd
    rw [v2F t hl f k form parts name a i ha o s g2 hl2, if_pos h1]
    exact ih (by omega) (by omega) form (i + 1) o g3 hl2 (by omega)
  | @fW0 f a k s its parts name h1 =>
    intro ha hf form i o hd hl2 hp
    obtain ⟨g1, g2, g3⟩ := z1d hd
    rw [v2F t hl f k form parts name a i ha o s g2 hl2, h1]; rfl
  | @fS f a k s its parts name r h1 _ ih =>
    intro ha hf form i o hd hl2 hp
    have h0 := zV h1
    obtain ⟨g1, g2, g3⟩ := z1d hd
    rw [v2z t hl f k form parts name a i ha o s g2 hl2, if_pos h1]
    exact ih (by omega) (by omega) form (i + 1) o g3 hl2 (by omega)
  | @fS0 f a k s its parts name h1 =>
    intro ha hf form i o hd hl2 hp
    obtain ⟨g1, g2, g3⟩ := z1d hd
    rw [v2z t hl f k form parts name a i ha o s g2 hl2, h1]; rfl
  | @fN f a k its parts name r h1 _ ih =>
    intro ha hf form i o hd hl2 hp
    have h0 := uT (t := t) (a := a) (by rw [h1]; decide)
    obtain ⟨g1, g2, g3⟩ := z1d hd
    rw [v3o t hl f k form parts name a i ha o g2 hl2, if_pos h1]
    exact ih (by omega) (by omega) form (i + 1) o g3 hl2 (by omega)
  | @fN0 f a k its parts name h1 =>
    intro ha hf form i o hd hl2 hp
    obtain ⟨g1, g2, g3⟩ := z1d hd
    rw [v3o t hl f k form parts name a i ha o g2 hl2, if_neg h1]; rfl
  | @fX f a b k its parts name x r hd1 _ ih =>
    intro ha hf form i o hd hl2 hp
    have q := hd1.inR ha; simp only [InR] at q
    obtain ⟨g1, g2, g3⟩ := z1d hd
    rw [z5M t hl f k form parts name a i ha o _ g2 hl2 (by omega) (by decide) (by decide) (by decide) (by decide) (y7P t a (v3m hl ha hd1))]
    show (if (0 : Int) = 0 then _ else _) = _
    rw [if_pos rfl]
    exact ih q.2 (by omega) form (i + 1) o g3 hl2 (by simp; omega)
  | @fX0 f a b k its parts name hd1 =>
    intro ha hf form i o hd hl2 hp
    obtain ⟨g1, g2, g3⟩ := z1d hd
    rw [z5M t hl f k form parts name a i ha o _ g2 hl2 (by omega) (by decide) (by decide) (by decide) (by decide) (y7P t a (v3m hl ha hd1))]
    rfl
  | @fT f a k its parts name r h1 _ ih =>
    intro ha hf form i o hd hl2 hp
    have q : a < (z4A t a).2.1 ∧ (z4A t a).2.1 ≤ t.length := y1c (t.length + 1) t a (by omega) h1
    obtain ⟨g1, g2, g3⟩ := z1d hd
    rw [z5M t hl f k form parts name a i ha o _ g2 hl2 (by omega) (by decide) (by decide) (by decide) (by decide) (y7E t a (y8t t hl a ha))]
    dsimp only
    rw [if_pos h1]
    exact ih q.2 (by omega) form (i + 1) o g3 hl2 (by simp; omega)
  | @fT0 f a k its parts name h1 =>
    intro ha hf form i o hd hl2 hp
    obtain ⟨g1, g2, g3⟩ := z1d hd
    rw [z5M t hl f k form parts name a i ha o _ g2 hl2 (by omega) (by decide) (by decide) (by decide) (by decide) (y7E t a (y8t t hl a ha))]
    dsimp only
    have h6 := (y8R (t.length + 1) t a).resolve_left h1
    rw [if_neg h1, v2V _ t a h1]
    show some (zI.mk zT7 _ (typ (t.length + 1) t a).2.2) = _
    rw [h6]; rfl
  | @fK f a b k its parts name x r hd1 _ ih1 ih2 =>
    intro ha hf form i o hd hl2 hp
    have q := hd1.inS ha; simp only [InS] at q
    have e : vH t a = some ⟨x, (b : Int), 0⟩ := ih1 ha
    obtain ⟨g1, g2, g3⟩ := z1d hd
    rw [z5M t hl f k form parts name a i ha o _ g2 hl2 (by omega) (by decide) (by decide) (by decide) (by decide) (z5Y t a _ (by decide) (by decide) e), if_pos rfl]
    exact ih2 q.2 (by omega) form (i + 1) o g3 hl2 (by simp; omega)
  | @fK0 f a b k its parts name hd1 ih1 =>
    intro ha hf form i o hd hl2 hp
    have e : vH t a = some ⟨zT7, (b : Int), 6⟩ := ih1 ha
    obtain ⟨g1, g2, g3⟩ := z1d hd
    rw [z5M t hl f k form parts name a i ha o _ g2 hl2 (by omega) (by decide) (by decide) (by decide) (by decide) (z5Y t a _ (by decide) (by decide) e)]
    rfl
  | @fE0 f a b k its parts name hd1 ih1 =>
    intro ha hf form i o hd hl2 hp
    have e : vH t a = some ⟨zT7, (b : Int), 6⟩ := ih1 ha
    obtain ⟨g1, g2, g3⟩ := z1d hd
    rw [z5M t hl f k form parts name a i ha o _ g2 hl2 (by omega) (by decide) (by decide) (by decide) (by decide) (z5Y t a _ (by decide) (by decide) e)]
    rfl
  | @fE1 f a b k its parts name x r hd1 hw _ ih1 ih2 =>
    intro ha hf form i o hd hl2 hp
    have q := hd1.inS ha; simp only [InS] at q
    have e : vH t a = some ⟨x, (b : Int), 0⟩ := ih1 ha
    obtain ⟨g1, g2, g3⟩ := z1d hd
    obtain ⟨k1, k2, k3⟩ := z1d g3
    rw [z5M t hl f k form parts name a i ha o _ g2 hl2 (by omega) (by decide) (by decide) (by decide) (by decide) (z5Y t a _ (by decide) (by decide) e), if_pos rfl]
    show yQ t f k form (parts ++ [x]) name b ((i + 1 : Nat) : Int) o = _
    rw [y8I t hl f k form _ name b (i + 1) q.2 (by omega) o k2 hl2 (by simp; omega), hw, if_neg (by simp)]
    exact ih2 q.2 (by omega) form (i + 1 + 1) o k3 hl2 (by simp; omega)
  | @fE2 f a b c k its parts name x y r hd1 hw hd2 _ ih1 ih2 ih3 =>
    intro ha hf form i o hd hl2 hp
    have hb := uV hw
    have q := hd1.inS ha; simp only [InS] at q
    have q2 := hd2.inS (by omega); simp only [InS] at q2
    have e : vH t a = some ⟨x, (b : Int), 0⟩ := ih1 ha
    have e2 : vH t ((b + 1 : Nat) : Int) = some ⟨y, (c : Int), 0⟩ := ih2 (by omega)
    obtain ⟨g1, g2, g3⟩ := z1d hd
    obtain ⟨k1, k2, k3⟩ := z1d g3
    rw [z5M t hl f k form parts name a i ha o _ g2 hl2 (by omega) (by decide) (by decide) (by decide) (by decide) (z5Y t a _ (by decide) (by decide) e), if_pos rfl]
    show yQ t f k form (parts ++ [x]) name b ((i + 1 : Nat) : Int) o = _
    rw [y8I t hl f k form _ name b (i + 1) q.2 (by omega) o k2 hl2 (by simp; omega), if_pos hw, z5Y t (b + 1) _ (by decide) (by decide) e2, zA, if_pos rfl]
    exact ih3 q2.2 (by omega) form (i + 1 + 1) o k3 hl2 (by simp; omega)
  | @fE3 f a b c k its parts name x hd1 hw hd2 ih1 ih2 =>
    intro ha hf form i o hd hl2 hp
    have hb := uV hw
    have q := hd1.inS ha; simp only [InS] at q
    have e : vH t a = some ⟨x, (b : Int), 0⟩ := ih1 ha
    have e2 : vH t ((b + 1 : Nat) : Int) = some ⟨zT7, (c : Int), 6⟩ := ih2 (by omega)
    obtain ⟨g1, g2, g3⟩ := z1d hd
    obtain ⟨k1, k2, k3⟩ := z1d g3
    rw [z5M t hl f k form parts name a i ha o _ g2 hl2 (by omega) (by decide) (by decide) (by decide) (by decide) (z5Y t a _ (by decide) (by decide) e), if_pos rfl]
    show yQ t f k form (parts ++ [x]) name b ((i + 1 : Nat) : Int) o = _
    rw [y8I t hl f k form _ name b (i + 1) q.2 (by omega) o k2 hl2 (by simp; omega), if_pos hw, z5Y t (b + 1) _ (by decide) (by decide) e2, zA]
    rfl
def PrU (t : List zB) (K N : Int) (S : Str) (L : List zE) (F T : Int) (p : Option (zE × List zB × Int × Int × Int × Int × Str × List zE × Int × Int)) : Res → Prop
  | .ok x b => p = some (x, t, (b : Int), 0, K, N, S, L, F, T)
  | .bad b => ∃ x, p = some (x, t, (b : Int), 6, K, N, S, L, F, T)
section
variable {t : List zB} {n : Nat} (tk : Tk t n) (K N : Int) (S : Str) (L : List zE) (F T : Int)
include tk
theorem y3z {a : Nat} {p : Option (zE × List zB × Int × Int × Int × Int × Str × List zE × Int × Int)} {P : zE → Nat → Prop} {r : Res} (h : Ret t n K N S L F T a 0 p P) (hr : PrU t K N S L F T p r) : match r with
    | .ok x b => a ≤ b ∧ b ≤ n ∧ P x b
    | .bad b => a ≤ b ∧ b ≤ n := by
  obtain ⟨x, b, e, h1, h2, h3, h4⟩ := h
  cases r with
  | ok y c =>
    have h5 : p = some (y, t, (c : Int), 0, K, N, S, L, F, T) := hr
    rw [h1] at h5
    simp only [Option.some.injEq, Prod.mk.injEq] at h5
    obtain ⟨rfl, -, h6, rfl, -⟩ := h5
    have : b = c := by omega
    subst this
    exact ⟨h2, h3, (h4 rfl).2⟩
  | bad c =>
    obtain ⟨y, h5⟩ := hr
    rw [h1] at h5
    simp only [Option.some.injEq, Prod.mk.injEq] at h5
    obtain ⟨-, -, h6, -⟩ := h5
    have : b = c := by omega
    subst this
    exact ⟨h2, h3⟩
theorem v8d (s : Str) (a : Nat) : y7l t 4 s a = yT t a s := rfl
theorem z9d (s : Str) (a : Nat) : y7l t 3 s a = vD t a s := rfl
theorem z9O {a : Nat} (ha : a ≤ n) (h : (zQ t a).K = 1) : wC t a 0 K N S L F T = some ((zQ t a).S, t, ((a + 1 : Nat) : Int), 0, K, N, S, L, F, T) := by
  unfold wC
  have h1 := tk.len
  have h2 := tk.room
  rw [if_pos rfl, tk.idx ha, zA, if_pos h, z6d tk ha, z0Q (by omega) (by omega), show ((a + 1 : Nat) : Int) - 1 = (a : Int) by omega, tk.idx ha, zA]
theorem y3m {a : Nat} (ha : a ≤ n) (h : (zQ t a).K ≠ 1) : wC t a 0 K N S L F T = some ([], t, (a : Int), 6, K, N, S, L, F, T) := by
  unfold wC
  rw [if_pos rfl, tk.idx ha, zA, if_neg h]
theorem v2C (a : Int) {e : Int} (h : e ≠ 0) : wC t a e K N S L F T = some ([], t, a, e, K, N, S, L, F, T) := by
  unfold wC; rw [if_neg h]
theorem z3j (k : Int) (s : Str) {a : Nat} (ha : a ≤ n) (h : y7l t k s a = true) : yE k s t a 0 K N S L F T = some (t, ((a + 1 : Nat) : Int), 0, K, N, S, L, F, T) := by
  unfold yE
  rw [if_pos rfl, z7g tk K N S L F T k s ha rfl h, zA, if_pos rfl]
theorem z5d (k : Int) (s : Str) {a : Nat} (ha : a ≤ n) (h : ¬ y7l t k s a = true) : yE k s t a 0 K N S L F T = some (t, (a : Int), 6, K, N, S, L, F, T) := by
  unfold yE
  rw [if_pos rfl, z7E tk K N S L F T k s ha (fun g => h g.2), zA]; dsimp only
  rw [if_neg (by decide)]
theorem z0N (k : Int) (s : Str) (a : Int) {e : Int} (h : e ≠ 0) : yE k s t a e K N S L F T = some (t, a, e, K, N, S, L, F, T) := by
  unfold yE; rw [if_neg h]
theorem z6w (a : Int) {e : Int} (h : e ≠ 0) : yL t a e K N S L F T = some (zT7, t, a, e, K, N, S, L, F, T) := by
  unfold yL; rw [if_neg h]
theorem y0a (a : Int) {e : Int} (h : e ≠ 0) : vQ t a e K N S L F T = some (zT7, t, a, e, K, N, S, L, F, T) := by
  unfold vQ; rw [if_neg h]
theorem v5F (a : Int) {e : Int} (h : e ≠ 0) : vM t a e K N S L F T = some (zT7, t, a, e, K, N, S, L, F, T) := by
  unfold vM; rw [if_neg h]
theorem z0C (k m : Int) (s : Str) (f a : Int) (l : List zE) {e : Int} (h : e ≠ 0) : vO k m s f l t a e K N S L F T = some zT7 := by
  unfold vO; rw [if_neg h]
theorem z8H (k m : Int) (s : Str) {f b : Nat} (l : List zE) (hf : f < b) (hb : b ≤ n) : vO k m s f l t b 0 K N S L F T = some (jM t f b ⟨k, m, s, l, 0, 0⟩) := by
  unfold vO
  have h1 := tk.len
  have h2 := tk.room
  rw [if_pos rfl, tk.idx (show f ≤ n by omega), zA, z0Q (by omega) (by omega), show (b : Int) - 1 = ((b - 1 : Nat) : Int) by omega, tk.idx (show b - 1 ≤ n by omega), zA]
  rfl
theorem y6f {a : Nat} (ha : a ≤ n) : ∃ r, PrU t K N S L F T (yL t a 0 K N S L F T) r ∧ jJ t a = some (got r) := by
  have h1 := tk.len
  have h2 := tk.room
  have hr := y8t t (by omega) a (by omega)
  unfold yL z5c gY
  obtain ⟨x, e1, e2⟩ := v1r t (by omega) (t.length + 1) a (by omega) (by omega)
  rw [if_pos rfl, if_neg (by omega), if_neg (by omega), e1, zA]
  dsimp only
  by_cases h3 : (typ (t.length + 1) t a).2.2 = 0
  · rw [if_pos h3, zA, zA, e2 h3]
    refine ⟨.ok (z4A t a).1 (z4A t a).2.1, rfl, ?_⟩
    rw [hr]; show some (zI.mk _ _ (typ (t.length + 1) t a).2.2) = _; rw [h3]; rfl
  · have h6 : (typ (t.length + 1) t a).2.2 = 6 := (y8R (t.length + 1) t a).resolve_left h3
    rw [if_neg h3, zA, zA]
    refine ⟨.bad (z4A t a).2.1, ⟨_, by rw [h6]⟩, ?_⟩
    rw [hr, v2V (t.length + 1) t a h3]; show some (zI.mk _ _ (typ (t.length + 1) t a).2.2) = _; rw [h6]; rfl
theorem v3w {a : Nat} (ha : a ≤ n) : ∃ r, PrU t K N S L F T (vQ t a 0 K N S L F T) r ∧ vH t a = some (got r) := by
  have h1 := tk.len
  have h2 := tk.room
  unfold vQ
  obtain ⟨r, hr⟩ := (v2Q t (t.length - a) a (by omega)).2
  have e : vH t a = some (got r) := v2a (by omega) hr (by omega)
  refine ⟨r, ?_, e⟩
  rw [if_pos rfl, y9o t (by omega) a (by omega) hr, zA]
  cases r with
  | ok x b => rfl
  | bad b => exact ⟨zT7, rfl⟩
theorem rw1 {a : Nat} (ha : a ≤ n) (j : Nat) (hj : j ≤ 4) : IntKind.wrap .i64 ((a : Int) + (j : Int)) = ((a + j : Nat) : Int) := by
  have := tk.len; have := tk.room
  rw [z0Q (by omega) (by omega)]; omega
theorem y7b {a : Nat} (ha : a ≤ n) : ∃ r, PrU t K N S L F T (uY t a 0 K N S L F T) r ∧ z3K t a = some (got r) := by
  have hlen := tk.len
  have hroom := tk.room
  have w1 := rw1 tk ha 1 (by omega)
  have w2 := rw1 tk ha 2 (by omega)
  unfold uY z3K
  rw [z1e, zA]
  by_cases h1 : (zQ t a).K = 1
  · have hlt := z1G tk.ln (a := a) (by rw [h1]; decide)
    rw [z9O tk K N S L F T ha h1, zA, if_pos h1, show ((1 : Int)) = ((1 : Nat) : Int) from rfl, w1, yG, zA]; dsimp only
    by_cases h2 : yT t (a + 1) [58] = true
    · have hlt2 := uZ tk.ln h2
      rw [z3j tk K N S L F T 4 [58] hlt h2, zA, if_pos h2, show ((2 : Int)) = ((2 : Nat) : Int) from rfl, w2]; dsimp only
      obtain ⟨r, p1, p2⟩ := y6f tk K N S L F T (a := a + 1 + 1) hlt2
      have g := y3z tk K N S L F T (y3K tk K N S L F T (a := a + 1 + 1) 0 hlt2) p1
      rw [show a + 1 + 1 = a + 2 from rfl] at p1 p2
      rw [p2, zA]
      cases r with
      | ok x b =>
        have p1' : yL t ((a + 2 : Nat) : Int) 0 K N S L F T = _ := p1
        refine ⟨.ok (jM t a b ⟨34, 0, (zQ t a).S, [x], 0, 0⟩) b, ?_, ?_⟩
        · rw [show ((a + 1 + 1 : Nat) : Int) = ((a + 2 : Nat) : Int) from rfl, p1', zA]; dsimp only
          rw [z8H tk K N S L F T 34 0 _ [x] (by omega) g.2.1, zA]; rfl
        · show (idx t (a : Int) >>= fun x1 => yS t a b 34 0 x1.S [x] >>= fun q6 => some q6) = _
          rw [tk.idx ha, zA, z1o t (by omega) a b (by omega) (by omega)]; rfl
      | bad b =>
        obtain ⟨y, p1'⟩ := p1
        have p1' : yL t ((a + 2 : Nat) : Int) 0 K N S L F T = _ := p1'
        refine ⟨.bad b, ?_, rfl⟩
        rw [show ((a + 1 + 1 : Nat) : Int) = ((a + 2 : Nat) : Int) from rfl, p1', zA]; dsimp only
        rw [z0C tk K N S L F T 34 0 _ _ _ _ (by decide), zA]
        exact ⟨_, rfl⟩
    · rw [z5d tk K N S L F T 4 [58] hlt h2, zA, if_neg h2]; dsimp only
      rw [z6w tk K N S L F T _ (by decide), zA]; dsimp only
      rw [z0C tk K N S L F T 34 0 _ _ _ _ (by decide), zA]
      exact ⟨.bad (a + 1), ⟨_, rfl⟩, rfl⟩
  · rw [y3m tk K N S L F T ha h1, zA, if_neg h1]; dsimp only
    rw [z0N tk K N S L F T _ _ _ (by decide), zA]; dsimp only
    rw [z6w tk K N S L F T _ (by decide), zA]; dsimp only
    rw [z0C tk K N S L F T 34 0 _ _ _ _ (by decide), zA]
    exact ⟨.bad a, ⟨_, rfl⟩, rfl⟩
theorem y5x (a : Int) {e : Int} (h : e ≠ 0) : uY t a e K N S L F T = some (zT7, t, a, e, K, N, S, L, F, T) := by
  unfold uY
  rw [v2C tk K N S L F T _ h, zA]; dsimp only
  rw [z0N tk K N S L F T _ _ _ h, zA]; dsimp only
  rw [z6w tk K N S L F T _ h, zA]; dsimp only
  rw [z0C tk K N S L F T 34 0 _ _ _ _ h, zA]
end
abbrev St9 := List zB × Int × Int × Int × Int × Str × List zE × Int × Int
def PT (f : Int) (q4 : List zE × St9) : Option (zE × St9) :=
  yE 4 ([41] : List UInt8) q4.2.1 q4.2.2.1 q4.2.2.2.1 q4.2.2.2.2.1 q4.2.2.2.2.2.1 q4.2.2.2.2.2.2.1 q4.2.2.2.2.2.2.2.1 q4.2.2.2.2.2.2.2.2.1 q4.2.2.2.2.2.2.2.2.2 >>= fun q5 =>
  vO 35 0 ([] : List UInt8) f q4.1 q5.1 q5.2.1 q5.2.2.1 q5.2.2.2.1 q5.2.2.2.2.1 q5.2.2.2.2.2.1 q5.2.2.2.2.2.2.1 q5.2.2.2.2.2.2.2.1 q5.2.2.2.2.2.2.2.2 >>= fun q6 =>
  some (q6, q5.1, q5.2.1, q5.2.2.1, q5.2.2.2.1, q5.2.2.2.2.1, q5.2.2.2.2.2.1, q5.2.2.2.2.2.2.1, q5.2.2.2.2.2.2.2.1, q5.2.2.2.2.2.2.2.2)
def RT (s : Str) (f : Int) (q3 : List zE × St9) : Option (zE × St9) :=
  yE 4 ([125] : List UInt8) q3.2.1 q3.2.2.1 q3.2.2.2.1 q3.2.2.2.2.1 q3.2.2.2.2.2.1 q3.2.2.2.2.2.2.1 q3.2.2.2.2.2.2.2.1 q3.2.2.2.2.2.2.2.2.1 q3.2.2.2.2.2.2.2.2.2 >>= fun q4 =>
  vO 30 0 s f q3.1 q4.1 q4.2.1 q4.2.2.1 q4.2.2.2.1 q4.2.2.2.2.1 q4.2.2.2.2.2.1 q4.2.2.2.2.2.2.1 q4.2.2.2.2.2.2.2.1 q4.2.2.2.2.2.2.2.2 >>= fun q5 =>
  some (q5, q4.1, q4.2.1, q4.2.2.1, q4.2.2.2.1, q4.2.2.2.2.1, q4.2.2.2.2.2.1, q4.2.2.2.2.2.2.1, q4.2.2.2.2.2.2.2.1, q4.2.2.2.2.2.2.2.2)
noncomputable def y4c (t : List zB) (b : Int) (out : List zE) : Option (List zE × Int × Int) :=
  z3K t b >>= fun q1 =>
    if q1.E = 0 then
      yH t q1.At ([59] : List UInt8) >>= fun q2 =>
      if q2 = true then
        if z1i 72 (List.length out + List.length [q1.T_]) then
        vT t (IntKind.wrap .i64 (q1.At + 1)) (out ++ [q1.T_])
        else none
      else
      some (out, q1.At, 6)
    else
    some (out, q1.At, q1.E)
section
variable {t : List zB} {n : Nat} (tk : Tk t n) (K N : Int) (S : Str) (L : List zE) (F T : Int)
include tk
theorem v2U (f : Int) (l : List zE) (a : Int) {e : Int} (h : e ≠ 0) : PT f (l, t, a, e, K, N, S, L, F, T) = some (zT7, t, a, e, K, N, S, L, F, T) := by
  unfold PT; dsimp only
  rw [z0N tk K N S L F T _ _ _ h, zA]; dsimp only
  rw [z0C tk K N S L F T _ _ _ _ _ _ h, zA]
theorem v2H (s : Str) (f : Int) (l : List zE) (a : Int) {e : Int} (h : e ≠ 0) : RT s f (l, t, a, e, K, N, S, L, F, T) = some (zT7, t, a, e, K, N, S, L, F, T) := by
  unfold RT; dsimp only
  rw [z0N tk K N S L F T _ _ _ h, zA]; dsimp only
  rw [z0C tk K N S L F T _ _ _ _ _ _ h, zA]
theorem v1C {out : List zE} {x : zE} {b : Nat} (h : out.length ≤ b) (hb : b ≤ n) : z1i 72 (List.length out + List.length [x]) := by
  have := tk.len; have := tk.room
  exact y0g (by simp only [List.length_cons, List.length_nil]; omega)
theorem y9E {f : Nat} (o : zI) : ∀ (k : Nat) (out : List zE) (b : Nat), n < b + k → b ≤ n → f < b → out.length ≤ b →
    ∃ r, PrU t K N S L F T (zH out t b 0 K N S L F T >>= PT f) r ∧ (if yT t b [44] = true then wF t f out (IntKind.wrap .i64 ((b : Int) + 1)) (yT t b [44]) o else wF t f out b (yT t b [44]) o) = some (got r) := by
  have hlen := tk.len
  have hroom := tk.room
  intro k
  induction k with
  | zero => intro out b h1 h2; omega
  | succ k ih =>
    intro out b h1 h2 hf ho
    rw [jP]; unfold yO z2R
    rw [if_pos rfl]
    by_cases h : yT t b [44] = true
    · have hlt := uZ tk.ln h
      rw [z7g tk K N S L F T 4 [44] h2 rfl h, zA, zA]; dsimp only
      rw [if_pos h, h, z6d tk h2, z5F]; unfold z1j
      obtain ⟨r, p1, p2⟩ := y7b tk K N S L F T (a := b + 1) hlt
      have g := y3z tk K N S L F T (y3Z tk K N S L F T (a := b + 1) 0 hlt) p1
      cases r with
      | ok x c =>
        have g1 := g.1
        have g2 := g.2.1
        have g3 := g.2.2.2.2
        obtain ⟨r2, s1, s2⟩ := ih (out ++ [x]) c (by omega) g2 (by omega) (by simp; omega)
        refine ⟨r2, ?_, ?_⟩
        · rw [if_pos rfl, show uY t ((b + 1 : Nat) : Int) 0 K N S L F T = some (x, t, (c : Int), 0, K, N, S, L, F, T) from p1, zA]; dsimp only
          rw [if_pos (v1C tk ho h2)]; exact s1
        · rw [if_pos rfl, p2, zA]
          show (if z1i 72 (List.length out + List.length [x]) then yH t (c : Int) [44] >>= _ else none) = _
          rw [if_pos (v1C tk ho h2), yG, zA]; exact s2
      | bad c =>
        obtain ⟨y, p1⟩ := p1
        refine ⟨.bad c, ?_, ?_⟩
        · rw [if_pos rfl, p1, zA]; dsimp only
          rw [if_pos (v1C tk ho h2), z9N tk K N S L F T (by decide), zA, v2U tk K N S L F T _ _ _ (by decide)]
          exact ⟨_, rfl⟩
        · rw [if_pos rfl, p2, zA]; rfl
    · rw [z7E tk K N S L F T 4 [44] h2 (fun g => h g.2), zA, zA]; dsimp only
      rw [if_neg h, z5F]; unfold z1j
      have h' : yT t b [44] = false := by simpa using h
      by_cases h3 : yT t b [41] = true
      · have hlt := uZ tk.ln h3
        refine ⟨.ok (jM t f (b + 1) ⟨35, 0, [], out, 0, 0⟩) (b + 1), ?_, ?_⟩
        · rw [if_neg (by decide), zA]; unfold PT; dsimp only
          rw [z3j tk K N S L F T 4 [41] h2 h3, zA]; dsimp only
          rw [z8H tk K N S L F T 35 0 [] out (by omega) hlt, zA]; rfl
        · rw [h', if_neg (by decide), yG, zA, if_pos h3, z6d tk h2, z1o t (by omega) f (b + 1) (by omega) (by omega)]; rfl
      · refine ⟨.bad b, ?_, ?_⟩
        · rw [if_neg (by decide), zA]; unfold PT; dsimp only
          rw [z5d tk K N S L F T 4 [41] h2 h3, zA]; dsimp only
          rw [z0C tk K N S L F T _ _ _ _ _ _ (by decide), zA]
          exact ⟨_, rfl⟩
        · rw [h', if_neg (by decide), yG, zA, if_neg h3]; rfl
theorem y7J (a : Int) {e : Int} (h : e ≠ 0) (hn : ∃ b : Nat, a = b ∧ b ≤ n) : uK t a e K N S L F T = some (zT7, t, a, e, K, N, S, L, F, T) := by
  obtain ⟨b, rfl, hb⟩ := hn
  unfold uK vZ
  rw [z0N tk K N S L F T _ _ _ h, zA]; dsimp only
  rw [z7E tk K N S L F T 4 [41] hb (fun g => h g.1), zA]; dsimp only
  rw [if_neg (by decide), y5x tk K N S L F T _ h, zA]; dsimp only
  rw [z9N tk K N S L F T h, zA]
  exact v2U tk K N S L F T _ _ _ h
theorem v1d {a : Nat} (ha : a ≤ n) : ∃ r, PrU t K N S L F T (uK t a 0 K N S L F T) r ∧ z6E t a = some (got r) := by
  have hlen := tk.len
  have hroom := tk.room
  unfold uK z6E vZ
  rw [yG, zA]
  by_cases h1 : yT t a [40] = true
  · have hlt := uZ tk.ln h1
    rw [z3j tk K N S L F T 4 [40] ha h1, zA, if_pos h1, z6d tk ha, yG, zA]; dsimp only
    by_cases h2 : yT t (a + 1) [41] = true
    · have hlt2 := uZ tk.ln h2
      refine ⟨.ok (jM t a (a + 2) ⟨35, 0, [], [], 0, 0⟩) (a + 2), ?_, ?_⟩
      · rw [z7g tk K N S L F T 4 [41] hlt rfl h2, zA]; dsimp only
        rw [if_pos rfl, show ((a + 1 + 1 : Nat) : Int) = ((a + 2 : Nat) : Int) from rfl, z8H tk K N S L F T 35 0 [] [] (by omega) (by omega), zA]; rfl
      · rw [if_pos h2, z6d tk hlt, show ((a + 1 + 1 : Nat) : Int) = ((a + 2 : Nat) : Int) from rfl, z1o t (by omega) a (a + 2) (by omega) (by omega)]; rfl
    · rw [z7E tk K N S L F T 4 [41] hlt (fun g => h2 g.2), zA, if_neg h2]; dsimp only
      rw [z5F]; unfold z1j
      obtain ⟨r, p1, p2⟩ := y7b tk K N S L F T (a := a + 1) hlt
      have g := y3z tk K N S L F T (y3Z tk K N S L F T (a := a + 1) 0 hlt) p1
      cases r with
      | ok x c =>
        have g1 := g.1
        have g2 := g.2.1
        have g3 := g.2.2.2.2
        obtain ⟨r2, s1, s2⟩ := y9E tk K N S L F T (f := a) (zI.mk (zE.mk 0 0 ([] : List UInt8) [] 0 0) 0 0) (n + 1) [x] c (by omega) g2 (by omega) (by simp; omega)
        refine ⟨r2, ?_, ?_⟩
        · rw [if_neg (by decide), show uY t ((a + 1 : Nat) : Int) 0 K N S L F T = some (x, t, (c : Int), 0, K, N, S, L, F, T) from p1, zA]; exact s1
        · rw [if_pos rfl, p2, zA]
          show (if z1i 72 (List.length ([] : List zE) + List.length [x]) then yH t (c : Int) [44] >>= _ else none) = _
          rw [if_pos (v1C tk (Nat.zero_le _) g2), yG, zA]; exact s2
      | bad c =>
        obtain ⟨y, p1⟩ := p1
        refine ⟨.bad c, ?_, ?_⟩
        · rw [if_neg (by decide), p1, zA]; dsimp only
          rw [z9N tk K N S L F T (by decide), zA]
          show PrU t K N S L F T (PT a _) _
          rw [v2U tk K N S L F T _ _ _ (by decide)]
          exact ⟨_, rfl⟩
        · rw [if_pos rfl, p2, zA]; rfl
  · refine ⟨.bad a, ?_, ?_⟩
    · rw [z5d tk K N S L F T 4 [40] ha h1, zA]; dsimp only
      rw [z7E tk K N S L F T 4 [41] ha (fun g => absurd g.1 (by decide)), zA]; dsimp only
      rw [if_neg (by decide), y5x tk K N S L F T _ (by decide), zA]; dsimp only
      rw [z9N tk K N S L F T (by decide), zA]
      show PrU t K N S L F T (PT a _) _
      rw [v2U tk K N S L F T _ _ _ (by decide)]
      exact ⟨_, rfl⟩
    · rw [if_neg h1]; rfl
theorem y7H {b : Nat} (hb : b ≤ n) : (∃ (x : zE) (c : Nat), gD t b 0 K N S L F T = some (x, t, ((c + 1 : Nat) : Int), 0, K, N, S, L, F, T) ∧ b < c ∧ c < n ∧ ∀ out : List zE, out.length ≤ b → y4c t b out = vT t ((c + 1 : Nat) : Int) (out ++ [x])) ∨
    (∃ (x : zE) (c : Nat), gD t b 0 K N S L F T = some (x, t, (c : Int), 6, K, N, S, L, F, T) ∧ c ≤ n ∧ ∀ out : List zE, y4c t b out = some (out, (c : Int), 6)) := by
  unfold gD y4c
  obtain ⟨r, p1, p2⟩ := y7b tk K N S L F T hb
  have g := y3z tk K N S L F T (y3Z tk K N S L F T 0 hb) p1
  rw [p2]
  cases r with
  | ok x c =>
    have g1 := g.2.1
    have g3 := g.2.2.2.2
    rw [show uY t (b : Int) 0 K N S L F T = some (x, t, (c : Int), 0, K, N, S, L, F, T) from p1, zA]; dsimp only
    by_cases h : yT t c [59] = true
    · have hlt := uZ tk.ln h
      left
      rw [z3j tk K N S L F T 4 [59] g1 h, zA]
      refine ⟨x, c, rfl, g3, hlt, fun out ho => ?_⟩
      rw [zA]
      show (yH t (c : Int) [59] >>= _) = _
      rw [yG, zA, if_pos h]
      show (if z1i 72 (List.length out + List.length [x]) then vT t (IntKind.wrap .i64 ((c : Int) + 1)) (out ++ [x]) else none) = _
      rw [if_pos (v1C tk ho hb), z6d tk g1]
    · right
      rw [z5d tk K N S L F T 4 [59] g1 h, zA]
      refine ⟨x, c, rfl, g1, fun out => ?_⟩
      rw [zA]
      show (yH t (c : Int) [59] >>= _) = _
      rw [yG, zA, if_neg h]; rfl
  | bad c =>
    obtain ⟨y, p1⟩ := p1
    right
    rw [p1, zA]; dsimp only
    rw [z0N tk K N S L F T _ _ _ (by decide), zA]
    refine ⟨_, c, rfl, g.2, fun out => ?_⟩
    rw [zA]; rfl
def FB (t : List zB) (K N : Int) (S : Str) (L : List zE) (F T : Int) (n f b : Nat) (s : Str) (p : Option (zE × St9)) (q : Option (List zE × Int × Int)) : Prop :=
  (∃ (l : List zE) (c : Nat), p = some (jM t f c ⟨30, 0, s, l, 0, 0⟩, t, (c : Int), 0, K, N, S, L, F, T) ∧ f < c ∧ c ≤ n ∧ q = some (l, (c : Int), 0)) ∨
  (∃ (x : zE) (l : List zE) (c : Nat), p = some (x, t, (c : Int), 6, K, N, S, L, F, T) ∧ q = some (l, (c : Int), 6))
theorem v0Y {f : Nat} (s : Str) : ∀ (k : Nat) (out : List zE) (b : Nat), n < b + k → b ≤ n → f < b → out.length ≤ b → 0 < out.length →
    FB t K N S L F T n f b s (zG out t b 0 K N S L F T >>= RT s f) (vT t b out) := by
  have hlen := tk.len
  have hroom := tk.room
  intro k
  induction k with
  | zero => intro out b h1 h2; omega
  | succ k ih =>
    intro out b h1 h2 hf ho ho2
    rw [jQ, z7V]; unfold yP z3l z1O
    rw [if_pos rfl, z7y tk K N S L F T 4 [125] 0 h2, zA, zA, if_neg (show ¬ ((List.length out : Int) = 0) by omega), yG, zA, v8d tk]
    by_cases h : yT t b [125] = true
    · have hlt := uZ tk.ln h
      rw [if_neg (by rw [h]; decide), zA, if_pos h, z6d tk h2]
      left
      refine ⟨out, b + 1, ?_, by omega, hlt, rfl⟩
      unfold RT; dsimp only
      rw [z3j tk K N S L F T 4 [125] h2 h, zA]; dsimp only
      rw [z8H tk K N S L F T 30 0 s out (by omega) hlt, zA]
    · have h' : yT t b [125] = false := by simpa using h
      rw [if_pos (by rw [h']; rfl), if_neg h]
      rcases y7H tk K N S L F T h2 with ⟨x, c, e1, e2, e3, e4⟩ | ⟨x, c, e1, e2, e3⟩
      · rw [e1, zA]; dsimp only
        rw [if_pos (v1C tk ho h2), show (z3K t (b : Int) >>= _) = y4c t b out from rfl, e4 out ho]
        exact ih (out ++ [x]) (c + 1) (by omega) (by omega) (by omega) (by simp; omega) (by simp)
      · rw [e1, zA]; dsimp only
        rw [if_pos (v1C tk ho h2), z6B tk K N S L F T (by decide), zA, v2H tk K N S L F T _ _ _ _ (by decide), show (z3K t (b : Int) >>= _) = y4c t b out from rfl, e3 out]
        exact .inr ⟨_, out, c, rfl, rfl⟩
end
noncomputable def FRq (k f : Int) (q2 : St9) : Option (zE × St9) :=
    wC q2.1 q2.2.1 q2.2.2.1 q2.2.2.2.1 q2.2.2.2.2.1 q2.2.2.2.2.2.1 q2.2.2.2.2.2.2.1 q2.2.2.2.2.2.2.2.1 q2.2.2.2.2.2.2.2.2 >>= fun q3 =>
    uK q3.2.1 q3.2.2.1 q3.2.2.2.1 q3.2.2.2.2.1 q3.2.2.2.2.2.1 q3.2.2.2.2.2.2.1 q3.2.2.2.2.2.2.2.1 q3.2.2.2.2.2.2.2.2.1 q3.2.2.2.2.2.2.2.2.2 >>= fun q4 =>
    yE 4 ([58] : List UInt8) q4.2.1 q4.2.2.1 q4.2.2.2.1 q4.2.2.2.2.1 q4.2.2.2.2.2.1 q4.2.2.2.2.2.2.1 q4.2.2.2.2.2.2.2.1 q4.2.2.2.2.2.2.2.2.1 q4.2.2.2.2.2.2.2.2.2 >>= fun q5 =>
    yL q5.1 q5.2.1 q5.2.2.1 q5.2.2.2.1 q5.2.2.2.2.1 q5.2.2.2.2.2.1 q5.2.2.2.2.2.2.1 q5.2.2.2.2.2.2.2.1 q5.2.2.2.2.2.2.2.2 >>= fun q6 =>
    vQ q6.2.1 q6.2.2.1 q6.2.2.2.1 q6.2.2.2.2.1 q6.2.2.2.2.2.1 q6.2.2.2.2.2.2.1 q6.2.2.2.2.2.2.2.1 q6.2.2.2.2.2.2.2.2.1 q6.2.2.2.2.2.2.2.2.2 >>= fun q7 =>
    vO 33 k q3.1 f [q4.1, q6.1, q7.1] q7.2.1 q7.2.2.1 q7.2.2.2.1 q7.2.2.2.2.1 q7.2.2.2.2.2.1 q7.2.2.2.2.2.2.1 q7.2.2.2.2.2.2.2.1 q7.2.2.2.2.2.2.2.2.1 q7.2.2.2.2.2.2.2.2.2 >>= fun q8 =>
    some (q8, q7.2.1, q7.2.2.1, q7.2.2.2.1, q7.2.2.2.2.1, q7.2.2.2.2.2.1, q7.2.2.2.2.2.2.1, q7.2.2.2.2.2.2.2.1, q7.2.2.2.2.2.2.2.2.1, q7.2.2.2.2.2.2.2.2.2)
section
variable {t : List zB} {n : Nat} (tk : Tk t n) (K N : Int) (S : Str) (L : List zE) (F T : Int)
include tk
theorem v4O {a f : Nat} (k : Int) (hf : f ≤ a) (ha : a ≤ n) : ∃ r, PrU t K N S L F T (yE 3 ([102, 110] : List UInt8) t a 0 K N S L F T >>= fun q2 => FRq k f q2) r ∧ y4h t f a k = some (got r) := by
  have hlen := tk.len
  have hroom := tk.room
  unfold y4h
  rw [uD, zA]
  by_cases h1 : vD t a [102, 110] = true
  · have hlt := z2O tk.ln h1
    rw [z3j tk K N S L F T 3 _ ha h1, zA, if_pos h1, z6d tk ha, z1e, zA]; unfold FRq; dsimp only
    by_cases h2 : (zQ t (a + 1)).K = 1
    · have hlt2 := z1G tk.ln (a := a + 1) (by rw [h2]; decide)
      have w2 : IntKind.wrap .i64 ((a : Int) + 2) = ((a + 2 : Nat) : Int) := rw1 tk ha 2 (by omega)
      rw [z9O tk K N S L F T hlt h2, zA, if_pos h2, w2, show ((a + 1 + 1 : Nat) : Int) = ((a + 2 : Nat) : Int) from rfl]; dsimp only
      obtain ⟨r1, p1, p2⟩ := v1d tk K N S L F T (a := a + 2) (by omega)
      have g := y3z tk K N S L F T (y9M tk K N S L F T (a := a + 2) 0 (by omega)) p1
      rw [p2, zA]
      cases r1 with
      | bad c =>
        obtain ⟨y, p1⟩ := p1
        refine ⟨.bad c, ?_, rfl⟩
        rw [p1, zA]; dsimp only
        rw [z0N tk K N S L F T _ _ _ (by decide), zA]; dsimp only
        rw [z6w tk K N S L F T _ (by decide), zA]; dsimp only
        rw [y0a tk K N S L F T _ (by decide), zA]; dsimp only
        rw [z0C tk K N S L F T _ _ _ _ _ _ (by decide), zA]; exact ⟨_, rfl⟩
      | ok x c =>
        have g1 := g.1
        have g2 := g.2.1
        rw [show uK t ((a + 2 : Nat) : Int) 0 K N S L F T = some (x, t, (c : Int), 0, K, N, S, L, F, T) from p1, zA]; dsimp only
        by_cases h3 : yT t c [58] = true
        · have hlt3 := uZ tk.ln h3
          rw [z3j tk K N S L F T 4 [58] g2 h3, zA]; dsimp only
          obtain ⟨r2, s1, s2⟩ := y6f tk K N S L F T (a := c + 1) hlt3
          have e := y3z tk K N S L F T (y3K tk K N S L F T (a := c + 1) 0 hlt3) s1
          cases r2 with
          | bad d =>
            obtain ⟨y, s1⟩ := s1
            refine ⟨.bad d, ?_, ?_⟩
            · rw [s1, zA]; dsimp only
              rw [y0a tk K N S L F T _ (by decide), zA]; dsimp only
              rw [z0C tk K N S L F T _ _ _ _ _ _ (by decide), zA]; exact ⟨_, rfl⟩
            · show (yH t (c : Int) [58] >>= _) = _
              rw [yG, zA, if_pos h3]
              show (jJ t (IntKind.wrap .i64 ((c : Int) + 1)) >>= _) = _
              rw [z6d tk g2, s2]; rfl
          | ok y d =>
            have e1 := e.1
            have e2 := e.2.1
            rw [show yL t ((c + 1 : Nat) : Int) 0 K N S L F T = some (y, t, (d : Int), 0, K, N, S, L, F, T) from s1, zA]; dsimp only
            obtain ⟨r3, u1, u2⟩ := v3w tk K N S L F T (a := d) e2
            have v := y3z tk K N S L F T (v2y tk K N S L F T (a := d) 0 e2) u1
            cases r3 with
            | bad q =>
              obtain ⟨z, u1⟩ := u1
              refine ⟨.bad q, ?_, ?_⟩
              · rw [u1, zA]; dsimp only
                rw [z0C tk K N S L F T _ _ _ _ _ _ (by decide), zA]; exact ⟨_, rfl⟩
              · show (yH t (c : Int) [58] >>= _) = _
                rw [yG, zA, if_pos h3]
                show (jJ t (IntKind.wrap .i64 ((c : Int) + 1)) >>= _) = _
                rw [z6d tk g2, s2]
                show (vH t (d : Int) >>= _) = _
                rw [u2]; rfl
            | ok z q =>
              have v1 := v.1
              have v2 := v.2.1
              refine ⟨.ok (jM t f q ⟨33, k, (zQ t (a + 1)).S, [x, y, z], 0, 0⟩) q, ?_, ?_⟩
              · rw [show vQ t (d : Int) 0 K N S L F T = some (z, t, (q : Int), 0, K, N, S, L, F, T) from u1, zA]; dsimp only
                rw [z8H tk K N S L F T 33 k _ _ (by omega) v2, zA]; rfl
              · show (yH t (c : Int) [58] >>= _) = _
                rw [yG, zA, if_pos h3]
                show (jJ t (IntKind.wrap .i64 ((c : Int) + 1)) >>= _) = _
                rw [z6d tk g2, s2]
                show (vH t (d : Int) >>= _) = _
                rw [u2]
                show (idx t ((a + 1 : Nat) : Int) >>= fun x1 => yS t f q 33 k x1.S [x, y, z] >>= fun q10 => some q10) = _
                rw [tk.idx hlt, zA, z1o t (by omega) f q (by omega) (by omega)]; rfl
        · refine ⟨.bad c, ?_, ?_⟩
          · rw [z5d tk K N S L F T 4 [58] g2 h3, zA]; dsimp only
            rw [z6w tk K N S L F T _ (by decide), zA]; dsimp only
            rw [y0a tk K N S L F T _ (by decide), zA]; dsimp only
            rw [z0C tk K N S L F T _ _ _ _ _ _ (by decide), zA]; exact ⟨_, rfl⟩
          · show (yH t (c : Int) [58] >>= _) = _
            rw [yG, zA, if_neg h3]; rfl
    · refine ⟨.bad (a + 1), ?_, ?_⟩
      · rw [y3m tk K N S L F T hlt h2, zA]; dsimp only
        rw [y7J tk K N S L F T _ (by decide) ⟨a + 1, rfl, hlt⟩, zA]; dsimp only
        rw [z0N tk K N S L F T _ _ _ (by decide), zA]; dsimp only
        rw [z6w tk K N S L F T _ (by decide), zA]; dsimp only
        rw [y0a tk K N S L F T _ (by decide), zA]; dsimp only
        rw [z0C tk K N S L F T _ _ _ _ _ _ (by decide), zA]; exact ⟨_, rfl⟩
      · rw [if_neg h2]; rfl
  · refine ⟨.bad a, ?_, ?_⟩
    · rw [z5d tk K N S L F T 3 _ ha h1, zA]; unfold FRq; dsimp only
      rw [v2C tk K N S L F T _ (by decide), zA]; dsimp only
      rw [y7J tk K N S L F T _ (by decide) ⟨a, rfl, ha⟩, zA]; dsimp only
      rw [z0N tk K N S L F T _ _ _ (by decide), zA]; dsimp only
      rw [z6w tk K N S L F T _ (by decide), zA]; dsimp only
      rw [y0a tk K N S L F T _ (by decide), zA]; dsimp only
      rw [z0C tk K N S L F T _ _ _ _ _ _ (by decide), zA]; exact ⟨_, rfl⟩
    · rw [if_neg h1]; rfl
theorem v1v {a : Nat} (h : vD t a [118, 97, 114] = true) : ∃ r, PrU t K N S L F T (z0d t a 0 K N S L F T) r ∧ z4H t a = some (got r) := by
  have hlen := tk.len
  have hroom := tk.room
  have ha := z2O tk.ln h
  have hc : vD t a [99, 111, 110, 115, 116] = false := z7F h (by decide)
  unfold z0d z4H
  rw [z6d tk (by omega), z1e, zA]
  by_cases h2 : (zQ t (a + 1)).K = 1
  · have hlt2 := z1G tk.ln (a := a + 1) (by rw [h2]; decide)
    have w2 : IntKind.wrap .i64 ((a : Int) + 2) = ((a + 2 : Nat) : Int) := rw1 tk (by omega) 2 (by omega)
    have w3 : IntKind.wrap .i64 ((a : Int) + 3) = ((a + 3 : Nat) : Int) := rw1 tk (by omega) 3 (by omega)
    rw [z9O tk K N S L F T ha h2, zA, if_pos h2, uD, zA, if_neg (by rw [hc]; decide), w2, w3, yG, zA, show ((a + 1 + 1 : Nat) : Int) = ((a + 2 : Nat) : Int) from rfl]; dsimp only
    by_cases h3 : yT t (a + 2) [58] = true
    · have hlt3 := uZ tk.ln h3
      rw [z3j tk K N S L F T 4 [58] hlt2 h3, zA, if_pos h3, if_pos (show (32 : Int) = 32 from rfl), show ((a + 2 + 1 : Nat) : Int) = ((a + 3 : Nat) : Int) from rfl]; dsimp only
      obtain ⟨r2, s1, s2⟩ := y6f tk K N S L F T (a := a + 3) hlt3
      have e := y3z tk K N S L F T (y3K tk K N S L F T (a := a + 3) 0 hlt3) s1
      rw [s2, zA]
      cases r2 with
      | bad d =>
        obtain ⟨y, s1⟩ := s1
        refine ⟨.bad d, ?_, rfl⟩
        rw [s1, zA]; dsimp only
        rw [z0N tk K N S L F T _ _ _ (by decide), zA]; dsimp only
        rw [z0C tk K N S L F T _ _ _ _ _ _ (by decide), zA]; exact ⟨_, rfl⟩
      | ok y d =>
        have e1 := e.1
        have e2 := e.2.1
        rw [show yL t ((a + 3 : Nat) : Int) 0 K N S L F T = some (y, t, (d : Int), 0, K, N, S, L, F, T) from s1, zA]; dsimp only
        by_cases h4 : yT t d [59] = true
        · have hlt4 := uZ tk.ln h4
          refine ⟨.ok (jM t a (d + 1) ⟨32, 0, (zQ t (a + 1)).S, [y], 0, 0⟩) (d + 1), ?_, ?_⟩
          · rw [z3j tk K N S L F T 4 [59] e2 h4, zA]; dsimp only
            rw [z8H tk K N S L F T 32 0 _ _ (by omega) hlt4, zA]; rfl
          · show (yH t (d : Int) [59] >>= _) = _
            rw [yG, zA, if_pos h4, tk.idx ha, zA]
            show (yS t a (IntKind.wrap .i64 ((d : Int) + 1)) 32 0 _ [y] >>= _) = _
            rw [z6d tk e2, z1o t (by omega) a (d + 1) (by omega) (by omega)]; rfl
        · refine ⟨.bad d, ?_, ?_⟩
          · rw [z5d tk K N S L F T 4 [59] e2 h4, zA]; dsimp only
            rw [z0C tk K N S L F T _ _ _ _ _ _ (by decide), zA]; exact ⟨_, rfl⟩
          · show (yH t (d : Int) [59] >>= _) = _
            rw [yG, zA, if_neg h4]; rfl
    · refine ⟨.bad (a + 2), ?_, ?_⟩
      · rw [z5d tk K N S L F T 4 [58] hlt2 h3, zA]; dsimp only
        rw [z6w tk K N S L F T _ (by decide), zA]; dsimp only
        rw [z0N tk K N S L F T _ _ _ (by decide), zA]; dsimp only
        rw [z0C tk K N S L F T _ _ _ _ _ _ (by decide), zA]; exact ⟨_, rfl⟩
      · rw [if_neg h3]; rfl
  · refine ⟨.bad (a + 1), ?_, ?_⟩
    · rw [y3m tk K N S L F T ha h2, zA]; dsimp only
      rw [z0N tk K N S L F T _ _ _ (by decide), zA]; dsimp only
      rw [z6w tk K N S L F T _ (by decide), zA]; dsimp only
      rw [z0N tk K N S L F T _ _ _ (by decide), zA]; dsimp only
      rw [z0C tk K N S L F T _ _ _ _ _ _ (by decide), zA]; exact ⟨_, rfl⟩
    · rw [if_neg h2]; rfl
theorem v1e {a : Nat} (h : vD t a [114, 101, 99] = true) : ∃ r, PrU t K N S L F T (z1b t a 0 K N S L F T) r ∧ (z0f t (IntKind.wrap .i64 ((a : Int) + 1)) >>= fun q11 =>
    if q11.K = 1 then
      yH t (IntKind.wrap .i64 ((a : Int) + 2)) ([123] : List UInt8) >>= fun q13 =>
      if q13 = true then
        z6S t (IntKind.wrap .i64 ((a : Int) + 3)) >>= fun q15 =>
        if q15.2.2 = 0 then
          idx t (IntKind.wrap .i64 ((a : Int) + 1)) >>= fun x =>
          yS t a q15.2.1 30 0 x.S q15.1 >>= fun q16 =>
          some (q16)
        else
        some ((zI.mk (zE.mk 0 0 ([] : List UInt8) [] 0 0) q15.2.1 q15.2.2))
      else
      wW (IntKind.wrap .i64 ((a : Int) + 2)) >>= fun q14 =>
      some (q14)
    else
    wW (IntKind.wrap .i64 ((a : Int) + 1)) >>= fun q12 =>
    some (q12)) = some (got r) := by
  have hlen := tk.len
  have hroom := tk.room
  have ha := z2O tk.ln h
  unfold z1b uA
  have w2 : IntKind.wrap .i64 ((a : Int) + 2) = ((a + 2 : Nat) : Int) := rw1 tk (by omega) 2 (by omega)
  have w3 : IntKind.wrap .i64 ((a : Int) + 3) = ((a + 3 : Nat) : Int) := rw1 tk (by omega) 3 (by omega)
  rw [z6d tk (by omega), z1e, zA, w2, w3]
  by_cases h2 : (zQ t (a + 1)).K = 1
  · have hlt2 := z1G tk.ln (a := a + 1) (by rw [h2]; decide)
    rw [z9O tk K N S L F T ha h2, zA, if_pos h2, yG, zA, show ((a + 1 + 1 : Nat) : Int) = ((a + 2 : Nat) : Int) from rfl]; dsimp only
    by_cases h3 : yT t (a + 2) [123] = true
    · have hlt3 := uZ tk.ln h3
      rw [z3j tk K N S L F T 4 [123] hlt2 h3, zA, if_pos h3, show ((a + 2 + 1 : Nat) : Int) = ((a + 3 : Nat) : Int) from rfl]; dsimp only
      unfold z6S
      rw [z7V]; unfold z1O
      rw [if_pos (show (List.length ([] : List zE) : Int) = 0 from rfl), show (z3K t ((a + 3 : Nat) : Int) >>= _) = y4c t ((a + 3 : Nat) : Int) [] from rfl]
      rcases y7H tk K N S L F T (b := a + 3) (by omega) with ⟨x, c, e1, e2, e3, e4⟩ | ⟨x, c, e1, e2, e3⟩
      · rw [e1, zA, e4 [] (by simp)]; dsimp only
        rcases v0Y tk K N S L F T (f := a) (zQ t (a + 1)).S (n + 1) [x] (c + 1) (by omega) (by omega) (by omega) (by simp) (by simp) with ⟨l, d, f1, f2, f3, f4⟩ | ⟨y, l, d, f1, f2⟩
        · refine ⟨.ok (jM t a d ⟨30, 0, (zQ t (a + 1)).S, l, 0, 0⟩) d, f1, ?_⟩
          rw [List.nil_append, f4, zA, if_pos rfl, tk.idx ha, zA, z1o t (by omega) a d f2 (by omega)]; rfl
        · refine ⟨.bad d, ⟨y, f1⟩, ?_⟩
          rw [List.nil_append, f2]; rfl
      · refine ⟨.bad c, ?_, ?_⟩
        · rw [e1, zA]; dsimp only
          rw [z6B tk K N S L F T (by decide), zA]
          show PrU t K N S L F T (RT _ a _) _
          rw [v2H tk K N S L F T _ _ _ _ (by decide)]; exact ⟨_, rfl⟩
        · rw [e3]; rfl
    · refine ⟨.bad (a + 2), ?_, ?_⟩
      · rw [z5d tk K N S L F T 4 [123] hlt2 h3, zA]; dsimp only
        unfold gD
        rw [y5x tk K N S L F T _ (by decide), zA]; dsimp only
        rw [z0N tk K N S L F T _ _ _ (by decide), zA, zA]; dsimp only
        rw [z6B tk K N S L F T (by decide), zA]
        show PrU t K N S L F T (RT _ a _) _
        rw [v2H tk K N S L F T _ _ _ _ (by decide)]; exact ⟨_, rfl⟩
      · rw [if_neg h3]; rfl
  · refine ⟨.bad (a + 1), ?_, ?_⟩
    · rw [y3m tk K N S L F T ha h2, zA]; dsimp only
      rw [z0N tk K N S L F T _ _ _ (by decide), zA]; dsimp only
      unfold gD
      rw [y5x tk K N S L F T _ (by decide), zA]; dsimp only
      rw [z0N tk K N S L F T _ _ _ (by decide), zA, zA]; dsimp only
      rw [z6B tk K N S L F T (by decide), zA]
      show PrU t K N S L F T (RT _ a _) _
      rw [v2H tk K N S L F T _ _ _ _ (by decide)]; exact ⟨_, rfl⟩
    · rw [if_neg h2]; rfl
end
theorem v3L : ∀ t : zE, z1s t ≤ 1000000 → ∃ h : Nat, 1 ≤ h ∧ h ≤ z1s t ∧ z0l t = some (h : Int) ∧ ∀ (path : List Int) (s d : Int), path.length + z1s t ≤ 1000000 → ∃ s', yF t path s d = some (s', max d ((path.length + h : Nat) : Int)) := by
  intro t
  induction t using zE.ind with
  | h t ih =>
    intro hs
    have hlen := y7Y t.L
    have hts := y5D t
    have loop : ∀ (k i most : Nat), i + k = t.L.length → most + 1 ≤ z1s t → ∃ h : Nat, most + 1 ≤ h ∧ h ≤ z1s t ∧ wJ (most : Int) (i : Int) t = some (h : Int) ∧
        ∀ (path : List Int) (s d : Int), path.length + z1s t ≤ 1000000 → ((path.length + 1 + most : Nat) : Int) ≤ d → ∃ s', zP path t.L (t.L.length : Int) (i : Int) s d = some (s', max d ((path.length + h : Nat) : Int)) := by
      intro k
      induction k with
      | zero =>
        intro i most hi hm
        refine ⟨most + 1, Nat.le_refl _, hm, ?_, fun path s d hp hd => ?_⟩
        · rw [z8S]; unfold z2h
          rw [if_neg (by omega), z0Q (by omega) (by omega)]; rfl
        · rw [jS]; unfold gC
          rw [if_neg (by omega)]
          exact ⟨s, by congr 2; rw [Int.max_def]; split <;> omega⟩
      | succ k ihk =>
        intro i most hi hm
        have hlt : i < t.L.length := by omega
        have ht := y5P t.L i
        have hd := y5X hlt
        obtain ⟨hx, x1, x2, x3, x4⟩ := ih _ (List.getElem_mem hlt) (by omega)
        have fin : ∀ most' : Nat, most' = (if (hx : Int) > (most : Int) then hx else most) → ∃ h : Nat, most + 1 ≤ h ∧ h ≤ z1s t ∧ wJ (most' : Int) ((i + 1 : Nat) : Int) t = some (h : Int) ∧
            ∀ (path : List Int) (s d : Int), path.length + z1s t ≤ 1000000 → ((path.length + 1 + most : Nat) : Int) ≤ d → ∃ s', zP path t.L (t.L.length : Int) (i : Int) s d = some (s', max d ((path.length + h : Nat) : Int)) := fun most' e => by
          have hm2 : most ≤ most' ∧ hx ≤ most' ∧ most' + 1 ≤ z1s t := by subst e; split <;> omega
          obtain ⟨h, h1, h2, h3, h4⟩ := ihk (i + 1) most' (by omega) hm2.2.2
          refine ⟨h, by omega, h2, h3, fun path s d hp hd2 => ?_⟩
          rw [jS]; unfold gC
          rw [if_pos (by omega), z1W hlt, zA, if_pos (by omega), if_pos (by simp), if_pos (by omega), if_pos rfl, if_pos (by omega)]
          rw [if_pos (by unfold z1i; simp; omega)]
          have hpl : (List.drop 0 (List.take (Int.toNat (List.length path : Int)) path) ++ [(i : Int)]).length = path.length + 1 := by simp
          obtain ⟨s1, g1⟩ := x4 (List.drop 0 (List.take (Int.toNat (List.length path : Int)) path) ++ [(i : Int)]) s d (by rw [hpl]; omega)
          rw [g1, zA, z0Q (by omega) (by omega), gI, hpl]
          have hd3 : ((path.length + 1 + most' : Nat) : Int) ≤ max d ((path.length + 1 + hx : Nat) : Int) := by
            rw [Int.max_def]; subst e; split <;> split <;> omega
          obtain ⟨s2, g2⟩ := h4 path s1 (max d ((path.length + 1 + hx : Nat) : Int)) hp hd3
          refine ⟨s2, ?_⟩
          dsimp only
          rw [g2]
          congr 2
          simp only [Int.max_def]; (repeat' split) <;> omega
        obtain ⟨h, h1, h2, h3, h4⟩ := fin _ rfl
        refine ⟨h, h1, h2, ?_, h4⟩
        rw [z8S]; unfold z2h
        rw [if_pos (by omega), z1W hlt, zA, x3, zA, z0Q (by omega) (by omega), gI]
        by_cases hg : (hx : Int) > (most : Int)
        · rw [if_pos hg] at h3 ⊢; exact h3
        · rw [if_neg hg] at h3 ⊢; exact h3
    obtain ⟨h, h1, h2, h3, h4⟩ := loop t.L.length 0 0 (by omega) (by omega)
    refine ⟨h, by omega, h2, ?_, fun path s d hp => ?_⟩
    · rw [y8o]; unfold z4D; exact h3
    · rw [z2m]; unfold z0P z5O
      rw [zA, z0Q (n := (List.length path : Int) + 1) (by omega) (by omega)]
      obtain ⟨s2, g2⟩ := h4 path (IntKind.wrap .i64 (s + 1)) (max d ((List.length path : Int) + 1)) hp (by rw [Int.max_def]; split <;> omega)
      refine ⟨s2, ?_⟩
      have g2' : zP path t.L (List.length t.L : Int) 0 (IntKind.wrap .i64 (s + 1)) (max d ((List.length path : Int) + 1)) = _ := g2
      dsimp only
      rw [g2']
      congr 2
      simp only [Int.max_def]; (repeat' split) <;> omega
section
variable {t : List zB} {n : Nat} (tk : Tk t n) (K N : Int) (S : Str) (L : List zE) (F T : Int)
include tk
theorem v1y {a : Nat} (ha : a < n) (h : (zQ t a).K = 2 ∨ vD t a [116, 114, 117, 101] = true ∨ vD t a [102, 97, 108, 115, 101] = true) :
    ∃ k m s, vM t a 0 K N S L F T = some (jM t a (a + 1) ⟨k, m, s, [], 0, 0⟩, t, ((a + 1 : Nat) : Int), 0, K, N, S, L, F, T) ∧ vP t a = some ⟨jM t a (a + 1) ⟨k, m, s, [], 0, 0⟩, ((a + 1 : Nat) : Int), 0⟩ := by
  have h1 := tk.len
  have h2 := tk.room
  have e0 : zQ [zQ t a] 0 = zQ t a := rfl
  have key : ∀ k m s, z1R t a = .one k m s → z1R [zQ t a] 0 = .one k m s → (zQ t a).K ≠ 4 → vM t a 0 K N S L F T = (z1w [zQ t a] 0 >>= fun q5 => some (q5.1, t, ((a + 1 : Nat) : Int), 0, K, N, S, L, F, T)) →
      ∃ k m s, vM t a 0 K N S L F T = some (jM t a (a + 1) ⟨k, m, s, [], 0, 0⟩, t, ((a + 1 : Nat) : Int), 0, K, N, S, L, F, T) ∧ vP t a = some ⟨jM t a (a + 1) ⟨k, m, s, [], 0, 0⟩, ((a + 1 : Nat) : Int), 0⟩ := fun k m s g1 g2 g3 g4 => by
    refine ⟨k, m, s, ?_, y9z t (by omega) a g1⟩
    have hp : z1w [zQ t a] 0 = _ := y6J [zQ t a] (by simp) 0 (by simp) (v4t g2 g3 rfl)
    rw [g4, hp]; rfl
  have hsl : List.drop (Int.toNat (a : Int)) (List.take (Int.toNat ((a + 1 : Nat) : Int)) t) = [zQ t a] := by
    rw [show Int.toNat (a : Int) = a from rfl, show Int.toNat ((a + 1 : Nat) : Int) = a + 1 from rfl, List.drop_take, show a + 1 - a = 1 by omega, List.drop_eq_getElem_cons (show a < t.length by omega)]
    unfold zQ; rw [List.getElem?_eq_getElem (show a < t.length by omega)]; rfl
  rcases h with h | h | h
  · refine key 5 (zQ t a).N [] ?_ ?_ (by rw [h]; decide) ?_
    · unfold z1R; rw [if_pos h]
    · unfold z1R; rw [e0, if_pos h]
    · unfold vM
      rw [if_pos rfl, tk.idx (by omega), zA, if_pos h, z6d tk (by omega), if_pos (by omega), if_pos (by omega), if_pos (by omega), if_pos (by omega), hsl]
  · have hk := y0M h
    have hw : vD [zQ t a] 0 [116, 114, 117, 101] = true := h
    refine key 6 1 [] ?_ ?_ (by rw [hk.1]; decide) ?_
    · unfold z1R; rw [if_neg (by rw [hk.1]; decide), if_neg (by rw [hk.1]; decide), if_pos h]
    · unfold z1R; rw [e0, if_neg (by rw [hk.1]; decide), if_neg (by rw [hk.1]; decide), if_pos hw]
    · unfold vM
      rw [if_pos rfl, tk.idx (by omega), zA, if_neg (by rw [hk.1]; decide), z7y tk K N S L F T 3 _ 0 (by omega), zA, z9d tk, if_pos h, z6d tk (by omega), if_pos (by omega), if_pos (by omega), if_pos (by omega), if_pos (by omega), hsl]
  · have hk := y0M h
    have hw : vD [zQ t a] 0 [102, 97, 108, 115, 101] = true := h
    have h3 : vD t a [116, 114, 117, 101] = false := z7F h (by decide)
    have h4 : vD [zQ t a] 0 [116, 114, 117, 101] = false := h3
    refine key 6 0 [] ?_ ?_ (by rw [hk.1]; decide) ?_
    · unfold z1R; rw [if_neg (by rw [hk.1]; decide), if_neg (by rw [hk.1]; decide), if_neg (by rw [h3]; decide), if_pos h]
    · unfold z1R; rw [e0, if_neg (by rw [hk.1]; decide), if_neg (by rw [hk.1]; decide), if_neg (by rw [h4]; decide), if_pos hw]
    · unfold vM
      rw [if_pos rfl, tk.idx (by omega), zA, if_neg (by rw [hk.1]; decide), z7y tk K N S L F T 3 _ 0 (by omega), zA, z9d tk, if_neg (by rw [h3]; decide), z7y tk K N S L F T 3 _ 0 (by omega), zA, z9d tk, if_pos h, z6d tk (by omega), if_pos (by omega), if_pos (by omega), if_pos (by omega), if_pos (by omega), hsl]
theorem v8e {a : Nat} (ha : a ≤ n) (h1 : (zQ t a).K ≠ 2) (h2 : vD t a [116, 114, 117, 101] = false) (h3 : vD t a [102, 97, 108, 115, 101] = false) : vM t a 0 K N S L F T = some (zT7, t, (a : Int), 6, K, N, S, L, F, T) := by
  unfold vM
  rw [if_pos rfl, tk.idx ha, zA, if_neg h1, z7y tk K N S L F T 3 _ 0 ha, zA, z9d tk, if_neg (by rw [h2]; decide), z7y tk K N S L F T 3 _ 0 ha, zA, z9d tk, if_neg (by rw [h3]; decide)]
theorem v1w {a : Nat} (h : vD t a [99, 111, 110, 115, 116] = true) : ∃ r, PrU t K N S L F T (z1h t a 0 K N S L F T) r ∧ z4H t a = some (got r) := by
  have hlen := tk.len
  have hroom := tk.room
  have ha := z2O tk.ln h
  unfold z1h z4H
  rw [z6d tk (by omega), z1e, zA]
  by_cases h2 : (zQ t (a + 1)).K = 1
  · have hlt2 := z1G tk.ln (a := a + 1) (by rw [h2]; decide)
    have w2 : IntKind.wrap .i64 ((a : Int) + 2) = ((a + 2 : Nat) : Int) := rw1 tk (by omega) 2 (by omega)
    have w3 : IntKind.wrap .i64 ((a : Int) + 3) = ((a + 3 : Nat) : Int) := rw1 tk (by omega) 3 (by omega)
    rw [z9O tk K N S L F T ha h2, zA, if_pos h2, uD, zA, if_pos h, w2, w3, yG, zA, show ((a + 1 + 1 : Nat) : Int) = ((a + 2 : Nat) : Int) from rfl]; dsimp only
    by_cases h3 : yT t (a + 2) [61] = true
    · have hlt3 := uZ tk.ln h3
      rw [z3j tk K N S L F T 4 [61] hlt2 h3, zA, if_pos h3, if_neg (show ¬ (31 : Int) = 32 by decide), show ((a + 2 + 1 : Nat) : Int) = ((a + 3 : Nat) : Int) from rfl, z1e, zA]; dsimp only
      have tail : ∀ k m s, vM t ((a + 3 : Nat) : Int) 0 K N S L F T = some (jM t (a + 3) (a + 3 + 1) ⟨k, m, s, [], 0, 0⟩, t, ((a + 3 + 1 : Nat) : Int), 0, K, N, S, L, F, T) → vP t ((a + 3 : Nat) : Int) = some ⟨jM t (a + 3) (a + 3 + 1) ⟨k, m, s, [], 0, 0⟩, ((a + 3 + 1 : Nat) : Int), 0⟩ → a + 3 < n →
          ∃ r, PrU t K N S L F T (vM t ((a + 3 : Nat) : Int) 0 K N S L F T >>= fun q3 =>
            yE 4 ([59] : List UInt8) q3.2.1 q3.2.2.1 q3.2.2.2.1 q3.2.2.2.2.1 q3.2.2.2.2.2.1 q3.2.2.2.2.2.2.1 q3.2.2.2.2.2.2.2.1 q3.2.2.2.2.2.2.2.2.1 q3.2.2.2.2.2.2.2.2.2 >>= fun q4 =>
            vO 31 0 (zQ t (a + 1)).S a [q3.1] q4.1 q4.2.1 q4.2.2.1 q4.2.2.2.1 q4.2.2.2.2.1 q4.2.2.2.2.2.1 q4.2.2.2.2.2.2.1 q4.2.2.2.2.2.2.2.1 q4.2.2.2.2.2.2.2.2 >>= fun q5 =>
            some (q5, q4.1, q4.2.1, q4.2.2.1, q4.2.2.2.1, q4.2.2.2.2.1, q4.2.2.2.2.2.1, q4.2.2.2.2.2.2.1, q4.2.2.2.2.2.2.2.1, q4.2.2.2.2.2.2.2.2)) r ∧
          (vP t ((a + 3 : Nat) : Int) >>= fun q11 =>
            if q11.E = 0 then
              yH t q11.At ([59] : List UInt8) >>= fun q12 =>
              if q12 = true then
                idx t ((a + 1 : Nat) : Int) >>= fun x1 =>
                yS t a (IntKind.wrap .i64 (q11.At + 1)) 31 0 x1.S [q11.T_] >>= fun q14 =>
                some (q14)
              else
              wW q11.At >>= fun q13 =>
              some (q13)
            else
            some (q11)) = some (got r) := fun k m s g1 g2 g3 => by
        rw [g1, g2, zA, zA]; dsimp only
        by_cases h4 : yT t (a + 3 + 1) [59] = true
        · have hlt4 := uZ tk.ln h4
          refine ⟨.ok (jM t a (a + 3 + 1 + 1) ⟨31, 0, (zQ t (a + 1)).S, [jM t (a + 3) (a + 3 + 1) ⟨k, m, s, [], 0, 0⟩], 0, 0⟩) (a + 3 + 1 + 1), ?_, ?_⟩
          · rw [z3j tk K N S L F T 4 [59] g3 h4, zA]; dsimp only
            rw [z8H tk K N S L F T 31 0 _ _ (by omega) hlt4, zA]; rfl
          · rw [if_pos rfl, yG, zA, if_pos h4, tk.idx ha, zA, z6d tk g3, z1o t (by omega) a (a + 3 + 1 + 1) (by omega) (by omega)]; rfl
        · refine ⟨.bad (a + 3 + 1), ?_, ?_⟩
          · rw [z5d tk K N S L F T 4 [59] g3 h4, zA]; dsimp only
            rw [z0C tk K N S L F T _ _ _ _ _ _ (by decide), zA]; exact ⟨_, rfl⟩
          · rw [if_pos rfl, yG, zA, if_neg h4]; rfl
      by_cases k2 : (zQ t (a + 3)).K = 2
      · rw [if_pos k2]
        have hl := z1G tk.ln (a := a + 3) (by rw [k2]; decide)
        obtain ⟨k, m, s, g1, g2⟩ := v1y tk K N S L F T (a := a + 3) hl (.inl k2)
        exact tail k m s g1 g2 hl
      · rw [if_neg k2, uD, zA]
        by_cases k3 : vD t (a + 3) [116, 114, 117, 101] = true
        · rw [if_pos k3]
          have hl := z2O tk.ln k3
          obtain ⟨k, m, s, g1, g2⟩ := v1y tk K N S L F T (a := a + 3) hl (.inr (.inl k3))
          exact tail k m s g1 g2 hl
        · rw [if_neg k3, uD, zA]
          by_cases k4 : vD t (a + 3) [102, 97, 108, 115, 101] = true
          · rw [if_pos k4]
            have hl := z2O tk.ln k4
            obtain ⟨k, m, s, g1, g2⟩ := v1y tk K N S L F T (a := a + 3) hl (.inr (.inr k4))
            exact tail k m s g1 g2 hl
          · rw [if_neg k4]
            refine ⟨.bad (a + 3), ?_, rfl⟩
            rw [v8e tk K N S L F T (a := a + 3) hlt3 k2 (by simpa using k3) (by simpa using k4), zA]; dsimp only
            rw [z0N tk K N S L F T _ _ _ (by decide), zA]; dsimp only
            rw [z0C tk K N S L F T _ _ _ _ _ _ (by decide), zA]; exact ⟨_, rfl⟩
    · refine ⟨.bad (a + 2), ?_, ?_⟩
      · rw [z5d tk K N S L F T 4 [61] hlt2 h3, zA]; dsimp only
        rw [v5F tk K N S L F T _ (by decide), zA]; dsimp only
        rw [z0N tk K N S L F T _ _ _ (by decide), zA]; dsimp only
        rw [z0C tk K N S L F T _ _ _ _ _ _ (by decide), zA]; exact ⟨_, rfl⟩
      · rw [if_neg h3]; rfl
  · refine ⟨.bad (a + 1), ?_, ?_⟩
    · rw [y3m tk K N S L F T ha h2, zA]; dsimp only
      rw [z0N tk K N S L F T _ _ _ (by decide), zA]; dsimp only
      rw [v5F tk K N S L F T _ (by decide), zA]; dsimp only
      rw [z0N tk K N S L F T _ _ _ (by decide), zA]; dsimp only
      rw [z0C tk K N S L F T _ _ _ _ _ _ (by decide), zA]; exact ⟨_, rfl⟩
    · rw [if_neg h2]; rfl
theorem y9w {p : Option (zE × St9)} {r : Res} (h : PrU t K N S L F T p r) :
    PrU t K N S L F T (p >>= fun q2 => some (q2.1, q2.2.1, q2.2.2.1, q2.2.2.2.1, q2.2.2.2.2.1, q2.2.2.2.2.2.1, q2.2.2.2.2.2.2.1, q2.2.2.2.2.2.2.2.1, q2.2.2.2.2.2.2.2.2.1, q2.2.2.2.2.2.2.2.2.2)) r := by
  cases r with
  | ok x b => rw [show p = _ from h, zA]; rfl
  | bad b => obtain ⟨x, h⟩ := h; rw [h, zA]; exact ⟨x, rfl⟩
theorem v4S {a : Nat} (ha : a ≤ n) : ∃ r, PrU t K N S L F T (z0H t a 0 K N S L F T) r ∧ z9J t a = some (got r) := by
  unfold z0H z9J
  rw [z7y tk K N S L F T 3 _ 0 ha, zA, uD, zA]
  by_cases h1 : vD t a [114, 101, 99] = true
  · obtain ⟨r, p1, p2⟩ := v1e tk K N S L F T h1
    refine ⟨r, ?_, ?_⟩
    · rw [z9d tk, if_pos h1]; exact y9w tk K N S L F T p1
    · rw [z7F h1 (s' := [99, 111, 110, 115, 116]) (by decide), if_neg (by decide), uD, zA, z7F h1 (s' := [118, 97, 114]) (by decide), if_neg (by decide), uD, zA, z7F h1 (s' := [112, 117, 98]) (by decide), if_neg (by decide), uD, zA, z7F h1 (s' := [102, 110]) (by decide), if_neg (by decide), uD, zA, if_pos h1]
      exact p2
  rw [z9d tk, if_neg h1, z7y tk K N S L F T 3 _ 0 ha, zA, z9d tk]
  by_cases h2 : vD t a [99, 111, 110, 115, 116] = true
  · obtain ⟨r, p1, p2⟩ := v1w tk K N S L F T h2
    refine ⟨r, ?_, ?_⟩
    · rw [if_pos h2]; exact y9w tk K N S L F T p1
    · rw [if_pos h2, p2]; rfl
  rw [if_neg h2, if_neg h2, z7y tk K N S L F T 3 _ 0 ha, zA, z9d tk, uD, zA]
  by_cases h3 : vD t a [118, 97, 114] = true
  · obtain ⟨r, p1, p2⟩ := v1v tk K N S L F T h3
    refine ⟨r, ?_, ?_⟩
    · rw [if_pos h3]; exact y9w tk K N S L F T p1
    · rw [if_pos h3, p2]; rfl
  rw [if_neg h3, if_neg h3, z7y tk K N S L F T 3 _ 0 ha, zA, z9d tk, uD, zA]
  by_cases h4 : vD t a [112, 117, 98] = true
  · have hlt := z2O tk.ln h4
    obtain ⟨r, p1, p2⟩ := v4O tk K N S L F T (a := a + 1) (f := a) 1 (by omega) hlt
    refine ⟨r, ?_, ?_⟩
    · rw [if_pos h4]
      refine y9w tk K N S L F T ?_
      unfold gV
      rw [z7g tk K N S L F T 3 _ ha rfl h4, zA]; dsimp only
      rw [if_pos rfl]; exact p1
    · rw [if_pos h4, z6d tk ha, p2]; rfl
  rw [if_neg h4, if_neg h4, z7y tk K N S L F T 3 _ 0 ha, zA, z9d tk, uD, zA]
  by_cases h5 : vD t a [102, 110] = true
  · obtain ⟨r, p1, p2⟩ := v4O tk K N S L F T (a := a) (f := a) 0 (by omega) ha
    refine ⟨r, ?_, ?_⟩
    · rw [if_pos h5]
      refine y9w tk K N S L F T ?_
      unfold gV
      rw [z7E tk K N S L F T 3 _ ha (fun g => h4 g.2), zA]; dsimp only
      rw [if_neg (by decide)]; exact p1
    · rw [if_pos h5, p2]; rfl
  rw [if_neg h5, if_neg h5, uD, zA]
  refine ⟨.bad a, ⟨_, rfl⟩, ?_⟩
  rw [if_neg h1]; rfl
theorem v1N (text : Str) (hT : T = (text.length : Int)) (hn : n ≤ 2400) (hk : ∀ i, i < n → (zQ t i).K ≠ 5) (o2 o3 : zE) : ∀ (k a : Nat) (L : List zE), n < a + k → a ≤ n → LL 0 t 0 a L →
    ∃ m q e, wP o2 t (a : Int) 0 36 0 [] L 0 T = some (m, q, e) ∧ uC text t L (a : Int) o3 = some (m, q, e) ∧ z1s m ≤ 1000000 := by
  have hlen := tk.len
  have hroom := tk.room
  intro k
  induction k with
  | zero => intro a L h1 h2; omega
  | succ k ih =>
    intro a L h1 h2 hl
    obtain ⟨c1, c2, c3⟩ := hl
    rw [z6g, y5k]; unfold z1Z z2Z
    rw [tk.idx h2, zA, z0Q (n := (List.length t : Int) - 1) (by omega) (by omega)]
    by_cases ha : a = n
    · have h5 : (zQ t a).K = 5 := by rw [ha]; exact tk.lst
      rw [if_pos h5, if_neg (show ¬ ((a : Int) < (List.length t : Int) - 1) by omega)]
      by_cases h6 : (List.length L : Int) > 64
      · rw [if_pos h6, if_pos h6]; exact ⟨_, _, _, rfl, rfl, by simp [z1s, gA]⟩
      · rw [if_neg h6, if_neg h6]
        have hs : z1s ⟨36, 0, [], L, 0, T⟩ = 1 + gA L := y5D _
        obtain ⟨h, d1, d2, d3, d4⟩ := v3L ⟨36, 0, [], L, 0, T⟩ (by rw [hs]; omega)
        obtain ⟨s', d5⟩ := d4 [] 0 0 (by rw [hs]; simp only [List.length_nil]; omega)
        unfold z6C
        rw [d5, zA, zA, ← hT, d3, zA]
        have hm : max (0 : Int) ((([] : List Int).length + h : Nat) : Int) = (h : Int) := by rw [Int.max_def]; simp
        dsimp only
        rw [hm]
        by_cases h7 : (h : Int) > 64
        · rw [if_pos h7]; exact ⟨_, _, _, rfl, rfl, by simp [z1s, gA]⟩
        · rw [if_neg h7]
          exact ⟨_, _, _, rfl, rfl, by rw [hs]; omega⟩
    · rw [if_neg (hk a (by omega)), if_pos (show (a : Int) < (List.length t : Int) - 1 by omega)]
      obtain ⟨r, p1, p2⟩ := v4S tk 36 0 [] L 0 T (a := a) h2
      have g := y3z tk 36 0 [] L 0 T (v7h tk 36 0 [] L 0 T (a := a) 0 h2) p1
      rw [p2, zA]
      cases r with
      | ok x b =>
        have g2 := g.2.1
        have g3 := g.2.2
        have hlt := g3.2.2
        obtain ⟨m, q, e, e1, e2, e3⟩ := ih b (L ++ [x]) (by omega) g2 (LL.snoc tk ⟨c1, c2, c3⟩ g3 g2)
        refine ⟨m, q, e, ?_, ?_, e3⟩
        · rw [show z0H t (a : Int) 0 36 0 [] L 0 T = some (x, t, (b : Int), 0, 36, 0, [], L, 0, T) from p1, zA]; dsimp only
          rw [if_pos rfl, if_pos (v6j tk ⟨c1, c2, c3⟩ h2)]; exact e1
        · show (if z1i 72 (List.length L + List.length [x]) then uC text t (L ++ [x]) (b : Int) o3 else none) = _
          rw [if_pos (v6j tk ⟨c1, c2, c3⟩ h2)]; exact e2
      | bad b =>
        obtain ⟨y, p1⟩ := p1
        have g2 := g.2
        refine ⟨zT7, (zQ t b).From, 6, ?_, ?_, by simp [z1s, gA]⟩
        · rw [p1, zA]; dsimp only
          rw [if_neg (by decide), tk.idx g2, zA]
        · show (idx t (b : Int) >>= _) = _
          rw [tk.idx g2, zA]; rfl
end
theorem v2g (n : Nat) : ∀ t : zE, z1s t ≤ n → (n : Int) ≤ 9223372036854775807 → gB t t = some true := by
  intro t
  induction t using zE.ind with
  | h t ih =>
    intro hs hn
    have hlen := y7Y t.L
    rw [y5D] at hs
    have loop : ∀ (k i : Nat), i + k = t.L.length → wG i t t = some true := by
      intro k
      induction k with
      | zero =>
        intro i hi
        rw [z7N]; unfold z1K
        rw [if_neg (by omega)]
      | succ k ihk =>
        intro i hi
        rw [z7N]; unfold z1K
        have hd := y5X (show i < t.L.length by omega)
        have ht := y5P t.L i
        have e := ih _ (List.getElem_mem (show i < t.L.length by omega)) (by omega) hn
        rw [if_pos (by omega), z1W (show i < t.L.length by omega), zA, zA, e, zA, if_pos rfl, z0Q (by omega) (by omega), gI]
        exact ihk (i + 1) (by omega)
    rw [y7o]; unfold z3U
    simp only [if_true]
    exact loop t.L.length 0 (by omega)
theorem y9i : ∀ {l : List zB} {a : Nat}, Ord a l → 0 < l.length ∧ (zQ l (l.length - 1)).K = 5 ∧ ∀ i, i < l.length - 1 → (zQ l i).K ≠ 5
  | [], a, h => h.elim
  | x :: r, a, ⟨f, t, h1, h2, h3, h4, h5⟩ => by
    rcases h5 with ⟨rfl, h⟩ | ⟨h0, h5⟩
    · exact ⟨by simp, h, fun i hi => by simp at hi⟩
    · obtain ⟨g1, g2, g3⟩ := y9i h5
      refine ⟨by simp, ?_, fun i hi => ?_⟩
      · have : (x :: r).length - 1 = (r.length - 1) + 1 := by simp; omega
        rw [this]; exact g2
      · cases i with
        | zero => exact h0
        | succ i => exact g3 i (by simp at hi; omega)
theorem v6T {x : Str} (h : (z9D x).2.2 = 0) (hx : x.length ≤ 4100) : Tk (z9D x).1 ((z9D x).1.length - 1) := by
  have ho := y9U h
  obtain ⟨-, hm⟩ := v4T ho
  obtain ⟨hpos, hk, -⟩ := y9i ho
  have := (v2L h).1
  exact ⟨hm, by omega, hk, by omega⟩
theorem y9L (x0 : Str) (w0 : x0.length ≤ 9223372036854775807) : z5P x0 = some true := by
  unfold z5P
  rw [v0H]
  by_cases h1 : (List.length x0 : Int) > 2000
  · rw [if_pos h1]; rfl
  rw [if_neg h1]
  have e : ∃ m q e, z5I x0 = some (m, q, e) ∧ z8i x0 = some (m, q, e) ∧ z1s m ≤ 1000000 := by
    unfold z5I z8i
    rw [v0j x0 w0, v3A x0 w0, zA, zA]
    by_cases h2 : (z9D x0).2.2 = 0
    · rw [if_pos h2, if_pos h2]
      have tk := v6T h2 (by omega)
      obtain ⟨g1, g2⟩ := v2L h2
      have hl := tk.len
      exact v1N tk (List.length x0 : Int) x0 rfl (by omega) (y9i (y9U h2)).2.2 _ _ ((z9D x0).1.length) 0 [] (by omega) (by omega) (LL.nil (by omega))
    · rw [if_neg h2, if_neg h2]
      exact ⟨_, _, _, rfl, rfl, by simp [z1s, gA]⟩
  obtain ⟨m, q, e, e1, e2, e3⟩ := e
  rw [e1, e2, zA, zA]; dsimp only
  rw [if_pos rfl, if_pos rfl, v2g 1000000 m e3 (by omega), zA, if_pos rfl]; rfl
end Go.Proofs.YtelddjedpmfclaaGreat.M

