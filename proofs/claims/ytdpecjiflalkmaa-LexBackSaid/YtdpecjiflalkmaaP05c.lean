/- Signs, tokens: the program's and the reference's are the same ones. -/
import Derived.Test.YtdpecjiflalkmaaP05b
namespace Go.Proofs.Ytdpecjiflalkmaa.M
open Go Nt
set_option linter.unusedVariables false
set_option linter.unusedSimpArgs false

/-! signs -/
def singles : List Nat := [123, 125, 40, 41, 91, 93, 44, 59, 58, 46, 43, 45, 42, 47, 37, 64]
/-- how long the sign is that begins with these two bytes -/
def sgn (c d : Nat) : Nat :=
  if c = 61 ∨ c = 33 ∨ c = 60 ∨ c = 62 then (if d = 61 then 2 else 1)
  else if c = 38 ∨ c = 124 then (if d = c then 2 else 0)
  else if singles.contains c then 1 else 0
theorem chainS (c : Nat) : ∀ l : List Nat, (l.foldr (fun (w : Nat) acc => if (c : Int) = (w : Int) then some (1 : Int) else acc) (some 0)) = some (((if l.contains c then 1 else 0 : Nat)) : Int)
  | [] => rfl
  | w :: r => by
    rw [List.foldr_cons, chainS c r, List.contains_cons]
    by_cases h : (c : Int) = (w : Int)
    · rw [if_pos h]
      have : c = w := by omega
      subst this; simp
    · rw [if_neg h]
      have : (c == w) = false := by simp; omega
      rw [this]; simp
theorem signAt_ok (c d : Nat) : lex_signAt (c : Int) (d : Int) = some ((sgn c d : Nat) : Int) := by
  have hs := chainS c singles
  unfold lex_signAt sgn
  have two : ∀ k : Nat, c = k → (k = 61 ∨ k = 33 ∨ k = 60 ∨ k = 62) → (if (d : Int) = 61 then some (2 : Int) else some 1) = some ((if c = 61 ∨ c = 33 ∨ c = 60 ∨ c = 62 then (if d = 61 then 2 else 1) else if c = 38 ∨ c = 124 then (if d = c then 2 else 0) else if singles.contains c = true then 1 else 0 : Nat) : Int) := fun k hk h => by
    rw [if_pos (show c = 61 ∨ c = 33 ∨ c = 60 ∨ c = 62 by omega)]
    by_cases h2 : d = 61
    · rw [if_pos (show (d : Int) = 61 by omega), if_pos h2]; rfl
    · rw [if_neg (show ¬ (d : Int) = 61 by omega), if_neg h2]; rfl
  have same : (c = 38 ∨ c = 124) → (if (d : Int) = (c : Int) then some (2 : Int) else some 0) = some ((if c = 61 ∨ c = 33 ∨ c = 60 ∨ c = 62 then (if d = 61 then 2 else 1) else if c = 38 ∨ c = 124 then (if d = c then 2 else 0) else if singles.contains c = true then 1 else 0 : Nat) : Int) := fun h => by
    rw [if_neg (show ¬ (c = 61 ∨ c = 33 ∨ c = 60 ∨ c = 62) by omega), if_pos h]
    by_cases h2 : d = c
    · rw [if_pos (show (d : Int) = (c : Int) by omega), if_pos h2]; rfl
    · rw [if_neg (show ¬ (d : Int) = (c : Int) by omega), if_neg h2]; rfl
  by_cases h61 : (c : Int) = 61
  · rw [if_pos h61]; exact two 61 (by omega) (by omega)
  rw [if_neg h61]
  by_cases h33 : (c : Int) = 33
  · rw [if_pos h33]; exact two 33 (by omega) (by omega)
  rw [if_neg h33]
  by_cases h60 : (c : Int) = 60
  · rw [if_pos h60]; exact two 60 (by omega) (by omega)
  rw [if_neg h60]
  by_cases h62 : (c : Int) = 62
  · rw [if_pos h62]; exact two 62 (by omega) (by omega)
  rw [if_neg h62]
  by_cases h38 : (c : Int) = 38
  · rw [if_pos h38]; exact same (by omega)
  rw [if_neg h38]
  by_cases h124 : (c : Int) = 124
  · rw [if_pos h124]; exact same (by omega)
  rw [if_neg h124, if_neg (show ¬ (c = 61 ∨ c = 33 ∨ c = 60 ∨ c = 62) by omega), if_neg (show ¬ (c = 38 ∨ c = 124) by omega)]
  exact hs
def signsL : List Str := [[61, 61], [33, 61], [60, 61], [62, 61], [38, 38], [124, 124], [123], [125], [40], [41], [91], [93], [44], [59], [58], [46], [61], [60], [62], [43], [45], [42], [47], [37], [33], [64]]
theorem signs_ok : ref05Signs = some signsL := rfl
theorem bg1 (a c : UInt8) (r : List UInt8) : bg [a] (c :: r) = (c == a) := by unfold bg; simp
theorem bg2 (a b c : UInt8) (r : List UInt8) : bg [a, b] (c :: r) = (c == a && (match r with | d :: _ => d == b | [] => false)) := by
  unfold bg
  cases r with
  | nil => simp
  | cons d r => simp
def hd0 : List UInt8 → Nat
  | d :: _ => d.toNat
  | [] => 0
theorem u8_lit (c : UInt8) (n : Nat) (hn : n < 256) : c = UInt8.ofNat n ↔ c.toNat = n := by
  constructor
  · rintro rfl; rw [UInt8.toNat_ofNat']; omega
  · intro h; apply UInt8.toNat_inj.1; rw [h, UInt8.toNat_ofNat']; omega
theorem find_sign (c : UInt8) (r : List UInt8) : (signsL.find? fun x => bg x (c :: r)).map List.length = if sgn c.toNat (hd0 r) = 0 then none else some (sgn c.toNat (hd0 r)) := by
  by_cases h61 : c = 61
  · subst h61
    cases r with
    | nil => decide
    | cons d r =>
      by_cases hd : d = 61
      · subst hd; simp [signsL, bg1, bg2, sgn, hd0]
      · have : d.toNat ≠ 61 := fun e => hd ((u8_lit d 61 (by omega)).2 e)
        simp [signsL, bg1, bg2, sgn, hd0, hd, this]
  by_cases h33 : c = 33
  · subst h33
    cases r with
    | nil => decide
    | cons d r =>
      by_cases hd : d = 61
      · subst hd; simp [signsL, bg1, bg2, sgn, hd0]
      · have : d.toNat ≠ 61 := fun e => hd ((u8_lit d 61 (by omega)).2 e)
        simp [signsL, bg1, bg2, sgn, hd0, hd, this]
  by_cases h60 : c = 60
  · subst h60
    cases r with
    | nil => decide
    | cons d r =>
      by_cases hd : d = 61
      · subst hd; simp [signsL, bg1, bg2, sgn, hd0]
      · have : d.toNat ≠ 61 := fun e => hd ((u8_lit d 61 (by omega)).2 e)
        simp [signsL, bg1, bg2, sgn, hd0, hd, this]
  by_cases h62 : c = 62
  · subst h62
    cases r with
    | nil => decide
    | cons d r =>
      by_cases hd : d = 61
      · subst hd; simp [signsL, bg1, bg2, sgn, hd0]
      · have : d.toNat ≠ 61 := fun e => hd ((u8_lit d 61 (by omega)).2 e)
        simp [signsL, bg1, bg2, sgn, hd0, hd, this]
  by_cases h38 : c = 38
  · subst h38
    cases r with
    | nil => decide
    | cons d r =>
      by_cases hd : d = 38
      · subst hd; simp [signsL, bg1, bg2, sgn, hd0]
      · have : d.toNat ≠ 38 := fun e => hd ((u8_lit d 38 (by omega)).2 e)
        simp [signsL, bg1, bg2, sgn, hd0, hd, this]
  by_cases h124 : c = 124
  · subst h124
    cases r with
    | nil => decide
    | cons d r =>
      by_cases hd : d = 124
      · subst hd; simp [signsL, bg1, bg2, sgn, hd0]
      · have : d.toNat ≠ 124 := fun e => hd ((u8_lit d 124 (by omega)).2 e)
        simp [signsL, bg1, bg2, sgn, hd0, hd, this]
  have n61 : c.toNat ≠ 61 := fun e => h61 ((u8_lit c 61 (by omega)).2 e)
  have n33 : c.toNat ≠ 33 := fun e => h33 ((u8_lit c 33 (by omega)).2 e)
  have n60 : c.toNat ≠ 60 := fun e => h60 ((u8_lit c 60 (by omega)).2 e)
  have n62 : c.toNat ≠ 62 := fun e => h62 ((u8_lit c 62 (by omega)).2 e)
  have n38 : c.toNat ≠ 38 := fun e => h38 ((u8_lit c 38 (by omega)).2 e)
  have n124 : c.toNat ≠ 124 := fun e => h124 ((u8_lit c 124 (by omega)).2 e)
  have hsg : sgn c.toNat (hd0 r) = if singles.contains c.toNat = true then 1 else 0 := by
    unfold sgn; rw [if_neg (by omega), if_neg (by omega)]
  rw [hsg]
  have e1 : ∀ k : UInt8, c ≠ k → (c == k) = false := fun k h => by simpa using h
  have key : ∀ (l : List UInt8), (∀ k ∈ l, True) → ((l.map fun k => [k]).find? fun x => bg x (c :: r)).map List.length = if (l.map UInt8.toNat).contains c.toNat = true then some 1 else none := by
    intro l
    induction l with
    | nil => intro _; rfl
    | cons k l ih =>
      intro _
      rw [List.map_cons, List.find?_cons, bg1, List.map_cons, List.contains_cons]
      by_cases hk : c = k
      · subst hk; simp
      · have h2 : ¬ c.toNat = k.toNat := fun e => hk (UInt8.toNat_inj.1 e)
        rw [e1 k hk]
        simp only [beq_eq_false_iff_ne.2 h2, Bool.false_or]
        exact ih (fun _ _ => trivial)
  have hl : (signsL.find? fun x => bg x (c :: r)) = (([123, 125, 40, 41, 91, 93, 44, 59, 58, 46, 43, 45, 42, 47, 37, 64] : List UInt8).map fun k => [k]).find? fun x => bg x (c :: r) := by
    simp only [signsL, List.map_cons, List.map_nil, List.find?_cons, bg1, bg2, e1 61 h61, e1 33 h33, e1 60 h60, e1 62 h62, e1 38 h38, e1 124 h124, Bool.false_and]
  rw [hl, key _ (fun _ _ => trivial)]
  have : ([123, 125, 40, 41, 91, 93, 44, 59, 58, 46, 43, 45, 42, 47, 37, 64] : List UInt8).map UInt8.toNat = singles := rfl
  rw [this]
  cases singles.contains c.toNat <;> rfl
theorem bg_take {s l : List UInt8} (h : bg s l = true) : s = l.take s.length := by unfold bg at h; exact (beq_iff_eq.1 h).symm
theorem signLoop_ok (text : Str) (hl : text.length ≤ 1000000) (a : Nat) (ha : a ≤ text.length) (o4 : Token) : ∀ (k i : Nat), i + k = signsL.length →
    ref05One_L21 text a signsL i o4 = some (match (signsL.drop i).find? fun x => bg x (text.drop a) with | some x => (⟨4, 0, x, a, ((a + x.length : Nat) : Int)⟩, 0) | none => (⟨0, 0, [], 0, 0⟩, 4)) := by
  intro k
  have hsz : ∀ x ∈ signsL, x.length ≤ 2 := by decide
  induction k with
  | zero =>
    intro i hi
    rw [ref05One_L21_eq]; unfold ref05One_L21_B
    rw [if_neg (by omega), List.drop_eq_nil_of_le (as := signsL) (by omega)]; rfl
  | succ k ih =>
    intro i hi
    have h3 : i < signsL.length := by omega
    have h4 := hsz _ (List.getElem_mem h3)
    have h5 : signsL.length = 26 := rfl
    rw [ref05One_L21_eq]; unfold ref05One_L21_B
    rw [if_pos (by omega), idx_lt h3, some_bind, begins_ok text hl a ha _ (by omega), some_bind, List.drop_eq_getElem_cons h3, List.find?_cons]
    cases hb : bg signsL[i] (text.drop a) with
    | true =>
      simp only [if_true]
      rw [some_bind, some_bind, wi_id (by omega) (by omega)]
      rfl
    | false =>
      rw [if_neg (by simp), wi_id (by omega) (by omega), succ_cast, ih (i + 1) (by omega)]

/-! a token -/
/-- the token that a text begins with, and how long it is; or what is wrong -/
def one : List UInt8 → Int ⊕ (Int × Int × Str × Nat)
  | [] => .inl 0
  | c :: r =>
    if ltr c = true then (if tw mor (c :: r) > 16 then .inl 3 else .inr (if isW ((c :: r).take (tw mor (c :: r))) = true then 3 else 1, 0, (c :: r).take (tw mor (c :: r)), tw mor (c :: r)))
    else if dgt c = true then (match num ((c :: r).take (tw dgt (c :: r))) with | none => .inl 5 | some n => .inr (2, (n : Int), [], tw dgt (c :: r)))
    else if sgn c.toNat (hd0 r) = 0 then .inl 4 else .inr (4, 0, (c :: r).take (sgn c.toNat (hd0 r)), sgn c.toNat (hd0 r))
theorem sgn_len (c : UInt8) (r : List UInt8) : sgn c.toNat (hd0 r) ≤ (c :: r).length := by
  cases r with
  | nil =>
    unfold sgn hd0
    simp only [List.length_cons, List.length_nil]
    split
    · simp
    · split
      · rw [if_neg (by omega)]; omega
      · split <;> omega
  | cons d r =>
    unfold sgn
    simp only [List.length_cons]
    split
    · split <;> omega
    · split
      · split <;> omega
      · split <;> omega
theorem one_len : ∀ {s : List UInt8} {k n : Int} {t : Str} {l : Nat}, one s = .inr (k, n, t, l) → 1 ≤ l ∧ l ≤ s.length
  | [], _, _, _, _, h => by simp [one] at h
  | c :: r, k, n, t, l, h => by
    rw [one] at h
    by_cases h1 : ltr c = true
    · rw [if_pos h1] at h
      have hm : mor c = true := by unfold mor; rw [h1]; rfl
      by_cases h2 : tw mor (c :: r) > 16
      · rw [if_pos h2] at h; cases h
      · rw [if_neg h2] at h
        injection h with h; injection h with _ h; injection h with _ h; injection h with _ h
        subst h
        refine ⟨?_, tw_le _ _⟩
        rw [tw, if_pos hm]; omega
    · rw [if_neg h1] at h
      by_cases h2 : dgt c = true
      · rw [if_pos h2] at h
        cases hn : num ((c :: r).take (tw dgt (c :: r))) with
        | none => rw [hn] at h; cases h
        | some m =>
          rw [hn] at h
          injection h with h; injection h with _ h; injection h with _ h; injection h with _ h
          subst h
          refine ⟨?_, tw_le _ _⟩
          rw [tw, if_pos h2]; omega
      · rw [if_neg h2] at h
        by_cases h3 : sgn c.toNat (hd0 r) = 0
        · rw [if_pos h3] at h; cases h
        · rw [if_neg h3] at h
          injection h with h; injection h with _ h; injection h with _ h; injection h with _ h
          subst h
          exact ⟨by omega, sgn_len c r⟩
theorem slice_eq (text : List UInt8) (a n : Nat) : (text.take (a + n)).drop a = (text.drop a).take n := by
  rw [List.drop_take]; congr 1; omega
theorem peekd_ok (text : Str) (hl : text.length ≤ 1000000) (a : Nat) (ha : a ≤ text.length) (out : List Token) : lex_reader_peek 1 text a out = some (((hd0 (text.drop (a + 1)) : Nat) : Int), text, (a : Int), out) := by
  rw [(peek_ok text hl a out).resolve_right (by omega)]
  cases text.drop (a + 1) <;> rfl
/-- the program's -/
theorem one_ok (text : Str) (hl : text.length ≤ 1000000) (a : Nat) (ha : a < text.length) (out : List Token) (ho : out.length ≤ 1000000) :
    (∃ k n s l, one (text.drop a) = .inr (k, n, s, l) ∧ lex_reader_one text a out = some (0, text, ((a + l : Nat) : Int), out ++ [⟨k, n, s, a, ((a + l : Nat) : Int)⟩])) ∨
    (∃ e a', one (text.drop a) = .inl e ∧ e ≠ 0 ∧ lex_reader_one text a out = some (e, text, a', out)) := by
  have hd := List.drop_eq_getElem_cons ha
  unfold lex_reader_one
  rw [idx_lt ha, some_bind, ltr_ok, some_bind]
  have hle := tw_le mor (text.drop a)
  have hle2 := tw_le dgt (text.drop a)
  rw [List.length_drop] at hle hle2
  cases h1 : ltr text[a] with
  | true =>
    simp only [if_true]
    unfold lex_reader_word lex_reader_run_reader_isMore
    rw [runMore_ok text hl out a (text.length - a) a (by omega) (by omega), some_bind, slice_eq]
    simp only []
    have hlen : ((text.drop a).take (tw mor (text.drop a))).length = tw mor (text.drop a) := by rw [List.length_take, List.length_drop]; omega
    have hone : one (text.drop a) = if tw mor (text.drop a) > 16 then .inl 3 else .inr (if isW ((text.drop a).take (tw mor (text.drop a))) = true then 3 else 1, 0, (text.drop a).take (tw mor (text.drop a)), tw mor (text.drop a)) := by
      conv => lhs; rw [hd, one, if_pos h1, ← hd]
    rw [hlen, hone]
    by_cases h2 : tw mor (text.drop a) > 16
    · rw [if_pos h2, if_pos (show ((tw mor (List.drop a text) : Nat) : Int) > 16 by omega)]
      exact .inr ⟨3, _, rfl, by decide, rfl⟩
    · rw [if_neg h2, if_neg (show ¬ ((tw mor (List.drop a text) : Nat) : Int) > 16 by omega), word_ok, some_bind]
      left
      cases isW ((text.drop a).take (tw mor (text.drop a))) with
      | true =>
        simp only [if_true]
        rw [put_ok5 _ _ _ _ _ _ _ ho, some_bind, some_bind]
        exact ⟨3, 0, _, _, rfl, rfl⟩
      | false =>
        simp only [Bool.false_eq_true, if_false]
        rw [put_ok5 _ _ _ _ _ _ _ ho, some_bind, some_bind]
        exact ⟨1, 0, _, _, rfl, rfl⟩
  | false =>
    simp only [Bool.false_eq_true, if_false]
    rw [dgt_ok, some_bind]
    cases h2 : dgt text[a] with
    | true =>
      simp only [if_true]
      unfold lex_reader_number lex_reader_run_reader_isDigit
      rw [runDigit_ok text hl out a (text.length - a) a (by omega) (by omega), some_bind, slice_eq]
      simp only []
      have hlen : ((text.drop a).take (tw dgt (text.drop a))).length = tw dgt (text.drop a) := by rw [List.length_take, List.length_drop]; omega
      have hall := tw_all dgt (text.drop a)
      have hone : one (text.drop a) = match num ((text.drop a).take (tw dgt (text.drop a))) with | none => .inl 5 | some n => .inr (2, (n : Int), [], tw dgt (text.drop a)) := by
        conv => lhs; rw [hd, one, if_neg (by rw [h1]; simp), if_pos h2, ← hd]
      have hpos : 1 ≤ tw dgt (text.drop a) := by rw [tw_drop _ ha, if_pos h2]; omega
      rw [hone]
      generalize hw : (text.drop a).take (tw dgt (text.drop a)) = w at *
      have tl : w.length ≤ 19 → (lex_reader_number_L7 (a : Int) w 0 w.length 0 text ((a + tw dgt (text.drop a) : Nat) : Int) out) = some (if valF 0 w > 9223372036854775807 then (5, text, ((a + tw dgt (text.drop a) : Nat) : Int), out) else (0, text, ((a + tw dgt (text.drop a) : Nat) : Int), out ++ [⟨2, (valF 0 w : Int), [], (a : Int), ((a + tw dgt (text.drop a) : Nat) : Int)⟩])) := fun h19 => by
        have := numLoop_ok (a : Int) w hall h19 text ((a + tw dgt (text.drop a) : Nat) : Int) out ho w.length 0 0 (by omega) (by omega)
        simpa using this
      by_cases h19 : (List.length w : Int) > 19
      · rw [if_pos h19]
        right
        have hnum : num w = none := by
          unfold num
          by_cases hz : w.length > 1 ∧ hdIs 48 w = true
          · rw [if_pos hz]
          · rw [if_neg hz, if_pos ?_]
            cases w with
            | nil => simp at h19
            | cons x q =>
              have hx : x.toNat ≠ 48 := fun e => hz ⟨by omega, by simp [hdIs, e]⟩
              have hdx := hall x (by simp)
              unfold dgt at hdx
              simp only [Bool.and_eq_true, decide_eq_true_eq] at hdx
              have hlow := valF_low q (0 * 10 + (x.toNat - 48))
              rw [valF_cons]
              have hq : 19 ≤ q.length := by simp at h19; omega
              have hp : 10 ^ 19 ≤ 10 ^ q.length := Nat.pow_le_pow_right (by omega) hq
              have : 1 * 10 ^ q.length ≤ (0 * 10 + (x.toNat - 48)) * 10 ^ q.length := Nat.mul_le_mul_right _ (by omega)
              omega
        rw [hnum]
        exact ⟨5, _, rfl, by decide, rfl⟩
      · rw [if_neg h19]
        have fin : ¬ (w.length > 1 ∧ hdIs 48 w = true) → (∃ k n s l, (match num w with | none => (.inl 5 : Int ⊕ (Int × Int × Str × Nat)) | some n => .inr (2, (n : Int), [], tw dgt (text.drop a))) = .inr (k, n, s, l) ∧
            (lex_reader_number_L7 (a : Int) w 0 w.length 0 text ((a + tw dgt (text.drop a) : Nat) : Int) out >>= fun q4 => some (q4.1, q4.2.1, q4.2.2.1, q4.2.2.2)) = some (0, text, ((a + l : Nat) : Int), out ++ [⟨k, n, s, (a : Int), ((a + l : Nat) : Int)⟩])) ∨
            (∃ e a', (match num w with | none => (.inl 5 : Int ⊕ (Int × Int × Str × Nat)) | some n => .inr (2, (n : Int), [], tw dgt (text.drop a))) = .inl e ∧ e ≠ 0 ∧ (lex_reader_number_L7 (a : Int) w 0 w.length 0 text ((a + tw dgt (text.drop a) : Nat) : Int) out >>= fun q4 => some (q4.1, q4.2.1, q4.2.2.1, q4.2.2.2)) = some (e, text, a', out)) := fun hz => by
          rw [tl (by omega), some_bind]
          unfold num
          rw [if_neg hz]
          by_cases hv : valF 0 w > 9223372036854775807
          · rw [if_pos hv, if_pos hv]; exact .inr ⟨5, _, rfl, by decide, rfl⟩
          · rw [if_neg hv, if_neg hv]; exact .inl ⟨2, _, _, _, rfl, rfl⟩
        by_cases hl1 : (List.length w : Int) > 1
        · rw [if_pos hl1]
          cases w with
          | nil => simp at hl1
          | cons x q =>
            rw [idx_zero]
            simp only [List.getElem?_cons_zero, some_bind, show (48 : Int) = ((48 : Nat) : Int) from rfl, u8_int]
            by_cases h48 : x.toNat = 48
            · rw [if_pos h48]
              right
              have : num (x :: q) = none := by unfold num; rw [if_pos ⟨by omega, by simp [hdIs, h48]⟩]
              rw [this]
              exact ⟨5, _, rfl, by decide, rfl⟩
            · rw [if_neg h48]
              exact fin (by simp [hdIs, h48])
        · rw [if_neg hl1]
          exact fin (by omega)
    | false =>
      simp only [Bool.false_eq_true, if_false]
      have hone : one (text.drop a) = if sgn text[a].toNat (hd0 (text.drop (a + 1))) = 0 then .inl 4 else .inr (4, 0, (text.drop a).take (sgn text[a].toNat (hd0 (text.drop (a + 1)))), sgn text[a].toNat (hd0 (text.drop (a + 1)))) := by
        conv => lhs; rw [hd, one, if_neg (by rw [h1]; simp), if_neg (by rw [h2]; simp), ← hd]
      have hsl := sgn_len text[a] (text.drop (a + 1))
      rw [← hd, List.length_drop] at hsl
      rw [peekd_ok text hl a (by omega), some_bind]
      simp only []
      rw [show Int.ofNat (UInt8.toNat text[a]) = ((UInt8.toNat text[a] : Nat) : Int) from rfl, signAt_ok, some_bind, hone]
      by_cases h3 : sgn text[a].toNat (hd0 (text.drop (a + 1))) = 0
      · rw [if_pos h3, if_pos (show ((sgn text[a].toNat (hd0 (text.drop (a + 1))) : Nat) : Int) = 0 by omega)]
        exact .inr ⟨4, _, rfl, by decide, rfl⟩
      · rw [if_neg h3, if_neg (show ¬ ((sgn text[a].toNat (hd0 (text.drop (a + 1))) : Nat) : Int) = 0 by omega)]
        left
        generalize sgn text[a].toNat (hd0 (text.drop (a + 1))) = g at *
        rw [wi_id (by omega) (by omega), show (a : Int) + (g : Int) = ((a + g : Nat) : Int) by omega, chk4 (by omega) (by omega)]
        rw [show Int.toNat ((a + g : Nat) : Int) = a + g from rfl, show Int.toNat (a : Int) = a from rfl, slice_eq, put_ok5 _ _ _ _ _ _ _ ho, some_bind]
        exact ⟨4, 0, _, _, rfl, rfl⟩
end Go.Proofs.Ytdpecjiflalkmaa.M
