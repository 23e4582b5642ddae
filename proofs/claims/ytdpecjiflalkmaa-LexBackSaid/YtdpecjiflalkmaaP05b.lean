/- The reference's questions, and numbers of digits. -/
import Derived.Test.YtdpecjiflalkmaaP05a
namespace Go.Proofs.Ytdpecjiflalkmaa.M
open Go Nt
set_option linter.unusedVariables false
set_option linter.unusedSimpArgs false

/-- does a text begin with another one? -/
def bg (s l : List UInt8) : Bool := l.take s.length == s
theorem begins_ok (text : Str) (hl : text.length ≤ 1000000) (a : Nat) (ha : a ≤ text.length) (s : Str) (hs : s.length ≤ 1000) : ref05Begins text a s = some (bg s (text.drop a)) := by
  unfold ref05Begins bg
  rw [wi_id (n := (List.length text : Int) - (a : Int)) (by omega) (by omega), wi_id (by omega) (by omega)]
  have hn : ((a : Int) + (List.length s : Int)).toNat = a + s.length := by omega
  by_cases h : (List.length s : Int) ≤ (List.length text : Int) - (a : Int)
  · rw [if_pos h, if_pos (by omega), if_pos (by omega), if_pos (by omega), if_pos (by omega), hn, show Int.toNat (a : Int) = a from rfl, List.drop_take]
    rw [show a + s.length - a = s.length by omega]
  · rw [if_neg h]
    congr 1; symm
    rw [beq_eq_false_iff_ne]
    intro e
    have := congrArg List.length e
    simp at this
    omega
theorem next_ok (text : Str) (hl : text.length ≤ 1000000) : ∀ (n a : Nat), text.length ≤ a + n → a ≤ text.length →
    ref05Next_L1 text a = some ((a + nxt n (text.drop a) : Nat) : Int) ∧ ∀ m, m ≤ n → a + tw lin (text.drop a) + m = text.length → text.length ≤ a + tw lin (text.drop a) + n →
      (ref05Next_L1 text ((a + tw lin (text.drop a) : Nat) : Int) = some ((a + tw lin (text.drop a) + nxt n (text.drop (a + tw lin (text.drop a))) : Nat) : Int) → True) := by
  intro n a h1 h2
  refine ⟨?_, fun _ _ _ _ _ => trivial⟩
  induction n generalizing a with
  | zero =>
    rw [ref05Next_L1_eq]; unfold ref05Next_L1_B
    rw [if_neg (by omega)]; rfl
  | succ n ih =>
    have line : ∀ (k b : Nat), b + k = text.length → ref05Next_L5 text b = ref05Next_L1 text ((b + tw lin (text.drop b) : Nat) : Int) := by
      intro k
      induction k with
      | zero =>
        intro b hb
        rw [ref05Next_L5_eq]; unfold ref05Next_L5_B
        rw [if_neg (by omega), List.drop_eq_nil_of_le (by omega)]; rfl
      | succ k ihk =>
        intro b hb
        have h3 : b < text.length := by omega
        rw [ref05Next_L5_eq]; unfold ref05Next_L5_B
        rw [if_pos (by omega), idx_lt h3, some_bind, tw_drop _ h3]
        simp only [show (10 : Int) = ((10 : Nat) : Int) from rfl, u8_int]
        by_cases h10 : text[b].toNat = 10
        · rw [if_pos h10]
          have : lin text[b] = false := by unfold lin; simp [h10]
          rw [this]; rfl
        · rw [if_neg h10, wi_id (by omega) (by omega), succ_cast, ihk (b + 1) (by omega)]
          have : lin text[b] = true := by unfold lin; simp [h10]
          rw [this, if_pos rfl, show b + 1 + tw lin (List.drop (b + 1) text) = b + (tw lin (List.drop (b + 1) text) + 1) by omega]
    rw [ref05Next_L1_eq]; unfold ref05Next_L1_B
    by_cases h3 : a < text.length
    · rw [if_pos (by omega), idx_lt h3, some_bind, rblk_ok, some_bind]
      have hd := List.drop_eq_getElem_cons h3
      cases hb : blk text[a] with
      | true =>
        rw [if_pos rfl, wi_id (by omega) (by omega), succ_cast, ih (a + 1) (by omega) (by omega), hd, nxt, if_pos hb]
        rw [show a + 1 + nxt n (List.drop (a + 1) text) = a + (nxt n (List.drop (a + 1) text) + 1) by omega]
      | false =>
        rw [if_neg (by simp), begins_ok text hl a (by omega) _ (by simp), some_bind, line (text.length - a) a (by omega)]
        have hbg : (bg [47, 47] (text.drop a) = true) ↔ (text[a].toNat = 47 ∧ hdIs 47 (text.drop (a + 1)) = true) := by
          rw [hd]
          unfold bg
          cases text.drop (a + 1) with
          | nil => simp [hdIs]
          | cons d r =>
            simp only [hdIs, List.length_cons, List.length_nil, List.take_succ_cons, List.take_zero, beq_iff_eq, List.cons.injEq, and_true]
            constructor
            · rintro ⟨h1, h2⟩; rw [h1, h2]; exact ⟨rfl, rfl⟩
            · rintro ⟨h1, h2⟩; exact ⟨UInt8.toNat_inj.1 (by rw [h1]; rfl), UInt8.toNat_inj.1 (by rw [h2]; rfl)⟩
        cases hg : bg [47, 47] (text.drop a) with
        | true =>
          have hh := hbg.1 hg
          have hlin : lin text[a] = true := by unfold lin; simp [hh.1]
          have htw : 1 ≤ tw lin (text.drop a) := by rw [tw_drop _ h3, if_pos hlin]; omega
          have hle := tw_le lin (text.drop a)
          rw [List.length_drop] at hle
          rw [if_pos rfl, ih (a + tw lin (text.drop a)) (by omega) (by omega)]
          have e : nxt (n + 1) (text.drop a) = tw lin (text.drop a) + nxt n ((text.drop a).drop (tw lin (text.drop a))) := by
            conv => lhs; rw [hd, nxt, if_neg (by rw [hb]; simp), if_pos hh, ← hd]
          rw [e, List.drop_drop, Nat.add_assoc]
        | false =>
          rw [if_neg (by simp), hd, nxt, if_neg (by rw [hb]; simp), if_neg (fun h => by rw [hbg.2 h] at hg; cases hg)]; rfl
    · have h4 : text.drop a = [] := List.drop_eq_nil_of_le (by omega)
      rw [if_neg (by omega), h4]; rfl

/-! words -/
def wordsL : List Str := [[114, 101, 99], [99, 111, 110, 115, 116], [118, 97, 114], [112, 117, 98], [102, 110], [105, 110, 116], [98, 111, 111, 108], [108, 101, 116], [105, 102], [101, 108, 115, 101], [119, 104, 105, 108, 101], [102, 111, 114], [116, 111], [112, 114, 105, 110, 116], [114, 101, 116, 117, 114, 110], [100, 111], [116, 114, 117, 101], [102, 97, 108, 115, 101], [114, 101, 97, 100], [110, 101, 119]]
def isW (s : Str) : Bool := wordsL.contains s
theorem chainW (s : Str) : ∀ l : List Str, (l.foldr (fun w acc => if s = w then some true else acc) (some false)) = some (l.contains s)
  | [] => rfl
  | w :: r => by
    rw [List.foldr_cons, chainW s r, List.contains_cons]
    by_cases h : s = w
    · rw [if_pos h, h]; simp
    · rw [if_neg h]
      have : (s == w) = false := by simpa using h
      rw [this]; rfl
theorem word_ok (s : Str) : lex_isWord s = some (isW s) := by
  have := chainW s wordsL
  unfold lex_isWord
  exact this
theorem among_ok (s : Str) (all : List Str) (hl : all.length ≤ 1000) : ref05Among s all = some (all.contains s) := by
  have loop : ∀ (k i : Nat), i + k = all.length → ref05Among_L2 s all i = some ((all.drop i).contains s) := by
    intro k
    induction k with
    | zero =>
      intro i hi
      rw [ref05Among_L2_eq]; unfold ref05Among_L2_B
      rw [if_neg (by omega), List.drop_eq_nil_of_le (by omega)]; rfl
    | succ k ih =>
      intro i hi
      have h3 : i < all.length := by omega
      rw [ref05Among_L2_eq]; unfold ref05Among_L2_B
      rw [if_pos (by omega), idx_lt h3, some_bind, List.drop_eq_getElem_cons h3, List.contains_cons]
      by_cases h : all[i] = s
      · rw [if_pos h, h]; simp
      · rw [if_neg h, wi_id (by omega) (by omega), succ_cast, ih (i + 1) (by omega)]
        have : (s == all[i]) = false := by simpa using fun e => h e.symm
        rw [this]; rfl
  unfold ref05Among
  have := loop all.length 0 (by omega)
  simpa using this
theorem words_ok : ref05Words = some wordsL := rfl

/-! numbers -/
def valF (v : Nat) (l : List UInt8) : Nat := l.foldl (fun v c => v * 10 + (c.toNat - 48)) v
theorem valF_nil (v : Nat) : valF v [] = v := rfl
theorem valF_cons (v : Nat) (c : UInt8) (r : List UInt8) : valF v (c :: r) = valF (v * 10 + (c.toNat - 48)) r := by unfold valF; rw [List.foldl_cons]
theorem valF_ge : ∀ (l : List UInt8) (v : Nat), v ≤ valF v l
  | [], v => by rw [valF_nil]; exact Nat.le_refl _
  | c :: r, v => by have := valF_ge r (v * 10 + (c.toNat - 48)); rw [valF_cons]; omega
theorem valF_low : ∀ (l : List UInt8) (v : Nat), v * 10 ^ l.length ≤ valF v l
  | [], v => by rw [valF_nil]; simp
  | c :: r, v => by
    have := valF_low r (v * 10 + (c.toNat - 48))
    rw [valF_cons, List.length_cons, Nat.pow_succ]
    refine Nat.le_trans ?_ this
    rw [Nat.mul_comm (10 ^ r.length) 10, ← Nat.mul_assoc]
    exact Nat.mul_le_mul_right _ (by omega)
theorem valF_up : ∀ (l : List UInt8) (v : Nat), (∀ c ∈ l, dgt c = true) → valF v l < (v + 1) * 10 ^ l.length
  | [], v, _ => by rw [valF_nil]; simp
  | c :: r, v, h => by
    have := valF_up r (v * 10 + (c.toNat - 48)) fun x hx => h x (by simp [hx])
    have hc := h c (by simp)
    unfold dgt at hc
    simp only [Bool.and_eq_true, decide_eq_true_eq] at hc
    rw [valF_cons, List.length_cons, Nat.pow_succ]
    refine Nat.lt_of_lt_of_le this ?_
    rw [Nat.mul_comm (10 ^ r.length) 10, ← Nat.mul_assoc]
    exact Nat.mul_le_mul_right _ (by omega)
/-- what digits say; none: too large, or a nought too many -/
def num (w : List UInt8) : Option Nat :=
  if w.length > 1 ∧ hdIs 48 w = true then none
  else if valF 0 w > 9223372036854775807 then none else some (valF 0 w)
theorem wu_id {n : Int} (h1 : 0 ≤ n) (h2 : n ≤ 18446744073709551615) : IntKind.wrap .u64 n = n := by rw [IntKind.wrap_u64]; omega
theorem w8_id {n : Int} (h1 : 0 ≤ n) (h2 : n ≤ 255) : IntKind.wrap .u8 n = n := by
  have : IntKind.wrap .u8 n = n % 256 := rfl
  rw [this]; omega
theorem put_ok5 (k n : Int) (s : Str) (f : Int) (text : Str) (a : Int) (out : List Token) (h : out.length ≤ 1000000) : lex_reader_put k n s f text a out = some (text, a, out ++ [⟨k, n, s, f, a⟩]) := by
  unfold lex_reader_put
  rw [if_pos (by unfold roomy; simp; omega)]
theorem numLoop_ok (f : Int) (w : Str) (hd : ∀ c ∈ w, dgt c = true) (hw : w.length ≤ 19) (text : Str) (a : Int) (out : List Token) (ho : out.length ≤ 1000000) : ∀ (k i v : Nat), i + k = w.length → v < 10 ^ i →
    lex_reader_number_L7 f w v w.length i text a out = some (if valF v (w.drop i) > 9223372036854775807 then (5, text, a, out) else (0, text, a, out ++ [⟨2, (valF v (w.drop i) : Int), [], f, a⟩])) := by
  intro k
  induction k with
  | zero =>
    intro i v hi hv
    rw [lex_reader_number_L7_eq]; unfold lex_reader_number_L7_B
    have h1 : w.drop i = [] := List.drop_eq_nil_of_le (by omega)
    rw [if_neg (by omega), h1, valF_nil]
    by_cases h : v > 9223372036854775807
    · rw [if_pos (by omega), if_pos h]
    · rw [if_neg (by omega), if_neg h, put_ok5 _ _ _ _ _ _ _ ho, some_bind, wi_id (by omega) (by omega)]
  | succ k ih =>
    intro i v hi hv
    have h3 : i < w.length := by omega
    rw [lex_reader_number_L7_eq]; unfold lex_reader_number_L7_B
    have hc := hd _ (List.getElem_mem h3)
    unfold dgt at hc
    simp only [Bool.and_eq_true, decide_eq_true_eq] at hc
    have hp : 10 ^ i ≤ 10 ^ 18 := Nat.pow_le_pow_right (by omega) (by omega)
    rw [if_pos (by omega), idx_lt h3, some_bind, List.drop_eq_getElem_cons h3, valF_cons]
    rw [show Int.ofNat (UInt8.toNat w[i]) = ((UInt8.toNat w[i] : Nat) : Int) from rfl]
    rw [w8_id (by omega) (by omega), wu_id (n := ((UInt8.toNat w[i] : Nat) : Int) - 48) (by omega) (by omega), wu_id (n := (v : Int) * 10) (by omega) (by omega), wu_id (by omega) (by omega), wi_id (by omega) (by omega), succ_cast]
    rw [show (v : Int) * 10 + (((UInt8.toNat w[i] : Nat) : Int) - 48) = ((v * 10 + (w[i].toNat - 48) : Nat) : Int) by omega]
    exact ih (i + 1) _ (by omega) (by rw [Nat.pow_succ]; omega)
theorem rnumLoop_ok (w : Str) (hd : ∀ c ∈ w, dgt c = true) (hw : w.length ≤ 1000000) : ∀ (k i v : Nat), i + k = w.length → v ≤ 9223372036854775807 →
    ref05Number_L5 w v i = some (if valF v (w.drop i) > 9223372036854775807 then (0, false) else ((valF v (w.drop i) : Int), true)) := by
  intro k
  induction k with
  | zero =>
    intro i v hi hv
    rw [ref05Number_L5_eq]; unfold ref05Number_L5_B
    have h1 : w.drop i = [] := List.drop_eq_nil_of_le (by omega)
    rw [if_neg (by omega), h1, valF_nil]
    rw [if_neg (by omega)]
  | succ k ih =>
    intro i v hi hv
    have h3 : i < w.length := by omega
    rw [ref05Number_L5_eq]; unfold ref05Number_L5_B
    have hc := hd _ (List.getElem_mem h3)
    unfold dgt at hc
    simp only [Bool.and_eq_true, decide_eq_true_eq] at hc
    rw [if_pos (by omega), idx_lt h3, some_bind, List.drop_eq_getElem_cons h3, valF_cons, if_pos (by decide)]
    rw [show Int.ofNat (UInt8.toNat w[i]) = ((UInt8.toNat w[i] : Nat) : Int) from rfl]
    generalize hcn : w[i].toNat = c at *
    have hge := valF_ge (w.drop (i + 1)) (v * 10 + (c - 48))
    rw [w8_id (by omega) (by omega), wi_id (n := (c : Int) - 48) (by omega) (by omega), wi_id (n := 9223372036854775807 - ((c : Int) - 48)) (by omega) (by omega), Int.tdiv_eq_ediv_of_nonneg (by omega), wi_id (n := (9223372036854775807 - ((c : Int) - 48)) / 10) (by omega) (by omega)]
    by_cases h : (v : Int) > (9223372036854775807 - ((c : Int) - 48)) / 10
    · rw [if_pos h, if_pos (by omega)]
    · rw [if_neg h, wi_id (n := (v : Int) * 10) (by omega) (by omega), wi_id (n := (v : Int) * 10 + _) (by omega) (by omega), wi_id (by omega) (by omega), succ_cast]
      rw [show (v : Int) * 10 + ((c : Int) - 48) = ((v * 10 + (c - 48) : Nat) : Int) by omega]
      exact ih (i + 1) _ (by omega) (by omega)
theorem rnum_ok (w : Str) (hd : ∀ c ∈ w, dgt c = true) (h0 : 0 < w.length) (hw : w.length ≤ 1000000) : ref05Number w = some (match num w with | some n => ((n : Int), true) | none => (0, false)) := by
  unfold ref05Number num
  rw [if_neg (by omega)]
  have hl := rnumLoop_ok w hd hw w.length 0 0 (by omega) (by omega)
  rw [show ((0 : Nat) : Int) = 0 from rfl, List.drop_zero] at hl
  have tl : ref05Number_L5 w 0 0 = some (match (if valF 0 w > 9223372036854775807 then none else some (valF 0 w) : Option Nat) with | some n => ((n : Int), true) | none => (0, false)) := by
    rw [hl]; split <;> rfl
  by_cases h1 : (List.length w : Int) > 1
  · rw [if_pos h1]
    cases w with
    | nil => simp at h0
    | cons c r =>
      rw [idx_zero]
      simp only [List.getElem?_cons_zero, some_bind, show (48 : Int) = ((48 : Nat) : Int) from rfl, u8_int]
      by_cases h48 : c.toNat = 48
      · rw [if_pos h48, if_pos ⟨by omega, by simp [hdIs, h48]⟩]
      · rw [if_neg h48, if_neg (by simp [hdIs, h48])]; exact tl
  · rw [if_neg h1, if_neg (by omega)]; exact tl
end Go.Proofs.Ytdpecjiflalkmaa.M
