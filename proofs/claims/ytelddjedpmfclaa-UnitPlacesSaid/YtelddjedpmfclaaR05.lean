/- The tokens that the program finds in a text; they stand in order. -/
import Derived.Test.YtelddjedpmfclaaBase
namespace Go.Proofs.Ytelddjedpmfclaa.M
open Go Nt
set_option linter.unusedVariables false
set_option linter.unusedSimpArgs false
def ltr (c : UInt8) : Bool := (decide (97 ≤ c.toNat) && decide (c.toNat ≤ 122)) || (decide (65 ≤ c.toNat) && decide (c.toNat ≤ 90)) || c.toNat == 95
def dgt (c : UInt8) : Bool := decide (48 ≤ c.toNat) && decide (c.toNat ≤ 57)
def mor (c : UInt8) : Bool := ltr c || dgt c
def lin (c : UInt8) : Bool := !(c.toNat == 10)
def blk (c : UInt8) : Bool := c.toNat == 32 || c.toNat == 9 || c.toNat == 10 || c.toNat == 13
theorem ltr_ok (c : UInt8) (t : Str) (a : Int) (o : List Token) : lex_reader_isLetter (Int.ofNat (UInt8.toNat c)) t a o = some (ltr c) := by
  unfold lex_reader_isLetter ltr
  generalize c.toNat = n
  rw [show Int.ofNat n = (n : Int) from rfl]
  repeat' split
  all_goals (simp only [Option.some.injEq]; rw [Bool.eq_iff_iff]; simp; omega)
theorem dgt_ok (c : UInt8) (t : Str) (a : Int) (o : List Token) : lex_reader_isDigit (Int.ofNat (UInt8.toNat c)) t a o = some (dgt c) := by
  unfold lex_reader_isDigit dgt
  generalize c.toNat = n
  rw [show Int.ofNat n = (n : Int) from rfl]
  repeat' split
  all_goals (simp only [Option.some.injEq]; rw [Bool.eq_iff_iff]; simp; omega)
theorem mor_ok (c : UInt8) (t : Str) (a : Int) (o : List Token) : lex_reader_isMore (Int.ofNat (UInt8.toNat c)) t a o = some (mor c) := by
  unfold lex_reader_isMore mor
  rw [ltr_ok, some_bind]
  cases ltr c with
  | true => rfl
  | false => rw [if_neg (by simp), dgt_ok, some_bind]; rfl
theorem lin_ok (c : UInt8) (t : Str) (a : Int) (o : List Token) : lex_reader_isLine (Int.ofNat (UInt8.toNat c)) t a o = some (lin c) := by
  unfold lex_reader_isLine lin
  generalize c.toNat = n
  rw [show Int.ofNat n = (n : Int) from rfl]
  simp only [Option.some.injEq]; rw [Bool.eq_iff_iff]; simp; omega
theorem u8_int (c : UInt8) (n : Nat) : (Int.ofNat (UInt8.toNat c) = (n : Int)) ↔ c.toNat = n := by
  rw [show Int.ofNat (UInt8.toNat c) = ((UInt8.toNat c : Nat) : Int) from rfl]; omega
def tw (p : UInt8 → Bool) : List UInt8 → Nat
  | [] => 0
  | c :: r => if p c = true then tw p r + 1 else 0
theorem tw_le (p : UInt8 → Bool) (l : List UInt8) : tw p l ≤ l.length := by
  induction l with
  | nil => simp [tw]
  | cons c r ih => simp only [tw, List.length_cons]; split <;> omega
theorem tw_drop (p : UInt8 → Bool) {l : List UInt8} {i : Nat} (h : i < l.length) : tw p (l.drop i) = if p l[i] = true then tw p (l.drop (i + 1)) + 1 else 0 := by
  rw [List.drop_eq_getElem_cons h, tw]
theorem tw_all (p : UInt8 → Bool) : ∀ (l : List UInt8), ∀ c ∈ l.take (tw p l), p c = true
  | [], c, h => by simp [tw] at h
  | x :: r, c, h => by
    simp only [tw] at h
    split at h
    · rename_i hx
      rw [List.take_succ_cons] at h
      rcases List.mem_cons.1 h with rfl | h
      · exact hx
      · exact tw_all p r c h
    · simp at h
theorem chk4 {α : Type} {from_ at_ : Nat} {text : Str} {x : Option α} (h : at_ ≤ text.length) (hf : from_ ≤ at_) :
    (if (0 : Int) ≤ (at_ : Int) then (if Int.toNat (at_ : Int) ≤ List.length text then (if (0 : Int) ≤ (from_ : Int) then (if Int.toNat (from_ : Int) ≤ Int.toNat (at_ : Int) then x else none) else none) else none) else none) = x := by
  rw [if_pos (by omega), if_pos (by simpa using h), if_pos (by omega), if_pos (by simpa using hf)]
theorem runMore_ok (text : Str) (hl : text.length ≤ 1000000) (out : List Token) (f : Nat) : ∀ (k a : Nat), a + k = text.length → f ≤ a →
    lex_reader_run_reader_isMore_L2 f text a out = some ((text.take (a + tw mor (text.drop a))).drop f, text, ((a + tw mor (text.drop a) : Nat) : Int), out) := by
  intro k
  induction k with
  | zero =>
    intro a ha hf
    rw [lex_reader_run_reader_isMore_L2_eq]; unfold lex_reader_run_reader_isMore_L2_B
    have h1 : text.drop a = [] := List.drop_eq_nil_of_le (by omega)
    rw [if_neg (by omega), chk4 (by omega) hf, h1]; rfl
  | succ k ih =>
    intro a ha hf
    have hl2 : a < text.length := by omega
    rw [lex_reader_run_reader_isMore_L2_eq]; unfold lex_reader_run_reader_isMore_L2_B
    rw [if_pos (by omega), idx_lt hl2, some_bind, mor_ok, some_bind, tw_drop _ hl2]
    cases hm : mor text[a] with
    | true =>
      simp only [if_true]
      rw [wi_id (by omega) (by omega), succ_cast, ih (a + 1) (by omega) (by omega)]
      rw [show a + 1 + tw mor (List.drop (a + 1) text) = a + (tw mor (List.drop (a + 1) text) + 1) by omega]
    | false =>
      simp only [Bool.false_eq_true, if_false]
      rw [chk4 (by omega) hf]; rfl
theorem runDigit_ok (text : Str) (hl : text.length ≤ 1000000) (out : List Token) (f : Nat) : ∀ (k a : Nat), a + k = text.length → f ≤ a →
    lex_reader_run_reader_isDigit_L2 f text a out = some ((text.take (a + tw dgt (text.drop a))).drop f, text, ((a + tw dgt (text.drop a) : Nat) : Int), out) := by
  intro k
  induction k with
  | zero =>
    intro a ha hf
    rw [lex_reader_run_reader_isDigit_L2_eq]; unfold lex_reader_run_reader_isDigit_L2_B
    have h1 : text.drop a = [] := List.drop_eq_nil_of_le (by omega)
    rw [if_neg (by omega), chk4 (by omega) hf, h1]; rfl
  | succ k ih =>
    intro a ha hf
    have hl2 : a < text.length := by omega
    rw [lex_reader_run_reader_isDigit_L2_eq]; unfold lex_reader_run_reader_isDigit_L2_B
    rw [if_pos (by omega), idx_lt hl2, some_bind, dgt_ok, some_bind, tw_drop _ hl2]
    cases hm : dgt text[a] with
    | true =>
      simp only [if_true]
      rw [wi_id (by omega) (by omega), succ_cast, ih (a + 1) (by omega) (by omega)]
      rw [show a + 1 + tw dgt (List.drop (a + 1) text) = a + (tw dgt (List.drop (a + 1) text) + 1) by omega]
    | false =>
      simp only [Bool.false_eq_true, if_false]
      rw [chk4 (by omega) hf]; rfl
theorem runLine_ok (text : Str) (hl : text.length ≤ 1000000) (out : List Token) (f : Nat) : ∀ (k a : Nat), a + k = text.length → f ≤ a →
    lex_reader_run_reader_isLine_L2 f text a out = some ((text.take (a + tw lin (text.drop a))).drop f, text, ((a + tw lin (text.drop a) : Nat) : Int), out) := by
  intro k
  induction k with
  | zero =>
    intro a ha hf
    rw [lex_reader_run_reader_isLine_L2_eq]; unfold lex_reader_run_reader_isLine_L2_B
    have h1 : text.drop a = [] := List.drop_eq_nil_of_le (by omega)
    rw [if_neg (by omega), chk4 (by omega) hf, h1]; rfl
  | succ k ih =>
    intro a ha hf
    have hl2 : a < text.length := by omega
    rw [lex_reader_run_reader_isLine_L2_eq]; unfold lex_reader_run_reader_isLine_L2_B
    rw [if_pos (by omega), idx_lt hl2, some_bind, lin_ok, some_bind, tw_drop _ hl2]
    cases hm : lin text[a] with
    | true =>
      simp only [if_true]
      rw [wi_id (by omega) (by omega), succ_cast, ih (a + 1) (by omega) (by omega)]
      rw [show a + 1 + tw lin (List.drop (a + 1) text) = a + (tw lin (List.drop (a + 1) text) + 1) by omega]
    | false =>
      simp only [Bool.false_eq_true, if_false]
      rw [chk4 (by omega) hf]; rfl
def hdIs (n : Nat) : List UInt8 → Bool
  | d :: _ => d.toNat == n
  | [] => false
def nxt : Nat → List UInt8 → Nat
  | 0, _ => 0
  | _ + 1, [] => 0
  | n + 1, c :: r => if blk c = true then nxt n r + 1
    else if c.toNat = 47 ∧ hdIs 47 r = true then tw lin (c :: r) + nxt n ((c :: r).drop (tw lin (c :: r))) else 0
theorem peek_ok (text : Str) (hl : text.length ≤ 1000000) (a : Nat) (out : List Token) : lex_reader_peek 1 text a out = some (match text.drop (a + 1) with | d :: _ => Int.ofNat d.toNat | [] => 0) ∨ text.length < a := by
  by_cases h : text.length < a
  · exact .inr h
  left
  unfold lex_reader_peek
  rw [wi_id (by omega) (by omega), succ_cast]
  by_cases h2 : a + 1 < text.length
  · rw [if_pos (by omega), idx_lt h2, some_bind, List.drop_eq_getElem_cons h2]
  · rw [if_neg (by omega), List.drop_eq_nil_of_le (by omega)]
theorem nxt_le : ∀ (n : Nat) (l : List UInt8), nxt n l ≤ l.length
  | 0, l => by simp [nxt]
  | n + 1, [] => by simp [nxt]
  | n + 1, c :: r => by
    simp only [nxt]
    split
    · have := nxt_le n r; simp; omega
    · split
      · have := nxt_le n ((c :: r).drop (tw lin (c :: r)))
        have := tw_le lin (c :: r)
        rw [List.length_drop] at *
        omega
      · omega
theorem skip_ok (text : Str) (hl : text.length ≤ 1000000) (out : List Token) : ∀ (n a : Nat), text.length ≤ a + n → a ≤ text.length →
    lex_reader_skip_L0 text a out = some (text, ((a + nxt n (text.drop a) : Nat) : Int), out) := by
  intro n
  induction n with
  | zero =>
    intro a h1 h2
    rw [lex_reader_skip_L0_eq]; unfold lex_reader_skip_L0_B
    rw [if_neg (by omega)]; rfl
  | succ n ih =>
    intro a h1 h2
    rw [lex_reader_skip_L0_eq]; unfold lex_reader_skip_L0_B
    by_cases h3 : a < text.length
    · rw [if_pos (by omega), idx_lt h3, some_bind, wi_id (by omega) (by omega), succ_cast]
      have hd := List.drop_eq_getElem_cons h3
      simp only [show (32 : Int) = ((32 : Nat) : Int) from rfl, show (9 : Int) = ((9 : Nat) : Int) from rfl, show (10 : Int) = ((10 : Nat) : Int) from rfl, show (13 : Int) = ((13 : Nat) : Int) from rfl, show (47 : Int) = ((47 : Nat) : Int) from rfl, u8_int]
      by_cases hb : blk text[a] = true
      · have hgo : lex_reader_skip_L0 text ((a + 1 : Nat) : Int) out = some (text, ((a + nxt (n + 1) (text.drop a) : Nat) : Int), out) := by
          rw [ih (a + 1) (by omega) (by omega), hd, nxt, if_pos hb]
          rw [show a + 1 + nxt n (List.drop (a + 1) text) = a + (nxt n (List.drop (a + 1) text) + 1) by omega]
        unfold blk at hb
        simp only [Bool.or_eq_true, beq_iff_eq] at hb
        repeat' split
        all_goals first | exact hgo | omega
      · have hb' : blk text[a] = false := by simpa using hb
        have hb2 := hb'
        unfold blk at hb'
        simp only [Bool.or_eq_false_iff, beq_eq_false_iff_ne] at hb'
        rw [if_neg hb'.1.1.1, if_neg hb'.1.1.2, if_neg hb'.1.2, if_neg hb'.2]
        by_cases h47 : text[a].toNat = 47
        · rw [if_pos h47]
          have hp := (peek_ok text hl a out).resolve_right (by omega)
          rw [hp, some_bind]
          have hlin : lin text[a] = true := by unfold lin; simp [h47]
          have hrest : ∀ (hh : hdIs 47 (text.drop (a + 1)) = true), lex_reader_skip_L0 text ((a + tw lin (text.drop a) : Nat) : Int) out = some (text, ((a + nxt (n + 1) (text.drop a) : Nat) : Int), out) := fun hh => by
            have htw : 1 ≤ tw lin (text.drop a) := by rw [tw_drop _ h3, if_pos hlin]; omega
            have hle := tw_le lin (text.drop a)
            rw [List.length_drop] at hle
            rw [ih (a + tw lin (text.drop a)) (by omega) (by omega)]
            have e : nxt (n + 1) (text.drop a) = tw lin (text.drop a) + nxt n ((text.drop a).drop (tw lin (text.drop a))) := by
              conv => lhs; rw [hd, nxt, if_neg (by rw [hb2]; simp), if_pos ⟨h47, hh⟩, ← hd]
            rw [e, List.drop_drop, Nat.add_assoc]
          cases hr : text.drop (a + 1) with
          | nil =>
            simp only []
            rw [if_neg (by omega), hd, nxt, if_neg (by rw [hb2]; simp), if_neg (by rw [hr]; simp [hdIs])]; rfl
          | cons d r =>
            simp only [u8_int]
            by_cases hd47 : d.toNat = 47
            · rw [if_pos hd47]
              unfold lex_reader_run_reader_isLine
              rw [runLine_ok text hl out a (text.length - a) a (by omega) (by omega), some_bind]
              exact hrest (by rw [hr]; simp [hdIs, hd47])
            · rw [if_neg hd47, hd, nxt, if_neg (by rw [hb2]; simp), if_neg (by rw [hr]; simp [hdIs, hd47])]; rfl
        · rw [if_neg h47, hd, nxt, if_neg (by rw [hb2]; simp), if_neg (by simp [h47])]; rfl
    · have h4 : text.drop a = [] := List.drop_eq_nil_of_le (by omega)
      rw [if_neg (by omega), h4]; rfl
def wordsL : List Str := [[114, 101, 99], [99, 111, 110, 115, 116], [118, 97, 114], [112, 117, 98], [102, 110], [105, 110, 116], [98, 111, 111, 108], [108, 101, 116], [105, 102], [101, 108, 115, 101], [119, 104, 105, 108, 101], [102, 111, 114], [116, 111], [112, 114, 105, 110, 116], [114, 101, 116, 117, 114, 110], [100, 111], [116, 114, 117, 101], [102, 97, 108, 115, 101], [114, 101, 97, 100], [110, 101, 119]]
def isW (s : Str) : Bool := wordsL.contains s
theorem chainW (s : Str) : ∀ l : List Str, (l.foldr (fun w acc => if s = w then some true else acc) (some false)) = some (l.contains s)
  | [] => rfl
  | w :: r => by
    rw [List.foldr_cons, chainW s r, List.contains_cons]
    by_cases h : s = w
    · rw [if_pos h, h]; simp
    · rw [if_neg h]
      have : (s == w) = false := by simpa using h
      rw [this]; rfl
theorem word_ok (s : Str) : lex_isWord s = some (isW s) := by
  have := chainW s wordsL
  unfold lex_isWord
  exact this
def valF (v : Nat) (l : List UInt8) : Nat := l.foldl (fun v c => v * 10 + (c.toNat - 48)) v
theorem valF_nil (v : Nat) : valF v [] = v := rfl
theorem valF_cons (v : Nat) (c : UInt8) (r : List UInt8) : valF v (c :: r) = valF (v * 10 + (c.toNat - 48)) r := by unfold valF; rw [List.foldl_cons]
theorem valF_ge : ∀ (l : List UInt8) (v : Nat), v ≤ valF v l
  | [], v => by rw [valF_nil]; exact Nat.le_refl _
  | c :: r, v => by have := valF_ge r (v * 10 + (c.toNat - 48)); rw [valF_cons]; omega
theorem valF_low : ∀ (l : List UInt8) (v : Nat), v * 10 ^ l.length ≤ valF v l
  | [], v => by rw [valF_nil]; simp
  | c :: r, v => by
    have := valF_low r (v * 10 + (c.toNat - 48))
    rw [valF_cons, List.length_cons, Nat.pow_succ]
    refine Nat.le_trans ?_ this
    rw [Nat.mul_comm (10 ^ r.length) 10, ← Nat.mul_assoc]
    exact Nat.mul_le_mul_right _ (by omega)
theorem valF_up : ∀ (l : List UInt8) (v : Nat), (∀ c ∈ l, dgt c = true) → valF v l < (v + 1) * 10 ^ l.length
  | [], v, _ => by rw [valF_nil]; simp
  | c :: r, v, h => by
    have := valF_up r (v * 10 + (c.toNat - 48)) fun x hx => h x (by simp [hx])
    have hc := h c (by simp)
    unfold dgt at hc
    simp only [Bool.and_eq_true, decide_eq_true_eq] at hc
    rw [valF_cons, List.length_cons, Nat.pow_succ]
    refine Nat.lt_of_lt_of_le this ?_
    rw [Nat.mul_comm (10 ^ r.length) 10, ← Nat.mul_assoc]
    exact Nat.mul_le_mul_right _ (by omega)
def num (w : List UInt8) : Option Nat :=
  if w.length > 1 ∧ hdIs 48 w = true then none
  else if valF 0 w > 9223372036854775807 then none else some (valF 0 w)
theorem wu_id {n : Int} (h1 : 0 ≤ n) (h2 : n ≤ 18446744073709551615) : IntKind.wrap .u64 n = n := by rw [IntKind.wrap_u64]; omega
theorem w8_id {n : Int} (h1 : 0 ≤ n) (h2 : n ≤ 255) : IntKind.wrap .u8 n = n := by
  have : IntKind.wrap .u8 n = n % 256 := rfl
  rw [this]; omega
theorem put_ok5 (k n : Int) (s : Str) (f : Int) (text : Str) (a : Int) (out : List Token) (h : out.length ≤ 1000000) : lex_reader_put k n s f text a out = some (text, a, out ++ [⟨k, n, s, f, a⟩]) := by
  unfold lex_reader_put
  rw [if_pos (by unfold roomy; simp; omega)]
theorem numLoop_ok (f : Int) (w : Str) (hd : ∀ c ∈ w, dgt c = true) (hw : w.length ≤ 19) (text : Str) (a : Int) (out : List Token) (ho : out.length ≤ 1000000) : ∀ (k i v : Nat), i + k = w.length → v < 10 ^ i →
    lex_reader_number_L7 f w v w.length i text a out = some (if valF v (w.drop i) > 9223372036854775807 then (5, text, a, out) else (0, text, a, out ++ [⟨2, (valF v (w.drop i) : Int), [], f, a⟩])) := by
  intro k
  induction k with
  | zero =>
    intro i v hi hv
    rw [lex_reader_number_L7_eq]; unfold lex_reader_number_L7_B
    have h1 : w.drop i = [] := List.drop_eq_nil_of_le (by omega)
    rw [if_neg (by omega), h1, valF_nil]
    by_cases h : v > 9223372036854775807
    · rw [if_pos (by omega), if_pos h]
    · rw [if_neg (by omega), if_neg h, put_ok5 _ _ _ _ _ _ _ ho, some_bind, wi_id (by omega) (by omega)]
  | succ k ih =>
    intro i v hi hv
    have h3 : i < w.length := by omega
    rw [lex_reader_number_L7_eq]; unfold lex_reader_number_L7_B
    have hc := hd _ (List.getElem_mem h3)
    unfold dgt at hc
    simp only [Bool.and_eq_true, decide_eq_true_eq] at hc
    have hp : 10 ^ i ≤ 10 ^ 18 := Nat.pow_le_pow_right (by omega) (by omega)
    rw [if_pos (by omega), idx_lt h3, some_bind, List.drop_eq_getElem_cons h3, valF_cons]
    rw [show Int.ofNat (UInt8.toNat w[i]) = ((UInt8.toNat w[i] : Nat) : Int) from rfl]
    rw [w8_id (by omega) (by omega), wu_id (n := ((UInt8.toNat w[i] : Nat) : Int) - 48) (by omega) (by omega), wu_id (n := (v : Int) * 10) (by omega) (by omega), wu_id (by omega) (by omega), wi_id (by omega) (by omega), succ_cast]
    rw [show (v : Int) * 10 + (((UInt8.toNat w[i] : Nat) : Int) - 48) = ((v * 10 + (w[i].toNat - 48) : Nat) : Int) by omega]
    exact ih (i + 1) _ (by omega) (by rw [Nat.pow_succ]; omega)
def singles : List Nat := [123, 125, 40, 41, 91, 93, 44, 59, 58, 46, 43, 45, 42, 47, 37, 64]
def sgn (c d : Nat) : Nat :=
  if c = 61 ∨ c = 33 ∨ c = 60 ∨ c = 62 then (if d = 61 then 2 else 1)
  else if c = 38 ∨ c = 124 then (if d = c then 2 else 0)
  else if singles.contains c then 1 else 0
theorem chainS (c : Nat) : ∀ l : List Nat, (l.foldr (fun (w : Nat) acc => if (c : Int) = (w : Int) then some (1 : Int) else acc) (some 0)) = some (((if l.contains c then 1 else 0 : Nat)) : Int)
  | [] => rfl
  | w :: r => by
    rw [List.foldr_cons, chainS c r, List.contains_cons]
    by_cases h : (c : Int) = (w : Int)
    · rw [if_pos h]
      have : c = w := by omega
      subst this; simp
    · rw [if_neg h]
      have : (c == w) = false := by simp; omega
      rw [this]; simp
theorem signAt_ok (c d : Nat) : lex_signAt (c : Int) (d : Int) = some ((sgn c d : Nat) : Int) := by
  have hs := chainS c singles
  unfold lex_signAt sgn
  have two : ∀ k : Nat, c = k → (k = 61 ∨ k = 33 ∨ k = 60 ∨ k = 62) → (if (d : Int) = 61 then some (2 : Int) else some 1) = some ((if c = 61 ∨ c = 33 ∨ c = 60 ∨ c = 62 then (if d = 61 then 2 else 1) else if c = 38 ∨ c = 124 then (if d = c then 2 else 0) else if singles.contains c = true then 1 else 0 : Nat) : Int) := fun k hk h => by
    rw [if_pos (show c = 61 ∨ c = 33 ∨ c = 60 ∨ c = 62 by omega)]
    by_cases h2 : d = 61
    · rw [if_pos (show (d : Int) = 61 by omega), if_pos h2]; rfl
    · rw [if_neg (show ¬ (d : Int) = 61 by omega), if_neg h2]; rfl
  have same : (c = 38 ∨ c = 124) → (if (d : Int) = (c : Int) then some (2 : Int) else some 0) = some ((if c = 61 ∨ c = 33 ∨ c = 60 ∨ c = 62 then (if d = 61 then 2 else 1) else if c = 38 ∨ c = 124 then (if d = c then 2 else 0) else if singles.contains c = true then 1 else 0 : Nat) : Int) := fun h => by
    rw [if_neg (show ¬ (c = 61 ∨ c = 33 ∨ c = 60 ∨ c = 62) by omega), if_pos h]
    by_cases h2 : d = c
    · rw [if_pos (show (d : Int) = (c : Int) by omega), if_pos h2]; rfl
    · rw [if_neg (show ¬ (d : Int) = (c : Int) by omega), if_neg h2]; rfl
  by_cases h61 : (c : Int) = 61
  · rw [if_pos h61]; exact two 61 (by omega) (by omega)
  rw [if_neg h61]
  by_cases h33 : (c : Int) = 33
  · rw [if_pos h33]; exact two 33 (by omega) (by omega)
  rw [if_neg h33]
  by_cases h60 : (c : Int) = 60
  · rw [if_pos h60]; exact two 60 (by omega) (by omega)
  rw [if_neg h60]
  by_cases h62 : (c : Int) = 62
  · rw [if_pos h62]; exact two 62 (by omega) (by omega)
  rw [if_neg h62]
  by_cases h38 : (c : Int) = 38
  · rw [if_pos h38]; exact same (by omega)
  rw [if_neg h38]
  by_cases h124 : (c : Int) = 124
  · rw [if_pos h124]; exact same (by omega)
  rw [if_neg h124, if_neg (show ¬ (c = 61 ∨ c = 33 ∨ c = 60 ∨ c = 62) by omega), if_neg (show ¬ (c = 38 ∨ c = 124) by omega)]
  exact hs
def hd0 : List UInt8 → Nat
  | d :: _ => d.toNat
  | [] => 0
def one : List UInt8 → Int ⊕ (Int × Int × Str × Nat)
  | [] => .inl 0
  | c :: r =>
    if ltr c = true then (if tw mor (c :: r) > 16 then .inl 3 else .inr (if isW ((c :: r).take (tw mor (c :: r))) = true then 3 else 1, 0, (c :: r).take (tw mor (c :: r)), tw mor (c :: r)))
    else if dgt c = true then (match num ((c :: r).take (tw dgt (c :: r))) with | none => .inl 5 | some n => .inr (2, (n : Int), [], tw dgt (c :: r)))
    else if sgn c.toNat (hd0 r) = 0 then .inl 4 else .inr (4, 0, (c :: r).take (sgn c.toNat (hd0 r)), sgn c.toNat (hd0 r))
theorem sgn_len (c : UInt8) (r : List UInt8) : sgn c.toNat (hd0 r) ≤ (c :: r).length := by
  cases r with
  | nil =>
    unfold sgn hd0
    simp only [List.length_cons, List.length_nil]
    split
    · simp
    · split
      · rw [if_neg (by omega)]; omega
      · split <;> omega
  | cons d r =>
    unfold sgn
    simp only [List.length_cons]
    split
    · split <;> omega
    · split
      · split <;> omega
      · split <;> omega
theorem one_len : ∀ {s : List UInt8} {k n : Int} {t : Str} {l : Nat}, one s = .inr (k, n, t, l) → 1 ≤ l ∧ l ≤ s.length
  | [], _, _, _, _, h => by simp [one] at h
  | c :: r, k, n, t, l, h => by
    rw [one] at h
    by_cases h1 : ltr c = true
    · rw [if_pos h1] at h
      have hm : mor c = true := by unfold mor; rw [h1]; rfl
      by_cases h2 : tw mor (c :: r) > 16
      · rw [if_pos h2] at h; cases h
      · rw [if_neg h2] at h
        injection h with h; injection h with _ h; injection h with _ h; injection h with _ h
        subst h
        refine ⟨?_, tw_le _ _⟩
        rw [tw, if_pos hm]; omega
    · rw [if_neg h1] at h
      by_cases h2 : dgt c = true
      · rw [if_pos h2] at h
        cases hn : num ((c :: r).take (tw dgt (c :: r))) with
        | none => rw [hn] at h; cases h
        | some m =>
          rw [hn] at h
          injection h with h; injection h with _ h; injection h with _ h; injection h with _ h
          subst h
          refine ⟨?_, tw_le _ _⟩
          rw [tw, if_pos h2]; omega
      · rw [if_neg h2] at h
        by_cases h3 : sgn c.toNat (hd0 r) = 0
        · rw [if_pos h3] at h; cases h
        · rw [if_neg h3] at h
          injection h with h; injection h with _ h; injection h with _ h; injection h with _ h
          subst h
          exact ⟨by omega, sgn_len c r⟩
theorem slice_eq (text : List UInt8) (a n : Nat) : (text.take (a + n)).drop a = (text.drop a).take n := by
  rw [List.drop_take]; congr 1; omega
theorem peekd_ok (text : Str) (hl : text.length ≤ 1000000) (a : Nat) (ha : a ≤ text.length) (out : List Token) : lex_reader_peek 1 text a out = some ((hd0 (text.drop (a + 1)) : Nat) : Int) := by
  rw [(peek_ok text hl a out).resolve_right (by omega)]
  cases text.drop (a + 1) <;> rfl
theorem one_ok (text : Str) (hl : text.length ≤ 1000000) (a : Nat) (ha : a < text.length) (out : List Token) (ho : out.length ≤ 1000000) :
    (∃ k n s l, one (text.drop a) = .inr (k, n, s, l) ∧ lex_reader_one text a out = some (0, text, ((a + l : Nat) : Int), out ++ [⟨k, n, s, a, ((a + l : Nat) : Int)⟩])) ∨
    (∃ e a', one (text.drop a) = .inl e ∧ e ≠ 0 ∧ lex_reader_one text a out = some (e, text, a', out)) := by
  have hd := List.drop_eq_getElem_cons ha
  unfold lex_reader_one
  rw [idx_lt ha, some_bind, ltr_ok, some_bind]
  have hle := tw_le mor (text.drop a)
  have hle2 := tw_le dgt (text.drop a)
  rw [List.length_drop] at hle hle2
  cases h1 : ltr text[a] with
  | true =>
    simp only [if_true]
    unfold lex_reader_word lex_reader_run_reader_isMore
    rw [runMore_ok text hl out a (text.length - a) a (by omega) (by omega), some_bind, slice_eq]
    simp only []
    have hlen : ((text.drop a).take (tw mor (text.drop a))).length = tw mor (text.drop a) := by rw [List.length_take, List.length_drop]; omega
    have hone : one (text.drop a) = if tw mor (text.drop a) > 16 then .inl 3 else .inr (if isW ((text.drop a).take (tw mor (text.drop a))) = true then 3 else 1, 0, (text.drop a).take (tw mor (text.drop a)), tw mor (text.drop a)) := by
      conv => lhs; rw [hd, one, if_pos h1, ← hd]
    rw [hlen, hone]
    by_cases h2 : tw mor (text.drop a) > 16
    · rw [if_pos h2, if_pos (show ((tw mor (List.drop a text) : Nat) : Int) > 16 by omega)]
      exact .inr ⟨3, _, rfl, by decide, rfl⟩
    · rw [if_neg h2, if_neg (show ¬ ((tw mor (List.drop a text) : Nat) : Int) > 16 by omega), word_ok, some_bind]
      left
      cases isW ((text.drop a).take (tw mor (text.drop a))) with
      | true =>
        simp only [if_true]
        rw [put_ok5 _ _ _ _ _ _ _ ho, some_bind, some_bind]
        exact ⟨3, 0, _, _, rfl, rfl⟩
      | false =>
        simp only [Bool.false_eq_true, if_false]
        rw [put_ok5 _ _ _ _ _ _ _ ho, some_bind, some_bind]
        exact ⟨1, 0, _, _, rfl, rfl⟩
  | false =>
    simp only [Bool.false_eq_true, if_false]
    rw [dgt_ok, some_bind]
    cases h2 : dgt text[a] with
    | true =>
      simp only [if_true]
      unfold lex_reader_number lex_reader_run_reader_isDigit
      rw [runDigit_ok text hl out a (text.length - a) a (by omega) (by omega), some_bind, slice_eq]
      simp only []
      have hlen : ((text.drop a).take (tw dgt (text.drop a))).length = tw dgt (text.drop a) := by rw [List.length_take, List.length_drop]; omega
      have hall := tw_all dgt (text.drop a)
      have hone : one (text.drop a) = match num ((text.drop a).take (tw dgt (text.drop a))) with | none => .inl 5 | some n => .inr (2, (n : Int), [], tw dgt (text.drop a)) := by
        conv => lhs; rw [hd, one, if_neg (by rw [h1]; simp), if_pos h2, ← hd]
      have hpos : 1 ≤ tw dgt (text.drop a) := by rw [tw_drop _ ha, if_pos h2]; omega
      rw [hone]
      generalize hw : (text.drop a).take (tw dgt (text.drop a)) = w at *
      have tl : w.length ≤ 19 → (lex_reader_number_L7 (a : Int) w 0 w.length 0 text ((a + tw dgt (text.drop a) : Nat) : Int) out) = some (if valF 0 w > 9223372036854775807 then (5, text, ((a + tw dgt (text.drop a) : Nat) : Int), out) else (0, text, ((a + tw dgt (text.drop a) : Nat) : Int), out ++ [⟨2, (valF 0 w : Int), [], (a : Int), ((a + tw dgt (text.drop a) : Nat) : Int)⟩])) := fun h19 => by
        have := numLoop_ok (a : Int) w hall h19 text ((a + tw dgt (text.drop a) : Nat) : Int) out ho w.length 0 0 (by omega) (by omega)
        simpa using this
      by_cases h19 : (List.length w : Int) > 19
      · rw [if_pos h19]
        right
        have hnum : num w = none := by
          unfold num
          by_cases hz : w.length > 1 ∧ hdIs 48 w = true
          · rw [if_pos hz]
          · rw [if_neg hz, if_pos ?_]
            cases w with
            | nil => simp at h19
            | cons x q =>
              have hx : x.toNat ≠ 48 := fun e => hz ⟨by omega, by simp [hdIs, e]⟩
              have hdx := hall x (by simp)
              unfold dgt at hdx
              simp only [Bool.and_eq_true, decide_eq_true_eq] at hdx
              have hlow := valF_low q (0 * 10 + (x.toNat - 48))
              rw [valF_cons]
              have hq : 19 ≤ q.length := by simp at h19; omega
              have hp : 10 ^ 19 ≤ 10 ^ q.length := Nat.pow_le_pow_right (by omega) hq
              have : 1 * 10 ^ q.length ≤ (0 * 10 + (x.toNat - 48)) * 10 ^ q.length := Nat.mul_le_mul_right _ (by omega)
              omega
        rw [hnum]
        exact ⟨5, _, rfl, by decide, rfl⟩
      · rw [if_neg h19]
        have fin : ¬ (w.length > 1 ∧ hdIs 48 w = true) → (∃ k n s l, (match num w with | none => (.inl 5 : Int ⊕ (Int × Int × Str × Nat)) | some n => .inr (2, (n : Int), [], tw dgt (text.drop a))) = .inr (k, n, s, l) ∧
            (lex_reader_number_L7 (a : Int) w 0 w.length 0 text ((a + tw dgt (text.drop a) : Nat) : Int) out >>= fun q4 => some (q4.1, q4.2.1, q4.2.2.1, q4.2.2.2)) = some (0, text, ((a + l : Nat) : Int), out ++ [⟨k, n, s, (a : Int), ((a + l : Nat) : Int)⟩])) ∨
            (∃ e a', (match num w with | none => (.inl 5 : Int ⊕ (Int × Int × Str × Nat)) | some n => .inr (2, (n : Int), [], tw dgt (text.drop a))) = .inl e ∧ e ≠ 0 ∧ (lex_reader_number_L7 (a : Int) w 0 w.length 0 text ((a + tw dgt (text.drop a) : Nat) : Int) out >>= fun q4 => some (q4.1, q4.2.1, q4.2.2.1, q4.2.2.2)) = some (e, text, a', out)) := fun hz => by
          rw [tl (by omega), some_bind]
          unfold num
          rw [if_neg hz]
          by_cases hv : valF 0 w > 9223372036854775807
          · rw [if_pos hv, if_pos hv]; exact .inr ⟨5, _, rfl, by decide, rfl⟩
          · rw [if_neg hv, if_neg hv]; exact .inl ⟨2, _, _, _, rfl, rfl⟩
        by_cases hl1 : (List.length w : Int) > 1
        · rw [if_pos hl1]
          cases w with
          | nil => simp at hl1
          | cons x q =>
            rw [idx_zero]
            simp only [List.getElem?_cons_zero, some_bind, show (48 : Int) = ((48 : Nat) : Int) from rfl, u8_int]
            by_cases h48 : x.toNat = 48
            · rw [if_pos h48]
              right
              have : num (x :: q) = none := by unfold num; rw [if_pos ⟨by omega, by simp [hdIs, h48]⟩]
              rw [this]
              exact ⟨5, _, rfl, by decide, rfl⟩
            · rw [if_neg h48]
              exact fin (by simp [hdIs, h48])
        · rw [if_neg hl1]
          exact fin (by omega)
    | false =>
      simp only [Bool.false_eq_true, if_false]
      have hone : one (text.drop a) = if sgn text[a].toNat (hd0 (text.drop (a + 1))) = 0 then .inl 4 else .inr (4, 0, (text.drop a).take (sgn text[a].toNat (hd0 (text.drop (a + 1)))), sgn text[a].toNat (hd0 (text.drop (a + 1)))) := by
        conv => lhs; rw [hd, one, if_neg (by rw [h1]; simp), if_neg (by rw [h2]; simp), ← hd]
      have hsl := sgn_len text[a] (text.drop (a + 1))
      rw [← hd, List.length_drop] at hsl
      rw [peekd_ok text hl a (by omega), some_bind]
      rw [show Int.ofNat (UInt8.toNat text[a]) = ((UInt8.toNat text[a] : Nat) : Int) from rfl, signAt_ok, some_bind, hone]
      by_cases h3 : sgn text[a].toNat (hd0 (text.drop (a + 1))) = 0
      · rw [if_pos h3, if_pos (show ((sgn text[a].toNat (hd0 (text.drop (a + 1))) : Nat) : Int) = 0 by omega)]
        exact .inr ⟨4, _, rfl, by decide, rfl⟩
      · rw [if_neg h3, if_neg (show ¬ ((sgn text[a].toNat (hd0 (text.drop (a + 1))) : Nat) : Int) = 0 by omega)]
        left
        generalize sgn text[a].toNat (hd0 (text.drop (a + 1))) = g at *
        rw [wi_id (by omega) (by omega), show (a : Int) + (g : Int) = ((a + g : Nat) : Int) by omega, chk4 (by omega) (by omega)]
        rw [show Int.toNat ((a + g : Nat) : Int) = a + g from rfl, show Int.toNat (a : Int) = a from rfl, slice_eq, put_ok5 _ _ _ _ _ _ _ ho, some_bind]
        exact ⟨4, 0, _, _, rfl, rfl⟩
def toks : Nat → List UInt8 → Nat → List Token → List Token × Int × Int
  | 0, _, _, _ => ([], 0, 0)
  | n + 1, s, a, out => match s with
    | [] => (out ++ [⟨5, 0, [], a, a⟩], 0, 0)
    | c :: r => match one (c :: r) with
      | .inl e => ([], a, e)
      | .inr (k, m, t, l) => toks n (((c :: r).drop l).drop (nxt 10000 ((c :: r).drop l))) (a + l + nxt 10000 ((c :: r).drop l)) (out ++ [⟨k, m, t, a, ((a + l : Nat) : Int)⟩])
theorem toks_ok (text : Str) (hl : text.length ≤ 9000) : ∀ (n a : Nat) (out : List Token), text.length < a + n → a ≤ text.length → out.length ≤ a →
    lex_Tokens_L5 text text a out = some (toks n (text.drop a) a out) := by
  intro n
  induction n with
  | zero => intro a out h1 h2; omega
  | succ n ih =>
    intro a out h1 h2 ho
    rw [lex_Tokens_L5_eq]; unfold lex_Tokens_L5_B
    by_cases ha : a < text.length
    · have hd := List.drop_eq_getElem_cons ha
      rw [if_pos (show (a : Int) < (List.length text : Int) by omega)]
      have ht : toks (n + 1) (text.drop a) a out = match one (text.drop a) with
        | .inl e => ([], (a : Int), e)
        | .inr (k, m, t, l) => toks n (((text.drop a).drop l).drop (nxt 10000 ((text.drop a).drop l))) (a + l + nxt 10000 ((text.drop a).drop l)) (out ++ [⟨k, m, t, a, ((a + l : Nat) : Int)⟩]) := by
        rw [hd, toks]
      rw [ht]
      rcases one_ok text (by omega) a ha out (by omega) with ⟨k, m, t, l, e1, e2⟩ | ⟨e, a', e1, e0, e2⟩
      · have hlen := one_len e1
        rw [List.length_drop] at hlen
        rw [e1, e2, some_bind]
        simp only []
        rw [if_pos True.intro]
        unfold lex_reader_skip
        have hle := nxt_le 10000 (text.drop (a + l))
        rw [List.length_drop] at hle
        rw [skip_ok text (by omega) _ 10000 (a + l) (by omega) (by omega), some_bind, show (text.drop a).drop l = text.drop (a + l) from List.drop_drop .., List.drop_drop (l := text)]
        exact ih (a + l + nxt 10000 (text.drop (a + l))) (out ++ [(⟨k, m, t, a, ((a + l : Nat) : Int)⟩ : Token)]) (by omega) (by omega) (by simp only [List.length_append, List.length_cons, List.length_nil]; omega)
      · rw [e1, e2, some_bind]
        simp only []
        rw [if_neg e0]
    · have h4 : text.drop a = [] := List.drop_eq_nil_of_le (by omega)
      have h5 : a = text.length := by omega
      rw [if_neg (show ¬ (a : Int) < (List.length text : Int) by omega), h4, toks]
      rw [put_ok5 _ _ _ _ _ _ _ (by omega), some_bind]
def lexes (text : Str) : List Token × Int × Int := if text.length > 8192 then ([], 0, 3) else toks 10000 (text.drop (nxt 10000 text)) (nxt 10000 text) []
theorem tokens_ok (text : Str) (h : text.length ≤ 9223372036854775807) : lex_Tokens text = some (lexes text) := by
  unfold lex_Tokens lexes
  by_cases h1 : (List.length text : Int) > 8192
  · rw [if_pos h1, if_pos (show text.length > 8192 by omega)]
  · rw [if_neg h1, if_neg (show ¬ text.length > 8192 by omega)]
    unfold lex_reader_skip
    have hle := nxt_le 10000 text
    have e2 := skip_ok text (by omega) [] 10000 0 (by omega) (by omega)
    rw [show ((0 : Nat) : Int) = 0 from rfl, List.drop_zero, Nat.zero_add] at e2
    rw [e2, some_bind]
    exact toks_ok text (by omega) 10000 (nxt 10000 text) [] (by omega) (by omega) (by simp)
def Ord : Nat → List Token → Prop
  | _, [] => False
  | a, x :: r => ∃ f t : Nat, x.From = (f : Int) ∧ x.To = (t : Int) ∧ a ≤ f ∧ f ≤ t ∧ ((r = [] ∧ x.K = 5) ∨ (x.K ≠ 5 ∧ Ord t r))
theorem Ord.mono {a b : Nat} (h : b ≤ a) : ∀ {l : List Token}, Ord a l → Ord b l
  | [], h => h
  | x :: r, ⟨f, t, h1, h2, h3, h4⟩ => ⟨f, t, h1, h2, by omega, h4⟩
theorem one_kind {s : List UInt8} {k n : Int} {t : Str} {l : Nat} (h : one s = .inr (k, n, t, l)) : k ≠ 5 := by
  cases s with
  | nil => simp [one] at h
  | cons c r =>
    rw [one] at h
    by_cases h1 : ltr c = true
    · rw [if_pos h1] at h
      by_cases h2 : tw mor (c :: r) > 16
      · rw [if_pos h2] at h; cases h
      · rw [if_neg h2] at h
        injection h with h; injection h with h _
        rw [← h]; split <;> decide
    · rw [if_neg h1] at h
      by_cases h2 : dgt c = true
      · rw [if_pos h2] at h
        cases hn : num ((c :: r).take (tw dgt (c :: r))) with
        | none => rw [hn] at h; cases h
        | some m => rw [hn] at h; injection h with h; injection h with h _; rw [← h]; decide
      · rw [if_neg h2] at h
        by_cases h3 : sgn c.toNat (hd0 r) = 0
        · rw [if_pos h3] at h; cases h
        · rw [if_neg h3] at h; injection h with h; injection h with h _; rw [← h]; decide
theorem toks_ord (text : List UInt8) : ∀ (n a : Nat) (out : List Token), text.length < a + n → a ≤ text.length → (toks n (text.drop a) a out).2.2 = 0 → ∃ r, (toks n (text.drop a) a out).1 = out ++ r ∧ Ord a r := by
  intro n
  induction n with
  | zero => intro a out h1 h2; omega
  | succ n ih =>
    intro a out h1 h2 he
    by_cases ha : a < text.length
    · have hd := List.drop_eq_getElem_cons ha
      have ht : toks (n + 1) (text.drop a) a out = match one (text.drop a) with
        | .inl e => ([], (a : Int), e)
        | .inr (k, m, t, l) => toks n (((text.drop a).drop l).drop (nxt 10000 ((text.drop a).drop l))) (a + l + nxt 10000 ((text.drop a).drop l)) (out ++ [⟨k, m, t, a, ((a + l : Nat) : Int)⟩]) := by
        rw [hd, toks]
      rw [ht] at he ⊢
      cases ho : one (text.drop a) with
      | inl e =>
        rw [ho] at he
        exfalso
        have he2 : e = 0 := he
        rw [hd] at ho
        rw [one] at ho
        subst he2
        revert ho
        repeat' split
        all_goals (intro ho; first | (injection ho with ho; omega) | cases ho)
      | inr q =>
        obtain ⟨k, m, t, l⟩ := q
        rw [ho] at he
        dsimp only at he ⊢
        have hlen := one_len ho
        rw [List.length_drop] at hlen
        have hle := nxt_le 10000 (text.drop (a + l))
        rw [List.length_drop] at hle
        rw [show (text.drop a).drop l = text.drop (a + l) from List.drop_drop .., List.drop_drop (l := text)] at he ⊢
        obtain ⟨r, e1, e2⟩ := ih (a + l + nxt 10000 (text.drop (a + l))) _ (by omega) (by omega) he
        exact ⟨⟨k, m, t, a, ((a + l : Nat) : Int)⟩ :: r, by rw [e1]; simp, a, a + l, rfl, rfl, Nat.le_refl _, by omega, .inr ⟨one_kind ho, e2.mono (by omega)⟩⟩
    · have h4 : text.drop a = [] := List.drop_eq_nil_of_le (by omega)
      have h5 : a = text.length := by omega
      rw [h4, toks]
      exact ⟨[⟨5, 0, [], a, a⟩], rfl, a, a, rfl, rfl, Nat.le_refl _, Nat.le_refl _, .inl ⟨rfl, rfl⟩⟩
theorem lexes_ord {text : Str} (h : (lexes text).2.2 = 0) : Ord 0 (lexes text).1 := by
  unfold lexes at h ⊢
  by_cases h1 : text.length > 8192
  · rw [if_pos h1] at h; cases h
  · rw [if_neg h1] at h ⊢
    have hle := nxt_le 10000 text
    obtain ⟨r, e1, e2⟩ := toks_ord text 10000 (nxt 10000 text) [] (by omega) (by omega) h
    rw [e1]; exact e2.mono (by omega)
theorem toks_bd (text : List UInt8) : ∀ (n a : Nat) (out : List Token), text.length < a + n → a ≤ text.length → (toks n (text.drop a) a out).2.2 = 0 → ∃ r, (toks n (text.drop a) a out).1 = out ++ r ∧ r.length + a ≤ text.length + 1 ∧ ∀ x ∈ r, x.To ≤ (text.length : Int) := by
  intro n
  induction n with
  | zero => intro a out h1 h2; omega
  | succ n ih =>
    intro a out h1 h2 he
    by_cases ha : a < text.length
    · have hd := List.drop_eq_getElem_cons ha
      have ht : toks (n + 1) (text.drop a) a out = match one (text.drop a) with
        | .inl e => ([], (a : Int), e)
        | .inr (k, m, t, l) => toks n (((text.drop a).drop l).drop (nxt 10000 ((text.drop a).drop l))) (a + l + nxt 10000 ((text.drop a).drop l)) (out ++ [⟨k, m, t, a, ((a + l : Nat) : Int)⟩]) := by
        rw [hd, toks]
      rw [ht] at he ⊢
      cases ho : one (text.drop a) with
      | inl e =>
        rw [ho] at he
        exfalso
        have he2 : e = 0 := he
        rw [hd] at ho
        rw [one] at ho
        subst he2
        revert ho
        repeat' split
        all_goals (intro ho; first | (injection ho with ho; omega) | cases ho)
      | inr q =>
        obtain ⟨k, m, t, l⟩ := q
        rw [ho] at he
        dsimp only at he ⊢
        have hlen := one_len ho
        rw [List.length_drop] at hlen
        have hle := nxt_le 10000 (text.drop (a + l))
        rw [List.length_drop] at hle
        rw [show (text.drop a).drop l = text.drop (a + l) from List.drop_drop .., List.drop_drop (l := text)] at he ⊢
        obtain ⟨r, e1, e2, e3⟩ := ih (a + l + nxt 10000 (text.drop (a + l))) _ (by omega) (by omega) he
        refine ⟨⟨k, m, t, a, ((a + l : Nat) : Int)⟩ :: r, by rw [e1]; simp, by simp only [List.length_cons]; omega, fun x hx => ?_⟩
        rcases List.mem_cons.1 hx with rfl | hx
        · show ((a + l : Nat) : Int) ≤ _; omega
        · exact e3 x hx
    · have h4 : text.drop a = [] := List.drop_eq_nil_of_le (by omega)
      have h5 : a = text.length := by omega
      rw [h4, toks]
      exact ⟨[⟨5, 0, [], a, a⟩], rfl, by simp only [List.length_cons, List.length_nil]; omega, fun x hx => by simp at hx; subst hx; show (a : Int) ≤ _; omega⟩
theorem lexes_bd {text : Str} (h : (lexes text).2.2 = 0) : (lexes text).1.length ≤ text.length + 1 ∧ ∀ x ∈ (lexes text).1, x.To ≤ (text.length : Int) := by
  unfold lexes at h ⊢
  by_cases h1 : text.length > 8192
  · rw [if_pos h1] at h; cases h
  · rw [if_neg h1] at h ⊢
    have hle := nxt_le 10000 text
    obtain ⟨r, e1, e2, e3⟩ := toks_bd text 10000 (nxt 10000 text) [] (by omega) (by omega) h
    rw [e1]; exact ⟨by rw [List.nil_append]; omega, by rw [List.nil_append]; exact e3⟩
end Go.Proofs.Ytelddjedpmfclaa.M
