/- Bytes, runs of bytes, words, signs, numbers: what the program's reader and the reference's questions come to. -/
import Derived.Test.YtdpecjiflalkmaaBase
namespace Go.Proofs.Ytdpecjiflalkmaa.M
open Go Nt
set_option linter.unusedVariables false
set_option linter.unusedSimpArgs false

def ltr (c : UInt8) : Bool := (decide (97 ≤ c.toNat) && decide (c.toNat ≤ 122)) || (decide (65 ≤ c.toNat) && decide (c.toNat ≤ 90)) || c.toNat == 95
def dgt (c : UInt8) : Bool := decide (48 ≤ c.toNat) && decide (c.toNat ≤ 57)
def mor (c : UInt8) : Bool := ltr c || dgt c
def lin (c : UInt8) : Bool := !(c.toNat == 10)
def blk (c : UInt8) : Bool := c.toNat == 32 || c.toNat == 9 || c.toNat == 10 || c.toNat == 13
theorem ltr_ok (c : UInt8) (t : Str) (a : Int) (o : List Token) : lex_reader_isLetter (Int.ofNat (UInt8.toNat c)) t a o = some (ltr c, t, a, o) := by
  unfold lex_reader_isLetter ltr
  generalize c.toNat = n
  rw [show Int.ofNat n = (n : Int) from rfl]
  repeat' split
  all_goals (simp only [Option.some.injEq, Prod.mk.injEq, and_true]; rw [Bool.eq_iff_iff]; simp; omega)
theorem dgt_ok (c : UInt8) (t : Str) (a : Int) (o : List Token) : lex_reader_isDigit (Int.ofNat (UInt8.toNat c)) t a o = some (dgt c, t, a, o) := by
  unfold lex_reader_isDigit dgt
  generalize c.toNat = n
  rw [show Int.ofNat n = (n : Int) from rfl]
  repeat' split
  all_goals (simp only [Option.some.injEq, Prod.mk.injEq, and_true]; rw [Bool.eq_iff_iff]; simp; omega)
theorem mor_ok (c : UInt8) (t : Str) (a : Int) (o : List Token) : lex_reader_isMore (Int.ofNat (UInt8.toNat c)) t a o = some (mor c, t, a, o) := by
  unfold lex_reader_isMore mor
  rw [ltr_ok, some_bind]
  cases ltr c with
  | true => rfl
  | false => rw [if_neg (by simp), dgt_ok, some_bind]; rfl
theorem lin_ok (c : UInt8) (t : Str) (a : Int) (o : List Token) : lex_reader_isLine (Int.ofNat (UInt8.toNat c)) t a o = some (lin c, t, a, o) := by
  unfold lex_reader_isLine lin
  generalize c.toNat = n
  rw [show Int.ofNat n = (n : Int) from rfl]
  simp only [Option.some.injEq, Prod.mk.injEq, and_true]; rw [Bool.eq_iff_iff]; simp; omega
theorem rltr_ok (c : UInt8) : ref05Letter (Int.ofNat (UInt8.toNat c)) = some (ltr c) := by
  unfold ref05Letter ltr
  generalize c.toNat = n
  rw [show Int.ofNat n = (n : Int) from rfl]
  repeat' split
  all_goals (simp only [Option.some.injEq]; rw [Bool.eq_iff_iff]; simp; omega)
theorem rdgt_ok (c : UInt8) : ref05Digit (Int.ofNat (UInt8.toNat c)) = some (dgt c) := by
  unfold ref05Digit dgt
  generalize c.toNat = n
  rw [show Int.ofNat n = (n : Int) from rfl]
  repeat' split
  all_goals (simp only [Option.some.injEq]; rw [Bool.eq_iff_iff]; simp; omega)
theorem rblk_ok (c : UInt8) : ref05Blank (Int.ofNat (UInt8.toNat c)) = some (blk c) := by
  unfold ref05Blank blk
  generalize c.toNat = n
  rw [show Int.ofNat n = (n : Int) from rfl]
  repeat' split
  all_goals (simp only [Option.some.injEq]; rw [Bool.eq_iff_iff]; simp; omega)
theorem u8_int (c : UInt8) (n : Nat) : (Int.ofNat (UInt8.toNat c) = (n : Int)) ↔ c.toNat = n := by
  rw [show Int.ofNat (UInt8.toNat c) = ((UInt8.toNat c : Nat) : Int) from rfl]; omega

/-- how many bytes from here on are of a kind -/
def tw (p : UInt8 → Bool) : List UInt8 → Nat
  | [] => 0
  | c :: r => if p c = true then tw p r + 1 else 0
theorem tw_le (p : UInt8 → Bool) (l : List UInt8) : tw p l ≤ l.length := by
  induction l with
  | nil => simp [tw]
  | cons c r ih => simp only [tw, List.length_cons]; split <;> omega
theorem tw_drop (p : UInt8 → Bool) {l : List UInt8} {i : Nat} (h : i < l.length) : tw p (l.drop i) = if p l[i] = true then tw p (l.drop (i + 1)) + 1 else 0 := by
  rw [List.drop_eq_getElem_cons h, tw]
theorem tw_all (p : UInt8 → Bool) : ∀ (l : List UInt8), ∀ c ∈ l.take (tw p l), p c = true
  | [], c, h => by simp [tw] at h
  | x :: r, c, h => by
    simp only [tw] at h
    split at h
    · rename_i hx
      rw [List.take_succ_cons] at h
      rcases List.mem_cons.1 h with rfl | h
      · exact hx
      · exact tw_all p r c h
    · simp at h
theorem chk4 {α : Type} {from_ at_ : Nat} {text : Str} {x : Option α} (h : at_ ≤ text.length) (hf : from_ ≤ at_) :
    (if (0 : Int) ≤ (at_ : Int) then (if Int.toNat (at_ : Int) ≤ List.length text then (if (0 : Int) ≤ (from_ : Int) then (if Int.toNat (from_ : Int) ≤ Int.toNat (at_ : Int) then x else none) else none) else none) else none) = x := by
  rw [if_pos (by omega), if_pos (by simpa using h), if_pos (by omega), if_pos (by simpa using hf)]
theorem runMore_ok (text : Str) (hl : text.length ≤ 1000000) (out : List Token) (f : Nat) : ∀ (k a : Nat), a + k = text.length → f ≤ a →
    lex_reader_run_reader_isMore_L2 f text a out = some ((text.take (a + tw mor (text.drop a))).drop f, text, ((a + tw mor (text.drop a) : Nat) : Int), out) := by
  intro k
  induction k with
  | zero =>
    intro a ha hf
    rw [lex_reader_run_reader_isMore_L2_eq]; unfold lex_reader_run_reader_isMore_L2_B
    have h1 : text.drop a = [] := List.drop_eq_nil_of_le (by omega)
    rw [if_neg (by omega), chk4 (by omega) hf, h1]; rfl
  | succ k ih =>
    intro a ha hf
    have hl2 : a < text.length := by omega
    rw [lex_reader_run_reader_isMore_L2_eq]; unfold lex_reader_run_reader_isMore_L2_B
    rw [if_pos (by omega), idx_lt hl2, some_bind, mor_ok, some_bind, tw_drop _ hl2]
    cases hm : mor text[a] with
    | true =>
      simp only [if_true]
      rw [wi_id (by omega) (by omega), succ_cast, ih (a + 1) (by omega) (by omega)]
      rw [show a + 1 + tw mor (List.drop (a + 1) text) = a + (tw mor (List.drop (a + 1) text) + 1) by omega]
    | false =>
      simp only [Bool.false_eq_true, if_false]
      rw [chk4 (by omega) hf]; rfl
theorem runDigit_ok (text : Str) (hl : text.length ≤ 1000000) (out : List Token) (f : Nat) : ∀ (k a : Nat), a + k = text.length → f ≤ a →
    lex_reader_run_reader_isDigit_L2 f text a out = some ((text.take (a + tw dgt (text.drop a))).drop f, text, ((a + tw dgt (text.drop a) : Nat) : Int), out) := by
  intro k
  induction k with
  | zero =>
    intro a ha hf
    rw [lex_reader_run_reader_isDigit_L2_eq]; unfold lex_reader_run_reader_isDigit_L2_B
    have h1 : text.drop a = [] := List.drop_eq_nil_of_le (by omega)
    rw [if_neg (by omega), chk4 (by omega) hf, h1]; rfl
  | succ k ih =>
    intro a ha hf
    have hl2 : a < text.length := by omega
    rw [lex_reader_run_reader_isDigit_L2_eq]; unfold lex_reader_run_reader_isDigit_L2_B
    rw [if_pos (by omega), idx_lt hl2, some_bind, dgt_ok, some_bind, tw_drop _ hl2]
    cases hm : dgt text[a] with
    | true =>
      simp only [if_true]
      rw [wi_id (by omega) (by omega), succ_cast, ih (a + 1) (by omega) (by omega)]
      rw [show a + 1 + tw dgt (List.drop (a + 1) text) = a + (tw dgt (List.drop (a + 1) text) + 1) by omega]
    | false =>
      simp only [Bool.false_eq_true, if_false]
      rw [chk4 (by omega) hf]; rfl
theorem runLine_ok (text : Str) (hl : text.length ≤ 1000000) (out : List Token) (f : Nat) : ∀ (k a : Nat), a + k = text.length → f ≤ a →
    lex_reader_run_reader_isLine_L2 f text a out = some ((text.take (a + tw lin (text.drop a))).drop f, text, ((a + tw lin (text.drop a) : Nat) : Int), out) := by
  intro k
  induction k with
  | zero =>
    intro a ha hf
    rw [lex_reader_run_reader_isLine_L2_eq]; unfold lex_reader_run_reader_isLine_L2_B
    have h1 : text.drop a = [] := List.drop_eq_nil_of_le (by omega)
    rw [if_neg (by omega), chk4 (by omega) hf, h1]; rfl
  | succ k ih =>
    intro a ha hf
    have hl2 : a < text.length := by omega
    rw [lex_reader_run_reader_isLine_L2_eq]; unfold lex_reader_run_reader_isLine_L2_B
    rw [if_pos (by omega), idx_lt hl2, some_bind, lin_ok, some_bind, tw_drop _ hl2]
    cases hm : lin text[a] with
    | true =>
      simp only [if_true]
      rw [wi_id (by omega) (by omega), succ_cast, ih (a + 1) (by omega) (by omega)]
      rw [show a + 1 + tw lin (List.drop (a + 1) text) = a + (tw lin (List.drop (a + 1) text) + 1) by omega]
    | false =>
      simp only [Bool.false_eq_true, if_false]
      rw [chk4 (by omega) hf]; rfl

/-! blanks and comments -/
/-- is this the first byte? -/
def hdIs (n : Nat) : List UInt8 → Bool
  | d :: _ => d.toNat == n
  | [] => false
/-- how many bytes blanks and comments are from here on -/
def nxt : Nat → List UInt8 → Nat
  | 0, _ => 0
  | _ + 1, [] => 0
  | n + 1, c :: r => if blk c = true then nxt n r + 1
    else if c.toNat = 47 ∧ hdIs 47 r = true then tw lin (c :: r) + nxt n ((c :: r).drop (tw lin (c :: r))) else 0
theorem peek_ok (text : Str) (hl : text.length ≤ 1000000) (a : Nat) (out : List Token) : lex_reader_peek 1 text a out = some (match text.drop (a + 1) with | d :: _ => Int.ofNat d.toNat | [] => 0, text, (a : Int), out) ∨ text.length < a := by
  by_cases h : text.length < a
  · exact .inr h
  left
  unfold lex_reader_peek
  rw [wi_id (by omega) (by omega), succ_cast]
  by_cases h2 : a + 1 < text.length
  · rw [if_pos (by omega), idx_lt h2, some_bind, List.drop_eq_getElem_cons h2]
  · rw [if_neg (by omega), List.drop_eq_nil_of_le (by omega)]
theorem nxt_le : ∀ (n : Nat) (l : List UInt8), nxt n l ≤ l.length
  | 0, l => by simp [nxt]
  | n + 1, [] => by simp [nxt]
  | n + 1, c :: r => by
    simp only [nxt]
    split
    · have := nxt_le n r; simp; omega
    · split
      · have := nxt_le n ((c :: r).drop (tw lin (c :: r)))
        have := tw_le lin (c :: r)
        rw [List.length_drop] at *
        omega
      · omega
theorem skip_ok (text : Str) (hl : text.length ≤ 1000000) (out : List Token) : ∀ (n a : Nat), text.length ≤ a + n → a ≤ text.length →
    lex_reader_skip_L0 text a out = some (text, ((a + nxt n (text.drop a) : Nat) : Int), out) := by
  intro n
  induction n with
  | zero =>
    intro a h1 h2
    rw [lex_reader_skip_L0_eq]; unfold lex_reader_skip_L0_B
    rw [if_neg (by omega)]; rfl
  | succ n ih =>
    intro a h1 h2
    rw [lex_reader_skip_L0_eq]; unfold lex_reader_skip_L0_B
    by_cases h3 : a < text.length
    · rw [if_pos (by omega), idx_lt h3, some_bind, wi_id (by omega) (by omega), succ_cast]
      have hd := List.drop_eq_getElem_cons h3
      simp only [show (32 : Int) = ((32 : Nat) : Int) from rfl, show (9 : Int) = ((9 : Nat) : Int) from rfl, show (10 : Int) = ((10 : Nat) : Int) from rfl, show (13 : Int) = ((13 : Nat) : Int) from rfl, show (47 : Int) = ((47 : Nat) : Int) from rfl, u8_int]
      by_cases hb : blk text[a] = true
      · have hgo : lex_reader_skip_L0 text ((a + 1 : Nat) : Int) out = some (text, ((a + nxt (n + 1) (text.drop a) : Nat) : Int), out) := by
          rw [ih (a + 1) (by omega) (by omega), hd, nxt, if_pos hb]
          rw [show a + 1 + nxt n (List.drop (a + 1) text) = a + (nxt n (List.drop (a + 1) text) + 1) by omega]
        unfold blk at hb
        simp only [Bool.or_eq_true, beq_iff_eq] at hb
        repeat' split
        all_goals first | exact hgo | omega
      · have hb' : blk text[a] = false := by simpa using hb
        have hb2 := hb'
        unfold blk at hb'
        simp only [Bool.or_eq_false_iff, beq_eq_false_iff_ne] at hb'
        rw [if_neg hb'.1.1.1, if_neg hb'.1.1.2, if_neg hb'.1.2, if_neg hb'.2]
        by_cases h47 : text[a].toNat = 47
        · rw [if_pos h47]
          have hp := (peek_ok text hl a out).resolve_right (by omega)
          rw [hp, some_bind]
          have hlin : lin text[a] = true := by unfold lin; simp [h47]
          have hrest : ∀ (hh : hdIs 47 (text.drop (a + 1)) = true), lex_reader_skip_L0 text ((a + tw lin (text.drop a) : Nat) : Int) out = some (text, ((a + nxt (n + 1) (text.drop a) : Nat) : Int), out) := fun hh => by
            have htw : 1 ≤ tw lin (text.drop a) := by rw [tw_drop _ h3, if_pos hlin]; omega
            have hle := tw_le lin (text.drop a)
            rw [List.length_drop] at hle
            rw [ih (a + tw lin (text.drop a)) (by omega) (by omega)]
            have e : nxt (n + 1) (text.drop a) = tw lin (text.drop a) + nxt n ((text.drop a).drop (tw lin (text.drop a))) := by
              conv => lhs; rw [hd, nxt, if_neg (by rw [hb2]; simp), if_pos ⟨h47, hh⟩, ← hd]
            rw [e, List.drop_drop, Nat.add_assoc]
          cases hr : text.drop (a + 1) with
          | nil =>
            simp only []
            rw [if_neg (by omega), hd, nxt, if_neg (by rw [hb2]; simp), if_neg (by rw [hr]; simp [hdIs])]; rfl
          | cons d r =>
            simp only [u8_int]
            by_cases hd47 : d.toNat = 47
            · rw [if_pos hd47]
              unfold lex_reader_run_reader_isLine
              rw [runLine_ok text hl out a (text.length - a) a (by omega) (by omega), some_bind]
              exact hrest (by rw [hr]; simp [hdIs, hd47])
            · rw [if_neg hd47, hd, nxt, if_neg (by rw [hb2]; simp), if_neg (by rw [hr]; simp [hdIs, hd47])]; rfl
        · rw [if_neg h47, hd, nxt, if_neg (by rw [hb2]; simp), if_neg (by simp [h47])]; rfl
    · have h4 : text.drop a = [] := List.drop_eq_nil_of_le (by omega)
      rw [if_neg (by omega), h4]; rfl
end Go.Proofs.Ytdpecjiflalkmaa.M
