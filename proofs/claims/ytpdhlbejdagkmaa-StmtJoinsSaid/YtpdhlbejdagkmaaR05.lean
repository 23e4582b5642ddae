/- The reference's tokens of a text. -/
import Derived.Test.YtpdhlbejdagkmaaBase
namespace Go.Proofs.Ytpdhlbejdagkmaa.M
open Go Nt
set_option linter.unusedVariables false
set_option linter.unusedSimpArgs false
def ltr (c : UInt8) : Bool := (decide (97 ≤ c.toNat) && decide (c.toNat ≤ 122)) || (decide (65 ≤ c.toNat) && decide (c.toNat ≤ 90)) || c.toNat == 95
def dgt (c : UInt8) : Bool := decide (48 ≤ c.toNat) && decide (c.toNat ≤ 57)
def mor (c : UInt8) : Bool := ltr c || dgt c
def lin (c : UInt8) : Bool := !(c.toNat == 10)
def blk (c : UInt8) : Bool := c.toNat == 32 || c.toNat == 9 || c.toNat == 10 || c.toNat == 13
theorem rltr_ok (c : UInt8) : ref05Letter (Int.ofNat (UInt8.toNat c)) = some (ltr c) := by
  unfold ref05Letter ltr
  generalize c.toNat = n
  rw [show Int.ofNat n = (n : Int) from rfl]
  repeat' split
  all_goals (simp only [Option.some.injEq]; rw [Bool.eq_iff_iff]; simp; omega)
theorem rdgt_ok (c : UInt8) : ref05Digit (Int.ofNat (UInt8.toNat c)) = some (dgt c) := by
  unfold ref05Digit dgt
  generalize c.toNat = n
  rw [show Int.ofNat n = (n : Int) from rfl]
  repeat' split
  all_goals (simp only [Option.some.injEq]; rw [Bool.eq_iff_iff]; simp; omega)
theorem rblk_ok (c : UInt8) : ref05Blank (Int.ofNat (UInt8.toNat c)) = some (blk c) := by
  unfold ref05Blank blk
  generalize c.toNat = n
  rw [show Int.ofNat n = (n : Int) from rfl]
  repeat' split
  all_goals (simp only [Option.some.injEq]; rw [Bool.eq_iff_iff]; simp; omega)
theorem u8_int (c : UInt8) (n : Nat) : (Int.ofNat (UInt8.toNat c) = (n : Int)) ↔ c.toNat = n := by
  rw [show Int.ofNat (UInt8.toNat c) = ((UInt8.toNat c : Nat) : Int) from rfl]; omega
/-- how many bytes from here on are of a kind -/
def tw (p : UInt8 → Bool) : List UInt8 → Nat
  | [] => 0
  | c :: r => if p c = true then tw p r + 1 else 0
theorem tw_le (p : UInt8 → Bool) (l : List UInt8) : tw p l ≤ l.length := by
  induction l with
  | nil => simp [tw]
  | cons c r ih => simp only [tw, List.length_cons]; split <;> omega
theorem tw_drop (p : UInt8 → Bool) {l : List UInt8} {i : Nat} (h : i < l.length) : tw p (l.drop i) = if p l[i] = true then tw p (l.drop (i + 1)) + 1 else 0 := by
  rw [List.drop_eq_getElem_cons h, tw]
theorem tw_all (p : UInt8 → Bool) : ∀ (l : List UInt8), ∀ c ∈ l.take (tw p l), p c = true
  | [], c, h => by simp [tw] at h
  | x :: r, c, h => by
    simp only [tw] at h
    split at h
    · rename_i hx
      rw [List.take_succ_cons] at h
      rcases List.mem_cons.1 h with rfl | h
      · exact hx
      · exact tw_all p r c h
    · simp at h
theorem chk4 {α : Type} {from_ at_ : Nat} {text : Str} {x : Option α} (h : at_ ≤ text.length) (hf : from_ ≤ at_) :
    (if (0 : Int) ≤ (at_ : Int) then (if Int.toNat (at_ : Int) ≤ List.length text then (if (0 : Int) ≤ (from_ : Int) then (if Int.toNat (from_ : Int) ≤ Int.toNat (at_ : Int) then x else none) else none) else none) else none) = x := by
  rw [if_pos (by omega), if_pos (by simpa using h), if_pos (by omega), if_pos (by simpa using hf)]
/-! blanks and comments -/
/-- is this the first byte? -/
def hdIs (n : Nat) : List UInt8 → Bool
  | d :: _ => d.toNat == n
  | [] => false
/-- how many bytes blanks and comments are from here on -/
def nxt : Nat → List UInt8 → Nat
  | 0, _ => 0
  | _ + 1, [] => 0
  | n + 1, c :: r => if blk c = true then nxt n r + 1
    else if c.toNat = 47 ∧ hdIs 47 r = true then tw lin (c :: r) + nxt n ((c :: r).drop (tw lin (c :: r))) else 0
theorem nxt_le : ∀ (n : Nat) (l : List UInt8), nxt n l ≤ l.length
  | 0, l => by simp [nxt]
  | n + 1, [] => by simp [nxt]
  | n + 1, c :: r => by
    simp only [nxt]
    split
    · have := nxt_le n r; simp; omega
    · split
      · have := nxt_le n ((c :: r).drop (tw lin (c :: r)))
        have := tw_le lin (c :: r)
        rw [List.length_drop] at *
        omega
      · omega
/-- does a text begin with another one? -/
def bg (s l : List UInt8) : Bool := l.take s.length == s
theorem begins_ok (text : Str) (hl : text.length ≤ 1000000) (a : Nat) (ha : a ≤ text.length) (s : Str) (hs : s.length ≤ 1000) : ref05Begins text a s = some (bg s (text.drop a)) := by
  unfold ref05Begins bg
  rw [wi_id (n := (List.length text : Int) - (a : Int)) (by omega) (by omega), wi_id (by omega) (by omega)]
  have hn : ((a : Int) + (List.length s : Int)).toNat = a + s.length := by omega
  by_cases h : (List.length s : Int) ≤ (List.length text : Int) - (a : Int)
  · rw [if_pos h, if_pos (by omega), if_pos (by omega), if_pos (by omega), if_pos (by omega), hn, show Int.toNat (a : Int) = a from rfl, List.drop_take]
    rw [show a + s.length - a = s.length by omega]
  · rw [if_neg h]
    congr 1; symm
    rw [beq_eq_false_iff_ne]
    intro e
    have := congrArg List.length e
    simp at this
    omega
theorem next_ok (text : Str) (hl : text.length ≤ 1000000) : ∀ (n a : Nat), text.length ≤ a + n → a ≤ text.length →
    ref05Next_L1 text a = some ((a + nxt n (text.drop a) : Nat) : Int) ∧ ∀ m, m ≤ n → a + tw lin (text.drop a) + m = text.length → text.length ≤ a + tw lin (text.drop a) + n →
      (ref05Next_L1 text ((a + tw lin (text.drop a) : Nat) : Int) = some ((a + tw lin (text.drop a) + nxt n (text.drop (a + tw lin (text.drop a))) : Nat) : Int) → True) := by
  intro n a h1 h2
  refine ⟨?_, fun _ _ _ _ _ => trivial⟩
  induction n generalizing a with
  | zero =>
    rw [ref05Next_L1_eq]; unfold ref05Next_L1_B
    rw [if_neg (by omega)]; rfl
  | succ n ih =>
    have line : ∀ (k b : Nat), b + k = text.length → ref05Next_L5 text b = ref05Next_L1 text ((b + tw lin (text.drop b) : Nat) : Int) := by
      intro k
      induction k with
      | zero =>
        intro b hb
        rw [ref05Next_L5_eq]; unfold ref05Next_L5_B
        rw [if_neg (by omega), List.drop_eq_nil_of_le (by omega)]; rfl
      | succ k ihk =>
        intro b hb
        have h3 : b < text.length := by omega
        rw [ref05Next_L5_eq]; unfold ref05Next_L5_B
        rw [if_pos (by omega), idx_lt h3, some_bind, tw_drop _ h3]
        simp only [show (10 : Int) = ((10 : Nat) : Int) from rfl, u8_int]
        by_cases h10 : text[b].toNat = 10
        · rw [if_pos h10]
          have : lin text[b] = false := by unfold lin; simp [h10]
          rw [this]; rfl
        · rw [if_neg h10, wi_id (by omega) (by omega), succ_cast, ihk (b + 1) (by omega)]
          have : lin text[b] = true := by unfold lin; simp [h10]
          rw [this, if_pos rfl, show b + 1 + tw lin (List.drop (b + 1) text) = b + (tw lin (List.drop (b + 1) text) + 1) by omega]
    rw [ref05Next_L1_eq]; unfold ref05Next_L1_B
    by_cases h3 : a < text.length
    · rw [if_pos (by omega), idx_lt h3, some_bind, rblk_ok, some_bind]
      have hd := List.drop_eq_getElem_cons h3
      cases hb : blk text[a] with
      | true =>
        rw [if_pos rfl, wi_id (by omega) (by omega), succ_cast, ih (a + 1) (by omega) (by omega), hd, nxt, if_pos hb]
        rw [show a + 1 + nxt n (List.drop (a + 1) text) = a + (nxt n (List.drop (a + 1) text) + 1) by omega]
      | false =>
        rw [if_neg (by simp), begins_ok text hl a (by omega) _ (by simp), some_bind, line (text.length - a) a (by omega)]
        have hbg : (bg [47, 47] (text.drop a) = true) ↔ (text[a].toNat = 47 ∧ hdIs 47 (text.drop (a + 1)) = true) := by
          rw [hd]
          unfold bg
          cases text.drop (a + 1) with
          | nil => simp [hdIs]
          | cons d r =>
            simp only [hdIs, List.length_cons, List.length_nil, List.take_succ_cons, List.take_zero, beq_iff_eq, List.cons.injEq, and_true]
            constructor
            · rintro ⟨h1, h2⟩; rw [h1, h2]; exact ⟨rfl, rfl⟩
            · rintro ⟨h1, h2⟩; exact ⟨UInt8.toNat_inj.1 (by rw [h1]; rfl), UInt8.toNat_inj.1 (by rw [h2]; rfl)⟩
        cases hg : bg [47, 47] (text.drop a) with
        | true =>
          have hh := hbg.1 hg
          have hlin : lin text[a] = true := by unfold lin; simp [hh.1]
          have htw : 1 ≤ tw lin (text.drop a) := by rw [tw_drop _ h3, if_pos hlin]; omega
          have hle := tw_le lin (text.drop a)
          rw [List.length_drop] at hle
          rw [if_pos rfl, ih (a + tw lin (text.drop a)) (by omega) (by omega)]
          have e : nxt (n + 1) (text.drop a) = tw lin (text.drop a) + nxt n ((text.drop a).drop (tw lin (text.drop a))) := by
            conv => lhs; rw [hd, nxt, if_neg (by rw [hb]; simp), if_pos hh, ← hd]
          rw [e, List.drop_drop, Nat.add_assoc]
        | false =>
          rw [if_neg (by simp), hd, nxt, if_neg (by rw [hb]; simp), if_neg (fun h => by rw [hbg.2 h] at hg; cases hg)]; rfl
    · have h4 : text.drop a = [] := List.drop_eq_nil_of_le (by omega)
      rw [if_neg (by omega), h4]; rfl
/-! words -/
def wordsL : List Str := [[114, 101, 99], [99, 111, 110, 115, 116], [118, 97, 114], [112, 117, 98], [102, 110], [105, 110, 116], [98, 111, 111, 108], [108, 101, 116], [105, 102], [101, 108, 115, 101], [119, 104, 105, 108, 101], [102, 111, 114], [116, 111], [112, 114, 105, 110, 116], [114, 101, 116, 117, 114, 110], [100, 111], [116, 114, 117, 101], [102, 97, 108, 115, 101], [114, 101, 97, 100], [110, 101, 119]]
def isW (s : Str) : Bool := wordsL.contains s
theorem chainW (s : Str) : ∀ l : List Str, (l.foldr (fun w acc => if s = w then some true else acc) (some false)) = some (l.contains s)
  | [] => rfl
  | w :: r => by
    rw [List.foldr_cons, chainW s r, List.contains_cons]
    by_cases h : s = w
    · rw [if_pos h, h]; simp
    · rw [if_neg h]
      have : (s == w) = false := by simpa using h
      rw [this]; rfl
theorem among_ok (s : Str) (all : List Str) (hl : all.length ≤ 1000) : ref05Among s all = some (all.contains s) := by
  have loop : ∀ (k i : Nat), i + k = all.length → ref05Among_L2 s all i = some ((all.drop i).contains s) := by
    intro k
    induction k with
    | zero =>
      intro i hi
      rw [ref05Among_L2_eq]; unfold ref05Among_L2_B
      rw [if_neg (by omega), List.drop_eq_nil_of_le (by omega)]; rfl
    | succ k ih =>
      intro i hi
      have h3 : i < all.length := by omega
      rw [ref05Among_L2_eq]; unfold ref05Among_L2_B
      rw [if_pos (by omega), idx_lt h3, some_bind, List.drop_eq_getElem_cons h3, List.contains_cons]
      by_cases h : all[i] = s
      · rw [if_pos h, h]; simp
      · rw [if_neg h, wi_id (by omega) (by omega), succ_cast, ih (i + 1) (by omega)]
        have : (s == all[i]) = false := by simpa using fun e => h e.symm
        rw [this]; rfl
  unfold ref05Among
  have := loop all.length 0 (by omega)
  simpa using this
theorem words_ok : ref05Words = some wordsL := rfl
/-! numbers -/
def valF (v : Nat) (l : List UInt8) : Nat := l.foldl (fun v c => v * 10 + (c.toNat - 48)) v
theorem valF_nil (v : Nat) : valF v [] = v := rfl
theorem valF_cons (v : Nat) (c : UInt8) (r : List UInt8) : valF v (c :: r) = valF (v * 10 + (c.toNat - 48)) r := by unfold valF; rw [List.foldl_cons]
theorem valF_ge : ∀ (l : List UInt8) (v : Nat), v ≤ valF v l
  | [], v => by rw [valF_nil]; exact Nat.le_refl _
  | c :: r, v => by have := valF_ge r (v * 10 + (c.toNat - 48)); rw [valF_cons]; omega
theorem valF_low : ∀ (l : List UInt8) (v : Nat), v * 10 ^ l.length ≤ valF v l
  | [], v => by rw [valF_nil]; simp
  | c :: r, v => by
    have := valF_low r (v * 10 + (c.toNat - 48))
    rw [valF_cons, List.length_cons, Nat.pow_succ]
    refine Nat.le_trans ?_ this
    rw [Nat.mul_comm (10 ^ r.length) 10, ← Nat.mul_assoc]
    exact Nat.mul_le_mul_right _ (by omega)
theorem valF_up : ∀ (l : List UInt8) (v : Nat), (∀ c ∈ l, dgt c = true) → valF v l < (v + 1) * 10 ^ l.length
  | [], v, _ => by rw [valF_nil]; simp
  | c :: r, v, h => by
    have := valF_up r (v * 10 + (c.toNat - 48)) fun x hx => h x (by simp [hx])
    have hc := h c (by simp)
    unfold dgt at hc
    simp only [Bool.and_eq_true, decide_eq_true_eq] at hc
    rw [valF_cons, List.length_cons, Nat.pow_succ]
    refine Nat.lt_of_lt_of_le this ?_
    rw [Nat.mul_comm (10 ^ r.length) 10, ← Nat.mul_assoc]
    exact Nat.mul_le_mul_right _ (by omega)
/-- what digits say; none: too large, or a nought too many -/
def num (w : List UInt8) : Option Nat :=
  if w.length > 1 ∧ hdIs 48 w = true then none
  else if valF 0 w > 9223372036854775807 then none else some (valF 0 w)
theorem wu_id {n : Int} (h1 : 0 ≤ n) (h2 : n ≤ 18446744073709551615) : IntKind.wrap .u64 n = n := by rw [IntKind.wrap_u64]; omega
theorem w8_id {n : Int} (h1 : 0 ≤ n) (h2 : n ≤ 255) : IntKind.wrap .u8 n = n := by
  have : IntKind.wrap .u8 n = n % 256 := rfl
  rw [this]; omega
theorem rnumLoop_ok (w : Str) (hd : ∀ c ∈ w, dgt c = true) (hw : w.length ≤ 1000000) : ∀ (k i v : Nat), i + k = w.length → v ≤ 9223372036854775807 →
    ref05Number_L5 w v i = some (if valF v (w.drop i) > 9223372036854775807 then (0, false) else ((valF v (w.drop i) : Int), true)) := by
  intro k
  induction k with
  | zero =>
    intro i v hi hv
    rw [ref05Number_L5_eq]; unfold ref05Number_L5_B
    have h1 : w.drop i = [] := List.drop_eq_nil_of_le (by omega)
    rw [if_neg (by omega), h1, valF_nil]
    rw [if_neg (by omega)]
  | succ k ih =>
    intro i v hi hv
    have h3 : i < w.length := by omega
    rw [ref05Number_L5_eq]; unfold ref05Number_L5_B
    have hc := hd _ (List.getElem_mem h3)
    unfold dgt at hc
    simp only [Bool.and_eq_true, decide_eq_true_eq] at hc
    rw [if_pos (by omega), idx_lt h3, some_bind, List.drop_eq_getElem_cons h3, valF_cons, if_pos (by decide)]
    rw [show Int.ofNat (UInt8.toNat w[i]) = ((UInt8.toNat w[i] : Nat) : Int) from rfl]
    generalize hcn : w[i].toNat = c at *
    have hge := valF_ge (w.drop (i + 1)) (v * 10 + (c - 48))
    rw [w8_id (by omega) (by omega), wi_id (n := (c : Int) - 48) (by omega) (by omega), wi_id (n := 9223372036854775807 - ((c : Int) - 48)) (by omega) (by omega), Int.tdiv_eq_ediv_of_nonneg (by omega), wi_id (n := (9223372036854775807 - ((c : Int) - 48)) / 10) (by omega) (by omega)]
    by_cases h : (v : Int) > (9223372036854775807 - ((c : Int) - 48)) / 10
    · rw [if_pos h, if_pos (by omega)]
    · rw [if_neg h, wi_id (n := (v : Int) * 10) (by omega) (by omega), wi_id (n := (v : Int) * 10 + _) (by omega) (by omega), wi_id (by omega) (by omega), succ_cast]
      rw [show (v : Int) * 10 + ((c : Int) - 48) = ((v * 10 + (c - 48) : Nat) : Int) by omega]
      exact ih (i + 1) _ (by omega) (by omega)
theorem rnum_ok (w : Str) (hd : ∀ c ∈ w, dgt c = true) (h0 : 0 < w.length) (hw : w.length ≤ 1000000) : ref05Number w = some (match num w with | some n => ((n : Int), true) | none => (0, false)) := by
  unfold ref05Number num
  rw [if_neg (by omega)]
  have hl := rnumLoop_ok w hd hw w.length 0 0 (by omega) (by omega)
  rw [show ((0 : Nat) : Int) = 0 from rfl, List.drop_zero] at hl
  have tl : ref05Number_L5 w 0 0 = some (match (if valF 0 w > 9223372036854775807 then none else some (valF 0 w) : Option Nat) with | some n => ((n : Int), true) | none => (0, false)) := by
    rw [hl]; split <;> rfl
  by_cases h1 : (List.length w : Int) > 1
  · rw [if_pos h1]
    cases w with
    | nil => simp at h0
    | cons c r =>
      rw [idx_zero]
      simp only [List.getElem?_cons_zero, some_bind, show (48 : Int) = ((48 : Nat) : Int) from rfl, u8_int]
      by_cases h48 : c.toNat = 48
      · rw [if_pos h48, if_pos ⟨by omega, by simp [hdIs, h48]⟩]
      · rw [if_neg h48, if_neg (by simp [hdIs, h48])]; exact tl
  · rw [if_neg h1, if_neg (by omega)]; exact tl
/-! signs -/
def singles : List Nat := [123, 125, 40, 41, 91, 93, 44, 59, 58, 46, 43, 45, 42, 47, 37, 64]
/-- how long the sign is that begins with these two bytes -/
def sgn (c d : Nat) : Nat :=
  if c = 61 ∨ c = 33 ∨ c = 60 ∨ c = 62 then (if d = 61 then 2 else 1)
  else if c = 38 ∨ c = 124 then (if d = c then 2 else 0)
  else if singles.contains c then 1 else 0
theorem chainS (c : Nat) : ∀ l : List Nat, (l.foldr (fun (w : Nat) acc => if (c : Int) = (w : Int) then some (1 : Int) else acc) (some 0)) = some (((if l.contains c then 1 else 0 : Nat)) : Int)
  | [] => rfl
  | w :: r => by
    rw [List.foldr_cons, chainS c r, List.contains_cons]
    by_cases h : (c : Int) = (w : Int)
    · rw [if_pos h]
      have : c = w := by omega
      subst this; simp
    · rw [if_neg h]
      have : (c == w) = false := by simp; omega
      rw [this]; simp
def signsL : List Str := [[61, 61], [33, 61], [60, 61], [62, 61], [38, 38], [124, 124], [123], [125], [40], [41], [91], [93], [44], [59], [58], [46], [61], [60], [62], [43], [45], [42], [47], [37], [33], [64]]
theorem signs_ok : ref05Signs = some signsL := rfl
theorem bg1 (a c : UInt8) (r : List UInt8) : bg [a] (c :: r) = (c == a) := by unfold bg; simp
theorem bg2 (a b c : UInt8) (r : List UInt8) : bg [a, b] (c :: r) = (c == a && (match r with | d :: _ => d == b | [] => false)) := by
  unfold bg
  cases r with
  | nil => simp
  | cons d r => simp
def hd0 : List UInt8 → Nat
  | d :: _ => d.toNat
  | [] => 0
theorem u8_lit (c : UInt8) (n : Nat) (hn : n < 256) : c = UInt8.ofNat n ↔ c.toNat = n := by
  constructor
  · rintro rfl; rw [UInt8.toNat_ofNat']; omega
  · intro h; apply UInt8.toNat_inj.1; rw [h, UInt8.toNat_ofNat']; omega
theorem find_sign (c : UInt8) (r : List UInt8) : (signsL.find? fun x => bg x (c :: r)).map List.length = if sgn c.toNat (hd0 r) = 0 then none else some (sgn c.toNat (hd0 r)) := by
  by_cases h61 : c = 61
  · subst h61
    cases r with
    | nil => decide
    | cons d r =>
      by_cases hd : d = 61
      · subst hd; simp [signsL, bg1, bg2, sgn, hd0]
      · have : d.toNat ≠ 61 := fun e => hd ((u8_lit d 61 (by omega)).2 e)
        simp [signsL, bg1, bg2, sgn, hd0, hd, this]
  by_cases h33 : c = 33
  · subst h33
    cases r with
    | nil => decide
    | cons d r =>
      by_cases hd : d = 61
      · subst hd; simp [signsL, bg1, bg2, sgn, hd0]
      · have : d.toNat ≠ 61 := fun e => hd ((u8_lit d 61 (by omega)).2 e)
        simp [signsL, bg1, bg2, sgn, hd0, hd, this]
  by_cases h60 : c = 60
  · subst h60
    cases r with
    | nil => decide
    | cons d r =>
      by_cases hd : d = 61
      · subst hd; simp [signsL, bg1, bg2, sgn, hd0]
      · have : d.toNat ≠ 61 := fun e => hd ((u8_lit d 61 (by omega)).2 e)
        simp [signsL, bg1, bg2, sgn, hd0, hd, this]
  by_cases h62 : c = 62
  · subst h62
    cases r with
    | nil => decide
    | cons d r =>
      by_cases hd : d = 61
      · subst hd; simp [signsL, bg1, bg2, sgn, hd0]
      · have : d.toNat ≠ 61 := fun e => hd ((u8_lit d 61 (by omega)).2 e)
        simp [signsL, bg1, bg2, sgn, hd0, hd, this]
  by_cases h38 : c = 38
  · subst h38
    cases r with
    | nil => decide
    | cons d r =>
      by_cases hd : d = 38
      · subst hd; simp [signsL, bg1, bg2, sgn, hd0]
      · have : d.toNat ≠ 38 := fun e => hd ((u8_lit d 38 (by omega)).2 e)
        simp [signsL, bg1, bg2, sgn, hd0, hd, this]
  by_cases h124 : c = 124
  · subst h124
    cases r with
    | nil => decide
    | cons d r =>
      by_cases hd : d = 124
      · subst hd; simp [signsL, bg1, bg2, sgn, hd0]
      · have : d.toNat ≠ 124 := fun e => hd ((u8_lit d 124 (by omega)).2 e)
        simp [signsL, bg1, bg2, sgn, hd0, hd, this]
  have n61 : c.toNat ≠ 61 := fun e => h61 ((u8_lit c 61 (by omega)).2 e)
  have n33 : c.toNat ≠ 33 := fun e => h33 ((u8_lit c 33 (by omega)).2 e)
  have n60 : c.toNat ≠ 60 := fun e => h60 ((u8_lit c 60 (by omega)).2 e)
  have n62 : c.toNat ≠ 62 := fun e => h62 ((u8_lit c 62 (by omega)).2 e)
  have n38 : c.toNat ≠ 38 := fun e => h38 ((u8_lit c 38 (by omega)).2 e)
  have n124 : c.toNat ≠ 124 := fun e => h124 ((u8_lit c 124 (by omega)).2 e)
  have hsg : sgn c.toNat (hd0 r) = if singles.contains c.toNat = true then 1 else 0 := by
    unfold sgn; rw [if_neg (by omega), if_neg (by omega)]
  rw [hsg]
  have e1 : ∀ k : UInt8, c ≠ k → (c == k) = false := fun k h => by simpa using h
  have key : ∀ (l : List UInt8), (∀ k ∈ l, True) → ((l.map fun k => [k]).find? fun x => bg x (c :: r)).map List.length = if (l.map UInt8.toNat).contains c.toNat = true then some 1 else none := by
    intro l
    induction l with
    | nil => intro _; rfl
    | cons k l ih =>
      intro _
      rw [List.map_cons, List.find?_cons, bg1, List.map_cons, List.contains_cons]
      by_cases hk : c = k
      · subst hk; simp
      · have h2 : ¬ c.toNat = k.toNat := fun e => hk (UInt8.toNat_inj.1 e)
        rw [e1 k hk]
        simp only [beq_eq_false_iff_ne.2 h2, Bool.false_or]
        exact ih (fun _ _ => trivial)
  have hl : (signsL.find? fun x => bg x (c :: r)) = (([123, 125, 40, 41, 91, 93, 44, 59, 58, 46, 43, 45, 42, 47, 37, 64] : List UInt8).map fun k => [k]).find? fun x => bg x (c :: r) := by
    simp only [signsL, List.map_cons, List.map_nil, List.find?_cons, bg1, bg2, e1 61 h61, e1 33 h33, e1 60 h60, e1 62 h62, e1 38 h38, e1 124 h124, Bool.false_and]
  rw [hl, key _ (fun _ _ => trivial)]
  have : ([123, 125, 40, 41, 91, 93, 44, 59, 58, 46, 43, 45, 42, 47, 37, 64] : List UInt8).map UInt8.toNat = singles := rfl
  rw [this]
  cases singles.contains c.toNat <;> rfl
theorem bg_take {s l : List UInt8} (h : bg s l = true) : s = l.take s.length := by unfold bg at h; exact (beq_iff_eq.1 h).symm
theorem signLoop_ok (text : Str) (hl : text.length ≤ 1000000) (a : Nat) (ha : a ≤ text.length) (o4 : Token) : ∀ (k i : Nat), i + k = signsL.length →
    ref05One_L21 text a signsL i o4 = some (match (signsL.drop i).find? fun x => bg x (text.drop a) with | some x => (⟨4, 0, x, a, ((a + x.length : Nat) : Int)⟩, 0) | none => (⟨0, 0, [], 0, 0⟩, 4)) := by
  intro k
  have hsz : ∀ x ∈ signsL, x.length ≤ 2 := by decide
  induction k with
  | zero =>
    intro i hi
    rw [ref05One_L21_eq]; unfold ref05One_L21_B
    rw [if_neg (by omega), List.drop_eq_nil_of_le (as := signsL) (by omega)]; rfl
  | succ k ih =>
    intro i hi
    have h3 : i < signsL.length := by omega
    have h4 := hsz _ (List.getElem_mem h3)
    have h5 : signsL.length = 26 := rfl
    rw [ref05One_L21_eq]; unfold ref05One_L21_B
    rw [if_pos (by omega), idx_lt h3, some_bind, begins_ok text hl a ha _ (by omega), some_bind, List.drop_eq_getElem_cons h3, List.find?_cons]
    cases hb : bg signsL[i] (text.drop a) with
    | true =>
      simp only [if_true]
      rw [some_bind, some_bind, wi_id (by omega) (by omega)]
      rfl
    | false =>
      rw [if_neg (by simp), wi_id (by omega) (by omega), succ_cast, ih (i + 1) (by omega)]
/-! a token -/
/-- the token that a text begins with, and how long it is; or what is wrong -/
def one : List UInt8 → Int ⊕ (Int × Int × Str × Nat)
  | [] => .inl 0
  | c :: r =>
    if ltr c = true then (if tw mor (c :: r) > 16 then .inl 3 else .inr (if isW ((c :: r).take (tw mor (c :: r))) = true then 3 else 1, 0, (c :: r).take (tw mor (c :: r)), tw mor (c :: r)))
    else if dgt c = true then (match num ((c :: r).take (tw dgt (c :: r))) with | none => .inl 5 | some n => .inr (2, (n : Int), [], tw dgt (c :: r)))
    else if sgn c.toNat (hd0 r) = 0 then .inl 4 else .inr (4, 0, (c :: r).take (sgn c.toNat (hd0 r)), sgn c.toNat (hd0 r))
theorem sgn_len (c : UInt8) (r : List UInt8) : sgn c.toNat (hd0 r) ≤ (c :: r).length := by
  cases r with
  | nil =>
    unfold sgn hd0
    simp only [List.length_cons, List.length_nil]
    split
    · simp
    · split
      · rw [if_neg (by omega)]; omega
      · split <;> omega
  | cons d r =>
    unfold sgn
    simp only [List.length_cons]
    split
    · split <;> omega
    · split
      · split <;> omega
      · split <;> omega
theorem one_len : ∀ {s : List UInt8} {k n : Int} {t : Str} {l : Nat}, one s = .inr (k, n, t, l) → 1 ≤ l ∧ l ≤ s.length
  | [], _, _, _, _, h => by simp [one] at h
  | c :: r, k, n, t, l, h => by
    rw [one] at h
    by_cases h1 : ltr c = true
    · rw [if_pos h1] at h
      have hm : mor c = true := by unfold mor; rw [h1]; rfl
      by_cases h2 : tw mor (c :: r) > 16
      · rw [if_pos h2] at h; cases h
      · rw [if_neg h2] at h
        injection h with h; injection h with _ h; injection h with _ h; injection h with _ h
        subst h
        refine ⟨?_, tw_le _ _⟩
        rw [tw, if_pos hm]; omega
    · rw [if_neg h1] at h
      by_cases h2 : dgt c = true
      · rw [if_pos h2] at h
        cases hn : num ((c :: r).take (tw dgt (c :: r))) with
        | none => rw [hn] at h; cases h
        | some m =>
          rw [hn] at h
          injection h with h; injection h with _ h; injection h with _ h; injection h with _ h
          subst h
          refine ⟨?_, tw_le _ _⟩
          rw [tw, if_pos h2]; omega
      · rw [if_neg h2] at h
        by_cases h3 : sgn c.toNat (hd0 r) = 0
        · rw [if_pos h3] at h; cases h
        · rw [if_neg h3] at h
          injection h with h; injection h with _ h; injection h with _ h; injection h with _ h
          subst h
          exact ⟨by omega, sgn_len c r⟩
theorem slice_eq (text : List UInt8) (a n : Nat) : (text.take (a + n)).drop a = (text.drop a).take n := by
  rw [List.drop_take]; congr 1; omega
def zTok : Token := ⟨0, 0, [], 0, 0⟩
def exitW (text : Str) (a e : Nat) : Token × Int :=
  if e - a > 16 then (zTok, 3) else (⟨if isW ((text.take e).drop a) = true then 3 else 1, 0, (text.take e).drop a, a, e⟩, 0)
theorem exitW_ok (text : Str) (hl : text.length ≤ 1000000) (a e : Nat) (h1 : a ≤ e) (h2 : e ≤ text.length) :
    (if (IntKind.wrap .i64 ((e : Int) - (a : Int))) > 16 then
    some ((Token.mk 0 0 ([] : List UInt8) 0 0), 3)
  else
  if (0 : Int) ≤ (e : Int) then
  if Int.toNat (e : Int) ≤ List.length text then
  if (0 : Int) ≤ (a : Int) then
  if Int.toNat (a : Int) ≤ Int.toNat (e : Int) then
  ref05Words >>= fun q5 =>
  ref05Among (List.drop (Int.toNat (a : Int)) (List.take (Int.toNat (e : Int)) text)) q5 >>= fun q6 =>
  if q6 = true then
    some ((Token.mk 3 0 (List.drop (Int.toNat (a : Int)) (List.take (Int.toNat (e : Int)) text)) a e), 0)
  else
  some ((Token.mk 1 0 (List.drop (Int.toNat (a : Int)) (List.take (Int.toNat (e : Int)) text)) a e), 0)
  else none
  else none
  else none
  else none) = some (exitW text a e) := by
  rw [wi_id (by omega) (by omega), chk4 h2 h1]
  unfold exitW
  by_cases h : (e : Int) - (a : Int) > 16
  · rw [if_pos h, if_pos (show e - a > 16 by omega)]; rfl
  · rw [if_neg h, if_neg (show ¬ e - a > 16 by omega), words_ok, some_bind, among_ok _ _ (by decide), some_bind]
    have : wordsL.contains (List.drop (Int.toNat (a : Int)) (List.take (Int.toNat (e : Int)) text)) = isW ((text.take e).drop a) := rfl
    rw [this]
    cases isW ((text.take e).drop a) <;> rfl
theorem refWord_ok (text : Str) (hl : text.length ≤ 1000000) (a : Nat) (o4 : Token) : ∀ (k b : Nat), b + k = text.length → a ≤ b → ref05One_L4 text a b o4 = some (exitW text a (b + tw mor (text.drop b))) := by
  intro k
  induction k with
  | zero =>
    intro b hb hab
    rw [ref05One_L4_eq]; unfold ref05One_L4_B
    rw [if_neg (show ¬ (b : Int) < (List.length text : Int) by omega), List.drop_eq_nil_of_le (as := text) (i := b) (by omega)]
    exact exitW_ok text hl a b hab (by omega)
  | succ k ih =>
    intro b hb hab
    have h3 : b < text.length := by omega
    rw [ref05One_L4_eq]; unfold ref05One_L4_B
    have hgo : mor text[b] = true → ref05One_L4 text a (IntKind.wrap .i64 ((b : Int) + 1)) o4 = some (exitW text a (b + tw mor (text.drop b))) := fun hm => by
      rw [wi_id (by omega) (by omega), succ_cast, ih (b + 1) (by omega) (by omega), tw_drop _ h3, if_pos hm, show b + 1 + tw mor (List.drop (b + 1) text) = b + (tw mor (List.drop (b + 1) text) + 1) by omega]
    rw [if_pos (show (b : Int) < (List.length text : Int) by omega), idx_lt h3, some_bind, rltr_ok, some_bind]
    cases h1 : ltr text[b] with
    | true => rw [if_pos rfl]; exact hgo (by unfold mor; rw [h1]; rfl)
    | false =>
      rw [if_neg (by simp), some_bind, rdgt_ok, some_bind]
      cases h2 : dgt text[b] with
      | true => rw [if_pos rfl]; exact hgo (by unfold mor; rw [h2]; simp)
      | false =>
        have hm : mor text[b] = false := by unfold mor; rw [h1, h2]; rfl
        rw [if_neg (by simp), tw_drop _ h3, hm]
        exact exitW_ok text hl a b hab (by omega)
def exitN (text : Str) (a e : Nat) : Token × Int :=
  match num ((text.take e).drop a) with
  | some n => (⟨2, n, [], a, e⟩, 0)
  | none => (zTok, 5)
theorem exitN_ok (text : Str) (hl : text.length ≤ 1000000) (a e : Nat) (h1 : a < e) (h2 : e ≤ text.length) (hd : ∀ c ∈ (text.take e).drop a, dgt c = true) :
    (if (0 : Int) ≤ (e : Int) then
  if Int.toNat (e : Int) ≤ List.length text then
  if (0 : Int) ≤ (a : Int) then
  if Int.toNat (a : Int) ≤ Int.toNat (e : Int) then
  ref05Number (List.drop (Int.toNat (a : Int)) (List.take (Int.toNat (e : Int)) text)) >>= fun q3 =>
  if q3.2 = true then
    some ((Token.mk 2 q3.1 ([] : List UInt8) a e), 0)
  else
  some ((Token.mk 0 0 ([] : List UInt8) 0 0), 5)
  else none
  else none
  else none
  else none) = some (exitN text a e) := by
  rw [chk4 h2 (Nat.le_of_lt h1), show Int.toNat (a : Int) = a from rfl, show Int.toNat (e : Int) = e from rfl]
  have hlen : ((text.take e).drop a).length = e - a := by simp; omega
  rw [rnum_ok _ hd (by omega) (by omega), some_bind]
  unfold exitN
  cases num ((text.take e).drop a) <;> rfl
theorem refNum_ok (text : Str) (hl : text.length ≤ 1000000) (a : Nat) (o4 : Token) : ∀ (k b : Nat), b + k = text.length → a ≤ b → a < b + tw dgt (text.drop b) → (∀ c ∈ (text.take (b + tw dgt (text.drop b))).drop a, dgt c = true) →
    ref05One_L13 text a b o4 = some (exitN text a (b + tw dgt (text.drop b))) := by
  intro k
  induction k with
  | zero =>
    intro b hb hab hlt hd
    rw [ref05One_L13_eq]; unfold ref05One_L13_B
    have h1 : text.drop b = [] := List.drop_eq_nil_of_le (by omega)
    rw [h1] at hlt hd ⊢
    rw [if_neg (show ¬ (b : Int) < (List.length text : Int) by omega)]
    exact exitN_ok text hl a b hlt (by omega) hd
  | succ k ih =>
    intro b hb hab hlt hd
    have h3 : b < text.length := by omega
    rw [ref05One_L13_eq]; unfold ref05One_L13_B
    rw [if_pos (show (b : Int) < (List.length text : Int) by omega), idx_lt h3, some_bind, rdgt_ok, some_bind]
    rw [tw_drop _ h3] at hlt hd ⊢
    cases h1 : dgt text[b] with
    | true =>
      rw [h1, if_pos rfl] at hlt hd
      rw [if_pos rfl, if_pos rfl, wi_id (by omega) (by omega), succ_cast]
      have e : b + (tw dgt (List.drop (b + 1) text) + 1) = b + 1 + tw dgt (List.drop (b + 1) text) := by omega
      rw [e] at hlt hd ⊢
      exact ih (b + 1) (by omega) (by omega) hlt hd
    | false =>
      rw [h1] at hlt hd
      simp only [Bool.false_eq_true, if_false, Nat.add_zero] at hlt hd ⊢
      exact exitN_ok text hl a b hlt (by omega) hd
/-- the reference's token -/
theorem refOne_ok (text : Str) (hl : text.length ≤ 1000000) (a : Nat) (ha : a < text.length) :
    ref05One text a = some (match one (text.drop a) with | .inl e => (zTok, e) | .inr (k, n, s, l) => (⟨k, n, s, a, ((a + l : Nat) : Int)⟩, 0)) := by
  have hd := List.drop_eq_getElem_cons ha
  unfold ref05One
  rw [idx_lt ha, some_bind, rltr_ok, some_bind]
  have hle := tw_le mor (text.drop a)
  have hle2 := tw_le dgt (text.drop a)
  rw [List.length_drop] at hle hle2
  cases h1 : ltr text[a] with
  | true =>
    rw [if_pos rfl, refWord_ok text hl a _ (text.length - a) a (by omega) (by omega)]
    have hone : one (text.drop a) = if tw mor (text.drop a) > 16 then .inl 3 else .inr (if isW ((text.drop a).take (tw mor (text.drop a))) = true then 3 else 1, 0, (text.drop a).take (tw mor (text.drop a)), tw mor (text.drop a)) := by
      conv => lhs; rw [hd, one, if_pos h1, ← hd]
    unfold exitW
    rw [hone, slice_eq, show a + tw mor (text.drop a) - a = tw mor (text.drop a) by omega]
    by_cases h2 : tw mor (text.drop a) > 16
    · rw [if_pos h2, if_pos h2]
    · rw [if_neg h2, if_neg h2]
  | false =>
    rw [if_neg (by simp), rdgt_ok, some_bind]
    cases h2 : dgt text[a] with
    | true =>
      have hpos : 1 ≤ tw dgt (text.drop a) := by rw [tw_drop _ ha, if_pos h2]; omega
      have hone : one (text.drop a) = match num ((text.drop a).take (tw dgt (text.drop a))) with | none => .inl 5 | some n => .inr (2, (n : Int), [], tw dgt (text.drop a)) := by
        conv => lhs; rw [hd, one, if_neg (by rw [h1]; simp), if_pos h2, ← hd]
      rw [if_pos rfl, refNum_ok text hl a _ (text.length - a) a (by omega) (by omega) (by omega) (by rw [slice_eq]; exact tw_all dgt _)]
      unfold exitN
      rw [hone, slice_eq]
      cases num ((text.drop a).take (tw dgt (text.drop a))) <;> rfl
    | false =>
      have hone : one (text.drop a) = if sgn text[a].toNat (hd0 (text.drop (a + 1))) = 0 then .inl 4 else .inr (4, 0, (text.drop a).take (sgn text[a].toNat (hd0 (text.drop (a + 1)))), sgn text[a].toNat (hd0 (text.drop (a + 1)))) := by
        conv => lhs; rw [hd, one, if_neg (by rw [h1]; simp), if_neg (by rw [h2]; simp), ← hd]
      rw [if_neg (by simp), signs_ok, some_bind]
      have := signLoop_ok text hl a (by omega) (Token.mk 0 0 ([] : List UInt8) 0 0) signsL.length 0 (by omega)
      rw [show ((0 : Nat) : Int) = 0 from rfl, List.drop_zero] at this
      rw [this]
      have hf := find_sign text[a] (text.drop (a + 1))
      rw [← hd] at hf
      rw [hone]
      cases hfx : (signsL.find? fun x => bg x (text.drop a)) with
      | none =>
        rw [hfx] at hf
        by_cases h3 : sgn text[a].toNat (hd0 (text.drop (a + 1))) = 0
        · rw [if_pos h3]; rfl
        · rw [if_neg h3] at hf; cases hf
      | some x =>
        rw [hfx] at hf
        have hb := bg_take (s := x) (l := text.drop a) (List.find?_some (p := fun x => bg x (text.drop a)) hfx)
        by_cases h3 : sgn text[a].toNat (hd0 (text.drop (a + 1))) = 0
        · rw [if_pos h3] at hf; cases hf
        · rw [if_neg h3] at hf ⊢
          simp only [Option.map_some, Option.some.injEq] at hf
          rw [← hf]
          simp only []
          rw [← hb]
/-! all tokens -/
/-- the tokens of a text from a place on at which neither a blank nor a comment is: them, or the place and what is wrong -/
def toks : Nat → List UInt8 → Nat → List Token → List Token × Int × Int
  | 0, _, _, _ => ([], 0, 0)
  | n + 1, s, a, out => match s with
    | [] => (out ++ [⟨5, 0, [], a, a⟩], 0, 0)
    | c :: r => match one (c :: r) with
      | .inl e => ([], a, e)
      | .inr (k, m, t, l) => toks n (((c :: r).drop l).drop (nxt 10000 ((c :: r).drop l))) (a + l + nxt 10000 ((c :: r).drop l)) (out ++ [⟨k, m, t, a, ((a + l : Nat) : Int)⟩])
/-- the tokens of a text, or the place and what is wrong -/
def lexes (text : Str) : List Token × Int × Int := if text.length > 8192 then ([], 0, 3) else toks 10000 (text.drop (nxt 10000 text)) (nxt 10000 text) []
theorem rtoks_ok (text : Str) (hl : text.length ≤ 9000) : ∀ (n a : Nat) (out : List Token), text.length < a + n → a ≤ text.length → out.length ≤ a →
    ref05Tokens_L5 text out a = some (toks n (text.drop a) a out) := by
  intro n
  induction n with
  | zero => intro a out h1 h2; omega
  | succ n ih =>
    intro a out h1 h2 ho
    rw [ref05Tokens_L5_eq]; unfold ref05Tokens_L5_B
    by_cases ha : a < text.length
    · have hd := List.drop_eq_getElem_cons ha
      have hr := refOne_ok text (by omega) a ha
      rw [if_pos (show (a : Int) < (List.length text : Int) by omega), hr, some_bind]
      have ht : toks (n + 1) (text.drop a) a out = match one (text.drop a) with
        | .inl e => ([], (a : Int), e)
        | .inr (k, m, t, l) => toks n (((text.drop a).drop l).drop (nxt 10000 ((text.drop a).drop l))) (a + l + nxt 10000 ((text.drop a).drop l)) (out ++ [⟨k, m, t, a, ((a + l : Nat) : Int)⟩]) := by
        rw [hd, toks]
      rw [ht]
      cases e1 : one (text.drop a) with
      | inr q =>
        obtain ⟨k, m, t, l⟩ := q
        have hlen := one_len e1
        rw [List.length_drop] at hlen
        simp only []
        rw [if_pos True.intro, if_pos (show roomy 48 (List.length out + List.length [(⟨k, m, t, a, ((a + l : Nat) : Int)⟩ : Token)]) by unfold roomy; simp; omega)]
        unfold ref05Next
        have hle := nxt_le 10000 (text.drop (a + l))
        rw [List.length_drop] at hle
        rw [(next_ok text (by omega) 10000 (a + l) (by omega) (by omega)).1, some_bind, show (text.drop a).drop l = text.drop (a + l) from List.drop_drop .., List.drop_drop (l := text)]
        exact ih (a + l + nxt 10000 (text.drop (a + l))) (out ++ [(⟨k, m, t, a, ((a + l : Nat) : Int)⟩ : Token)]) (by omega) (by omega) (by simp only [List.length_append, List.length_cons, List.length_nil]; omega)
      | inl e =>
        simp only []
        have e0 : e ≠ 0 := by
          rw [hd, one] at e1
          intro he
          subst he
          revert e1
          repeat' split
          all_goals (intro ho; first | (injection ho with ho; omega) | cases ho)
        rw [if_neg e0]
    · have h4 : text.drop a = [] := List.drop_eq_nil_of_le (by omega)
      have h5 : a = text.length := by omega
      rw [if_neg (show ¬ (a : Int) < (List.length text : Int) by omega), h4, toks]
      rw [if_pos (show roomy 48 (List.length out + List.length [(⟨5, 0, [], (List.length text : Int), (List.length text : Int)⟩ : Token)]) by unfold roomy; simp; omega), h5]
theorem rtokens_ok (text : Str) (h : text.length ≤ 9223372036854775807) : ref05Tokens text = some (lexes text) := by
  unfold ref05Tokens lexes
  by_cases h1 : (List.length text : Int) > 8192
  · rw [if_pos h1, if_pos (show text.length > 8192 by omega)]
  · rw [if_neg h1, if_neg (show ¬ text.length > 8192 by omega)]
    unfold ref05Next
    have hle := nxt_le 10000 text
    have e1 := (next_ok text (by omega) 10000 0 (by omega) (by omega)).1
    rw [show ((0 : Nat) : Int) = 0 from rfl, List.drop_zero, Nat.zero_add] at e1
    rw [e1, some_bind]
    exact rtoks_ok text (by omega) 10000 (nxt 10000 text) [] (by omega) (by omega) (by simp)
/-- tokens stand in order; the last one is the end -/
def Ord : Nat → List Token → Prop
  | _, [] => False
  | a, x :: r => ∃ f t : Nat, x.From = (f : Int) ∧ x.To = (t : Int) ∧ a ≤ f ∧ f ≤ t ∧ ((r = [] ∧ x.K = 5) ∨ (x.K ≠ 5 ∧ Ord t r))
theorem Ord.mono {a b : Nat} (h : b ≤ a) : ∀ {l : List Token}, Ord a l → Ord b l
  | [], h => h
  | x :: r, ⟨f, t, h1, h2, h3, h4⟩ => ⟨f, t, h1, h2, by omega, h4⟩
theorem one_kind {s : List UInt8} {k n : Int} {t : Str} {l : Nat} (h : one s = .inr (k, n, t, l)) : k ≠ 5 := by
  cases s with
  | nil => simp [one] at h
  | cons c r =>
    rw [one] at h
    by_cases h1 : ltr c = true
    · rw [if_pos h1] at h
      by_cases h2 : tw mor (c :: r) > 16
      · rw [if_pos h2] at h; cases h
      · rw [if_neg h2] at h
        injection h with h; injection h with h _
        rw [← h]; split <;> decide
    · rw [if_neg h1] at h
      by_cases h2 : dgt c = true
      · rw [if_pos h2] at h
        cases hn : num ((c :: r).take (tw dgt (c :: r))) with
        | none => rw [hn] at h; cases h
        | some m => rw [hn] at h; injection h with h; injection h with h _; rw [← h]; decide
      · rw [if_neg h2] at h
        by_cases h3 : sgn c.toNat (hd0 r) = 0
        · rw [if_pos h3] at h; cases h
        · rw [if_neg h3] at h; injection h with h; injection h with h _; rw [← h]; decide
theorem toks_ord (text : List UInt8) : ∀ (n a : Nat) (out : List Token), text.length < a + n → a ≤ text.length → (toks n (text.drop a) a out).2.2 = 0 → ∃ r, (toks n (text.drop a) a out).1 = out ++ r ∧ Ord a r := by
  intro n
  induction n with
  | zero => intro a out h1 h2; omega
  | succ n ih =>
    intro a out h1 h2 he
    by_cases ha : a < text.length
    · have hd := List.drop_eq_getElem_cons ha
      have ht : toks (n + 1) (text.drop a) a out = match one (text.drop a) with
        | .inl e => ([], (a : Int), e)
        | .inr (k, m, t, l) => toks n (((text.drop a).drop l).drop (nxt 10000 ((text.drop a).drop l))) (a + l + nxt 10000 ((text.drop a).drop l)) (out ++ [⟨k, m, t, a, ((a + l : Nat) : Int)⟩]) := by
        rw [hd, toks]
      rw [ht] at he ⊢
      cases ho : one (text.drop a) with
      | inl e =>
        rw [ho] at he
        exfalso
        have he2 : e = 0 := he
        rw [hd] at ho
        rw [one] at ho
        subst he2
        revert ho
        repeat' split
        all_goals (intro ho; first | (injection ho with ho; omega) | cases ho)
      | inr q =>
        obtain ⟨k, m, t, l⟩ := q
        rw [ho] at he
        dsimp only at he ⊢
        have hlen := one_len ho
        rw [List.length_drop] at hlen
        have hle := nxt_le 10000 (text.drop (a + l))
        rw [List.length_drop] at hle
        rw [show (text.drop a).drop l = text.drop (a + l) from List.drop_drop .., List.drop_drop (l := text)] at he ⊢
        obtain ⟨r, e1, e2⟩ := ih (a + l + nxt 10000 (text.drop (a + l))) _ (by omega) (by omega) he
        exact ⟨⟨k, m, t, a, ((a + l : Nat) : Int)⟩ :: r, by rw [e1]; simp, a, a + l, rfl, rfl, Nat.le_refl _, by omega, .inr ⟨one_kind ho, e2.mono (by omega)⟩⟩
    · have h4 : text.drop a = [] := List.drop_eq_nil_of_le (by omega)
      have h5 : a = text.length := by omega
      rw [h4, toks]
      exact ⟨[⟨5, 0, [], a, a⟩], rfl, a, a, rfl, rfl, Nat.le_refl _, Nat.le_refl _, .inl ⟨rfl, rfl⟩⟩
theorem lexes_ord {text : Str} (h : (lexes text).2.2 = 0) : Ord 0 (lexes text).1 := by
  unfold lexes at h ⊢
  by_cases h1 : text.length > 8192
  · rw [if_pos h1] at h; cases h
  · rw [if_neg h1] at h ⊢
    have hle := nxt_le 10000 text
    obtain ⟨r, e1, e2⟩ := toks_ord text 10000 (nxt 10000 text) [] (by omega) (by omega) h
    rw [e1]; exact e2.mono (by omega)
end Go.Proofs.Ytpdhlbejdagkmaa.M
