import Derived.Test.YthbhgdooeeapjaaMod
import Derived.Test.YthbhgdooeeapjaaWf
namespace Go.Proofs.Ythbhgdooeeapjaa.M
open Go Nt
set_option linter.unusedVariables false
set_option linter.unusedSimpArgs false
set_option linter.unusedSectionVars false
theorem uU {n : Int} (h1 : -9223372036854775808 ≤ n) (h2 : n ≤ 9223372036854775807) : IntKind.wrap .i64 n = n := by rw [IntKind.wrap_i64]; omega
theorem y9K {α : Type} (l : List α) (n : Nat) : idx l (n : Int) = l[n]? := by unfold idx; rw [if_pos (by omega)]; rfl
theorem gF {α : Type} {l : List α} {n : Nat} (h : n < l.length) : idx l (n : Int) = some l[n] := by rw [y9K]; exact List.getElem?_eq_getElem h
theorem v1v {α : Type} {l : List α} : idx l 0 = l[0]? := rfl
theorem zA {α β : Type} (x : α) (k : α → Option β) : (some x >>= k) = k x := rfl
theorem wB (n : Nat) : ((n : Int) + 1) = ((n + 1 : Nat) : Int) := by omega
def ltr (c : UInt8) : Bool := (decide (97 ≤ c.toNat) && decide (c.toNat ≤ 122)) || (decide (65 ≤ c.toNat) && decide (c.toNat ≤ 90)) || c.toNat == 95
def dgt (c : UInt8) : Bool := decide (48 ≤ c.toNat) && decide (c.toNat ≤ 57)
def mor (c : UInt8) : Bool := ltr c || dgt c
def lin (c : UInt8) : Bool := !(c.toNat == 10)
def blk (c : UInt8) : Bool := c.toNat == 32 || c.toNat == 9 || c.toNat == 10 || c.toNat == 13
theorem v0u (c : UInt8) : z2R (Int.ofNat (UInt8.toNat c)) = some (ltr c) := by
  unfold z2R ltr
  generalize c.toNat = n
  rw [show Int.ofNat n = (n : Int) from rfl]
  repeat' split
  all_goals (simp only [Option.some.injEq]; rw [Bool.eq_iff_iff]; simp; omega)
theorem y7j (c : UInt8) : z2Q (Int.ofNat (UInt8.toNat c)) = some (dgt c) := by
  unfold z2Q dgt
  generalize c.toNat = n
  rw [show Int.ofNat n = (n : Int) from rfl]
  repeat' split
  all_goals (simp only [Option.some.injEq]; rw [Bool.eq_iff_iff]; simp; omega)
theorem v2T (c : UInt8) : z4I (Int.ofNat (UInt8.toNat c)) = some (blk c) := by
  unfold z4I blk
  generalize c.toNat = n
  rw [show Int.ofNat n = (n : Int) from rfl]
  repeat' split
  all_goals (simp only [Option.some.injEq]; rw [Bool.eq_iff_iff]; simp; omega)
theorem v2q (c : UInt8) (n : Nat) : (Int.ofNat (UInt8.toNat c) = (n : Int)) ↔ c.toNat = n := by
  rw [show Int.ofNat (UInt8.toNat c) = ((UInt8.toNat c : Nat) : Int) from rfl]; omega
def tw (p : UInt8 → Bool) : List UInt8 → Nat
  | [] => 0
  | c :: r => if p c = true then tw p r + 1 else 0
theorem y9b (p : UInt8 → Bool) (l : List UInt8) : tw p l ≤ l.length := by
  induction l with
  | nil => simp [tw]
  | cons c r ih => simp only [tw, List.length_cons]; split <;> omega
theorem z9A (p : UInt8 → Bool) {l : List UInt8} {i : Nat} (h : i < l.length) : tw p (l.drop i) = if p l[i] = true then tw p (l.drop (i + 1)) + 1 else 0 := by
  rw [List.drop_eq_getElem_cons h, tw]
theorem y5X (p : UInt8 → Bool) : ∀ (l : List UInt8), ∀ c ∈ l.take (tw p l), p c = true
  | [], c, h => by simp [tw] at h
  | x :: r, c, h => by
    simp only [tw] at h
    split at h
    · rename_i hx
      rw [List.take_succ_cons] at h
      rcases List.mem_cons.1 h with rfl | h
      · exact hx
      · exact y5X p r c h
    · simp at h
theorem v4d {α : Type} {from_ at_ : Nat} {text : Str} {x : Option α} (h : at_ ≤ text.length) (hf : from_ ≤ at_) :
    (if (0 : Int) ≤ (at_ : Int) then (if Int.toNat (at_ : Int) ≤ List.length text then (if (0 : Int) ≤ (from_ : Int) then (if Int.toNat (from_ : Int) ≤ Int.toNat (at_ : Int) then x else none) else none) else none) else none) = x := by
  rw [if_pos (by omega), if_pos (by simpa using h), if_pos (by omega), if_pos (by simpa using hf)]
def y9G (n : Nat) : List UInt8 → Bool
  | d :: _ => d.toNat == n
  | [] => false
def nxt : Nat → List UInt8 → Nat
  | 0, _ => 0
  | _ + 1, [] => 0
  | n + 1, c :: r => if blk c = true then nxt n r + 1
    else if c.toNat = 47 ∧ y9G 47 r = true then tw lin (c :: r) + nxt n ((c :: r).drop (tw lin (c :: r))) else 0
theorem z9T : ∀ (n : Nat) (l : List UInt8), nxt n l ≤ l.length
  | 0, l => by simp [nxt]
  | n + 1, [] => by simp [nxt]
  | n + 1, c :: r => by
    simp only [nxt]
    split
    · have := z9T n r; simp; omega
    · split
      · have := z9T n ((c :: r).drop (tw lin (c :: r)))
        have := y9b lin (c :: r)
        rw [List.length_drop] at *
        omega
      · omega
def bg (s l : List UInt8) : Bool := l.take s.length == s
theorem y4S (text : Str) (hl : text.length ≤ 1000000) (a : Nat) (ha : a ≤ text.length) (s : Str) (hs : s.length ≤ 1000) : z2P text a s = some (bg s (text.drop a)) := by
  unfold z2P bg
  rw [uU (n := (List.length text : Int) - (a : Int)) (by omega) (by omega), uU (by omega) (by omega)]
  have hn : ((a : Int) + (List.length s : Int)).toNat = a + s.length := by omega
  by_cases h : (List.length s : Int) ≤ (List.length text : Int) - (a : Int)
  · rw [if_pos h, if_pos (by omega), if_pos (by omega), if_pos (by omega), if_pos (by omega), hn, show Int.toNat (a : Int) = a from rfl, List.drop_take]
    rw [show a + s.length - a = s.length by omega]
  · rw [if_neg h]
    congr 1; symm
    rw [beq_eq_false_iff_ne]
    intro e
    have := congrArg List.length e
    simp at this
    omega
theorem v0e (text : Str) (hl : text.length ≤ 1000000) : ∀ (n a : Nat), text.length ≤ a + n → a ≤ text.length →
    yL text a = some ((a + nxt n (text.drop a) : Nat) : Int) ∧ ∀ m, m ≤ n → a + tw lin (text.drop a) + m = text.length → text.length ≤ a + tw lin (text.drop a) + n →
      (yL text ((a + tw lin (text.drop a) : Nat) : Int) = some ((a + tw lin (text.drop a) + nxt n (text.drop (a + tw lin (text.drop a))) : Nat) : Int) → True) := by
  intro n a h1 h2
  refine ⟨?_, fun _ _ _ _ _ => trivial⟩
  induction n generalizing a with
  | zero =>
    rw [z6z]; unfold z0q
    rw [if_neg (by omega)]; rfl
  | succ n ih =>
    have line : ∀ (k b : Nat), b + k = text.length → vT text b = yL text ((b + tw lin (text.drop b) : Nat) : Int) := by
      intro k
      induction k with
      | zero =>
        intro b hb
        rw [z6A]; unfold z0r
        rw [if_neg (by omega), List.drop_eq_nil_of_le (by omega)]; rfl
      | succ k ihk =>
        intro b hb
        have h3 : b < text.length := by omega
        rw [z6A]; unfold z0r
        rw [if_pos (by omega), gF h3, zA, z9A _ h3]
        simp only [show (10 : Int) = ((10 : Nat) : Int) from rfl, v2q]
        by_cases h10 : text[b].toNat = 10
        · rw [if_pos h10]
          have : lin text[b] = false := by unfold lin; simp [h10]
          rw [this]; rfl
        · rw [if_neg h10, uU (by omega) (by omega), wB, ihk (b + 1) (by omega)]
          have : lin text[b] = true := by unfold lin; simp [h10]
          rw [this, if_pos rfl, show b + 1 + tw lin (List.drop (b + 1) text) = b + (tw lin (List.drop (b + 1) text) + 1) by omega]
    rw [z6z]; unfold z0q
    by_cases h3 : a < text.length
    · rw [if_pos (by omega), gF h3, zA, v2T, zA]
      have hd := List.drop_eq_getElem_cons h3
      cases hb : blk text[a] with
      | true =>
        rw [if_pos rfl, uU (by omega) (by omega), wB, ih (a + 1) (by omega) (by omega), hd, nxt, if_pos hb]
        rw [show a + 1 + nxt n (List.drop (a + 1) text) = a + (nxt n (List.drop (a + 1) text) + 1) by omega]
      | false =>
        rw [if_neg (by simp), y4S text hl a (by omega) _ (by simp), zA, line (text.length - a) a (by omega)]
        have hbg : (bg [47, 47] (text.drop a) = true) ↔ (text[a].toNat = 47 ∧ y9G 47 (text.drop (a + 1)) = true) := by
          rw [hd]
          unfold bg
          cases text.drop (a + 1) with
          | nil => simp [y9G]
          | cons d r =>
            simp only [y9G, List.length_cons, List.length_nil, List.take_succ_cons, List.take_zero, beq_iff_eq, List.cons.injEq, and_true]
            constructor
            · rintro ⟨h1, h2⟩; rw [h1, h2]; exact ⟨rfl, rfl⟩
            · rintro ⟨h1, h2⟩; exact ⟨UInt8.toNat_inj.1 (by rw [h1]; rfl), UInt8.toNat_inj.1 (by rw [h2]; rfl)⟩
        cases hg : bg [47, 47] (text.drop a) with
        | true =>
          have hh := hbg.1 hg
          have hlin : lin text[a] = true := by unfold lin; simp [hh.1]
          have htw : 1 ≤ tw lin (text.drop a) := by rw [z9A _ h3, if_pos hlin]; omega
          have hle := y9b lin (text.drop a)
          rw [List.length_drop] at hle
          rw [if_pos rfl, ih (a + tw lin (text.drop a)) (by omega) (by omega)]
          have e : nxt (n + 1) (text.drop a) = tw lin (text.drop a) + nxt n ((text.drop a).drop (tw lin (text.drop a))) := by
            conv => lhs; rw [hd, nxt, if_neg (by rw [hb]; simp), if_pos hh, ← hd]
          rw [e, List.drop_drop, Nat.add_assoc]
        | false =>
          rw [if_neg (by simp), hd, nxt, if_neg (by rw [hb]; simp), if_neg (fun h => by rw [hbg.2 h] at hg; cases hg)]; rfl
    · have h4 : text.drop a = [] := List.drop_eq_nil_of_le (by omega)
      rw [if_neg (by omega), h4]; rfl
def wordsL : List Str := [[114, 101, 99], [99, 111, 110, 115, 116], [118, 97, 114], [112, 117, 98], [102, 110], [105, 110, 116], [98, 111, 111, 108], [108, 101, 116], [105, 102], [101, 108, 115, 101], [119, 104, 105, 108, 101], [102, 111, 114], [116, 111], [112, 114, 105, 110, 116], [114, 101, 116, 117, 114, 110], [100, 111], [116, 114, 117, 101], [102, 97, 108, 115, 101], [114, 101, 97, 100], [110, 101, 119]]
def isW (s : Str) : Bool := wordsL.contains s
theorem v1d (s : Str) (all : List Str) (hl : all.length ≤ 1000) : z2O s all = some (all.contains s) := by
  have loop : ∀ (k i : Nat), i + k = all.length → vQ s all i = some ((all.drop i).contains s) := by
    intro k
    induction k with
    | zero =>
      intro i hi
      rw [z5A]; unfold z0a
      rw [if_neg (by omega), List.drop_eq_nil_of_le (by omega)]; rfl
    | succ k ih =>
      intro i hi
      have h3 : i < all.length := by omega
      rw [z5A]; unfold z0a
      rw [if_pos (by omega), gF h3, zA, List.drop_eq_getElem_cons h3, List.contains_cons]
      by_cases h : all[i] = s
      · rw [if_pos h, h]; simp
      · rw [if_neg h, uU (by omega) (by omega), wB, ih (i + 1) (by omega)]
        have : (s == all[i]) = false := by simpa using fun e => h e.symm
        rw [this]; rfl
  unfold z2O
  have := loop all.length 0 (by omega)
  simpa using this
theorem v2b : z3I = some wordsL := rfl
def y3l (v : Nat) (l : List UInt8) : Nat := l.foldl (fun v c => v * 10 + (c.toNat - 48)) v
theorem y4w (v : Nat) : y3l v [] = v := rfl
theorem y2i (v : Nat) (c : UInt8) (r : List UInt8) : y3l v (c :: r) = y3l (v * 10 + (c.toNat - 48)) r := by unfold y3l; rw [List.foldl_cons]
theorem y7u : ∀ (l : List UInt8) (v : Nat), v ≤ y3l v l
  | [], v => by rw [y4w]; exact Nat.le_refl _
  | c :: r, v => by have := y7u r (v * 10 + (c.toNat - 48)); rw [y2i]; omega
def num (w : List UInt8) : Option Nat :=
  if w.length > 1 ∧ y9G 48 w = true then none
  else if y3l 0 w > 9223372036854775807 then none else some (y3l 0 w)
theorem v3H {n : Int} (h1 : 0 ≤ n) (h2 : n ≤ 18446744073709551615) : IntKind.wrap .u64 n = n := by rw [IntKind.wrap_u64]; omega
theorem y9c {n : Int} (h1 : 0 ≤ n) (h2 : n ≤ 255) : IntKind.wrap .u8 n = n := by
  have : IntKind.wrap .u8 n = n % 256 := rfl
  rw [this]; omega
theorem y7m (w : Str) (hd : ∀ c ∈ w, dgt c = true) (hw : w.length ≤ 1000000) : ∀ (k i v : Nat), i + k = w.length → v ≤ 9223372036854775807 →
    yO w v i = some (if y3l v (w.drop i) > 9223372036854775807 then (0, false) else ((y3l v (w.drop i) : Int), true)) := by
  intro k
  induction k with
  | zero =>
    intro i v hi hv
    rw [z4K]; unfold gH
    have h1 : w.drop i = [] := List.drop_eq_nil_of_le (by omega)
    rw [if_neg (by omega), h1, y4w]
    rw [if_neg (by omega)]
  | succ k ih =>
    intro i v hi hv
    have h3 : i < w.length := by omega
    rw [z4K]; unfold gH
    have hc := hd _ (List.getElem_mem h3)
    unfold dgt at hc
    simp only [Bool.and_eq_true, decide_eq_true_eq] at hc
    rw [if_pos (by omega), gF h3, zA, List.drop_eq_getElem_cons h3, y2i, if_pos (by decide)]
    rw [show Int.ofNat (UInt8.toNat w[i]) = ((UInt8.toNat w[i] : Nat) : Int) from rfl]
    generalize hcn : w[i].toNat = c at *
    have hge := y7u (w.drop (i + 1)) (v * 10 + (c - 48))
    rw [y9c (by omega) (by omega), uU (n := (c : Int) - 48) (by omega) (by omega), uU (n := 9223372036854775807 - ((c : Int) - 48)) (by omega) (by omega), Int.tdiv_eq_ediv_of_nonneg (by omega), uU (n := (9223372036854775807 - ((c : Int) - 48)) / 10) (by omega) (by omega)]
    by_cases h : (v : Int) > (9223372036854775807 - ((c : Int) - 48)) / 10
    · rw [if_pos h, if_pos (by omega)]
    · rw [if_neg h, uU (n := (v : Int) * 10) (by omega) (by omega), uU (n := (v : Int) * 10 + _) (by omega) (by omega), uU (by omega) (by omega), wB]
      rw [show (v : Int) * 10 + ((c : Int) - 48) = ((v * 10 + (c - 48) : Nat) : Int) by omega]
      exact ih (i + 1) _ (by omega) (by omega)
theorem v2W (w : Str) (hd : ∀ c ∈ w, dgt c = true) (h0 : 0 < w.length) (hw : w.length ≤ 1000000) : z1Z w = some (match num w with | some n => ((n : Int), true) | none => (0, false)) := by
  unfold z1Z num
  rw [if_neg (by omega)]
  have hl := y7m w hd hw w.length 0 0 (by omega) (by omega)
  rw [show ((0 : Nat) : Int) = 0 from rfl, List.drop_zero] at hl
  have tl : yO w 0 0 = some (match (if y3l 0 w > 9223372036854775807 then none else some (y3l 0 w) : Option Nat) with | some n => ((n : Int), true) | none => (0, false)) := by
    rw [hl]; split <;> rfl
  by_cases h1 : (List.length w : Int) > 1
  · rw [if_pos h1]
    cases w with
    | nil => simp at h0
    | cons c r =>
      rw [v1v]
      simp only [List.getElem?_cons_zero, zA, show (48 : Int) = ((48 : Nat) : Int) from rfl, v2q]
      by_cases h48 : c.toNat = 48
      · rw [if_pos h48, if_pos ⟨by omega, by simp [y9G, h48]⟩]
      · rw [if_neg h48, if_neg (by simp [y9G, h48])]; exact tl
  · rw [if_neg h1, if_neg (by omega)]; exact tl
def singles : List Nat := [123, 125, 40, 41, 91, 93, 44, 59, 58, 46, 43, 45, 42, 47, 37, 64]
def sgn (c d : Nat) : Nat :=
  if c = 61 ∨ c = 33 ∨ c = 60 ∨ c = 62 then (if d = 61 then 2 else 1)
  else if c = 38 ∨ c = 124 then (if d = c then 2 else 0)
  else if singles.contains c then 1 else 0
def signsL : List Str := [[61, 61], [33, 61], [60, 61], [62, 61], [38, 38], [124, 124], [123], [125], [40], [41], [91], [93], [44], [59], [58], [46], [61], [60], [62], [43], [45], [42], [47], [37], [33], [64]]
theorem v1U : z6Y = some signsL := rfl
theorem bg1 (a c : UInt8) (r : List UInt8) : bg [a] (c :: r) = (c == a) := by unfold bg; simp
theorem bg2 (a b c : UInt8) (r : List UInt8) : bg [a, b] (c :: r) = (c == a && (match r with | d :: _ => d == b | [] => false)) := by
  unfold bg
  cases r with
  | nil => simp
  | cons d r => simp
def hd0 : List UInt8 → Nat
  | d :: _ => d.toNat
  | [] => 0
theorem z5E (c : UInt8) (n : Nat) (hn : n < 256) : c = UInt8.ofNat n ↔ c.toNat = n := by
  constructor
  · rintro rfl; rw [UInt8.toNat_ofNat']; omega
  · intro h; apply UInt8.toNat_inj.1; rw [h, UInt8.toNat_ofNat']; omega
theorem y9C (c : UInt8) (r : List UInt8) : (signsL.find? fun x => bg x (c :: r)).map List.length = if sgn c.toNat (hd0 r) = 0 then none else some (sgn c.toNat (hd0 r)) := by
  by_cases h61 : c = 61
  · subst h61
    cases r with
    | nil => decide
    | cons d r =>
      by_cases hd : d = 61
      · subst hd; simp [signsL, bg1, bg2, sgn, hd0]
      · have : d.toNat ≠ 61 := fun e => hd ((z5E d 61 (by omega)).2 e)
        simp [signsL, bg1, bg2, sgn, hd0, hd, this]
  by_cases h33 : c = 33
  · subst h33
    cases r with
    | nil => decide
    | cons d r =>
      by_cases hd : d = 61
      · subst hd; simp [signsL, bg1, bg2, sgn, hd0]
      · have : d.toNat ≠ 61 := fun e => hd ((z5E d 61 (by omega)).2 e)
        simp [signsL, bg1, bg2, sgn, hd0, hd, this]
  by_cases h60 : c = 60
  · subst h60
    cases r with
    | nil => decide
    | cons d r =>
      by_cases hd : d = 61
      · subst hd; simp [signsL, bg1, bg2, sgn, hd0]
      · have : d.toNat ≠ 61 := fun e => hd ((z5E d 61 (by omega)).2 e)
        simp [signsL, bg1, bg2, sgn, hd0, hd, this]
  by_cases h62 : c = 62
  · subst h62
    cases r with
    | nil => decide
    | cons d r =>
      by_cases hd : d = 61
      · subst hd; simp [signsL, bg1, bg2, sgn, hd0]
      · have : d.toNat ≠ 61 := fun e => hd ((z5E d 61 (by omega)).2 e)
        simp [signsL, bg1, bg2, sgn, hd0, hd, this]
  by_cases h38 : c = 38
  · subst h38
    cases r with
    | nil => decide
    | cons d r =>
      by_cases hd : d = 38
      · subst hd; simp [signsL, bg1, bg2, sgn, hd0]
      · have : d.toNat ≠ 38 := fun e => hd ((z5E d 38 (by omega)).2 e)
        simp [signsL, bg1, bg2, sgn, hd0, hd, this]
  by_cases h124 : c = 124
  · subst h124
    cases r with
    | nil => decide
    | cons d r =>
      by_cases hd : d = 124
      · subst hd; simp [signsL, bg1, bg2, sgn, hd0]
      · have : d.toNat ≠ 124 := fun e => hd ((z5E d 124 (by omega)).2 e)
        simp [signsL, bg1, bg2, sgn, hd0, hd, this]
  have n61 : c.toNat ≠ 61 := fun e => h61 ((z5E c 61 (by omega)).2 e)
  have n33 : c.toNat ≠ 33 := fun e => h33 ((z5E c 33 (by omega)).2 e)
  have n60 : c.toNat ≠ 60 := fun e => h60 ((z5E c 60 (by omega)).2 e)
  have n62 : c.toNat ≠ 62 := fun e => h62 ((z5E c 62 (by omega)).2 e)
  have n38 : c.toNat ≠ 38 := fun e => h38 ((z5E c 38 (by omega)).2 e)
  have n124 : c.toNat ≠ 124 := fun e => h124 ((z5E c 124 (by omega)).2 e)
  have hsg : sgn c.toNat (hd0 r) = if singles.contains c.toNat = true then 1 else 0 := by
    unfold sgn; rw [if_neg (by omega), if_neg (by omega)]
  rw [hsg]
  have e1 : ∀ k : UInt8, c ≠ k → (c == k) = false := fun k h => by simpa using h
  have key : ∀ (l : List UInt8), (∀ k ∈ l, True) → ((l.map fun k => [k]).find? fun x => bg x (c :: r)).map List.length = if (l.map UInt8.toNat).contains c.toNat = true then some 1 else none := by
    intro l
    induction l with
    | nil => intro _; rfl
    | cons k l ih =>
      intro _
      rw [List.map_cons, List.find?_cons, bg1, List.map_cons, List.contains_cons]
      by_cases hk : c = k
      · subst hk; simp
      · have h2 : ¬ c.toNat = k.toNat := fun e => hk (UInt8.toNat_inj.1 e)
        rw [e1 k hk]
        simp only [beq_eq_false_iff_ne.2 h2, Bool.false_or]
        exact ih (fun _ _ => trivial)
  have hl : (signsL.find? fun x => bg x (c :: r)) = (([123, 125, 40, 41, 91, 93, 44, 59, 58, 46, 43, 45, 42, 47, 37, 64] : List UInt8).map fun k => [k]).find? fun x => bg x (c :: r) := by
    simp only [signsL, List.map_cons, List.map_nil, List.find?_cons, bg1, bg2, e1 61 h61, e1 33 h33, e1 60 h60, e1 62 h62, e1 38 h38, e1 124 h124, Bool.false_and]
  rw [hl, key _ (fun _ _ => trivial)]
  have : ([123, 125, 40, 41, 91, 93, 44, 59, 58, 46, 43, 45, 42, 47, 37, 64] : List UInt8).map UInt8.toNat = singles := rfl
  rw [this]
  cases singles.contains c.toNat <;> rfl
theorem v2v {s l : List UInt8} (h : bg s l = true) : s = l.take s.length := by unfold bg at h; exact (beq_iff_eq.1 h).symm
theorem y7o (text : Str) (hl : text.length ≤ 1000000) (a : Nat) (ha : a ≤ text.length) (o4 : zC) : ∀ (k i : Nat), i + k = signsL.length →
    wI text a signsL i o4 = some (match (signsL.drop i).find? fun x => bg x (text.drop a) with | some x => (⟨4, 0, x, a, ((a + x.length : Nat) : Int)⟩, 0) | none => (⟨0, 0, [], 0, 0⟩, 4)) := by
  intro k
  have hsz : ∀ x ∈ signsL, x.length ≤ 2 := by decide
  induction k with
  | zero =>
    intro i hi
    rw [z6C]; unfold z0t
    rw [if_neg (by omega), List.drop_eq_nil_of_le (as := signsL) (by omega)]; rfl
  | succ k ih =>
    intro i hi
    have h3 : i < signsL.length := by omega
    have h4 := hsz _ (List.getElem_mem h3)
    have h5 : signsL.length = 26 := rfl
    rw [z6C]; unfold z0t
    rw [if_pos (by omega), gF h3, zA, y4S text hl a ha _ (by omega), zA, List.drop_eq_getElem_cons h3, List.find?_cons]
    cases hb : bg signsL[i] (text.drop a) with
    | true =>
      simp only [if_true]
      rw [zA, zA, uU (by omega) (by omega)]
      rfl
    | false =>
      rw [if_neg (by simp), uU (by omega) (by omega), wB, ih (i + 1) (by omega)]
def one : List UInt8 → Int ⊕ (Int × Int × Str × Nat)
  | [] => .inl 0
  | c :: r =>
    if ltr c = true then (if tw mor (c :: r) > 16 then .inl 3 else .inr (if isW ((c :: r).take (tw mor (c :: r))) = true then 3 else 1, 0, (c :: r).take (tw mor (c :: r)), tw mor (c :: r)))
    else if dgt c = true then (match num ((c :: r).take (tw dgt (c :: r))) with | none => .inl 5 | some n => .inr (2, (n : Int), [], tw dgt (c :: r)))
    else if sgn c.toNat (hd0 r) = 0 then .inl 4 else .inr (4, 0, (c :: r).take (sgn c.toNat (hd0 r)), sgn c.toNat (hd0 r))
theorem v3a (c : UInt8) (r : List UInt8) : sgn c.toNat (hd0 r) ≤ (c :: r).length := by
  cases r with
  | nil =>
    unfold sgn hd0
    simp only [List.length_cons, List.length_nil]
    split
    · simp
    · split
      · rw [if_neg (by omega)]; omega
      · split <;> omega
  | cons d r =>
    unfold sgn
    simp only [List.length_cons]
    split
    · split <;> omega
    · split
      · split <;> omega
      · split <;> omega
theorem y1R : ∀ {s : List UInt8} {k n : Int} {t : Str} {l : Nat}, one s = .inr (k, n, t, l) → 1 ≤ l ∧ l ≤ s.length
  | [], _, _, _, _, h => by simp [one] at h
  | c :: r, k, n, t, l, h => by
    rw [one] at h
    by_cases h1 : ltr c = true
    · rw [if_pos h1] at h
      have hm : mor c = true := by unfold mor; rw [h1]; rfl
      by_cases h2 : tw mor (c :: r) > 16
      · rw [if_pos h2] at h; cases h
      · rw [if_neg h2] at h
        injection h with h; injection h with _ h; injection h with _ h; injection h with _ h
        subst h
        refine ⟨?_, y9b _ _⟩
        rw [tw, if_pos hm]; omega
    · rw [if_neg h1] at h
      by_cases h2 : dgt c = true
      · rw [if_pos h2] at h
        cases hn : num ((c :: r).take (tw dgt (c :: r))) with
        | none => rw [hn] at h; cases h
        | some m =>
          rw [hn] at h
          injection h with h; injection h with _ h; injection h with _ h; injection h with _ h
          subst h
          refine ⟨?_, y9b _ _⟩
          rw [tw, if_pos h2]; omega
      · rw [if_neg h2] at h
        by_cases h3 : sgn c.toNat (hd0 r) = 0
        · rw [if_pos h3] at h; cases h
        · rw [if_neg h3] at h
          injection h with h; injection h with _ h; injection h with _ h; injection h with _ h
          subst h
          exact ⟨by omega, v3a c r⟩
theorem y4s (text : List UInt8) (a n : Nat) : (text.take (a + n)).drop a = (text.drop a).take n := by
  rw [List.drop_take]; congr 1; omega
def v4b : zC := ⟨0, 0, [], 0, 0⟩
def y9A (text : Str) (a e : Nat) : zC × Int :=
  if e - a > 16 then (v4b, 3) else (⟨if isW ((text.take e).drop a) = true then 3 else 1, 0, (text.take e).drop a, a, e⟩, 0)
theorem y7F (text : Str) (hl : text.length ≤ 1000000) (a e : Nat) (h1 : a ≤ e) (h2 : e ≤ text.length) :
    (if (IntKind.wrap .i64 ((e : Int) - (a : Int))) > 16 then
    some ((zC.mk 0 0 ([] : List UInt8) 0 0), 3)
  else
  if (0 : Int) ≤ (e : Int) then
  if Int.toNat (e : Int) ≤ List.length text then
  if (0 : Int) ≤ (a : Int) then
  if Int.toNat (a : Int) ≤ Int.toNat (e : Int) then
  z3I >>= fun q5 =>
  z2O (List.drop (Int.toNat (a : Int)) (List.take (Int.toNat (e : Int)) text)) q5 >>= fun q6 =>
  if q6 = true then
    some ((zC.mk 3 0 (List.drop (Int.toNat (a : Int)) (List.take (Int.toNat (e : Int)) text)) a e), 0)
  else
  some ((zC.mk 1 0 (List.drop (Int.toNat (a : Int)) (List.take (Int.toNat (e : Int)) text)) a e), 0)
  else none
  else none
  else none
  else none) = some (y9A text a e) := by
  rw [uU (by omega) (by omega), v4d h2 h1]
  unfold y9A
  by_cases h : (e : Int) - (a : Int) > 16
  · rw [if_pos h, if_pos (show e - a > 16 by omega)]; rfl
  · rw [if_neg h, if_neg (show ¬ e - a > 16 by omega), v2b, zA, v1d _ _ (by decide), zA]
    have : wordsL.contains (List.drop (Int.toNat (a : Int)) (List.take (Int.toNat (e : Int)) text)) = isW ((text.take e).drop a) := rfl
    rw [this]
    cases isW ((text.take e).drop a) <;> rfl
theorem y8R (text : Str) (hl : text.length ≤ 1000000) (a : Nat) (o4 : zC) : ∀ (k b : Nat), b + k = text.length → a ≤ b → wN text a b o4 = some (y9A text a (b + tw mor (text.drop b))) := by
  intro k
  induction k with
  | zero =>
    intro b hb hab
    rw [z7A]; unfold z0X
    rw [if_neg (show ¬ (b : Int) < (List.length text : Int) by omega), List.drop_eq_nil_of_le (as := text) (i := b) (by omega)]
    exact y7F text hl a b hab (by omega)
  | succ k ih =>
    intro b hb hab
    have h3 : b < text.length := by omega
    rw [z7A]; unfold z0X
    have hgo : mor text[b] = true → wN text a (IntKind.wrap .i64 ((b : Int) + 1)) o4 = some (y9A text a (b + tw mor (text.drop b))) := fun hm => by
      rw [uU (by omega) (by omega), wB, ih (b + 1) (by omega) (by omega), z9A _ h3, if_pos hm, show b + 1 + tw mor (List.drop (b + 1) text) = b + (tw mor (List.drop (b + 1) text) + 1) by omega]
    rw [if_pos (show (b : Int) < (List.length text : Int) by omega), gF h3, zA, v0u, zA]
    cases h1 : ltr text[b] with
    | true => rw [if_pos rfl]; exact hgo (by unfold mor; rw [h1]; rfl)
    | false =>
      rw [if_neg (by simp), zA, y7j, zA]
      cases h2 : dgt text[b] with
      | true => rw [if_pos rfl]; exact hgo (by unfold mor; rw [h2]; simp)
      | false =>
        have hm : mor text[b] = false := by unfold mor; rw [h1, h2]; rfl
        rw [if_neg (by simp), z9A _ h3, hm]
        exact y7F text hl a b hab (by omega)
def v1q (text : Str) (a e : Nat) : zC × Int :=
  match num ((text.take e).drop a) with
  | some n => (⟨2, n, [], a, e⟩, 0)
  | none => (v4b, 5)
theorem y7E (text : Str) (hl : text.length ≤ 1000000) (a e : Nat) (h1 : a < e) (h2 : e ≤ text.length) (hd : ∀ c ∈ (text.take e).drop a, dgt c = true) :
    (if (0 : Int) ≤ (e : Int) then
  if Int.toNat (e : Int) ≤ List.length text then
  if (0 : Int) ≤ (a : Int) then
  if Int.toNat (a : Int) ≤ Int.toNat (e : Int) then
  z1Z (List.drop (Int.toNat (a : Int)) (List.take (Int.toNat (e : Int)) text)) >>= fun q3 =>
  if q3.2 = true then
    some ((zC.mk 2 q3.1 ([] : List UInt8) a e), 0)
  else
  some ((zC.mk 0 0 ([] : List UInt8) 0 0), 5)
  else none
  else none
  else none
  else none) = some (v1q text a e) := by
  rw [v4d h2 (Nat.le_of_lt h1), show Int.toNat (a : Int) = a from rfl, show Int.toNat (e : Int) = e from rfl]
  have hlen : ((text.take e).drop a).length = e - a := by simp; omega
  rw [v2W _ hd (by omega) (by omega), zA]
  unfold v1q
  cases num ((text.take e).drop a) <;> rfl
theorem v0p (text : Str) (hl : text.length ≤ 1000000) (a : Nat) (o4 : zC) : ∀ (k b : Nat), b + k = text.length → a ≤ b → a < b + tw dgt (text.drop b) → (∀ c ∈ (text.take (b + tw dgt (text.drop b))).drop a, dgt c = true) →
    wH text a b o4 = some (v1q text a (b + tw dgt (text.drop b))) := by
  intro k
  induction k with
  | zero =>
    intro b hb hab hlt hd
    rw [z6B]; unfold z0s
    have h1 : text.drop b = [] := List.drop_eq_nil_of_le (by omega)
    rw [h1] at hlt hd ⊢
    rw [if_neg (show ¬ (b : Int) < (List.length text : Int) by omega)]
    exact y7E text hl a b hlt (by omega) hd
  | succ k ih =>
    intro b hb hab hlt hd
    have h3 : b < text.length := by omega
    rw [z6B]; unfold z0s
    rw [if_pos (show (b : Int) < (List.length text : Int) by omega), gF h3, zA, y7j, zA]
    rw [z9A _ h3] at hlt hd ⊢
    cases h1 : dgt text[b] with
    | true =>
      rw [h1, if_pos rfl] at hlt hd
      rw [if_pos rfl, if_pos rfl, uU (by omega) (by omega), wB]
      have e : b + (tw dgt (List.drop (b + 1) text) + 1) = b + 1 + tw dgt (List.drop (b + 1) text) := by omega
      rw [e] at hlt hd ⊢
      exact ih (b + 1) (by omega) (by omega) hlt hd
    | false =>
      rw [h1] at hlt hd
      simp only [Bool.false_eq_true, if_false, Nat.add_zero] at hlt hd ⊢
      exact y7E text hl a b hlt (by omega) hd
theorem v0q (text : Str) (hl : text.length ≤ 1000000) (a : Nat) (ha : a < text.length) :
    z8R text a = some (match one (text.drop a) with | .inl e => (v4b, e) | .inr (k, n, s, l) => (⟨k, n, s, a, ((a + l : Nat) : Int)⟩, 0)) := by
  have hd := List.drop_eq_getElem_cons ha
  unfold z8R
  rw [gF ha, zA, v0u, zA]
  have hle := y9b mor (text.drop a)
  have hle2 := y9b dgt (text.drop a)
  rw [List.length_drop] at hle hle2
  cases h1 : ltr text[a] with
  | true =>
    rw [if_pos rfl, y8R text hl a _ (text.length - a) a (by omega) (by omega)]
    have hone : one (text.drop a) = if tw mor (text.drop a) > 16 then .inl 3 else .inr (if isW ((text.drop a).take (tw mor (text.drop a))) = true then 3 else 1, 0, (text.drop a).take (tw mor (text.drop a)), tw mor (text.drop a)) := by
      conv => lhs; rw [hd, one, if_pos h1, ← hd]
    unfold y9A
    rw [hone, y4s, show a + tw mor (text.drop a) - a = tw mor (text.drop a) by omega]
    by_cases h2 : tw mor (text.drop a) > 16
    · rw [if_pos h2, if_pos h2]
    · rw [if_neg h2, if_neg h2]
  | false =>
    rw [if_neg (by simp), y7j, zA]
    cases h2 : dgt text[a] with
    | true =>
      have hpos : 1 ≤ tw dgt (text.drop a) := by rw [z9A _ ha, if_pos h2]; omega
      have hone : one (text.drop a) = match num ((text.drop a).take (tw dgt (text.drop a))) with | none => .inl 5 | some n => .inr (2, (n : Int), [], tw dgt (text.drop a)) := by
        conv => lhs; rw [hd, one, if_neg (by rw [h1]; simp), if_pos h2, ← hd]
      rw [if_pos rfl, v0p text hl a _ (text.length - a) a (by omega) (by omega) (by omega) (by rw [y4s]; exact y5X dgt _)]
      unfold v1q
      rw [hone, y4s]
      cases num ((text.drop a).take (tw dgt (text.drop a))) <;> rfl
    | false =>
      have hone : one (text.drop a) = if sgn text[a].toNat (hd0 (text.drop (a + 1))) = 0 then .inl 4 else .inr (4, 0, (text.drop a).take (sgn text[a].toNat (hd0 (text.drop (a + 1)))), sgn text[a].toNat (hd0 (text.drop (a + 1)))) := by
        conv => lhs; rw [hd, one, if_neg (by rw [h1]; simp), if_neg (by rw [h2]; simp), ← hd]
      rw [if_neg (by simp), v1U, zA]
      have := y7o text hl a (by omega) (zC.mk 0 0 ([] : List UInt8) 0 0) signsL.length 0 (by omega)
      rw [show ((0 : Nat) : Int) = 0 from rfl, List.drop_zero] at this
      rw [this]
      have hf := y9C text[a] (text.drop (a + 1))
      rw [← hd] at hf
      rw [hone]
      cases hfx : (signsL.find? fun x => bg x (text.drop a)) with
      | none =>
        rw [hfx] at hf
        by_cases h3 : sgn text[a].toNat (hd0 (text.drop (a + 1))) = 0
        · rw [if_pos h3]; rfl
        · rw [if_neg h3] at hf; cases hf
      | some x =>
        rw [hfx] at hf
        have hb := v2v (s := x) (l := text.drop a) (List.find?_some (p := fun x => bg x (text.drop a)) hfx)
        by_cases h3 : sgn text[a].toNat (hd0 (text.drop (a + 1))) = 0
        · rw [if_pos h3] at hf; cases hf
        · rw [if_neg h3] at hf ⊢
          simp only [Option.map_some, Option.some.injEq] at hf
          rw [← hf]
          simp only []
          rw [← hb]
def y2f : Nat → List UInt8 → Nat → List zC → List zC × Int × Int
  | 0, _, _, _ => ([], 0, 0)
  | n + 1, s, a, out => match s with
    | [] => (out ++ [⟨5, 0, [], a, a⟩], 0, 0)
    | c :: r => match one (c :: r) with
      | .inl e => ([], a, e)
      | .inr (k, m, t, l) => y2f n (((c :: r).drop l).drop (nxt 10000 ((c :: r).drop l))) (a + l + nxt 10000 ((c :: r).drop l)) (out ++ [⟨k, m, t, a, ((a + l : Nat) : Int)⟩])
def z8g (text : Str) : List zC × Int × Int := if text.length > 8192 then ([], 0, 3) else y2f 10000 (text.drop (nxt 10000 text)) (nxt 10000 text) []
theorem v1R (text : Str) (hl : text.length ≤ 9000) : ∀ (n a : Nat) (out : List zC), text.length < a + n → a ≤ text.length → out.length ≤ a →
    vK text out a = some (y2f n (text.drop a) a out) := by
  intro n
  induction n with
  | zero => intro a out h1 h2; omega
  | succ n ih =>
    intro a out h1 h2 ho
    rw [z9s]; unfold z0i
    by_cases ha : a < text.length
    · have hd := List.drop_eq_getElem_cons ha
      have hr := v0q text (by omega) a ha
      rw [if_pos (show (a : Int) < (List.length text : Int) by omega), hr, zA]
      have ht : y2f (n + 1) (text.drop a) a out = match one (text.drop a) with
        | .inl e => ([], (a : Int), e)
        | .inr (k, m, t, l) => y2f n (((text.drop a).drop l).drop (nxt 10000 ((text.drop a).drop l))) (a + l + nxt 10000 ((text.drop a).drop l)) (out ++ [⟨k, m, t, a, ((a + l : Nat) : Int)⟩]) := by
        rw [hd, y2f]
      rw [ht]
      cases e1 : one (text.drop a) with
      | inr q =>
        obtain ⟨k, m, t, l⟩ := q
        have hlen := y1R e1
        rw [List.length_drop] at hlen
        simp only []
        rw [if_pos True.intro, if_pos (show z0C 48 (List.length out + List.length [(⟨k, m, t, a, ((a + l : Nat) : Int)⟩ : zC)]) by unfold z0C; simp; omega)]
        unfold z4J
        have hle := z9T 10000 (text.drop (a + l))
        rw [List.length_drop] at hle
        rw [(v0e text (by omega) 10000 (a + l) (by omega) (by omega)).1, zA, show (text.drop a).drop l = text.drop (a + l) from List.drop_drop .., List.drop_drop (l := text)]
        exact ih (a + l + nxt 10000 (text.drop (a + l))) (out ++ [(⟨k, m, t, a, ((a + l : Nat) : Int)⟩ : zC)]) (by omega) (by omega) (by simp only [List.length_append, List.length_cons, List.length_nil]; omega)
      | inl e =>
        simp only []
        have e0 : e ≠ 0 := by
          rw [hd, one] at e1
          intro he
          subst he
          revert e1
          repeat' split
          all_goals (intro ho; first | (injection ho with ho; omega) | cases ho)
        rw [if_neg e0]
    · have h4 : text.drop a = [] := List.drop_eq_nil_of_le (by omega)
      have h5 : a = text.length := by omega
      rw [if_neg (show ¬ (a : Int) < (List.length text : Int) by omega), h4, y2f]
      rw [if_pos (show z0C 48 (List.length out + List.length [(⟨5, 0, [], (List.length text : Int), (List.length text : Int)⟩ : zC)]) by unfold z0C; simp; omega), h5]
theorem y8V (text : Str) (h : text.length ≤ 9223372036854775807) : z4e text = some (z8g text) := by
  unfold z4e z8g
  by_cases h1 : (List.length text : Int) > 8192
  · rw [if_pos h1, if_pos (show text.length > 8192 by omega)]
  · rw [if_neg h1, if_neg (show ¬ text.length > 8192 by omega)]
    unfold z4J
    have hle := z9T 10000 text
    have e1 := (v0e text (by omega) 10000 0 (by omega) (by omega)).1
    rw [show ((0 : Nat) : Int) = 0 from rfl, List.drop_zero, Nat.zero_add] at e1
    rw [e1, zA]
    exact v1R text (by omega) 10000 (nxt 10000 text) [] (by omega) (by omega) (by simp)
def Ord : Nat → List zC → Prop
  | _, [] => False
  | a, x :: r => ∃ f t : Nat, x.From = (f : Int) ∧ x.To = (t : Int) ∧ a ≤ f ∧ f ≤ t ∧ ((r = [] ∧ x.K = 5) ∨ (x.K ≠ 5 ∧ Ord t r))
theorem Ord.mono {a b : Nat} (h : b ≤ a) : ∀ {l : List zC}, Ord a l → Ord b l
  | [], h => h
  | x :: r, ⟨f, t, h1, h2, h3, h4⟩ => ⟨f, t, h1, h2, by omega, h4⟩
theorem v1H {s : List UInt8} {k n : Int} {t : Str} {l : Nat} (h : one s = .inr (k, n, t, l)) : k ≠ 5 := by
  cases s with
  | nil => simp [one] at h
  | cons c r =>
    rw [one] at h
    by_cases h1 : ltr c = true
    · rw [if_pos h1] at h
      by_cases h2 : tw mor (c :: r) > 16
      · rw [if_pos h2] at h; cases h
      · rw [if_neg h2] at h
        injection h with h; injection h with h _
        rw [← h]; split <;> decide
    · rw [if_neg h1] at h
      by_cases h2 : dgt c = true
      · rw [if_pos h2] at h
        cases hn : num ((c :: r).take (tw dgt (c :: r))) with
        | none => rw [hn] at h; cases h
        | some m => rw [hn] at h; injection h with h; injection h with h _; rw [← h]; decide
      · rw [if_neg h2] at h
        by_cases h3 : sgn c.toNat (hd0 r) = 0
        · rw [if_pos h3] at h; cases h
        · rw [if_neg h3] at h; injection h with h; injection h with h _; rw [← h]; decide
theorem v1W (text : List UInt8) : ∀ (n a : Nat) (out : List zC), text.length < a + n → a ≤ text.length → (y2f n (text.drop a) a out).2.2 = 0 → ∃ r, (y2f n (text.drop a) a out).1 = out ++ r ∧ Ord a r := by
  intro n
  induction n with
  | zero => intro a out h1 h2; omega
  | succ n ih =>
    intro a out h1 h2 he
    by_cases ha : a < text.length
    · have hd := List.drop_eq_getElem_cons ha
      have ht : y2f (n + 1) (text.drop a) a out = match one (text.drop a) with
        | .inl e => ([], (a : Int), e)
        | .inr (k, m, t, l) => y2f n (((text.drop a).drop l).drop (nxt 10000 ((text.drop a).drop l))) (a + l + nxt 10000 ((text.drop a).drop l)) (out ++ [⟨k, m, t, a, ((a + l : Nat) : Int)⟩]) := by
        rw [hd, y2f]
      rw [ht] at he ⊢
      cases ho : one (text.drop a) with
      | inl e =>
        rw [ho] at he
        exfalso
        have he2 : e = 0 := he
        rw [hd] at ho
        rw [one] at ho
        subst he2
        revert ho
        repeat' split
        all_goals (intro ho; first | (injection ho with ho; omega) | cases ho)
      | inr q =>
        obtain ⟨k, m, t, l⟩ := q
        rw [ho] at he
        dsimp only at he ⊢
        have hlen := y1R ho
        rw [List.length_drop] at hlen
        have hle := z9T 10000 (text.drop (a + l))
        rw [List.length_drop] at hle
        rw [show (text.drop a).drop l = text.drop (a + l) from List.drop_drop .., List.drop_drop (l := text)] at he ⊢
        obtain ⟨r, e1, e2⟩ := ih (a + l + nxt 10000 (text.drop (a + l))) _ (by omega) (by omega) he
        exact ⟨⟨k, m, t, a, ((a + l : Nat) : Int)⟩ :: r, by rw [e1]; simp, a, a + l, rfl, rfl, Nat.le_refl _, by omega, .inr ⟨v1H ho, e2.mono (by omega)⟩⟩
    · have h4 : text.drop a = [] := List.drop_eq_nil_of_le (by omega)
      have h5 : a = text.length := by omega
      rw [h4, y2f]
      exact ⟨[⟨5, 0, [], a, a⟩], rfl, a, a, rfl, rfl, Nat.le_refl _, Nat.le_refl _, .inl ⟨rfl, rfl⟩⟩
theorem y9Z {text : Str} (h : (z8g text).2.2 = 0) : Ord 0 (z8g text).1 := by
  unfold z8g at h ⊢
  by_cases h1 : text.length > 8192
  · rw [if_pos h1] at h; cases h
  · rw [if_neg h1] at h ⊢
    have hle := z9T 10000 text
    obtain ⟨r, e1, e2⟩ := v1W text 10000 (nxt 10000 text) [] (by omega) (by omega) h
    rw [e1]; exact e2.mono (by omega)
def z9i (n : Nat) : List UInt8 := if h : n < 10 then [UInt8.ofNat (48 + n)] else z9i (n / 10) ++ [UInt8.ofNat (48 + n % 10)]
termination_by n
decreasing_by omega
theorem z9j {n : Nat} (h : n < 10) : z9i n = [UInt8.ofNat (48 + n)] := by rw [z9i, dif_pos h]
theorem y1o {n : Nat} (h : ¬ n < 10) : z9i n = z9i (n / 10) ++ [UInt8.ofNat (48 + n % 10)] := by rw [z9i, dif_neg h]
theorem ofNat_toNat {n : Nat} (h : n < 256) : (UInt8.ofNat n).toNat = n := by rw [UInt8.toNat_ofNat']; omega
theorem z5c : ∀ s : List UInt8, z2J (s.map fun c => ((c.toNat : Nat) : Int)) = some s
  | [] => rfl
  | c :: r => by
    have hc := c.toNat_lt
    rw [List.map_cons, z2J, if_pos (by omega), z5c r]
    simp
theorem y7B {b : List Int} {j : Nat} (h : j < b.length) (x : Int) : (b.set j x).drop j = x :: b.drop (j + 1) := by
  rw [List.drop_eq_getElem_cons (by simpa using h), List.getElem_set_self, List.drop_set_of_lt (by omega)]
theorem y9t (n : Int) : ∀ (i u : Nat) (b : List Int) (s : List UInt8), b.length = 20 → i ≤ 20 → b.drop i = s.map (fun c => ((c.toNat : Nat) : Int)) → (n < 0 → 2 ≤ i ∧ u < 10 ^ (i - 1)) → (¬ n < 0 → 1 ≤ i ∧ u < 10 ^ i) → u ≤ 18446744073709551615 →
    vN n i u b = some ((if n < 0 then [45] else []) ++ (z9i u ++ s)) := by
  intro i
  induction i with
  | zero =>
    intro u b s hb hi hs h1 h2 hu
    by_cases h : n < 0
    · have := h1 h; omega
    · have := h2 h; omega
  | succ j ih =>
    intro u b s hb hi hs h1 h2 hu
    rw [y0w]; unfold z0G
    have hj : IntKind.wrap .i64 (((j + 1 : Nat) : Int) - 1) = (j : Int) := by rw [uU (by omega) (by omega)]; omega
    have hm : Int.tmod (u : Int) 10 = ((u % 10 : Nat) : Int) := by rw [Int.tmod_eq_emod_of_nonneg (by omega)]; omega
    have hd : Int.tdiv (u : Int) 10 = ((u / 10 : Nat) : Int) := by rw [Int.tdiv_eq_ediv_of_nonneg (by omega)]; omega
    have hc : IntKind.wrap .u8 (IntKind.wrap .u64 (48 + ((u % 10 : Nat) : Int))) = ((48 + u % 10 : Nat) : Int) := by rw [v3H (by omega) (by omega), y9c (by omega) (by omega)]; omega
    have hq : IntKind.wrap .u64 ((u / 10 : Nat) : Int) = ((u / 10 : Nat) : Int) := v3H (by omega) (by omega)
    rw [hj, hm, hd, hc, hq]
    have ht : Int.toNat (j : Int) = j := rfl
    rw [ht]
    simp only [List.length_set, hb, ne_eq, show ¬ ((10 : Int) = 0) by decide, not_false_eq_true, if_true]
    rw [if_pos (show True ∧ (0 : Int) ≤ (j : Int) ∧ (j : Int) < ((20 : Nat) : Int) from ⟨trivial, by omega, by omega⟩), if_pos (show j < 20 by omega)]
    have hsetd : (b.set j ((48 + u % 10 : Nat) : Int)).drop j = (UInt8.ofNat (48 + u % 10) :: s).map (fun c => ((c.toNat : Nat) : Int)) := by
      rw [y7B (by omega), hs, List.map_cons, ofNat_toNat (by omega)]
    by_cases h0 : u / 10 = 0
    · rw [if_pos (show ((u / 10 : Nat) : Int) = 0 by omega)]
      have hdg : z9i u = [UInt8.ofNat (48 + u % 10)] := by rw [z9j (by omega), show u % 10 = u by omega]
      by_cases hn : n < 0
      · have h3 := h1 hn
        rw [if_pos hn, if_pos hn]
        have hj2 : IntKind.wrap .i64 ((j : Int) - 1) = ((j - 1 : Nat) : Int) := by rw [uU (by omega) (by omega)]; omega
        rw [hj2, show Int.toNat ((j - 1 : Nat) : Int) = j - 1 from rfl]
        rw [if_pos (show True ∧ (0 : Int) ≤ ((j - 1 : Nat) : Int) ∧ ((j - 1 : Nat) : Int) < ((20 : Nat) : Int) from ⟨trivial, by omega, by omega⟩), if_pos (show j - 1 < 20 by omega), if_pos (show (0 : Int) ≤ ((j - 1 : Nat) : Int) by omega), if_pos (show j - 1 ≤ 20 by omega)]
        have : ((b.set j ((48 + u % 10 : Nat) : Int)).set (j - 1) 45).drop (j - 1) = (45 :: UInt8.ofNat (48 + u % 10) :: s).map (fun c => ((c.toNat : Nat) : Int)) := by
          rw [y7B (by simp; omega), show j - 1 + 1 = j by omega, hsetd]; rfl
        rw [this, z5c, hdg]; rfl
      · rw [if_neg hn, if_neg hn, if_pos (show (0 : Int) ≤ (j : Int) by omega), if_pos (show j ≤ 20 by omega), hsetd, z5c, hdg]; rfl
    · rw [if_neg (show ¬ ((u / 10 : Nat) : Int) = 0 by omega)]
      have hdg : z9i u = z9i (u / 10) ++ [UInt8.ofNat (48 + u % 10)] := y1o (by omega)
      rw [ih (u / 10) _ (UInt8.ofNat (48 + u % 10) :: s) (by simpa using hb) (by omega) hsetd ?_ ?_ (by omega), hdg]
      · simp
      · intro hn
        have h3 := h1 hn
        rcases j with _ | _ | j
        · omega
        · simp at h3; omega
        · refine ⟨by omega, ?_⟩
          have h4 := h3.2
          simp only [Nat.add_sub_cancel] at h4 ⊢
          rw [Nat.pow_succ] at h4
          omega
      · intro hn
        have h3 := h2 hn
        rcases j with _ | j
        · simp at h3; omega
        · refine ⟨by omega, ?_⟩
          have h4 := h3.2
          rw [Nat.pow_succ] at h4
          omega
theorem y5g (n : Int) (h : -9223372036854775808 ≤ n ∧ n ≤ 9223372036854775807) : z3H n = some ((if n < 0 then [45] else []) ++ z9i n.natAbs) := by
  unfold z3H
  have z : ([0, 0, 0, 0, 0, 0, 0, 0, 0, 0, 0, 0, 0, 0, 0, 0, 0, 0, 0, 0] : List Int).length = 20 := rfl
  by_cases hn : n < 0
  · rw [if_pos hn]
    have : IntKind.wrap .u64 (0 - IntKind.wrap .u64 n) = ((n.natAbs : Nat) : Int) := by rw [IntKind.wrap_u64, IntKind.wrap_u64]; omega
    rw [this, show (20 : Int) = ((20 : Nat) : Int) from rfl, y9t n 20 n.natAbs _ [] z (by omega) rfl (fun _ => ⟨by omega, by omega⟩) (fun h => absurd hn h) (by omega), List.append_nil]
  · rw [if_neg hn]
    have : IntKind.wrap .u64 n = ((n.natAbs : Nat) : Int) := by rw [IntKind.wrap_u64]; omega
    rw [this, show (20 : Int) = ((20 : Nat) : Int) from rfl, y9t n 20 n.natAbs _ [] z (by omega) rfl (fun h => absurd h hn) (fun _ => ⟨by omega, by omega⟩) (by omega), List.append_nil]
theorem v0U (w : List UInt8) (c : UInt8) (v : Nat) : y3l v (w ++ [c]) = y3l v w * 10 + (c.toNat - 48) := by unfold y3l; rw [List.foldl_append]; rfl
theorem v1Y {x : UInt8} {r : List UInt8} (h : x.toNat ≠ 48) (hd : dgt x = true) : 1 ≤ y3l 0 (x :: r) := by
  unfold dgt at hd
  simp only [Bool.and_eq_true, decide_eq_true_eq] at hd
  rw [y2i]
  have := y7u r (0 * 10 + (x.toNat - 48))
  omega
theorem v1l : ∀ (k : Nat) (w : List UInt8), w.length = k → 0 < k → (∀ c ∈ w, dgt c = true) → ¬ (w.length > 1 ∧ y9G 48 w = true) → z9i (y3l 0 w) = w := by
  intro k
  induction k with
  | zero => intro w _ h; omega
  | succ k ih =>
    intro w hl _ hd hz
    have hne : w ≠ [] := by rintro rfl; simp at hl
    have hw := List.dropLast_concat_getLast hne
    generalize hu : w.dropLast = u at hw
    generalize w.getLast hne = c at hw
    subst hw
    have hc := hd c (by simp)
    have hc2 := hc
    unfold dgt at hc
    simp only [Bool.and_eq_true, decide_eq_true_eq] at hc
    rw [v0U]
    have hcc : UInt8.ofNat (48 + (c.toNat - 48)) = c := by rw [show 48 + (c.toNat - 48) = c.toNat by omega]; exact UInt8.ofNat_toNat
    cases u with
    | nil =>
      rw [y4w, z9j (by omega), show 0 * 10 + (c.toNat - 48) = c.toNat - 48 by omega, hcc]; rfl
    | cons x r =>
      have hx : x.toNat ≠ 48 := fun e => hz ⟨by simp, by simp [y9G, e]⟩
      have hp := v1Y (r := r) hx (hd x (by simp))
      rw [y1o (by omega), show (y3l 0 (x :: r) * 10 + (c.toNat - 48)) / 10 = y3l 0 (x :: r) by omega, show (y3l 0 (x :: r) * 10 + (c.toNat - 48)) % 10 = c.toNat - 48 by omega, hcc]
      rw [ih (x :: r) (by simp at hl ⊢; omega) (by simp at hl; omega) (fun y hy => hd y (List.mem_append_left _ hy)) (fun h => hx (by have := h.2; simpa [y9G] using this))]
theorem v1F {w : List UInt8} {n : Nat} (h : num w = some n) (h0 : 0 < w.length) (hd : ∀ c ∈ w, dgt c = true) : z9i n = w ∧ n ≤ 9223372036854775807 := by
  unfold num at h
  by_cases hz : w.length > 1 ∧ y9G 48 w = true
  · rw [if_pos hz] at h; cases h
  · rw [if_neg hz] at h
    by_cases hv : y3l 0 w > 9223372036854775807
    · rw [if_pos hv] at h; cases h
    · rw [if_neg hv] at h
      injection h with h
      subst h
      exact ⟨v1l _ w rfl h0 hd hz, by omega⟩
theorem y7A {n : Nat} (h : n < 256) : z2J [((n : Nat) : Int)] = some [UInt8.ofNat n] := by
  have := z5c [UInt8.ofNat n]
  rw [List.map_cons, List.map_nil, ofNat_toNat h] at this
  exact this
theorem z7W : ∀ (k n : Nat), n < 10 ^ k → 0 < k → (z9i n).length ≤ k := by
  intro k
  induction k with
  | zero => intro n _ h; omega
  | succ k ih =>
    intro n h _
    by_cases h10 : n < 10
    · rw [z9j h10]; simp
    · rw [y1o h10, List.length_append]
      have : (z9i (n / 10)).length ≤ k := ih (n / 10) (by rw [Nat.pow_succ] at h; omega) (by
        rcases k with _ | k
        · simp at h; omega
        · omega)
      simp; omega
theorem z9Z : ∀ (k : Nat) (n : Int), n.natAbs < 10 ^ k → k ≤ 20 → -9223372036854775808 ≤ n → n ≤ 9223372036854775807 → wM n = some ((if n < 0 then [45] else []) ++ z9i n.natAbs) := by
  intro k
  induction k with
  | zero =>
    intro n h _ _ _
    have : n = 0 := by simp at h; omega
    subst this
    rw [z7z]; unfold z0W
    rw [if_neg (by decide), if_pos (by decide), if_neg (by decide), z9j (by decide)]; rfl
  | succ k ih =>
    intro n h hk h1 h2
    rw [z7z]; unfold z0W
    have hdl := z7W 20 n.natAbs (by omega) (by omega)
    simp only [ne_eq, show ¬ ((10 : Int) = 0) by decide, not_false_eq_true, if_true]
    have t1 : Int.natAbs (n.tdiv 10) = n.natAbs / 10 := by rw [Int.natAbs_tdiv]; rfl
    have t3 : (n.tdiv 10).natAbs < 10 ^ k := by rw [t1]; rw [Nat.pow_succ] at h; omega
    have hdl2 := z7W 20 (n.natAbs / 10) (by omega) (by omega)
    have tw : IntKind.wrap .i64 (n.tdiv 10) = n.tdiv 10 := uU (by omega) (by omega)
    by_cases hn : n < 0
    · rw [if_pos hn, if_pos hn]
      have e1 : n.tdiv 10 = -((n.natAbs / 10 : Nat) : Int) := by
        have : n = -((n.natAbs : Nat) : Int) := by omega
        rw [show n.tdiv 10 = (-((n.natAbs : Nat) : Int)).tdiv 10 by rw [← this], Int.neg_tdiv, Int.tdiv_eq_ediv_of_nonneg (by omega)]; omega
      have e2 : n.tmod 10 = -((n.natAbs % 10 : Nat) : Int) := by
        have : n = -((n.natAbs : Nat) : Int) := by omega
        rw [show n.tmod 10 = (-((n.natAbs : Nat) : Int)).tmod 10 by rw [← this], Int.neg_tmod, Int.tmod_eq_emod_of_nonneg (by omega)]; omega
      by_cases h10 : n > (-10)
      · rw [if_pos h10]
        have e3 : IntKind.wrap .u8 (IntKind.wrap .i64 (48 - n)) = ((48 + n.natAbs : Nat) : Int) := by rw [uU (by omega) (by omega), y9c (by omega) (by omega)]; omega
        rw [e3, y7A (by omega), zA, z9j (show n.natAbs < 10 by omega), if_pos (by simp)]
      · rw [if_neg h10, tw, ih _ t3 (by omega) (by omega) (by omega), zA]
        have e3 : IntKind.wrap .u8 (IntKind.wrap .i64 (48 - n.tmod 10)) = ((48 + n.natAbs % 10 : Nat) : Int) := by rw [uU (by omega) (by omega), y9c (by omega) (by omega)]; omega
        rw [e3, y7A (by omega), zA, t1, if_pos (show n.tdiv 10 < 0 by omega), y1o (show ¬ n.natAbs < 10 by omega), if_pos (by simp; omega)]
        simp
    · rw [if_neg hn, if_neg hn]
      have e1 : n.tdiv 10 = ((n.natAbs / 10 : Nat) : Int) := by rw [Int.tdiv_eq_ediv_of_nonneg (by omega)]; omega
      have e2 : n.tmod 10 = ((n.natAbs % 10 : Nat) : Int) := by rw [Int.tmod_eq_emod_of_nonneg (by omega)]; omega
      by_cases h10 : n < 10
      · rw [if_pos h10]
        have e3 : IntKind.wrap .u8 (IntKind.wrap .i64 (48 + n)) = ((48 + n.natAbs : Nat) : Int) := by rw [uU (by omega) (by omega), y9c (by omega) (by omega)]; omega
        rw [e3, y7A (by omega), zA, z9j (show n.natAbs < 10 by omega)]; rfl
      · rw [if_neg h10, tw, ih _ t3 (by omega) (by omega) (by omega), zA]
        have e3 : IntKind.wrap .u8 (IntKind.wrap .i64 (48 + n.tmod 10)) = ((48 + n.natAbs % 10 : Nat) : Int) := by rw [uU (by omega) (by omega), y9c (by omega) (by omega)]; omega
        rw [e3, y7A (by omega), zA, t1, if_neg (show ¬ n.tdiv 10 < 0 by omega), y1o (show ¬ n.natAbs < 10 by omega), if_pos (by simp; omega)]
        simp
abbrev Gap (b : List UInt8) : Prop := b = [] ∨ ∃ r, b = 32 :: r
def Tok (k n : Int) (t : Str) (w : List UInt8) : Prop := ∀ b, Gap b → one (w ++ b) = .inr (k, n, t, w.length)
theorem v0P (p : UInt8 → Bool) (hp : p 32 = false) {b : List UInt8} (hb : Gap b) : ∀ w : List UInt8, (∀ c ∈ w, p c = true) → tw p (w ++ b) = w.length
  | [], _ => by
    rcases hb with rfl | ⟨r, rfl⟩
    · rfl
    · simp [tw, hp]
  | c :: w, h => by
    rw [List.cons_append, tw, if_pos (h c (by simp)), v0P p hp hb w fun x hx => h x (by simp [hx])]; rfl
theorem v2H {b : List UInt8} (hb : Gap b) : hd0 b = 0 ∨ hd0 b = 32 := by
  rcases hb with rfl | ⟨r, rfl⟩
  · exact .inl rfl
  · exact .inr rfl
theorem v2Z {c d e : Nat} (h : sgn c d = 1) (he : e = 0 ∨ e = 32) : sgn c e = 1 := by
  unfold sgn at h ⊢
  split at h
  · rename_i h1; rw [if_pos h1, if_neg (by omega)]
  · rename_i h1
    rw [if_neg h1]
    split at h
    · split at h <;> omega
    · rename_i h2; rw [if_neg h2]; exact h
theorem v3D (c d : Nat) : sgn c d ≤ 2 := by unfold sgn; (repeat' split) <;> omega
theorem v2N {s : List UInt8} {k n : Int} {t : Str} {l : Nat} (h : one s = .inr (k, n, t, l)) : Tok k n t (s.take l) ∧ (s.take l).length = l := by
  have hlen := y1R h
  have hl : (s.take l).length = l := by rw [List.length_take]; omega
  refine ⟨fun b hb => ?_, hl⟩
  rw [hl]
  cases s with
  | nil => simp [one] at h
  | cons c r =>
    rw [one] at h
    by_cases h1 : ltr c = true
    · rw [if_pos h1] at h
      by_cases h2 : tw mor (c :: r) > 16
      · rw [if_pos h2] at h; cases h
      · rw [if_neg h2] at h
        injection h with h; injection h with e1 h; injection h with e2 h; injection h with e3 h
        have hall := y5X mor (c :: r)
        rw [h] at hall
        have htw := v0P mor (by decide) hb ((c :: r).take l) hall
        rw [hl] at htw
        have hw : ((c :: r).take l ++ b).take l = (c :: r).take l := by rw [List.take_append_of_le_length (by omega), List.take_of_length_le (by omega)]
        obtain ⟨l', rfl⟩ : ∃ l', l = l' + 1 := ⟨l - 1, by omega⟩
        rw [List.take_succ_cons, List.cons_append] at htw hw ⊢
        rw [one, if_pos h1, htw, if_neg (by omega), hw, ← List.take_succ_cons, ← e3, h]
        subst e1; subst e2; rw [h]
    · rw [if_neg h1] at h
      by_cases h2 : dgt c = true
      · rw [if_pos h2] at h
        cases hn : num ((c :: r).take (tw dgt (c :: r))) with
        | none => rw [hn] at h; cases h
        | some m =>
          rw [hn] at h
          injection h with h; injection h with e1 h; injection h with e2 h; injection h with e3 h
          have hall := y5X dgt (c :: r)
          rw [h] at hall hn
          have htw := v0P dgt (by decide) hb ((c :: r).take l) hall
          rw [hl] at htw
          have hw : ((c :: r).take l ++ b).take l = (c :: r).take l := by rw [List.take_append_of_le_length (by omega), List.take_of_length_le (by omega)]
          obtain ⟨l', rfl⟩ : ∃ l', l = l' + 1 := ⟨l - 1, by omega⟩
          rw [List.take_succ_cons, List.cons_append] at htw hw ⊢
          rw [List.take_succ_cons] at hn
          rw [one, if_neg h1, if_pos h2, htw, hw, hn]
          subst e1; subst e2; subst e3; rfl
      · rw [if_neg h2] at h
        by_cases h3 : sgn c.toNat (hd0 r) = 0
        · rw [if_pos h3] at h; cases h
        · rw [if_neg h3] at h
          injection h with h; injection h with e1 h; injection h with e2 h; injection h with e3 h
          have hle := v3D c.toNat (hd0 r)
          have h12 : l = 1 ∨ l = 2 := by omega
          rcases h12 with rfl | rfl
          · have hs := v2Z h (v2H hb)
            rw [List.take_succ_cons, List.take_zero, List.cons_append, List.nil_append, one, if_neg h1, if_neg h2, hs, if_neg (by decide)]
            rw [h] at e3
            subst e1; subst e2; subst e3; rfl
          · cases r with
            | nil => simp at hlen
            | cons d r' =>
              have hs : sgn c.toNat (hd0 (d :: b)) = 2 := h
              rw [show (c :: d :: r').take 2 ++ b = c :: d :: b from rfl, one, if_neg h1, if_neg h2, hs, if_neg (by decide)]
              rw [h] at e3
              subst e1; subst e2; subst e3; rfl
def jn : List (List UInt8) → List UInt8
  | [] => []
  | w :: r => 32 :: (w ++ jn r)
def body : List (List UInt8) → List UInt8
  | [] => []
  | w :: r => w ++ jn r
theorem y8k (P : zC → Prop) (h1 : ∀ s k m t l (a : Nat), one s = .inr (k, m, t, l) → P ⟨k, m, t, a, ((a + l : Nat) : Int)⟩) (h2 : ∀ a : Nat, P ⟨5, 0, [], a, a⟩) : ∀ (n : Nat) (s : List UInt8) (a : Nat) (out : List zC), (∀ x ∈ out, P x) → ∀ x ∈ (y2f n s a out).1, P x
  | 0, s, a, out, h, x, hx => by simp [y2f] at hx
  | n + 1, [], a, out, h, x, hx => by
    rw [y2f] at hx
    rcases List.mem_append.1 hx with hx | hx
    · exact h x hx
    · simp at hx; rw [hx]; exact h2 a
  | n + 1, c :: r, a, out, h, x, hx => by
    rw [y2f] at hx
    cases ho : one (c :: r) with
    | inl e => rw [ho] at hx; simp at hx
    | inr q =>
      obtain ⟨k, m, t, l⟩ := q
      rw [ho] at hx
      refine y8k P h1 h2 n _ _ _ (fun y hy => ?_) x hx
      rcases List.mem_append.1 hy with hy | hy
      · exact h y hy
      · simp at hy; rw [hy]; exact h1 _ _ _ _ _ _ ho
theorem y9Y (P : zC → Prop) (h1 : ∀ s k m t l (a : Nat), one s = .inr (k, m, t, l) → P ⟨k, m, t, a, ((a + l : Nat) : Int)⟩) (h2 : ∀ a : Nat, P ⟨5, 0, [], a, a⟩) (text : Str) : ∀ x ∈ (z8g text).1, P x := by
  unfold z8g
  split
  · intro x hx; simp at hx
  · exact y8k P h1 h2 _ _ _ _ (fun x hx => by simp at hx)
theorem v0h {s : List UInt8} {k m : Int} {t : Str} {l : Nat} (h : one s = .inr (k, m, t, l)) : (k = 2 ∧ t = [] ∧ ∃ n : Nat, m = (n : Int) ∧ n ≤ 9223372036854775807 ∧ z9i n = s.take l) ∨ (k ≠ 2 ∧ k ≠ 5 ∧ m = 0 ∧ t = s.take l) := by
  cases s with
  | nil => cases h
  | cons c r =>
    rw [one] at h
    by_cases h1 : ltr c = true
    · rw [if_pos h1] at h
      by_cases h2 : tw mor (c :: r) > 16
      · rw [if_pos h2] at h; cases h
      · rw [if_neg h2] at h
        injection h with h
        simp only [Prod.mk.injEq] at h
        obtain ⟨rfl, rfl, rfl, rfl⟩ := h
        exact .inr ⟨by split <;> decide, by split <;> decide, rfl, rfl⟩
    · rw [if_neg h1] at h
      by_cases h2 : dgt c = true
      · rw [if_pos h2] at h
        cases hn : num ((c :: r).take (tw dgt (c :: r))) with
        | none => rw [hn] at h; cases h
        | some n =>
          rw [hn] at h
          injection h with h
          simp only [Prod.mk.injEq] at h
          obtain ⟨rfl, rfl, rfl, rfl⟩ := h
          have hp : 0 < ((c :: r).take (tw dgt (c :: r))).length := by
            rw [List.length_take, tw, if_pos h2]; simp
          obtain ⟨g1, g2⟩ := v1F hn hp (y5X dgt _)
          exact .inl ⟨rfl, rfl, n, rfl, g2, g1⟩
      · rw [if_neg h2] at h
        by_cases h3 : sgn c.toNat (hd0 r) = 0
        · rw [if_pos h3] at h; cases h
        · rw [if_neg h3] at h
          injection h with h
          simp only [Prod.mk.injEq] at h
          obtain ⟨rfl, rfl, rfl, rfl⟩ := h
          exact .inr ⟨by decide, by decide, rfl, rfl⟩
structure v3I (x : zC) : Prop where
  nm : x.K = 1 → Tok 1 0 x.S x.S
  nu : x.K = 2 → ∃ n : Nat, x.N = (n : Int) ∧ n ≤ 9223372036854775807 ∧ Tok 2 n [] (z9i n) ∧ ((z9i n).length : Int) = x.To - x.From
  le : x.K ≠ 2 → x.K ≠ 5 → (x.S.length : Int) = x.To - x.From
  po : x.K ≠ 5 → 1 ≤ x.To - x.From
theorem y8N (text : Str) : ∀ x ∈ (z8g text).1, v3I x := by
  refine y9Y v3I (fun s k m t l a h => ?_) (fun a => ⟨fun h => absurd (show (5 : Int) = 1 from h) (by decide), fun h => absurd (show (5 : Int) = 2 from h) (by decide), fun _ h => absurd rfl h, fun h => absurd rfl h⟩) text
  obtain ⟨g1, g2⟩ := v2N h
  have g3 := (y1R h).1
  have e : ((a + l : Nat) : Int) - (a : Int) = (l : Int) := by omega
  rcases v0h h with ⟨rfl, rfl, n, rfl, h1, h2⟩ | ⟨h1, h2, rfl, rfl⟩
  · exact ⟨fun h => absurd (show (2 : Int) = 1 from h) (by decide), fun _ => ⟨n, rfl, h1, by rw [h2]; exact g1, by rw [h2, g2]; exact e.symm⟩, fun h => absurd rfl h, fun _ => by show 1 ≤ ((a + l : Nat) : Int) - (a : Int); omega⟩
  · refine ⟨fun h => ?_, fun h => absurd h h1, fun _ _ => ?_, fun _ => by show 1 ≤ ((a + l : Nat) : Int) - (a : Int); omega⟩
    · have h' : k = 1 := h
      rw [h'] at g1; exact g1
    · show ((s.take l).length : Int) = ((a + l : Nat) : Int) - (a : Int)
      rw [g2]; exact e.symm
def TF (t : List zC) : Prop := ∀ x ∈ t, v3I x
abbrev v4g : zC := ⟨5, 0, [], 0, 0⟩
def zK (t : List zC) (a : Nat) : zC := (t[a]?).getD v4g
def yB (t : List zC) (a : Nat) (s : Str) : Bool := decide ((zK t a).K = 4) && ((zK t a).S == s)
def vW (t : List zC) (a : Nat) (s : Str) : Bool := decide ((zK t a).K = 3) && ((zK t a).S == s)
theorem uJ {t : List zC} {a : Nat} (h : (zK t a).K ≠ 5) : a < t.length := by
  rcases Nat.lt_or_ge a t.length with h1 | h1
  · exact h1
  · exfalso; apply h; unfold zK; rw [List.getElem?_eq_none h1]; rfl
def jL (t : List zC) (f a : Nat) (x : zF) : zF := { x with From := (zK t f).From, To := (zK t (a - 1)).To }
abbrev zT7 : zF := ⟨0, 0, [], [], 0, 0⟩
def typ : Nat → List zC → Nat → zF × Nat × Int
  | 0, _, a => (zT7, a, 6)
  | n + 1, t, a =>
    if vW t a [105, 110, 116] = true then (jL t a (a + 1) ⟨1, 0, [], [], 0, 0⟩, a + 1, 0)
    else if vW t a [98, 111, 111, 108] = true then (jL t a (a + 1) ⟨2, 0, [], [], 0, 0⟩, a + 1, 0)
    else if (zK t a).K = 1 then (jL t a (a + 1) ⟨4, 0, (zK t a).S, [], 0, 0⟩, a + 1, 0)
    else if yB t a [91] = true then
      (if (zK t (a + 1)).K = 2 then
        (if yB t (a + 2) [93] = true then
          (if (typ n t (a + 3)).2.2 = 0 then (jL t a (typ n t (a + 3)).2.1 ⟨3, (zK t (a + 1)).N, [], [(typ n t (a + 3)).1], 0, 0⟩, (typ n t (a + 3)).2.1, 0) else (zT7, (typ n t (a + 3)).2.1, (typ n t (a + 3)).2.2))
        else (zT7, a + 2, 6))
      else (zT7, a + 1, 6))
    else (zT7, a, 6)
theorem zS {t : List zC} {a : Nat} {s : Str} (h : yB t a s = true) : a < t.length := uJ (by
  unfold yB at h
  simp only [Bool.and_eq_true, decide_eq_true_eq] at h
  rw [h.1]; decide)
theorem uR {t : List zC} {a : Nat} {s : Str} (h : vW t a s = true) : a < t.length := uJ (by
  unfold vW at h
  simp only [Bool.and_eq_true, decide_eq_true_eq] at h
  rw [h.1]; decide)
theorem y0c : ∀ (n : Nat) (t : List zC) (a : Nat), t.length < a + n → (typ n t a).2.2 = 0 → a < (typ n t a).2.1 ∧ (typ n t a).2.1 ≤ t.length
  | 0, t, a, _, h => by cases h
  | n + 1, t, a, hl, h => by
    rw [typ] at h ⊢
    by_cases h1 : vW t a [105, 110, 116] = true
    · rw [if_pos h1]; have := uR h1; exact ⟨by simp, this⟩
    rw [if_neg h1] at h ⊢
    by_cases h2 : vW t a [98, 111, 111, 108] = true
    · rw [if_pos h2]; have := uR h2; exact ⟨by simp, this⟩
    rw [if_neg h2] at h ⊢
    by_cases h3 : (zK t a).K = 1
    · rw [if_pos h3]; have := uJ (t := t) (a := a) (by rw [h3]; decide); exact ⟨by simp, this⟩
    rw [if_neg h3] at h ⊢
    by_cases h4 : yB t a [91] = true
    · rw [if_pos h4] at h ⊢
      by_cases h5 : (zK t (a + 1)).K = 2
      · rw [if_pos h5] at h ⊢
        by_cases h6 : yB t (a + 2) [93] = true
        · rw [if_pos h6] at h ⊢
          by_cases h7 : (typ n t (a + 3)).2.2 = 0
          · rw [if_pos h7]
            have := y0c n t (a + 3) (by omega) h7
            exact ⟨by show a < (typ n t (a + 3)).2.1; omega, this.2⟩
          · rw [if_neg h7] at h; exact absurd h h7
        · rw [if_neg h6] at h; cases h
      · rw [if_neg h5] at h; cases h
    · rw [if_neg h4] at h; cases h
inductive Res where
  | ok (x : zF) (b : Nat)
  | bad (b : Nat)
def z8O (x : zC) : Int × Nat :=
  if x.K = 4 then
    if x.S = [124, 124] then (1, 1)
    else if x.S = [38, 38] then (2, 2)
    else if x.S = [61, 61] then (3, 3)
    else if x.S = [33, 61] then (4, 3)
    else if x.S = [60] then (5, 3)
    else if x.S = [60, 61] then (6, 3)
    else if x.S = [62] then (7, 3)
    else if x.S = [62, 61] then (8, 3)
    else if x.S = [43] then (9, 4)
    else if x.S = [45] then (10, 4)
    else if x.S = [42] then (11, 5)
    else if x.S = [47] then (12, 5)
    else if x.S = [37] then (13, 5)
    else (0, 0)
  else (0, 0)
theorem z3c {x : zC} (h : (z8O x).2 ≠ 0) : x.K = 4 := by
  unfold z8O at h
  by_cases hk : x.K = 4
  · exact hk
  · rw [if_neg hk] at h; exact absurd rfl h
inductive AK where
  | one (k n : Int) (s : Str)
  | paren
  | call (k : Int) (s : Str) (o : Nat) (few : Bool)
  | lis
  | nm
  | no
def z0g (t : List zC) (a : Nat) : AK :=
  if (zK t a).K = 2 then .one 5 (zK t a).N []
  else if (zK t a).K = 1 then (if yB t (a + 1) [40] = true then .call 16 (zK t a).S (a + 1) true else .one 19 0 (zK t a).S)
  else if vW t a [116, 114, 117, 101] = true then .one 6 1 []
  else if vW t a [102, 97, 108, 115, 101] = true then .one 6 0 []
  else if vW t a [114, 101, 97, 100] = true then .one 18 0 []
  else if vW t a [110, 101, 119] = true then (if (zK t (a + 1)).K = 1 then .call 15 (zK t (a + 1)).S (a + 2) false else .nm)
  else if yB t a [40] = true then .paren
  else if yB t a [91] = true then .lis
  else if yB t a [64] = true then (if (zK t (a + 1)).K = 1 then .call 17 (zK t (a + 1)).S (a + 2) true else .nm)
  else .no
inductive Cat where
  | lev (k : Nat)
  | ll (k times f : Nat) (x : zF)
  | post
  | pl (f : Nat) (x : zF)
  | atom
  | cls (few : Bool)
  | lst (acc : List zF)
abbrev lT (l : List zF) : zF := ⟨0, 0, [], l, 0, 0⟩
inductive Der (t : List zC) : Cat → Nat → Res → Prop
  | un {a b : Nat} {n : Int} {x : zF} : (n = 1 ∧ yB t a [45] = true) ∨ (n = 2 ∧ yB t a [33] = true) → Der t (.lev 6) (a + 1) (.ok x b) → Der t (.lev 6) a (.ok (jL t a b ⟨11, n, [], [x], 0, 0⟩) b)
  | unB {a b : Nat} : yB t a [45] = true ∨ yB t a [33] = true → Der t (.lev 6) (a + 1) (.bad b) → Der t (.lev 6) a (.bad b)
  | unP {a : Nat} {r : Res} : yB t a [45] = false → yB t a [33] = false → Der t .post a r → Der t (.lev 6) a r
  | lev {k a b : Nat} {x : zF} {r : Res} : 1 ≤ k → k ≤ 5 → Der t (.lev (k + 1)) a (.ok x b) → Der t (.ll k 0 a x) b r → Der t (.lev k) a r
  | levB {k a b : Nat} : 1 ≤ k → k ≤ 5 → Der t (.lev (k + 1)) a (.bad b) → Der t (.lev k) a (.bad b)
  | llE {k m f a : Nat} {x : zF} : 1 ≤ k → (z8O (zK t a)).2 ≠ k ∨ (k = 3 ∧ m = 1) → Der t (.ll k m f x) a (.ok x a)
  | llG {k m f a b : Nat} {x y : zF} {r : Res} : 1 ≤ k → (z8O (zK t a)).2 = k → ¬ (k = 3 ∧ m = 1) → Der t (.lev (k + 1)) (a + 1) (.ok y b) → Der t (.ll k (m + 1) f (jL t f b ⟨10, (z8O (zK t a)).1, [], [x, y], 0, 0⟩)) b r → Der t (.ll k m f x) a r
  | llB {k m f a b : Nat} {x : zF} : 1 ≤ k → (z8O (zK t a)).2 = k → ¬ (k = 3 ∧ m = 1) → Der t (.lev (k + 1)) (a + 1) (.bad b) → Der t (.ll k m f x) a (.bad b)
  | post {a b : Nat} {x : zF} {r : Res} : Der t .atom a (.ok x b) → Der t (.pl a x) b r → Der t .post a r
  | postB {a b : Nat} : Der t .atom a (.bad b) → Der t .post a (.bad b)
  | plE {f a : Nat} {x : zF} : yB t a [91] = false → yB t a [46] = false → Der t (.pl f x) a (.ok x a)
  | plI {f a b : Nat} {x i : zF} {r : Res} : yB t a [91] = true → Der t (.lev 1) (a + 1) (.ok i b) → yB t b [93] = true → Der t (.pl f (jL t f (b + 1) ⟨12, 0, [], [x, i], 0, 0⟩)) (b + 1) r → Der t (.pl f x) a r
  | plI1 {f a b : Nat} {x : zF} : yB t a [91] = true → Der t (.lev 1) (a + 1) (.bad b) → Der t (.pl f x) a (.bad b)
  | plI2 {f a b : Nat} {x i : zF} : yB t a [91] = true → Der t (.lev 1) (a + 1) (.ok i b) → yB t b [93] = false → Der t (.pl f x) a (.bad b)
  | plF {f a : Nat} {x : zF} {r : Res} : yB t a [91] = false → yB t a [46] = true → (zK t (a + 1)).K = 1 → Der t (.pl f (jL t f (a + 2) ⟨13, 0, (zK t (a + 1)).S, [x], 0, 0⟩)) (a + 2) r → Der t (.pl f x) a r
  | plFB {f a : Nat} {x : zF} : yB t a [91] = false → yB t a [46] = true → (zK t (a + 1)).K ≠ 1 → Der t (.pl f x) a (.bad (a + 1))
  | one {a : Nat} {k n : Int} {s : Str} : z0g t a = .one k n s → Der t .atom a (.ok (jL t a (a + 1) ⟨k, n, s, [], 0, 0⟩) (a + 1))
  | par {a b : Nat} {x : zF} : z0g t a = .paren → Der t (.lev 1) (a + 1) (.ok x b) → yB t b [41] = true → Der t .atom a (.ok x (b + 1))
  | par1 {a b : Nat} : z0g t a = .paren → Der t (.lev 1) (a + 1) (.bad b) → Der t .atom a (.bad b)
  | par2 {a b : Nat} {x : zF} : z0g t a = .paren → Der t (.lev 1) (a + 1) (.ok x b) → yB t b [41] = false → Der t .atom a (.bad b)
  | call {a o b : Nat} {k : Int} {s : Str} {few : Bool} {l : List zF} : z0g t a = .call k s o few → Der t (.cls few) o (.ok (lT l) b) → Der t .atom a (.ok (jL t a b ⟨k, 0, s, l, 0, 0⟩) b)
  | callB {a o b : Nat} {k : Int} {s : Str} {few : Bool} : z0g t a = .call k s o few → Der t (.cls few) o (.bad b) → Der t .atom a (.bad b)
  | lis {a b : Nat} {l : List zF} : z0g t a = .lis → Der t (.lst []) (a + 1) (.ok (lT l) b) → yB t b [93] = true → Der t .atom a (.ok (jL t a (b + 1) ⟨14, 0, [], l, 0, 0⟩) (b + 1))
  | lis1 {a b : Nat} : z0g t a = .lis → Der t (.lst []) (a + 1) (.bad b) → Der t .atom a (.bad b)
  | lis2 {a b : Nat} {l : List zF} : z0g t a = .lis → Der t (.lst []) (a + 1) (.ok (lT l) b) → yB t b [93] = false → Der t .atom a (.bad b)
  | nm {a : Nat} : z0g t a = .nm → Der t .atom a (.bad (a + 1))
  | no {a : Nat} : z0g t a = .no → Der t .atom a (.bad a)
  | cls0 {a : Nat} {few : Bool} : yB t a [40] = false → Der t (.cls few) a (.bad a)
  | clsF {a : Nat} : yB t a [40] = true → yB t (a + 1) [41] = true → Der t (.cls true) a (.ok (lT []) (a + 2))
  | cls {a b : Nat} {few : Bool} {l : List zF} : yB t a [40] = true → (few = true → yB t (a + 1) [41] = false) → Der t (.lst []) (a + 1) (.ok (lT l) b) → yB t b [41] = true → Der t (.cls few) a (.ok (lT l) (b + 1))
  | cls1 {a b : Nat} {few : Bool} : yB t a [40] = true → (few = true → yB t (a + 1) [41] = false) → Der t (.lst []) (a + 1) (.bad b) → Der t (.cls few) a (.bad b)
  | cls2 {a b : Nat} {few : Bool} {l : List zF} : yB t a [40] = true → (few = true → yB t (a + 1) [41] = false) → Der t (.lst []) (a + 1) (.ok (lT l) b) → yB t b [41] = false → Der t (.cls few) a (.bad b)
  | lstE {a b : Nat} {acc : List zF} {x : zF} : Der t (.lev 1) a (.ok x b) → yB t b [44] = false → Der t (.lst acc) a (.ok (lT (acc ++ [x])) b)
  | lstG {a b : Nat} {acc : List zF} {x : zF} {r : Res} : Der t (.lev 1) a (.ok x b) → yB t b [44] = true → Der t (.lst (acc ++ [x])) (b + 1) r → Der t (.lst acc) a r
  | lstB {a b : Nat} {acc : List zF} : Der t (.lev 1) a (.bad b) → Der t (.lst acc) a (.bad b)
def InR (t : List zC) (c : Cat) (a : Nat) : Res → Prop
  | .ok x b => (match c with | .ll _ _ _ _ => a ≤ b | .pl _ _ => a ≤ b | _ => a < b) ∧ b ≤ t.length
  | .bad b => a ≤ b ∧ b ≤ t.length
theorem z0T {t : List zC} {a : Nat} (h : z0g t a ≠ .no) : a < t.length := by
  unfold z0g at h
  by_cases h1 : (zK t a).K = 2
  · exact uJ (by rw [h1]; decide)
  rw [if_neg h1] at h
  by_cases h2 : (zK t a).K = 1
  · exact uJ (by rw [h2]; decide)
  rw [if_neg h2] at h
  by_cases h3 : vW t a [116, 114, 117, 101] = true
  · exact uR h3
  rw [if_neg h3] at h
  by_cases h3 : vW t a [102, 97, 108, 115, 101] = true
  · exact uR h3
  rw [if_neg h3] at h
  by_cases h3 : vW t a [114, 101, 97, 100] = true
  · exact uR h3
  rw [if_neg h3] at h
  by_cases h3 : vW t a [110, 101, 119] = true
  · exact uR h3
  rw [if_neg h3] at h
  by_cases h3 : yB t a [40] = true
  · exact zS h3
  rw [if_neg h3] at h
  by_cases h3 : yB t a [91] = true
  · exact zS h3
  rw [if_neg h3] at h
  by_cases h3 : yB t a [64] = true
  · exact zS h3
  rw [if_neg h3] at h
  exact absurd rfl h
theorem z3G {t : List zC} {a o : Nat} {k : Int} {s : Str} {few : Bool} (h : z0g t a = .call k s o few) : a < o ∧ o ≤ t.length := by
  have h0 := z0T (t := t) (a := a) (by rw [h]; simp)
  unfold z0g at h
  repeat' split at h
  all_goals first
    | (cases h; done)
    | (injection h with h1 h2 h3 h4; subst h3; rename_i q; have := uJ (t := t) (a := a + 1) (by rw [q]; decide); omega)
    | (injection h with h1 h2 h3 h4; subst h3; omega)
theorem Der.inR {t : List zC} {c : Cat} {a : Nat} {r : Res} (h : Der t c a r) : a ≤ t.length → InR t c a r := by
  induction h with
  | un h1 _ ih =>
    intro _
    have ha : _ < t.length := h1.elim (fun h => zS h.2) (fun h => zS h.2)
    have := ih (by omega); simp only [InR] at this ⊢; omega
  | unB h1 _ ih =>
    intro _
    have ha : _ < t.length := h1.elim (fun h => zS h) (fun h => zS h)
    have := ih (by omega); simp only [InR] at this ⊢; omega
  | unP _ _ _ ih => intro h; exact ih h
  | @lev k a b x r h1 h2 _ _ ih1 ih2 =>
    intro h
    have q1 := ih1 h; simp only [InR] at q1
    have q2 := ih2 q1.2
    cases r <;> simp only [InR] at q2 ⊢ <;> omega
  | levB _ _ _ ih => intro h; exact ih h
  | llE _ _ => intro h; simp only [InR]; omega
  | @llG k m f a b x y r h1 h2 h3 _ _ ih1 ih2 =>
    intro h
    have ha := uJ (t := t) (a := a) (by rw [z3c (by omega)]; decide)
    have q1 := ih1 (by omega); simp only [InR] at q1
    have q2 := ih2 q1.2
    cases r <;> simp only [InR] at q2 ⊢ <;> omega
  | @llB k m f a b x h1 h2 h3 _ ih1 =>
    intro h
    have ha := uJ (t := t) (a := a) (by rw [z3c (by omega)]; decide)
    have q1 := ih1 (by omega); simp only [InR] at q1 ⊢; omega
  | @post a b x r _ _ ih1 ih2 =>
    intro h
    have q1 := ih1 h; simp only [InR] at q1
    have q2 := ih2 q1.2
    cases r <;> simp only [InR] at q2 ⊢ <;> omega
  | postB _ ih => intro h; exact ih h
  | plE _ _ => intro h; simp only [InR]; omega
  | @plI f a b x i r h1 _ h2 _ ih1 ih2 =>
    intro h
    have ha := zS h1
    have hb := zS h2
    have q1 := ih1 (by omega); simp only [InR] at q1
    have q2 := ih2 (by omega)
    cases r <;> simp only [InR] at q2 ⊢ <;> omega
  | plI1 h1 _ ih =>
    intro h
    have ha := zS h1
    have q1 := ih (by omega); simp only [InR] at q1 ⊢; omega
  | plI2 h1 _ _ ih =>
    intro h
    have ha := zS h1
    have q1 := ih (by omega); simp only [InR] at q1 ⊢; omega
  | @plF f a x r h0 h1 h2 _ ih =>
    intro h
    have ha := uJ (t := t) (a := a + 1) (by rw [h2]; decide)
    have q2 := ih (by omega)
    cases r <;> simp only [InR] at q2 ⊢ <;> omega
  | plFB _ h1 _ => intro h; have := zS h1; simp only [InR]; omega
  | one h1 => intro h; have := z0T (by rw [h1]; simp); simp only [InR]; omega
  | par h1 _ h2 ih =>
    intro h; have ha := z0T (by rw [h1]; simp); have hb := zS h2
    have q1 := ih (by omega); simp only [InR] at q1 ⊢; omega
  | par1 h1 _ ih =>
    intro h; have ha := z0T (by rw [h1]; simp)
    have q1 := ih (by omega); simp only [InR] at q1 ⊢; omega
  | par2 h1 _ _ ih =>
    intro h; have ha := z0T (by rw [h1]; simp)
    have q1 := ih (by omega); simp only [InR] at q1 ⊢; omega
  | call h1 _ ih =>
    intro h; have ha := z3G h1
    have q1 := ih (by omega); simp only [InR] at q1 ⊢; omega
  | callB h1 _ ih =>
    intro h; have ha := z3G h1
    have q1 := ih (by omega); simp only [InR] at q1 ⊢; omega
  | lis h1 _ h2 ih =>
    intro h; have ha := z0T (by rw [h1]; simp); have hb := zS h2
    have q1 := ih (by omega); simp only [InR] at q1 ⊢; omega
  | lis1 h1 _ ih =>
    intro h; have ha := z0T (by rw [h1]; simp)
    have q1 := ih (by omega); simp only [InR] at q1 ⊢; omega
  | lis2 h1 _ _ ih =>
    intro h; have ha := z0T (by rw [h1]; simp)
    have q1 := ih (by omega); simp only [InR] at q1 ⊢; omega
  | nm h1 => intro h; have ha := z0T (by rw [h1]; simp); simp only [InR]; omega
  | no _ => intro h; simp only [InR]; omega
  | cls0 _ => intro h; simp only [InR]; omega
  | clsF h1 h2 => intro h; have ha := zS h2; simp only [InR]; omega
  | cls h1 _ _ h2 ih =>
    intro h; have ha := zS h1; have hb := zS h2
    have q1 := ih (by omega); simp only [InR] at q1 ⊢; omega
  | cls1 h1 _ _ ih =>
    intro h; have ha := zS h1
    have q1 := ih (by omega); simp only [InR] at q1 ⊢; omega
  | cls2 h1 _ _ _ ih =>
    intro h; have ha := zS h1
    have q1 := ih (by omega); simp only [InR] at q1 ⊢; omega
  | lstE _ _ ih => intro h; have q1 := ih h; simp only [InR] at q1 ⊢; omega
  | @lstG a b acc x r _ h2 _ ih1 ih2 =>
    intro h; have hb := zS h2
    have q1 := ih1 h; simp only [InR] at q1
    have q2 := ih2 (by omega)
    cases r <;> simp only [InR] at q2 ⊢ <;> omega
  | lstB _ ih => intro h; have q1 := ih h; simp only [InR] at q1 ⊢; omega
theorem v2F (t : List zC) : ∀ (d a : Nat), a + d = t.length → ∀ k, 1 ≤ k → k ≤ 6 → ∃ r, Der t (.lev k) a r := by
  intro d
  induction d using Nat.strongRecOn with
  | _ d IH =>
    intro a had
    have up : ∀ b, a < b → b ≤ t.length → ∀ k, 1 ≤ k → k ≤ 6 → ∃ r, Der t (.lev k) b r := fun b h1 h2 k hk1 hk2 => IH (t.length - b) (by omega) b (by omega) k hk1 hk2
    have lst : ∀ (n b : Nat) (acc : List zF), a < b → b + n = t.length → ∃ r, Der t (.lst acc) b r ∧ ∀ x c, r = .ok x c → ∃ l, x = lT l := by
      intro n
      induction n using Nat.strongRecOn with
      | _ n ihn =>
        intro b acc h1 h2
        obtain ⟨r, hr⟩ := up b h1 (by omega) 1 (by omega) (by omega)
        have q := hr.inR (by omega)
        cases r with
        | bad c => exact ⟨_, .lstB hr, fun _ _ h => by cases h⟩
        | ok x c =>
          simp only [InR] at q
          cases hs : yB t c [44] with
          | false => exact ⟨_, .lstE hr hs, fun _ _ h => by cases h; exact ⟨_, rfl⟩⟩
          | true =>
            have := zS hs
            obtain ⟨r, h3, h4⟩ := ihn (t.length - (c + 1)) (by omega) (c + 1) (acc ++ [x]) (by omega) (by omega)
            exact ⟨r, .lstG hr hs h3, h4⟩
    have cls : ∀ (b : Nat) (few : Bool), a < b → b ≤ t.length → ∃ r, Der t (.cls few) b r ∧ ∀ x c, r = .ok x c → ∃ l, x = lT l := by
      intro b few h1 h2
      cases hs : yB t b [40] with
      | false => exact ⟨_, .cls0 hs, fun _ _ h => by cases h⟩
      | true =>
        have hb := zS hs
        by_cases hf : few = true ∧ yB t (b + 1) [41] = true
        · obtain ⟨rfl, h⟩ := hf
          exact ⟨_, .clsF hs h, fun _ _ h => by cases h; exact ⟨_, rfl⟩⟩
        · have hf' : few = true → yB t (b + 1) [41] = false := fun h => by
            cases h1 : yB t (b + 1) [41] with
            | false => rfl
            | true => exact absurd ⟨h, h1⟩ hf
          obtain ⟨r, h3, h4⟩ := lst (t.length - (b + 1)) (b + 1) [] (by omega) (by omega)
          cases r with
          | bad c => exact ⟨_, .cls1 hs hf' h3, fun _ _ h => by cases h⟩
          | ok x c =>
            obtain ⟨l, rfl⟩ := h4 x c rfl
            cases hc : yB t c [41] with
            | true => exact ⟨_, .cls hs hf' h3 hc, fun _ _ h => by cases h; exact ⟨_, rfl⟩⟩
            | false => exact ⟨_, .cls2 hs hf' h3 hc, fun _ _ h => by cases h⟩
    have atom : ∃ r, Der t .atom a r := by
      cases hk : z0g t a with
      | no => exact ⟨_, .no hk⟩
      | nm => exact ⟨_, .nm hk⟩
      | one k n s => exact ⟨_, .one hk⟩
      | paren =>
        have ha := z0T (t := t) (a := a) (by rw [hk]; simp)
        obtain ⟨r, hr⟩ := up (a + 1) (by omega) (by omega) 1 (by omega) (by omega)
        cases r with
        | bad c => exact ⟨_, .par1 hk hr⟩
        | ok x c =>
          cases hc : yB t c [41] with
          | true => exact ⟨_, .par hk hr hc⟩
          | false => exact ⟨_, .par2 hk hr hc⟩
      | call k s o few =>
        have ha := z3G hk
        obtain ⟨r, h3, h4⟩ := cls o few ha.1 ha.2
        cases r with
        | bad c => exact ⟨_, .callB hk h3⟩
        | ok x c =>
          obtain ⟨l, rfl⟩ := h4 x c rfl
          exact ⟨_, .call hk h3⟩
      | lis =>
        have ha := z0T (t := t) (a := a) (by rw [hk]; simp)
        obtain ⟨r, h3, h4⟩ := lst (t.length - (a + 1)) (a + 1) [] (by omega) (by omega)
        cases r with
        | bad c => exact ⟨_, .lis1 hk h3⟩
        | ok x c =>
          obtain ⟨l, rfl⟩ := h4 x c rfl
          cases hc : yB t c [93] with
          | true => exact ⟨_, .lis hk h3 hc⟩
          | false => exact ⟨_, .lis2 hk h3 hc⟩
    have pl : ∀ (n b : Nat) (x : zF), a < b → b + n = t.length → ∃ r, Der t (.pl a x) b r := by
      intro n
      induction n using Nat.strongRecOn with
      | _ n ihn =>
        intro b x h1 h2
        cases hs : yB t b [91] with
        | true =>
          have hb := zS hs
          obtain ⟨r, hr⟩ := up (b + 1) (by omega) (by omega) 1 (by omega) (by omega)
          have q := hr.inR (by omega)
          cases r with
          | bad c => exact ⟨_, .plI1 hs hr⟩
          | ok i c =>
            simp only [InR] at q
            cases hc : yB t c [93] with
            | false => exact ⟨_, .plI2 hs hr hc⟩
            | true =>
              have := zS hc
              obtain ⟨r, h3⟩ := ihn (t.length - (c + 1)) (by omega) (c + 1) _ (by omega) (by omega)
              exact ⟨r, .plI hs hr hc h3⟩
        | false =>
          cases hd : yB t b [46] with
          | false => exact ⟨_, .plE hs hd⟩
          | true =>
            by_cases hk : (zK t (b + 1)).K = 1
            · have := uJ (t := t) (a := b + 1) (by rw [hk]; decide)
              obtain ⟨r, h3⟩ := ihn (t.length - (b + 2)) (by omega) (b + 2) _ (by omega) (by omega)
              exact ⟨r, .plF hs hd hk h3⟩
            · exact ⟨_, .plFB hs hd hk⟩
    have post : ∃ r, Der t .post a r := by
      obtain ⟨r, hr⟩ := atom
      have q := hr.inR (by omega)
      cases r with
      | bad c => exact ⟨_, .postB hr⟩
      | ok x c =>
        simp only [InR] at q
        obtain ⟨r, h3⟩ := pl (t.length - c) c x (by omega) (by omega)
        exact ⟨r, .post hr h3⟩
    have un : ∃ r, Der t (.lev 6) a r := by
      by_cases hs : yB t a [45] = true ∨ yB t a [33] = true
      · have ha : a < t.length := hs.elim zS zS
        obtain ⟨r, hr⟩ := up (a + 1) (by omega) (by omega) 6 (by omega) (by omega)
        cases r with
        | bad c => exact ⟨_, .unB hs hr⟩
        | ok x c =>
          rcases hs with hs | hs
          · exact ⟨_, .un (n := 1) (.inl ⟨rfl, hs⟩) hr⟩
          · exact ⟨_, .un (n := 2) (.inr ⟨rfl, hs⟩) hr⟩
      · have h1 : yB t a [45] = false := by cases h : yB t a [45] <;> simp_all
        have h2 : yB t a [33] = false := by cases h : yB t a [33] <;> simp_all
        obtain ⟨r, hr⟩ := post
        exact ⟨r, .unP h1 h2 hr⟩
    have ll : ∀ (n b k m : Nat) (x : zF), a < b → b + n = t.length → 1 ≤ k → k ≤ 5 → ∃ r, Der t (.ll k m a x) b r := by
      intro n
      induction n using Nat.strongRecOn with
      | _ n ihn =>
        intro b k m x h1 h2 hk1 hk2
        by_cases ho : (z8O (zK t b)).2 ≠ k ∨ (k = 3 ∧ m = 1)
        · exact ⟨_, .llE hk1 ho⟩
        · have ho1 : (z8O (zK t b)).2 = k := by
            by_cases h : (z8O (zK t b)).2 = k
            · exact h
            · exact absurd (.inl h) ho
          have ho2 : ¬ (k = 3 ∧ m = 1) := fun h => ho (.inr h)
          have hb := uJ (t := t) (a := b) (by rw [z3c (by omega)]; decide)
          obtain ⟨r, hr⟩ := up (b + 1) (by omega) (by omega) (k + 1) (by omega) (by omega)
          have q := hr.inR (by omega)
          cases r with
          | bad c => exact ⟨_, .llB hk1 ho1 ho2 hr⟩
          | ok y c =>
            simp only [InR] at q
            obtain ⟨r, h3⟩ := ihn (t.length - c) (by omega) c k (m + 1) _ (by omega) (by omega) hk1 hk2
            exact ⟨r, .llG hk1 ho1 ho2 hr h3⟩
    have down : ∀ j, j ≤ 5 → ∃ r, Der t (.lev (6 - j)) a r := by
      intro j
      induction j with
      | zero => intro _; exact un
      | succ j ih =>
        intro hj
        obtain ⟨r, hr⟩ := ih (by omega)
        rw [show 6 - j = (6 - (j + 1)) + 1 by omega] at hr
        have q := hr.inR (by omega)
        cases r with
        | bad c => exact ⟨_, .levB (by omega) (by omega) hr⟩
        | ok x c =>
          simp only [InR] at q
          obtain ⟨r, h3⟩ := ll (t.length - c) c (6 - (j + 1)) 0 x (by omega) (by omega) (by omega) (by omega)
          exact ⟨r, .lev (by omega) (by omega) hr h3⟩
    intro k hk1 hk2
    have := down (6 - k) (by omega)
    rwa [show 6 - (6 - k) = k by omega] at this
theorem uZ {t : List zC} (hl : t.length ≤ 1048576) {a : Nat} (h : a ≤ t.length + 3) : IntKind.wrap .i64 ((a : Int) + 1) = ((a + 1 : Nat) : Int) := by rw [uU (by omega) (by omega)]; omega
theorem z8Z {t : List zC} (hl : t.length ≤ 1048576) {a : Nat} (h : a ≤ t.length + 3) : IntKind.wrap .i64 ((a : Int) + 2) = ((a + 2 : Nat) : Int) := by rw [uU (by omega) (by omega)]; omega
theorem y4r {t : List zC} {a : Nat} {s : Str} (h : yB t a s = true) : (zK t a).K = 4 ∧ (zK t a).S = s := by
  unfold yB at h
  simpa using h
theorem y2N {t : List zC} {a : Nat} {s : Str} (h : vW t a s = true) : (zK t a).K = 3 ∧ (zK t a).S = s := by
  unfold vW at h
  simpa using h
theorem y1Z {t : List zC} {a : Nat} (h : (zK t a).K ≠ 4) (s : Str) : yB t a s = false := by unfold yB; rw [decide_eq_false h]; rfl
theorem y2j {t : List zC} {a : Nat} (h : (zK t a).K ≠ 3) (s : Str) : vW t a s = false := by unfold vW; rw [decide_eq_false h]; rfl
theorem z8X {t : List zC} {a : Nat} {s s' : Str} (h : yB t a s = true) (hs : s ≠ s') : yB t a s' = false := by
  unfold yB; rw [(y4r h).2]; simp [hs]
theorem y3m {t : List zC} {a : Nat} {s s' : Str} (h : vW t a s = true) (hs : s ≠ s') : vW t a s' = false := by
  unfold vW; rw [(y2N h).2]; simp [hs]
theorem v0C (s : Str) : s = [124, 124] ∨ s = [38, 38] ∨ s = [61, 61] ∨ s = [33, 61] ∨ s = [60] ∨ s = [60, 61] ∨ s = [62] ∨ s = [62, 61] ∨ s = [43] ∨ s = [45] ∨ s = [42] ∨ s = [47] ∨ s = [37] ∨
    (s ≠ [124, 124] ∧ s ≠ [38, 38] ∧ s ≠ [61, 61] ∧ s ≠ [33, 61] ∧ s ≠ [60] ∧ s ≠ [60, 61] ∧ s ≠ [62] ∧ s ≠ [62, 61] ∧ s ≠ [43] ∧ s ≠ [45] ∧ s ≠ [42] ∧ s ≠ [47] ∧ s ≠ [37]) := by
  by_cases h : s ∈ ([[124, 124], [38, 38], [61, 61], [33, 61], [60], [60, 61], [62], [62, 61], [43], [45], [42], [47], [37]] : List Str)
  · simp only [List.mem_cons, List.not_mem_nil, or_false] at h
    rcases h with h | h | h | h | h | h | h | h | h | h | h | h | h <;> simp [h]
  · simp only [List.mem_cons, List.not_mem_nil, or_false, not_or] at h
    simp only [h, false_or]
    exact h
theorem y7T {x : zC} (h : 1 ≤ (z8O x).2) : (z8O x).1 ≠ 0 := by
  have hk := z3c (x := x) (by omega)
  unfold z8O at h ⊢
  rcases v0C x.S with e | e | e | e | e | e | e | e | e | e | e | e | e | ⟨e1, e2, e3, e4, e5, e6, e7, e8, e9, e10, e11, e12, e13⟩
  case inr.inr.inr.inr.inr.inr.inr.inr.inr.inr.inr.inr.inr => simp [hk, e1, e2, e3, e4, e5, e6, e7, e8, e9, e10, e11, e12, e13] at h
  all_goals (simp only [hk, e]; decide)
theorem y3a {n : Nat} (h : n ≤ 1048577) : z0C 72 n := by unfold z0C; omega
theorem z2I {t : List zC} {a : Nat} (h : z0g t a = .paren) : yB t a [40] = true := by
  unfold z0g at h
  repeat' split at h
  all_goals first | (cases h; done) | assumption
theorem y9p {t : List zC} {a : Nat} (h : z0g t a = .lis) : yB t a [91] = true := by
  unfold z0g at h
  repeat' split at h
  all_goals first | (cases h; done) | assumption
theorem y6m {t : List zC} {a o : Nat} {k : Int} {s : Str} {few : Bool} (h : z0g t a = .call k s o few) :
    (k = 16 ∧ s = (zK t a).S ∧ o = a + 1 ∧ few = true ∧ (zK t a).K = 1 ∧ yB t (a + 1) [40] = true) ∨ (k = 15 ∧ s = (zK t (a + 1)).S ∧ o = a + 2 ∧ few = false ∧ vW t a [110, 101, 119] = true ∧ (zK t (a + 1)).K = 1) ∨
    (k = 17 ∧ s = (zK t (a + 1)).S ∧ o = a + 2 ∧ few = true ∧ yB t a [64] = true ∧ (zK t (a + 1)).K = 1) := by
  unfold z0g at h
  repeat' split at h
  all_goals first
    | (cases h; done)
    | (injection h with e1 e2 e3 e4; subst e1; subst e2; subst e3; subst e4
       first
       | exact .inl ⟨rfl, rfl, rfl, rfl, by assumption, by assumption⟩
       | exact .inr (.inl ⟨rfl, rfl, rfl, rfl, by assumption, by assumption⟩)
       | exact .inr (.inr ⟨rfl, rfl, rfl, rfl, by assumption, by assumption⟩))
theorem v1g {t : List zC} {a : Nat} (h : z0g t a = .nm) : (vW t a [110, 101, 119] = true ∨ yB t a [64] = true) ∧ (zK t (a + 1)).K ≠ 1 := by
  unfold z0g at h
  repeat' split at h
  all_goals first
    | (cases h; done)
    | exact ⟨.inl (by assumption), by assumption⟩
    | exact ⟨.inr (by assumption), by assumption⟩
theorem v1h {t : List zC} {a : Nat} (h : z0g t a = .no) : (zK t a).K ≠ 2 ∧ (zK t a).K ≠ 1 ∧ vW t a [116, 114, 117, 101] = false ∧ vW t a [102, 97, 108, 115, 101] = false ∧ vW t a [114, 101, 97, 100] = false ∧ vW t a [110, 101, 119] = false ∧
    yB t a [40] = false ∧ yB t a [91] = false ∧ yB t a [64] = false := by
  unfold z0g at h
  repeat' split at h
  all_goals first
    | (cases h; done)
    | (refine ⟨by assumption, by assumption, ?_, ?_, ?_, ?_, ?_, ?_, ?_⟩ <;> (first | (apply Bool.eq_false_iff.2; assumption)))
def z7i (n : Int) : Nat := if n = 1 then 1 else if n = 2 then 2 else if n ≤ 8 then 3 else if n ≤ 10 then 4 else 5
def v0z (n : Int) : Str :=
  if n = 1 then [124, 124] else if n = 2 then [38, 38] else if n = 3 then [61, 61] else if n = 4 then [33, 61] else if n = 5 then [60] else if n = 6 then [60, 61] else if n = 7 then [62] else if n = 8 then [62, 61]
  else if n = 9 then [43] else if n = 10 then [45] else if n = 11 then [42] else if n = 12 then [47] else [37]
def bnd (t : zF) : Nat := if t.K = 10 then z7i t.N else if t.K = 11 then 6 else 7
def hw (least : Nat) (x : zF) (w : List Str) : List Str := if least ≤ bnd x then w else [[40]] ++ w ++ [[41]]
def y6a (n : Int) : Nat := if z7i n = 3 then 4 else z7i n
def y1T (k : Int) (s : Str) : List Str := if k = 16 then [s] else if k = 17 then [[64], s] else [[110, 101, 119], s]
abbrev Nm (s : Str) : Prop := Tok 1 0 s s
inductive XC where
  | ex (x : zF)
  | ls (l : List zF)
inductive PR : XC → List Str → Prop
  | num {n : Nat} {F T : Int} : n ≤ 9223372036854775807 → Tok 2 n [] (z9i n) → PR (.ex ⟨5, (n : Int), [], [], F, T⟩) [z9i n]
  | tru {F T : Int} : PR (.ex ⟨6, 1, [], [], F, T⟩) [[116, 114, 117, 101]]
  | fal {F T : Int} : PR (.ex ⟨6, 0, [], [], F, T⟩) [[102, 97, 108, 115, 101]]
  | rd {F T : Int} : PR (.ex ⟨18, 0, [], [], F, T⟩) [[114, 101, 97, 100]]
  | name {s : Str} {F T : Int} : Nm s → PR (.ex ⟨19, 0, s, [], F, T⟩) [s]
  | bin {n : Int} {x y : zF} {wx wy : List Str} {F T : Int} : 1 ≤ n → n ≤ 13 → PR (.ex x) wx → PR (.ex y) wy → PR (.ex ⟨10, n, [], [x, y], F, T⟩) (hw (y6a n) x wx ++ [v0z n] ++ hw (z7i n + 1) y wy)
  | neg {x : zF} {wx : List Str} {F T : Int} : PR (.ex x) wx → PR (.ex ⟨11, 1, [], [x], F, T⟩) ([[45]] ++ hw 6 x wx)
  | not {x : zF} {wx : List Str} {F T : Int} : PR (.ex x) wx → PR (.ex ⟨11, 2, [], [x], F, T⟩) ([[33]] ++ hw 6 x wx)
  | index {x i : zF} {wx wi : List Str} {F T : Int} : PR (.ex x) wx → PR (.ex i) wi → PR (.ex ⟨12, 0, [], [x, i], F, T⟩) (hw 7 x wx ++ [[91]] ++ wi ++ [[93]])
  | field {s : Str} {x : zF} {wx : List Str} {F T : Int} : Nm s → PR (.ex x) wx → PR (.ex ⟨13, 0, s, [x], F, T⟩) (hw 7 x wx ++ [[46], s])
  | lis {l : List zF} {w : List Str} {F T : Int} : PR (.ls l) w → PR (.ex ⟨14, 0, [], l, F, T⟩) ([[91]] ++ w ++ [[93]])
  | call {k : Int} {s : Str} {l : List zF} {w : List Str} {F T : Int} : k = 15 ∨ k = 16 ∨ k = 17 → Nm s → PR (.ls l) w → PR (.ex ⟨k, 0, s, l, F, T⟩) (y1T k s ++ [[40]] ++ w ++ [[41]])
  | call0 {k : Int} {s : Str} {F T : Int} : k = 16 ∨ k = 17 → Nm s → PR (.ex ⟨k, 0, s, [], F, T⟩) (y1T k s ++ [[40]] ++ [] ++ [[41]])
  | one {x : zF} {w : List Str} : PR (.ex x) w → PR (.ls [x]) w
  | cons {x : zF} {l : List zF} {w wl : List Str} : PR (.ex x) w → PR (.ls l) wl → PR (.ls (x :: l)) (w ++ [[44]] ++ wl)
def szw : List Str → Nat
  | [] => 0
  | w :: r => w.length + 1 + szw r
theorem zD (a b : List Str) : szw (a ++ b) = szw a + szw b := by
  induction a with
  | nil => simp [szw]
  | cons x r ih => simp [szw, ih]; omega
theorem z6P (k : Nat) (x : zF) (w : List Str) : szw (hw k x w) ≤ szw w + 4 := by
  unfold hw; split
  · omega
  · rw [zD, zD]; simp [szw]; omega
theorem v1J {x : zC} (h : (z8O x).2 ≠ 0) : 1 ≤ (z8O x).1 ∧ (z8O x).1 ≤ 13 ∧ v0z (z8O x).1 = x.S ∧ z7i (z8O x).1 = (z8O x).2 := by
  have hk := z3c h
  unfold z8O at h ⊢
  rw [if_pos hk] at h ⊢
  by_cases c0 : x.S = [124, 124]
  · rw [if_pos c0, c0]; exact ⟨by decide, by decide, rfl, rfl⟩
  rw [if_neg c0] at h ⊢
  by_cases c1 : x.S = [38, 38]
  · rw [if_pos c1, c1]; exact ⟨by decide, by decide, rfl, rfl⟩
  rw [if_neg c1] at h ⊢
  by_cases c2 : x.S = [61, 61]
  · rw [if_pos c2, c2]; exact ⟨by decide, by decide, rfl, rfl⟩
  rw [if_neg c2] at h ⊢
  by_cases c3 : x.S = [33, 61]
  · rw [if_pos c3, c3]; exact ⟨by decide, by decide, rfl, rfl⟩
  rw [if_neg c3] at h ⊢
  by_cases c4 : x.S = [60]
  · rw [if_pos c4, c4]; exact ⟨by decide, by decide, rfl, rfl⟩
  rw [if_neg c4] at h ⊢
  by_cases c5 : x.S = [60, 61]
  · rw [if_pos c5, c5]; exact ⟨by decide, by decide, rfl, rfl⟩
  rw [if_neg c5] at h ⊢
  by_cases c6 : x.S = [62]
  · rw [if_pos c6, c6]; exact ⟨by decide, by decide, rfl, rfl⟩
  rw [if_neg c6] at h ⊢
  by_cases c7 : x.S = [62, 61]
  · rw [if_pos c7, c7]; exact ⟨by decide, by decide, rfl, rfl⟩
  rw [if_neg c7] at h ⊢
  by_cases c8 : x.S = [43]
  · rw [if_pos c8, c8]; exact ⟨by decide, by decide, rfl, rfl⟩
  rw [if_neg c8] at h ⊢
  by_cases c9 : x.S = [45]
  · rw [if_pos c9, c9]; exact ⟨by decide, by decide, rfl, rfl⟩
  rw [if_neg c9] at h ⊢
  by_cases c10 : x.S = [42]
  · rw [if_pos c10, c10]; exact ⟨by decide, by decide, rfl, rfl⟩
  rw [if_neg c10] at h ⊢
  by_cases c11 : x.S = [47]
  · rw [if_pos c11, c11]; exact ⟨by decide, by decide, rfl, rfl⟩
  rw [if_neg c11] at h ⊢
  by_cases c12 : x.S = [37]
  · rw [if_pos c12, c12]; exact ⟨by decide, by decide, rfl, rfl⟩
  rw [if_neg c12] at h ⊢
  exact absurd rfl h
mutual
def wW : zF → Nat
  | ⟨_, _, _, l, _, _⟩ => 1 + zV l
def zV : List zF → Nat
  | [] => 0
  | x :: r => wW x + zV r
end
theorem y4v (t : zF) : wW t = 1 + zV t.L := by cases t; simp [wW]
theorem v0O (t : zF) : 0 < wW t := by rw [y4v]; omega
theorem y7r {l : List zF} {i : Nat} (h : i < l.length) : zV (l.drop i) = wW l[i] + zV (l.drop (i + 1)) := by
  rw [List.drop_eq_getElem_cons h, zV]
theorem y9a (l : List zF) : l.length ≤ zV l := by
  induction l with
  | nil => simp [zV]
  | cons x r ih => have := v0O x; simp [zV]; omega
theorem y7s (l : List zF) (i : Nat) : zV l = zV (l.take i) + zV (l.drop i) := by
  induction l generalizing i with
  | nil => simp [zV]
  | cons x r ih =>
    cases i with
    | zero => simp [zV]
    | succ i => simp [zV, ih i]; omega
theorem z3K (a b : List zF) : zV (a ++ b) = zV a + zV b := by
  induction a with
  | nil => simp [zV]
  | cons x r ih => simp [zV, ih]; omega
def SzM (t : List zC) : Cat → Nat → Res → Prop
  | .ll _ _ _ x, a, r => ∀ y b, r = .ok y b → wW y + 2 * a ≤ wW x + 2 * b
  | .pl _ x, a, r => ∀ y b, r = .ok y b → wW y + 2 * a ≤ wW x + 2 * b
  | .cls _, a, r => ∀ y b, r = .ok y b → zV y.L + 2 * a ≤ 2 * b
  | .lst acc, a, r => ∀ y b, r = .ok y b → zV y.L + 2 * a ≤ zV acc + 2 * b
  | _, a, r => ∀ y b, r = .ok y b → wW y + 2 * a ≤ 2 * b
theorem v0I {t : List zC} {c : Cat} {a : Nat} {r : Res} (h : Der t c a r) : SzM t c a r := by
  induction h with
  | un _ _ ih => intro y b e; cases e; have := ih _ _ rfl; simp [jL, wW, zV]; omega
  | unP _ _ _ ih => exact ih
  | lev _ _ _ _ ih1 ih2 => intro y b e; have := ih1 _ _ rfl; have := ih2 y b e; omega
  | llE _ _ => intro y b e; cases e; omega
  | llG _ _ _ _ _ ih1 ih2 => intro y b e; have := ih1 _ _ rfl; have := ih2 y b e; simp [jL, wW, zV] at this; omega
  | post _ _ ih1 ih2 => intro y b e; have := ih1 _ _ rfl; have := ih2 y b e; omega
  | plE _ _ => intro y b e; cases e; omega
  | plI _ _ _ _ ih1 ih2 => intro y b e; have := ih1 _ _ rfl; have := ih2 y b e; simp [jL, wW, zV] at this; omega
  | plF _ _ _ _ ih => intro y b e; have := ih y b e; simp [jL, wW, zV] at this; omega
  | one _ => intro y b e; cases e; simp [jL, wW, zV]; omega
  | par _ _ _ ih => intro y b e; cases e; have := ih _ _ rfl; omega
  | @call a o b k s few l h1 _ ih => intro y b' e; cases e; have h2 := ih _ _ rfl; have h3 := z3G h1; simp only [jL, wW] at h2 ⊢; omega
  | lis _ _ _ ih => intro y b e; cases e; have := ih _ _ rfl; simp [jL, wW, zV] at this ⊢; omega
  | clsF _ _ => intro y b e; cases e; simp [zV]; omega
  | cls _ _ _ _ ih => intro y b e; cases e; have := ih _ _ rfl; simp [zV] at this ⊢; omega
  | lstE _ _ ih => intro y b e; cases e; have := ih _ _ rfl; simp [z3K, zV]; omega
  | lstG _ _ _ ih1 ih2 => intro y b e; have := ih1 _ _ rfl; have := ih2 y b e; simp [z3K, zV] at this; omega
  | _ => intro y b e; cases e
theorem v3r {t : List zC} {k a b : Nat} {x : zF} (h : Der t (.lev k) a (.ok x b)) : wW x + 2 * a ≤ 2 * b := v0I h x b rfl
def Chn (q : Int) : Int → List zF → Prop
  | _, [] => True
  | p, x :: r => p ≤ x.From ∧ x.From ≤ x.To ∧ x.To ≤ q ∧ Chn q x.To r
inductive Wn : zF → Prop
  | mk (t : zF) : Chn t.To t.From t.L → (∀ x ∈ t.L, Wn x) → Wn t
theorem Chn.mono {q q' : Int} (hq : q ≤ q') : ∀ {l : List zF} {p p' : Int}, p' ≤ p → Chn q p l → Chn q' p' l
  | [], _, _, _, _ => trivial
  | x :: r, p, p', hp, ⟨h1, h2, h3, h4⟩ => ⟨by omega, h2, by omega, Chn.mono hq (Int.le_refl _) h4⟩
theorem Chn.snoc {q : Int} {x : zF} (h1 : x.From ≤ x.To) (h2 : x.To ≤ q) : ∀ {l : List zF} {p q0 : Int}, Chn q0 p l → q0 ≤ x.From → p ≤ q0 → Chn q p (l ++ [x])
  | [], p, q0, _, h3, h4 => ⟨by omega, h1, h2, trivial⟩
  | y :: r, p, q0, ⟨g1, g2, g3, g4⟩, h3, h4 => ⟨g1, g2, by omega, Chn.snoc h1 h2 g4 h3 g3⟩
def Mon (t : List zC) : Prop := ∀ i j, i ≤ j → j < t.length → (zK t i).From ≤ (zK t i).To ∧ (i < j → (zK t i).To ≤ (zK t j).From)
theorem v0i : ∀ {l : List zC} {a : Nat}, Ord a l → (∀ i, i < l.length → (a : Int) ≤ (zK l i).From) ∧ Mon l
  | [], a, h => h.elim
  | x :: r, a, ⟨f, t, h1, h2, h3, h4, h5⟩ => by
    have c0 : zK (x :: r) 0 = x := rfl
    have cs : ∀ i, zK (x :: r) (i + 1) = zK r i := fun i => rfl
    rcases h5 with ⟨rfl, -⟩ | ⟨-, h5⟩
    · refine ⟨fun i hi => ?_, fun i j hij hj => ?_⟩
      · have : i = 0 := by simpa using hi
        subst this; rw [c0]; omega
      · have : j = 0 := by simpa using hj
        have : i = 0 := by omega
        subst this; rw [c0]; exact ⟨by omega, fun h => by omega⟩
    · obtain ⟨g1, g2⟩ := v0i h5
      refine ⟨fun i hi => ?_, fun i j hij hj => ?_⟩
      · cases i with
        | zero => rw [c0]; omega
        | succ i => rw [cs]; have := g1 i (by simpa using hi); omega
      · cases i with
        | zero =>
          rw [c0]
          refine ⟨by omega, fun h => ?_⟩
          cases j with
          | zero => omega
          | succ j => rw [cs]; have := g1 j (by simpa using hj); omega
        | succ i =>
          cases j with
          | zero => omega
          | succ j => rw [cs, cs]; have := g2 i j (by omega) (by simpa using hj); exact ⟨this.1, fun h => this.2 (by omega)⟩
def Bt (t : List zC) (a b : Nat) (x : zF) : Prop := (zK t a).From ≤ x.From ∧ x.From ≤ x.To ∧ x.To ≤ (zK t (b - 1)).To ∧ Wn x
def byt (t : List zC) (a b : Nat) : Int := (zK t (b - 1)).To - (zK t a).From
def PXM (t : List zC) (c : Cat) (a : Nat) (r : Res) : Prop := ∀ x b, r = .ok x b → match c with
  | .ll _ _ f y => ∀ wy, f < a → PR (.ex y) wy → ((szw wy + 4 : Nat) : Int) ≤ 8 * byt t f a → ∃ w, PR (.ex x) w ∧ a ≤ b ∧ b ≤ t.length ∧ ((szw w + 4 : Nat) : Int) ≤ 8 * byt t f b
  | .pl f y => ∀ wy, f < a → PR (.ex y) wy → ((szw wy + 4 : Nat) : Int) ≤ 8 * byt t f a → ∃ w, PR (.ex x) w ∧ a ≤ b ∧ b ≤ t.length ∧ ((szw w + 4 : Nat) : Int) ≤ 8 * byt t f b
  | .cls few => ∃ l w, x = lT l ∧ ((few = true ∧ l = [] ∧ w = []) ∨ PR (.ls l) w) ∧ a < b ∧ b ≤ t.length ∧ ((szw w + 16 : Nat) : Int) ≤ 8 * byt t a b
  | .lst acc => ∃ l w, x = lT (acc ++ l) ∧ PR (.ls l) w ∧ a < b ∧ b ≤ t.length ∧ ((szw w + 4 : Nat) : Int) ≤ 8 * byt t a b
  | _ => ∃ w, PR (.ex x) w ∧ a < b ∧ b ≤ t.length ∧ ((szw w + 4 : Nat) : Int) ≤ 8 * byt t a b
section
variable {t : List zC} (tf : TF t) (hm : Mon t)
include tf hm
theorem v1a {a : Nat} (h : a < t.length) : v3I (zK t a) := by
  unfold zK; rw [List.getElem?_eq_getElem h]; exact tf _ (List.getElem_mem h)
theorem v3e {i j : Nat} (h1 : i < j) (h2 : j < t.length) : (zK t i).To ≤ (zK t j).From := (hm i j (by omega) h2).2 h1
theorem z1i {a : Nat} {s : Str} (h : yB t a s = true) : a < t.length ∧ (s.length : Int) = (zK t a).To - (zK t a).From := by
  have h0 := zS h
  unfold yB at h
  simp only [Bool.and_eq_true, decide_eq_true_eq, beq_iff_eq] at h
  have := (v1a tf hm h0).le (by rw [h.1]; decide) (by rw [h.1]; decide)
  rw [h.2] at this; exact ⟨h0, this⟩
theorem y0D {a : Nat} {s : Str} (h : vW t a s = true) : a < t.length ∧ (s.length : Int) = (zK t a).To - (zK t a).From := by
  have h0 := uR h
  have hk := y2N h
  have := (v1a tf hm h0).le (by rw [hk.1]; decide) (by rw [hk.1]; decide)
  rw [hk.2] at this; exact ⟨h0, this⟩
theorem z9r {a : Nat} (h : (zK t a).K = 1) : a < t.length ∧ Nm (zK t a).S ∧ ((zK t a).S.length : Int) = (zK t a).To - (zK t a).From ∧ 1 ≤ (zK t a).To - (zK t a).From := by
  have h0 := uJ (t := t) (a := a) (by rw [h]; decide)
  have f := v1a tf hm h0
  exact ⟨h0, f.nm h, f.le (by rw [h]; decide) (by rw [h]; decide), f.po (by rw [h]; decide)⟩
theorem v3v {a : Nat} {k n : Int} {s : Str} (h : z0g t a = .one k n s) (F T : Int) : a < t.length ∧ ∃ w, PR (.ex ⟨k, n, s, [], F, T⟩) w ∧ ((szw w + 4 : Nat) : Int) ≤ 8 * ((zK t a).To - (zK t a).From) := by
  unfold z0g at h
  by_cases h2 : (zK t a).K = 2
  · rw [if_pos h2] at h
    simp only [AK.one.injEq] at h
    obtain ⟨rfl, rfl, rfl⟩ := h
    have h0 := uJ (t := t) (a := a) (by rw [h2]; decide)
    have f := v1a tf hm h0
    obtain ⟨n, g1, g2, g3, g4⟩ := f.nu h2
    have g5 := f.po (by rw [h2]; decide)
    rw [g1]
    exact ⟨h0, _, .num g2 g3, by simp only [szw]; omega⟩
  rw [if_neg h2] at h
  by_cases h1 : (zK t a).K = 1
  · rw [if_pos h1] at h
    by_cases h3 : yB t (a + 1) [40] = true
    · rw [if_pos h3] at h; cases h
    · rw [if_neg h3] at h
      simp only [AK.one.injEq] at h
      obtain ⟨rfl, rfl, rfl⟩ := h
      obtain ⟨g0, g1, g2, g3⟩ := z9r tf hm h1
      exact ⟨g0, _, .name g1, by simp only [szw]; omega⟩
  rw [if_neg h1] at h
  by_cases h3 : vW t a [116, 114, 117, 101] = true
  · rw [if_pos h3] at h
    simp only [AK.one.injEq] at h
    obtain ⟨rfl, rfl, rfl⟩ := h
    obtain ⟨g0, g1⟩ := y0D tf hm h3
    exact ⟨g0, _, .tru, by rw [← g1]; decide⟩
  rw [if_neg h3] at h
  by_cases h4 : vW t a [102, 97, 108, 115, 101] = true
  · rw [if_pos h4] at h
    simp only [AK.one.injEq] at h
    obtain ⟨rfl, rfl, rfl⟩ := h
    obtain ⟨g0, g1⟩ := y0D tf hm h4
    exact ⟨g0, _, .fal, by rw [← g1]; decide⟩
  rw [if_neg h4] at h
  by_cases h5 : vW t a [114, 101, 97, 100] = true
  · rw [if_pos h5] at h
    simp only [AK.one.injEq] at h
    obtain ⟨rfl, rfl, rfl⟩ := h
    obtain ⟨g0, g1⟩ := y0D tf hm h5
    exact ⟨g0, _, .rd, by rw [← g1]; decide⟩
  rw [if_neg h5] at h
  exfalso
  revert h
  repeat' split
  all_goals (intro h; cases h)
theorem v2z {a o : Nat} {k : Int} {s : Str} {few : Bool} (h : z0g t a = .call k s o few) : Nm s ∧ (k = 15 ∨ k = 16 ∨ k = 17) ∧ (few = true → k = 16 ∨ k = 17) ∧ a < o ∧ o ≤ t.length ∧ (szw (y1T k s) : Int) ≤ 8 * byt t a o := by
  unfold z0g at h
  by_cases h2 : (zK t a).K = 2
  · rw [if_pos h2] at h; cases h
  rw [if_neg h2] at h
  by_cases h1 : (zK t a).K = 1
  · rw [if_pos h1] at h
    by_cases h3 : yB t (a + 1) [40] = true
    · rw [if_pos h3] at h
      simp only [AK.call.injEq] at h
      obtain ⟨rfl, rfl, rfl, rfl⟩ := h
      obtain ⟨g0, g1, g2, g3⟩ := z9r tf hm h1
      refine ⟨g1, by omega, fun _ => by omega, by omega, by omega, ?_⟩
      unfold byt y1T
      rw [if_pos rfl, Nat.add_sub_cancel]; simp only [szw]; omega
    · rw [if_neg h3] at h; cases h
  rw [if_neg h1] at h
  by_cases h3 : vW t a [116, 114, 117, 101] = true
  · rw [if_pos h3] at h; cases h
  rw [if_neg h3] at h
  by_cases h4 : vW t a [102, 97, 108, 115, 101] = true
  · rw [if_pos h4] at h; cases h
  rw [if_neg h4] at h
  by_cases h5 : vW t a [114, 101, 97, 100] = true
  · rw [if_pos h5] at h; cases h
  rw [if_neg h5] at h
  by_cases h6 : vW t a [110, 101, 119] = true
  · rw [if_pos h6] at h
    by_cases h7 : (zK t (a + 1)).K = 1
    · rw [if_pos h7] at h
      simp only [AK.call.injEq] at h
      obtain ⟨rfl, rfl, rfl, rfl⟩ := h
      obtain ⟨q0, q1⟩ := y0D tf hm h6
      obtain ⟨g0, g1, g2, g3⟩ := z9r tf hm h7
      have := v3e tf hm (show a < a + 1 by omega) g0
      refine ⟨g1, by omega, fun h => by simp at h, by omega, by omega, ?_⟩
      unfold byt y1T
      rw [if_neg (by decide), if_neg (by decide), show a + 2 - 1 = a + 1 by omega]; simp only [szw, List.length_cons, List.length_nil] at q1 ⊢; omega
    · rw [if_neg h7] at h; cases h
  rw [if_neg h6] at h
  by_cases h7 : yB t a [40] = true
  · rw [if_pos h7] at h; cases h
  rw [if_neg h7] at h
  by_cases h8 : yB t a [91] = true
  · rw [if_pos h8] at h; cases h
  rw [if_neg h8] at h
  by_cases h9 : yB t a [64] = true
  · rw [if_pos h9] at h
    by_cases h7 : (zK t (a + 1)).K = 1
    · rw [if_pos h7] at h
      simp only [AK.call.injEq] at h
      obtain ⟨rfl, rfl, rfl, rfl⟩ := h
      obtain ⟨q0, q1⟩ := z1i tf hm h9
      obtain ⟨g0, g1, g2, g3⟩ := z9r tf hm h7
      have := v3e tf hm (show a < a + 1 by omega) g0
      refine ⟨g1, by omega, fun _ => by omega, by omega, by omega, ?_⟩
      unfold byt y1T
      rw [if_neg (by decide), if_pos rfl, show a + 2 - 1 = a + 1 by omega]; simp only [szw, List.length_cons, List.length_nil] at q1 ⊢; omega
    · rw [if_neg h7] at h; cases h
  rw [if_neg h9] at h
  cases h
theorem y7z {a : Nat} : (z0g t a = .paren → yB t a [40] = true) ∧ (z0g t a = .lis → yB t a [91] = true) := by
  unfold z0g
  repeat' split
  all_goals (first | exact ⟨fun h => AK.noConfusion h, fun h => AK.noConfusion h⟩ | (rename_i h; exact ⟨fun _ => h, fun h => AK.noConfusion h⟩) | (rename_i h; exact ⟨fun h => AK.noConfusion h, fun _ => h⟩))
theorem z1f {f a b : Nat} (h1 : f < a) (h2 : a < b) (h3 : b ≤ t.length) : byt t f a + byt t a b ≤ byt t f b := by
  unfold byt
  have := v3e tf hm (show a - 1 < a by omega) (show a < t.length by omega)
  omega
theorem z3p {a : Nat} : byt t a (a + 1) = (zK t a).To - (zK t a).From := by unfold byt; rw [Nat.add_sub_cancel]
theorem v3o {c : Cat} {a : Nat} {r : Res} (h : Der t c a r) : a ≤ t.length → PXM t c a r := by
  induction h with
  | @un a b n x h1 h2 ih =>
    intro ha y b' e
    cases e
    have hs : a < t.length ∧ (1 : Int) = (zK t a).To - (zK t a).From := by
      rcases h1 with ⟨-, h⟩ | ⟨-, h⟩ <;> exact z1i tf hm h
    obtain ⟨w, g1, g2, g3, g4⟩ := ih (by omega) x b rfl
    have e1 := z1f tf hm (show a < a + 1 by omega) g2 g3
    rw [z3p tf hm] at e1
    have e2 := z6P 6 x w
    rcases h1 with ⟨rfl, h⟩ | ⟨rfl, h⟩
    · exact ⟨_, .neg g1, by omega, g3, by rw [zD]; simp only [szw, List.length_cons, List.length_nil]; omega⟩
    · exact ⟨_, .not g1, by omega, g3, by rw [zD]; simp only [szw, List.length_cons, List.length_nil]; omega⟩
  | unB _ _ _ => intro _ x b e; cases e
  | unP _ _ _ ih => intro ha x b e; exact ih ha x b e
  | lev h1 h2 h3 h4 ih1 ih2 =>
    intro ha x b e
    obtain ⟨w, g1, g2, g3, g4⟩ := ih1 ha _ _ rfl
    obtain ⟨w2, q1, q2, q3, q4⟩ := ih2 g3 x b e w g2 g1 g4
    exact ⟨w2, q1, by omega, q3, q4⟩
  | levB _ _ _ _ => intro _ x b e; cases e
  | llE _ _ =>
    intro ha x b e
    cases e
    intro wy h1 h2 h3
    exact ⟨wy, h2, Nat.le_refl _, ha, h3⟩
  | @llG k m f a b x y r h1 h2 h3 h4 h5 ih1 ih2 =>
    intro ha z c e wx k1 k2 k3
    have hop : (z8O (zK t a)).2 ≠ 0 := by omega
    obtain ⟨o1, o2, o3, o4⟩ := v1J hop
    have hk := z3c hop
    have hlt := uJ (t := t) (a := a) (by rw [hk]; decide)
    have hle := (v1a tf hm hlt).le (by rw [hk]; decide) (by rw [hk]; decide)
    have hpo := (v1a tf hm hlt).po (by rw [hk]; decide)
    obtain ⟨w, g1, g2, g3, g4⟩ := ih1 (by omega) _ _ rfl
    have e1 := z1f tf hm (show a < a + 1 by omega) g2 g3
    have e2 := z1f tf hm k1 (show a < b by omega) g3
    rw [z3p tf hm] at e1
    have s1 := z6P (y6a (z8O (zK t a)).1) x wx
    have s2 := z6P (z7i (z8O (zK t a)).1 + 1) y w
    obtain ⟨w2, q1, q2, q3, q4⟩ := ih2 g3 z c e _ (by omega) (.bin o1 o2 k2 g1) (by
      rw [zD, zD]; simp only [szw]; rw [o3]; omega)
    exact ⟨w2, q1, by omega, q3, q4⟩
  | llB _ _ _ _ _ => intro _ x b e; cases e
  | post h1 h2 ih1 ih2 =>
    intro ha x b e
    obtain ⟨w, g1, g2, g3, g4⟩ := ih1 ha _ _ rfl
    obtain ⟨w2, q1, q2, q3, q4⟩ := ih2 g3 x b e w g2 g1 g4
    exact ⟨w2, q1, by omega, q3, q4⟩
  | postB _ _ => intro _ x b e; cases e
  | plE _ _ =>
    intro ha x b e
    cases e
    intro wy h1 h2 h3
    exact ⟨wy, h2, Nat.le_refl _, ha, h3⟩
  | @plI f a b x i r h1 h2 h3 h4 ih1 ih2 =>
    intro ha z c e wx k1 k2 k3
    obtain ⟨p0, p1⟩ := z1i tf hm h1
    obtain ⟨p2, p3⟩ := z1i tf hm h3
    obtain ⟨w, g1, g2, g3, g4⟩ := ih1 (by omega) _ _ rfl
    have e1 := z1f tf hm (show a < a + 1 by omega) g2 g3
    have e2 := z1f tf hm k1 (show a < b by omega) g3
    have e3 := z1f tf hm (show f < b by omega) (show b < b + 1 by omega) p2
    rw [z3p tf hm] at e1 e3
    have s1 := z6P 7 x wx
    simp only [List.length_cons, List.length_nil] at p1 p3
    obtain ⟨w2, q1, q2, q3, q4⟩ := ih2 p2 z c e _ (by omega) (.index k2 g1) (by
      rw [zD, zD, zD]; simp only [szw, List.length_cons, List.length_nil]; omega)
    exact ⟨w2, q1, by omega, q3, q4⟩
  | plI1 _ _ _ => intro _ x b e; cases e
  | plI2 _ _ _ _ => intro _ x b e; cases e
  | @plF f a x r h1 h2 h3 h4 ih =>
    intro ha z c e wx k1 k2 k3
    obtain ⟨p0, p1⟩ := z1i tf hm h2
    obtain ⟨g0, g1, g2, g3⟩ := z9r tf hm h3
    have e1 := z1f tf hm (show a < a + 1 by omega) (show a + 1 < a + 2 by omega) g0
    have e2 := z1f tf hm k1 (show a < a + 2 by omega) g0
    rw [z3p tf hm, show byt t (a + 1) (a + 2) = (zK t (a + 1)).To - (zK t (a + 1)).From from z3p tf hm] at e1
    have s1 := z6P 7 x wx
    simp only [List.length_cons, List.length_nil] at p1
    obtain ⟨w2, q1, q2, q3, q4⟩ := ih g0 z c e _ (by omega) (.field g1 k2) (by
      rw [zD]; simp only [szw, List.length_cons, List.length_nil]; omega)
    exact ⟨w2, q1, by omega, q3, q4⟩
  | plFB _ _ _ => intro _ x b e; cases e
  | one h =>
    intro ha x b e
    cases e
    obtain ⟨g0, w, g1, g2⟩ := v3v tf hm h _ _
    exact ⟨w, g1, by omega, g0, by rw [z3p tf hm]; exact g2⟩
  | @par a b x h1 h2 h3 ih =>
    intro ha y c e
    cases e
    obtain ⟨p0, p1⟩ := z1i tf hm ((y7z tf hm).1 h1)
    obtain ⟨p2, p3⟩ := z1i tf hm h3
    obtain ⟨w, g1, g2, g3, g4⟩ := ih (by omega) _ _ rfl
    have e1 := z1f tf hm (show a < a + 1 by omega) g2 g3
    have e3 := z1f tf hm (show a < b by omega) (show b < b + 1 by omega) p2
    rw [z3p tf hm] at e1 e3
    simp only [List.length_cons, List.length_nil] at p1 p3
    exact ⟨w, g1, by omega, p2, by omega⟩
  | par1 _ _ _ => intro _ x b e; cases e
  | par2 _ _ _ _ => intro _ x b e; cases e
  | @call a o b k s few l h1 h2 ih =>
    intro ha y c e
    cases e
    obtain ⟨c1, c2, c3, c4, c5, c6⟩ := v2z tf hm h1
    obtain ⟨l', w, e0, g1, g2, g3, g4⟩ := ih c5 _ _ rfl
    have el : l = l' := by have := congrArg zF.L e0; exact this
    subst el
    have e2 := z1f tf hm c4 g2 g3
    rcases g1 with ⟨f1, rfl, rfl⟩ | g1
    · refine ⟨_, .call0 (c3 f1) c1, by omega, g3, ?_⟩
      rw [zD, zD, zD]; simp only [szw, List.length_cons, List.length_nil] at g4 ⊢; omega
    · refine ⟨_, .call c2 c1 g1, by omega, g3, ?_⟩
      rw [zD, zD, zD]; simp only [szw, List.length_cons, List.length_nil] at g4 ⊢; omega
  | callB _ _ _ => intro _ x b e; cases e
  | @lis a b l h1 h2 h3 ih =>
    intro ha y c e
    cases e
    obtain ⟨p0, p1⟩ := z1i tf hm ((y7z tf hm).2 h1)
    obtain ⟨p2, p3⟩ := z1i tf hm h3
    obtain ⟨l', w, e0, g1, g2, g3, g4⟩ := ih (by omega) _ _ rfl
    have el : l = l' := by have := congrArg zF.L e0; simpa using this
    subst el
    have e1 := z1f tf hm (show a < a + 1 by omega) g2 g3
    have e3 := z1f tf hm (show a < b by omega) (show b < b + 1 by omega) p2
    rw [z3p tf hm] at e1 e3
    simp only [List.length_cons, List.length_nil] at p1 p3
    refine ⟨_, .lis g1, by omega, p2, ?_⟩
    rw [zD, zD]; simp only [szw, List.length_cons, List.length_nil]; omega
  | lis1 _ _ _ => intro _ x b e; cases e
  | lis2 _ _ _ _ => intro _ x b e; cases e
  | nm _ => intro _ x b e; cases e
  | no _ => intro _ x b e; cases e
  | cls0 _ => intro _ x b e; cases e
  | @clsF a h1 h2 =>
    intro ha y c e
    cases e
    obtain ⟨p0, p1⟩ := z1i tf hm h1
    obtain ⟨p2, p3⟩ := z1i tf hm h2
    have e1 := z1f tf hm (show a < a + 1 by omega) (show a + 1 < a + 2 by omega) p2
    rw [z3p tf hm, show byt t (a + 1) (a + 2) = (zK t (a + 1)).To - (zK t (a + 1)).From from z3p tf hm] at e1
    simp only [List.length_cons, List.length_nil] at p1 p3
    exact ⟨[], [], rfl, .inl ⟨rfl, rfl, rfl⟩, by omega, p2, by simp only [szw]; omega⟩
  | @cls a b few l h1 h2 h3 h4 ih =>
    intro ha y c e
    cases e
    obtain ⟨p0, p1⟩ := z1i tf hm h1
    obtain ⟨p2, p3⟩ := z1i tf hm h4
    obtain ⟨l', w, e0, g1, g2, g3, g4⟩ := ih (by omega) _ _ rfl
    have el : l = l' := by have := congrArg zF.L e0; simpa using this
    subst el
    have e1 := z1f tf hm (show a < a + 1 by omega) g2 g3
    have e3 := z1f tf hm (show a < b by omega) (show b < b + 1 by omega) p2
    rw [z3p tf hm] at e1 e3
    simp only [List.length_cons, List.length_nil] at p1 p3
    exact ⟨l, w, rfl, .inr g1, by omega, p2, by omega⟩
  | cls1 _ _ _ _ => intro _ x b e; cases e
  | cls2 _ _ _ _ _ => intro _ x b e; cases e
  | @lstE a b acc x h1 h2 ih =>
    intro ha y c e
    cases e
    obtain ⟨w, g1, g2, g3, g4⟩ := ih ha _ _ rfl
    exact ⟨[x], w, rfl, .one g1, g2, g3, g4⟩
  | @lstG a b acc x r h1 h2 h3 ih1 ih2 =>
    intro ha y c e
    obtain ⟨w, g1, g2, g3, g4⟩ := ih1 ha _ _ rfl
    obtain ⟨p0, p1⟩ := z1i tf hm h2
    obtain ⟨l', w', e0, q1, q2, q3, q4⟩ := ih2 p0 y c e
    have e1 := z1f tf hm g2 (show b < b + 1 by omega) p0
    have e2 := z1f tf hm (show a < b + 1 by omega) q2 q3
    rw [z3p tf hm] at e1
    simp only [List.length_cons, List.length_nil] at p1
    refine ⟨x :: l', _, by rw [e0]; simp, .cons g1 q1, by omega, q3, ?_⟩
    rw [zD, zD]; simp only [szw, List.length_cons, List.length_nil]; omega
  | lstB _ _ => intro _ x b e; cases e
end
inductive It where
  | word (s : Str)
  | sign (s : Str)
  | name
  | expr
  | type
  | block
  | be
abbrev z8p : Str := [108, 101, 116]
abbrev wIf : Str := [105, 102]
abbrev z0N : Str := [119, 104, 105, 108, 101]
abbrev z9D : Str := [102, 111, 114]
abbrev z0M : Str := [112, 114, 105, 110, 116]
abbrev jY : Str := [114, 101, 116, 117, 114, 110]
abbrev wDo : Str := [100, 111]
abbrev z2B : Str := [101, 108, 115, 101]
abbrev wTo : Str := [116, 111]
def z3v (t : List zC) (a : Nat) : Int × List It :=
  if vW t a z8p = true then (if (zK t (a + 1)).K = 1 ∧ yB t (a + 2) [58] = true then (21, [.word z8p, .name, .sign [58], .type, .sign [59]]) else (20, [.word z8p, .name, .sign [61], .expr, .sign [59]]))
  else if vW t a wIf = true then (23, [.word wIf, .expr, .be])
  else if vW t a z0N = true then (24, [.word z0N, .expr, .block])
  else if vW t a z9D = true then (25, [.word z9D, .name, .sign [61], .expr, .word wTo, .expr, .block])
  else if vW t a z0M = true then (26, [.word z0M, .expr, .sign [59]])
  else if vW t a jY = true then (27, [.word jY, .expr, .sign [59]])
  else if vW t a wDo = true then (28, [.word wDo, .expr, .sign [59]])
  else (22, [.expr, .sign [61], .expr, .sign [59]])
inductive y9i where
  | stmt
  | blk
  | sl (f : Nat) (acc : List zF)
  | form (k : Int) (f : Nat) (its : List It) (parts : List zF) (name : Str)
abbrev z4D (t : List zC) (a : Nat) : zF × Nat × Int := typ (t.length + 1) t a
abbrev y3O (q : Int) : zF := ⟨29, 0, [], [], q, q⟩
inductive SDer (t : List zC) : y9i → Nat → Res → Prop
  | sB {a : Nat} {r : Res} : yB t a [123] = true → SDer t .blk a r → SDer t .stmt a r
  | sF {a : Nat} {r : Res} : yB t a [123] = false → SDer t (.form (z3v t a).1 a (z3v t a).2 [] []) a r → SDer t .stmt a r
  | b0 {a : Nat} : yB t a [123] = false → SDer t .blk a (.bad a)
  | b1 {a : Nat} {r : Res} : yB t a [123] = true → SDer t (.sl a []) (a + 1) r → SDer t .blk a r
  | lE {f a : Nat} {acc : List zF} : yB t a [125] = true → SDer t (.sl f acc) a (.ok (jL t f (a + 1) ⟨29, 0, [], acc, 0, 0⟩) (a + 1))
  | lG {f a b : Nat} {acc : List zF} {x : zF} {r : Res} : yB t a [125] = false → SDer t .stmt a (.ok x b) → SDer t (.sl f (acc ++ [x])) b r → SDer t (.sl f acc) a r
  | lB {f a b : Nat} {acc : List zF} : yB t a [125] = false → SDer t .stmt a (.bad b) → SDer t (.sl f acc) a (.bad b)
  | fE {f a : Nat} {k : Int} {parts : List zF} {name : Str} : f < a → SDer t (.form k f [] parts name) a (.ok (jL t f a ⟨k, 0, name, parts, 0, 0⟩) a)
  | fW {f a : Nat} {k : Int} {s : Str} {its : List It} {parts : List zF} {name : Str} {r : Res} : vW t a s = true → SDer t (.form k f its parts name) (a + 1) r → SDer t (.form k f (.word s :: its) parts name) a r
  | fW0 {f a : Nat} {k : Int} {s : Str} {its : List It} {parts : List zF} {name : Str} : vW t a s = false → SDer t (.form k f (.word s :: its) parts name) a (.bad a)
  | fS {f a : Nat} {k : Int} {s : Str} {its : List It} {parts : List zF} {name : Str} {r : Res} : yB t a s = true → SDer t (.form k f its parts name) (a + 1) r → SDer t (.form k f (.sign s :: its) parts name) a r
  | fS0 {f a : Nat} {k : Int} {s : Str} {its : List It} {parts : List zF} {name : Str} : yB t a s = false → SDer t (.form k f (.sign s :: its) parts name) a (.bad a)
  | fN {f a : Nat} {k : Int} {its : List It} {parts : List zF} {name : Str} {r : Res} : (zK t a).K = 1 → SDer t (.form k f its parts (zK t a).S) (a + 1) r → SDer t (.form k f (.name :: its) parts name) a r
  | fN0 {f a : Nat} {k : Int} {its : List It} {parts : List zF} {name : Str} : (zK t a).K ≠ 1 → SDer t (.form k f (.name :: its) parts name) a (.bad a)
  | fX {f a b : Nat} {k : Int} {its : List It} {parts : List zF} {name : Str} {x : zF} {r : Res} : Der t (.lev 1) a (.ok x b) → SDer t (.form k f its (parts ++ [x]) name) b r → SDer t (.form k f (.expr :: its) parts name) a r
  | fX0 {f a b : Nat} {k : Int} {its : List It} {parts : List zF} {name : Str} : Der t (.lev 1) a (.bad b) → SDer t (.form k f (.expr :: its) parts name) a (.bad b)
  | fT {f a : Nat} {k : Int} {its : List It} {parts : List zF} {name : Str} {r : Res} : (z4D t a).2.2 = 0 → SDer t (.form k f its (parts ++ [(z4D t a).1]) name) (z4D t a).2.1 r → SDer t (.form k f (.type :: its) parts name) a r
  | fT0 {f a : Nat} {k : Int} {its : List It} {parts : List zF} {name : Str} : (z4D t a).2.2 ≠ 0 → SDer t (.form k f (.type :: its) parts name) a (.bad (z4D t a).2.1)
  | fK {f a b : Nat} {k : Int} {its : List It} {parts : List zF} {name : Str} {x : zF} {r : Res} : SDer t .blk a (.ok x b) → SDer t (.form k f its (parts ++ [x]) name) b r → SDer t (.form k f (.block :: its) parts name) a r
  | fK0 {f a b : Nat} {k : Int} {its : List It} {parts : List zF} {name : Str} : SDer t .blk a (.bad b) → SDer t (.form k f (.block :: its) parts name) a (.bad b)
  | fE0 {f a b : Nat} {k : Int} {its : List It} {parts : List zF} {name : Str} : SDer t .blk a (.bad b) → SDer t (.form k f (.be :: its) parts name) a (.bad b)
  | fE1 {f a b : Nat} {k : Int} {its : List It} {parts : List zF} {name : Str} {x : zF} {r : Res} : SDer t .blk a (.ok x b) → vW t b z2B = false → SDer t (.form k f its (parts ++ [x] ++ [y3O (zK t (b - 1)).To]) name) b r → SDer t (.form k f (.be :: its) parts name) a r
  | fE2 {f a b c : Nat} {k : Int} {its : List It} {parts : List zF} {name : Str} {x y : zF} {r : Res} : SDer t .blk a (.ok x b) → vW t b z2B = true → SDer t .blk (b + 1) (.ok y c) → SDer t (.form k f its (parts ++ [x] ++ [y]) name) c r → SDer t (.form k f (.be :: its) parts name) a r
  | fE3 {f a b c : Nat} {k : Int} {its : List It} {parts : List zF} {name : Str} {x : zF} : SDer t .blk a (.ok x b) → vW t b z2B = true → SDer t .blk (b + 1) (.bad c) → SDer t (.form k f (.be :: its) parts name) a (.bad c)
theorem v0R : ∀ (n : Nat) (t : List zC) (a : Nat), (typ n t a).2.2 = 0 ∨ (typ n t a).2.2 = 6
  | 0, t, a => .inr rfl
  | n + 1, t, a => by
    have := v0R n t (a + 3)
    rw [typ]
    repeat' split
    all_goals first | exact .inl rfl | exact .inr rfl | exact this | skip
theorem y5Y : ∀ (n : Nat) (t : List zC) (a : Nat), t.length < a + n → a ≤ t.length → (typ n t a).2.2 ≠ 0 → a ≤ (typ n t a).2.1 ∧ (typ n t a).2.1 ≤ t.length
  | 0, t, a, h1, h2, _ => by omega
  | n + 1, t, a, h1, h2, h => by
    rw [typ] at h ⊢
    by_cases g1 : vW t a [105, 110, 116] = true
    · rw [if_pos g1] at h; exact absurd rfl h
    rw [if_neg g1] at h ⊢
    by_cases g2 : vW t a [98, 111, 111, 108] = true
    · rw [if_pos g2] at h; exact absurd rfl h
    rw [if_neg g2] at h ⊢
    by_cases g3 : (zK t a).K = 1
    · rw [if_pos g3] at h; exact absurd rfl h
    rw [if_neg g3] at h ⊢
    by_cases g4 : yB t a [91] = true
    · have k4 := zS g4
      rw [if_pos g4] at h ⊢
      by_cases g5 : (zK t (a + 1)).K = 2
      · have k5 := uJ (t := t) (a := a + 1) (by rw [g5]; decide)
        rw [if_pos g5] at h ⊢
        by_cases g6 : yB t (a + 2) [93] = true
        · have k6 := zS g6
          rw [if_pos g6] at h ⊢
          by_cases g7 : (typ n t (a + 3)).2.2 = 0
          · rw [if_pos g7] at h; exact absurd rfl h
          · rw [if_neg g7]
            have := y5Y n t (a + 3) (by omega) (by omega) g7
            exact ⟨by show a ≤ (typ n t (a + 3)).2.1; omega, this.2⟩
        · rw [if_neg g6]; exact ⟨by show a ≤ a + 2; omega, by show a + 2 ≤ t.length; omega⟩
      · rw [if_neg g5]; exact ⟨by show a ≤ a + 1; omega, by show a + 1 ≤ t.length; omega⟩
    · rw [if_neg g4]; exact ⟨Nat.le_refl _, h2⟩
def InS (t : List zC) (c : y9i) (a : Nat) : Res → Prop
  | .ok x b => (match c with | .form _ _ its _ _ => a ≤ b ∧ (its ≠ [] → a < b) | _ => a < b) ∧ b ≤ t.length
  | .bad b => a ≤ b ∧ b ≤ t.length
theorem SDer.inS {t : List zC} {c : y9i} {a : Nat} {r : Res} (h : SDer t c a r) : a ≤ t.length → InS t c a r := by
  have step : ∀ {k : Int} {f a b : Nat} {it : It} {its : List It} {p p' : List zF} {n n' : Str} {r : Res}, a < b → InS t (.form k f its p' n') b r → InS t (.form k f (it :: its) p n) a r := by
    intro k f a b it its p p' n n' r h1 h2
    cases r with
    | ok x c => simp only [InS] at h2 ⊢; exact ⟨⟨by omega, fun _ => by omega⟩, h2.2⟩
    | bad c => simp only [InS] at h2 ⊢; omega
  induction h with
  | sB _ _ ih => intro h; exact ih h
  | @sF a r h1 hd ih =>
    intro h
    have q := ih h
    cases r with
    | ok x b =>
      simp only [InS] at q ⊢
      refine ⟨q.1.2 ?_, q.2⟩
      unfold z3v
      repeat' split
      all_goals simp
    | bad b => exact q
  | b0 _ => intro h; simp only [InS]; omega
  | @b1 a r h1 _ ih =>
    intro h
    have := zS h1
    have q := ih (by omega)
    cases r <;> simp only [InS] at q ⊢ <;> omega
  | lE h1 => intro h; have := zS h1; simp only [InS]; omega
  | @lG f a b acc x r h1 _ _ ih1 ih2 =>
    intro h
    have q1 := ih1 h; simp only [InS] at q1
    have q2 := ih2 q1.2
    cases r <;> simp only [InS] at q2 ⊢ <;> omega
  | lB _ _ ih => intro h; exact ih h
  | fE _ => intro h; simp only [InS]; exact ⟨⟨Nat.le_refl _, fun h => absurd rfl h⟩, h⟩
  | fW h1 _ ih => intro h; have := uR h1; exact step (by omega) (ih (by omega))
  | fW0 _ => intro h; simp only [InS]; omega
  | fS h1 _ ih => intro h; have := zS h1; exact step (by omega) (ih (by omega))
  | fS0 _ => intro h; simp only [InS]; omega
  | @fN f a k its parts name r h1 _ ih => intro h; have := uJ (t := t) (a := a) (by rw [h1]; decide); exact step (Nat.lt_succ_self a) (ih (by omega))
  | fN0 _ => intro h; simp only [InS]; omega
  | fX hd _ ih => intro h; have q := hd.inR h; simp only [InR] at q; exact step q.1 (ih q.2)
  | fX0 hd => intro h; have q := hd.inR h; simp only [InR, InS] at q ⊢; exact q
  | @fT f a k its parts name r h1 _ ih => intro h; have q := y0c (t.length + 1) t a (by omega) h1; exact step q.1 (ih q.2)
  | @fT0 f a k its parts name h1 => intro h; have q := y5Y (t.length + 1) t a (by omega) h h1; simp only [InS]; exact q
  | fK _ _ ih1 ih2 => intro h; have q := ih1 h; simp only [InS] at q; exact step q.1 (ih2 q.2)
  | fK0 _ ih => intro h; exact ih h
  | fE0 _ ih => intro h; exact ih h
  | fE1 _ _ _ ih1 ih2 => intro h; have q := ih1 h; simp only [InS] at q; exact step q.1 (ih2 q.2)
  | @fE2 f a b c k its parts name x y r _ h2 _ _ ih1 ih2 ih3 =>
    intro h
    have hb := uR h2
    have q := ih1 h; simp only [InS] at q
    have q2 := ih2 (by omega); simp only [InS] at q2
    exact step (by omega) (ih3 q2.2)
  | @fE3 f a b c k its parts name x _ h2 _ ih1 ih2 =>
    intro h
    have hb := uR h2
    have q := ih1 h; simp only [InS] at q
    have q2 := ih2 (by omega); simp only [InS] at q2 ⊢
    omega
theorem v1S (t : List zC) : ∀ (d a : Nat), a + d = t.length → (∃ r, SDer t .stmt a r) ∧ (∃ r, SDer t .blk a r) := by
  intro d
  induction d using Nat.strongRecOn with
  | _ d IH =>
    intro a had
    have upS : ∀ b, a < b → b ≤ t.length → ∃ r, SDer t .stmt b r := fun b h1 h2 => (IH (t.length - b) (by omega) b (by omega)).1
    have upB : ∀ b, a < b → b ≤ t.length → ∃ r, SDer t .blk b r := fun b h1 h2 => (IH (t.length - b) (by omega) b (by omega)).2
    have sl : ∀ (n b : Nat) (acc : List zF), a < b → b + n = t.length → ∃ r, SDer t (.sl a acc) b r := by
      intro n
      induction n using Nat.strongRecOn with
      | _ n ihn =>
        intro b acc h1 h2
        cases hs : yB t b [125] with
        | true => exact ⟨_, .lE hs⟩
        | false =>
          obtain ⟨r, hr⟩ := upS b h1 (by omega)
          have q := hr.inS (by omega)
          cases r with
          | bad c => exact ⟨_, .lB hs hr⟩
          | ok x c =>
            simp only [InS] at q
            obtain ⟨r, h3⟩ := ihn (t.length - c) (by omega) c (acc ++ [x]) (by omega) (by omega)
            exact ⟨r, .lG hs hr h3⟩
    have blk : ∃ r, SDer t .blk a r := by
      cases hs : yB t a [123] with
      | false => exact ⟨_, .b0 hs⟩
      | true =>
        have := zS hs
        obtain ⟨r, hr⟩ := sl (t.length - (a + 1)) (a + 1) [] (by omega) (by omega)
        exact ⟨r, .b1 hs hr⟩
    have anyB : ∀ b, a ≤ b → b ≤ t.length → ∃ r, SDer t .blk b r := fun b h1 h2 => by
      by_cases e : b = a
      · subst e; exact blk
      · exact upB b (by omega) h2
    have form : ∀ (k : Int) (its : List It) (b : Nat) (parts : List zF) (name : Str), a ≤ b → b ≤ t.length → (its = [] → a < b) → ∃ r, SDer t (.form k a its parts name) b r := by
      intro k its
      induction its with
      | nil => intro b parts name h1 h2 h3; exact ⟨_, .fE (h3 rfl)⟩
      | cons it its ih =>
        intro b parts name h1 h2 h3
        cases it with
        | word s =>
          cases hs : vW t b s with
          | false => exact ⟨_, .fW0 hs⟩
          | true =>
            have := uR hs
            obtain ⟨r, hr⟩ := ih (b + 1) parts name (by omega) (by omega) (fun _ => by omega)
            exact ⟨r, .fW hs hr⟩
        | sign s =>
          cases hs : yB t b s with
          | false => exact ⟨_, .fS0 hs⟩
          | true =>
            have := zS hs
            obtain ⟨r, hr⟩ := ih (b + 1) parts name (by omega) (by omega) (fun _ => by omega)
            exact ⟨r, .fS hs hr⟩
        | name =>
          by_cases hk : (zK t b).K = 1
          · have := uJ (t := t) (a := b) (by rw [hk]; decide)
            obtain ⟨r, hr⟩ := ih (b + 1) parts (zK t b).S (by omega) (by omega) (fun _ => by omega)
            exact ⟨r, .fN hk hr⟩
          · exact ⟨_, .fN0 hk⟩
        | expr =>
          obtain ⟨r, hr⟩ := v2F t (t.length - b) b (by omega) 1 (by omega) (by omega)
          have q := hr.inR (by omega)
          cases r with
          | bad c => exact ⟨_, .fX0 hr⟩
          | ok x c =>
            simp only [InR] at q
            obtain ⟨r, h4⟩ := ih c (parts ++ [x]) name (by omega) q.2 (fun _ => by omega)
            exact ⟨r, .fX hr h4⟩
        | type =>
          by_cases he : (z4D t b).2.2 = 0
          · have q : b < (z4D t b).2.1 ∧ (z4D t b).2.1 ≤ t.length := y0c (t.length + 1) t b (by omega) he
            obtain ⟨r, h4⟩ := ih (z4D t b).2.1 (parts ++ [(z4D t b).1]) name (by omega) q.2 (fun _ => by omega)
            exact ⟨r, .fT he h4⟩
          · exact ⟨_, .fT0 he⟩
        | block =>
          obtain ⟨r, hr⟩ := anyB b h1 h2
          have q := hr.inS (by omega)
          cases r with
          | bad c => exact ⟨_, .fK0 hr⟩
          | ok x c =>
            simp only [InS] at q
            obtain ⟨r, h4⟩ := ih c (parts ++ [x]) name (by omega) q.2 (fun _ => by omega)
            exact ⟨r, .fK hr h4⟩
        | be =>
          obtain ⟨r, hr⟩ := anyB b h1 h2
          have q := hr.inS (by omega)
          cases r with
          | bad c => exact ⟨_, .fE0 hr⟩
          | ok x c =>
            simp only [InS] at q
            cases hw : vW t c z2B with
            | false =>
              obtain ⟨r, h4⟩ := ih c _ name (by omega) q.2 (fun _ => by omega)
              exact ⟨r, .fE1 hr hw h4⟩
            | true =>
              have := uR hw
              obtain ⟨r2, hr2⟩ := anyB (c + 1) (by omega) (by omega)
              have q2 := hr2.inS (by omega)
              cases r2 with
              | bad e => exact ⟨_, .fE3 hr hw hr2⟩
              | ok y e =>
                simp only [InS] at q2
                obtain ⟨r, h4⟩ := ih e _ name (by omega) q2.2 (fun _ => by omega)
                exact ⟨r, .fE2 hr hw hr2 h4⟩
    refine ⟨?_, blk⟩
    cases hs : yB t a [123] with
    | true => obtain ⟨r, hr⟩ := blk; exact ⟨r, .sB hs hr⟩
    | false =>
      obtain ⟨r, hr⟩ := form (z3v t a).1 (z3v t a).2 a [] [] (Nat.le_refl _) (by omega) (fun h => by
        exfalso; revert h
        unfold z3v
        repeat' split
        all_goals simp)
      exact ⟨r, .sF hs hr⟩
theorem Mon.le {t : List zC} (hm : Mon t) {i j : Nat} (h1 : i ≤ j) (h2 : j < t.length) : (zK t i).From ≤ (zK t j).To ∧ (zK t i).From ≤ (zK t j).From ∧ (zK t i).To ≤ (zK t j).To := by
  have q1 := hm i j h1 h2
  have q2 := hm j j (Nat.le_refl _) h2
  by_cases e : i = j
  · subst e; omega
  · have := q1.2 (by omega); omega
theorem Mon.lt {t : List zC} (hm : Mon t) {i j : Nat} (h1 : i < j) (h2 : j < t.length) : (zK t i).To ≤ (zK t j).From := (hm i j (by omega) h2).2 h1
def CH (t : List zC) (f a : Nat) (l : List zF) : Prop := ∃ q0 : Int, Chn q0 (zK t f).From l ∧ (zK t f).From ≤ q0 ∧ (q0 = (zK t f).From ∨ (f < a ∧ q0 ≤ (zK t (a - 1)).To)) ∧ ∀ x ∈ l, Wn x
theorem CH.nil (t : List zC) (f a : Nat) : CH t f a [] := ⟨_, trivial, Int.le_refl _, .inl rfl, by simp⟩
theorem CH.step {t : List zC} (hm : Mon t) {f a a' : Nat} {l : List zF} (h1 : a ≤ a') (h2 : a' ≤ t.length) : CH t f a l → CH t f a' l := by
  rintro ⟨q0, c1, c2, c3, c4⟩
  refine ⟨q0, c1, c2, ?_, c4⟩
  rcases c3 with c3 | ⟨c3, c5⟩
  · exact .inl c3
  · have := (hm.le (i := a - 1) (j := a' - 1) (by omega) (by omega)).2.2
    exact .inr ⟨by omega, by omega⟩
theorem CH.snoc {t : List zC} (hm : Mon t) {f a b : Nat} {l : List zF} {x : zF} (h0 : f ≤ a) (h1 : a < b) (h2 : b ≤ t.length) (hx : Bt t a b x) : CH t f a l → CH t f b (l ++ [x]) := by
  rintro ⟨q0, c1, c2, c3, c4⟩
  obtain ⟨x1, x2, x3, x4⟩ := hx
  have g : q0 ≤ (zK t a).From := by
    rcases c3 with c3 | ⟨c3, c5⟩
    · have := (hm.le (i := f) (j := a) h0 (by omega)).2.1; omega
    · have := hm.lt (i := a - 1) (j := a) (by omega) (by omega); omega
  refine ⟨x.To, Chn.snoc x2 (Int.le_refl _) c1 (by omega) c2, by omega, .inr ⟨by omega, x3⟩, fun z hz => ?_⟩
  rcases List.mem_append.1 hz with hz | hz
  · exact c4 z hz
  · simp at hz; subst hz; exact x4
theorem CH.chn {t : List zC} (hm : Mon t) {f b : Nat} {l : List zF} (h1 : f < b) (h2 : b ≤ t.length) : CH t f b l → Chn (zK t (b - 1)).To (zK t f).From l ∧ ∀ x ∈ l, Wn x := by
  rintro ⟨q0, c1, c2, c3, c4⟩
  have g0 := (hm.le (i := f) (j := b - 1) (by omega) (by omega)).1
  have g : q0 ≤ (zK t (b - 1)).To := by
    rcases c3 with c3 | ⟨c3, c5⟩ <;> omega
  exact ⟨c1.mono g (Int.le_refl _), c4⟩
theorem CH.mk {t : List zC} (hm : Mon t) {f b : Nat} {l : List zF} {k n : Int} {s : Str} (h1 : f < b) (h2 : b ≤ t.length) (h : CH t f b l) : Bt t f b (jL t f b ⟨k, n, s, l, 0, 0⟩) := by
  have g0 := (hm.le (i := f) (j := b - 1) (by omega) (by omega)).1
  obtain ⟨g1, g2⟩ := h.chn hm h1 h2
  exact ⟨Int.le_refl _, g0, Int.le_refl _, .mk _ g1 g2⟩
theorem v0Q {t : List zC} (hm : Mon t) : ∀ (n a : Nat), t.length < a + n → (typ n t a).2.2 = 0 → Bt t a (typ n t a).2.1 (typ n t a).1 ∧ wW (typ n t a).1 + a ≤ (typ n t a).2.1
  | 0, a, _, h => by cases h
  | n + 1, a, hl, h => by
    have leaf : ∀ (k : Int) (s : Str), a < t.length → Bt t a (a + 1) (jL t a (a + 1) ⟨k, 0, s, [], 0, 0⟩) ∧ wW (jL t a (a + 1) ⟨k, 0, s, [], 0, 0⟩) + a ≤ a + 1 := fun k s ha => ⟨(CH.nil t a (a + 1)).mk hm (by omega) (by omega), by simp [jL, wW, zV]; omega⟩
    rw [typ] at h ⊢
    by_cases h1 : vW t a [105, 110, 116] = true
    · rw [if_pos h1]; exact leaf _ _ (uR h1)
    rw [if_neg h1] at h ⊢
    by_cases h2 : vW t a [98, 111, 111, 108] = true
    · rw [if_pos h2]; exact leaf _ _ (uR h2)
    rw [if_neg h2] at h ⊢
    by_cases h3 : (zK t a).K = 1
    · rw [if_pos h3]; exact leaf _ _ (uJ (t := t) (a := a) (by rw [h3]; decide))
    rw [if_neg h3] at h ⊢
    by_cases h4 : yB t a [91] = true
    · rw [if_pos h4] at h ⊢
      by_cases h5 : (zK t (a + 1)).K = 2
      · rw [if_pos h5] at h ⊢
        by_cases h6 : yB t (a + 2) [93] = true
        · rw [if_pos h6] at h ⊢
          by_cases h7 : (typ n t (a + 3)).2.2 = 0
          · rw [if_pos h7]
            have q := y0c n t (a + 3) (by omega) h7
            obtain ⟨g1, g2⟩ := v0Q hm n (a + 3) (by omega) h7
            refine ⟨CH.mk hm (show a < (typ n t (a + 3)).2.1 by omega) q.2 ?_, ?_⟩
            · have := (CH.nil t a (a + 3)).snoc hm (by omega) q.1 q.2 g1
              simpa using this
            · show wW (jL t a (typ n t (a + 3)).2.1 ⟨3, _, [], [(typ n t (a + 3)).1], 0, 0⟩) + a ≤ (typ n t (a + 3)).2.1
              simp only [jL, wW, zV]; omega
          · rw [if_neg h7] at h; exact absurd h h7
        · rw [if_neg h6] at h; cases h
      · rw [if_neg h5] at h; cases h
    · rw [if_neg h4] at h; cases h
def SS (t : List zC) : y9i → Nat → Res → Prop
  | .stmt, a, r => ∀ y b, r = .ok y b → wW y + 400 * a + 19 ≤ 400 * b
  | .blk, a, r => ∀ y b, r = .ok y b → wW y + 400 * a + 500 ≤ 400 * b
  | .sl f acc, a, r => ∀ y b, r = .ok y b → wW y + 400 * a + 300 ≤ zV acc + 400 * b
  | .form k f its parts name, a, r => ∀ y b, r = .ok y b → wW y + 400 * a ≤ 1 + zV parts + 400 * b ∧ (its ≠ [] → wW y + 400 * a + 20 ≤ 1 + zV parts + 400 * b)
theorem y8X {t : List zC} (hm : Mon t) {c : y9i} {a : Nat} {r : Res} (h : SDer t c a r) : a ≤ t.length → SS t c a r := by
  have sz : ∀ (p : List zF) (x : zF), zV (p ++ [x]) = zV p + wW x := fun p x => by rw [z3K]; simp [zV]
  induction h with
  | sB _ _ ih => intro ha y b e; have := ih ha y b e; omega
  | @sF a r h1 hd ih =>
    intro ha y b e
    have := (ih ha y b e).2 (by unfold z3v; (repeat' split) <;> simp)
    simp only [zV] at this
    omega
  | b0 _ => intro ha y b e; cases e
  | @b1 a r h1 _ ih => intro ha y b e; have h0 := zS h1; have h2 := ih (by omega) y b e; rw [show zV [] = 0 from rfl, Nat.mul_add] at h2; clear h0 h1 ih e; show wW y + 400 * a + 500 ≤ 400 * b; omega
  | lE h1 => intro ha y b e; cases e; simp only [jL, wW]; omega
  | lG h1 hd _ ih1 ih2 => intro ha y b e; have q := hd.inS ha; simp only [InS] at q; have g1 := ih1 ha _ _ rfl; have g2 := ih2 q.2 y b e; rw [sz] at g2; omega
  | lB _ _ _ => intro ha y b e; cases e
  | fE _ => intro ha y b e; cases e; simp only [jL, wW]; exact ⟨by omega, fun h => absurd rfl h⟩
  | fW h1 _ ih => intro ha y b e; have h0 := uR h1; have := (ih (by omega) y b e).1; exact ⟨by omega, fun _ => by omega⟩
  | fW0 _ => intro ha y b e; cases e
  | fS h1 _ ih => intro ha y b e; have h0 := zS h1; have := (ih (by omega) y b e).1; exact ⟨by omega, fun _ => by omega⟩
  | fS0 _ => intro ha y b e; cases e
  | @fN f a k its parts name r h1 _ ih => intro ha y b e; have h0 := uJ (t := t) (a := a) (by rw [h1]; decide); have := (ih (by omega) y b e).1; exact ⟨by omega, fun _ => by omega⟩
  | fN0 _ => intro ha y b e; cases e
  | fX hd _ ih => intro ha y b e; have q := hd.inR ha; simp only [InR] at q; have g := v3r hd; have := (ih q.2 y b e).1; rw [sz] at this; exact ⟨by omega, fun _ => by omega⟩
  | fX0 _ => intro ha y b e; cases e
  | @fT f a k its parts name r h1 _ ih =>
    intro ha y b e
    have q : a < (z4D t a).2.1 ∧ (z4D t a).2.1 ≤ t.length := y0c (t.length + 1) t a (by omega) h1
    have g : wW (z4D t a).1 + a ≤ (z4D t a).2.1 := (v0Q hm (t.length + 1) a (by omega) h1).2
    have := (ih q.2 y b e).1
    rw [sz] at this
    exact ⟨by omega, fun _ => by omega⟩
  | fT0 _ => intro ha y b e; cases e
  | fK hd _ ih1 ih2 => intro ha y b e; have q := hd.inS ha; simp only [InS] at q; have g := ih1 ha _ _ rfl; have := (ih2 q.2 y b e).1; rw [sz] at this; exact ⟨by omega, fun _ => by omega⟩
  | fK0 _ _ => intro ha y b e; cases e
  | fE0 _ _ => intro ha y b e; cases e
  | fE1 hd _ _ ih1 ih2 =>
    intro ha y b e
    have q := hd.inS ha; simp only [InS] at q
    have g := ih1 ha _ _ rfl
    have := (ih2 q.2 y b e).1
    rw [sz, sz] at this
    simp only [wW, zV] at this
    exact ⟨by omega, fun _ => by omega⟩
  | fE2 hd hw hd2 _ ih1 ih2 ih3 =>
    intro ha y b e
    have hb := uR hw
    have q := hd.inS ha; simp only [InS] at q
    have q2 := hd2.inS (by omega); simp only [InS] at q2
    have g := ih1 ha _ _ rfl
    have g2 := ih2 (by omega) _ _ rfl
    have := (ih3 q2.2 y b e).1
    rw [sz, sz] at this
    exact ⟨by omega, fun _ => by omega⟩
  | fE3 _ _ _ _ _ => intro ha y b e; cases e
inductive PT : zF → List Str → Prop
  | int {F T : Int} : PT ⟨1, 0, [], [], F, T⟩ [[105, 110, 116]]
  | bool {F T : Int} : PT ⟨2, 0, [], [], F, T⟩ [[98, 111, 111, 108]]
  | rcd {s : Str} {F T : Int} : Nm s → PT ⟨4, 0, s, [], F, T⟩ [s]
  | arr {n : Nat} {x : zF} {w : List Str} {F T : Int} : n ≤ 9223372036854775807 → Tok 2 n [] (z9i n) → PT x w → PT ⟨3, (n : Int), [], [x], F, T⟩ ([[91], z9i n, [93]] ++ w)
inductive FK : Int → List It → Prop
  | new : FK 21 [.word z8p, .name, .sign [58], .type, .sign [59]]
  | let_ : FK 20 [.word z8p, .name, .sign [61], .expr, .sign [59]]
  | if_ : FK 23 [.word wIf, .expr, .be]
  | while : FK 24 [.word z0N, .expr, .block]
  | for : FK 25 [.word z9D, .name, .sign [61], .expr, .word wTo, .expr, .block]
  | print : FK 26 [.word z0M, .expr, .sign [59]]
  | ret : FK 27 [.word jY, .expr, .sign [59]]
  | do_ : FK 28 [.word wDo, .expr, .sign [59]]
  | set : FK 22 [.expr, .sign [61], .expr, .sign [59]]
theorem v3R (t : List zC) (a : Nat) : FK (z3v t a).1 (z3v t a).2 := by
  unfold z3v
  repeat' split
  all_goals constructor
inductive SC where
  | st (x : zF)
  | bl (x : zF)
  | ss (l : List zF)
  | fm (its : List It) (ps : List zF) (nm : Str)
inductive PS : SC → List Str → Prop
  | blk {l : List zF} {w : List Str} {F T : Int} : PS (.ss l) w → PS (.bl ⟨29, 0, [], l, F, T⟩) ([[123]] ++ w ++ [[125]])
  | ss0 : PS (.ss []) []
  | ssc {x : zF} {l : List zF} {w wl : List Str} : PS (.st x) w → PS (.ss l) wl → PS (.ss (x :: l)) (w ++ wl)
  | stB {x : zF} {w : List Str} : PS (.bl x) w → PS (.st x) w
  | stF {k : Int} {its : List It} {ps : List zF} {nm : Str} {w : List Str} {F T : Int} : FK k its → (.name ∉ its → nm = []) → PS (.fm its ps nm) w → PS (.st ⟨k, 0, nm, ps, F, T⟩) w
  | f0 {nm : Str} : PS (.fm [] [] nm) []
  | fW {s : Str} {its : List It} {ps : List zF} {nm : Str} {w : List Str} : PS (.fm its ps nm) w → PS (.fm (.word s :: its) ps nm) ([s] ++ w)
  | fS {s : Str} {its : List It} {ps : List zF} {nm : Str} {w : List Str} : PS (.fm its ps nm) w → PS (.fm (.sign s :: its) ps nm) ([s] ++ w)
  | fN {its : List It} {ps : List zF} {nm : Str} {w : List Str} : Nm nm → PS (.fm its ps nm) w → PS (.fm (.name :: its) ps nm) ([nm] ++ w)
  | fX {its : List It} {x : zF} {ps : List zF} {nm : Str} {wx w : List Str} : PR (.ex x) wx → PS (.fm its ps nm) w → PS (.fm (.expr :: its) (x :: ps) nm) (wx ++ w)
  | fT {its : List It} {x : zF} {ps : List zF} {nm : Str} {wx w : List Str} : PT x wx → PS (.fm its ps nm) w → PS (.fm (.type :: its) (x :: ps) nm) (wx ++ w)
  | fK {its : List It} {x : zF} {ps : List zF} {nm : Str} {wx w : List Str} : PS (.bl x) wx → PS (.fm its ps nm) w → PS (.fm (.block :: its) (x :: ps) nm) (wx ++ w)
  | fE1 {its : List It} {x : zF} {ps : List zF} {nm : Str} {wx w : List Str} {F T : Int} : PS (.bl x) wx → PS (.fm its ps nm) w → PS (.fm (.be :: its) (x :: ⟨29, 0, [], [], F, T⟩ :: ps) nm) (wx ++ w)
  | fE2 {its : List It} {x y : zF} {ps : List zF} {nm : Str} {wx wy w : List Str} : PS (.bl x) wx → PS (.bl y) wy → y.L ≠ [] → PS (.fm its ps nm) w → PS (.fm (.be :: its) (x :: y :: ps) nm) (wx ++ ([[101, 108, 115, 101]] ++ wy) ++ w)
theorem v3m {y : zF} {w : List Str} (h : PS (.bl y) w) (hy : y.L = []) : ∃ F T, y = ⟨29, 0, [], [], F, T⟩ := by
  cases h with
  | @blk l w F T _ =>
    have e : l = [] := hy
    exact ⟨F, T, by rw [e]⟩
def nmC : List It → Nat
  | [] => 0
  | .name :: r => nmC r + 1
  | _ :: r => nmC r
theorem v3Q {k : Int} {its : List It} (h : FK k its) : nmC its ≤ 1 := by cases h <;> decide
theorem v0f : ∀ {its : List It}, It.name ∉ its → nmC its = 0
  | [], _ => rfl
  | i :: r, h => by
    have h1 : It.name ∉ r := fun g => h (by simp [g])
    have h2 : i ≠ .name := fun g => h (by simp [g])
    cases i with
    | name => exact absurd rfl h2
    | _ => exact v0f (its := r) h1
section
variable {t : List zC} (tf : TF t) (hm : Mon t)
include tf hm
theorem v0S : ∀ (n a : Nat), t.length < a + n → (typ n t a).2.2 = 0 → ∃ w, PT (typ n t a).1 w
  | 0, a, _, h => by cases h
  | n + 1, a, hl, h => by
    rw [typ] at h ⊢
    by_cases h1 : vW t a [105, 110, 116] = true
    · rw [if_pos h1]; exact ⟨_, .int⟩
    rw [if_neg h1] at h ⊢
    by_cases h2 : vW t a [98, 111, 111, 108] = true
    · rw [if_pos h2]; exact ⟨_, .bool⟩
    rw [if_neg h2] at h ⊢
    by_cases h3 : (zK t a).K = 1
    · rw [if_pos h3]
      have h0 := uJ (t := t) (a := a) (by rw [h3]; decide)
      exact ⟨_, .rcd ((v1a tf hm h0).nm h3)⟩
    rw [if_neg h3] at h ⊢
    by_cases h4 : yB t a [91] = true
    · rw [if_pos h4] at h ⊢
      by_cases h5 : (zK t (a + 1)).K = 2
      · rw [if_pos h5] at h ⊢
        by_cases h6 : yB t (a + 2) [93] = true
        · rw [if_pos h6] at h ⊢
          by_cases h7 : (typ n t (a + 3)).2.2 = 0
          · rw [if_pos h7]
            obtain ⟨w, hw⟩ := v0S n (a + 3) (by omega) h7
            have h0 := uJ (t := t) (a := a + 1) (by rw [h5]; decide)
            obtain ⟨m, g1, g2, g3, -⟩ := (v1a tf hm h0).nu h5
            refine ⟨[[91], z9i m, [93]] ++ w, ?_⟩
            show PT ⟨3, (zK t (a + 1)).N, [], [(typ n t (a + 3)).1], _, _⟩ _
            rw [g1]; exact .arr g2 g3 hw
          · rw [if_neg h7] at h; exact absurd h h7
        · rw [if_neg h6] at h; cases h
      · rw [if_neg h5] at h; cases h
    · rw [if_neg h4] at h; cases h
def PSM (t : List zC) (c : y9i) (a : Nat) (r : Res) : Prop := ∀ x b, r = .ok x b → match c with
  | .stmt => ∃ w, PS (.st x) w
  | .blk => ∃ w, PS (.bl x) w
  | .sl f acc => ∃ l w F T, x = ⟨29, 0, [], acc ++ l, F, T⟩ ∧ PS (.ss l) w
  | .form k f its parts name => nmC its ≤ 1 → ∃ ps nm w F T, x = ⟨k, 0, nm, parts ++ ps, F, T⟩ ∧ PS (.fm its ps nm) w ∧ (nmC its = 0 → nm = name)
theorem y8Q {c : y9i} {a : Nat} {r : Res} (h : SDer t c a r) : a ≤ t.length → PSM t c a r := by
  induction h with
  | sB _ _ ih => intro ha x b e; obtain ⟨w, hw⟩ := ih ha x b e; exact ⟨w, .stB hw⟩
  | @sF a r h1 hd ih =>
    intro ha x b e
    have hk := v3R t a
    obtain ⟨ps, nm, w, F, T, rfl, h2, h3⟩ := ih ha x b e (v3Q hk)
    exact ⟨w, .stF hk (fun h => h3 (v0f h)) h2⟩
  | b0 _ => intro ha x b e; cases e
  | @b1 a r h1 _ ih =>
    intro ha x b e
    have h0 := zS h1
    obtain ⟨l, w, F, T, rfl, hw⟩ := ih (by omega) x b e
    exact ⟨_, .blk hw⟩
  | lE h1 => intro ha x b e; cases e; exact ⟨[], [], _, _, by rw [List.append_nil]; rfl, .ss0⟩
  | lG h1 hd _ ih1 ih2 =>
    intro ha x b e
    have q := hd.inS ha; simp only [InS] at q
    obtain ⟨w, hw⟩ := ih1 ha _ _ rfl
    obtain ⟨l, wl, F, T, rfl, hl⟩ := ih2 q.2 x b e
    exact ⟨_ :: l, _, F, T, by simp, .ssc hw hl⟩
  | lB _ _ _ => intro ha x b e; cases e
  | fE _ => intro ha x b e; cases e; exact fun _ => ⟨[], _, [], _, _, by rw [List.append_nil]; rfl, .f0, fun _ => rfl⟩
  | fW h1 _ ih => intro ha x b e hn; have h0 := uR h1; obtain ⟨ps, nm, w, F, T, rfl, h2, h3⟩ := ih (by omega) x b e hn; exact ⟨ps, nm, _, F, T, rfl, .fW h2, h3⟩
  | fW0 _ => intro ha x b e; cases e
  | fS h1 _ ih => intro ha x b e hn; have h0 := zS h1; obtain ⟨ps, nm, w, F, T, rfl, h2, h3⟩ := ih (by omega) x b e hn; exact ⟨ps, nm, _, F, T, rfl, .fS h2, h3⟩
  | fS0 _ => intro ha x b e; cases e
  | @fN f a k its parts name r h1 _ ih =>
    intro ha x b e hn
    have h0 := uJ (t := t) (a := a) (by rw [h1]; decide)
    simp only [nmC] at hn
    obtain ⟨ps, nm, w, F, T, rfl, h2, h3⟩ := ih (by omega) x b e (by omega)
    have h4 := h3 (by omega)
    subst h4
    exact ⟨ps, _, _, F, T, rfl, .fN ((v1a tf hm h0).nm h1) h2, fun h => by simp [nmC] at h⟩
  | fN0 _ => intro ha x b e; cases e
  | fX hd _ ih =>
    intro ha x b e hn
    have q := hd.inR ha; simp only [InR] at q
    obtain ⟨w1, p1, -⟩ := v3o tf hm hd ha _ _ rfl
    obtain ⟨ps, nm, w, F, T, rfl, h2, h3⟩ := ih q.2 x b e hn
    exact ⟨_ :: ps, nm, _, F, T, by simp, .fX p1 h2, h3⟩
  | fX0 _ => intro ha x b e; cases e
  | @fT f a k its parts name r h1 _ ih =>
    intro ha x b e hn
    have q : a < (z4D t a).2.1 ∧ (z4D t a).2.1 ≤ t.length := y0c (t.length + 1) t a (by omega) h1
    obtain ⟨w1, p1⟩ := v0S tf hm (t.length + 1) a (by omega) h1
    obtain ⟨ps, nm, w, F, T, rfl, h2, h3⟩ := ih q.2 x b e hn
    exact ⟨_ :: ps, nm, _, F, T, by simp, .fT p1 h2, h3⟩
  | fT0 _ => intro ha x b e; cases e
  | fK hd _ ih1 ih2 =>
    intro ha x b e hn
    have q := hd.inS ha; simp only [InS] at q
    obtain ⟨w1, p1⟩ := ih1 ha _ _ rfl
    obtain ⟨ps, nm, w, F, T, rfl, h2, h3⟩ := ih2 q.2 x b e hn
    exact ⟨_ :: ps, nm, _, F, T, by simp, .fK p1 h2, h3⟩
  | fK0 _ _ => intro ha x b e; cases e
  | fE0 _ _ => intro ha x b e; cases e
  | @fE1 f a b0 k its parts name x0 r hd _ _ ih1 ih2 =>
    intro ha x b e hn
    have q := hd.inS ha; simp only [InS] at q
    obtain ⟨w1, p1⟩ := ih1 ha _ _ rfl
    obtain ⟨ps, nm, w, F, T, rfl, h2, h3⟩ := ih2 q.2 x b e hn
    exact ⟨x0 :: y3O (zK t (b0 - 1)).To :: ps, nm, _, F, T, by simp, .fE1 p1 h2, h3⟩
  | @fE2 f a b0 c k its parts name x0 y0 r hd hw hd2 _ ih1 ih2 ih3 =>
    intro ha x b e hn
    have hb := uR hw
    have q := hd.inS ha; simp only [InS] at q
    have q2 := hd2.inS (by omega); simp only [InS] at q2
    obtain ⟨w1, p1⟩ := ih1 ha _ _ rfl
    obtain ⟨w2, p2⟩ := ih2 (by omega) _ _ rfl
    obtain ⟨ps, nm, w, F, T, rfl, h2, h3⟩ := ih3 q2.2 x b e hn
    by_cases hy : y0.L = []
    · have : ∃ F T, y0 = ⟨29, 0, [], [], F, T⟩ := v3m p2 hy
      obtain ⟨F', T', rfl⟩ := this
      exact ⟨x0 :: ⟨29, 0, [], [], F', T'⟩ :: ps, nm, _, F, T, by simp, .fE1 p1 h2, h3⟩
    · exact ⟨x0 :: y0 :: ps, nm, _, F, T, by simp, .fE2 p1 p2 hy h2, h3⟩
  | fE3 _ _ _ _ _ => intro ha x b e; cases e
end
def Lst (t : List zC) (n : Nat) : Prop := ∀ i, n ≤ i → (zK t i).K = 5
theorem z1A {t : List zC} {n a : Nat} (hn : Lst t n) (h : (zK t a).K ≠ 5) : a < n := Nat.lt_of_not_le fun h1 => h (hn a h1)
theorem wE {t : List zC} {n a : Nat} {s : Str} (hn : Lst t n) (h : yB t a s = true) : a < n := z1A hn (by
  unfold yB at h
  simp only [Bool.and_eq_true, decide_eq_true_eq] at h
  rw [h.1]; decide)
theorem z1a {t : List zC} {n a : Nat} {s : Str} (hn : Lst t n) (h : vW t a s = true) : a < n := z1A hn (by
  unfold vW at h
  simp only [Bool.and_eq_true, decide_eq_true_eq] at h
  rw [h.1]; decide)
theorem z3D {t : List zC} {n : Nat} (hn : Lst t n) {a : Nat} (h : z0g t a ≠ .no) : a < n := by
  unfold z0g at h
  by_cases h1 : (zK t a).K = 2
  · exact z1A hn (by rw [h1]; decide)
  rw [if_neg h1] at h
  by_cases h2 : (zK t a).K = 1
  · exact z1A hn (by rw [h2]; decide)
  rw [if_neg h2] at h
  by_cases h3 : vW t a [116, 114, 117, 101] = true
  · exact z1a hn h3
  rw [if_neg h3] at h
  by_cases h3 : vW t a [102, 97, 108, 115, 101] = true
  · exact z1a hn h3
  rw [if_neg h3] at h
  by_cases h3 : vW t a [114, 101, 97, 100] = true
  · exact z1a hn h3
  rw [if_neg h3] at h
  by_cases h3 : vW t a [110, 101, 119] = true
  · exact z1a hn h3
  rw [if_neg h3] at h
  by_cases h3 : yB t a [40] = true
  · exact wE hn h3
  rw [if_neg h3] at h
  by_cases h3 : yB t a [91] = true
  · exact wE hn h3
  rw [if_neg h3] at h
  by_cases h3 : yB t a [64] = true
  · exact wE hn h3
  rw [if_neg h3] at h
  exact absurd rfl h
theorem y1c {t : List zC} {n : Nat} (hn : Lst t n) {a o : Nat} {k : Int} {s : Str} {few : Bool} (h : z0g t a = .call k s o few) : a < o ∧ o ≤ n := by
  have h0 := z3D hn (t := t) (a := a) (by rw [h]; simp)
  unfold z0g at h
  repeat' split at h
  all_goals first
    | (cases h; done)
    | (injection h with h1 h2 h3 h4; subst h3; rename_i q; have := z1A (t := t) (n := n) hn (a := a + 1) (by rw [q]; decide); omega)
    | (injection h with h1 h2 h3 h4; subst h3; omega)
def z4T (n : Nat) (c : Cat) (a : Nat) : Res → Prop
  | .ok x b => (match c with | .ll _ _ _ _ => a ≤ b | .pl _ _ => a ≤ b | _ => a < b) ∧ b ≤ n
  | .bad b => a ≤ b ∧ b ≤ n
theorem Der.inRn {t : List zC} {n : Nat} (hn : Lst t n) {c : Cat} {a : Nat} {r : Res} (h : Der t c a r) : a ≤ n → z4T n c a r := by
  induction h with
  | un h1 _ ih =>
    intro _
    have ha : _ < n := h1.elim (fun h => wE hn h.2) (fun h => wE hn h.2)
    have := ih (by omega); simp only [z4T] at this ⊢; omega
  | unB h1 _ ih =>
    intro _
    have ha : _ < n := h1.elim (fun h => wE hn h) (fun h => wE hn h)
    have := ih (by omega); simp only [z4T] at this ⊢; omega
  | unP _ _ _ ih => intro h; exact ih h
  | @lev k a b x r h1 h2 _ _ ih1 ih2 =>
    intro h
    have q1 := ih1 h; simp only [z4T] at q1
    have q2 := ih2 q1.2
    cases r <;> simp only [z4T] at q2 ⊢ <;> omega
  | levB _ _ _ ih => intro h; exact ih h
  | llE _ _ => intro h; simp only [z4T]; omega
  | @llG k m f a b x y r h1 h2 h3 _ _ ih1 ih2 =>
    intro h
    have ha := z1A (t := t) (n := n) hn (a := a) (by rw [z3c (by omega)]; decide)
    have q1 := ih1 (by omega); simp only [z4T] at q1
    have q2 := ih2 q1.2
    cases r <;> simp only [z4T] at q2 ⊢ <;> omega
  | @llB k m f a b x h1 h2 h3 _ ih1 =>
    intro h
    have ha := z1A (t := t) (n := n) hn (a := a) (by rw [z3c (by omega)]; decide)
    have q1 := ih1 (by omega); simp only [z4T] at q1 ⊢; omega
  | @post a b x r _ _ ih1 ih2 =>
    intro h
    have q1 := ih1 h; simp only [z4T] at q1
    have q2 := ih2 q1.2
    cases r <;> simp only [z4T] at q2 ⊢ <;> omega
  | postB _ ih => intro h; exact ih h
  | plE _ _ => intro h; simp only [z4T]; omega
  | @plI f a b x i r h1 _ h2 _ ih1 ih2 =>
    intro h
    have ha := wE hn h1
    have hb := wE hn h2
    have q1 := ih1 (by omega); simp only [z4T] at q1
    have q2 := ih2 (by omega)
    cases r <;> simp only [z4T] at q2 ⊢ <;> omega
  | plI1 h1 _ ih =>
    intro h
    have ha := wE hn h1
    have q1 := ih (by omega); simp only [z4T] at q1 ⊢; omega
  | plI2 h1 _ _ ih =>
    intro h
    have ha := wE hn h1
    have q1 := ih (by omega); simp only [z4T] at q1 ⊢; omega
  | @plF f a x r h0 h1 h2 _ ih =>
    intro h
    have ha := z1A (t := t) (n := n) hn (a := a + 1) (by rw [h2]; decide)
    have q2 := ih (by omega)
    cases r <;> simp only [z4T] at q2 ⊢ <;> omega
  | plFB _ h1 _ => intro h; have := wE hn h1; simp only [z4T]; omega
  | one h1 => intro h; have := z3D hn (by rw [h1]; simp); simp only [z4T]; omega
  | par h1 _ h2 ih =>
    intro h; have ha := z3D hn (by rw [h1]; simp); have hb := wE hn h2
    have q1 := ih (by omega); simp only [z4T] at q1 ⊢; omega
  | par1 h1 _ ih =>
    intro h; have ha := z3D hn (by rw [h1]; simp)
    have q1 := ih (by omega); simp only [z4T] at q1 ⊢; omega
  | par2 h1 _ _ ih =>
    intro h; have ha := z3D hn (by rw [h1]; simp)
    have q1 := ih (by omega); simp only [z4T] at q1 ⊢; omega
  | call h1 _ ih =>
    intro h; have ha := y1c hn h1
    have q1 := ih (by omega); simp only [z4T] at q1 ⊢; omega
  | callB h1 _ ih =>
    intro h; have ha := y1c hn h1
    have q1 := ih (by omega); simp only [z4T] at q1 ⊢; omega
  | lis h1 _ h2 ih =>
    intro h; have ha := z3D hn (by rw [h1]; simp); have hb := wE hn h2
    have q1 := ih (by omega); simp only [z4T] at q1 ⊢; omega
  | lis1 h1 _ ih =>
    intro h; have ha := z3D hn (by rw [h1]; simp)
    have q1 := ih (by omega); simp only [z4T] at q1 ⊢; omega
  | lis2 h1 _ _ ih =>
    intro h; have ha := z3D hn (by rw [h1]; simp)
    have q1 := ih (by omega); simp only [z4T] at q1 ⊢; omega
  | nm h1 => intro h; have ha := z3D hn (by rw [h1]; simp); simp only [z4T]; omega
  | no _ => intro h; simp only [z4T]; omega
  | cls0 _ => intro h; simp only [z4T]; omega
  | clsF h1 h2 => intro h; have ha := wE hn h2; simp only [z4T]; omega
  | cls h1 _ _ h2 ih =>
    intro h; have ha := wE hn h1; have hb := wE hn h2
    have q1 := ih (by omega); simp only [z4T] at q1 ⊢; omega
  | cls1 h1 _ _ ih =>
    intro h; have ha := wE hn h1
    have q1 := ih (by omega); simp only [z4T] at q1 ⊢; omega
  | cls2 h1 _ _ _ ih =>
    intro h; have ha := wE hn h1
    have q1 := ih (by omega); simp only [z4T] at q1 ⊢; omega
  | lstE _ _ ih => intro h; have q1 := ih h; simp only [z4T] at q1 ⊢; omega
  | @lstG a b acc x r _ h2 _ ih1 ih2 =>
    intro h; have hb := wE hn h2
    have q1 := ih1 h; simp only [z4T] at q1
    have q2 := ih2 (by omega)
    cases r <;> simp only [z4T] at q2 ⊢ <;> omega
  | lstB _ ih => intro h; have q1 := ih h; simp only [z4T] at q1 ⊢; omega
theorem y7t {t : List zC} {m : Nat} (hn : Lst t m) : ∀ (n a : Nat), m < a + n → (typ n t a).2.2 = 0 → a < (typ n t a).2.1 ∧ (typ n t a).2.1 ≤ m
  | 0, a, _, h => by cases h
  | n + 1, a, hl, h => by
    rw [typ] at h ⊢
    by_cases h1 : vW t a [105, 110, 116] = true
    · rw [if_pos h1]; have := z1a hn h1; exact ⟨by simp, this⟩
    rw [if_neg h1] at h ⊢
    by_cases h2 : vW t a [98, 111, 111, 108] = true
    · rw [if_pos h2]; have := z1a hn h2; exact ⟨by simp, this⟩
    rw [if_neg h2] at h ⊢
    by_cases h3 : (zK t a).K = 1
    · rw [if_pos h3]; have := z1A (t := t) (n := m) hn (a := a) (by rw [h3]; decide); exact ⟨by simp, this⟩
    rw [if_neg h3] at h ⊢
    by_cases h4 : yB t a [91] = true
    · rw [if_pos h4] at h ⊢
      by_cases h5 : (zK t (a + 1)).K = 2
      · rw [if_pos h5] at h ⊢
        by_cases h6 : yB t (a + 2) [93] = true
        · rw [if_pos h6] at h ⊢
          by_cases h7 : (typ n t (a + 3)).2.2 = 0
          · rw [if_pos h7]
            have := y7t hn n (a + 3) (by omega) h7
            exact ⟨by show a < (typ n t (a + 3)).2.1; omega, this.2⟩
          · rw [if_neg h7] at h; exact absurd h h7
        · rw [if_neg h6] at h; cases h
      · rw [if_neg h5] at h; cases h
    · rw [if_neg h4] at h; cases h
theorem z9B {t : List zC} {m : Nat} (hn : Lst t m) : ∀ (n a : Nat), m < a + n → a ≤ m → (typ n t a).2.2 ≠ 0 → a ≤ (typ n t a).2.1 ∧ (typ n t a).2.1 ≤ m
  | 0, a, h1, h2, _ => by omega
  | n + 1, a, h1, h2, h => by
    rw [typ] at h ⊢
    by_cases g1 : vW t a [105, 110, 116] = true
    · rw [if_pos g1] at h; exact absurd rfl h
    rw [if_neg g1] at h ⊢
    by_cases g2 : vW t a [98, 111, 111, 108] = true
    · rw [if_pos g2] at h; exact absurd rfl h
    rw [if_neg g2] at h ⊢
    by_cases g3 : (zK t a).K = 1
    · rw [if_pos g3] at h; exact absurd rfl h
    rw [if_neg g3] at h ⊢
    by_cases g4 : yB t a [91] = true
    · have k4 := wE hn g4
      rw [if_pos g4] at h ⊢
      by_cases g5 : (zK t (a + 1)).K = 2
      · have k5 := z1A (t := t) (n := m) hn (a := a + 1) (by rw [g5]; decide)
        rw [if_pos g5] at h ⊢
        by_cases g6 : yB t (a + 2) [93] = true
        · have k6 := wE hn g6
          rw [if_pos g6] at h ⊢
          by_cases g7 : (typ n t (a + 3)).2.2 = 0
          · rw [if_pos g7] at h; exact absurd rfl h
          · rw [if_neg g7]
            have := z9B hn n (a + 3) (by omega) (by omega) g7
            exact ⟨by show a ≤ (typ n t (a + 3)).2.1; omega, this.2⟩
        · rw [if_neg g6]; exact ⟨by show a ≤ a + 2; omega, by show a + 2 ≤ m; omega⟩
      · rw [if_neg g5]; exact ⟨by show a ≤ a + 1; omega, by show a + 1 ≤ m; omega⟩
    · rw [if_neg g4]; exact ⟨Nat.le_refl _, h2⟩
def y0i (n : Nat) (c : y9i) (a : Nat) : Res → Prop
  | .ok x b => (match c with | .form _ _ its _ _ => a ≤ b ∧ (its ≠ [] → a < b) | _ => a < b) ∧ b ≤ n
  | .bad b => a ≤ b ∧ b ≤ n
theorem SDer.inSn {t : List zC} {mm : Nat} (hn : Lst t mm) (hlt : mm < t.length) {c : y9i} {a : Nat} {r : Res} (h : SDer t c a r) : a ≤ mm → y0i mm c a r := by
  have step : ∀ {k : Int} {f a b : Nat} {it : It} {its : List It} {p p' : List zF} {n n' : Str} {r : Res}, a < b → y0i mm (.form k f its p' n') b r → y0i mm (.form k f (it :: its) p n) a r := by
    intro k f a b it its p p' n n' r h1 h2
    cases r with
    | ok x c => simp only [y0i] at h2 ⊢; exact ⟨⟨by omega, fun _ => by omega⟩, h2.2⟩
    | bad c => simp only [y0i] at h2 ⊢; omega
  induction h with
  | sB _ _ ih => intro h; exact ih h
  | @sF a r h1 hd ih =>
    intro h
    have q := ih h
    cases r with
    | ok x b =>
      simp only [y0i] at q ⊢
      refine ⟨q.1.2 ?_, q.2⟩
      unfold z3v
      repeat' split
      all_goals simp
    | bad b => exact q
  | b0 _ => intro h; simp only [y0i]; omega
  | @b1 a r h1 _ ih =>
    intro h
    have := wE hn h1
    have q := ih (by omega)
    cases r <;> simp only [y0i] at q ⊢ <;> omega
  | lE h1 => intro h; have := wE hn h1; simp only [y0i]; omega
  | @lG f a b acc x r h1 _ _ ih1 ih2 =>
    intro h
    have q1 := ih1 h; simp only [y0i] at q1
    have q2 := ih2 q1.2
    cases r <;> simp only [y0i] at q2 ⊢ <;> omega
  | lB _ _ ih => intro h; exact ih h
  | fE _ => intro h; simp only [y0i]; exact ⟨⟨Nat.le_refl _, fun h => absurd rfl h⟩, h⟩
  | fW h1 _ ih => intro h; have := z1a hn h1; exact step (by omega) (ih (by omega))
  | fW0 _ => intro h; simp only [y0i]; omega
  | fS h1 _ ih => intro h; have := wE hn h1; exact step (by omega) (ih (by omega))
  | fS0 _ => intro h; simp only [y0i]; omega
  | @fN f a k its parts name r h1 _ ih => intro h; have := z1A (t := t) (n := mm) hn (a := a) (by rw [h1]; decide); exact step (Nat.lt_succ_self a) (ih (by omega))
  | fN0 _ => intro h; simp only [y0i]; omega
  | fX hd _ ih => intro h; have q := hd.inRn hn h; simp only [z4T] at q; exact step q.1 (ih q.2)
  | fX0 hd => intro h; have q := hd.inRn hn h; simp only [z4T, y0i] at q ⊢; exact q
  | @fT f a k its parts name r h1 _ ih => intro h; have q := y7t hn (t.length + 1) a (by omega) h1; exact step q.1 (ih q.2)
  | @fT0 f a k its parts name h1 => intro h; have q := z9B hn (t.length + 1) a (by omega) h h1; simp only [y0i]; exact q
  | fK _ _ ih1 ih2 => intro h; have q := ih1 h; simp only [y0i] at q; exact step q.1 (ih2 q.2)
  | fK0 _ ih => intro h; exact ih h
  | fE0 _ ih => intro h; exact ih h
  | fE1 _ _ _ ih1 ih2 => intro h; have q := ih1 h; simp only [y0i] at q; exact step q.1 (ih2 q.2)
  | @fE2 f a b c k its parts name x y r _ h2 _ _ ih1 ih2 ih3 =>
    intro h
    have hb := z1a hn h2
    have q := ih1 h; simp only [y0i] at q
    have q2 := ih2 (by omega); simp only [y0i] at q2
    exact step (by omega) (ih3 q2.2)
  | @fE3 f a b c k its parts name x _ h2 _ ih1 ih2 =>
    intro h
    have hb := z1a hn h2
    have q := ih1 h; simp only [y0i] at q
    have q2 := ih2 (by omega); simp only [y0i] at q2 ⊢
    omega
theorem jO (t : List zC) (a : Nat) : uL t a = some (zK t a) := by
  unfold uL zK
  by_cases h : a < t.length
  · rw [if_pos (show (a : Int) < (t.length : Int) by omega), gF h, zA, List.getElem?_eq_getElem h]; rfl
  · rw [if_neg (show ¬ (a : Int) < (t.length : Int) by omega), List.getElem?_eq_none (by omega)]; rfl
theorem zO (s : Str) (t : List zC) (a : Nat) : zQ t a s = some (yB t a s) := by
  unfold zQ yB
  rw [jO, zA]
  by_cases h : (zK t a).K = 4
  · rw [if_pos h, decide_eq_true h]; rfl
  · rw [if_neg h, decide_eq_false h]; rfl
theorem wD (s : Str) (t : List zC) (a : Nat) : vZ t a s = some (vW t a s) := by
  unfold vZ vW
  rw [jO, zA]
  by_cases h : (zK t a).K = 3
  · rw [if_pos h, decide_eq_true h]; rfl
  · rw [if_neg h, decide_eq_false h]; rfl
theorem jQ (t : List zC) (hl : t.length ≤ 9223372036854775807) (f a : Nat) (hf : f < a) (ha : a ≤ t.length) (k n : Int) (s : Str) (l : List zF) : zR t f a k n s l = some ⟨jL t f a ⟨k, n, s, l, 0, 0⟩, (a : Int), 0⟩ := by
  unfold zR jL zK
  have h1 : IntKind.wrap .i64 ((a : Int) - 1) = ((a - 1 : Nat) : Int) := by rw [uU (by omega) (by omega)]; omega
  rw [gF (show f < t.length by omega), zA, h1, gF (show a - 1 < t.length by omega), zA, List.getElem?_eq_getElem (show f < t.length by omega), List.getElem?_eq_getElem (show a - 1 < t.length by omega)]; rfl
theorem y8f (t : List zC) (hl : t.length ≤ 1048576) : ∀ (n a : Nat), t.length < a + n → a ≤ t.length + 3 → wV t a = some ⟨(typ n t a).1, ((typ n t a).2.1 : Int), (typ n t a).2.2⟩ := by
  intro n
  induction n with
  | zero =>
    intro a h1 h2
    rw [z9V]; unfold z2b
    have hk : zK t a = v4g := by unfold zK; rw [List.getElem?_eq_none (by omega)]; rfl
    have hw : ∀ s, vW t a s = false := fun s => by unfold vW; rw [hk]; rfl
    have hs : ∀ s, yB t a s = false := fun s => by unfold yB; rw [hk]; rfl
    rw [wD, zA, hw, if_neg (by simp), wD, zA, hw, if_neg (by simp), jO, zA, hk, if_neg (by decide), zO, zA, hs, if_neg (by simp)]
    rfl
  | succ n ih =>
    intro a h1 h2
    rw [z9V]; unfold z2b
    rw [typ]
    have c1 : IntKind.wrap .i64 ((a : Int) + 1) = ((a + 1 : Nat) : Int) := by rw [uU (by omega) (by omega)]; omega
    have c2 : IntKind.wrap .i64 ((a : Int) + 2) = ((a + 2 : Nat) : Int) := by rw [uU (by omega) (by omega)]; omega
    have c3 : IntKind.wrap .i64 ((a : Int) + 3) = ((a + 3 : Nat) : Int) := by rw [uU (by omega) (by omega)]; omega
    rw [c1, c2, c3, wD, zA]
    by_cases g1 : vW t a [105, 110, 116] = true
    · have := uR g1
      rw [if_pos g1, if_pos g1, jQ t (by omega) a (a + 1) (by omega) (by omega)]; rfl
    rw [if_neg g1, if_neg g1, wD, zA]
    by_cases g2 : vW t a [98, 111, 111, 108] = true
    · have := uR g2
      rw [if_pos g2, if_pos g2, jQ t (by omega) a (a + 1) (by omega) (by omega)]; rfl
    rw [if_neg g2, if_neg g2, jO, zA]
    by_cases g3 : (zK t a).K = 1
    · have := uJ (t := t) (a := a) (by rw [g3]; decide)
      rw [if_pos g3, if_pos g3, zA, jQ t (by omega) a (a + 1) (by omega) (by omega)]; rfl
    rw [if_neg g3, if_neg g3, zO, zA]
    by_cases g4 : yB t a [91] = true
    · rw [if_pos g4, if_pos g4, jO, zA]
      by_cases g5 : (zK t (a + 1)).K = 2
      · rw [if_pos g5, if_pos g5, zO, zA]
        by_cases g6 : yB t (a + 2) [93] = true
        · have := zS g6
          rw [if_pos g6, if_pos g6, ih (a + 3) (by omega) (by omega), zA]
          dsimp only
          by_cases g7 : (typ n t (a + 3)).2.2 = 0
          · have hp := y0c n t (a + 3) (by omega) g7
            rw [if_pos g7, if_pos g7, zA, jQ t (by omega) a _ (by omega) hp.2]; rfl
          · rw [if_neg g7, if_neg g7]
            have hz : ∀ (n a : Nat), (typ n t a).2.2 ≠ 0 → (typ n t a).1 = zT7 := by
              intro n a h
              cases n with
              | zero => rfl
              | succ n =>
                rw [typ] at h ⊢
                revert h
                repeat' split
                all_goals (intro h; first | rfl | exact absurd rfl h)
            rw [hz _ _ g7]
        · rw [if_neg g6, if_neg g6]; rfl
      · rw [if_neg g5, if_neg g5]; rfl
    · rw [if_neg g4, if_neg g4]; rfl
def got : Res → zG
  | .ok x b => ⟨x, (b : Int), 0⟩
  | .bad b => ⟨zT7, (b : Int), 6⟩
def y5P (t : List zC) (a : Nat) : List Str → List Int → Int
  | s :: ss, o :: os => if yB t a s = true then o else y5P t a ss os
  | _, _ => 0
theorem v2O (t : List zC) (a : Nat) (ss : List Str) (os : List Int) (he : ss.length = os.length) (hs : ss.length ≤ 100) : ∀ (n i : Nat), i + n = ss.length → uF t a ss os i = some (y5P t a (ss.drop i) (os.drop i)) := by
  intro n
  induction n with
  | zero =>
    intro i hi
    rw [z8S]; unfold z1q
    rw [if_neg (by omega), List.drop_eq_nil_of_le (show ss.length ≤ i by omega)]
    rfl
  | succ n ih =>
    intro i hi
    have h1 : i < ss.length := by omega
    have h2 : i < os.length := by omega
    rw [z8S]; unfold z1q
    rw [if_pos (by omega), gF h1, zA, zO, zA, List.drop_eq_getElem_cons h1, List.drop_eq_getElem_cons h2, y5P]
    by_cases h : yB t a ss[i] = true
    · rw [if_pos h, if_pos h, gF h2]; rfl
    · rw [if_neg h, if_neg h, uU (by omega) (by omega), wB, ih (i + 1) (by omega)]
theorem v0v (t : List zC) (a k : Nat) (h1 : 1 ≤ k) (h2 : k ≤ 5) : y1V t a k = some (if (z8O (zK t a)).2 = k then (z8O (zK t a)).1 else 0) := by
  have hk : k = 1 ∨ k = 2 ∨ k = 3 ∨ k = 4 ∨ k = 5 := by omega
  rcases hk with rfl | rfl | rfl | rfl | rfl
  all_goals
    have e0 : ∀ ss os, ss.length = os.length → ss.length ≤ 100 → uF t a ss os 0 = some (y5P t a ss os) := fun ss os h1 h2 => by
      have := v2O t a ss os h1 h2 ss.length 0 (by omega)
      simpa using this
    unfold y1V z4q
    simp only [zA, if_true, Int.reduceEq, if_false, Int.cast_ofNat_Int]
    rw [e0 _ _ rfl (by decide)]
    simp only [y5P, yB]
    obtain ⟨x, hx⟩ : ∃ x, zK t a = x := ⟨_, rfl⟩
    simp only [hx]
    unfold z8O
    by_cases hk : x.K = 4
    · rcases v0C x.S with e | e | e | e | e | e | e | e | e | e | e | e | e | ⟨e1, e2, e3, e4, e5, e6, e7, e8, e9, e10, e11, e12, e13⟩
      case inr.inr.inr.inr.inr.inr.inr.inr.inr.inr.inr.inr.inr => simp [hk, e1, e2, e3, e4, e5, e6, e7, e8, e9, e10, e11, e12, e13]
      all_goals (simp only [hk, e]; rfl)
    · simp [hk]
theorem y7g (t : List zC) (a : Nat) (few : Bool) (o c : Str) (h : yB t a o = false) : yW t a few o c = some ([], (a : Int), 6) := by
  rw [z4B]; unfold z0l
  rw [zO, zA, h]; rfl
theorem y7h (t : List zC) (hl : t.length ≤ 1048576) (a : Nat) (o c : Str) (h : yB t a o = true) (h2 : yB t (a + 1) c = true) : yW t a true o c = some ([], ((a + 2 : Nat) : Int), 0) := by
  have ha := zS h
  rw [z4B]; unfold z0l
  rw [zO, zA, h, if_pos rfl, if_pos rfl, uZ hl (by omega), zO, zA, h2, if_pos rfl, z8Z hl (by omega)]
theorem z4p (t : List zC) (hl : t.length ≤ 1048576) (a : Nat) (few : Bool) (o c : Str) (h : yB t a o = true) (h2 : few = true → yB t (a + 1) c = false) :
    yW t a few o c = (jR t ((a + 1 : Nat) : Int) >>= fun q => if q.2.2 = 0 then (zQ t q.2.1 c >>= fun z => if z = true then some (q.1, IntKind.wrap .i64 (q.2.1 + 1), 0) else some (q.1, q.2.1, 6)) else some (q.1, q.2.1, q.2.2)) := by
  have ha := zS h
  rw [z4B]; unfold z0l
  rw [zO, zA, h, if_pos rfl, uZ hl (by omega)]
  cases few with
  | false => rw [if_neg (by simp)]
  | true => rw [if_pos rfl, zO, zA, h2 rfl, if_neg (by simp)]
def RM (t : List zC) : Cat → Nat → Res → Prop
  | .lev k, a, r => yK t a k = some (got r)
  | .ll k m f x, a, r => f < a → m ≤ a → k ≤ 5 → ∀ o, yT t f k m o ⟨x, (a : Int), 0⟩ = some (got r)
  | .post, a, r => uP t a = some (got r)
  | .pl f x, a, r => f < a → ∀ o, vH t f o ⟨x, (a : Int), 0⟩ = some (got r)
  | .atom, a, r => yM t a = some (got r)
  | .cls few, a, r => (∀ l b, r = .ok l b → yW t a few [40] [41] = some (l.L, (b : Int), 0)) ∧ (∀ b, r = .bad b → ∃ l, yW t a few [40] [41] = some (l, (b : Int), 6))
  | .lst acc, a, r => acc.length < a → (∀ l b, r = .ok l b → vG t a acc = some (l.L, (b : Int), 0)) ∧ (∀ b, r = .bad b → ∃ l, vG t a acc = some (l, (b : Int), 6))
theorem y7b (t : List zC) (a : Nat) (g : zG) (h : jX t a = some g) : yK t a (6 : Nat) = some g := by
  rw [z3E]; unfold z0m
  rw [if_pos (by decide), h]; rfl
theorem z7u {t : List zC} {a : Nat} {g : zG} (h : yK t a (1 : Nat) = some g) : yJ t a = some g := by
  rw [y5S]; unfold z2S
  rw [show ((1 : Int)) = ((1 : Nat) : Int) from rfl, h]; rfl
theorem y0B (t : List zC) (a : Nat) : jR t a = vG t a [] := by rw [y5T]; rfl
theorem y5Z {t : List zC} {a : Nat} {g : zG} (h : yK t a (6 : Nat) = some g) : jX t a = some g := by
  rw [z3E] at h; unfold z0m at h
  rw [if_pos (by decide)] at h
  cases hu : jX t a with
  | none => rw [hu] at h; cases h
  | some x => rw [hu] at h; exact h
theorem v2x (t : List zC) (hl : t.length ≤ 1048576) (a : Nat) (h1 : (zK t a).K = 1) : wF t a = (yW t ((a + 1 : Nat) : Int) true [40] [41] >>= fun q => if q.2.2 = 0 then (zR t a q.2.1 16 0 (zK t a).S q.1 >>= fun z => some z) else some ⟨zT7, q.2.1, q.2.2⟩) := by
  have ha := uJ (t := t) (a := a) (by rw [h1]; decide)
  rw [z0u]; unfold uV
  rw [jO, zA, if_pos h1, zA, uZ hl (by omega)]
theorem v1k (t : List zC) (a : Nat) (h1 : yB t a [91] = true) : wF t a = (yW t a false [91] [93] >>= fun q => if q.2.2 = 0 then (zR t a q.2.1 14 0 [] q.1 >>= fun z => some z) else some ⟨zT7, q.2.1, q.2.2⟩) := by
  rw [z0u]; unfold uV
  rw [jO, zA, if_neg (by rw [(y4r h1).1]; decide), zO, zA, h1, if_pos rfl]
theorem v2y (t : List zC) (hl : t.length ≤ 1048576) (a : Nat) (h1 : yB t a [64] = true) (h2 : (zK t (a + 1)).K = 1) : wF t a = (yW t ((a + 2 : Nat) : Int) true [40] [41] >>= fun q => if q.2.2 = 0 then (zR t a q.2.1 17 0 (zK t (a + 1)).S q.1 >>= fun z => some z) else some ⟨zT7, q.2.1, q.2.2⟩) := by
  have ha := zS h1
  rw [z0u]; unfold uV
  rw [jO, zA, if_neg (by rw [(y4r h1).1]; decide), zO, zA, z8X h1 (by decide), if_neg (by simp), zO, zA, h1, if_pos rfl, uZ hl (by omega), jO, zA, if_pos h2, zA, wD, zA, y2j (by rw [(y4r h1).1]; decide), if_neg (by simp), z8Z hl (by omega)]
theorem v1j (t : List zC) (hl : t.length ≤ 1048576) (a : Nat) (h1 : yB t a [64] = true) (h2 : (zK t (a + 1)).K ≠ 1) : wF t a = some ⟨zT7, ((a + 1 : Nat) : Int), 6⟩ := by
  have ha := zS h1
  rw [z0u]; unfold uV
  rw [jO, zA, if_neg (by rw [(y4r h1).1]; decide), zO, zA, z8X h1 (by decide), if_neg (by simp), zO, zA, h1, if_pos rfl, uZ hl (by omega), jO, zA, if_neg h2]
  rfl
theorem v2w (t : List zC) (hl : t.length ≤ 1048576) (a : Nat) (h1 : vW t a [110, 101, 119] = true) (h2 : (zK t (a + 1)).K = 1) : wF t a = (yW t ((a + 2 : Nat) : Int) false [40] [41] >>= fun q => if q.2.2 = 0 then (zR t a q.2.1 15 0 (zK t (a + 1)).S q.1 >>= fun z => some z) else some ⟨zT7, q.2.1, q.2.2⟩) := by
  have ha := uR h1
  have hk : (zK t a).K ≠ 4 := by rw [(y2N h1).1]; decide
  rw [z0u]; unfold uV
  rw [jO, zA, if_neg (by rw [(y2N h1).1]; decide), zO, zA, y1Z hk, if_neg (by simp), zO, zA, y1Z hk, if_neg (by simp), wD, zA, h1, if_pos rfl, uZ hl (by omega), jO, zA, if_pos h2, zA, zA, if_pos rfl, z8Z hl (by omega)]
theorem v1i (t : List zC) (hl : t.length ≤ 1048576) (a : Nat) (h1 : vW t a [110, 101, 119] = true) (h2 : (zK t (a + 1)).K ≠ 1) : wF t a = some ⟨zT7, ((a + 1 : Nat) : Int), 6⟩ := by
  have ha := uR h1
  have hk : (zK t a).K ≠ 4 := by rw [(y2N h1).1]; decide
  rw [z0u]; unfold uV
  rw [jO, zA, if_neg (by rw [(y2N h1).1]; decide), zO, zA, y1Z hk, if_neg (by simp), zO, zA, y1Z hk, if_neg (by simp), wD, zA, h1, if_pos rfl, uZ hl (by omega), jO, zA, if_neg h2]
  rfl
theorem y5R (t : List zC) (hl : t.length ≤ 1048576) (a : Nat) {k n : Int} {s : Str} (h : z0g t a = .one k n s) : yM t a = some ⟨jL t a (a + 1) ⟨k, n, s, [], 0, 0⟩, ((a + 1 : Nat) : Int), 0⟩ := by
  have ha := z0T (t := t) (a := a) (by rw [h]; simp)
  have mk := fun k n s => jQ t (by omega) a (a + 1) (by omega) (by omega) k n s []
  rw [z6D]; unfold z1p
  rw [jO, zA, uZ hl (by omega)]
  unfold z0g at h
  by_cases h1 : (zK t a).K = 2
  · rw [if_pos h1] at h ⊢
    injection h with e1 e2 e3; subst e1; subst e2; subst e3
    rw [mk]; rfl
  rw [if_neg h1] at h ⊢
  by_cases h2 : (zK t a).K = 1
  · rw [if_pos h2] at h
    have w := fun s => y2j (t := t) (a := a) (by rw [h2]; decide) s
    rw [wD, zA, w, if_neg (by simp), wD, zA, w, if_neg (by simp), wD, zA, w, if_neg (by simp), if_pos h2, zO, zA]
    by_cases h3 : yB t (a + 1) [40] = true
    · rw [if_pos h3] at h; cases h
    · rw [if_neg h3] at h ⊢
      injection h with e1 e2 e3; subst e1; subst e2; subst e3
      rw [mk]; rfl
  rw [if_neg h2] at h
  rw [wD, zA]
  by_cases h3 : vW t a [116, 114, 117, 101] = true
  · rw [if_pos h3] at h ⊢
    injection h with e1 e2 e3; subst e1; subst e2; subst e3
    rw [mk]; rfl
  rw [if_neg h3] at h ⊢
  rw [wD, zA]
  by_cases h4 : vW t a [102, 97, 108, 115, 101] = true
  · rw [if_pos h4] at h ⊢
    injection h with e1 e2 e3; subst e1; subst e2; subst e3
    rw [mk]; rfl
  rw [if_neg h4] at h ⊢
  rw [wD, zA]
  by_cases h5 : vW t a [114, 101, 97, 100] = true
  · rw [if_pos h5] at h ⊢
    injection h with e1 e2 e3; subst e1; subst e2; subst e3
    rw [mk]; rfl
  rw [if_neg h5] at h
  repeat' split at h
  all_goals cases h
theorem z8j (t : List zC) (hl : t.length ≤ 1048576) (a : Nat) (h1 : yB t a [40] = true) :
    yM t a = (yJ t ((a + 1 : Nat) : Int) >>= fun q => if q.E = 0 then (zQ t q.At [41] >>= fun z => if z = true then some { q with At := IntKind.wrap .i64 (q.At + 1) } else (vO q.At >>= fun y => some y)) else some q) := by
  have ha := zS h1
  have hk := (y4r h1).1
  have w := fun s => y2j (t := t) (a := a) (by rw [hk]; decide) s
  rw [z6D]; unfold z1p
  rw [jO, zA, if_neg (by rw [hk]; decide), wD, zA, w, if_neg (by simp), wD, zA, w, if_neg (by simp), wD, zA, w, if_neg (by simp), if_neg (by rw [hk]; decide), zO, zA, h1, if_pos rfl, uZ hl (by omega)]
theorem z1o (t : List zC) (hl : t.length ≤ 1048576) (a : Nat) (ha : a ≤ t.length) (h1 : (zK t a).K ≠ 2) (h2 : (zK t a).K = 1 → yB t (a + 1) [40] = true) (h3 : vW t a [116, 114, 117, 101] = false) (h4 : vW t a [102, 97, 108, 115, 101] = false) (h5 : vW t a [114, 101, 97, 100] = false)
    (h6 : yB t a [40] = false) : yM t a = (wF t a >>= fun q => some q) := by
  rw [z6D]; unfold z1p
  rw [jO, zA, if_neg h1, wD, zA, h3, if_neg (by simp), wD, zA, h4, if_neg (by simp), wD, zA, h5, if_neg (by simp)]
  by_cases hk : (zK t a).K = 1
  · rw [if_pos hk, uZ hl (by omega), zO, zA, h2 hk, if_pos rfl, zO, zA, h6, if_neg (by simp)]
  · rw [if_neg hk, zO, zA, h6, if_neg (by simp)]
theorem y8S {t : List zC} (hl : t.length ≤ 1048576) {c : Cat} {a : Nat} {r : Res} (h : Der t c a r) : a ≤ t.length → RM t c a r := by
  have clsOk : ∀ {a : Nat}, a ≤ t.length → ∀ {k : Int} {s : Str} {o : Nat} {few : Bool}, z0g t a = .call k s o few → ∀ {q : Option (List zF × Int × Int)}, yW t o few [40] [41] = q →
      yM t a = (q >>= fun q => if q.2.2 = 0 then (zR t a q.2.1 k 0 s q.1 >>= fun z => some z) else some ⟨zT7, q.2.1, q.2.2⟩) >>= fun q => some q := by
    intro a ha k s o few hk q hq
    rcases y6m hk with ⟨rfl, rfl, rfl, rfl, h1, h2⟩ | ⟨rfl, rfl, rfl, rfl, h1, h2⟩ | ⟨rfl, rfl, rfl, rfl, h1, h2⟩
    · have w := fun s => y2j (t := t) (a := a) (by rw [h1]; decide) s
      rw [z1o t hl a ha (by rw [h1]; decide) (fun _ => h2) (w _) (w _) (w _) (y1Z (by rw [h1]; decide) _), v2x t hl a h1, hq]
    · have hk := (y2N h1).1
      rw [z1o t hl a ha (by rw [hk]; decide) (fun h => by rw [hk] at h; cases h) (y3m h1 (by decide)) (y3m h1 (by decide)) (y3m h1 (by decide)) (y1Z (by rw [hk]; decide) _), v2w t hl a h1 h2, hq]
    · have hk := (y4r h1).1
      have w := fun s => y2j (t := t) (a := a) (by rw [hk]; decide) s
      rw [z1o t hl a ha (by rw [hk]; decide) (fun h => by rw [hk] at h; cases h) (w _) (w _) (w _) (z8X h1 (by decide)), v2y t hl a h1 h2, hq]
  have lisOk : ∀ {a : Nat}, a ≤ t.length → z0g t a = .lis → yM t a = (vG t ((a + 1 : Nat) : Int) [] >>= fun q => if q.2.2 = 0 then (zQ t q.2.1 [93] >>= fun z => if z = true then some (q.1, IntKind.wrap .i64 (q.2.1 + 1), 0) else some (q.1, q.2.1, 6)) else some (q.1, q.2.1, q.2.2)) >>=
      (fun q => if q.2.2 = 0 then (zR t a q.2.1 14 0 [] q.1 >>= fun z => some z) else some ⟨zT7, q.2.1, q.2.2⟩) >>= fun q => some q := by
    intro a ha hk
    have h1 := y9p hk
    have hk := (y4r h1).1
    have w := fun s => y2j (t := t) (a := a) (by rw [hk]; decide) s
    rw [z1o t hl a ha (by rw [hk]; decide) (fun h => by rw [hk] at h; cases h) (w _) (w _) (w _) (z8X h1 (by decide)), v1k t a h1, z4p t hl a false _ _ h1 (fun h => by cases h), y0B]
  induction h with
  | @un a b n x h1 hd ih =>
    intro ha
    have h0 : a < t.length := h1.elim (fun h => zS h.2) (fun h => zS h.2)
    have q := hd.inR (by omega)
    simp only [InR] at q
    have e := y5Z (ih (by omega))
    refine y7b t a _ ?_
    rw [z9t]; unfold z3i
    rw [zO, zA, uZ hl (by omega)]
    rcases h1 with ⟨rfl, h1⟩ | ⟨rfl, h1⟩
    · rw [if_pos h1, zO, zA, z8X h1 (by decide), if_neg (by simp), if_neg (by decide), e, zA]
      show (if (0 : Int) = 0 then _ else _) = _
      rw [if_pos rfl]
      show (zR t a b 11 1 [] [x] >>= _) = _
      rw [jQ t (by omega) a b (by omega) q.2]; rfl
    · rw [if_neg (by rw [z8X h1 (by decide)]; simp), zO, zA, if_pos h1, if_neg (by decide), e, zA]
      show (if (0 : Int) = 0 then _ else _) = _
      rw [if_pos rfl]
      show (zR t a b 11 2 [] [x] >>= _) = _
      rw [jQ t (by omega) a b (by omega) q.2]; rfl
  | @unB a b h1 hd ih =>
    intro ha
    have h0 : a < t.length := h1.elim (fun h => zS h) (fun h => zS h)
    have e := y5Z (ih (by omega))
    refine y7b t a _ ?_
    rw [z9t]; unfold z3i
    rw [zO, zA, uZ hl (by omega)]
    rcases h1 with h1 | h1
    · rw [if_pos h1, zO, zA, z8X h1 (by decide), if_neg (by simp), if_neg (by decide), e, zA]; rfl
    · rw [if_neg (by rw [z8X h1 (by decide)]; simp), zO, zA, if_pos h1, if_neg (by decide), e, zA]; rfl
  | @unP a r h1 h2 hd ih =>
    intro ha
    have e : uP t a = some (got r) := ih ha
    refine y7b t a _ ?_
    rw [z9t]; unfold z3i
    rw [zO, zA, h1, if_neg (by simp), zO, zA, h2, if_neg (by simp), if_pos rfl, e]; rfl
  | @lev k a b x r h1 h2 hd hd2 ih1 ih2 =>
    intro ha
    have q := hd.inR ha
    simp only [InR] at q
    show yK t a k = _
    rw [z3E]; unfold z0m
    rw [if_neg (by omega), uU (by omega) (by omega), wB]
    have e : yK t a ((k + 1 : Nat) : Int) = _ := ih1 ha
    rw [e, zA]
    exact ih2 q.2 (by omega) (by omega) h2 _
  | @levB k a b h1 h2 hd ih1 =>
    intro ha
    show yK t a k = _
    rw [z3E]; unfold z0m
    rw [if_neg (by omega), uU (by omega) (by omega), wB]
    have e : yK t a ((k + 1 : Nat) : Int) = _ := ih1 ha
    rw [e, zA, z1P]; unfold jH
    rw [if_neg (by simp [got])]
  | @llE k m f a x h0 h1 =>
    intro ha hf hm hk o
    rw [z1P]; unfold jH
    rw [if_pos rfl, v0v t a k h0 hk, zA]
    rcases h1 with h1 | ⟨rfl, rfl⟩
    · rw [if_neg h1, if_pos rfl]; rfl
    · by_cases h2 : (z8O (zK t a)).2 = 3
      · rw [if_pos h2]
        by_cases h3 : (z8O (zK t a)).1 = 0
        · rw [if_pos h3]; rfl
        · rw [if_neg h3, if_pos (by decide), if_pos (by decide)]; rfl
      · rw [if_neg h2, if_pos rfl]; rfl
  | @llG k m f a b x y r h1 h2 h3 hd hd2 ih1 ih2 =>
    intro ha hf hm hk o
    have h0 := uJ (t := t) (a := a) (by rw [z3c (by omega)]; decide)
    have q := hd.inR (by omega)
    simp only [InR] at q
    have e : yK t ((a + 1 : Nat) : Int) ((k + 1 : Nat) : Int) = some ⟨y, (b : Int), 0⟩ := ih1 (by omega)
    have e2 : yT t f k ((m + 1 : Nat) : Int) o ⟨_, (b : Int), 0⟩ = some (got r) := ih2 (by omega) (by omega) (by omega) hk o
    have hop : (z8O (zK t a)).1 ≠ 0 := y7T (by omega)
    rw [z1P]; unfold jH
    rw [if_pos rfl, v0v t a k h1 hk, zA, if_pos h2, if_neg hop]
    have hk3 : (k : Int) = 3 → (m : Int) ≠ 1 := fun h h' => h3 ⟨by omega, by omega⟩
    have c1 : IntKind.wrap .i64 ((a : Int) + 1) = ((a + 1 : Nat) : Int) := uZ hl (by omega)
    have c2 : IntKind.wrap .i64 ((k : Int) + 1) = ((k + 1 : Nat) : Int) := by rw [uU (by omega) (by omega)]; omega
    have c3 : IntKind.wrap .i64 ((m : Int) + 1) = ((m + 1 : Nat) : Int) := by rw [uU (by omega) (by omega)]; omega
    by_cases h4 : (k : Int) = 3
    · rw [if_pos h4, if_neg (hk3 h4), c1, c2, e, zA, if_pos rfl, jQ t (by omega) f b (by omega) q.2, zA, c3, e2]
    · rw [if_neg h4, c1, c2, e, zA, if_pos rfl, jQ t (by omega) f b (by omega) q.2, zA, c3, e2]
  | @llB k m f a b x h1 h2 h3 hd ih1 =>
    intro ha hf hm hk o
    have h0 := uJ (t := t) (a := a) (by rw [z3c (by omega)]; decide)
    have e : yK t ((a + 1 : Nat) : Int) ((k + 1 : Nat) : Int) = some ⟨zT7, (b : Int), 6⟩ := ih1 (by omega)
    have hop : (z8O (zK t a)).1 ≠ 0 := y7T (by omega)
    rw [z1P]; unfold jH
    rw [if_pos rfl, v0v t a k h1 hk, zA, if_pos h2, if_neg hop]
    have hk3 : (k : Int) = 3 → (m : Int) ≠ 1 := fun h h' => h3 ⟨by omega, by omega⟩
    have c1 : IntKind.wrap .i64 ((a : Int) + 1) = ((a + 1 : Nat) : Int) := uZ hl (by omega)
    have c2 : IntKind.wrap .i64 ((k : Int) + 1) = ((k + 1 : Nat) : Int) := by rw [uU (by omega) (by omega)]; omega
    by_cases h4 : (k : Int) = 3
    · rw [if_pos h4, if_neg (hk3 h4), c1, c2, e, zA]; rfl
    · rw [if_neg h4, c1, c2, e, zA]; rfl
  | @post a b x r hd hd2 ih1 ih2 =>
    intro ha
    have q := hd.inR ha
    simp only [InR] at q
    have e : yM t a = some ⟨x, (b : Int), 0⟩ := ih1 ha
    show uP t a = _
    rw [z9U]; unfold z2a
    rw [e, zA]
    exact ih2 q.2 q.1 _
  | @postB a b hd ih1 =>
    intro ha
    have e : yM t a = some ⟨zT7, (b : Int), 6⟩ := ih1 ha
    show uP t a = _
    rw [z9U]; unfold z2a
    rw [e, zA, z0c]; unfold uN
    rw [if_neg (by simp)]; rfl
  | @plE f a x h1 h2 =>
    intro ha hf o
    rw [z0c]; unfold uN
    rw [if_pos rfl, zO, zA, h1, if_neg (by simp), zO, zA, h2, if_neg (by simp)]; rfl
  | @plI f a b x i r h1 hd h2 hd2 ih1 ih2 =>
    intro ha hf o
    have h0 := zS h1
    have hb := zS h2
    have q := hd.inR (by omega)
    simp only [InR] at q
    have e : yJ t ((a + 1 : Nat) : Int) = some ⟨i, (b : Int), 0⟩ := z7u (ih1 (by omega))
    have e2 : vH t f o ⟨_, ((b + 1 : Nat) : Int), 0⟩ = some (got r) := ih2 (by omega) (by omega) o
    rw [z0c]; unfold uN
    rw [if_pos rfl, zO, zA, h1, if_pos rfl, uZ hl (by omega), e, zA, if_pos rfl, zO, zA, h2, if_pos rfl, uZ hl (by omega), jQ t (by omega) f (b + 1) (by omega) (by omega), zA, e2]
  | @plI1 f a b x h1 hd ih1 =>
    intro ha hf o
    have h0 := zS h1
    have e : yJ t ((a + 1 : Nat) : Int) = some ⟨zT7, (b : Int), 6⟩ := z7u (ih1 (by omega))
    rw [z0c]; unfold uN
    rw [if_pos rfl, zO, zA, h1, if_pos rfl, uZ hl (by omega), e, zA]; rfl
  | @plI2 f a b x i h1 hd h2 ih1 =>
    intro ha hf o
    have h0 := zS h1
    have e : yJ t ((a + 1 : Nat) : Int) = some ⟨i, (b : Int), 0⟩ := z7u (ih1 (by omega))
    rw [z0c]; unfold uN
    rw [if_pos rfl, zO, zA, h1, if_pos rfl, uZ hl (by omega), e, zA, if_pos rfl, zO, zA, h2]; rfl
  | @plF f a x r h0 h1 h2 hd ih =>
    intro ha hf o
    have h3 := uJ (t := t) (a := a + 1) (by rw [h2]; decide)
    have e2 : vH t f o ⟨_, ((a + 2 : Nat) : Int), 0⟩ = some (got r) := ih (by omega) (by omega) o
    rw [z0c]; unfold uN
    rw [if_pos rfl, zO, zA, h0, if_neg (by simp), zO, zA, h1, if_pos rfl, uZ hl (by omega), jO, zA, if_pos h2, z8Z hl (by omega), jQ t (by omega) f (a + 2) (by omega) (by omega), zA, e2]
  | @plFB f a x h0 h1 h2 =>
    intro ha hf o
    have h3 := zS h1
    rw [z0c]; unfold uN
    rw [if_pos rfl, zO, zA, h0, if_neg (by simp), zO, zA, h1, if_pos rfl, uZ hl (by omega), jO, zA, if_neg h2]; rfl
  | one h1 => intro ha; exact y5R t hl _ h1
  | @par a b x h1 hd h2 ih =>
    intro ha
    have h0 := zS (z2I h1)
    have hb := zS h2
    have e : yJ t ((a + 1 : Nat) : Int) = some ⟨x, (b : Int), 0⟩ := z7u (ih (by omega))
    show yM t a = _
    rw [z8j t hl a (z2I h1), e, zA, if_pos rfl, zO, zA, h2, if_pos rfl, uZ hl (by omega)]; rfl
  | @par1 a b h1 hd ih =>
    intro ha
    have h0 := zS (z2I h1)
    have e : yJ t ((a + 1 : Nat) : Int) = some ⟨zT7, (b : Int), 6⟩ := z7u (ih (by omega))
    show yM t a = _
    rw [z8j t hl a (z2I h1), e, zA]; rfl
  | @par2 a b x h1 hd h2 ih =>
    intro ha
    have h0 := zS (z2I h1)
    have e : yJ t ((a + 1 : Nat) : Int) = some ⟨x, (b : Int), 0⟩ := z7u (ih (by omega))
    show yM t a = _
    rw [z8j t hl a (z2I h1), e, zA, if_pos rfl, zO, zA, h2]; rfl
  | @call a o b k s few l h1 hd ih =>
    intro ha
    have h0 := z3G h1
    have q := hd.inR h0.2
    simp only [InR] at q
    have e := (ih h0.2).1 _ _ rfl
    show yM t a = _
    rw [clsOk ha h1 e, zA, if_pos rfl]
    show (zR t a b k 0 s l >>= _) >>= _ = _
    rw [jQ t (by omega) a b (by omega) q.2]; rfl
  | @callB a o b k s few h1 hd ih =>
    intro ha
    have h0 := z3G h1
    obtain ⟨l, e⟩ := (ih h0.2).2 _ rfl
    show yM t a = _
    rw [clsOk ha h1 e, zA]; rfl
  | @lis a b l h1 hd h2 ih =>
    intro ha
    have h0 := z0T (t := t) (a := a) (by rw [h1]; simp)
    have hb := zS h2
    have q := hd.inR (by omega)
    simp only [InR] at q
    have e := (ih (by omega) (by simp)).1 _ _ rfl
    show yM t a = _
    rw [lisOk ha h1, e, zA, if_pos rfl, zO, zA, h2, if_pos rfl, uZ hl (by omega), zA, if_pos rfl]
    show (zR t a ((b + 1 : Nat) : Int) 14 0 [] l >>= _) >>= _ = _
    rw [jQ t (by omega) a (b + 1) (by omega) (by omega)]; rfl
  | @lis1 a b h1 hd ih =>
    intro ha
    have h0 := z0T (t := t) (a := a) (by rw [h1]; simp)
    obtain ⟨l, e⟩ := (ih (by omega) (by simp)).2 _ rfl
    show yM t a = _
    rw [lisOk ha h1, e, zA]; rfl
  | @lis2 a b l h1 hd h2 ih =>
    intro ha
    have h0 := z0T (t := t) (a := a) (by rw [h1]; simp)
    have e := (ih (by omega) (by simp)).1 _ _ rfl
    show yM t a = _
    rw [lisOk ha h1, e, zA, if_pos rfl, zO, zA, h2]; rfl
  | @nm a h1 =>
    intro ha
    obtain ⟨h2, h3⟩ := v1g h1
    show yM t a = _
    rcases h2 with h2 | h2
    · have hk := (y2N h2).1
      rw [z1o t hl a ha (by rw [hk]; decide) (fun h => by rw [hk] at h; cases h) (y3m h2 (by decide)) (y3m h2 (by decide)) (y3m h2 (by decide)) (y1Z (by rw [hk]; decide) _), v1i t hl a h2 h3]; rfl
    · have hk := (y4r h2).1
      have w := fun s => y2j (t := t) (a := a) (by rw [hk]; decide) s
      rw [z1o t hl a ha (by rw [hk]; decide) (fun h => by rw [hk] at h; cases h) (w _) (w _) (w _) (z8X h2 (by decide)), v1j t hl a h2 h3]; rfl
  | @no a h1 =>
    intro ha
    obtain ⟨k2, k1, w1, w2, w3, w4, s1, s2, s3⟩ := v1h h1
    show yM t a = _
    rw [z1o t hl a ha k2 (fun h => absurd h k1) w1 w2 w3 s1, z0u]; unfold uV
    rw [jO, zA, if_neg k1, zO, zA, s2, if_neg (by simp), zO, zA, s3, if_neg (by simp), wD, zA, w4, if_neg (by simp)]; rfl
  | @cls0 a few h1 =>
    intro ha
    exact ⟨(fun _ _ h => by cases h), fun b h => by cases h; exact ⟨_, y7g t a few _ _ h1⟩⟩
  | @clsF a h1 h2 =>
    intro ha
    exact ⟨(fun _ _ h => by cases h; exact y7h t hl a _ _ h1 h2), fun b h => by cases h⟩
  | @cls a b few l h1 h2 hd h3 ih =>
    intro ha
    have h0 := zS h1
    have hb := zS h3
    have e := (ih (by omega) (by simp)).1 _ _ rfl
    refine ⟨fun _ _ h => ?_, fun b h => by cases h⟩
    cases h
    rw [z4p t hl a few _ _ h1 h2, y0B, e, zA, if_pos rfl, zO, zA, h3, if_pos rfl, uZ hl (by omega)]
  | @cls1 a b few h1 h2 hd ih =>
    intro ha
    have h0 := zS h1
    obtain ⟨l, e⟩ := (ih (by omega) (by simp)).2 _ rfl
    refine ⟨(fun _ _ h => by cases h), fun _ h => ?_⟩
    cases h
    rw [z4p t hl a few _ _ h1 h2, y0B, e, zA]
    exact ⟨_, rfl⟩
  | @cls2 a b few l h1 h2 hd h3 ih =>
    intro ha
    have h0 := zS h1
    have e := (ih (by omega) (by simp)).1 _ _ rfl
    refine ⟨(fun _ _ h => by cases h), fun _ h => ?_⟩
    cases h
    rw [z4p t hl a few _ _ h1 h2, y0B, e, zA, if_pos rfl, zO, zA, h3]
    exact ⟨_, rfl⟩
  | @lstE a b acc x hd h1 ih =>
    intro ha hacc
    have e : yJ t a = some ⟨x, (b : Int), 0⟩ := z7u (ih ha)
    refine ⟨fun _ _ h => ?_, fun _ h => by cases h⟩
    cases h
    rw [z4g]; unfold gU
    rw [e, zA, if_pos rfl, if_pos (y3a (by simp; omega)), zO, zA, h1]; rfl
  | @lstG a b acc x r hd h1 hd2 ih1 ih2 =>
    intro ha hacc
    have hb := zS h1
    have q := hd.inR ha
    simp only [InR] at q
    have e : yJ t a = some ⟨x, (b : Int), 0⟩ := z7u (ih1 ha)
    have e2 := ih2 (by omega) (by simp; omega)
    rw [z4g]; unfold gU
    rw [e, zA, if_pos rfl, if_pos (y3a (by simp; omega)), zO, zA, h1, if_pos rfl, uZ hl (by omega)]
    exact e2
  | @lstB a b acc hd ih =>
    intro ha hacc
    have e : yJ t a = some ⟨zT7, (b : Int), 6⟩ := z7u (ih ha)
    refine ⟨(fun _ _ h => by cases h), fun _ h => ?_⟩
    cases h
    rw [z4g]; unfold gU
    rw [e, zA]
    exact ⟨_, rfl⟩
end Go.Proofs.Ythbhgdooeeapjaa.M

