import Derived.Test.YthbhgdooeeapjaaMod
import Derived.Test.YthbhgdooeeapjaaWf
namespace Go.Proofs.Ythbhgdooeeapjaa.M
open Go Nt
set_option linter.unusedVariables false
set_option linter.unusedSimpArgs false
set_option linter.unusedSectionVars false
theorem uS {n : Int} (h1 : -9223372036854775808 ≤ n) (h2 : n ≤ 9223372036854775807) : IntKind.wrap .i64 n = n := by rw [IntKind.wrap_i64]; omega
theorem y6O {α : Type} (l : List α) (n : Nat) : idx l (n : Int) = l[n]? := by unfold idx; rw [if_pos (by omega)]; rfl
theorem gV {α : Type} {l : List α} {n : Nat} (h : n < l.length) : idx l (n : Int) = some l[n] := by rw [y6O]; exact List.getElem?_eq_getElem h
theorem y5M {α : Type} {l : List α} : idx l 0 = l[0]? := rfl
theorem zA {α β : Type} (x : α) (k : α → Option β) : (some x >>= k) = k x := rfl
theorem wR (n : Nat) : ((n : Int) + 1) = ((n + 1 : Nat) : Int) := by omega
def ltr (c : UInt8) : Bool := (decide (97 ≤ c.toNat) && decide (c.toNat ≤ 122)) || (decide (65 ≤ c.toNat) && decide (c.toNat ≤ 90)) || c.toNat == 95
def dgt (c : UInt8) : Bool := decide (48 ≤ c.toNat) && decide (c.toNat ≤ 57)
def mor (c : UInt8) : Bool := ltr c || dgt c
def lin (c : UInt8) : Bool := !(c.toNat == 10)
def blk (c : UInt8) : Bool := c.toNat == 32 || c.toNat == 9 || c.toNat == 10 || c.toNat == 13
theorem y4Q (c : UInt8) : z0O (Int.ofNat (UInt8.toNat c)) = some (ltr c) := by
  unfold z0O ltr
  generalize c.toNat = n
  rw [show Int.ofNat n = (n : Int) from rfl]
  repeat' split
  all_goals (simp only [Option.some.injEq]; rw [Bool.eq_iff_iff]; simp; omega)
theorem y2f (c : UInt8) : z0N (Int.ofNat (UInt8.toNat c)) = some (dgt c) := by
  unfold z0N dgt
  generalize c.toNat = n
  rw [show Int.ofNat n = (n : Int) from rfl]
  repeat' split
  all_goals (simp only [Option.some.injEq]; rw [Bool.eq_iff_iff]; simp; omega)
theorem y6W (c : UInt8) : z2l (Int.ofNat (UInt8.toNat c)) = some (blk c) := by
  unfold z2l blk
  generalize c.toNat = n
  rw [show Int.ofNat n = (n : Int) from rfl]
  repeat' split
  all_goals (simp only [Option.some.injEq]; rw [Bool.eq_iff_iff]; simp; omega)
theorem y6x (c : UInt8) (n : Nat) : (Int.ofNat (UInt8.toNat c) = (n : Int)) ↔ c.toNat = n := by
  rw [show Int.ofNat (UInt8.toNat c) = ((UInt8.toNat c : Nat) : Int) from rfl]; omega
def tw (p : UInt8 → Bool) : List UInt8 → Nat
  | [] => 0
  | c :: r => if p c = true then tw p r + 1 else 0
theorem y3K (p : UInt8 → Bool) (l : List UInt8) : tw p l ≤ l.length := by
  induction l with
  | nil => simp [tw]
  | cons c r ih => simp only [tw, List.length_cons]; split <;> omega
theorem z5O (p : UInt8 → Bool) {l : List UInt8} {i : Nat} (h : i < l.length) : tw p (l.drop i) = if p l[i] = true then tw p (l.drop (i + 1)) + 1 else 0 := by
  rw [List.drop_eq_getElem_cons h, tw]
theorem y1l (p : UInt8 → Bool) : ∀ (l : List UInt8), ∀ c ∈ l.take (tw p l), p c = true
  | [], c, h => by simp [tw] at h
  | x :: r, c, h => by
    simp only [tw] at h
    split at h
    · rename_i hx
      rw [List.take_succ_cons] at h
      rcases List.mem_cons.1 h with rfl | h
      · exact hx
      · exact y1l p r c h
    · simp at h
theorem y7V {α : Type} {from_ at_ : Nat} {text : Str} {x : Option α} (h : at_ ≤ text.length) (hf : from_ ≤ at_) :
    (if (0 : Int) ≤ (at_ : Int) then (if Int.toNat (at_ : Int) ≤ List.length text then (if (0 : Int) ≤ (from_ : Int) then (if Int.toNat (from_ : Int) ≤ Int.toNat (at_ : Int) then x else none) else none) else none) else none) = x := by
  rw [if_pos (by omega), if_pos (by simpa using h), if_pos (by omega), if_pos (by simpa using hf)]
def y3p (n : Nat) : List UInt8 → Bool
  | d :: _ => d.toNat == n
  | [] => false
def nxt : Nat → List UInt8 → Nat
  | 0, _ => 0
  | _ + 1, [] => 0
  | n + 1, c :: r => if blk c = true then nxt n r + 1
    else if c.toNat = 47 ∧ y3p 47 r = true then tw lin (c :: r) + nxt n ((c :: r).drop (tw lin (c :: r))) else 0
theorem z6b : ∀ (n : Nat) (l : List UInt8), nxt n l ≤ l.length
  | 0, l => by simp [nxt]
  | n + 1, [] => by simp [nxt]
  | n + 1, c :: r => by
    simp only [nxt]
    split
    · have := z6b n r; simp; omega
    · split
      · have := z6b n ((c :: r).drop (tw lin (c :: r)))
        have := y3K lin (c :: r)
        rw [List.length_drop] at *
        omega
      · omega
def bg (s l : List UInt8) : Bool := l.take s.length == s
theorem y0g (text : Str) (hl : text.length ≤ 1000000) (a : Nat) (ha : a ≤ text.length) (s : Str) (hs : s.length ≤ 1000) : z0M text a s = some (bg s (text.drop a)) := by
  unfold z0M bg
  rw [uS (n := (List.length text : Int) - (a : Int)) (by omega) (by omega), uS (by omega) (by omega)]
  have hn : ((a : Int) + (List.length s : Int)).toNat = a + s.length := by omega
  by_cases h : (List.length s : Int) ≤ (List.length text : Int) - (a : Int)
  · rw [if_pos h, if_pos (by omega), if_pos (by omega), if_pos (by omega), if_pos (by omega), hn, show Int.toNat (a : Int) = a from rfl, List.drop_take]
    rw [show a + s.length - a = s.length by omega]
  · rw [if_neg h]
    congr 1; symm
    rw [beq_eq_false_iff_ne]
    intro e
    have := congrArg List.length e
    simp at this
    omega
theorem y4C (text : Str) (hl : text.length ≤ 1000000) : ∀ (n a : Nat), text.length ≤ a + n → a ≤ text.length →
    zS text a = some ((a + nxt n (text.drop a) : Nat) : Int) ∧ ∀ m, m ≤ n → a + tw lin (text.drop a) + m = text.length → text.length ≤ a + tw lin (text.drop a) + n →
      (zS text ((a + tw lin (text.drop a) : Nat) : Int) = some ((a + tw lin (text.drop a) + nxt n (text.drop (a + tw lin (text.drop a))) : Nat) : Int) → True) := by
  intro n a h1 h2
  refine ⟨?_, fun _ _ _ _ _ => trivial⟩
  induction n generalizing a with
  | zero =>
    rw [z3x]; unfold uV
    rw [if_neg (by omega)]; rfl
  | succ n ih =>
    have line : ∀ (k b : Nat), b + k = text.length → yO text b = zS text ((b + tw lin (text.drop b) : Nat) : Int) := by
      intro k
      induction k with
      | zero =>
        intro b hb
        rw [z3y]; unfold uW
        rw [if_neg (by omega), List.drop_eq_nil_of_le (by omega)]; rfl
      | succ k ihk =>
        intro b hb
        have h3 : b < text.length := by omega
        rw [z3y]; unfold uW
        rw [if_pos (by omega), gV h3, zA, z5O _ h3]
        simp only [show (10 : Int) = ((10 : Nat) : Int) from rfl, y6x]
        by_cases h10 : text[b].toNat = 10
        · rw [if_pos h10]
          have : lin text[b] = false := by unfold lin; simp [h10]
          rw [this]; rfl
        · rw [if_neg h10, uS (by omega) (by omega), wR, ihk (b + 1) (by omega)]
          have : lin text[b] = true := by unfold lin; simp [h10]
          rw [this, if_pos rfl, show b + 1 + tw lin (List.drop (b + 1) text) = b + (tw lin (List.drop (b + 1) text) + 1) by omega]
    rw [z3x]; unfold uV
    by_cases h3 : a < text.length
    · rw [if_pos (by omega), gV h3, zA, y6W, zA]
      have hd := List.drop_eq_getElem_cons h3
      cases hb : blk text[a] with
      | true =>
        rw [if_pos rfl, uS (by omega) (by omega), wR, ih (a + 1) (by omega) (by omega), hd, nxt, if_pos hb]
        rw [show a + 1 + nxt n (List.drop (a + 1) text) = a + (nxt n (List.drop (a + 1) text) + 1) by omega]
      | false =>
        rw [if_neg (by simp), y0g text hl a (by omega) _ (by simp), zA, line (text.length - a) a (by omega)]
        have hbg : (bg [47, 47] (text.drop a) = true) ↔ (text[a].toNat = 47 ∧ y3p 47 (text.drop (a + 1)) = true) := by
          rw [hd]
          unfold bg
          cases text.drop (a + 1) with
          | nil => simp [y3p]
          | cons d r =>
            simp only [y3p, List.length_cons, List.length_nil, List.take_succ_cons, List.take_zero, beq_iff_eq, List.cons.injEq, and_true]
            constructor
            · rintro ⟨h1, h2⟩; rw [h1, h2]; exact ⟨rfl, rfl⟩
            · rintro ⟨h1, h2⟩; exact ⟨UInt8.toNat_inj.1 (by rw [h1]; rfl), UInt8.toNat_inj.1 (by rw [h2]; rfl)⟩
        cases hg : bg [47, 47] (text.drop a) with
        | true =>
          have hh := hbg.1 hg
          have hlin : lin text[a] = true := by unfold lin; simp [hh.1]
          have htw : 1 ≤ tw lin (text.drop a) := by rw [z5O _ h3, if_pos hlin]; omega
          have hle := y3K lin (text.drop a)
          rw [List.length_drop] at hle
          rw [if_pos rfl, ih (a + tw lin (text.drop a)) (by omega) (by omega)]
          have e : nxt (n + 1) (text.drop a) = tw lin (text.drop a) + nxt n ((text.drop a).drop (tw lin (text.drop a))) := by
            conv => lhs; rw [hd, nxt, if_neg (by rw [hb]; simp), if_pos hh, ← hd]
          rw [e, List.drop_drop, Nat.add_assoc]
        | false =>
          rw [if_neg (by simp), hd, nxt, if_neg (by rw [hb]; simp), if_neg (fun h => by rw [hbg.2 h] at hg; cases hg)]; rfl
    · have h4 : text.drop a = [] := List.drop_eq_nil_of_le (by omega)
      rw [if_neg (by omega), h4]; rfl
def wordsL : List Str := [[114, 101, 99], [99, 111, 110, 115, 116], [118, 97, 114], [112, 117, 98], [102, 110], [105, 110, 116], [98, 111, 111, 108], [108, 101, 116], [105, 102], [101, 108, 115, 101], [119, 104, 105, 108, 101], [102, 111, 114], [116, 111], [112, 114, 105, 110, 116], [114, 101, 116, 117, 114, 110], [100, 111], [116, 114, 117, 101], [102, 97, 108, 115, 101], [114, 101, 97, 100], [110, 101, 119]]
def isW (s : Str) : Bool := wordsL.contains s
theorem y5u (s : Str) (all : List Str) (hl : all.length ≤ 1000) : z0L s all = some (all.contains s) := by
  have loop : ∀ (k i : Nat), i + k = all.length → yM s all i = some ((all.drop i).contains s) := by
    intro k
    induction k with
    | zero =>
      intro i hi
      rw [z2Q]; unfold uI
      rw [if_neg (by omega), List.drop_eq_nil_of_le (by omega)]; rfl
    | succ k ih =>
      intro i hi
      have h3 : i < all.length := by omega
      rw [z2Q]; unfold uI
      rw [if_pos (by omega), gV h3, zA, List.drop_eq_getElem_cons h3, List.contains_cons]
      by_cases h : all[i] = s
      · rw [if_pos h, h]; simp
      · rw [if_neg h, uS (by omega) (by omega), wR, ih (i + 1) (by omega)]
        have : (s == all[i]) = false := by simpa using fun e => h e.symm
        rw [this]; rfl
  unfold z0L
  have := loop all.length 0 (by omega)
  simpa using this
theorem y6k : z1v = some wordsL := rfl
def z8O (v : Nat) (l : List UInt8) : Nat := l.foldl (fun v c => v * 10 + (c.toNat - 48)) v
theorem z9Q (v : Nat) : z8O v [] = v := rfl
theorem z7U (v : Nat) (c : UInt8) (r : List UInt8) : z8O v (c :: r) = z8O (v * 10 + (c.toNat - 48)) r := by unfold z8O; rw [List.foldl_cons]
theorem y2o : ∀ (l : List UInt8) (v : Nat), v ≤ z8O v l
  | [], v => by rw [z9Q]; exact Nat.le_refl _
  | c :: r, v => by have := y2o r (v * 10 + (c.toNat - 48)); rw [z7U]; omega
def num (w : List UInt8) : Option Nat :=
  if w.length > 1 ∧ y3p 48 w = true then none
  else if z8O 0 w > 9223372036854775807 then none else some (z8O 0 w)
theorem y7G {n : Int} (h1 : 0 ≤ n) (h2 : n ≤ 18446744073709551615) : IntKind.wrap .u64 n = n := by rw [IntKind.wrap_u64]; omega
theorem y3L {n : Int} (h1 : 0 ≤ n) (h2 : n ≤ 255) : IntKind.wrap .u8 n = n := by
  have : IntKind.wrap .u8 n = n % 256 := rfl
  rw [this]; omega
theorem y2h (w : Str) (hd : ∀ c ∈ w, dgt c = true) (hw : w.length ≤ 1000000) : ∀ (k i v : Nat), i + k = w.length → v ≤ 9223372036854775807 →
    zU w v i = some (if z8O v (w.drop i) > 9223372036854775807 then (0, false) else ((z8O v (w.drop i) : Int), true)) := by
  intro k
  induction k with
  | zero =>
    intro i v hi hv
    rw [z2n]; unfold wV
    have h1 : w.drop i = [] := List.drop_eq_nil_of_le (by omega)
    rw [if_neg (by omega), h1, z9Q]
    rw [if_neg (by omega)]
  | succ k ih =>
    intro i v hi hv
    have h3 : i < w.length := by omega
    rw [z2n]; unfold wV
    have hc := hd _ (List.getElem_mem h3)
    unfold dgt at hc
    simp only [Bool.and_eq_true, decide_eq_true_eq] at hc
    rw [if_pos (by omega), gV h3, zA, List.drop_eq_getElem_cons h3, z7U, if_pos (by decide)]
    rw [show Int.ofNat (UInt8.toNat w[i]) = ((UInt8.toNat w[i] : Nat) : Int) from rfl]
    generalize hcn : w[i].toNat = c at *
    have hge := y2o (w.drop (i + 1)) (v * 10 + (c - 48))
    rw [y3L (by omega) (by omega), uS (n := (c : Int) - 48) (by omega) (by omega), uS (n := 9223372036854775807 - ((c : Int) - 48)) (by omega) (by omega), Int.tdiv_eq_ediv_of_nonneg (by omega), uS (n := (9223372036854775807 - ((c : Int) - 48)) / 10) (by omega) (by omega)]
    by_cases h : (v : Int) > (9223372036854775807 - ((c : Int) - 48)) / 10
    · rw [if_pos h, if_pos (by omega)]
    · rw [if_neg h, uS (n := (v : Int) * 10) (by omega) (by omega), uS (n := (v : Int) * 10 + _) (by omega) (by omega), uS (by omega) (by omega), wR]
      rw [show (v : Int) * 10 + ((c : Int) - 48) = ((v * 10 + (c - 48) : Nat) : Int) by omega]
      exact ih (i + 1) _ (by omega) (by omega)
theorem y6Z (w : Str) (hd : ∀ c ∈ w, dgt c = true) (h0 : 0 < w.length) (hw : w.length ≤ 1000000) : z0i w = some (match num w with | some n => ((n : Int), true) | none => (0, false)) := by
  unfold z0i num
  rw [if_neg (by omega)]
  have hl := y2h w hd hw w.length 0 0 (by omega) (by omega)
  rw [show ((0 : Nat) : Int) = 0 from rfl, List.drop_zero] at hl
  have tl : zU w 0 0 = some (match (if z8O 0 w > 9223372036854775807 then none else some (z8O 0 w) : Option Nat) with | some n => ((n : Int), true) | none => (0, false)) := by
    rw [hl]; split <;> rfl
  by_cases h1 : (List.length w : Int) > 1
  · rw [if_pos h1]
    cases w with
    | nil => simp at h0
    | cons c r =>
      rw [y5M]
      simp only [List.getElem?_cons_zero, zA, show (48 : Int) = ((48 : Nat) : Int) from rfl, y6x]
      by_cases h48 : c.toNat = 48
      · rw [if_pos h48, if_pos ⟨by omega, by simp [y3p, h48]⟩]
      · rw [if_neg h48, if_neg (by simp [y3p, h48])]; exact tl
  · rw [if_neg h1, if_neg (by omega)]; exact tl
def singles : List Nat := [123, 125, 40, 41, 91, 93, 44, 59, 58, 46, 43, 45, 42, 47, 37, 64]
def sgn (c d : Nat) : Nat :=
  if c = 61 ∨ c = 33 ∨ c = 60 ∨ c = 62 then (if d = 61 then 2 else 1)
  else if c = 38 ∨ c = 124 then (if d = c then 2 else 0)
  else if singles.contains c then 1 else 0
def signsL : List Str := [[61, 61], [33, 61], [60, 61], [62, 61], [38, 38], [124, 124], [123], [125], [40], [41], [91], [93], [44], [59], [58], [46], [61], [60], [62], [43], [45], [42], [47], [37], [33], [64]]
theorem y6g : z3N = some signsL := rfl
theorem bg1 (a c : UInt8) (r : List UInt8) : bg [a] (c :: r) = (c == a) := by unfold bg; simp
theorem bg2 (a b c : UInt8) (r : List UInt8) : bg [a, b] (c :: r) = (c == a && (match r with | d :: _ => d == b | [] => false)) := by
  unfold bg
  cases r with
  | nil => simp
  | cons d r => simp
def hd0 : List UInt8 → Nat
  | d :: _ => d.toNat
  | [] => 0
theorem z2R (c : UInt8) (n : Nat) (hn : n < 256) : c = UInt8.ofNat n ↔ c.toNat = n := by
  constructor
  · rintro rfl; rw [UInt8.toNat_ofNat']; omega
  · intro h; apply UInt8.toNat_inj.1; rw [h, UInt8.toNat_ofNat']; omega
theorem y4e (c : UInt8) (r : List UInt8) : (signsL.find? fun x => bg x (c :: r)).map List.length = if sgn c.toNat (hd0 r) = 0 then none else some (sgn c.toNat (hd0 r)) := by
  by_cases h61 : c = 61
  · subst h61
    cases r with
    | nil => decide
    | cons d r =>
      by_cases hd : d = 61
      · subst hd; simp [signsL, bg1, bg2, sgn, hd0]
      · have : d.toNat ≠ 61 := fun e => hd ((z2R d 61 (by omega)).2 e)
        simp [signsL, bg1, bg2, sgn, hd0, hd, this]
  by_cases h33 : c = 33
  · subst h33
    cases r with
    | nil => decide
    | cons d r =>
      by_cases hd : d = 61
      · subst hd; simp [signsL, bg1, bg2, sgn, hd0]
      · have : d.toNat ≠ 61 := fun e => hd ((z2R d 61 (by omega)).2 e)
        simp [signsL, bg1, bg2, sgn, hd0, hd, this]
  by_cases h60 : c = 60
  · subst h60
    cases r with
    | nil => decide
    | cons d r =>
      by_cases hd : d = 61
      · subst hd; simp [signsL, bg1, bg2, sgn, hd0]
      · have : d.toNat ≠ 61 := fun e => hd ((z2R d 61 (by omega)).2 e)
        simp [signsL, bg1, bg2, sgn, hd0, hd, this]
  by_cases h62 : c = 62
  · subst h62
    cases r with
    | nil => decide
    | cons d r =>
      by_cases hd : d = 61
      · subst hd; simp [signsL, bg1, bg2, sgn, hd0]
      · have : d.toNat ≠ 61 := fun e => hd ((z2R d 61 (by omega)).2 e)
        simp [signsL, bg1, bg2, sgn, hd0, hd, this]
  by_cases h38 : c = 38
  · subst h38
    cases r with
    | nil => decide
    | cons d r =>
      by_cases hd : d = 38
      · subst hd; simp [signsL, bg1, bg2, sgn, hd0]
      · have : d.toNat ≠ 38 := fun e => hd ((z2R d 38 (by omega)).2 e)
        simp [signsL, bg1, bg2, sgn, hd0, hd, this]
  by_cases h124 : c = 124
  · subst h124
    cases r with
    | nil => decide
    | cons d r =>
      by_cases hd : d = 124
      · subst hd; simp [signsL, bg1, bg2, sgn, hd0]
      · have : d.toNat ≠ 124 := fun e => hd ((z2R d 124 (by omega)).2 e)
        simp [signsL, bg1, bg2, sgn, hd0, hd, this]
  have n61 : c.toNat ≠ 61 := fun e => h61 ((z2R c 61 (by omega)).2 e)
  have n33 : c.toNat ≠ 33 := fun e => h33 ((z2R c 33 (by omega)).2 e)
  have n60 : c.toNat ≠ 60 := fun e => h60 ((z2R c 60 (by omega)).2 e)
  have n62 : c.toNat ≠ 62 := fun e => h62 ((z2R c 62 (by omega)).2 e)
  have n38 : c.toNat ≠ 38 := fun e => h38 ((z2R c 38 (by omega)).2 e)
  have n124 : c.toNat ≠ 124 := fun e => h124 ((z2R c 124 (by omega)).2 e)
  have hsg : sgn c.toNat (hd0 r) = if singles.contains c.toNat = true then 1 else 0 := by
    unfold sgn; rw [if_neg (by omega), if_neg (by omega)]
  rw [hsg]
  have e1 : ∀ k : UInt8, c ≠ k → (c == k) = false := fun k h => by simpa using h
  have key : ∀ (l : List UInt8), (∀ k ∈ l, True) → ((l.map fun k => [k]).find? fun x => bg x (c :: r)).map List.length = if (l.map UInt8.toNat).contains c.toNat = true then some 1 else none := by
    intro l
    induction l with
    | nil => intro _; rfl
    | cons k l ih =>
      intro _
      rw [List.map_cons, List.find?_cons, bg1, List.map_cons, List.contains_cons]
      by_cases hk : c = k
      · subst hk; simp
      · have h2 : ¬ c.toNat = k.toNat := fun e => hk (UInt8.toNat_inj.1 e)
        rw [e1 k hk]
        simp only [beq_eq_false_iff_ne.2 h2, Bool.false_or]
        exact ih (fun _ _ => trivial)
  have hl : (signsL.find? fun x => bg x (c :: r)) = (([123, 125, 40, 41, 91, 93, 44, 59, 58, 46, 43, 45, 42, 47, 37, 64] : List UInt8).map fun k => [k]).find? fun x => bg x (c :: r) := by
    simp only [signsL, List.map_cons, List.map_nil, List.find?_cons, bg1, bg2, e1 61 h61, e1 33 h33, e1 60 h60, e1 62 h62, e1 38 h38, e1 124 h124, Bool.false_and]
  rw [hl, key _ (fun _ _ => trivial)]
  have : ([123, 125, 40, 41, 91, 93, 44, 59, 58, 46, 43, 45, 42, 47, 37, 64] : List UInt8).map UInt8.toNat = singles := rfl
  rw [this]
  cases singles.contains c.toNat <;> rfl
theorem y6B {s l : List UInt8} (h : bg s l = true) : s = l.take s.length := by unfold bg at h; exact (beq_iff_eq.1 h).symm
theorem y2j (text : Str) (hl : text.length ≤ 1000000) (a : Nat) (ha : a ≤ text.length) (o4 : zC) : ∀ (k i : Nat), i + k = signsL.length →
    vA text a signsL i o4 = some (match (signsL.drop i).find? fun x => bg x (text.drop a) with | some x => (⟨4, 0, x, a, ((a + x.length : Nat) : Int)⟩, 0) | none => (⟨0, 0, [], 0, 0⟩, 4)) := by
  intro k
  have hsz : ∀ x ∈ signsL, x.length ≤ 2 := by decide
  induction k with
  | zero =>
    intro i hi
    rw [z3A]; unfold uY
    rw [if_neg (by omega), List.drop_eq_nil_of_le (as := signsL) (by omega)]; rfl
  | succ k ih =>
    intro i hi
    have h3 : i < signsL.length := by omega
    have h4 := hsz _ (List.getElem_mem h3)
    have h5 : signsL.length = 26 := rfl
    rw [z3A]; unfold uY
    rw [if_pos (by omega), gV h3, zA, y0g text hl a ha _ (by omega), zA, List.drop_eq_getElem_cons h3, List.find?_cons]
    cases hb : bg signsL[i] (text.drop a) with
    | true =>
      simp only [if_true]
      rw [zA, zA, uS (by omega) (by omega)]
      rfl
    | false =>
      rw [if_neg (by simp), uS (by omega) (by omega), wR, ih (i + 1) (by omega)]
def one : List UInt8 → Int ⊕ (Int × Int × Str × Nat)
  | [] => .inl 0
  | c :: r =>
    if ltr c = true then (if tw mor (c :: r) > 16 then .inl 3 else .inr (if isW ((c :: r).take (tw mor (c :: r))) = true then 3 else 1, 0, (c :: r).take (tw mor (c :: r)), tw mor (c :: r)))
    else if dgt c = true then (match num ((c :: r).take (tw dgt (c :: r))) with | none => .inl 5 | some n => .inr (2, (n : Int), [], tw dgt (c :: r)))
    else if sgn c.toNat (hd0 r) = 0 then .inl 4 else .inr (4, 0, (c :: r).take (sgn c.toNat (hd0 r)), sgn c.toNat (hd0 r))
theorem y7e (c : UInt8) (r : List UInt8) : sgn c.toNat (hd0 r) ≤ (c :: r).length := by
  cases r with
  | nil =>
    unfold sgn hd0
    simp only [List.length_cons, List.length_nil]
    split
    · simp
    · split
      · rw [if_neg (by omega)]; omega
      · split <;> omega
  | cons d r =>
    unfold sgn
    simp only [List.length_cons]
    split
    · split <;> omega
    · split
      · split <;> omega
      · split <;> omega
theorem z4H : ∀ {s : List UInt8} {k n : Int} {t : Str} {l : Nat}, one s = .inr (k, n, t, l) → 1 ≤ l ∧ l ≤ s.length
  | [], _, _, _, _, h => by simp [one] at h
  | c :: r, k, n, t, l, h => by
    rw [one] at h
    by_cases h1 : ltr c = true
    · rw [if_pos h1] at h
      have hm : mor c = true := by unfold mor; rw [h1]; rfl
      by_cases h2 : tw mor (c :: r) > 16
      · rw [if_pos h2] at h; cases h
      · rw [if_neg h2] at h
        injection h with h; injection h with _ h; injection h with _ h; injection h with _ h
        subst h
        refine ⟨?_, y3K _ _⟩
        rw [tw, if_pos hm]; omega
    · rw [if_neg h1] at h
      by_cases h2 : dgt c = true
      · rw [if_pos h2] at h
        cases hn : num ((c :: r).take (tw dgt (c :: r))) with
        | none => rw [hn] at h; cases h
        | some m =>
          rw [hn] at h
          injection h with h; injection h with _ h; injection h with _ h; injection h with _ h
          subst h
          refine ⟨?_, y3K _ _⟩
          rw [tw, if_pos h2]; omega
      · rw [if_neg h2] at h
        by_cases h3 : sgn c.toNat (hd0 r) = 0
        · rw [if_pos h3] at h; cases h
        · rw [if_neg h3] at h
          injection h with h; injection h with _ h; injection h with _ h; injection h with _ h
          subst h
          exact ⟨by omega, y7e c r⟩
theorem z9M (text : List UInt8) (a n : Nat) : (text.take (a + n)).drop a = (text.drop a).take n := by
  rw [List.drop_take]; congr 1; omega
def y7T : zC := ⟨0, 0, [], 0, 0⟩
def y4d (text : Str) (a e : Nat) : zC × Int :=
  if e - a > 16 then (y7T, 3) else (⟨if isW ((text.take e).drop a) = true then 3 else 1, 0, (text.take e).drop a, a, e⟩, 0)
theorem y2z (text : Str) (hl : text.length ≤ 1000000) (a e : Nat) (h1 : a ≤ e) (h2 : e ≤ text.length) :
    (if (IntKind.wrap .i64 ((e : Int) - (a : Int))) > 16 then
    some ((zC.mk 0 0 ([] : List UInt8) 0 0), 3)
  else
  if (0 : Int) ≤ (e : Int) then
  if Int.toNat (e : Int) ≤ List.length text then
  if (0 : Int) ≤ (a : Int) then
  if Int.toNat (a : Int) ≤ Int.toNat (e : Int) then
  z1v >>= fun q5 =>
  z0L (List.drop (Int.toNat (a : Int)) (List.take (Int.toNat (e : Int)) text)) q5 >>= fun q6 =>
  if q6 = true then
    some ((zC.mk 3 0 (List.drop (Int.toNat (a : Int)) (List.take (Int.toNat (e : Int)) text)) a e), 0)
  else
  some ((zC.mk 1 0 (List.drop (Int.toNat (a : Int)) (List.take (Int.toNat (e : Int)) text)) a e), 0)
  else none
  else none
  else none
  else none) = some (y4d text a e) := by
  rw [uS (by omega) (by omega), y7V h2 h1]
  unfold y4d
  by_cases h : (e : Int) - (a : Int) > 16
  · rw [if_pos h, if_pos (show e - a > 16 by omega)]; rfl
  · rw [if_neg h, if_neg (show ¬ e - a > 16 by omega), y6k, zA, y5u _ _ (by decide), zA]
    have : wordsL.contains (List.drop (Int.toNat (a : Int)) (List.take (Int.toNat (e : Int)) text)) = isW ((text.take e).drop a) := rfl
    rw [this]
    cases isW ((text.take e).drop a) <;> rfl
theorem y3D (text : Str) (hl : text.length ≤ 1000000) (a : Nat) (o4 : zC) : ∀ (k b : Nat), b + k = text.length → a ≤ b → vB text a b o4 = some (y4d text a (b + tw mor (text.drop b))) := by
  intro k
  induction k with
  | zero =>
    intro b hb hab
    rw [z4i]; unfold jS
    rw [if_neg (show ¬ (b : Int) < (List.length text : Int) by omega), List.drop_eq_nil_of_le (as := text) (i := b) (by omega)]
    exact y2z text hl a b hab (by omega)
  | succ k ih =>
    intro b hb hab
    have h3 : b < text.length := by omega
    rw [z4i]; unfold jS
    have hgo : mor text[b] = true → vB text a (IntKind.wrap .i64 ((b : Int) + 1)) o4 = some (y4d text a (b + tw mor (text.drop b))) := fun hm => by
      rw [uS (by omega) (by omega), wR, ih (b + 1) (by omega) (by omega), z5O _ h3, if_pos hm, show b + 1 + tw mor (List.drop (b + 1) text) = b + (tw mor (List.drop (b + 1) text) + 1) by omega]
    rw [if_pos (show (b : Int) < (List.length text : Int) by omega), gV h3, zA, y4Q, zA]
    cases h1 : ltr text[b] with
    | true => rw [if_pos rfl]; exact hgo (by unfold mor; rw [h1]; rfl)
    | false =>
      rw [if_neg (by simp), zA, y2f, zA]
      cases h2 : dgt text[b] with
      | true => rw [if_pos rfl]; exact hgo (by unfold mor; rw [h2]; simp)
      | false =>
        have hm : mor text[b] = false := by unfold mor; rw [h1, h2]; rfl
        rw [if_neg (by simp), z5O _ h3, hm]
        exact y2z text hl a b hab (by omega)
def y5H (text : Str) (a e : Nat) : zC × Int :=
  match num ((text.take e).drop a) with
  | some n => (⟨2, n, [], a, e⟩, 0)
  | none => (y7T, 5)
theorem y2y (text : Str) (hl : text.length ≤ 1000000) (a e : Nat) (h1 : a < e) (h2 : e ≤ text.length) (hd : ∀ c ∈ (text.take e).drop a, dgt c = true) :
    (if (0 : Int) ≤ (e : Int) then
  if Int.toNat (e : Int) ≤ List.length text then
  if (0 : Int) ≤ (a : Int) then
  if Int.toNat (a : Int) ≤ Int.toNat (e : Int) then
  z0i (List.drop (Int.toNat (a : Int)) (List.take (Int.toNat (e : Int)) text)) >>= fun q3 =>
  if q3.2 = true then
    some ((zC.mk 2 q3.1 ([] : List UInt8) a e), 0)
  else
  some ((zC.mk 0 0 ([] : List UInt8) 0 0), 5)
  else none
  else none
  else none
  else none) = some (y5H text a e) := by
  rw [y7V h2 (Nat.le_of_lt h1), show Int.toNat (a : Int) = a from rfl, show Int.toNat (e : Int) = e from rfl]
  have hlen : ((text.take e).drop a).length = e - a := by simp; omega
  rw [y6Z _ hd (by omega) (by omega), zA]
  unfold y5H
  cases num ((text.take e).drop a) <;> rfl
theorem y4L (text : Str) (hl : text.length ≤ 1000000) (a : Nat) (o4 : zC) : ∀ (k b : Nat), b + k = text.length → a ≤ b → a < b + tw dgt (text.drop b) → (∀ c ∈ (text.take (b + tw dgt (text.drop b))).drop a, dgt c = true) →
    yZ text a b o4 = some (y5H text a (b + tw dgt (text.drop b))) := by
  intro k
  induction k with
  | zero =>
    intro b hb hab hlt hd
    rw [z3z]; unfold uX
    have h1 : text.drop b = [] := List.drop_eq_nil_of_le (by omega)
    rw [h1] at hlt hd ⊢
    rw [if_neg (show ¬ (b : Int) < (List.length text : Int) by omega)]
    exact y2y text hl a b hlt (by omega) hd
  | succ k ih =>
    intro b hb hab hlt hd
    have h3 : b < text.length := by omega
    rw [z3z]; unfold uX
    rw [if_pos (show (b : Int) < (List.length text : Int) by omega), gV h3, zA, y2f, zA]
    rw [z5O _ h3] at hlt hd ⊢
    cases h1 : dgt text[b] with
    | true =>
      rw [h1, if_pos rfl] at hlt hd
      rw [if_pos rfl, if_pos rfl, uS (by omega) (by omega), wR]
      have e : b + (tw dgt (List.drop (b + 1) text) + 1) = b + 1 + tw dgt (List.drop (b + 1) text) := by omega
      rw [e] at hlt hd ⊢
      exact ih (b + 1) (by omega) (by omega) hlt hd
    | false =>
      rw [h1] at hlt hd
      simp only [Bool.false_eq_true, if_false, Nat.add_zero] at hlt hd ⊢
      exact y2y text hl a b hlt (by omega) hd
theorem y4M (text : Str) (hl : text.length ≤ 1000000) (a : Nat) (ha : a < text.length) :
    z5l text a = some (match one (text.drop a) with | .inl e => (y7T, e) | .inr (k, n, s, l) => (⟨k, n, s, a, ((a + l : Nat) : Int)⟩, 0)) := by
  have hd := List.drop_eq_getElem_cons ha
  unfold z5l
  rw [gV ha, zA, y4Q, zA]
  have hle := y3K mor (text.drop a)
  have hle2 := y3K dgt (text.drop a)
  rw [List.length_drop] at hle hle2
  cases h1 : ltr text[a] with
  | true =>
    rw [if_pos rfl, y3D text hl a _ (text.length - a) a (by omega) (by omega)]
    have hone : one (text.drop a) = if tw mor (text.drop a) > 16 then .inl 3 else .inr (if isW ((text.drop a).take (tw mor (text.drop a))) = true then 3 else 1, 0, (text.drop a).take (tw mor (text.drop a)), tw mor (text.drop a)) := by
      conv => lhs; rw [hd, one, if_pos h1, ← hd]
    unfold y4d
    rw [hone, z9M, show a + tw mor (text.drop a) - a = tw mor (text.drop a) by omega]
    by_cases h2 : tw mor (text.drop a) > 16
    · rw [if_pos h2, if_pos h2]
    · rw [if_neg h2, if_neg h2]
  | false =>
    rw [if_neg (by simp), y2f, zA]
    cases h2 : dgt text[a] with
    | true =>
      have hpos : 1 ≤ tw dgt (text.drop a) := by rw [z5O _ ha, if_pos h2]; omega
      have hone : one (text.drop a) = match num ((text.drop a).take (tw dgt (text.drop a))) with | none => .inl 5 | some n => .inr (2, (n : Int), [], tw dgt (text.drop a)) := by
        conv => lhs; rw [hd, one, if_neg (by rw [h1]; simp), if_pos h2, ← hd]
      rw [if_pos rfl, y4L text hl a _ (text.length - a) a (by omega) (by omega) (by omega) (by rw [z9M]; exact y1l dgt _)]
      unfold y5H
      rw [hone, z9M]
      cases num ((text.drop a).take (tw dgt (text.drop a))) <;> rfl
    | false =>
      have hone : one (text.drop a) = if sgn text[a].toNat (hd0 (text.drop (a + 1))) = 0 then .inl 4 else .inr (4, 0, (text.drop a).take (sgn text[a].toNat (hd0 (text.drop (a + 1)))), sgn text[a].toNat (hd0 (text.drop (a + 1)))) := by
        conv => lhs; rw [hd, one, if_neg (by rw [h1]; simp), if_neg (by rw [h2]; simp), ← hd]
      rw [if_neg (by simp), y6g, zA]
      have := y2j text hl a (by omega) (zC.mk 0 0 ([] : List UInt8) 0 0) signsL.length 0 (by omega)
      rw [show ((0 : Nat) : Int) = 0 from rfl, List.drop_zero] at this
      rw [this]
      have hf := y4e text[a] (text.drop (a + 1))
      rw [← hd] at hf
      rw [hone]
      cases hfx : (signsL.find? fun x => bg x (text.drop a)) with
      | none =>
        rw [hfx] at hf
        by_cases h3 : sgn text[a].toNat (hd0 (text.drop (a + 1))) = 0
        · rw [if_pos h3]; rfl
        · rw [if_neg h3] at hf; cases hf
      | some x =>
        rw [hfx] at hf
        have hb := y6B (s := x) (l := text.drop a) (List.find?_some (p := fun x => bg x (text.drop a)) hfx)
        by_cases h3 : sgn text[a].toNat (hd0 (text.drop (a + 1))) = 0
        · rw [if_pos h3] at hf; cases hf
        · rw [if_neg h3] at hf ⊢
          simp only [Option.map_some, Option.some.injEq] at hf
          rw [← hf]
          simp only []
          rw [← hb]
def z5M : Nat → List UInt8 → Nat → List zC → List zC × Int × Int
  | 0, _, _, _ => ([], 0, 0)
  | n + 1, s, a, out => match s with
    | [] => (out ++ [⟨5, 0, [], a, a⟩], 0, 0)
    | c :: r => match one (c :: r) with
      | .inl e => ([], a, e)
      | .inr (k, m, t, l) => z5M n (((c :: r).drop l).drop (nxt 10000 ((c :: r).drop l))) (a + l + nxt 10000 ((c :: r).drop l)) (out ++ [⟨k, m, t, a, ((a + l : Nat) : Int)⟩])
def z3T (text : Str) : List zC × Int × Int := if text.length > 8192 then ([], 0, 3) else z5M 10000 (text.drop (nxt 10000 text)) (nxt 10000 text) []
theorem y6d (text : Str) (hl : text.length ≤ 9000) : ∀ (n a : Nat) (out : List zC), text.length < a + n → a ≤ text.length → out.length ≤ a →
    yI text out a = some (z5M n (text.drop a) a out) := by
  intro n
  induction n with
  | zero => intro a out h1 h2; omega
  | succ n ih =>
    intro a out h1 h2 ho
    rw [z5I]; unfold uN
    by_cases ha : a < text.length
    · have hd := List.drop_eq_getElem_cons ha
      have hr := y4M text (by omega) a ha
      rw [if_pos (show (a : Int) < (List.length text : Int) by omega), hr, zA]
      have ht : z5M (n + 1) (text.drop a) a out = match one (text.drop a) with
        | .inl e => ([], (a : Int), e)
        | .inr (k, m, t, l) => z5M n (((text.drop a).drop l).drop (nxt 10000 ((text.drop a).drop l))) (a + l + nxt 10000 ((text.drop a).drop l)) (out ++ [⟨k, m, t, a, ((a + l : Nat) : Int)⟩]) := by
        rw [hd, z5M]
      rw [ht]
      cases e1 : one (text.drop a) with
      | inr q =>
        obtain ⟨k, m, t, l⟩ := q
        have hlen := z4H e1
        rw [List.length_drop] at hlen
        simp only []
        rw [if_pos True.intro, if_pos (show z2r 48 (List.length out + List.length [(⟨k, m, t, a, ((a + l : Nat) : Int)⟩ : zC)]) by unfold z2r; simp; omega)]
        unfold z2m
        have hle := z6b 10000 (text.drop (a + l))
        rw [List.length_drop] at hle
        rw [(y4C text (by omega) 10000 (a + l) (by omega) (by omega)).1, zA, show (text.drop a).drop l = text.drop (a + l) from List.drop_drop .., List.drop_drop (l := text)]
        exact ih (a + l + nxt 10000 (text.drop (a + l))) (out ++ [(⟨k, m, t, a, ((a + l : Nat) : Int)⟩ : zC)]) (by omega) (by omega) (by simp only [List.length_append, List.length_cons, List.length_nil]; omega)
      | inl e =>
        simp only []
        have e0 : e ≠ 0 := by
          rw [hd, one] at e1
          intro he
          subst he
          revert e1
          repeat' split
          all_goals (intro ho; first | (injection ho with ho; omega) | cases ho)
        rw [if_neg e0]
    · have h4 : text.drop a = [] := List.drop_eq_nil_of_le (by omega)
      have h5 : a = text.length := by omega
      rw [if_neg (show ¬ (a : Int) < (List.length text : Int) by omega), h4, z5M]
      rw [if_pos (show z2r 48 (List.length out + List.length [(⟨5, 0, [], (List.length text : Int), (List.length text : Int)⟩ : zC)]) by unfold z2r; simp; omega), h5]
theorem z8F (text : Str) (h : text.length ≤ 9223372036854775807) : z0P text = some (z3T text) := by
  unfold z0P z3T
  by_cases h1 : (List.length text : Int) > 8192
  · rw [if_pos h1, if_pos (show text.length > 8192 by omega)]
  · rw [if_neg h1, if_neg (show ¬ text.length > 8192 by omega)]
    unfold z2m
    have hle := z6b 10000 text
    have e1 := (y4C text (by omega) 10000 0 (by omega) (by omega)).1
    rw [show ((0 : Nat) : Int) = 0 from rfl, List.drop_zero, Nat.zero_add] at e1
    rw [e1, zA]
    exact y6d text (by omega) 10000 (nxt 10000 text) [] (by omega) (by omega) (by simp)
def Ord : Nat → List zC → Prop
  | _, [] => False
  | a, x :: r => ∃ f t : Nat, x.From = (f : Int) ∧ x.To = (t : Int) ∧ a ≤ f ∧ f ≤ t ∧ ((r = [] ∧ x.K = 5) ∨ (x.K ≠ 5 ∧ Ord t r))
theorem Ord.mono {a b : Nat} (h : b ≤ a) : ∀ {l : List zC}, Ord a l → Ord b l
  | [], h => h
  | x :: r, ⟨f, t, h1, h2, h3, h4⟩ => ⟨f, t, h1, h2, by omega, h4⟩
theorem y5X {s : List UInt8} {k n : Int} {t : Str} {l : Nat} (h : one s = .inr (k, n, t, l)) : k ≠ 5 := by
  cases s with
  | nil => simp [one] at h
  | cons c r =>
    rw [one] at h
    by_cases h1 : ltr c = true
    · rw [if_pos h1] at h
      by_cases h2 : tw mor (c :: r) > 16
      · rw [if_pos h2] at h; cases h
      · rw [if_neg h2] at h
        injection h with h; injection h with h _
        rw [← h]; split <;> decide
    · rw [if_neg h1] at h
      by_cases h2 : dgt c = true
      · rw [if_pos h2] at h
        cases hn : num ((c :: r).take (tw dgt (c :: r))) with
        | none => rw [hn] at h; cases h
        | some m => rw [hn] at h; injection h with h; injection h with h _; rw [← h]; decide
      · rw [if_neg h2] at h
        by_cases h3 : sgn c.toNat (hd0 r) = 0
        · rw [if_pos h3] at h; cases h
        · rw [if_neg h3] at h; injection h with h; injection h with h _; rw [← h]; decide
theorem y6h (text : List UInt8) : ∀ (n a : Nat) (out : List zC), text.length < a + n → a ≤ text.length → (z5M n (text.drop a) a out).2.2 = 0 → ∃ r, (z5M n (text.drop a) a out).1 = out ++ r ∧ Ord a r := by
  intro n
  induction n with
  | zero => intro a out h1 h2; omega
  | succ n ih =>
    intro a out h1 h2 he
    by_cases ha : a < text.length
    · have hd := List.drop_eq_getElem_cons ha
      have ht : z5M (n + 1) (text.drop a) a out = match one (text.drop a) with
        | .inl e => ([], (a : Int), e)
        | .inr (k, m, t, l) => z5M n (((text.drop a).drop l).drop (nxt 10000 ((text.drop a).drop l))) (a + l + nxt 10000 ((text.drop a).drop l)) (out ++ [⟨k, m, t, a, ((a + l : Nat) : Int)⟩]) := by
        rw [hd, z5M]
      rw [ht] at he ⊢
      cases ho : one (text.drop a) with
      | inl e =>
        rw [ho] at he
        exfalso
        have he2 : e = 0 := he
        rw [hd] at ho
        rw [one] at ho
        subst he2
        revert ho
        repeat' split
        all_goals (intro ho; first | (injection ho with ho; omega) | cases ho)
      | inr q =>
        obtain ⟨k, m, t, l⟩ := q
        rw [ho] at he
        dsimp only at he ⊢
        have hlen := z4H ho
        rw [List.length_drop] at hlen
        have hle := z6b 10000 (text.drop (a + l))
        rw [List.length_drop] at hle
        rw [show (text.drop a).drop l = text.drop (a + l) from List.drop_drop .., List.drop_drop (l := text)] at he ⊢
        obtain ⟨r, e1, e2⟩ := ih (a + l + nxt 10000 (text.drop (a + l))) _ (by omega) (by omega) he
        exact ⟨⟨k, m, t, a, ((a + l : Nat) : Int)⟩ :: r, by rw [e1]; simp, a, a + l, rfl, rfl, Nat.le_refl _, by omega, .inr ⟨y5X ho, e2.mono (by omega)⟩⟩
    · have h4 : text.drop a = [] := List.drop_eq_nil_of_le (by omega)
      have h5 : a = text.length := by omega
      rw [h4, z5M]
      exact ⟨[⟨5, 0, [], a, a⟩], rfl, a, a, rfl, rfl, Nat.le_refl _, Nat.le_refl _, .inl ⟨rfl, rfl⟩⟩
theorem y4y {text : Str} (h : (z3T text).2.2 = 0) : Ord 0 (z3T text).1 := by
  unfold z3T at h ⊢
  by_cases h1 : text.length > 8192
  · rw [if_pos h1] at h; cases h
  · rw [if_neg h1] at h ⊢
    have hle := z6b 10000 text
    obtain ⟨r, e1, e2⟩ := y6h text 10000 (nxt 10000 text) [] (by omega) (by omega) h
    rw [e1]; exact e2.mono (by omega)
def z7g (n : Nat) : List UInt8 := if h : n < 10 then [UInt8.ofNat (48 + n)] else z7g (n / 10) ++ [UInt8.ofNat (48 + n % 10)]
termination_by n
decreasing_by omega
theorem z5A {n : Nat} (h : n < 10) : z7g n = [UInt8.ofNat (48 + n)] := by rw [z7g, dif_pos h]
theorem z7h {n : Nat} (h : ¬ n < 10) : z7g n = z7g (n / 10) ++ [UInt8.ofNat (48 + n % 10)] := by rw [z7g, dif_neg h]
theorem ofNat_toNat {n : Nat} (h : n < 256) : (UInt8.ofNat n).toNat = n := by rw [UInt8.toNat_ofNat']; omega
theorem z2y : ∀ s : List UInt8, z0H (s.map fun c => ((c.toNat : Nat) : Int)) = some s
  | [] => rfl
  | c :: r => by
    have hc := c.toNat_lt
    rw [List.map_cons, z0H, if_pos (by omega), z2y r]
    simp
theorem y2v {b : List Int} {j : Nat} (h : j < b.length) (x : Int) : (b.set j x).drop j = x :: b.drop (j + 1) := by
  rw [List.drop_eq_getElem_cons (by simpa using h), List.getElem_set_self, List.drop_set_of_lt (by omega)]
theorem y3W (n : Int) : ∀ (i u : Nat) (b : List Int) (s : List UInt8), b.length = 20 → i ≤ 20 → b.drop i = s.map (fun c => ((c.toNat : Nat) : Int)) → (n < 0 → 2 ≤ i ∧ u < 10 ^ (i - 1)) → (¬ n < 0 → 1 ≤ i ∧ u < 10 ^ i) → u ≤ 18446744073709551615 →
    yK n i u b = some ((if n < 0 then [45] else []) ++ (z7g u ++ s)) := by
  intro i
  induction i with
  | zero =>
    intro u b s hb hi hs h1 h2 hu
    by_cases h : n < 0
    · have := h1 h; omega
    · have := h2 h; omega
  | succ j ih =>
    intro u b s hb hi hs h1 h2 hu
    rw [z6u]; unfold jL
    have hj : IntKind.wrap .i64 (((j + 1 : Nat) : Int) - 1) = (j : Int) := by rw [uS (by omega) (by omega)]; omega
    have hm : Int.tmod (u : Int) 10 = ((u % 10 : Nat) : Int) := by rw [Int.tmod_eq_emod_of_nonneg (by omega)]; omega
    have hd : Int.tdiv (u : Int) 10 = ((u / 10 : Nat) : Int) := by rw [Int.tdiv_eq_ediv_of_nonneg (by omega)]; omega
    have hc : IntKind.wrap .u8 (IntKind.wrap .u64 (48 + ((u % 10 : Nat) : Int))) = ((48 + u % 10 : Nat) : Int) := by rw [y7G (by omega) (by omega), y3L (by omega) (by omega)]; omega
    have hq : IntKind.wrap .u64 ((u / 10 : Nat) : Int) = ((u / 10 : Nat) : Int) := y7G (by omega) (by omega)
    rw [hj, hm, hd, hc, hq]
    have ht : Int.toNat (j : Int) = j := rfl
    rw [ht]
    simp only [List.length_set, hb, ne_eq, show ¬ ((10 : Int) = 0) by decide, not_false_eq_true, if_true]
    rw [if_pos (show True ∧ (0 : Int) ≤ (j : Int) ∧ (j : Int) < ((20 : Nat) : Int) from ⟨trivial, by omega, by omega⟩), if_pos (show j < 20 by omega)]
    have hsetd : (b.set j ((48 + u % 10 : Nat) : Int)).drop j = (UInt8.ofNat (48 + u % 10) :: s).map (fun c => ((c.toNat : Nat) : Int)) := by
      rw [y2v (by omega), hs, List.map_cons, ofNat_toNat (by omega)]
    by_cases h0 : u / 10 = 0
    · rw [if_pos (show ((u / 10 : Nat) : Int) = 0 by omega)]
      have hdg : z7g u = [UInt8.ofNat (48 + u % 10)] := by rw [z5A (by omega), show u % 10 = u by omega]
      by_cases hn : n < 0
      · have h3 := h1 hn
        rw [if_pos hn, if_pos hn]
        have hj2 : IntKind.wrap .i64 ((j : Int) - 1) = ((j - 1 : Nat) : Int) := by rw [uS (by omega) (by omega)]; omega
        rw [hj2, show Int.toNat ((j - 1 : Nat) : Int) = j - 1 from rfl]
        rw [if_pos (show True ∧ (0 : Int) ≤ ((j - 1 : Nat) : Int) ∧ ((j - 1 : Nat) : Int) < ((20 : Nat) : Int) from ⟨trivial, by omega, by omega⟩), if_pos (show j - 1 < 20 by omega), if_pos (show (0 : Int) ≤ ((j - 1 : Nat) : Int) by omega), if_pos (show j - 1 ≤ 20 by omega)]
        have : ((b.set j ((48 + u % 10 : Nat) : Int)).set (j - 1) 45).drop (j - 1) = (45 :: UInt8.ofNat (48 + u % 10) :: s).map (fun c => ((c.toNat : Nat) : Int)) := by
          rw [y2v (by simp; omega), show j - 1 + 1 = j by omega, hsetd]; rfl
        rw [this, z2y, hdg]; rfl
      · rw [if_neg hn, if_neg hn, if_pos (show (0 : Int) ≤ (j : Int) by omega), if_pos (show j ≤ 20 by omega), hsetd, z2y, hdg]; rfl
    · rw [if_neg (show ¬ ((u / 10 : Nat) : Int) = 0 by omega)]
      have hdg : z7g u = z7g (u / 10) ++ [UInt8.ofNat (48 + u % 10)] := z7h (by omega)
      rw [ih (u / 10) _ (UInt8.ofNat (48 + u % 10) :: s) (by simpa using hb) (by omega) hsetd ?_ ?_ (by omega), hdg]
      · simp
      · intro hn
        have h3 := h1 hn
        rcases j with _ | _ | j
        · omega
        · simp at h3; omega
        · refine ⟨by omega, ?_⟩
          have h4 := h3.2
          simp only [Nat.add_sub_cancel] at h4 ⊢
          rw [Nat.pow_succ] at h4
          omega
      · intro hn
        have h3 := h2 hn
        rcases j with _ | j
        · simp at h3; omega
        · refine ⟨by omega, ?_⟩
          have h4 := h3.2
          rw [Nat.pow_succ] at h4
          omega
theorem y3X (n : Int) (h : -9223372036854775808 ≤ n ∧ n ≤ 9223372036854775807) : z1t n = some ((if n < 0 then [45] else []) ++ z7g n.natAbs) := by
  unfold z1t
  have z : ([0, 0, 0, 0, 0, 0, 0, 0, 0, 0, 0, 0, 0, 0, 0, 0, 0, 0, 0, 0] : List Int).length = 20 := rfl
  by_cases hn : n < 0
  · rw [if_pos hn]
    have : IntKind.wrap .u64 (0 - IntKind.wrap .u64 n) = ((n.natAbs : Nat) : Int) := by rw [IntKind.wrap_u64, IntKind.wrap_u64]; omega
    rw [this, show (20 : Int) = ((20 : Nat) : Int) from rfl, y3W n 20 n.natAbs _ [] z (by omega) rfl (fun _ => ⟨by omega, by omega⟩) (fun h => absurd hn h) (by omega), List.append_nil]
  · rw [if_neg hn]
    have : IntKind.wrap .u64 n = ((n.natAbs : Nat) : Int) := by rw [IntKind.wrap_u64]; omega
    rw [this, show (20 : Int) = ((20 : Nat) : Int) from rfl, y3W n 20 n.natAbs _ [] z (by omega) rfl (fun h => absurd h hn) (fun _ => ⟨by omega, by omega⟩) (by omega), List.append_nil]
theorem y5n (w : List UInt8) (c : UInt8) (v : Nat) : z8O v (w ++ [c]) = z8O v w * 10 + (c.toNat - 48) := by unfold z8O; rw [List.foldl_append]; rfl
theorem y6i {x : UInt8} {r : List UInt8} (h : x.toNat ≠ 48) (hd : dgt x = true) : 1 ≤ z8O 0 (x :: r) := by
  unfold dgt at hd
  simp only [Bool.and_eq_true, decide_eq_true_eq] at hd
  rw [z7U]
  have := y2o r (0 * 10 + (x.toNat - 48))
  omega
theorem y5C : ∀ (k : Nat) (w : List UInt8), w.length = k → 0 < k → (∀ c ∈ w, dgt c = true) → ¬ (w.length > 1 ∧ y3p 48 w = true) → z7g (z8O 0 w) = w := by
  intro k
  induction k with
  | zero => intro w _ h; omega
  | succ k ih =>
    intro w hl _ hd hz
    have hne : w ≠ [] := by rintro rfl; simp at hl
    have hw := List.dropLast_concat_getLast hne
    generalize hu : w.dropLast = u at hw
    generalize w.getLast hne = c at hw
    subst hw
    have hc := hd c (by simp)
    have hc2 := hc
    unfold dgt at hc
    simp only [Bool.and_eq_true, decide_eq_true_eq] at hc
    rw [y5n]
    have hcc : UInt8.ofNat (48 + (c.toNat - 48)) = c := by rw [show 48 + (c.toNat - 48) = c.toNat by omega]; exact UInt8.ofNat_toNat
    cases u with
    | nil =>
      rw [z9Q, z5A (by omega), show 0 * 10 + (c.toNat - 48) = c.toNat - 48 by omega, hcc]; rfl
    | cons x r =>
      have hx : x.toNat ≠ 48 := fun e => hz ⟨by simp, by simp [y3p, e]⟩
      have hp := y6i (r := r) hx (hd x (by simp))
      rw [z7h (by omega), show (z8O 0 (x :: r) * 10 + (c.toNat - 48)) / 10 = z8O 0 (x :: r) by omega, show (z8O 0 (x :: r) * 10 + (c.toNat - 48)) % 10 = c.toNat - 48 by omega, hcc]
      rw [ih (x :: r) (by simp at hl ⊢; omega) (by simp at hl; omega) (fun y hy => hd y (List.mem_append_left _ hy)) (fun h => hx (by have := h.2; simpa [y3p] using this))]
theorem y5V {w : List UInt8} {n : Nat} (h : num w = some n) (h0 : 0 < w.length) (hd : ∀ c ∈ w, dgt c = true) : z7g n = w ∧ n ≤ 9223372036854775807 := by
  unfold num at h
  by_cases hz : w.length > 1 ∧ y3p 48 w = true
  · rw [if_pos hz] at h; cases h
  · rw [if_neg hz] at h
    by_cases hv : z8O 0 w > 9223372036854775807
    · rw [if_pos hv] at h; cases h
    · rw [if_neg hv] at h
      injection h with h
      subst h
      exact ⟨y5C _ w rfl h0 hd hz, by omega⟩
theorem y2u {n : Nat} (h : n < 256) : z0H [((n : Nat) : Int)] = some [UInt8.ofNat n] := by
  have := z2y [UInt8.ofNat n]
  rw [List.map_cons, List.map_nil, ofNat_toNat h] at this
  exact this
theorem z7i : ∀ (k n : Nat), n < 10 ^ k → 0 < k → (z7g n).length ≤ k := by
  intro k
  induction k with
  | zero => intro n _ h; omega
  | succ k ih =>
    intro n h _
    by_cases h10 : n < 10
    · rw [z5A h10]; simp
    · rw [z7h h10, List.length_append]
      have : (z7g (n / 10)).length ≤ k := ih (n / 10) (by rw [Nat.pow_succ] at h; omega) (by
        rcases k with _ | k
        · simp at h; omega
        · omega)
      simp; omega
theorem y1g : ∀ (k : Nat) (n : Int), n.natAbs < 10 ^ k → k ≤ 20 → -9223372036854775808 ≤ n → n ≤ 9223372036854775807 → vD n = some ((if n < 0 then [45] else []) ++ z7g n.natAbs) := by
  intro k
  induction k with
  | zero =>
    intro n h _ _ _
    have : n = 0 := by simp at h; omega
    subst this
    rw [z4h]; unfold jR
    rw [if_neg (by decide), if_pos (by decide), if_neg (by decide), z5A (by decide)]; rfl
  | succ k ih =>
    intro n h hk h1 h2
    rw [z4h]; unfold jR
    have hdl := z7i 20 n.natAbs (by omega) (by omega)
    simp only [ne_eq, show ¬ ((10 : Int) = 0) by decide, not_false_eq_true, if_true]
    have t1 : Int.natAbs (n.tdiv 10) = n.natAbs / 10 := by rw [Int.natAbs_tdiv]; rfl
    have t3 : (n.tdiv 10).natAbs < 10 ^ k := by rw [t1]; rw [Nat.pow_succ] at h; omega
    have hdl2 := z7i 20 (n.natAbs / 10) (by omega) (by omega)
    have tw : IntKind.wrap .i64 (n.tdiv 10) = n.tdiv 10 := uS (by omega) (by omega)
    by_cases hn : n < 0
    · rw [if_pos hn, if_pos hn]
      have e1 : n.tdiv 10 = -((n.natAbs / 10 : Nat) : Int) := by
        have : n = -((n.natAbs : Nat) : Int) := by omega
        rw [show n.tdiv 10 = (-((n.natAbs : Nat) : Int)).tdiv 10 by rw [← this], Int.neg_tdiv, Int.tdiv_eq_ediv_of_nonneg (by omega)]; omega
      have e2 : n.tmod 10 = -((n.natAbs % 10 : Nat) : Int) := by
        have : n = -((n.natAbs : Nat) : Int) := by omega
        rw [show n.tmod 10 = (-((n.natAbs : Nat) : Int)).tmod 10 by rw [← this], Int.neg_tmod, Int.tmod_eq_emod_of_nonneg (by omega)]; omega
      by_cases h10 : n > (-10)
      · rw [if_pos h10]
        have e3 : IntKind.wrap .u8 (IntKind.wrap .i64 (48 - n)) = ((48 + n.natAbs : Nat) : Int) := by rw [uS (by omega) (by omega), y3L (by omega) (by omega)]; omega
        rw [e3, y2u (by omega), zA, z5A (show n.natAbs < 10 by omega), if_pos (by simp)]
      · rw [if_neg h10, tw, ih _ t3 (by omega) (by omega) (by omega), zA]
        have e3 : IntKind.wrap .u8 (IntKind.wrap .i64 (48 - n.tmod 10)) = ((48 + n.natAbs % 10 : Nat) : Int) := by rw [uS (by omega) (by omega), y3L (by omega) (by omega)]; omega
        rw [e3, y2u (by omega), zA, t1, if_pos (show n.tdiv 10 < 0 by omega), z7h (show ¬ n.natAbs < 10 by omega), if_pos (by simp; omega)]
        simp
    · rw [if_neg hn, if_neg hn]
      have e1 : n.tdiv 10 = ((n.natAbs / 10 : Nat) : Int) := by rw [Int.tdiv_eq_ediv_of_nonneg (by omega)]; omega
      have e2 : n.tmod 10 = ((n.natAbs % 10 : Nat) : Int) := by rw [Int.tmod_eq_emod_of_nonneg (by omega)]; omega
      by_cases h10 : n < 10
      · rw [if_pos h10]
        have e3 : IntKind.wrap .u8 (IntKind.wrap .i64 (48 + n)) = ((48 + n.natAbs : Nat) : Int) := by rw [uS (by omega) (by omega), y3L (by omega) (by omega)]; omega
        rw [e3, y2u (by omega), zA, z5A (show n.natAbs < 10 by omega)]; rfl
      · rw [if_neg h10, tw, ih _ t3 (by omega) (by omega) (by omega), zA]
        have e3 : IntKind.wrap .u8 (IntKind.wrap .i64 (48 + n.tmod 10)) = ((48 + n.natAbs % 10 : Nat) : Int) := by rw [uS (by omega) (by omega), y3L (by omega) (by omega)]; omega
        rw [e3, y2u (by omega), zA, t1, if_neg (show ¬ n.tdiv 10 < 0 by omega), z7h (show ¬ n.natAbs < 10 by omega), if_pos (by simp; omega)]
        simp
abbrev Gap (b : List UInt8) : Prop := b = [] ∨ ∃ r, b = 32 :: r
def Tok (k n : Int) (t : Str) (w : List UInt8) : Prop := ∀ b, Gap b → one (w ++ b) = .inr (k, n, t, w.length)
theorem y5l (p : UInt8 → Bool) (hp : p 32 = false) {b : List UInt8} (hb : Gap b) : ∀ w : List UInt8, (∀ c ∈ w, p c = true) → tw p (w ++ b) = w.length
  | [], _ => by
    rcases hb with rfl | ⟨r, rfl⟩
    · rfl
    · simp [tw, hp]
  | c :: w, h => by
    rw [List.cons_append, tw, if_pos (h c (by simp)), y5l p hp hb w fun x hx => h x (by simp [hx])]; rfl
theorem y6M {b : List UInt8} (hb : Gap b) : hd0 b = 0 ∨ hd0 b = 32 := by
  rcases hb with rfl | ⟨r, rfl⟩
  · exact .inl rfl
  · exact .inr rfl
theorem y7d {c d e : Nat} (h : sgn c d = 1) (he : e = 0 ∨ e = 32) : sgn c e = 1 := by
  unfold sgn at h ⊢
  split at h
  · rename_i h1; rw [if_pos h1, if_neg (by omega)]
  · rename_i h1
    rw [if_neg h1]
    split at h
    · split at h <;> omega
    · rename_i h2; rw [if_neg h2]; exact h
theorem y7D (c d : Nat) : sgn c d ≤ 2 := by unfold sgn; (repeat' split) <;> omega
theorem y4E {s : List UInt8} {k n : Int} {t : Str} {l : Nat} (h : one s = .inr (k, n, t, l)) : Tok k n t (s.take l) ∧ (s.take l).length = l := by
  have hlen := z4H h
  have hl : (s.take l).length = l := by rw [List.length_take]; omega
  refine ⟨fun b hb => ?_, hl⟩
  rw [hl]
  cases s with
  | nil => simp [one] at h
  | cons c r =>
    rw [one] at h
    by_cases h1 : ltr c = true
    · rw [if_pos h1] at h
      by_cases h2 : tw mor (c :: r) > 16
      · rw [if_pos h2] at h; cases h
      · rw [if_neg h2] at h
        injection h with h; injection h with e1 h; injection h with e2 h; injection h with e3 h
        have hall := y1l mor (c :: r)
        rw [h] at hall
        have htw := y5l mor (by decide) hb ((c :: r).take l) hall
        rw [hl] at htw
        have hw : ((c :: r).take l ++ b).take l = (c :: r).take l := by rw [List.take_append_of_le_length (by omega), List.take_of_length_le (by omega)]
        obtain ⟨l', rfl⟩ : ∃ l', l = l' + 1 := ⟨l - 1, by omega⟩
        rw [List.take_succ_cons, List.cons_append] at htw hw ⊢
        rw [one, if_pos h1, htw, if_neg (by omega), hw, ← List.take_succ_cons, ← e3, h]
        subst e1; subst e2; rw [h]
    · rw [if_neg h1] at h
      by_cases h2 : dgt c = true
      · rw [if_pos h2] at h
        cases hn : num ((c :: r).take (tw dgt (c :: r))) with
        | none => rw [hn] at h; cases h
        | some m =>
          rw [hn] at h
          injection h with h; injection h with e1 h; injection h with e2 h; injection h with e3 h
          have hall := y1l dgt (c :: r)
          rw [h] at hall hn
          have htw := y5l dgt (by decide) hb ((c :: r).take l) hall
          rw [hl] at htw
          have hw : ((c :: r).take l ++ b).take l = (c :: r).take l := by rw [List.take_append_of_le_length (by omega), List.take_of_length_le (by omega)]
          obtain ⟨l', rfl⟩ : ∃ l', l = l' + 1 := ⟨l - 1, by omega⟩
          rw [List.take_succ_cons, List.cons_append] at htw hw ⊢
          rw [List.take_succ_cons] at hn
          rw [one, if_neg h1, if_pos h2, htw, hw, hn]
          subst e1; subst e2; subst e3; rfl
      · rw [if_neg h2] at h
        by_cases h3 : sgn c.toNat (hd0 r) = 0
        · rw [if_pos h3] at h; cases h
        · rw [if_neg h3] at h
          injection h with h; injection h with e1 h; injection h with e2 h; injection h with e3 h
          have hle := y7D c.toNat (hd0 r)
          have h12 : l = 1 ∨ l = 2 := by omega
          rcases h12 with rfl | rfl
          · have hs := y7d h (y6M hb)
            rw [List.take_succ_cons, List.take_zero, List.cons_append, List.nil_append, one, if_neg h1, if_neg h2, hs, if_neg (by decide)]
            rw [h] at e3
            subst e1; subst e2; subst e3; rfl
          · cases r with
            | nil => simp at hlen
            | cons d r' =>
              have hs : sgn c.toNat (hd0 (d :: b)) = 2 := h
              rw [show (c :: d :: r').take 2 ++ b = c :: d :: b from rfl, one, if_neg h1, if_neg h2, hs, if_neg (by decide)]
              rw [h] at e3
              subst e1; subst e2; subst e3; rfl
theorem y7g {k n : Int} {t : Str} {w : List UInt8} (h : Tok k n t w) {b : List UInt8} (hb : Gap b) (m : Nat) : nxt m (w ++ b) = 0 := by
  have h1 := h b hb
  cases m with
  | zero => rfl
  | succ m =>
    cases w with
    | nil => have := z4H h1; simp at this
    | cons c w =>
      rw [List.cons_append] at h1 ⊢
      rw [nxt]
      have hnb : blk c = false := by
        cases hbk : blk c with
        | false => rfl
        | true =>
          exfalso
          unfold blk at hbk
          simp only [Bool.or_eq_true, beq_iff_eq] at hbk
          rw [one, if_neg, if_neg] at h1
          · have hs : sgn c.toNat (hd0 (w ++ b)) = 0 := by
              unfold sgn
              rw [if_neg (by omega), if_neg (by omega), if_neg]
              rcases hbk with ((hbk | hbk) | hbk) | hbk <;> rw [hbk] <;> decide
            rw [if_pos hs] at h1; cases h1
          · unfold dgt; simp; omega
          · unfold ltr; simp; omega
      rw [if_neg (by rw [hnb]; simp), if_neg]
      rintro ⟨h47, hh⟩
      rw [one, if_neg, if_neg] at h1
      · have hs : sgn c.toNat (hd0 (w ++ b)) = 1 := by
          unfold sgn
          rw [if_neg (by omega), if_neg (by omega), h47]; rfl
        rw [hs, if_neg (by decide)] at h1
        injection h1 with h1; injection h1 with _ h1; injection h1 with _ h1; injection h1 with _ h1
        have hw : w = [] := by simpa using h1.symm
        subst hw
        rw [List.nil_append] at hh
        rcases hb with rfl | ⟨r, rfl⟩
        · simp [y3p] at hh
        · simp [y3p] at hh
      · unfold dgt; simp; omega
      · unfold ltr; simp; omega
def jn : List (List UInt8) → List UInt8
  | [] => []
  | w :: r => 32 :: (w ++ jn r)
theorem y6q (l : List (List UInt8)) : Gap (jn l) := by
  cases l with
  | nil => exact .inl rfl
  | cons w r => exact .inr ⟨_, rfl⟩
def body : List (List UInt8) → List UInt8
  | [] => []
  | w :: r => w ++ jn r
theorem y2V (P : zC → Prop) (h1 : ∀ s k m t l (a : Nat), one s = .inr (k, m, t, l) → P ⟨k, m, t, a, ((a + l : Nat) : Int)⟩) (h2 : ∀ a : Nat, P ⟨5, 0, [], a, a⟩) : ∀ (n : Nat) (s : List UInt8) (a : Nat) (out : List zC), (∀ x ∈ out, P x) → ∀ x ∈ (z5M n s a out).1, P x
  | 0, s, a, out, h, x, hx => by simp [z5M] at hx
  | n + 1, [], a, out, h, x, hx => by
    rw [z5M] at hx
    rcases List.mem_append.1 hx with hx | hx
    · exact h x hx
    · simp at hx; rw [hx]; exact h2 a
  | n + 1, c :: r, a, out, h, x, hx => by
    rw [z5M] at hx
    cases ho : one (c :: r) with
    | inl e => rw [ho] at hx; simp at hx
    | inr q =>
      obtain ⟨k, m, t, l⟩ := q
      rw [ho] at hx
      refine y2V P h1 h2 n _ _ _ (fun y hy => ?_) x hx
      rcases List.mem_append.1 hy with hy | hy
      · exact h y hy
      · simp at hy; rw [hy]; exact h1 _ _ _ _ _ _ ho
theorem y4x (P : zC → Prop) (h1 : ∀ s k m t l (a : Nat), one s = .inr (k, m, t, l) → P ⟨k, m, t, a, ((a + l : Nat) : Int)⟩) (h2 : ∀ a : Nat, P ⟨5, 0, [], a, a⟩) (text : Str) : ∀ x ∈ (z3T text).1, P x := by
  unfold z3T
  split
  · intro x hx; simp at hx
  · exact y2V P h1 h2 _ _ _ _ (fun x hx => by simp at hx)
theorem y1a {s : List UInt8} {k m : Int} {t : Str} {l : Nat} (h : one s = .inr (k, m, t, l)) : (k = 2 ∧ t = [] ∧ ∃ n : Nat, m = (n : Int) ∧ n ≤ 9223372036854775807 ∧ z7g n = s.take l) ∨ (k ≠ 2 ∧ k ≠ 5 ∧ m = 0 ∧ t = s.take l) := by
  cases s with
  | nil => cases h
  | cons c r =>
    rw [one] at h
    by_cases h1 : ltr c = true
    · rw [if_pos h1] at h
      by_cases h2 : tw mor (c :: r) > 16
      · rw [if_pos h2] at h; cases h
      · rw [if_neg h2] at h
        injection h with h
        simp only [Prod.mk.injEq] at h
        obtain ⟨rfl, rfl, rfl, rfl⟩ := h
        exact .inr ⟨by split <;> decide, by split <;> decide, rfl, rfl⟩
    · rw [if_neg h1] at h
      by_cases h2 : dgt c = true
      · rw [if_pos h2] at h
        cases hn : num ((c :: r).take (tw dgt (c :: r))) with
        | none => rw [hn] at h; cases h
        | some n =>
          rw [hn] at h
          injection h with h
          simp only [Prod.mk.injEq] at h
          obtain ⟨rfl, rfl, rfl, rfl⟩ := h
          have hp : 0 < ((c :: r).take (tw dgt (c :: r))).length := by
            rw [List.length_take, tw, if_pos h2]; simp
          obtain ⟨g1, g2⟩ := y5V hn hp (y1l dgt _)
          exact .inl ⟨rfl, rfl, n, rfl, g2, g1⟩
      · rw [if_neg h2] at h
        by_cases h3 : sgn c.toNat (hd0 r) = 0
        · rw [if_pos h3] at h; cases h
        · rw [if_neg h3] at h
          injection h with h
          simp only [Prod.mk.injEq] at h
          obtain ⟨rfl, rfl, rfl, rfl⟩ := h
          exact .inr ⟨by decide, by decide, rfl, rfl⟩
structure y7H (x : zC) : Prop where
  nm : x.K = 1 → Tok 1 0 x.S x.S
  nu : x.K = 2 → ∃ n : Nat, x.N = (n : Int) ∧ n ≤ 9223372036854775807 ∧ Tok 2 n [] (z7g n) ∧ ((z7g n).length : Int) = x.To - x.From
  le : x.K ≠ 2 → x.K ≠ 5 → (x.S.length : Int) = x.To - x.From
  po : x.K ≠ 5 → 1 ≤ x.To - x.From
theorem y3A (text : Str) : ∀ x ∈ (z3T text).1, y7H x := by
  refine y4x y7H (fun s k m t l a h => ?_) (fun a => ⟨fun h => absurd (show (5 : Int) = 1 from h) (by decide), fun h => absurd (show (5 : Int) = 2 from h) (by decide), fun _ h => absurd rfl h, fun h => absurd rfl h⟩) text
  obtain ⟨g1, g2⟩ := y4E h
  have g3 := (z4H h).1
  have e : ((a + l : Nat) : Int) - (a : Int) = (l : Int) := by omega
  rcases y1a h with ⟨rfl, rfl, n, rfl, h1, h2⟩ | ⟨h1, h2, rfl, rfl⟩
  · exact ⟨fun h => absurd (show (2 : Int) = 1 from h) (by decide), fun _ => ⟨n, rfl, h1, by rw [h2]; exact g1, by rw [h2, g2]; exact e.symm⟩, fun h => absurd rfl h, fun _ => by show 1 ≤ ((a + l : Nat) : Int) - (a : Int); omega⟩
  · refine ⟨fun h => ?_, fun h => absurd h h1, fun _ _ => ?_, fun _ => by show 1 ≤ ((a + l : Nat) : Int) - (a : Int); omega⟩
    · have h' : k = 1 := h
      rw [h'] at g1; exact g1
    · show ((s.take l).length : Int) = ((a + l : Nat) : Int) - (a : Int)
      rw [g2]; exact e.symm
def TF (t : List zC) : Prop := ∀ x ∈ t, y7H x
abbrev y8f : zC := ⟨5, 0, [], 0, 0⟩
def zP (t : List zC) (a : Nat) : zC := (t[a]?).getD y8f
def zY (t : List zC) (a : Nat) (s : Str) : Bool := decide ((zP t a).K = 4) && ((zP t a).S == s)
def uA (t : List zC) (a : Nat) (s : Str) : Bool := decide ((zP t a).K = 3) && ((zP t a).S == s)
theorem uR {t : List zC} {a : Nat} (h : (zP t a).K ≠ 5) : a < t.length := by
  rcases Nat.lt_or_ge a t.length with h1 | h1
  · exact h1
  · exfalso; apply h; unfold zP; rw [List.getElem?_eq_none h1]; rfl
def wS (t : List zC) (f a : Nat) (x : zI) : zI := { x with From := (zP t f).From, To := (zP t (a - 1)).To }
abbrev zT7 : zI := ⟨0, 0, [], [], 0, 0⟩
theorem zT {t : List zC} {a : Nat} {s : Str} (h : zY t a s = true) : a < t.length := uR (by
  unfold zY at h
  simp only [Bool.and_eq_true, decide_eq_true_eq] at h
  rw [h.1]; decide)
theorem z2K {t : List zC} {a : Nat} {s : Str} (h : uA t a s = true) : a < t.length := uR (by
  unfold uA at h
  simp only [Bool.and_eq_true, decide_eq_true_eq] at h
  rw [h.1]; decide)
inductive Res where
  | ok (x : zI) (b : Nat)
  | bad (b : Nat)
def z3u (x : zC) : Int × Nat :=
  if x.K = 4 then
    if x.S = [124, 124] then (1, 1)
    else if x.S = [38, 38] then (2, 2)
    else if x.S = [61, 61] then (3, 3)
    else if x.S = [33, 61] then (4, 3)
    else if x.S = [60] then (5, 3)
    else if x.S = [60, 61] then (6, 3)
    else if x.S = [62] then (7, 3)
    else if x.S = [62, 61] then (8, 3)
    else if x.S = [43] then (9, 4)
    else if x.S = [45] then (10, 4)
    else if x.S = [42] then (11, 5)
    else if x.S = [47] then (12, 5)
    else if x.S = [37] then (13, 5)
    else (0, 0)
  else (0, 0)
theorem z1U {x : zC} (h : (z3u x).2 ≠ 0) : x.K = 4 := by
  unfold z3u at h
  by_cases hk : x.K = 4
  · exact hk
  · rw [if_neg hk] at h; exact absurd rfl h
inductive AK where
  | one (k n : Int) (s : Str)
  | paren
  | call (k : Int) (s : Str) (o : Nat) (few : Bool)
  | lis
  | nm
  | no
def wU (t : List zC) (a : Nat) : AK :=
  if (zP t a).K = 2 then .one 5 (zP t a).N []
  else if (zP t a).K = 1 then (if zY t (a + 1) [40] = true then .call 16 (zP t a).S (a + 1) true else .one 19 0 (zP t a).S)
  else if uA t a [116, 114, 117, 101] = true then .one 6 1 []
  else if uA t a [102, 97, 108, 115, 101] = true then .one 6 0 []
  else if uA t a [114, 101, 97, 100] = true then .one 18 0 []
  else if uA t a [110, 101, 119] = true then (if (zP t (a + 1)).K = 1 then .call 15 (zP t (a + 1)).S (a + 2) false else .nm)
  else if zY t a [40] = true then .paren
  else if zY t a [91] = true then .lis
  else if zY t a [64] = true then (if (zP t (a + 1)).K = 1 then .call 17 (zP t (a + 1)).S (a + 2) true else .nm)
  else .no
inductive Cat where
  | lev (k : Nat)
  | ll (k times f : Nat) (x : zI)
  | post
  | pl (f : Nat) (x : zI)
  | atom
  | cls (few : Bool)
  | lst (acc : List zI)
abbrev lT (l : List zI) : zI := ⟨0, 0, [], l, 0, 0⟩
inductive Der (t : List zC) : Cat → Nat → Res → Prop
  | un {a b : Nat} {n : Int} {x : zI} : (n = 1 ∧ zY t a [45] = true) ∨ (n = 2 ∧ zY t a [33] = true) → Der t (.lev 6) (a + 1) (.ok x b) → Der t (.lev 6) a (.ok (wS t a b ⟨11, n, [], [x], 0, 0⟩) b)
  | unB {a b : Nat} : zY t a [45] = true ∨ zY t a [33] = true → Der t (.lev 6) (a + 1) (.bad b) → Der t (.lev 6) a (.bad b)
  | unP {a : Nat} {r : Res} : zY t a [45] = false → zY t a [33] = false → Der t .post a r → Der t (.lev 6) a r
  | lev {k a b : Nat} {x : zI} {r : Res} : 1 ≤ k → k ≤ 5 → Der t (.lev (k + 1)) a (.ok x b) → Der t (.ll k 0 a x) b r → Der t (.lev k) a r
  | levB {k a b : Nat} : 1 ≤ k → k ≤ 5 → Der t (.lev (k + 1)) a (.bad b) → Der t (.lev k) a (.bad b)
  | llE {k m f a : Nat} {x : zI} : 1 ≤ k → (z3u (zP t a)).2 ≠ k ∨ (k = 3 ∧ m = 1) → Der t (.ll k m f x) a (.ok x a)
  | llG {k m f a b : Nat} {x y : zI} {r : Res} : 1 ≤ k → (z3u (zP t a)).2 = k → ¬ (k = 3 ∧ m = 1) → Der t (.lev (k + 1)) (a + 1) (.ok y b) → Der t (.ll k (m + 1) f (wS t f b ⟨10, (z3u (zP t a)).1, [], [x, y], 0, 0⟩)) b r → Der t (.ll k m f x) a r
  | llB {k m f a b : Nat} {x : zI} : 1 ≤ k → (z3u (zP t a)).2 = k → ¬ (k = 3 ∧ m = 1) → Der t (.lev (k + 1)) (a + 1) (.bad b) → Der t (.ll k m f x) a (.bad b)
  | post {a b : Nat} {x : zI} {r : Res} : Der t .atom a (.ok x b) → Der t (.pl a x) b r → Der t .post a r
  | postB {a b : Nat} : Der t .atom a (.bad b) → Der t .post a (.bad b)
  | plE {f a : Nat} {x : zI} : zY t a [91] = false → zY t a [46] = false → Der t (.pl f x) a (.ok x a)
  | plI {f a b : Nat} {x i : zI} {r : Res} : zY t a [91] = true → Der t (.lev 1) (a + 1) (.ok i b) → zY t b [93] = true → Der t (.pl f (wS t f (b + 1) ⟨12, 0, [], [x, i], 0, 0⟩)) (b + 1) r → Der t (.pl f x) a r
  | plI1 {f a b : Nat} {x : zI} : zY t a [91] = true → Der t (.lev 1) (a + 1) (.bad b) → Der t (.pl f x) a (.bad b)
  | plI2 {f a b : Nat} {x i : zI} : zY t a [91] = true → Der t (.lev 1) (a + 1) (.ok i b) → zY t b [93] = false → Der t (.pl f x) a (.bad b)
  | plF {f a : Nat} {x : zI} {r : Res} : zY t a [91] = false → zY t a [46] = true → (zP t (a + 1)).K = 1 → Der t (.pl f (wS t f (a + 2) ⟨13, 0, (zP t (a + 1)).S, [x], 0, 0⟩)) (a + 2) r → Der t (.pl f x) a r
  | plFB {f a : Nat} {x : zI} : zY t a [91] = false → zY t a [46] = true → (zP t (a + 1)).K ≠ 1 → Der t (.pl f x) a (.bad (a + 1))
  | one {a : Nat} {k n : Int} {s : Str} : wU t a = .one k n s → Der t .atom a (.ok (wS t a (a + 1) ⟨k, n, s, [], 0, 0⟩) (a + 1))
  | par {a b : Nat} {x : zI} : wU t a = .paren → Der t (.lev 1) (a + 1) (.ok x b) → zY t b [41] = true → Der t .atom a (.ok x (b + 1))
  | par1 {a b : Nat} : wU t a = .paren → Der t (.lev 1) (a + 1) (.bad b) → Der t .atom a (.bad b)
  | par2 {a b : Nat} {x : zI} : wU t a = .paren → Der t (.lev 1) (a + 1) (.ok x b) → zY t b [41] = false → Der t .atom a (.bad b)
  | call {a o b : Nat} {k : Int} {s : Str} {few : Bool} {l : List zI} : wU t a = .call k s o few → Der t (.cls few) o (.ok (lT l) b) → Der t .atom a (.ok (wS t a b ⟨k, 0, s, l, 0, 0⟩) b)
  | callB {a o b : Nat} {k : Int} {s : Str} {few : Bool} : wU t a = .call k s o few → Der t (.cls few) o (.bad b) → Der t .atom a (.bad b)
  | lis {a b : Nat} {l : List zI} : wU t a = .lis → Der t (.lst []) (a + 1) (.ok (lT l) b) → zY t b [93] = true → Der t .atom a (.ok (wS t a (b + 1) ⟨14, 0, [], l, 0, 0⟩) (b + 1))
  | lis1 {a b : Nat} : wU t a = .lis → Der t (.lst []) (a + 1) (.bad b) → Der t .atom a (.bad b)
  | lis2 {a b : Nat} {l : List zI} : wU t a = .lis → Der t (.lst []) (a + 1) (.ok (lT l) b) → zY t b [93] = false → Der t .atom a (.bad b)
  | nm {a : Nat} : wU t a = .nm → Der t .atom a (.bad (a + 1))
  | no {a : Nat} : wU t a = .no → Der t .atom a (.bad a)
  | cls0 {a : Nat} {few : Bool} : zY t a [40] = false → Der t (.cls few) a (.bad a)
  | clsF {a : Nat} : zY t a [40] = true → zY t (a + 1) [41] = true → Der t (.cls true) a (.ok (lT []) (a + 2))
  | cls {a b : Nat} {few : Bool} {l : List zI} : zY t a [40] = true → (few = true → zY t (a + 1) [41] = false) → Der t (.lst []) (a + 1) (.ok (lT l) b) → zY t b [41] = true → Der t (.cls few) a (.ok (lT l) (b + 1))
  | cls1 {a b : Nat} {few : Bool} : zY t a [40] = true → (few = true → zY t (a + 1) [41] = false) → Der t (.lst []) (a + 1) (.bad b) → Der t (.cls few) a (.bad b)
  | cls2 {a b : Nat} {few : Bool} {l : List zI} : zY t a [40] = true → (few = true → zY t (a + 1) [41] = false) → Der t (.lst []) (a + 1) (.ok (lT l) b) → zY t b [41] = false → Der t (.cls few) a (.bad b)
  | lstE {a b : Nat} {acc : List zI} {x : zI} : Der t (.lev 1) a (.ok x b) → zY t b [44] = false → Der t (.lst acc) a (.ok (lT (acc ++ [x])) b)
  | lstG {a b : Nat} {acc : List zI} {x : zI} {r : Res} : Der t (.lev 1) a (.ok x b) → zY t b [44] = true → Der t (.lst (acc ++ [x])) (b + 1) r → Der t (.lst acc) a r
  | lstB {a b : Nat} {acc : List zI} : Der t (.lev 1) a (.bad b) → Der t (.lst acc) a (.bad b)
def InR (t : List zC) (c : Cat) (a : Nat) : Res → Prop
  | .ok x b => (match c with | .ll _ _ _ _ => a ≤ b | .pl _ _ => a ≤ b | _ => a < b) ∧ b ≤ t.length
  | .bad b => a ≤ b ∧ b ≤ t.length
theorem jP {t : List zC} {a : Nat} (h : wU t a ≠ .no) : a < t.length := by
  unfold wU at h
  by_cases h1 : (zP t a).K = 2
  · exact uR (by rw [h1]; decide)
  rw [if_neg h1] at h
  by_cases h2 : (zP t a).K = 1
  · exact uR (by rw [h2]; decide)
  rw [if_neg h2] at h
  by_cases h3 : uA t a [116, 114, 117, 101] = true
  · exact z2K h3
  rw [if_neg h3] at h
  by_cases h3 : uA t a [102, 97, 108, 115, 101] = true
  · exact z2K h3
  rw [if_neg h3] at h
  by_cases h3 : uA t a [114, 101, 97, 100] = true
  · exact z2K h3
  rw [if_neg h3] at h
  by_cases h3 : uA t a [110, 101, 119] = true
  · exact z2K h3
  rw [if_neg h3] at h
  by_cases h3 : zY t a [40] = true
  · exact zT h3
  rw [if_neg h3] at h
  by_cases h3 : zY t a [91] = true
  · exact zT h3
  rw [if_neg h3] at h
  by_cases h3 : zY t a [64] = true
  · exact zT h3
  rw [if_neg h3] at h
  exact absurd rfl h
theorem z1s {t : List zC} {a o : Nat} {k : Int} {s : Str} {few : Bool} (h : wU t a = .call k s o few) : a < o ∧ o ≤ t.length := by
  have h0 := jP (t := t) (a := a) (by rw [h]; simp)
  unfold wU at h
  repeat' split at h
  all_goals first
    | (cases h; done)
    | (injection h with h1 h2 h3 h4; subst h3; rename_i q; have := uR (t := t) (a := a + 1) (by rw [q]; decide); omega)
    | (injection h with h1 h2 h3 h4; subst h3; omega)
theorem Der.inR {t : List zC} {c : Cat} {a : Nat} {r : Res} (h : Der t c a r) : a ≤ t.length → InR t c a r := by
  induction h with
  | un h1 _ ih =>
    intro _
    have ha : _ < t.length := h1.elim (fun h => zT h.2) (fun h => zT h.2)
    have := ih (by omega); simp only [InR] at this ⊢; omega
  | unB h1 _ ih =>
    intro _
    have ha : _ < t.length := h1.elim (fun h => zT h) (fun h => zT h)
    have := ih (by omega); simp only [InR] at this ⊢; omega
  | unP _ _ _ ih => intro h; exact ih h
  | @lev k a b x r h1 h2 _ _ ih1 ih2 =>
    intro h
    have q1 := ih1 h; simp only [InR] at q1
    have q2 := ih2 q1.2
    cases r <;> simp only [InR] at q2 ⊢ <;> omega
  | levB _ _ _ ih => intro h; exact ih h
  | llE _ _ => intro h; simp only [InR]; omega
  | @llG k m f a b x y r h1 h2 h3 _ _ ih1 ih2 =>
    intro h
    have ha := uR (t := t) (a := a) (by rw [z1U (by omega)]; decide)
    have q1 := ih1 (by omega); simp only [InR] at q1
    have q2 := ih2 q1.2
    cases r <;> simp only [InR] at q2 ⊢ <;> omega
  | @llB k m f a b x h1 h2 h3 _ ih1 =>
    intro h
    have ha := uR (t := t) (a := a) (by rw [z1U (by omega)]; decide)
    have q1 := ih1 (by omega); simp only [InR] at q1 ⊢; omega
  | @post a b x r _ _ ih1 ih2 =>
    intro h
    have q1 := ih1 h; simp only [InR] at q1
    have q2 := ih2 q1.2
    cases r <;> simp only [InR] at q2 ⊢ <;> omega
  | postB _ ih => intro h; exact ih h
  | plE _ _ => intro h; simp only [InR]; omega
  | @plI f a b x i r h1 _ h2 _ ih1 ih2 =>
    intro h
    have ha := zT h1
    have hb := zT h2
    have q1 := ih1 (by omega); simp only [InR] at q1
    have q2 := ih2 (by omega)
    cases r <;> simp only [InR] at q2 ⊢ <;> omega
  | plI1 h1 _ ih =>
    intro h
    have ha := zT h1
    have q1 := ih (by omega); simp only [InR] at q1 ⊢; omega
  | plI2 h1 _ _ ih =>
    intro h
    have ha := zT h1
    have q1 := ih (by omega); simp only [InR] at q1 ⊢; omega
  | @plF f a x r h0 h1 h2 _ ih =>
    intro h
    have ha := uR (t := t) (a := a + 1) (by rw [h2]; decide)
    have q2 := ih (by omega)
    cases r <;> simp only [InR] at q2 ⊢ <;> omega
  | plFB _ h1 _ => intro h; have := zT h1; simp only [InR]; omega
  | one h1 => intro h; have := jP (by rw [h1]; simp); simp only [InR]; omega
  | par h1 _ h2 ih =>
    intro h; have ha := jP (by rw [h1]; simp); have hb := zT h2
    have q1 := ih (by omega); simp only [InR] at q1 ⊢; omega
  | par1 h1 _ ih =>
    intro h; have ha := jP (by rw [h1]; simp)
    have q1 := ih (by omega); simp only [InR] at q1 ⊢; omega
  | par2 h1 _ _ ih =>
    intro h; have ha := jP (by rw [h1]; simp)
    have q1 := ih (by omega); simp only [InR] at q1 ⊢; omega
  | call h1 _ ih =>
    intro h; have ha := z1s h1
    have q1 := ih (by omega); simp only [InR] at q1 ⊢; omega
  | callB h1 _ ih =>
    intro h; have ha := z1s h1
    have q1 := ih (by omega); simp only [InR] at q1 ⊢; omega
  | lis h1 _ h2 ih =>
    intro h; have ha := jP (by rw [h1]; simp); have hb := zT h2
    have q1 := ih (by omega); simp only [InR] at q1 ⊢; omega
  | lis1 h1 _ ih =>
    intro h; have ha := jP (by rw [h1]; simp)
    have q1 := ih (by omega); simp only [InR] at q1 ⊢; omega
  | lis2 h1 _ _ ih =>
    intro h; have ha := jP (by rw [h1]; simp)
    have q1 := ih (by omega); simp only [InR] at q1 ⊢; omega
  | nm h1 => intro h; have ha := jP (by rw [h1]; simp); simp only [InR]; omega
  | no _ => intro h; simp only [InR]; omega
  | cls0 _ => intro h; simp only [InR]; omega
  | clsF h1 h2 => intro h; have ha := zT h2; simp only [InR]; omega
  | cls h1 _ _ h2 ih =>
    intro h; have ha := zT h1; have hb := zT h2
    have q1 := ih (by omega); simp only [InR] at q1 ⊢; omega
  | cls1 h1 _ _ ih =>
    intro h; have ha := zT h1
    have q1 := ih (by omega); simp only [InR] at q1 ⊢; omega
  | cls2 h1 _ _ _ ih =>
    intro h; have ha := zT h1
    have q1 := ih (by omega); simp only [InR] at q1 ⊢; omega
  | lstE _ _ ih => intro h; have q1 := ih h; simp only [InR] at q1 ⊢; omega
  | @lstG a b acc x r _ h2 _ ih1 ih2 =>
    intro h; have hb := zT h2
    have q1 := ih1 h; simp only [InR] at q1
    have q2 := ih2 (by omega)
    cases r <;> simp only [InR] at q2 ⊢ <;> omega
  | lstB _ ih => intro h; have q1 := ih h; simp only [InR] at q1 ⊢; omega
theorem y6J (t : List zC) : ∀ (d a : Nat), a + d = t.length → ∀ k, 1 ≤ k → k ≤ 6 → ∃ r, Der t (.lev k) a r := by
  intro d
  induction d using Nat.strongRecOn with
  | _ d IH =>
    intro a had
    have up : ∀ b, a < b → b ≤ t.length → ∀ k, 1 ≤ k → k ≤ 6 → ∃ r, Der t (.lev k) b r := fun b h1 h2 k hk1 hk2 => IH (t.length - b) (by omega) b (by omega) k hk1 hk2
    have lst : ∀ (n b : Nat) (acc : List zI), a < b → b + n = t.length → ∃ r, Der t (.lst acc) b r ∧ ∀ x c, r = .ok x c → ∃ l, x = lT l := by
      intro n
      induction n using Nat.strongRecOn with
      | _ n ihn =>
        intro b acc h1 h2
        obtain ⟨r, hr⟩ := up b h1 (by omega) 1 (by omega) (by omega)
        have q := hr.inR (by omega)
        cases r with
        | bad c => exact ⟨_, .lstB hr, fun _ _ h => by cases h⟩
        | ok x c =>
          simp only [InR] at q
          cases hs : zY t c [44] with
          | false => exact ⟨_, .lstE hr hs, fun _ _ h => by cases h; exact ⟨_, rfl⟩⟩
          | true =>
            have := zT hs
            obtain ⟨r, h3, h4⟩ := ihn (t.length - (c + 1)) (by omega) (c + 1) (acc ++ [x]) (by omega) (by omega)
            exact ⟨r, .lstG hr hs h3, h4⟩
    have cls : ∀ (b : Nat) (few : Bool), a < b → b ≤ t.length → ∃ r, Der t (.cls few) b r ∧ ∀ x c, r = .ok x c → ∃ l, x = lT l := by
      intro b few h1 h2
      cases hs : zY t b [40] with
      | false => exact ⟨_, .cls0 hs, fun _ _ h => by cases h⟩
      | true =>
        have hb := zT hs
        by_cases hf : few = true ∧ zY t (b + 1) [41] = true
        · obtain ⟨rfl, h⟩ := hf
          exact ⟨_, .clsF hs h, fun _ _ h => by cases h; exact ⟨_, rfl⟩⟩
        · have hf' : few = true → zY t (b + 1) [41] = false := fun h => by
            cases h1 : zY t (b + 1) [41] with
            | false => rfl
            | true => exact absurd ⟨h, h1⟩ hf
          obtain ⟨r, h3, h4⟩ := lst (t.length - (b + 1)) (b + 1) [] (by omega) (by omega)
          cases r with
          | bad c => exact ⟨_, .cls1 hs hf' h3, fun _ _ h => by cases h⟩
          | ok x c =>
            obtain ⟨l, rfl⟩ := h4 x c rfl
            cases hc : zY t c [41] with
            | true => exact ⟨_, .cls hs hf' h3 hc, fun _ _ h => by cases h; exact ⟨_, rfl⟩⟩
            | false => exact ⟨_, .cls2 hs hf' h3 hc, fun _ _ h => by cases h⟩
    have atom : ∃ r, Der t .atom a r := by
      cases hk : wU t a with
      | no => exact ⟨_, .no hk⟩
      | nm => exact ⟨_, .nm hk⟩
      | one k n s => exact ⟨_, .one hk⟩
      | paren =>
        have ha := jP (t := t) (a := a) (by rw [hk]; simp)
        obtain ⟨r, hr⟩ := up (a + 1) (by omega) (by omega) 1 (by omega) (by omega)
        cases r with
        | bad c => exact ⟨_, .par1 hk hr⟩
        | ok x c =>
          cases hc : zY t c [41] with
          | true => exact ⟨_, .par hk hr hc⟩
          | false => exact ⟨_, .par2 hk hr hc⟩
      | call k s o few =>
        have ha := z1s hk
        obtain ⟨r, h3, h4⟩ := cls o few ha.1 ha.2
        cases r with
        | bad c => exact ⟨_, .callB hk h3⟩
        | ok x c =>
          obtain ⟨l, rfl⟩ := h4 x c rfl
          exact ⟨_, .call hk h3⟩
      | lis =>
        have ha := jP (t := t) (a := a) (by rw [hk]; simp)
        obtain ⟨r, h3, h4⟩ := lst (t.length - (a + 1)) (a + 1) [] (by omega) (by omega)
        cases r with
        | bad c => exact ⟨_, .lis1 hk h3⟩
        | ok x c =>
          obtain ⟨l, rfl⟩ := h4 x c rfl
          cases hc : zY t c [93] with
          | true => exact ⟨_, .lis hk h3 hc⟩
          | false => exact ⟨_, .lis2 hk h3 hc⟩
    have pl : ∀ (n b : Nat) (x : zI), a < b → b + n = t.length → ∃ r, Der t (.pl a x) b r := by
      intro n
      induction n using Nat.strongRecOn with
      | _ n ihn =>
        intro b x h1 h2
        cases hs : zY t b [91] with
        | true =>
          have hb := zT hs
          obtain ⟨r, hr⟩ := up (b + 1) (by omega) (by omega) 1 (by omega) (by omega)
          have q := hr.inR (by omega)
          cases r with
          | bad c => exact ⟨_, .plI1 hs hr⟩
          | ok i c =>
            simp only [InR] at q
            cases hc : zY t c [93] with
            | false => exact ⟨_, .plI2 hs hr hc⟩
            | true =>
              have := zT hc
              obtain ⟨r, h3⟩ := ihn (t.length - (c + 1)) (by omega) (c + 1) _ (by omega) (by omega)
              exact ⟨r, .plI hs hr hc h3⟩
        | false =>
          cases hd : zY t b [46] with
          | false => exact ⟨_, .plE hs hd⟩
          | true =>
            by_cases hk : (zP t (b + 1)).K = 1
            · have := uR (t := t) (a := b + 1) (by rw [hk]; decide)
              obtain ⟨r, h3⟩ := ihn (t.length - (b + 2)) (by omega) (b + 2) _ (by omega) (by omega)
              exact ⟨r, .plF hs hd hk h3⟩
            · exact ⟨_, .plFB hs hd hk⟩
    have post : ∃ r, Der t .post a r := by
      obtain ⟨r, hr⟩ := atom
      have q := hr.inR (by omega)
      cases r with
      | bad c => exact ⟨_, .postB hr⟩
      | ok x c =>
        simp only [InR] at q
        obtain ⟨r, h3⟩ := pl (t.length - c) c x (by omega) (by omega)
        exact ⟨r, .post hr h3⟩
    have un : ∃ r, Der t (.lev 6) a r := by
      by_cases hs : zY t a [45] = true ∨ zY t a [33] = true
      · have ha : a < t.length := hs.elim zT zT
        obtain ⟨r, hr⟩ := up (a + 1) (by omega) (by omega) 6 (by omega) (by omega)
        cases r with
        | bad c => exact ⟨_, .unB hs hr⟩
        | ok x c =>
          rcases hs with hs | hs
          · exact ⟨_, .un (n := 1) (.inl ⟨rfl, hs⟩) hr⟩
          · exact ⟨_, .un (n := 2) (.inr ⟨rfl, hs⟩) hr⟩
      · have h1 : zY t a [45] = false := by cases h : zY t a [45] <;> simp_all
        have h2 : zY t a [33] = false := by cases h : zY t a [33] <;> simp_all
        obtain ⟨r, hr⟩ := post
        exact ⟨r, .unP h1 h2 hr⟩
    have ll : ∀ (n b k m : Nat) (x : zI), a < b → b + n = t.length → 1 ≤ k → k ≤ 5 → ∃ r, Der t (.ll k m a x) b r := by
      intro n
      induction n using Nat.strongRecOn with
      | _ n ihn =>
        intro b k m x h1 h2 hk1 hk2
        by_cases ho : (z3u (zP t b)).2 ≠ k ∨ (k = 3 ∧ m = 1)
        · exact ⟨_, .llE hk1 ho⟩
        · have ho1 : (z3u (zP t b)).2 = k := by
            by_cases h : (z3u (zP t b)).2 = k
            · exact h
            · exact absurd (.inl h) ho
          have ho2 : ¬ (k = 3 ∧ m = 1) := fun h => ho (.inr h)
          have hb := uR (t := t) (a := b) (by rw [z1U (by omega)]; decide)
          obtain ⟨r, hr⟩ := up (b + 1) (by omega) (by omega) (k + 1) (by omega) (by omega)
          have q := hr.inR (by omega)
          cases r with
          | bad c => exact ⟨_, .llB hk1 ho1 ho2 hr⟩
          | ok y c =>
            simp only [InR] at q
            obtain ⟨r, h3⟩ := ihn (t.length - c) (by omega) c k (m + 1) _ (by omega) (by omega) hk1 hk2
            exact ⟨r, .llG hk1 ho1 ho2 hr h3⟩
    have y5q : ∀ j, j ≤ 5 → ∃ r, Der t (.lev (6 - j)) a r := by
      intro j
      induction j with
      | zero => intro _; exact un
      | succ j ih =>
        intro hj
        obtain ⟨r, hr⟩ := ih (by omega)
        rw [show 6 - j = (6 - (j + 1)) + 1 by omega] at hr
        have q := hr.inR (by omega)
        cases r with
        | bad c => exact ⟨_, .levB (by omega) (by omega) hr⟩
        | ok x c =>
          simp only [InR] at q
          obtain ⟨r, h3⟩ := ll (t.length - c) c (6 - (j + 1)) 0 x (by omega) (by omega) (by omega) (by omega)
          exact ⟨r, .lev (by omega) (by omega) hr h3⟩
    intro k hk1 hk2
    have := y5q (6 - k) (by omega)
    rwa [show 6 - (6 - k) = k by omega] at this
theorem wZ {t : List zC} (hl : t.length ≤ 1048576) {a : Nat} (h : a ≤ t.length + 3) : IntKind.wrap .i64 ((a : Int) + 1) = ((a + 1 : Nat) : Int) := by rw [uS (by omega) (by omega)]; omega
theorem z6A {t : List zC} (hl : t.length ≤ 1048576) {a : Nat} (h : a ≤ t.length + 3) : IntKind.wrap .i64 ((a : Int) + 2) = ((a + 2 : Nat) : Int) := by rw [uS (by omega) (by omega)]; omega
theorem z9L {t : List zC} {a : Nat} {s : Str} (h : zY t a s = true) : (zP t a).K = 4 ∧ (zP t a).S = s := by
  unfold zY at h
  simpa using h
theorem y1n {t : List zC} {a : Nat} {s : Str} (h : uA t a s = true) : (zP t a).K = 3 ∧ (zP t a).S = s := by
  unfold uA at h
  simpa using h
theorem z7M {t : List zC} {a : Nat} (h : (zP t a).K ≠ 4) (s : Str) : zY t a s = false := by unfold zY; rw [decide_eq_false h]; rfl
theorem z7V {t : List zC} {a : Nat} (h : (zP t a).K ≠ 3) (s : Str) : uA t a s = false := by unfold uA; rw [decide_eq_false h]; rfl
theorem z5q {t : List zC} {a : Nat} {s s' : Str} (h : zY t a s = true) (hs : s ≠ s') : zY t a s' = false := by
  unfold zY; rw [(z9L h).2]; simp [hs]
theorem z2S {t : List zC} {a : Nat} {s s' : Str} (h : uA t a s = true) (hs : s ≠ s') : uA t a s' = false := by
  unfold uA; rw [(y1n h).2]; simp [hs]
theorem y4Y (s : Str) : s = [124, 124] ∨ s = [38, 38] ∨ s = [61, 61] ∨ s = [33, 61] ∨ s = [60] ∨ s = [60, 61] ∨ s = [62] ∨ s = [62, 61] ∨ s = [43] ∨ s = [45] ∨ s = [42] ∨ s = [47] ∨ s = [37] ∨
    (s ≠ [124, 124] ∧ s ≠ [38, 38] ∧ s ≠ [61, 61] ∧ s ≠ [33, 61] ∧ s ≠ [60] ∧ s ≠ [60, 61] ∧ s ≠ [62] ∧ s ≠ [62, 61] ∧ s ≠ [43] ∧ s ≠ [45] ∧ s ≠ [42] ∧ s ≠ [47] ∧ s ≠ [37]) := by
  by_cases h : s ∈ ([[124, 124], [38, 38], [61, 61], [33, 61], [60], [60, 61], [62], [62, 61], [43], [45], [42], [47], [37]] : List Str)
  · simp only [List.mem_cons, List.not_mem_nil, or_false] at h
    rcases h with h | h | h | h | h | h | h | h | h | h | h | h | h <;> simp [h]
  · simp only [List.mem_cons, List.not_mem_nil, or_false, not_or] at h
    simp only [h, false_or]
    exact h
theorem y2M {x : zC} (h : 1 ≤ (z3u x).2) : (z3u x).1 ≠ 0 := by
  have hk := z1U (x := x) (by omega)
  unfold z3u at h ⊢
  rcases y4Y x.S with e | e | e | e | e | e | e | e | e | e | e | e | e | ⟨e1, e2, e3, e4, e5, e6, e7, e8, e9, e10, e11, e12, e13⟩
  case inr.inr.inr.inr.inr.inr.inr.inr.inr.inr.inr.inr.inr => simp [hk, e1, e2, e3, e4, e5, e6, e7, e8, e9, e10, e11, e12, e13] at h
  all_goals (simp only [hk, e]; decide)
theorem y6t {n : Nat} (h : n ≤ 1048577) : z2r 72 n := by unfold z2r; omega
theorem z0G {t : List zC} {a : Nat} (h : wU t a = .paren) : zY t a [40] = true := by
  unfold wU at h
  repeat' split at h
  all_goals first | (cases h; done) | assumption
theorem y3U {t : List zC} {a : Nat} (h : wU t a = .lis) : zY t a [91] = true := by
  unfold wU at h
  repeat' split at h
  all_goals first | (cases h; done) | assumption
theorem y1x {t : List zC} {a o : Nat} {k : Int} {s : Str} {few : Bool} (h : wU t a = .call k s o few) :
    (k = 16 ∧ s = (zP t a).S ∧ o = a + 1 ∧ few = true ∧ (zP t a).K = 1 ∧ zY t (a + 1) [40] = true) ∨ (k = 15 ∧ s = (zP t (a + 1)).S ∧ o = a + 2 ∧ few = false ∧ uA t a [110, 101, 119] = true ∧ (zP t (a + 1)).K = 1) ∨
    (k = 17 ∧ s = (zP t (a + 1)).S ∧ o = a + 2 ∧ few = true ∧ zY t a [64] = true ∧ (zP t (a + 1)).K = 1) := by
  unfold wU at h
  repeat' split at h
  all_goals first
    | (cases h; done)
    | (injection h with e1 e2 e3 e4; subst e1; subst e2; subst e3; subst e4
       first
       | exact .inl ⟨rfl, rfl, rfl, rfl, by assumption, by assumption⟩
       | exact .inr (.inl ⟨rfl, rfl, rfl, rfl, by assumption, by assumption⟩)
       | exact .inr (.inr ⟨rfl, rfl, rfl, rfl, by assumption, by assumption⟩))
theorem y5x {t : List zC} {a : Nat} (h : wU t a = .nm) : (uA t a [110, 101, 119] = true ∨ zY t a [64] = true) ∧ (zP t (a + 1)).K ≠ 1 := by
  unfold wU at h
  repeat' split at h
  all_goals first
    | (cases h; done)
    | exact ⟨.inl (by assumption), by assumption⟩
    | exact ⟨.inr (by assumption), by assumption⟩
theorem y5y {t : List zC} {a : Nat} (h : wU t a = .no) : (zP t a).K ≠ 2 ∧ (zP t a).K ≠ 1 ∧ uA t a [116, 114, 117, 101] = false ∧ uA t a [102, 97, 108, 115, 101] = false ∧ uA t a [114, 101, 97, 100] = false ∧ uA t a [110, 101, 119] = false ∧
    zY t a [40] = false ∧ zY t a [91] = false ∧ zY t a [64] = false := by
  unfold wU at h
  repeat' split at h
  all_goals first
    | (cases h; done)
    | (refine ⟨by assumption, by assumption, ?_, ?_, ?_, ?_, ?_, ?_, ?_⟩ <;> (first | (apply Bool.eq_false_iff.2; assumption)))
def z1c (n : Int) : Nat := if n = 1 then 1 else if n = 2 then 2 else if n ≤ 8 then 3 else if n ≤ 10 then 4 else 5
def y1o (n : Int) : Str :=
  if n = 1 then [124, 124] else if n = 2 then [38, 38] else if n = 3 then [61, 61] else if n = 4 then [33, 61] else if n = 5 then [60] else if n = 6 then [60, 61] else if n = 7 then [62] else if n = 8 then [62, 61]
  else if n = 9 then [43] else if n = 10 then [45] else if n = 11 then [42] else if n = 12 then [47] else [37]
def bnd (t : zI) : Nat := if t.K = 10 then z1c t.N else if t.K = 11 then 6 else 7
def hw (least : Nat) (x : zI) (w : List Str) : List Str := if least ≤ bnd x then w else [[40]] ++ w ++ [[41]]
def z4K (n : Int) : Nat := if z1c n = 3 then 4 else z1c n
def z2U (k : Int) (s : Str) : List Str := if k = 16 then [s] else if k = 17 then [[64], s] else [[110, 101, 119], s]
abbrev Nm (s : Str) : Prop := Tok 1 0 s s
inductive XC where
  | ex (x : zI)
  | ls (l : List zI)
inductive PR : XC → List Str → Prop
  | num {n : Nat} {F T : Int} : n ≤ 9223372036854775807 → Tok 2 n [] (z7g n) → PR (.ex ⟨5, (n : Int), [], [], F, T⟩) [z7g n]
  | tru {F T : Int} : PR (.ex ⟨6, 1, [], [], F, T⟩) [[116, 114, 117, 101]]
  | fal {F T : Int} : PR (.ex ⟨6, 0, [], [], F, T⟩) [[102, 97, 108, 115, 101]]
  | rd {F T : Int} : PR (.ex ⟨18, 0, [], [], F, T⟩) [[114, 101, 97, 100]]
  | name {s : Str} {F T : Int} : Nm s → PR (.ex ⟨19, 0, s, [], F, T⟩) [s]
  | bin {n : Int} {x y : zI} {wx wy : List Str} {F T : Int} : 1 ≤ n → n ≤ 13 → PR (.ex x) wx → PR (.ex y) wy → PR (.ex ⟨10, n, [], [x, y], F, T⟩) (hw (z4K n) x wx ++ [y1o n] ++ hw (z1c n + 1) y wy)
  | neg {x : zI} {wx : List Str} {F T : Int} : PR (.ex x) wx → PR (.ex ⟨11, 1, [], [x], F, T⟩) ([[45]] ++ hw 6 x wx)
  | not {x : zI} {wx : List Str} {F T : Int} : PR (.ex x) wx → PR (.ex ⟨11, 2, [], [x], F, T⟩) ([[33]] ++ hw 6 x wx)
  | index {x i : zI} {wx wi : List Str} {F T : Int} : PR (.ex x) wx → PR (.ex i) wi → PR (.ex ⟨12, 0, [], [x, i], F, T⟩) (hw 7 x wx ++ [[91]] ++ wi ++ [[93]])
  | field {s : Str} {x : zI} {wx : List Str} {F T : Int} : Nm s → PR (.ex x) wx → PR (.ex ⟨13, 0, s, [x], F, T⟩) (hw 7 x wx ++ [[46], s])
  | lis {l : List zI} {w : List Str} {F T : Int} : PR (.ls l) w → PR (.ex ⟨14, 0, [], l, F, T⟩) ([[91]] ++ w ++ [[93]])
  | call {k : Int} {s : Str} {l : List zI} {w : List Str} {F T : Int} : k = 15 ∨ k = 16 ∨ k = 17 → Nm s → PR (.ls l) w → PR (.ex ⟨k, 0, s, l, F, T⟩) (z2U k s ++ [[40]] ++ w ++ [[41]])
  | call0 {k : Int} {s : Str} {F T : Int} : k = 16 ∨ k = 17 → Nm s → PR (.ex ⟨k, 0, s, [], F, T⟩) (z2U k s ++ [[40]] ++ [] ++ [[41]])
  | one {x : zI} {w : List Str} : PR (.ex x) w → PR (.ls [x]) w
  | cons {x : zI} {l : List zI} {w wl : List Str} : PR (.ex x) w → PR (.ls l) wl → PR (.ls (x :: l)) (w ++ [[44]] ++ wl)
def szw : List Str → Nat
  | [] => 0
  | w :: r => w.length + 1 + szw r
theorem zG (a b : List Str) : szw (a ++ b) = szw a + szw b := by
  induction a with
  | nil => simp [szw]
  | cons x r ih => simp [szw, ih]; omega
theorem y1h (k : Nat) (x : zI) (w : List Str) : szw (hw k x w) ≤ szw w + 4 := by
  unfold hw; split
  · omega
  · rw [zG, zG]; simp [szw]; omega
theorem y5Y {x : zC} (h : (z3u x).2 ≠ 0) : 1 ≤ (z3u x).1 ∧ (z3u x).1 ≤ 13 ∧ y1o (z3u x).1 = x.S ∧ z1c (z3u x).1 = (z3u x).2 := by
  have hk := z1U h
  unfold z3u at h ⊢
  rw [if_pos hk] at h ⊢
  by_cases c0 : x.S = [124, 124]
  · rw [if_pos c0, c0]; exact ⟨by decide, by decide, rfl, rfl⟩
  rw [if_neg c0] at h ⊢
  by_cases c1 : x.S = [38, 38]
  · rw [if_pos c1, c1]; exact ⟨by decide, by decide, rfl, rfl⟩
  rw [if_neg c1] at h ⊢
  by_cases c2 : x.S = [61, 61]
  · rw [if_pos c2, c2]; exact ⟨by decide, by decide, rfl, rfl⟩
  rw [if_neg c2] at h ⊢
  by_cases c3 : x.S = [33, 61]
  · rw [if_pos c3, c3]; exact ⟨by decide, by decide, rfl, rfl⟩
  rw [if_neg c3] at h ⊢
  by_cases c4 : x.S = [60]
  · rw [if_pos c4, c4]; exact ⟨by decide, by decide, rfl, rfl⟩
  rw [if_neg c4] at h ⊢
  by_cases c5 : x.S = [60, 61]
  · rw [if_pos c5, c5]; exact ⟨by decide, by decide, rfl, rfl⟩
  rw [if_neg c5] at h ⊢
  by_cases c6 : x.S = [62]
  · rw [if_pos c6, c6]; exact ⟨by decide, by decide, rfl, rfl⟩
  rw [if_neg c6] at h ⊢
  by_cases c7 : x.S = [62, 61]
  · rw [if_pos c7, c7]; exact ⟨by decide, by decide, rfl, rfl⟩
  rw [if_neg c7] at h ⊢
  by_cases c8 : x.S = [43]
  · rw [if_pos c8, c8]; exact ⟨by decide, by decide, rfl, rfl⟩
  rw [if_neg c8] at h ⊢
  by_cases c9 : x.S = [45]
  · rw [if_pos c9, c9]; exact ⟨by decide, by decide, rfl, rfl⟩
  rw [if_neg c9] at h ⊢
  by_cases c10 : x.S = [42]
  · rw [if_pos c10, c10]; exact ⟨by decide, by decide, rfl, rfl⟩
  rw [if_neg c10] at h ⊢
  by_cases c11 : x.S = [47]
  · rw [if_pos c11, c11]; exact ⟨by decide, by decide, rfl, rfl⟩
  rw [if_neg c11] at h ⊢
  by_cases c12 : x.S = [37]
  · rw [if_pos c12, c12]; exact ⟨by decide, by decide, rfl, rfl⟩
  rw [if_neg c12] at h ⊢
  exact absurd rfl h
theorem y3C {n : Int} (h1 : 1 ≤ n) (h2 : n ≤ 13) : n = 1 ∨ n = 2 ∨ n = 3 ∨ n = 4 ∨ n = 5 ∨ n = 6 ∨ n = 7 ∨ n = 8 ∨ n = 9 ∨ n = 10 ∨ n = 11 ∨ n = 12 ∨ n = 13 := by omega
theorem y2O {n : Int} (h1 : 1 ≤ n) (h2 : n ≤ 13) : z2k n = some (y1o n, (z1c n : Int)) := by
  rcases y3C h1 h2 with rfl | rfl | rfl | rfl | rfl | rfl | rfl | rfl | rfl | rfl | rfl | rfl | rfl <;> rfl
theorem z4f (n : Int) : 1 ≤ z1c n ∧ z1c n ≤ 5 := by unfold z1c; (repeat' split) <;> omega
theorem z5j {c : XC} {w : List Str} (h : PR c w) : w ≠ [] := by
  induction h <;> simp_all [hw] <;> (try split) <;> simp_all
theorem y7r {c : XC} {w : List Str} (h : PR c w) : match c with | .ex x => jQ x = some (bnd x : Int) | .ls _ => True := by
  cases h with
  | bin h1 h2 _ _ => 
    show jQ _ = _
    unfold jQ
    rw [if_pos rfl, y2O h1 h2, zA]; rfl
  | call h _ _ => rcases h with rfl | rfl | rfl <;> rfl
  | call0 h _ => rcases h with rfl | rfl <;> rfl
  | one _ => trivial
  | cons _ _ => trivial
  | _ => rfl
theorem z2D (w : List Str) : w.length ≤ szw w := by
  induction w with
  | nil => simp
  | cons x r ih => simp [szw]; omega
theorem uD (ws out : List Str) (h : szw out + szw ws ≤ 1000000000) : zE ws out = some (out ++ ws) := by
  have h1 := z2D ws
  have h2 := z2D out
  unfold zE
  rw [if_pos (by unfold z2r; omega)]
theorem y4G (K N : Int) (S : Str) (x : zI) (r : List zI) (F T : Int) : vY ⟨K, N, S, x :: r, F, T⟩ 0 = some x := by
  unfold vY
  rw [if_pos (by simp only [List.length_cons]; omega)]; rfl
theorem y7B (K N : Int) (S : Str) (x y : zI) (r : List zI) (F T : Int) : vY ⟨K, N, S, x :: y :: r, F, T⟩ 1 = some y := by
  unfold vY
  rw [if_pos (by simp only [List.length_cons]; omega)]; rfl
theorem z5E {x : zI} {w : List Str} (hp : PR (.ex x) w) (hx : ∀ out, szw out + szw w ≤ 1000000000 → print_writer_expr x out = some (out ++ w)) (least : Nat) (out : List Str) (h : szw out + szw (hw least x w) ≤ 1000000000) : print_writer_held x (least : Int) out = some (out ++ hw least x w) := by
  have hb : jQ x = some (bnd x : Int) := y7r hp
  rw [z3U]; unfold wM
  rw [hb, zA]
  unfold hw at h ⊢
  by_cases hc : least ≤ bnd x
  · rw [if_pos hc] at h ⊢
    rw [if_pos (show (bnd x : Int) ≥ (least : Int) by omega), hx out h]; rfl
  · rw [if_neg hc] at h ⊢
    rw [zG, zG] at h
    simp only [szw, List.length_cons, List.length_nil] at h
    rw [if_neg (show ¬ (bnd x : Int) ≥ (least : Int) by omega), uD _ _ (by simp only [szw, List.length_cons, List.length_nil]; omega), zA, hx _ (by rw [zG]; simp only [szw, List.length_cons, List.length_nil]; omega), zA, uD _ _ (by rw [zG, zG]; simp only [szw, List.length_cons, List.length_nil]; omega), zA]
    simp
def y6e (i : Nat) (w : List Str) : List Str := if i = 0 then w else [[44]] ++ w
def PPM : XC → List Str → Prop
  | .ex x, w => ∀ out, szw out + szw w ≤ 1000000000 → print_writer_expr x out = some (out ++ w)
  | .ls l, w => ∀ (L : List zI) (i : Nat) (out : List Str), L.drop i = l → L.length ≤ 1000000000 → szw out + szw (y6e i w) ≤ 1000000000 → print_writer_list_writer_expr_L1 L (L.length : Int) (i : Int) out = some (out ++ y6e i w)
theorem y6m (L : List zI) (out : List Str) (i : Nat) (h : L.length ≤ i) : print_writer_list_writer_expr_L1 L (L.length : Int) (i : Int) out = some out := by
  rw [uH]; unfold yB
  rw [if_neg (by omega)]
theorem y3M {L l : List zI} {i : Nat} {x : zI} {w : List Str} (hL : L.length ≤ 1000000000) (hx : ∀ out, szw out + szw w ≤ 1000000000 → print_writer_expr x out = some (out ++ w)) (h : L.drop i = x :: l) (out : List Str) (hs : szw out + szw (y6e i w) ≤ 1000000000) :
    print_writer_list_writer_expr_L1 L (L.length : Int) (i : Int) out = print_writer_list_writer_expr_L1 L (L.length : Int) ((i + 1 : Nat) : Int) (out ++ y6e i w) ∧ L.drop (i + 1) = l := by
  have hlt : i < L.length := by
    have := congrArg List.length h
    rw [List.length_drop, List.length_cons] at this; omega
  have hd := List.drop_eq_getElem_cons hlt
  rw [h] at hd
  injection hd with e1 e2
  refine ⟨?_, e2.symm⟩
  conv => lhs; rw [uH]
  unfold yB
  unfold y6e at hs ⊢
  rw [if_pos (by omega), gV hlt, zA, ← e1]
  by_cases hi : i = 0
  · rw [if_pos hi] at hs ⊢
    rw [if_neg (by omega), hx out hs, zA, uS (by omega) (by omega), wR]
  · rw [if_neg hi] at hs ⊢
    rw [zG] at hs
    simp only [szw, List.length_cons, List.length_nil] at hs
    rw [if_pos (by omega), uD _ _ (by simp only [szw, List.length_cons, List.length_nil]; omega), zA, hx _ (by rw [zG]; simp only [szw, List.length_cons, List.length_nil]; omega), zA, uS (by omega) (by omega), wR, List.append_assoc]
theorem z8W {l : List zI} {w : List Str} (hp : PR (.ls l) w) (ih : PPM (.ls l) w) (hl : l.length ≤ 1000000000) (out : List Str) (h : szw out + szw w ≤ 1000000000) : print_writer_list_writer_expr l out = some (out ++ w) := by
  rw [jD]; unfold yJ
  have := ih l 0 out (by simp) hl h
  exact this
theorem z6w (out : List Str) : print_writer_list_writer_expr [] out = some out := by
  rw [jD]; unfold yJ
  exact y6m [] out 0 (by simp)
def y7M : XC → List Str → Prop
  | .ex _, _ => True
  | .ls l, w => l.length ≤ w.length
theorem y2J {c : XC} {w : List Str} (h : PR c w) : y7M c w := by
  induction h with
  | @one x w h _ =>
    have := z5j h
    show [x].length ≤ w.length
    cases w with
    | nil => exact absurd rfl this
    | cons _ _ => simp
  | @cons x l w wl h1 h2 _ ih =>
    have h3 : l.length ≤ wl.length := ih
    show (x :: l).length ≤ (w ++ [[44]] ++ wl).length
    simp; omega
  | _ => trivial
theorem y6b {c : XC} {w : List Str} (h : PR c w) : PPM c w := by
  induction h with
  | @num n F T h1 h2 =>
    intro out ho
    rw [yE]; unfold zO; dsimp only
    rw [if_pos rfl, y3X _ (by show _ ∧ _; omega), zA, if_neg (show ¬ ((n : Int) < 0) by omega), List.nil_append, show ((n : Int)).natAbs = n by omega, uD _ _ ho]; rfl
  | tru => intro out ho; rw [yE]; unfold zO; dsimp only; rw [if_neg (by decide), if_pos rfl, if_pos rfl, uD _ _ ho]; rfl
  | fal => intro out ho; rw [yE]; unfold zO; dsimp only; rw [if_neg (by decide), if_pos rfl, if_neg (by decide), uD _ _ ho]; rfl
  | rd => intro out ho; rw [yE]; unfold zO; dsimp only; rw [if_neg (by decide), if_neg (by decide), if_pos rfl, uD _ _ ho]; rfl
  | name _ => intro out ho; rw [yE]; unfold zO; dsimp only; rw [if_neg (by decide), if_neg (by decide), if_neg (by decide), if_pos rfl, uD _ _ ho]; rfl
  | @bin n x y wx wy F T h1 h2 p1 p2 ih1 ih2 =>
    intro out ho
    rw [zG, zG] at ho
    have hl := z4f n
    have e2 := ih2
    rw [yE]; unfold zO; dsimp only
    rw [if_neg (by decide), if_neg (by decide), if_neg (by decide), if_neg (by decide), if_pos rfl, y2O h1 h2, zA]
    dsimp only
    have step : ∀ lf : Nat, lf = z4K n → (vY ⟨10, n, [], [x, y], F, T⟩ 0 >>= fun q8 => print_writer_held q8 (lf : Int) out >>= fun q9 => zE [y1o n] q9 >>= fun q10 => vY ⟨10, n, [], [x, y], F, T⟩ 1 >>= fun q11 => print_writer_held q11 (IntKind.wrap .i64 ((z1c n : Int) + 1)) q10 >>= fun q12 => some (q12)) = some (out ++ (hw (z4K n) x wx ++ [y1o n] ++ hw (z1c n + 1) y wy)) := fun lf e => by
      rw [y4G, zA, e, z5E p1 ih1 _ _ (by omega), zA, uD _ _ (by rw [zG]; omega), zA, y7B, zA, uS (by omega) (by omega), show (z1c n : Int) + 1 = ((z1c n + 1 : Nat) : Int) by omega, z5E p2 ih2 _ _ (by rw [zG, zG]; omega), zA]
      simp
    by_cases h3 : z1c n = 3
    · rw [if_pos (show (z1c n : Int) = 3 by omega)]
      exact step 4 (by unfold z4K; rw [if_pos h3])
    · rw [if_neg (show ¬ (z1c n : Int) = 3 by omega)]
      exact step (z1c n) (by unfold z4K; rw [if_neg h3])
  | @neg x wx F T p1 ih1 =>
    intro out ho
    rw [zG] at ho
    rw [yE]; unfold zO; dsimp only
    rw [if_neg (by decide), if_neg (by decide), if_neg (by decide), if_neg (by decide), if_neg (by decide), if_pos rfl, if_pos rfl, uD _ _ (by omega), zA, y4G, zA, show (6 : Int) = ((6 : Nat) : Int) from rfl, z5E p1 ih1 _ _ (by rw [zG]; omega), zA]
    simp
  | @not x wx F T p1 ih1 =>
    intro out ho
    rw [zG] at ho
    rw [yE]; unfold zO; dsimp only
    rw [if_neg (by decide), if_neg (by decide), if_neg (by decide), if_neg (by decide), if_neg (by decide), if_pos rfl, if_neg (by decide), uD _ _ (by omega), zA, y4G, zA, show (6 : Int) = ((6 : Nat) : Int) from rfl, z5E p1 ih1 _ _ (by rw [zG]; omega), zA]
    simp
  | @index x i wx wi F T p1 p2 ih1 ih2 =>
    intro out ho
    rw [zG, zG, zG] at ho
    rw [yE]; unfold zO; dsimp only
    rw [if_neg (by decide), if_neg (by decide), if_neg (by decide), if_neg (by decide), if_neg (by decide), if_neg (by decide), vF]; unfold zW; dsimp only
    rw [if_pos rfl, y4G, zA, show (7 : Int) = ((7 : Nat) : Int) from rfl, z5E p1 ih1 _ _ (by omega), zA, uD _ _ (by rw [zG]; omega), zA, y7B, zA, ih2 _ (by rw [zG, zG]; omega), zA, uD _ _ (by rw [zG, zG, zG]; omega), zA, zA]
    simp
  | @field s x wx F T p0 p1 ih1 =>
    intro out ho
    rw [zG] at ho
    rw [yE]; unfold zO; dsimp only
    rw [if_neg (by decide), if_neg (by decide), if_neg (by decide), if_neg (by decide), if_neg (by decide), if_neg (by decide), vF]; unfold zW; dsimp only
    rw [if_neg (by decide), if_pos rfl, y4G, zA, show (7 : Int) = ((7 : Nat) : Int) from rfl, z5E p1 ih1 _ _ (by omega), zA, uD _ _ (by rw [zG]; omega), zA, zA]
    simp
  | @lis l w F T p1 ih1 =>
    intro out ho
    rw [zG, zG] at ho
    have hl : l.length ≤ w.length := y2J p1
    have hw1 := z2D w
    rw [yE]; unfold zO; dsimp only
    rw [if_neg (by decide), if_neg (by decide), if_neg (by decide), if_neg (by decide), if_neg (by decide), if_neg (by decide), vF]; unfold zW; dsimp only
    rw [if_neg (by decide), if_neg (by decide), if_pos rfl, uD _ _ (by omega), zA, z8W p1 ih1 (by omega) _ (by rw [zG]; omega), zA, uD _ _ (by rw [zG, zG]; omega), zA, zA]
    simp
  | @call k s l w F T hk p0 p1 ih1 =>
    intro out ho
    rw [zG, zG, zG] at ho
    have hl : l.length ≤ w.length := y2J p1
    have hw1 := z2D w
    rw [yE]; unfold zO
    rcases hk with rfl | rfl | rfl
    · have ho' : szw out + (szw [[110, 101, 119], s] + szw [[40]] + szw w + szw [[41]]) ≤ 1000000000 := ho
      dsimp only
      rw [if_neg (by decide), if_neg (by decide), if_neg (by decide), if_neg (by decide), if_neg (by decide), if_neg (by decide), vF]; unfold zW; dsimp only
      rw [if_neg (by decide), if_neg (by decide), if_neg (by decide), if_neg (by decide), if_neg (by decide), if_pos rfl, uD _ _ (by omega), zA, uD _ _ (by rw [zG]; omega), zA, z8W p1 ih1 (by omega) _ (by rw [zG, zG]; omega), zA, uD _ _ (by rw [zG, zG, zG]; omega), zA, zA]
      simp [z2U]
    · have ho' : szw out + (szw [s] + szw [[40]] + szw w + szw [[41]]) ≤ 1000000000 := ho
      dsimp only
      rw [if_neg (by decide), if_neg (by decide), if_neg (by decide), if_neg (by decide), if_neg (by decide), if_neg (by decide), vF]; unfold zW; dsimp only
      rw [if_neg (by decide), if_neg (by decide), if_neg (by decide), if_pos rfl, uD _ _ (by omega), zA, uD _ _ (by rw [zG]; omega), zA, z8W p1 ih1 (by omega) _ (by rw [zG, zG]; omega), zA, uD _ _ (by rw [zG, zG, zG]; omega), zA, zA]
      simp [z2U]
    · have ho' : szw out + (szw [[64], s] + szw [[40]] + szw w + szw [[41]]) ≤ 1000000000 := ho
      dsimp only
      rw [if_neg (by decide), if_neg (by decide), if_neg (by decide), if_neg (by decide), if_neg (by decide), if_neg (by decide), vF]; unfold zW; dsimp only
      rw [if_neg (by decide), if_neg (by decide), if_neg (by decide), if_neg (by decide), if_pos rfl, uD _ _ (by omega), zA, uD _ _ (by rw [zG]; omega), zA, z8W p1 ih1 (by omega) _ (by rw [zG, zG]; omega), zA, uD _ _ (by rw [zG, zG, zG]; omega), zA, zA]
      simp [z2U]
  | @call0 k s F T hk p0 =>
    intro out ho
    rw [zG, zG, zG] at ho
    simp only [szw] at ho
    rw [yE]; unfold zO
    rcases hk with rfl | rfl
    · have ho' : szw out + (szw [s] + szw [[40]] + 0 + szw [[41]]) ≤ 1000000000 := ho
      dsimp only
      rw [if_neg (by decide), if_neg (by decide), if_neg (by decide), if_neg (by decide), if_neg (by decide), if_neg (by decide), vF]; unfold zW; dsimp only
      rw [if_neg (by decide), if_neg (by decide), if_neg (by decide), if_pos rfl, uD _ _ (by omega), zA, uD _ _ (by rw [zG]; omega), zA, z6w, zA, uD _ _ (by rw [zG, zG]; omega), zA, zA]
      simp [z2U]
    · have ho' : szw out + (szw [[64], s] + szw [[40]] + 0 + szw [[41]]) ≤ 1000000000 := ho
      dsimp only
      rw [if_neg (by decide), if_neg (by decide), if_neg (by decide), if_neg (by decide), if_neg (by decide), if_neg (by decide), vF]; unfold zW; dsimp only
      rw [if_neg (by decide), if_neg (by decide), if_neg (by decide), if_neg (by decide), if_pos rfl, uD _ _ (by omega), zA, uD _ _ (by rw [zG]; omega), zA, z6w, zA, uD _ _ (by rw [zG, zG]; omega), zA, zA]
      simp [z2U]
  | @one x w p1 ih1 =>
    intro L i out hd hL hs
    obtain ⟨e1, e2⟩ := y3M hL ih1 hd out hs
    rw [e1, y6m _ _ _ (by have := congrArg List.length e2; simp at this; omega)]
  | @cons x l w wl p1 p2 ih1 ih2 =>
    intro L i out hd hL hs
    have e0 : y6e i (w ++ [[44]] ++ wl) = y6e i w ++ y6e (i + 1) wl := by unfold y6e; rw [if_neg (show ¬ i + 1 = 0 by omega)]; split <;> simp
    rw [e0, zG] at hs
    obtain ⟨e1, e2⟩ := y3M hL ih1 hd out (by omega)
    rw [e1, ih2 L (i + 1) _ e2 hL (by rw [zG]; omega), e0, List.append_assoc]
mutual
def z6k : zI → zI
  | ⟨K, N, S, L, _, _⟩ => ⟨K, N, S, z2T L, 0, 0⟩
def z2T : List zI → List zI
  | [] => []
  | x :: r => z6k x :: z2T r
end
abbrev TM (x : zC) (w : Str) : Prop := Tok x.K x.N x.S w
theorem y6v {x : zC} {w : Str} (h : TM x w) : one w = .inr (x.K, x.N, x.S, w.length) := by
  have := h [] (.inl rfl); rwa [List.append_nil] at this
theorem z9O {x : zC} {w : Str} {k n : Int} {s : Str} {l : Nat} (h : TM x w) (ho : one w = .inr (k, n, s, l)) : x.K = k ∧ x.N = n ∧ x.S = s := by
  have := y6v h
  rw [this] at ho
  injection ho with ho
  simp only [Prod.mk.injEq] at ho
  exact ⟨ho.1, ho.2.1, ho.2.2.1⟩
def At (u : List zC) : Nat → List Str → Prop
  | _, [] => True
  | a, w :: r => (a < u.length ∧ TM (zP u a) w) ∧ At u (a + 1) r
theorem z0l {u : List zC} : ∀ {x y : List Str} {a : Nat}, At u a (x ++ y) → At u a x ∧ At u (a + x.length) y
  | [], y, a, h => ⟨trivial, by simpa using h⟩
  | w :: r, y, a, ⟨h1, h2⟩ => by
    obtain ⟨g1, g2⟩ := z0l h2
    exact ⟨⟨h1, g1⟩, by rw [List.length_cons, show a + (r.length + 1) = a + 1 + r.length by omega]; exact g2⟩
section
variable {u : List zC}
theorem z1k {a : Nat} {s : Str} (h : TM (zP u a) s) (ho : one s = .inr (4, 0, s, s.length)) : zY u a s = true := by
  obtain ⟨h1, -, h3⟩ := z9O h ho
  unfold zY; rw [h1, h3]; simp
theorem z3G {a : Nat} {w s : Str} (h : TM (zP u a) w) (hne : w ≠ s) : zY u a s = false := by
  cases hs : zY u a s with
  | false => rfl
  | true =>
    exfalso
    unfold zY at hs
    simp only [Bool.and_eq_true, decide_eq_true_eq, beq_iff_eq] at hs
    have h1 := y6v h
    rcases y1a h1 with ⟨h2, -, -⟩ | ⟨-, -, -, h2⟩
    · omega
    · rw [hs.2, List.take_of_length_le (Nat.le_refl _)] at h2; exact hne h2.symm
def Fol (u : List zC) (k b : Nat) : Prop := (z3u (zP u b)).2 < k ∧ zY u b [91] = false ∧ zY u b [46] = false ∧ zY u b [40] = false
theorem Fol.mono {k k' b : Nat} (h : Fol u k b) (hk : k ≤ k') : Fol u k' b := ⟨by have := h.1; omega, h.2⟩
theorem z3p {b : Nat} {w : Str} (h : TM (zP u b) w) (hw : w = [41] ∨ w = [93] ∨ w = [44]) : Fol u 1 b := by
  have hn : ∀ s : Str, w ≠ s → zY u b s = false := fun s hs => z3G h hs
  have ho : one w = .inr (4, 0, w, 1) := by rcases hw with rfl | rfl | rfl <;> rfl
  obtain ⟨h1, -, h3⟩ := z9O h ho
  refine ⟨?_, hn _ ?_, hn _ ?_, hn _ ?_⟩
  · unfold z3u
    rw [if_pos h1, h3]
    rcases hw with rfl | rfl | rfl <;> decide
  all_goals (rcases hw with rfl | rfl | rfl <;> decide)
theorem y2R {n : Int} (h1 : 1 ≤ n) (h2 : n ≤ 13) : one (y1o n) = .inr (4, 0, y1o n, (y1o n).length) := by
  rcases y3C h1 h2 with rfl | rfl | rfl | rfl | rfl | rfl | rfl | rfl | rfl | rfl | rfl | rfl | rfl <;> rfl
theorem y6U {b : Nat} {n : Int} (h1 : 1 ≤ n) (h2 : n ≤ 13) (h : TM (zP u b) (y1o n)) : z3u (zP u b) = (n, z1c n) ∧ Fol u (z1c n + 1) b := by
  obtain ⟨g1, -, g3⟩ := z9O h (y2R h1 h2)
  have e : z3u (zP u b) = (n, z1c n) := by
    unfold z3u
    rw [if_pos g1, g3]
    rcases y3C h1 h2 with rfl | rfl | rfl | rfl | rfl | rfl | rfl | rfl | rfl | rfl | rfl | rfl | rfl <;> rfl
  refine ⟨e, by rw [e]; exact Nat.lt_succ_self _, ?_, ?_, ?_⟩
  all_goals (refine z3G h ?_; rcases y3C h1 h2 with rfl | rfl | rfl | rfl | rfl | rfl | rfl | rfl | rfl | rfl | rfl | rfl | rfl <;> decide)
def LV (u : List zC) (a b : Nat) (x : zI) (k : Nat) : Prop := ∃ y, z6k y = z6k x ∧ Der u (.lev k) a (.ok y b)
def CN (u : List zC) (a b : Nat) (x : zI) (k : Nat) : Prop := ∃ y m, z6k y = z6k x ∧ (k = 3 → 4 ≤ bnd x → m = 0) ∧ ∀ r, Der u (.ll k m a y) b r → Der u (.lev k) a r
def Q7 (u : List zC) (a b : Nat) (x : zI) : Prop := zY u a [45] = false ∧ zY u a [33] = false ∧ ∃ y, z6k y = z6k x ∧ ∀ r, Der u (.pl a y) b r → Der u .post a r
theorem y7x {a b k : Nat} {x : zI} (h1 : 1 ≤ k) (h2 : k ≤ 5) (h : LV u a b x (k + 1)) : CN u a b x k := by
  obtain ⟨y, e, hd⟩ := h
  exact ⟨y, 0, e, fun _ _ => rfl, fun r hr => .lev h1 h2 hd hr⟩
theorem y7s {a b k : Nat} {x : zI} (h1 : 1 ≤ k) (hf : Fol u k b) (h : CN u a b x k) : LV u a b x k := by
  obtain ⟨y, m, e, -, hd⟩ := h
  exact ⟨y, e, hd _ (.llE h1 (.inl (by have := hf.1; omega)))⟩
theorem y6V {a b : Nat} {x : zI} (hf : Fol u 6 b) (h : Q7 u a b x) : LV u a b x 6 := by
  obtain ⟨s1, s2, y, e, hd⟩ := h
  exact ⟨y, e, .unP s1 s2 (hd _ (.plE hf.2.1 hf.2.2.1))⟩
theorem y5q {a b j : Nat} {x : zI} (hj : j ≤ 6) (h : Fol u j b → LV u a b x j) : ∀ d k, k + d = j → 1 ≤ k → (Fol u k b → LV u a b x k) ∧ (k < j → Fol u (k + 1) b → CN u a b x k) := by
  intro d
  induction d with
  | zero => intro k hk h1; have : k = j := by omega
            subst this; exact ⟨h, fun h => by omega⟩
  | succ d ih =>
    intro k hk h1
    have g := (ih (k + 1) (by omega) (by omega)).1
    exact ⟨fun hf => y7s h1 hf (y7x h1 (by omega) (g (hf.mono (by omega)))), fun _ hf => y7x h1 (by omega) (g hf)⟩
def QM (u : List zC) : XC → List Str → Prop
  | .ex x, w => ∀ a, At u a w →
      (bnd x = 7 → zY u (a + w.length) [40] = false → Q7 u a (a + w.length) x) ∧
      (∀ k, 1 ≤ k → k ≤ 6 → k ≤ bnd x → Fol u k (a + w.length) → LV u a (a + w.length) x k) ∧
      (∀ k, 1 ≤ k → k ≤ 5 → k ≤ bnd x → Fol u (k + 1) (a + w.length) → CN u a (a + w.length) x k)
  | .ls l, w => ∀ acc a, At u a w → zY u (a + w.length) [44] = false → Fol u 1 (a + w.length) → ∃ l', z2T l' = z2T l ∧ Der u (.lst acc) a (.ok (lT (acc ++ l')) (a + w.length))
theorem y5s {x : zI} {a b : Nat} (hb : bnd x = 7) (h : zY u b [40] = false → Q7 u a b x) :
    (bnd x = 7 → zY u b [40] = false → Q7 u a b x) ∧ (∀ k, 1 ≤ k → k ≤ 6 → k ≤ bnd x → Fol u k b → LV u a b x k) ∧ (∀ k, 1 ≤ k → k ≤ 5 → k ≤ bnd x → Fol u (k + 1) b → CN u a b x k) := by
  have top : Fol u 6 b → LV u a b x 6 := fun hf => y6V hf (h hf.2.2.2)
  exact ⟨fun _ => h, fun k h1 h2 _ hf => (y5q (Nat.le_refl 6) top (6 - k) k (by omega) h1).1 hf, fun k h1 h2 _ hf => (y5q (Nat.le_refl 6) top (6 - k) k (by omega) h1).2 (by omega) hf⟩
theorem y7X {x : zI} {a b : Nat} (hb : bnd x = 6) (top : Fol u 6 b → LV u a b x 6) :
    (bnd x = 7 → zY u b [40] = false → Q7 u a b x) ∧ (∀ k, 1 ≤ k → k ≤ 6 → k ≤ bnd x → Fol u k b → LV u a b x k) ∧ (∀ k, 1 ≤ k → k ≤ 5 → k ≤ bnd x → Fol u (k + 1) b → CN u a b x k) :=
  ⟨fun h => by omega, fun k h1 h2 _ hf => (y5q (Nat.le_refl 6) top (6 - k) k (by omega) h1).1 hf, fun k h1 h2 _ hf => (y5q (Nat.le_refl 6) top (6 - k) k (by omega) h1).2 (by omega) hf⟩
theorem y8c {x : zI} {a b kk : Nat} (hb : bnd x = kk) (h5 : 1 ≤ kk ∧ kk ≤ 5) (h : Fol u (kk + 1) b → CN u a b x kk) :
    (bnd x = 7 → zY u b [40] = false → Q7 u a b x) ∧ (∀ k, 1 ≤ k → k ≤ 6 → k ≤ bnd x → Fol u k b → LV u a b x k) ∧ (∀ k, 1 ≤ k → k ≤ 5 → k ≤ bnd x → Fol u (k + 1) b → CN u a b x k) := by
  have top : Fol u kk b → LV u a b x kk := fun hf => y7s h5.1 hf (h (hf.mono (by omega)))
  refine ⟨fun h => by omega, fun k h1 h2 h3 hf => (y5q (by omega) top (kk - k) k (by omega) h1).1 hf, fun k h1 h2 h3 hf => ?_⟩
  by_cases e : k = kk
  · subst e; exact h hf
  · exact (y5q (by omega) top (kk - k) k (by omega) h1).2 (by omega) hf
theorem z9E {x : zI} {w : List Str} (ih : QM u (.ex x) w) {a : Nat} (h : At u a ([[40]] ++ w ++ [[41]])) : Q7 u a (a + ([[40]] ++ w ++ [[41]]).length) x := by
  obtain ⟨h1, h2⟩ := z0l h
  obtain ⟨h3, h4⟩ := z0l h1
  have t1 : TM (zP u a) [40] := h3.1.2
  have e0 : a + ([[40]] : List Str).length = a + 1 := rfl
  rw [e0] at h4
  have e1 : a + (([[40]] : List Str) ++ w).length = a + 1 + w.length := by simp; omega
  rw [e1] at h2
  have t2 : TM (zP u (a + 1 + w.length)) [41] := h2.1.2
  have hb : 1 ≤ bnd x := by unfold bnd; have := z4f x.N; (repeat' split) <;> omega
  obtain ⟨y, e, hd⟩ := (ih (a + 1) h4).2.1 1 (Nat.le_refl 1) (by omega) hb (z3p t2 (.inl rfl))
  have hsg := z1k t1 rfl
  have hk : wU u a = .paren := by
    obtain ⟨k1, -, k3⟩ := z9O t1 (show one [40] = .inr (4, 0, [40], 1) from rfl)
    have hw : ∀ s, uA u a s = false := fun s => by unfold uA; rw [k1]; rfl
    unfold wU
    rw [if_neg (by rw [k1]; decide), if_neg (by rw [k1]; decide), hw, if_neg (by decide), hw, if_neg (by decide), hw, if_neg (by decide), hw, if_neg (by decide), if_pos hsg]
  have e2 : a + (([[40]] : List Str) ++ w ++ [[41]]).length = a + 1 + w.length + 1 := by simp; omega
  rw [e2]
  exact ⟨z3G t1 (by decide), z3G t1 (by decide), y, e, fun r hr => .post (.par hk hd (z1k t2 rfl)) hr⟩
theorem y1T {x : zI} {w : List Str} (ih : QM u (.ex x) w) {a k : Nat} (h1 : 1 ≤ k) (h2 : k ≤ 6) (h : At u a (hw k x w)) (hf : Fol u k (a + (hw k x w).length)) : LV u a (a + (hw k x w).length) x k := by
  unfold hw at h hf ⊢
  by_cases hc : k ≤ bnd x
  · rw [if_pos hc] at h hf ⊢
    exact (ih a h).2.1 k h1 h2 hc hf
  · rw [if_neg hc] at h hf ⊢
    have top : Fol u 6 (a + ([[40]] ++ w ++ [[41]]).length) → LV u a (a + ([[40]] ++ w ++ [[41]]).length) x 6 := fun hf => y6V hf (z9E ih h)
    exact (y5q (Nat.le_refl 6) top (6 - k) k (by omega) h1).1 hf
theorem y6o {x : zI} {w : List Str} (ih : QM u (.ex x) w) {a : Nat} (h : At u a (hw 7 x w)) (hf : zY u (a + (hw 7 x w).length) [40] = false) : Q7 u a (a + (hw 7 x w).length) x := by
  unfold hw at h hf ⊢
  by_cases hc : 7 ≤ bnd x
  · rw [if_pos hc] at h hf ⊢
    have : bnd x = 7 := by
      have := z4f x.N
      unfold bnd at hc ⊢; (repeat' split) <;> (repeat' split at hc) <;> omega
    exact (ih a h).1 this hf
  · rw [if_neg hc] at h hf ⊢
    exact z9E ih h
theorem y6N {x : zI} {w : List Str} (ih : QM u (.ex x) w) {a : Nat} {n : Int} (h1 : 1 ≤ n) (h2 : n ≤ 13) (h : At u a (hw (z4K n) x w)) (hf : Fol u (z1c n + 1) (a + (hw (z4K n) x w).length)) :
    ∃ y m, z6k y = z6k x ∧ ¬ (z1c n = 3 ∧ m = 1) ∧ ∀ r, Der u (.ll (z1c n) m a y) (a + (hw (z4K n) x w).length) r → Der u (.lev (z1c n)) a r := by
  have hl := z4f n
  have hle : z1c n ≤ z4K n := by unfold z4K; split <;> omega
  have fin : CN u a (a + (hw (z4K n) x w).length) x (z1c n) → (z1c n = 3 → 4 ≤ bnd x ∨ False) → ∃ y m, z6k y = z6k x ∧ ¬ (z1c n = 3 ∧ m = 1) ∧ ∀ r, Der u (.ll (z1c n) m a y) (a + (hw (z4K n) x w).length) r → Der u (.lev (z1c n)) a r := fun ⟨y, m, e, c1, c2⟩ c3 =>
    ⟨y, m, e, fun ⟨g1, g2⟩ => by rcases c3 g1 with c | c
                                 · have := c1 g1 c; omega
                                 · exact c, c2⟩
  unfold hw at h hf fin ⊢
  by_cases hc : z4K n ≤ bnd x
  · rw [if_pos hc] at h hf fin ⊢
    refine fin ((ih a h).2.2 (z1c n) hl.1 hl.2 (by omega) hf) (fun g => .inl ?_)
    unfold z4K at hc; rw [if_pos g] at hc; exact hc
  · rw [if_neg hc] at h hf ⊢
    have top : Fol u 6 (a + ([[40]] ++ w ++ [[41]]).length) → LV u a (a + ([[40]] ++ w ++ [[41]]).length) x 6 := fun hf => y6V hf (z9E ih h)
    obtain ⟨y, e, hd⟩ := (y5q (Nat.le_refl 6) top (6 - (z1c n + 1)) (z1c n + 1) (by omega) (by omega)).1 hf
    exact ⟨y, 0, e, fun ⟨_, g⟩ => by omega, fun r hr => .lev hl.1 hl.2 hd hr⟩
end
theorem y2U {k n : Int} {t w s : Str} {n' : Int} {t' : Str} {l : Nat} (h : Tok k n t w) (ho : one s = .inr (4, n', t', l)) (hk : k ≠ 4) : w ≠ s := by
  rintro rfl
  have := h [] (.inl rfl)
  rw [List.append_nil, ho] at this
  injection this with this
  simp only [Prod.mk.injEq] at this
  exact hk this.1.symm
theorem y3n {c : XC} {w : List Str} (h : PR c w) : ∃ w0 r, w = w0 :: r ∧ w0 ≠ [41] := by
  have hwf : ∀ {k : Nat} {x : zI} {w : List Str}, (∃ w0 r, w = w0 :: r ∧ w0 ≠ [41]) → ∃ w0 r, hw k x w = w0 :: r ∧ w0 ≠ [41] := fun {k x w} ⟨w0, r, e, hn⟩ => by
    unfold hw; split
    · exact ⟨w0, r, e, hn⟩
    · exact ⟨[40], _, rfl, by decide⟩
  induction h with
  | num h1 h2 => exact ⟨_, _, rfl, y2U h2 (show one [41] = .inr (4, 0, [41], 1) from rfl) (by decide)⟩
  | tru => exact ⟨_, _, rfl, by decide⟩
  | fal => exact ⟨_, _, rfl, by decide⟩
  | rd => exact ⟨_, _, rfl, by decide⟩
  | name h => exact ⟨_, _, rfl, y2U h (show one [41] = .inr (4, 0, [41], 1) from rfl) (by decide)⟩
  | @bin n x y wx wy F T h1 h2 p1 p2 ih1 ih2 => obtain ⟨w0, r, e, hn⟩ := hwf (k := z4K n) (x := x) ih1; rw [e]; exact ⟨w0, _, rfl, hn⟩
  | neg _ _ => exact ⟨_, _, rfl, by decide⟩
  | not _ _ => exact ⟨_, _, rfl, by decide⟩
  | @index x i wx wi F T p1 p2 ih1 ih2 => obtain ⟨w0, r, e, hn⟩ := hwf (k := 7) (x := x) ih1; rw [e]; exact ⟨w0, _, rfl, hn⟩
  | @field s x wx F T p0 p1 ih1 => obtain ⟨w0, r, e, hn⟩ := hwf (k := 7) (x := x) ih1; rw [e]; exact ⟨w0, _, rfl, hn⟩
  | lis _ _ => exact ⟨_, _, rfl, by decide⟩
  | call hk h _ _ =>
    rcases hk with rfl | rfl | rfl
    · exact ⟨_, _, rfl, by decide⟩
    · exact ⟨_, _, rfl, y2U h (show one [41] = .inr (4, 0, [41], 1) from rfl) (by decide)⟩
    · exact ⟨_, _, rfl, by decide⟩
  | call0 hk h =>
    rcases hk with rfl | rfl
    · exact ⟨_, _, rfl, y2U h (show one [41] = .inr (4, 0, [41], 1) from rfl) (by decide)⟩
    · exact ⟨_, _, rfl, by decide⟩
  | one _ ih => exact ih
  | cons _ _ ih _ => obtain ⟨w0, r, e, hn⟩ := ih; rw [e]; exact ⟨w0, _, rfl, hn⟩
section
variable {u : List zC}
theorem y7c {a : Nat} {s : Str} (h : (zP u a).K ≠ 4) : zY u a s = false := by unfold zY; rw [decide_eq_false h]; rfl
theorem z6U {a : Nat} {k n : Int} {s : Str} {F T : Int} (h : wU u a = .one k n s) (h4 : (zP u a).K ≠ 4) : Q7 u a (a + 1) ⟨k, n, s, [], F, T⟩ :=
  ⟨y7c h4, y7c h4, _, by simp [z6k, wS, z2T], fun r hr => .post (.one h) hr⟩
theorem z9T {a : Nat} {s : Str} (h : TM (zP u a) s) (ho : one s = .inr (3, 0, s, s.length)) : uA u a s = true ∧ (zP u a).K = 3 ∧ (zP u a).S = s := by
  obtain ⟨h1, -, h3⟩ := z9O h ho
  exact ⟨by unfold uA; rw [h1, h3]; simp, h1, h3⟩
theorem y0Y {a : Nat} {s : Str} (h : TM (zP u a) s) (hn : Nm s) : (zP u a).K = 1 ∧ (zP u a).S = s := by
  have ho : one s = .inr (1, 0, s, s.length) := by have := hn [] (.inl rfl); rwa [List.append_nil] at this
  obtain ⟨h1, -, h3⟩ := z9O h ho
  exact ⟨h1, h3⟩
theorem y0t {k : Int} {s : Str} (hk : k = 15 ∨ k = 16 ∨ k = 17) (hn : Nm s) {a : Nat} (h : At u a (z2U k s ++ [[40]])) : ∃ few, wU u a = .call k s (a + (z2U k s).length) few ∧ (k = 16 ∨ k = 17 → few = true) ∧ zY u a [45] = false ∧ zY u a [33] = false := by
  rcases hk with rfl | rfl | rfl
  · have h' : At u a [[110, 101, 119], s, [40]] := h
    obtain ⟨⟨-, h1⟩, ⟨-, h2⟩, -⟩ := h'
    obtain ⟨w1, w2, w3⟩ := z9T h1 rfl
    obtain ⟨n1, n2⟩ := y0Y h2 hn
    refine ⟨false, ?_, fun h => by omega, y7c (by rw [w2]; decide), y7c (by rw [w2]; decide)⟩
    unfold wU
    rw [if_neg (by rw [w2]; decide), if_neg (by rw [w2]; decide), z2S w1 (by decide), if_neg (by decide), z2S w1 (by decide), if_neg (by decide), z2S w1 (by decide), if_neg (by decide), if_pos w1, if_pos n1, n2]; rfl
  · have h' : At u a [s, [40]] := h
    obtain ⟨⟨-, h1⟩, ⟨-, h2⟩, -⟩ := h'
    obtain ⟨n1, n2⟩ := y0Y h1 hn
    refine ⟨true, ?_, fun _ => rfl, y7c (by rw [n1]; decide), y7c (by rw [n1]; decide)⟩
    unfold wU
    rw [if_neg (by rw [n1]; decide), if_pos n1, if_pos (z1k h2 rfl), n2]; rfl
  · have h' : At u a [[64], s, [40]] := h
    obtain ⟨⟨-, h1⟩, ⟨-, h2⟩, -⟩ := h'
    obtain ⟨k1, -, k3⟩ := z9O h1 (show one [64] = .inr (4, 0, [64], 1) from rfl)
    obtain ⟨n1, n2⟩ := y0Y h2 hn
    have hw : ∀ s, uA u a s = false := fun s => by unfold uA; rw [k1]; rfl
    refine ⟨true, ?_, fun _ => rfl, z3G h1 (by decide), z3G h1 (by decide)⟩
    unfold wU
    rw [if_neg (by rw [k1]; decide), if_neg (by rw [k1]; decide), hw, if_neg (by decide), hw, if_neg (by decide), hw, if_neg (by decide), hw, if_neg (by decide), z3G h1 (by decide), if_neg (by decide), z3G h1 (by decide), if_neg (by decide), if_pos (z1k h1 rfl), if_pos n1, n2]; rfl
theorem y5Z {c : XC} {w : List Str} (h : PR c w) : QM u c w := by
  induction h with
  | @num n F T h1 h2 =>
    intro a ha
    obtain ⟨⟨-, t1⟩, -⟩ := ha
    have ho : one (z7g n) = .inr (2, n, [], (z7g n).length) := by have := h2 [] (.inl rfl); rwa [List.append_nil] at this
    obtain ⟨k1, k2, -⟩ := z9O t1 ho
    refine y5s rfl fun _ => z6U ?_ (by rw [k1]; decide)
    unfold wU; rw [if_pos k1, k2]
  | @tru F T =>
    intro a ha
    obtain ⟨⟨-, t1⟩, -⟩ := ha
    obtain ⟨w1, w2, w3⟩ := z9T t1 rfl
    refine y5s rfl fun _ => z6U ?_ (by rw [w2]; decide)
    unfold wU; rw [if_neg (by rw [w2]; decide), if_neg (by rw [w2]; decide), if_pos w1]
  | @fal F T =>
    intro a ha
    obtain ⟨⟨-, t1⟩, -⟩ := ha
    obtain ⟨w1, w2, w3⟩ := z9T t1 rfl
    refine y5s rfl fun _ => z6U ?_ (by rw [w2]; decide)
    unfold wU; rw [if_neg (by rw [w2]; decide), if_neg (by rw [w2]; decide), z2S w1 (by decide), if_neg (by decide), if_pos w1]
  | @rd F T =>
    intro a ha
    obtain ⟨⟨-, t1⟩, -⟩ := ha
    obtain ⟨w1, w2, w3⟩ := z9T t1 rfl
    refine y5s rfl fun _ => z6U ?_ (by rw [w2]; decide)
    unfold wU; rw [if_neg (by rw [w2]; decide), if_neg (by rw [w2]; decide), z2S w1 (by decide), if_neg (by decide), z2S w1 (by decide), if_neg (by decide), if_pos w1]
  | @name s F T hn =>
    intro a ha
    obtain ⟨⟨-, t1⟩, -⟩ := ha
    obtain ⟨n1, n2⟩ := y0Y t1 hn
    refine y5s rfl fun hf => z6U ?_ (by rw [n1]; decide)
    have hf' : zY u (a + 1) [40] = false := hf
    unfold wU; rw [if_neg (by rw [n1]; decide), if_pos n1, hf', if_neg (by decide), n2]
  | @bin n x y wx wy F T h1 h2 p1 p2 ih1 ih2 =>
    intro a ha
    have hl := z4f n
    obtain ⟨g1, g2⟩ := z0l ha
    obtain ⟨g3, g4⟩ := z0l g1
    have t1 := g4.1.2
    obtain ⟨o1, o2⟩ := y6U h1 h2 t1
    have el : a + (hw (z4K n) x wx ++ [y1o n]).length = a + (hw (z4K n) x wx).length + 1 := by simp; omega
    rw [el] at g2
    have eb : a + (hw (z4K n) x wx ++ [y1o n] ++ hw (z1c n + 1) y wy).length = a + (hw (z4K n) x wx).length + 1 + (hw (z1c n + 1) y wy).length := by simp; omega
    rw [eb]
    refine y8c (kk := z1c n) rfl hl fun hf => ?_
    obtain ⟨y1, m, e1, c1, d1⟩ := y6N ih1 h1 h2 g3 o2
    obtain ⟨y2, e2, d2⟩ := y1T ih2 (by omega) (by omega) g2 hf
    refine ⟨wS u a (a + (hw (z4K n) x wx).length + 1 + (hw (z1c n + 1) y wy).length) ⟨10, n, [], [y1, y2], 0, 0⟩, m + 1, by simp [z6k, wS, z2T, e1, e2], fun q1 q2 => ?_, fun r hr => d1 r (.llG hl.1 (by rw [o1]) c1 d2 ?_)⟩
    · have : bnd ⟨10, n, [], [x, y], F, T⟩ = z1c n := rfl
      omega
    · rw [o1]; exact hr
  | @neg x wx F T p1 ih1 =>
    intro a ha
    obtain ⟨g1, g2⟩ := z0l ha
    have t1 := g1.1.2
    have eb : a + ([[45]] ++ hw 6 x wx).length = a + 1 + (hw 6 x wx).length := by simp; omega
    rw [eb]
    refine y7X rfl fun hf => ?_
    obtain ⟨y, e, d⟩ := y1T ih1 (by omega) (by omega) g2 hf
    exact ⟨wS u a (a + 1 + (hw 6 x wx).length) ⟨11, 1, [], [y], 0, 0⟩, by simp [z6k, wS, z2T, e], .un (.inl ⟨rfl, z1k t1 rfl⟩) d⟩
  | @not x wx F T p1 ih1 =>
    intro a ha
    obtain ⟨g1, g2⟩ := z0l ha
    have t1 := g1.1.2
    have eb : a + ([[33]] ++ hw 6 x wx).length = a + 1 + (hw 6 x wx).length := by simp; omega
    rw [eb]
    refine y7X rfl fun hf => ?_
    obtain ⟨y, e, d⟩ := y1T ih1 (by omega) (by omega) g2 hf
    exact ⟨wS u a (a + 1 + (hw 6 x wx).length) ⟨11, 2, [], [y], 0, 0⟩, by simp [z6k, wS, z2T, e], .un (.inr ⟨rfl, z1k t1 rfl⟩) d⟩
  | @index x i wx wi F T p1 p2 ih1 ih2 =>
    intro a ha
    obtain ⟨g1, g2⟩ := z0l ha
    obtain ⟨g3, g4⟩ := z0l g1
    obtain ⟨g5, g6⟩ := z0l g3
    have t1 := g6.1.2
    have e4 : a + (hw 7 x wx ++ [[91]]).length = a + (hw 7 x wx).length + 1 := by simp; omega
    have e2 : a + (hw 7 x wx ++ [[91]] ++ wi).length = a + (hw 7 x wx).length + 1 + wi.length := by simp; omega
    have eb : a + (hw 7 x wx ++ [[91]] ++ wi ++ [[93]]).length = a + (hw 7 x wx).length + 1 + wi.length + 1 := by simp; omega
    rw [e4] at g4
    rw [e2] at g2
    rw [eb]
    have t2 := g2.1.2
    refine y5s rfl fun hf => ?_
    obtain ⟨s1, s2, y1, q1, d1⟩ := y6o ih1 g5 (z3G t1 (by decide))
    have hb : 1 ≤ bnd i := by unfold bnd; have := z4f i.N; (repeat' split) <;> omega
    obtain ⟨y2, q2, d2⟩ := (ih2 _ g4).2.1 1 (Nat.le_refl 1) (by omega) hb (z3p t2 (.inr (.inl rfl)))
    exact ⟨s1, s2, wS u a (a + (hw 7 x wx).length + 1 + wi.length + 1) ⟨12, 0, [], [y1, y2], 0, 0⟩, by simp [z6k, wS, z2T, q1, q2], fun r hr => d1 r (.plI (z1k t1 rfl) d2 (z1k t2 rfl) hr)⟩
  | @field s x wx F T hn p1 ih1 =>
    intro a ha
    obtain ⟨g1, g2⟩ := z0l ha
    have t1 := g2.1.2
    have t2 := g2.2.1.2
    have eb : a + (hw 7 x wx ++ [[46], s]).length = a + (hw 7 x wx).length + 2 := by simp; omega
    rw [eb]
    refine y5s rfl fun hf => ?_
    obtain ⟨s1, s2, y1, q1, d1⟩ := y6o ih1 g1 (z3G t1 (by decide))
    obtain ⟨n1, n2⟩ := y0Y t2 hn
    refine ⟨s1, s2, wS u a (a + (hw 7 x wx).length + 2) ⟨13, 0, s, [y1], 0, 0⟩, by simp [z6k, wS, z2T, q1], fun r hr => d1 r (.plF (z3G t1 (by decide)) (z1k t1 rfl) n1 ?_)⟩
    rw [n2]; exact hr
  | @lis l w F T p1 ih1 =>
    intro a ha
    obtain ⟨g1, g2⟩ := z0l ha
    obtain ⟨g3, g4⟩ := z0l g1
    have t1 := g3.1.2
    have e2 : a + ([[91]] ++ w).length = a + 1 + w.length := by simp; omega
    have eb : a + ([[91]] ++ w ++ [[93]]).length = a + 1 + w.length + 1 := by simp; omega
    have g4' : At u (a + 1) w := g4
    rw [e2] at g2
    rw [eb]
    have t2 := g2.1.2
    refine y5s rfl fun hf => ?_
    obtain ⟨l', q, d⟩ := ih1 [] (a + 1) g4' (z3G t2 (by decide)) (z3p t2 (.inr (.inl rfl)))
    have hk : wU u a = .lis := by
      obtain ⟨k1, -, k3⟩ := z9O t1 (show one [91] = .inr (4, 0, [91], 1) from rfl)
      have hw : ∀ s, uA u a s = false := fun s => by unfold uA; rw [k1]; rfl
      unfold wU
      rw [if_neg (by rw [k1]; decide), if_neg (by rw [k1]; decide), hw, if_neg (by decide), hw, if_neg (by decide), hw, if_neg (by decide), hw, if_neg (by decide), z3G t1 (by decide), if_neg (by decide), if_pos (z1k t1 rfl)]
    exact ⟨z3G t1 (by decide), z3G t1 (by decide), wS u a (a + 1 + w.length + 1) ⟨14, 0, [], l', 0, 0⟩, by simp [z6k, wS, q], fun r hr => .post (.lis hk d (z1k t2 rfl)) hr⟩
  | @call k s l w F T hk hn p1 ih1 =>
    intro a ha
    obtain ⟨g1, g2⟩ := z0l ha
    obtain ⟨g3, g4⟩ := z0l g1
    obtain ⟨g5, g6⟩ := z0l g3
    have t1 := g6.1.2
    have e4 : a + (z2U k s ++ [[40]]).length = a + (z2U k s).length + 1 := by simp; omega
    have e2 : a + (z2U k s ++ [[40]] ++ w).length = a + (z2U k s).length + 1 + w.length := by simp; omega
    have eb : a + (z2U k s ++ [[40]] ++ w ++ [[41]]).length = a + (z2U k s).length + 1 + w.length + 1 := by simp; omega
    rw [e4] at g4
    rw [e2] at g2
    rw [eb]
    have t2 := g2.1.2
    have hb7 : bnd ⟨k, 0, s, l, F, T⟩ = 7 := by rcases hk with rfl | rfl | rfl <;> rfl
    refine y5s hb7 fun hf => ?_
    obtain ⟨few, hkk, hfew, s1, s2⟩ := y0t hk hn g3
    obtain ⟨l', q, d⟩ := ih1 [] (a + (z2U k s).length + 1) g4 (z3G t2 (by decide)) (z3p t2 (.inl rfl))
    obtain ⟨w0, r0, ew, hw0⟩ := y3n p1
    rw [ew] at g4
    exact ⟨s1, s2, wS u a (a + (z2U k s).length + 1 + w.length + 1) ⟨k, 0, s, l', 0, 0⟩, by simp [z6k, wS, q], fun r hr => .post (.call hkk (.cls (z1k t1 rfl) (fun _ => z3G g4.1.2 hw0) d (z1k t2 rfl))) hr⟩
  | @call0 k s F T hk hn =>
    intro a ha
    rw [List.append_nil] at ha
    obtain ⟨g1, g2⟩ := z0l ha
    obtain ⟨g5, g6⟩ := z0l g1
    have t1 := g6.1.2
    have e2 : a + (z2U k s ++ [[40]]).length = a + (z2U k s).length + 1 := by simp; omega
    have eb : a + (z2U k s ++ [[40]] ++ [] ++ [[41]]).length = a + (z2U k s).length + 2 := by simp; omega
    rw [e2] at g2
    rw [eb]
    have t2 := g2.1.2
    have hb7 : bnd ⟨k, 0, s, [], F, T⟩ = 7 := by rcases hk with rfl | rfl <;> rfl
    refine y5s hb7 fun hf => ?_
    obtain ⟨few, hkk, hfew, s1, s2⟩ := y0t (by omega) hn g1
    have hft := hfew hk
    rw [hft] at hkk
    exact ⟨s1, s2, wS u a (a + (z2U k s).length + 2) ⟨k, 0, s, [], 0, 0⟩, by simp [z6k, wS, z2T], fun r hr => .post (.call hkk (.clsF (z1k t1 rfl) (z1k t2 rfl))) hr⟩
  | @one x w p1 ih1 =>
    intro acc a ha h44 hf
    have hb : 1 ≤ bnd x := by unfold bnd; have := z4f x.N; (repeat' split) <;> omega
    obtain ⟨y, e, d⟩ := (ih1 a ha).2.1 1 (Nat.le_refl 1) (by omega) hb hf
    exact ⟨[y], by simp [z2T, e], .lstE d h44⟩
  | @cons x l w wl p1 p2 ih1 ih2 =>
    intro acc a ha h44 hf
    obtain ⟨g1, g2⟩ := z0l ha
    obtain ⟨g3, g4⟩ := z0l g1
    have t1 := g4.1.2
    have e2 : a + (w ++ [[44]]).length = a + w.length + 1 := by simp; omega
    have eb : a + (w ++ [[44]] ++ wl).length = a + w.length + 1 + wl.length := by simp; omega
    rw [e2] at g2
    rw [eb] at h44 hf ⊢
    have hb : 1 ≤ bnd x := by unfold bnd; have := z4f x.N; (repeat' split) <;> omega
    obtain ⟨y, e, d⟩ := (ih1 a g3).2.1 1 (Nat.le_refl 1) (by omega) hb (z3p t1 (.inr (.inr rfl)))
    obtain ⟨l', q, d2⟩ := ih2 (acc ++ [y]) _ g2 h44 hf
    refine ⟨y :: l', by simp [z2T, e, q], ?_⟩
    have := Der.lstG d (z1k t1 rfl) d2
    rw [List.append_assoc] at this
    exact this
end
def y5I : List Str → List Int → Int → Option Str
  | s :: ss, o :: os, op => if o = op then some s else y5I ss os op
  | _, _, _ => none
theorem rs6 (op level : Int) (signs : List Str) (ops : List Int) (h1 : ops.length = signs.length) (h2 : ops.length ≤ 100) : ∀ (k i : Nat), i + k = ops.length → yQ op level signs ops (i : Int) = match y5I (signs.drop i) (ops.drop i) op with | some s => some s | none => yL op (IntKind.wrap .i64 (level + 1)) := by
  intro k
  induction k with
  | zero =>
    intro i hi
    rw [z3E]; unfold jC
    rw [if_neg (by omega), List.drop_eq_nil_of_le (by omega), List.drop_eq_nil_of_le (by omega)]; rfl
  | succ k ih =>
    intro i hi
    have g1 : i < ops.length := by omega
    have g2 : i < signs.length := by omega
    rw [z3E]; unfold jC
    rw [if_pos (by omega), gV g1, zA, List.drop_eq_getElem_cons g1, List.drop_eq_getElem_cons g2, y5I]
    by_cases hc : ops[i] = op
    · rw [if_pos hc, if_pos hc, gV g2]; rfl
    · rw [if_neg hc, if_neg hc, uS (by omega) (by omega), wR]
      exact ih (i + 1) (by omega)
theorem rs2 (op : Int) (l : Nat) (signs : List Str) (ops : List Int) (hl : l ≤ 5) (ho : z1W (l : Int) = some (signs, ops)) (h1 : ops.length = signs.length) (h2 : ops.length ≤ 100) : yL op (l : Int) = match y5I signs ops op with | some s => some s | none => yL op ((l + 1 : Nat) : Int) := by
  conv => lhs; rw [z7J]
  unfold jV
  rw [if_pos (by omega), ho, zA]
  have := rs6 op (l : Int) signs ops h1 h2 ops.length 0 (by omega)
  rw [uS (by omega) (by omega), show ((l : Int) + 1) = ((l + 1 : Nat) : Int) by omega] at this
  exact this
theorem y4T {n : Int} (h1 : 1 ≤ n) (h2 : n ≤ 13) : z2p n = some (y1o n) := by
  unfold z2p
  have e1 := rs2 n 1 _ _ (by omega) rfl rfl (by decide)
  have e2 := rs2 n 2 _ _ (by omega) rfl rfl (by decide)
  have e3 := rs2 n 3 _ _ (by omega) rfl rfl (by decide)
  have e4 := rs2 n 4 _ _ (by omega) rfl rfl (by decide)
  have e5 := rs2 n 5 _ _ (by omega) rfl rfl (by decide)
  rw [show yL n 1 = _ from e1, e2, e3, e4, e5]
  rcases y3C h1 h2 with rfl | rfl | rfl | rfl | rfl | rfl | rfl | rfl | rfl | rfl | rfl | rfl | rfl <;> rfl
def y7J : List Int → Int → Bool
  | [], _ => false
  | o :: os, n => if o = n then true else y7J os n
theorem y8d (level : Int) (ops : List Int) (t : zI) (h2 : ops.length ≤ 100) : ∀ (k i : Nat), i + k = ops.length → zV level ops (i : Int) t = if y7J (ops.drop i) t.N = true then some level else yD (IntKind.wrap .i64 (level + 1)) t := by
  intro k
  induction k with
  | zero =>
    intro i hi
    rw [z2o]; unfold wW
    rw [if_neg (by omega), List.drop_eq_nil_of_le (by omega)]; rfl
  | succ k ih =>
    intro i hi
    have g1 : i < ops.length := by omega
    rw [z2o]; unfold wW
    rw [if_pos (by omega), gV g1, zA, List.drop_eq_getElem_cons g1, y7J]
    by_cases hc : ops[i] = t.N
    · rw [if_pos hc, if_pos hc]; rfl
    · rw [if_neg hc, if_neg hc, uS (by omega) (by omega), wR]
      exact ih (i + 1) (by omega)
theorem rb6 (t : zI) (l : Nat) (signs : List Str) (ops : List Int) (hl : l ≤ 5) (ho : z1W (l : Int) = some (signs, ops)) (h2 : ops.length ≤ 100) : yD (l : Int) t = if y7J ops t.N = true then some (l : Int) else yD ((l + 1 : Nat) : Int) t := by
  conv => lhs; rw [z6v]
  unfold jM
  rw [if_pos (by omega), ho, zA]
  have := y8d (l : Int) ops t h2 ops.length 0 (by omega)
  rw [uS (by omega) (by omega), show ((l : Int) + 1) = ((l + 1 : Nat) : Int) by omega] at this
  exact this
theorem y4K {n : Int} (h1 : 1 ≤ n) (h2 : n ≤ 13) (S : Str) (L : List zI) (F T : Int) : z0q ⟨10, n, S, L, F, T⟩ = some (z1c n : Int) := by
  unfold z0q; dsimp only
  rw [if_neg (by decide), if_pos rfl]
  have e1 := rb6 ⟨10, n, S, L, F, T⟩ 1 _ _ (by omega) rfl (by decide)
  have e2 := rb6 ⟨10, n, S, L, F, T⟩ 2 _ _ (by omega) rfl (by decide)
  have e3 := rb6 ⟨10, n, S, L, F, T⟩ 3 _ _ (by omega) rfl (by decide)
  have e4 := rb6 ⟨10, n, S, L, F, T⟩ 4 _ _ (by omega) rfl (by decide)
  have e5 := rb6 ⟨10, n, S, L, F, T⟩ 5 _ _ (by omega) rfl (by decide)
  rw [show yD 1 ⟨10, n, S, L, F, T⟩ = _ from e1, e2, e3, e4, e5]
  rcases y3C h1 h2 with rfl | rfl | rfl | rfl | rfl | rfl | rfl | rfl | rfl | rfl | rfl | rfl | rfl <;> rfl
theorem y6X {c : XC} {w : List Str} (h : PR c w) : match c with | .ex x => z0q x = some (bnd x : Int) | .ls _ => True := by
  cases h with
  | bin h1 h2 _ _ => exact y4K h1 h2 _ _ _ _
  | call h _ _ => rcases h with rfl | rfl | rfl <;> rfl
  | call0 h _ => rcases h with rfl | rfl <;> rfl
  | one _ => trivial
  | cons _ _ => trivial
  | _ => rfl
abbrev J (w : List Str) : Str := z5F w [32]
theorem z1z {a b : List Str} (ha : a ≠ []) (hb : b ≠ []) : J (a ++ b) = J a ++ [32] ++ J b := by
  cases a with
  | nil => exact absurd rfl ha
  | cons x r =>
    cases b with
    | nil => exact absurd rfl hb
    | cons y s => simp [J, z5F]
theorem z0x (w : Str) : J [w] = w := by simp [J, z5F]
theorem z3R (w : List Str) : (J w).length ≤ szw w := by
  have tail : ∀ r : List Str, ((r.map (([32] : Str) ++ ·)).flatten).length = szw r := by
    intro r
    induction r with
    | nil => rfl
    | cons x r ih => simp [szw] at ih ⊢; omega
  cases w with
  | nil => simp [J, z5F]
  | cons x r =>
    show (x ++ (r.map (([32] : Str) ++ ·)).flatten).length ≤ _
    rw [List.length_append, tail]; simp [szw]
theorem y7p {w : List Str} (h : w ≠ []) : (J w).length + 1 = szw w := by
  have tail : ∀ r : List Str, ((r.map (([32] : Str) ++ ·)).flatten).length = szw r := by
    intro r
    induction r with
    | nil => rfl
    | cons x r ih => simp [szw] at ih ⊢; omega
  cases w with
  | nil => exact absurd rfl h
  | cons x r =>
    show (x ++ (r.map (([32] : Str) ++ ·)).flatten).length + 1 = _
    rw [List.length_append, tail]; simp [szw]; omega
theorem y3r {k : Nat} {x : zI} {w : List Str} (h : w ≠ []) : hw k x w ≠ [] := by unfold hw; split <;> simp_all
theorem z2s {x : zI} {w : List Str} (hp : PR (.ex x) w) (hs : szw w ≤ 1000000000) (hx : yH x = some (J w)) (least : Nat) : vC x (least : Int) = some (J (hw least x w)) := by
  have hb : z0q x = some (bnd x : Int) := y6X hp
  have hj := z3R w
  rw [z9H]; unfold z0r
  rw [hb, zA]
  unfold hw
  by_cases hc : least ≤ bnd x
  · rw [if_pos hc, if_neg (show ¬ (bnd x : Int) < (least : Int) by omega), hx]; rfl
  · rw [if_neg hc, if_pos (show (bnd x : Int) < (least : Int) by omega), hx, zA]
    have hn := z5j hp
    rw [if_pos (by simp only [List.length_append, List.length_cons, List.length_nil]; omega), if_pos (by simp only [List.length_append, List.length_cons, List.length_nil]; omega)]
    rw [z1z (by simp) (by simp), z1z (by simp) hn, z0x, z0x]; simp
def y6f (i : Nat) : Str := if i = 0 then [] else [32, 44]
def RPM : XC → List Str → Prop
  | .ex x, w => szw w ≤ 1000000000 → yH x = some (J w)
  | .ls l, w => ∀ (L : List zI) (i : Nat) (last out : Str), L.drop i = l → L.length ≤ 1000000000 → out.length + szw w + last.length ≤ 3000000000 → szw w ≤ 1000000000 → zX L last out (i : Int) = some (out ++ y6f i ++ [32] ++ J w ++ [32] ++ last)
theorem y6n (L : List zI) (last out : Str) (i : Nat) (h : L.length ≤ i) (hl : out.length + last.length ≤ 4000000000) : zX L last out (i : Int) = some (out ++ [32] ++ last) := by
  rw [z3D]; unfold jB
  rw [if_neg (by omega), if_pos (by simp only [List.length_append, List.length_cons, List.length_nil]; omega), if_pos (by simp only [List.length_append, List.length_cons, List.length_nil]; omega)]
theorem y3N {L l : List zI} {i : Nat} {x : zI} {w : List Str} (hL : L.length ≤ 1000000000) (hx : yH x = some (J w)) (hw : szw w ≤ 1000000000) (h : L.drop i = x :: l) (last out : Str) (hs : out.length ≤ 4000000000) :
    zX L last out (i : Int) = zX L last (out ++ y6f i ++ [32] ++ J w) ((i + 1 : Nat) : Int) ∧ L.drop (i + 1) = l := by
  have hj := z3R w
  have hlt : i < L.length := by
    have := congrArg List.length h
    rw [List.length_drop, List.length_cons] at this; omega
  have hd := List.drop_eq_getElem_cons hlt
  rw [h] at hd
  injection hd with e1 e2
  refine ⟨?_, e2.symm⟩
  conv => lhs; rw [z3D]
  unfold jB
  unfold y6f
  rw [if_pos (by omega)]
  by_cases hi : i = 0
  · rw [if_pos hi, if_neg (by omega), if_pos (by simp only [List.length_append, List.length_cons, List.length_nil]; omega), gV hlt, zA, ← e1, hx, zA, if_pos (by simp only [List.length_append, List.length_cons, List.length_nil]; omega), uS (by omega) (by omega), wR]
    simp
  · rw [if_neg hi, if_pos (by omega), if_pos (by simp only [List.length_append, List.length_cons, List.length_nil]; omega), if_pos (by simp only [List.length_append, List.length_cons, List.length_nil]; omega), gV hlt, zA, ← e1, hx, zA, if_pos (by simp only [List.length_append, List.length_cons, List.length_nil]; omega), uS (by omega) (by omega), wR]
theorem y2P {l : List zI} {w : List Str} (ih : RPM (.ls l) w) (hl : l.length ≤ 1000000000) (hs : szw w ≤ 1000000000) (a b : Str) (ha : a.length ≤ 10) (hb : b.length ≤ 10) : wD l a b = some (a ++ [32] ++ J w ++ [32] ++ b) := by
  rw [z6d]; unfold z0k
  have := ih l 0 b a (by simp) hl (by omega) hs
  rw [show zX l b a 0 = _ from this]
  simp [y6f]
theorem y4I (a b : Str) (ha : a.length ≤ 10) (hb : b.length ≤ 10) : wD [] a b = some (a ++ [32] ++ b) := by
  rw [z6d]; unfold z0k
  exact y6n [] b a 0 (by simp) (by omega)
theorem y7C {c : XC} {w : List Str} (h : PR c w) : RPM c w := by
  induction h with
  | @num n F T h1 h2 =>
    intro ho
    rw [wC]; unfold vR; dsimp only
    rw [if_pos rfl, y1g 19 (n : Int) (by omega) (by omega) (by omega) (by omega), zA, if_neg (show ¬ ((n : Int) < 0) by omega), List.nil_append, show ((n : Int)).natAbs = n by omega, z0x]
  | tru => intro ho; rw [wC]; unfold vR; dsimp only; rw [if_neg (by decide), if_pos rfl, if_pos rfl, z0x]
  | fal => intro ho; rw [wC]; unfold vR; dsimp only; rw [if_neg (by decide), if_pos rfl, if_neg (by decide), z0x]
  | rd => intro ho; rw [wC]; unfold vR; dsimp only; rw [if_neg (by decide), if_neg (by decide), if_pos rfl, z0x]
  | name _ => intro ho; rw [wC]; unfold vR; dsimp only; rw [if_neg (by decide), if_neg (by decide), if_neg (by decide), if_pos rfl, z0x]
  | @bin n x y wx wy F T h1 h2 p1 p2 ih1 ih2 =>
    intro ho
    rw [zG, zG] at ho
    have hl := z4f n
    have j1 := z3R (hw (z4K n) x wx)
    have j2 := z3R (hw (z1c n + 1) y wy)
    have j3 : (y1o n).length ≤ szw [y1o n] := by simp [szw]
    have w1 : szw wx ≤ szw (hw (z4K n) x wx) := by unfold hw; split <;> (try simp only [zG]) <;> omega
    have w2 : szw wy ≤ szw (hw (z1c n + 1) y wy) := by unfold hw; split <;> (try simp only [zG]) <;> omega
    have n1 := y3r (k := z4K n) (x := x) (z5j p1)
    have n2 := y3r (k := z1c n + 1) (x := y) (z5j p2)
    rw [wC]; unfold vR; dsimp only
    rw [if_neg (by decide), if_neg (by decide), if_neg (by decide), if_neg (by decide), if_pos rfl, y4K h1 h2, zA]
    have r1 : ∀ lf : Nat, lf = z4K n → vC x (lf : Int) = some (J (hw (z4K n) x wx)) := fun lf e => by rw [e]; exact z2s p1 (by omega) (ih1 (by omega)) _
    have r2 : vC y (IntKind.wrap .i64 ((z1c n : Int) + 1)) = some (J (hw (z1c n + 1) y wy)) := by
      rw [uS (by omega) (by omega), show (z1c n : Int) + 1 = ((z1c n + 1 : Nat) : Int) by omega]; exact z2s p2 (by omega) (ih2 (by omega)) _
    have fin : J (hw (z4K n) x wx ++ [y1o n] ++ hw (z1c n + 1) y wy) = J (hw (z4K n) x wx) ++ [32] ++ y1o n ++ [32] ++ J (hw (z1c n + 1) y wy) := by
      rw [z1z (by simp) n2, z1z n1 (by simp), z0x]
    by_cases h3 : z1c n = 3
    · rw [if_pos (show (z1c n : Int) = 3 by omega), show idx [x, y] 0 = some x from rfl, zA, show (4 : Int) = ((4 : Nat) : Int) from rfl, r1 4 (by unfold z4K; rw [if_pos h3]), zA,
        if_pos (by simp only [List.length_append, List.length_cons, List.length_nil]; omega), y4T h1 h2, zA, if_pos (by simp only [List.length_append, List.length_cons, List.length_nil]; omega), if_pos (by simp only [List.length_append, List.length_cons, List.length_nil]; omega),
        show idx [x, y] 1 = some y from rfl, zA, r2, zA, if_pos (by simp only [List.length_append, List.length_cons, List.length_nil]; omega), fin]
    · rw [if_neg (show ¬ (z1c n : Int) = 3 by omega), show idx [x, y] 0 = some x from rfl, zA, r1 (z1c n) (by unfold z4K; rw [if_neg h3]), zA,
        if_pos (by simp only [List.length_append, List.length_cons, List.length_nil]; omega), y4T h1 h2, zA, if_pos (by simp only [List.length_append, List.length_cons, List.length_nil]; omega), if_pos (by simp only [List.length_append, List.length_cons, List.length_nil]; omega),
        show idx [x, y] 1 = some y from rfl, zA, r2, zA, if_pos (by simp only [List.length_append, List.length_cons, List.length_nil]; omega), fin]
  | @neg x wx F T p1 ih1 =>
    intro ho
    rw [zG] at ho
    have j1 := z3R (hw 6 x wx)
    have w1 : szw wx ≤ szw (hw 6 x wx) := by unfold hw; split <;> (try simp only [zG]) <;> omega
    rw [wC]; unfold vR; dsimp only
    rw [if_neg (by decide), if_neg (by decide), if_neg (by decide), if_neg (by decide), if_neg (by decide), if_pos rfl, if_pos rfl, show idx [x] 0 = some x from rfl, zA, show (6 : Int) = ((6 : Nat) : Int) from rfl, z2s p1 (by omega) (ih1 (by omega)), zA, if_pos (by simp only [List.length_append, List.length_cons, List.length_nil]; omega),
      z1z (by simp) (y3r (z5j p1)), z0x]; simp
  | @not x wx F T p1 ih1 =>
    intro ho
    rw [zG] at ho
    have j1 := z3R (hw 6 x wx)
    have w1 : szw wx ≤ szw (hw 6 x wx) := by unfold hw; split <;> (try simp only [zG]) <;> omega
    rw [wC]; unfold vR; dsimp only
    rw [if_neg (by decide), if_neg (by decide), if_neg (by decide), if_neg (by decide), if_neg (by decide), if_pos rfl, if_neg (by decide), show idx [x] 0 = some x from rfl, zA, show (6 : Int) = ((6 : Nat) : Int) from rfl, z2s p1 (by omega) (ih1 (by omega)), zA, if_pos (by simp only [List.length_append, List.length_cons, List.length_nil]; omega),
      z1z (by simp) (y3r (z5j p1)), z0x]; simp
  | @index x i wx wi F T p1 p2 ih1 ih2 =>
    intro ho
    rw [zG, zG, zG] at ho
    have j1 := z3R (hw 7 x wx)
    have j2 := z3R wi
    have w1 : szw wx ≤ szw (hw 7 x wx) := by unfold hw; split <;> (try simp only [zG]) <;> omega
    rw [wC]; unfold vR; dsimp only
    rw [if_neg (by decide), if_neg (by decide), if_neg (by decide), if_neg (by decide), if_neg (by decide), if_neg (by decide), if_pos rfl, show idx [x, i] 0 = some x from rfl, zA, show (7 : Int) = ((7 : Nat) : Int) from rfl, z2s p1 (by omega) (ih1 (by omega)), zA, if_pos (by simp only [List.length_append, List.length_cons, List.length_nil]; omega),
      show idx [x, i] 1 = some i from rfl, zA, ih2 (by omega), zA, if_pos (by simp only [List.length_append, List.length_cons, List.length_nil]; omega), if_pos (by simp only [List.length_append, List.length_cons, List.length_nil]; omega),
      z1z (by simp) (by simp), z1z (by simp) (z5j p2), z1z (y3r (z5j p1)) (by simp), z0x, z0x]; simp
  | @field s x wx F T p0 p1 ih1 =>
    intro ho
    rw [zG] at ho
    simp only [szw, List.length_cons, List.length_nil] at ho
    have j1 := z3R (hw 7 x wx)
    have w1 : szw wx ≤ szw (hw 7 x wx) := by unfold hw; split <;> (try simp only [zG]) <;> omega
    rw [wC]; unfold vR; dsimp only
    rw [if_neg (by decide), if_neg (by decide), if_neg (by decide), if_neg (by decide), if_neg (by decide), if_neg (by decide), if_neg (by decide), if_pos rfl, show idx [x] 0 = some x from rfl, zA, show (7 : Int) = ((7 : Nat) : Int) from rfl, z2s p1 (by omega) (ih1 (by omega)), zA, if_pos (by simp only [List.length_append, List.length_cons, List.length_nil]; omega),
      if_pos (by simp only [List.length_append, List.length_cons, List.length_nil]; omega), z1z (y3r (z5j p1)) (by simp), show ([[46], s] : List Str) = [[46]] ++ [s] from rfl, z1z (by simp) (by simp), z0x, z0x]; simp
  | @lis l w F T p1 ih1 =>
    intro ho
    rw [zG, zG] at ho
    have hl : l.length ≤ w.length := y2J p1
    have hw1 := z2D w
    rw [wC]; unfold vR; dsimp only
    rw [if_neg (by decide), if_neg (by decide), if_neg (by decide), if_neg (by decide), if_neg (by decide), if_neg (by decide), if_neg (by decide), if_neg (by decide), if_pos rfl, y2P ih1 (by omega) (by omega) _ _ (by decide) (by decide), zA,
      z1z (by simp) (by simp), z1z (by simp) (z5j p1), z0x, z0x]
  | @call k s l w F T hk p0 p1 ih1 =>
    intro ho
    rw [zG, zG, zG] at ho
    have hl : l.length ≤ w.length := y2J p1
    have hw1 := z2D w
    have j1 := z3R w
    have ar := y2P ih1 (by omega) (by omega) [40] [41] (by decide) (by decide)
    have hs : s.length ≤ szw (z2U k s) := by unfold z2U; (repeat' split) <;> simp only [szw] <;> omega
    rw [wC]; unfold vR
    have fin : ∀ p, z2U k s = p → p ≠ [] → J (z2U k s ++ [[40]] ++ w ++ [[41]]) = J p ++ [32] ++ ([40] ++ [32] ++ J w ++ [32] ++ [41]) := fun p e hp => by
      rw [e, z1z (by simp) (by simp), z1z (by simp) (z5j p1), z1z hp (by simp), z0x, z0x]; simp
    rcases hk with rfl | rfl | rfl
    · dsimp only
      rw [if_neg (by decide), if_neg (by decide), if_neg (by decide), if_neg (by decide), if_neg (by decide), if_neg (by decide), if_neg (by decide), if_neg (by decide), if_neg (by decide), if_neg (by decide), if_pos rfl, if_pos (by simp only [List.length_append, List.length_cons, List.length_nil]; omega), if_pos (by simp only [List.length_append, List.length_cons, List.length_nil]; omega), ar, zA, if_pos (by simp only [List.length_append, List.length_cons, List.length_nil]; omega), fin [[110, 101, 119], s] rfl (by simp),
        show ([[110, 101, 119], s] : List Str) = [[110, 101, 119]] ++ [s] from rfl, z1z (by simp) (by simp), z0x, z0x]; simp
    · dsimp only
      rw [if_neg (by decide), if_neg (by decide), if_neg (by decide), if_neg (by decide), if_neg (by decide), if_neg (by decide), if_neg (by decide), if_neg (by decide), if_neg (by decide), if_neg (by decide), if_neg (by decide), if_pos (by simp only [List.length_append, List.length_cons, List.length_nil]; omega), ar, zA, if_pos (by simp only [List.length_append, List.length_cons, List.length_nil]; omega), fin [s] rfl (by simp), z0x]
    · dsimp only
      rw [if_neg (by decide), if_neg (by decide), if_neg (by decide), if_neg (by decide), if_neg (by decide), if_neg (by decide), if_neg (by decide), if_neg (by decide), if_neg (by decide), if_pos rfl, if_pos (by simp only [List.length_append, List.length_cons, List.length_nil]; omega), if_pos (by simp only [List.length_append, List.length_cons, List.length_nil]; omega), ar, zA, if_pos (by simp only [List.length_append, List.length_cons, List.length_nil]; omega), fin [[64], s] rfl (by simp),
        show ([[64], s] : List Str) = [[64]] ++ [s] from rfl, z1z (by simp) (by simp), z0x, z0x]; simp
  | @call0 k s F T hk p0 =>
    intro ho
    rw [zG, zG, zG] at ho
    have ar := y4I [40] [41] (by decide) (by decide)
    have hs : s.length ≤ szw (z2U k s) := by unfold z2U; (repeat' split) <;> simp only [szw] <;> omega
    rw [wC]; unfold vR
    have fin : ∀ p, z2U k s = p → p ≠ [] → J (z2U k s ++ [[40]] ++ [] ++ [[41]]) = J p ++ [32] ++ ([40] ++ [32] ++ [41]) := fun p e hp => by
      rw [e, List.append_nil, z1z (by simp) (by simp), z1z hp (by simp), z0x, z0x]; simp
    rcases hk with rfl | rfl
    · dsimp only
      rw [if_neg (by decide), if_neg (by decide), if_neg (by decide), if_neg (by decide), if_neg (by decide), if_neg (by decide), if_neg (by decide), if_neg (by decide), if_neg (by decide), if_neg (by decide), if_neg (by decide), if_pos (by simp only [List.length_append, List.length_cons, List.length_nil]; omega), ar, zA, if_pos (by simp only [List.length_append, List.length_cons, List.length_nil]; omega), fin [s] rfl (by simp), z0x]
    · dsimp only
      rw [if_neg (by decide), if_neg (by decide), if_neg (by decide), if_neg (by decide), if_neg (by decide), if_neg (by decide), if_neg (by decide), if_neg (by decide), if_neg (by decide), if_pos rfl, if_pos (by simp only [List.length_append, List.length_cons, List.length_nil]; omega), if_pos (by simp only [List.length_append, List.length_cons, List.length_nil]; omega), ar, zA, if_pos (by simp only [List.length_append, List.length_cons, List.length_nil]; omega), fin [[64], s] rfl (by simp),
        show ([[64], s] : List Str) = [[64]] ++ [s] from rfl, z1z (by simp) (by simp), z0x, z0x]; simp
  | @one x w p1 ih1 =>
    intro L i last out hd hL hs hw
    have hj := z3R w
    obtain ⟨e1, e2⟩ := y3N hL (ih1 hw) hw hd last out (by omega)
    have hsp : (y6f i).length ≤ 2 := by unfold y6f; split <;> simp
    rw [e1, y6n _ _ _ _ (by have := congrArg List.length e2; simp at this; omega) (by simp only [List.length_append, List.length_cons, List.length_nil]; omega)]
  | @cons x l w wl p1 p2 ih1 ih2 =>
    intro L i last out hd hL hs hw
    rw [zG, zG] at hs hw
    simp only [szw, List.length_cons, List.length_nil] at hs hw
    have hj := z3R w
    have hj2 := z3R wl
    have hsp : (y6f i).length ≤ 2 := by unfold y6f; split <;> simp
    obtain ⟨e1, e2⟩ := y3N hL (ih1 (by omega)) (by omega) hd last out (by omega)
    have h9 := y7p (z5j p1)
    rw [e1, ih2 L (i + 1) last _ e2 hL (by simp only [List.length_append, List.length_cons, List.length_nil]; omega) (by omega), z1z (by simp) (z5j p2), z1z (z5j p1) (by simp), z0x]
    simp [y6f]
mutual
def z2I : zI → Nat
  | ⟨_, _, _, l, _, _⟩ => 1 + wY l
def wY : List zI → Nat
  | [] => 0
  | x :: r => z2I x + wY r
end
theorem y2W (t : zI) : z2I t = 1 + wY t.L := by cases t; simp [z2I]
theorem y5k (t : zI) : 0 < z2I t := by rw [y2W]; omega
theorem y2m {l : List zI} {i : Nat} (h : i < l.length) : wY (l.drop i) = z2I l[i] + wY (l.drop (i + 1)) := by
  rw [List.drop_eq_getElem_cons h, wY]
theorem y3I (l : List zI) : l.length ≤ wY l := by
  induction l with
  | nil => simp [wY]
  | cons x r ih => have := y5k x; simp [wY]; omega
theorem y2n (l : List zI) (i : Nat) : wY l = wY (l.take i) + wY (l.drop i) := by
  induction l generalizing i with
  | nil => simp [wY]
  | cons x r ih =>
    cases i with
    | zero => simp [wY]
    | succ i => simp [wY, ih i]; omega
def TW (w : List Str) : Prop := ∀ x ∈ w, ∃ k n t, Tok k n t x
theorem uK {a b : List Str} (ha : TW a) (hb : TW b) : TW (a ++ b) := fun x hx => by
  rcases List.mem_append.1 hx with h | h
  · exact ha x h
  · exact hb x h
theorem gU {w : Str} {k n : Int} {t : Str} (h : Tok k n t w) : TW [w] := fun x hx => by
  rw [List.mem_singleton] at hx; subst hx; exact ⟨_, _, _, h⟩
theorem jG {w : Str} {k n : Int} {t : Str} (h : one w = .inr (k, n, t, w.length)) : Tok k n t w := by
  have := (y4E h).1
  rwa [List.take_of_length_le (Nat.le_refl _)] at this
theorem y3J {k : Nat} {x : zI} {w : List Str} (h : TW w) : TW (hw k x w) := by
  unfold hw; split
  · exact h
  · exact uK (uK (gU (jG (w := [40]) rfl)) h) (gU (jG (w := [41]) rfl))
theorem y6w {k : Int} {s : Str} (h : Nm s) : TW (z2U k s) := by
  unfold z2U
  split
  · exact gU h
  · split
    · exact uK (a := [[64]]) (gU (jG (w := [64]) rfl)) (gU h)
    · exact uK (a := [[110, 101, 119]]) (gU (jG (w := [110, 101, 119]) rfl)) (gU h)
theorem y7R {c : XC} {w : List Str} (h : PR c w) : TW w := by
  have o1 : TW [[40]] := gU (jG (w := [40]) rfl)
  have o2 : TW [[41]] := gU (jG (w := [41]) rfl)
  have o3 : TW [[91]] := gU (jG (w := [91]) rfl)
  have o4 : TW [[93]] := gU (jG (w := [93]) rfl)
  induction h with
  | num h1 h2 => exact gU h2
  | tru => exact gU (jG (w := [116, 114, 117, 101]) rfl)
  | fal => exact gU (jG (w := [102, 97, 108, 115, 101]) rfl)
  | rd => exact gU (jG (w := [114, 101, 97, 100]) rfl)
  | name h => exact gU h
  | bin h1 h2 _ _ ih1 ih2 => exact uK (uK (y3J ih1) (gU (jG (y2R h1 h2)))) (y3J ih2)
  | neg _ ih => exact uK (gU (jG (w := [45]) rfl)) (y3J ih)
  | not _ ih => exact uK (gU (jG (w := [33]) rfl)) (y3J ih)
  | index _ _ ih1 ih2 => exact uK (uK (uK (y3J ih1) o3) ih2) o4
  | field h _ ih => exact uK (y3J ih) (uK (a := [[46]]) (gU (jG (w := [46]) rfl)) (gU h))
  | lis _ ih => exact uK (uK o3 ih) o4
  | call _ h _ ih => exact uK (uK (uK (y6w h) o1) ih) o2
  | call0 _ h => exact uK (uK (uK (y6w h) o1) (fun x hx => by simp at hx)) o2
  | one _ ih => exact ih
  | cons _ _ ih1 ih2 => exact uK (uK ih1 (gU (jG (w := [44]) rfl))) ih2
theorem y7u : ∀ r : List Str, (r.map (([32] : Str) ++ ·)).flatten = jn r
  | [] => rfl
  | w :: r => by rw [List.map_cons, List.flatten_cons, y7u r]; rfl
theorem y7o (ws : List Str) : J ws = body ws := by
  cases ws with
  | nil => rfl
  | cons w r => show w ++ (r.map (([32] : Str) ++ ·)).flatten = w ++ jn r; rw [y7u]
def LW : List zC → List Str → Prop
  | [], [] => True
  | y :: ys, w :: ws => TM y w ∧ LW ys ws
  | _, _ => False
theorem LW.len : ∀ {ys : List zC} {ws : List Str}, LW ys ws → ys.length = ws.length
  | [], [], _ => rfl
  | _ :: _, _ :: _, h => by rw [List.length_cons, List.length_cons, LW.len h.2]
  | [], _ :: _, h => h.elim
  | _ :: _, [], h => h.elim
theorem y7q : ∀ {ys : List zC} {ws : List Str} (pre : List zC) (e : zC), LW ys ws → At (pre ++ ys ++ [e]) pre.length ws
  | [], [], _, _, _ => trivial
  | y :: ys, w :: ws, pre, e, ⟨h1, h2⟩ => by
    have h := y7q (pre ++ [y]) e h2
    rw [show pre ++ [y] ++ ys ++ [e] = pre ++ (y :: ys) ++ [e] by simp, List.length_append] at h
    refine ⟨⟨by simp, ?_⟩, h⟩
    have : zP (pre ++ (y :: ys) ++ [e]) pre.length = y := by
      unfold zP
      rw [List.append_assoc, List.getElem?_append_right (Nat.le_refl _), Nat.sub_self]; rfl
    rw [this]; exact h1
  | [], _ :: _, _, _, h => h.elim
  | _ :: _, [], _, _, h => h.elim
theorem y0h {ws : List Str} (h : TW ws) (m : Nat) : nxt m (body ws) = 0 := by
  cases ws with
  | nil => cases m <;> rfl
  | cons w ws =>
    obtain ⟨k, n, t, hw⟩ := h w (by simp)
    exact y7g hw (y6q ws) m
theorem y4P : ∀ (ws : List Str), TW ws → ∀ (n a : Nat) (out : List zC), ws.length < n → ∃ ys e, z5M n (body ws) a out = (out ++ ys ++ [e], 0, 0) ∧ e.K = 5 ∧ LW ys ws
  | [], _, n, a, out, hn => by
    obtain ⟨n, rfl⟩ : ∃ m, n = m + 1 := ⟨n - 1, by omega⟩
    exact ⟨[], ⟨5, 0, [], a, a⟩, by rw [List.append_nil]; rfl, rfl, trivial⟩
  | w :: ws, h, n, a, out, hn => by
    obtain ⟨n, rfl⟩ : ∃ m, n = m + 1 := ⟨n - 1, by simp only [List.length_cons] at hn; omega⟩
    obtain ⟨k, m0, t, hw⟩ := h w (by simp)
    have h4 : TW ws := fun x hx => h x (by simp [hx])
    have ho := hw _ (y6q ws)
    have hne := z4H ho
    have hbody : body (w :: ws) = w ++ jn ws := rfl
    have ht : ∀ s : List UInt8, s ≠ [] → z5M (n + 1) s a out = match one s with
        | .inl e => ([], (a : Int), e)
        | .inr (k, m, t, l) => z5M n ((s.drop l).drop (nxt 10000 (s.drop l))) (a + l + nxt 10000 (s.drop l)) (out ++ [⟨k, m, t, a, ((a + l : Nat) : Int)⟩]) := fun s hs => by
      cases s with
      | nil => exact absurd rfl hs
      | cons c q =>
        rw [z5M]; first | done | (rcases one (c :: q) with e | ⟨k, m, t, l⟩ <;> rfl)
    rw [hbody, ht _ (fun e => by have h9 := congrArg List.length e; simp only [List.length_append, List.length_nil] at h9; omega), ho]
    dsimp only
    rw [List.drop_left]
    have hsk : (jn ws).drop (nxt 10000 (jn ws)) = body ws := by
      cases ws with
      | nil => rfl
      | cons v vs =>
        have : nxt 10000 (jn (v :: vs)) = nxt 9999 (body (v :: vs)) + 1 := by rw [jn, nxt, if_pos (by decide)]; rfl
        rw [this, y0h h4]; rfl
    rw [hsk]
    obtain ⟨ys, e, e1, e2, e3⟩ := y4P ws h4 n (a + w.length + nxt 10000 (jn ws)) (out ++ [⟨k, m0, t, a, ((a + w.length : Nat) : Int)⟩]) (by simp at hn; omega)
    exact ⟨⟨k, m0, t, a, ((a + w.length : Nat) : Int)⟩ :: ys, e, by rw [e1]; simp, e2, hw, e3⟩
theorem y1Z {ws : List Str} (h : TW ws) (hl : szw ws ≤ 8192) : ∃ ys e, z3T (J ws) = (ys ++ [e], 0, 0) ∧ e.K = 5 ∧ LW ys ws := by
  have h1 := z3R ws
  have h2 := z2D ws
  unfold z3T
  rw [if_neg (by omega), y7o, y0h h, List.drop_zero]
  obtain ⟨ys, e, e1, e2, e3⟩ := y4P ws h 10000 0 [] (by omega)
  exact ⟨ys, e, by rw [e1]; simp, e2, e3⟩
theorem y6K {u : List zC} {b k : Nat} (h : (zP u b).K = 5) (hk : 1 ≤ k) : Fol u k b := by
  have hs : ∀ s, zY u b s = false := fun s => y7c (by rw [h]; decide)
  refine ⟨?_, hs _, hs _, hs _⟩
  unfold z3u; rw [if_neg (by rw [h]; decide)]; exact hk
theorem y4V (n : Nat) (hn : (n : Int) ≤ 9223372036854775807) : ∀ x y : zI, z6k x = z6k y → z2I x ≤ n → vZ x y = some true := by
  have bl : ∀ {l l' : List zI}, z2T l = z2T l' → l.length = l'.length ∧ ∀ (i : Nat) (h : i < l.length) (h' : i < l'.length), z6k l[i] = z6k l'[i] := by
    intro l
    induction l with
    | nil => intro l' e; cases l' with
      | nil => exact ⟨rfl, fun i h => by simp at h⟩
      | cons _ _ => simp [z2T] at e
    | cons x r ih => intro l' e; cases l' with
      | nil => simp [z2T] at e
      | cons y s =>
        simp only [z2T, List.cons.injEq] at e
        obtain ⟨g1, g2⟩ := ih e.2
        refine ⟨by simp [g1], fun i h h' => ?_⟩
        cases i with
        | zero => exact e.1
        | succ i => exact g2 i (by simpa using h) (by simpa using h')
  intro x
  induction x using zI.ind with
  | h x ih =>
    intro y e hs
    obtain ⟨K, N, S, L, F, T⟩ := x
    obtain ⟨K', N', S', L', F', T'⟩ := y
    simp only [z6k, zI.mk.injEq] at e
    obtain ⟨rfl, rfl, rfl, e, -, -⟩ := e
    obtain ⟨g1, g2⟩ := bl e
    have hlen := y3I L
    rw [y2W] at hs
    dsimp only at hs ih
    have loop : ∀ (k i : Nat), i + k = L.length → yP (i : Int) ⟨K, N, S, L, F, T⟩ ⟨K, N, S, L', F', T'⟩ = some true := by
      intro k
      induction k with
      | zero =>
        intro i hi
        rw [z3B]; unfold uZ; dsimp only
        rw [if_neg (by omega)]
      | succ k ihk =>
        intro i hi
        have hlt : i < L.length := by omega
        have hd := y2m hlt
        have ht := y2n L i
        rw [z3B]; unfold uZ; dsimp only
        rw [if_pos (by omega), gV hlt, zA, gV (show i < L'.length by omega), zA, ih _ (List.getElem_mem hlt) _ (g2 i hlt (by omega)) (by omega), zA, if_pos rfl, uS (by omega) (by omega), wR]
        exact ihk (i + 1) (by omega)
    rw [y1d]; unfold z0Q; dsimp only
    simp only [g1, if_true]
    exact loop L.length 0 (by omega)
theorem z8L (a b : List zI) : wY (a ++ b) = wY a + wY b := by
  induction a with
  | nil => simp [wY]
  | cons x r ih => simp [wY, ih]; omega
def SzM (t : List zC) : Cat → Nat → Res → Prop
  | .ll _ _ _ x, a, r => ∀ y b, r = .ok y b → z2I y + 2 * a ≤ z2I x + 2 * b
  | .pl _ x, a, r => ∀ y b, r = .ok y b → z2I y + 2 * a ≤ z2I x + 2 * b
  | .cls _, a, r => ∀ y b, r = .ok y b → wY y.L + 2 * a ≤ 2 * b
  | .lst acc, a, r => ∀ y b, r = .ok y b → wY y.L + 2 * a ≤ wY acc + 2 * b
  | _, a, r => ∀ y b, r = .ok y b → z2I y + 2 * a ≤ 2 * b
theorem y5e {t : List zC} {c : Cat} {a : Nat} {r : Res} (h : Der t c a r) : SzM t c a r := by
  induction h with
  | un _ _ ih => intro y b e; cases e; have := ih _ _ rfl; simp [wS, z2I, wY]; omega
  | unP _ _ _ ih => exact ih
  | lev _ _ _ _ ih1 ih2 => intro y b e; have := ih1 _ _ rfl; have := ih2 y b e; omega
  | llE _ _ => intro y b e; cases e; omega
  | llG _ _ _ _ _ ih1 ih2 => intro y b e; have := ih1 _ _ rfl; have := ih2 y b e; simp [wS, z2I, wY] at this; omega
  | post _ _ ih1 ih2 => intro y b e; have := ih1 _ _ rfl; have := ih2 y b e; omega
  | plE _ _ => intro y b e; cases e; omega
  | plI _ _ _ _ ih1 ih2 => intro y b e; have := ih1 _ _ rfl; have := ih2 y b e; simp [wS, z2I, wY] at this; omega
  | plF _ _ _ _ ih => intro y b e; have := ih y b e; simp [wS, z2I, wY] at this; omega
  | one _ => intro y b e; cases e; simp [wS, z2I, wY]; omega
  | par _ _ _ ih => intro y b e; cases e; have := ih _ _ rfl; omega
  | @call a o b k s few l h1 _ ih => intro y b' e; cases e; have h2 := ih _ _ rfl; have h3 := z1s h1; simp only [wS, z2I] at h2 ⊢; omega
  | lis _ _ _ ih => intro y b e; cases e; have := ih _ _ rfl; simp [wS, z2I, wY] at this ⊢; omega
  | clsF _ _ => intro y b e; cases e; simp [wY]; omega
  | cls _ _ _ _ ih => intro y b e; cases e; have := ih _ _ rfl; simp [wY] at this ⊢; omega
  | lstE _ _ ih => intro y b e; cases e; have := ih _ _ rfl; simp [z8L, wY]; omega
  | lstG _ _ _ ih1 ih2 => intro y b e; have := ih1 _ _ rfl; have := ih2 y b e; simp [z8L, wY] at this; omega
  | _ => intro y b e; cases e
theorem y7w {t : List zC} {k a b : Nat} {x : zI} (h : Der t (.lev k) a (.ok x b)) : z2I x + 2 * a ≤ 2 * b := y5e h x b rfl
def Chn (q : Int) : Int → List zI → Prop
  | _, [] => True
  | p, x :: r => p ≤ x.From ∧ x.From ≤ x.To ∧ x.To ≤ q ∧ Chn q x.To r
inductive Wn : zI → Prop
  | mk (t : zI) : Chn t.To t.From t.L → (∀ x ∈ t.L, Wn x) → Wn t
theorem Chn.mono {q q' : Int} (hq : q ≤ q') : ∀ {l : List zI} {p p' : Int}, p' ≤ p → Chn q p l → Chn q' p' l
  | [], _, _, _, _ => trivial
  | x :: r, p, p', hp, ⟨h1, h2, h3, h4⟩ => ⟨by omega, h2, by omega, Chn.mono hq (Int.le_refl _) h4⟩
def Mon (t : List zC) : Prop := ∀ i j, i ≤ j → j < t.length → (zP t i).From ≤ (zP t i).To ∧ (i < j → (zP t i).To ≤ (zP t j).From)
theorem y4F : ∀ {l : List zC} {a : Nat}, Ord a l → (∀ i, i < l.length → (a : Int) ≤ (zP l i).From) ∧ Mon l
  | [], a, h => h.elim
  | x :: r, a, ⟨f, t, h1, h2, h3, h4, h5⟩ => by
    have c0 : zP (x :: r) 0 = x := rfl
    have cs : ∀ i, zP (x :: r) (i + 1) = zP r i := fun i => rfl
    rcases h5 with ⟨rfl, -⟩ | ⟨-, h5⟩
    · refine ⟨fun i hi => ?_, fun i j hij hj => ?_⟩
      · have : i = 0 := by simpa using hi
        subst this; rw [c0]; omega
      · have : j = 0 := by simpa using hj
        have : i = 0 := by omega
        subst this; rw [c0]; exact ⟨by omega, fun h => by omega⟩
    · obtain ⟨g1, g2⟩ := y4F h5
      refine ⟨fun i hi => ?_, fun i j hij hj => ?_⟩
      · cases i with
        | zero => rw [c0]; omega
        | succ i => rw [cs]; have := g1 i (by simpa using hi); omega
      · cases i with
        | zero =>
          rw [c0]
          refine ⟨by omega, fun h => ?_⟩
          cases j with
          | zero => omega
          | succ j => rw [cs]; have := g1 j (by simpa using hj); omega
        | succ i =>
          cases j with
          | zero => omega
          | succ j => rw [cs, cs]; have := g2 i j (by omega) (by simpa using hj); exact ⟨this.1, fun h => this.2 (by omega)⟩
def byt (t : List zC) (a b : Nat) : Int := (zP t (b - 1)).To - (zP t a).From
def PXM (t : List zC) (c : Cat) (a : Nat) (r : Res) : Prop := ∀ x b, r = .ok x b → match c with
  | .ll _ _ f y => ∀ wy, f < a → PR (.ex y) wy → ((szw wy + 4 : Nat) : Int) ≤ 8 * byt t f a → ∃ w, PR (.ex x) w ∧ a ≤ b ∧ b ≤ t.length ∧ ((szw w + 4 : Nat) : Int) ≤ 8 * byt t f b
  | .pl f y => ∀ wy, f < a → PR (.ex y) wy → ((szw wy + 4 : Nat) : Int) ≤ 8 * byt t f a → ∃ w, PR (.ex x) w ∧ a ≤ b ∧ b ≤ t.length ∧ ((szw w + 4 : Nat) : Int) ≤ 8 * byt t f b
  | .cls few => ∃ l w, x = lT l ∧ ((few = true ∧ l = [] ∧ w = []) ∨ PR (.ls l) w) ∧ a < b ∧ b ≤ t.length ∧ ((szw w + 16 : Nat) : Int) ≤ 8 * byt t a b
  | .lst acc => ∃ l w, x = lT (acc ++ l) ∧ PR (.ls l) w ∧ a < b ∧ b ≤ t.length ∧ ((szw w + 4 : Nat) : Int) ≤ 8 * byt t a b
  | _ => ∃ w, PR (.ex x) w ∧ a < b ∧ b ≤ t.length ∧ ((szw w + 4 : Nat) : Int) ≤ 8 * byt t a b
section
variable {t : List zC} (tf : TF t) (hm : Mon t)
include tf hm
theorem y7m {a : Nat} (h : a < t.length) : y7H (zP t a) := by
  unfold zP; rw [List.getElem?_eq_getElem h]; exact tf _ (List.getElem_mem h)
theorem y7f {i j : Nat} (h1 : i < j) (h2 : j < t.length) : (zP t i).To ≤ (zP t j).From := (hm i j (by omega) h2).2 h1
theorem jZ {a : Nat} {s : Str} (h : zY t a s = true) : a < t.length ∧ (s.length : Int) = (zP t a).To - (zP t a).From := by
  have h0 := zT h
  unfold zY at h
  simp only [Bool.and_eq_true, decide_eq_true_eq, beq_iff_eq] at h
  have := (y7m tf hm h0).le (by rw [h.1]; decide) (by rw [h.1]; decide)
  rw [h.2] at this; exact ⟨h0, this⟩
theorem z6B {a : Nat} {s : Str} (h : uA t a s = true) : a < t.length ∧ (s.length : Int) = (zP t a).To - (zP t a).From := by
  have h0 := z2K h
  have hk := y1n h
  have := (y7m tf hm h0).le (by rw [hk.1]; decide) (by rw [hk.1]; decide)
  rw [hk.2] at this; exact ⟨h0, this⟩
theorem z7D {a : Nat} (h : (zP t a).K = 1) : a < t.length ∧ Nm (zP t a).S ∧ ((zP t a).S.length : Int) = (zP t a).To - (zP t a).From ∧ 1 ≤ (zP t a).To - (zP t a).From := by
  have h0 := uR (t := t) (a := a) (by rw [h]; decide)
  have f := y7m tf hm h0
  exact ⟨h0, f.nm h, f.le (by rw [h]; decide) (by rw [h]; decide), f.po (by rw [h]; decide)⟩
theorem y7A {a : Nat} {k n : Int} {s : Str} (h : wU t a = .one k n s) (F T : Int) : a < t.length ∧ ∃ w, PR (.ex ⟨k, n, s, [], F, T⟩) w ∧ ((szw w + 4 : Nat) : Int) ≤ 8 * ((zP t a).To - (zP t a).From) := by
  unfold wU at h
  by_cases h2 : (zP t a).K = 2
  · rw [if_pos h2] at h
    simp only [AK.one.injEq] at h
    obtain ⟨rfl, rfl, rfl⟩ := h
    have h0 := uR (t := t) (a := a) (by rw [h2]; decide)
    have f := y7m tf hm h0
    obtain ⟨n, g1, g2, g3, g4⟩ := f.nu h2
    have g5 := f.po (by rw [h2]; decide)
    rw [g1]
    exact ⟨h0, _, .num g2 g3, by simp only [szw]; omega⟩
  rw [if_neg h2] at h
  by_cases h1 : (zP t a).K = 1
  · rw [if_pos h1] at h
    by_cases h3 : zY t (a + 1) [40] = true
    · rw [if_pos h3] at h; cases h
    · rw [if_neg h3] at h
      simp only [AK.one.injEq] at h
      obtain ⟨rfl, rfl, rfl⟩ := h
      obtain ⟨g0, g1, g2, g3⟩ := z7D tf hm h1
      exact ⟨g0, _, .name g1, by simp only [szw]; omega⟩
  rw [if_neg h1] at h
  by_cases h3 : uA t a [116, 114, 117, 101] = true
  · rw [if_pos h3] at h
    simp only [AK.one.injEq] at h
    obtain ⟨rfl, rfl, rfl⟩ := h
    obtain ⟨g0, g1⟩ := z6B tf hm h3
    exact ⟨g0, _, .tru, by rw [← g1]; decide⟩
  rw [if_neg h3] at h
  by_cases h4 : uA t a [102, 97, 108, 115, 101] = true
  · rw [if_pos h4] at h
    simp only [AK.one.injEq] at h
    obtain ⟨rfl, rfl, rfl⟩ := h
    obtain ⟨g0, g1⟩ := z6B tf hm h4
    exact ⟨g0, _, .fal, by rw [← g1]; decide⟩
  rw [if_neg h4] at h
  by_cases h5 : uA t a [114, 101, 97, 100] = true
  · rw [if_pos h5] at h
    simp only [AK.one.injEq] at h
    obtain ⟨rfl, rfl, rfl⟩ := h
    obtain ⟨g0, g1⟩ := z6B tf hm h5
    exact ⟨g0, _, .rd, by rw [← g1]; decide⟩
  rw [if_neg h5] at h
  exfalso
  revert h
  repeat' split
  all_goals (intro h; cases h)
theorem y6F {a o : Nat} {k : Int} {s : Str} {few : Bool} (h : wU t a = .call k s o few) : Nm s ∧ (k = 15 ∨ k = 16 ∨ k = 17) ∧ (few = true → k = 16 ∨ k = 17) ∧ a < o ∧ o ≤ t.length ∧ (szw (z2U k s) : Int) ≤ 8 * byt t a o := by
  unfold wU at h
  by_cases h2 : (zP t a).K = 2
  · rw [if_pos h2] at h; cases h
  rw [if_neg h2] at h
  by_cases h1 : (zP t a).K = 1
  · rw [if_pos h1] at h
    by_cases h3 : zY t (a + 1) [40] = true
    · rw [if_pos h3] at h
      simp only [AK.call.injEq] at h
      obtain ⟨rfl, rfl, rfl, rfl⟩ := h
      obtain ⟨g0, g1, g2, g3⟩ := z7D tf hm h1
      refine ⟨g1, by omega, fun _ => by omega, by omega, by omega, ?_⟩
      unfold byt z2U
      rw [if_pos rfl, Nat.add_sub_cancel]; simp only [szw]; omega
    · rw [if_neg h3] at h; cases h
  rw [if_neg h1] at h
  by_cases h3 : uA t a [116, 114, 117, 101] = true
  · rw [if_pos h3] at h; cases h
  rw [if_neg h3] at h
  by_cases h4 : uA t a [102, 97, 108, 115, 101] = true
  · rw [if_pos h4] at h; cases h
  rw [if_neg h4] at h
  by_cases h5 : uA t a [114, 101, 97, 100] = true
  · rw [if_pos h5] at h; cases h
  rw [if_neg h5] at h
  by_cases h6 : uA t a [110, 101, 119] = true
  · rw [if_pos h6] at h
    by_cases h7 : (zP t (a + 1)).K = 1
    · rw [if_pos h7] at h
      simp only [AK.call.injEq] at h
      obtain ⟨rfl, rfl, rfl, rfl⟩ := h
      obtain ⟨q0, q1⟩ := z6B tf hm h6
      obtain ⟨g0, g1, g2, g3⟩ := z7D tf hm h7
      have := y7f tf hm (show a < a + 1 by omega) g0
      refine ⟨g1, by omega, fun h => by simp at h, by omega, by omega, ?_⟩
      unfold byt z2U
      rw [if_neg (by decide), if_neg (by decide), show a + 2 - 1 = a + 1 by omega]; simp only [szw, List.length_cons, List.length_nil] at q1 ⊢; omega
    · rw [if_neg h7] at h; cases h
  rw [if_neg h6] at h
  by_cases h7 : zY t a [40] = true
  · rw [if_pos h7] at h; cases h
  rw [if_neg h7] at h
  by_cases h8 : zY t a [91] = true
  · rw [if_pos h8] at h; cases h
  rw [if_neg h8] at h
  by_cases h9 : zY t a [64] = true
  · rw [if_pos h9] at h
    by_cases h7 : (zP t (a + 1)).K = 1
    · rw [if_pos h7] at h
      simp only [AK.call.injEq] at h
      obtain ⟨rfl, rfl, rfl, rfl⟩ := h
      obtain ⟨q0, q1⟩ := jZ tf hm h9
      obtain ⟨g0, g1, g2, g3⟩ := z7D tf hm h7
      have := y7f tf hm (show a < a + 1 by omega) g0
      refine ⟨g1, by omega, fun _ => by omega, by omega, by omega, ?_⟩
      unfold byt z2U
      rw [if_neg (by decide), if_pos rfl, show a + 2 - 1 = a + 1 by omega]; simp only [szw, List.length_cons, List.length_nil] at q1 ⊢; omega
    · rw [if_neg h7] at h; cases h
  rw [if_neg h9] at h
  cases h
theorem y2t {a : Nat} : (wU t a = .paren → zY t a [40] = true) ∧ (wU t a = .lis → zY t a [91] = true) := by
  unfold wU
  repeat' split
  all_goals (first | exact ⟨fun h => AK.noConfusion h, fun h => AK.noConfusion h⟩ | (rename_i h; exact ⟨fun _ => h, fun h => AK.noConfusion h⟩) | (rename_i h; exact ⟨fun h => AK.noConfusion h, fun _ => h⟩))
theorem jW {f a b : Nat} (h1 : f < a) (h2 : a < b) (h3 : b ≤ t.length) : byt t f a + byt t a b ≤ byt t f b := by
  unfold byt
  have := y7f tf hm (show a - 1 < a by omega) (show a < t.length by omega)
  omega
theorem z1g {a : Nat} : byt t a (a + 1) = (zP t a).To - (zP t a).From := by unfold byt; rw [Nat.add_sub_cancel]
theorem y7t {c : Cat} {a : Nat} {r : Res} (h : Der t c a r) : a ≤ t.length → PXM t c a r := by
  induction h with
  | @un a b n x h1 h2 ih =>
    intro ha y b' e
    cases e
    have hs : a < t.length ∧ (1 : Int) = (zP t a).To - (zP t a).From := by
      rcases h1 with ⟨-, h⟩ | ⟨-, h⟩ <;> exact jZ tf hm h
    obtain ⟨w, g1, g2, g3, g4⟩ := ih (by omega) x b rfl
    have e1 := jW tf hm (show a < a + 1 by omega) g2 g3
    rw [z1g tf hm] at e1
    have e2 := y1h 6 x w
    rcases h1 with ⟨rfl, h⟩ | ⟨rfl, h⟩
    · exact ⟨_, .neg g1, by omega, g3, by rw [zG]; simp only [szw, List.length_cons, List.length_nil]; omega⟩
    · exact ⟨_, .not g1, by omega, g3, by rw [zG]; simp only [szw, List.length_cons, List.length_nil]; omega⟩
  | unB _ _ _ => intro _ x b e; cases e
  | unP _ _ _ ih => intro ha x b e; exact ih ha x b e
  | lev h1 h2 h3 h4 ih1 ih2 =>
    intro ha x b e
    obtain ⟨w, g1, g2, g3, g4⟩ := ih1 ha _ _ rfl
    obtain ⟨w2, q1, q2, q3, q4⟩ := ih2 g3 x b e w g2 g1 g4
    exact ⟨w2, q1, by omega, q3, q4⟩
  | levB _ _ _ _ => intro _ x b e; cases e
  | llE _ _ =>
    intro ha x b e
    cases e
    intro wy h1 h2 h3
    exact ⟨wy, h2, Nat.le_refl _, ha, h3⟩
  | @llG k m f a b x y r h1 h2 h3 h4 h5 ih1 ih2 =>
    intro ha z c e wx k1 k2 k3
    have hop : (z3u (zP t a)).2 ≠ 0 := by omega
    obtain ⟨o1, o2, o3, o4⟩ := y5Y hop
    have hk := z1U hop
    have hlt := uR (t := t) (a := a) (by rw [hk]; decide)
    have hle := (y7m tf hm hlt).le (by rw [hk]; decide) (by rw [hk]; decide)
    have hpo := (y7m tf hm hlt).po (by rw [hk]; decide)
    obtain ⟨w, g1, g2, g3, g4⟩ := ih1 (by omega) _ _ rfl
    have e1 := jW tf hm (show a < a + 1 by omega) g2 g3
    have e2 := jW tf hm k1 (show a < b by omega) g3
    rw [z1g tf hm] at e1
    have s1 := y1h (z4K (z3u (zP t a)).1) x wx
    have s2 := y1h (z1c (z3u (zP t a)).1 + 1) y w
    obtain ⟨w2, q1, q2, q3, q4⟩ := ih2 g3 z c e _ (by omega) (.bin o1 o2 k2 g1) (by
      rw [zG, zG]; simp only [szw]; rw [o3]; omega)
    exact ⟨w2, q1, by omega, q3, q4⟩
  | llB _ _ _ _ _ => intro _ x b e; cases e
  | post h1 h2 ih1 ih2 =>
    intro ha x b e
    obtain ⟨w, g1, g2, g3, g4⟩ := ih1 ha _ _ rfl
    obtain ⟨w2, q1, q2, q3, q4⟩ := ih2 g3 x b e w g2 g1 g4
    exact ⟨w2, q1, by omega, q3, q4⟩
  | postB _ _ => intro _ x b e; cases e
  | plE _ _ =>
    intro ha x b e
    cases e
    intro wy h1 h2 h3
    exact ⟨wy, h2, Nat.le_refl _, ha, h3⟩
  | @plI f a b x i r h1 h2 h3 h4 ih1 ih2 =>
    intro ha z c e wx k1 k2 k3
    obtain ⟨p0, p1⟩ := jZ tf hm h1
    obtain ⟨p2, p3⟩ := jZ tf hm h3
    obtain ⟨w, g1, g2, g3, g4⟩ := ih1 (by omega) _ _ rfl
    have e1 := jW tf hm (show a < a + 1 by omega) g2 g3
    have e2 := jW tf hm k1 (show a < b by omega) g3
    have e3 := jW tf hm (show f < b by omega) (show b < b + 1 by omega) p2
    rw [z1g tf hm] at e1 e3
    have s1 := y1h 7 x wx
    simp only [List.length_cons, List.length_nil] at p1 p3
    obtain ⟨w2, q1, q2, q3, q4⟩ := ih2 p2 z c e _ (by omega) (.index k2 g1) (by
      rw [zG, zG, zG]; simp only [szw, List.length_cons, List.length_nil]; omega)
    exact ⟨w2, q1, by omega, q3, q4⟩
  | plI1 _ _ _ => intro _ x b e; cases e
  | plI2 _ _ _ _ => intro _ x b e; cases e
  | @plF f a x r h1 h2 h3 h4 ih =>
    intro ha z c e wx k1 k2 k3
    obtain ⟨p0, p1⟩ := jZ tf hm h2
    obtain ⟨g0, g1, g2, g3⟩ := z7D tf hm h3
    have e1 := jW tf hm (show a < a + 1 by omega) (show a + 1 < a + 2 by omega) g0
    have e2 := jW tf hm k1 (show a < a + 2 by omega) g0
    rw [z1g tf hm, show byt t (a + 1) (a + 2) = (zP t (a + 1)).To - (zP t (a + 1)).From from z1g tf hm] at e1
    have s1 := y1h 7 x wx
    simp only [List.length_cons, List.length_nil] at p1
    obtain ⟨w2, q1, q2, q3, q4⟩ := ih g0 z c e _ (by omega) (.field g1 k2) (by
      rw [zG]; simp only [szw, List.length_cons, List.length_nil]; omega)
    exact ⟨w2, q1, by omega, q3, q4⟩
  | plFB _ _ _ => intro _ x b e; cases e
  | one h =>
    intro ha x b e
    cases e
    obtain ⟨g0, w, g1, g2⟩ := y7A tf hm h _ _
    exact ⟨w, g1, by omega, g0, by rw [z1g tf hm]; exact g2⟩
  | @par a b x h1 h2 h3 ih =>
    intro ha y c e
    cases e
    obtain ⟨p0, p1⟩ := jZ tf hm ((y2t tf hm).1 h1)
    obtain ⟨p2, p3⟩ := jZ tf hm h3
    obtain ⟨w, g1, g2, g3, g4⟩ := ih (by omega) _ _ rfl
    have e1 := jW tf hm (show a < a + 1 by omega) g2 g3
    have e3 := jW tf hm (show a < b by omega) (show b < b + 1 by omega) p2
    rw [z1g tf hm] at e1 e3
    simp only [List.length_cons, List.length_nil] at p1 p3
    exact ⟨w, g1, by omega, p2, by omega⟩
  | par1 _ _ _ => intro _ x b e; cases e
  | par2 _ _ _ _ => intro _ x b e; cases e
  | @call a o b k s few l h1 h2 ih =>
    intro ha y c e
    cases e
    obtain ⟨c1, c2, c3, c4, c5, c6⟩ := y6F tf hm h1
    obtain ⟨l', w, e0, g1, g2, g3, g4⟩ := ih c5 _ _ rfl
    have el : l = l' := by have := congrArg zI.L e0; exact this
    subst el
    have e2 := jW tf hm c4 g2 g3
    rcases g1 with ⟨f1, rfl, rfl⟩ | g1
    · refine ⟨_, .call0 (c3 f1) c1, by omega, g3, ?_⟩
      rw [zG, zG, zG]; simp only [szw, List.length_cons, List.length_nil] at g4 ⊢; omega
    · refine ⟨_, .call c2 c1 g1, by omega, g3, ?_⟩
      rw [zG, zG, zG]; simp only [szw, List.length_cons, List.length_nil] at g4 ⊢; omega
  | callB _ _ _ => intro _ x b e; cases e
  | @lis a b l h1 h2 h3 ih =>
    intro ha y c e
    cases e
    obtain ⟨p0, p1⟩ := jZ tf hm ((y2t tf hm).2 h1)
    obtain ⟨p2, p3⟩ := jZ tf hm h3
    obtain ⟨l', w, e0, g1, g2, g3, g4⟩ := ih (by omega) _ _ rfl
    have el : l = l' := by have := congrArg zI.L e0; simpa using this
    subst el
    have e1 := jW tf hm (show a < a + 1 by omega) g2 g3
    have e3 := jW tf hm (show a < b by omega) (show b < b + 1 by omega) p2
    rw [z1g tf hm] at e1 e3
    simp only [List.length_cons, List.length_nil] at p1 p3
    refine ⟨_, .lis g1, by omega, p2, ?_⟩
    rw [zG, zG]; simp only [szw, List.length_cons, List.length_nil]; omega
  | lis1 _ _ _ => intro _ x b e; cases e
  | lis2 _ _ _ _ => intro _ x b e; cases e
  | nm _ => intro _ x b e; cases e
  | no _ => intro _ x b e; cases e
  | cls0 _ => intro _ x b e; cases e
  | @clsF a h1 h2 =>
    intro ha y c e
    cases e
    obtain ⟨p0, p1⟩ := jZ tf hm h1
    obtain ⟨p2, p3⟩ := jZ tf hm h2
    have e1 := jW tf hm (show a < a + 1 by omega) (show a + 1 < a + 2 by omega) p2
    rw [z1g tf hm, show byt t (a + 1) (a + 2) = (zP t (a + 1)).To - (zP t (a + 1)).From from z1g tf hm] at e1
    simp only [List.length_cons, List.length_nil] at p1 p3
    exact ⟨[], [], rfl, .inl ⟨rfl, rfl, rfl⟩, by omega, p2, by simp only [szw]; omega⟩
  | @cls a b few l h1 h2 h3 h4 ih =>
    intro ha y c e
    cases e
    obtain ⟨p0, p1⟩ := jZ tf hm h1
    obtain ⟨p2, p3⟩ := jZ tf hm h4
    obtain ⟨l', w, e0, g1, g2, g3, g4⟩ := ih (by omega) _ _ rfl
    have el : l = l' := by have := congrArg zI.L e0; simpa using this
    subst el
    have e1 := jW tf hm (show a < a + 1 by omega) g2 g3
    have e3 := jW tf hm (show a < b by omega) (show b < b + 1 by omega) p2
    rw [z1g tf hm] at e1 e3
    simp only [List.length_cons, List.length_nil] at p1 p3
    exact ⟨l, w, rfl, .inr g1, by omega, p2, by omega⟩
  | cls1 _ _ _ _ => intro _ x b e; cases e
  | cls2 _ _ _ _ _ => intro _ x b e; cases e
  | @lstE a b acc x h1 h2 ih =>
    intro ha y c e
    cases e
    obtain ⟨w, g1, g2, g3, g4⟩ := ih ha _ _ rfl
    exact ⟨[x], w, rfl, .one g1, g2, g3, g4⟩
  | @lstG a b acc x r h1 h2 h3 ih1 ih2 =>
    intro ha y c e
    obtain ⟨w, g1, g2, g3, g4⟩ := ih1 ha _ _ rfl
    obtain ⟨p0, p1⟩ := jZ tf hm h2
    obtain ⟨l', w', e0, q1, q2, q3, q4⟩ := ih2 p0 y c e
    have e1 := jW tf hm g2 (show b < b + 1 by omega) p0
    have e2 := jW tf hm (show a < b + 1 by omega) q2 q3
    rw [z1g tf hm] at e1
    simp only [List.length_cons, List.length_nil] at p1
    refine ⟨x :: l', _, by rw [e0]; simp, .cons g1 q1, by omega, q3, ?_⟩
    rw [zG, zG]; simp only [szw, List.length_cons, List.length_nil]; omega
  | lstB _ _ => intro _ x b e; cases e
end
theorem y7h (text : List UInt8) : ∀ (n a : Nat) (out : List zC), text.length < a + n → a ≤ text.length → (z5M n (text.drop a) a out).2.2 = 0 → ∃ r, (z5M n (text.drop a) a out).1 = out ++ r ∧ r.length + a ≤ text.length + 1 ∧ ∀ x ∈ r, x.To ≤ (text.length : Int) := by
  intro n
  induction n with
  | zero => intro a out h1 h2; omega
  | succ n ih =>
    intro a out h1 h2 he
    by_cases ha : a < text.length
    · have hd := List.drop_eq_getElem_cons ha
      have ht : z5M (n + 1) (text.drop a) a out = match one (text.drop a) with
        | .inl e => ([], (a : Int), e)
        | .inr (k, m, t, l) => z5M n (((text.drop a).drop l).drop (nxt 10000 ((text.drop a).drop l))) (a + l + nxt 10000 ((text.drop a).drop l)) (out ++ [⟨k, m, t, a, ((a + l : Nat) : Int)⟩]) := by
        rw [hd, z5M]; first | done | rfl
      rw [ht] at he ⊢
      cases ho : one (text.drop a) with
      | inl e =>
        rw [ho] at he
        exfalso
        have he2 : e = 0 := he
        rw [hd] at ho
        rw [one] at ho
        subst he2
        revert ho
        repeat' split
        all_goals (intro ho; first | (injection ho with ho; omega) | cases ho)
      | inr q =>
        obtain ⟨k, m, t, l⟩ := q
        rw [ho] at he
        dsimp only at he ⊢
        have hlen := z4H ho
        rw [List.length_drop] at hlen
        have hle := z6b 10000 (text.drop (a + l))
        rw [List.length_drop] at hle
        rw [show (text.drop a).drop l = text.drop (a + l) from List.drop_drop .., List.drop_drop (l := text)] at he ⊢
        obtain ⟨r, e1, e2, e3⟩ := ih (a + l + nxt 10000 (text.drop (a + l))) _ (by omega) (by omega) he
        refine ⟨⟨k, m, t, a, ((a + l : Nat) : Int)⟩ :: r, by rw [e1]; simp, by simp only [List.length_cons]; omega, fun x hx => ?_⟩
        rcases List.mem_cons.1 hx with rfl | hx
        · show ((a + l : Nat) : Int) ≤ _; omega
        · exact e3 x hx
    · have h4 : text.drop a = [] := List.drop_eq_nil_of_le (by omega)
      have h5 : a = text.length := by omega
      rw [h4, z5M]
      exact ⟨[⟨5, 0, [], a, a⟩], rfl, by simp only [List.length_cons, List.length_nil]; omega, fun x hx => by simp at hx; subst hx; show (a : Int) ≤ _; omega⟩
theorem y5S {text : Str} (h : (z3T text).2.2 = 0) : (z3T text).1.length ≤ text.length + 1 ∧ ∀ x ∈ (z3T text).1, x.To ≤ (text.length : Int) := by
  unfold z3T at h ⊢
  by_cases h1 : text.length > 8192
  · rw [if_pos h1] at h; cases h
  · rw [if_neg h1] at h ⊢
    have hle := z6b 10000 text
    obtain ⟨r, e1, e2, e3⟩ := y7h text 10000 (nxt 10000 text) [] (by omega) (by omega) h
    rw [e1]; exact ⟨by rw [List.nil_append]; omega, by rw [List.nil_append]; exact e3⟩
theorem jX (t : List zC) (a : Nat) : jH t a = some (zP t a) := by
  unfold jH zP
  by_cases h : a < t.length
  · rw [if_pos (show (a : Int) < (t.length : Int) by omega), gV h, zA, List.getElem?_eq_getElem h]; rfl
  · rw [if_neg (show ¬ (a : Int) < (t.length : Int) by omega), List.getElem?_eq_none (by omega)]; rfl
theorem yA (s : Str) (t : List zC) (a : Nat) : vI t a s = some (zY t a s) := by
  unfold vI zY
  rw [jX, zA]
  by_cases h : (zP t a).K = 4
  · rw [if_pos h, decide_eq_true h]; rfl
  · rw [if_neg h, decide_eq_false h]; rfl
theorem jI (s : Str) (t : List zC) (a : Nat) : gX t a s = some (uA t a s) := by
  unfold gX uA
  rw [jX, zA]
  by_cases h : (zP t a).K = 3
  · rw [if_pos h, decide_eq_true h]; rfl
  · rw [if_neg h, decide_eq_false h]; rfl
theorem z1q (t : List zC) (hl : t.length ≤ 9223372036854775807) (f a : Nat) (hf : f < a) (ha : a ≤ t.length) (k n : Int) (s : Str) (l : List zI) : yT t f a k n s l = some ⟨wS t f a ⟨k, n, s, l, 0, 0⟩, (a : Int), 0⟩ := by
  unfold yT wS zP
  have h1 : IntKind.wrap .i64 ((a : Int) - 1) = ((a - 1 : Nat) : Int) := by rw [uS (by omega) (by omega)]; omega
  rw [gV (show f < t.length by omega), zA, h1, gV (show a - 1 < t.length by omega), zA, List.getElem?_eq_getElem (show f < t.length by omega), List.getElem?_eq_getElem (show a - 1 < t.length by omega)]; rfl
end Go.Proofs.Ythbhgdooeeapjaa.M

