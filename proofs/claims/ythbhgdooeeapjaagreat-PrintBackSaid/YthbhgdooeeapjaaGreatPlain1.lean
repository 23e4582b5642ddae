import Derived.Test.YthbhgdooeeapjaaGreatMod
import Derived.Test.YthbhgdooeeapjaaGreatWf
namespace Go.Proofs.YthbhgdooeeapjaaGreat.M
open Go Nt
set_option linter.unusedVariables false
set_option linter.unusedSimpArgs false
set_option linter.unusedSectionVars false
theorem z3B {n : Int} (h1 : -9223372036854775808 ≤ n) (h2 : n ≤ 9223372036854775807) : IntKind.wrap .i64 n = n := by rw [IntKind.wrap_i64]; omega
theorem v4Q {α : Type} (l : List α) (n : Nat) : idx l (n : Int) = l[n]? := by unfold idx; rw [if_pos (by omega)]; rfl
theorem z3D {α : Type} {l : List α} {n : Nat} (h : n < l.length) : idx l (n : Int) = some l[n] := by rw [v4Q]; exact List.getElem?_eq_getElem h
theorem v3v {α : Type} {l : List α} : idx l 0 = l[0]? := rfl
theorem zA {α β : Type} (x : α) (k : α → Option β) : (some x >>= k) = k x := rfl
theorem z1J (n : Nat) : ((n : Int) + 1) = ((n + 1 : Nat) : Int) := by omega
def ltr (c : UInt8) : Bool := (decide (97 ≤ c.toNat) && decide (c.toNat ≤ 122)) || (decide (65 ≤ c.toNat) && decide (c.toNat ≤ 90)) || c.toNat == 95
def dgt (c : UInt8) : Bool := decide (48 ≤ c.toNat) && decide (c.toNat ≤ 57)
def mor (c : UInt8) : Bool := ltr c || dgt c
def lin (c : UInt8) : Bool := !(c.toNat == 10)
def blk (c : UInt8) : Bool := c.toNat == 32 || c.toNat == 9 || c.toNat == 10 || c.toNat == 13
theorem v4o (c : UInt8) (t : Str) (a : Int) (o : List zB) : z0V (Int.ofNat (UInt8.toNat c)) t a o = some (ltr c) := by
  unfold z0V ltr
  generalize c.toNat = n
  rw [show Int.ofNat n = (n : Int) from rfl]
  repeat' split
  all_goals (simp only [Option.some.injEq]; rw [Bool.eq_iff_iff]; simp; omega)
theorem v1d (c : UInt8) (t : Str) (a : Int) (o : List zB) : z0E (Int.ofNat (UInt8.toNat c)) t a o = some (dgt c) := by
  unfold z0E dgt
  generalize c.toNat = n
  rw [show Int.ofNat n = (n : Int) from rfl]
  repeat' split
  all_goals (simp only [Option.some.injEq]; rw [Bool.eq_iff_iff]; simp; omega)
theorem v6a (c : UInt8) (t : Str) (a : Int) (o : List zB) : z2t (Int.ofNat (UInt8.toNat c)) t a o = some (mor c) := by
  unfold z2t mor
  rw [v4o, zA]
  cases ltr c with
  | true => rfl
  | false => rw [if_neg (by simp), v1d, zA]; rfl
theorem v5W (c : UInt8) (t : Str) (a : Int) (o : List zB) : z2s (Int.ofNat (UInt8.toNat c)) t a o = some (lin c) := by
  unfold z2s lin
  generalize c.toNat = n
  rw [show Int.ofNat n = (n : Int) from rfl]
  simp only [Option.some.injEq]; rw [Bool.eq_iff_iff]; simp; omega
theorem v2O (c : UInt8) (n : Nat) : (Int.ofNat (UInt8.toNat c) = (n : Int)) ↔ c.toNat = n := by
  rw [show Int.ofNat (UInt8.toNat c) = ((UInt8.toNat c : Nat) : Int) from rfl]; omega
def tw (p : UInt8 → Bool) : List UInt8 → Nat
  | [] => 0
  | c :: r => if p c = true then tw p r + 1 else 0
theorem y6Q (p : UInt8 → Bool) (l : List UInt8) : tw p l ≤ l.length := by
  induction l with
  | nil => simp [tw]
  | cons c r ih => simp only [tw, List.length_cons]; split <;> omega
theorem y5q (p : UInt8 → Bool) {l : List UInt8} {i : Nat} (h : i < l.length) : tw p (l.drop i) = if p l[i] = true then tw p (l.drop (i + 1)) + 1 else 0 := by
  rw [List.drop_eq_getElem_cons h, tw]
theorem y8o (p : UInt8 → Bool) : ∀ (l : List UInt8), ∀ c ∈ l.take (tw p l), p c = true
  | [], c, h => by simp [tw] at h
  | x :: r, c, h => by
    simp only [tw] at h
    split at h
    · rename_i hx
      rw [List.take_succ_cons] at h
      rcases List.mem_cons.1 h with rfl | h
      · exact hx
      · exact y8o p r c h
    · simp at h
theorem v4D {α : Type} {from_ at_ : Nat} {text : Str} {x : Option α} (h : at_ ≤ text.length) (hf : from_ ≤ at_) :
    (if (0 : Int) ≤ (at_ : Int) then (if Int.toNat (at_ : Int) ≤ List.length text then (if (0 : Int) ≤ (from_ : Int) then (if Int.toNat (from_ : Int) ≤ Int.toNat (at_ : Int) then x else none) else none) else none) else none) = x := by
  rw [if_pos (by omega), if_pos (by simpa using h), if_pos (by omega), if_pos (by simpa using hf)]
theorem v0I (text : Str) (hl : text.length ≤ 1000000) (out : List zB) (f : Nat) : ∀ (k a : Nat), a + k = text.length → f ≤ a →
    zS f text a out = some ((text.take (a + tw mor (text.drop a))).drop f, text, ((a + tw mor (text.drop a) : Nat) : Int), out) := by
  intro k
  induction k with
  | zero =>
    intro a ha hf
    rw [z1Q]; unfold vW
    have h1 : text.drop a = [] := List.drop_eq_nil_of_le (by omega)
    rw [if_neg (by omega), v4D (by omega) hf, h1]; rfl
  | succ k ih =>
    intro a ha hf
    have hl2 : a < text.length := by omega
    rw [z1Q]; unfold vW
    rw [if_pos (by omega), z3D hl2, zA, v6a, zA, y5q _ hl2]
    cases hm : mor text[a] with
    | true =>
      simp only [if_true]
      rw [z3B (by omega) (by omega), z1J, ih (a + 1) (by omega) (by omega)]
      rw [show a + 1 + tw mor (List.drop (a + 1) text) = a + (tw mor (List.drop (a + 1) text) + 1) by omega]
    | false =>
      simp only [Bool.false_eq_true, if_false]
      rw [v4D (by omega) hf]; rfl
theorem y8Y (text : Str) (hl : text.length ≤ 1000000) (out : List zB) (f : Nat) : ∀ (k a : Nat), a + k = text.length → f ≤ a →
    zQ f text a out = some ((text.take (a + tw dgt (text.drop a))).drop f, text, ((a + tw dgt (text.drop a) : Nat) : Int), out) := by
  intro k
  induction k with
  | zero =>
    intro a ha hf
    rw [z1F]; unfold vR
    have h1 : text.drop a = [] := List.drop_eq_nil_of_le (by omega)
    rw [if_neg (by omega), v4D (by omega) hf, h1]; rfl
  | succ k ih =>
    intro a ha hf
    have hl2 : a < text.length := by omega
    rw [z1F]; unfold vR
    rw [if_pos (by omega), z3D hl2, zA, v1d, zA, y5q _ hl2]
    cases hm : dgt text[a] with
    | true =>
      simp only [if_true]
      rw [z3B (by omega) (by omega), z1J, ih (a + 1) (by omega) (by omega)]
      rw [show a + 1 + tw dgt (List.drop (a + 1) text) = a + (tw dgt (List.drop (a + 1) text) + 1) by omega]
    | false =>
      simp only [Bool.false_eq_true, if_false]
      rw [v4D (by omega) hf]; rfl
theorem v0H (text : Str) (hl : text.length ≤ 1000000) (out : List zB) (f : Nat) : ∀ (k a : Nat), a + k = text.length → f ≤ a →
    zR f text a out = some ((text.take (a + tw lin (text.drop a))).drop f, text, ((a + tw lin (text.drop a) : Nat) : Int), out) := by
  intro k
  induction k with
  | zero =>
    intro a ha hf
    rw [z1P]; unfold vV
    have h1 : text.drop a = [] := List.drop_eq_nil_of_le (by omega)
    rw [if_neg (by omega), v4D (by omega) hf, h1]; rfl
  | succ k ih =>
    intro a ha hf
    have hl2 : a < text.length := by omega
    rw [z1P]; unfold vV
    rw [if_pos (by omega), z3D hl2, zA, v5W, zA, y5q _ hl2]
    cases hm : lin text[a] with
    | true =>
      simp only [if_true]
      rw [z3B (by omega) (by omega), z1J, ih (a + 1) (by omega) (by omega)]
      rw [show a + 1 + tw lin (List.drop (a + 1) text) = a + (tw lin (List.drop (a + 1) text) + 1) by omega]
    | false =>
      simp only [Bool.false_eq_true, if_false]
      rw [v4D (by omega) hf]; rfl
def y5u (n : Nat) : List UInt8 → Bool
  | d :: _ => d.toNat == n
  | [] => false
def nxt : Nat → List UInt8 → Nat
  | 0, _ => 0
  | _ + 1, [] => 0
  | n + 1, c :: r => if blk c = true then nxt n r + 1
    else if c.toNat = 47 ∧ y5u 47 r = true then tw lin (c :: r) + nxt n ((c :: r).drop (tw lin (c :: r))) else 0
theorem v2d (text : Str) (hl : text.length ≤ 1000000) (a : Nat) (out : List zB) : z1E 1 text a out = some (match text.drop (a + 1) with | d :: _ => Int.ofNat d.toNat | [] => 0) ∨ text.length < a := by
  by_cases h : text.length < a
  · exact .inr h
  left
  unfold z1E
  rw [z3B (by omega) (by omega), z1J]
  by_cases h2 : a + 1 < text.length
  · rw [if_pos (by omega), z3D h2, zA, List.drop_eq_getElem_cons h2]
  · rw [if_neg (by omega), List.drop_eq_nil_of_le (by omega)]
theorem z6U : ∀ (n : Nat) (l : List UInt8), nxt n l ≤ l.length
  | 0, l => by simp [nxt]
  | n + 1, [] => by simp [nxt]
  | n + 1, c :: r => by
    simp only [nxt]
    split
    · have := z6U n r; simp; omega
    · split
      · have := z6U n ((c :: r).drop (tw lin (c :: r)))
        have := y6Q lin (c :: r)
        rw [List.length_drop] at *
        omega
      · omega
theorem v2v (text : Str) (hl : text.length ≤ 1000000) (out : List zB) : ∀ (n a : Nat), text.length ≤ a + n → a ≤ text.length →
    yH text a out = some (text, ((a + nxt n (text.drop a) : Nat) : Int), out) := by
  intro n
  induction n with
  | zero =>
    intro a h1 h2
    rw [z5m]; unfold gZ
    rw [if_neg (by omega)]; rfl
  | succ n ih =>
    intro a h1 h2
    rw [z5m]; unfold gZ
    by_cases h3 : a < text.length
    · rw [if_pos (by omega), z3D h3, zA, z3B (by omega) (by omega), z1J]
      have hd := List.drop_eq_getElem_cons h3
      simp only [show (32 : Int) = ((32 : Nat) : Int) from rfl, show (9 : Int) = ((9 : Nat) : Int) from rfl, show (10 : Int) = ((10 : Nat) : Int) from rfl, show (13 : Int) = ((13 : Nat) : Int) from rfl, show (47 : Int) = ((47 : Nat) : Int) from rfl, v2O]
      by_cases hb : blk text[a] = true
      · have hgo : yH text ((a + 1 : Nat) : Int) out = some (text, ((a + nxt (n + 1) (text.drop a) : Nat) : Int), out) := by
          rw [ih (a + 1) (by omega) (by omega), hd, nxt, if_pos hb]
          rw [show a + 1 + nxt n (List.drop (a + 1) text) = a + (nxt n (List.drop (a + 1) text) + 1) by omega]
        unfold blk at hb
        simp only [Bool.or_eq_true, beq_iff_eq] at hb
        repeat' split
        all_goals first | exact hgo | omega
      · have hb' : blk text[a] = false := by simpa using hb
        have hb2 := hb'
        unfold blk at hb'
        simp only [Bool.or_eq_false_iff, beq_eq_false_iff_ne] at hb'
        rw [if_neg hb'.1.1.1, if_neg hb'.1.1.2, if_neg hb'.1.2, if_neg hb'.2]
        by_cases h47 : text[a].toNat = 47
        · rw [if_pos h47]
          have hp := (v2d text hl a out).resolve_right (by omega)
          rw [hp, zA]
          have hlin : lin text[a] = true := by unfold lin; simp [h47]
          have hrest : ∀ (hh : y5u 47 (text.drop (a + 1)) = true), yH text ((a + tw lin (text.drop a) : Nat) : Int) out = some (text, ((a + nxt (n + 1) (text.drop a) : Nat) : Int), out) := fun hh => by
            have htw : 1 ≤ tw lin (text.drop a) := by rw [y5q _ h3, if_pos hlin]; omega
            have hle := y6Q lin (text.drop a)
            rw [List.length_drop] at hle
            rw [ih (a + tw lin (text.drop a)) (by omega) (by omega)]
            have e : nxt (n + 1) (text.drop a) = tw lin (text.drop a) + nxt n ((text.drop a).drop (tw lin (text.drop a))) := by
              conv => lhs; rw [hd, nxt, if_neg (by rw [hb2]; simp), if_pos ⟨h47, hh⟩, ← hd]
            rw [e, List.drop_drop, Nat.add_assoc]
          cases hr : text.drop (a + 1) with
          | nil =>
            simp only []
            rw [if_neg (by omega), hd, nxt, if_neg (by rw [hb2]; simp), if_neg (by rw [hr]; simp [y5u])]; rfl
          | cons d r =>
            simp only [v2O]
            by_cases hd47 : d.toNat = 47
            · rw [if_pos hd47]
              unfold z0w
              rw [v0H text hl out a (text.length - a) a (by omega) (by omega), zA]
              exact hrest (by rw [hr]; simp [y5u, hd47])
            · rw [if_neg hd47, hd, nxt, if_neg (by rw [hb2]; simp), if_neg (by rw [hr]; simp [y5u, hd47])]; rfl
        · rw [if_neg h47, hd, nxt, if_neg (by rw [hb2]; simp), if_neg (by simp [h47])]; rfl
    · have h4 : text.drop a = [] := List.drop_eq_nil_of_le (by omega)
      rw [if_neg (by omega), h4]; rfl
def wordsL : List Str := [[114, 101, 99], [99, 111, 110, 115, 116], [118, 97, 114], [112, 117, 98], [102, 110], [105, 110, 116], [98, 111, 111, 108], [108, 101, 116], [105, 102], [101, 108, 115, 101], [119, 104, 105, 108, 101], [102, 111, 114], [116, 111], [112, 114, 105, 110, 116], [114, 101, 116, 117, 114, 110], [100, 111], [116, 114, 117, 101], [102, 97, 108, 115, 101], [114, 101, 97, 100], [110, 101, 119]]
def isW (s : Str) : Bool := wordsL.contains s
theorem v4h (s : Str) : ∀ l : List Str, (l.foldr (fun w acc => if s = w then some true else acc) (some false)) = some (l.contains s)
  | [] => rfl
  | w :: r => by
    rw [List.foldr_cons, v4h s r, List.contains_cons]
    by_cases h : s = w
    · rw [if_pos h, h]; simp
    · rw [if_neg h]
      have : (s == w) = false := by simpa using h
      rw [this]; rfl
theorem v5B (s : Str) : z6S s = some (isW s) := by
  have := v4h s wordsL
  unfold z6S
  exact this
def y5v (v : Nat) (l : List UInt8) : Nat := l.foldl (fun v c => v * 10 + (c.toNat - 48)) v
theorem y3O (v : Nat) : y5v v [] = v := rfl
theorem z8E (v : Nat) (c : UInt8) (r : List UInt8) : y5v v (c :: r) = y5v (v * 10 + (c.toNat - 48)) r := by unfold y5v; rw [List.foldl_cons]
theorem v2Q : ∀ (l : List UInt8) (v : Nat), v ≤ y5v v l
  | [], v => by rw [y3O]; exact Nat.le_refl _
  | c :: r, v => by have := v2Q r (v * 10 + (c.toNat - 48)); rw [z8E]; omega
theorem v0b : ∀ (l : List UInt8) (v : Nat), v * 10 ^ l.length ≤ y5v v l
  | [], v => by rw [y3O]; simp
  | c :: r, v => by
    have := v0b r (v * 10 + (c.toNat - 48))
    rw [z8E, List.length_cons, Nat.pow_succ]
    refine Nat.le_trans ?_ this
    rw [Nat.mul_comm (10 ^ r.length) 10, ← Nat.mul_assoc]
    exact Nat.mul_le_mul_right _ (by omega)
def num (w : List UInt8) : Option Nat :=
  if w.length > 1 ∧ y5u 48 w = true then none
  else if y5v 0 w > 9223372036854775807 then none else some (y5v 0 w)
theorem v2U {n : Int} (h1 : 0 ≤ n) (h2 : n ≤ 18446744073709551615) : IntKind.wrap .u64 n = n := by rw [IntKind.wrap_u64]; omega
theorem v6z {n : Int} (h1 : 0 ≤ n) (h2 : n ≤ 255) : IntKind.wrap .u8 n = n := by
  have : IntKind.wrap .u8 n = n % 256 := rfl
  rw [this]; omega
theorem y5b (k n : Int) (s : Str) (f : Int) (text : Str) (a : Int) (out : List zB) (h : out.length ≤ 1000000) : z0X k n s f text a out = some (text, a, out ++ [⟨k, n, s, f, a⟩]) := by
  unfold z0X
  rw [if_pos (by unfold z4F; simp; omega)]
theorem v0D (f : Int) (w : Str) (hd : ∀ c ∈ w, dgt c = true) (hw : w.length ≤ 19) (text : Str) (a : Int) (out : List zB) (ho : out.length ≤ 1000000) : ∀ (k i v : Nat), i + k = w.length → v < 10 ^ i →
    yD f w v w.length i text a out = some (if y5v v (w.drop i) > 9223372036854775807 then (5, text, a, out) else (0, text, a, out ++ [⟨2, (y5v v (w.drop i) : Int), [], f, a⟩])) := by
  intro k
  induction k with
  | zero =>
    intro i v hi hv
    rw [z4z]; unfold jZ
    have h1 : w.drop i = [] := List.drop_eq_nil_of_le (by omega)
    rw [if_neg (by omega), h1, y3O]
    by_cases h : v > 9223372036854775807
    · rw [if_pos (by omega), if_pos h]
    · rw [if_neg (by omega), if_neg h, y5b _ _ _ _ _ _ _ ho, zA, z3B (by omega) (by omega)]
  | succ k ih =>
    intro i v hi hv
    have h3 : i < w.length := by omega
    rw [z4z]; unfold jZ
    have hc := hd _ (List.getElem_mem h3)
    unfold dgt at hc
    simp only [Bool.and_eq_true, decide_eq_true_eq] at hc
    have hp : 10 ^ i ≤ 10 ^ 18 := Nat.pow_le_pow_right (by omega) (by omega)
    rw [if_pos (by omega), z3D h3, zA, List.drop_eq_getElem_cons h3, z8E]
    rw [show Int.ofNat (UInt8.toNat w[i]) = ((UInt8.toNat w[i] : Nat) : Int) from rfl]
    rw [v6z (by omega) (by omega), v2U (n := ((UInt8.toNat w[i] : Nat) : Int) - 48) (by omega) (by omega), v2U (n := (v : Int) * 10) (by omega) (by omega), v2U (by omega) (by omega), z3B (by omega) (by omega), z1J]
    rw [show (v : Int) * 10 + (((UInt8.toNat w[i] : Nat) : Int) - 48) = ((v * 10 + (w[i].toNat - 48) : Nat) : Int) by omega]
    exact ih (i + 1) _ (by omega) (by rw [Nat.pow_succ]; omega)
def singles : List Nat := [123, 125, 40, 41, 91, 93, 44, 59, 58, 46, 43, 45, 42, 47, 37, 64]
def sgn (c d : Nat) : Nat :=
  if c = 61 ∨ c = 33 ∨ c = 60 ∨ c = 62 then (if d = 61 then 2 else 1)
  else if c = 38 ∨ c = 124 then (if d = c then 2 else 0)
  else if singles.contains c then 1 else 0
theorem v4g (c : Nat) : ∀ l : List Nat, (l.foldr (fun (w : Nat) acc => if (c : Int) = (w : Int) then some (1 : Int) else acc) (some 0)) = some (((if l.contains c then 1 else 0 : Nat)) : Int)
  | [] => rfl
  | w :: r => by
    rw [List.foldr_cons, v4g c r, List.contains_cons]
    by_cases h : (c : Int) = (w : Int)
    · rw [if_pos h]
      have : c = w := by omega
      subst this; simp
    · rw [if_neg h]
      have : (c == w) = false := by simp; omega
      rw [this]; simp
theorem v2t (c d : Nat) : z6T (c : Int) (d : Int) = some ((sgn c d : Nat) : Int) := by
  have hs := v4g c singles
  unfold z6T sgn
  have two : ∀ k : Nat, c = k → (k = 61 ∨ k = 33 ∨ k = 60 ∨ k = 62) → (if (d : Int) = 61 then some (2 : Int) else some 1) = some ((if c = 61 ∨ c = 33 ∨ c = 60 ∨ c = 62 then (if d = 61 then 2 else 1) else if c = 38 ∨ c = 124 then (if d = c then 2 else 0) else if singles.contains c = true then 1 else 0 : Nat) : Int) := fun k hk h => by
    rw [if_pos (show c = 61 ∨ c = 33 ∨ c = 60 ∨ c = 62 by omega)]
    by_cases h2 : d = 61
    · rw [if_pos (show (d : Int) = 61 by omega), if_pos h2]; rfl
    · rw [if_neg (show ¬ (d : Int) = 61 by omega), if_neg h2]; rfl
  have same : (c = 38 ∨ c = 124) → (if (d : Int) = (c : Int) then some (2 : Int) else some 0) = some ((if c = 61 ∨ c = 33 ∨ c = 60 ∨ c = 62 then (if d = 61 then 2 else 1) else if c = 38 ∨ c = 124 then (if d = c then 2 else 0) else if singles.contains c = true then 1 else 0 : Nat) : Int) := fun h => by
    rw [if_neg (show ¬ (c = 61 ∨ c = 33 ∨ c = 60 ∨ c = 62) by omega), if_pos h]
    by_cases h2 : d = c
    · rw [if_pos (show (d : Int) = (c : Int) by omega), if_pos h2]; rfl
    · rw [if_neg (show ¬ (d : Int) = (c : Int) by omega), if_neg h2]; rfl
  by_cases h61 : (c : Int) = 61
  · rw [if_pos h61]; exact two 61 (by omega) (by omega)
  rw [if_neg h61]
  by_cases h33 : (c : Int) = 33
  · rw [if_pos h33]; exact two 33 (by omega) (by omega)
  rw [if_neg h33]
  by_cases h60 : (c : Int) = 60
  · rw [if_pos h60]; exact two 60 (by omega) (by omega)
  rw [if_neg h60]
  by_cases h62 : (c : Int) = 62
  · rw [if_pos h62]; exact two 62 (by omega) (by omega)
  rw [if_neg h62]
  by_cases h38 : (c : Int) = 38
  · rw [if_pos h38]; exact same (by omega)
  rw [if_neg h38]
  by_cases h124 : (c : Int) = 124
  · rw [if_pos h124]; exact same (by omega)
  rw [if_neg h124, if_neg (show ¬ (c = 61 ∨ c = 33 ∨ c = 60 ∨ c = 62) by omega), if_neg (show ¬ (c = 38 ∨ c = 124) by omega)]
  exact hs
def hd0 : List UInt8 → Nat
  | d :: _ => d.toNat
  | [] => 0
def one : List UInt8 → Int ⊕ (Int × Int × Str × Nat)
  | [] => .inl 0
  | c :: r =>
    if ltr c = true then (if tw mor (c :: r) > 16 then .inl 3 else .inr (if isW ((c :: r).take (tw mor (c :: r))) = true then 3 else 1, 0, (c :: r).take (tw mor (c :: r)), tw mor (c :: r)))
    else if dgt c = true then (match num ((c :: r).take (tw dgt (c :: r))) with | none => .inl 5 | some n => .inr (2, (n : Int), [], tw dgt (c :: r)))
    else if sgn c.toNat (hd0 r) = 0 then .inl 4 else .inr (4, 0, (c :: r).take (sgn c.toNat (hd0 r)), sgn c.toNat (hd0 r))
theorem y9a (c : UInt8) (r : List UInt8) : sgn c.toNat (hd0 r) ≤ (c :: r).length := by
  cases r with
  | nil =>
    unfold sgn hd0
    simp only [List.length_cons, List.length_nil]
    split
    · simp
    · split
      · rw [if_neg (by omega)]; omega
      · split <;> omega
  | cons d r =>
    unfold sgn
    simp only [List.length_cons]
    split
    · split <;> omega
    · split
      · split <;> omega
      · split <;> omega
theorem z7r : ∀ {s : List UInt8} {k n : Int} {t : Str} {l : Nat}, one s = .inr (k, n, t, l) → 1 ≤ l ∧ l ≤ s.length
  | [], _, _, _, _, h => by simp [one] at h
  | c :: r, k, n, t, l, h => by
    rw [one] at h
    by_cases h1 : ltr c = true
    · rw [if_pos h1] at h
      have hm : mor c = true := by unfold mor; rw [h1]; rfl
      by_cases h2 : tw mor (c :: r) > 16
      · rw [if_pos h2] at h; cases h
      · rw [if_neg h2] at h
        injection h with h; injection h with _ h; injection h with _ h; injection h with _ h
        subst h
        refine ⟨?_, y6Q _ _⟩
        rw [tw, if_pos hm]; omega
    · rw [if_neg h1] at h
      by_cases h2 : dgt c = true
      · rw [if_pos h2] at h
        cases hn : num ((c :: r).take (tw dgt (c :: r))) with
        | none => rw [hn] at h; cases h
        | some m =>
          rw [hn] at h
          injection h with h; injection h with _ h; injection h with _ h; injection h with _ h
          subst h
          refine ⟨?_, y6Q _ _⟩
          rw [tw, if_pos h2]; omega
      · rw [if_neg h2] at h
        by_cases h3 : sgn c.toNat (hd0 r) = 0
        · rw [if_pos h3] at h; cases h
        · rw [if_neg h3] at h
          injection h with h; injection h with _ h; injection h with _ h; injection h with _ h
          subst h
          exact ⟨by omega, y9a c r⟩
theorem y6L (text : List UInt8) (a n : Nat) : (text.take (a + n)).drop a = (text.drop a).take n := by
  rw [List.drop_take]; congr 1; omega
theorem v3P (text : Str) (hl : text.length ≤ 1000000) (a : Nat) (ha : a ≤ text.length) (out : List zB) : z1E 1 text a out = some ((hd0 (text.drop (a + 1)) : Nat) : Int) := by
  rw [(v2d text hl a out).resolve_right (by omega)]
  cases text.drop (a + 1) <;> rfl
theorem v6e (text : Str) (hl : text.length ≤ 1000000) (a : Nat) (ha : a < text.length) (out : List zB) (ho : out.length ≤ 1000000) :
    (∃ k n s l, one (text.drop a) = .inr (k, n, s, l) ∧ z2M text a out = some (0, text, ((a + l : Nat) : Int), out ++ [⟨k, n, s, a, ((a + l : Nat) : Int)⟩])) ∨
    (∃ e a', one (text.drop a) = .inl e ∧ e ≠ 0 ∧ z2M text a out = some (e, text, a', out)) := by
  have hd := List.drop_eq_getElem_cons ha
  unfold z2M
  rw [z3D ha, zA, v4o, zA]
  have hle := y6Q mor (text.drop a)
  have hle2 := y6Q dgt (text.drop a)
  rw [List.length_drop] at hle hle2
  cases h1 : ltr text[a] with
  | true =>
    simp only [if_true]
    unfold z4A z0x
    rw [v0I text hl out a (text.length - a) a (by omega) (by omega), zA, y6L]
    simp only []
    have hlen : ((text.drop a).take (tw mor (text.drop a))).length = tw mor (text.drop a) := by rw [List.length_take, List.length_drop]; omega
    have hone : one (text.drop a) = if tw mor (text.drop a) > 16 then .inl 3 else .inr (if isW ((text.drop a).take (tw mor (text.drop a))) = true then 3 else 1, 0, (text.drop a).take (tw mor (text.drop a)), tw mor (text.drop a)) := by
      conv => lhs; rw [hd, one, if_pos h1, ← hd]
    rw [hlen, hone]
    by_cases h2 : tw mor (text.drop a) > 16
    · rw [if_pos h2, if_pos (show ((tw mor (List.drop a text) : Nat) : Int) > 16 by omega)]
      exact .inr ⟨3, _, rfl, by decide, rfl⟩
    · rw [if_neg h2, if_neg (show ¬ ((tw mor (List.drop a text) : Nat) : Int) > 16 by omega), v5B, zA]
      left
      cases isW ((text.drop a).take (tw mor (text.drop a))) with
      | true =>
        simp only [if_true]
        rw [y5b _ _ _ _ _ _ _ ho, zA, zA]
        exact ⟨3, 0, _, _, rfl, rfl⟩
      | false =>
        simp only [Bool.false_eq_true, if_false]
        rw [y5b _ _ _ _ _ _ _ ho, zA, zA]
        exact ⟨1, 0, _, _, rfl, rfl⟩
  | false =>
    simp only [Bool.false_eq_true, if_false]
    rw [v1d, zA]
    cases h2 : dgt text[a] with
    | true =>
      simp only [if_true]
      unfold z3n z0i
      rw [y8Y text hl out a (text.length - a) a (by omega) (by omega), zA, y6L]
      simp only []
      have hlen : ((text.drop a).take (tw dgt (text.drop a))).length = tw dgt (text.drop a) := by rw [List.length_take, List.length_drop]; omega
      have hall := y8o dgt (text.drop a)
      have hone : one (text.drop a) = match num ((text.drop a).take (tw dgt (text.drop a))) with | none => .inl 5 | some n => .inr (2, (n : Int), [], tw dgt (text.drop a)) := by
        conv => lhs; rw [hd, one, if_neg (by rw [h1]; simp), if_pos h2, ← hd]
      have hpos : 1 ≤ tw dgt (text.drop a) := by rw [y5q _ ha, if_pos h2]; omega
      rw [hone]
      generalize hw : (text.drop a).take (tw dgt (text.drop a)) = w at *
      have tl : w.length ≤ 19 → (yD (a : Int) w 0 w.length 0 text ((a + tw dgt (text.drop a) : Nat) : Int) out) = some (if y5v 0 w > 9223372036854775807 then (5, text, ((a + tw dgt (text.drop a) : Nat) : Int), out) else (0, text, ((a + tw dgt (text.drop a) : Nat) : Int), out ++ [⟨2, (y5v 0 w : Int), [], (a : Int), ((a + tw dgt (text.drop a) : Nat) : Int)⟩])) := fun h19 => by
        have := v0D (a : Int) w hall h19 text ((a + tw dgt (text.drop a) : Nat) : Int) out ho w.length 0 0 (by omega) (by omega)
        simpa using this
      by_cases h19 : (List.length w : Int) > 19
      · rw [if_pos h19]
        right
        have hnum : num w = none := by
          unfold num
          by_cases hz : w.length > 1 ∧ y5u 48 w = true
          · rw [if_pos hz]
          · rw [if_neg hz, if_pos ?_]
            cases w with
            | nil => simp at h19
            | cons x q =>
              have hx : x.toNat ≠ 48 := fun e => hz ⟨by omega, by simp [y5u, e]⟩
              have hdx := hall x (by simp)
              unfold dgt at hdx
              simp only [Bool.and_eq_true, decide_eq_true_eq] at hdx
              have hlow := v0b q (0 * 10 + (x.toNat - 48))
              rw [z8E]
              have hq : 19 ≤ q.length := by simp at h19; omega
              have hp : 10 ^ 19 ≤ 10 ^ q.length := Nat.pow_le_pow_right (by omega) hq
              have : 1 * 10 ^ q.length ≤ (0 * 10 + (x.toNat - 48)) * 10 ^ q.length := Nat.mul_le_mul_right _ (by omega)
              omega
        rw [hnum]
        exact ⟨5, _, rfl, by decide, rfl⟩
      · rw [if_neg h19]
        have fin : ¬ (w.length > 1 ∧ y5u 48 w = true) → (∃ k n s l, (match num w with | none => (.inl 5 : Int ⊕ (Int × Int × Str × Nat)) | some n => .inr (2, (n : Int), [], tw dgt (text.drop a))) = .inr (k, n, s, l) ∧
            (yD (a : Int) w 0 w.length 0 text ((a + tw dgt (text.drop a) : Nat) : Int) out >>= fun q4 => some (q4.1, q4.2.1, q4.2.2.1, q4.2.2.2)) = some (0, text, ((a + l : Nat) : Int), out ++ [⟨k, n, s, (a : Int), ((a + l : Nat) : Int)⟩])) ∨
            (∃ e a', (match num w with | none => (.inl 5 : Int ⊕ (Int × Int × Str × Nat)) | some n => .inr (2, (n : Int), [], tw dgt (text.drop a))) = .inl e ∧ e ≠ 0 ∧ (yD (a : Int) w 0 w.length 0 text ((a + tw dgt (text.drop a) : Nat) : Int) out >>= fun q4 => some (q4.1, q4.2.1, q4.2.2.1, q4.2.2.2)) = some (e, text, a', out)) := fun hz => by
          rw [tl (by omega), zA]
          unfold num
          rw [if_neg hz]
          by_cases hv : y5v 0 w > 9223372036854775807
          · rw [if_pos hv, if_pos hv]; exact .inr ⟨5, _, rfl, by decide, rfl⟩
          · rw [if_neg hv, if_neg hv]; exact .inl ⟨2, _, _, _, rfl, rfl⟩
        by_cases hl1 : (List.length w : Int) > 1
        · rw [if_pos hl1]
          cases w with
          | nil => simp at hl1
          | cons x q =>
            rw [v3v]
            simp only [List.getElem?_cons_zero, zA, show (48 : Int) = ((48 : Nat) : Int) from rfl, v2O]
            by_cases h48 : x.toNat = 48
            · rw [if_pos h48]
              right
              have : num (x :: q) = none := by unfold num; rw [if_pos ⟨by omega, by simp [y5u, h48]⟩]
              rw [this]
              exact ⟨5, _, rfl, by decide, rfl⟩
            · rw [if_neg h48]
              exact fin (by simp [y5u, h48])
        · rw [if_neg hl1]
          exact fin (by omega)
    | false =>
      simp only [Bool.false_eq_true, if_false]
      have hone : one (text.drop a) = if sgn text[a].toNat (hd0 (text.drop (a + 1))) = 0 then .inl 4 else .inr (4, 0, (text.drop a).take (sgn text[a].toNat (hd0 (text.drop (a + 1)))), sgn text[a].toNat (hd0 (text.drop (a + 1)))) := by
        conv => lhs; rw [hd, one, if_neg (by rw [h1]; simp), if_neg (by rw [h2]; simp), ← hd]
      have hsl := y9a text[a] (text.drop (a + 1))
      rw [← hd, List.length_drop] at hsl
      rw [v3P text hl a (by omega), zA]
      rw [show Int.ofNat (UInt8.toNat text[a]) = ((UInt8.toNat text[a] : Nat) : Int) from rfl, v2t, zA, hone]
      by_cases h3 : sgn text[a].toNat (hd0 (text.drop (a + 1))) = 0
      · rw [if_pos h3, if_pos (show ((sgn text[a].toNat (hd0 (text.drop (a + 1))) : Nat) : Int) = 0 by omega)]
        exact .inr ⟨4, _, rfl, by decide, rfl⟩
      · rw [if_neg h3, if_neg (show ¬ ((sgn text[a].toNat (hd0 (text.drop (a + 1))) : Nat) : Int) = 0 by omega)]
        left
        generalize sgn text[a].toNat (hd0 (text.drop (a + 1))) = g at *
        rw [z3B (by omega) (by omega), show (a : Int) + (g : Int) = ((a + g : Nat) : Int) by omega, v4D (by omega) (by omega)]
        rw [show Int.toNat ((a + g : Nat) : Int) = a + g from rfl, show Int.toNat (a : Int) = a from rfl, y6L, y5b _ _ _ _ _ _ _ ho, zA]
        exact ⟨4, 0, _, _, rfl, rfl⟩
def z7f : Nat → List UInt8 → Nat → List zB → List zB × Int × Int
  | 0, _, _, _ => ([], 0, 0)
  | n + 1, s, a, out => match s with
    | [] => (out ++ [⟨5, 0, [], a, a⟩], 0, 0)
    | c :: r => match one (c :: r) with
      | .inl e => ([], a, e)
      | .inr (k, m, t, l) => z7f n (((c :: r).drop l).drop (nxt 10000 ((c :: r).drop l))) (a + l + nxt 10000 ((c :: r).drop l)) (out ++ [⟨k, m, t, a, ((a + l : Nat) : Int)⟩])
theorem v5y (text : Str) (hl : text.length ≤ 9000) : ∀ (n a : Nat) (out : List zB), text.length < a + n → a ≤ text.length → out.length ≤ a →
    wS text text a out = some (z7f n (text.drop a) a out) := by
  intro n
  induction n with
  | zero => intro a out h1 h2; omega
  | succ n ih =>
    intro a out h1 h2 ho
    rw [y3J]; unfold z2r
    by_cases ha : a < text.length
    · have hd := List.drop_eq_getElem_cons ha
      rw [if_pos (show (a : Int) < (List.length text : Int) by omega)]
      have ht : z7f (n + 1) (text.drop a) a out = match one (text.drop a) with
        | .inl e => ([], (a : Int), e)
        | .inr (k, m, t, l) => z7f n (((text.drop a).drop l).drop (nxt 10000 ((text.drop a).drop l))) (a + l + nxt 10000 ((text.drop a).drop l)) (out ++ [⟨k, m, t, a, ((a + l : Nat) : Int)⟩]) := by
        rw [hd, z7f]
      rw [ht]
      rcases v6e text (by omega) a ha out (by omega) with ⟨k, m, t, l, e1, e2⟩ | ⟨e, a', e1, e0, e2⟩
      · have hlen := z7r e1
        rw [List.length_drop] at hlen
        rw [e1, e2, zA]
        simp only []
        rw [if_pos True.intro]
        unfold z2u
        have hle := z6U 10000 (text.drop (a + l))
        rw [List.length_drop] at hle
        rw [v2v text (by omega) _ 10000 (a + l) (by omega) (by omega), zA, show (text.drop a).drop l = text.drop (a + l) from List.drop_drop .., List.drop_drop (l := text)]
        exact ih (a + l + nxt 10000 (text.drop (a + l))) (out ++ [(⟨k, m, t, a, ((a + l : Nat) : Int)⟩ : zB)]) (by omega) (by omega) (by simp only [List.length_append, List.length_cons, List.length_nil]; omega)
      · rw [e1, e2, zA]
        simp only []
        rw [if_neg e0]
    · have h4 : text.drop a = [] := List.drop_eq_nil_of_le (by omega)
      have h5 : a = text.length := by omega
      rw [if_neg (show ¬ (a : Int) < (List.length text : Int) by omega), h4, z7f]
      rw [y5b _ _ _ _ _ _ _ (by omega), zA]
def z5n (text : Str) : List zB × Int × Int := if text.length > 8192 then ([], 0, 3) else z7f 10000 (text.drop (nxt 10000 text)) (nxt 10000 text) []
theorem y8j (text : Str) (h : text.length ≤ 9223372036854775807) : z6R text = some (z5n text) := by
  unfold z6R z5n
  by_cases h1 : (List.length text : Int) > 8192
  · rw [if_pos h1, if_pos (show text.length > 8192 by omega)]
  · rw [if_neg h1, if_neg (show ¬ text.length > 8192 by omega)]
    unfold z2u
    have hle := z6U 10000 text
    have e2 := v2v text (by omega) [] 10000 0 (by omega) (by omega)
    rw [show ((0 : Nat) : Int) = 0 from rfl, List.drop_zero, Nat.zero_add] at e2
    rw [e2, zA]
    exact v5y text (by omega) 10000 (nxt 10000 text) [] (by omega) (by omega) (by simp)
def Ord : Nat → List zB → Prop
  | _, [] => False
  | a, x :: r => ∃ f t : Nat, x.From = (f : Int) ∧ x.To = (t : Int) ∧ a ≤ f ∧ f ≤ t ∧ ((r = [] ∧ x.K = 5) ∨ (x.K ≠ 5 ∧ Ord t r))
theorem Ord.mono {a b : Nat} (h : b ≤ a) : ∀ {l : List zB}, Ord a l → Ord b l
  | [], h => h
  | x :: r, ⟨f, t, h1, h2, h3, h4⟩ => ⟨f, t, h1, h2, by omega, h4⟩
theorem v3K {s : List UInt8} {k n : Int} {t : Str} {l : Nat} (h : one s = .inr (k, n, t, l)) : k ≠ 5 := by
  cases s with
  | nil => simp [one] at h
  | cons c r =>
    rw [one] at h
    by_cases h1 : ltr c = true
    · rw [if_pos h1] at h
      by_cases h2 : tw mor (c :: r) > 16
      · rw [if_pos h2] at h; cases h
      · rw [if_neg h2] at h
        injection h with h; injection h with h _
        rw [← h]; split <;> decide
    · rw [if_neg h1] at h
      by_cases h2 : dgt c = true
      · rw [if_pos h2] at h
        cases hn : num ((c :: r).take (tw dgt (c :: r))) with
        | none => rw [hn] at h; cases h
        | some m => rw [hn] at h; injection h with h; injection h with h _; rw [← h]; decide
      · rw [if_neg h2] at h
        by_cases h3 : sgn c.toNat (hd0 r) = 0
        · rw [if_pos h3] at h; cases h
        · rw [if_neg h3] at h; injection h with h; injection h with h _; rw [← h]; decide
theorem v3X (text : List UInt8) : ∀ (n a : Nat) (out : List zB), text.length < a + n → a ≤ text.length → (z7f n (text.drop a) a out).2.2 = 0 → ∃ r, (z7f n (text.drop a) a out).1 = out ++ r ∧ Ord a r := by
  intro n
  induction n with
  | zero => intro a out h1 h2; omega
  | succ n ih =>
    intro a out h1 h2 he
    by_cases ha : a < text.length
    · have hd := List.drop_eq_getElem_cons ha
      have ht : z7f (n + 1) (text.drop a) a out = match one (text.drop a) with
        | .inl e => ([], (a : Int), e)
        | .inr (k, m, t, l) => z7f n (((text.drop a).drop l).drop (nxt 10000 ((text.drop a).drop l))) (a + l + nxt 10000 ((text.drop a).drop l)) (out ++ [⟨k, m, t, a, ((a + l : Nat) : Int)⟩]) := by
        rw [hd, z7f]
      rw [ht] at he ⊢
      cases ho : one (text.drop a) with
      | inl e =>
        rw [ho] at he
        exfalso
        have he2 : e = 0 := he
        rw [hd] at ho
        rw [one] at ho
        subst he2
        revert ho
        repeat' split
        all_goals (intro ho; first | (injection ho with ho; omega) | cases ho)
      | inr q =>
        obtain ⟨k, m, t, l⟩ := q
        rw [ho] at he
        dsimp only at he ⊢
        have hlen := z7r ho
        rw [List.length_drop] at hlen
        have hle := z6U 10000 (text.drop (a + l))
        rw [List.length_drop] at hle
        rw [show (text.drop a).drop l = text.drop (a + l) from List.drop_drop .., List.drop_drop (l := text)] at he ⊢
        obtain ⟨r, e1, e2⟩ := ih (a + l + nxt 10000 (text.drop (a + l))) _ (by omega) (by omega) he
        exact ⟨⟨k, m, t, a, ((a + l : Nat) : Int)⟩ :: r, by rw [e1]; simp, a, a + l, rfl, rfl, Nat.le_refl _, by omega, .inr ⟨v3K ho, e2.mono (by omega)⟩⟩
    · have h4 : text.drop a = [] := List.drop_eq_nil_of_le (by omega)
      have h5 : a = text.length := by omega
      rw [h4, z7f]
      exact ⟨[⟨5, 0, [], a, a⟩], rfl, a, a, rfl, rfl, Nat.le_refl _, Nat.le_refl _, .inl ⟨rfl, rfl⟩⟩
theorem y7X {text : Str} (h : (z5n text).2.2 = 0) : Ord 0 (z5n text).1 := by
  unfold z5n at h ⊢
  by_cases h1 : text.length > 8192
  · rw [if_pos h1] at h; cases h
  · rw [if_neg h1] at h ⊢
    have hle := z6U 10000 text
    obtain ⟨r, e1, e2⟩ := v3X text 10000 (nxt 10000 text) [] (by omega) (by omega) h
    rw [e1]; exact e2.mono (by omega)
theorem v5x (text : List UInt8) : ∀ (n a : Nat) (out : List zB), text.length < a + n → a ≤ text.length → (z7f n (text.drop a) a out).2.2 = 0 → ∃ r, (z7f n (text.drop a) a out).1 = out ++ r ∧ r.length + a ≤ text.length + 1 ∧ ∀ x ∈ r, x.To ≤ (text.length : Int) := by
  intro n
  induction n with
  | zero => intro a out h1 h2; omega
  | succ n ih =>
    intro a out h1 h2 he
    by_cases ha : a < text.length
    · have hd := List.drop_eq_getElem_cons ha
      have ht : z7f (n + 1) (text.drop a) a out = match one (text.drop a) with
        | .inl e => ([], (a : Int), e)
        | .inr (k, m, t, l) => z7f n (((text.drop a).drop l).drop (nxt 10000 ((text.drop a).drop l))) (a + l + nxt 10000 ((text.drop a).drop l)) (out ++ [⟨k, m, t, a, ((a + l : Nat) : Int)⟩]) := by
        rw [hd, z7f]
      rw [ht] at he ⊢
      cases ho : one (text.drop a) with
      | inl e =>
        rw [ho] at he
        exfalso
        have he2 : e = 0 := he
        rw [hd] at ho
        rw [one] at ho
        subst he2
        revert ho
        repeat' split
        all_goals (intro ho; first | (injection ho with ho; omega) | cases ho)
      | inr q =>
        obtain ⟨k, m, t, l⟩ := q
        rw [ho] at he
        dsimp only at he ⊢
        have hlen := z7r ho
        rw [List.length_drop] at hlen
        have hle := z6U 10000 (text.drop (a + l))
        rw [List.length_drop] at hle
        rw [show (text.drop a).drop l = text.drop (a + l) from List.drop_drop .., List.drop_drop (l := text)] at he ⊢
        obtain ⟨r, e1, e2, e3⟩ := ih (a + l + nxt 10000 (text.drop (a + l))) _ (by omega) (by omega) he
        refine ⟨⟨k, m, t, a, ((a + l : Nat) : Int)⟩ :: r, by rw [e1]; simp, by simp only [List.length_cons]; omega, fun x hx => ?_⟩
        rcases List.mem_cons.1 hx with rfl | hx
        · show ((a + l : Nat) : Int) ≤ _; omega
        · exact e3 x hx
    · have h4 : text.drop a = [] := List.drop_eq_nil_of_le (by omega)
      have h5 : a = text.length := by omega
      rw [h4, z7f]
      exact ⟨[⟨5, 0, [], a, a⟩], rfl, by simp only [List.length_cons, List.length_nil]; omega, fun x hx => by simp at hx; subst hx; show (a : Int) ≤ _; omega⟩
theorem y9G {text : Str} (h : (z5n text).2.2 = 0) : (z5n text).1.length ≤ text.length + 1 ∧ ∀ x ∈ (z5n text).1, x.To ≤ (text.length : Int) := by
  unfold z5n at h ⊢
  by_cases h1 : text.length > 8192
  · rw [if_pos h1] at h; cases h
  · rw [if_neg h1] at h ⊢
    have hle := z6U 10000 text
    obtain ⟨r, e1, e2, e3⟩ := v5x text 10000 (nxt 10000 text) [] (by omega) (by omega) h
    rw [e1]; exact ⟨by rw [List.nil_append]; omega, by rw [List.nil_append]; exact e3⟩
def y1p (n : Nat) : List UInt8 := if h : n < 10 then [UInt8.ofNat (48 + n)] else y1p (n / 10) ++ [UInt8.ofNat (48 + n % 10)]
termination_by n
decreasing_by omega
theorem y8D {n : Nat} (h : n < 10) : y1p n = [UInt8.ofNat (48 + n)] := by rw [y1p, dif_pos h]
theorem y8B {n : Nat} (h : ¬ n < 10) : y1p n = y1p (n / 10) ++ [UInt8.ofNat (48 + n % 10)] := by rw [y1p, dif_neg h]
theorem ofNat_toNat {n : Nat} (h : n < 256) : (UInt8.ofNat n).toNat = n := by rw [UInt8.toNat_ofNat']; omega
theorem z9O : ∀ s : List UInt8, z7V (s.map fun c => ((c.toNat : Nat) : Int)) = some s
  | [] => rfl
  | c :: r => by
    have hc := c.toNat_lt
    rw [List.map_cons, z7V, if_pos (by omega), z9O r]
    simp
theorem y9r {b : List Int} {j : Nat} (h : j < b.length) (x : Int) : (b.set j x).drop j = x :: b.drop (j + 1) := by
  rw [List.drop_eq_getElem_cons (by simpa using h), List.getElem_set_self, List.drop_set_of_lt (by omega)]
theorem v1e (n : Int) : ∀ (i u : Nat) (b : List Int) (s : List UInt8), b.length = 20 → i ≤ 20 → b.drop i = s.map (fun c => ((c.toNat : Nat) : Int)) → (n < 0 → 2 ≤ i ∧ u < 10 ^ (i - 1)) → (¬ n < 0 → 1 ≤ i ∧ u < 10 ^ i) → u ≤ 18446744073709551615 →
    wI n i u b = some ((if n < 0 then [45] else []) ++ (y1p u ++ s)) := by
  intro i
  induction i with
  | zero =>
    intro u b s hb hi hs h1 h2 hu
    by_cases h : n < 0
    · have := h1 h; omega
    · have := h2 h; omega
  | succ j ih =>
    intro u b s hb hi hs h1 h2 hu
    rw [y3I]; unfold z2q
    have hj : IntKind.wrap .i64 (((j + 1 : Nat) : Int) - 1) = (j : Int) := by rw [z3B (by omega) (by omega)]; omega
    have hm : Int.tmod (u : Int) 10 = ((u % 10 : Nat) : Int) := by rw [Int.tmod_eq_emod_of_nonneg (by omega)]; omega
    have hd : Int.tdiv (u : Int) 10 = ((u / 10 : Nat) : Int) := by rw [Int.tdiv_eq_ediv_of_nonneg (by omega)]; omega
    have hc : IntKind.wrap .u8 (IntKind.wrap .u64 (48 + ((u % 10 : Nat) : Int))) = ((48 + u % 10 : Nat) : Int) := by rw [v2U (by omega) (by omega), v6z (by omega) (by omega)]; omega
    have hq : IntKind.wrap .u64 ((u / 10 : Nat) : Int) = ((u / 10 : Nat) : Int) := v2U (by omega) (by omega)
    rw [hj, hm, hd, hc, hq]
    have ht : Int.toNat (j : Int) = j := rfl
    rw [ht]
    simp only [List.length_set, hb, ne_eq, show ¬ ((10 : Int) = 0) by decide, not_false_eq_true, if_true]
    rw [if_pos (show True ∧ (0 : Int) ≤ (j : Int) ∧ (j : Int) < ((20 : Nat) : Int) from ⟨trivial, by omega, by omega⟩), if_pos (show j < 20 by omega)]
    have hsetd : (b.set j ((48 + u % 10 : Nat) : Int)).drop j = (UInt8.ofNat (48 + u % 10) :: s).map (fun c => ((c.toNat : Nat) : Int)) := by
      rw [y9r (by omega), hs, List.map_cons, ofNat_toNat (by omega)]
    by_cases h0 : u / 10 = 0
    · rw [if_pos (show ((u / 10 : Nat) : Int) = 0 by omega)]
      have hdg : y1p u = [UInt8.ofNat (48 + u % 10)] := by rw [y8D (by omega), show u % 10 = u by omega]
      by_cases hn : n < 0
      · have h3 := h1 hn
        rw [if_pos hn, if_pos hn]
        have hj2 : IntKind.wrap .i64 ((j : Int) - 1) = ((j - 1 : Nat) : Int) := by rw [z3B (by omega) (by omega)]; omega
        rw [hj2, show Int.toNat ((j - 1 : Nat) : Int) = j - 1 from rfl]
        rw [if_pos (show True ∧ (0 : Int) ≤ ((j - 1 : Nat) : Int) ∧ ((j - 1 : Nat) : Int) < ((20 : Nat) : Int) from ⟨trivial, by omega, by omega⟩), if_pos (show j - 1 < 20 by omega), if_pos (show (0 : Int) ≤ ((j - 1 : Nat) : Int) by omega), if_pos (show j - 1 ≤ 20 by omega)]
        have : ((b.set j ((48 + u % 10 : Nat) : Int)).set (j - 1) 45).drop (j - 1) = (45 :: UInt8.ofNat (48 + u % 10) :: s).map (fun c => ((c.toNat : Nat) : Int)) := by
          rw [y9r (by simp; omega), show j - 1 + 1 = j by omega, hsetd]; rfl
        rw [this, z9O, hdg]; rfl
      · rw [if_neg hn, if_neg hn, if_pos (show (0 : Int) ≤ (j : Int) by omega), if_pos (show j ≤ 20 by omega), hsetd, z9O, hdg]; rfl
    · rw [if_neg (show ¬ ((u / 10 : Nat) : Int) = 0 by omega)]
      have hdg : y1p u = y1p (u / 10) ++ [UInt8.ofNat (48 + u % 10)] := y8B (by omega)
      rw [ih (u / 10) _ (UInt8.ofNat (48 + u % 10) :: s) (by simpa using hb) (by omega) hsetd ?_ ?_ (by omega), hdg]
      · simp
      · intro hn
        have h3 := h1 hn
        rcases j with _ | _ | j
        · omega
        · simp at h3; omega
        · refine ⟨by omega, ?_⟩
          have h4 := h3.2
          simp only [Nat.add_sub_cancel] at h4 ⊢
          rw [Nat.pow_succ] at h4
          omega
      · intro hn
        have h3 := h2 hn
        rcases j with _ | j
        · simp at h3; omega
        · refine ⟨by omega, ?_⟩
          have h4 := h3.2
          rw [Nat.pow_succ] at h4
          omega
theorem y7v (n : Int) (h : -9223372036854775808 ≤ n ∧ n ≤ 9223372036854775807) : z5H n = some ((if n < 0 then [45] else []) ++ y1p n.natAbs) := by
  unfold z5H
  have z : ([0, 0, 0, 0, 0, 0, 0, 0, 0, 0, 0, 0, 0, 0, 0, 0, 0, 0, 0, 0] : List Int).length = 20 := rfl
  by_cases hn : n < 0
  · rw [if_pos hn]
    have : IntKind.wrap .u64 (0 - IntKind.wrap .u64 n) = ((n.natAbs : Nat) : Int) := by rw [IntKind.wrap_u64, IntKind.wrap_u64]; omega
    rw [this, show (20 : Int) = ((20 : Nat) : Int) from rfl, v1e n 20 n.natAbs _ [] z (by omega) rfl (fun _ => ⟨by omega, by omega⟩) (fun h => absurd hn h) (by omega), List.append_nil]
  · rw [if_neg hn]
    have : IntKind.wrap .u64 n = ((n.natAbs : Nat) : Int) := by rw [IntKind.wrap_u64]; omega
    rw [this, show (20 : Int) = ((20 : Nat) : Int) from rfl, v1e n 20 n.natAbs _ [] z (by omega) rfl (fun h => absurd h hn) (fun _ => ⟨by omega, by omega⟩) (by omega), List.append_nil]
theorem v2R (w : List UInt8) (c : UInt8) (v : Nat) : y5v v (w ++ [c]) = y5v v w * 10 + (c.toNat - 48) := by unfold y5v; rw [List.foldl_append]; rfl
theorem v3Y {x : UInt8} {r : List UInt8} (h : x.toNat ≠ 48) (hd : dgt x = true) : 1 ≤ y5v 0 (x :: r) := by
  unfold dgt at hd
  simp only [Bool.and_eq_true, decide_eq_true_eq] at hd
  rw [z8E]
  have := v2Q r (0 * 10 + (x.toNat - 48))
  omega
theorem v3j : ∀ (k : Nat) (w : List UInt8), w.length = k → 0 < k → (∀ c ∈ w, dgt c = true) → ¬ (w.length > 1 ∧ y5u 48 w = true) → y1p (y5v 0 w) = w := by
  intro k
  induction k with
  | zero => intro w _ h; omega
  | succ k ih =>
    intro w hl _ hd hz
    have hne : w ≠ [] := by rintro rfl; simp at hl
    have hw := List.dropLast_concat_getLast hne
    generalize hu : w.dropLast = u at hw
    generalize w.getLast hne = c at hw
    subst hw
    have hc := hd c (by simp)
    have hc2 := hc
    unfold dgt at hc
    simp only [Bool.and_eq_true, decide_eq_true_eq] at hc
    rw [v2R]
    have hcc : UInt8.ofNat (48 + (c.toNat - 48)) = c := by rw [show 48 + (c.toNat - 48) = c.toNat by omega]; exact UInt8.ofNat_toNat
    cases u with
    | nil =>
      rw [y3O, y8D (by omega), show 0 * 10 + (c.toNat - 48) = c.toNat - 48 by omega, hcc]; rfl
    | cons x r =>
      have hx : x.toNat ≠ 48 := fun e => hz ⟨by simp, by simp [y5u, e]⟩
      have hp := v3Y (r := r) hx (hd x (by simp))
      rw [y8B (by omega), show (y5v 0 (x :: r) * 10 + (c.toNat - 48)) / 10 = y5v 0 (x :: r) by omega, show (y5v 0 (x :: r) * 10 + (c.toNat - 48)) % 10 = c.toNat - 48 by omega, hcc]
      rw [ih (x :: r) (by simp at hl ⊢; omega) (by simp at hl; omega) (fun y hy => hd y (List.mem_append_left _ hy)) (fun h => hx (by have := h.2; simpa [y5u] using this))]
theorem v3I {w : List UInt8} {n : Nat} (h : num w = some n) (h0 : 0 < w.length) (hd : ∀ c ∈ w, dgt c = true) : y1p n = w ∧ n ≤ 9223372036854775807 := by
  unfold num at h
  by_cases hz : w.length > 1 ∧ y5u 48 w = true
  · rw [if_pos hz] at h; cases h
  · rw [if_neg hz] at h
    by_cases hv : y5v 0 w > 9223372036854775807
    · rw [if_pos hv] at h; cases h
    · rw [if_neg hv] at h
      injection h with h
      subst h
      exact ⟨v3j _ w rfl h0 hd hz, by omega⟩
theorem y8C : ∀ (k n : Nat), n < 10 ^ k → 0 < k → (y1p n).length ≤ k := by
  intro k
  induction k with
  | zero => intro n _ h; omega
  | succ k ih =>
    intro n h _
    by_cases h10 : n < 10
    · rw [y8D h10]; simp
    · rw [y8B h10, List.length_append]
      have : (y1p (n / 10)).length ≤ k := ih (n / 10) (by rw [Nat.pow_succ] at h; omega) (by
        rcases k with _ | k
        · simp at h; omega
        · omega)
      simp; omega
abbrev Gap (b : List UInt8) : Prop := b = [] ∨ ∃ r, b = 32 :: r
def Tok (k n : Int) (t : Str) (w : List UInt8) : Prop := ∀ b, Gap b → one (w ++ b) = .inr (k, n, t, w.length)
theorem v2L (p : UInt8 → Bool) (hp : p 32 = false) {b : List UInt8} (hb : Gap b) : ∀ w : List UInt8, (∀ c ∈ w, p c = true) → tw p (w ++ b) = w.length
  | [], _ => by
    rcases hb with rfl | ⟨r, rfl⟩
    · rfl
    · simp [tw, hp]
  | c :: w, h => by
    rw [List.cons_append, tw, if_pos (h c (by simp)), v2L p hp hb w fun x hx => h x (by simp [hx])]; rfl
theorem v4N {b : List UInt8} (hb : Gap b) : hd0 b = 0 ∨ hd0 b = 32 := by
  rcases hb with rfl | ⟨r, rfl⟩
  · exact .inl rfl
  · exact .inr rfl
theorem v5p {c d e : Nat} (h : sgn c d = 1) (he : e = 0 ∨ e = 32) : sgn c e = 1 := by
  unfold sgn at h ⊢
  split at h
  · rename_i h1; rw [if_pos h1, if_neg (by omega)]
  · rename_i h1
    rw [if_neg h1]
    split at h
    · split at h <;> omega
    · rename_i h2; rw [if_neg h2]; exact h
theorem v6w (c d : Nat) : sgn c d ≤ 2 := by unfold sgn; (repeat' split) <;> omega
theorem v1U {s : List UInt8} {k n : Int} {t : Str} {l : Nat} (h : one s = .inr (k, n, t, l)) : Tok k n t (s.take l) ∧ (s.take l).length = l := by
  have hlen := z7r h
  have hl : (s.take l).length = l := by rw [List.length_take]; omega
  refine ⟨fun b hb => ?_, hl⟩
  rw [hl]
  cases s with
  | nil => simp [one] at h
  | cons c r =>
    rw [one] at h
    by_cases h1 : ltr c = true
    · rw [if_pos h1] at h
      by_cases h2 : tw mor (c :: r) > 16
      · rw [if_pos h2] at h; cases h
      · rw [if_neg h2] at h
        injection h with h; injection h with e1 h; injection h with e2 h; injection h with e3 h
        have hall := y8o mor (c :: r)
        rw [h] at hall
        have htw := v2L mor (by decide) hb ((c :: r).take l) hall
        rw [hl] at htw
        have hw : ((c :: r).take l ++ b).take l = (c :: r).take l := by rw [List.take_append_of_le_length (by omega), List.take_of_length_le (by omega)]
        obtain ⟨l', rfl⟩ : ∃ l', l = l' + 1 := ⟨l - 1, by omega⟩
        rw [List.take_succ_cons, List.cons_append] at htw hw ⊢
        rw [one, if_pos h1, htw, if_neg (by omega), hw, ← List.take_succ_cons, ← e3, h]
        subst e1; subst e2; rw [h]
    · rw [if_neg h1] at h
      by_cases h2 : dgt c = true
      · rw [if_pos h2] at h
        cases hn : num ((c :: r).take (tw dgt (c :: r))) with
        | none => rw [hn] at h; cases h
        | some m =>
          rw [hn] at h
          injection h with h; injection h with e1 h; injection h with e2 h; injection h with e3 h
          have hall := y8o dgt (c :: r)
          rw [h] at hall hn
          have htw := v2L dgt (by decide) hb ((c :: r).take l) hall
          rw [hl] at htw
          have hw : ((c :: r).take l ++ b).take l = (c :: r).take l := by rw [List.take_append_of_le_length (by omega), List.take_of_length_le (by omega)]
          obtain ⟨l', rfl⟩ : ∃ l', l = l' + 1 := ⟨l - 1, by omega⟩
          rw [List.take_succ_cons, List.cons_append] at htw hw ⊢
          rw [List.take_succ_cons] at hn
          rw [one, if_neg h1, if_pos h2, htw, hw, hn]
          subst e1; subst e2; subst e3; rfl
      · rw [if_neg h2] at h
        by_cases h3 : sgn c.toNat (hd0 r) = 0
        · rw [if_pos h3] at h; cases h
        · rw [if_neg h3] at h
          injection h with h; injection h with e1 h; injection h with e2 h; injection h with e3 h
          have hle := v6w c.toNat (hd0 r)
          have h12 : l = 1 ∨ l = 2 := by omega
          rcases h12 with rfl | rfl
          · have hs := v5p h (v4N hb)
            rw [List.take_succ_cons, List.take_zero, List.cons_append, List.nil_append, one, if_neg h1, if_neg h2, hs, if_neg (by decide)]
            rw [h] at e3
            subst e1; subst e2; subst e3; rfl
          · cases r with
            | nil => simp at hlen
            | cons d r' =>
              have hs : sgn c.toNat (hd0 (d :: b)) = 2 := h
              rw [show (c :: d :: r').take 2 ++ b = c :: d :: b from rfl, one, if_neg h1, if_neg h2, hs, if_neg (by decide)]
              rw [h] at e3
              subst e1; subst e2; subst e3; rfl
theorem v5w {k n : Int} {t : Str} {w : List UInt8} (h : Tok k n t w) {b : List UInt8} (hb : Gap b) (m : Nat) : nxt m (w ++ b) = 0 := by
  have h1 := h b hb
  cases m with
  | zero => rfl
  | succ m =>
    cases w with
    | nil => have := z7r h1; simp at this
    | cons c w =>
      rw [List.cons_append] at h1 ⊢
      rw [nxt]
      have hnb : blk c = false := by
        cases hbk : blk c with
        | false => rfl
        | true =>
          exfalso
          unfold blk at hbk
          simp only [Bool.or_eq_true, beq_iff_eq] at hbk
          rw [one, if_neg, if_neg] at h1
          · have hs : sgn c.toNat (hd0 (w ++ b)) = 0 := by
              unfold sgn
              rw [if_neg (by omega), if_neg (by omega), if_neg]
              rcases hbk with ((hbk | hbk) | hbk) | hbk <;> rw [hbk] <;> decide
            rw [if_pos hs] at h1; cases h1
          · unfold dgt; simp; omega
          · unfold ltr; simp; omega
      rw [if_neg (by rw [hnb]; simp), if_neg]
      rintro ⟨h47, hh⟩
      rw [one, if_neg, if_neg] at h1
      · have hs : sgn c.toNat (hd0 (w ++ b)) = 1 := by
          unfold sgn
          rw [if_neg (by omega), if_neg (by omega), h47]; rfl
        rw [hs, if_neg (by decide)] at h1
        injection h1 with h1; injection h1 with _ h1; injection h1 with _ h1; injection h1 with _ h1
        have hw : w = [] := by simpa using h1.symm
        subst hw
        rw [List.nil_append] at hh
        rcases hb with rfl | ⟨r, rfl⟩
        · simp [y5u] at hh
        · simp [y5u] at hh
      · unfold dgt; simp; omega
      · unfold ltr; simp; omega
def jn : List (List UInt8) → List UInt8
  | [] => []
  | w :: r => 32 :: (w ++ jn r)
theorem v4l (l : List (List UInt8)) : Gap (jn l) := by
  cases l with
  | nil => exact .inl rfl
  | cons w r => exact .inr ⟨_, rfl⟩
def body : List (List UInt8) → List UInt8
  | [] => []
  | w :: r => w ++ jn r
theorem y9Z (P : zB → Prop) (h1 : ∀ s k m t l (a : Nat), one s = .inr (k, m, t, l) → P ⟨k, m, t, a, ((a + l : Nat) : Int)⟩) (h2 : ∀ a : Nat, P ⟨5, 0, [], a, a⟩) : ∀ (n : Nat) (s : List UInt8) (a : Nat) (out : List zB), (∀ x ∈ out, P x) → ∀ x ∈ (z7f n s a out).1, P x
  | 0, s, a, out, h, x, hx => by simp [z7f] at hx
  | n + 1, [], a, out, h, x, hx => by
    rw [z7f] at hx
    rcases List.mem_append.1 hx with hx | hx
    · exact h x hx
    · simp at hx; rw [hx]; exact h2 a
  | n + 1, c :: r, a, out, h, x, hx => by
    rw [z7f] at hx
    cases ho : one (c :: r) with
    | inl e => rw [ho] at hx; simp at hx
    | inr q =>
      obtain ⟨k, m, t, l⟩ := q
      rw [ho] at hx
      refine y9Z P h1 h2 n _ _ _ (fun y hy => ?_) x hx
      rcases List.mem_append.1 hy with hy | hy
      · exact h y hy
      · simp at hy; rw [hy]; exact h1 _ _ _ _ _ _ ho
theorem v1H (P : zB → Prop) (h1 : ∀ s k m t l (a : Nat), one s = .inr (k, m, t, l) → P ⟨k, m, t, a, ((a + l : Nat) : Int)⟩) (h2 : ∀ a : Nat, P ⟨5, 0, [], a, a⟩) (text : Str) : ∀ x ∈ (z5n text).1, P x := by
  unfold z5n
  split
  · intro x hx; simp at hx
  · exact y9Z P h1 h2 _ _ _ _ (fun x hx => by simp at hx)
theorem z8u {s : List UInt8} {k m : Int} {t : Str} {l : Nat} (h : one s = .inr (k, m, t, l)) : (k = 2 ∧ t = [] ∧ ∃ n : Nat, m = (n : Int) ∧ n ≤ 9223372036854775807 ∧ y1p n = s.take l) ∨ (k ≠ 2 ∧ k ≠ 5 ∧ m = 0 ∧ t = s.take l) := by
  cases s with
  | nil => cases h
  | cons c r =>
    rw [one] at h
    by_cases h1 : ltr c = true
    · rw [if_pos h1] at h
      by_cases h2 : tw mor (c :: r) > 16
      · rw [if_pos h2] at h; cases h
      · rw [if_neg h2] at h
        injection h with h
        simp only [Prod.mk.injEq] at h
        obtain ⟨rfl, rfl, rfl, rfl⟩ := h
        exact .inr ⟨by split <;> decide, by split <;> decide, rfl, rfl⟩
    · rw [if_neg h1] at h
      by_cases h2 : dgt c = true
      · rw [if_pos h2] at h
        cases hn : num ((c :: r).take (tw dgt (c :: r))) with
        | none => rw [hn] at h; cases h
        | some n =>
          rw [hn] at h
          injection h with h
          simp only [Prod.mk.injEq] at h
          obtain ⟨rfl, rfl, rfl, rfl⟩ := h
          have hp : 0 < ((c :: r).take (tw dgt (c :: r))).length := by
            rw [List.length_take, tw, if_pos h2]; simp
          obtain ⟨g1, g2⟩ := v3I hn hp (y8o dgt _)
          exact .inl ⟨rfl, rfl, n, rfl, g2, g1⟩
      · rw [if_neg h2] at h
        by_cases h3 : sgn c.toNat (hd0 r) = 0
        · rw [if_pos h3] at h; cases h
        · rw [if_neg h3] at h
          injection h with h
          simp only [Prod.mk.injEq] at h
          obtain ⟨rfl, rfl, rfl, rfl⟩ := h
          exact .inr ⟨by decide, by decide, rfl, rfl⟩
structure v5K (x : zB) : Prop where
  nm : x.K = 1 → Tok 1 0 x.S x.S
  nu : x.K = 2 → ∃ n : Nat, x.N = (n : Int) ∧ n ≤ 9223372036854775807 ∧ Tok 2 n [] (y1p n) ∧ ((y1p n).length : Int) = x.To - x.From
  le : x.K ≠ 2 → x.K ≠ 5 → (x.S.length : Int) = x.To - x.From
  po : x.K ≠ 5 → 1 ≤ x.To - x.From
theorem v0A (text : Str) : ∀ x ∈ (z5n text).1, v5K x := by
  refine v1H v5K (fun s k m t l a h => ?_) (fun a => ⟨fun h => absurd (show (5 : Int) = 1 from h) (by decide), fun h => absurd (show (5 : Int) = 2 from h) (by decide), fun _ h => absurd rfl h, fun h => absurd rfl h⟩) text
  obtain ⟨g1, g2⟩ := v1U h
  have g3 := (z7r h).1
  have e : ((a + l : Nat) : Int) - (a : Int) = (l : Int) := by omega
  rcases z8u h with ⟨rfl, rfl, n, rfl, h1, h2⟩ | ⟨h1, h2, rfl, rfl⟩
  · exact ⟨fun h => absurd (show (2 : Int) = 1 from h) (by decide), fun _ => ⟨n, rfl, h1, by rw [h2]; exact g1, by rw [h2, g2]; exact e.symm⟩, fun h => absurd rfl h, fun _ => by show 1 ≤ ((a + l : Nat) : Int) - (a : Int); omega⟩
  · refine ⟨fun h => ?_, fun h => absurd h h1, fun _ _ => ?_, fun _ => by show 1 ≤ ((a + l : Nat) : Int) - (a : Int); omega⟩
    · have h' : k = 1 := h
      rw [h'] at g1; exact g1
    · show ((s.take l).length : Int) = ((a + l : Nat) : Int) - (a : Int)
      rw [g2]; exact e.symm
def TF (t : List zB) : Prop := ∀ x ∈ t, v5K x
abbrev v6Z : zB := ⟨5, 0, [], 0, 0⟩
def zP (t : List zB) (a : Nat) : zB := (t[a]?).getD v6Z
def yK (t : List zB) (a : Nat) (s : Str) : Bool := decide ((zP t a).K = 4) && ((zP t a).S == s)
theorem z6k (t : List zB) (a : Nat) (e : Int) : jQ t a e = some (zP t a) := by
  unfold jQ zP
  by_cases h : a < t.length
  · rw [if_pos (show (a : Int) < (t.length : Int) by omega), z3D h, zA, List.getElem?_eq_getElem h]; rfl
  · rw [if_neg (show ¬ (a : Int) < (t.length : Int) by omega), List.getElem?_eq_none (by omega)]; rfl
theorem z1H (s : Str) (t : List zB) (a : Nat) (e : Int) : wX s t a e = some (yK t a s) := by
  unfold wX yK
  rw [z6k, zA]
  by_cases h : (zP t a).K = 4
  · rw [if_pos h, decide_eq_true h]; rfl
  · rw [if_neg h, decide_eq_false h]; rfl
def vC (t : List zB) (a : Nat) (s : Str) : Bool := decide ((zP t a).K = 3) && ((zP t a).S == s)
theorem uC {t : List zB} {a : Nat} (h : (zP t a).K ≠ 5) : a < t.length := by
  rcases Nat.lt_or_ge a t.length with h1 | h1
  · exact h1
  · exfalso; apply h; unfold zP; rw [List.getElem?_eq_none h1]; rfl
def uG (t : List zB) (f a : Nat) (x : zD) : zD := { x with From := (zP t f).From, To := (zP t (a - 1)).To }
theorem z5q (x : zD) (t : List zB) (hl : t.length ≤ 9223372036854775807) (f a : Nat) (hf : f < a) (ha : a ≤ t.length) : yI x f t a 0 = some (uG t f a x) := by
  unfold yI uG zP
  have h1 : IntKind.wrap .i64 ((a : Int) - 1) = ((a - 1 : Nat) : Int) := by rw [z3B (by omega) (by omega)]; omega
  rw [if_pos rfl, z3D (show f < t.length by omega), zA, h1, z3D (show a - 1 < t.length by omega), zA, List.getElem?_eq_getElem (show f < t.length by omega), List.getElem?_eq_getElem (show a - 1 < t.length by omega)]; rfl
theorem z3o (x : zD) (t : List zB) (f : Int) (a : Int) {e : Int} (h : e ≠ 0) : yI x f t a e = some x := by
  unfold yI
  rw [if_neg h]
theorem y8P (s : Str) (t : List zB) (hl : t.length ≤ 9223372036854775807) (a : Nat) : vM s t a 0 = some (t, ((if yK t a s = true then a + 1 else a : Nat) : Int), if yK t a s = true then 0 else 6) := by
  unfold vM
  rw [if_pos rfl, z1H, zA]
  cases h : yK t a s with
  | true =>
    have ha : a < t.length := uC (by
      unfold yK at h
      simp only [Bool.and_eq_true, decide_eq_true_eq] at h
      rw [h.1]; decide)
    simp only [if_true]
    rw [z3B (by omega) (by omega), z1J]
  | false =>
    simp only [Bool.false_eq_true, if_false]
    rfl
theorem z7p (s : Str) (t : List zB) (a : Int) {e : Int} (h : e ≠ 0) : vM s t a e = some (t, a, e) := by
  unfold vM
  rw [if_neg h]
abbrev zT7 : zD := ⟨0, 0, [], [], 0, 0⟩
def typ : Nat → List zB → Nat → zD × Nat × Int
  | 0, _, a => (zT7, a, 6)
  | n + 1, t, a =>
    if vC t a [105, 110, 116] = true then (uG t a (a + 1) ⟨1, 0, [], [], 0, 0⟩, a + 1, 0)
    else if vC t a [98, 111, 111, 108] = true then (uG t a (a + 1) ⟨2, 0, [], [], 0, 0⟩, a + 1, 0)
    else if (zP t a).K = 1 then (uG t a (a + 1) ⟨4, 0, (zP t a).S, [], 0, 0⟩, a + 1, 0)
    else if yK t a [91] = true then
      (if (zP t (a + 1)).K = 2 then
        (if yK t (a + 2) [93] = true then
          (if (typ n t (a + 3)).2.2 = 0 then (uG t a (typ n t (a + 3)).2.1 ⟨3, (zP t (a + 1)).N, [], [(typ n t (a + 3)).1], 0, 0⟩, (typ n t (a + 3)).2.1, 0) else (zT7, (typ n t (a + 3)).2.1, (typ n t (a + 3)).2.2))
        else (zT7, a + 2, 6))
      else (zT7, a + 1, 6))
    else (zT7, a, 6)
theorem yF {t : List zB} {a : Nat} {s : Str} (h : yK t a s = true) : a < t.length := uC (by
  unfold yK at h
  simp only [Bool.and_eq_true, decide_eq_true_eq] at h
  rw [h.1]; decide)
theorem uU {t : List zB} {a : Nat} {s : Str} (h : vC t a s = true) : a < t.length := uC (by
  unfold vC at h
  simp only [Bool.and_eq_true, decide_eq_true_eq] at h
  rw [h.1]; decide)
theorem y2l : ∀ (n : Nat) (t : List zB) (a : Nat), t.length < a + n → (typ n t a).2.2 = 0 → a < (typ n t a).2.1 ∧ (typ n t a).2.1 ≤ t.length
  | 0, t, a, _, h => by cases h
  | n + 1, t, a, hl, h => by
    rw [typ] at h ⊢
    by_cases h1 : vC t a [105, 110, 116] = true
    · rw [if_pos h1]; have := uU h1; exact ⟨by simp, this⟩
    rw [if_neg h1] at h ⊢
    by_cases h2 : vC t a [98, 111, 111, 108] = true
    · rw [if_pos h2]; have := uU h2; exact ⟨by simp, this⟩
    rw [if_neg h2] at h ⊢
    by_cases h3 : (zP t a).K = 1
    · rw [if_pos h3]; have := uC (t := t) (a := a) (by rw [h3]; decide); exact ⟨by simp, this⟩
    rw [if_neg h3] at h ⊢
    by_cases h4 : yK t a [91] = true
    · rw [if_pos h4] at h ⊢
      by_cases h5 : (zP t (a + 1)).K = 2
      · rw [if_pos h5] at h ⊢
        by_cases h6 : yK t (a + 2) [93] = true
        · rw [if_pos h6] at h ⊢
          by_cases h7 : (typ n t (a + 3)).2.2 = 0
          · rw [if_pos h7]
            have := y2l n t (a + 3) (by omega) h7
            exact ⟨by show a < (typ n t (a + 3)).2.1; omega, this.2⟩
          · rw [if_neg h7] at h; exact absurd h h7
        · rw [if_neg h6] at h; cases h
      · rw [if_neg h5] at h; cases h
    · rw [if_neg h4] at h; cases h
inductive Res where
  | ok (x : zD) (b : Nat)
  | bad (b : Nat)
def z6z (x : zB) : Int × Nat :=
  if x.K = 4 then
    if x.S = [124, 124] then (1, 1)
    else if x.S = [38, 38] then (2, 2)
    else if x.S = [61, 61] then (3, 3)
    else if x.S = [33, 61] then (4, 3)
    else if x.S = [60] then (5, 3)
    else if x.S = [60, 61] then (6, 3)
    else if x.S = [62] then (7, 3)
    else if x.S = [62, 61] then (8, 3)
    else if x.S = [43] then (9, 4)
    else if x.S = [45] then (10, 4)
    else if x.S = [42] then (11, 5)
    else if x.S = [47] then (12, 5)
    else if x.S = [37] then (13, 5)
    else (0, 0)
  else (0, 0)
theorem z5a {x : zB} (h : (z6z x).2 ≠ 0) : x.K = 4 := by
  unfold z6z at h
  by_cases hk : x.K = 4
  · exact hk
  · rw [if_neg hk] at h; exact absurd rfl h
theorem v4Z (x : zB) : (z6z x).2 ≤ 5 := by
  have st : ∀ (c : Prop) [Decidable c] (p q : Int × Nat), p.2 ≤ 5 → q.2 ≤ 5 → (if c then p else q).2 ≤ 5 := by intro c _ p q h1 h2; split <;> assumption
  unfold z6z
  repeat' (first | decide | refine st _ _ _ ?_ ?_)
inductive AK where
  | one (k n : Int) (s : Str)
  | paren
  | call (k : Int) (s : Str) (o : Nat) (few : Bool)
  | lis
  | nm
  | no
def z0o (t : List zB) (a : Nat) : AK :=
  if (zP t a).K = 2 then .one 5 (zP t a).N []
  else if (zP t a).K = 1 then (if yK t (a + 1) [40] = true then .call 16 (zP t a).S (a + 1) true else .one 19 0 (zP t a).S)
  else if vC t a [116, 114, 117, 101] = true then .one 6 1 []
  else if vC t a [102, 97, 108, 115, 101] = true then .one 6 0 []
  else if vC t a [114, 101, 97, 100] = true then .one 18 0 []
  else if vC t a [110, 101, 119] = true then (if (zP t (a + 1)).K = 1 then .call 15 (zP t (a + 1)).S (a + 2) false else .nm)
  else if yK t a [40] = true then .paren
  else if yK t a [91] = true then .lis
  else if yK t a [64] = true then (if (zP t (a + 1)).K = 1 then .call 17 (zP t (a + 1)).S (a + 2) true else .nm)
  else .no
inductive Cat where
  | lev (k : Nat)
  | ll (k times f : Nat) (x : zD)
  | post
  | pl (f : Nat) (x : zD)
  | atom
  | cls (few : Bool)
  | lst (acc : List zD)
abbrev lT (l : List zD) : zD := ⟨0, 0, [], l, 0, 0⟩
inductive Der (t : List zB) : Cat → Nat → Res → Prop
  | un {a b : Nat} {n : Int} {x : zD} : (n = 1 ∧ yK t a [45] = true) ∨ (n = 2 ∧ yK t a [33] = true) → Der t (.lev 6) (a + 1) (.ok x b) → Der t (.lev 6) a (.ok (uG t a b ⟨11, n, [], [x], 0, 0⟩) b)
  | unB {a b : Nat} : yK t a [45] = true ∨ yK t a [33] = true → Der t (.lev 6) (a + 1) (.bad b) → Der t (.lev 6) a (.bad b)
  | unP {a : Nat} {r : Res} : yK t a [45] = false → yK t a [33] = false → Der t .post a r → Der t (.lev 6) a r
  | lev {k a b : Nat} {x : zD} {r : Res} : 1 ≤ k → k ≤ 5 → Der t (.lev (k + 1)) a (.ok x b) → Der t (.ll k 0 a x) b r → Der t (.lev k) a r
  | levB {k a b : Nat} : 1 ≤ k → k ≤ 5 → Der t (.lev (k + 1)) a (.bad b) → Der t (.lev k) a (.bad b)
  | llE {k m f a : Nat} {x : zD} : 1 ≤ k → (z6z (zP t a)).2 ≠ k ∨ (k = 3 ∧ m = 1) → Der t (.ll k m f x) a (.ok x a)
  | llG {k m f a b : Nat} {x y : zD} {r : Res} : 1 ≤ k → (z6z (zP t a)).2 = k → ¬ (k = 3 ∧ m = 1) → Der t (.lev (k + 1)) (a + 1) (.ok y b) → Der t (.ll k (m + 1) f (uG t f b ⟨10, (z6z (zP t a)).1, [], [x, y], 0, 0⟩)) b r → Der t (.ll k m f x) a r
  | llB {k m f a b : Nat} {x : zD} : 1 ≤ k → (z6z (zP t a)).2 = k → ¬ (k = 3 ∧ m = 1) → Der t (.lev (k + 1)) (a + 1) (.bad b) → Der t (.ll k m f x) a (.bad b)
  | post {a b : Nat} {x : zD} {r : Res} : Der t .atom a (.ok x b) → Der t (.pl a x) b r → Der t .post a r
  | postB {a b : Nat} : Der t .atom a (.bad b) → Der t .post a (.bad b)
  | plE {f a : Nat} {x : zD} : yK t a [91] = false → yK t a [46] = false → Der t (.pl f x) a (.ok x a)
  | plI {f a b : Nat} {x i : zD} {r : Res} : yK t a [91] = true → Der t (.lev 1) (a + 1) (.ok i b) → yK t b [93] = true → Der t (.pl f (uG t f (b + 1) ⟨12, 0, [], [x, i], 0, 0⟩)) (b + 1) r → Der t (.pl f x) a r
  | plI1 {f a b : Nat} {x : zD} : yK t a [91] = true → Der t (.lev 1) (a + 1) (.bad b) → Der t (.pl f x) a (.bad b)
  | plI2 {f a b : Nat} {x i : zD} : yK t a [91] = true → Der t (.lev 1) (a + 1) (.ok i b) → yK t b [93] = false → Der t (.pl f x) a (.bad b)
  | plF {f a : Nat} {x : zD} {r : Res} : yK t a [91] = false → yK t a [46] = true → (zP t (a + 1)).K = 1 → Der t (.pl f (uG t f (a + 2) ⟨13, 0, (zP t (a + 1)).S, [x], 0, 0⟩)) (a + 2) r → Der t (.pl f x) a r
  | plFB {f a : Nat} {x : zD} : yK t a [91] = false → yK t a [46] = true → (zP t (a + 1)).K ≠ 1 → Der t (.pl f x) a (.bad (a + 1))
  | one {a : Nat} {k n : Int} {s : Str} : z0o t a = .one k n s → Der t .atom a (.ok (uG t a (a + 1) ⟨k, n, s, [], 0, 0⟩) (a + 1))
  | par {a b : Nat} {x : zD} : z0o t a = .paren → Der t (.lev 1) (a + 1) (.ok x b) → yK t b [41] = true → Der t .atom a (.ok x (b + 1))
  | par1 {a b : Nat} : z0o t a = .paren → Der t (.lev 1) (a + 1) (.bad b) → Der t .atom a (.bad b)
  | par2 {a b : Nat} {x : zD} : z0o t a = .paren → Der t (.lev 1) (a + 1) (.ok x b) → yK t b [41] = false → Der t .atom a (.bad b)
  | call {a o b : Nat} {k : Int} {s : Str} {few : Bool} {l : List zD} : z0o t a = .call k s o few → Der t (.cls few) o (.ok (lT l) b) → Der t .atom a (.ok (uG t a b ⟨k, 0, s, l, 0, 0⟩) b)
  | callB {a o b : Nat} {k : Int} {s : Str} {few : Bool} : z0o t a = .call k s o few → Der t (.cls few) o (.bad b) → Der t .atom a (.bad b)
  | lis {a b : Nat} {l : List zD} : z0o t a = .lis → Der t (.lst []) (a + 1) (.ok (lT l) b) → yK t b [93] = true → Der t .atom a (.ok (uG t a (b + 1) ⟨14, 0, [], l, 0, 0⟩) (b + 1))
  | lis1 {a b : Nat} : z0o t a = .lis → Der t (.lst []) (a + 1) (.bad b) → Der t .atom a (.bad b)
  | lis2 {a b : Nat} {l : List zD} : z0o t a = .lis → Der t (.lst []) (a + 1) (.ok (lT l) b) → yK t b [93] = false → Der t .atom a (.bad b)
  | nm {a : Nat} : z0o t a = .nm → Der t .atom a (.bad (a + 1))
  | no {a : Nat} : z0o t a = .no → Der t .atom a (.bad a)
  | cls0 {a : Nat} {few : Bool} : yK t a [40] = false → Der t (.cls few) a (.bad a)
  | clsF {a : Nat} : yK t a [40] = true → yK t (a + 1) [41] = true → Der t (.cls true) a (.ok (lT []) (a + 2))
  | cls {a b : Nat} {few : Bool} {l : List zD} : yK t a [40] = true → (few = true → yK t (a + 1) [41] = false) → Der t (.lst []) (a + 1) (.ok (lT l) b) → yK t b [41] = true → Der t (.cls few) a (.ok (lT l) (b + 1))
  | cls1 {a b : Nat} {few : Bool} : yK t a [40] = true → (few = true → yK t (a + 1) [41] = false) → Der t (.lst []) (a + 1) (.bad b) → Der t (.cls few) a (.bad b)
  | cls2 {a b : Nat} {few : Bool} {l : List zD} : yK t a [40] = true → (few = true → yK t (a + 1) [41] = false) → Der t (.lst []) (a + 1) (.ok (lT l) b) → yK t b [41] = false → Der t (.cls few) a (.bad b)
  | lstE {a b : Nat} {acc : List zD} {x : zD} : Der t (.lev 1) a (.ok x b) → yK t b [44] = false → Der t (.lst acc) a (.ok (lT (acc ++ [x])) b)
  | lstG {a b : Nat} {acc : List zD} {x : zD} {r : Res} : Der t (.lev 1) a (.ok x b) → yK t b [44] = true → Der t (.lst (acc ++ [x])) (b + 1) r → Der t (.lst acc) a r
  | lstB {a b : Nat} {acc : List zD} : Der t (.lev 1) a (.bad b) → Der t (.lst acc) a (.bad b)
def InR (t : List zB) (c : Cat) (a : Nat) : Res → Prop
  | .ok x b => (match c with | .ll _ _ _ _ => a ≤ b | .pl _ _ => a ≤ b | _ => a < b) ∧ b ≤ t.length
  | .bad b => a ≤ b ∧ b ≤ t.length
theorem z2C {t : List zB} {a : Nat} (h : z0o t a ≠ .no) : a < t.length := by
  unfold z0o at h
  by_cases h1 : (zP t a).K = 2
  · exact uC (by rw [h1]; decide)
  rw [if_neg h1] at h
  by_cases h2 : (zP t a).K = 1
  · exact uC (by rw [h2]; decide)
  rw [if_neg h2] at h
  by_cases h3 : vC t a [116, 114, 117, 101] = true
  · exact uU h3
  rw [if_neg h3] at h
  by_cases h3 : vC t a [102, 97, 108, 115, 101] = true
  · exact uU h3
  rw [if_neg h3] at h
  by_cases h3 : vC t a [114, 101, 97, 100] = true
  · exact uU h3
  rw [if_neg h3] at h
  by_cases h3 : vC t a [110, 101, 119] = true
  · exact uU h3
  rw [if_neg h3] at h
  by_cases h3 : yK t a [40] = true
  · exact yF h3
  rw [if_neg h3] at h
  by_cases h3 : yK t a [91] = true
  · exact yF h3
  rw [if_neg h3] at h
  by_cases h3 : yK t a [64] = true
  · exact yF h3
  rw [if_neg h3] at h
  exact absurd rfl h
theorem z4Q {t : List zB} {a o : Nat} {k : Int} {s : Str} {few : Bool} (h : z0o t a = .call k s o few) : a < o ∧ o ≤ t.length := by
  have h0 := z2C (t := t) (a := a) (by rw [h]; simp)
  unfold z0o at h
  repeat' split at h
  all_goals first
    | (cases h; done)
    | (injection h with h1 h2 h3 h4; subst h3; rename_i q; have := uC (t := t) (a := a + 1) (by rw [q]; decide); omega)
    | (injection h with h1 h2 h3 h4; subst h3; omega)
theorem Der.inR {t : List zB} {c : Cat} {a : Nat} {r : Res} (h : Der t c a r) : a ≤ t.length → InR t c a r := by
  induction h with
  | un h1 _ ih =>
    intro _
    have ha : _ < t.length := h1.elim (fun h => yF h.2) (fun h => yF h.2)
    have := ih (by omega); simp only [InR] at this ⊢; omega
  | unB h1 _ ih =>
    intro _
    have ha : _ < t.length := h1.elim (fun h => yF h) (fun h => yF h)
    have := ih (by omega); simp only [InR] at this ⊢; omega
  | unP _ _ _ ih => intro h; exact ih h
  | @lev k a b x r h1 h2 _ _ ih1 ih2 =>
    intro h
    have q1 := ih1 h; simp only [InR] at q1
    have q2 := ih2 q1.2
    cases r <;> simp only [InR] at q2 ⊢ <;> omega
  | levB _ _ _ ih => intro h; exact ih h
  | llE _ _ => intro h; simp only [InR]; omega
  | @llG k m f a b x y r h1 h2 h3 _ _ ih1 ih2 =>
    intro h
    have ha := uC (t := t) (a := a) (by rw [z5a (by omega)]; decide)
    have q1 := ih1 (by omega); simp only [InR] at q1
    have q2 := ih2 q1.2
    cases r <;> simp only [InR] at q2 ⊢ <;> omega
  | @llB k m f a b x h1 h2 h3 _ ih1 =>
    intro h
    have ha := uC (t := t) (a := a) (by rw [z5a (by omega)]; decide)
    have q1 := ih1 (by omega); simp only [InR] at q1 ⊢; omega
  | @post a b x r _ _ ih1 ih2 =>
    intro h
    have q1 := ih1 h; simp only [InR] at q1
    have q2 := ih2 q1.2
    cases r <;> simp only [InR] at q2 ⊢ <;> omega
  | postB _ ih => intro h; exact ih h
  | plE _ _ => intro h; simp only [InR]; omega
  | @plI f a b x i r h1 _ h2 _ ih1 ih2 =>
    intro h
    have ha := yF h1
    have hb := yF h2
    have q1 := ih1 (by omega); simp only [InR] at q1
    have q2 := ih2 (by omega)
    cases r <;> simp only [InR] at q2 ⊢ <;> omega
  | plI1 h1 _ ih =>
    intro h
    have ha := yF h1
    have q1 := ih (by omega); simp only [InR] at q1 ⊢; omega
  | plI2 h1 _ _ ih =>
    intro h
    have ha := yF h1
    have q1 := ih (by omega); simp only [InR] at q1 ⊢; omega
  | @plF f a x r h0 h1 h2 _ ih =>
    intro h
    have ha := uC (t := t) (a := a + 1) (by rw [h2]; decide)
    have q2 := ih (by omega)
    cases r <;> simp only [InR] at q2 ⊢ <;> omega
  | plFB _ h1 _ => intro h; have := yF h1; simp only [InR]; omega
  | one h1 => intro h; have := z2C (by rw [h1]; simp); simp only [InR]; omega
  | par h1 _ h2 ih =>
    intro h; have ha := z2C (by rw [h1]; simp); have hb := yF h2
    have q1 := ih (by omega); simp only [InR] at q1 ⊢; omega
  | par1 h1 _ ih =>
    intro h; have ha := z2C (by rw [h1]; simp)
    have q1 := ih (by omega); simp only [InR] at q1 ⊢; omega
  | par2 h1 _ _ ih =>
    intro h; have ha := z2C (by rw [h1]; simp)
    have q1 := ih (by omega); simp only [InR] at q1 ⊢; omega
  | call h1 _ ih =>
    intro h; have ha := z4Q h1
    have q1 := ih (by omega); simp only [InR] at q1 ⊢; omega
  | callB h1 _ ih =>
    intro h; have ha := z4Q h1
    have q1 := ih (by omega); simp only [InR] at q1 ⊢; omega
  | lis h1 _ h2 ih =>
    intro h; have ha := z2C (by rw [h1]; simp); have hb := yF h2
    have q1 := ih (by omega); simp only [InR] at q1 ⊢; omega
  | lis1 h1 _ ih =>
    intro h; have ha := z2C (by rw [h1]; simp)
    have q1 := ih (by omega); simp only [InR] at q1 ⊢; omega
  | lis2 h1 _ _ ih =>
    intro h; have ha := z2C (by rw [h1]; simp)
    have q1 := ih (by omega); simp only [InR] at q1 ⊢; omega
  | nm h1 => intro h; have ha := z2C (by rw [h1]; simp); simp only [InR]; omega
  | no _ => intro h; simp only [InR]; omega
  | cls0 _ => intro h; simp only [InR]; omega
  | clsF h1 h2 => intro h; have ha := yF h2; simp only [InR]; omega
  | cls h1 _ _ h2 ih =>
    intro h; have ha := yF h1; have hb := yF h2
    have q1 := ih (by omega); simp only [InR] at q1 ⊢; omega
  | cls1 h1 _ _ ih =>
    intro h; have ha := yF h1
    have q1 := ih (by omega); simp only [InR] at q1 ⊢; omega
  | cls2 h1 _ _ _ ih =>
    intro h; have ha := yF h1
    have q1 := ih (by omega); simp only [InR] at q1 ⊢; omega
  | lstE _ _ ih => intro h; have q1 := ih h; simp only [InR] at q1 ⊢; omega
  | @lstG a b acc x r _ h2 _ ih1 ih2 =>
    intro h; have hb := yF h2
    have q1 := ih1 h; simp only [InR] at q1
    have q2 := ih2 (by omega)
    cases r <;> simp only [InR] at q2 ⊢ <;> omega
  | lstB _ ih => intro h; have q1 := ih h; simp only [InR] at q1 ⊢; omega
theorem v4K (t : List zB) : ∀ (d a : Nat), a + d = t.length → ∀ k, 1 ≤ k → k ≤ 6 → ∃ r, Der t (.lev k) a r := by
  intro d
  induction d using Nat.strongRecOn with
  | _ d IH =>
    intro a had
    have up : ∀ b, a < b → b ≤ t.length → ∀ k, 1 ≤ k → k ≤ 6 → ∃ r, Der t (.lev k) b r := fun b h1 h2 k hk1 hk2 => IH (t.length - b) (by omega) b (by omega) k hk1 hk2
    have lst : ∀ (n b : Nat) (acc : List zD), a < b → b + n = t.length → ∃ r, Der t (.lst acc) b r ∧ ∀ x c, r = .ok x c → ∃ l, x = lT l := by
      intro n
      induction n using Nat.strongRecOn with
      | _ n ihn =>
        intro b acc h1 h2
        obtain ⟨r, hr⟩ := up b h1 (by omega) 1 (by omega) (by omega)
        have q := hr.inR (by omega)
        cases r with
        | bad c => exact ⟨_, .lstB hr, fun _ _ h => by cases h⟩
        | ok x c =>
          simp only [InR] at q
          cases hs : yK t c [44] with
          | false => exact ⟨_, .lstE hr hs, fun _ _ h => by cases h; exact ⟨_, rfl⟩⟩
          | true =>
            have := yF hs
            obtain ⟨r, h3, h4⟩ := ihn (t.length - (c + 1)) (by omega) (c + 1) (acc ++ [x]) (by omega) (by omega)
            exact ⟨r, .lstG hr hs h3, h4⟩
    have cls : ∀ (b : Nat) (few : Bool), a < b → b ≤ t.length → ∃ r, Der t (.cls few) b r ∧ ∀ x c, r = .ok x c → ∃ l, x = lT l := by
      intro b few h1 h2
      cases hs : yK t b [40] with
      | false => exact ⟨_, .cls0 hs, fun _ _ h => by cases h⟩
      | true =>
        have hb := yF hs
        by_cases hf : few = true ∧ yK t (b + 1) [41] = true
        · obtain ⟨rfl, h⟩ := hf
          exact ⟨_, .clsF hs h, fun _ _ h => by cases h; exact ⟨_, rfl⟩⟩
        · have hf' : few = true → yK t (b + 1) [41] = false := fun h => by
            cases h1 : yK t (b + 1) [41] with
            | false => rfl
            | true => exact absurd ⟨h, h1⟩ hf
          obtain ⟨r, h3, h4⟩ := lst (t.length - (b + 1)) (b + 1) [] (by omega) (by omega)
          cases r with
          | bad c => exact ⟨_, .cls1 hs hf' h3, fun _ _ h => by cases h⟩
          | ok x c =>
            obtain ⟨l, rfl⟩ := h4 x c rfl
            cases hc : yK t c [41] with
            | true => exact ⟨_, .cls hs hf' h3 hc, fun _ _ h => by cases h; exact ⟨_, rfl⟩⟩
            | false => exact ⟨_, .cls2 hs hf' h3 hc, fun _ _ h => by cases h⟩
    have atom : ∃ r, Der t .atom a r := by
      cases hk : z0o t a with
      | no => exact ⟨_, .no hk⟩
      | nm => exact ⟨_, .nm hk⟩
      | one k n s => exact ⟨_, .one hk⟩
      | paren =>
        have ha := z2C (t := t) (a := a) (by rw [hk]; simp)
        obtain ⟨r, hr⟩ := up (a + 1) (by omega) (by omega) 1 (by omega) (by omega)
        cases r with
        | bad c => exact ⟨_, .par1 hk hr⟩
        | ok x c =>
          cases hc : yK t c [41] with
          | true => exact ⟨_, .par hk hr hc⟩
          | false => exact ⟨_, .par2 hk hr hc⟩
      | call k s o few =>
        have ha := z4Q hk
        obtain ⟨r, h3, h4⟩ := cls o few ha.1 ha.2
        cases r with
        | bad c => exact ⟨_, .callB hk h3⟩
        | ok x c =>
          obtain ⟨l, rfl⟩ := h4 x c rfl
          exact ⟨_, .call hk h3⟩
      | lis =>
        have ha := z2C (t := t) (a := a) (by rw [hk]; simp)
        obtain ⟨r, h3, h4⟩ := lst (t.length - (a + 1)) (a + 1) [] (by omega) (by omega)
        cases r with
        | bad c => exact ⟨_, .lis1 hk h3⟩
        | ok x c =>
          obtain ⟨l, rfl⟩ := h4 x c rfl
          cases hc : yK t c [93] with
          | true => exact ⟨_, .lis hk h3 hc⟩
          | false => exact ⟨_, .lis2 hk h3 hc⟩
    have pl : ∀ (n b : Nat) (x : zD), a < b → b + n = t.length → ∃ r, Der t (.pl a x) b r := by
      intro n
      induction n using Nat.strongRecOn with
      | _ n ihn =>
        intro b x h1 h2
        cases hs : yK t b [91] with
        | true =>
          have hb := yF hs
          obtain ⟨r, hr⟩ := up (b + 1) (by omega) (by omega) 1 (by omega) (by omega)
          have q := hr.inR (by omega)
          cases r with
          | bad c => exact ⟨_, .plI1 hs hr⟩
          | ok i c =>
            simp only [InR] at q
            cases hc : yK t c [93] with
            | false => exact ⟨_, .plI2 hs hr hc⟩
            | true =>
              have := yF hc
              obtain ⟨r, h3⟩ := ihn (t.length - (c + 1)) (by omega) (c + 1) _ (by omega) (by omega)
              exact ⟨r, .plI hs hr hc h3⟩
        | false =>
          cases hd : yK t b [46] with
          | false => exact ⟨_, .plE hs hd⟩
          | true =>
            by_cases hk : (zP t (b + 1)).K = 1
            · have := uC (t := t) (a := b + 1) (by rw [hk]; decide)
              obtain ⟨r, h3⟩ := ihn (t.length - (b + 2)) (by omega) (b + 2) _ (by omega) (by omega)
              exact ⟨r, .plF hs hd hk h3⟩
            · exact ⟨_, .plFB hs hd hk⟩
    have post : ∃ r, Der t .post a r := by
      obtain ⟨r, hr⟩ := atom
      have q := hr.inR (by omega)
      cases r with
      | bad c => exact ⟨_, .postB hr⟩
      | ok x c =>
        simp only [InR] at q
        obtain ⟨r, h3⟩ := pl (t.length - c) c x (by omega) (by omega)
        exact ⟨r, .post hr h3⟩
    have un : ∃ r, Der t (.lev 6) a r := by
      by_cases hs : yK t a [45] = true ∨ yK t a [33] = true
      · have ha : a < t.length := hs.elim yF yF
        obtain ⟨r, hr⟩ := up (a + 1) (by omega) (by omega) 6 (by omega) (by omega)
        cases r with
        | bad c => exact ⟨_, .unB hs hr⟩
        | ok x c =>
          rcases hs with hs | hs
          · exact ⟨_, .un (n := 1) (.inl ⟨rfl, hs⟩) hr⟩
          · exact ⟨_, .un (n := 2) (.inr ⟨rfl, hs⟩) hr⟩
      · have h1 : yK t a [45] = false := by cases h : yK t a [45] <;> simp_all
        have h2 : yK t a [33] = false := by cases h : yK t a [33] <;> simp_all
        obtain ⟨r, hr⟩ := post
        exact ⟨r, .unP h1 h2 hr⟩
    have ll : ∀ (n b k m : Nat) (x : zD), a < b → b + n = t.length → 1 ≤ k → k ≤ 5 → ∃ r, Der t (.ll k m a x) b r := by
      intro n
      induction n using Nat.strongRecOn with
      | _ n ihn =>
        intro b k m x h1 h2 hk1 hk2
        by_cases ho : (z6z (zP t b)).2 ≠ k ∨ (k = 3 ∧ m = 1)
        · exact ⟨_, .llE hk1 ho⟩
        · have ho1 : (z6z (zP t b)).2 = k := by
            by_cases h : (z6z (zP t b)).2 = k
            · exact h
            · exact absurd (.inl h) ho
          have ho2 : ¬ (k = 3 ∧ m = 1) := fun h => ho (.inr h)
          have hb := uC (t := t) (a := b) (by rw [z5a (by omega)]; decide)
          obtain ⟨r, hr⟩ := up (b + 1) (by omega) (by omega) (k + 1) (by omega) (by omega)
          have q := hr.inR (by omega)
          cases r with
          | bad c => exact ⟨_, .llB hk1 ho1 ho2 hr⟩
          | ok y c =>
            simp only [InR] at q
            obtain ⟨r, h3⟩ := ihn (t.length - c) (by omega) c k (m + 1) _ (by omega) (by omega) hk1 hk2
            exact ⟨r, .llG hk1 ho1 ho2 hr h3⟩
    have v2X : ∀ j, j ≤ 5 → ∃ r, Der t (.lev (6 - j)) a r := by
      intro j
      induction j with
      | zero => intro _; exact un
      | succ j ih =>
        intro hj
        obtain ⟨r, hr⟩ := ih (by omega)
        rw [show 6 - j = (6 - (j + 1)) + 1 by omega] at hr
        have q := hr.inR (by omega)
        cases r with
        | bad c => exact ⟨_, .levB (by omega) (by omega) hr⟩
        | ok x c =>
          simp only [InR] at q
          obtain ⟨r, h3⟩ := ll (t.length - c) c (6 - (j + 1)) 0 x (by omega) (by omega) (by omega) (by omega)
          exact ⟨r, .lev (by omega) (by omega) hr h3⟩
    intro k hk1 hk2
    have := v2X (6 - k) (by omega)
    rwa [show 6 - (6 - k) = k by omega] at this
theorem jC {t : List zB} (hl : t.length ≤ 1048576) {a : Nat} (h : a ≤ t.length + 3) : IntKind.wrap .i64 ((a : Int) + 1) = ((a + 1 : Nat) : Int) := by rw [z3B (by omega) (by omega)]; omega
theorem v5q {t : List zB} {a : Nat} {s : Str} (h : yK t a s = true) : (zP t a).K = 4 ∧ (zP t a).S = s := by
  unfold yK at h
  simpa using h
theorem y5r {t : List zB} {a : Nat} {s : Str} (h : vC t a s = true) : (zP t a).K = 3 ∧ (zP t a).S = s := by
  unfold vC at h
  simpa using h
theorem v4r {t : List zB} {a : Nat} (h : (zP t a).K ≠ 4) (s : Str) : yK t a s = false := by unfold yK; rw [decide_eq_false h]; rfl
theorem v4q {t : List zB} {a : Nat} {s s' : Str} (h : yK t a s = true) (hs : s ≠ s') : yK t a s' = false := by
  unfold yK; rw [(v5q h).2]; simp [hs]
theorem y5s {t : List zB} {a : Nat} {s s' : Str} (h : vC t a s = true) (hs : s ≠ s') : vC t a s' = false := by
  unfold vC; rw [(y5r h).2]; simp [hs]
theorem v5r (s : Str) : s = [124, 124] ∨ s = [38, 38] ∨ s = [61, 61] ∨ s = [33, 61] ∨ s = [60] ∨ s = [60, 61] ∨ s = [62] ∨ s = [62, 61] ∨ s = [43] ∨ s = [45] ∨ s = [42] ∨ s = [47] ∨ s = [37] ∨
    (s ≠ [124, 124] ∧ s ≠ [38, 38] ∧ s ≠ [61, 61] ∧ s ≠ [33, 61] ∧ s ≠ [60] ∧ s ≠ [60, 61] ∧ s ≠ [62] ∧ s ≠ [62, 61] ∧ s ≠ [43] ∧ s ≠ [45] ∧ s ≠ [42] ∧ s ≠ [47] ∧ s ≠ [37]) := by
  by_cases h : s ∈ ([[124, 124], [38, 38], [61, 61], [33, 61], [60], [60, 61], [62], [62, 61], [43], [45], [42], [47], [37]] : List Str)
  · simp only [List.mem_cons, List.not_mem_nil, or_false] at h
    rcases h with h | h | h | h | h | h | h | h | h | h | h | h | h <;> simp [h]
  · simp only [List.mem_cons, List.not_mem_nil, or_false, not_or] at h
    simp only [h, false_or]
    exact h
theorem y8f {n : Nat} (h : n ≤ 1048577) : z4F 72 n := by unfold z4F; omega
theorem z4R {t : List zB} {a : Nat} (h : z0o t a = .paren) : yK t a [40] = true := by
  unfold z0o at h
  repeat' split at h
  all_goals first | (cases h; done) | assumption
theorem z6F {t : List zB} {a : Nat} (h : z0o t a = .lis) : yK t a [91] = true := by
  unfold z0o at h
  repeat' split at h
  all_goals first | (cases h; done) | assumption
theorem y8x {t : List zB} {a o : Nat} {k : Int} {s : Str} {few : Bool} (h : z0o t a = .call k s o few) :
    (k = 16 ∧ s = (zP t a).S ∧ o = a + 1 ∧ few = true ∧ (zP t a).K = 1 ∧ yK t (a + 1) [40] = true) ∨ (k = 15 ∧ s = (zP t (a + 1)).S ∧ o = a + 2 ∧ few = false ∧ vC t a [110, 101, 119] = true ∧ (zP t (a + 1)).K = 1) ∨
    (k = 17 ∧ s = (zP t (a + 1)).S ∧ o = a + 2 ∧ few = true ∧ yK t a [64] = true ∧ (zP t (a + 1)).K = 1) := by
  unfold z0o at h
  repeat' split at h
  all_goals first
    | (cases h; done)
    | (injection h with e1 e2 e3 e4; subst e1; subst e2; subst e3; subst e4
       first
       | exact .inl ⟨rfl, rfl, rfl, rfl, by assumption, by assumption⟩
       | exact .inr (.inl ⟨rfl, rfl, rfl, rfl, by assumption, by assumption⟩)
       | exact .inr (.inr ⟨rfl, rfl, rfl, rfl, by assumption, by assumption⟩))
theorem v3e {t : List zB} {a : Nat} (h : z0o t a = .nm) : (vC t a [110, 101, 119] = true ∨ yK t a [64] = true) ∧ (zP t (a + 1)).K ≠ 1 := by
  unfold z0o at h
  repeat' split at h
  all_goals first
    | (cases h; done)
    | exact ⟨.inl (by assumption), by assumption⟩
    | exact ⟨.inr (by assumption), by assumption⟩
theorem v3f {t : List zB} {a : Nat} (h : z0o t a = .no) : (zP t a).K ≠ 2 ∧ (zP t a).K ≠ 1 ∧ vC t a [116, 114, 117, 101] = false ∧ vC t a [102, 97, 108, 115, 101] = false ∧ vC t a [114, 101, 97, 100] = false ∧ vC t a [110, 101, 119] = false ∧
    yK t a [40] = false ∧ yK t a [91] = false ∧ yK t a [64] = false := by
  unfold z0o at h
  repeat' split at h
  all_goals first
    | (cases h; done)
    | (refine ⟨by assumption, by assumption, ?_, ?_, ?_, ?_, ?_, ?_, ?_⟩ <;> (first | (apply Bool.eq_false_iff.2; assumption)))
def z7h (n : Int) : Nat := if n = 1 then 1 else if n = 2 then 2 else if n ≤ 8 then 3 else if n ≤ 10 then 4 else 5
def v0O (n : Int) : Str :=
  if n = 1 then [124, 124] else if n = 2 then [38, 38] else if n = 3 then [61, 61] else if n = 4 then [33, 61] else if n = 5 then [60] else if n = 6 then [60, 61] else if n = 7 then [62] else if n = 8 then [62, 61]
  else if n = 9 then [43] else if n = 10 then [45] else if n = 11 then [42] else if n = 12 then [47] else [37]
def bnd (t : zD) : Nat := if t.K = 10 then z7h t.N else if t.K = 11 then 6 else 7
def hw (least : Nat) (x : zD) (w : List Str) : List Str := if least ≤ bnd x then w else [[40]] ++ w ++ [[41]]
def y4L (n : Int) : Nat := if z7h n = 3 then 4 else z7h n
def z9A (k : Int) (s : Str) : List Str := if k = 16 then [s] else if k = 17 then [[64], s] else [[110, 101, 119], s]
abbrev Nm (s : Str) : Prop := Tok 1 0 s s
inductive XC where
  | ex (x : zD)
  | ls (l : List zD)
inductive PR : XC → List Str → Prop
  | num {n : Nat} {F T : Int} : n ≤ 9223372036854775807 → Tok 2 n [] (y1p n) → PR (.ex ⟨5, (n : Int), [], [], F, T⟩) [y1p n]
  | tru {F T : Int} : PR (.ex ⟨6, 1, [], [], F, T⟩) [[116, 114, 117, 101]]
  | fal {F T : Int} : PR (.ex ⟨6, 0, [], [], F, T⟩) [[102, 97, 108, 115, 101]]
  | rd {F T : Int} : PR (.ex ⟨18, 0, [], [], F, T⟩) [[114, 101, 97, 100]]
  | name {s : Str} {F T : Int} : Nm s → PR (.ex ⟨19, 0, s, [], F, T⟩) [s]
  | bin {n : Int} {x y : zD} {wx wy : List Str} {F T : Int} : 1 ≤ n → n ≤ 13 → PR (.ex x) wx → PR (.ex y) wy → PR (.ex ⟨10, n, [], [x, y], F, T⟩) (hw (y4L n) x wx ++ [v0O n] ++ hw (z7h n + 1) y wy)
  | neg {x : zD} {wx : List Str} {F T : Int} : PR (.ex x) wx → PR (.ex ⟨11, 1, [], [x], F, T⟩) ([[45]] ++ hw 6 x wx)
  | not {x : zD} {wx : List Str} {F T : Int} : PR (.ex x) wx → PR (.ex ⟨11, 2, [], [x], F, T⟩) ([[33]] ++ hw 6 x wx)
  | index {x i : zD} {wx wi : List Str} {F T : Int} : PR (.ex x) wx → PR (.ex i) wi → PR (.ex ⟨12, 0, [], [x, i], F, T⟩) (hw 7 x wx ++ [[91]] ++ wi ++ [[93]])
  | field {s : Str} {x : zD} {wx : List Str} {F T : Int} : Nm s → PR (.ex x) wx → PR (.ex ⟨13, 0, s, [x], F, T⟩) (hw 7 x wx ++ [[46], s])
  | lis {l : List zD} {w : List Str} {F T : Int} : PR (.ls l) w → PR (.ex ⟨14, 0, [], l, F, T⟩) ([[91]] ++ w ++ [[93]])
  | call {k : Int} {s : Str} {l : List zD} {w : List Str} {F T : Int} : k = 15 ∨ k = 16 ∨ k = 17 → Nm s → PR (.ls l) w → PR (.ex ⟨k, 0, s, l, F, T⟩) (z9A k s ++ [[40]] ++ w ++ [[41]])
  | call0 {k : Int} {s : Str} {F T : Int} : k = 16 ∨ k = 17 → Nm s → PR (.ex ⟨k, 0, s, [], F, T⟩) (z9A k s ++ [[40]] ++ [] ++ [[41]])
  | one {x : zD} {w : List Str} : PR (.ex x) w → PR (.ls [x]) w
  | cons {x : zD} {l : List zD} {w wl : List Str} : PR (.ex x) w → PR (.ls l) wl → PR (.ls (x :: l)) (w ++ [[44]] ++ wl)
def szw : List Str → Nat
  | [] => 0
  | w :: r => w.length + 1 + szw r
theorem zL (a b : List Str) : szw (a ++ b) = szw a + szw b := by
  induction a with
  | nil => simp [szw]
  | cons x r ih => simp [szw, ih]; omega
theorem z8B (k : Nat) (x : zD) (w : List Str) : szw (hw k x w) ≤ szw w + 4 := by
  unfold hw; split
  · omega
  · rw [zL, zL]; simp [szw]; omega
theorem v3L {x : zB} (h : (z6z x).2 ≠ 0) : 1 ≤ (z6z x).1 ∧ (z6z x).1 ≤ 13 ∧ v0O (z6z x).1 = x.S ∧ z7h (z6z x).1 = (z6z x).2 := by
  have hk := z5a h
  unfold z6z at h ⊢
  rw [if_pos hk] at h ⊢
  by_cases c0 : x.S = [124, 124]
  · rw [if_pos c0, c0]; exact ⟨by decide, by decide, rfl, rfl⟩
  rw [if_neg c0] at h ⊢
  by_cases c1 : x.S = [38, 38]
  · rw [if_pos c1, c1]; exact ⟨by decide, by decide, rfl, rfl⟩
  rw [if_neg c1] at h ⊢
  by_cases c2 : x.S = [61, 61]
  · rw [if_pos c2, c2]; exact ⟨by decide, by decide, rfl, rfl⟩
  rw [if_neg c2] at h ⊢
  by_cases c3 : x.S = [33, 61]
  · rw [if_pos c3, c3]; exact ⟨by decide, by decide, rfl, rfl⟩
  rw [if_neg c3] at h ⊢
  by_cases c4 : x.S = [60]
  · rw [if_pos c4, c4]; exact ⟨by decide, by decide, rfl, rfl⟩
  rw [if_neg c4] at h ⊢
  by_cases c5 : x.S = [60, 61]
  · rw [if_pos c5, c5]; exact ⟨by decide, by decide, rfl, rfl⟩
  rw [if_neg c5] at h ⊢
  by_cases c6 : x.S = [62]
  · rw [if_pos c6, c6]; exact ⟨by decide, by decide, rfl, rfl⟩
  rw [if_neg c6] at h ⊢
  by_cases c7 : x.S = [62, 61]
  · rw [if_pos c7, c7]; exact ⟨by decide, by decide, rfl, rfl⟩
  rw [if_neg c7] at h ⊢
  by_cases c8 : x.S = [43]
  · rw [if_pos c8, c8]; exact ⟨by decide, by decide, rfl, rfl⟩
  rw [if_neg c8] at h ⊢
  by_cases c9 : x.S = [45]
  · rw [if_pos c9, c9]; exact ⟨by decide, by decide, rfl, rfl⟩
  rw [if_neg c9] at h ⊢
  by_cases c10 : x.S = [42]
  · rw [if_pos c10, c10]; exact ⟨by decide, by decide, rfl, rfl⟩
  rw [if_neg c10] at h ⊢
  by_cases c11 : x.S = [47]
  · rw [if_pos c11, c11]; exact ⟨by decide, by decide, rfl, rfl⟩
  rw [if_neg c11] at h ⊢
  by_cases c12 : x.S = [37]
  · rw [if_pos c12, c12]; exact ⟨by decide, by decide, rfl, rfl⟩
  rw [if_neg c12] at h ⊢
  exact absurd rfl h
mutual
def jB : zD → Nat
  | ⟨_, _, _, l, _, _⟩ => 1 + yR l
def yR : List zD → Nat
  | [] => 0
  | x :: r => jB x + yR r
end
theorem z8P (t : zD) : jB t = 1 + yR t.L := by cases t; simp [jB]
theorem v2K (t : zD) : 0 < jB t := by rw [z8P]; omega
theorem y5o {l : List zD} {i : Nat} (h : i < l.length) : yR (l.drop i) = jB l[i] + yR (l.drop (i + 1)) := by
  rw [List.drop_eq_getElem_cons h, yR]
theorem y5X (l : List zD) : l.length ≤ yR l := by
  induction l with
  | nil => simp [yR]
  | cons x r ih => have := v2K x; simp [yR]; omega
theorem y5p (l : List zD) (i : Nat) : yR l = yR (l.take i) + yR (l.drop i) := by
  induction l generalizing i with
  | nil => simp [yR]
  | cons x r ih =>
    cases i with
    | zero => simp [yR]
    | succ i => simp [yR, ih i]; omega
theorem z8Q (a b : List zD) : yR (a ++ b) = yR a + yR b := by
  induction a with
  | nil => simp [yR]
  | cons x r ih => simp [yR, ih]; omega
def SzM (t : List zB) : Cat → Nat → Res → Prop
  | .ll _ _ _ x, a, r => ∀ y b, r = .ok y b → jB y + 2 * a ≤ jB x + 2 * b
  | .pl _ x, a, r => ∀ y b, r = .ok y b → jB y + 2 * a ≤ jB x + 2 * b
  | .cls _, a, r => ∀ y b, r = .ok y b → yR y.L + 2 * a ≤ 2 * b
  | .lst acc, a, r => ∀ y b, r = .ok y b → yR y.L + 2 * a ≤ yR acc + 2 * b
  | _, a, r => ∀ y b, r = .ok y b → jB y + 2 * a ≤ 2 * b
theorem v2D {t : List zB} {c : Cat} {a : Nat} {r : Res} (h : Der t c a r) : SzM t c a r := by
  induction h with
  | un _ _ ih => intro y b e; cases e; have := ih _ _ rfl; simp [uG, jB, yR]; omega
  | unP _ _ _ ih => exact ih
  | lev _ _ _ _ ih1 ih2 => intro y b e; have := ih1 _ _ rfl; have := ih2 y b e; omega
  | llE _ _ => intro y b e; cases e; omega
  | llG _ _ _ _ _ ih1 ih2 => intro y b e; have := ih1 _ _ rfl; have := ih2 y b e; simp [uG, jB, yR] at this; omega
  | post _ _ ih1 ih2 => intro y b e; have := ih1 _ _ rfl; have := ih2 y b e; omega
  | plE _ _ => intro y b e; cases e; omega
  | plI _ _ _ _ ih1 ih2 => intro y b e; have := ih1 _ _ rfl; have := ih2 y b e; simp [uG, jB, yR] at this; omega
  | plF _ _ _ _ ih => intro y b e; have := ih y b e; simp [uG, jB, yR] at this; omega
  | one _ => intro y b e; cases e; simp [uG, jB, yR]; omega
  | par _ _ _ ih => intro y b e; cases e; have := ih _ _ rfl; omega
  | @call a o b k s few l h1 _ ih => intro y b' e; cases e; have h2 := ih _ _ rfl; have h3 := z4Q h1; simp only [uG, jB] at h2 ⊢; omega
  | lis _ _ _ ih => intro y b e; cases e; have := ih _ _ rfl; simp [uG, jB, yR] at this ⊢; omega
  | clsF _ _ => intro y b e; cases e; simp [yR]; omega
  | cls _ _ _ _ ih => intro y b e; cases e; have := ih _ _ rfl; simp [yR] at this ⊢; omega
  | lstE _ _ ih => intro y b e; cases e; have := ih _ _ rfl; simp [z8Q, yR]; omega
  | lstG _ _ _ ih1 ih2 => intro y b e; have := ih1 _ _ rfl; have := ih2 y b e; simp [z8Q, yR] at this; omega
  | _ => intro y b e; cases e
theorem v5V {t : List zB} {k a b : Nat} {x : zD} (h : Der t (.lev k) a (.ok x b)) : jB x + 2 * a ≤ 2 * b := v2D h x b rfl
def Chn (q : Int) : Int → List zD → Prop
  | _, [] => True
  | p, x :: r => p ≤ x.From ∧ x.From ≤ x.To ∧ x.To ≤ q ∧ Chn q x.To r
inductive Wn : zD → Prop
  | mk (t : zD) : Chn t.To t.From t.L → (∀ x ∈ t.L, Wn x) → Wn t
theorem Chn.mono {q q' : Int} (hq : q ≤ q') : ∀ {l : List zD} {p p' : Int}, p' ≤ p → Chn q p l → Chn q' p' l
  | [], _, _, _, _ => trivial
  | x :: r, p, p', hp, ⟨h1, h2, h3, h4⟩ => ⟨by omega, h2, by omega, Chn.mono hq (Int.le_refl _) h4⟩
theorem Chn.snoc {q : Int} {x : zD} (h1 : x.From ≤ x.To) (h2 : x.To ≤ q) : ∀ {l : List zD} {p q0 : Int}, Chn q0 p l → q0 ≤ x.From → p ≤ q0 → Chn q p (l ++ [x])
  | [], p, q0, _, h3, h4 => ⟨by omega, h1, h2, trivial⟩
  | y :: r, p, q0, ⟨g1, g2, g3, g4⟩, h3, h4 => ⟨g1, g2, by omega, Chn.snoc h1 h2 g4 h3 g3⟩
def Mon (t : List zB) : Prop := ∀ i j, i ≤ j → j < t.length → (zP t i).From ≤ (zP t i).To ∧ (i < j → (zP t i).To ≤ (zP t j).From)
theorem v1W : ∀ {l : List zB} {a : Nat}, Ord a l → (∀ i, i < l.length → (a : Int) ≤ (zP l i).From) ∧ Mon l
  | [], a, h => h.elim
  | x :: r, a, ⟨f, t, h1, h2, h3, h4, h5⟩ => by
    have c0 : zP (x :: r) 0 = x := rfl
    have cs : ∀ i, zP (x :: r) (i + 1) = zP r i := fun i => rfl
    rcases h5 with ⟨rfl, -⟩ | ⟨-, h5⟩
    · refine ⟨fun i hi => ?_, fun i j hij hj => ?_⟩
      · have : i = 0 := by simpa using hi
        subst this; rw [c0]; omega
      · have : j = 0 := by simpa using hj
        have : i = 0 := by omega
        subst this; rw [c0]; exact ⟨by omega, fun h => by omega⟩
    · obtain ⟨g1, g2⟩ := v1W h5
      refine ⟨fun i hi => ?_, fun i j hij hj => ?_⟩
      · cases i with
        | zero => rw [c0]; omega
        | succ i => rw [cs]; have := g1 i (by simpa using hi); omega
      · cases i with
        | zero =>
          rw [c0]
          refine ⟨by omega, fun h => ?_⟩
          cases j with
          | zero => omega
          | succ j => rw [cs]; have := g1 j (by simpa using hj); omega
        | succ i =>
          cases j with
          | zero => omega
          | succ j => rw [cs, cs]; have := g2 i j (by omega) (by simpa using hj); exact ⟨this.1, fun h => this.2 (by omega)⟩
def Bt (t : List zB) (a b : Nat) (x : zD) : Prop := (zP t a).From ≤ x.From ∧ x.From ≤ x.To ∧ x.To ≤ (zP t (b - 1)).To ∧ Wn x
def BM (t : List zB) : Cat → Nat → Res → Prop
  | .ll _ _ f x, a, r => f < a → Bt t f a x → ∀ y b, r = .ok y b → Bt t f b y
  | .pl f x, a, r => f < a → Bt t f a x → ∀ y b, r = .ok y b → Bt t f b y
  | .cls _, a, r => ∀ y b, r = .ok y b → ∃ q : Int, Chn q (zP t a).From y.L ∧ q ≤ (zP t (b - 1)).To ∧ ∀ x ∈ y.L, Wn x
  | .lst acc, a, r => ∀ p q0 : Int, Chn q0 p acc → p ≤ q0 → q0 ≤ (zP t a).From → (∀ x ∈ acc, Wn x) → ∀ y b, r = .ok y b → Chn (zP t (b - 1)).To p y.L ∧ ∀ x ∈ y.L, Wn x
  | _, a, r => ∀ y b, r = .ok y b → Bt t a b y
theorem v1a {t : List zB} (hm : Mon t) {c : Cat} {a : Nat} {r : Res} (h : Der t c a r) : a ≤ t.length → BM t c a r := by
  have le : ∀ {i j : Nat}, i ≤ j → j < t.length → (zP t i).From ≤ (zP t j).To ∧ (zP t i).From ≤ (zP t j).From ∧ (zP t i).To ≤ (zP t j).To := fun {i j} h1 h2 => by
    have q1 := hm i j h1 h2
    have q2 := hm j j (Nat.le_refl _) h2
    by_cases e : i = j
    · subst e; omega
    · have := q1.2 (by omega); omega
  have lt : ∀ {i j : Nat}, i < j → j < t.length → (zP t i).To ≤ (zP t j).From := fun {i j} h1 h2 => (hm i j (by omega) h2).2 h1
  have mk : ∀ {f b : Nat} {k n : Int} {s : Str} {l : List zD}, f < b → b ≤ t.length → Chn (zP t (b - 1)).To (zP t f).From l → (∀ x ∈ l, Wn x) → Bt t f b (uG t f b ⟨k, n, s, l, 0, 0⟩) := fun {f b k n s l} h1 h2 h3 h4 => by
    have := le (i := f) (j := b - 1) (by omega) (by omega)
    exact ⟨Int.le_refl _, this.1, Int.le_refl _, .mk _ h3 h4⟩
  induction h with
  | @un a b n x h1 hd ih =>
    intro ha y b' e; cases e
    have h0 : a < t.length := h1.elim (fun h => yF h.2) (fun h => yF h.2)
    have q := hd.inR (by omega); simp only [InR] at q
    obtain ⟨i1, i2, i3, i4⟩ := ih (by omega) x b rfl
    have := le (i := a) (j := a + 1) (by omega) (by omega)
    exact mk (by omega) q.2 ⟨by omega, i2, i3, trivial⟩ (by simpa using i4)
  | unP _ _ _ ih => exact ih
  | @lev k a b x r h1 h2 hd _ ih1 ih2 =>
    intro ha y c e
    have q := hd.inR ha; simp only [InR] at q
    exact ih2 q.2 q.1 (ih1 ha x b rfl) y c e
  | llE _ _ => intro ha hf hx y b e; cases e; exact hx
  | @llG k m f a b x y r h1 h2 h3 hd _ ih1 ih2 =>
    intro ha hf hx z c e
    have h0 := uC (t := t) (a := a) (by rw [z5a (by omega)]; decide)
    have q := hd.inR (by omega); simp only [InR] at q
    obtain ⟨i1, i2, i3, i4⟩ := ih1 (by omega) y b rfl
    obtain ⟨j1, j2, j3, j4⟩ := hx
    have g1 := lt (i := a - 1) (j := a + 1) (by omega) (by omega)
    have g2 := le (i := a - 1) (j := b - 1) (by omega) (by omega)
    exact ih2 q.2 (by omega) (mk (by omega) q.2 ⟨j1, j2, by omega, by omega, i2, i3, trivial⟩ (by simpa using ⟨j4, i4⟩)) z c e
  | @post a b x r hd _ ih1 ih2 =>
    intro ha y c e
    have q := hd.inR ha; simp only [InR] at q
    exact ih2 q.2 q.1 (ih1 ha x b rfl) y c e
  | plE _ _ => intro ha hf hx y b e; cases e; exact hx
  | @plI f a b x i r h1 hd h2 _ ih1 ih2 =>
    intro ha hf hx z c e
    have h0 := yF h1
    have hb := yF h2
    have q := hd.inR (by omega); simp only [InR] at q
    obtain ⟨i1, i2, i3, i4⟩ := ih1 (by omega) i b rfl
    obtain ⟨j1, j2, j3, j4⟩ := hx
    have g1 := lt (i := a - 1) (j := a + 1) (by omega) (by omega)
    have g2 := le (i := b - 1) (j := b) (by omega) (by omega)
    have g3 := le (i := a - 1) (j := b) (by omega) (by omega)
    exact ih2 (by omega) (by omega) (mk (by omega) (by omega) ⟨j1, j2, by show x.To ≤ (zP t b).To; omega, by omega, i2, by show i.To ≤ (zP t b).To; omega, trivial⟩ (by simpa using ⟨j4, i4⟩)) z c e
  | @plF f a x r h0 h1 h2 _ ih =>
    intro ha hf hx z c e
    have h3 := uC (t := t) (a := a + 1) (by rw [h2]; decide)
    obtain ⟨j1, j2, j3, j4⟩ := hx
    have g3 := le (i := a - 1) (j := a + 1) (by omega) (by omega)
    exact ih (by omega) (by omega) (mk (by omega) (by omega) ⟨j1, j2, by show x.To ≤ (zP t (a + 1)).To; omega, trivial⟩ (by simpa using j4)) z c e
  | @one a k n s h1 =>
    intro ha y b e; cases e
    have h0 := z2C (t := t) (a := a) (by rw [h1]; simp)
    exact mk (by omega) (by omega) trivial (by simp)
  | @par a b x h1 hd h2 ih =>
    intro ha y b' e; cases e
    have h0 := z2C (t := t) (a := a) (by rw [h1]; simp)
    have hb := yF h2
    have q := hd.inR (by omega); simp only [InR] at q
    obtain ⟨i1, i2, i3, i4⟩ := ih (by omega) x b rfl
    have g1 := le (i := a) (j := a + 1) (by omega) (by omega)
    have g2 := le (i := b - 1) (j := b) (by omega) (by omega)
    exact ⟨by omega, i2, by show x.To ≤ (zP t b).To; omega, i4⟩
  | @call a o b k s few l h1 hd ih =>
    intro ha y b' e; cases e
    have h0 := z4Q h1
    have q := hd.inR h0.2; simp only [InR] at q
    obtain ⟨z, i1, i2, i3⟩ := ih h0.2 _ b rfl
    have g1 := le (i := a) (j := o) (by omega) (by omega)
    exact mk (by omega) q.2 (i1.mono i2 g1.2.1) i3
  | @lis a b l h1 hd h2 ih =>
    intro ha y b' e; cases e
    have h0 := z2C (t := t) (a := a) (by rw [h1]; simp)
    have hb := yF h2
    have q := hd.inR (by omega); simp only [InR] at q
    have g1 := le (i := a) (j := a + 1) (by omega) (by omega)
    have g2 := le (i := b - 1) (j := b) (by omega) (by omega)
    obtain ⟨i1, i2⟩ := ih (by omega) (zP t a).From (zP t a).From trivial (Int.le_refl _) g1.2.1 (by simp) _ b rfl
    exact mk (by omega) (by omega) (i1.mono g2.2.2 (Int.le_refl _)) i2
  | @clsF a h1 h2 =>
    intro ha y b e; cases e
    exact ⟨(zP t (a + 2 - 1)).To, trivial, Int.le_refl _, by simp⟩
  | @cls a b few l h1 h2 hd h3 ih =>
    intro ha y b' e; cases e
    have h0 := yF h1
    have hb := yF h3
    have q := hd.inR (by omega); simp only [InR] at q
    have g1 := le (i := a) (j := a + 1) (by omega) (by omega)
    have g2 := le (i := b - 1) (j := b) (by omega) (by omega)
    obtain ⟨i1, i2⟩ := ih (by omega) (zP t a).From (zP t a).From trivial (Int.le_refl _) g1.2.1 (by simp) _ b rfl
    exact ⟨_, i1, g2.2.2, i2⟩
  | @lstE a b acc x hd h1 ih =>
    intro ha p q0 c1 c2 c3 c4 y b' e; cases e
    have q := hd.inR ha; simp only [InR] at q
    obtain ⟨i1, i2, i3, i4⟩ := ih ha x b rfl
    refine ⟨Chn.snoc i2 i3 c1 (by omega) c2, fun z hz => ?_⟩
    rcases List.mem_append.1 hz with hz | hz
    · exact c4 z hz
    · simp at hz; subst hz; exact i4
  | @lstG a b acc x r hd h1 hd2 ih1 ih2 =>
    intro ha p q0 c1 c2 c3 c4 y b' e
    have hb := yF h1
    have q := hd.inR ha; simp only [InR] at q
    obtain ⟨i1, i2, i3, i4⟩ := ih1 ha x b rfl
    by_cases hb1 : b + 1 < t.length
    · have g1 := lt (i := b - 1) (j := b + 1) (by omega) (by omega)
      refine ih2 (by omega) p x.To (Chn.snoc i2 (Int.le_refl _) c1 (by omega) c2) (by omega) (by omega) (fun z hz => ?_) y b' e
      rcases List.mem_append.1 hz with hz | hz
      · exact c4 z hz
      · simp at hz; subst hz; exact i4
    · subst e
      have q2 := hd2.inR (by omega)
      simp only [InR] at q2
      omega
  | _ => first | (intro _ _ _ e; cases e; done) | (intro _ _ _ _ _ e; cases e; done) | (intro _ _ _ _ _ _ _ _ _ e; cases e; done)
def byt (t : List zB) (a b : Nat) : Int := (zP t (b - 1)).To - (zP t a).From
def PXM (t : List zB) (c : Cat) (a : Nat) (r : Res) : Prop := ∀ x b, r = .ok x b → match c with
  | .ll _ _ f y => ∀ wy, f < a → PR (.ex y) wy → ((szw wy + 4 : Nat) : Int) ≤ 8 * byt t f a → ∃ w, PR (.ex x) w ∧ a ≤ b ∧ b ≤ t.length ∧ ((szw w + 4 : Nat) : Int) ≤ 8 * byt t f b
  | .pl f y => ∀ wy, f < a → PR (.ex y) wy → ((szw wy + 4 : Nat) : Int) ≤ 8 * byt t f a → ∃ w, PR (.ex x) w ∧ a ≤ b ∧ b ≤ t.length ∧ ((szw w + 4 : Nat) : Int) ≤ 8 * byt t f b
  | .cls few => ∃ l w, x = lT l ∧ ((few = true ∧ l = [] ∧ w = []) ∨ PR (.ls l) w) ∧ a < b ∧ b ≤ t.length ∧ ((szw w + 16 : Nat) : Int) ≤ 8 * byt t a b
  | .lst acc => ∃ l w, x = lT (acc ++ l) ∧ PR (.ls l) w ∧ a < b ∧ b ≤ t.length ∧ ((szw w + 4 : Nat) : Int) ≤ 8 * byt t a b
  | _ => ∃ w, PR (.ex x) w ∧ a < b ∧ b ≤ t.length ∧ ((szw w + 4 : Nat) : Int) ≤ 8 * byt t a b
section
variable {t : List zB} (tf : TF t) (hm : Mon t)
include tf hm
theorem v3a {a : Nat} (h : a < t.length) : v5K (zP t a) := by
  unfold zP; rw [List.getElem?_eq_getElem h]; exact tf _ (List.getElem_mem h)
theorem v5v {i j : Nat} (h1 : i < j) (h2 : j < t.length) : (zP t i).To ≤ (zP t j).From := (hm i j (by omega) h2).2 h1
theorem z2W {a : Nat} {s : Str} (h : yK t a s = true) : a < t.length ∧ (s.length : Int) = (zP t a).To - (zP t a).From := by
  have h0 := yF h
  unfold yK at h
  simp only [Bool.and_eq_true, decide_eq_true_eq, beq_iff_eq] at h
  have := (v3a tf hm h0).le (by rw [h.1]; decide) (by rw [h.1]; decide)
  rw [h.2] at this; exact ⟨h0, this⟩
theorem y3P {a : Nat} {s : Str} (h : vC t a s = true) : a < t.length ∧ (s.length : Int) = (zP t a).To - (zP t a).From := by
  have h0 := uU h
  have hk := y5r h
  have := (v3a tf hm h0).le (by rw [hk.1]; decide) (by rw [hk.1]; decide)
  rw [hk.2] at this; exact ⟨h0, this⟩
theorem y2Q {a : Nat} (h : (zP t a).K = 1) : a < t.length ∧ Nm (zP t a).S ∧ ((zP t a).S.length : Int) = (zP t a).To - (zP t a).From ∧ 1 ≤ (zP t a).To - (zP t a).From := by
  have h0 := uC (t := t) (a := a) (by rw [h]; decide)
  have f := v3a tf hm h0
  exact ⟨h0, f.nm h, f.le (by rw [h]; decide) (by rw [h]; decide), f.po (by rw [h]; decide)⟩
theorem v6f {a : Nat} {k n : Int} {s : Str} (h : z0o t a = .one k n s) (F T : Int) : a < t.length ∧ ∃ w, PR (.ex ⟨k, n, s, [], F, T⟩) w ∧ ((szw w + 4 : Nat) : Int) ≤ 8 * ((zP t a).To - (zP t a).From) := by
  unfold z0o at h
  by_cases h2 : (zP t a).K = 2
  · rw [if_pos h2] at h
    simp only [AK.one.injEq] at h
    obtain ⟨rfl, rfl, rfl⟩ := h
    have h0 := uC (t := t) (a := a) (by rw [h2]; decide)
    have f := v3a tf hm h0
    obtain ⟨n, g1, g2, g3, g4⟩ := f.nu h2
    have g5 := f.po (by rw [h2]; decide)
    rw [g1]
    exact ⟨h0, _, .num g2 g3, by simp only [szw]; omega⟩
  rw [if_neg h2] at h
  by_cases h1 : (zP t a).K = 1
  · rw [if_pos h1] at h
    by_cases h3 : yK t (a + 1) [40] = true
    · rw [if_pos h3] at h; cases h
    · rw [if_neg h3] at h
      simp only [AK.one.injEq] at h
      obtain ⟨rfl, rfl, rfl⟩ := h
      obtain ⟨g0, g1, g2, g3⟩ := y2Q tf hm h1
      exact ⟨g0, _, .name g1, by simp only [szw]; omega⟩
  rw [if_neg h1] at h
  by_cases h3 : vC t a [116, 114, 117, 101] = true
  · rw [if_pos h3] at h
    simp only [AK.one.injEq] at h
    obtain ⟨rfl, rfl, rfl⟩ := h
    obtain ⟨g0, g1⟩ := y3P tf hm h3
    exact ⟨g0, _, .tru, by rw [← g1]; decide⟩
  rw [if_neg h3] at h
  by_cases h4 : vC t a [102, 97, 108, 115, 101] = true
  · rw [if_pos h4] at h
    simp only [AK.one.injEq] at h
    obtain ⟨rfl, rfl, rfl⟩ := h
    obtain ⟨g0, g1⟩ := y3P tf hm h4
    exact ⟨g0, _, .fal, by rw [← g1]; decide⟩
  rw [if_neg h4] at h
  by_cases h5 : vC t a [114, 101, 97, 100] = true
  · rw [if_pos h5] at h
    simp only [AK.one.injEq] at h
    obtain ⟨rfl, rfl, rfl⟩ := h
    obtain ⟨g0, g1⟩ := y3P tf hm h5
    exact ⟨g0, _, .rd, by rw [← g1]; decide⟩
  rw [if_neg h5] at h
  exfalso
  revert h
  repeat' split
  all_goals (intro h; cases h)
theorem v4C {a o : Nat} {k : Int} {s : Str} {few : Bool} (h : z0o t a = .call k s o few) : Nm s ∧ (k = 15 ∨ k = 16 ∨ k = 17) ∧ (few = true → k = 16 ∨ k = 17) ∧ a < o ∧ o ≤ t.length ∧ (szw (z9A k s) : Int) ≤ 8 * byt t a o := by
  unfold z0o at h
  by_cases h2 : (zP t a).K = 2
  · rw [if_pos h2] at h; cases h
  rw [if_neg h2] at h
  by_cases h1 : (zP t a).K = 1
  · rw [if_pos h1] at h
    by_cases h3 : yK t (a + 1) [40] = true
    · rw [if_pos h3] at h
      simp only [AK.call.injEq] at h
      obtain ⟨rfl, rfl, rfl, rfl⟩ := h
      obtain ⟨g0, g1, g2, g3⟩ := y2Q tf hm h1
      refine ⟨g1, by omega, fun _ => by omega, by omega, by omega, ?_⟩
      unfold byt z9A
      rw [if_pos rfl, Nat.add_sub_cancel]; simp only [szw]; omega
    · rw [if_neg h3] at h; cases h
  rw [if_neg h1] at h
  by_cases h3 : vC t a [116, 114, 117, 101] = true
  · rw [if_pos h3] at h; cases h
  rw [if_neg h3] at h
  by_cases h4 : vC t a [102, 97, 108, 115, 101] = true
  · rw [if_pos h4] at h; cases h
  rw [if_neg h4] at h
  by_cases h5 : vC t a [114, 101, 97, 100] = true
  · rw [if_pos h5] at h; cases h
  rw [if_neg h5] at h
  by_cases h6 : vC t a [110, 101, 119] = true
  · rw [if_pos h6] at h
    by_cases h7 : (zP t (a + 1)).K = 1
    · rw [if_pos h7] at h
      simp only [AK.call.injEq] at h
      obtain ⟨rfl, rfl, rfl, rfl⟩ := h
      obtain ⟨q0, q1⟩ := y3P tf hm h6
      obtain ⟨g0, g1, g2, g3⟩ := y2Q tf hm h7
      have := v5v tf hm (show a < a + 1 by omega) g0
      refine ⟨g1, by omega, fun h => by simp at h, by omega, by omega, ?_⟩
      unfold byt z9A
      rw [if_neg (by decide), if_neg (by decide), show a + 2 - 1 = a + 1 by omega]; simp only [szw, List.length_cons, List.length_nil] at q1 ⊢; omega
    · rw [if_neg h7] at h; cases h
  rw [if_neg h6] at h
  by_cases h7 : yK t a [40] = true
  · rw [if_pos h7] at h; cases h
  rw [if_neg h7] at h
  by_cases h8 : yK t a [91] = true
  · rw [if_pos h8] at h; cases h
  rw [if_neg h8] at h
  by_cases h9 : yK t a [64] = true
  · rw [if_pos h9] at h
    by_cases h7 : (zP t (a + 1)).K = 1
    · rw [if_pos h7] at h
      simp only [AK.call.injEq] at h
      obtain ⟨rfl, rfl, rfl, rfl⟩ := h
      obtain ⟨q0, q1⟩ := z2W tf hm h9
      obtain ⟨g0, g1, g2, g3⟩ := y2Q tf hm h7
      have := v5v tf hm (show a < a + 1 by omega) g0
      refine ⟨g1, by omega, fun _ => by omega, by omega, by omega, ?_⟩
      unfold byt z9A
      rw [if_neg (by decide), if_pos rfl, show a + 2 - 1 = a + 1 by omega]; simp only [szw, List.length_cons, List.length_nil] at q1 ⊢; omega
    · rw [if_neg h7] at h; cases h
  rw [if_neg h9] at h
  cases h
theorem y9q {a : Nat} : (z0o t a = .paren → yK t a [40] = true) ∧ (z0o t a = .lis → yK t a [91] = true) := by
  unfold z0o
  repeat' split
  all_goals (first | exact ⟨fun h => AK.noConfusion h, fun h => AK.noConfusion h⟩ | (rename_i h; exact ⟨fun _ => h, fun h => AK.noConfusion h⟩) | (rename_i h; exact ⟨fun h => AK.noConfusion h, fun _ => h⟩))
theorem z2P {f a b : Nat} (h1 : f < a) (h2 : a < b) (h3 : b ≤ t.length) : byt t f a + byt t a b ≤ byt t f b := by
  unfold byt
  have := v5v tf hm (show a - 1 < a by omega) (show a < t.length by omega)
  omega
theorem z5p {a : Nat} : byt t a (a + 1) = (zP t a).To - (zP t a).From := by unfold byt; rw [Nat.add_sub_cancel]
theorem v5Q {c : Cat} {a : Nat} {r : Res} (h : Der t c a r) : a ≤ t.length → PXM t c a r := by
  induction h with
  | @un a b n x h1 h2 ih =>
    intro ha y b' e
    cases e
    have hs : a < t.length ∧ (1 : Int) = (zP t a).To - (zP t a).From := by
      rcases h1 with ⟨-, h⟩ | ⟨-, h⟩ <;> exact z2W tf hm h
    obtain ⟨w, g1, g2, g3, g4⟩ := ih (by omega) x b rfl
    have e1 := z2P tf hm (show a < a + 1 by omega) g2 g3
    rw [z5p tf hm] at e1
    have e2 := z8B 6 x w
    rcases h1 with ⟨rfl, h⟩ | ⟨rfl, h⟩
    · exact ⟨_, .neg g1, by omega, g3, by rw [zL]; simp only [szw, List.length_cons, List.length_nil]; omega⟩
    · exact ⟨_, .not g1, by omega, g3, by rw [zL]; simp only [szw, List.length_cons, List.length_nil]; omega⟩
  | unB _ _ _ => intro _ x b e; cases e
  | unP _ _ _ ih => intro ha x b e; exact ih ha x b e
  | lev h1 h2 h3 h4 ih1 ih2 =>
    intro ha x b e
    obtain ⟨w, g1, g2, g3, g4⟩ := ih1 ha _ _ rfl
    obtain ⟨w2, q1, q2, q3, q4⟩ := ih2 g3 x b e w g2 g1 g4
    exact ⟨w2, q1, by omega, q3, q4⟩
  | levB _ _ _ _ => intro _ x b e; cases e
  | llE _ _ =>
    intro ha x b e
    cases e
    intro wy h1 h2 h3
    exact ⟨wy, h2, Nat.le_refl _, ha, h3⟩
  | @llG k m f a b x y r h1 h2 h3 h4 h5 ih1 ih2 =>
    intro ha z c e wx k1 k2 k3
    have hop : (z6z (zP t a)).2 ≠ 0 := by omega
    obtain ⟨o1, o2, o3, o4⟩ := v3L hop
    have hk := z5a hop
    have hlt := uC (t := t) (a := a) (by rw [hk]; decide)
    have hle := (v3a tf hm hlt).le (by rw [hk]; decide) (by rw [hk]; decide)
    have hpo := (v3a tf hm hlt).po (by rw [hk]; decide)
    obtain ⟨w, g1, g2, g3, g4⟩ := ih1 (by omega) _ _ rfl
    have e1 := z2P tf hm (show a < a + 1 by omega) g2 g3
    have e2 := z2P tf hm k1 (show a < b by omega) g3
    rw [z5p tf hm] at e1
    have s1 := z8B (y4L (z6z (zP t a)).1) x wx
    have s2 := z8B (z7h (z6z (zP t a)).1 + 1) y w
    obtain ⟨w2, q1, q2, q3, q4⟩ := ih2 g3 z c e _ (by omega) (.bin o1 o2 k2 g1) (by
      rw [zL, zL]; simp only [szw]; rw [o3]; omega)
    exact ⟨w2, q1, by omega, q3, q4⟩
  | llB _ _ _ _ _ => intro _ x b e; cases e
  | post h1 h2 ih1 ih2 =>
    intro ha x b e
    obtain ⟨w, g1, g2, g3, g4⟩ := ih1 ha _ _ rfl
    obtain ⟨w2, q1, q2, q3, q4⟩ := ih2 g3 x b e w g2 g1 g4
    exact ⟨w2, q1, by omega, q3, q4⟩
  | postB _ _ => intro _ x b e; cases e
  | plE _ _ =>
    intro ha x b e
    cases e
    intro wy h1 h2 h3
    exact ⟨wy, h2, Nat.le_refl _, ha, h3⟩
  | @plI f a b x i r h1 h2 h3 h4 ih1 ih2 =>
    intro ha z c e wx k1 k2 k3
    obtain ⟨p0, p1⟩ := z2W tf hm h1
    obtain ⟨p2, p3⟩ := z2W tf hm h3
    obtain ⟨w, g1, g2, g3, g4⟩ := ih1 (by omega) _ _ rfl
    have e1 := z2P tf hm (show a < a + 1 by omega) g2 g3
    have e2 := z2P tf hm k1 (show a < b by omega) g3
    have e3 := z2P tf hm (show f < b by omega) (show b < b + 1 by omega) p2
    rw [z5p tf hm] at e1 e3
    have s1 := z8B 7 x wx
    simp only [List.length_cons, List.length_nil] at p1 p3
    obtain ⟨w2, q1, q2, q3, q4⟩ := ih2 p2 z c e _ (by omega) (.index k2 g1) (by
      rw [zL, zL, zL]; simp only [szw, List.length_cons, List.length_nil]; omega)
    exact ⟨w2, q1, by omega, q3, q4⟩
  | plI1 _ _ _ => intro _ x b e; cases e
  | plI2 _ _ _ _ => intro _ x b e; cases e
  | @plF f a x r h1 h2 h3 h4 ih =>
    intro ha z c e wx k1 k2 k3
    obtain ⟨p0, p1⟩ := z2W tf hm h2
    obtain ⟨g0, g1, g2, g3⟩ := y2Q tf hm h3
    have e1 := z2P tf hm (show a < a + 1 by omega) (show a + 1 < a + 2 by omega) g0
    have e2 := z2P tf hm k1 (show a < a + 2 by omega) g0
    rw [z5p tf hm, show byt t (a + 1) (a + 2) = (zP t (a + 1)).To - (zP t (a + 1)).From from z5p tf hm] at e1
    have s1 := z8B 7 x wx
    simp only [List.length_cons, List.length_nil] at p1
    obtain ⟨w2, q1, q2, q3, q4⟩ := ih g0 z c e _ (by omega) (.field g1 k2) (by
      rw [zL]; simp only [szw, List.length_cons, List.length_nil]; omega)
    exact ⟨w2, q1, by omega, q3, q4⟩
  | plFB _ _ _ => intro _ x b e; cases e
  | one h =>
    intro ha x b e
    cases e
    obtain ⟨g0, w, g1, g2⟩ := v6f tf hm h _ _
    exact ⟨w, g1, by omega, g0, by rw [z5p tf hm]; exact g2⟩
  | @par a b x h1 h2 h3 ih =>
    intro ha y c e
    cases e
    obtain ⟨p0, p1⟩ := z2W tf hm ((y9q tf hm).1 h1)
    obtain ⟨p2, p3⟩ := z2W tf hm h3
    obtain ⟨w, g1, g2, g3, g4⟩ := ih (by omega) _ _ rfl
    have e1 := z2P tf hm (show a < a + 1 by omega) g2 g3
    have e3 := z2P tf hm (show a < b by omega) (show b < b + 1 by omega) p2
    rw [z5p tf hm] at e1 e3
    simp only [List.length_cons, List.length_nil] at p1 p3
    exact ⟨w, g1, by omega, p2, by omega⟩
  | par1 _ _ _ => intro _ x b e; cases e
  | par2 _ _ _ _ => intro _ x b e; cases e
  | @call a o b k s few l h1 h2 ih =>
    intro ha y c e
    cases e
    obtain ⟨c1, c2, c3, c4, c5, c6⟩ := v4C tf hm h1
    obtain ⟨l', w, e0, g1, g2, g3, g4⟩ := ih c5 _ _ rfl
    have el : l = l' := by have := congrArg zD.L e0; exact this
    subst el
    have e2 := z2P tf hm c4 g2 g3
    rcases g1 with ⟨f1, rfl, rfl⟩ | g1
    · refine ⟨_, .call0 (c3 f1) c1, by omega, g3, ?_⟩
      rw [zL, zL, zL]; simp only [szw, List.length_cons, List.length_nil] at g4 ⊢; omega
    · refine ⟨_, .call c2 c1 g1, by omega, g3, ?_⟩
      rw [zL, zL, zL]; simp only [szw, List.length_cons, List.length_nil] at g4 ⊢; omega
  | callB _ _ _ => intro _ x b e; cases e
  | @lis a b l h1 h2 h3 ih =>
    intro ha y c e
    cases e
    obtain ⟨p0, p1⟩ := z2W tf hm ((y9q tf hm).2 h1)
    obtain ⟨p2, p3⟩ := z2W tf hm h3
    obtain ⟨l', w, e0, g1, g2, g3, g4⟩ := ih (by omega) _ _ rfl
    have el : l = l' := by have := congrArg zD.L e0; simpa using this
    subst el
    have e1 := z2P tf hm (show a < a + 1 by omega) g2 g3
    have e3 := z2P tf hm (show a < b by omega) (show b < b + 1 by omega) p2
    rw [z5p tf hm] at e1 e3
    simp only [List.length_cons, List.length_nil] at p1 p3
    refine ⟨_, .lis g1, by omega, p2, ?_⟩
    rw [zL, zL]; simp only [szw, List.length_cons, List.length_nil]; omega
  | lis1 _ _ _ => intro _ x b e; cases e
  | lis2 _ _ _ _ => intro _ x b e; cases e
  | nm _ => intro _ x b e; cases e
  | no _ => intro _ x b e; cases e
  | cls0 _ => intro _ x b e; cases e
  | @clsF a h1 h2 =>
    intro ha y c e
    cases e
    obtain ⟨p0, p1⟩ := z2W tf hm h1
    obtain ⟨p2, p3⟩ := z2W tf hm h2
    have e1 := z2P tf hm (show a < a + 1 by omega) (show a + 1 < a + 2 by omega) p2
    rw [z5p tf hm, show byt t (a + 1) (a + 2) = (zP t (a + 1)).To - (zP t (a + 1)).From from z5p tf hm] at e1
    simp only [List.length_cons, List.length_nil] at p1 p3
    exact ⟨[], [], rfl, .inl ⟨rfl, rfl, rfl⟩, by omega, p2, by simp only [szw]; omega⟩
  | @cls a b few l h1 h2 h3 h4 ih =>
    intro ha y c e
    cases e
    obtain ⟨p0, p1⟩ := z2W tf hm h1
    obtain ⟨p2, p3⟩ := z2W tf hm h4
    obtain ⟨l', w, e0, g1, g2, g3, g4⟩ := ih (by omega) _ _ rfl
    have el : l = l' := by have := congrArg zD.L e0; simpa using this
    subst el
    have e1 := z2P tf hm (show a < a + 1 by omega) g2 g3
    have e3 := z2P tf hm (show a < b by omega) (show b < b + 1 by omega) p2
    rw [z5p tf hm] at e1 e3
    simp only [List.length_cons, List.length_nil] at p1 p3
    exact ⟨l, w, rfl, .inr g1, by omega, p2, by omega⟩
  | cls1 _ _ _ _ => intro _ x b e; cases e
  | cls2 _ _ _ _ _ => intro _ x b e; cases e
  | @lstE a b acc x h1 h2 ih =>
    intro ha y c e
    cases e
    obtain ⟨w, g1, g2, g3, g4⟩ := ih ha _ _ rfl
    exact ⟨[x], w, rfl, .one g1, g2, g3, g4⟩
  | @lstG a b acc x r h1 h2 h3 ih1 ih2 =>
    intro ha y c e
    obtain ⟨w, g1, g2, g3, g4⟩ := ih1 ha _ _ rfl
    obtain ⟨p0, p1⟩ := z2W tf hm h2
    obtain ⟨l', w', e0, q1, q2, q3, q4⟩ := ih2 p0 y c e
    have e1 := z2P tf hm g2 (show b < b + 1 by omega) p0
    have e2 := z2P tf hm (show a < b + 1 by omega) q2 q3
    rw [z5p tf hm] at e1
    simp only [List.length_cons, List.length_nil] at p1
    refine ⟨x :: l', _, by rw [e0]; simp, .cons g1 q1, by omega, q3, ?_⟩
    rw [zL, zL]; simp only [szw, List.length_cons, List.length_nil]; omega
  | lstB _ _ => intro _ x b e; cases e
end
theorem v3B (t : List zB) (a : Int) {e : Int} (h : e ≠ 0) : yW t a e = some (zT7, t, a, e) := by
  rw [z5W]; unfold z0C
  rw [if_neg h]
theorem v1i (t : List zB) (a : Int) : wW t a 0 = some (t, a, 6) := rfl
theorem y6F (t : List zB) (hl : t.length ≤ 9223372036854775807) : ∀ (n a : Nat), t.length < a + n → a ≤ t.length →
    ∃ x, yW t a 0 = some (x, t, ((typ n t a).2.1 : Int), (typ n t a).2.2) ∧ ((typ n t a).2.2 = 0 → x = (typ n t a).1) := by
  intro n
  induction n with
  | zero => intro a h1 h2; omega
  | succ n ih =>
    intro a h1 h2
    rw [z5W]; unfold z0C
    rw [if_pos rfl, z6k, zA]
    try dsimp only
    have c1 : ∀ b : Nat, b < t.length → IntKind.wrap .i64 ((b : Int) + 1) = ((b + 1 : Nat) : Int) := fun b hb => by rw [z3B (by omega) (by omega)]; omega
    have tail : vC t a [105, 110, 116] = false → vC t a [98, 111, 111, 108] = false → (zP t a).K ≠ 1 →
        ∃ x, (wX ([91] : List UInt8) t a 0 >>= fun q30 =>
          if q30 = true then
            jQ t (IntKind.wrap .i64 ((a : Int) + 1)) 0 >>= fun q31 =>
            if q31.K = 2 then
              vM ([93] : List UInt8) t (IntKind.wrap .i64 ((IntKind.wrap .i64 ((a : Int) + 1)) + 1)) 0 >>= fun q33 =>
              yW q33.1 q33.2.1 q33.2.2 >>= fun q34 =>
              yI (zD.mk 3 q31.N ([] : List UInt8) [q34.1] 0 0) a q34.2.1 q34.2.2.1 q34.2.2.2 >>= fun q35 =>
              some (q35, q34.2.1, q34.2.2.1, q34.2.2.2)
            else
            wW t (IntKind.wrap .i64 ((a : Int) + 1)) 0 >>= fun q32 =>
            some ((zD.mk 0 0 ([] : List UInt8) [] 0 0), q32.1, q32.2.1, q32.2.2)
          else
          wW t a 0 >>= fun q36 =>
          some ((zD.mk 0 0 ([] : List UInt8) [] 0 0), q36.1, q36.2.1, q36.2.2)) = some (x, t, ((typ (n + 1) t a).2.1 : Int), (typ (n + 1) t a).2.2) ∧ ((typ (n + 1) t a).2.2 = 0 → x = (typ (n + 1) t a).1) := by
      intro w1 w2 w3
      rw [typ, w1, w2, if_neg (by simp), if_neg (by simp), if_neg w3, z1H, zA]
      try dsimp only
      by_cases g4 : yK t a [91] = true
      · have k4 := yF g4
        rw [if_pos g4, if_pos g4, c1 a k4, z6k, zA]
        try dsimp only
        by_cases g5 : (zP t (a + 1)).K = 2
        · have k5 := uC (t := t) (a := a + 1) (by rw [g5]; decide)
          rw [if_pos g5, if_pos g5, c1 (a + 1) k5, show a + 1 + 1 = a + 2 from rfl, y8P _ _ hl, zA]
          try dsimp only
          by_cases g6 : yK t (a + 2) [93] = true
          · have k6 := yF g6
            rw [if_pos g6, if_pos g6, if_pos g6, show a + 2 + 1 = a + 3 from rfl]
            obtain ⟨x, e1, e2⟩ := ih (a + 3) (by omega) (by omega)
            rw [e1, zA]
            try dsimp only
            by_cases g7 : (typ n t (a + 3)).2.2 = 0
            · have hp := y2l n t (a + 3) (by omega) g7
              rw [if_pos g7, g7, z5q _ t hl a _ (by omega) hp.2, zA, e2 g7]
              exact ⟨_, rfl, fun _ => rfl⟩
            · rw [if_neg g7, z3o _ _ _ _ g7, zA]
              exact ⟨_, rfl, fun h => absurd h g7⟩
          · rw [if_neg g6, if_neg g6, if_neg g6, v3B _ _ (by decide), zA]
            try dsimp only
            rw [z3o _ _ _ _ (by decide), zA]
            exact ⟨_, rfl, fun h => by cases h⟩
        · rw [if_neg g5, if_neg g5, v1i, zA]
          exact ⟨_, rfl, fun h => by cases h⟩
      · rw [if_neg g4, if_neg g4, v1i, zA]
        exact ⟨_, rfl, fun h => by cases h⟩
    by_cases k3 : (zP t a).K = 3
    · have hlt := uC (t := t) (a := a) (by rw [k3]; decide)
      rw [if_pos k3]
      by_cases s1 : (zP t a).S = [105, 110, 116]
      · have w1 : vC t a [105, 110, 116] = true := by unfold vC; rw [k3, s1]; rfl
        rw [if_pos s1, c1 a hlt, z5q _ t hl a (a + 1) (by omega) (by omega), zA, typ, if_pos w1]
        exact ⟨_, rfl, fun _ => rfl⟩
      have w1 : vC t a [105, 110, 116] = false := by unfold vC; rw [beq_eq_false_iff_ne.2 s1]; simp
      rw [if_neg s1]
      by_cases s2 : (zP t a).S = [98, 111, 111, 108]
      · have w2 : vC t a [98, 111, 111, 108] = true := by unfold vC; rw [k3, s2]; rfl
        rw [if_pos s2, c1 a hlt, z5q _ t hl a (a + 1) (by omega) (by omega), zA, typ, w1, if_neg (by simp), if_pos w2]
        exact ⟨_, rfl, fun _ => rfl⟩
      have w2 : vC t a [98, 111, 111, 108] = false := by unfold vC; rw [beq_eq_false_iff_ne.2 s2]; simp
      rw [if_neg s2]
      exact tail w1 w2 (by omega)
    · rw [if_neg k3]
      have w : ∀ s, vC t a s = false := fun s => by unfold vC; rw [decide_eq_false k3]; rfl
      by_cases k1 : (zP t a).K = 1
      · have hlt := uC (t := t) (a := a) (by rw [k1]; decide)
        rw [if_pos k1, c1 a hlt, z5q _ t hl a (a + 1) (by omega) (by omega), zA, typ, w, w, if_neg (by simp), if_neg (by simp), if_pos k1]
        exact ⟨_, rfl, fun _ => rfl⟩
      · rw [if_neg k1]
        exact tail (w _) (w _) k1
def PRg (t : List zB) (p : Option (zD × List zB × Int × Int)) : Res → Prop
  | .ok x b => p = some (x, t, (b : Int), 0)
  | .bad b => ∃ y, p = some (y, t, (b : Int), 6)
theorem six : (6 : Int) ≠ 0 := by decide
theorem z7s (x : zB) : z4y x = some ((z6z x).1, ((z6z x).2 : Int)) := by
  unfold z4y z6z
  by_cases hk : x.K = 4
  · rcases v5r x.S with e | e | e | e | e | e | e | e | e | e | e | e | e | ⟨e1, e2, e3, e4, e5, e6, e7, e8, e9, e10, e11, e12, e13⟩
    case inr.inr.inr.inr.inr.inr.inr.inr.inr.inr.inr.inr.inr => simp [hk, e1, e2, e3, e4, e5, e6, e7, e8, e9, e10, e11, e12, e13]
    all_goals (simp only [hk, e]; rfl)
  · simp [hk]
theorem y9k (least f m : Int) (o x : zD) (t : List zB) (a : Int) {e : Int} (h : e ≠ 0) : zT least f m o x t a e = some (x, t, a, e) := by
  rw [gV]; unfold wU
  rw [if_neg h]
theorem v0R (least f : Int) (m1 m2 : Int) (o x : zD) (t : List zB) (a : Nat) (h : ((z6z (zP t a)).2 : Int) > m1 ↔ ((z6z (zP t a)).2 : Int) > m2) : zT least f m1 o x t a 0 = zT least f m2 o x t a 0 := by
  rw [gV, gV least f m2]; unfold wU
  rw [if_pos rfl, if_pos rfl, z6k, zA, zA, z7s, zA, zA]
  dsimp only
  by_cases h1 : ((z6z (zP t a)).2 : Int) > m1
  · rw [if_pos h1, if_pos (h.1 h1)]
  · rw [if_neg h1, if_neg (fun h' => h1 (h.2 h'))]
theorem v4x (least : Nat) (hl : 1 ≤ least) (f : Int) (o x : zD) (t : List zB) (a : Nat) : zT least f ((least - 1 : Nat) : Int) o x t a 0 = some (x, t, (a : Int), 0) := by
  rw [gV]; unfold wU
  rw [if_pos rfl, z6k, zA, z7s, zA]
  dsimp only
  by_cases h1 : ((z6z (zP t a)).2 : Int) < least
  · rw [if_pos h1]
  · rw [if_neg h1, if_neg (by omega), if_pos (by omega)]
theorem v6y (t : List zB) (a : Int) {e : Int} (h : e ≠ 0) : yP t a e = some (zT7, t, a, e) := by
  rw [z3l]; unfold z0h
  rw [if_neg h]
theorem v1G (k : Int) (t : List zB) (a : Int) {e : Int} (h : e ≠ 0) : zX k t a e = some (zT7, t, a, e) := by
  rw [z3y]; unfold gN
  rw [v6y _ _ h, zA, y9k _ _ _ _ _ _ _ h]
theorem v3o (t : List zB) (a : Int) {e : Int} (h : e ≠ 0) : zM t a e = some (zT7, t, a, e) := by
  rw [z5V]; unfold z1g
  rw [v1G _ _ _ h]; rfl
theorem v4f (l : List zD) (t : List zB) (a : Int) {e : Int} (h : e ≠ 0) : zJ l t a e = some (l, t, a, e) := by
  rw [z0z]; unfold vJ
  rw [if_neg h]
theorem y9I (t : List zB) (a : Int) {e : Int} (h : e ≠ 0) : zO t a e = some ([zT7], t, a, e) := by
  rw [z2p]; unfold uI
  rw [v3o _ _ h, zA, v4f _ _ _ h]
theorem y9o (few : Bool) (t : List zB) (a : Int) {e : Int} (h : e ≠ 0) : zV few t a e = some ([zT7], t, a, e) := by
  rw [z2F]; unfold gI
  rw [z7p _ _ _ h, zA, if_neg h, y9I _ _ h, zA, z7p _ _ _ h]; rfl
theorem y9j (f : Int) (o x : zD) (t : List zB) (a : Int) {e : Int} (h : e ≠ 0) : zY f o x t a e = some (x, t, a, e) := by
  rw [jY]; unfold vZ
  rw [if_neg h]
theorem y6z (t : List zB) (hl : t.length ≤ 1048576) (a : Nat) (h : (zP t a).K = 1) : z0g t a 0 = some ((zP t a).S, t, ((a + 1 : Nat) : Int), 0) := by
  have ha := uC (t := t) (a := a) (by rw [h]; decide)
  unfold z0g
  rw [if_pos rfl, z6k, zA, if_pos h, jC hl (by omega)]
theorem y8O (t : List zB) (a : Nat) (h : (zP t a).K ≠ 1) : z0g t a 0 = some ([], t, (a : Int), 6) := by
  unfold z0g
  rw [if_pos rfl, z6k, zA, if_neg h]; rfl
theorem z5U {t : List zB} {a : Nat} {r : Res} (h : PRg t (zX (1 : Nat) t a 0) r) : PRg t (zM t a 0) r := by
  have e : zM t a 0 = (zX (1 : Nat) t a 0 >>= fun q1 => some (q1.1, q1.2.1, q1.2.2.1, q1.2.2.2)) := by
    rw [z5V]; rfl
  rw [e]
  cases r with
  | ok x b => rw [show zX (1 : Nat) t a 0 = _ from h]; rfl
  | bad b => obtain ⟨y, h⟩ := h; rw [h]; exact ⟨y, rfl⟩
def mst (k m : Nat) : Int := if k = 3 ∧ 1 ≤ m then 2 else k
def PM (t : List zB) : Cat → Nat → Res → Prop
  | .lev k, a, r => (k = 6 → PRg t (yP t a 0) r) ∧ ∀ least, 1 ≤ least → least ≤ k →
      (∀ x b, r = .ok x b → zX (least : Nat) t a 0 = zT (least : Nat) a ((k - 1 : Nat) : Int) zT7 x t b 0) ∧ (∀ b, r = .bad b → ∃ y, zX (least : Nat) t a 0 = some (y, t, (b : Int), 6))
  | .ll k m f x, a, r => f < a → 1 ≤ k → k ≤ 5 → (k = 3 → m ≤ 1) → ∀ least, 1 ≤ least → least ≤ k → ∀ o,
      (∀ y b, r = .ok y b → zT (least : Nat) f (mst k m) o x t a 0 = zT (least : Nat) f ((k - 1 : Nat) : Int) o y t b 0) ∧ (∀ b, r = .bad b → ∃ y, zT (least : Nat) f (mst k m) o x t a 0 = some (y, t, (b : Int), 6))
  | .post, a, r => PRg t (vD t a 0) r
  | .pl f x, a, r => f < a → ∀ o, PRg t (zY f o x t a 0) r
  | .atom, a, r => PRg t (yB t a 0) r
  | .cls few, a, r => (∀ l b, r = .ok l b → zV few t a 0 = some (l.L, t, (b : Int), 0)) ∧ (∀ b, r = .bad b → ∃ l, zV few t a 0 = some (l, t, (b : Int), 6))
  | .lst acc, a, r => acc.length < a →
      (∀ l b, r = .ok l b → (zM t a 0 >>= fun q => zJ (acc ++ [q.1]) q.2.1 q.2.2.1 q.2.2.2) = some (l.L, t, (b : Int), 0)) ∧
      (∀ b, r = .bad b → ∃ l, (zM t a 0 >>= fun q => zJ (acc ++ [q.1]) q.2.1 q.2.2.1 q.2.2.2) = some (l, t, (b : Int), 6))
theorem PM.level {t : List zB} {k a : Nat} {r : Res} (h : PM t (.lev k) a r) (hk : 1 ≤ k) : PRg t (zX (k : Nat) t a 0) r := by
  obtain ⟨h1, h2⟩ := h.2 k hk (Nat.le_refl _)
  cases r with
  | ok x b =>
    show _ = _
    rw [h1 x b rfl, v4x k hk]
  | bad b => exact h2 b rfl
theorem y2N (t : List zB) (a : Int) (e : Int) : zO t a e = (zM t a e >>= fun q => zJ ([] ++ [q.1]) q.2.1 q.2.2.1 q.2.2.2) := by
  rw [z2p]; rfl
theorem z8J (s : Str) (t : List zB) (hl : t.length ≤ 1048576) (a : Nat) (h : yK t a s = true) : vM s t a 0 = some (t, ((a + 1 : Nat) : Int), 0) := by
  rw [y8P s t (by omega) a, if_pos h, if_pos h]
theorem y4P (s : Str) (t : List zB) (hl : t.length ≤ 1048576) (a : Nat) (h : yK t a s = false) : vM s t a 0 = some (t, (a : Int), 6) := by
  rw [y8P s t (by omega) a, if_neg (by rw [h]; simp), if_neg (by rw [h]; simp)]
theorem v2c (t : List zB) (hl : t.length ≤ 1048576) (a : Nat) {k n : Int} {s : Str} (h : z0o t a = .one k n s) : yB t a 0 = some (uG t a (a + 1) ⟨k, n, s, [], 0, 0⟩, t, ((a + 1 : Nat) : Int), 0) := by
  have ha := z2C (t := t) (a := a) (by rw [h]; simp)
  have mk := fun x => z5q x t (by omega) a (a + 1) (by omega) (by omega)
  rw [z1D]; unfold jE
  rw [if_pos rfl, z6k, zA, jC hl (by omega)]
  unfold z0o at h
  by_cases h1 : (zP t a).K = 2
  · rw [if_pos h1] at h ⊢
    injection h with e1 e2 e3; subst e1; subst e2; subst e3
    rw [mk]; rfl
  rw [if_neg h1] at h ⊢
  by_cases h2 : (zP t a).K = 1
  · rw [if_pos h2] at h ⊢
    rw [z1H, zA]
    by_cases h3 : yK t (a + 1) [40] = true
    · rw [if_pos h3] at h; cases h
    · rw [if_neg h3] at h ⊢
      injection h with e1 e2 e3; subst e1; subst e2; subst e3
      rw [mk]; rfl
  rw [if_neg h2] at h ⊢
  have wd : ∀ {s' : Str}, vC t a s' = true → (zP t a).K = 3 ∧ (zP t a).S = s' := fun h => y5r h
  have word : ∀ {s' : Str} {x : zD}, vC t a s' = true → vT s' (a : Int) t (a : Int) 0 = some (x, t, ((a + 1 : Nat) : Int), 0) →
      (if (zP t a).K = 3 then vT (zP t a).S a t a 0 >>= fun q7 => some (q7.1, q7.2.1, q7.2.2.1, q7.2.2.2)
        else if (zP t a).K = 4 then vG (zP t a).S a t a 0 >>= fun q8 => some (q8.1, q8.2.1, q8.2.2.1, q8.2.2.2)
        else wW t a 0 >>= fun q9 => some (zD.mk 0 0 [] [] 0 0, q9.1, q9.2.1, q9.2.2)) = some (x, t, ((a + 1 : Nat) : Int), 0) := fun hw he => by
    rw [if_pos (wd hw).1, (wd hw).2, he]; rfl
  by_cases h3 : vC t a [116, 114, 117, 101] = true
  · rw [if_pos h3] at h
    injection h with e1 e2 e3; subst e1; subst e2; subst e3
    refine word h3 ?_
    rw [z0U]; unfold uN
    rw [if_pos rfl, jC hl (by omega), mk]; rfl
  rw [if_neg h3] at h
  by_cases h4 : vC t a [102, 97, 108, 115, 101] = true
  · rw [if_pos h4] at h
    injection h with e1 e2 e3; subst e1; subst e2; subst e3
    refine word h4 ?_
    rw [z0U]; unfold uN
    rw [if_neg (by decide), if_pos rfl, jC hl (by omega), mk]; rfl
  rw [if_neg h4] at h
  by_cases h5 : vC t a [114, 101, 97, 100] = true
  · rw [if_pos h5] at h
    injection h with e1 e2 e3; subst e1; subst e2; subst e3
    refine word h5 ?_
    rw [z0U]; unfold uN
    rw [if_neg (by decide), if_neg (by decide), if_pos rfl, jC hl (by omega), mk]; rfl
  rw [if_neg h5] at h
  repeat' split at h
  all_goals cases h
theorem z6l (t : List zB) (a : Nat) (s : Str) (h : yK t a s = true) : yB t a 0 = (vG s a t a 0 >>= fun q8 => some (q8.1, q8.2.1, q8.2.2.1, q8.2.2.2)) := by
  obtain ⟨hk, hs⟩ := v5q h
  rw [z1D]; unfold jE
  rw [if_pos rfl, z6k, zA, if_neg (by rw [hk]; decide), if_neg (by rw [hk]; decide), if_neg (by rw [hk]; decide), if_pos hk, hs]
theorem y9O (t : List zB) (a : Nat) (s : Str) (h : vC t a s = true) : yB t a 0 = (vT s a t a 0 >>= fun q8 => some (q8.1, q8.2.1, q8.2.2.1, q8.2.2.2)) := by
  obtain ⟨hk, hs⟩ := y5r h
  rw [z1D]; unfold jE
  rw [if_pos rfl, z6k, zA, if_neg (by rw [hk]; decide), if_neg (by rw [hk]; decide), if_pos hk, hs]
theorem y5M (t : List zB) (hl : t.length ≤ 1048576) (a : Nat) {k : Int} {s : Str} {o : Nat} {few : Bool} (h : z0o t a = .call k s o few) :
    yB t a 0 = (zV few t o 0 >>= fun q => yI ⟨k, 0, s, q.1, 0, 0⟩ a q.2.1 q.2.2.1 q.2.2.2 >>= fun z => some (z, q.2.1, q.2.2.1, q.2.2.2)) := by
  rcases y8x h with ⟨rfl, rfl, rfl, rfl, h1, h2⟩ | ⟨rfl, rfl, rfl, rfl, h1, h2⟩ | ⟨rfl, rfl, rfl, rfl, h1, h2⟩
  · have ha := uC (t := t) (a := a) (by rw [h1]; decide)
    rw [z1D]; unfold jE
    rw [if_pos rfl, z6k, zA, if_neg (by rw [h1]; decide), if_pos h1, jC hl (by omega), z1H, zA, if_pos h2]
  · have ha := uU h1
    rw [y9O t a _ h1, z0U]; unfold uN
    rw [if_neg (by decide), if_neg (by decide), if_neg (by decide), if_pos rfl, jC hl (by omega), y6z t hl (a + 1) h2, zA]
    show ((zV false t ((a + 1 + 1 : Nat) : Int) 0 >>= _) >>= _) = _
    cases zV false t ((a + 1 + 1 : Nat) : Int) 0 with
    | none => rfl
    | some q =>
      rw [zA]
      dsimp only
      cases yI ⟨15, 0, (zP t (a + 1)).S, q.1, 0, 0⟩ a q.2.1 q.2.2.1 q.2.2.2 <;> rfl
  · have ha := yF h1
    rw [z6l t a _ h1, uH]; unfold vI
    rw [if_neg (by decide), if_neg (by decide), if_pos rfl, jC hl (by omega), y6z t hl (a + 1) h2, zA]
    show ((zV true t ((a + 1 + 1 : Nat) : Int) 0 >>= _) >>= _) = _
    cases zV true t ((a + 1 + 1 : Nat) : Int) 0 with
    | none => rfl
    | some q =>
      rw [zA]
      dsimp only
      cases yI ⟨17, 0, (zP t (a + 1)).S, q.1, 0, 0⟩ a q.2.1 q.2.2.1 q.2.2.2 <;> rfl
theorem y4f (few : Bool) (t : List zB) (hl : t.length ≤ 1048576) (a : Nat) (h1 : yK t a [40] = true) (h2 : few = true → yK t (a + 1) [41] = false) :
    zV few t a 0 = (zO t ((a + 1 : Nat) : Int) 0 >>= fun q => vM [41] q.2.1 q.2.2.1 q.2.2.2 >>= fun z => some (q.1, z.1, z.2.1, z.2.2)) := by
  rw [z2F]; unfold gI
  rw [z8J _ t hl a h1, zA]
  dsimp only
  rw [if_pos rfl]
  cases few with
  | false => rw [if_neg (by simp)]
  | true => rw [if_pos rfl, z1H, zA, h2 rfl, if_neg (by simp)]
theorem y4Z {t : List zB} (hl : t.length ≤ 1048576) {c : Cat} {a : Nat} {r : Res} (h : Der t c a r) : a ≤ t.length → PM t c a r := by
  have unLev : ∀ {a : Nat} {r : Res}, PRg t (yP t a 0) r → PM t (.lev 6) a r := by
    intro a r h
    refine ⟨fun _ => h, fun least h1 h2 => ⟨fun x b e => ?_, fun b e => ?_⟩⟩
    · subst e
      rw [z3y]; unfold gN
      rw [show yP t a 0 = _ from h, zA]
      refine v0R _ _ _ _ _ _ _ _ ?_
      have h5 := v4Z (zP t b)
      show ((z6z (zP t b)).2 : Int) > 6 ↔ ((z6z (zP t b)).2 : Int) > ((5 : Nat) : Int)
      omega
    · subst e
      obtain ⟨y, h⟩ := h
      rw [z3y]; unfold gN
      rw [h, zA]
      exact ⟨_, y9k _ _ _ _ _ _ _ six⟩
  induction h with
  | @un a b n x h1 hd ih =>
    intro ha
    have h0 : a < t.length := h1.elim (fun h => yF h.2) (fun h => yF h.2)
    have q := hd.inR (by omega)
    simp only [InR] at q
    have e : yP t ((a + 1 : Nat) : Int) 0 = some (x, t, (b : Int), 0) := (ih (by omega)).1 rfl
    refine unLev ?_
    show _ = _
    rw [z3l]; unfold z0h
    rw [if_pos rfl, z1H, zA, jC hl (by omega)]
    rcases h1 with ⟨rfl, h1⟩ | ⟨rfl, h1⟩
    · rw [if_pos h1, if_neg (by decide), e, zA, z5q _ t (by omega) a b (by omega) q.2]; rfl
    · rw [if_neg (by rw [v4q h1 (by decide)]; simp), z1H, zA, if_pos h1, if_neg (by decide), e, zA, z5q _ t (by omega) a b (by omega) q.2]; rfl
  | @unB a b h1 hd ih =>
    intro ha
    have h0 : a < t.length := h1.elim (fun h => yF h) (fun h => yF h)
    obtain ⟨y, e⟩ : ∃ y, yP t ((a + 1 : Nat) : Int) 0 = some (y, t, (b : Int), 6) := (ih (by omega)).1 rfl
    refine unLev ?_
    show ∃ y, _ = _
    rw [z3l]; unfold z0h
    rw [if_pos rfl, z1H, zA, jC hl (by omega)]
    rcases h1 with h1 | h1
    · rw [if_pos h1, if_neg (by decide), e, zA, z3o _ _ _ _ six]; exact ⟨_, rfl⟩
    · rw [if_neg (by rw [v4q h1 (by decide)]; simp), z1H, zA, if_pos h1, if_neg (by decide), e, zA, z3o _ _ _ _ six]; exact ⟨_, rfl⟩
  | @unP a r h1 h2 hd ih =>
    intro ha
    have e : PRg t (vD t a 0) r := ih ha
    refine unLev ?_
    rw [z3l]; unfold z0h
    rw [if_pos rfl, z1H, zA, h1, if_neg (by simp), z1H, zA, h2, if_neg (by simp), if_pos rfl]
    cases r with
    | ok x b => rw [show vD t a 0 = _ from e]; rfl
    | bad b => obtain ⟨y, e⟩ := e; rw [e]; exact ⟨y, rfl⟩
  | @lev k a b x r h1 h2 hd hd2 ih1 ih2 =>
    intro ha
    have q := hd.inR ha
    simp only [InR] at q
    refine ⟨fun h => by omega, fun least g1 g2 => ?_⟩
    obtain ⟨e1, -⟩ := (ih1 ha).2 least g1 (by omega)
    have e1 := e1 x b rfl
    obtain ⟨e2, e3⟩ := ih2 q.2 q.1 h1 h2 (fun _ => by omega) least g1 g2 zT7
    have hm : ((k + 1 - 1 : Nat) : Int) = mst k 0 := by unfold mst; rw [if_neg (by omega)]; rfl
    rw [hm] at e1
    refine ⟨fun y c e => by rw [e1, e2 y c e], fun c e => by rw [e1]; exact e3 c e⟩
  | @levB k a b h1 h2 hd ih1 =>
    intro ha
    refine ⟨fun h => by omega, fun least g1 g2 => ?_⟩
    obtain ⟨-, e1⟩ := (ih1 ha).2 least g1 (by omega)
    exact ⟨(fun _ _ e => by cases e), fun c e => by cases e; exact e1 b rfl⟩
  | @llE k m f a x h0 h1 =>
    intro ha hf _ hk hm least g1 g2 o
    refine ⟨fun y b e => ?_, fun _ e => by cases e⟩
    cases e
    refine v0R _ _ _ _ _ _ _ _ ?_
    unfold mst
    split <;> omega
  | @llG k m f a b x y r h1 h2 h3 hd hd2 ih1 ih2 =>
    intro ha hf _ hk hm least g1 g2 o
    have h0 := uC (t := t) (a := a) (by rw [z5a (by omega)]; decide)
    have q := hd.inR (by omega)
    simp only [InR] at q
    have e : zX ((k + 1 : Nat) : Int) t ((a + 1 : Nat) : Int) 0 = some (y, t, (b : Int), 0) := (ih1 (by omega)).level (by omega)
    obtain ⟨e2, e3⟩ := ih2 q.2 (by omega) h1 hk (fun h => by omega) least g1 g2 o
    have hs : zT (least : Nat) f (mst k m) o x t a 0 = zT (least : Nat) f (mst k (m + 1)) o (uG t f b ⟨10, (z6z (zP t a)).1, [], [x, y], 0, 0⟩) t b 0 := by
      have hm0 : mst k m = k := by unfold mst; rw [if_neg (by omega)]
      rw [hm0, gV]; unfold wU
      rw [if_pos rfl, z6k, zA, z7s, zA]
      dsimp only
      rw [if_neg (by omega), if_neg (by omega), if_neg (by omega), h2]
      have c2 : IntKind.wrap .i64 ((k : Int) + 1) = ((k + 1 : Nat) : Int) := by rw [z3B (by omega) (by omega)]; omega
      rw [c2, jC hl (by omega), e, zA, z5q _ t (by omega) f b (by omega) q.2, zA]
      dsimp only
      by_cases hk3 : (k : Int) = 3
      · rw [if_pos hk3]; unfold mst; rw [if_pos (by omega)]
      · rw [if_neg hk3]; unfold mst; rw [if_neg (by omega)]
    rw [hs]
    exact ⟨e2, e3⟩
  | @llB k m f a b x h1 h2 h3 hd ih1 =>
    intro ha hf _ hk hm least g1 g2 o
    have h0 := uC (t := t) (a := a) (by rw [z5a (by omega)]; decide)
    obtain ⟨y, e⟩ : ∃ y, zX ((k + 1 : Nat) : Int) t ((a + 1 : Nat) : Int) 0 = some (y, t, (b : Int), 6) := (ih1 (by omega)).level (by omega)
    refine ⟨(fun _ _ e => by cases e), fun c e' => ?_⟩
    cases e'
    have hm0 : mst k m = k := by unfold mst; rw [if_neg (by omega)]
    rw [hm0, gV]; unfold wU
    rw [if_pos rfl, z6k, zA, z7s, zA]
    dsimp only
    rw [if_neg (by omega), if_neg (by omega), if_neg (by omega), h2]
    have c2 : IntKind.wrap .i64 ((k : Int) + 1) = ((k + 1 : Nat) : Int) := by rw [z3B (by omega) (by omega)]; omega
    rw [c2, jC hl (by omega), e, zA, z3o _ _ _ _ six, zA]
    dsimp only
    by_cases hk3 : (k : Int) = 3
    · rw [if_pos hk3]; exact ⟨_, y9k _ _ _ _ _ _ _ six⟩
    · rw [if_neg hk3]; exact ⟨_, y9k _ _ _ _ _ _ _ six⟩
  | @post a b x r hd hd2 ih1 ih2 =>
    intro ha
    have q := hd.inR ha
    simp only [InR] at q
    have e : yB t a 0 = some (x, t, (b : Int), 0) := ih1 ha
    show PRg t (vD t a 0) r
    rw [z5X]; unfold z0D
    rw [e, zA]
    exact ih2 q.2 q.1 _
  | @postB a b hd ih1 =>
    intro ha
    obtain ⟨y, e⟩ : ∃ y, yB t a 0 = some (y, t, (b : Int), 6) := ih1 ha
    show PRg t (vD t a 0) (.bad b)
    rw [z5X]; unfold z0D
    rw [e, zA]
    exact ⟨_, y9j _ _ _ _ _ six⟩
  | @plE f a x h1 h2 =>
    intro ha hf o
    show _ = _
    rw [jY]; unfold vZ
    rw [if_pos rfl, z1H, zA, h1, if_neg (by simp), z1H, zA, h2, if_neg (by simp)]
  | @plI f a b x i r h1 hd h2 hd2 ih1 ih2 =>
    intro ha hf o
    have h0 := yF h1
    have hb := yF h2
    have q := hd.inR (by omega)
    simp only [InR] at q
    have e : zM t ((a + 1 : Nat) : Int) 0 = some (i, t, (b : Int), 0) := z5U ((ih1 (by omega)).level (by omega))
    have e2 : PRg t (zY f o _ t ((b + 1 : Nat) : Int) 0) r := ih2 (by omega) (by omega) o
    rw [jY]; unfold vZ
    rw [if_pos rfl, z1H, zA, h1, if_pos rfl, jC hl (by omega), e, zA]
    dsimp only
    rw [z8J _ t hl b h2, zA]
    dsimp only
    rw [z5q _ t (by omega) f (b + 1) (by omega) (by omega), zA]
    exact e2
  | @plI1 f a b x h1 hd ih1 =>
    intro ha hf o
    have h0 := yF h1
    obtain ⟨y, e⟩ : ∃ y, zM t ((a + 1 : Nat) : Int) 0 = some (y, t, (b : Int), 6) := z5U ((ih1 (by omega)).level (by omega))
    rw [jY]; unfold vZ
    rw [if_pos rfl, z1H, zA, h1, if_pos rfl, jC hl (by omega), e, zA]
    dsimp only
    rw [z7p _ _ _ six, zA]
    dsimp only
    rw [z3o _ _ _ _ six, zA]
    exact ⟨_, y9j _ _ _ _ _ six⟩
  | @plI2 f a b x i h1 hd h2 ih1 =>
    intro ha hf o
    have h0 := yF h1
    have e : zM t ((a + 1 : Nat) : Int) 0 = some (i, t, (b : Int), 0) := z5U ((ih1 (by omega)).level (by omega))
    rw [jY]; unfold vZ
    rw [if_pos rfl, z1H, zA, h1, if_pos rfl, jC hl (by omega), e, zA]
    dsimp only
    rw [y4P _ t hl b h2, zA]
    dsimp only
    rw [z3o _ _ _ _ six, zA]
    exact ⟨_, y9j _ _ _ _ _ six⟩
  | @plF f a x r h0 h1 h2 hd ih =>
    intro ha hf o
    have h3 := uC (t := t) (a := a + 1) (by rw [h2]; decide)
    have e2 : PRg t (zY f o _ t ((a + 2 : Nat) : Int) 0) r := ih (by omega) (by omega) o
    rw [jY]; unfold vZ
    rw [if_pos rfl, z1H, zA, h0, if_neg (by simp), z1H, zA, h1, if_pos rfl, jC hl (by omega), y6z t hl (a + 1) h2, zA]
    dsimp only
    rw [z5q _ t (by omega) f (a + 1 + 1) (by omega) (by omega), zA]
    exact e2
  | @plFB f a x h0 h1 h2 =>
    intro ha hf o
    have h3 := yF h1
    rw [jY]; unfold vZ
    rw [if_pos rfl, z1H, zA, h0, if_neg (by simp), z1H, zA, h1, if_pos rfl, jC hl (by omega), y8O t (a + 1) h2, zA]
    dsimp only
    rw [z3o _ _ _ _ six, zA]
    exact ⟨_, y9j _ _ _ _ _ six⟩
  | one h1 => intro ha; exact v2c t hl _ h1
  | @par a b x h1 hd h2 ih =>
    intro ha
    have h0 := yF (z4R h1)
    have hb := yF h2
    have e : zM t ((a + 1 : Nat) : Int) 0 = some (x, t, (b : Int), 0) := z5U ((ih (by omega)).level (by omega))
    show yB t a 0 = _
    rw [z6l t a _ (z4R h1), uH]; unfold vI
    rw [if_pos rfl, jC hl (by omega), e, zA]
    dsimp only
    rw [z8J _ t hl b h2]; rfl
  | @par1 a b h1 hd ih =>
    intro ha
    have h0 := yF (z4R h1)
    obtain ⟨y, e⟩ : ∃ y, zM t ((a + 1 : Nat) : Int) 0 = some (y, t, (b : Int), 6) := z5U ((ih (by omega)).level (by omega))
    show ∃ y, yB t a 0 = _
    rw [z6l t a _ (z4R h1), uH]; unfold vI
    rw [if_pos rfl, jC hl (by omega), e, zA]
    dsimp only
    rw [z7p _ _ _ six]; exact ⟨_, rfl⟩
  | @par2 a b x h1 hd h2 ih =>
    intro ha
    have h0 := yF (z4R h1)
    have e : zM t ((a + 1 : Nat) : Int) 0 = some (x, t, (b : Int), 0) := z5U ((ih (by omega)).level (by omega))
    show ∃ y, yB t a 0 = _
    rw [z6l t a _ (z4R h1), uH]; unfold vI
    rw [if_pos rfl, jC hl (by omega), e, zA]
    dsimp only
    rw [y4P _ t hl b h2]; exact ⟨_, rfl⟩
  | @call a o b k s few l h1 hd ih =>
    intro ha
    have h0 := z4Q h1
    have q := hd.inR h0.2
    simp only [InR] at q
    have e := (ih h0.2).1 _ _ rfl
    show yB t a 0 = _
    rw [y5M t hl a h1, e, zA]
    dsimp only
    rw [z5q _ t (by omega) a b (by omega) q.2]; rfl
  | @callB a o b k s few h1 hd ih =>
    intro ha
    have h0 := z4Q h1
    obtain ⟨l, e⟩ := (ih h0.2).2 _ rfl
    show ∃ y, yB t a 0 = _
    rw [y5M t hl a h1, e, zA]
    dsimp only
    rw [z3o _ _ _ _ six]; exact ⟨_, rfl⟩
  | @lis a b l h1 hd h2 ih =>
    intro ha
    have h0 := yF (z6F h1)
    have hb := yF h2
    have q := hd.inR (by omega)
    simp only [InR] at q
    have e := (ih (by omega) (by simp)).1 _ _ rfl
    show yB t a 0 = _
    rw [z6l t a _ (z6F h1), uH]; unfold vI
    rw [if_neg (by decide), if_pos rfl, jC hl (by omega), y2N, e, zA]
    dsimp only
    rw [z8J _ t hl b h2, zA]
    dsimp only
    rw [z5q _ t (by omega) a (b + 1) (by omega) (by omega)]; rfl
  | @lis1 a b h1 hd ih =>
    intro ha
    have h0 := yF (z6F h1)
    obtain ⟨l, e⟩ := (ih (by omega) (by simp)).2 _ rfl
    show ∃ y, yB t a 0 = _
    rw [z6l t a _ (z6F h1), uH]; unfold vI
    rw [if_neg (by decide), if_pos rfl, jC hl (by omega), y2N, e, zA]
    dsimp only
    rw [z7p _ _ _ six, zA]
    dsimp only
    rw [z3o _ _ _ _ six]; exact ⟨_, rfl⟩
  | @lis2 a b l h1 hd h2 ih =>
    intro ha
    have h0 := yF (z6F h1)
    have e := (ih (by omega) (by simp)).1 _ _ rfl
    show ∃ y, yB t a 0 = _
    rw [z6l t a _ (z6F h1), uH]; unfold vI
    rw [if_neg (by decide), if_pos rfl, jC hl (by omega), y2N, e, zA]
    dsimp only
    rw [y4P _ t hl b h2, zA]
    dsimp only
    rw [z3o _ _ _ _ six]; exact ⟨_, rfl⟩
  | @nm a h1 =>
    intro ha
    obtain ⟨h2, h3⟩ := v3e h1
    show ∃ y, yB t a 0 = _
    rcases h2 with h2 | h2
    · have h0 := uU h2
      rw [y9O t a _ h2, z0U]; unfold uN
      rw [if_neg (by decide), if_neg (by decide), if_neg (by decide), if_pos rfl, jC hl (by omega), y8O t (a + 1) h3, zA]
      dsimp only
      rw [y9o _ _ _ six, zA]
      dsimp only
      rw [z3o _ _ _ _ six]; exact ⟨_, rfl⟩
    · have h0 := yF h2
      rw [z6l t a _ h2, uH]; unfold vI
      rw [if_neg (by decide), if_neg (by decide), if_pos rfl, jC hl (by omega), y8O t (a + 1) h3, zA]
      dsimp only
      rw [y9o _ _ _ six, zA]
      dsimp only
      rw [z3o _ _ _ _ six]; exact ⟨_, rfl⟩
  | @no a h1 =>
    intro ha
    obtain ⟨k2, k1, w1, w2, w3, w4, s1, s2, s3⟩ := v3f h1
    show ∃ y, yB t a 0 = _
    rw [z1D]; unfold jE
    rw [if_pos rfl, z6k, zA, if_neg k2, if_neg k1]
    have back : a < t.length → IntKind.wrap .i64 ((IntKind.wrap .i64 ((a : Int) + 1)) - 1) = (a : Int) := fun h => by
      rw [jC hl (by omega), z3B (by omega) (by omega)]; omega
    by_cases k3 : (zP t a).K = 3
    · have h0 := uC (t := t) (a := a) (by rw [k3]; decide)
      have ne : ∀ s, vC t a s = false → (zP t a).S ≠ s := fun s h e => by
        unfold vC at h; rw [k3, e] at h; simp at h
      rw [if_pos k3, z0U]; unfold uN
      rw [if_neg (ne _ w1), if_neg (ne _ w2), if_neg (ne _ w3), if_neg (ne _ w4), back h0]
      exact ⟨_, rfl⟩
    · rw [if_neg k3]
      by_cases k4 : (zP t a).K = 4
      · have h0 := uC (t := t) (a := a) (by rw [k4]; decide)
        have ne : ∀ s, yK t a s = false → (zP t a).S ≠ s := fun s h e => by
          unfold yK at h; rw [k4, e] at h; simp at h
        rw [if_pos k4, uH]; unfold vI
        rw [if_neg (ne _ s1), if_neg (ne _ s2), if_neg (ne _ s3), back h0]
        exact ⟨_, rfl⟩
      · rw [if_neg k4]
        exact ⟨_, rfl⟩
  | @cls0 a few h1 =>
    intro ha
    refine ⟨(fun _ _ h => by cases h), fun b h => ?_⟩
    cases h
    rw [z2F]; unfold gI
    rw [y4P _ t hl a h1, zA]
    dsimp only
    rw [if_neg (by decide), y9I _ _ six, zA]
    dsimp only
    rw [z7p _ _ _ six]
    exact ⟨_, rfl⟩
  | @clsF a h1 h2 =>
    intro ha
    have h0 := yF h2
    refine ⟨fun _ _ h => ?_, fun b h => by cases h⟩
    cases h
    rw [z2F]; unfold gI
    rw [z8J _ t hl a h1, zA]
    dsimp only
    rw [if_pos rfl, if_pos rfl, z1H, zA, h2, if_pos rfl, jC hl (by omega)]
  | @cls a b few l h1 h2 hd h3 ih =>
    intro ha
    have h0 := yF h1
    have hb := yF h3
    have e := (ih (by omega) (by simp)).1 _ _ rfl
    refine ⟨fun _ _ h => ?_, fun b h => by cases h⟩
    cases h
    rw [y4f few t hl a h1 h2, y2N, e, zA]
    dsimp only
    rw [z8J _ t hl b h3]; rfl
  | @cls1 a b few h1 h2 hd ih =>
    intro ha
    have h0 := yF h1
    obtain ⟨l, e⟩ := (ih (by omega) (by simp)).2 _ rfl
    refine ⟨(fun _ _ h => by cases h), fun _ h => ?_⟩
    cases h
    rw [y4f few t hl a h1 h2, y2N, e, zA]
    dsimp only
    rw [z7p _ _ _ six]
    exact ⟨_, rfl⟩
  | @cls2 a b few l h1 h2 hd h3 ih =>
    intro ha
    have h0 := yF h1
    have e := (ih (by omega) (by simp)).1 _ _ rfl
    refine ⟨(fun _ _ h => by cases h), fun _ h => ?_⟩
    cases h
    rw [y4f few t hl a h1 h2, y2N, e, zA]
    dsimp only
    rw [y4P _ t hl b h3]
    exact ⟨_, rfl⟩
  | @lstE a b acc x hd h1 ih =>
    intro ha hacc
    have e : zM t a 0 = some (x, t, (b : Int), 0) := z5U ((ih ha).level (by omega))
    refine ⟨fun _ _ h => ?_, fun _ h => by cases h⟩
    cases h
    rw [e, zA]
    dsimp only
    rw [z0z]; unfold vJ
    rw [if_pos rfl, z1H, zA, h1]; rfl
  | @lstG a b acc x r hd h1 hd2 ih1 ih2 =>
    intro ha hacc
    have hb := yF h1
    have q := hd.inR ha
    simp only [InR] at q
    have e : zM t a 0 = some (x, t, (b : Int), 0) := z5U ((ih1 ha).level (by omega))
    have e2 := ih2 (by omega) (by simp; omega)
    have hs : (zM t a 0 >>= fun q => zJ (acc ++ [q.1]) q.2.1 q.2.2.1 q.2.2.2) = (zM t ((b + 1 : Nat) : Int) 0 >>= fun q => zJ ((acc ++ [x]) ++ [q.1]) q.2.1 q.2.2.1 q.2.2.2) := by
      rw [e, zA]
      dsimp only
      rw [z0z]; unfold vJ
      rw [if_pos rfl, z1H, zA, h1, if_pos rfl, jC hl (by omega)]
      congr 1
      funext q
      rw [if_pos (y8f (by simp; omega))]
    rw [hs]
    exact e2
  | @lstB a b acc hd ih =>
    intro ha hacc
    obtain ⟨y, e⟩ : ∃ y, zM t a 0 = some (y, t, (b : Int), 6) := z5U ((ih ha).level (by omega))
    refine ⟨(fun _ _ h => by cases h), fun _ h => ?_⟩
    cases h
    rw [e, zA]
    exact ⟨_, v4f _ _ _ six⟩
theorem y4X (t : List zB) (hl : t.length ≤ 1048576) (a : Nat) (ha : a ≤ t.length) {x : zD} {b : Nat} (h : Der t (.lev 1) a (.ok x b)) : z0T t a = some (x, (b : Int), 0) := by
  have hp : zM t (a : Int) 0 = some (x, t, (b : Int), 0) := z5U ((y4Z hl h ha).level (by omega))
  unfold z0T z0M
  rw [if_neg (by omega), if_neg (by omega), hp]; rfl
inductive It where
  | word (s : Str)
  | sign (s : Str)
  | name
  | expr
  | type
  | block
  | be
abbrev z8R : Str := [108, 101, 116]
abbrev wIf : Str := [105, 102]
abbrev z1t : Str := [119, 104, 105, 108, 101]
abbrev z9v : Str := [102, 111, 114]
abbrev z1s : Str := [112, 114, 105, 110, 116]
abbrev z0a : Str := [114, 101, 116, 117, 114, 110]
abbrev wDo : Str := [100, 111]
abbrev z3A : Str := [101, 108, 115, 101]
abbrev wTo : Str := [116, 111]
def z5B (t : List zB) (a : Nat) : Int × List It :=
  if vC t a z8R = true then (if (zP t (a + 1)).K = 1 ∧ yK t (a + 2) [58] = true then (21, [.word z8R, .name, .sign [58], .type, .sign [59]]) else (20, [.word z8R, .name, .sign [61], .expr, .sign [59]]))
  else if vC t a wIf = true then (23, [.word wIf, .expr, .be])
  else if vC t a z1t = true then (24, [.word z1t, .expr, .block])
  else if vC t a z9v = true then (25, [.word z9v, .name, .sign [61], .expr, .word wTo, .expr, .block])
  else if vC t a z1s = true then (26, [.word z1s, .expr, .sign [59]])
  else if vC t a z0a = true then (27, [.word z0a, .expr, .sign [59]])
  else if vC t a wDo = true then (28, [.word wDo, .expr, .sign [59]])
  else (22, [.expr, .sign [61], .expr, .sign [59]])
inductive y9m where
  | stmt
  | blk
  | sl (f : Nat) (acc : List zD)
  | form (k : Int) (f : Nat) (its : List It) (parts : List zD) (name : Str)
abbrev z4Y (t : List zB) (a : Nat) : zD × Nat × Int := typ (t.length + 1) t a
abbrev z6i (q : Int) : zD := ⟨29, 0, [], [], q, q⟩
inductive SDer (t : List zB) : y9m → Nat → Res → Prop
  | sB {a : Nat} {r : Res} : yK t a [123] = true → SDer t .blk a r → SDer t .stmt a r
  | sF {a : Nat} {r : Res} : yK t a [123] = false → SDer t (.form (z5B t a).1 a (z5B t a).2 [] []) a r → SDer t .stmt a r
  | b0 {a : Nat} : yK t a [123] = false → SDer t .blk a (.bad a)
  | b1 {a : Nat} {r : Res} : yK t a [123] = true → SDer t (.sl a []) (a + 1) r → SDer t .blk a r
  | lE {f a : Nat} {acc : List zD} : yK t a [125] = true → SDer t (.sl f acc) a (.ok (uG t f (a + 1) ⟨29, 0, [], acc, 0, 0⟩) (a + 1))
  | lG {f a b : Nat} {acc : List zD} {x : zD} {r : Res} : yK t a [125] = false → SDer t .stmt a (.ok x b) → SDer t (.sl f (acc ++ [x])) b r → SDer t (.sl f acc) a r
  | lB {f a b : Nat} {acc : List zD} : yK t a [125] = false → SDer t .stmt a (.bad b) → SDer t (.sl f acc) a (.bad b)
  | fE {f a : Nat} {k : Int} {parts : List zD} {name : Str} : f < a → SDer t (.form k f [] parts name) a (.ok (uG t f a ⟨k, 0, name, parts, 0, 0⟩) a)
  | fW {f a : Nat} {k : Int} {s : Str} {its : List It} {parts : List zD} {name : Str} {r : Res} : vC t a s = true → SDer t (.form k f its parts name) (a + 1) r → SDer t (.form k f (.word s :: its) parts name) a r
  | fW0 {f a : Nat} {k : Int} {s : Str} {its : List It} {parts : List zD} {name : Str} : vC t a s = false → SDer t (.form k f (.word s :: its) parts name) a (.bad a)
  | fS {f a : Nat} {k : Int} {s : Str} {its : List It} {parts : List zD} {name : Str} {r : Res} : yK t a s = true → SDer t (.form k f its parts name) (a + 1) r → SDer t (.form k f (.sign s :: its) parts name) a r
  | fS0 {f a : Nat} {k : Int} {s : Str} {its : List It} {parts : List zD} {name : Str} : yK t a s = false → SDer t (.form k f (.sign s :: its) parts name) a (.bad a)
  | fN {f a : Nat} {k : Int} {its : List It} {parts : List zD} {name : Str} {r : Res} : (zP t a).K = 1 → SDer t (.form k f its parts (zP t a).S) (a + 1) r → SDer t (.form k f (.name :: its) parts name) a r
  | fN0 {f a : Nat} {k : Int} {its : List It} {parts : List zD} {name : Str} : (zP t a).K ≠ 1 → SDer t (.form k f (.name :: its) parts name) a (.bad a)
  | fX {f a b : Nat} {k : Int} {its : List It} {parts : List zD} {name : Str} {x : zD} {r : Res} : Der t (.lev 1) a (.ok x b) → SDer t (.form k f its (parts ++ [x]) name) b r → SDer t (.form k f (.expr :: its) parts name) a r
  | fX0 {f a b : Nat} {k : Int} {its : List It} {parts : List zD} {name : Str} : Der t (.lev 1) a (.bad b) → SDer t (.form k f (.expr :: its) parts name) a (.bad b)
  | fT {f a : Nat} {k : Int} {its : List It} {parts : List zD} {name : Str} {r : Res} : (z4Y t a).2.2 = 0 → SDer t (.form k f its (parts ++ [(z4Y t a).1]) name) (z4Y t a).2.1 r → SDer t (.form k f (.type :: its) parts name) a r
  | fT0 {f a : Nat} {k : Int} {its : List It} {parts : List zD} {name : Str} : (z4Y t a).2.2 ≠ 0 → SDer t (.form k f (.type :: its) parts name) a (.bad (z4Y t a).2.1)
  | fK {f a b : Nat} {k : Int} {its : List It} {parts : List zD} {name : Str} {x : zD} {r : Res} : SDer t .blk a (.ok x b) → SDer t (.form k f its (parts ++ [x]) name) b r → SDer t (.form k f (.block :: its) parts name) a r
  | fK0 {f a b : Nat} {k : Int} {its : List It} {parts : List zD} {name : Str} : SDer t .blk a (.bad b) → SDer t (.form k f (.block :: its) parts name) a (.bad b)
  | fE0 {f a b : Nat} {k : Int} {its : List It} {parts : List zD} {name : Str} : SDer t .blk a (.bad b) → SDer t (.form k f (.be :: its) parts name) a (.bad b)
  | fE1 {f a b : Nat} {k : Int} {its : List It} {parts : List zD} {name : Str} {x : zD} {r : Res} : SDer t .blk a (.ok x b) → vC t b z3A = false → SDer t (.form k f its (parts ++ [x] ++ [z6i (zP t (b - 1)).To]) name) b r → SDer t (.form k f (.be :: its) parts name) a r
  | fE2 {f a b c : Nat} {k : Int} {its : List It} {parts : List zD} {name : Str} {x y : zD} {r : Res} : SDer t .blk a (.ok x b) → vC t b z3A = true → SDer t .blk (b + 1) (.ok y c) → SDer t (.form k f its (parts ++ [x] ++ [y]) name) c r → SDer t (.form k f (.be :: its) parts name) a r
  | fE3 {f a b c : Nat} {k : Int} {its : List It} {parts : List zD} {name : Str} {x : zD} : SDer t .blk a (.ok x b) → vC t b z3A = true → SDer t .blk (b + 1) (.bad c) → SDer t (.form k f (.be :: its) parts name) a (.bad c)
theorem v2M : ∀ (n : Nat) (t : List zB) (a : Nat), (typ n t a).2.2 = 0 ∨ (typ n t a).2.2 = 6
  | 0, t, a => .inr rfl
  | n + 1, t, a => by
    have := v2M n t (a + 3)
    rw [typ]
    repeat' split
    all_goals first | exact .inl rfl | exact .inr rfl | exact this | skip
theorem y8p : ∀ (n : Nat) (t : List zB) (a : Nat), t.length < a + n → a ≤ t.length → (typ n t a).2.2 ≠ 0 → a ≤ (typ n t a).2.1 ∧ (typ n t a).2.1 ≤ t.length
  | 0, t, a, h1, h2, _ => by omega
  | n + 1, t, a, h1, h2, h => by
    rw [typ] at h ⊢
    by_cases g1 : vC t a [105, 110, 116] = true
    · rw [if_pos g1] at h; exact absurd rfl h
    rw [if_neg g1] at h ⊢
    by_cases g2 : vC t a [98, 111, 111, 108] = true
    · rw [if_pos g2] at h; exact absurd rfl h
    rw [if_neg g2] at h ⊢
    by_cases g3 : (zP t a).K = 1
    · rw [if_pos g3] at h; exact absurd rfl h
    rw [if_neg g3] at h ⊢
    by_cases g4 : yK t a [91] = true
    · have k4 := yF g4
      rw [if_pos g4] at h ⊢
      by_cases g5 : (zP t (a + 1)).K = 2
      · have k5 := uC (t := t) (a := a + 1) (by rw [g5]; decide)
        rw [if_pos g5] at h ⊢
        by_cases g6 : yK t (a + 2) [93] = true
        · have k6 := yF g6
          rw [if_pos g6] at h ⊢
          by_cases g7 : (typ n t (a + 3)).2.2 = 0
          · rw [if_pos g7] at h; exact absurd rfl h
          · rw [if_neg g7]
            have := y8p n t (a + 3) (by omega) (by omega) g7
            exact ⟨by show a ≤ (typ n t (a + 3)).2.1; omega, this.2⟩
        · rw [if_neg g6]; exact ⟨by show a ≤ a + 2; omega, by show a + 2 ≤ t.length; omega⟩
      · rw [if_neg g5]; exact ⟨by show a ≤ a + 1; omega, by show a + 1 ≤ t.length; omega⟩
    · rw [if_neg g4]; exact ⟨Nat.le_refl _, h2⟩
def InS (t : List zB) (c : y9m) (a : Nat) : Res → Prop
  | .ok x b => (match c with | .form _ _ its _ _ => a ≤ b ∧ (its ≠ [] → a < b) | _ => a < b) ∧ b ≤ t.length
  | .bad b => a ≤ b ∧ b ≤ t.length
theorem SDer.inS {t : List zB} {c : y9m} {a : Nat} {r : Res} (h : SDer t c a r) : a ≤ t.length → InS t c a r := by
  have step : ∀ {k : Int} {f a b : Nat} {it : It} {its : List It} {p p' : List zD} {n n' : Str} {r : Res}, a < b → InS t (.form k f its p' n') b r → InS t (.form k f (it :: its) p n) a r := by
    intro k f a b it its p p' n n' r h1 h2
    cases r with
    | ok x c => simp only [InS] at h2 ⊢; exact ⟨⟨by omega, fun _ => by omega⟩, h2.2⟩
    | bad c => simp only [InS] at h2 ⊢; omega
  induction h with
  | sB _ _ ih => intro h; exact ih h
  | @sF a r h1 hd ih =>
    intro h
    have q := ih h
    cases r with
    | ok x b =>
      simp only [InS] at q ⊢
      refine ⟨q.1.2 ?_, q.2⟩
      unfold z5B
      repeat' split
      all_goals simp
    | bad b => exact q
  | b0 _ => intro h; simp only [InS]; omega
  | @b1 a r h1 _ ih =>
    intro h
    have := yF h1
    have q := ih (by omega)
    cases r <;> simp only [InS] at q ⊢ <;> omega
  | lE h1 => intro h; have := yF h1; simp only [InS]; omega
  | @lG f a b acc x r h1 _ _ ih1 ih2 =>
    intro h
    have q1 := ih1 h; simp only [InS] at q1
    have q2 := ih2 q1.2
    cases r <;> simp only [InS] at q2 ⊢ <;> omega
  | lB _ _ ih => intro h; exact ih h
  | fE _ => intro h; simp only [InS]; exact ⟨⟨Nat.le_refl _, fun h => absurd rfl h⟩, h⟩
  | fW h1 _ ih => intro h; have := uU h1; exact step (by omega) (ih (by omega))
  | fW0 _ => intro h; simp only [InS]; omega
  | fS h1 _ ih => intro h; have := yF h1; exact step (by omega) (ih (by omega))
  | fS0 _ => intro h; simp only [InS]; omega
  | @fN f a k its parts name r h1 _ ih => intro h; have := uC (t := t) (a := a) (by rw [h1]; decide); exact step (Nat.lt_succ_self a) (ih (by omega))
  | fN0 _ => intro h; simp only [InS]; omega
  | fX hd _ ih => intro h; have q := hd.inR h; simp only [InR] at q; exact step q.1 (ih q.2)
  | fX0 hd => intro h; have q := hd.inR h; simp only [InR, InS] at q ⊢; exact q
  | @fT f a k its parts name r h1 _ ih => intro h; have q := y2l (t.length + 1) t a (by omega) h1; exact step q.1 (ih q.2)
  | @fT0 f a k its parts name h1 => intro h; have q := y8p (t.length + 1) t a (by omega) h h1; simp only [InS]; exact q
  | fK _ _ ih1 ih2 => intro h; have q := ih1 h; simp only [InS] at q; exact step q.1 (ih2 q.2)
  | fK0 _ ih => intro h; exact ih h
  | fE0 _ ih => intro h; exact ih h
  | fE1 _ _ _ ih1 ih2 => intro h; have q := ih1 h; simp only [InS] at q; exact step q.1 (ih2 q.2)
  | @fE2 f a b c k its parts name x y r _ h2 _ _ ih1 ih2 ih3 =>
    intro h
    have hb := uU h2
    have q := ih1 h; simp only [InS] at q
    have q2 := ih2 (by omega); simp only [InS] at q2
    exact step (by omega) (ih3 q2.2)
  | @fE3 f a b c k its parts name x _ h2 _ ih1 ih2 =>
    intro h
    have hb := uU h2
    have q := ih1 h; simp only [InS] at q
    have q2 := ih2 (by omega); simp only [InS] at q2 ⊢
    omega
theorem v3T (t : List zB) : ∀ (d a : Nat), a + d = t.length → (∃ r, SDer t .stmt a r) ∧ (∃ r, SDer t .blk a r) := by
  intro d
  induction d using Nat.strongRecOn with
  | _ d IH =>
    intro a had
    have upS : ∀ b, a < b → b ≤ t.length → ∃ r, SDer t .stmt b r := fun b h1 h2 => (IH (t.length - b) (by omega) b (by omega)).1
    have upB : ∀ b, a < b → b ≤ t.length → ∃ r, SDer t .blk b r := fun b h1 h2 => (IH (t.length - b) (by omega) b (by omega)).2
    have sl : ∀ (n b : Nat) (acc : List zD), a < b → b + n = t.length → ∃ r, SDer t (.sl a acc) b r := by
      intro n
      induction n using Nat.strongRecOn with
      | _ n ihn =>
        intro b acc h1 h2
        cases hs : yK t b [125] with
        | true => exact ⟨_, .lE hs⟩
        | false =>
          obtain ⟨r, hr⟩ := upS b h1 (by omega)
          have q := hr.inS (by omega)
          cases r with
          | bad c => exact ⟨_, .lB hs hr⟩
          | ok x c =>
            simp only [InS] at q
            obtain ⟨r, h3⟩ := ihn (t.length - c) (by omega) c (acc ++ [x]) (by omega) (by omega)
            exact ⟨r, .lG hs hr h3⟩
    have blk : ∃ r, SDer t .blk a r := by
      cases hs : yK t a [123] with
      | false => exact ⟨_, .b0 hs⟩
      | true =>
        have := yF hs
        obtain ⟨r, hr⟩ := sl (t.length - (a + 1)) (a + 1) [] (by omega) (by omega)
        exact ⟨r, .b1 hs hr⟩
    have anyB : ∀ b, a ≤ b → b ≤ t.length → ∃ r, SDer t .blk b r := fun b h1 h2 => by
      by_cases e : b = a
      · subst e; exact blk
      · exact upB b (by omega) h2
    have form : ∀ (k : Int) (its : List It) (b : Nat) (parts : List zD) (name : Str), a ≤ b → b ≤ t.length → (its = [] → a < b) → ∃ r, SDer t (.form k a its parts name) b r := by
      intro k its
      induction its with
      | nil => intro b parts name h1 h2 h3; exact ⟨_, .fE (h3 rfl)⟩
      | cons it its ih =>
        intro b parts name h1 h2 h3
        cases it with
        | word s =>
          cases hs : vC t b s with
          | false => exact ⟨_, .fW0 hs⟩
          | true =>
            have := uU hs
            obtain ⟨r, hr⟩ := ih (b + 1) parts name (by omega) (by omega) (fun _ => by omega)
            exact ⟨r, .fW hs hr⟩
        | sign s =>
          cases hs : yK t b s with
          | false => exact ⟨_, .fS0 hs⟩
          | true =>
            have := yF hs
            obtain ⟨r, hr⟩ := ih (b + 1) parts name (by omega) (by omega) (fun _ => by omega)
            exact ⟨r, .fS hs hr⟩
        | name =>
          by_cases hk : (zP t b).K = 1
          · have := uC (t := t) (a := b) (by rw [hk]; decide)
            obtain ⟨r, hr⟩ := ih (b + 1) parts (zP t b).S (by omega) (by omega) (fun _ => by omega)
            exact ⟨r, .fN hk hr⟩
          · exact ⟨_, .fN0 hk⟩
        | expr =>
          obtain ⟨r, hr⟩ := v4K t (t.length - b) b (by omega) 1 (by omega) (by omega)
          have q := hr.inR (by omega)
          cases r with
          | bad c => exact ⟨_, .fX0 hr⟩
          | ok x c =>
            simp only [InR] at q
            obtain ⟨r, h4⟩ := ih c (parts ++ [x]) name (by omega) q.2 (fun _ => by omega)
            exact ⟨r, .fX hr h4⟩
        | type =>
          by_cases he : (z4Y t b).2.2 = 0
          · have q : b < (z4Y t b).2.1 ∧ (z4Y t b).2.1 ≤ t.length := y2l (t.length + 1) t b (by omega) he
            obtain ⟨r, h4⟩ := ih (z4Y t b).2.1 (parts ++ [(z4Y t b).1]) name (by omega) q.2 (fun _ => by omega)
            exact ⟨r, .fT he h4⟩
          · exact ⟨_, .fT0 he⟩
        | block =>
          obtain ⟨r, hr⟩ := anyB b h1 h2
          have q := hr.inS (by omega)
          cases r with
          | bad c => exact ⟨_, .fK0 hr⟩
          | ok x c =>
            simp only [InS] at q
            obtain ⟨r, h4⟩ := ih c (parts ++ [x]) name (by omega) q.2 (fun _ => by omega)
            exact ⟨r, .fK hr h4⟩
        | be =>
          obtain ⟨r, hr⟩ := anyB b h1 h2
          have q := hr.inS (by omega)
          cases r with
          | bad c => exact ⟨_, .fE0 hr⟩
          | ok x c =>
            simp only [InS] at q
            cases hw : vC t c z3A with
            | false =>
              obtain ⟨r, h4⟩ := ih c _ name (by omega) q.2 (fun _ => by omega)
              exact ⟨r, .fE1 hr hw h4⟩
            | true =>
              have := uU hw
              obtain ⟨r2, hr2⟩ := anyB (c + 1) (by omega) (by omega)
              have q2 := hr2.inS (by omega)
              cases r2 with
              | bad e => exact ⟨_, .fE3 hr hw hr2⟩
              | ok y e =>
                simp only [InS] at q2
                obtain ⟨r, h4⟩ := ih e _ name (by omega) q2.2 (fun _ => by omega)
                exact ⟨r, .fE2 hr hw hr2 h4⟩
    refine ⟨?_, blk⟩
    cases hs : yK t a [123] with
    | true => obtain ⟨r, hr⟩ := blk; exact ⟨r, .sB hs hr⟩
    | false =>
      obtain ⟨r, hr⟩ := form (z5B t a).1 (z5B t a).2 a [] [] (Nat.le_refl _) (by omega) (fun h => by
        exfalso; revert h
        unfold z5B
        repeat' split
        all_goals simp)
      exact ⟨r, .sF hs hr⟩
theorem v5N {t : List zB} {c : y9m} {a : Nat} {r : Res} (h : SDer t c a r) : (match c with | .blk => True | .sl _ _ => True | _ => False) → ∀ x b, r = .ok x b → x.To = (zP t (b - 1)).To := by
  induction h with
  | b0 _ => intro _ x b e; cases e
  | b1 _ _ ih => intro _ x b e; exact ih trivial x b e
  | lE _ => intro _ x b e; cases e; rfl
  | lG _ _ _ _ ih => intro _ x b e; exact ih trivial x b e
  | lB _ _ _ => intro _ x b e; cases e
  | _ => intro h; exact h.elim
theorem y5h (t : List zB) (a : Nat) (e : Int) : z1c t a e = some (zP t a) := by
  unfold z1c zP
  by_cases h : a < t.length
  · rw [if_pos (show (a : Int) < (t.length : Int) by omega), z3D h, zA, List.getElem?_eq_getElem h]; rfl
  · rw [if_neg (show ¬ (a : Int) < (t.length : Int) by omega), List.getElem?_eq_none (by omega)]; rfl
theorem y2R (s : Str) (t : List zB) (a : Nat) (e : Int) : jG 4 s t a e = some (yK t a s) := by
  unfold jG yK
  rw [y5h, zA]
  by_cases h : (zP t a).K = 4
  · rw [if_pos h, decide_eq_true h]; rfl
  · rw [if_neg h, decide_eq_false h]; rfl
theorem y6K (s : Str) (t : List zB) (a : Nat) (e : Int) : jG 3 s t a e = some (vC t a s) := by
  unfold jG vC
  rw [y5h, zA]
  by_cases h : (zP t a).K = 3
  · rw [if_pos h, decide_eq_true h]; rfl
  · rw [if_neg h, decide_eq_false h]; rfl
theorem z7a (s : Str) (t : List zB) (hl : t.length ≤ 1048576) (a : Nat) : yC 4 s t a 0 = if yK t a s = true then some (t, ((a + 1 : Nat) : Int), 0) else some (t, (a : Int), 6) := by
  unfold yC
  rw [if_pos rfl, y2R, zA]
  by_cases h : yK t a s = true
  · have := yF h
    rw [if_pos h, if_pos h, jC hl (by omega)]
  · rw [if_neg h, if_neg h]
theorem y5g (s : Str) (t : List zB) (hl : t.length ≤ 1048576) (a : Nat) : yC 3 s t a 0 = if vC t a s = true then some (t, ((a + 1 : Nat) : Int), 0) else some (t, (a : Int), 6) := by
  unfold yC
  rw [if_pos rfl, y6K, zA]
  by_cases h : vC t a s = true
  · have := uU h
    rw [if_pos h, if_pos h, jC hl (by omega)]
  · rw [if_neg h, if_neg h]
theorem y2j (k : Int) (s : Str) (t : List zB) (a : Int) {e : Int} (h : e ≠ 0) : yC k s t a e = some (t, a, e) := by
  unfold yC; rw [if_neg h]
theorem y3M (t : List zB) (hl : t.length ≤ 1048576) (a : Nat) : jR t a 0 = if (zP t a).K = 1 then some ((zP t a).S, t, ((a + 1 : Nat) : Int), 0) else some ([], t, (a : Int), 6) := by
  unfold jR
  rw [if_pos rfl, y5h, zA]
  by_cases h : (zP t a).K = 1
  · have := uC (t := t) (a := a) (by rw [h]; decide)
    rw [if_pos h, if_pos h, jC hl (by omega)]
  · rw [if_neg h, if_neg h]
theorem v2x (t : List zB) (a : Int) {e : Int} (h : e ≠ 0) : jR t a e = some ([], t, a, e) := by
  unfold jR; rw [if_neg h]
theorem y9T (k : Int) (s : Str) (l : List zD) (t : List zB) (hl : t.length ≤ 9223372036854775807) (f a : Nat) (hf : f < a) (ha : a ≤ t.length) : yY k s f l t a 0 = some (uG t f a ⟨k, 0, s, l, 0, 0⟩) := by
  unfold yY uG zP
  have h1 : IntKind.wrap .i64 ((a : Int) - 1) = ((a - 1 : Nat) : Int) := by rw [z3B (by omega) (by omega)]; omega
  rw [if_pos rfl, z3D (show f < t.length by omega), zA, h1, z3D (show a - 1 < t.length by omega), zA, List.getElem?_eq_getElem (show f < t.length by omega), List.getElem?_eq_getElem (show a - 1 < t.length by omega)]; rfl
theorem y8h (k : Int) (s : Str) (l : List zD) (t : List zB) (f a : Int) {e : Int} (h : e ≠ 0) : yY k s f l t a e = some zT7 := by
  unfold yY; rw [if_neg h]
theorem y5R (t : List zB) (a : Int) {e : Int} (h : e ≠ 0) : uO t a e = some (zT7, t, a, e) ∧ wC t a e = some (zT7, t, a, e) := by
  unfold uO wC; rw [if_neg h, if_neg h]; exact ⟨rfl, rfl⟩
theorem v2q (t : List zB) (a : Int) {e : Int} (h : e ≠ 0) : yX t a e = some (zT7, t, a, e) := by
  unfold yX; rw [(y5R t a h).1]; rfl
theorem v3V (t : List zB) (hl : t.length ≤ 1048576) (a : Nat) (ha : a ≤ t.length) {x : zD} {b : Nat} (h : Der t (.lev 1) a (.ok x b)) : yX t a 0 = some (x, t, (b : Int), 0) := by
  unfold yX uO
  rw [if_pos rfl, if_neg (by omega), y4X t hl a ha h]; rfl
theorem v3U (t : List zB) (hl : t.length ≤ 1048576) (a : Nat) (ha : a ≤ t.length) {b : Nat} (h : Der t (.lev 1) a (.bad b)) : yX t a 0 = some (zT7, t, (b : Int), 6) := by
  obtain ⟨y, hp⟩ : ∃ y, zM t (a : Int) 0 = some (y, t, (b : Int), 6) := z5U ((y4Z hl h ha).level (by omega))
  unfold yX uO z0T z0M
  rw [if_pos rfl, if_neg (by omega), if_neg (by omega), if_neg (by omega), hp]; rfl
theorem y9V (t : List zB) (hl : t.length ≤ 1048576) (a : Nat) (ha : a ≤ t.length) : wC t a 0 = some (if (z4Y t a).2.2 = 0 then (z4Y t a).1 else zT7, t, ((z4Y t a).2.1 : Int), (z4Y t a).2.2) := by
  obtain ⟨x, e1, e2⟩ := y6F t (by omega) (t.length + 1) a (by omega) ha
  unfold wC z5l z0d
  rw [if_pos rfl, if_neg (by omega), if_neg (by omega), if_neg (by omega), e1, zA]
  dsimp only
  by_cases h : (z4Y t a).2.2 = 0
  · rw [if_pos h, if_pos h, e2 h]
    show some _ = _
    rw [h]
  · rw [if_neg h, if_neg h]; rfl
theorem v2w (f : Int) (l : List zD) (o : zD) (t : List zB) (a : Int) {e : Int} (h : e ≠ 0) : zU f l o t a e = some (zT7, t, a, e) := by
  rw [z1u]; unfold wB
  rw [if_neg h, y2j _ _ _ _ h, zA, y8h _ _ _ _ _ _ h]; rfl
theorem v0Y (t : List zB) (a : Int) {e : Int} (h : e ≠ 0) : zF t a e = some (zT7, t, a, e) := by
  rw [z3z]; unfold uT
  rw [y2j _ _ _ _ h, zA, v2w _ _ _ _ _ h]
noncomputable def wT (t : List zB) : List It → List zD → Str → Int → Int → Option (List zD × Str × Int × Int)
  | [], ps, nm, a, e => some (ps, nm, a, e)
  | .word s :: r, ps, nm, a, e => yC 3 s t a e >>= fun q => wT t r ps nm q.2.1 q.2.2
  | .sign s :: r, ps, nm, a, e => yC 4 s t a e >>= fun q => wT t r ps nm q.2.1 q.2.2
  | .name :: r, ps, nm, a, e => jR t a e >>= fun q => wT t r ps q.1 q.2.2.1 q.2.2.2
  | .expr :: r, ps, nm, a, e => yX t a e >>= fun q => wT t r (ps ++ [q.1]) nm q.2.2.1 q.2.2.2
  | .type :: r, ps, nm, a, e => wC t a e >>= fun q => wT t r (ps ++ [q.1]) nm q.2.2.1 q.2.2.2
  | .block :: r, ps, nm, a, e => zF t a e >>= fun q => wT t r (ps ++ [q.1]) nm q.2.2.1 q.2.2.2
  | .be :: r, ps, nm, a, e => zF t a e >>= fun q =>
      if q.2.2.2 = 0 then (jG 3 z3A t q.2.2.1 q.2.2.2 >>= fun z => if z = true then (zF t (IntKind.wrap .i64 (q.2.2.1 + 1)) q.2.2.2 >>= fun w => wT t r (ps ++ [q.1] ++ [w.1]) nm w.2.2.1 w.2.2.2)
        else wT t r (ps ++ [q.1] ++ [z6i q.1.To]) nm q.2.2.1 q.2.2.2)
      else wT t r (ps ++ [q.1] ++ [z6i q.1.To]) nm q.2.2.1 q.2.2.2
theorem z8z (t : List zB) (a : Int) {e : Int} (h : e ≠ 0) : ∀ (its : List It) (ps : List zD) (nm : Str), ∃ ps' nm', wT t its ps nm a e = some (ps', nm', a, e)
  | [], ps, nm => ⟨ps, nm, rfl⟩
  | .word s :: r, ps, nm => by rw [wT, y2j _ _ _ _ h]; exact z8z t a h r ps nm
  | .sign s :: r, ps, nm => by rw [wT, y2j _ _ _ _ h]; exact z8z t a h r ps nm
  | .name :: r, ps, nm => by rw [wT, v2x _ _ h]; exact z8z t a h r ps []
  | .expr :: r, ps, nm => by rw [wT, v2q _ _ h]; exact z8z t a h r _ nm
  | .type :: r, ps, nm => by rw [wT, (y5R _ _ h).2]; exact z8z t a h r _ nm
  | .block :: r, ps, nm => by rw [wT, v0Y _ _ h]; exact z8z t a h r _ nm
  | .be :: r, ps, nm => by
    rw [wT, v0Y _ _ h, zA]
    dsimp only
    rw [if_neg h]; exact z8z t a h r _ nm
noncomputable abbrev mkF (t : List zB) (k : Int) (f : Int) (q : Option (List zD × Str × Int × Int)) : Option (zD × List zB × Int × Int) :=
  q >>= fun q => yY k q.2.1 f q.1 t q.2.2.1 q.2.2.2 >>= fun z => some (z, t, q.2.2.1, q.2.2.2)
theorem z4B {k : Int} {s : Str} {t : List zB} {a e : Int} {q : List zB × Int × Int} (h : yC k s t a e = some q) : q.1 = t := by
  unfold yC at h
  by_cases he : e = 0
  · rw [if_pos he] at h
    cases hi : jG k s t a e with
    | none => rw [hi] at h; cases h
    | some z =>
      rw [hi, zA] at h
      split at h <;> (cases h; rfl)
  · rw [if_neg he] at h; cases h; rfl
theorem v1M {t : List zB} {a e : Int} {q : Str × List zB × Int × Int} (h : jR t a e = some q) : q.2.1 = t := by
  unfold jR at h
  by_cases he : e = 0
  · rw [if_pos he] at h
    cases hi : z1c t a e with
    | none => rw [hi] at h; cases h
    | some z =>
      rw [hi, zA] at h
      split at h <;> (cases h; rfl)
  · rw [if_neg he] at h; cases h; rfl
theorem z5A {t : List zB} {a e : Int} {q : zD × List zB × Int × Int} (h : yX t a e = some q) : q.2.1 = t := by
  unfold yX uO at h
  by_cases he : e = 0
  · rw [if_pos he] at h
    by_cases h1 : a > (List.length t : Int)
    · rw [if_pos h1] at h; cases h; rfl
    · rw [if_neg h1] at h
      cases hi : z0T t a with
      | none => rw [hi] at h; cases h
      | some z => rw [hi] at h; cases h; rfl
  · rw [if_neg he] at h; cases h; rfl
theorem v4v {t : List zB} {a e : Int} {q : zD × List zB × Int × Int} (h : wC t a e = some q) : q.2.1 = t := by
  unfold wC at h
  by_cases he : e = 0
  · rw [if_pos he] at h
    by_cases h1 : a > (List.length t : Int)
    · rw [if_pos h1] at h; cases h; rfl
    · rw [if_neg h1] at h
      cases hi : z5l t a with
      | none => rw [hi] at h; cases h
      | some z => rw [hi] at h; cases h; rfl
  · rw [if_neg he] at h; cases h; rfl
theorem uF {α β : Type} {p : Option α} {f g : α → Option β} (h : ∀ q, p = some q → f q = g q) : (p >>= f) = (p >>= g) := by
  cases p with
  | none => rfl
  | some q => exact h q rfl
theorem y6d {α β γ : Type} (p : Option α) (f : α → Option β) (g : β → Option γ) : ((p >>= f) >>= g) = (p >>= fun x => f x >>= g) := by cases p <;> rfl
theorem y5f (t : List zB) (k a : Int) : gJ k t a 0 = mkF t k a (wT t [.expr, .sign [59]] [] [] (IntKind.wrap .i64 (a + 1)) 0) := by
  unfold gJ mkF
  simp only [wT, y6d]
  refine uF fun q hq => ?_
  rw [z5A hq]
  refine uF fun z hz => ?_
  rw [z4B hz]; rfl
theorem v6u (t : List zB) (a : Int) : z1I t a 0 = mkF t 22 a (wT t [.expr, .sign [61], .expr, .sign [59]] [] [] a 0) := by
  unfold z1I mkF
  simp only [wT, y6d]
  refine uF fun q hq => ?_
  rw [z5A hq]
  refine uF fun z hz => ?_
  rw [z4B hz]
  refine uF fun q hq => ?_
  rw [z5A hq]
  refine uF fun z hz => ?_
  rw [z4B hz]; rfl
theorem v3E (t : List zB) (hl : t.length ≤ 1048576) (a : Nat) (h1 : (zP t (a + 1)).K = 1) (h2 : yK t (a + 2) [58] = true) : z0F t a 0 = mkF t 21 a (wT t [.name, .sign [58], .type, .sign [59]] [] [] ((a + 1 : Nat) : Int) 0) := by
  have k1 := uC (t := t) (a := a + 1) (by rw [h1]; decide)
  have k2 := yF h2
  have e1 := y3M t hl (a + 1)
  rw [if_pos h1] at e1
  have e2 := z7a [58] t hl (a + 2)
  rw [if_pos h2] at e2
  unfold z0F mkF
  simp only [wT, y6d]
  rw [jC hl (by omega), e1, zA, zA]
  show (if (0 : Int) = 0 then _ else _) = (yC 4 [58] t ((a + 2 : Nat) : Int) 0 >>= _)
  rw [if_pos rfl, e2, zA]
  show (jG 4 [58] t ((a + 2 : Nat) : Int) 0 >>= _) = _
  rw [y2R, zA, if_pos h2]
  show (wC t (IntKind.wrap .i64 (((a + 2 : Nat) : Int) + 1)) 0 >>= _) = _
  rw [jC hl (by omega)]
  refine uF fun q hq => ?_
  rw [v4v hq]
  refine uF fun z hz => ?_
  rw [z4B hz]; rfl
theorem v3D (t : List zB) (hl : t.length ≤ 1048576) (a : Nat) (ha : a < t.length) (h : ¬ ((zP t (a + 1)).K = 1 ∧ yK t (a + 2) [58] = true)) : z0F t a 0 = mkF t 20 a (wT t [.name, .sign [61], .expr, .sign [59]] [] [] ((a + 1 : Nat) : Int) 0) := by
  have rest : ∀ (nm : Str) (b e : Int), (yC 4 [61] t b e >>= fun q6 => yX q6.1 q6.2.1 q6.2.2 >>= fun q7 => yC 4 [59] q7.2.1 q7.2.2.1 q7.2.2.2 >>= fun q8 => yY 20 nm a [q7.1] q8.1 q8.2.1 q8.2.2 >>= fun q9 => some (q9, q8.1, q8.2.1, q8.2.2)) =
      (yC 4 [61] t b e >>= fun q => yX t q.2.1 q.2.2 >>= fun q => yC 4 [59] t q.2.2.1 q.2.2.2 >>= fun z => yY 20 nm a [q.1] t z.2.1 z.2.2 >>= fun y => some (y, t, z.2.1, z.2.2)) := by
    intro nm b e
    refine uF fun q hq => ?_
    rw [z4B hq]
    refine uF fun z hz => ?_
    rw [z5A hz]
    refine uF fun y hy => ?_
    rw [z4B hy]
  unfold z0F mkF
  simp only [wT, y6d]
  rw [jC hl (by omega), y3M t hl (a + 1)]
  by_cases h1 : (zP t (a + 1)).K = 1
  · rw [if_pos h1, zA, zA]
    show (if (0 : Int) = 0 then _ else _) = _
    rw [if_pos rfl]
    show (jG 4 [58] t ((a + 2 : Nat) : Int) 0 >>= _) = _
    rw [y2R, zA, if_neg (fun h' => h ⟨h1, h'⟩)]
    exact rest _ _ _
  · rw [if_neg h1, zA, zA]
    show (if (6 : Int) = 0 then _ else _) = _
    rw [if_neg six]
    exact rest _ _ _
theorem v4c (t : List zB) (hl : t.length ≤ 1048576) (a : Nat) (ha : a < t.length) (hb : ∀ b e q, zF t b e = some q → q.2.1 = t) : vF t a 0 = mkF t 24 a (wT t [.expr, .block] [] [] ((a + 1 : Nat) : Int) 0) := by
  rw [z9t]; unfold gQ mkF
  simp only [wT, y6d]
  rw [jC hl (by omega)]
  refine uF fun q hq => ?_
  rw [z5A hq]
  refine uF fun z hz => ?_
  rw [hb _ _ _ hz]; rfl
theorem v3h (t : List zB) (hl : t.length ≤ 1048576) (a : Nat) (ha : a < t.length) (hb : ∀ b e q, zF t b e = some q → q.2.1 = t) : vE t a 0 = mkF t 25 a (wT t [.name, .sign [61], .expr, .word wTo, .expr, .block] [] [] ((a + 1 : Nat) : Int) 0) := by
  rw [z9s]; unfold gP mkF
  simp only [wT, y6d]
  rw [jC hl (by omega)]
  refine uF fun q hq => ?_
  rw [v1M hq]
  refine uF fun q hq => ?_
  rw [z4B hq]
  refine uF fun q hq => ?_
  rw [z5A hq]
  refine uF fun q hq => ?_
  rw [z4B hq]
  refine uF fun q hq => ?_
  rw [z5A hq]
  refine uF fun z hz => ?_
  rw [hb _ _ _ hz]; rfl
theorem v4F (t : List zB) (hl : t.length ≤ 1048576) (a : Nat) (ha : a < t.length) (hb : ∀ b e q, zF t b e = some q → q.2.1 = t) : vH t a 0 = mkF t 23 a (wT t [.expr, .be] [] [] ((a + 1 : Nat) : Int) 0) := by
  rw [y0w]; unfold z0c mkF
  simp only [wT, y6d]
  rw [jC hl (by omega)]
  refine uF fun q hq => ?_
  rw [z5A hq]
  refine uF fun z hz => ?_
  rw [hb _ _ _ hz]
  by_cases h0 : z.2.2.2 = 0
  · rw [if_pos h0, if_pos h0]
    simp only [y6d]
    refine uF fun y hy => ?_
    by_cases h1 : y = true
    · rw [if_pos h1, if_pos h1]
      simp only [y6d]
      refine uF fun w hw => ?_
      rw [hb _ _ _ hw]; rfl
    · rw [if_neg h1, if_neg h1]; rfl
  · rw [if_neg h0, if_neg h0]; rfl
theorem v4B (t : List zB) : ∀ b e q, zF t b e = some q → q.2.1 = t := by
  have made_fin : ∀ {k : Int} {s : Str} {f : Int} {l : List zD} {t' : List zB} {a e : Int} {q : zD × List zB × Int × Int}, (yY k s f l t' a e >>= fun z => some (z, t', a, e)) = some q → q.2.1 = t' := fun {k s f l t' a e q} h => by
    obtain ⟨z, -, h⟩ := zC h
    cases h; rfl
  have all : ∀ i r, z2Z vN i = some r → (match i, r with
      | .yQ t _ _, r => r.2.1 = t
      | .zF t _ _, r => r.2.1 = t
      | .zU _ _ _ t _ _, r => r.2.1 = t
      | .vH t _ _, r => r.2.1 = t
      | .vF t _ _, r => r.2.1 = t
      | .vE t _ _, r => r.2.1 = t : Prop) := by
    refine uR gM (P := fun i r => (match i, r with
      | .yQ t _ _, r => r.2.1 = t
      | .zF t _ _, r => r.2.1 = t
      | .zU _ _ _ t _ _, r => r.2.1 = t
      | .vH t _ _, r => r.2.1 = t
      | .vF t _ _, r => r.2.1 = t
      | .vE t _ _, r => r.2.1 = t : Prop)) fun g ih i r h => ?_
    cases i with
    | yQ t a e =>
      replace h : gL (fun t a e => g (.zF t a e)) (fun t a e => g (.vH t a e)) (fun t a e => g (.vF t a e)) (fun t a e => g (.vE t a e)) t a e = some r := h
      unfold gL at h
      obtain ⟨q1, -, h⟩ := zC h
      obtain ⟨q2, -, h⟩ := zC h
      show r.2.1 = t
      have sg : ∀ {k : Int} {q : zD × List zB × Int × Int}, gJ k t a e = some q → q.2.1 = t := fun {k q} h => by
        unfold gJ at h
        obtain ⟨x, h1, h⟩ := zC h
        obtain ⟨y, h2, h⟩ := zC h
        have := made_fin h
        rw [this, z4B h2, z5A h1]
      have lt : ∀ {q : zD × List zB × Int × Int}, z0F t a e = some q → q.2.1 = t := fun {q} h => by
        unfold z0F at h
        obtain ⟨x, h1, h⟩ := zC h
        have e1 := v1M h1
        have tail : ∀ {q : zD × List zB × Int × Int}, (yC 4 [61] x.2.1 x.2.2.1 x.2.2.2 >>= fun q6 => yX q6.1 q6.2.1 q6.2.2 >>= fun q7 => yC 4 [59] q7.2.1 q7.2.2.1 q7.2.2.2 >>= fun q8 => yY 20 x.1 a [q7.1] q8.1 q8.2.1 q8.2.2 >>= fun q9 => some (q9, q8.1, q8.2.1, q8.2.2)) = some q → q.2.1 = t := fun {q} h => by
          obtain ⟨y, h2, h⟩ := zC h
          obtain ⟨z, h3, h⟩ := zC h
          obtain ⟨w, h4, h⟩ := zC h
          have := made_fin h
          rw [this, z4B h4, z5A h3, z4B h2, e1]
        split at h
        · obtain ⟨y, h2, h⟩ := zC h
          split at h
          · obtain ⟨z, h3, h⟩ := zC h
            obtain ⟨w, h4, h⟩ := zC h
            have := made_fin h
            rw [this, z4B h4, v4v h3, e1]
          · exact tail h
        · exact tail h
      have st : ∀ {q : zD × List zB × Int × Int}, z1I t a e = some q → q.2.1 = t := fun {q} h => by
        unfold z1I at h
        obtain ⟨x, h1, h⟩ := zC h
        obtain ⟨y, h2, h⟩ := zC h
        obtain ⟨z, h3, h⟩ := zC h
        obtain ⟨w, h4, h⟩ := zC h
        have := made_fin h
        rw [this, z4B h4, z5A h3, z4B h2, z5A h1]
      have sh : ∀ {q : zD × List zB × Int × Int} {p : Option (zD × List zB × Int × Int)}, (p >>= fun x => some (x.1, x.2.1, x.2.2.1, x.2.2.2)) = some q → p = some q := fun {q p} h => by
        obtain ⟨x, h1, h⟩ := zC h
        cases h; exact h1
      repeat' split at h
      · exact ih _ _ (sh h)
      · exact st (sh h)
      · exact lt (sh h)
      · exact ih _ _ (sh h)
      · exact ih _ _ (sh h)
      · exact ih _ _ (sh h)
      · have := sh h; unfold z2L at this; exact sg (sh this)
      · have := sh h; unfold z2J at this; exact sg (sh this)
      · have := sh h; unfold z2K at this; exact sg (sh this)
      · cases h
    | zF t a e =>
      replace h : uT (fun f l o t a e => g (.zU f l o t a e)) t a e = some r := h
      unfold uT at h
      obtain ⟨x, h1, h⟩ := zC h
      have := ih _ _ h
      show r.2.1 = t
      rw [show r.2.1 = x.1 from this, z4B h1]
    | zU f l o t a e =>
      replace h : wB (fun f l o t a e => g (.zU f l o t a e)) (fun t a e => g (.yQ t a e)) f l o t a e = some r := h
      unfold wB at h
      show r.2.1 = t
      split at h
      · obtain ⟨x, h1, h⟩ := zC h
        split at h
        · obtain ⟨y, h2, h⟩ := zC h
          rw [made_fin h, z4B h2]
        · obtain ⟨y, h2, h⟩ := zC h
          split at h
          · have e1 := ih _ _ h
            have e2 := ih _ _ h2
            rw [show r.2.1 = y.2.1 from e1]; exact e2
          · cases h
      · obtain ⟨y, h2, h⟩ := zC h
        rw [made_fin h, z4B h2]
    | vH t a e =>
      replace h : z0c (fun t a e => g (.zF t a e)) t a e = some r := h
      unfold z0c at h
      show r.2.1 = t
      obtain ⟨x, h1, h⟩ := zC h
      obtain ⟨y, h2, h⟩ := zC h
      have e1 := z5A h1
      have e2 : y.2.1 = x.2.1 := ih _ _ h2
      split at h
      · obtain ⟨z, h3, h⟩ := zC h
        split at h
        · obtain ⟨w, h4, h⟩ := zC h
          have e3 : w.2.1 = y.2.1 := ih _ _ h4
          rw [made_fin h, e3, e2, e1]
        · rw [made_fin h, e2, e1]
      · rw [made_fin h, e2, e1]
    | vF t a e =>
      replace h : gQ (fun t a e => g (.zF t a e)) t a e = some r := h
      unfold gQ at h
      show r.2.1 = t
      obtain ⟨x, h1, h⟩ := zC h
      obtain ⟨y, h2, h⟩ := zC h
      have e2 : y.2.1 = x.2.1 := ih _ _ h2
      rw [made_fin h, e2, z5A h1]
    | vE t a e =>
      replace h : gP (fun t a e => g (.zF t a e)) t a e = some r := h
      unfold gP at h
      show r.2.1 = t
      obtain ⟨x1, h1, h⟩ := zC h
      obtain ⟨x2, h2, h⟩ := zC h
      obtain ⟨x3, h3, h⟩ := zC h
      obtain ⟨x4, h4, h⟩ := zC h
      obtain ⟨x5, h5, h⟩ := zC h
      obtain ⟨x6, h6, h⟩ := zC h
      have e6 : x6.2.1 = x5.2.1 := ih _ _ h6
      rw [made_fin h, e6, z5A h5, z4B h4, z5A h3, z4B h2, v1M h1]
  intro b e q h
  exact all (.zF t b e) q h
def FM (t : List zB) (k : Int) (f : Nat) (p : Option (List zD × Str × Int × Int)) (r : Res) : Prop :=
  (∀ x b, r = .ok x b → ∃ ps nm, p = some (ps, nm, (b : Int), 0) ∧ x = uG t f b ⟨k, 0, nm, ps, 0, 0⟩ ∧ f < b ∧ b ≤ t.length) ∧ (∀ b, r = .bad b → ∃ ps nm, p = some (ps, nm, (b : Int), 6))
def PSg (t : List zB) : y9m → Nat → Res → Prop
  | .stmt, a, r => PRg t (yQ t a 0) r
  | .blk, a, r => PRg t (zF t a 0) r
  | .sl f acc, a, r => f < a → acc.length < a → ∀ o, PRg t (zU f acc o t a 0) r
  | .form k f its parts name, a, r => FM t k f (wT t its parts name a 0) r
theorem FM.fin {t : List zB} (hl : t.length ≤ 1048576) {k : Int} {f : Nat} {p : Option (List zD × Str × Int × Int)} {r : Res} (h : FM t k f p r) : PRg t (mkF t k f p) r := by
  cases r with
  | ok x b =>
    obtain ⟨ps, nm, e, e2, h1, h2⟩ := h.1 x b rfl
    show _ = _
    rw [e]; unfold mkF; rw [zA]
    dsimp only
    rw [y9T k nm ps t (by omega) f b h1 h2, e2]; rfl
  | bad b =>
    obtain ⟨ps, nm, e⟩ := h.2 b rfl
    show ∃ y, _ = _
    rw [e]; unfold mkF; rw [zA]
    dsimp only
    rw [y8h _ _ _ _ _ _ six]
    exact ⟨_, rfl⟩
theorem FM.bad {t : List zB} {k : Int} {f b : Nat} {its : List It} {ps : List zD} {nm : Str} : FM t k f (wT t its ps nm b 6) (.bad b) :=
  ⟨(fun _ _ h => by cases h), fun c h => by cases h; exact z8z t b six its ps nm⟩
theorem v1F (t : List zB) (a : Nat) : (yK t a [123] = true → z1r (zP t a) = some 69) ∧ (vC t a z8R = true → z1r (zP t a) = some 93) ∧ (vC t a wIf = true → z1r (zP t a) = some 94) ∧ (vC t a z1t = true → z1r (zP t a) = some 95) ∧
    (vC t a z9v = true → z1r (zP t a) = some 96) ∧ (vC t a z1s = true → z1r (zP t a) = some 97) ∧ (vC t a z0a = true → z1r (zP t a) = some 98) ∧ (vC t a wDo = true → z1r (zP t a) = some 99) := by
  have w : ∀ {s : Str} {n : Nat}, z1r ⟨3, (zP t a).N, s, (zP t a).From, (zP t a).To⟩ = some n → vC t a s = true → z1r (zP t a) = some n := fun {s n} h hw => by
    obtain ⟨h1, h2⟩ := y5r hw
    rw [← h, ← h1, ← h2]
  refine ⟨fun h => ?_, w rfl, w rfl, w rfl, w rfl, w rfl, w rfl, w rfl⟩
  obtain ⟨h1, h2⟩ := v5q h
  unfold z1r
  rw [if_pos h1, if_pos h2]
theorem v3C (t : List zB) (a : Nat) (h0 : yK t a [123] = false) (h1 : ¬ vC t a z8R = true) (h2 : ¬ vC t a wIf = true) (h3 : ¬ vC t a z1t = true) (h4 : ¬ vC t a z9v = true) (h5 : ¬ vC t a z1s = true) (h6 : ¬ vC t a z0a = true) (h7 : ¬ vC t a wDo = true) : z1r (zP t a) = some 92 := by
  unfold z1r
  by_cases k4 : (zP t a).K = 4
  · rw [if_pos k4, if_neg (fun e => by unfold yK at h0; rw [k4, e] at h0; simp at h0)]
  · rw [if_neg k4]
    by_cases k3 : (zP t a).K = 3
    · have ne : ∀ s, ¬ vC t a s = true → ¬ (zP t a).S = s := fun s h e => h (by unfold vC; rw [k3, e]; simp)
      rw [if_pos k3, if_neg (ne _ h1), if_neg (ne _ h2), if_neg (ne _ h3), if_neg (ne _ h4), if_neg (ne _ h5), if_neg (ne _ h6), if_neg (ne _ h7)]
    · rw [if_neg k3]
theorem PRg.id {t : List zB} {p : Option (zD × List zB × Int × Int)} {r : Res} (h : PRg t p r) : PRg t (p >>= fun x => some (x.1, x.2.1, x.2.2.1, x.2.2.2)) r := by
  cases p with
  | none => cases r with
    | ok x b => cases h
    | bad b => obtain ⟨y, h⟩ := h; cases h
  | some q => exact h
theorem v2A {t : List zB} (hl : t.length ≤ 1048576) {a : Nat} {r : Res} (ha : a ≤ t.length) (h0 : yK t a [123] = false) (h : FM t (z5B t a).1 a (wT t (z5B t a).2 [] [] a 0) r) : PRg t (yQ t a 0) r := by
  have w1 : ∀ {s : Str} {its : List It}, vC t a s = true → wT t (.word s :: its) [] [] a 0 = wT t its [] [] ((a + 1 : Nat) : Int) 0 := fun {s its} hw => by
    rw [wT, y5g s t hl a, if_pos hw]; rfl
  obtain ⟨-, q1, q2, q3, q4, q5, q6, q7⟩ := v1F t a
  rw [z5Z]; unfold gL
  rw [y5h, zA]
  unfold z5B at h
  by_cases g1 : vC t a z8R = true
  · have hlt := uU g1
    rw [if_pos g1] at h
    rw [q1 g1, zA, if_neg (by decide), if_neg (by decide), if_pos rfl]
    by_cases g2 : (zP t (a + 1)).K = 1 ∧ yK t (a + 2) [58] = true
    · rw [if_pos g2] at h
      dsimp only at h
      rw [w1 g1] at h
      rw [v3E t hl a g2.1 g2.2]
      exact (h.fin hl).id
    · rw [if_neg g2] at h
      dsimp only at h
      rw [w1 g1] at h
      rw [v3D t hl a hlt g2]
      exact (h.fin hl).id
  rw [if_neg g1] at h
  by_cases g2 : vC t a wIf = true
  · have hlt := uU g2
    rw [if_pos g2] at h
    dsimp only at h
    rw [w1 g2] at h
    rw [q2 g2, zA, if_neg (by decide), if_neg (by decide), if_neg (by decide), if_pos rfl, v4F t hl a hlt (v4B t)]
    exact (h.fin hl).id
  rw [if_neg g2] at h
  by_cases g3 : vC t a z1t = true
  · have hlt := uU g3
    rw [if_pos g3] at h
    dsimp only at h
    rw [w1 g3] at h
    rw [q3 g3, zA, if_neg (by decide), if_neg (by decide), if_neg (by decide), if_neg (by decide), if_pos rfl, v4c t hl a hlt (v4B t)]
    exact (h.fin hl).id
  rw [if_neg g3] at h
  by_cases g4 : vC t a z9v = true
  · have hlt := uU g4
    rw [if_pos g4] at h
    dsimp only at h
    rw [w1 g4] at h
    rw [q4 g4, zA, if_neg (by decide), if_neg (by decide), if_neg (by decide), if_neg (by decide), if_neg (by decide), if_pos rfl, v3h t hl a hlt (v4B t)]
    exact (h.fin hl).id
  rw [if_neg g4] at h
  by_cases g5 : vC t a z1s = true
  · have hlt := uU g5
    rw [if_pos g5] at h
    dsimp only at h
    rw [w1 g5] at h
    rw [q5 g5, zA, if_neg (by decide), if_neg (by decide), if_neg (by decide), if_neg (by decide), if_neg (by decide), if_neg (by decide), if_pos rfl]
    unfold z2L
    rw [y5f, jC hl (by omega)]
    exact (h.fin hl).id.id
  rw [if_neg g5] at h
  by_cases g6 : vC t a z0a = true
  · have hlt := uU g6
    rw [if_pos g6] at h
    dsimp only at h
    rw [w1 g6] at h
    rw [q6 g6, zA, if_neg (by decide), if_neg (by decide), if_neg (by decide), if_neg (by decide), if_neg (by decide), if_neg (by decide), if_neg (by decide), if_pos rfl]
    unfold z2J
    rw [y5f, jC hl (by omega)]
    exact (h.fin hl).id.id
  rw [if_neg g6] at h
  by_cases g7 : vC t a wDo = true
  · have hlt := uU g7
    rw [if_pos g7] at h
    dsimp only at h
    rw [w1 g7] at h
    rw [q7 g7, zA, if_neg (by decide), if_neg (by decide), if_neg (by decide), if_neg (by decide), if_neg (by decide), if_neg (by decide), if_neg (by decide), if_neg (by decide), if_pos rfl]
    unfold z2K
    rw [y5f, jC hl (by omega)]
    exact (h.fin hl).id.id
  rw [if_neg g7] at h
  dsimp only at h
  rw [v3C t a h0 g1 g2 g3 g4 g5 g6 g7, zA, if_neg (by decide), if_pos rfl, v6u]
  exact (h.fin hl).id
theorem y8d {t : List zB} (hl : t.length ≤ 1048576) {c : y9m} {a : Nat} {r : Res} (h : SDer t c a r) : a ≤ t.length → PSg t c a r := by
  have at_lt : ∀ {b : Nat} {s : Str}, vC t b s = true → IntKind.wrap .i64 ((b : Int) + 1) = ((b + 1 : Nat) : Int) := fun {b s} h => by
    have := uU h
    exact jC hl (by omega)
  induction h with
  | @sB a r h1 hd ih =>
    intro ha
    have e : PRg t (zF t a 0) r := ih ha
    show PRg t (yQ t a 0) r
    rw [z5Z]; unfold gL
    rw [y5h, zA, (v1F t a).1 h1, zA, if_pos rfl]
    exact e.id
  | sF h1 _ ih => intro ha; exact v2A hl ha h1 (ih ha)
  | @b0 a h1 =>
    intro ha
    show PRg t (zF t a 0) (.bad a)
    rw [z3z]; unfold uT
    rw [z7a _ t hl a, h1, if_neg (by simp), zA]
    exact ⟨_, v2w _ _ _ _ _ six⟩
  | @b1 a r h1 hd ih =>
    intro ha
    have h0 := yF h1
    show PRg t (zF t a 0) r
    rw [z3z]; unfold uT
    rw [z7a _ t hl a, if_pos h1, zA]
    exact ih (by omega) (by omega) (by simp) _
  | @lE f a acc h1 =>
    intro ha hf hacc o
    have h0 := yF h1
    show _ = _
    rw [z1u]; unfold wB
    rw [if_pos rfl, y2R, zA, if_pos h1, z7a _ t hl a, if_pos h1, zA]
    dsimp only
    rw [y9T 29 [] acc t (by omega) f (a + 1) (by omega) (by omega)]; rfl
  | @lG f a b acc x r h1 hd _ ih1 ih2 =>
    intro ha hf hacc o
    have q := hd.inS ha; simp only [InS] at q
    have e : yQ t a 0 = some (x, t, (b : Int), 0) := ih1 ha
    rw [z1u]; unfold wB
    rw [if_pos rfl, y2R, zA, h1, if_neg (by simp), e, zA, if_pos (y8f (by simp; omega))]
    exact ih2 q.2 (by omega) (by simp; omega) o
  | @lB f a b acc h1 hd ih1 =>
    intro ha hf hacc o
    obtain ⟨y, e⟩ : ∃ y, yQ t a 0 = some (y, t, (b : Int), 6) := ih1 ha
    rw [z1u]; unfold wB
    rw [if_pos rfl, y2R, zA, h1, if_neg (by simp), e, zA, if_pos (y8f (by simp; omega))]
    exact ⟨_, v2w _ _ _ _ _ six⟩
  | @fE f a k parts name h1 =>
    intro ha
    exact ⟨fun x b e => by cases e; exact ⟨parts, name, rfl, rfl, h1, ha⟩, fun b e => by cases e⟩
  | @fW f a k s its parts name r h1 _ ih =>
    intro ha
    have h0 := uU h1
    show FM t k f (wT t (.word s :: its) parts name a 0) r
    rw [wT, y5g s t hl a, if_pos h1, zA]
    exact ih (by omega)
  | @fW0 f a k s its parts name h1 =>
    intro ha
    show FM t k f (wT t (.word s :: its) parts name a 0) (.bad a)
    rw [wT, y5g s t hl a, h1, if_neg (by simp), zA]
    exact FM.bad
  | @fS f a k s its parts name r h1 _ ih =>
    intro ha
    have h0 := yF h1
    show FM t k f (wT t (.sign s :: its) parts name a 0) r
    rw [wT, z7a s t hl a, if_pos h1, zA]
    exact ih (by omega)
  | @fS0 f a k s its parts name h1 =>
    intro ha
    show FM t k f (wT t (.sign s :: its) parts name a 0) (.bad a)
    rw [wT, z7a s t hl a, h1, if_neg (by simp), zA]
    exact FM.bad
  | @fN f a k its parts name r h1 _ ih =>
    intro ha
    have h0 := uC (t := t) (a := a) (by rw [h1]; decide)
    show FM t k f (wT t (.name :: its) parts name a 0) r
    rw [wT, y3M t hl a, if_pos h1, zA]
    exact ih (by omega)
  | @fN0 f a k its parts name h1 =>
    intro ha
    show FM t k f (wT t (.name :: its) parts name a 0) (.bad a)
    rw [wT, y3M t hl a, if_neg h1, zA]
    exact FM.bad
  | @fX f a b k its parts name x r hd _ ih =>
    intro ha
    have q := hd.inR ha; simp only [InR] at q
    show FM t k f (wT t (.expr :: its) parts name a 0) r
    rw [wT, v3V t hl a ha hd, zA]
    exact ih q.2
  | @fX0 f a b k its parts name hd =>
    intro ha
    show FM t k f (wT t (.expr :: its) parts name a 0) (.bad b)
    rw [wT, v3U t hl a ha hd, zA]
    exact FM.bad
  | @fT f a k its parts name r h1 _ ih =>
    intro ha
    have q : a < (z4Y t a).2.1 ∧ (z4Y t a).2.1 ≤ t.length := y2l (t.length + 1) t a (by omega) h1
    show FM t k f (wT t (.type :: its) parts name a 0) r
    rw [wT, y9V t hl a ha, if_pos h1, zA]
    dsimp only
    have h1' : (typ (t.length + 1) t a).2.2 = 0 := h1
    rw [h1']
    exact ih q.2
  | @fT0 f a k its parts name h1 =>
    intro ha
    show FM t k f (wT t (.type :: its) parts name a 0) (.bad _)
    rw [wT, y9V t hl a ha, if_neg h1, zA]
    dsimp only
    have h6 : (typ (t.length + 1) t a).2.2 = 6 := (v2M (t.length + 1) t a).resolve_left h1
    rw [h6]
    exact FM.bad
  | @fK f a b k its parts name x r hd _ ih1 ih2 =>
    intro ha
    have q := hd.inS ha; simp only [InS] at q
    have e : zF t a 0 = some (x, t, (b : Int), 0) := ih1 ha
    show FM t k f (wT t (.block :: its) parts name a 0) r
    rw [wT, e, zA]
    exact ih2 q.2
  | @fK0 f a b k its parts name hd ih1 =>
    intro ha
    obtain ⟨y, e⟩ : ∃ y, zF t a 0 = some (y, t, (b : Int), 6) := ih1 ha
    show FM t k f (wT t (.block :: its) parts name a 0) (.bad b)
    rw [wT, e, zA]
    exact FM.bad
  | @fE0 f a b k its parts name hd ih1 =>
    intro ha
    obtain ⟨y, e⟩ : ∃ y, zF t a 0 = some (y, t, (b : Int), 6) := ih1 ha
    show FM t k f (wT t (.be :: its) parts name a 0) (.bad b)
    rw [wT, e, zA]
    dsimp only
    rw [if_neg six]
    exact FM.bad
  | @fE1 f a b k its parts name x r hd hw _ ih1 ih2 =>
    intro ha
    have q := hd.inS ha; simp only [InS] at q
    have e : zF t a 0 = some (x, t, (b : Int), 0) := ih1 ha
    show FM t k f (wT t (.be :: its) parts name a 0) r
    rw [wT, e, zA]
    dsimp only
    rw [if_pos rfl, y6K, zA, hw, if_neg (by simp), v5N hd trivial x b rfl]
    exact ih2 q.2
  | @fE2 f a b c k its parts name x y r hd hw hd2 _ ih1 ih2 ih3 =>
    intro ha
    have hb := uU hw
    have q := hd.inS ha; simp only [InS] at q
    have q2 := hd2.inS (by omega); simp only [InS] at q2
    have e : zF t a 0 = some (x, t, (b : Int), 0) := ih1 ha
    have e2 : zF t ((b + 1 : Nat) : Int) 0 = some (y, t, (c : Int), 0) := ih2 (by omega)
    show FM t k f (wT t (.be :: its) parts name a 0) r
    rw [wT, e, zA]
    dsimp only
    rw [if_pos rfl, y6K, zA, if_pos hw, at_lt hw, e2, zA]
    exact ih3 q2.2
  | @fE3 f a b c k its parts name x hd hw hd2 ih1 ih2 =>
    intro ha
    have hb := uU hw
    have e : zF t a 0 = some (x, t, (b : Int), 0) := ih1 ha
    obtain ⟨y, e2⟩ : ∃ y, zF t ((b + 1 : Nat) : Int) 0 = some (y, t, (c : Int), 6) := ih2 (by omega)
    show FM t k f (wT t (.be :: its) parts name a 0) (.bad c)
    rw [wT, e, zA]
    dsimp only
    rw [if_pos rfl, y6K, zA, if_pos hw, at_lt hw, e2, zA]
    exact FM.bad
def ans : Res → zD × Int × Int
  | .ok x b => (x, (b : Int), 0)
  | .bad b => (zT7, (b : Int), 6)
theorem y8g (t : List zB) (hl : t.length ≤ 1048576) (a : Nat) (ha : a ≤ t.length) {r : Res} (h : SDer t .blk a r) : z7b t a = some (ans r) := by
  have hp : PRg t (zF t a 0) r := y8d hl h ha
  unfold z7b z1v
  rw [if_neg (by omega), if_neg (by omega)]
  cases r with
  | ok x b => rw [show zF t (a : Int) 0 = some (x, t, (b : Int), 0) from hp]; rfl
  | bad b => obtain ⟨y, hp⟩ := hp; rw [hp]; rfl
end Go.Proofs.YthbhgdooeeapjaaGreat.M

