import Derived.Test.YtelddjedpmfclaaGreatMod
import Derived.Test.YtelddjedpmfclaaGreatWf
namespace Go.Proofs.YtelddjedpmfclaaGreat.M
open Go Nt
set_option linter.unusedVariables false
set_option linter.unusedSimpArgs false
set_option linter.unusedSectionVars false
theorem z0Q {n : Int} (h1 : -9223372036854775808 ≤ n) (h2 : n ≤ 9223372036854775807) : IntKind.wrap .i64 n = n := by rw [IntKind.wrap_i64]; omega
theorem v5d {α : Type} (l : List α) (n : Nat) : idx l (n : Int) = l[n]? := by unfold idx; rw [if_pos (by omega)]; rfl
theorem z1W {α : Type} {l : List α} {n : Nat} (h : n < l.length) : idx l (n : Int) = some l[n] := by rw [v5d]; exact List.getElem?_eq_getElem h
theorem v2X {α : Type} {l : List α} : idx l 0 = l[0]? := rfl
theorem zA {α β : Type} (x : α) (k : α → Option β) : (some x >>= k) = k x := rfl
theorem gI (n : Nat) : ((n : Int) + 1) = ((n + 1 : Nat) : Int) := by omega
abbrev v8q : zB := ⟨5, 0, [], 0, 0⟩
def zQ (t : List zB) (a : Nat) : zB := (t[a]?).getD v8q
def yT (t : List zB) (a : Nat) (s : Str) : Bool := decide ((zQ t a).K = 4) && ((zQ t a).S == s)
theorem z7l (t : List zB) (a : Nat) (e : Int) : gO t a e = some (zQ t a) := by
  unfold gO zQ
  by_cases h : a < t.length
  · rw [if_pos (show (a : Int) < (t.length : Int) by omega), z1W h, zA, List.getElem?_eq_getElem h]; rfl
  · rw [if_neg (show ¬ (a : Int) < (t.length : Int) by omega), List.getElem?_eq_none (by omega)]; rfl
theorem z2c (s : Str) (t : List zB) (a : Nat) (e : Int) : uQ s t a e = some (yT t a s) := by
  unfold uQ yT
  rw [z7l, zA]
  by_cases h : (zQ t a).K = 4
  · rw [if_pos h, decide_eq_true h]; rfl
  · rw [if_neg h, decide_eq_false h]; rfl
def vD (t : List zB) (a : Nat) (s : Str) : Bool := decide ((zQ t a).K = 3) && ((zQ t a).S == s)
theorem uT {t : List zB} {a : Nat} (h : (zQ t a).K ≠ 5) : a < t.length := by
  rcases Nat.lt_or_ge a t.length with h1 | h1
  · exact h1
  · exfalso; apply h; unfold zQ; rw [List.getElem?_eq_none h1]; rfl
def jM (t : List zB) (f a : Nat) (x : zE) : zE := { x with From := (zQ t f).From, To := (zQ t (a - 1)).To }
theorem z6l (x : zE) (t : List zB) (hl : t.length ≤ 9223372036854775807) (f a : Nat) (hf : f < a) (ha : a ≤ t.length) : yK x f t a 0 = some (jM t f a x) := by
  unfold yK jM zQ
  have h1 : IntKind.wrap .i64 ((a : Int) - 1) = ((a - 1 : Nat) : Int) := by rw [z0Q (by omega) (by omega)]; omega
  rw [if_pos rfl, z1W (show f < t.length by omega), zA, h1, z1W (show a - 1 < t.length by omega), zA, List.getElem?_eq_getElem (show f < t.length by omega), List.getElem?_eq_getElem (show a - 1 < t.length by omega)]; rfl
theorem z3Q (x : zE) (t : List zB) (f : Int) (a : Int) {e : Int} (h : e ≠ 0) : yK x f t a e = some x := by
  unfold yK
  rw [if_neg h]
theorem v1z (s : Str) (t : List zB) (hl : t.length ≤ 9223372036854775807) (a : Nat) : wA s t a 0 = some (t, ((if yT t a s = true then a + 1 else a : Nat) : Int), if yT t a s = true then 0 else 6) := by
  unfold wA
  rw [if_pos rfl, z2c, zA]
  cases h : yT t a s with
  | true =>
    have ha : a < t.length := uT (by
      unfold yT at h
      simp only [Bool.and_eq_true, decide_eq_true_eq] at h
      rw [h.1]; decide)
    simp only [if_true]
    rw [z0Q (by omega) (by omega), gI]
  | false =>
    simp only [Bool.false_eq_true, if_false]
    rfl
theorem z8D (s : Str) (t : List zB) (a : Int) {e : Int} (h : e ≠ 0) : wA s t a e = some (t, a, e) := by
  unfold wA
  rw [if_neg h]
abbrev zT7 : zE := ⟨0, 0, [], [], 0, 0⟩
def typ : Nat → List zB → Nat → zE × Nat × Int
  | 0, _, a => (zT7, a, 6)
  | n + 1, t, a =>
    if vD t a [105, 110, 116] = true then (jM t a (a + 1) ⟨1, 0, [], [], 0, 0⟩, a + 1, 0)
    else if vD t a [98, 111, 111, 108] = true then (jM t a (a + 1) ⟨2, 0, [], [], 0, 0⟩, a + 1, 0)
    else if (zQ t a).K = 1 then (jM t a (a + 1) ⟨4, 0, (zQ t a).S, [], 0, 0⟩, a + 1, 0)
    else if yT t a [91] = true then
      (if (zQ t (a + 1)).K = 2 then
        (if yT t (a + 2) [93] = true then
          (if (typ n t (a + 3)).2.2 = 0 then (jM t a (typ n t (a + 3)).2.1 ⟨3, (zQ t (a + 1)).N, [], [(typ n t (a + 3)).1], 0, 0⟩, (typ n t (a + 3)).2.1, 0) else (zT7, (typ n t (a + 3)).2.1, (typ n t (a + 3)).2.2))
        else (zT7, a + 2, 6))
      else (zT7, a + 1, 6))
    else (zT7, a, 6)
theorem zV {t : List zB} {a : Nat} {s : Str} (h : yT t a s = true) : a < t.length := uT (by
  unfold yT at h
  simp only [Bool.and_eq_true, decide_eq_true_eq] at h
  rw [h.1]; decide)
theorem uV {t : List zB} {a : Nat} {s : Str} (h : vD t a s = true) : a < t.length := uT (by
  unfold vD at h
  simp only [Bool.and_eq_true, decide_eq_true_eq] at h
  rw [h.1]; decide)
theorem y1c : ∀ (n : Nat) (t : List zB) (a : Nat), t.length < a + n → (typ n t a).2.2 = 0 → a < (typ n t a).2.1 ∧ (typ n t a).2.1 ≤ t.length
  | 0, t, a, _, h => by cases h
  | n + 1, t, a, hl, h => by
    rw [typ] at h ⊢
    by_cases h1 : vD t a [105, 110, 116] = true
    · rw [if_pos h1]; have := uV h1; exact ⟨by simp, this⟩
    rw [if_neg h1] at h ⊢
    by_cases h2 : vD t a [98, 111, 111, 108] = true
    · rw [if_pos h2]; have := uV h2; exact ⟨by simp, this⟩
    rw [if_neg h2] at h ⊢
    by_cases h3 : (zQ t a).K = 1
    · rw [if_pos h3]; have := uT (t := t) (a := a) (by rw [h3]; decide); exact ⟨by simp, this⟩
    rw [if_neg h3] at h ⊢
    by_cases h4 : yT t a [91] = true
    · rw [if_pos h4] at h ⊢
      by_cases h5 : (zQ t (a + 1)).K = 2
      · rw [if_pos h5] at h ⊢
        by_cases h6 : yT t (a + 2) [93] = true
        · rw [if_pos h6] at h ⊢
          by_cases h7 : (typ n t (a + 3)).2.2 = 0
          · rw [if_pos h7]
            have := y1c n t (a + 3) (by omega) h7
            exact ⟨by show a < (typ n t (a + 3)).2.1; omega, this.2⟩
          · rw [if_neg h7] at h; exact absurd h h7
        · rw [if_neg h6] at h; cases h
      · rw [if_neg h5] at h; cases h
    · rw [if_neg h4] at h; cases h
inductive Res where
  | ok (x : zE) (b : Nat)
  | bad (b : Nat)
def y0Q (x : zB) : Int × Nat :=
  if x.K = 4 then
    if x.S = [124, 124] then (1, 1)
    else if x.S = [38, 38] then (2, 2)
    else if x.S = [61, 61] then (3, 3)
    else if x.S = [33, 61] then (4, 3)
    else if x.S = [60] then (5, 3)
    else if x.S = [60, 61] then (6, 3)
    else if x.S = [62] then (7, 3)
    else if x.S = [62, 61] then (8, 3)
    else if x.S = [43] then (9, 4)
    else if x.S = [45] then (10, 4)
    else if x.S = [42] then (11, 5)
    else if x.S = [47] then (12, 5)
    else if x.S = [37] then (13, 5)
    else (0, 0)
  else (0, 0)
theorem z4S {x : zB} (h : (y0Q x).2 ≠ 0) : x.K = 4 := by
  unfold y0Q at h
  by_cases hk : x.K = 4
  · exact hk
  · rw [if_neg hk] at h; exact absurd rfl h
theorem v7g (x : zB) : (y0Q x).2 ≤ 5 := by
  have st : ∀ (c : Prop) [Decidable c] (p q : Int × Nat), p.2 ≤ 5 → q.2 ≤ 5 → (if c then p else q).2 ≤ 5 := by intro c _ p q h1 h2; split <;> assumption
  unfold y0Q
  repeat' (first | decide | refine st _ _ _ ?_ ?_)
inductive AK where
  | one (k n : Int) (s : Str)
  | paren
  | call (k : Int) (s : Str) (o : Nat) (few : Bool)
  | lis
  | nm
  | no
def z1R (t : List zB) (a : Nat) : AK :=
  if (zQ t a).K = 2 then .one 5 (zQ t a).N []
  else if (zQ t a).K = 1 then (if yT t (a + 1) [40] = true then .call 16 (zQ t a).S (a + 1) true else .one 19 0 (zQ t a).S)
  else if vD t a [116, 114, 117, 101] = true then .one 6 1 []
  else if vD t a [102, 97, 108, 115, 101] = true then .one 6 0 []
  else if vD t a [114, 101, 97, 100] = true then .one 18 0 []
  else if vD t a [110, 101, 119] = true then (if (zQ t (a + 1)).K = 1 then .call 15 (zQ t (a + 1)).S (a + 2) false else .nm)
  else if yT t a [40] = true then .paren
  else if yT t a [91] = true then .lis
  else if yT t a [64] = true then (if (zQ t (a + 1)).K = 1 then .call 17 (zQ t (a + 1)).S (a + 2) true else .nm)
  else .no
inductive Cat where
  | lev (k : Nat)
  | ll (k times f : Nat) (x : zE)
  | post
  | pl (f : Nat) (x : zE)
  | atom
  | cls (few : Bool)
  | lst (acc : List zE)
abbrev lT (l : List zE) : zE := ⟨0, 0, [], l, 0, 0⟩
inductive Der (t : List zB) : Cat → Nat → Res → Prop
  | un {a b : Nat} {n : Int} {x : zE} : (n = 1 ∧ yT t a [45] = true) ∨ (n = 2 ∧ yT t a [33] = true) → Der t (.lev 6) (a + 1) (.ok x b) → Der t (.lev 6) a (.ok (jM t a b ⟨11, n, [], [x], 0, 0⟩) b)
  | unB {a b : Nat} : yT t a [45] = true ∨ yT t a [33] = true → Der t (.lev 6) (a + 1) (.bad b) → Der t (.lev 6) a (.bad b)
  | unP {a : Nat} {r : Res} : yT t a [45] = false → yT t a [33] = false → Der t .post a r → Der t (.lev 6) a r
  | lev {k a b : Nat} {x : zE} {r : Res} : 1 ≤ k → k ≤ 5 → Der t (.lev (k + 1)) a (.ok x b) → Der t (.ll k 0 a x) b r → Der t (.lev k) a r
  | levB {k a b : Nat} : 1 ≤ k → k ≤ 5 → Der t (.lev (k + 1)) a (.bad b) → Der t (.lev k) a (.bad b)
  | llE {k m f a : Nat} {x : zE} : 1 ≤ k → (y0Q (zQ t a)).2 ≠ k ∨ (k = 3 ∧ m = 1) → Der t (.ll k m f x) a (.ok x a)
  | llG {k m f a b : Nat} {x y : zE} {r : Res} : 1 ≤ k → (y0Q (zQ t a)).2 = k → ¬ (k = 3 ∧ m = 1) → Der t (.lev (k + 1)) (a + 1) (.ok y b) → Der t (.ll k (m + 1) f (jM t f b ⟨10, (y0Q (zQ t a)).1, [], [x, y], 0, 0⟩)) b r → Der t (.ll k m f x) a r
  | llB {k m f a b : Nat} {x : zE} : 1 ≤ k → (y0Q (zQ t a)).2 = k → ¬ (k = 3 ∧ m = 1) → Der t (.lev (k + 1)) (a + 1) (.bad b) → Der t (.ll k m f x) a (.bad b)
  | post {a b : Nat} {x : zE} {r : Res} : Der t .atom a (.ok x b) → Der t (.pl a x) b r → Der t .post a r
  | postB {a b : Nat} : Der t .atom a (.bad b) → Der t .post a (.bad b)
  | plE {f a : Nat} {x : zE} : yT t a [91] = false → yT t a [46] = false → Der t (.pl f x) a (.ok x a)
  | plI {f a b : Nat} {x i : zE} {r : Res} : yT t a [91] = true → Der t (.lev 1) (a + 1) (.ok i b) → yT t b [93] = true → Der t (.pl f (jM t f (b + 1) ⟨12, 0, [], [x, i], 0, 0⟩)) (b + 1) r → Der t (.pl f x) a r
  | plI1 {f a b : Nat} {x : zE} : yT t a [91] = true → Der t (.lev 1) (a + 1) (.bad b) → Der t (.pl f x) a (.bad b)
  | plI2 {f a b : Nat} {x i : zE} : yT t a [91] = true → Der t (.lev 1) (a + 1) (.ok i b) → yT t b [93] = false → Der t (.pl f x) a (.bad b)
  | plF {f a : Nat} {x : zE} {r : Res} : yT t a [91] = false → yT t a [46] = true → (zQ t (a + 1)).K = 1 → Der t (.pl f (jM t f (a + 2) ⟨13, 0, (zQ t (a + 1)).S, [x], 0, 0⟩)) (a + 2) r → Der t (.pl f x) a r
  | plFB {f a : Nat} {x : zE} : yT t a [91] = false → yT t a [46] = true → (zQ t (a + 1)).K ≠ 1 → Der t (.pl f x) a (.bad (a + 1))
  | one {a : Nat} {k n : Int} {s : Str} : z1R t a = .one k n s → Der t .atom a (.ok (jM t a (a + 1) ⟨k, n, s, [], 0, 0⟩) (a + 1))
  | par {a b : Nat} {x : zE} : z1R t a = .paren → Der t (.lev 1) (a + 1) (.ok x b) → yT t b [41] = true → Der t .atom a (.ok x (b + 1))
  | par1 {a b : Nat} : z1R t a = .paren → Der t (.lev 1) (a + 1) (.bad b) → Der t .atom a (.bad b)
  | par2 {a b : Nat} {x : zE} : z1R t a = .paren → Der t (.lev 1) (a + 1) (.ok x b) → yT t b [41] = false → Der t .atom a (.bad b)
  | call {a o b : Nat} {k : Int} {s : Str} {few : Bool} {l : List zE} : z1R t a = .call k s o few → Der t (.cls few) o (.ok (lT l) b) → Der t .atom a (.ok (jM t a b ⟨k, 0, s, l, 0, 0⟩) b)
  | callB {a o b : Nat} {k : Int} {s : Str} {few : Bool} : z1R t a = .call k s o few → Der t (.cls few) o (.bad b) → Der t .atom a (.bad b)
  | lis {a b : Nat} {l : List zE} : z1R t a = .lis → Der t (.lst []) (a + 1) (.ok (lT l) b) → yT t b [93] = true → Der t .atom a (.ok (jM t a (b + 1) ⟨14, 0, [], l, 0, 0⟩) (b + 1))
  | lis1 {a b : Nat} : z1R t a = .lis → Der t (.lst []) (a + 1) (.bad b) → Der t .atom a (.bad b)
  | lis2 {a b : Nat} {l : List zE} : z1R t a = .lis → Der t (.lst []) (a + 1) (.ok (lT l) b) → yT t b [93] = false → Der t .atom a (.bad b)
  | nm {a : Nat} : z1R t a = .nm → Der t .atom a (.bad (a + 1))
  | no {a : Nat} : z1R t a = .no → Der t .atom a (.bad a)
  | cls0 {a : Nat} {few : Bool} : yT t a [40] = false → Der t (.cls few) a (.bad a)
  | clsF {a : Nat} : yT t a [40] = true → yT t (a + 1) [41] = true → Der t (.cls true) a (.ok (lT []) (a + 2))
  | cls {a b : Nat} {few : Bool} {l : List zE} : yT t a [40] = true → (few = true → yT t (a + 1) [41] = false) → Der t (.lst []) (a + 1) (.ok (lT l) b) → yT t b [41] = true → Der t (.cls few) a (.ok (lT l) (b + 1))
  | cls1 {a b : Nat} {few : Bool} : yT t a [40] = true → (few = true → yT t (a + 1) [41] = false) → Der t (.lst []) (a + 1) (.bad b) → Der t (.cls few) a (.bad b)
  | cls2 {a b : Nat} {few : Bool} {l : List zE} : yT t a [40] = true → (few = true → yT t (a + 1) [41] = false) → Der t (.lst []) (a + 1) (.ok (lT l) b) → yT t b [41] = false → Der t (.cls few) a (.bad b)
  | lstE {a b : Nat} {acc : List zE} {x : zE} : Der t (.lev 1) a (.ok x b) → yT t b [44] = false → Der t (.lst acc) a (.ok (lT (acc ++ [x])) b)
  | lstG {a b : Nat} {acc : List zE} {x : zE} {r : Res} : Der t (.lev 1) a (.ok x b) → yT t b [44] = true → Der t (.lst (acc ++ [x])) (b + 1) r → Der t (.lst acc) a r
  | lstB {a b : Nat} {acc : List zE} : Der t (.lev 1) a (.bad b) → Der t (.lst acc) a (.bad b)
def InR (t : List zB) (c : Cat) (a : Nat) : Res → Prop
  | .ok x b => (match c with | .ll _ _ _ _ => a ≤ b | .pl _ _ => a ≤ b | _ => a < b) ∧ b ≤ t.length
  | .bad b => a ≤ b ∧ b ≤ t.length
theorem z1V {t : List zB} {a : Nat} (h : z1R t a ≠ .no) : a < t.length := by
  unfold z1R at h
  by_cases h1 : (zQ t a).K = 2
  · exact uT (by rw [h1]; decide)
  rw [if_neg h1] at h
  by_cases h2 : (zQ t a).K = 1
  · exact uT (by rw [h2]; decide)
  rw [if_neg h2] at h
  by_cases h3 : vD t a [116, 114, 117, 101] = true
  · exact uV h3
  rw [if_neg h3] at h
  by_cases h3 : vD t a [102, 97, 108, 115, 101] = true
  · exact uV h3
  rw [if_neg h3] at h
  by_cases h3 : vD t a [114, 101, 97, 100] = true
  · exact uV h3
  rw [if_neg h3] at h
  by_cases h3 : vD t a [110, 101, 119] = true
  · exact uV h3
  rw [if_neg h3] at h
  by_cases h3 : yT t a [40] = true
  · exact zV h3
  rw [if_neg h3] at h
  by_cases h3 : yT t a [91] = true
  · exact zV h3
  rw [if_neg h3] at h
  by_cases h3 : yT t a [64] = true
  · exact zV h3
  rw [if_neg h3] at h
  exact absurd rfl h
theorem z3S {t : List zB} {a o : Nat} {k : Int} {s : Str} {few : Bool} (h : z1R t a = .call k s o few) : a < o ∧ o ≤ t.length := by
  have h0 := z1V (t := t) (a := a) (by rw [h]; simp)
  unfold z1R at h
  repeat' split at h
  all_goals first
    | (cases h; done)
    | (injection h with h1 h2 h3 h4; subst h3; rename_i q; have := uT (t := t) (a := a + 1) (by rw [q]; decide); omega)
    | (injection h with h1 h2 h3 h4; subst h3; omega)
theorem Der.inR {t : List zB} {c : Cat} {a : Nat} {r : Res} (h : Der t c a r) : a ≤ t.length → InR t c a r := by
  induction h with
  | un h1 _ ih =>
    intro _
    have ha : _ < t.length := h1.elim (fun h => zV h.2) (fun h => zV h.2)
    have := ih (by omega); simp only [InR] at this ⊢; omega
  | unB h1 _ ih =>
    intro _
    have ha : _ < t.length := h1.elim (fun h => zV h) (fun h => zV h)
    have := ih (by omega); simp only [InR] at this ⊢; omega
  | unP _ _ _ ih => intro h; exact ih h
  | @lev k a b x r h1 h2 _ _ ih1 ih2 =>
    intro h
    have q1 := ih1 h; simp only [InR] at q1
    have q2 := ih2 q1.2
    cases r <;> simp only [InR] at q2 ⊢ <;> omega
  | levB _ _ _ ih => intro h; exact ih h
  | llE _ _ => intro h; simp only [InR]; omega
  | @llG k m f a b x y r h1 h2 h3 _ _ ih1 ih2 =>
    intro h
    have ha := uT (t := t) (a := a) (by rw [z4S (by omega)]; decide)
    have q1 := ih1 (by omega); simp only [InR] at q1
    have q2 := ih2 q1.2
    cases r <;> simp only [InR] at q2 ⊢ <;> omega
  | @llB k m f a b x h1 h2 h3 _ ih1 =>
    intro h
    have ha := uT (t := t) (a := a) (by rw [z4S (by omega)]; decide)
    have q1 := ih1 (by omega); simp only [InR] at q1 ⊢; omega
  | @post a b x r _ _ ih1 ih2 =>
    intro h
    have q1 := ih1 h; simp only [InR] at q1
    have q2 := ih2 q1.2
    cases r <;> simp only [InR] at q2 ⊢ <;> omega
  | postB _ ih => intro h; exact ih h
  | plE _ _ => intro h; simp only [InR]; omega
  | @plI f a b x i r h1 _ h2 _ ih1 ih2 =>
    intro h
    have ha := zV h1
    have hb := zV h2
    have q1 := ih1 (by omega); simp only [InR] at q1
    have q2 := ih2 (by omega)
    cases r <;> simp only [InR] at q2 ⊢ <;> omega
  | plI1 h1 _ ih =>
    intro h
    have ha := zV h1
    have q1 := ih (by omega); simp only [InR] at q1 ⊢; omega
  | plI2 h1 _ _ ih =>
    intro h
    have ha := zV h1
    have q1 := ih (by omega); simp only [InR] at q1 ⊢; omega
  | @plF f a x r h0 h1 h2 _ ih =>
    intro h
    have ha := uT (t := t) (a := a + 1) (by rw [h2]; decide)
    have q2 := ih (by omega)
    cases r <;> simp only [InR] at q2 ⊢ <;> omega
  | plFB _ h1 _ => intro h; have := zV h1; simp only [InR]; omega
  | one h1 => intro h; have := z1V (by rw [h1]; simp); simp only [InR]; omega
  | par h1 _ h2 ih =>
    intro h; have ha := z1V (by rw [h1]; simp); have hb := zV h2
    have q1 := ih (by omega); simp only [InR] at q1 ⊢; omega
  | par1 h1 _ ih =>
    intro h; have ha := z1V (by rw [h1]; simp)
    have q1 := ih (by omega); simp only [InR] at q1 ⊢; omega
  | par2 h1 _ _ ih =>
    intro h; have ha := z1V (by rw [h1]; simp)
    have q1 := ih (by omega); simp only [InR] at q1 ⊢; omega
  | call h1 _ ih =>
    intro h; have ha := z3S h1
    have q1 := ih (by omega); simp only [InR] at q1 ⊢; omega
  | callB h1 _ ih =>
    intro h; have ha := z3S h1
    have q1 := ih (by omega); simp only [InR] at q1 ⊢; omega
  | lis h1 _ h2 ih =>
    intro h; have ha := z1V (by rw [h1]; simp); have hb := zV h2
    have q1 := ih (by omega); simp only [InR] at q1 ⊢; omega
  | lis1 h1 _ ih =>
    intro h; have ha := z1V (by rw [h1]; simp)
    have q1 := ih (by omega); simp only [InR] at q1 ⊢; omega
  | lis2 h1 _ _ ih =>
    intro h; have ha := z1V (by rw [h1]; simp)
    have q1 := ih (by omega); simp only [InR] at q1 ⊢; omega
  | nm h1 => intro h; have ha := z1V (by rw [h1]; simp); simp only [InR]; omega
  | no _ => intro h; simp only [InR]; omega
  | cls0 _ => intro h; simp only [InR]; omega
  | clsF h1 h2 => intro h; have ha := zV h2; simp only [InR]; omega
  | cls h1 _ _ h2 ih =>
    intro h; have ha := zV h1; have hb := zV h2
    have q1 := ih (by omega); simp only [InR] at q1 ⊢; omega
  | cls1 h1 _ _ ih =>
    intro h; have ha := zV h1
    have q1 := ih (by omega); simp only [InR] at q1 ⊢; omega
  | cls2 h1 _ _ _ ih =>
    intro h; have ha := zV h1
    have q1 := ih (by omega); simp only [InR] at q1 ⊢; omega
  | lstE _ _ ih => intro h; have q1 := ih h; simp only [InR] at q1 ⊢; omega
  | @lstG a b acc x r _ h2 _ ih1 ih2 =>
    intro h; have hb := zV h2
    have q1 := ih1 h; simp only [InR] at q1
    have q2 := ih2 (by omega)
    cases r <;> simp only [InR] at q2 ⊢ <;> omega
  | lstB _ ih => intro h; have q1 := ih h; simp only [InR] at q1 ⊢; omega
theorem v7E (t : List zB) : ∀ (d a : Nat), a + d = t.length → ∀ k, 1 ≤ k → k ≤ 6 → ∃ r, Der t (.lev k) a r := by
  intro d
  induction d using Nat.strongRecOn with
  | _ d IH =>
    intro a had
    have up : ∀ b, a < b → b ≤ t.length → ∀ k, 1 ≤ k → k ≤ 6 → ∃ r, Der t (.lev k) b r := fun b h1 h2 k hk1 hk2 => IH (t.length - b) (by omega) b (by omega) k hk1 hk2
    have lst : ∀ (n b : Nat) (acc : List zE), a < b → b + n = t.length → ∃ r, Der t (.lst acc) b r ∧ ∀ x c, r = .ok x c → ∃ l, x = lT l := by
      intro n
      induction n using Nat.strongRecOn with
      | _ n ihn =>
        intro b acc h1 h2
        obtain ⟨r, hr⟩ := up b h1 (by omega) 1 (by omega) (by omega)
        have q := hr.inR (by omega)
        cases r with
        | bad c => exact ⟨_, .lstB hr, fun _ _ h => by cases h⟩
        | ok x c =>
          simp only [InR] at q
          cases hs : yT t c [44] with
          | false => exact ⟨_, .lstE hr hs, fun _ _ h => by cases h; exact ⟨_, rfl⟩⟩
          | true =>
            have := zV hs
            obtain ⟨r, h3, h4⟩ := ihn (t.length - (c + 1)) (by omega) (c + 1) (acc ++ [x]) (by omega) (by omega)
            exact ⟨r, .lstG hr hs h3, h4⟩
    have cls : ∀ (b : Nat) (few : Bool), a < b → b ≤ t.length → ∃ r, Der t (.cls few) b r ∧ ∀ x c, r = .ok x c → ∃ l, x = lT l := by
      intro b few h1 h2
      cases hs : yT t b [40] with
      | false => exact ⟨_, .cls0 hs, fun _ _ h => by cases h⟩
      | true =>
        have hb := zV hs
        by_cases hf : few = true ∧ yT t (b + 1) [41] = true
        · obtain ⟨rfl, h⟩ := hf
          exact ⟨_, .clsF hs h, fun _ _ h => by cases h; exact ⟨_, rfl⟩⟩
        · have hf' : few = true → yT t (b + 1) [41] = false := fun h => by
            cases h1 : yT t (b + 1) [41] with
            | false => rfl
            | true => exact absurd ⟨h, h1⟩ hf
          obtain ⟨r, h3, h4⟩ := lst (t.length - (b + 1)) (b + 1) [] (by omega) (by omega)
          cases r with
          | bad c => exact ⟨_, .cls1 hs hf' h3, fun _ _ h => by cases h⟩
          | ok x c =>
            obtain ⟨l, rfl⟩ := h4 x c rfl
            cases hc : yT t c [41] with
            | true => exact ⟨_, .cls hs hf' h3 hc, fun _ _ h => by cases h; exact ⟨_, rfl⟩⟩
            | false => exact ⟨_, .cls2 hs hf' h3 hc, fun _ _ h => by cases h⟩
    have atom : ∃ r, Der t .atom a r := by
      cases hk : z1R t a with
      | no => exact ⟨_, .no hk⟩
      | nm => exact ⟨_, .nm hk⟩
      | one k n s => exact ⟨_, .one hk⟩
      | paren =>
        have ha := z1V (t := t) (a := a) (by rw [hk]; simp)
        obtain ⟨r, hr⟩ := up (a + 1) (by omega) (by omega) 1 (by omega) (by omega)
        cases r with
        | bad c => exact ⟨_, .par1 hk hr⟩
        | ok x c =>
          cases hc : yT t c [41] with
          | true => exact ⟨_, .par hk hr hc⟩
          | false => exact ⟨_, .par2 hk hr hc⟩
      | call k s o few =>
        have ha := z3S hk
        obtain ⟨r, h3, h4⟩ := cls o few ha.1 ha.2
        cases r with
        | bad c => exact ⟨_, .callB hk h3⟩
        | ok x c =>
          obtain ⟨l, rfl⟩ := h4 x c rfl
          exact ⟨_, .call hk h3⟩
      | lis =>
        have ha := z1V (t := t) (a := a) (by rw [hk]; simp)
        obtain ⟨r, h3, h4⟩ := lst (t.length - (a + 1)) (a + 1) [] (by omega) (by omega)
        cases r with
        | bad c => exact ⟨_, .lis1 hk h3⟩
        | ok x c =>
          obtain ⟨l, rfl⟩ := h4 x c rfl
          cases hc : yT t c [93] with
          | true => exact ⟨_, .lis hk h3 hc⟩
          | false => exact ⟨_, .lis2 hk h3 hc⟩
    have pl : ∀ (n b : Nat) (x : zE), a < b → b + n = t.length → ∃ r, Der t (.pl a x) b r := by
      intro n
      induction n using Nat.strongRecOn with
      | _ n ihn =>
        intro b x h1 h2
        cases hs : yT t b [91] with
        | true =>
          have hb := zV hs
          obtain ⟨r, hr⟩ := up (b + 1) (by omega) (by omega) 1 (by omega) (by omega)
          have q := hr.inR (by omega)
          cases r with
          | bad c => exact ⟨_, .plI1 hs hr⟩
          | ok i c =>
            simp only [InR] at q
            cases hc : yT t c [93] with
            | false => exact ⟨_, .plI2 hs hr hc⟩
            | true =>
              have := zV hc
              obtain ⟨r, h3⟩ := ihn (t.length - (c + 1)) (by omega) (c + 1) _ (by omega) (by omega)
              exact ⟨r, .plI hs hr hc h3⟩
        | false =>
          cases hd : yT t b [46] with
          | false => exact ⟨_, .plE hs hd⟩
          | true =>
            by_cases hk : (zQ t (b + 1)).K = 1
            · have := uT (t := t) (a := b + 1) (by rw [hk]; decide)
              obtain ⟨r, h3⟩ := ihn (t.length - (b + 2)) (by omega) (b + 2) _ (by omega) (by omega)
              exact ⟨r, .plF hs hd hk h3⟩
            · exact ⟨_, .plFB hs hd hk⟩
    have post : ∃ r, Der t .post a r := by
      obtain ⟨r, hr⟩ := atom
      have q := hr.inR (by omega)
      cases r with
      | bad c => exact ⟨_, .postB hr⟩
      | ok x c =>
        simp only [InR] at q
        obtain ⟨r, h3⟩ := pl (t.length - c) c x (by omega) (by omega)
        exact ⟨r, .post hr h3⟩
    have un : ∃ r, Der t (.lev 6) a r := by
      by_cases hs : yT t a [45] = true ∨ yT t a [33] = true
      · have ha : a < t.length := hs.elim zV zV
        obtain ⟨r, hr⟩ := up (a + 1) (by omega) (by omega) 6 (by omega) (by omega)
        cases r with
        | bad c => exact ⟨_, .unB hs hr⟩
        | ok x c =>
          rcases hs with hs | hs
          · exact ⟨_, .un (n := 1) (.inl ⟨rfl, hs⟩) hr⟩
          · exact ⟨_, .un (n := 2) (.inr ⟨rfl, hs⟩) hr⟩
      · have h1 : yT t a [45] = false := by cases h : yT t a [45] <;> simp_all
        have h2 : yT t a [33] = false := by cases h : yT t a [33] <;> simp_all
        obtain ⟨r, hr⟩ := post
        exact ⟨r, .unP h1 h2 hr⟩
    have ll : ∀ (n b k m : Nat) (x : zE), a < b → b + n = t.length → 1 ≤ k → k ≤ 5 → ∃ r, Der t (.ll k m a x) b r := by
      intro n
      induction n using Nat.strongRecOn with
      | _ n ihn =>
        intro b k m x h1 h2 hk1 hk2
        by_cases ho : (y0Q (zQ t b)).2 ≠ k ∨ (k = 3 ∧ m = 1)
        · exact ⟨_, .llE hk1 ho⟩
        · have ho1 : (y0Q (zQ t b)).2 = k := by
            by_cases h : (y0Q (zQ t b)).2 = k
            · exact h
            · exact absurd (.inl h) ho
          have ho2 : ¬ (k = 3 ∧ m = 1) := fun h => ho (.inr h)
          have hb := uT (t := t) (a := b) (by rw [z4S (by omega)]; decide)
          obtain ⟨r, hr⟩ := up (b + 1) (by omega) (by omega) (k + 1) (by omega) (by omega)
          have q := hr.inR (by omega)
          cases r with
          | bad c => exact ⟨_, .llB hk1 ho1 ho2 hr⟩
          | ok y c =>
            simp only [InR] at q
            obtain ⟨r, h3⟩ := ihn (t.length - c) (by omega) c k (m + 1) _ (by omega) (by omega) hk1 hk2
            exact ⟨r, .llG hk1 ho1 ho2 hr h3⟩
    have down : ∀ j, j ≤ 5 → ∃ r, Der t (.lev (6 - j)) a r := by
      intro j
      induction j with
      | zero => intro _; exact un
      | succ j ih =>
        intro hj
        obtain ⟨r, hr⟩ := ih (by omega)
        rw [show 6 - j = (6 - (j + 1)) + 1 by omega] at hr
        have q := hr.inR (by omega)
        cases r with
        | bad c => exact ⟨_, .levB (by omega) (by omega) hr⟩
        | ok x c =>
          simp only [InR] at q
          obtain ⟨r, h3⟩ := ll (t.length - c) c (6 - (j + 1)) 0 x (by omega) (by omega) (by omega) (by omega)
          exact ⟨r, .lev (by omega) (by omega) hr h3⟩
    intro k hk1 hk2
    have := down (6 - k) (by omega)
    rwa [show 6 - (6 - k) = k by omega] at this
theorem vL {t : List zB} (hl : t.length ≤ 1048576) {a : Nat} (h : a ≤ t.length + 3) : IntKind.wrap .i64 ((a : Int) + 1) = ((a + 1 : Nat) : Int) := by rw [z0Q (by omega) (by omega)]; omega
theorem y3c {t : List zB} (hl : t.length ≤ 1048576) {a : Nat} (h : a ≤ t.length + 3) : IntKind.wrap .i64 ((a : Int) + 2) = ((a + 2 : Nat) : Int) := by rw [z0Q (by omega) (by omega)]; omega
theorem y6M {t : List zB} {a : Nat} {s : Str} (h : yT t a s = true) : (zQ t a).K = 4 ∧ (zQ t a).S = s := by
  unfold yT at h
  simpa using h
theorem y0M {t : List zB} {a : Nat} {s : Str} (h : vD t a s = true) : (zQ t a).K = 3 ∧ (zQ t a).S = s := by
  unfold vD at h
  simpa using h
theorem y3n {t : List zB} {a : Nat} (h : (zQ t a).K ≠ 4) (s : Str) : yT t a s = false := by unfold yT; rw [decide_eq_false h]; rfl
theorem y6G {t : List zB} {a : Nat} (h : (zQ t a).K ≠ 3) (s : Str) : vD t a s = false := by unfold vD; rw [decide_eq_false h]; rfl
theorem z9M {t : List zB} {a : Nat} {s s' : Str} (h : yT t a s = true) (hs : s ≠ s') : yT t a s' = false := by
  unfold yT; rw [(y6M h).2]; simp [hs]
theorem z7F {t : List zB} {a : Nat} {s s' : Str} (h : vD t a s = true) (hs : s ≠ s') : vD t a s' = false := by
  unfold vD; rw [(y0M h).2]; simp [hs]
theorem v1q (s : Str) : s = [124, 124] ∨ s = [38, 38] ∨ s = [61, 61] ∨ s = [33, 61] ∨ s = [60] ∨ s = [60, 61] ∨ s = [62] ∨ s = [62, 61] ∨ s = [43] ∨ s = [45] ∨ s = [42] ∨ s = [47] ∨ s = [37] ∨
    (s ≠ [124, 124] ∧ s ≠ [38, 38] ∧ s ≠ [61, 61] ∧ s ≠ [33, 61] ∧ s ≠ [60] ∧ s ≠ [60, 61] ∧ s ≠ [62] ∧ s ≠ [62, 61] ∧ s ≠ [43] ∧ s ≠ [45] ∧ s ≠ [42] ∧ s ≠ [47] ∧ s ≠ [37]) := by
  by_cases h : s ∈ ([[124, 124], [38, 38], [61, 61], [33, 61], [60], [60, 61], [62], [62, 61], [43], [45], [42], [47], [37]] : List Str)
  · simp only [List.mem_cons, List.not_mem_nil, or_false] at h
    rcases h with h | h | h | h | h | h | h | h | h | h | h | h | h <;> simp [h]
  · simp only [List.mem_cons, List.not_mem_nil, or_false, not_or] at h
    simp only [h, false_or]
    exact h
theorem v3b {x : zB} (h : 1 ≤ (y0Q x).2) : (y0Q x).1 ≠ 0 := by
  have hk := z4S (x := x) (by omega)
  unfold y0Q at h ⊢
  rcases v1q x.S with e | e | e | e | e | e | e | e | e | e | e | e | e | ⟨e1, e2, e3, e4, e5, e6, e7, e8, e9, e10, e11, e12, e13⟩
  case inr.inr.inr.inr.inr.inr.inr.inr.inr.inr.inr.inr.inr => simp [hk, e1, e2, e3, e4, e5, e6, e7, e8, e9, e10, e11, e12, e13] at h
  all_goals (simp only [hk, e]; decide)
theorem y0g {n : Nat} (h : n ≤ 1048577) : z1i 72 n := by unfold z1i; omega
theorem z1N {t : List zB} {a : Nat} (h : z1R t a = .paren) : yT t a [40] = true := by
  unfold z1R at h
  repeat' split at h
  all_goals first | (cases h; done) | assumption
theorem z7a {t : List zB} {a : Nat} (h : z1R t a = .lis) : yT t a [91] = true := by
  unfold z1R at h
  repeat' split at h
  all_goals first | (cases h; done) | assumption
theorem y7a {t : List zB} {a o : Nat} {k : Int} {s : Str} {few : Bool} (h : z1R t a = .call k s o few) :
    (k = 16 ∧ s = (zQ t a).S ∧ o = a + 1 ∧ few = true ∧ (zQ t a).K = 1 ∧ yT t (a + 1) [40] = true) ∨ (k = 15 ∧ s = (zQ t (a + 1)).S ∧ o = a + 2 ∧ few = false ∧ vD t a [110, 101, 119] = true ∧ (zQ t (a + 1)).K = 1) ∨
    (k = 17 ∧ s = (zQ t (a + 1)).S ∧ o = a + 2 ∧ few = true ∧ yT t a [64] = true ∧ (zQ t (a + 1)).K = 1) := by
  unfold z1R at h
  repeat' split at h
  all_goals first
    | (cases h; done)
    | (injection h with e1 e2 e3 e4; subst e1; subst e2; subst e3; subst e4
       first
       | exact .inl ⟨rfl, rfl, rfl, rfl, by assumption, by assumption⟩
       | exact .inr (.inl ⟨rfl, rfl, rfl, rfl, by assumption, by assumption⟩)
       | exact .inr (.inr ⟨rfl, rfl, rfl, rfl, by assumption, by assumption⟩))
theorem v3p {t : List zB} {a : Nat} (h : z1R t a = .nm) : (vD t a [110, 101, 119] = true ∨ yT t a [64] = true) ∧ (zQ t (a + 1)).K ≠ 1 := by
  unfold z1R at h
  repeat' split at h
  all_goals first
    | (cases h; done)
    | exact ⟨.inl (by assumption), by assumption⟩
    | exact ⟨.inr (by assumption), by assumption⟩
theorem v3h {t : List zB} {a : Nat} (h : z1R t a = .no) : (zQ t a).K ≠ 2 ∧ (zQ t a).K ≠ 1 ∧ vD t a [116, 114, 117, 101] = false ∧ vD t a [102, 97, 108, 115, 101] = false ∧ vD t a [114, 101, 97, 100] = false ∧ vD t a [110, 101, 119] = false ∧
    yT t a [40] = false ∧ yT t a [91] = false ∧ yT t a [64] = false := by
  unfold z1R at h
  repeat' split at h
  all_goals first
    | (cases h; done)
    | (refine ⟨by assumption, by assumption, ?_, ?_, ?_, ?_, ?_, ?_, ?_⟩ <;> (first | (apply Bool.eq_false_iff.2; assumption)))
theorem v6f (t : List zB) (a : Int) {e : Int} (h : e ≠ 0) : yY t a e = some (zT7, t, a, e) := by
  rw [z4r]; unfold z0Z
  rw [if_neg h]
theorem v4y (t : List zB) (a : Int) : uP t a 0 = some (t, a, 6) := rfl
theorem v1r (t : List zB) (hl : t.length ≤ 9223372036854775807) : ∀ (n a : Nat), t.length < a + n → a ≤ t.length →
    ∃ x, yY t a 0 = some (x, t, ((typ n t a).2.1 : Int), (typ n t a).2.2) ∧ ((typ n t a).2.2 = 0 → x = (typ n t a).1) := by
  intro n
  induction n with
  | zero => intro a h1 h2; omega
  | succ n ih =>
    intro a h1 h2
    rw [z4r]; unfold z0Z
    rw [if_pos rfl, z7l, zA]
    try dsimp only
    have c1 : ∀ b : Nat, b < t.length → IntKind.wrap .i64 ((b : Int) + 1) = ((b + 1 : Nat) : Int) := fun b hb => by rw [z0Q (by omega) (by omega)]; omega
    have tail : vD t a [105, 110, 116] = false → vD t a [98, 111, 111, 108] = false → (zQ t a).K ≠ 1 →
        ∃ x, (uQ ([91] : List UInt8) t a 0 >>= fun q30 =>
          if q30 = true then
            gO t (IntKind.wrap .i64 ((a : Int) + 1)) 0 >>= fun q31 =>
            if q31.K = 2 then
              wA ([93] : List UInt8) t (IntKind.wrap .i64 ((IntKind.wrap .i64 ((a : Int) + 1)) + 1)) 0 >>= fun q33 =>
              yY q33.1 q33.2.1 q33.2.2 >>= fun q34 =>
              yK (zE.mk 3 q31.N ([] : List UInt8) [q34.1] 0 0) a q34.2.1 q34.2.2.1 q34.2.2.2 >>= fun q35 =>
              some (q35, q34.2.1, q34.2.2.1, q34.2.2.2)
            else
            uP t (IntKind.wrap .i64 ((a : Int) + 1)) 0 >>= fun q32 =>
            some ((zE.mk 0 0 ([] : List UInt8) [] 0 0), q32.1, q32.2.1, q32.2.2)
          else
          uP t a 0 >>= fun q36 =>
          some ((zE.mk 0 0 ([] : List UInt8) [] 0 0), q36.1, q36.2.1, q36.2.2)) = some (x, t, ((typ (n + 1) t a).2.1 : Int), (typ (n + 1) t a).2.2) ∧ ((typ (n + 1) t a).2.2 = 0 → x = (typ (n + 1) t a).1) := by
      intro w1 w2 w3
      rw [typ, w1, w2, if_neg (by simp), if_neg (by simp), if_neg w3, z2c, zA]
      try dsimp only
      by_cases g4 : yT t a [91] = true
      · have k4 := zV g4
        rw [if_pos g4, if_pos g4, c1 a k4, z7l, zA]
        try dsimp only
        by_cases g5 : (zQ t (a + 1)).K = 2
        · have k5 := uT (t := t) (a := a + 1) (by rw [g5]; decide)
          rw [if_pos g5, if_pos g5, c1 (a + 1) k5, show a + 1 + 1 = a + 2 from rfl, v1z _ _ hl, zA]
          try dsimp only
          by_cases g6 : yT t (a + 2) [93] = true
          · have k6 := zV g6
            rw [if_pos g6, if_pos g6, if_pos g6, show a + 2 + 1 = a + 3 from rfl]
            obtain ⟨x, e1, e2⟩ := ih (a + 3) (by omega) (by omega)
            rw [e1, zA]
            try dsimp only
            by_cases g7 : (typ n t (a + 3)).2.2 = 0
            · have hp := y1c n t (a + 3) (by omega) g7
              rw [if_pos g7, g7, z6l _ t hl a _ (by omega) hp.2, zA, e2 g7]
              exact ⟨_, rfl, fun _ => rfl⟩
            · rw [if_neg g7, z3Q _ _ _ _ g7, zA]
              exact ⟨_, rfl, fun h => absurd h g7⟩
          · rw [if_neg g6, if_neg g6, if_neg g6, v6f _ _ (by decide), zA]
            try dsimp only
            rw [z3Q _ _ _ _ (by decide), zA]
            exact ⟨_, rfl, fun h => by cases h⟩
        · rw [if_neg g5, if_neg g5, v4y, zA]
          exact ⟨_, rfl, fun h => by cases h⟩
      · rw [if_neg g4, if_neg g4, v4y, zA]
        exact ⟨_, rfl, fun h => by cases h⟩
    by_cases k3 : (zQ t a).K = 3
    · have hlt := uT (t := t) (a := a) (by rw [k3]; decide)
      rw [if_pos k3]
      by_cases s1 : (zQ t a).S = [105, 110, 116]
      · have w1 : vD t a [105, 110, 116] = true := by unfold vD; rw [k3, s1]; rfl
        rw [if_pos s1, c1 a hlt, z6l _ t hl a (a + 1) (by omega) (by omega), zA, typ, if_pos w1]
        exact ⟨_, rfl, fun _ => rfl⟩
      have w1 : vD t a [105, 110, 116] = false := by unfold vD; rw [beq_eq_false_iff_ne.2 s1]; simp
      rw [if_neg s1]
      by_cases s2 : (zQ t a).S = [98, 111, 111, 108]
      · have w2 : vD t a [98, 111, 111, 108] = true := by unfold vD; rw [k3, s2]; rfl
        rw [if_pos s2, c1 a hlt, z6l _ t hl a (a + 1) (by omega) (by omega), zA, typ, w1, if_neg (by simp), if_pos w2]
        exact ⟨_, rfl, fun _ => rfl⟩
      have w2 : vD t a [98, 111, 111, 108] = false := by unfold vD; rw [beq_eq_false_iff_ne.2 s2]; simp
      rw [if_neg s2]
      exact tail w1 w2 (by omega)
    · rw [if_neg k3]
      have w : ∀ s, vD t a s = false := fun s => by unfold vD; rw [decide_eq_false k3]; rfl
      by_cases k1 : (zQ t a).K = 1
      · have hlt := uT (t := t) (a := a) (by rw [k1]; decide)
        rw [if_pos k1, c1 a hlt, z6l _ t hl a (a + 1) (by omega) (by omega), zA, typ, w, w, if_neg (by simp), if_neg (by simp), if_pos k1]
        exact ⟨_, rfl, fun _ => rfl⟩
      · rw [if_neg k1]
        exact tail (w _) (w _) k1
def PR (t : List zB) (p : Option (zE × List zB × Int × Int)) : Res → Prop
  | .ok x b => p = some (x, t, (b : Int), 0)
  | .bad b => ∃ y, p = some (y, t, (b : Int), 6)
theorem six : (6 : Int) ≠ 0 := by decide
theorem z8u (x : zB) : z4Q x = some ((y0Q x).1, ((y0Q x).2 : Int)) := by
  unfold z4Q y0Q
  by_cases hk : x.K = 4
  · rcases v1q x.S with e | e | e | e | e | e | e | e | e | e | e | e | e | ⟨e1, e2, e3, e4, e5, e6, e7, e8, e9, e10, e11, e12, e13⟩
    case inr.inr.inr.inr.inr.inr.inr.inr.inr.inr.inr.inr.inr => simp [hk, e1, e2, e3, e4, e5, e6, e7, e8, e9, e10, e11, e12, e13]
    all_goals (simp only [hk, e]; rfl)
  · simp [hk]
theorem v3g (least f m : Int) (o x : zE) (t : List zB) (a : Int) {e : Int} (h : e ≠ 0) : zT least f m o x t a e = some (x, t, a, e) := by
  rw [z0u]; unfold uO
  rw [if_neg h]
theorem v4K (least f : Int) (m1 m2 : Int) (o x : zE) (t : List zB) (a : Nat) (h : ((y0Q (zQ t a)).2 : Int) > m1 ↔ ((y0Q (zQ t a)).2 : Int) > m2) : zT least f m1 o x t a 0 = zT least f m2 o x t a 0 := by
  rw [z0u, z0u least f m2]; unfold uO
  rw [if_pos rfl, if_pos rfl, z7l, zA, zA, z8u, zA, zA]
  dsimp only
  by_cases h1 : ((y0Q (zQ t a)).2 : Int) > m1
  · rw [if_pos h1, if_pos (h.1 h1)]
  · rw [if_neg h1, if_neg (fun h' => h1 (h.2 h'))]
theorem v7o (least : Nat) (hl : 1 ≤ least) (f : Int) (o x : zE) (t : List zB) (a : Nat) : zT least f ((least - 1 : Nat) : Int) o x t a 0 = some (x, t, (a : Int), 0) := by
  rw [z0u]; unfold uO
  rw [if_pos rfl, z7l, zA, z8u, zA]
  dsimp only
  by_cases h1 : ((y0Q (zQ t a)).2 : Int) < least
  · rw [if_pos h1]
  · rw [if_neg h1, if_neg (by omega), if_pos (by omega)]
theorem v7Y (t : List zB) (a : Int) {e : Int} (h : e ≠ 0) : yU t a e = some (zT7, t, a, e) := by
  rw [z3N]; unfold z0E
  rw [if_neg h]
theorem v4p (k : Int) (t : List zB) (a : Int) {e : Int} (h : e ≠ 0) : zZ k t a e = some (zT7, t, a, e) := by
  rw [z4b]; unfold z0p
  rw [v7Y _ _ h, zA, v3g _ _ _ _ _ _ _ h]
theorem v6P (t : List zB) (a : Int) {e : Int} (h : e ≠ 0) : zK t a e = some (zT7, t, a, e) := by
  rw [z6N]; unfold z1I
  rw [v4p _ _ _ h]; rfl
theorem v7b (l : List zE) (t : List zB) (a : Int) {e : Int} (h : e ≠ 0) : zJ l t a e = some (l, t, a, e) := by
  rw [z0V]; unfold vW
  rw [if_neg h]
theorem v2K (t : List zB) (a : Int) {e : Int} (h : e ≠ 0) : zM t a e = some ([zT7], t, a, e) := by
  rw [z2U]; unfold jG
  rw [v6P _ _ h, zA, v7b _ _ _ h]
theorem v2N (few : Bool) (t : List zB) (a : Int) {e : Int} (h : e ≠ 0) : zY few t a e = some ([zT7], t, a, e) := by
  rw [z3e]; unfold z0b
  rw [z8D _ _ _ h, zA, if_neg h, v2K _ _ h, zA, z8D _ _ _ h]; rfl
theorem v2R (f : Int) (o x : zE) (t : List zB) (a : Int) {e : Int} (h : e ≠ 0) : yA f o x t a e = some (x, t, a, e) := by
  rw [gX]; unfold wS
  rw [if_neg h]
theorem y8C (t : List zB) (hl : t.length ≤ 1048576) (a : Nat) (h : (zQ t a).K = 1) : z0J t a 0 = some ((zQ t a).S, t, ((a + 1 : Nat) : Int), 0) := by
  have ha := uT (t := t) (a := a) (by rw [h]; decide)
  unfold z0J
  rw [if_pos rfl, z7l, zA, if_pos h, vL hl (by omega)]
theorem v1M (t : List zB) (a : Nat) (h : (zQ t a).K ≠ 1) : z0J t a 0 = some ([], t, (a : Int), 6) := by
  unfold z0J
  rw [if_pos rfl, z7l, zA, if_neg h]; rfl
theorem z6F {t : List zB} {a : Nat} {r : Res} (h : PR t (zZ (1 : Nat) t a 0) r) : PR t (zK t a 0) r := by
  have e : zK t a 0 = (zZ (1 : Nat) t a 0 >>= fun q1 => some (q1.1, q1.2.1, q1.2.2.1, q1.2.2.2)) := by
    rw [z6N]; rfl
  rw [e]
  cases r with
  | ok x b => rw [show zZ (1 : Nat) t a 0 = _ from h]; rfl
  | bad b => obtain ⟨y, h⟩ := h; rw [h]; exact ⟨y, rfl⟩
def mst (k m : Nat) : Int := if k = 3 ∧ 1 ≤ m then 2 else k
def PM (t : List zB) : Cat → Nat → Res → Prop
  | .lev k, a, r => (k = 6 → PR t (yU t a 0) r) ∧ ∀ least, 1 ≤ least → least ≤ k →
      (∀ x b, r = .ok x b → zZ (least : Nat) t a 0 = zT (least : Nat) a ((k - 1 : Nat) : Int) zT7 x t b 0) ∧ (∀ b, r = .bad b → ∃ y, zZ (least : Nat) t a 0 = some (y, t, (b : Int), 6))
  | .ll k m f x, a, r => f < a → 1 ≤ k → k ≤ 5 → (k = 3 → m ≤ 1) → ∀ least, 1 ≤ least → least ≤ k → ∀ o,
      (∀ y b, r = .ok y b → zT (least : Nat) f (mst k m) o x t a 0 = zT (least : Nat) f ((k - 1 : Nat) : Int) o y t b 0) ∧ (∀ b, r = .bad b → ∃ y, zT (least : Nat) f (mst k m) o x t a 0 = some (y, t, (b : Int), 6))
  | .post, a, r => PR t (vI t a 0) r
  | .pl f x, a, r => f < a → ∀ o, PR t (yA f o x t a 0) r
  | .atom, a, r => PR t (yC t a 0) r
  | .cls few, a, r => (∀ l b, r = .ok l b → zY few t a 0 = some (l.L, t, (b : Int), 0)) ∧ (∀ b, r = .bad b → ∃ l, zY few t a 0 = some (l, t, (b : Int), 6))
  | .lst acc, a, r => acc.length < a →
      (∀ l b, r = .ok l b → (zK t a 0 >>= fun q => zJ (acc ++ [q.1]) q.2.1 q.2.2.1 q.2.2.2) = some (l.L, t, (b : Int), 0)) ∧
      (∀ b, r = .bad b → ∃ l, (zK t a 0 >>= fun q => zJ (acc ++ [q.1]) q.2.1 q.2.2.1 q.2.2.2) = some (l, t, (b : Int), 6))
theorem PM.level {t : List zB} {k a : Nat} {r : Res} (h : PM t (.lev k) a r) (hk : 1 ≤ k) : PR t (zZ (k : Nat) t a 0) r := by
  obtain ⟨h1, h2⟩ := h.2 k hk (Nat.le_refl _)
  cases r with
  | ok x b =>
    show _ = _
    rw [h1 x b rfl, v7o k hk]
  | bad b => exact h2 b rfl
theorem y3X (t : List zB) (a : Int) (e : Int) : zM t a e = (zK t a e >>= fun q => zJ ([] ++ [q.1]) q.2.1 q.2.2.1 q.2.2.2) := by
  rw [z2U]; rfl
theorem y0m (s : Str) (t : List zB) (hl : t.length ≤ 1048576) (a : Nat) (h : yT t a s = true) : wA s t a 0 = some (t, ((a + 1 : Nat) : Int), 0) := by
  rw [v1z s t (by omega) a, if_pos h, if_pos h]
theorem y6S (s : Str) (t : List zB) (hl : t.length ≤ 1048576) (a : Nat) (h : yT t a s = false) : wA s t a 0 = some (t, (a : Int), 6) := by
  rw [v1z s t (by omega) a, if_neg (by rw [h]; simp), if_neg (by rw [h]; simp)]
theorem v4H (t : List zB) (hl : t.length ≤ 1048576) (a : Nat) {k n : Int} {s : Str} (h : z1R t a = .one k n s) : yC t a 0 = some (jM t a (a + 1) ⟨k, n, s, [], 0, 0⟩, t, ((a + 1 : Nat) : Int), 0) := by
  have ha := z1V (t := t) (a := a) (by rw [h]; simp)
  have mk := fun x => z6l x t (by omega) a (a + 1) (by omega) (by omega)
  rw [z2e]; unfold gF
  rw [if_pos rfl, z7l, zA, vL hl (by omega)]
  unfold z1R at h
  by_cases h1 : (zQ t a).K = 2
  · rw [if_pos h1] at h ⊢
    injection h with e1 e2 e3; subst e1; subst e2; subst e3
    rw [mk]; rfl
  rw [if_neg h1] at h ⊢
  by_cases h2 : (zQ t a).K = 1
  · rw [if_pos h2] at h ⊢
    rw [z2c, zA]
    by_cases h3 : yT t (a + 1) [40] = true
    · rw [if_pos h3] at h; cases h
    · rw [if_neg h3] at h ⊢
      injection h with e1 e2 e3; subst e1; subst e2; subst e3
      rw [mk]; rfl
  rw [if_neg h2] at h ⊢
  have wd : ∀ {s' : Str}, vD t a s' = true → (zQ t a).K = 3 ∧ (zQ t a).S = s' := fun h => y0M h
  have word : ∀ {s' : Str} {x : zE}, vD t a s' = true → wN s' (a : Int) t (a : Int) 0 = some (x, t, ((a + 1 : Nat) : Int), 0) →
      (if (zQ t a).K = 3 then wN (zQ t a).S a t a 0 >>= fun q7 => some (q7.1, q7.2.1, q7.2.2.1, q7.2.2.2)
        else if (zQ t a).K = 4 then vN (zQ t a).S a t a 0 >>= fun q8 => some (q8.1, q8.2.1, q8.2.2.1, q8.2.2.2)
        else uP t a 0 >>= fun q9 => some (zE.mk 0 0 [] [] 0 0, q9.1, q9.2.1, q9.2.2)) = some (x, t, ((a + 1 : Nat) : Int), 0) := fun hw he => by
    rw [if_pos (wd hw).1, (wd hw).2, he]; rfl
  by_cases h3 : vD t a [116, 114, 117, 101] = true
  · rw [if_pos h3] at h
    injection h with e1 e2 e3; subst e1; subst e2; subst e3
    refine word h3 ?_
    rw [z1v]; unfold jO
    rw [if_pos rfl, vL hl (by omega), mk]; rfl
  rw [if_neg h3] at h
  by_cases h4 : vD t a [102, 97, 108, 115, 101] = true
  · rw [if_pos h4] at h
    injection h with e1 e2 e3; subst e1; subst e2; subst e3
    refine word h4 ?_
    rw [z1v]; unfold jO
    rw [if_neg (by decide), if_pos rfl, vL hl (by omega), mk]; rfl
  rw [if_neg h4] at h
  by_cases h5 : vD t a [114, 101, 97, 100] = true
  · rw [if_pos h5] at h
    injection h with e1 e2 e3; subst e1; subst e2; subst e3
    refine word h5 ?_
    rw [z1v]; unfold jO
    rw [if_neg (by decide), if_neg (by decide), if_pos rfl, vL hl (by omega), mk]; rfl
  rw [if_neg h5] at h
  repeat' split at h
  all_goals cases h
theorem z7c (t : List zB) (a : Nat) (s : Str) (h : yT t a s = true) : yC t a 0 = (vN s a t a 0 >>= fun q8 => some (q8.1, q8.2.1, q8.2.2.1, q8.2.2.2)) := by
  obtain ⟨hk, hs⟩ := y6M h
  rw [z2e]; unfold gF
  rw [if_pos rfl, z7l, zA, if_neg (by rw [hk]; decide), if_neg (by rw [hk]; decide), if_neg (by rw [hk]; decide), if_pos hk, hs]
theorem v2A (t : List zB) (a : Nat) (s : Str) (h : vD t a s = true) : yC t a 0 = (wN s a t a 0 >>= fun q8 => some (q8.1, q8.2.1, q8.2.2.1, q8.2.2.2)) := by
  obtain ⟨hk, hs⟩ := y0M h
  rw [z2e]; unfold gF
  rw [if_pos rfl, z7l, zA, if_neg (by rw [hk]; decide), if_neg (by rw [hk]; decide), if_pos hk, hs]
theorem y7S (t : List zB) (hl : t.length ≤ 1048576) (a : Nat) {k : Int} {s : Str} {o : Nat} {few : Bool} (h : z1R t a = .call k s o few) :
    yC t a 0 = (zY few t o 0 >>= fun q => yK ⟨k, 0, s, q.1, 0, 0⟩ a q.2.1 q.2.2.1 q.2.2.2 >>= fun z => some (z, q.2.1, q.2.2.1, q.2.2.2)) := by
  rcases y7a h with ⟨rfl, rfl, rfl, rfl, h1, h2⟩ | ⟨rfl, rfl, rfl, rfl, h1, h2⟩ | ⟨rfl, rfl, rfl, rfl, h1, h2⟩
  · have ha := uT (t := t) (a := a) (by rw [h1]; decide)
    rw [z2e]; unfold gF
    rw [if_pos rfl, z7l, zA, if_neg (by rw [h1]; decide), if_pos h1, vL hl (by omega), z2c, zA, if_pos h2]
  · have ha := uV h1
    rw [v2A t a _ h1, z1v]; unfold jO
    rw [if_neg (by decide), if_neg (by decide), if_neg (by decide), if_pos rfl, vL hl (by omega), y8C t hl (a + 1) h2, zA]
    show ((zY false t ((a + 1 + 1 : Nat) : Int) 0 >>= _) >>= _) = _
    cases zY false t ((a + 1 + 1 : Nat) : Int) 0 with
    | none => rfl
    | some q =>
      rw [zA]
      dsimp only
      cases yK ⟨15, 0, (zQ t (a + 1)).S, q.1, 0, 0⟩ a q.2.1 q.2.2.1 q.2.2.2 <;> rfl
  · have ha := zV h1
    rw [z7c t a _ h1, jC]; unfold vY
    rw [if_neg (by decide), if_neg (by decide), if_pos rfl, vL hl (by omega), y8C t hl (a + 1) h2, zA]
    show ((zY true t ((a + 1 + 1 : Nat) : Int) 0 >>= _) >>= _) = _
    cases zY true t ((a + 1 + 1 : Nat) : Int) 0 with
    | none => rfl
    | some q =>
      rw [zA]
      dsimp only
      cases yK ⟨17, 0, (zQ t (a + 1)).S, q.1, 0, 0⟩ a q.2.1 q.2.2.1 q.2.2.2 <;> rfl
theorem y7d (few : Bool) (t : List zB) (hl : t.length ≤ 1048576) (a : Nat) (h1 : yT t a [40] = true) (h2 : few = true → yT t (a + 1) [41] = false) :
    zY few t a 0 = (zM t ((a + 1 : Nat) : Int) 0 >>= fun q => wA [41] q.2.1 q.2.2.1 q.2.2.2 >>= fun z => some (q.1, z.1, z.2.1, z.2.2)) := by
  rw [z3e]; unfold z0b
  rw [y0m _ t hl a h1, zA]
  dsimp only
  rw [if_pos rfl]
  cases few with
  | false => rw [if_neg (by simp)]
  | true => rw [if_pos rfl, z2c, zA, h2 rfl, if_neg (by simp)]
theorem y6v {t : List zB} (hl : t.length ≤ 1048576) {c : Cat} {a : Nat} {r : Res} (h : Der t c a r) : a ≤ t.length → PM t c a r := by
  have unLev : ∀ {a : Nat} {r : Res}, PR t (yU t a 0) r → PM t (.lev 6) a r := by
    intro a r h
    refine ⟨fun _ => h, fun least h1 h2 => ⟨fun x b e => ?_, fun b e => ?_⟩⟩
    · subst e
      rw [z4b]; unfold z0p
      rw [show yU t a 0 = _ from h, zA]
      refine v4K _ _ _ _ _ _ _ _ ?_
      have h5 := v7g (zQ t b)
      show ((y0Q (zQ t b)).2 : Int) > 6 ↔ ((y0Q (zQ t b)).2 : Int) > ((5 : Nat) : Int)
      omega
    · subst e
      obtain ⟨y, h⟩ := h
      rw [z4b]; unfold z0p
      rw [h, zA]
      exact ⟨_, v3g _ _ _ _ _ _ _ six⟩
  induction h with
  | @un a b n x h1 hd ih =>
    intro ha
    have h0 : a < t.length := h1.elim (fun h => zV h.2) (fun h => zV h.2)
    have q := hd.inR (by omega)
    simp only [InR] at q
    have e : yU t ((a + 1 : Nat) : Int) 0 = some (x, t, (b : Int), 0) := (ih (by omega)).1 rfl
    refine unLev ?_
    show _ = _
    rw [z3N]; unfold z0E
    rw [if_pos rfl, z2c, zA, vL hl (by omega)]
    rcases h1 with ⟨rfl, h1⟩ | ⟨rfl, h1⟩
    · rw [if_pos h1, if_neg (by decide), e, zA, z6l _ t (by omega) a b (by omega) q.2]; rfl
    · rw [if_neg (by rw [z9M h1 (by decide)]; simp), z2c, zA, if_pos h1, if_neg (by decide), e, zA, z6l _ t (by omega) a b (by omega) q.2]; rfl
  | @unB a b h1 hd ih =>
    intro ha
    have h0 : a < t.length := h1.elim (fun h => zV h) (fun h => zV h)
    obtain ⟨y, e⟩ : ∃ y, yU t ((a + 1 : Nat) : Int) 0 = some (y, t, (b : Int), 6) := (ih (by omega)).1 rfl
    refine unLev ?_
    show ∃ y, _ = _
    rw [z3N]; unfold z0E
    rw [if_pos rfl, z2c, zA, vL hl (by omega)]
    rcases h1 with h1 | h1
    · rw [if_pos h1, if_neg (by decide), e, zA, z3Q _ _ _ _ six]; exact ⟨_, rfl⟩
    · rw [if_neg (by rw [z9M h1 (by decide)]; simp), z2c, zA, if_pos h1, if_neg (by decide), e, zA, z3Q _ _ _ _ six]; exact ⟨_, rfl⟩
  | @unP a r h1 h2 hd ih =>
    intro ha
    have e : PR t (vI t a 0) r := ih ha
    refine unLev ?_
    rw [z3N]; unfold z0E
    rw [if_pos rfl, z2c, zA, h1, if_neg (by simp), z2c, zA, h2, if_neg (by simp), if_pos rfl]
    cases r with
    | ok x b => rw [show vI t a 0 = _ from e]; rfl
    | bad b => obtain ⟨y, e⟩ := e; rw [e]; exact ⟨y, rfl⟩
  | @lev k a b x r h1 h2 hd hd2 ih1 ih2 =>
    intro ha
    have q := hd.inR ha
    simp only [InR] at q
    refine ⟨fun h => by omega, fun least g1 g2 => ?_⟩
    obtain ⟨e1, -⟩ := (ih1 ha).2 least g1 (by omega)
    have e1 := e1 x b rfl
    obtain ⟨e2, e3⟩ := ih2 q.2 q.1 h1 h2 (fun _ => by omega) least g1 g2 zT7
    have hm : ((k + 1 - 1 : Nat) : Int) = mst k 0 := by unfold mst; rw [if_neg (by omega)]; rfl
    rw [hm] at e1
    refine ⟨fun y c e => by rw [e1, e2 y c e], fun c e => by rw [e1]; exact e3 c e⟩
  | @levB k a b h1 h2 hd ih1 =>
    intro ha
    refine ⟨fun h => by omega, fun least g1 g2 => ?_⟩
    obtain ⟨-, e1⟩ := (ih1 ha).2 least g1 (by omega)
    exact ⟨(fun _ _ e => by cases e), fun c e => by cases e; exact e1 b rfl⟩
  | @llE k m f a x h0 h1 =>
    intro ha hf _ hk hm least g1 g2 o
    refine ⟨fun y b e => ?_, fun _ e => by cases e⟩
    cases e
    refine v4K _ _ _ _ _ _ _ _ ?_
    unfold mst
    split <;> omega
  | @llG k m f a b x y r h1 h2 h3 hd hd2 ih1 ih2 =>
    intro ha hf _ hk hm least g1 g2 o
    have h0 := uT (t := t) (a := a) (by rw [z4S (by omega)]; decide)
    have q := hd.inR (by omega)
    simp only [InR] at q
    have e : zZ ((k + 1 : Nat) : Int) t ((a + 1 : Nat) : Int) 0 = some (y, t, (b : Int), 0) := (ih1 (by omega)).level (by omega)
    obtain ⟨e2, e3⟩ := ih2 q.2 (by omega) h1 hk (fun h => by omega) least g1 g2 o
    have hs : zT (least : Nat) f (mst k m) o x t a 0 = zT (least : Nat) f (mst k (m + 1)) o (jM t f b ⟨10, (y0Q (zQ t a)).1, [], [x, y], 0, 0⟩) t b 0 := by
      have hm0 : mst k m = k := by unfold mst; rw [if_neg (by omega)]
      rw [hm0, z0u]; unfold uO
      rw [if_pos rfl, z7l, zA, z8u, zA]
      dsimp only
      rw [if_neg (by omega), if_neg (by omega), if_neg (by omega), h2]
      have c2 : IntKind.wrap .i64 ((k : Int) + 1) = ((k + 1 : Nat) : Int) := by rw [z0Q (by omega) (by omega)]; omega
      rw [c2, vL hl (by omega), e, zA, z6l _ t (by omega) f b (by omega) q.2, zA]
      dsimp only
      by_cases hk3 : (k : Int) = 3
      · rw [if_pos hk3]; unfold mst; rw [if_pos (by omega)]
      · rw [if_neg hk3]; unfold mst; rw [if_neg (by omega)]
    rw [hs]
    exact ⟨e2, e3⟩
  | @llB k m f a b x h1 h2 h3 hd ih1 =>
    intro ha hf _ hk hm least g1 g2 o
    have h0 := uT (t := t) (a := a) (by rw [z4S (by omega)]; decide)
    obtain ⟨y, e⟩ : ∃ y, zZ ((k + 1 : Nat) : Int) t ((a + 1 : Nat) : Int) 0 = some (y, t, (b : Int), 6) := (ih1 (by omega)).level (by omega)
    refine ⟨(fun _ _ e => by cases e), fun c e' => ?_⟩
    cases e'
    have hm0 : mst k m = k := by unfold mst; rw [if_neg (by omega)]
    rw [hm0, z0u]; unfold uO
    rw [if_pos rfl, z7l, zA, z8u, zA]
    dsimp only
    rw [if_neg (by omega), if_neg (by omega), if_neg (by omega), h2]
    have c2 : IntKind.wrap .i64 ((k : Int) + 1) = ((k + 1 : Nat) : Int) := by rw [z0Q (by omega) (by omega)]; omega
    rw [c2, vL hl (by omega), e, zA, z3Q _ _ _ _ six, zA]
    dsimp only
    by_cases hk3 : (k : Int) = 3
    · rw [if_pos hk3]; exact ⟨_, v3g _ _ _ _ _ _ _ six⟩
    · rw [if_neg hk3]; exact ⟨_, v3g _ _ _ _ _ _ _ six⟩
  | @post a b x r hd hd2 ih1 ih2 =>
    intro ha
    have q := hd.inR ha
    simp only [InR] at q
    have e : yC t a 0 = some (x, t, (b : Int), 0) := ih1 ha
    show PR t (vI t a 0) r
    rw [z6O]; unfold z1a
    rw [e, zA]
    exact ih2 q.2 q.1 _
  | @postB a b hd ih1 =>
    intro ha
    obtain ⟨y, e⟩ : ∃ y, yC t a 0 = some (y, t, (b : Int), 6) := ih1 ha
    show PR t (vI t a 0) (.bad b)
    rw [z6O]; unfold z1a
    rw [e, zA]
    exact ⟨_, v2R _ _ _ _ _ six⟩
  | @plE f a x h1 h2 =>
    intro ha hf o
    show _ = _
    rw [gX]; unfold wS
    rw [if_pos rfl, z2c, zA, h1, if_neg (by simp), z2c, zA, h2, if_neg (by simp)]
  | @plI f a b x i r h1 hd h2 hd2 ih1 ih2 =>
    intro ha hf o
    have h0 := zV h1
    have hb := zV h2
    have q := hd.inR (by omega)
    simp only [InR] at q
    have e : zK t ((a + 1 : Nat) : Int) 0 = some (i, t, (b : Int), 0) := z6F ((ih1 (by omega)).level (by omega))
    have e2 : PR t (yA f o _ t ((b + 1 : Nat) : Int) 0) r := ih2 (by omega) (by omega) o
    rw [gX]; unfold wS
    rw [if_pos rfl, z2c, zA, h1, if_pos rfl, vL hl (by omega), e, zA]
    dsimp only
    rw [y0m _ t hl b h2, zA]
    dsimp only
    rw [z6l _ t (by omega) f (b + 1) (by omega) (by omega), zA]
    exact e2
  | @plI1 f a b x h1 hd ih1 =>
    intro ha hf o
    have h0 := zV h1
    obtain ⟨y, e⟩ : ∃ y, zK t ((a + 1 : Nat) : Int) 0 = some (y, t, (b : Int), 6) := z6F ((ih1 (by omega)).level (by omega))
    rw [gX]; unfold wS
    rw [if_pos rfl, z2c, zA, h1, if_pos rfl, vL hl (by omega), e, zA]
    dsimp only
    rw [z8D _ _ _ six, zA]
    dsimp only
    rw [z3Q _ _ _ _ six, zA]
    exact ⟨_, v2R _ _ _ _ _ six⟩
  | @plI2 f a b x i h1 hd h2 ih1 =>
    intro ha hf o
    have h0 := zV h1
    have e : zK t ((a + 1 : Nat) : Int) 0 = some (i, t, (b : Int), 0) := z6F ((ih1 (by omega)).level (by omega))
    rw [gX]; unfold wS
    rw [if_pos rfl, z2c, zA, h1, if_pos rfl, vL hl (by omega), e, zA]
    dsimp only
    rw [y6S _ t hl b h2, zA]
    dsimp only
    rw [z3Q _ _ _ _ six, zA]
    exact ⟨_, v2R _ _ _ _ _ six⟩
  | @plF f a x r h0 h1 h2 hd ih =>
    intro ha hf o
    have h3 := uT (t := t) (a := a + 1) (by rw [h2]; decide)
    have e2 : PR t (yA f o _ t ((a + 2 : Nat) : Int) 0) r := ih (by omega) (by omega) o
    rw [gX]; unfold wS
    rw [if_pos rfl, z2c, zA, h0, if_neg (by simp), z2c, zA, h1, if_pos rfl, vL hl (by omega), y8C t hl (a + 1) h2, zA]
    dsimp only
    rw [z6l _ t (by omega) f (a + 1 + 1) (by omega) (by omega), zA]
    exact e2
  | @plFB f a x h0 h1 h2 =>
    intro ha hf o
    have h3 := zV h1
    rw [gX]; unfold wS
    rw [if_pos rfl, z2c, zA, h0, if_neg (by simp), z2c, zA, h1, if_pos rfl, vL hl (by omega), v1M t (a + 1) h2, zA]
    dsimp only
    rw [z3Q _ _ _ _ six, zA]
    exact ⟨_, v2R _ _ _ _ _ six⟩
  | one h1 => intro ha; exact v4H t hl _ h1
  | @par a b x h1 hd h2 ih =>
    intro ha
    have h0 := zV (z1N h1)
    have hb := zV h2
    have e : zK t ((a + 1 : Nat) : Int) 0 = some (x, t, (b : Int), 0) := z6F ((ih (by omega)).level (by omega))
    show yC t a 0 = _
    rw [z7c t a _ (z1N h1), jC]; unfold vY
    rw [if_pos rfl, vL hl (by omega), e, zA]
    dsimp only
    rw [y0m _ t hl b h2]; rfl
  | @par1 a b h1 hd ih =>
    intro ha
    have h0 := zV (z1N h1)
    obtain ⟨y, e⟩ : ∃ y, zK t ((a + 1 : Nat) : Int) 0 = some (y, t, (b : Int), 6) := z6F ((ih (by omega)).level (by omega))
    show ∃ y, yC t a 0 = _
    rw [z7c t a _ (z1N h1), jC]; unfold vY
    rw [if_pos rfl, vL hl (by omega), e, zA]
    dsimp only
    rw [z8D _ _ _ six]; exact ⟨_, rfl⟩
  | @par2 a b x h1 hd h2 ih =>
    intro ha
    have h0 := zV (z1N h1)
    have e : zK t ((a + 1 : Nat) : Int) 0 = some (x, t, (b : Int), 0) := z6F ((ih (by omega)).level (by omega))
    show ∃ y, yC t a 0 = _
    rw [z7c t a _ (z1N h1), jC]; unfold vY
    rw [if_pos rfl, vL hl (by omega), e, zA]
    dsimp only
    rw [y6S _ t hl b h2]; exact ⟨_, rfl⟩
  | @call a o b k s few l h1 hd ih =>
    intro ha
    have h0 := z3S h1
    have q := hd.inR h0.2
    simp only [InR] at q
    have e := (ih h0.2).1 _ _ rfl
    show yC t a 0 = _
    rw [y7S t hl a h1, e, zA]
    dsimp only
    rw [z6l _ t (by omega) a b (by omega) q.2]; rfl
  | @callB a o b k s few h1 hd ih =>
    intro ha
    have h0 := z3S h1
    obtain ⟨l, e⟩ := (ih h0.2).2 _ rfl
    show ∃ y, yC t a 0 = _
    rw [y7S t hl a h1, e, zA]
    dsimp only
    rw [z3Q _ _ _ _ six]; exact ⟨_, rfl⟩
  | @lis a b l h1 hd h2 ih =>
    intro ha
    have h0 := zV (z7a h1)
    have hb := zV h2
    have q := hd.inR (by omega)
    simp only [InR] at q
    have e := (ih (by omega) (by simp)).1 _ _ rfl
    show yC t a 0 = _
    rw [z7c t a _ (z7a h1), jC]; unfold vY
    rw [if_neg (by decide), if_pos rfl, vL hl (by omega), y3X, e, zA]
    dsimp only
    rw [y0m _ t hl b h2, zA]
    dsimp only
    rw [z6l _ t (by omega) a (b + 1) (by omega) (by omega)]; rfl
  | @lis1 a b h1 hd ih =>
    intro ha
    have h0 := zV (z7a h1)
    obtain ⟨l, e⟩ := (ih (by omega) (by simp)).2 _ rfl
    show ∃ y, yC t a 0 = _
    rw [z7c t a _ (z7a h1), jC]; unfold vY
    rw [if_neg (by decide), if_pos rfl, vL hl (by omega), y3X, e, zA]
    dsimp only
    rw [z8D _ _ _ six, zA]
    dsimp only
    rw [z3Q _ _ _ _ six]; exact ⟨_, rfl⟩
  | @lis2 a b l h1 hd h2 ih =>
    intro ha
    have h0 := zV (z7a h1)
    have e := (ih (by omega) (by simp)).1 _ _ rfl
    show ∃ y, yC t a 0 = _
    rw [z7c t a _ (z7a h1), jC]; unfold vY
    rw [if_neg (by decide), if_pos rfl, vL hl (by omega), y3X, e, zA]
    dsimp only
    rw [y6S _ t hl b h2, zA]
    dsimp only
    rw [z3Q _ _ _ _ six]; exact ⟨_, rfl⟩
  | @nm a h1 =>
    intro ha
    obtain ⟨h2, h3⟩ := v3p h1
    show ∃ y, yC t a 0 = _
    rcases h2 with h2 | h2
    · have h0 := uV h2
      rw [v2A t a _ h2, z1v]; unfold jO
      rw [if_neg (by decide), if_neg (by decide), if_neg (by decide), if_pos rfl, vL hl (by omega), v1M t (a + 1) h3, zA]
      dsimp only
      rw [v2N _ _ _ six, zA]
      dsimp only
      rw [z3Q _ _ _ _ six]; exact ⟨_, rfl⟩
    · have h0 := zV h2
      rw [z7c t a _ h2, jC]; unfold vY
      rw [if_neg (by decide), if_neg (by decide), if_pos rfl, vL hl (by omega), v1M t (a + 1) h3, zA]
      dsimp only
      rw [v2N _ _ _ six, zA]
      dsimp only
      rw [z3Q _ _ _ _ six]; exact ⟨_, rfl⟩
  | @no a h1 =>
    intro ha
    obtain ⟨k2, k1, w1, w2, w3, w4, s1, s2, s3⟩ := v3h h1
    show ∃ y, yC t a 0 = _
    rw [z2e]; unfold gF
    rw [if_pos rfl, z7l, zA, if_neg k2, if_neg k1]
    have back : a < t.length → IntKind.wrap .i64 ((IntKind.wrap .i64 ((a : Int) + 1)) - 1) = (a : Int) := fun h => by
      rw [vL hl (by omega), z0Q (by omega) (by omega)]; omega
    by_cases k3 : (zQ t a).K = 3
    · have h0 := uT (t := t) (a := a) (by rw [k3]; decide)
      have ne : ∀ s, vD t a s = false → (zQ t a).S ≠ s := fun s h e => by
        unfold vD at h; rw [k3, e] at h; simp at h
      rw [if_pos k3, z1v]; unfold jO
      rw [if_neg (ne _ w1), if_neg (ne _ w2), if_neg (ne _ w3), if_neg (ne _ w4), back h0]
      exact ⟨_, rfl⟩
    · rw [if_neg k3]
      by_cases k4 : (zQ t a).K = 4
      · have h0 := uT (t := t) (a := a) (by rw [k4]; decide)
        have ne : ∀ s, yT t a s = false → (zQ t a).S ≠ s := fun s h e => by
          unfold yT at h; rw [k4, e] at h; simp at h
        rw [if_pos k4, jC]; unfold vY
        rw [if_neg (ne _ s1), if_neg (ne _ s2), if_neg (ne _ s3), back h0]
        exact ⟨_, rfl⟩
      · rw [if_neg k4]
        exact ⟨_, rfl⟩
  | @cls0 a few h1 =>
    intro ha
    refine ⟨(fun _ _ h => by cases h), fun b h => ?_⟩
    cases h
    rw [z3e]; unfold z0b
    rw [y6S _ t hl a h1, zA]
    dsimp only
    rw [if_neg (by decide), v2K _ _ six, zA]
    dsimp only
    rw [z8D _ _ _ six]
    exact ⟨_, rfl⟩
  | @clsF a h1 h2 =>
    intro ha
    have h0 := zV h2
    refine ⟨fun _ _ h => ?_, fun b h => by cases h⟩
    cases h
    rw [z3e]; unfold z0b
    rw [y0m _ t hl a h1, zA]
    dsimp only
    rw [if_pos rfl, if_pos rfl, z2c, zA, h2, if_pos rfl, vL hl (by omega)]
  | @cls a b few l h1 h2 hd h3 ih =>
    intro ha
    have h0 := zV h1
    have hb := zV h3
    have e := (ih (by omega) (by simp)).1 _ _ rfl
    refine ⟨fun _ _ h => ?_, fun b h => by cases h⟩
    cases h
    rw [y7d few t hl a h1 h2, y3X, e, zA]
    dsimp only
    rw [y0m _ t hl b h3]; rfl
  | @cls1 a b few h1 h2 hd ih =>
    intro ha
    have h0 := zV h1
    obtain ⟨l, e⟩ := (ih (by omega) (by simp)).2 _ rfl
    refine ⟨(fun _ _ h => by cases h), fun _ h => ?_⟩
    cases h
    rw [y7d few t hl a h1 h2, y3X, e, zA]
    dsimp only
    rw [z8D _ _ _ six]
    exact ⟨_, rfl⟩
  | @cls2 a b few l h1 h2 hd h3 ih =>
    intro ha
    have h0 := zV h1
    have e := (ih (by omega) (by simp)).1 _ _ rfl
    refine ⟨(fun _ _ h => by cases h), fun _ h => ?_⟩
    cases h
    rw [y7d few t hl a h1 h2, y3X, e, zA]
    dsimp only
    rw [y6S _ t hl b h3]
    exact ⟨_, rfl⟩
  | @lstE a b acc x hd h1 ih =>
    intro ha hacc
    have e : zK t a 0 = some (x, t, (b : Int), 0) := z6F ((ih ha).level (by omega))
    refine ⟨fun _ _ h => ?_, fun _ h => by cases h⟩
    cases h
    rw [e, zA]
    dsimp only
    rw [z0V]; unfold vW
    rw [if_pos rfl, z2c, zA, h1]; rfl
  | @lstG a b acc x r hd h1 hd2 ih1 ih2 =>
    intro ha hacc
    have hb := zV h1
    have q := hd.inR ha
    simp only [InR] at q
    have e : zK t a 0 = some (x, t, (b : Int), 0) := z6F ((ih1 ha).level (by omega))
    have e2 := ih2 (by omega) (by simp; omega)
    have hs : (zK t a 0 >>= fun q => zJ (acc ++ [q.1]) q.2.1 q.2.2.1 q.2.2.2) = (zK t ((b + 1 : Nat) : Int) 0 >>= fun q => zJ ((acc ++ [x]) ++ [q.1]) q.2.1 q.2.2.1 q.2.2.2) := by
      rw [e, zA]
      dsimp only
      rw [z0V]; unfold vW
      rw [if_pos rfl, z2c, zA, h1, if_pos rfl, vL hl (by omega)]
      congr 1
      funext q
      rw [if_pos (y0g (by simp; omega))]
    rw [hs]
    exact e2
  | @lstB a b acc hd ih =>
    intro ha hacc
    obtain ⟨y, e⟩ : ∃ y, zK t a 0 = some (y, t, (b : Int), 6) := z6F ((ih ha).level (by omega))
    refine ⟨(fun _ _ h => by cases h), fun _ h => ?_⟩
    cases h
    rw [e, zA]
    exact ⟨_, v7b _ _ _ six⟩
theorem y6J (t : List zB) (hl : t.length ≤ 1048576) (a : Nat) (ha : a ≤ t.length) {x : zE} {b : Nat} (h : Der t (.lev 1) a (.ok x b)) : z1w t a = some (x, (b : Int), 0) := by
  have hp : zK t (a : Int) 0 = some (x, t, (b : Int), 0) := z6F ((y6v hl h ha).level (by omega))
  unfold z1w z1q
  rw [if_neg (by omega), if_neg (by omega), hp]; rfl
inductive It where
  | word (s : Str)
  | sign (s : Str)
  | name
  | expr
  | type
  | block
  | be
abbrev v7l : Str := [108, 101, 116]
abbrev wIf : Str := [105, 102]
abbrev y7U : Str := [119, 104, 105, 108, 101]
abbrev v7O : Str := [102, 111, 114]
abbrev y8a : Str := [112, 114, 105, 110, 116]
abbrev y3L : Str := [114, 101, 116, 117, 114, 110]
abbrev wDo : Str := [100, 111]
abbrev y9P : Str := [101, 108, 115, 101]
abbrev wTo : Str := [116, 111]
def z6r (t : List zB) (a : Nat) : Int × List It :=
  if vD t a v7l = true then (if (zQ t (a + 1)).K = 1 ∧ yT t (a + 2) [58] = true then (21, [.word v7l, .name, .sign [58], .type, .sign [59]]) else (20, [.word v7l, .name, .sign [61], .expr, .sign [59]]))
  else if vD t a wIf = true then (23, [.word wIf, .expr, .be])
  else if vD t a y7U = true then (24, [.word y7U, .expr, .block])
  else if vD t a v7O = true then (25, [.word v7O, .name, .sign [61], .expr, .word wTo, .expr, .block])
  else if vD t a y8a = true then (26, [.word y8a, .expr, .sign [59]])
  else if vD t a y3L = true then (27, [.word y3L, .expr, .sign [59]])
  else if vD t a wDo = true then (28, [.word wDo, .expr, .sign [59]])
  else (22, [.expr, .sign [61], .expr, .sign [59]])
inductive v3j where
  | stmt
  | blk
  | sl (f : Nat) (acc : List zE)
  | form (k : Int) (f : Nat) (its : List It) (parts : List zE) (name : Str)
abbrev z4A (t : List zB) (a : Nat) : zE × Nat × Int := typ (t.length + 1) t a
abbrev y0r (q : Int) : zE := ⟨29, 0, [], [], q, q⟩
inductive SDer (t : List zB) : v3j → Nat → Res → Prop
  | sB {a : Nat} {r : Res} : yT t a [123] = true → SDer t .blk a r → SDer t .stmt a r
  | sF {a : Nat} {r : Res} : yT t a [123] = false → SDer t (.form (z6r t a).1 a (z6r t a).2 [] []) a r → SDer t .stmt a r
  | b0 {a : Nat} : yT t a [123] = false → SDer t .blk a (.bad a)
  | b1 {a : Nat} {r : Res} : yT t a [123] = true → SDer t (.sl a []) (a + 1) r → SDer t .blk a r
  | lE {f a : Nat} {acc : List zE} : yT t a [125] = true → SDer t (.sl f acc) a (.ok (jM t f (a + 1) ⟨29, 0, [], acc, 0, 0⟩) (a + 1))
  | lG {f a b : Nat} {acc : List zE} {x : zE} {r : Res} : yT t a [125] = false → SDer t .stmt a (.ok x b) → SDer t (.sl f (acc ++ [x])) b r → SDer t (.sl f acc) a r
  | lB {f a b : Nat} {acc : List zE} : yT t a [125] = false → SDer t .stmt a (.bad b) → SDer t (.sl f acc) a (.bad b)
  | fE {f a : Nat} {k : Int} {parts : List zE} {name : Str} : f < a → SDer t (.form k f [] parts name) a (.ok (jM t f a ⟨k, 0, name, parts, 0, 0⟩) a)
  | fW {f a : Nat} {k : Int} {s : Str} {its : List It} {parts : List zE} {name : Str} {r : Res} : vD t a s = true → SDer t (.form k f its parts name) (a + 1) r → SDer t (.form k f (.word s :: its) parts name) a r
  | fW0 {f a : Nat} {k : Int} {s : Str} {its : List It} {parts : List zE} {name : Str} : vD t a s = false → SDer t (.form k f (.word s :: its) parts name) a (.bad a)
  | fS {f a : Nat} {k : Int} {s : Str} {its : List It} {parts : List zE} {name : Str} {r : Res} : yT t a s = true → SDer t (.form k f its parts name) (a + 1) r → SDer t (.form k f (.sign s :: its) parts name) a r
  | fS0 {f a : Nat} {k : Int} {s : Str} {its : List It} {parts : List zE} {name : Str} : yT t a s = false → SDer t (.form k f (.sign s :: its) parts name) a (.bad a)
  | fN {f a : Nat} {k : Int} {its : List It} {parts : List zE} {name : Str} {r : Res} : (zQ t a).K = 1 → SDer t (.form k f its parts (zQ t a).S) (a + 1) r → SDer t (.form k f (.name :: its) parts name) a r
  | fN0 {f a : Nat} {k : Int} {its : List It} {parts : List zE} {name : Str} : (zQ t a).K ≠ 1 → SDer t (.form k f (.name :: its) parts name) a (.bad a)
  | fX {f a b : Nat} {k : Int} {its : List It} {parts : List zE} {name : Str} {x : zE} {r : Res} : Der t (.lev 1) a (.ok x b) → SDer t (.form k f its (parts ++ [x]) name) b r → SDer t (.form k f (.expr :: its) parts name) a r
  | fX0 {f a b : Nat} {k : Int} {its : List It} {parts : List zE} {name : Str} : Der t (.lev 1) a (.bad b) → SDer t (.form k f (.expr :: its) parts name) a (.bad b)
  | fT {f a : Nat} {k : Int} {its : List It} {parts : List zE} {name : Str} {r : Res} : (z4A t a).2.2 = 0 → SDer t (.form k f its (parts ++ [(z4A t a).1]) name) (z4A t a).2.1 r → SDer t (.form k f (.type :: its) parts name) a r
  | fT0 {f a : Nat} {k : Int} {its : List It} {parts : List zE} {name : Str} : (z4A t a).2.2 ≠ 0 → SDer t (.form k f (.type :: its) parts name) a (.bad (z4A t a).2.1)
  | fK {f a b : Nat} {k : Int} {its : List It} {parts : List zE} {name : Str} {x : zE} {r : Res} : SDer t .blk a (.ok x b) → SDer t (.form k f its (parts ++ [x]) name) b r → SDer t (.form k f (.block :: its) parts name) a r
  | fK0 {f a b : Nat} {k : Int} {its : List It} {parts : List zE} {name : Str} : SDer t .blk a (.bad b) → SDer t (.form k f (.block :: its) parts name) a (.bad b)
  | fE0 {f a b : Nat} {k : Int} {its : List It} {parts : List zE} {name : Str} : SDer t .blk a (.bad b) → SDer t (.form k f (.be :: its) parts name) a (.bad b)
  | fE1 {f a b : Nat} {k : Int} {its : List It} {parts : List zE} {name : Str} {x : zE} {r : Res} : SDer t .blk a (.ok x b) → vD t b y9P = false → SDer t (.form k f its (parts ++ [x] ++ [y0r (zQ t (b - 1)).To]) name) b r → SDer t (.form k f (.be :: its) parts name) a r
  | fE2 {f a b c : Nat} {k : Int} {its : List It} {parts : List zE} {name : Str} {x y : zE} {r : Res} : SDer t .blk a (.ok x b) → vD t b y9P = true → SDer t .blk (b + 1) (.ok y c) → SDer t (.form k f its (parts ++ [x] ++ [y]) name) c r → SDer t (.form k f (.be :: its) parts name) a r
  | fE3 {f a b c : Nat} {k : Int} {its : List It} {parts : List zE} {name : Str} {x : zE} : SDer t .blk a (.ok x b) → vD t b y9P = true → SDer t .blk (b + 1) (.bad c) → SDer t (.form k f (.be :: its) parts name) a (.bad c)
theorem y8R : ∀ (n : Nat) (t : List zB) (a : Nat), (typ n t a).2.2 = 0 ∨ (typ n t a).2.2 = 6
  | 0, t, a => .inr rfl
  | n + 1, t, a => by
    have := y8R n t (a + 3)
    rw [typ]
    repeat' split
    all_goals first | exact .inl rfl | exact .inr rfl | exact this | skip
theorem v0b : ∀ (n : Nat) (t : List zB) (a : Nat), t.length < a + n → a ≤ t.length → (typ n t a).2.2 ≠ 0 → a ≤ (typ n t a).2.1 ∧ (typ n t a).2.1 ≤ t.length
  | 0, t, a, h1, h2, _ => by omega
  | n + 1, t, a, h1, h2, h => by
    rw [typ] at h ⊢
    by_cases g1 : vD t a [105, 110, 116] = true
    · rw [if_pos g1] at h; exact absurd rfl h
    rw [if_neg g1] at h ⊢
    by_cases g2 : vD t a [98, 111, 111, 108] = true
    · rw [if_pos g2] at h; exact absurd rfl h
    rw [if_neg g2] at h ⊢
    by_cases g3 : (zQ t a).K = 1
    · rw [if_pos g3] at h; exact absurd rfl h
    rw [if_neg g3] at h ⊢
    by_cases g4 : yT t a [91] = true
    · have k4 := zV g4
      rw [if_pos g4] at h ⊢
      by_cases g5 : (zQ t (a + 1)).K = 2
      · have k5 := uT (t := t) (a := a + 1) (by rw [g5]; decide)
        rw [if_pos g5] at h ⊢
        by_cases g6 : yT t (a + 2) [93] = true
        · have k6 := zV g6
          rw [if_pos g6] at h ⊢
          by_cases g7 : (typ n t (a + 3)).2.2 = 0
          · rw [if_pos g7] at h; exact absurd rfl h
          · rw [if_neg g7]
            have := v0b n t (a + 3) (by omega) (by omega) g7
            exact ⟨by show a ≤ (typ n t (a + 3)).2.1; omega, this.2⟩
        · rw [if_neg g6]; exact ⟨by show a ≤ a + 2; omega, by show a + 2 ≤ t.length; omega⟩
      · rw [if_neg g5]; exact ⟨by show a ≤ a + 1; omega, by show a + 1 ≤ t.length; omega⟩
    · rw [if_neg g4]; exact ⟨Nat.le_refl _, h2⟩
def InS (t : List zB) (c : v3j) (a : Nat) : Res → Prop
  | .ok x b => (match c with | .form _ _ its _ _ => a ≤ b ∧ (its ≠ [] → a < b) | _ => a < b) ∧ b ≤ t.length
  | .bad b => a ≤ b ∧ b ≤ t.length
theorem SDer.inS {t : List zB} {c : v3j} {a : Nat} {r : Res} (h : SDer t c a r) : a ≤ t.length → InS t c a r := by
  have step : ∀ {k : Int} {f a b : Nat} {it : It} {its : List It} {p p' : List zE} {n n' : Str} {r : Res}, a < b → InS t (.form k f its p' n') b r → InS t (.form k f (it :: its) p n) a r := by
    intro k f a b it its p p' n n' r h1 h2
    cases r with
    | ok x c => simp only [InS] at h2 ⊢; exact ⟨⟨by omega, fun _ => by omega⟩, h2.2⟩
    | bad c => simp only [InS] at h2 ⊢; omega
  induction h with
  | sB _ _ ih => intro h; exact ih h
  | @sF a r h1 hd ih =>
    intro h
    have q := ih h
    cases r with
    | ok x b =>
      simp only [InS] at q ⊢
      refine ⟨q.1.2 ?_, q.2⟩
      unfold z6r
      repeat' split
      all_goals simp
    | bad b => exact q
  | b0 _ => intro h; simp only [InS]; omega
  | @b1 a r h1 _ ih =>
    intro h
    have := zV h1
    have q := ih (by omega)
    cases r <;> simp only [InS] at q ⊢ <;> omega
  | lE h1 => intro h; have := zV h1; simp only [InS]; omega
  | @lG f a b acc x r h1 _ _ ih1 ih2 =>
    intro h
    have q1 := ih1 h; simp only [InS] at q1
    have q2 := ih2 q1.2
    cases r <;> simp only [InS] at q2 ⊢ <;> omega
  | lB _ _ ih => intro h; exact ih h
  | fE _ => intro h; simp only [InS]; exact ⟨⟨Nat.le_refl _, fun h => absurd rfl h⟩, h⟩
  | fW h1 _ ih => intro h; have := uV h1; exact step (by omega) (ih (by omega))
  | fW0 _ => intro h; simp only [InS]; omega
  | fS h1 _ ih => intro h; have := zV h1; exact step (by omega) (ih (by omega))
  | fS0 _ => intro h; simp only [InS]; omega
  | @fN f a k its parts name r h1 _ ih => intro h; have := uT (t := t) (a := a) (by rw [h1]; decide); exact step (Nat.lt_succ_self a) (ih (by omega))
  | fN0 _ => intro h; simp only [InS]; omega
  | fX hd _ ih => intro h; have q := hd.inR h; simp only [InR] at q; exact step q.1 (ih q.2)
  | fX0 hd => intro h; have q := hd.inR h; simp only [InR, InS] at q ⊢; exact q
  | @fT f a k its parts name r h1 _ ih => intro h; have q := y1c (t.length + 1) t a (by omega) h1; exact step q.1 (ih q.2)
  | @fT0 f a k its parts name h1 => intro h; have q := v0b (t.length + 1) t a (by omega) h h1; simp only [InS]; exact q
  | fK _ _ ih1 ih2 => intro h; have q := ih1 h; simp only [InS] at q; exact step q.1 (ih2 q.2)
  | fK0 _ ih => intro h; exact ih h
  | fE0 _ ih => intro h; exact ih h
  | fE1 _ _ _ ih1 ih2 => intro h; have q := ih1 h; simp only [InS] at q; exact step q.1 (ih2 q.2)
  | @fE2 f a b c k its parts name x y r _ h2 _ _ ih1 ih2 ih3 =>
    intro h
    have hb := uV h2
    have q := ih1 h; simp only [InS] at q
    have q2 := ih2 (by omega); simp only [InS] at q2
    exact step (by omega) (ih3 q2.2)
  | @fE3 f a b c k its parts name x _ h2 _ ih1 ih2 =>
    intro h
    have hb := uV h2
    have q := ih1 h; simp only [InS] at q
    have q2 := ih2 (by omega); simp only [InS] at q2 ⊢
    omega
theorem v2Q (t : List zB) : ∀ (d a : Nat), a + d = t.length → (∃ r, SDer t .stmt a r) ∧ (∃ r, SDer t .blk a r) := by
  intro d
  induction d using Nat.strongRecOn with
  | _ d IH =>
    intro a had
    have upS : ∀ b, a < b → b ≤ t.length → ∃ r, SDer t .stmt b r := fun b h1 h2 => (IH (t.length - b) (by omega) b (by omega)).1
    have upB : ∀ b, a < b → b ≤ t.length → ∃ r, SDer t .blk b r := fun b h1 h2 => (IH (t.length - b) (by omega) b (by omega)).2
    have sl : ∀ (n b : Nat) (acc : List zE), a < b → b + n = t.length → ∃ r, SDer t (.sl a acc) b r := by
      intro n
      induction n using Nat.strongRecOn with
      | _ n ihn =>
        intro b acc h1 h2
        cases hs : yT t b [125] with
        | true => exact ⟨_, .lE hs⟩
        | false =>
          obtain ⟨r, hr⟩ := upS b h1 (by omega)
          have q := hr.inS (by omega)
          cases r with
          | bad c => exact ⟨_, .lB hs hr⟩
          | ok x c =>
            simp only [InS] at q
            obtain ⟨r, h3⟩ := ihn (t.length - c) (by omega) c (acc ++ [x]) (by omega) (by omega)
            exact ⟨r, .lG hs hr h3⟩
    have blk : ∃ r, SDer t .blk a r := by
      cases hs : yT t a [123] with
      | false => exact ⟨_, .b0 hs⟩
      | true =>
        have := zV hs
        obtain ⟨r, hr⟩ := sl (t.length - (a + 1)) (a + 1) [] (by omega) (by omega)
        exact ⟨r, .b1 hs hr⟩
    have anyB : ∀ b, a ≤ b → b ≤ t.length → ∃ r, SDer t .blk b r := fun b h1 h2 => by
      by_cases e : b = a
      · subst e; exact blk
      · exact upB b (by omega) h2
    have form : ∀ (k : Int) (its : List It) (b : Nat) (parts : List zE) (name : Str), a ≤ b → b ≤ t.length → (its = [] → a < b) → ∃ r, SDer t (.form k a its parts name) b r := by
      intro k its
      induction its with
      | nil => intro b parts name h1 h2 h3; exact ⟨_, .fE (h3 rfl)⟩
      | cons it its ih =>
        intro b parts name h1 h2 h3
        cases it with
        | word s =>
          cases hs : vD t b s with
          | false => exact ⟨_, .fW0 hs⟩
          | true =>
            have := uV hs
            obtain ⟨r, hr⟩ := ih (b + 1) parts name (by omega) (by omega) (fun _ => by omega)
            exact ⟨r, .fW hs hr⟩
        | sign s =>
          cases hs : yT t b s with
          | false => exact ⟨_, .fS0 hs⟩
          | true =>
            have := zV hs
            obtain ⟨r, hr⟩ := ih (b + 1) parts name (by omega) (by omega) (fun _ => by omega)
            exact ⟨r, .fS hs hr⟩
        | name =>
          by_cases hk : (zQ t b).K = 1
          · have := uT (t := t) (a := b) (by rw [hk]; decide)
            obtain ⟨r, hr⟩ := ih (b + 1) parts (zQ t b).S (by omega) (by omega) (fun _ => by omega)
            exact ⟨r, .fN hk hr⟩
          · exact ⟨_, .fN0 hk⟩
        | expr =>
          obtain ⟨r, hr⟩ := v7E t (t.length - b) b (by omega) 1 (by omega) (by omega)
          have q := hr.inR (by omega)
          cases r with
          | bad c => exact ⟨_, .fX0 hr⟩
          | ok x c =>
            simp only [InR] at q
            obtain ⟨r, h4⟩ := ih c (parts ++ [x]) name (by omega) q.2 (fun _ => by omega)
            exact ⟨r, .fX hr h4⟩
        | type =>
          by_cases he : (z4A t b).2.2 = 0
          · have q : b < (z4A t b).2.1 ∧ (z4A t b).2.1 ≤ t.length := y1c (t.length + 1) t b (by omega) he
            obtain ⟨r, h4⟩ := ih (z4A t b).2.1 (parts ++ [(z4A t b).1]) name (by omega) q.2 (fun _ => by omega)
            exact ⟨r, .fT he h4⟩
          · exact ⟨_, .fT0 he⟩
        | block =>
          obtain ⟨r, hr⟩ := anyB b h1 h2
          have q := hr.inS (by omega)
          cases r with
          | bad c => exact ⟨_, .fK0 hr⟩
          | ok x c =>
            simp only [InS] at q
            obtain ⟨r, h4⟩ := ih c (parts ++ [x]) name (by omega) q.2 (fun _ => by omega)
            exact ⟨r, .fK hr h4⟩
        | be =>
          obtain ⟨r, hr⟩ := anyB b h1 h2
          have q := hr.inS (by omega)
          cases r with
          | bad c => exact ⟨_, .fE0 hr⟩
          | ok x c =>
            simp only [InS] at q
            cases hw : vD t c y9P with
            | false =>
              obtain ⟨r, h4⟩ := ih c _ name (by omega) q.2 (fun _ => by omega)
              exact ⟨r, .fE1 hr hw h4⟩
            | true =>
              have := uV hw
              obtain ⟨r2, hr2⟩ := anyB (c + 1) (by omega) (by omega)
              have q2 := hr2.inS (by omega)
              cases r2 with
              | bad e => exact ⟨_, .fE3 hr hw hr2⟩
              | ok y e =>
                simp only [InS] at q2
                obtain ⟨r, h4⟩ := ih e _ name (by omega) q2.2 (fun _ => by omega)
                exact ⟨r, .fE2 hr hw hr2 h4⟩
    refine ⟨?_, blk⟩
    cases hs : yT t a [123] with
    | true => obtain ⟨r, hr⟩ := blk; exact ⟨r, .sB hs hr⟩
    | false =>
      obtain ⟨r, hr⟩ := form (z6r t a).1 (z6r t a).2 a [] [] (Nat.le_refl _) (by omega) (fun h => by
        exfalso; revert h
        unfold z6r
        repeat' split
        all_goals simp)
      exact ⟨r, .sF hs hr⟩
theorem v7W {t : List zB} {c : v3j} {a : Nat} {r : Res} (h : SDer t c a r) : (match c with | .blk => True | .sl _ _ => True | _ => False) → ∀ x b, r = .ok x b → x.To = (zQ t (b - 1)).To := by
  induction h with
  | b0 _ => intro _ x b e; cases e
  | b1 _ _ ih => intro _ x b e; exact ih trivial x b e
  | lE _ => intro _ x b e; cases e; rfl
  | lG _ _ _ _ ih => intro _ x b e; exact ih trivial x b e
  | lB _ _ _ => intro _ x b e; cases e
  | _ => intro h; exact h.elim
theorem y6o (t : List zB) (a : Nat) (e : Int) : z1F t a e = some (zQ t a) := by
  unfold z1F zQ
  by_cases h : a < t.length
  · rw [if_pos (show (a : Int) < (t.length : Int) by omega), z1W h, zA, List.getElem?_eq_getElem h]; rfl
  · rw [if_neg (show ¬ (a : Int) < (t.length : Int) by omega), List.getElem?_eq_none (by omega)]; rfl
theorem y3I (s : Str) (t : List zB) (a : Nat) (e : Int) : gG 4 s t a e = some (yT t a s) := by
  unfold gG yT
  rw [y6o, zA]
  by_cases h : (zQ t a).K = 4
  · rw [if_pos h, decide_eq_true h]; rfl
  · rw [if_neg h, decide_eq_false h]; rfl
theorem y9k (s : Str) (t : List zB) (a : Nat) (e : Int) : gG 3 s t a e = some (vD t a s) := by
  unfold gG vD
  rw [y6o, zA]
  by_cases h : (zQ t a).K = 3
  · rw [if_pos h, decide_eq_true h]; rfl
  · rw [if_neg h, decide_eq_false h]; rfl
theorem z7U (s : Str) (t : List zB) (hl : t.length ≤ 1048576) (a : Nat) : yB 4 s t a 0 = if yT t a s = true then some (t, ((a + 1 : Nat) : Int), 0) else some (t, (a : Int), 6) := by
  unfold yB
  rw [if_pos rfl, y3I, zA]
  by_cases h : yT t a s = true
  · have := zV h
    rw [if_pos h, if_pos h, vL hl (by omega)]
  · rw [if_neg h, if_neg h]
theorem y6x (s : Str) (t : List zB) (hl : t.length ≤ 1048576) (a : Nat) : yB 3 s t a 0 = if vD t a s = true then some (t, ((a + 1 : Nat) : Int), 0) else some (t, (a : Int), 6) := by
  unfold yB
  rw [if_pos rfl, y9k, zA]
  by_cases h : vD t a s = true
  · have := uV h
    rw [if_pos h, if_pos h, vL hl (by omega)]
  · rw [if_neg h, if_neg h]
theorem y2d (k : Int) (s : Str) (t : List zB) (a : Int) {e : Int} (h : e ≠ 0) : yB k s t a e = some (t, a, e) := by
  unfold yB; rw [if_neg h]
theorem y5y (t : List zB) (hl : t.length ≤ 1048576) (a : Nat) : gP t a 0 = if (zQ t a).K = 1 then some ((zQ t a).S, t, ((a + 1 : Nat) : Int), 0) else some ([], t, (a : Int), 6) := by
  unfold gP
  rw [if_pos rfl, y6o, zA]
  by_cases h : (zQ t a).K = 1
  · have := uT (t := t) (a := a) (by rw [h]; decide)
    rw [if_pos h, if_pos h, vL hl (by omega)]
  · rw [if_neg h, if_neg h]
theorem v4N (t : List zB) (a : Int) {e : Int} (h : e ≠ 0) : gP t a e = some ([], t, a, e) := by
  unfold gP; rw [if_neg h]
theorem v3d (k : Int) (s : Str) (l : List zE) (t : List zB) (hl : t.length ≤ 9223372036854775807) (f a : Nat) (hf : f < a) (ha : a ≤ t.length) : vE k s f l t a 0 = some (jM t f a ⟨k, 0, s, l, 0, 0⟩) := by
  unfold vE jM zQ
  have h1 : IntKind.wrap .i64 ((a : Int) - 1) = ((a - 1 : Nat) : Int) := by rw [z0Q (by omega) (by omega)]; omega
  rw [if_pos rfl, z1W (show f < t.length by omega), zA, h1, z1W (show a - 1 < t.length by omega), zA, List.getElem?_eq_getElem (show f < t.length by omega), List.getElem?_eq_getElem (show a - 1 < t.length by omega)]; rfl
theorem y9S (k : Int) (s : Str) (l : List zE) (t : List zB) (f a : Int) {e : Int} (h : e ≠ 0) : vE k s f l t a e = some zT7 := by
  unfold vE; rw [if_neg h]
theorem y8b (t : List zB) (a : Int) {e : Int} (h : e ≠ 0) : jN t a e = some (zT7, t, a, e) ∧ wY t a e = some (zT7, t, a, e) := by
  unfold jN wY; rw [if_neg h, if_neg h]; exact ⟨rfl, rfl⟩
theorem v4U (t : List zB) (a : Int) {e : Int} (h : e ≠ 0) : vF t a e = some (zT7, t, a, e) := by
  unfold vF; rw [(y8b t a h).1]; rfl
theorem v6u (t : List zB) (hl : t.length ≤ 1048576) (a : Nat) (ha : a ≤ t.length) {x : zE} {b : Nat} (h : Der t (.lev 1) a (.ok x b)) : vF t a 0 = some (x, t, (b : Int), 0) := by
  unfold vF jN
  rw [if_pos rfl, if_neg (by omega), y6J t hl a ha h]; rfl
theorem v6w (t : List zB) (hl : t.length ≤ 1048576) (a : Nat) (ha : a ≤ t.length) {b : Nat} (h : Der t (.lev 1) a (.bad b)) : vF t a 0 = some (zT7, t, (b : Int), 6) := by
  obtain ⟨y, hp⟩ : ∃ y, zK t (a : Int) 0 = some (y, t, (b : Int), 6) := z6F ((y6v hl h ha).level (by omega))
  unfold vF jN z1w z1q
  rw [if_pos rfl, if_neg (by omega), if_neg (by omega), if_neg (by omega), hp]; rfl
theorem v2I (t : List zB) (hl : t.length ≤ 1048576) (a : Nat) (ha : a ≤ t.length) : wY t a 0 = some (if (z4A t a).2.2 = 0 then (z4A t a).1 else zT7, t, ((z4A t a).2.1 : Int), (z4A t a).2.2) := by
  obtain ⟨x, e1, e2⟩ := v1r t (by omega) (t.length + 1) a (by omega) ha
  unfold wY z5c gY
  rw [if_pos rfl, if_neg (by omega), if_neg (by omega), if_neg (by omega), e1, zA]
  dsimp only
  by_cases h : (z4A t a).2.2 = 0
  · rw [if_pos h, if_pos h, e2 h]
    show some _ = _
    rw [h]
  · rw [if_neg h, if_neg h]; rfl
theorem v5t (f : Int) (l : List zE) (o : zE) (t : List zB) (a : Int) {e : Int} (h : e ≠ 0) : zX f l o t a e = some (zT7, t, a, e) := by
  rw [z1T]; unfold wZ
  rw [if_neg h, y2d _ _ _ _ h, zA, y9S _ _ _ _ _ _ h]; rfl
theorem v4C (t : List zB) (a : Int) {e : Int} (h : e ≠ 0) : zF t a e = some (zT7, t, a, e) := by
  rw [z3Z]; unfold jR
  rw [y2d _ _ _ _ h, zA, v5t _ _ _ _ _ h]
noncomputable def uM (t : List zB) : List It → List zE → Str → Int → Int → Option (List zE × Str × Int × Int)
  | [], ps, nm, a, e => some (ps, nm, a, e)
  | .word s :: r, ps, nm, a, e => yB 3 s t a e >>= fun q => uM t r ps nm q.2.1 q.2.2
  | .sign s :: r, ps, nm, a, e => yB 4 s t a e >>= fun q => uM t r ps nm q.2.1 q.2.2
  | .name :: r, ps, nm, a, e => gP t a e >>= fun q => uM t r ps q.1 q.2.2.1 q.2.2.2
  | .expr :: r, ps, nm, a, e => vF t a e >>= fun q => uM t r (ps ++ [q.1]) nm q.2.2.1 q.2.2.2
  | .type :: r, ps, nm, a, e => wY t a e >>= fun q => uM t r (ps ++ [q.1]) nm q.2.2.1 q.2.2.2
  | .block :: r, ps, nm, a, e => zF t a e >>= fun q => uM t r (ps ++ [q.1]) nm q.2.2.1 q.2.2.2
  | .be :: r, ps, nm, a, e => zF t a e >>= fun q =>
      if q.2.2.2 = 0 then (gG 3 y9P t q.2.2.1 q.2.2.2 >>= fun z => if z = true then (zF t (IntKind.wrap .i64 (q.2.2.1 + 1)) q.2.2.2 >>= fun w => uM t r (ps ++ [q.1] ++ [w.1]) nm w.2.2.1 w.2.2.2)
        else uM t r (ps ++ [q.1] ++ [y0r q.1.To]) nm q.2.2.1 q.2.2.2)
      else uM t r (ps ++ [q.1] ++ [y0r q.1.To]) nm q.2.2.1 q.2.2.2
theorem z9v (t : List zB) (a : Int) {e : Int} (h : e ≠ 0) : ∀ (its : List It) (ps : List zE) (nm : Str), ∃ ps' nm', uM t its ps nm a e = some (ps', nm', a, e)
  | [], ps, nm => ⟨ps, nm, rfl⟩
  | .word s :: r, ps, nm => by rw [uM, y2d _ _ _ _ h]; exact z9v t a h r ps nm
  | .sign s :: r, ps, nm => by rw [uM, y2d _ _ _ _ h]; exact z9v t a h r ps nm
  | .name :: r, ps, nm => by rw [uM, v4N _ _ h]; exact z9v t a h r ps []
  | .expr :: r, ps, nm => by rw [uM, v4U _ _ h]; exact z9v t a h r _ nm
  | .type :: r, ps, nm => by rw [uM, (y8b _ _ h).2]; exact z9v t a h r _ nm
  | .block :: r, ps, nm => by rw [uM, v4C _ _ h]; exact z9v t a h r _ nm
  | .be :: r, ps, nm => by
    rw [uM, v4C _ _ h, zA]
    dsimp only
    rw [if_neg h]; exact z9v t a h r _ nm
noncomputable abbrev mkF (t : List zB) (k : Int) (f : Int) (q : Option (List zE × Str × Int × Int)) : Option (zE × List zB × Int × Int) :=
  q >>= fun q => vE k q.2.1 f q.1 t q.2.2.1 q.2.2.2 >>= fun z => some (z, t, q.2.2.1, q.2.2.2)
theorem z5g {k : Int} {s : Str} {t : List zB} {a e : Int} {q : List zB × Int × Int} (h : yB k s t a e = some q) : q.1 = t := by
  unfold yB at h
  by_cases he : e = 0
  · rw [if_pos he] at h
    cases hi : gG k s t a e with
    | none => rw [hi] at h; cases h
    | some z =>
      rw [hi, zA] at h
      split at h <;> (cases h; rfl)
  · rw [if_neg he] at h; cases h; rfl
theorem v5L {t : List zB} {a e : Int} {q : Str × List zB × Int × Int} (h : gP t a e = some q) : q.2.1 = t := by
  unfold gP at h
  by_cases he : e = 0
  · rw [if_pos he] at h
    cases hi : z1F t a e with
    | none => rw [hi] at h; cases h
    | some z =>
      rw [hi, zA] at h
      split at h <;> (cases h; rfl)
  · rw [if_neg he] at h; cases h; rfl
theorem z6t {t : List zB} {a e : Int} {q : zE × List zB × Int × Int} (h : vF t a e = some q) : q.2.1 = t := by
  unfold vF jN at h
  by_cases he : e = 0
  · rw [if_pos he] at h
    by_cases h1 : a > (List.length t : Int)
    · rw [if_pos h1] at h; cases h; rfl
    · rw [if_neg h1] at h
      cases hi : z1w t a with
      | none => rw [hi] at h; cases h
      | some z => rw [hi] at h; cases h; rfl
  · rw [if_neg he] at h; cases h; rfl
theorem v7d {t : List zB} {a e : Int} {q : zE × List zB × Int × Int} (h : wY t a e = some q) : q.2.1 = t := by
  unfold wY at h
  by_cases he : e = 0
  · rw [if_pos he] at h
    by_cases h1 : a > (List.length t : Int)
    · rw [if_pos h1] at h; cases h; rfl
    · rw [if_neg h1] at h
      cases hi : z5c t a with
      | none => rw [hi] at h; cases h
      | some z => rw [hi] at h; cases h; rfl
  · rw [if_neg he] at h; cases h; rfl
theorem jB {α β : Type} {p : Option α} {f g : α → Option β} (h : ∀ q, p = some q → f q = g q) : (p >>= f) = (p >>= g) := by
  cases p with
  | none => rfl
  | some q => exact h q rfl
theorem y8H {α β γ : Type} (p : Option α) (f : α → Option β) (g : β → Option γ) : ((p >>= f) >>= g) = (p >>= fun x => f x >>= g) := by cases p <;> rfl
theorem y6D (t : List zB) (k a : Int) : z0k k t a 0 = mkF t k a (uM t [.expr, .sign [59]] [] [] (IntKind.wrap .i64 (a + 1)) 0) := by
  unfold z0k mkF
  simp only [uM, y8H]
  refine jB fun q hq => ?_
  rw [z6t hq]
  refine jB fun z hz => ?_
  rw [z5g hz]; rfl
theorem v7S (t : List zB) (a : Int) : z2b t a 0 = mkF t 22 a (uM t [.expr, .sign [61], .expr, .sign [59]] [] [] a 0) := by
  unfold z2b mkF
  simp only [uM, y8H]
  refine jB fun q hq => ?_
  rw [z6t hq]
  refine jB fun z hz => ?_
  rw [z5g hz]
  refine jB fun q hq => ?_
  rw [z6t hq]
  refine jB fun z hz => ?_
  rw [z5g hz]; rfl
theorem v6h (t : List zB) (hl : t.length ≤ 1048576) (a : Nat) (h1 : (zQ t (a + 1)).K = 1) (h2 : yT t (a + 2) [58] = true) : z1g t a 0 = mkF t 21 a (uM t [.name, .sign [58], .type, .sign [59]] [] [] ((a + 1 : Nat) : Int) 0) := by
  have k1 := uT (t := t) (a := a + 1) (by rw [h1]; decide)
  have k2 := zV h2
  have e1 := y5y t hl (a + 1)
  rw [if_pos h1] at e1
  have e2 := z7U [58] t hl (a + 2)
  rw [if_pos h2] at e2
  unfold z1g mkF
  simp only [uM, y8H]
  rw [vL hl (by omega), e1, zA, zA]
  show (if (0 : Int) = 0 then _ else _) = (yB 4 [58] t ((a + 2 : Nat) : Int) 0 >>= _)
  rw [if_pos rfl, e2, zA]
  show (gG 4 [58] t ((a + 2 : Nat) : Int) 0 >>= _) = _
  rw [y3I, zA, if_pos h2]
  show (wY t (IntKind.wrap .i64 (((a + 2 : Nat) : Int) + 1)) 0 >>= _) = _
  rw [vL hl (by omega)]
  refine jB fun q hq => ?_
  rw [v7d hq]
  refine jB fun z hz => ?_
  rw [z5g hz]; rfl
theorem v6c (t : List zB) (hl : t.length ≤ 1048576) (a : Nat) (ha : a < t.length) (h : ¬ ((zQ t (a + 1)).K = 1 ∧ yT t (a + 2) [58] = true)) : z1g t a 0 = mkF t 20 a (uM t [.name, .sign [61], .expr, .sign [59]] [] [] ((a + 1 : Nat) : Int) 0) := by
  have rest : ∀ (nm : Str) (b e : Int), (yB 4 [61] t b e >>= fun q6 => vF q6.1 q6.2.1 q6.2.2 >>= fun q7 => yB 4 [59] q7.2.1 q7.2.2.1 q7.2.2.2 >>= fun q8 => vE 20 nm a [q7.1] q8.1 q8.2.1 q8.2.2 >>= fun q9 => some (q9, q8.1, q8.2.1, q8.2.2)) =
      (yB 4 [61] t b e >>= fun q => vF t q.2.1 q.2.2 >>= fun q => yB 4 [59] t q.2.2.1 q.2.2.2 >>= fun z => vE 20 nm a [q.1] t z.2.1 z.2.2 >>= fun y => some (y, t, z.2.1, z.2.2)) := by
    intro nm b e
    refine jB fun q hq => ?_
    rw [z5g hq]
    refine jB fun z hz => ?_
    rw [z6t hz]
    refine jB fun y hy => ?_
    rw [z5g hy]
  unfold z1g mkF
  simp only [uM, y8H]
  rw [vL hl (by omega), y5y t hl (a + 1)]
  by_cases h1 : (zQ t (a + 1)).K = 1
  · rw [if_pos h1, zA, zA]
    show (if (0 : Int) = 0 then _ else _) = _
    rw [if_pos rfl]
    show (gG 4 [58] t ((a + 2 : Nat) : Int) 0 >>= _) = _
    rw [y3I, zA, if_neg (fun h' => h ⟨h1, h'⟩)]
    exact rest _ _ _
  · rw [if_neg h1, zA, zA]
    show (if (6 : Int) = 0 then _ else _) = _
    rw [if_neg six]
    exact rest _ _ _
theorem v6V (t : List zB) (hl : t.length ≤ 1048576) (a : Nat) (ha : a < t.length) (hb : ∀ b e q, zF t b e = some q → q.2.1 = t) : vK t a 0 = mkF t 24 a (uM t [.expr, .block] [] [] ((a + 1 : Nat) : Int) 0) := by
  rw [y0J]; unfold z0n mkF
  simp only [uM, y8H]
  rw [vL hl (by omega)]
  refine jB fun q hq => ?_
  rw [z6t hq]
  refine jB fun z hz => ?_
  rw [hb _ _ _ hz]; rfl
theorem v6r (t : List zB) (hl : t.length ≤ 1048576) (a : Nat) (ha : a < t.length) (hb : ∀ b e q, zF t b e = some q → q.2.1 = t) : vJ t a 0 = mkF t 25 a (uM t [.name, .sign [61], .expr, .word wTo, .expr, .block] [] [] ((a + 1 : Nat) : Int) 0) := by
  rw [y0v]; unfold z0m mkF
  simp only [uM, y8H]
  rw [vL hl (by omega)]
  refine jB fun q hq => ?_
  rw [v5L hq]
  refine jB fun q hq => ?_
  rw [z5g hq]
  refine jB fun q hq => ?_
  rw [z6t hq]
  refine jB fun q hq => ?_
  rw [z5g hq]
  refine jB fun q hq => ?_
  rw [z6t hq]
  refine jB fun z hz => ?_
  rw [hb _ _ _ hz]; rfl
theorem v7s (t : List zB) (hl : t.length ≤ 1048576) (a : Nat) (ha : a < t.length) (hb : ∀ b e q, zF t b e = some q → q.2.1 = t) : vU t a 0 = mkF t 23 a (uM t [.expr, .be] [] [] ((a + 1 : Nat) : Int) 0) := by
  rw [y1g]; unfold z0y mkF
  simp only [uM, y8H]
  rw [vL hl (by omega)]
  refine jB fun q hq => ?_
  rw [z6t hq]
  refine jB fun z hz => ?_
  rw [hb _ _ _ hz]
  by_cases h0 : z.2.2.2 = 0
  · rw [if_pos h0, if_pos h0]
    simp only [y8H]
    refine jB fun y hy => ?_
    by_cases h1 : y = true
    · rw [if_pos h1, if_pos h1]
      simp only [y8H]
      refine jB fun w hw => ?_
      rw [hb _ _ _ hw]; rfl
    · rw [if_neg h1, if_neg h1]; rfl
  · rw [if_neg h0, if_neg h0]; rfl
theorem v7y (t : List zB) : ∀ b e q, zF t b e = some q → q.2.1 = t := by
  have made_fin : ∀ {k : Int} {s : Str} {f : Int} {l : List zE} {t' : List zB} {a e : Int} {q : zE × List zB × Int × Int}, (vE k s f l t' a e >>= fun z => some (z, t', a, e)) = some q → q.2.1 = t' := fun {k s f l t' a e q} h => by
    obtain ⟨z, -, h⟩ := zC h
    cases h; rfl
  have all : ∀ i r, z1S wD i = some r → (match i, r with
      | .yX t _ _, r => r.2.1 = t
      | .zF t _ _, r => r.2.1 = t
      | .zX _ _ _ t _ _, r => r.2.1 = t
      | .vU t _ _, r => r.2.1 = t
      | .vK t _ _, r => r.2.1 = t
      | .vJ t _ _, r => r.2.1 = t : Prop) := by
    refine wM z0q (P := fun i r => (match i, r with
      | .yX t _ _, r => r.2.1 = t
      | .zF t _ _, r => r.2.1 = t
      | .zX _ _ _ t _ _, r => r.2.1 = t
      | .vU t _ _, r => r.2.1 = t
      | .vK t _ _, r => r.2.1 = t
      | .vJ t _ _, r => r.2.1 = t : Prop)) fun g ih i r h => ?_
    cases i with
    | yX t a e =>
      replace h : z0a (fun t a e => g (.zF t a e)) (fun t a e => g (.vU t a e)) (fun t a e => g (.vK t a e)) (fun t a e => g (.vJ t a e)) t a e = some r := h
      unfold z0a at h
      obtain ⟨q1, -, h⟩ := zC h
      obtain ⟨q2, -, h⟩ := zC h
      show r.2.1 = t
      have sg : ∀ {k : Int} {q : zE × List zB × Int × Int}, z0k k t a e = some q → q.2.1 = t := fun {k q} h => by
        unfold z0k at h
        obtain ⟨x, h1, h⟩ := zC h
        obtain ⟨y, h2, h⟩ := zC h
        have := made_fin h
        rw [this, z5g h2, z6t h1]
      have lt : ∀ {q : zE × List zB × Int × Int}, z1g t a e = some q → q.2.1 = t := fun {q} h => by
        unfold z1g at h
        obtain ⟨x, h1, h⟩ := zC h
        have e1 := v5L h1
        have tail : ∀ {q : zE × List zB × Int × Int}, (yB 4 [61] x.2.1 x.2.2.1 x.2.2.2 >>= fun q6 => vF q6.1 q6.2.1 q6.2.2 >>= fun q7 => yB 4 [59] q7.2.1 q7.2.2.1 q7.2.2.2 >>= fun q8 => vE 20 x.1 a [q7.1] q8.1 q8.2.1 q8.2.2 >>= fun q9 => some (q9, q8.1, q8.2.1, q8.2.2)) = some q → q.2.1 = t := fun {q} h => by
          obtain ⟨y, h2, h⟩ := zC h
          obtain ⟨z, h3, h⟩ := zC h
          obtain ⟨w, h4, h⟩ := zC h
          have := made_fin h
          rw [this, z5g h4, z6t h3, z5g h2, e1]
        split at h
        · obtain ⟨y, h2, h⟩ := zC h
          split at h
          · obtain ⟨z, h3, h⟩ := zC h
            obtain ⟨w, h4, h⟩ := zC h
            have := made_fin h
            rw [this, z5g h4, v7d h3, e1]
          · exact tail h
        · exact tail h
      have st : ∀ {q : zE × List zB × Int × Int}, z2b t a e = some q → q.2.1 = t := fun {q} h => by
        unfold z2b at h
        obtain ⟨x, h1, h⟩ := zC h
        obtain ⟨y, h2, h⟩ := zC h
        obtain ⟨z, h3, h⟩ := zC h
        obtain ⟨w, h4, h⟩ := zC h
        have := made_fin h
        rw [this, z5g h4, z6t h3, z5g h2, z6t h1]
      have sh : ∀ {q : zE × List zB × Int × Int} {p : Option (zE × List zB × Int × Int)}, (p >>= fun x => some (x.1, x.2.1, x.2.2.1, x.2.2.2)) = some q → p = some q := fun {q p} h => by
        obtain ⟨x, h1, h⟩ := zC h
        cases h; exact h1
      repeat' split at h
      · exact ih _ _ (sh h)
      · exact st (sh h)
      · exact lt (sh h)
      · exact ih _ _ (sh h)
      · exact ih _ _ (sh h)
      · exact ih _ _ (sh h)
      · have := sh h; unfold z3i at this; exact sg (sh this)
      · have := sh h; unfold z3k at this; exact sg (sh this)
      · have := sh h; unfold z3n at this; exact sg (sh this)
      · cases h
    | zF t a e =>
      replace h : jR (fun f l o t a e => g (.zX f l o t a e)) t a e = some r := h
      unfold jR at h
      obtain ⟨x, h1, h⟩ := zC h
      have := ih _ _ h
      show r.2.1 = t
      rw [show r.2.1 = x.1 from this, z5g h1]
    | zX f l o t a e =>
      replace h : wZ (fun f l o t a e => g (.zX f l o t a e)) (fun t a e => g (.yX t a e)) f l o t a e = some r := h
      unfold wZ at h
      show r.2.1 = t
      split at h
      · obtain ⟨x, h1, h⟩ := zC h
        split at h
        · obtain ⟨y, h2, h⟩ := zC h
          rw [made_fin h, z5g h2]
        · obtain ⟨y, h2, h⟩ := zC h
          split at h
          · have e1 := ih _ _ h
            have e2 := ih _ _ h2
            rw [show r.2.1 = y.2.1 from e1]; exact e2
          · cases h
      · obtain ⟨y, h2, h⟩ := zC h
        rw [made_fin h, z5g h2]
    | vU t a e =>
      replace h : z0y (fun t a e => g (.zF t a e)) t a e = some r := h
      unfold z0y at h
      show r.2.1 = t
      obtain ⟨x, h1, h⟩ := zC h
      obtain ⟨y, h2, h⟩ := zC h
      have e1 := z6t h1
      have e2 : y.2.1 = x.2.1 := ih _ _ h2
      split at h
      · obtain ⟨z, h3, h⟩ := zC h
        split at h
        · obtain ⟨w, h4, h⟩ := zC h
          have e3 : w.2.1 = y.2.1 := ih _ _ h4
          rw [made_fin h, e3, e2, e1]
        · rw [made_fin h, e2, e1]
      · rw [made_fin h, e2, e1]
    | vK t a e =>
      replace h : z0n (fun t a e => g (.zF t a e)) t a e = some r := h
      unfold z0n at h
      show r.2.1 = t
      obtain ⟨x, h1, h⟩ := zC h
      obtain ⟨y, h2, h⟩ := zC h
      have e2 : y.2.1 = x.2.1 := ih _ _ h2
      rw [made_fin h, e2, z6t h1]
    | vJ t a e =>
      replace h : z0m (fun t a e => g (.zF t a e)) t a e = some r := h
      unfold z0m at h
      show r.2.1 = t
      obtain ⟨x1, h1, h⟩ := zC h
      obtain ⟨x2, h2, h⟩ := zC h
      obtain ⟨x3, h3, h⟩ := zC h
      obtain ⟨x4, h4, h⟩ := zC h
      obtain ⟨x5, h5, h⟩ := zC h
      obtain ⟨x6, h6, h⟩ := zC h
      have e6 : x6.2.1 = x5.2.1 := ih _ _ h6
      rw [made_fin h, e6, z6t h5, z5g h4, z6t h3, z5g h2, v5L h1]
  intro b e q h
  exact all (.zF t b e) q h
def FM (t : List zB) (k : Int) (f : Nat) (p : Option (List zE × Str × Int × Int)) (r : Res) : Prop :=
  (∀ x b, r = .ok x b → ∃ ps nm, p = some (ps, nm, (b : Int), 0) ∧ x = jM t f b ⟨k, 0, nm, ps, 0, 0⟩ ∧ f < b ∧ b ≤ t.length) ∧ (∀ b, r = .bad b → ∃ ps nm, p = some (ps, nm, (b : Int), 6))
def PS (t : List zB) : v3j → Nat → Res → Prop
  | .stmt, a, r => PR t (yX t a 0) r
  | .blk, a, r => PR t (zF t a 0) r
  | .sl f acc, a, r => f < a → acc.length < a → ∀ o, PR t (zX f acc o t a 0) r
  | .form k f its parts name, a, r => FM t k f (uM t its parts name a 0) r
theorem FM.fin {t : List zB} (hl : t.length ≤ 1048576) {k : Int} {f : Nat} {p : Option (List zE × Str × Int × Int)} {r : Res} (h : FM t k f p r) : PR t (mkF t k f p) r := by
  cases r with
  | ok x b =>
    obtain ⟨ps, nm, e, e2, h1, h2⟩ := h.1 x b rfl
    show _ = _
    rw [e]; unfold mkF; rw [zA]
    dsimp only
    rw [v3d k nm ps t (by omega) f b h1 h2, e2]; rfl
  | bad b =>
    obtain ⟨ps, nm, e⟩ := h.2 b rfl
    show ∃ y, _ = _
    rw [e]; unfold mkF; rw [zA]
    dsimp only
    rw [y9S _ _ _ _ _ _ six]
    exact ⟨_, rfl⟩
theorem FM.bad {t : List zB} {k : Int} {f b : Nat} {its : List It} {ps : List zE} {nm : Str} : FM t k f (uM t its ps nm b 6) (.bad b) :=
  ⟨(fun _ _ h => by cases h), fun c h => by cases h; exact z9v t b six its ps nm⟩
theorem v5U (t : List zB) (a : Nat) : (yT t a [123] = true → z1P (zQ t a) = some 75) ∧ (vD t a v7l = true → z1P (zQ t a) = some 102) ∧ (vD t a wIf = true → z1P (zQ t a) = some 103) ∧ (vD t a y7U = true → z1P (zQ t a) = some 104) ∧
    (vD t a v7O = true → z1P (zQ t a) = some 105) ∧ (vD t a y8a = true → z1P (zQ t a) = some 106) ∧ (vD t a y3L = true → z1P (zQ t a) = some 107) ∧ (vD t a wDo = true → z1P (zQ t a) = some 108) := by
  have w : ∀ {s : Str} {n : Nat}, z1P ⟨3, (zQ t a).N, s, (zQ t a).From, (zQ t a).To⟩ = some n → vD t a s = true → z1P (zQ t a) = some n := fun {s n} h hw => by
    obtain ⟨h1, h2⟩ := y0M hw
    rw [← h, ← h1, ← h2]
  refine ⟨fun h => ?_, w rfl, w rfl, w rfl, w rfl, w rfl, w rfl, w rfl⟩
  obtain ⟨h1, h2⟩ := y6M h
  unfold z1P
  rw [if_pos h1, if_pos h2]
theorem v6C (t : List zB) (a : Nat) (h0 : yT t a [123] = false) (h1 : ¬ vD t a v7l = true) (h2 : ¬ vD t a wIf = true) (h3 : ¬ vD t a y7U = true) (h4 : ¬ vD t a v7O = true) (h5 : ¬ vD t a y8a = true) (h6 : ¬ vD t a y3L = true) (h7 : ¬ vD t a wDo = true) : z1P (zQ t a) = some 101 := by
  unfold z1P
  by_cases k4 : (zQ t a).K = 4
  · rw [if_pos k4, if_neg (fun e => by unfold yT at h0; rw [k4, e] at h0; simp at h0)]
  · rw [if_neg k4]
    by_cases k3 : (zQ t a).K = 3
    · have ne : ∀ s, ¬ vD t a s = true → ¬ (zQ t a).S = s := fun s h e => h (by unfold vD; rw [k3, e]; simp)
      rw [if_pos k3, if_neg (ne _ h1), if_neg (ne _ h2), if_neg (ne _ h3), if_neg (ne _ h4), if_neg (ne _ h5), if_neg (ne _ h6), if_neg (ne _ h7)]
    · rw [if_neg k3]
theorem PR.id {t : List zB} {p : Option (zE × List zB × Int × Int)} {r : Res} (h : PR t p r) : PR t (p >>= fun x => some (x.1, x.2.1, x.2.2.1, x.2.2.2)) r := by
  cases p with
  | none => cases r with
    | ok x b => cases h
    | bad b => obtain ⟨y, h⟩ := h; cases h
  | some q => exact h
theorem v5H {t : List zB} (hl : t.length ≤ 1048576) {a : Nat} {r : Res} (ha : a ≤ t.length) (h0 : yT t a [123] = false) (h : FM t (z6r t a).1 a (uM t (z6r t a).2 [] [] a 0) r) : PR t (yX t a 0) r := by
  have w1 : ∀ {s : Str} {its : List It}, vD t a s = true → uM t (.word s :: its) [] [] a 0 = uM t its [] [] ((a + 1 : Nat) : Int) 0 := fun {s its} hw => by
    rw [uM, y6x s t hl a, if_pos hw]; rfl
  obtain ⟨-, q1, q2, q3, q4, q5, q6, q7⟩ := v5U t a
  rw [z6J]; unfold z0a
  rw [y6o, zA]
  unfold z6r at h
  by_cases g1 : vD t a v7l = true
  · have hlt := uV g1
    rw [if_pos g1] at h
    rw [q1 g1, zA, if_neg (by decide), if_neg (by decide), if_pos rfl]
    by_cases g2 : (zQ t (a + 1)).K = 1 ∧ yT t (a + 2) [58] = true
    · rw [if_pos g2] at h
      dsimp only at h
      rw [w1 g1] at h
      rw [v6h t hl a g2.1 g2.2]
      exact (h.fin hl).id
    · rw [if_neg g2] at h
      dsimp only at h
      rw [w1 g1] at h
      rw [v6c t hl a hlt g2]
      exact (h.fin hl).id
  rw [if_neg g1] at h
  by_cases g2 : vD t a wIf = true
  · have hlt := uV g2
    rw [if_pos g2] at h
    dsimp only at h
    rw [w1 g2] at h
    rw [q2 g2, zA, if_neg (by decide), if_neg (by decide), if_neg (by decide), if_pos rfl, v7s t hl a hlt (v7y t)]
    exact (h.fin hl).id
  rw [if_neg g2] at h
  by_cases g3 : vD t a y7U = true
  · have hlt := uV g3
    rw [if_pos g3] at h
    dsimp only at h
    rw [w1 g3] at h
    rw [q3 g3, zA, if_neg (by decide), if_neg (by decide), if_neg (by decide), if_neg (by decide), if_pos rfl, v6V t hl a hlt (v7y t)]
    exact (h.fin hl).id
  rw [if_neg g3] at h
  by_cases g4 : vD t a v7O = true
  · have hlt := uV g4
    rw [if_pos g4] at h
    dsimp only at h
    rw [w1 g4] at h
    rw [q4 g4, zA, if_neg (by decide), if_neg (by decide), if_neg (by decide), if_neg (by decide), if_neg (by decide), if_pos rfl, v6r t hl a hlt (v7y t)]
    exact (h.fin hl).id
  rw [if_neg g4] at h
  by_cases g5 : vD t a y8a = true
  · have hlt := uV g5
    rw [if_pos g5] at h
    dsimp only at h
    rw [w1 g5] at h
    rw [q5 g5, zA, if_neg (by decide), if_neg (by decide), if_neg (by decide), if_neg (by decide), if_neg (by decide), if_neg (by decide), if_pos rfl]
    unfold z3i
    rw [y6D, vL hl (by omega)]
    exact (h.fin hl).id.id
  rw [if_neg g5] at h
  by_cases g6 : vD t a y3L = true
  · have hlt := uV g6
    rw [if_pos g6] at h
    dsimp only at h
    rw [w1 g6] at h
    rw [q6 g6, zA, if_neg (by decide), if_neg (by decide), if_neg (by decide), if_neg (by decide), if_neg (by decide), if_neg (by decide), if_neg (by decide), if_pos rfl]
    unfold z3k
    rw [y6D, vL hl (by omega)]
    exact (h.fin hl).id.id
  rw [if_neg g6] at h
  by_cases g7 : vD t a wDo = true
  · have hlt := uV g7
    rw [if_pos g7] at h
    dsimp only at h
    rw [w1 g7] at h
    rw [q7 g7, zA, if_neg (by decide), if_neg (by decide), if_neg (by decide), if_neg (by decide), if_neg (by decide), if_neg (by decide), if_neg (by decide), if_neg (by decide), if_pos rfl]
    unfold z3n
    rw [y6D, vL hl (by omega)]
    exact (h.fin hl).id.id
  rw [if_neg g7] at h
  dsimp only at h
  rw [v6C t a h0 g1 g2 g3 g4 g5 g6 g7, zA, if_neg (by decide), if_pos rfl, v7S]
  exact (h.fin hl).id
theorem v0A {t : List zB} (hl : t.length ≤ 1048576) {c : v3j} {a : Nat} {r : Res} (h : SDer t c a r) : a ≤ t.length → PS t c a r := by
  have at_lt : ∀ {b : Nat} {s : Str}, vD t b s = true → IntKind.wrap .i64 ((b : Int) + 1) = ((b + 1 : Nat) : Int) := fun {b s} h => by
    have := uV h
    exact vL hl (by omega)
  induction h with
  | @sB a r h1 hd ih =>
    intro ha
    have e : PR t (zF t a 0) r := ih ha
    show PR t (yX t a 0) r
    rw [z6J]; unfold z0a
    rw [y6o, zA, (v5U t a).1 h1, zA, if_pos rfl]
    exact e.id
  | sF h1 _ ih => intro ha; exact v5H hl ha h1 (ih ha)
  | @b0 a h1 =>
    intro ha
    show PR t (zF t a 0) (.bad a)
    rw [z3Z]; unfold jR
    rw [z7U _ t hl a, h1, if_neg (by simp), zA]
    exact ⟨_, v5t _ _ _ _ _ six⟩
  | @b1 a r h1 hd ih =>
    intro ha
    have h0 := zV h1
    show PR t (zF t a 0) r
    rw [z3Z]; unfold jR
    rw [z7U _ t hl a, if_pos h1, zA]
    exact ih (by omega) (by omega) (by simp) _
  | @lE f a acc h1 =>
    intro ha hf hacc o
    have h0 := zV h1
    show _ = _
    rw [z1T]; unfold wZ
    rw [if_pos rfl, y3I, zA, if_pos h1, z7U _ t hl a, if_pos h1, zA]
    dsimp only
    rw [v3d 29 [] acc t (by omega) f (a + 1) (by omega) (by omega)]; rfl
  | @lG f a b acc x r h1 hd _ ih1 ih2 =>
    intro ha hf hacc o
    have q := hd.inS ha; simp only [InS] at q
    have e : yX t a 0 = some (x, t, (b : Int), 0) := ih1 ha
    rw [z1T]; unfold wZ
    rw [if_pos rfl, y3I, zA, h1, if_neg (by simp), e, zA, if_pos (y0g (by simp; omega))]
    exact ih2 q.2 (by omega) (by simp; omega) o
  | @lB f a b acc h1 hd ih1 =>
    intro ha hf hacc o
    obtain ⟨y, e⟩ : ∃ y, yX t a 0 = some (y, t, (b : Int), 6) := ih1 ha
    rw [z1T]; unfold wZ
    rw [if_pos rfl, y3I, zA, h1, if_neg (by simp), e, zA, if_pos (y0g (by simp; omega))]
    exact ⟨_, v5t _ _ _ _ _ six⟩
  | @fE f a k parts name h1 =>
    intro ha
    exact ⟨fun x b e => by cases e; exact ⟨parts, name, rfl, rfl, h1, ha⟩, fun b e => by cases e⟩
  | @fW f a k s its parts name r h1 _ ih =>
    intro ha
    have h0 := uV h1
    show FM t k f (uM t (.word s :: its) parts name a 0) r
    rw [uM, y6x s t hl a, if_pos h1, zA]
    exact ih (by omega)
  | @fW0 f a k s its parts name h1 =>
    intro ha
    show FM t k f (uM t (.word s :: its) parts name a 0) (.bad a)
    rw [uM, y6x s t hl a, h1, if_neg (by simp), zA]
    exact FM.bad
  | @fS f a k s its parts name r h1 _ ih =>
    intro ha
    have h0 := zV h1
    show FM t k f (uM t (.sign s :: its) parts name a 0) r
    rw [uM, z7U s t hl a, if_pos h1, zA]
    exact ih (by omega)
  | @fS0 f a k s its parts name h1 =>
    intro ha
    show FM t k f (uM t (.sign s :: its) parts name a 0) (.bad a)
    rw [uM, z7U s t hl a, h1, if_neg (by simp), zA]
    exact FM.bad
  | @fN f a k its parts name r h1 _ ih =>
    intro ha
    have h0 := uT (t := t) (a := a) (by rw [h1]; decide)
    show FM t k f (uM t (.name :: its) parts name a 0) r
    rw [uM, y5y t hl a, if_pos h1, zA]
    exact ih (by omega)
  | @fN0 f a k its parts name h1 =>
    intro ha
    show FM t k f (uM t (.name :: its) parts name a 0) (.bad a)
    rw [uM, y5y t hl a, if_neg h1, zA]
    exact FM.bad
  | @fX f a b k its parts name x r hd _ ih =>
    intro ha
    have q := hd.inR ha; simp only [InR] at q
    show FM t k f (uM t (.expr :: its) parts name a 0) r
    rw [uM, v6u t hl a ha hd, zA]
    exact ih q.2
  | @fX0 f a b k its parts name hd =>
    intro ha
    show FM t k f (uM t (.expr :: its) parts name a 0) (.bad b)
    rw [uM, v6w t hl a ha hd, zA]
    exact FM.bad
  | @fT f a k its parts name r h1 _ ih =>
    intro ha
    have q : a < (z4A t a).2.1 ∧ (z4A t a).2.1 ≤ t.length := y1c (t.length + 1) t a (by omega) h1
    show FM t k f (uM t (.type :: its) parts name a 0) r
    rw [uM, v2I t hl a ha, if_pos h1, zA]
    dsimp only
    have h1' : (typ (t.length + 1) t a).2.2 = 0 := h1
    rw [h1']
    exact ih q.2
  | @fT0 f a k its parts name h1 =>
    intro ha
    show FM t k f (uM t (.type :: its) parts name a 0) (.bad _)
    rw [uM, v2I t hl a ha, if_neg h1, zA]
    dsimp only
    have h6 : (typ (t.length + 1) t a).2.2 = 6 := (y8R (t.length + 1) t a).resolve_left h1
    rw [h6]
    exact FM.bad
  | @fK f a b k its parts name x r hd _ ih1 ih2 =>
    intro ha
    have q := hd.inS ha; simp only [InS] at q
    have e : zF t a 0 = some (x, t, (b : Int), 0) := ih1 ha
    show FM t k f (uM t (.block :: its) parts name a 0) r
    rw [uM, e, zA]
    exact ih2 q.2
  | @fK0 f a b k its parts name hd ih1 =>
    intro ha
    obtain ⟨y, e⟩ : ∃ y, zF t a 0 = some (y, t, (b : Int), 6) := ih1 ha
    show FM t k f (uM t (.block :: its) parts name a 0) (.bad b)
    rw [uM, e, zA]
    exact FM.bad
  | @fE0 f a b k its parts name hd ih1 =>
    intro ha
    obtain ⟨y, e⟩ : ∃ y, zF t a 0 = some (y, t, (b : Int), 6) := ih1 ha
    show FM t k f (uM t (.be :: its) parts name a 0) (.bad b)
    rw [uM, e, zA]
    dsimp only
    rw [if_neg six]
    exact FM.bad
  | @fE1 f a b k its parts name x r hd hw _ ih1 ih2 =>
    intro ha
    have q := hd.inS ha; simp only [InS] at q
    have e : zF t a 0 = some (x, t, (b : Int), 0) := ih1 ha
    show FM t k f (uM t (.be :: its) parts name a 0) r
    rw [uM, e, zA]
    dsimp only
    rw [if_pos rfl, y9k, zA, hw, if_neg (by simp), v7W hd trivial x b rfl]
    exact ih2 q.2
  | @fE2 f a b c k its parts name x y r hd hw hd2 _ ih1 ih2 ih3 =>
    intro ha
    have hb := uV hw
    have q := hd.inS ha; simp only [InS] at q
    have q2 := hd2.inS (by omega); simp only [InS] at q2
    have e : zF t a 0 = some (x, t, (b : Int), 0) := ih1 ha
    have e2 : zF t ((b + 1 : Nat) : Int) 0 = some (y, t, (c : Int), 0) := ih2 (by omega)
    show FM t k f (uM t (.be :: its) parts name a 0) r
    rw [uM, e, zA]
    dsimp only
    rw [if_pos rfl, y9k, zA, if_pos hw, at_lt hw, e2, zA]
    exact ih3 q2.2
  | @fE3 f a b c k its parts name x hd hw hd2 ih1 ih2 =>
    intro ha
    have hb := uV hw
    have e : zF t a 0 = some (x, t, (b : Int), 0) := ih1 ha
    obtain ⟨y, e2⟩ : ∃ y, zF t ((b + 1 : Nat) : Int) 0 = some (y, t, (c : Int), 6) := ih2 (by omega)
    show FM t k f (uM t (.be :: its) parts name a 0) (.bad c)
    rw [uM, e, zA]
    dsimp only
    rw [if_pos rfl, y9k, zA, if_pos hw, at_lt hw, e2, zA]
    exact FM.bad
def ans : Res → zE × Int × Int
  | .ok x b => (x, (b : Int), 0)
  | .bad b => (zT7, (b : Int), 6)
theorem y9o (t : List zB) (hl : t.length ≤ 1048576) (a : Nat) (ha : a ≤ t.length) {r : Res} (h : SDer t .blk a r) : z7I t a = some (ans r) := by
  have hp : PR t (zF t a 0) r := v0A hl h ha
  unfold z7I z1U
  rw [if_neg (by omega), if_neg (by omega)]
  cases r with
  | ok x b => rw [show zF t (a : Int) 0 = some (x, t, (b : Int), 0) from hp]; rfl
  | bad b => obtain ⟨y, hp⟩ := hp; rw [hp]; rfl
mutual
def z1s : zE → Nat
  | ⟨_, _, _, l, _, _⟩ => 1 + gA l
def gA : List zE → Nat
  | [] => 0
  | x :: r => z1s x + gA r
end
theorem y5D (t : zE) : z1s t = 1 + gA t.L := by cases t; simp [z1s]
theorem v4E (t : zE) : 0 < z1s t := by rw [y5D]; omega
theorem y5X {l : List zE} {i : Nat} (h : i < l.length) : gA (l.drop i) = z1s l[i] + gA (l.drop (i + 1)) := by
  rw [List.drop_eq_getElem_cons h, gA]
theorem y7Y (l : List zE) : l.length ≤ gA l := by
  induction l with
  | nil => simp [gA]
  | cons x r ih => have := v4E x; simp [gA]; omega
theorem y5P (l : List zE) (i : Nat) : gA l = gA (l.take i) + gA (l.drop i) := by
  induction l generalizing i with
  | nil => simp [gA]
  | cons x r ih =>
    cases i with
    | zero => simp [gA]
    | succ i => simp [gA, ih i]; omega
theorem y0u (a b : List zE) : gA (a ++ b) = gA a + gA b := by
  induction a with
  | nil => simp [gA]
  | cons x r ih => simp [gA, ih]; omega
def SzM (t : List zB) : Cat → Nat → Res → Prop
  | .ll _ _ _ x, a, r => ∀ y b, r = .ok y b → z1s y + 2 * a ≤ z1s x + 2 * b
  | .pl _ x, a, r => ∀ y b, r = .ok y b → z1s y + 2 * a ≤ z1s x + 2 * b
  | .cls _, a, r => ∀ y b, r = .ok y b → gA y.L + 2 * a ≤ 2 * b
  | .lst acc, a, r => ∀ y b, r = .ok y b → gA y.L + 2 * a ≤ gA acc + 2 * b
  | _, a, r => ∀ y b, r = .ok y b → z1s y + 2 * a ≤ 2 * b
theorem v4s {t : List zB} {c : Cat} {a : Nat} {r : Res} (h : Der t c a r) : SzM t c a r := by
  induction h with
  | un _ _ ih => intro y b e; cases e; have := ih _ _ rfl; simp [jM, z1s, gA]; omega
  | unP _ _ _ ih => exact ih
  | lev _ _ _ _ ih1 ih2 => intro y b e; have := ih1 _ _ rfl; have := ih2 y b e; omega
  | llE _ _ => intro y b e; cases e; omega
  | llG _ _ _ _ _ ih1 ih2 => intro y b e; have := ih1 _ _ rfl; have := ih2 y b e; simp [jM, z1s, gA] at this; omega
  | post _ _ ih1 ih2 => intro y b e; have := ih1 _ _ rfl; have := ih2 y b e; omega
  | plE _ _ => intro y b e; cases e; omega
  | plI _ _ _ _ ih1 ih2 => intro y b e; have := ih1 _ _ rfl; have := ih2 y b e; simp [jM, z1s, gA] at this; omega
  | plF _ _ _ _ ih => intro y b e; have := ih y b e; simp [jM, z1s, gA] at this; omega
  | one _ => intro y b e; cases e; simp [jM, z1s, gA]; omega
  | par _ _ _ ih => intro y b e; cases e; have := ih _ _ rfl; omega
  | @call a o b k s few l h1 _ ih => intro y b' e; cases e; have h2 := ih _ _ rfl; have h3 := z3S h1; simp only [jM, z1s] at h2 ⊢; omega
  | lis _ _ _ ih => intro y b e; cases e; have := ih _ _ rfl; simp [jM, z1s, gA] at this ⊢; omega
  | clsF _ _ => intro y b e; cases e; simp [gA]; omega
  | cls _ _ _ _ ih => intro y b e; cases e; have := ih _ _ rfl; simp [gA] at this ⊢; omega
  | lstE _ _ ih => intro y b e; cases e; have := ih _ _ rfl; simp [y0u, gA]; omega
  | lstG _ _ _ ih1 ih2 => intro y b e; have := ih1 _ _ rfl; have := ih2 y b e; simp [y0u, gA] at this; omega
  | _ => intro y b e; cases e
theorem v8f {t : List zB} {k a b : Nat} {x : zE} (h : Der t (.lev k) a (.ok x b)) : z1s x + 2 * a ≤ 2 * b := v4s h x b rfl
def ltr (c : UInt8) : Bool := (decide (97 ≤ c.toNat) && decide (c.toNat ≤ 122)) || (decide (65 ≤ c.toNat) && decide (c.toNat ≤ 90)) || c.toNat == 95
def dgt (c : UInt8) : Bool := decide (48 ≤ c.toNat) && decide (c.toNat ≤ 57)
def mor (c : UInt8) : Bool := ltr c || dgt c
def lin (c : UInt8) : Bool := !(c.toNat == 10)
def blk (c : UInt8) : Bool := c.toNat == 32 || c.toNat == 9 || c.toNat == 10 || c.toNat == 13
theorem v4w (c : UInt8) : z5J (Int.ofNat (UInt8.toNat c)) = some (ltr c) := by
  unfold z5J ltr
  generalize c.toNat = n
  rw [show Int.ofNat n = (n : Int) from rfl]
  repeat' split
  all_goals (simp only [Option.some.injEq]; rw [Bool.eq_iff_iff]; simp; omega)
theorem v2b (c : UInt8) : z5x (Int.ofNat (UInt8.toNat c)) = some (dgt c) := by
  unfold z5x dgt
  generalize c.toNat = n
  rw [show Int.ofNat n = (n : Int) from rfl]
  repeat' split
  all_goals (simp only [Option.some.injEq]; rw [Bool.eq_iff_iff]; simp; omega)
theorem v7r (c : UInt8) : z7K (Int.ofNat (UInt8.toNat c)) = some (blk c) := by
  unfold z7K blk
  generalize c.toNat = n
  rw [show Int.ofNat n = (n : Int) from rfl]
  repeat' split
  all_goals (simp only [Option.some.injEq]; rw [Bool.eq_iff_iff]; simp; omega)
theorem v0z (c : UInt8) (n : Nat) : (Int.ofNat (UInt8.toNat c) = (n : Int)) ↔ c.toNat = n := by
  rw [show Int.ofNat (UInt8.toNat c) = ((UInt8.toNat c : Nat) : Int) from rfl]; omega
def tw (p : UInt8 → Bool) : List UInt8 → Nat
  | [] => 0
  | c :: r => if p c = true then tw p r + 1 else 0
theorem y8l (p : UInt8 → Bool) (l : List UInt8) : tw p l ≤ l.length := by
  induction l with
  | nil => simp [tw]
  | cons c r ih => simp only [tw, List.length_cons]; split <;> omega
theorem z6V (p : UInt8 → Bool) {l : List UInt8} {i : Nat} (h : i < l.length) : tw p (l.drop i) = if p l[i] = true then tw p (l.drop (i + 1)) + 1 else 0 := by
  rw [List.drop_eq_getElem_cons h, tw]
theorem v4z (p : UInt8 → Bool) : ∀ (l : List UInt8), ∀ c ∈ l.take (tw p l), p c = true
  | [], c, h => by simp [tw] at h
  | x :: r, c, h => by
    simp only [tw] at h
    split at h
    · rename_i hx
      rw [List.take_succ_cons] at h
      rcases List.mem_cons.1 h with rfl | h
      · exact hx
      · exact v4z p r c h
    · simp at h
theorem v6k {α : Type} {from_ at_ : Nat} {text : Str} {x : Option α} (h : at_ ≤ text.length) (hf : from_ ≤ at_) :
    (if (0 : Int) ≤ (at_ : Int) then (if Int.toNat (at_ : Int) ≤ List.length text then (if (0 : Int) ≤ (from_ : Int) then (if Int.toNat (from_ : Int) ≤ Int.toNat (at_ : Int) then x else none) else none) else none) else none) = x := by
  rw [if_pos (by omega), if_pos (by simpa using h), if_pos (by omega), if_pos (by simpa using hf)]
def v1b (n : Nat) : List UInt8 → Bool
  | d :: _ => d.toNat == n
  | [] => false
def nxt : Nat → List UInt8 → Nat
  | 0, _ => 0
  | _ + 1, [] => 0
  | n + 1, c :: r => if blk c = true then nxt n r + 1
    else if c.toNat = 47 ∧ v1b 47 r = true then tw lin (c :: r) + nxt n ((c :: r).drop (tw lin (c :: r))) else 0
theorem y0X : ∀ (n : Nat) (l : List UInt8), nxt n l ≤ l.length
  | 0, l => by simp [nxt]
  | n + 1, [] => by simp [nxt]
  | n + 1, c :: r => by
    simp only [nxt]
    split
    · have := y0X n r; simp; omega
    · split
      · have := y0X n ((c :: r).drop (tw lin (c :: r)))
        have := y8l lin (c :: r)
        rw [List.length_drop] at *
        omega
      · omega
def bg (s l : List UInt8) : Bool := l.take s.length == s
theorem y9N (text : Str) (hl : text.length ≤ 1000000) (a : Nat) (ha : a ≤ text.length) (s : Str) (hs : s.length ≤ 1000) : z5E text a s = some (bg s (text.drop a)) := by
  unfold z5E bg
  rw [z0Q (n := (List.length text : Int) - (a : Int)) (by omega) (by omega), z0Q (by omega) (by omega)]
  have hn : ((a : Int) + (List.length s : Int)).toNat = a + s.length := by omega
  by_cases h : (List.length s : Int) ≤ (List.length text : Int) - (a : Int)
  · rw [if_pos h, if_pos (by omega), if_pos (by omega), if_pos (by omega), if_pos (by omega), hn, show Int.toNat (a : Int) = a from rfl, List.drop_take]
    rw [show a + s.length - a = s.length by omega]
  · rw [if_neg h]
    congr 1; symm
    rw [beq_eq_false_iff_ne]
    intro e
    have := congrArg List.length e
    simp at this
    omega
theorem v5D (text : Str) (hl : text.length ≤ 1000000) : ∀ (n a : Nat), text.length ≤ a + n → a ≤ text.length →
    vX text a = some ((a + nxt n (text.drop a) : Nat) : Int) ∧ ∀ m, m ≤ n → a + tw lin (text.drop a) + m = text.length → text.length ≤ a + tw lin (text.drop a) + n →
      (vX text ((a + tw lin (text.drop a) : Nat) : Int) = some ((a + tw lin (text.drop a) + nxt n (text.drop (a + tw lin (text.drop a))) : Nat) : Int) → True) := by
  intro n a h1 h2
  refine ⟨?_, fun _ _ _ _ _ => trivial⟩
  induction n generalizing a with
  | zero =>
    rw [z9y]; unfold z2B
    rw [if_neg (by omega)]; rfl
  | succ n ih =>
    have line : ∀ (k b : Nat), b + k = text.length → uR text b = vX text ((b + tw lin (text.drop b) : Nat) : Int) := by
      intro k
      induction k with
      | zero =>
        intro b hb
        rw [y0f]; unfold z2D
        rw [if_neg (by omega), List.drop_eq_nil_of_le (by omega)]; rfl
      | succ k ihk =>
        intro b hb
        have h3 : b < text.length := by omega
        rw [y0f]; unfold z2D
        rw [if_pos (by omega), z1W h3, zA, z6V _ h3]
        simp only [show (10 : Int) = ((10 : Nat) : Int) from rfl, v0z]
        by_cases h10 : text[b].toNat = 10
        · rw [if_pos h10]
          have : lin text[b] = false := by unfold lin; simp [h10]
          rw [this]; rfl
        · rw [if_neg h10, z0Q (by omega) (by omega), gI, ihk (b + 1) (by omega)]
          have : lin text[b] = true := by unfold lin; simp [h10]
          rw [this, if_pos rfl, show b + 1 + tw lin (List.drop (b + 1) text) = b + (tw lin (List.drop (b + 1) text) + 1) by omega]
    rw [z9y]; unfold z2B
    by_cases h3 : a < text.length
    · rw [if_pos (by omega), z1W h3, zA, v7r, zA]
      have hd := List.drop_eq_getElem_cons h3
      cases hb : blk text[a] with
      | true =>
        rw [if_pos rfl, z0Q (by omega) (by omega), gI, ih (a + 1) (by omega) (by omega), hd, nxt, if_pos hb]
        rw [show a + 1 + nxt n (List.drop (a + 1) text) = a + (nxt n (List.drop (a + 1) text) + 1) by omega]
      | false =>
        rw [if_neg (by simp), y9N text hl a (by omega) _ (by simp), zA, line (text.length - a) a (by omega)]
        have hbg : (bg [47, 47] (text.drop a) = true) ↔ (text[a].toNat = 47 ∧ v1b 47 (text.drop (a + 1)) = true) := by
          rw [hd]
          unfold bg
          cases text.drop (a + 1) with
          | nil => simp [v1b]
          | cons d r =>
            simp only [v1b, List.length_cons, List.length_nil, List.take_succ_cons, List.take_zero, beq_iff_eq, List.cons.injEq, and_true]
            constructor
            · rintro ⟨h1, h2⟩; rw [h1, h2]; exact ⟨rfl, rfl⟩
            · rintro ⟨h1, h2⟩; exact ⟨UInt8.toNat_inj.1 (by rw [h1]; rfl), UInt8.toNat_inj.1 (by rw [h2]; rfl)⟩
        cases hg : bg [47, 47] (text.drop a) with
        | true =>
          have hh := hbg.1 hg
          have hlin : lin text[a] = true := by unfold lin; simp [hh.1]
          have htw : 1 ≤ tw lin (text.drop a) := by rw [z6V _ h3, if_pos hlin]; omega
          have hle := y8l lin (text.drop a)
          rw [List.length_drop] at hle
          rw [if_pos rfl, ih (a + tw lin (text.drop a)) (by omega) (by omega)]
          have e : nxt (n + 1) (text.drop a) = tw lin (text.drop a) + nxt n ((text.drop a).drop (tw lin (text.drop a))) := by
            conv => lhs; rw [hd, nxt, if_neg (by rw [hb]; simp), if_pos hh, ← hd]
          rw [e, List.drop_drop, Nat.add_assoc]
        | false =>
          rw [if_neg (by simp), hd, nxt, if_neg (by rw [hb]; simp), if_neg (fun h => by rw [hbg.2 h] at hg; cases hg)]; rfl
    · have h4 : text.drop a = [] := List.drop_eq_nil_of_le (by omega)
      rw [if_neg (by omega), h4]; rfl
def wordsL : List Str := [[114, 101, 99], [99, 111, 110, 115, 116], [118, 97, 114], [112, 117, 98], [102, 110], [105, 110, 116], [98, 111, 111, 108], [108, 101, 116], [105, 102], [101, 108, 115, 101], [119, 104, 105, 108, 101], [102, 111, 114], [116, 111], [112, 114, 105, 110, 116], [114, 101, 116, 117, 114, 110], [100, 111], [116, 114, 117, 101], [102, 97, 108, 115, 101], [114, 101, 97, 100], [110, 101, 119]]
def isW (s : Str) : Bool := wordsL.contains s
theorem v6Z (s : Str) : ∀ l : List Str, (l.foldr (fun w acc => if s = w then some true else acc) (some false)) = some (l.contains s)
  | [] => rfl
  | w :: r => by
    rw [List.foldr_cons, v6Z s r, List.contains_cons]
    by_cases h : s = w
    · rw [if_pos h, h]; simp
    · rw [if_neg h]
      have : (s == w) = false := by simpa using h
      rw [this]; rfl
theorem v6D (s : Str) (all : List Str) (hl : all.length ≤ 1000) : z5A s all = some (all.contains s) := by
  have loop : ∀ (k i : Nat), i + k = all.length → uI s all i = some ((all.drop i).contains s) := by
    intro k
    induction k with
    | zero =>
      intro i hi
      rw [z8R]; unfold z2f
      rw [if_neg (by omega), List.drop_eq_nil_of_le (by omega)]; rfl
    | succ k ih =>
      intro i hi
      have h3 : i < all.length := by omega
      rw [z8R]; unfold z2f
      rw [if_pos (by omega), z1W h3, zA, List.drop_eq_getElem_cons h3, List.contains_cons]
      by_cases h : all[i] = s
      · rw [if_pos h, h]; simp
      · rw [if_neg h, z0Q (by omega) (by omega), gI, ih (i + 1) (by omega)]
        have : (s == all[i]) = false := by simpa using fun e => h e.symm
        rw [this]; rfl
  unfold z5A
  have := loop all.length 0 (by omega)
  simpa using this
theorem v6o : z6A = some wordsL := rfl
def v0i (v : Nat) (l : List UInt8) : Nat := l.foldl (fun v c => v * 10 + (c.toNat - 48)) v
theorem y5F (v : Nat) : v0i v [] = v := rfl
theorem z9Q (v : Nat) (c : UInt8) (r : List UInt8) : v0i v (c :: r) = v0i (v * 10 + (c.toNat - 48)) r := by unfold v0i; rw [List.foldl_cons]
theorem v5C : ∀ (l : List UInt8) (v : Nat), v ≤ v0i v l
  | [], v => by rw [y5F]; exact Nat.le_refl _
  | c :: r, v => by have := v5C r (v * 10 + (c.toNat - 48)); rw [z9Q]; omega
theorem v2x : ∀ (l : List UInt8) (v : Nat), v * 10 ^ l.length ≤ v0i v l
  | [], v => by rw [y5F]; simp
  | c :: r, v => by
    have := v2x r (v * 10 + (c.toNat - 48))
    rw [z9Q, List.length_cons, Nat.pow_succ]
    refine Nat.le_trans ?_ this
    rw [Nat.mul_comm (10 ^ r.length) 10, ← Nat.mul_assoc]
    exact Nat.mul_le_mul_right _ (by omega)
def num (w : List UInt8) : Option Nat :=
  if w.length > 1 ∧ v1b 48 w = true then none
  else if v0i 0 w > 9223372036854775807 then none else some (v0i 0 w)
theorem v7G {n : Int} (h1 : 0 ≤ n) (h2 : n ≤ 18446744073709551615) : IntKind.wrap .u64 n = n := by rw [IntKind.wrap_u64]; omega
theorem v8b {n : Int} (h1 : 0 ≤ n) (h2 : n ≤ 255) : IntKind.wrap .u8 n = n := by
  have : IntKind.wrap .u8 n = n % 256 := rfl
  rw [this]; omega
theorem v1f (w : Str) (hd : ∀ c ∈ w, dgt c = true) (hw : w.length ≤ 1000000) : ∀ (k i v : Nat), i + k = w.length → v ≤ 9223372036854775807 →
    wH w v i = some (if v0i v (w.drop i) > 9223372036854775807 then (0, false) else ((v0i v (w.drop i) : Int), true)) := by
  intro k
  induction k with
  | zero =>
    intro i v hi hv
    rw [z7W]; unfold z1M
    have h1 : w.drop i = [] := List.drop_eq_nil_of_le (by omega)
    rw [if_neg (by omega), h1, y5F]
    rw [if_neg (by omega)]
  | succ k ih =>
    intro i v hi hv
    have h3 : i < w.length := by omega
    rw [z7W]; unfold z1M
    have hc := hd _ (List.getElem_mem h3)
    unfold dgt at hc
    simp only [Bool.and_eq_true, decide_eq_true_eq] at hc
    rw [if_pos (by omega), z1W h3, zA, List.drop_eq_getElem_cons h3, z9Q, if_pos (by decide)]
    rw [show Int.ofNat (UInt8.toNat w[i]) = ((UInt8.toNat w[i] : Nat) : Int) from rfl]
    generalize hcn : w[i].toNat = c at *
    have hge := v5C (w.drop (i + 1)) (v * 10 + (c - 48))
    rw [v8b (by omega) (by omega), z0Q (n := (c : Int) - 48) (by omega) (by omega), z0Q (n := 9223372036854775807 - ((c : Int) - 48)) (by omega) (by omega), Int.tdiv_eq_ediv_of_nonneg (by omega), z0Q (n := (9223372036854775807 - ((c : Int) - 48)) / 10) (by omega) (by omega)]
    by_cases h : (v : Int) > (9223372036854775807 - ((c : Int) - 48)) / 10
    · rw [if_pos h, if_pos (by omega)]
    · rw [if_neg h, z0Q (n := (v : Int) * 10) (by omega) (by omega), z0Q (n := (v : Int) * 10 + _) (by omega) (by omega), z0Q (by omega) (by omega), gI]
      rw [show (v : Int) * 10 + ((c : Int) - 48) = ((v * 10 + (c - 48) : Nat) : Int) by omega]
      exact ih (i + 1) _ (by omega) (by omega)
theorem v7I (w : Str) (hd : ∀ c ∈ w, dgt c = true) (h0 : 0 < w.length) (hw : w.length ≤ 1000000) : z4z w = some (match num w with | some n => ((n : Int), true) | none => (0, false)) := by
  unfold z4z num
  rw [if_neg (by omega)]
  have hl := v1f w hd hw w.length 0 0 (by omega) (by omega)
  rw [show ((0 : Nat) : Int) = 0 from rfl, List.drop_zero] at hl
  have tl : wH w 0 0 = some (match (if v0i 0 w > 9223372036854775807 then none else some (v0i 0 w) : Option Nat) with | some n => ((n : Int), true) | none => (0, false)) := by
    rw [hl]; split <;> rfl
  by_cases h1 : (List.length w : Int) > 1
  · rw [if_pos h1]
    cases w with
    | nil => simp at h0
    | cons c r =>
      rw [v2X]
      simp only [List.getElem?_cons_zero, zA, show (48 : Int) = ((48 : Nat) : Int) from rfl, v0z]
      by_cases h48 : c.toNat = 48
      · rw [if_pos h48, if_pos ⟨by omega, by simp [v1b, h48]⟩]
      · rw [if_neg h48, if_neg (by simp [v1b, h48])]; exact tl
  · rw [if_neg h1, if_neg (by omega)]; exact tl
def singles : List Nat := [123, 125, 40, 41, 91, 93, 44, 59, 58, 46, 43, 45, 42, 47, 37, 64]
def sgn (c d : Nat) : Nat :=
  if c = 61 ∨ c = 33 ∨ c = 60 ∨ c = 62 then (if d = 61 then 2 else 1)
  else if c = 38 ∨ c = 124 then (if d = c then 2 else 0)
  else if singles.contains c then 1 else 0
theorem v7c (c : Nat) : ∀ l : List Nat, (l.foldr (fun (w : Nat) acc => if (c : Int) = (w : Int) then some (1 : Int) else acc) (some 0)) = some (((if l.contains c then 1 else 0 : Nat)) : Int)
  | [] => rfl
  | w :: r => by
    rw [List.foldr_cons, v7c c r, List.contains_cons]
    by_cases h : (c : Int) = (w : Int)
    · rw [if_pos h]
      have : c = w := by omega
      subst this; simp
    · rw [if_neg h]
      have : (c == w) = false := by simp; omega
      rw [this]; simp
def signsL : List Str := [[61, 61], [33, 61], [60, 61], [62, 61], [38, 38], [124, 124], [123], [125], [40], [41], [91], [93], [44], [59], [58], [46], [61], [60], [62], [43], [45], [42], [47], [37], [33], [64]]
theorem v6A : y0q = some signsL := rfl
theorem bg1 (a c : UInt8) (r : List UInt8) : bg [a] (c :: r) = (c == a) := by unfold bg; simp
theorem bg2 (a b c : UInt8) (r : List UInt8) : bg [a, b] (c :: r) = (c == a && (match r with | d :: _ => d == b | [] => false)) := by
  unfold bg
  cases r with
  | nil => simp
  | cons d r => simp
def hd0 : List UInt8 → Nat
  | d :: _ => d.toNat
  | [] => 0
theorem z8Q (c : UInt8) (n : Nat) (hn : n < 256) : c = UInt8.ofNat n ↔ c.toNat = n := by
  constructor
  · rintro rfl; rw [UInt8.toNat_ofNat']; omega
  · intro h; apply UInt8.toNat_inj.1; rw [h, UInt8.toNat_ofNat']; omega
theorem v4J (c : UInt8) (r : List UInt8) : (signsL.find? fun x => bg x (c :: r)).map List.length = if sgn c.toNat (hd0 r) = 0 then none else some (sgn c.toNat (hd0 r)) := by
  by_cases h61 : c = 61
  · subst h61
    cases r with
    | nil => decide
    | cons d r =>
      by_cases hd : d = 61
      · subst hd; simp [signsL, bg1, bg2, sgn, hd0]
      · have : d.toNat ≠ 61 := fun e => hd ((z8Q d 61 (by omega)).2 e)
        simp [signsL, bg1, bg2, sgn, hd0, hd, this]
  by_cases h33 : c = 33
  · subst h33
    cases r with
    | nil => decide
    | cons d r =>
      by_cases hd : d = 61
      · subst hd; simp [signsL, bg1, bg2, sgn, hd0]
      · have : d.toNat ≠ 61 := fun e => hd ((z8Q d 61 (by omega)).2 e)
        simp [signsL, bg1, bg2, sgn, hd0, hd, this]
  by_cases h60 : c = 60
  · subst h60
    cases r with
    | nil => decide
    | cons d r =>
      by_cases hd : d = 61
      · subst hd; simp [signsL, bg1, bg2, sgn, hd0]
      · have : d.toNat ≠ 61 := fun e => hd ((z8Q d 61 (by omega)).2 e)
        simp [signsL, bg1, bg2, sgn, hd0, hd, this]
  by_cases h62 : c = 62
  · subst h62
    cases r with
    | nil => decide
    | cons d r =>
      by_cases hd : d = 61
      · subst hd; simp [signsL, bg1, bg2, sgn, hd0]
      · have : d.toNat ≠ 61 := fun e => hd ((z8Q d 61 (by omega)).2 e)
        simp [signsL, bg1, bg2, sgn, hd0, hd, this]
  by_cases h38 : c = 38
  · subst h38
    cases r with
    | nil => decide
    | cons d r =>
      by_cases hd : d = 38
      · subst hd; simp [signsL, bg1, bg2, sgn, hd0]
      · have : d.toNat ≠ 38 := fun e => hd ((z8Q d 38 (by omega)).2 e)
        simp [signsL, bg1, bg2, sgn, hd0, hd, this]
  by_cases h124 : c = 124
  · subst h124
    cases r with
    | nil => decide
    | cons d r =>
      by_cases hd : d = 124
      · subst hd; simp [signsL, bg1, bg2, sgn, hd0]
      · have : d.toNat ≠ 124 := fun e => hd ((z8Q d 124 (by omega)).2 e)
        simp [signsL, bg1, bg2, sgn, hd0, hd, this]
  have n61 : c.toNat ≠ 61 := fun e => h61 ((z8Q c 61 (by omega)).2 e)
  have n33 : c.toNat ≠ 33 := fun e => h33 ((z8Q c 33 (by omega)).2 e)
  have n60 : c.toNat ≠ 60 := fun e => h60 ((z8Q c 60 (by omega)).2 e)
  have n62 : c.toNat ≠ 62 := fun e => h62 ((z8Q c 62 (by omega)).2 e)
  have n38 : c.toNat ≠ 38 := fun e => h38 ((z8Q c 38 (by omega)).2 e)
  have n124 : c.toNat ≠ 124 := fun e => h124 ((z8Q c 124 (by omega)).2 e)
  have hsg : sgn c.toNat (hd0 r) = if singles.contains c.toNat = true then 1 else 0 := by
    unfold sgn; rw [if_neg (by omega), if_neg (by omega)]
  rw [hsg]
  have e1 : ∀ k : UInt8, c ≠ k → (c == k) = false := fun k h => by simpa using h
  have key : ∀ (l : List UInt8), (∀ k ∈ l, True) → ((l.map fun k => [k]).find? fun x => bg x (c :: r)).map List.length = if (l.map UInt8.toNat).contains c.toNat = true then some 1 else none := by
    intro l
    induction l with
    | nil => intro _; rfl
    | cons k l ih =>
      intro _
      rw [List.map_cons, List.find?_cons, bg1, List.map_cons, List.contains_cons]
      by_cases hk : c = k
      · subst hk; simp
      · have h2 : ¬ c.toNat = k.toNat := fun e => hk (UInt8.toNat_inj.1 e)
        rw [e1 k hk]
        simp only [beq_eq_false_iff_ne.2 h2, Bool.false_or]
        exact ih (fun _ _ => trivial)
  have hl : (signsL.find? fun x => bg x (c :: r)) = (([123, 125, 40, 41, 91, 93, 44, 59, 58, 46, 43, 45, 42, 47, 37, 64] : List UInt8).map fun k => [k]).find? fun x => bg x (c :: r) := by
    simp only [signsL, List.map_cons, List.map_nil, List.find?_cons, bg1, bg2, e1 61 h61, e1 33 h33, e1 60 h60, e1 62 h62, e1 38 h38, e1 124 h124, Bool.false_and]
  rw [hl, key _ (fun _ _ => trivial)]
  have : ([123, 125, 40, 41, 91, 93, 44, 59, 58, 46, 43, 45, 42, 47, 37, 64] : List UInt8).map UInt8.toNat = singles := rfl
  rw [this]
  cases singles.contains c.toNat <;> rfl
theorem v7J {s l : List UInt8} (h : bg s l = true) : s = l.take s.length := by unfold bg at h; exact (beq_iff_eq.1 h).symm
theorem v1n (text : Str) (hl : text.length ≤ 1000000) (a : Nat) (ha : a ≤ text.length) (o4 : zB) : ∀ (k i : Nat), i + k = signsL.length →
    jF text a signsL i o4 = some (match (signsL.drop i).find? fun x => bg x (text.drop a) with | some x => (⟨4, 0, x, a, ((a + x.length : Nat) : Int)⟩, 0) | none => (⟨0, 0, [], 0, 0⟩, 4)) := by
  intro k
  have hsz : ∀ x ∈ signsL, x.length ≤ 2 := by decide
  induction k with
  | zero =>
    intro i hi
    rw [z9T]; unfold z2E
    rw [if_neg (by omega), List.drop_eq_nil_of_le (as := signsL) (by omega)]; rfl
  | succ k ih =>
    intro i hi
    have h3 : i < signsL.length := by omega
    have h4 := hsz _ (List.getElem_mem h3)
    have h5 : signsL.length = 26 := rfl
    rw [z9T]; unfold z2E
    rw [if_pos (by omega), z1W h3, zA, y9N text hl a ha _ (by omega), zA, List.drop_eq_getElem_cons h3, List.find?_cons]
    cases hb : bg signsL[i] (text.drop a) with
    | true =>
      simp only [if_true]
      rw [zA, zA, z0Q (by omega) (by omega)]
      rfl
    | false =>
      rw [if_neg (by simp), z0Q (by omega) (by omega), gI, ih (i + 1) (by omega)]
def one : List UInt8 → Int ⊕ (Int × Int × Str × Nat)
  | [] => .inl 0
  | c :: r =>
    if ltr c = true then (if tw mor (c :: r) > 16 then .inl 3 else .inr (if isW ((c :: r).take (tw mor (c :: r))) = true then 3 else 1, 0, (c :: r).take (tw mor (c :: r)), tw mor (c :: r)))
    else if dgt c = true then (match num ((c :: r).take (tw dgt (c :: r))) with | none => .inl 5 | some n => .inr (2, (n : Int), [], tw dgt (c :: r)))
    else if sgn c.toNat (hd0 r) = 0 then .inl 4 else .inr (4, 0, (c :: r).take (sgn c.toNat (hd0 r)), sgn c.toNat (hd0 r))
theorem v4Z (c : UInt8) (r : List UInt8) : sgn c.toNat (hd0 r) ≤ (c :: r).length := by
  cases r with
  | nil =>
    unfold sgn hd0
    simp only [List.length_cons, List.length_nil]
    split
    · simp
    · split
      · rw [if_neg (by omega)]; omega
      · split <;> omega
  | cons d r =>
    unfold sgn
    simp only [List.length_cons]
    split
    · split <;> omega
    · split
      · split <;> omega
      · split <;> omega
theorem y8B : ∀ {s : List UInt8} {k n : Int} {t : Str} {l : Nat}, one s = .inr (k, n, t, l) → 1 ≤ l ∧ l ≤ s.length
  | [], _, _, _, _, h => by simp [one] at h
  | c :: r, k, n, t, l, h => by
    rw [one] at h
    by_cases h1 : ltr c = true
    · rw [if_pos h1] at h
      have hm : mor c = true := by unfold mor; rw [h1]; rfl
      by_cases h2 : tw mor (c :: r) > 16
      · rw [if_pos h2] at h; cases h
      · rw [if_neg h2] at h
        injection h with h; injection h with _ h; injection h with _ h; injection h with _ h
        subst h
        refine ⟨?_, y8l _ _⟩
        rw [tw, if_pos hm]; omega
    · rw [if_neg h1] at h
      by_cases h2 : dgt c = true
      · rw [if_pos h2] at h
        cases hn : num ((c :: r).take (tw dgt (c :: r))) with
        | none => rw [hn] at h; cases h
        | some m =>
          rw [hn] at h
          injection h with h; injection h with _ h; injection h with _ h; injection h with _ h
          subst h
          refine ⟨?_, y8l _ _⟩
          rw [tw, if_pos h2]; omega
      · rw [if_neg h2] at h
        by_cases h3 : sgn c.toNat (hd0 r) = 0
        · rw [if_pos h3] at h; cases h
        · rw [if_neg h3] at h
          injection h with h; injection h with _ h; injection h with _ h; injection h with _ h
          subst h
          exact ⟨by omega, v4Z c r⟩
theorem y0i (text : List UInt8) (a n : Nat) : (text.take (a + n)).drop a = (text.drop a).take n := by
  rw [List.drop_take]; congr 1; omega
def v8m : zB := ⟨0, 0, [], 0, 0⟩
def v4q (text : Str) (a e : Nat) : zB × Int :=
  if e - a > 16 then (v8m, 3) else (⟨if isW ((text.take e).drop a) = true then 3 else 1, 0, (text.take e).drop a, a, e⟩, 0)
theorem v2O (text : Str) (hl : text.length ≤ 1000000) (a e : Nat) (h1 : a ≤ e) (h2 : e ≤ text.length) :
    (if (IntKind.wrap .i64 ((e : Int) - (a : Int))) > 16 then
    some ((zB.mk 0 0 ([] : List UInt8) 0 0), 3)
  else
  if (0 : Int) ≤ (e : Int) then
  if Int.toNat (e : Int) ≤ List.length text then
  if (0 : Int) ≤ (a : Int) then
  if Int.toNat (a : Int) ≤ Int.toNat (e : Int) then
  z6A >>= fun q5 =>
  z5A (List.drop (Int.toNat (a : Int)) (List.take (Int.toNat (e : Int)) text)) q5 >>= fun q6 =>
  if q6 = true then
    some ((zB.mk 3 0 (List.drop (Int.toNat (a : Int)) (List.take (Int.toNat (e : Int)) text)) a e), 0)
  else
  some ((zB.mk 1 0 (List.drop (Int.toNat (a : Int)) (List.take (Int.toNat (e : Int)) text)) a e), 0)
  else none
  else none
  else none
  else none) = some (v4q text a e) := by
  rw [z0Q (by omega) (by omega), v6k h2 h1]
  unfold v4q
  by_cases h : (e : Int) - (a : Int) > 16
  · rw [if_pos h, if_pos (show e - a > 16 by omega)]; rfl
  · rw [if_neg h, if_neg (show ¬ e - a > 16 by omega), v6o, zA, v6D _ _ (by decide), zA]
    have : wordsL.contains (List.drop (Int.toNat (a : Int)) (List.take (Int.toNat (e : Int)) text)) = isW ((text.take e).drop a) := rfl
    rw [this]
    cases isW ((text.take e).drop a) <;> rfl
theorem v3Z (text : Str) (hl : text.length ≤ 1000000) (a : Nat) (o4 : zB) : ∀ (k b : Nat), b + k = text.length → a ≤ b → jL text a b o4 = some (v4q text a (b + tw mor (text.drop b))) := by
  intro k
  induction k with
  | zero =>
    intro b hb hab
    rw [y0W]; unfold z3h
    rw [if_neg (show ¬ (b : Int) < (List.length text : Int) by omega), List.drop_eq_nil_of_le (as := text) (i := b) (by omega)]
    exact v2O text hl a b hab (by omega)
  | succ k ih =>
    intro b hb hab
    have h3 : b < text.length := by omega
    rw [y0W]; unfold z3h
    have hgo : mor text[b] = true → jL text a (IntKind.wrap .i64 ((b : Int) + 1)) o4 = some (v4q text a (b + tw mor (text.drop b))) := fun hm => by
      rw [z0Q (by omega) (by omega), gI, ih (b + 1) (by omega) (by omega), z6V _ h3, if_pos hm, show b + 1 + tw mor (List.drop (b + 1) text) = b + (tw mor (List.drop (b + 1) text) + 1) by omega]
    rw [if_pos (show (b : Int) < (List.length text : Int) by omega), z1W h3, zA, v4w, zA]
    cases h1 : ltr text[b] with
    | true => rw [if_pos rfl]; exact hgo (by unfold mor; rw [h1]; rfl)
    | false =>
      rw [if_neg (by simp), zA, v2b, zA]
      cases h2 : dgt text[b] with
      | true => rw [if_pos rfl]; exact hgo (by unfold mor; rw [h2]; simp)
      | false =>
        have hm : mor text[b] = false := by unfold mor; rw [h1, h2]; rfl
        rw [if_neg (by simp), z6V _ h3, hm]
        exact v2O text hl a b hab (by omega)
def v6v (text : Str) (a e : Nat) : zB × Int :=
  match num ((text.take e).drop a) with
  | some n => (⟨2, n, [], a, e⟩, 0)
  | none => (v8m, 5)
theorem v2G (text : Str) (hl : text.length ≤ 1000000) (a e : Nat) (h1 : a < e) (h2 : e ≤ text.length) (hd : ∀ c ∈ (text.take e).drop a, dgt c = true) :
    (if (0 : Int) ≤ (e : Int) then
  if Int.toNat (e : Int) ≤ List.length text then
  if (0 : Int) ≤ (a : Int) then
  if Int.toNat (a : Int) ≤ Int.toNat (e : Int) then
  z4z (List.drop (Int.toNat (a : Int)) (List.take (Int.toNat (e : Int)) text)) >>= fun q3 =>
  if q3.2 = true then
    some ((zB.mk 2 q3.1 ([] : List UInt8) a e), 0)
  else
  some ((zB.mk 0 0 ([] : List UInt8) 0 0), 5)
  else none
  else none
  else none
  else none) = some (v6v text a e) := by
  rw [v6k h2 (Nat.le_of_lt h1), show Int.toNat (a : Int) = a from rfl, show Int.toNat (e : Int) = e from rfl]
  have hlen : ((text.take e).drop a).length = e - a := by simp; omega
  rw [v7I _ hd (by omega) (by omega), zA]
  unfold v6v
  cases num ((text.take e).drop a) <;> rfl
theorem v5p (text : Str) (hl : text.length ≤ 1000000) (a : Nat) (o4 : zB) : ∀ (k b : Nat), b + k = text.length → a ≤ b → a < b + tw dgt (text.drop b) → (∀ c ∈ (text.take (b + tw dgt (text.drop b))).drop a, dgt c = true) →
    jE text a b o4 = some (v6v text a (b + tw dgt (text.drop b))) := by
  intro k
  induction k with
  | zero =>
    intro b hb hab hlt hd
    rw [z9R]; unfold z2C
    have h1 : text.drop b = [] := List.drop_eq_nil_of_le (by omega)
    rw [h1] at hlt hd ⊢
    rw [if_neg (show ¬ (b : Int) < (List.length text : Int) by omega)]
    exact v2G text hl a b hlt (by omega) hd
  | succ k ih =>
    intro b hb hab hlt hd
    have h3 : b < text.length := by omega
    rw [z9R]; unfold z2C
    rw [if_pos (show (b : Int) < (List.length text : Int) by omega), z1W h3, zA, v2b, zA]
    rw [z6V _ h3] at hlt hd ⊢
    cases h1 : dgt text[b] with
    | true =>
      rw [h1, if_pos rfl] at hlt hd
      rw [if_pos rfl, if_pos rfl, z0Q (by omega) (by omega), gI]
      have e : b + (tw dgt (List.drop (b + 1) text) + 1) = b + 1 + tw dgt (List.drop (b + 1) text) := by omega
      rw [e] at hlt hd ⊢
      exact ih (b + 1) (by omega) (by omega) hlt hd
    | false =>
      rw [h1] at hlt hd
      simp only [Bool.false_eq_true, if_false, Nat.add_zero] at hlt hd ⊢
      exact v2G text hl a b hlt (by omega) hd
theorem v4P (text : Str) (hl : text.length ≤ 1000000) (a : Nat) (ha : a < text.length) :
    y3F text a = some (match one (text.drop a) with | .inl e => (v8m, e) | .inr (k, n, s, l) => (⟨k, n, s, a, ((a + l : Nat) : Int)⟩, 0)) := by
  have hd := List.drop_eq_getElem_cons ha
  unfold y3F
  rw [z1W ha, zA, v4w, zA]
  have hle := y8l mor (text.drop a)
  have hle2 := y8l dgt (text.drop a)
  rw [List.length_drop] at hle hle2
  cases h1 : ltr text[a] with
  | true =>
    rw [if_pos rfl, v3Z text hl a _ (text.length - a) a (by omega) (by omega)]
    have hone : one (text.drop a) = if tw mor (text.drop a) > 16 then .inl 3 else .inr (if isW ((text.drop a).take (tw mor (text.drop a))) = true then 3 else 1, 0, (text.drop a).take (tw mor (text.drop a)), tw mor (text.drop a)) := by
      conv => lhs; rw [hd, one, if_pos h1, ← hd]
    unfold v4q
    rw [hone, y0i, show a + tw mor (text.drop a) - a = tw mor (text.drop a) by omega]
    by_cases h2 : tw mor (text.drop a) > 16
    · rw [if_pos h2, if_pos h2]
    · rw [if_neg h2, if_neg h2]
  | false =>
    rw [if_neg (by simp), v2b, zA]
    cases h2 : dgt text[a] with
    | true =>
      have hpos : 1 ≤ tw dgt (text.drop a) := by rw [z6V _ ha, if_pos h2]; omega
      have hone : one (text.drop a) = match num ((text.drop a).take (tw dgt (text.drop a))) with | none => .inl 5 | some n => .inr (2, (n : Int), [], tw dgt (text.drop a)) := by
        conv => lhs; rw [hd, one, if_neg (by rw [h1]; simp), if_pos h2, ← hd]
      rw [if_pos rfl, v5p text hl a _ (text.length - a) a (by omega) (by omega) (by omega) (by rw [y0i]; exact v4z dgt _)]
      unfold v6v
      rw [hone, y0i]
      cases num ((text.drop a).take (tw dgt (text.drop a))) <;> rfl
    | false =>
      have hone : one (text.drop a) = if sgn text[a].toNat (hd0 (text.drop (a + 1))) = 0 then .inl 4 else .inr (4, 0, (text.drop a).take (sgn text[a].toNat (hd0 (text.drop (a + 1)))), sgn text[a].toNat (hd0 (text.drop (a + 1)))) := by
        conv => lhs; rw [hd, one, if_neg (by rw [h1]; simp), if_neg (by rw [h2]; simp), ← hd]
      rw [if_neg (by simp), v6A, zA]
      have := v1n text hl a (by omega) (zB.mk 0 0 ([] : List UInt8) 0 0) signsL.length 0 (by omega)
      rw [show ((0 : Nat) : Int) = 0 from rfl, List.drop_zero] at this
      rw [this]
      have hf := v4J text[a] (text.drop (a + 1))
      rw [← hd] at hf
      rw [hone]
      cases hfx : (signsL.find? fun x => bg x (text.drop a)) with
      | none =>
        rw [hfx] at hf
        by_cases h3 : sgn text[a].toNat (hd0 (text.drop (a + 1))) = 0
        · rw [if_pos h3]; rfl
        · rw [if_neg h3] at hf; cases hf
      | some x =>
        rw [hfx] at hf
        have hb := v7J (s := x) (l := text.drop a) (List.find?_some (p := fun x => bg x (text.drop a)) hfx)
        by_cases h3 : sgn text[a].toNat (hd0 (text.drop (a + 1))) = 0
        · rw [if_pos h3] at hf; cases hf
        · rw [if_neg h3] at hf ⊢
          simp only [Option.map_some, Option.some.injEq] at hf
          rw [← hf]
          simp only []
          rw [← hb]
def y5B : Nat → List UInt8 → Nat → List zB → List zB × Int × Int
  | 0, _, _, _ => ([], 0, 0)
  | n + 1, s, a, out => match s with
    | [] => (out ++ [⟨5, 0, [], a, a⟩], 0, 0)
    | c :: r => match one (c :: r) with
      | .inl e => ([], a, e)
      | .inr (k, m, t, l) => y5B n (((c :: r).drop l).drop (nxt 10000 ((c :: r).drop l))) (a + l + nxt 10000 ((c :: r).drop l)) (out ++ [⟨k, m, t, a, ((a + l : Nat) : Int)⟩])
def z9D (text : Str) : List zB × Int × Int := if text.length > 8192 then ([], 0, 3) else y5B 10000 (text.drop (nxt 10000 text)) (nxt 10000 text) []
theorem v6K (text : Str) (hl : text.length ≤ 9000) : ∀ (n a : Nat) (out : List zB), text.length < a + n → a ≤ text.length → out.length ≤ a →
    wV text out a = some (y5B n (text.drop a) a out) := by
  intro n
  induction n with
  | zero => intro a out h1 h2; omega
  | succ n ih =>
    intro a out h1 h2 ho
    rw [y4o]; unfold z2s
    by_cases ha : a < text.length
    · have hd := List.drop_eq_getElem_cons ha
      have hr := v4P text (by omega) a ha
      rw [if_pos (show (a : Int) < (List.length text : Int) by omega), hr, zA]
      have ht : y5B (n + 1) (text.drop a) a out = match one (text.drop a) with
        | .inl e => ([], (a : Int), e)
        | .inr (k, m, t, l) => y5B n (((text.drop a).drop l).drop (nxt 10000 ((text.drop a).drop l))) (a + l + nxt 10000 ((text.drop a).drop l)) (out ++ [⟨k, m, t, a, ((a + l : Nat) : Int)⟩]) := by
        rw [hd, y5B]
      rw [ht]
      cases e1 : one (text.drop a) with
      | inr q =>
        obtain ⟨k, m, t, l⟩ := q
        have hlen := y8B e1
        rw [List.length_drop] at hlen
        simp only []
        rw [if_pos True.intro, if_pos (show z1i 48 (List.length out + List.length [(⟨k, m, t, a, ((a + l : Nat) : Int)⟩ : zB)]) by unfold z1i; simp; omega)]
        unfold z7Q
        have hle := y0X 10000 (text.drop (a + l))
        rw [List.length_drop] at hle
        rw [(v5D text (by omega) 10000 (a + l) (by omega) (by omega)).1, zA, show (text.drop a).drop l = text.drop (a + l) from List.drop_drop .., List.drop_drop (l := text)]
        exact ih (a + l + nxt 10000 (text.drop (a + l))) (out ++ [(⟨k, m, t, a, ((a + l : Nat) : Int)⟩ : zB)]) (by omega) (by omega) (by simp only [List.length_append, List.length_cons, List.length_nil]; omega)
      | inl e =>
        simp only []
        have e0 : e ≠ 0 := by
          rw [hd, one] at e1
          intro he
          subst he
          revert e1
          repeat' split
          all_goals (intro ho; first | (injection ho with ho; omega) | cases ho)
        rw [if_neg e0]
    · have h4 : text.drop a = [] := List.drop_eq_nil_of_le (by omega)
      have h5 : a = text.length := by omega
      rw [if_neg (show ¬ (a : Int) < (List.length text : Int) by omega), h4, y5B]
      rw [if_pos (show z1i 48 (List.length out + List.length [(⟨5, 0, [], (List.length text : Int), (List.length text : Int)⟩ : zB)]) by unfold z1i; simp; omega), h5]
theorem v3A (text : Str) (h : text.length ≤ 9223372036854775807) : z6R text = some (z9D text) := by
  unfold z6R z9D
  by_cases h1 : (List.length text : Int) > 8192
  · rw [if_pos h1, if_pos (show text.length > 8192 by omega)]
  · rw [if_neg h1, if_neg (show ¬ text.length > 8192 by omega)]
    unfold z7Q
    have hle := y0X 10000 text
    have e1 := (v5D text (by omega) 10000 0 (by omega) (by omega)).1
    rw [show ((0 : Nat) : Int) = 0 from rfl, List.drop_zero, Nat.zero_add] at e1
    rw [e1, zA]
    exact v6K text (by omega) 10000 (nxt 10000 text) [] (by omega) (by omega) (by simp)
def Ord : Nat → List zB → Prop
  | _, [] => False
  | a, x :: r => ∃ f t : Nat, x.From = (f : Int) ∧ x.To = (t : Int) ∧ a ≤ f ∧ f ≤ t ∧ ((r = [] ∧ x.K = 5) ∨ (x.K ≠ 5 ∧ Ord t r))
theorem Ord.mono {a b : Nat} (h : b ≤ a) : ∀ {l : List zB}, Ord a l → Ord b l
  | [], h => h
  | x :: r, ⟨f, t, h1, h2, h3, h4⟩ => ⟨f, t, h1, h2, by omega, h4⟩
theorem v6s {s : List UInt8} {k n : Int} {t : Str} {l : Nat} (h : one s = .inr (k, n, t, l)) : k ≠ 5 := by
  cases s with
  | nil => simp [one] at h
  | cons c r =>
    rw [one] at h
    by_cases h1 : ltr c = true
    · rw [if_pos h1] at h
      by_cases h2 : tw mor (c :: r) > 16
      · rw [if_pos h2] at h; cases h
      · rw [if_neg h2] at h
        injection h with h; injection h with h _
        rw [← h]; split <;> decide
    · rw [if_neg h1] at h
      by_cases h2 : dgt c = true
      · rw [if_pos h2] at h
        cases hn : num ((c :: r).take (tw dgt (c :: r))) with
        | none => rw [hn] at h; cases h
        | some m => rw [hn] at h; injection h with h; injection h with h _; rw [← h]; decide
      · rw [if_neg h2] at h
        by_cases h3 : sgn c.toNat (hd0 r) = 0
        · rw [if_pos h3] at h; cases h
        · rw [if_neg h3] at h; injection h with h; injection h with h _; rw [← h]; decide
theorem v6S (text : List UInt8) : ∀ (n a : Nat) (out : List zB), text.length < a + n → a ≤ text.length → (y5B n (text.drop a) a out).2.2 = 0 → ∃ r, (y5B n (text.drop a) a out).1 = out ++ r ∧ Ord a r := by
  intro n
  induction n with
  | zero => intro a out h1 h2; omega
  | succ n ih =>
    intro a out h1 h2 he
    by_cases ha : a < text.length
    · have hd := List.drop_eq_getElem_cons ha
      have ht : y5B (n + 1) (text.drop a) a out = match one (text.drop a) with
        | .inl e => ([], (a : Int), e)
        | .inr (k, m, t, l) => y5B n (((text.drop a).drop l).drop (nxt 10000 ((text.drop a).drop l))) (a + l + nxt 10000 ((text.drop a).drop l)) (out ++ [⟨k, m, t, a, ((a + l : Nat) : Int)⟩]) := by
        rw [hd, y5B]
      rw [ht] at he ⊢
      cases ho : one (text.drop a) with
      | inl e =>
        rw [ho] at he
        exfalso
        have he2 : e = 0 := he
        rw [hd] at ho
        rw [one] at ho
        subst he2
        revert ho
        repeat' split
        all_goals (intro ho; first | (injection ho with ho; omega) | cases ho)
      | inr q =>
        obtain ⟨k, m, t, l⟩ := q
        rw [ho] at he
        dsimp only at he ⊢
        have hlen := y8B ho
        rw [List.length_drop] at hlen
        have hle := y0X 10000 (text.drop (a + l))
        rw [List.length_drop] at hle
        rw [show (text.drop a).drop l = text.drop (a + l) from List.drop_drop .., List.drop_drop (l := text)] at he ⊢
        obtain ⟨r, e1, e2⟩ := ih (a + l + nxt 10000 (text.drop (a + l))) _ (by omega) (by omega) he
        exact ⟨⟨k, m, t, a, ((a + l : Nat) : Int)⟩ :: r, by rw [e1]; simp, a, a + l, rfl, rfl, Nat.le_refl _, by omega, .inr ⟨v6s ho, e2.mono (by omega)⟩⟩
    · have h4 : text.drop a = [] := List.drop_eq_nil_of_le (by omega)
      have h5 : a = text.length := by omega
      rw [h4, y5B]
      exact ⟨[⟨5, 0, [], a, a⟩], rfl, a, a, rfl, rfl, Nat.le_refl _, Nat.le_refl _, .inl ⟨rfl, rfl⟩⟩
theorem y9U {text : Str} (h : (z9D text).2.2 = 0) : Ord 0 (z9D text).1 := by
  unfold z9D at h ⊢
  by_cases h1 : text.length > 8192
  · rw [if_pos h1] at h; cases h
  · rw [if_neg h1] at h ⊢
    have hle := y0X 10000 text
    obtain ⟨r, e1, e2⟩ := v6S text 10000 (nxt 10000 text) [] (by omega) (by omega) h
    rw [e1]; exact e2.mono (by omega)
def Chn (q : Int) : Int → List zE → Prop
  | _, [] => True
  | p, x :: r => p ≤ x.From ∧ x.From ≤ x.To ∧ x.To ≤ q ∧ Chn q x.To r
inductive Wn : zE → Prop
  | mk (t : zE) : Chn t.To t.From t.L → (∀ x ∈ t.L, Wn x) → Wn t
theorem Chn.mono {q q' : Int} (hq : q ≤ q') : ∀ {l : List zE} {p p' : Int}, p' ≤ p → Chn q p l → Chn q' p' l
  | [], _, _, _, _ => trivial
  | x :: r, p, p', hp, ⟨h1, h2, h3, h4⟩ => ⟨by omega, h2, by omega, Chn.mono hq (Int.le_refl _) h4⟩
theorem Chn.snoc {q : Int} {x : zE} (h1 : x.From ≤ x.To) (h2 : x.To ≤ q) : ∀ {l : List zE} {p q0 : Int}, Chn q0 p l → q0 ≤ x.From → p ≤ q0 → Chn q p (l ++ [x])
  | [], p, q0, _, h3, h4 => ⟨by omega, h1, h2, trivial⟩
  | y :: r, p, q0, ⟨g1, g2, g3, g4⟩, h3, h4 => ⟨g1, g2, by omega, Chn.snoc h1 h2 g4 h3 g3⟩
def Mon (t : List zB) : Prop := ∀ i j, i ≤ j → j < t.length → (zQ t i).From ≤ (zQ t i).To ∧ (i < j → (zQ t i).To ≤ (zQ t j).From)
theorem v4T : ∀ {l : List zB} {a : Nat}, Ord a l → (∀ i, i < l.length → (a : Int) ≤ (zQ l i).From) ∧ Mon l
  | [], a, h => h.elim
  | x :: r, a, ⟨f, t, h1, h2, h3, h4, h5⟩ => by
    have c0 : zQ (x :: r) 0 = x := rfl
    have cs : ∀ i, zQ (x :: r) (i + 1) = zQ r i := fun i => rfl
    rcases h5 with ⟨rfl, -⟩ | ⟨-, h5⟩
    · refine ⟨fun i hi => ?_, fun i j hij hj => ?_⟩
      · have : i = 0 := by simpa using hi
        subst this; rw [c0]; omega
      · have : j = 0 := by simpa using hj
        have : i = 0 := by omega
        subst this; rw [c0]; exact ⟨by omega, fun h => by omega⟩
    · obtain ⟨g1, g2⟩ := v4T h5
      refine ⟨fun i hi => ?_, fun i j hij hj => ?_⟩
      · cases i with
        | zero => rw [c0]; omega
        | succ i => rw [cs]; have := g1 i (by simpa using hi); omega
      · cases i with
        | zero =>
          rw [c0]
          refine ⟨by omega, fun h => ?_⟩
          cases j with
          | zero => omega
          | succ j => rw [cs]; have := g1 j (by simpa using hj); omega
        | succ i =>
          cases j with
          | zero => omega
          | succ j => rw [cs, cs]; have := g2 i j (by omega) (by simpa using hj); exact ⟨this.1, fun h => this.2 (by omega)⟩
def Bt (t : List zB) (a b : Nat) (x : zE) : Prop := (zQ t a).From ≤ x.From ∧ x.From ≤ x.To ∧ x.To ≤ (zQ t (b - 1)).To ∧ Wn x
def BM (t : List zB) : Cat → Nat → Res → Prop
  | .ll _ _ f x, a, r => f < a → Bt t f a x → ∀ y b, r = .ok y b → Bt t f b y
  | .pl f x, a, r => f < a → Bt t f a x → ∀ y b, r = .ok y b → Bt t f b y
  | .cls _, a, r => ∀ y b, r = .ok y b → ∃ q : Int, Chn q (zQ t a).From y.L ∧ q ≤ (zQ t (b - 1)).To ∧ ∀ x ∈ y.L, Wn x
  | .lst acc, a, r => ∀ p q0 : Int, Chn q0 p acc → p ≤ q0 → q0 ≤ (zQ t a).From → (∀ x ∈ acc, Wn x) → ∀ y b, r = .ok y b → Chn (zQ t (b - 1)).To p y.L ∧ ∀ x ∈ y.L, Wn x
  | _, a, r => ∀ y b, r = .ok y b → Bt t a b y
theorem v4L {t : List zB} (hm : Mon t) {c : Cat} {a : Nat} {r : Res} (h : Der t c a r) : a ≤ t.length → BM t c a r := by
  have le : ∀ {i j : Nat}, i ≤ j → j < t.length → (zQ t i).From ≤ (zQ t j).To ∧ (zQ t i).From ≤ (zQ t j).From ∧ (zQ t i).To ≤ (zQ t j).To := fun {i j} h1 h2 => by
    have q1 := hm i j h1 h2
    have q2 := hm j j (Nat.le_refl _) h2
    by_cases e : i = j
    · subst e; omega
    · have := q1.2 (by omega); omega
  have lt : ∀ {i j : Nat}, i < j → j < t.length → (zQ t i).To ≤ (zQ t j).From := fun {i j} h1 h2 => (hm i j (by omega) h2).2 h1
  have mk : ∀ {f b : Nat} {k n : Int} {s : Str} {l : List zE}, f < b → b ≤ t.length → Chn (zQ t (b - 1)).To (zQ t f).From l → (∀ x ∈ l, Wn x) → Bt t f b (jM t f b ⟨k, n, s, l, 0, 0⟩) := fun {f b k n s l} h1 h2 h3 h4 => by
    have := le (i := f) (j := b - 1) (by omega) (by omega)
    exact ⟨Int.le_refl _, this.1, Int.le_refl _, .mk _ h3 h4⟩
  induction h with
  | @un a b n x h1 hd ih =>
    intro ha y b' e; cases e
    have h0 : a < t.length := h1.elim (fun h => zV h.2) (fun h => zV h.2)
    have q := hd.inR (by omega); simp only [InR] at q
    obtain ⟨i1, i2, i3, i4⟩ := ih (by omega) x b rfl
    have := le (i := a) (j := a + 1) (by omega) (by omega)
    exact mk (by omega) q.2 ⟨by omega, i2, i3, trivial⟩ (by simpa using i4)
  | unP _ _ _ ih => exact ih
  | @lev k a b x r h1 h2 hd _ ih1 ih2 =>
    intro ha y c e
    have q := hd.inR ha; simp only [InR] at q
    exact ih2 q.2 q.1 (ih1 ha x b rfl) y c e
  | llE _ _ => intro ha hf hx y b e; cases e; exact hx
  | @llG k m f a b x y r h1 h2 h3 hd _ ih1 ih2 =>
    intro ha hf hx z c e
    have h0 := uT (t := t) (a := a) (by rw [z4S (by omega)]; decide)
    have q := hd.inR (by omega); simp only [InR] at q
    obtain ⟨i1, i2, i3, i4⟩ := ih1 (by omega) y b rfl
    obtain ⟨j1, j2, j3, j4⟩ := hx
    have g1 := lt (i := a - 1) (j := a + 1) (by omega) (by omega)
    have g2 := le (i := a - 1) (j := b - 1) (by omega) (by omega)
    exact ih2 q.2 (by omega) (mk (by omega) q.2 ⟨j1, j2, by omega, by omega, i2, i3, trivial⟩ (by simpa using ⟨j4, i4⟩)) z c e
  | @post a b x r hd _ ih1 ih2 =>
    intro ha y c e
    have q := hd.inR ha; simp only [InR] at q
    exact ih2 q.2 q.1 (ih1 ha x b rfl) y c e
  | plE _ _ => intro ha hf hx y b e; cases e; exact hx
  | @plI f a b x i r h1 hd h2 _ ih1 ih2 =>
    intro ha hf hx z c e
    have h0 := zV h1
    have hb := zV h2
    have q := hd.inR (by omega); simp only [InR] at q
    obtain ⟨i1, i2, i3, i4⟩ := ih1 (by omega) i b rfl
    obtain ⟨j1, j2, j3, j4⟩ := hx
    have g1 := lt (i := a - 1) (j := a + 1) (by omega) (by omega)
    have g2 := le (i := b - 1) (j := b) (by omega) (by omega)
    have g3 := le (i := a - 1) (j := b) (by omega) (by omega)
    exact ih2 (by omega) (by omega) (mk (by omega) (by omega) ⟨j1, j2, by show x.To ≤ (zQ t b).To; omega, by omega, i2, by show i.To ≤ (zQ t b).To; omega, trivial⟩ (by simpa using ⟨j4, i4⟩)) z c e
  | @plF f a x r h0 h1 h2 _ ih =>
    intro ha hf hx z c e
    have h3 := uT (t := t) (a := a + 1) (by rw [h2]; decide)
    obtain ⟨j1, j2, j3, j4⟩ := hx
    have g3 := le (i := a - 1) (j := a + 1) (by omega) (by omega)
    exact ih (by omega) (by omega) (mk (by omega) (by omega) ⟨j1, j2, by show x.To ≤ (zQ t (a + 1)).To; omega, trivial⟩ (by simpa using j4)) z c e
  | @one a k n s h1 =>
    intro ha y b e; cases e
    have h0 := z1V (t := t) (a := a) (by rw [h1]; simp)
    exact mk (by omega) (by omega) trivial (by simp)
  | @par a b x h1 hd h2 ih =>
    intro ha y b' e; cases e
    have h0 := z1V (t := t) (a := a) (by rw [h1]; simp)
    have hb := zV h2
    have q := hd.inR (by omega); simp only [InR] at q
    obtain ⟨i1, i2, i3, i4⟩ := ih (by omega) x b rfl
    have g1 := le (i := a) (j := a + 1) (by omega) (by omega)
    have g2 := le (i := b - 1) (j := b) (by omega) (by omega)
    exact ⟨by omega, i2, by show x.To ≤ (zQ t b).To; omega, i4⟩
  | @call a o b k s few l h1 hd ih =>
    intro ha y b' e; cases e
    have h0 := z3S h1
    have q := hd.inR h0.2; simp only [InR] at q
    obtain ⟨z, i1, i2, i3⟩ := ih h0.2 _ b rfl
    have g1 := le (i := a) (j := o) (by omega) (by omega)
    exact mk (by omega) q.2 (i1.mono i2 g1.2.1) i3
  | @lis a b l h1 hd h2 ih =>
    intro ha y b' e; cases e
    have h0 := z1V (t := t) (a := a) (by rw [h1]; simp)
    have hb := zV h2
    have q := hd.inR (by omega); simp only [InR] at q
    have g1 := le (i := a) (j := a + 1) (by omega) (by omega)
    have g2 := le (i := b - 1) (j := b) (by omega) (by omega)
    obtain ⟨i1, i2⟩ := ih (by omega) (zQ t a).From (zQ t a).From trivial (Int.le_refl _) g1.2.1 (by simp) _ b rfl
    exact mk (by omega) (by omega) (i1.mono g2.2.2 (Int.le_refl _)) i2
  | @clsF a h1 h2 =>
    intro ha y b e; cases e
    exact ⟨(zQ t (a + 2 - 1)).To, trivial, Int.le_refl _, by simp⟩
  | @cls a b few l h1 h2 hd h3 ih =>
    intro ha y b' e; cases e
    have h0 := zV h1
    have hb := zV h3
    have q := hd.inR (by omega); simp only [InR] at q
    have g1 := le (i := a) (j := a + 1) (by omega) (by omega)
    have g2 := le (i := b - 1) (j := b) (by omega) (by omega)
    obtain ⟨i1, i2⟩ := ih (by omega) (zQ t a).From (zQ t a).From trivial (Int.le_refl _) g1.2.1 (by simp) _ b rfl
    exact ⟨_, i1, g2.2.2, i2⟩
  | @lstE a b acc x hd h1 ih =>
    intro ha p q0 c1 c2 c3 c4 y b' e; cases e
    have q := hd.inR ha; simp only [InR] at q
    obtain ⟨i1, i2, i3, i4⟩ := ih ha x b rfl
    refine ⟨Chn.snoc i2 i3 c1 (by omega) c2, fun z hz => ?_⟩
    rcases List.mem_append.1 hz with hz | hz
    · exact c4 z hz
    · simp at hz; subst hz; exact i4
  | @lstG a b acc x r hd h1 hd2 ih1 ih2 =>
    intro ha p q0 c1 c2 c3 c4 y b' e
    have hb := zV h1
    have q := hd.inR ha; simp only [InR] at q
    obtain ⟨i1, i2, i3, i4⟩ := ih1 ha x b rfl
    by_cases hb1 : b + 1 < t.length
    · have g1 := lt (i := b - 1) (j := b + 1) (by omega) (by omega)
      refine ih2 (by omega) p x.To (Chn.snoc i2 (Int.le_refl _) c1 (by omega) c2) (by omega) (by omega) (fun z hz => ?_) y b' e
      rcases List.mem_append.1 hz with hz | hz
      · exact c4 z hz
      · simp at hz; subst hz; exact i4
    · subst e
      have q2 := hd2.inR (by omega)
      simp only [InR] at q2
      omega
  | _ => first | (intro _ _ _ e; cases e; done) | (intro _ _ _ _ _ e; cases e; done) | (intro _ _ _ _ _ _ _ _ _ e; cases e; done)
def Lst (t : List zB) (n : Nat) : Prop := ∀ i, n ≤ i → (zQ t i).K = 5
theorem z1G {t : List zB} {n a : Nat} (hn : Lst t n) (h : (zQ t a).K ≠ 5) : a < n := Nat.lt_of_not_le fun h1 => h (hn a h1)
theorem uZ {t : List zB} {n a : Nat} {s : Str} (hn : Lst t n) (h : yT t a s = true) : a < n := z1G hn (by
  unfold yT at h
  simp only [Bool.and_eq_true, decide_eq_true_eq] at h
  rw [h.1]; decide)
theorem z2O {t : List zB} {n a : Nat} {s : Str} (hn : Lst t n) (h : vD t a s = true) : a < n := z1G hn (by
  unfold vD at h
  simp only [Bool.and_eq_true, decide_eq_true_eq] at h
  rw [h.1]; decide)
theorem z6x {t : List zB} {n : Nat} (hn : Lst t n) {a : Nat} (h : z1R t a ≠ .no) : a < n := by
  unfold z1R at h
  by_cases h1 : (zQ t a).K = 2
  · exact z1G hn (by rw [h1]; decide)
  rw [if_neg h1] at h
  by_cases h2 : (zQ t a).K = 1
  · exact z1G hn (by rw [h2]; decide)
  rw [if_neg h2] at h
  by_cases h3 : vD t a [116, 114, 117, 101] = true
  · exact z2O hn h3
  rw [if_neg h3] at h
  by_cases h3 : vD t a [102, 97, 108, 115, 101] = true
  · exact z2O hn h3
  rw [if_neg h3] at h
  by_cases h3 : vD t a [114, 101, 97, 100] = true
  · exact z2O hn h3
  rw [if_neg h3] at h
  by_cases h3 : vD t a [110, 101, 119] = true
  · exact z2O hn h3
  rw [if_neg h3] at h
  by_cases h3 : yT t a [40] = true
  · exact uZ hn h3
  rw [if_neg h3] at h
  by_cases h3 : yT t a [91] = true
  · exact uZ hn h3
  rw [if_neg h3] at h
  by_cases h3 : yT t a [64] = true
  · exact uZ hn h3
  rw [if_neg h3] at h
  exact absurd rfl h
theorem y5N {t : List zB} {n : Nat} (hn : Lst t n) {a o : Nat} {k : Int} {s : Str} {few : Bool} (h : z1R t a = .call k s o few) : a < o ∧ o ≤ n := by
  have h0 := z6x hn (t := t) (a := a) (by rw [h]; simp)
  unfold z1R at h
  repeat' split at h
  all_goals first
    | (cases h; done)
    | (injection h with h1 h2 h3 h4; subst h3; rename_i q; have := z1G (t := t) (n := n) hn (a := a + 1) (by rw [q]; decide); omega)
    | (injection h with h1 h2 h3 h4; subst h3; omega)
def z8k (n : Nat) (c : Cat) (a : Nat) : Res → Prop
  | .ok x b => (match c with | .ll _ _ _ _ => a ≤ b | .pl _ _ => a ≤ b | _ => a < b) ∧ b ≤ n
  | .bad b => a ≤ b ∧ b ≤ n
theorem Der.inRn {t : List zB} {n : Nat} (hn : Lst t n) {c : Cat} {a : Nat} {r : Res} (h : Der t c a r) : a ≤ n → z8k n c a r := by
  induction h with
  | un h1 _ ih =>
    intro _
    have ha : _ < n := h1.elim (fun h => uZ hn h.2) (fun h => uZ hn h.2)
    have := ih (by omega); simp only [z8k] at this ⊢; omega
  | unB h1 _ ih =>
    intro _
    have ha : _ < n := h1.elim (fun h => uZ hn h) (fun h => uZ hn h)
    have := ih (by omega); simp only [z8k] at this ⊢; omega
  | unP _ _ _ ih => intro h; exact ih h
  | @lev k a b x r h1 h2 _ _ ih1 ih2 =>
    intro h
    have q1 := ih1 h; simp only [z8k] at q1
    have q2 := ih2 q1.2
    cases r <;> simp only [z8k] at q2 ⊢ <;> omega
  | levB _ _ _ ih => intro h; exact ih h
  | llE _ _ => intro h; simp only [z8k]; omega
  | @llG k m f a b x y r h1 h2 h3 _ _ ih1 ih2 =>
    intro h
    have ha := z1G (t := t) (n := n) hn (a := a) (by rw [z4S (by omega)]; decide)
    have q1 := ih1 (by omega); simp only [z8k] at q1
    have q2 := ih2 q1.2
    cases r <;> simp only [z8k] at q2 ⊢ <;> omega
  | @llB k m f a b x h1 h2 h3 _ ih1 =>
    intro h
    have ha := z1G (t := t) (n := n) hn (a := a) (by rw [z4S (by omega)]; decide)
    have q1 := ih1 (by omega); simp only [z8k] at q1 ⊢; omega
  | @post a b x r _ _ ih1 ih2 =>
    intro h
    have q1 := ih1 h; simp only [z8k] at q1
    have q2 := ih2 q1.2
    cases r <;> simp only [z8k] at q2 ⊢ <;> omega
  | postB _ ih => intro h; exact ih h
  | plE _ _ => intro h; simp only [z8k]; omega
  | @plI f a b x i r h1 _ h2 _ ih1 ih2 =>
    intro h
    have ha := uZ hn h1
    have hb := uZ hn h2
    have q1 := ih1 (by omega); simp only [z8k] at q1
    have q2 := ih2 (by omega)
    cases r <;> simp only [z8k] at q2 ⊢ <;> omega
  | plI1 h1 _ ih =>
    intro h
    have ha := uZ hn h1
    have q1 := ih (by omega); simp only [z8k] at q1 ⊢; omega
  | plI2 h1 _ _ ih =>
    intro h
    have ha := uZ hn h1
    have q1 := ih (by omega); simp only [z8k] at q1 ⊢; omega
  | @plF f a x r h0 h1 h2 _ ih =>
    intro h
    have ha := z1G (t := t) (n := n) hn (a := a + 1) (by rw [h2]; decide)
    have q2 := ih (by omega)
    cases r <;> simp only [z8k] at q2 ⊢ <;> omega
  | plFB _ h1 _ => intro h; have := uZ hn h1; simp only [z8k]; omega
  | one h1 => intro h; have := z6x hn (by rw [h1]; simp); simp only [z8k]; omega
  | par h1 _ h2 ih =>
    intro h; have ha := z6x hn (by rw [h1]; simp); have hb := uZ hn h2
    have q1 := ih (by omega); simp only [z8k] at q1 ⊢; omega
  | par1 h1 _ ih =>
    intro h; have ha := z6x hn (by rw [h1]; simp)
    have q1 := ih (by omega); simp only [z8k] at q1 ⊢; omega
  | par2 h1 _ _ ih =>
    intro h; have ha := z6x hn (by rw [h1]; simp)
    have q1 := ih (by omega); simp only [z8k] at q1 ⊢; omega
  | call h1 _ ih =>
    intro h; have ha := y5N hn h1
    have q1 := ih (by omega); simp only [z8k] at q1 ⊢; omega
  | callB h1 _ ih =>
    intro h; have ha := y5N hn h1
    have q1 := ih (by omega); simp only [z8k] at q1 ⊢; omega
  | lis h1 _ h2 ih =>
    intro h; have ha := z6x hn (by rw [h1]; simp); have hb := uZ hn h2
    have q1 := ih (by omega); simp only [z8k] at q1 ⊢; omega
  | lis1 h1 _ ih =>
    intro h; have ha := z6x hn (by rw [h1]; simp)
    have q1 := ih (by omega); simp only [z8k] at q1 ⊢; omega
  | lis2 h1 _ _ ih =>
    intro h; have ha := z6x hn (by rw [h1]; simp)
    have q1 := ih (by omega); simp only [z8k] at q1 ⊢; omega
  | nm h1 => intro h; have ha := z6x hn (by rw [h1]; simp); simp only [z8k]; omega
  | no _ => intro h; simp only [z8k]; omega
  | cls0 _ => intro h; simp only [z8k]; omega
  | clsF h1 h2 => intro h; have ha := uZ hn h2; simp only [z8k]; omega
  | cls h1 _ _ h2 ih =>
    intro h; have ha := uZ hn h1; have hb := uZ hn h2
    have q1 := ih (by omega); simp only [z8k] at q1 ⊢; omega
  | cls1 h1 _ _ ih =>
    intro h; have ha := uZ hn h1
    have q1 := ih (by omega); simp only [z8k] at q1 ⊢; omega
  | cls2 h1 _ _ _ ih =>
    intro h; have ha := uZ hn h1
    have q1 := ih (by omega); simp only [z8k] at q1 ⊢; omega
  | lstE _ _ ih => intro h; have q1 := ih h; simp only [z8k] at q1 ⊢; omega
  | @lstG a b acc x r _ h2 _ ih1 ih2 =>
    intro h; have hb := uZ hn h2
    have q1 := ih1 h; simp only [z8k] at q1
    have q2 := ih2 (by omega)
    cases r <;> simp only [z8k] at q2 ⊢ <;> omega
  | lstB _ ih => intro h; have q1 := ih h; simp only [z8k] at q1 ⊢; omega
theorem v2e {t : List zB} {m : Nat} (hn : Lst t m) : ∀ (n a : Nat), m < a + n → (typ n t a).2.2 = 0 → a < (typ n t a).2.1 ∧ (typ n t a).2.1 ≤ m
  | 0, a, _, h => by cases h
  | n + 1, a, hl, h => by
    rw [typ] at h ⊢
    by_cases h1 : vD t a [105, 110, 116] = true
    · rw [if_pos h1]; have := z2O hn h1; exact ⟨by simp, this⟩
    rw [if_neg h1] at h ⊢
    by_cases h2 : vD t a [98, 111, 111, 108] = true
    · rw [if_pos h2]; have := z2O hn h2; exact ⟨by simp, this⟩
    rw [if_neg h2] at h ⊢
    by_cases h3 : (zQ t a).K = 1
    · rw [if_pos h3]; have := z1G (t := t) (n := m) hn (a := a) (by rw [h3]; decide); exact ⟨by simp, this⟩
    rw [if_neg h3] at h ⊢
    by_cases h4 : yT t a [91] = true
    · rw [if_pos h4] at h ⊢
      by_cases h5 : (zQ t (a + 1)).K = 2
      · rw [if_pos h5] at h ⊢
        by_cases h6 : yT t (a + 2) [93] = true
        · rw [if_pos h6] at h ⊢
          by_cases h7 : (typ n t (a + 3)).2.2 = 0
          · rw [if_pos h7]
            have := v2e hn n (a + 3) (by omega) h7
            exact ⟨by show a < (typ n t (a + 3)).2.1; omega, this.2⟩
          · rw [if_neg h7] at h; exact absurd h h7
        · rw [if_neg h6] at h; cases h
      · rw [if_neg h5] at h; cases h
    · rw [if_neg h4] at h; cases h
theorem y3H {t : List zB} {m : Nat} (hn : Lst t m) : ∀ (n a : Nat), m < a + n → a ≤ m → (typ n t a).2.2 ≠ 0 → a ≤ (typ n t a).2.1 ∧ (typ n t a).2.1 ≤ m
  | 0, a, h1, h2, _ => by omega
  | n + 1, a, h1, h2, h => by
    rw [typ] at h ⊢
    by_cases g1 : vD t a [105, 110, 116] = true
    · rw [if_pos g1] at h; exact absurd rfl h
    rw [if_neg g1] at h ⊢
    by_cases g2 : vD t a [98, 111, 111, 108] = true
    · rw [if_pos g2] at h; exact absurd rfl h
    rw [if_neg g2] at h ⊢
    by_cases g3 : (zQ t a).K = 1
    · rw [if_pos g3] at h; exact absurd rfl h
    rw [if_neg g3] at h ⊢
    by_cases g4 : yT t a [91] = true
    · have k4 := uZ hn g4
      rw [if_pos g4] at h ⊢
      by_cases g5 : (zQ t (a + 1)).K = 2
      · have k5 := z1G (t := t) (n := m) hn (a := a + 1) (by rw [g5]; decide)
        rw [if_pos g5] at h ⊢
        by_cases g6 : yT t (a + 2) [93] = true
        · have k6 := uZ hn g6
          rw [if_pos g6] at h ⊢
          by_cases g7 : (typ n t (a + 3)).2.2 = 0
          · rw [if_pos g7] at h; exact absurd rfl h
          · rw [if_neg g7]
            have := y3H hn n (a + 3) (by omega) (by omega) g7
            exact ⟨by show a ≤ (typ n t (a + 3)).2.1; omega, this.2⟩
        · rw [if_neg g6]; exact ⟨by show a ≤ a + 2; omega, by show a + 2 ≤ m; omega⟩
      · rw [if_neg g5]; exact ⟨by show a ≤ a + 1; omega, by show a + 1 ≤ m; omega⟩
    · rw [if_neg g4]; exact ⟨Nat.le_refl _, h2⟩
def y4M (n : Nat) (c : v3j) (a : Nat) : Res → Prop
  | .ok x b => (match c with | .form _ _ its _ _ => a ≤ b ∧ (its ≠ [] → a < b) | _ => a < b) ∧ b ≤ n
  | .bad b => a ≤ b ∧ b ≤ n
theorem SDer.inSn {t : List zB} {mm : Nat} (hn : Lst t mm) (hlt : mm < t.length) {c : v3j} {a : Nat} {r : Res} (h : SDer t c a r) : a ≤ mm → y4M mm c a r := by
  have step : ∀ {k : Int} {f a b : Nat} {it : It} {its : List It} {p p' : List zE} {n n' : Str} {r : Res}, a < b → y4M mm (.form k f its p' n') b r → y4M mm (.form k f (it :: its) p n) a r := by
    intro k f a b it its p p' n n' r h1 h2
    cases r with
    | ok x c => simp only [y4M] at h2 ⊢; exact ⟨⟨by omega, fun _ => by omega⟩, h2.2⟩
    | bad c => simp only [y4M] at h2 ⊢; omega
  induction h with
  | sB _ _ ih => intro h; exact ih h
  | @sF a r h1 hd ih =>
    intro h
    have q := ih h
    cases r with
    | ok x b =>
      simp only [y4M] at q ⊢
      refine ⟨q.1.2 ?_, q.2⟩
      unfold z6r
      repeat' split
      all_goals simp
    | bad b => exact q
  | b0 _ => intro h; simp only [y4M]; omega
  | @b1 a r h1 _ ih =>
    intro h
    have := uZ hn h1
    have q := ih (by omega)
    cases r <;> simp only [y4M] at q ⊢ <;> omega
  | lE h1 => intro h; have := uZ hn h1; simp only [y4M]; omega
  | @lG f a b acc x r h1 _ _ ih1 ih2 =>
    intro h
    have q1 := ih1 h; simp only [y4M] at q1
    have q2 := ih2 q1.2
    cases r <;> simp only [y4M] at q2 ⊢ <;> omega
  | lB _ _ ih => intro h; exact ih h
  | fE _ => intro h; simp only [y4M]; exact ⟨⟨Nat.le_refl _, fun h => absurd rfl h⟩, h⟩
  | fW h1 _ ih => intro h; have := z2O hn h1; exact step (by omega) (ih (by omega))
  | fW0 _ => intro h; simp only [y4M]; omega
  | fS h1 _ ih => intro h; have := uZ hn h1; exact step (by omega) (ih (by omega))
  | fS0 _ => intro h; simp only [y4M]; omega
  | @fN f a k its parts name r h1 _ ih => intro h; have := z1G (t := t) (n := mm) hn (a := a) (by rw [h1]; decide); exact step (Nat.lt_succ_self a) (ih (by omega))
  | fN0 _ => intro h; simp only [y4M]; omega
  | fX hd _ ih => intro h; have q := hd.inRn hn h; simp only [z8k] at q; exact step q.1 (ih q.2)
  | fX0 hd => intro h; have q := hd.inRn hn h; simp only [z8k, y4M] at q ⊢; exact q
  | @fT f a k its parts name r h1 _ ih => intro h; have q := v2e hn (t.length + 1) a (by omega) h1; exact step q.1 (ih q.2)
  | @fT0 f a k its parts name h1 => intro h; have q := y3H hn (t.length + 1) a (by omega) h h1; simp only [y4M]; exact q
  | fK _ _ ih1 ih2 => intro h; have q := ih1 h; simp only [y4M] at q; exact step q.1 (ih2 q.2)
  | fK0 _ ih => intro h; exact ih h
  | fE0 _ ih => intro h; exact ih h
  | fE1 _ _ _ ih1 ih2 => intro h; have q := ih1 h; simp only [y4M] at q; exact step q.1 (ih2 q.2)
  | @fE2 f a b c k its parts name x y r _ h2 _ _ ih1 ih2 ih3 =>
    intro h
    have hb := z2O hn h2
    have q := ih1 h; simp only [y4M] at q
    have q2 := ih2 (by omega); simp only [y4M] at q2
    exact step (by omega) (ih3 q2.2)
  | @fE3 f a b c k its parts name x _ h2 _ ih1 ih2 =>
    intro h
    have hb := z2O hn h2
    have q := ih1 h; simp only [y4M] at q
    have q2 := ih2 (by omega); simp only [y4M] at q2 ⊢
    omega
theorem Mon.le {t : List zB} (hm : Mon t) {i j : Nat} (h1 : i ≤ j) (h2 : j < t.length) : (zQ t i).From ≤ (zQ t j).To ∧ (zQ t i).From ≤ (zQ t j).From ∧ (zQ t i).To ≤ (zQ t j).To := by
  have q1 := hm i j h1 h2
  have q2 := hm j j (Nat.le_refl _) h2
  by_cases e : i = j
  · subst e; omega
  · have := q1.2 (by omega); omega
theorem Mon.lt {t : List zB} (hm : Mon t) {i j : Nat} (h1 : i < j) (h2 : j < t.length) : (zQ t i).To ≤ (zQ t j).From := (hm i j (by omega) h2).2 h1
def CH (t : List zB) (f a : Nat) (l : List zE) : Prop := ∃ q0 : Int, Chn q0 (zQ t f).From l ∧ (zQ t f).From ≤ q0 ∧ (q0 = (zQ t f).From ∨ (f < a ∧ q0 ≤ (zQ t (a - 1)).To)) ∧ ∀ x ∈ l, Wn x
theorem CH.nil (t : List zB) (f a : Nat) : CH t f a [] := ⟨_, trivial, Int.le_refl _, .inl rfl, by simp⟩
theorem CH.step {t : List zB} (hm : Mon t) {f a a' : Nat} {l : List zE} (h1 : a ≤ a') (h2 : a' ≤ t.length) : CH t f a l → CH t f a' l := by
  rintro ⟨q0, c1, c2, c3, c4⟩
  refine ⟨q0, c1, c2, ?_, c4⟩
  rcases c3 with c3 | ⟨c3, c5⟩
  · exact .inl c3
  · have := (hm.le (i := a - 1) (j := a' - 1) (by omega) (by omega)).2.2
    exact .inr ⟨by omega, by omega⟩
theorem CH.snoc {t : List zB} (hm : Mon t) {f a b : Nat} {l : List zE} {x : zE} (h0 : f ≤ a) (h1 : a < b) (h2 : b ≤ t.length) (hx : Bt t a b x) : CH t f a l → CH t f b (l ++ [x]) := by
  rintro ⟨q0, c1, c2, c3, c4⟩
  obtain ⟨x1, x2, x3, x4⟩ := hx
  have g : q0 ≤ (zQ t a).From := by
    rcases c3 with c3 | ⟨c3, c5⟩
    · have := (hm.le (i := f) (j := a) h0 (by omega)).2.1; omega
    · have := hm.lt (i := a - 1) (j := a) (by omega) (by omega); omega
  refine ⟨x.To, Chn.snoc x2 (Int.le_refl _) c1 (by omega) c2, by omega, .inr ⟨by omega, x3⟩, fun z hz => ?_⟩
  rcases List.mem_append.1 hz with hz | hz
  · exact c4 z hz
  · simp at hz; subst hz; exact x4
theorem CH.snocE {t : List zB} (hm : Mon t) {f b : Nat} {l : List zE} (h1 : f < b) (h2 : b ≤ t.length) : CH t f b l → CH t f b (l ++ [y0r (zQ t (b - 1)).To]) := by
  rintro ⟨q0, c1, c2, c3, c4⟩
  have g0 := (hm.le (i := f) (j := b - 1) (by omega) (by omega)).1
  have g : q0 ≤ (zQ t (b - 1)).To := by
    rcases c3 with c3 | ⟨c3, c5⟩ <;> omega
  refine ⟨(zQ t (b - 1)).To, Chn.snoc (x := y0r (zQ t (b - 1)).To) (Int.le_refl _) (Int.le_refl _) c1 g c2, g0, .inr ⟨h1, Int.le_refl _⟩, fun z hz => ?_⟩
  rcases List.mem_append.1 hz with hz | hz
  · exact c4 z hz
  · simp at hz; subst hz; exact .mk _ trivial (by simp)
theorem CH.chn {t : List zB} (hm : Mon t) {f b : Nat} {l : List zE} (h1 : f < b) (h2 : b ≤ t.length) : CH t f b l → Chn (zQ t (b - 1)).To (zQ t f).From l ∧ ∀ x ∈ l, Wn x := by
  rintro ⟨q0, c1, c2, c3, c4⟩
  have g0 := (hm.le (i := f) (j := b - 1) (by omega) (by omega)).1
  have g : q0 ≤ (zQ t (b - 1)).To := by
    rcases c3 with c3 | ⟨c3, c5⟩ <;> omega
  exact ⟨c1.mono g (Int.le_refl _), c4⟩
theorem CH.mk {t : List zB} (hm : Mon t) {f b : Nat} {l : List zE} {k n : Int} {s : Str} (h1 : f < b) (h2 : b ≤ t.length) (h : CH t f b l) : Bt t f b (jM t f b ⟨k, n, s, l, 0, 0⟩) := by
  have g0 := (hm.le (i := f) (j := b - 1) (by omega) (by omega)).1
  obtain ⟨g1, g2⟩ := h.chn hm h1 h2
  exact ⟨Int.le_refl _, g0, Int.le_refl _, .mk _ g1 g2⟩
theorem v3l {t : List zB} (hm : Mon t) : ∀ (n a : Nat), t.length < a + n → (typ n t a).2.2 = 0 → Bt t a (typ n t a).2.1 (typ n t a).1 ∧ z1s (typ n t a).1 + a ≤ (typ n t a).2.1
  | 0, a, _, h => by cases h
  | n + 1, a, hl, h => by
    have leaf : ∀ (k : Int) (s : Str), a < t.length → Bt t a (a + 1) (jM t a (a + 1) ⟨k, 0, s, [], 0, 0⟩) ∧ z1s (jM t a (a + 1) ⟨k, 0, s, [], 0, 0⟩) + a ≤ a + 1 := fun k s ha => ⟨(CH.nil t a (a + 1)).mk hm (by omega) (by omega), by simp [jM, z1s, gA]; omega⟩
    rw [typ] at h ⊢
    by_cases h1 : vD t a [105, 110, 116] = true
    · rw [if_pos h1]; exact leaf _ _ (uV h1)
    rw [if_neg h1] at h ⊢
    by_cases h2 : vD t a [98, 111, 111, 108] = true
    · rw [if_pos h2]; exact leaf _ _ (uV h2)
    rw [if_neg h2] at h ⊢
    by_cases h3 : (zQ t a).K = 1
    · rw [if_pos h3]; exact leaf _ _ (uT (t := t) (a := a) (by rw [h3]; decide))
    rw [if_neg h3] at h ⊢
    by_cases h4 : yT t a [91] = true
    · rw [if_pos h4] at h ⊢
      by_cases h5 : (zQ t (a + 1)).K = 2
      · rw [if_pos h5] at h ⊢
        by_cases h6 : yT t (a + 2) [93] = true
        · rw [if_pos h6] at h ⊢
          by_cases h7 : (typ n t (a + 3)).2.2 = 0
          · rw [if_pos h7]
            have q := y1c n t (a + 3) (by omega) h7
            obtain ⟨g1, g2⟩ := v3l hm n (a + 3) (by omega) h7
            refine ⟨CH.mk hm (show a < (typ n t (a + 3)).2.1 by omega) q.2 ?_, ?_⟩
            · have := (CH.nil t a (a + 3)).snoc hm (by omega) q.1 q.2 g1
              simpa using this
            · show z1s (jM t a (typ n t (a + 3)).2.1 ⟨3, _, [], [(typ n t (a + 3)).1], 0, 0⟩) + a ≤ (typ n t (a + 3)).2.1
              simp only [jM, z1s, gA]; omega
          · rw [if_neg h7] at h; exact absurd h h7
        · rw [if_neg h6] at h; cases h
      · rw [if_neg h5] at h; cases h
    · rw [if_neg h4] at h; cases h
def SB (t : List zB) : v3j → Nat → Res → Prop
  | .stmt, a, r => ∀ y b, r = .ok y b → Bt t a b y
  | .blk, a, r => ∀ y b, r = .ok y b → Bt t a b y
  | .sl f acc, a, r => f < a → CH t f a acc → ∀ y b, r = .ok y b → Bt t f b y
  | .form k f its parts name, a, r => f ≤ a → CH t f a parts → ∀ y b, r = .ok y b → Bt t f b y
theorem v3x {t : List zB} (hm : Mon t) {c : v3j} {a : Nat} {r : Res} (h : SDer t c a r) : a ≤ t.length → SB t c a r := by
  induction h with
  | sB _ _ ih => intro ha y b e; exact ih ha y b e
  | @sF a r h1 hd ih => intro ha y b e; exact ih ha (Nat.le_refl _) (CH.nil _ _ _) y b e
  | b0 _ => intro ha y b e; cases e
  | @b1 a r h1 _ ih => intro ha y b e; have h0 := zV h1; exact ih (by omega) (by omega) (CH.nil _ _ _) y b e
  | @lE f a acc h1 => intro ha hf hc y b e; cases e; have h0 := zV h1; exact CH.mk hm (by omega) (by omega) (hc.step hm (by omega) (by omega))
  | @lG f a b acc x r h1 hd _ ih1 ih2 =>
    intro ha hf hc y b' e
    have q := hd.inS ha; simp only [InS] at q
    exact ih2 q.2 (by omega) (hc.snoc hm (by omega) q.1 q.2 (ih1 ha x b rfl)) y b' e
  | lB _ _ _ => intro ha _ _ y b e; cases e
  | fE h1 => intro ha hf hc y b e; cases e; exact CH.mk hm h1 ha hc
  | fW h1 _ ih => intro ha hf hc y b e; have h0 := uV h1; exact ih (by omega) (by omega) (hc.step hm (by omega) (by omega)) y b e
  | fW0 _ => intro ha _ _ y b e; cases e
  | fS h1 _ ih => intro ha hf hc y b e; have h0 := zV h1; exact ih (by omega) (by omega) (hc.step hm (by omega) (by omega)) y b e
  | fS0 _ => intro ha _ _ y b e; cases e
  | @fN f a k its parts name r h1 _ ih => intro ha hf hc y b e; have h0 := uT (t := t) (a := a) (by rw [h1]; decide); exact ih (by omega) (by omega) (hc.step hm (by omega) (by omega)) y b e
  | fN0 _ => intro ha _ _ y b e; cases e
  | @fX f a b k its parts name x r hd _ ih => intro ha hf hc y b' e; have q := hd.inR ha; simp only [InR] at q; exact ih q.2 (by omega) (hc.snoc hm hf q.1 q.2 (v4L hm hd ha x b rfl)) y b' e
  | fX0 _ => intro ha _ _ y b e; cases e
  | @fT f a k its parts name r h1 _ ih =>
    intro ha hf hc y b e
    have q : a < (z4A t a).2.1 ∧ (z4A t a).2.1 ≤ t.length := y1c (t.length + 1) t a (by omega) h1
    exact ih q.2 (by omega) (hc.snoc hm hf q.1 q.2 (v3l hm (t.length + 1) a (by omega) h1).1) y b e
  | fT0 _ => intro ha _ _ y b e; cases e
  | @fK f a b k its parts name x r hd _ ih1 ih2 => intro ha hf hc y b' e; have q := hd.inS ha; simp only [InS] at q; exact ih2 q.2 (by omega) (hc.snoc hm hf q.1 q.2 (ih1 ha x b rfl)) y b' e
  | fK0 _ _ => intro ha _ _ y b e; cases e
  | fE0 _ _ => intro ha _ _ y b e; cases e
  | @fE1 f a b k its parts name x r hd _ _ ih1 ih2 =>
    intro ha hf hc y b' e
    have q := hd.inS ha; simp only [InS] at q
    exact ih2 q.2 (by omega) ((hc.snoc hm hf q.1 q.2 (ih1 ha x b rfl)).snocE hm (by omega) q.2) y b' e
  | @fE2 f a b c k its parts name x y r hd hw hd2 _ ih1 ih2 ih3 =>
    intro ha hf hc z b' e
    have hb := uV hw
    have q := hd.inS ha; simp only [InS] at q
    have q2 := hd2.inS (by omega); simp only [InS] at q2
    exact ih3 q2.2 (by omega) (CH.snoc hm (by omega) q2.1 q2.2 (ih2 (by omega) y c rfl) ((hc.snoc hm hf q.1 q.2 (ih1 ha x b rfl)).step hm (by omega) (by omega))) z b' e
  | fE3 _ _ _ _ _ => intro ha _ _ y b e; cases e
def SS (t : List zB) : v3j → Nat → Res → Prop
  | .stmt, a, r => ∀ y b, r = .ok y b → z1s y + 400 * a + 19 ≤ 400 * b
  | .blk, a, r => ∀ y b, r = .ok y b → z1s y + 400 * a + 500 ≤ 400 * b
  | .sl f acc, a, r => ∀ y b, r = .ok y b → z1s y + 400 * a + 300 ≤ gA acc + 400 * b
  | .form k f its parts name, a, r => ∀ y b, r = .ok y b → z1s y + 400 * a ≤ 1 + gA parts + 400 * b ∧ (its ≠ [] → z1s y + 400 * a + 20 ≤ 1 + gA parts + 400 * b)
theorem v3O {t : List zB} (hm : Mon t) {c : v3j} {a : Nat} {r : Res} (h : SDer t c a r) : a ≤ t.length → SS t c a r := by
  have sz : ∀ (p : List zE) (x : zE), gA (p ++ [x]) = gA p + z1s x := fun p x => by rw [y0u]; simp [gA]
  induction h with
  | sB _ _ ih => intro ha y b e; have := ih ha y b e; omega
  | @sF a r h1 hd ih =>
    intro ha y b e
    have := (ih ha y b e).2 (by unfold z6r; (repeat' split) <;> simp)
    simp only [gA] at this
    omega
  | b0 _ => intro ha y b e; cases e
  | @b1 a r h1 _ ih => intro ha y b e; have h0 := zV h1; have h2 := ih (by omega) y b e; rw [show gA [] = 0 from rfl, Nat.mul_add] at h2; clear h0 h1 ih e; show z1s y + 400 * a + 500 ≤ 400 * b; omega
  | lE h1 => intro ha y b e; cases e; simp only [jM, z1s]; omega
  | lG h1 hd _ ih1 ih2 => intro ha y b e; have q := hd.inS ha; simp only [InS] at q; have g1 := ih1 ha _ _ rfl; have g2 := ih2 q.2 y b e; rw [sz] at g2; omega
  | lB _ _ _ => intro ha y b e; cases e
  | fE _ => intro ha y b e; cases e; simp only [jM, z1s]; exact ⟨by omega, fun h => absurd rfl h⟩
  | fW h1 _ ih => intro ha y b e; have h0 := uV h1; have := (ih (by omega) y b e).1; exact ⟨by omega, fun _ => by omega⟩
  | fW0 _ => intro ha y b e; cases e
  | fS h1 _ ih => intro ha y b e; have h0 := zV h1; have := (ih (by omega) y b e).1; exact ⟨by omega, fun _ => by omega⟩
  | fS0 _ => intro ha y b e; cases e
  | @fN f a k its parts name r h1 _ ih => intro ha y b e; have h0 := uT (t := t) (a := a) (by rw [h1]; decide); have := (ih (by omega) y b e).1; exact ⟨by omega, fun _ => by omega⟩
  | fN0 _ => intro ha y b e; cases e
  | fX hd _ ih => intro ha y b e; have q := hd.inR ha; simp only [InR] at q; have g := v8f hd; have := (ih q.2 y b e).1; rw [sz] at this; exact ⟨by omega, fun _ => by omega⟩
  | fX0 _ => intro ha y b e; cases e
  | @fT f a k its parts name r h1 _ ih =>
    intro ha y b e
    have q : a < (z4A t a).2.1 ∧ (z4A t a).2.1 ≤ t.length := y1c (t.length + 1) t a (by omega) h1
    have g : z1s (z4A t a).1 + a ≤ (z4A t a).2.1 := (v3l hm (t.length + 1) a (by omega) h1).2
    have := (ih q.2 y b e).1
    rw [sz] at this
    exact ⟨by omega, fun _ => by omega⟩
  | fT0 _ => intro ha y b e; cases e
  | fK hd _ ih1 ih2 => intro ha y b e; have q := hd.inS ha; simp only [InS] at q; have g := ih1 ha _ _ rfl; have := (ih2 q.2 y b e).1; rw [sz] at this; exact ⟨by omega, fun _ => by omega⟩
  | fK0 _ _ => intro ha y b e; cases e
  | fE0 _ _ => intro ha y b e; cases e
  | fE1 hd _ _ ih1 ih2 =>
    intro ha y b e
    have q := hd.inS ha; simp only [InS] at q
    have g := ih1 ha _ _ rfl
    have := (ih2 q.2 y b e).1
    rw [sz, sz] at this
    simp only [z1s, gA] at this
    exact ⟨by omega, fun _ => by omega⟩
  | fE2 hd hw hd2 _ ih1 ih2 ih3 =>
    intro ha y b e
    have hb := uV hw
    have q := hd.inS ha; simp only [InS] at q
    have q2 := hd2.inS (by omega); simp only [InS] at q2
    have g := ih1 ha _ _ rfl
    have g2 := ih2 (by omega) _ _ rfl
    have := (ih3 q2.2 y b e).1
    rw [sz, sz] at this
    exact ⟨by omega, fun _ => by omega⟩
  | fE3 _ _ _ _ _ => intro ha y b e; cases e
end Go.Proofs.YtelddjedpmfclaaGreat.M

