import Derived.Test.YtelddjedpmfclaaMod
import Derived.Test.YtelddjedpmfclaaWf
namespace Go.Proofs.Ytelddjedpmfclaa.M
open Go Nt
set_option linter.unusedVariables false
set_option linter.unusedSimpArgs false
set_option linter.unusedSectionVars false
theorem z2h {n : Int} (h1 : -9223372036854775808 ≤ n) (h2 : n ≤ 9223372036854775807) : IntKind.wrap .i64 n = n := by rw [IntKind.wrap_i64]; omega
theorem v0u {α : Type} (l : List α) (n : Nat) : idx l (n : Int) = l[n]? := by unfold idx; rw [if_pos (by omega)]; rfl
theorem z2r {α : Type} {l : List α} {n : Nat} (h : n < l.length) : idx l (n : Int) = some l[n] := by rw [v0u]; exact List.getElem?_eq_getElem h
theorem y9m {α : Type} {l : List α} : idx l 0 = l[0]? := rfl
theorem zA {α β : Type} (x : α) (k : α → Option β) : (some x >>= k) = k x := rfl
theorem z1x (n : Nat) : ((n : Int) + 1) = ((n + 1 : Nat) : Int) := by omega
abbrev v1B : zB := ⟨5, 0, [], 0, 0⟩
def zQ (t : List zB) (a : Nat) : zB := (t[a]?).getD v1B
def vB (t : List zB) (a : Nat) (s : Str) : Bool := decide ((zQ t a).K = 4) && ((zQ t a).S == s)
theorem z4T (t : List zB) (a : Nat) (e : Int) : uV t a e = some (zQ t a) := by
  unfold uV zQ
  by_cases h : a < t.length
  · rw [if_pos (show (a : Int) < (t.length : Int) by omega), z2r h, zA, List.getElem?_eq_getElem h]; rfl
  · rw [if_neg (show ¬ (a : Int) < (t.length : Int) by omega), List.getElem?_eq_none (by omega)]; rfl
theorem z0L (s : Str) (t : List zB) (a : Nat) (e : Int) : wM s t a e = some (vB t a s) := by
  unfold wM vB
  rw [z4T, zA]
  by_cases h : (zQ t a).K = 4
  · rw [if_pos h, decide_eq_true h]; rfl
  · rw [if_neg h, decide_eq_false h]; rfl
def vM (t : List zB) (a : Nat) (s : Str) : Bool := decide ((zQ t a).K = 3) && ((zQ t a).S == s)
theorem wT {t : List zB} {a : Nat} (h : (zQ t a).K ≠ 5) : a < t.length := by
  rcases Nat.lt_or_ge a t.length with h1 | h1
  · exact h1
  · exfalso; apply h; unfold zQ; rw [List.getElem?_eq_none h1]; rfl
def placed (t : List zB) (f a : Nat) (x : zD) : zD := { x with From := (zQ t f).From, To := (zQ t (a - 1)).To }
theorem z4f (x : zD) (t : List zB) (hl : t.length ≤ 9223372036854775807) (f a : Nat) (hf : f < a) (ha : a ≤ t.length) : yD x f t a 0 = some (placed t f a x) := by
  unfold yD placed zQ
  have h1 : IntKind.wrap .i64 ((a : Int) - 1) = ((a - 1 : Nat) : Int) := by rw [z2h (by omega) (by omega)]; omega
  rw [if_pos rfl, z2r (show f < t.length by omega), zA, h1, z2r (show a - 1 < t.length by omega), zA, List.getElem?_eq_getElem (show f < t.length by omega), List.getElem?_eq_getElem (show a - 1 < t.length by omega)]; rfl
theorem z2m (x : zD) (t : List zB) (f : Int) (a : Int) {e : Int} (h : e ≠ 0) : yD x f t a e = some x := by
  unfold yD
  rw [if_neg h]
theorem y5z (s : Str) (t : List zB) (hl : t.length ≤ 9223372036854775807) (a : Nat) : vI s t a 0 = some (t, ((if vB t a s = true then a + 1 else a : Nat) : Int), if vB t a s = true then 0 else 6) := by
  unfold vI
  rw [if_pos rfl, z0L, zA]
  cases h : vB t a s with
  | true =>
    have ha : a < t.length := wT (by
      unfold vB at h
      simp only [Bool.and_eq_true, decide_eq_true_eq] at h
      rw [h.1]; decide)
    simp only [if_true]
    rw [z2h (by omega) (by omega), z1x]
  | false =>
    simp only [Bool.false_eq_true, if_false]
    rfl
theorem z5U (s : Str) (t : List zB) (a : Int) {e : Int} (h : e ≠ 0) : vI s t a e = some (t, a, e) := by
  unfold vI
  rw [if_neg h]
abbrev zT7 : zD := ⟨0, 0, [], [], 0, 0⟩
def typ : Nat → List zB → Nat → zD × Nat × Int
  | 0, _, a => (zT7, a, 6)
  | n + 1, t, a =>
    if vM t a [105, 110, 116] = true then (placed t a (a + 1) ⟨1, 0, [], [], 0, 0⟩, a + 1, 0)
    else if vM t a [98, 111, 111, 108] = true then (placed t a (a + 1) ⟨2, 0, [], [], 0, 0⟩, a + 1, 0)
    else if (zQ t a).K = 1 then (placed t a (a + 1) ⟨4, 0, (zQ t a).S, [], 0, 0⟩, a + 1, 0)
    else if vB t a [91] = true then
      (if (zQ t (a + 1)).K = 2 then
        (if vB t (a + 2) [93] = true then
          (if (typ n t (a + 3)).2.2 = 0 then (placed t a (typ n t (a + 3)).2.1 ⟨3, (zQ t (a + 1)).N, [], [(typ n t (a + 3)).1], 0, 0⟩, (typ n t (a + 3)).2.1, 0) else (zT7, (typ n t (a + 3)).2.1, (typ n t (a + 3)).2.2))
        else (zT7, a + 2, 6))
      else (zT7, a + 1, 6))
    else (zT7, a, 6)
theorem zU {t : List zB} {a : Nat} {s : Str} (h : vB t a s = true) : a < t.length := wT (by
  unfold vB at h
  simp only [Bool.and_eq_true, decide_eq_true_eq] at h
  rw [h.1]; decide)
theorem uD {t : List zB} {a : Nat} {s : Str} (h : vM t a s = true) : a < t.length := wT (by
  unfold vM at h
  simp only [Bool.and_eq_true, decide_eq_true_eq] at h
  rw [h.1]; decide)
theorem z5J : ∀ (n : Nat) (t : List zB) (a : Nat), t.length < a + n → (typ n t a).2.2 = 0 → a < (typ n t a).2.1 ∧ (typ n t a).2.1 ≤ t.length
  | 0, t, a, _, h => by cases h
  | n + 1, t, a, hl, h => by
    rw [typ] at h ⊢
    by_cases h1 : vM t a [105, 110, 116] = true
    · rw [if_pos h1]; have := uD h1; exact ⟨by simp, this⟩
    rw [if_neg h1] at h ⊢
    by_cases h2 : vM t a [98, 111, 111, 108] = true
    · rw [if_pos h2]; have := uD h2; exact ⟨by simp, this⟩
    rw [if_neg h2] at h ⊢
    by_cases h3 : (zQ t a).K = 1
    · rw [if_pos h3]; have := wT (t := t) (a := a) (by rw [h3]; decide); exact ⟨by simp, this⟩
    rw [if_neg h3] at h ⊢
    by_cases h4 : vB t a [91] = true
    · rw [if_pos h4] at h ⊢
      by_cases h5 : (zQ t (a + 1)).K = 2
      · rw [if_pos h5] at h ⊢
        by_cases h6 : vB t (a + 2) [93] = true
        · rw [if_pos h6] at h ⊢
          by_cases h7 : (typ n t (a + 3)).2.2 = 0
          · rw [if_pos h7]
            have := z5J n t (a + 3) (by omega) h7
            exact ⟨by show a < (typ n t (a + 3)).2.1; omega, this.2⟩
          · rw [if_neg h7] at h; exact absurd h h7
        · rw [if_neg h6] at h; cases h
      · rw [if_neg h5] at h; cases h
    · rw [if_neg h4] at h; cases h
inductive Res where
  | ok (x : zD) (b : Nat)
  | bad (b : Nat)
def y1h (x : zB) : Int × Nat :=
  if x.K = 4 then
    if x.S = [124, 124] then (1, 1)
    else if x.S = [38, 38] then (2, 2)
    else if x.S = [61, 61] then (3, 3)
    else if x.S = [33, 61] then (4, 3)
    else if x.S = [60] then (5, 3)
    else if x.S = [60, 61] then (6, 3)
    else if x.S = [62] then (7, 3)
    else if x.S = [62, 61] then (8, 3)
    else if x.S = [43] then (9, 4)
    else if x.S = [45] then (10, 4)
    else if x.S = [42] then (11, 5)
    else if x.S = [47] then (12, 5)
    else if x.S = [37] then (13, 5)
    else (0, 0)
  else (0, 0)
theorem z4s {x : zB} (h : (y1h x).2 ≠ 0) : x.K = 4 := by
  unfold y1h at h
  by_cases hk : x.K = 4
  · exact hk
  · rw [if_neg hk] at h; exact absurd rfl h
theorem v0C (x : zB) : (y1h x).2 ≤ 5 := by
  have st : ∀ (c : Prop) [Decidable c] (p q : Int × Nat), p.2 ≤ 5 → q.2 ≤ 5 → (if c then p else q).2 ≤ 5 := by intro c _ p q h1 h2; split <;> assumption
  unfold y1h
  repeat' (first | decide | refine st _ _ _ ?_ ?_)
inductive AK where
  | one (k n : Int) (s : Str)
  | paren
  | call (k : Int) (s : Str) (o : Nat) (few : Bool)
  | lis
  | nm
  | no
def z0V (t : List zB) (a : Nat) : AK :=
  if (zQ t a).K = 2 then .one 5 (zQ t a).N []
  else if (zQ t a).K = 1 then (if vB t (a + 1) [40] = true then .call 16 (zQ t a).S (a + 1) true else .one 19 0 (zQ t a).S)
  else if vM t a [116, 114, 117, 101] = true then .one 6 1 []
  else if vM t a [102, 97, 108, 115, 101] = true then .one 6 0 []
  else if vM t a [114, 101, 97, 100] = true then .one 18 0 []
  else if vM t a [110, 101, 119] = true then (if (zQ t (a + 1)).K = 1 then .call 15 (zQ t (a + 1)).S (a + 2) false else .nm)
  else if vB t a [40] = true then .paren
  else if vB t a [91] = true then .lis
  else if vB t a [64] = true then (if (zQ t (a + 1)).K = 1 then .call 17 (zQ t (a + 1)).S (a + 2) true else .nm)
  else .no
inductive Cat where
  | lev (k : Nat)
  | ll (k times f : Nat) (x : zD)
  | post
  | pl (f : Nat) (x : zD)
  | atom
  | cls (few : Bool)
  | lst (acc : List zD)
abbrev lT (l : List zD) : zD := ⟨0, 0, [], l, 0, 0⟩
inductive Der (t : List zB) : Cat → Nat → Res → Prop
  | un {a b : Nat} {n : Int} {x : zD} : (n = 1 ∧ vB t a [45] = true) ∨ (n = 2 ∧ vB t a [33] = true) → Der t (.lev 6) (a + 1) (.ok x b) → Der t (.lev 6) a (.ok (placed t a b ⟨11, n, [], [x], 0, 0⟩) b)
  | unB {a b : Nat} : vB t a [45] = true ∨ vB t a [33] = true → Der t (.lev 6) (a + 1) (.bad b) → Der t (.lev 6) a (.bad b)
  | unP {a : Nat} {r : Res} : vB t a [45] = false → vB t a [33] = false → Der t .post a r → Der t (.lev 6) a r
  | lev {k a b : Nat} {x : zD} {r : Res} : 1 ≤ k → k ≤ 5 → Der t (.lev (k + 1)) a (.ok x b) → Der t (.ll k 0 a x) b r → Der t (.lev k) a r
  | levB {k a b : Nat} : 1 ≤ k → k ≤ 5 → Der t (.lev (k + 1)) a (.bad b) → Der t (.lev k) a (.bad b)
  | llE {k m f a : Nat} {x : zD} : 1 ≤ k → (y1h (zQ t a)).2 ≠ k ∨ (k = 3 ∧ m = 1) → Der t (.ll k m f x) a (.ok x a)
  | llG {k m f a b : Nat} {x y : zD} {r : Res} : 1 ≤ k → (y1h (zQ t a)).2 = k → ¬ (k = 3 ∧ m = 1) → Der t (.lev (k + 1)) (a + 1) (.ok y b) → Der t (.ll k (m + 1) f (placed t f b ⟨10, (y1h (zQ t a)).1, [], [x, y], 0, 0⟩)) b r → Der t (.ll k m f x) a r
  | llB {k m f a b : Nat} {x : zD} : 1 ≤ k → (y1h (zQ t a)).2 = k → ¬ (k = 3 ∧ m = 1) → Der t (.lev (k + 1)) (a + 1) (.bad b) → Der t (.ll k m f x) a (.bad b)
  | post {a b : Nat} {x : zD} {r : Res} : Der t .atom a (.ok x b) → Der t (.pl a x) b r → Der t .post a r
  | postB {a b : Nat} : Der t .atom a (.bad b) → Der t .post a (.bad b)
  | plE {f a : Nat} {x : zD} : vB t a [91] = false → vB t a [46] = false → Der t (.pl f x) a (.ok x a)
  | plI {f a b : Nat} {x i : zD} {r : Res} : vB t a [91] = true → Der t (.lev 1) (a + 1) (.ok i b) → vB t b [93] = true → Der t (.pl f (placed t f (b + 1) ⟨12, 0, [], [x, i], 0, 0⟩)) (b + 1) r → Der t (.pl f x) a r
  | plI1 {f a b : Nat} {x : zD} : vB t a [91] = true → Der t (.lev 1) (a + 1) (.bad b) → Der t (.pl f x) a (.bad b)
  | plI2 {f a b : Nat} {x i : zD} : vB t a [91] = true → Der t (.lev 1) (a + 1) (.ok i b) → vB t b [93] = false → Der t (.pl f x) a (.bad b)
  | plF {f a : Nat} {x : zD} {r : Res} : vB t a [91] = false → vB t a [46] = true → (zQ t (a + 1)).K = 1 → Der t (.pl f (placed t f (a + 2) ⟨13, 0, (zQ t (a + 1)).S, [x], 0, 0⟩)) (a + 2) r → Der t (.pl f x) a r
  | plFB {f a : Nat} {x : zD} : vB t a [91] = false → vB t a [46] = true → (zQ t (a + 1)).K ≠ 1 → Der t (.pl f x) a (.bad (a + 1))
  | one {a : Nat} {k n : Int} {s : Str} : z0V t a = .one k n s → Der t .atom a (.ok (placed t a (a + 1) ⟨k, n, s, [], 0, 0⟩) (a + 1))
  | par {a b : Nat} {x : zD} : z0V t a = .paren → Der t (.lev 1) (a + 1) (.ok x b) → vB t b [41] = true → Der t .atom a (.ok x (b + 1))
  | par1 {a b : Nat} : z0V t a = .paren → Der t (.lev 1) (a + 1) (.bad b) → Der t .atom a (.bad b)
  | par2 {a b : Nat} {x : zD} : z0V t a = .paren → Der t (.lev 1) (a + 1) (.ok x b) → vB t b [41] = false → Der t .atom a (.bad b)
  | call {a o b : Nat} {k : Int} {s : Str} {few : Bool} {l : List zD} : z0V t a = .call k s o few → Der t (.cls few) o (.ok (lT l) b) → Der t .atom a (.ok (placed t a b ⟨k, 0, s, l, 0, 0⟩) b)
  | callB {a o b : Nat} {k : Int} {s : Str} {few : Bool} : z0V t a = .call k s o few → Der t (.cls few) o (.bad b) → Der t .atom a (.bad b)
  | lis {a b : Nat} {l : List zD} : z0V t a = .lis → Der t (.lst []) (a + 1) (.ok (lT l) b) → vB t b [93] = true → Der t .atom a (.ok (placed t a (b + 1) ⟨14, 0, [], l, 0, 0⟩) (b + 1))
  | lis1 {a b : Nat} : z0V t a = .lis → Der t (.lst []) (a + 1) (.bad b) → Der t .atom a (.bad b)
  | lis2 {a b : Nat} {l : List zD} : z0V t a = .lis → Der t (.lst []) (a + 1) (.ok (lT l) b) → vB t b [93] = false → Der t .atom a (.bad b)
  | nm {a : Nat} : z0V t a = .nm → Der t .atom a (.bad (a + 1))
  | no {a : Nat} : z0V t a = .no → Der t .atom a (.bad a)
  | cls0 {a : Nat} {few : Bool} : vB t a [40] = false → Der t (.cls few) a (.bad a)
  | clsF {a : Nat} : vB t a [40] = true → vB t (a + 1) [41] = true → Der t (.cls true) a (.ok (lT []) (a + 2))
  | cls {a b : Nat} {few : Bool} {l : List zD} : vB t a [40] = true → (few = true → vB t (a + 1) [41] = false) → Der t (.lst []) (a + 1) (.ok (lT l) b) → vB t b [41] = true → Der t (.cls few) a (.ok (lT l) (b + 1))
  | cls1 {a b : Nat} {few : Bool} : vB t a [40] = true → (few = true → vB t (a + 1) [41] = false) → Der t (.lst []) (a + 1) (.bad b) → Der t (.cls few) a (.bad b)
  | cls2 {a b : Nat} {few : Bool} {l : List zD} : vB t a [40] = true → (few = true → vB t (a + 1) [41] = false) → Der t (.lst []) (a + 1) (.ok (lT l) b) → vB t b [41] = false → Der t (.cls few) a (.bad b)
  | lstE {a b : Nat} {acc : List zD} {x : zD} : Der t (.lev 1) a (.ok x b) → vB t b [44] = false → Der t (.lst acc) a (.ok (lT (acc ++ [x])) b)
  | lstG {a b : Nat} {acc : List zD} {x : zD} {r : Res} : Der t (.lev 1) a (.ok x b) → vB t b [44] = true → Der t (.lst (acc ++ [x])) (b + 1) r → Der t (.lst acc) a r
  | lstB {a b : Nat} {acc : List zD} : Der t (.lev 1) a (.bad b) → Der t (.lst acc) a (.bad b)
def InR (t : List zB) (c : Cat) (a : Nat) : Res → Prop
  | .ok x b => (match c with | .ll _ _ _ _ => a ≤ b | .pl _ _ => a ≤ b | _ => a < b) ∧ b ≤ t.length
  | .bad b => a ≤ b ∧ b ≤ t.length
theorem z1d {t : List zB} {a : Nat} (h : z0V t a ≠ .no) : a < t.length := by
  unfold z0V at h
  by_cases h1 : (zQ t a).K = 2
  · exact wT (by rw [h1]; decide)
  rw [if_neg h1] at h
  by_cases h2 : (zQ t a).K = 1
  · exact wT (by rw [h2]; decide)
  rw [if_neg h2] at h
  by_cases h3 : vM t a [116, 114, 117, 101] = true
  · exact uD h3
  rw [if_neg h3] at h
  by_cases h3 : vM t a [102, 97, 108, 115, 101] = true
  · exact uD h3
  rw [if_neg h3] at h
  by_cases h3 : vM t a [114, 101, 97, 100] = true
  · exact uD h3
  rw [if_neg h3] at h
  by_cases h3 : vM t a [110, 101, 119] = true
  · exact uD h3
  rw [if_neg h3] at h
  by_cases h3 : vB t a [40] = true
  · exact zU h3
  rw [if_neg h3] at h
  by_cases h3 : vB t a [91] = true
  · exact zU h3
  rw [if_neg h3] at h
  by_cases h3 : vB t a [64] = true
  · exact zU h3
  rw [if_neg h3] at h
  exact absurd rfl h
theorem z2Q {t : List zB} {a o : Nat} {k : Int} {s : Str} {few : Bool} (h : z0V t a = .call k s o few) : a < o ∧ o ≤ t.length := by
  have h0 := z1d (t := t) (a := a) (by rw [h]; simp)
  unfold z0V at h
  repeat' split at h
  all_goals first
    | (cases h; done)
    | (injection h with h1 h2 h3 h4; subst h3; rename_i q; have := wT (t := t) (a := a + 1) (by rw [q]; decide); omega)
    | (injection h with h1 h2 h3 h4; subst h3; omega)
theorem Der.inR {t : List zB} {c : Cat} {a : Nat} {r : Res} (h : Der t c a r) : a ≤ t.length → InR t c a r := by
  induction h with
  | un h1 _ ih =>
    intro _
    have ha : _ < t.length := h1.elim (fun h => zU h.2) (fun h => zU h.2)
    have := ih (by omega); simp only [InR] at this ⊢; omega
  | unB h1 _ ih =>
    intro _
    have ha : _ < t.length := h1.elim (fun h => zU h) (fun h => zU h)
    have := ih (by omega); simp only [InR] at this ⊢; omega
  | unP _ _ _ ih => intro h; exact ih h
  | @lev k a b x r h1 h2 _ _ ih1 ih2 =>
    intro h
    have q1 := ih1 h; simp only [InR] at q1
    have q2 := ih2 q1.2
    cases r <;> simp only [InR] at q2 ⊢ <;> omega
  | levB _ _ _ ih => intro h; exact ih h
  | llE _ _ => intro h; simp only [InR]; omega
  | @llG k m f a b x y r h1 h2 h3 _ _ ih1 ih2 =>
    intro h
    have ha := wT (t := t) (a := a) (by rw [z4s (by omega)]; decide)
    have q1 := ih1 (by omega); simp only [InR] at q1
    have q2 := ih2 q1.2
    cases r <;> simp only [InR] at q2 ⊢ <;> omega
  | @llB k m f a b x h1 h2 h3 _ ih1 =>
    intro h
    have ha := wT (t := t) (a := a) (by rw [z4s (by omega)]; decide)
    have q1 := ih1 (by omega); simp only [InR] at q1 ⊢; omega
  | @post a b x r _ _ ih1 ih2 =>
    intro h
    have q1 := ih1 h; simp only [InR] at q1
    have q2 := ih2 q1.2
    cases r <;> simp only [InR] at q2 ⊢ <;> omega
  | postB _ ih => intro h; exact ih h
  | plE _ _ => intro h; simp only [InR]; omega
  | @plI f a b x i r h1 _ h2 _ ih1 ih2 =>
    intro h
    have ha := zU h1
    have hb := zU h2
    have q1 := ih1 (by omega); simp only [InR] at q1
    have q2 := ih2 (by omega)
    cases r <;> simp only [InR] at q2 ⊢ <;> omega
  | plI1 h1 _ ih =>
    intro h
    have ha := zU h1
    have q1 := ih (by omega); simp only [InR] at q1 ⊢; omega
  | plI2 h1 _ _ ih =>
    intro h
    have ha := zU h1
    have q1 := ih (by omega); simp only [InR] at q1 ⊢; omega
  | @plF f a x r h0 h1 h2 _ ih =>
    intro h
    have ha := wT (t := t) (a := a + 1) (by rw [h2]; decide)
    have q2 := ih (by omega)
    cases r <;> simp only [InR] at q2 ⊢ <;> omega
  | plFB _ h1 _ => intro h; have := zU h1; simp only [InR]; omega
  | one h1 => intro h; have := z1d (by rw [h1]; simp); simp only [InR]; omega
  | par h1 _ h2 ih =>
    intro h; have ha := z1d (by rw [h1]; simp); have hb := zU h2
    have q1 := ih (by omega); simp only [InR] at q1 ⊢; omega
  | par1 h1 _ ih =>
    intro h; have ha := z1d (by rw [h1]; simp)
    have q1 := ih (by omega); simp only [InR] at q1 ⊢; omega
  | par2 h1 _ _ ih =>
    intro h; have ha := z1d (by rw [h1]; simp)
    have q1 := ih (by omega); simp only [InR] at q1 ⊢; omega
  | call h1 _ ih =>
    intro h; have ha := z2Q h1
    have q1 := ih (by omega); simp only [InR] at q1 ⊢; omega
  | callB h1 _ ih =>
    intro h; have ha := z2Q h1
    have q1 := ih (by omega); simp only [InR] at q1 ⊢; omega
  | lis h1 _ h2 ih =>
    intro h; have ha := z1d (by rw [h1]; simp); have hb := zU h2
    have q1 := ih (by omega); simp only [InR] at q1 ⊢; omega
  | lis1 h1 _ ih =>
    intro h; have ha := z1d (by rw [h1]; simp)
    have q1 := ih (by omega); simp only [InR] at q1 ⊢; omega
  | lis2 h1 _ _ ih =>
    intro h; have ha := z1d (by rw [h1]; simp)
    have q1 := ih (by omega); simp only [InR] at q1 ⊢; omega
  | nm h1 => intro h; have ha := z1d (by rw [h1]; simp); simp only [InR]; omega
  | no _ => intro h; simp only [InR]; omega
  | cls0 _ => intro h; simp only [InR]; omega
  | clsF h1 h2 => intro h; have ha := zU h2; simp only [InR]; omega
  | cls h1 _ _ h2 ih =>
    intro h; have ha := zU h1; have hb := zU h2
    have q1 := ih (by omega); simp only [InR] at q1 ⊢; omega
  | cls1 h1 _ _ ih =>
    intro h; have ha := zU h1
    have q1 := ih (by omega); simp only [InR] at q1 ⊢; omega
  | cls2 h1 _ _ _ ih =>
    intro h; have ha := zU h1
    have q1 := ih (by omega); simp only [InR] at q1 ⊢; omega
  | lstE _ _ ih => intro h; have q1 := ih h; simp only [InR] at q1 ⊢; omega
  | @lstG a b acc x r _ h2 _ ih1 ih2 =>
    intro h; have hb := zU h2
    have q1 := ih1 h; simp only [InR] at q1
    have q2 := ih2 (by omega)
    cases r <;> simp only [InR] at q2 ⊢ <;> omega
  | lstB _ ih => intro h; have q1 := ih h; simp only [InR] at q1 ⊢; omega
theorem v0q (t : List zB) : ∀ (d a : Nat), a + d = t.length → ∀ k, 1 ≤ k → k ≤ 6 → ∃ r, Der t (.lev k) a r := by
  intro d
  induction d using Nat.strongRecOn with
  | _ d IH =>
    intro a had
    have up : ∀ b, a < b → b ≤ t.length → ∀ k, 1 ≤ k → k ≤ 6 → ∃ r, Der t (.lev k) b r := fun b h1 h2 k hk1 hk2 => IH (t.length - b) (by omega) b (by omega) k hk1 hk2
    have lst : ∀ (n b : Nat) (acc : List zD), a < b → b + n = t.length → ∃ r, Der t (.lst acc) b r ∧ ∀ x c, r = .ok x c → ∃ l, x = lT l := by
      intro n
      induction n using Nat.strongRecOn with
      | _ n ihn =>
        intro b acc h1 h2
        obtain ⟨r, hr⟩ := up b h1 (by omega) 1 (by omega) (by omega)
        have q := hr.inR (by omega)
        cases r with
        | bad c => exact ⟨_, .lstB hr, fun _ _ h => by cases h⟩
        | ok x c =>
          simp only [InR] at q
          cases hs : vB t c [44] with
          | false => exact ⟨_, .lstE hr hs, fun _ _ h => by cases h; exact ⟨_, rfl⟩⟩
          | true =>
            have := zU hs
            obtain ⟨r, h3, h4⟩ := ihn (t.length - (c + 1)) (by omega) (c + 1) (acc ++ [x]) (by omega) (by omega)
            exact ⟨r, .lstG hr hs h3, h4⟩
    have cls : ∀ (b : Nat) (few : Bool), a < b → b ≤ t.length → ∃ r, Der t (.cls few) b r ∧ ∀ x c, r = .ok x c → ∃ l, x = lT l := by
      intro b few h1 h2
      cases hs : vB t b [40] with
      | false => exact ⟨_, .cls0 hs, fun _ _ h => by cases h⟩
      | true =>
        have hb := zU hs
        by_cases hf : few = true ∧ vB t (b + 1) [41] = true
        · obtain ⟨rfl, h⟩ := hf
          exact ⟨_, .clsF hs h, fun _ _ h => by cases h; exact ⟨_, rfl⟩⟩
        · have hf' : few = true → vB t (b + 1) [41] = false := fun h => by
            cases h1 : vB t (b + 1) [41] with
            | false => rfl
            | true => exact absurd ⟨h, h1⟩ hf
          obtain ⟨r, h3, h4⟩ := lst (t.length - (b + 1)) (b + 1) [] (by omega) (by omega)
          cases r with
          | bad c => exact ⟨_, .cls1 hs hf' h3, fun _ _ h => by cases h⟩
          | ok x c =>
            obtain ⟨l, rfl⟩ := h4 x c rfl
            cases hc : vB t c [41] with
            | true => exact ⟨_, .cls hs hf' h3 hc, fun _ _ h => by cases h; exact ⟨_, rfl⟩⟩
            | false => exact ⟨_, .cls2 hs hf' h3 hc, fun _ _ h => by cases h⟩
    have atom : ∃ r, Der t .atom a r := by
      cases hk : z0V t a with
      | no => exact ⟨_, .no hk⟩
      | nm => exact ⟨_, .nm hk⟩
      | one k n s => exact ⟨_, .one hk⟩
      | paren =>
        have ha := z1d (t := t) (a := a) (by rw [hk]; simp)
        obtain ⟨r, hr⟩ := up (a + 1) (by omega) (by omega) 1 (by omega) (by omega)
        cases r with
        | bad c => exact ⟨_, .par1 hk hr⟩
        | ok x c =>
          cases hc : vB t c [41] with
          | true => exact ⟨_, .par hk hr hc⟩
          | false => exact ⟨_, .par2 hk hr hc⟩
      | call k s o few =>
        have ha := z2Q hk
        obtain ⟨r, h3, h4⟩ := cls o few ha.1 ha.2
        cases r with
        | bad c => exact ⟨_, .callB hk h3⟩
        | ok x c =>
          obtain ⟨l, rfl⟩ := h4 x c rfl
          exact ⟨_, .call hk h3⟩
      | lis =>
        have ha := z1d (t := t) (a := a) (by rw [hk]; simp)
        obtain ⟨r, h3, h4⟩ := lst (t.length - (a + 1)) (a + 1) [] (by omega) (by omega)
        cases r with
        | bad c => exact ⟨_, .lis1 hk h3⟩
        | ok x c =>
          obtain ⟨l, rfl⟩ := h4 x c rfl
          cases hc : vB t c [93] with
          | true => exact ⟨_, .lis hk h3 hc⟩
          | false => exact ⟨_, .lis2 hk h3 hc⟩
    have pl : ∀ (n b : Nat) (x : zD), a < b → b + n = t.length → ∃ r, Der t (.pl a x) b r := by
      intro n
      induction n using Nat.strongRecOn with
      | _ n ihn =>
        intro b x h1 h2
        cases hs : vB t b [91] with
        | true =>
          have hb := zU hs
          obtain ⟨r, hr⟩ := up (b + 1) (by omega) (by omega) 1 (by omega) (by omega)
          have q := hr.inR (by omega)
          cases r with
          | bad c => exact ⟨_, .plI1 hs hr⟩
          | ok i c =>
            simp only [InR] at q
            cases hc : vB t c [93] with
            | false => exact ⟨_, .plI2 hs hr hc⟩
            | true =>
              have := zU hc
              obtain ⟨r, h3⟩ := ihn (t.length - (c + 1)) (by omega) (c + 1) _ (by omega) (by omega)
              exact ⟨r, .plI hs hr hc h3⟩
        | false =>
          cases hd : vB t b [46] with
          | false => exact ⟨_, .plE hs hd⟩
          | true =>
            by_cases hk : (zQ t (b + 1)).K = 1
            · have := wT (t := t) (a := b + 1) (by rw [hk]; decide)
              obtain ⟨r, h3⟩ := ihn (t.length - (b + 2)) (by omega) (b + 2) _ (by omega) (by omega)
              exact ⟨r, .plF hs hd hk h3⟩
            · exact ⟨_, .plFB hs hd hk⟩
    have post : ∃ r, Der t .post a r := by
      obtain ⟨r, hr⟩ := atom
      have q := hr.inR (by omega)
      cases r with
      | bad c => exact ⟨_, .postB hr⟩
      | ok x c =>
        simp only [InR] at q
        obtain ⟨r, h3⟩ := pl (t.length - c) c x (by omega) (by omega)
        exact ⟨r, .post hr h3⟩
    have un : ∃ r, Der t (.lev 6) a r := by
      by_cases hs : vB t a [45] = true ∨ vB t a [33] = true
      · have ha : a < t.length := hs.elim zU zU
        obtain ⟨r, hr⟩ := up (a + 1) (by omega) (by omega) 6 (by omega) (by omega)
        cases r with
        | bad c => exact ⟨_, .unB hs hr⟩
        | ok x c =>
          rcases hs with hs | hs
          · exact ⟨_, .un (n := 1) (.inl ⟨rfl, hs⟩) hr⟩
          · exact ⟨_, .un (n := 2) (.inr ⟨rfl, hs⟩) hr⟩
      · have h1 : vB t a [45] = false := by cases h : vB t a [45] <;> simp_all
        have h2 : vB t a [33] = false := by cases h : vB t a [33] <;> simp_all
        obtain ⟨r, hr⟩ := post
        exact ⟨r, .unP h1 h2 hr⟩
    have ll : ∀ (n b k m : Nat) (x : zD), a < b → b + n = t.length → 1 ≤ k → k ≤ 5 → ∃ r, Der t (.ll k m a x) b r := by
      intro n
      induction n using Nat.strongRecOn with
      | _ n ihn =>
        intro b k m x h1 h2 hk1 hk2
        by_cases ho : (y1h (zQ t b)).2 ≠ k ∨ (k = 3 ∧ m = 1)
        · exact ⟨_, .llE hk1 ho⟩
        · have ho1 : (y1h (zQ t b)).2 = k := by
            by_cases h : (y1h (zQ t b)).2 = k
            · exact h
            · exact absurd (.inl h) ho
          have ho2 : ¬ (k = 3 ∧ m = 1) := fun h => ho (.inr h)
          have hb := wT (t := t) (a := b) (by rw [z4s (by omega)]; decide)
          obtain ⟨r, hr⟩ := up (b + 1) (by omega) (by omega) (k + 1) (by omega) (by omega)
          have q := hr.inR (by omega)
          cases r with
          | bad c => exact ⟨_, .llB hk1 ho1 ho2 hr⟩
          | ok y c =>
            simp only [InR] at q
            obtain ⟨r, h3⟩ := ihn (t.length - c) (by omega) c k (m + 1) _ (by omega) (by omega) hk1 hk2
            exact ⟨r, .llG hk1 ho1 ho2 hr h3⟩
    have down : ∀ j, j ≤ 5 → ∃ r, Der t (.lev (6 - j)) a r := by
      intro j
      induction j with
      | zero => intro _; exact un
      | succ j ih =>
        intro hj
        obtain ⟨r, hr⟩ := ih (by omega)
        rw [show 6 - j = (6 - (j + 1)) + 1 by omega] at hr
        have q := hr.inR (by omega)
        cases r with
        | bad c => exact ⟨_, .levB (by omega) (by omega) hr⟩
        | ok x c =>
          simp only [InR] at q
          obtain ⟨r, h3⟩ := ll (t.length - c) c (6 - (j + 1)) 0 x (by omega) (by omega) (by omega) (by omega)
          exact ⟨r, .lev (by omega) (by omega) hr h3⟩
    intro k hk1 hk2
    have := down (6 - k) (by omega)
    rwa [show 6 - (6 - k) = k by omega] at this
theorem uJ {t : List zB} (hl : t.length ≤ 1048576) {a : Nat} (h : a ≤ t.length + 3) : IntKind.wrap .i64 ((a : Int) + 1) = ((a + 1 : Nat) : Int) := by rw [z2h (by omega) (by omega)]; omega
theorem v0H {t : List zB} {a : Nat} {s : Str} (h : vB t a s = true) : (zQ t a).K = 4 ∧ (zQ t a).S = s := by
  unfold vB at h
  simpa using h
theorem y2M {t : List zB} {a : Nat} {s : Str} (h : vM t a s = true) : (zQ t a).K = 3 ∧ (zQ t a).S = s := by
  unfold vM at h
  simpa using h
theorem v0a {t : List zB} {a : Nat} (h : (zQ t a).K ≠ 4) (s : Str) : vB t a s = false := by unfold vB; rw [decide_eq_false h]; rfl
theorem y9Z {t : List zB} {a : Nat} {s s' : Str} (h : vB t a s = true) (hs : s ≠ s') : vB t a s' = false := by
  unfold vB; rw [(v0H h).2]; simp [hs]
theorem v0e {t : List zB} {a : Nat} {s s' : Str} (h : vM t a s = true) (hs : s ≠ s') : vM t a s' = false := by
  unfold vM; rw [(y2M h).2]; simp [hs]
theorem v0I (s : Str) : s = [124, 124] ∨ s = [38, 38] ∨ s = [61, 61] ∨ s = [33, 61] ∨ s = [60] ∨ s = [60, 61] ∨ s = [62] ∨ s = [62, 61] ∨ s = [43] ∨ s = [45] ∨ s = [42] ∨ s = [47] ∨ s = [37] ∨
    (s ≠ [124, 124] ∧ s ≠ [38, 38] ∧ s ≠ [61, 61] ∧ s ≠ [33, 61] ∧ s ≠ [60] ∧ s ≠ [60, 61] ∧ s ≠ [62] ∧ s ≠ [62, 61] ∧ s ≠ [43] ∧ s ≠ [45] ∧ s ≠ [42] ∧ s ≠ [47] ∧ s ≠ [37]) := by
  by_cases h : s ∈ ([[124, 124], [38, 38], [61, 61], [33, 61], [60], [60, 61], [62], [62, 61], [43], [45], [42], [47], [37]] : List Str)
  · simp only [List.mem_cons, List.not_mem_nil, or_false] at h
    rcases h with h | h | h | h | h | h | h | h | h | h | h | h | h <;> simp [h]
  · simp only [List.mem_cons, List.not_mem_nil, or_false, not_or] at h
    simp only [h, false_or]
    exact h
theorem y6q {n : Nat} (h : n ≤ 1048577) : z2N 72 n := by unfold z2N; omega
theorem z3J {t : List zB} {a : Nat} (h : z0V t a = .paren) : vB t a [40] = true := by
  unfold z0V at h
  repeat' split at h
  all_goals first | (cases h; done) | assumption
theorem z5k {t : List zB} {a : Nat} (h : z0V t a = .lis) : vB t a [91] = true := by
  unfold z0V at h
  repeat' split at h
  all_goals first | (cases h; done) | assumption
theorem y5m {t : List zB} {a o : Nat} {k : Int} {s : Str} {few : Bool} (h : z0V t a = .call k s o few) :
    (k = 16 ∧ s = (zQ t a).S ∧ o = a + 1 ∧ few = true ∧ (zQ t a).K = 1 ∧ vB t (a + 1) [40] = true) ∨ (k = 15 ∧ s = (zQ t (a + 1)).S ∧ o = a + 2 ∧ few = false ∧ vM t a [110, 101, 119] = true ∧ (zQ t (a + 1)).K = 1) ∨
    (k = 17 ∧ s = (zQ t (a + 1)).S ∧ o = a + 2 ∧ few = true ∧ vB t a [64] = true ∧ (zQ t (a + 1)).K = 1) := by
  unfold z0V at h
  repeat' split at h
  all_goals first
    | (cases h; done)
    | (injection h with e1 e2 e3 e4; subst e1; subst e2; subst e3; subst e4
       first
       | exact .inl ⟨rfl, rfl, rfl, rfl, by assumption, by assumption⟩
       | exact .inr (.inl ⟨rfl, rfl, rfl, rfl, by assumption, by assumption⟩)
       | exact .inr (.inr ⟨rfl, rfl, rfl, rfl, by assumption, by assumption⟩))
theorem y8Y {t : List zB} {a : Nat} (h : z0V t a = .nm) : (vM t a [110, 101, 119] = true ∨ vB t a [64] = true) ∧ (zQ t (a + 1)).K ≠ 1 := by
  unfold z0V at h
  repeat' split at h
  all_goals first
    | (cases h; done)
    | exact ⟨.inl (by assumption), by assumption⟩
    | exact ⟨.inr (by assumption), by assumption⟩
theorem y8Z {t : List zB} {a : Nat} (h : z0V t a = .no) : (zQ t a).K ≠ 2 ∧ (zQ t a).K ≠ 1 ∧ vM t a [116, 114, 117, 101] = false ∧ vM t a [102, 97, 108, 115, 101] = false ∧ vM t a [114, 101, 97, 100] = false ∧ vM t a [110, 101, 119] = false ∧
    vB t a [40] = false ∧ vB t a [91] = false ∧ vB t a [64] = false := by
  unfold z0V at h
  repeat' split at h
  all_goals first
    | (cases h; done)
    | (refine ⟨by assumption, by assumption, ?_, ?_, ?_, ?_, ?_, ?_, ?_⟩ <;> (first | (apply Bool.eq_false_iff.2; assumption)))
theorem y9s (t : List zB) (a : Int) {e : Int} (h : e ≠ 0) : yN t a e = some (zT7, t, a, e) := by
  rw [z2K]; unfold z0c
  rw [if_neg h]
theorem y7B (t : List zB) (a : Int) : wL t a 0 = some (t, a, 6) := rfl
theorem y3I (t : List zB) (hl : t.length ≤ 9223372036854775807) : ∀ (n a : Nat), t.length < a + n → a ≤ t.length →
    ∃ x, yN t a 0 = some (x, t, ((typ n t a).2.1 : Int), (typ n t a).2.2) ∧ ((typ n t a).2.2 = 0 → x = (typ n t a).1) := by
  intro n
  induction n with
  | zero => intro a h1 h2; omega
  | succ n ih =>
    intro a h1 h2
    rw [z2K]; unfold z0c
    rw [if_pos rfl, z4T, zA]
    try dsimp only
    have c1 : ∀ b : Nat, b < t.length → IntKind.wrap .i64 ((b : Int) + 1) = ((b + 1 : Nat) : Int) := fun b hb => by rw [z2h (by omega) (by omega)]; omega
    have tail : vM t a [105, 110, 116] = false → vM t a [98, 111, 111, 108] = false → (zQ t a).K ≠ 1 →
        ∃ x, (wM ([91] : List UInt8) t a 0 >>= fun q30 =>
          if q30 = true then
            uV t (IntKind.wrap .i64 ((a : Int) + 1)) 0 >>= fun q31 =>
            if q31.K = 2 then
              vI ([93] : List UInt8) t (IntKind.wrap .i64 ((IntKind.wrap .i64 ((a : Int) + 1)) + 1)) 0 >>= fun q33 =>
              yN q33.1 q33.2.1 q33.2.2 >>= fun q34 =>
              yD (zD.mk 3 q31.N ([] : List UInt8) [q34.1] 0 0) a q34.2.1 q34.2.2.1 q34.2.2.2 >>= fun q35 =>
              some (q35, q34.2.1, q34.2.2.1, q34.2.2.2)
            else
            wL t (IntKind.wrap .i64 ((a : Int) + 1)) 0 >>= fun q32 =>
            some ((zD.mk 0 0 ([] : List UInt8) [] 0 0), q32.1, q32.2.1, q32.2.2)
          else
          wL t a 0 >>= fun q36 =>
          some ((zD.mk 0 0 ([] : List UInt8) [] 0 0), q36.1, q36.2.1, q36.2.2)) = some (x, t, ((typ (n + 1) t a).2.1 : Int), (typ (n + 1) t a).2.2) ∧ ((typ (n + 1) t a).2.2 = 0 → x = (typ (n + 1) t a).1) := by
      intro w1 w2 w3
      rw [typ, w1, w2, if_neg (by simp), if_neg (by simp), if_neg w3, z0L, zA]
      try dsimp only
      by_cases g4 : vB t a [91] = true
      · have k4 := zU g4
        rw [if_pos g4, if_pos g4, c1 a k4, z4T, zA]
        try dsimp only
        by_cases g5 : (zQ t (a + 1)).K = 2
        · have k5 := wT (t := t) (a := a + 1) (by rw [g5]; decide)
          rw [if_pos g5, if_pos g5, c1 (a + 1) k5, show a + 1 + 1 = a + 2 from rfl, y5z _ _ hl, zA]
          try dsimp only
          by_cases g6 : vB t (a + 2) [93] = true
          · have k6 := zU g6
            rw [if_pos g6, if_pos g6, if_pos g6, show a + 2 + 1 = a + 3 from rfl]
            obtain ⟨x, e1, e2⟩ := ih (a + 3) (by omega) (by omega)
            rw [e1, zA]
            try dsimp only
            by_cases g7 : (typ n t (a + 3)).2.2 = 0
            · have hp := z5J n t (a + 3) (by omega) g7
              rw [if_pos g7, g7, z4f _ t hl a _ (by omega) hp.2, zA, e2 g7]
              exact ⟨_, rfl, fun _ => rfl⟩
            · rw [if_neg g7, z2m _ _ _ _ g7, zA]
              exact ⟨_, rfl, fun h => absurd h g7⟩
          · rw [if_neg g6, if_neg g6, if_neg g6, y9s _ _ (by decide), zA]
            try dsimp only
            rw [z2m _ _ _ _ (by decide), zA]
            exact ⟨_, rfl, fun h => by cases h⟩
        · rw [if_neg g5, if_neg g5, y7B, zA]
          exact ⟨_, rfl, fun h => by cases h⟩
      · rw [if_neg g4, if_neg g4, y7B, zA]
        exact ⟨_, rfl, fun h => by cases h⟩
    by_cases k3 : (zQ t a).K = 3
    · have hlt := wT (t := t) (a := a) (by rw [k3]; decide)
      rw [if_pos k3]
      by_cases s1 : (zQ t a).S = [105, 110, 116]
      · have w1 : vM t a [105, 110, 116] = true := by unfold vM; rw [k3, s1]; rfl
        rw [if_pos s1, c1 a hlt, z4f _ t hl a (a + 1) (by omega) (by omega), zA, typ, if_pos w1]
        exact ⟨_, rfl, fun _ => rfl⟩
      have w1 : vM t a [105, 110, 116] = false := by unfold vM; rw [beq_eq_false_iff_ne.2 s1]; simp
      rw [if_neg s1]
      by_cases s2 : (zQ t a).S = [98, 111, 111, 108]
      · have w2 : vM t a [98, 111, 111, 108] = true := by unfold vM; rw [k3, s2]; rfl
        rw [if_pos s2, c1 a hlt, z4f _ t hl a (a + 1) (by omega) (by omega), zA, typ, w1, if_neg (by simp), if_pos w2]
        exact ⟨_, rfl, fun _ => rfl⟩
      have w2 : vM t a [98, 111, 111, 108] = false := by unfold vM; rw [beq_eq_false_iff_ne.2 s2]; simp
      rw [if_neg s2]
      exact tail w1 w2 (by omega)
    · rw [if_neg k3]
      have w : ∀ s, vM t a s = false := fun s => by unfold vM; rw [decide_eq_false k3]; rfl
      by_cases k1 : (zQ t a).K = 1
      · have hlt := wT (t := t) (a := a) (by rw [k1]; decide)
        rw [if_pos k1, c1 a hlt, z4f _ t hl a (a + 1) (by omega) (by omega), zA, typ, w, w, if_neg (by simp), if_neg (by simp), if_pos k1]
        exact ⟨_, rfl, fun _ => rfl⟩
      · rw [if_neg k1]
        exact tail (w _) (w _) k1
def PR (t : List zB) (p : Option (zD × List zB × Int × Int)) : Res → Prop
  | .ok x b => p = some (x, t, (b : Int), 0)
  | .bad b => ∃ y, p = some (y, t, (b : Int), 6)
theorem six : (6 : Int) ≠ 0 := by decide
theorem z5W (x : zB) : z3t x = some ((y1h x).1, ((y1h x).2 : Int)) := by
  unfold z3t y1h
  by_cases hk : x.K = 4
  · rcases v0I x.S with e | e | e | e | e | e | e | e | e | e | e | e | e | ⟨e1, e2, e3, e4, e5, e6, e7, e8, e9, e10, e11, e12, e13⟩
    case inr.inr.inr.inr.inr.inr.inr.inr.inr.inr.inr.inr.inr => simp [hk, e1, e2, e3, e4, e5, e6, e7, e8, e9, e10, e11, e12, e13]
    all_goals (simp only [hk, e]; rfl)
  · simp [hk]
theorem y5R (least f m : Int) (o x : zD) (t : List zB) (a : Int) {e : Int} (h : e ≠ 0) : zR least f m o x t a e = some (x, t, a, e) := by
  rw [jZ]; unfold wK
  rw [if_neg h]
theorem y7l (least f : Int) (m1 m2 : Int) (o x : zD) (t : List zB) (a : Nat) (h : ((y1h (zQ t a)).2 : Int) > m1 ↔ ((y1h (zQ t a)).2 : Int) > m2) : zR least f m1 o x t a 0 = zR least f m2 o x t a 0 := by
  rw [jZ, jZ least f m2]; unfold wK
  rw [if_pos rfl, if_pos rfl, z4T, zA, zA, z5W, zA, zA]
  dsimp only
  by_cases h1 : ((y1h (zQ t a)).2 : Int) > m1
  · rw [if_pos h1, if_pos (h.1 h1)]
  · rw [if_neg h1, if_neg (fun h' => h1 (h.2 h'))]
theorem v0f (least : Nat) (hl : 1 ≤ least) (f : Int) (o x : zD) (t : List zB) (a : Nat) : zR least f ((least - 1 : Nat) : Int) o x t a 0 = some (x, t, (a : Int), 0) := by
  rw [jZ]; unfold wK
  rw [if_pos rfl, z4T, zA, z5W, zA]
  dsimp only
  by_cases h1 : ((y1h (zQ t a)).2 : Int) < least
  · rw [if_pos h1]
  · rw [if_neg h1, if_neg (by omega), if_pos (by omega)]
theorem v1l (t : List zB) (a : Int) {e : Int} (h : e ≠ 0) : yM t a e = some (zT7, t, a, e) := by
  rw [z2j]; unfold gN
  rw [if_neg h]
theorem y7U (k : Int) (t : List zB) (a : Int) {e : Int} (h : e ≠ 0) : zV k t a e = some (zT7, t, a, e) := by
  rw [z2w]; unfold jO
  rw [v1l _ _ h, zA, y5R _ _ _ _ _ _ _ h]
theorem y9g (t : List zB) (a : Int) {e : Int} (h : e ≠ 0) : zJ t a e = some (zT7, t, a, e) := by
  rw [z4E]; unfold z0A
  rw [y7U _ _ _ h]; rfl
theorem y9Q (l : List zD) (t : List zB) (a : Int) {e : Int} (h : e ≠ 0) : zH l t a e = some (l, t, a, e) := by
  rw [gY]; unfold vH
  rw [if_neg h]
theorem y6j (t : List zB) (a : Int) {e : Int} (h : e ≠ 0) : zL t a e = some ([zT7], t, a, e) := by
  rw [z1s]; unfold wU
  rw [y9g _ _ h, zA, y9Q _ _ _ h]
theorem y5U (few : Bool) (t : List zB) (a : Int) {e : Int} (h : e ≠ 0) : zT few t a e = some ([zT7], t, a, e) := by
  rw [z1H]; unfold jK
  rw [z5U _ _ _ h, zA, if_neg h, y6j _ _ h, zA, z5U _ _ _ h]; rfl
theorem y5Q (f : Int) (o x : zD) (t : List zB) (a : Int) {e : Int} (h : e ≠ 0) : zW f o x t a e = some (x, t, a, e) := by
  rw [jA]; unfold vR
  rw [if_neg h]
theorem y3K (t : List zB) (hl : t.length ≤ 1048576) (a : Nat) (h : (zQ t a).K = 1) : gM t a 0 = some ((zQ t a).S, t, ((a + 1 : Nat) : Int), 0) := by
  have ha := wT (t := t) (a := a) (by rw [h]; decide)
  unfold gM
  rw [if_pos rfl, z4T, zA, if_pos h, uJ hl (by omega)]
theorem y5y (t : List zB) (a : Nat) (h : (zQ t a).K ≠ 1) : gM t a 0 = some ([], t, (a : Int), 6) := by
  unfold gM
  rw [if_pos rfl, z4T, zA, if_neg h]; rfl
theorem z4D {t : List zB} {a : Nat} {r : Res} (h : PR t (zV (1 : Nat) t a 0) r) : PR t (zJ t a 0) r := by
  have e : zJ t a 0 = (zV (1 : Nat) t a 0 >>= fun q1 => some (q1.1, q1.2.1, q1.2.2.1, q1.2.2.2)) := by
    rw [z4E]; rfl
  rw [e]
  cases r with
  | ok x b => rw [show zV (1 : Nat) t a 0 = _ from h]; rfl
  | bad b => obtain ⟨y, h⟩ := h; rw [h]; exact ⟨y, rfl⟩
def mst (k m : Nat) : Int := if k = 3 ∧ 1 ≤ m then 2 else k
def PM (t : List zB) : Cat → Nat → Res → Prop
  | .lev k, a, r => (k = 6 → PR t (yM t a 0) r) ∧ ∀ least, 1 ≤ least → least ≤ k →
      (∀ x b, r = .ok x b → zV (least : Nat) t a 0 = zR (least : Nat) a ((k - 1 : Nat) : Int) zT7 x t b 0) ∧ (∀ b, r = .bad b → ∃ y, zV (least : Nat) t a 0 = some (y, t, (b : Int), 6))
  | .ll k m f x, a, r => f < a → 1 ≤ k → k ≤ 5 → (k = 3 → m ≤ 1) → ∀ least, 1 ≤ least → least ≤ k → ∀ o,
      (∀ y b, r = .ok y b → zR (least : Nat) f (mst k m) o x t a 0 = zR (least : Nat) f ((k - 1 : Nat) : Int) o y t b 0) ∧ (∀ b, r = .bad b → ∃ y, zR (least : Nat) f (mst k m) o x t a 0 = some (y, t, (b : Int), 6))
  | .post, a, r => PR t (yW t a 0) r
  | .pl f x, a, r => f < a → ∀ o, PR t (zW f o x t a 0) r
  | .atom, a, r => PR t (zY t a 0) r
  | .cls few, a, r => (∀ l b, r = .ok l b → zT few t a 0 = some (l.L, t, (b : Int), 0)) ∧ (∀ b, r = .bad b → ∃ l, zT few t a 0 = some (l, t, (b : Int), 6))
  | .lst acc, a, r => acc.length < a →
      (∀ l b, r = .ok l b → (zJ t a 0 >>= fun q => zH (acc ++ [q.1]) q.2.1 q.2.2.1 q.2.2.2) = some (l.L, t, (b : Int), 0)) ∧
      (∀ b, r = .bad b → ∃ l, (zJ t a 0 >>= fun q => zH (acc ++ [q.1]) q.2.1 q.2.2.1 q.2.2.2) = some (l, t, (b : Int), 6))
theorem PM.level {t : List zB} {k a : Nat} {r : Res} (h : PM t (.lev k) a r) (hk : 1 ≤ k) : PR t (zV (k : Nat) t a 0) r := by
  obtain ⟨h1, h2⟩ := h.2 k hk (Nat.le_refl _)
  cases r with
  | ok x b =>
    show _ = _
    rw [h1 x b rfl, v0f k hk]
  | bad b => exact h2 b rfl
theorem y0o (t : List zB) (a : Int) (e : Int) : zL t a e = (zJ t a e >>= fun q => zH ([] ++ [q.1]) q.2.1 q.2.2.1 q.2.2.2) := by
  rw [z1s]; rfl
theorem z6W (s : Str) (t : List zB) (hl : t.length ≤ 1048576) (a : Nat) (h : vB t a s = true) : vI s t a 0 = some (t, ((a + 1 : Nat) : Int), 0) := by
  rw [y5z s t (by omega) a, if_pos h, if_pos h]
theorem y2c (s : Str) (t : List zB) (hl : t.length ≤ 1048576) (a : Nat) (h : vB t a s = false) : vI s t a 0 = some (t, (a : Int), 6) := by
  rw [y5z s t (by omega) a, if_neg (by rw [h]; simp), if_neg (by rw [h]; simp)]
theorem y8g (t : List zB) (hl : t.length ≤ 1048576) (a : Nat) {k n : Int} {s : Str} (h : z0V t a = .one k n s) : zY t a 0 = some (placed t a (a + 1) ⟨k, n, s, [], 0, 0⟩, t, ((a + 1 : Nat) : Int), 0) := by
  have ha := z1d (t := t) (a := a) (by rw [h]; simp)
  have mk := fun x => z4f x t (by omega) a (a + 1) (by omega) (by omega)
  rw [z0H]; unfold uL
  rw [if_pos rfl, z4T, zA, uJ hl (by omega)]
  unfold z0V at h
  by_cases h1 : (zQ t a).K = 2
  · rw [if_pos h1] at h ⊢
    injection h with e1 e2 e3; subst e1; subst e2; subst e3
    rw [mk]; rfl
  rw [if_neg h1] at h ⊢
  by_cases h2 : (zQ t a).K = 1
  · rw [if_pos h2] at h ⊢
    rw [z0L, zA]
    by_cases h3 : vB t (a + 1) [40] = true
    · rw [if_pos h3] at h; cases h
    · rw [if_neg h3] at h ⊢
      injection h with e1 e2 e3; subst e1; subst e2; subst e3
      rw [mk]; rfl
  rw [if_neg h2] at h ⊢
  have wd : ∀ {s' : Str}, vM t a s' = true → (zQ t a).K = 3 ∧ (zQ t a).S = s' := fun h => y2M h
  have word : ∀ {s' : Str} {x : zD}, vM t a s' = true → vN s' (a : Int) t (a : Int) 0 = some (x, t, ((a + 1 : Nat) : Int), 0) →
      (if (zQ t a).K = 3 then vN (zQ t a).S a t a 0 >>= fun q7 => some (q7.1, q7.2.1, q7.2.2.1, q7.2.2.2)
        else if (zQ t a).K = 4 then vA (zQ t a).S a t a 0 >>= fun q8 => some (q8.1, q8.2.1, q8.2.2.1, q8.2.2.2)
        else wL t a 0 >>= fun q9 => some (zD.mk 0 0 [] [] 0 0, q9.1, q9.2.1, q9.2.2)) = some (x, t, ((a + 1 : Nat) : Int), 0) := fun hw he => by
    rw [if_pos (wd hw).1, (wd hw).2, he]; rfl
  by_cases h3 : vM t a [116, 114, 117, 101] = true
  · rw [if_pos h3] at h
    injection h with e1 e2 e3; subst e1; subst e2; subst e3
    refine word h3 ?_
    rw [z0o]; unfold wY
    rw [if_pos rfl, uJ hl (by omega), mk]; rfl
  rw [if_neg h3] at h
  by_cases h4 : vM t a [102, 97, 108, 115, 101] = true
  · rw [if_pos h4] at h
    injection h with e1 e2 e3; subst e1; subst e2; subst e3
    refine word h4 ?_
    rw [z0o]; unfold wY
    rw [if_neg (by decide), if_pos rfl, uJ hl (by omega), mk]; rfl
  rw [if_neg h4] at h
  by_cases h5 : vM t a [114, 101, 97, 100] = true
  · rw [if_pos h5] at h
    injection h with e1 e2 e3; subst e1; subst e2; subst e3
    refine word h5 ?_
    rw [z0o]; unfold wY
    rw [if_neg (by decide), if_neg (by decide), if_pos rfl, uJ hl (by omega), mk]; rfl
  rw [if_neg h5] at h
  repeat' split at h
  all_goals cases h
theorem z4U (t : List zB) (a : Nat) (s : Str) (h : vB t a s = true) : zY t a 0 = (vA s a t a 0 >>= fun q8 => some (q8.1, q8.2.1, q8.2.2.1, q8.2.2.2)) := by
  obtain ⟨hk, hs⟩ := v0H h
  rw [z0H]; unfold uL
  rw [if_pos rfl, z4T, zA, if_neg (by rw [hk]; decide), if_neg (by rw [hk]; decide), if_neg (by rw [hk]; decide), if_pos hk, hs]
theorem y6p (t : List zB) (a : Nat) (s : Str) (h : vM t a s = true) : zY t a 0 = (vN s a t a 0 >>= fun q8 => some (q8.1, q8.2.1, q8.2.2.1, q8.2.2.2)) := by
  obtain ⟨hk, hs⟩ := y2M h
  rw [z0H]; unfold uL
  rw [if_pos rfl, z4T, zA, if_neg (by rw [hk]; decide), if_neg (by rw [hk]; decide), if_pos hk, hs]
theorem y2Y (t : List zB) (hl : t.length ≤ 1048576) (a : Nat) {k : Int} {s : Str} {o : Nat} {few : Bool} (h : z0V t a = .call k s o few) :
    zY t a 0 = (zT few t o 0 >>= fun q => yD ⟨k, 0, s, q.1, 0, 0⟩ a q.2.1 q.2.2.1 q.2.2.2 >>= fun z => some (z, q.2.1, q.2.2.1, q.2.2.2)) := by
  rcases y5m h with ⟨rfl, rfl, rfl, rfl, h1, h2⟩ | ⟨rfl, rfl, rfl, rfl, h1, h2⟩ | ⟨rfl, rfl, rfl, rfl, h1, h2⟩
  · have ha := wT (t := t) (a := a) (by rw [h1]; decide)
    rw [z0H]; unfold uL
    rw [if_pos rfl, z4T, zA, if_neg (by rw [h1]; decide), if_pos h1, uJ hl (by omega), z0L, zA, if_pos h2]
  · have ha := uD h1
    rw [y6p t a _ h1, z0o]; unfold wY
    rw [if_neg (by decide), if_neg (by decide), if_neg (by decide), if_pos rfl, uJ hl (by omega), y3K t hl (a + 1) h2, zA]
    show ((zT false t ((a + 1 + 1 : Nat) : Int) 0 >>= _) >>= _) = _
    cases zT false t ((a + 1 + 1 : Nat) : Int) 0 with
    | none => rfl
    | some q =>
      rw [zA]
      dsimp only
      cases yD ⟨15, 0, (zQ t (a + 1)).S, q.1, 0, 0⟩ a q.2.1 q.2.2.1 q.2.2.2 <;> rfl
  · have ha := zU h1
    rw [z4U t a _ h1, wS]; unfold vG
    rw [if_neg (by decide), if_neg (by decide), if_pos rfl, uJ hl (by omega), y3K t hl (a + 1) h2, zA]
    show ((zT true t ((a + 1 + 1 : Nat) : Int) 0 >>= _) >>= _) = _
    cases zT true t ((a + 1 + 1 : Nat) : Int) 0 with
    | none => rfl
    | some q =>
      rw [zA]
      dsimp only
      cases yD ⟨17, 0, (zQ t (a + 1)).S, q.1, 0, 0⟩ a q.2.1 q.2.2.1 q.2.2.2 <;> rfl
theorem y1z (few : Bool) (t : List zB) (hl : t.length ≤ 1048576) (a : Nat) (h1 : vB t a [40] = true) (h2 : few = true → vB t (a + 1) [41] = false) :
    zT few t a 0 = (zL t ((a + 1 : Nat) : Int) 0 >>= fun q => vI [41] q.2.1 q.2.2.1 q.2.2.2 >>= fun z => some (q.1, z.1, z.2.1, z.2.2)) := by
  rw [z1H]; unfold jK
  rw [z6W _ t hl a h1, zA]
  dsimp only
  rw [if_pos rfl]
  cases few with
  | false => rw [if_neg (by simp)]
  | true => rw [if_pos rfl, z0L, zA, h2 rfl, if_neg (by simp)]
theorem y2p {t : List zB} (hl : t.length ≤ 1048576) {c : Cat} {a : Nat} {r : Res} (h : Der t c a r) : a ≤ t.length → PM t c a r := by
  have unLev : ∀ {a : Nat} {r : Res}, PR t (yM t a 0) r → PM t (.lev 6) a r := by
    intro a r h
    refine ⟨fun _ => h, fun least h1 h2 => ⟨fun x b e => ?_, fun b e => ?_⟩⟩
    · subst e
      rw [z2w]; unfold jO
      rw [show yM t a 0 = _ from h, zA]
      refine y7l _ _ _ _ _ _ _ _ ?_
      have h5 := v0C (zQ t b)
      show ((y1h (zQ t b)).2 : Int) > 6 ↔ ((y1h (zQ t b)).2 : Int) > ((5 : Nat) : Int)
      omega
    · subst e
      obtain ⟨y, h⟩ := h
      rw [z2w]; unfold jO
      rw [h, zA]
      exact ⟨_, y5R _ _ _ _ _ _ _ six⟩
  induction h with
  | @un a b n x h1 hd ih =>
    intro ha
    have h0 : a < t.length := h1.elim (fun h => zU h.2) (fun h => zU h.2)
    have q := hd.inR (by omega)
    simp only [InR] at q
    have e : yM t ((a + 1 : Nat) : Int) 0 = some (x, t, (b : Int), 0) := (ih (by omega)).1 rfl
    refine unLev ?_
    show _ = _
    rw [z2j]; unfold gN
    rw [if_pos rfl, z0L, zA, uJ hl (by omega)]
    rcases h1 with ⟨rfl, h1⟩ | ⟨rfl, h1⟩
    · rw [if_pos h1, if_neg (by decide), e, zA, z4f _ t (by omega) a b (by omega) q.2]; rfl
    · rw [if_neg (by rw [y9Z h1 (by decide)]; simp), z0L, zA, if_pos h1, if_neg (by decide), e, zA, z4f _ t (by omega) a b (by omega) q.2]; rfl
  | @unB a b h1 hd ih =>
    intro ha
    have h0 : a < t.length := h1.elim (fun h => zU h) (fun h => zU h)
    obtain ⟨y, e⟩ : ∃ y, yM t ((a + 1 : Nat) : Int) 0 = some (y, t, (b : Int), 6) := (ih (by omega)).1 rfl
    refine unLev ?_
    show ∃ y, _ = _
    rw [z2j]; unfold gN
    rw [if_pos rfl, z0L, zA, uJ hl (by omega)]
    rcases h1 with h1 | h1
    · rw [if_pos h1, if_neg (by decide), e, zA, z2m _ _ _ _ six]; exact ⟨_, rfl⟩
    · rw [if_neg (by rw [y9Z h1 (by decide)]; simp), z0L, zA, if_pos h1, if_neg (by decide), e, zA, z2m _ _ _ _ six]; exact ⟨_, rfl⟩
  | @unP a r h1 h2 hd ih =>
    intro ha
    have e : PR t (yW t a 0) r := ih ha
    refine unLev ?_
    rw [z2j]; unfold gN
    rw [if_pos rfl, z0L, zA, h1, if_neg (by simp), z0L, zA, h2, if_neg (by simp), if_pos rfl]
    cases r with
    | ok x b => rw [show yW t a 0 = _ from e]; rfl
    | bad b => obtain ⟨y, e⟩ := e; rw [e]; exact ⟨y, rfl⟩
  | @lev k a b x r h1 h2 hd hd2 ih1 ih2 =>
    intro ha
    have q := hd.inR ha
    simp only [InR] at q
    refine ⟨fun h => by omega, fun least g1 g2 => ?_⟩
    obtain ⟨e1, -⟩ := (ih1 ha).2 least g1 (by omega)
    have e1 := e1 x b rfl
    obtain ⟨e2, e3⟩ := ih2 q.2 q.1 h1 h2 (fun _ => by omega) least g1 g2 zT7
    have hm : ((k + 1 - 1 : Nat) : Int) = mst k 0 := by unfold mst; rw [if_neg (by omega)]; rfl
    rw [hm] at e1
    refine ⟨fun y c e => by rw [e1, e2 y c e], fun c e => by rw [e1]; exact e3 c e⟩
  | @levB k a b h1 h2 hd ih1 =>
    intro ha
    refine ⟨fun h => by omega, fun least g1 g2 => ?_⟩
    obtain ⟨-, e1⟩ := (ih1 ha).2 least g1 (by omega)
    exact ⟨(fun _ _ e => by cases e), fun c e => by cases e; exact e1 b rfl⟩
  | @llE k m f a x h0 h1 =>
    intro ha hf _ hk hm least g1 g2 o
    refine ⟨fun y b e => ?_, fun _ e => by cases e⟩
    cases e
    refine y7l _ _ _ _ _ _ _ _ ?_
    unfold mst
    split <;> omega
  | @llG k m f a b x y r h1 h2 h3 hd hd2 ih1 ih2 =>
    intro ha hf _ hk hm least g1 g2 o
    have h0 := wT (t := t) (a := a) (by rw [z4s (by omega)]; decide)
    have q := hd.inR (by omega)
    simp only [InR] at q
    have e : zV ((k + 1 : Nat) : Int) t ((a + 1 : Nat) : Int) 0 = some (y, t, (b : Int), 0) := (ih1 (by omega)).level (by omega)
    obtain ⟨e2, e3⟩ := ih2 q.2 (by omega) h1 hk (fun h => by omega) least g1 g2 o
    have hs : zR (least : Nat) f (mst k m) o x t a 0 = zR (least : Nat) f (mst k (m + 1)) o (placed t f b ⟨10, (y1h (zQ t a)).1, [], [x, y], 0, 0⟩) t b 0 := by
      have hm0 : mst k m = k := by unfold mst; rw [if_neg (by omega)]
      rw [hm0, jZ]; unfold wK
      rw [if_pos rfl, z4T, zA, z5W, zA]
      dsimp only
      rw [if_neg (by omega), if_neg (by omega), if_neg (by omega), h2]
      have c2 : IntKind.wrap .i64 ((k : Int) + 1) = ((k + 1 : Nat) : Int) := by rw [z2h (by omega) (by omega)]; omega
      rw [c2, uJ hl (by omega), e, zA, z4f _ t (by omega) f b (by omega) q.2, zA]
      dsimp only
      by_cases hk3 : (k : Int) = 3
      · rw [if_pos hk3]; unfold mst; rw [if_pos (by omega)]
      · rw [if_neg hk3]; unfold mst; rw [if_neg (by omega)]
    rw [hs]
    exact ⟨e2, e3⟩
  | @llB k m f a b x h1 h2 h3 hd ih1 =>
    intro ha hf _ hk hm least g1 g2 o
    have h0 := wT (t := t) (a := a) (by rw [z4s (by omega)]; decide)
    obtain ⟨y, e⟩ : ∃ y, zV ((k + 1 : Nat) : Int) t ((a + 1 : Nat) : Int) 0 = some (y, t, (b : Int), 6) := (ih1 (by omega)).level (by omega)
    refine ⟨(fun _ _ e => by cases e), fun c e' => ?_⟩
    cases e'
    have hm0 : mst k m = k := by unfold mst; rw [if_neg (by omega)]
    rw [hm0, jZ]; unfold wK
    rw [if_pos rfl, z4T, zA, z5W, zA]
    dsimp only
    rw [if_neg (by omega), if_neg (by omega), if_neg (by omega), h2]
    have c2 : IntKind.wrap .i64 ((k : Int) + 1) = ((k + 1 : Nat) : Int) := by rw [z2h (by omega) (by omega)]; omega
    rw [c2, uJ hl (by omega), e, zA, z2m _ _ _ _ six, zA]
    dsimp only
    by_cases hk3 : (k : Int) = 3
    · rw [if_pos hk3]; exact ⟨_, y5R _ _ _ _ _ _ _ six⟩
    · rw [if_neg hk3]; exact ⟨_, y5R _ _ _ _ _ _ _ six⟩
  | @post a b x r hd hd2 ih1 ih2 =>
    intro ha
    have q := hd.inR ha
    simp only [InR] at q
    have e : zY t a 0 = some (x, t, (b : Int), 0) := ih1 ha
    show PR t (yW t a 0) r
    rw [z4F]; unfold z0d
    rw [e, zA]
    exact ih2 q.2 q.1 _
  | @postB a b hd ih1 =>
    intro ha
    obtain ⟨y, e⟩ : ∃ y, zY t a 0 = some (y, t, (b : Int), 6) := ih1 ha
    show PR t (yW t a 0) (.bad b)
    rw [z4F]; unfold z0d
    rw [e, zA]
    exact ⟨_, y5Q _ _ _ _ _ six⟩
  | @plE f a x h1 h2 =>
    intro ha hf o
    show _ = _
    rw [jA]; unfold vR
    rw [if_pos rfl, z0L, zA, h1, if_neg (by simp), z0L, zA, h2, if_neg (by simp)]
  | @plI f a b x i r h1 hd h2 hd2 ih1 ih2 =>
    intro ha hf o
    have h0 := zU h1
    have hb := zU h2
    have q := hd.inR (by omega)
    simp only [InR] at q
    have e : zJ t ((a + 1 : Nat) : Int) 0 = some (i, t, (b : Int), 0) := z4D ((ih1 (by omega)).level (by omega))
    have e2 : PR t (zW f o _ t ((b + 1 : Nat) : Int) 0) r := ih2 (by omega) (by omega) o
    rw [jA]; unfold vR
    rw [if_pos rfl, z0L, zA, h1, if_pos rfl, uJ hl (by omega), e, zA]
    dsimp only
    rw [z6W _ t hl b h2, zA]
    dsimp only
    rw [z4f _ t (by omega) f (b + 1) (by omega) (by omega), zA]
    exact e2
  | @plI1 f a b x h1 hd ih1 =>
    intro ha hf o
    have h0 := zU h1
    obtain ⟨y, e⟩ : ∃ y, zJ t ((a + 1 : Nat) : Int) 0 = some (y, t, (b : Int), 6) := z4D ((ih1 (by omega)).level (by omega))
    rw [jA]; unfold vR
    rw [if_pos rfl, z0L, zA, h1, if_pos rfl, uJ hl (by omega), e, zA]
    dsimp only
    rw [z5U _ _ _ six, zA]
    dsimp only
    rw [z2m _ _ _ _ six, zA]
    exact ⟨_, y5Q _ _ _ _ _ six⟩
  | @plI2 f a b x i h1 hd h2 ih1 =>
    intro ha hf o
    have h0 := zU h1
    have e : zJ t ((a + 1 : Nat) : Int) 0 = some (i, t, (b : Int), 0) := z4D ((ih1 (by omega)).level (by omega))
    rw [jA]; unfold vR
    rw [if_pos rfl, z0L, zA, h1, if_pos rfl, uJ hl (by omega), e, zA]
    dsimp only
    rw [y2c _ t hl b h2, zA]
    dsimp only
    rw [z2m _ _ _ _ six, zA]
    exact ⟨_, y5Q _ _ _ _ _ six⟩
  | @plF f a x r h0 h1 h2 hd ih =>
    intro ha hf o
    have h3 := wT (t := t) (a := a + 1) (by rw [h2]; decide)
    have e2 : PR t (zW f o _ t ((a + 2 : Nat) : Int) 0) r := ih (by omega) (by omega) o
    rw [jA]; unfold vR
    rw [if_pos rfl, z0L, zA, h0, if_neg (by simp), z0L, zA, h1, if_pos rfl, uJ hl (by omega), y3K t hl (a + 1) h2, zA]
    dsimp only
    rw [z4f _ t (by omega) f (a + 1 + 1) (by omega) (by omega), zA]
    exact e2
  | @plFB f a x h0 h1 h2 =>
    intro ha hf o
    have h3 := zU h1
    rw [jA]; unfold vR
    rw [if_pos rfl, z0L, zA, h0, if_neg (by simp), z0L, zA, h1, if_pos rfl, uJ hl (by omega), y5y t (a + 1) h2, zA]
    dsimp only
    rw [z2m _ _ _ _ six, zA]
    exact ⟨_, y5Q _ _ _ _ _ six⟩
  | one h1 => intro ha; exact y8g t hl _ h1
  | @par a b x h1 hd h2 ih =>
    intro ha
    have h0 := zU (z3J h1)
    have hb := zU h2
    have e : zJ t ((a + 1 : Nat) : Int) 0 = some (x, t, (b : Int), 0) := z4D ((ih (by omega)).level (by omega))
    show zY t a 0 = _
    rw [z4U t a _ (z3J h1), wS]; unfold vG
    rw [if_pos rfl, uJ hl (by omega), e, zA]
    dsimp only
    rw [z6W _ t hl b h2]; rfl
  | @par1 a b h1 hd ih =>
    intro ha
    have h0 := zU (z3J h1)
    obtain ⟨y, e⟩ : ∃ y, zJ t ((a + 1 : Nat) : Int) 0 = some (y, t, (b : Int), 6) := z4D ((ih (by omega)).level (by omega))
    show ∃ y, zY t a 0 = _
    rw [z4U t a _ (z3J h1), wS]; unfold vG
    rw [if_pos rfl, uJ hl (by omega), e, zA]
    dsimp only
    rw [z5U _ _ _ six]; exact ⟨_, rfl⟩
  | @par2 a b x h1 hd h2 ih =>
    intro ha
    have h0 := zU (z3J h1)
    have e : zJ t ((a + 1 : Nat) : Int) 0 = some (x, t, (b : Int), 0) := z4D ((ih (by omega)).level (by omega))
    show ∃ y, zY t a 0 = _
    rw [z4U t a _ (z3J h1), wS]; unfold vG
    rw [if_pos rfl, uJ hl (by omega), e, zA]
    dsimp only
    rw [y2c _ t hl b h2]; exact ⟨_, rfl⟩
  | @call a o b k s few l h1 hd ih =>
    intro ha
    have h0 := z2Q h1
    have q := hd.inR h0.2
    simp only [InR] at q
    have e := (ih h0.2).1 _ _ rfl
    show zY t a 0 = _
    rw [y2Y t hl a h1, e, zA]
    dsimp only
    rw [z4f _ t (by omega) a b (by omega) q.2]; rfl
  | @callB a o b k s few h1 hd ih =>
    intro ha
    have h0 := z2Q h1
    obtain ⟨l, e⟩ := (ih h0.2).2 _ rfl
    show ∃ y, zY t a 0 = _
    rw [y2Y t hl a h1, e, zA]
    dsimp only
    rw [z2m _ _ _ _ six]; exact ⟨_, rfl⟩
  | @lis a b l h1 hd h2 ih =>
    intro ha
    have h0 := zU (z5k h1)
    have hb := zU h2
    have q := hd.inR (by omega)
    simp only [InR] at q
    have e := (ih (by omega) (by simp)).1 _ _ rfl
    show zY t a 0 = _
    rw [z4U t a _ (z5k h1), wS]; unfold vG
    rw [if_neg (by decide), if_pos rfl, uJ hl (by omega), y0o, e, zA]
    dsimp only
    rw [z6W _ t hl b h2, zA]
    dsimp only
    rw [z4f _ t (by omega) a (b + 1) (by omega) (by omega)]; rfl
  | @lis1 a b h1 hd ih =>
    intro ha
    have h0 := zU (z5k h1)
    obtain ⟨l, e⟩ := (ih (by omega) (by simp)).2 _ rfl
    show ∃ y, zY t a 0 = _
    rw [z4U t a _ (z5k h1), wS]; unfold vG
    rw [if_neg (by decide), if_pos rfl, uJ hl (by omega), y0o, e, zA]
    dsimp only
    rw [z5U _ _ _ six, zA]
    dsimp only
    rw [z2m _ _ _ _ six]; exact ⟨_, rfl⟩
  | @lis2 a b l h1 hd h2 ih =>
    intro ha
    have h0 := zU (z5k h1)
    have e := (ih (by omega) (by simp)).1 _ _ rfl
    show ∃ y, zY t a 0 = _
    rw [z4U t a _ (z5k h1), wS]; unfold vG
    rw [if_neg (by decide), if_pos rfl, uJ hl (by omega), y0o, e, zA]
    dsimp only
    rw [y2c _ t hl b h2, zA]
    dsimp only
    rw [z2m _ _ _ _ six]; exact ⟨_, rfl⟩
  | @nm a h1 =>
    intro ha
    obtain ⟨h2, h3⟩ := y8Y h1
    show ∃ y, zY t a 0 = _
    rcases h2 with h2 | h2
    · have h0 := uD h2
      rw [y6p t a _ h2, z0o]; unfold wY
      rw [if_neg (by decide), if_neg (by decide), if_neg (by decide), if_pos rfl, uJ hl (by omega), y5y t (a + 1) h3, zA]
      dsimp only
      rw [y5U _ _ _ six, zA]
      dsimp only
      rw [z2m _ _ _ _ six]; exact ⟨_, rfl⟩
    · have h0 := zU h2
      rw [z4U t a _ h2, wS]; unfold vG
      rw [if_neg (by decide), if_neg (by decide), if_pos rfl, uJ hl (by omega), y5y t (a + 1) h3, zA]
      dsimp only
      rw [y5U _ _ _ six, zA]
      dsimp only
      rw [z2m _ _ _ _ six]; exact ⟨_, rfl⟩
  | @no a h1 =>
    intro ha
    obtain ⟨k2, k1, w1, w2, w3, w4, s1, s2, s3⟩ := y8Z h1
    show ∃ y, zY t a 0 = _
    rw [z0H]; unfold uL
    rw [if_pos rfl, z4T, zA, if_neg k2, if_neg k1]
    have back : a < t.length → IntKind.wrap .i64 ((IntKind.wrap .i64 ((a : Int) + 1)) - 1) = (a : Int) := fun h => by
      rw [uJ hl (by omega), z2h (by omega) (by omega)]; omega
    by_cases k3 : (zQ t a).K = 3
    · have h0 := wT (t := t) (a := a) (by rw [k3]; decide)
      have ne : ∀ s, vM t a s = false → (zQ t a).S ≠ s := fun s h e => by
        unfold vM at h; rw [k3, e] at h; simp at h
      rw [if_pos k3, z0o]; unfold wY
      rw [if_neg (ne _ w1), if_neg (ne _ w2), if_neg (ne _ w3), if_neg (ne _ w4), back h0]
      exact ⟨_, rfl⟩
    · rw [if_neg k3]
      by_cases k4 : (zQ t a).K = 4
      · have h0 := wT (t := t) (a := a) (by rw [k4]; decide)
        have ne : ∀ s, vB t a s = false → (zQ t a).S ≠ s := fun s h e => by
          unfold vB at h; rw [k4, e] at h; simp at h
        rw [if_pos k4, wS]; unfold vG
        rw [if_neg (ne _ s1), if_neg (ne _ s2), if_neg (ne _ s3), back h0]
        exact ⟨_, rfl⟩
      · rw [if_neg k4]
        exact ⟨_, rfl⟩
  | @cls0 a few h1 =>
    intro ha
    refine ⟨(fun _ _ h => by cases h), fun b h => ?_⟩
    cases h
    rw [z1H]; unfold jK
    rw [y2c _ t hl a h1, zA]
    dsimp only
    rw [if_neg (by decide), y6j _ _ six, zA]
    dsimp only
    rw [z5U _ _ _ six]
    exact ⟨_, rfl⟩
  | @clsF a h1 h2 =>
    intro ha
    have h0 := zU h2
    refine ⟨fun _ _ h => ?_, fun b h => by cases h⟩
    cases h
    rw [z1H]; unfold jK
    rw [z6W _ t hl a h1, zA]
    dsimp only
    rw [if_pos rfl, if_pos rfl, z0L, zA, h2, if_pos rfl, uJ hl (by omega)]
  | @cls a b few l h1 h2 hd h3 ih =>
    intro ha
    have h0 := zU h1
    have hb := zU h3
    have e := (ih (by omega) (by simp)).1 _ _ rfl
    refine ⟨fun _ _ h => ?_, fun b h => by cases h⟩
    cases h
    rw [y1z few t hl a h1 h2, y0o, e, zA]
    dsimp only
    rw [z6W _ t hl b h3]; rfl
  | @cls1 a b few h1 h2 hd ih =>
    intro ha
    have h0 := zU h1
    obtain ⟨l, e⟩ := (ih (by omega) (by simp)).2 _ rfl
    refine ⟨(fun _ _ h => by cases h), fun _ h => ?_⟩
    cases h
    rw [y1z few t hl a h1 h2, y0o, e, zA]
    dsimp only
    rw [z5U _ _ _ six]
    exact ⟨_, rfl⟩
  | @cls2 a b few l h1 h2 hd h3 ih =>
    intro ha
    have h0 := zU h1
    have e := (ih (by omega) (by simp)).1 _ _ rfl
    refine ⟨(fun _ _ h => by cases h), fun _ h => ?_⟩
    cases h
    rw [y1z few t hl a h1 h2, y0o, e, zA]
    dsimp only
    rw [y2c _ t hl b h3]
    exact ⟨_, rfl⟩
  | @lstE a b acc x hd h1 ih =>
    intro ha hacc
    have e : zJ t a 0 = some (x, t, (b : Int), 0) := z4D ((ih ha).level (by omega))
    refine ⟨fun _ _ h => ?_, fun _ h => by cases h⟩
    cases h
    rw [e, zA]
    dsimp only
    rw [gY]; unfold vH
    rw [if_pos rfl, z0L, zA, h1]; rfl
  | @lstG a b acc x r hd h1 hd2 ih1 ih2 =>
    intro ha hacc
    have hb := zU h1
    have q := hd.inR ha
    simp only [InR] at q
    have e : zJ t a 0 = some (x, t, (b : Int), 0) := z4D ((ih1 ha).level (by omega))
    have e2 := ih2 (by omega) (by simp; omega)
    have hs : (zJ t a 0 >>= fun q => zH (acc ++ [q.1]) q.2.1 q.2.2.1 q.2.2.2) = (zJ t ((b + 1 : Nat) : Int) 0 >>= fun q => zH ((acc ++ [x]) ++ [q.1]) q.2.1 q.2.2.1 q.2.2.2) := by
      rw [e, zA]
      dsimp only
      rw [gY]; unfold vH
      rw [if_pos rfl, z0L, zA, h1, if_pos rfl, uJ hl (by omega)]
      congr 1
      funext q
      rw [if_pos (y6q (by simp; omega))]
    rw [hs]
    exact e2
  | @lstB a b acc hd ih =>
    intro ha hacc
    obtain ⟨y, e⟩ : ∃ y, zJ t a 0 = some (y, t, (b : Int), 6) := z4D ((ih ha).level (by omega))
    refine ⟨(fun _ _ h => by cases h), fun _ h => ?_⟩
    cases h
    rw [e, zA]
    exact ⟨_, y9Q _ _ _ six⟩
theorem y2m (t : List zB) (hl : t.length ≤ 1048576) (a : Nat) (ha : a ≤ t.length) {x : zD} {b : Nat} (h : Der t (.lev 1) a (.ok x b)) : z0n t a = some (x, (b : Int), 0) := by
  have hp : zJ t (a : Int) 0 = some (x, t, (b : Int), 0) := z4D ((y2p hl h ha).level (by omega))
  unfold z0n z0j
  rw [if_neg (by omega), if_neg (by omega), hp]; rfl
inductive It where
  | word (s : Str)
  | sign (s : Str)
  | name
  | expr
  | type
  | block
  | be
abbrev v0M : Str := [108, 101, 116]
abbrev wIf : Str := [105, 102]
abbrev y5f : Str := [119, 104, 105, 108, 101]
abbrev v1m : Str := [102, 111, 114]
abbrev y5e : Str := [112, 114, 105, 110, 116]
abbrev y2H : Str := [114, 101, 116, 117, 114, 110]
abbrev wDo : Str := [100, 111]
abbrev y8O : Str := [101, 108, 115, 101]
abbrev wTo : Str := [116, 111]
def z3u (t : List zB) (a : Nat) : Int × List It :=
  if vM t a v0M = true then (if (zQ t (a + 1)).K = 1 ∧ vB t (a + 2) [58] = true then (21, [.word v0M, .name, .sign [58], .type, .sign [59]]) else (20, [.word v0M, .name, .sign [61], .expr, .sign [59]]))
  else if vM t a wIf = true then (23, [.word wIf, .expr, .be])
  else if vM t a y5f = true then (24, [.word y5f, .expr, .block])
  else if vM t a v1m = true then (25, [.word v1m, .name, .sign [61], .expr, .word wTo, .expr, .block])
  else if vM t a y5e = true then (26, [.word y5e, .expr, .sign [59]])
  else if vM t a y2H = true then (27, [.word y2H, .expr, .sign [59]])
  else if vM t a wDo = true then (28, [.word wDo, .expr, .sign [59]])
  else (22, [.expr, .sign [61], .expr, .sign [59]])
inductive y5h where
  | stmt
  | blk
  | sl (f : Nat) (acc : List zD)
  | form (k : Int) (f : Nat) (its : List It) (parts : List zD) (name : Str)
abbrev z3B (t : List zB) (a : Nat) : zD × Nat × Int := typ (t.length + 1) t a
abbrev z9x (q : Int) : zD := ⟨29, 0, [], [], q, q⟩
inductive SDer (t : List zB) : y5h → Nat → Res → Prop
  | sB {a : Nat} {r : Res} : vB t a [123] = true → SDer t .blk a r → SDer t .stmt a r
  | sF {a : Nat} {r : Res} : vB t a [123] = false → SDer t (.form (z3u t a).1 a (z3u t a).2 [] []) a r → SDer t .stmt a r
  | b0 {a : Nat} : vB t a [123] = false → SDer t .blk a (.bad a)
  | b1 {a : Nat} {r : Res} : vB t a [123] = true → SDer t (.sl a []) (a + 1) r → SDer t .blk a r
  | lE {f a : Nat} {acc : List zD} : vB t a [125] = true → SDer t (.sl f acc) a (.ok (placed t f (a + 1) ⟨29, 0, [], acc, 0, 0⟩) (a + 1))
  | lG {f a b : Nat} {acc : List zD} {x : zD} {r : Res} : vB t a [125] = false → SDer t .stmt a (.ok x b) → SDer t (.sl f (acc ++ [x])) b r → SDer t (.sl f acc) a r
  | lB {f a b : Nat} {acc : List zD} : vB t a [125] = false → SDer t .stmt a (.bad b) → SDer t (.sl f acc) a (.bad b)
  | fE {f a : Nat} {k : Int} {parts : List zD} {name : Str} : f < a → SDer t (.form k f [] parts name) a (.ok (placed t f a ⟨k, 0, name, parts, 0, 0⟩) a)
  | fW {f a : Nat} {k : Int} {s : Str} {its : List It} {parts : List zD} {name : Str} {r : Res} : vM t a s = true → SDer t (.form k f its parts name) (a + 1) r → SDer t (.form k f (.word s :: its) parts name) a r
  | fW0 {f a : Nat} {k : Int} {s : Str} {its : List It} {parts : List zD} {name : Str} : vM t a s = false → SDer t (.form k f (.word s :: its) parts name) a (.bad a)
  | fS {f a : Nat} {k : Int} {s : Str} {its : List It} {parts : List zD} {name : Str} {r : Res} : vB t a s = true → SDer t (.form k f its parts name) (a + 1) r → SDer t (.form k f (.sign s :: its) parts name) a r
  | fS0 {f a : Nat} {k : Int} {s : Str} {its : List It} {parts : List zD} {name : Str} : vB t a s = false → SDer t (.form k f (.sign s :: its) parts name) a (.bad a)
  | fN {f a : Nat} {k : Int} {its : List It} {parts : List zD} {name : Str} {r : Res} : (zQ t a).K = 1 → SDer t (.form k f its parts (zQ t a).S) (a + 1) r → SDer t (.form k f (.name :: its) parts name) a r
  | fN0 {f a : Nat} {k : Int} {its : List It} {parts : List zD} {name : Str} : (zQ t a).K ≠ 1 → SDer t (.form k f (.name :: its) parts name) a (.bad a)
  | fX {f a b : Nat} {k : Int} {its : List It} {parts : List zD} {name : Str} {x : zD} {r : Res} : Der t (.lev 1) a (.ok x b) → SDer t (.form k f its (parts ++ [x]) name) b r → SDer t (.form k f (.expr :: its) parts name) a r
  | fX0 {f a b : Nat} {k : Int} {its : List It} {parts : List zD} {name : Str} : Der t (.lev 1) a (.bad b) → SDer t (.form k f (.expr :: its) parts name) a (.bad b)
  | fT {f a : Nat} {k : Int} {its : List It} {parts : List zD} {name : Str} {r : Res} : (z3B t a).2.2 = 0 → SDer t (.form k f its (parts ++ [(z3B t a).1]) name) (z3B t a).2.1 r → SDer t (.form k f (.type :: its) parts name) a r
  | fT0 {f a : Nat} {k : Int} {its : List It} {parts : List zD} {name : Str} : (z3B t a).2.2 ≠ 0 → SDer t (.form k f (.type :: its) parts name) a (.bad (z3B t a).2.1)
  | fK {f a b : Nat} {k : Int} {its : List It} {parts : List zD} {name : Str} {x : zD} {r : Res} : SDer t .blk a (.ok x b) → SDer t (.form k f its (parts ++ [x]) name) b r → SDer t (.form k f (.block :: its) parts name) a r
  | fK0 {f a b : Nat} {k : Int} {its : List It} {parts : List zD} {name : Str} : SDer t .blk a (.bad b) → SDer t (.form k f (.block :: its) parts name) a (.bad b)
  | fE0 {f a b : Nat} {k : Int} {its : List It} {parts : List zD} {name : Str} : SDer t .blk a (.bad b) → SDer t (.form k f (.be :: its) parts name) a (.bad b)
  | fE1 {f a b : Nat} {k : Int} {its : List It} {parts : List zD} {name : Str} {x : zD} {r : Res} : SDer t .blk a (.ok x b) → vM t b y8O = false → SDer t (.form k f its (parts ++ [x] ++ [z9x (zQ t (b - 1)).To]) name) b r → SDer t (.form k f (.be :: its) parts name) a r
  | fE2 {f a b c : Nat} {k : Int} {its : List It} {parts : List zD} {name : Str} {x y : zD} {r : Res} : SDer t .blk a (.ok x b) → vM t b y8O = true → SDer t .blk (b + 1) (.ok y c) → SDer t (.form k f its (parts ++ [x] ++ [y]) name) c r → SDer t (.form k f (.be :: its) parts name) a r
  | fE3 {f a b c : Nat} {k : Int} {its : List It} {parts : List zD} {name : Str} {x : zD} : SDer t .blk a (.ok x b) → vM t b y8O = true → SDer t .blk (b + 1) (.bad c) → SDer t (.form k f (.be :: its) parts name) a (.bad c)
theorem y8K : ∀ (n : Nat) (t : List zB) (a : Nat), (typ n t a).2.2 = 0 ∨ (typ n t a).2.2 = 6
  | 0, t, a => .inr rfl
  | n + 1, t, a => by
    have := y8K n t (a + 3)
    rw [typ]
    repeat' split
    all_goals first | exact .inl rfl | exact .inr rfl | exact this | skip
theorem y5c : ∀ (n : Nat) (t : List zB) (a : Nat), t.length < a + n → a ≤ t.length → (typ n t a).2.2 ≠ 0 → a ≤ (typ n t a).2.1 ∧ (typ n t a).2.1 ≤ t.length
  | 0, t, a, h1, h2, _ => by omega
  | n + 1, t, a, h1, h2, h => by
    rw [typ] at h ⊢
    by_cases g1 : vM t a [105, 110, 116] = true
    · rw [if_pos g1] at h; exact absurd rfl h
    rw [if_neg g1] at h ⊢
    by_cases g2 : vM t a [98, 111, 111, 108] = true
    · rw [if_pos g2] at h; exact absurd rfl h
    rw [if_neg g2] at h ⊢
    by_cases g3 : (zQ t a).K = 1
    · rw [if_pos g3] at h; exact absurd rfl h
    rw [if_neg g3] at h ⊢
    by_cases g4 : vB t a [91] = true
    · have k4 := zU g4
      rw [if_pos g4] at h ⊢
      by_cases g5 : (zQ t (a + 1)).K = 2
      · have k5 := wT (t := t) (a := a + 1) (by rw [g5]; decide)
        rw [if_pos g5] at h ⊢
        by_cases g6 : vB t (a + 2) [93] = true
        · have k6 := zU g6
          rw [if_pos g6] at h ⊢
          by_cases g7 : (typ n t (a + 3)).2.2 = 0
          · rw [if_pos g7] at h; exact absurd rfl h
          · rw [if_neg g7]
            have := y5c n t (a + 3) (by omega) (by omega) g7
            exact ⟨by show a ≤ (typ n t (a + 3)).2.1; omega, this.2⟩
        · rw [if_neg g6]; exact ⟨by show a ≤ a + 2; omega, by show a + 2 ≤ t.length; omega⟩
      · rw [if_neg g5]; exact ⟨by show a ≤ a + 1; omega, by show a + 1 ≤ t.length; omega⟩
    · rw [if_neg g4]; exact ⟨Nat.le_refl _, h2⟩
def InS (t : List zB) (c : y5h) (a : Nat) : Res → Prop
  | .ok x b => (match c with | .form _ _ its _ _ => a ≤ b ∧ (its ≠ [] → a < b) | _ => a < b) ∧ b ≤ t.length
  | .bad b => a ≤ b ∧ b ≤ t.length
theorem SDer.inS {t : List zB} {c : y5h} {a : Nat} {r : Res} (h : SDer t c a r) : a ≤ t.length → InS t c a r := by
  have step : ∀ {k : Int} {f a b : Nat} {it : It} {its : List It} {p p' : List zD} {n n' : Str} {r : Res}, a < b → InS t (.form k f its p' n') b r → InS t (.form k f (it :: its) p n) a r := by
    intro k f a b it its p p' n n' r h1 h2
    cases r with
    | ok x c => simp only [InS] at h2 ⊢; exact ⟨⟨by omega, fun _ => by omega⟩, h2.2⟩
    | bad c => simp only [InS] at h2 ⊢; omega
  induction h with
  | sB _ _ ih => intro h; exact ih h
  | @sF a r h1 hd ih =>
    intro h
    have q := ih h
    cases r with
    | ok x b =>
      simp only [InS] at q ⊢
      refine ⟨q.1.2 ?_, q.2⟩
      unfold z3u
      repeat' split
      all_goals simp
    | bad b => exact q
  | b0 _ => intro h; simp only [InS]; omega
  | @b1 a r h1 _ ih =>
    intro h
    have := zU h1
    have q := ih (by omega)
    cases r <;> simp only [InS] at q ⊢ <;> omega
  | lE h1 => intro h; have := zU h1; simp only [InS]; omega
  | @lG f a b acc x r h1 _ _ ih1 ih2 =>
    intro h
    have q1 := ih1 h; simp only [InS] at q1
    have q2 := ih2 q1.2
    cases r <;> simp only [InS] at q2 ⊢ <;> omega
  | lB _ _ ih => intro h; exact ih h
  | fE _ => intro h; simp only [InS]; exact ⟨⟨Nat.le_refl _, fun h => absurd rfl h⟩, h⟩
  | fW h1 _ ih => intro h; have := uD h1; exact step (by omega) (ih (by omega))
  | fW0 _ => intro h; simp only [InS]; omega
  | fS h1 _ ih => intro h; have := zU h1; exact step (by omega) (ih (by omega))
  | fS0 _ => intro h; simp only [InS]; omega
  | @fN f a k its parts name r h1 _ ih => intro h; have := wT (t := t) (a := a) (by rw [h1]; decide); exact step (Nat.lt_succ_self a) (ih (by omega))
  | fN0 _ => intro h; simp only [InS]; omega
  | fX hd _ ih => intro h; have q := hd.inR h; simp only [InR] at q; exact step q.1 (ih q.2)
  | fX0 hd => intro h; have q := hd.inR h; simp only [InR, InS] at q ⊢; exact q
  | @fT f a k its parts name r h1 _ ih => intro h; have q := z5J (t.length + 1) t a (by omega) h1; exact step q.1 (ih q.2)
  | @fT0 f a k its parts name h1 => intro h; have q := y5c (t.length + 1) t a (by omega) h h1; simp only [InS]; exact q
  | fK _ _ ih1 ih2 => intro h; have q := ih1 h; simp only [InS] at q; exact step q.1 (ih2 q.2)
  | fK0 _ ih => intro h; exact ih h
  | fE0 _ ih => intro h; exact ih h
  | fE1 _ _ _ ih1 ih2 => intro h; have q := ih1 h; simp only [InS] at q; exact step q.1 (ih2 q.2)
  | @fE2 f a b c k its parts name x y r _ h2 _ _ ih1 ih2 ih3 =>
    intro h
    have hb := uD h2
    have q := ih1 h; simp only [InS] at q
    have q2 := ih2 (by omega); simp only [InS] at q2
    exact step (by omega) (ih3 q2.2)
  | @fE3 f a b c k its parts name x _ h2 _ ih1 ih2 =>
    intro h
    have hb := uD h2
    have q := ih1 h; simp only [InS] at q
    have q2 := ih2 (by omega); simp only [InS] at q2 ⊢
    omega
theorem y6s (t : List zB) : ∀ (d a : Nat), a + d = t.length → (∃ r, SDer t .stmt a r) ∧ (∃ r, SDer t .blk a r) := by
  intro d
  induction d using Nat.strongRecOn with
  | _ d IH =>
    intro a had
    have upS : ∀ b, a < b → b ≤ t.length → ∃ r, SDer t .stmt b r := fun b h1 h2 => (IH (t.length - b) (by omega) b (by omega)).1
    have upB : ∀ b, a < b → b ≤ t.length → ∃ r, SDer t .blk b r := fun b h1 h2 => (IH (t.length - b) (by omega) b (by omega)).2
    have sl : ∀ (n b : Nat) (acc : List zD), a < b → b + n = t.length → ∃ r, SDer t (.sl a acc) b r := by
      intro n
      induction n using Nat.strongRecOn with
      | _ n ihn =>
        intro b acc h1 h2
        cases hs : vB t b [125] with
        | true => exact ⟨_, .lE hs⟩
        | false =>
          obtain ⟨r, hr⟩ := upS b h1 (by omega)
          have q := hr.inS (by omega)
          cases r with
          | bad c => exact ⟨_, .lB hs hr⟩
          | ok x c =>
            simp only [InS] at q
            obtain ⟨r, h3⟩ := ihn (t.length - c) (by omega) c (acc ++ [x]) (by omega) (by omega)
            exact ⟨r, .lG hs hr h3⟩
    have blk : ∃ r, SDer t .blk a r := by
      cases hs : vB t a [123] with
      | false => exact ⟨_, .b0 hs⟩
      | true =>
        have := zU hs
        obtain ⟨r, hr⟩ := sl (t.length - (a + 1)) (a + 1) [] (by omega) (by omega)
        exact ⟨r, .b1 hs hr⟩
    have anyB : ∀ b, a ≤ b → b ≤ t.length → ∃ r, SDer t .blk b r := fun b h1 h2 => by
      by_cases e : b = a
      · subst e; exact blk
      · exact upB b (by omega) h2
    have form : ∀ (k : Int) (its : List It) (b : Nat) (parts : List zD) (name : Str), a ≤ b → b ≤ t.length → (its = [] → a < b) → ∃ r, SDer t (.form k a its parts name) b r := by
      intro k its
      induction its with
      | nil => intro b parts name h1 h2 h3; exact ⟨_, .fE (h3 rfl)⟩
      | cons it its ih =>
        intro b parts name h1 h2 h3
        cases it with
        | word s =>
          cases hs : vM t b s with
          | false => exact ⟨_, .fW0 hs⟩
          | true =>
            have := uD hs
            obtain ⟨r, hr⟩ := ih (b + 1) parts name (by omega) (by omega) (fun _ => by omega)
            exact ⟨r, .fW hs hr⟩
        | sign s =>
          cases hs : vB t b s with
          | false => exact ⟨_, .fS0 hs⟩
          | true =>
            have := zU hs
            obtain ⟨r, hr⟩ := ih (b + 1) parts name (by omega) (by omega) (fun _ => by omega)
            exact ⟨r, .fS hs hr⟩
        | name =>
          by_cases hk : (zQ t b).K = 1
          · have := wT (t := t) (a := b) (by rw [hk]; decide)
            obtain ⟨r, hr⟩ := ih (b + 1) parts (zQ t b).S (by omega) (by omega) (fun _ => by omega)
            exact ⟨r, .fN hk hr⟩
          · exact ⟨_, .fN0 hk⟩
        | expr =>
          obtain ⟨r, hr⟩ := v0q t (t.length - b) b (by omega) 1 (by omega) (by omega)
          have q := hr.inR (by omega)
          cases r with
          | bad c => exact ⟨_, .fX0 hr⟩
          | ok x c =>
            simp only [InR] at q
            obtain ⟨r, h4⟩ := ih c (parts ++ [x]) name (by omega) q.2 (fun _ => by omega)
            exact ⟨r, .fX hr h4⟩
        | type =>
          by_cases he : (z3B t b).2.2 = 0
          · have q : b < (z3B t b).2.1 ∧ (z3B t b).2.1 ≤ t.length := z5J (t.length + 1) t b (by omega) he
            obtain ⟨r, h4⟩ := ih (z3B t b).2.1 (parts ++ [(z3B t b).1]) name (by omega) q.2 (fun _ => by omega)
            exact ⟨r, .fT he h4⟩
          · exact ⟨_, .fT0 he⟩
        | block =>
          obtain ⟨r, hr⟩ := anyB b h1 h2
          have q := hr.inS (by omega)
          cases r with
          | bad c => exact ⟨_, .fK0 hr⟩
          | ok x c =>
            simp only [InS] at q
            obtain ⟨r, h4⟩ := ih c (parts ++ [x]) name (by omega) q.2 (fun _ => by omega)
            exact ⟨r, .fK hr h4⟩
        | be =>
          obtain ⟨r, hr⟩ := anyB b h1 h2
          have q := hr.inS (by omega)
          cases r with
          | bad c => exact ⟨_, .fE0 hr⟩
          | ok x c =>
            simp only [InS] at q
            cases hw : vM t c y8O with
            | false =>
              obtain ⟨r, h4⟩ := ih c _ name (by omega) q.2 (fun _ => by omega)
              exact ⟨r, .fE1 hr hw h4⟩
            | true =>
              have := uD hw
              obtain ⟨r2, hr2⟩ := anyB (c + 1) (by omega) (by omega)
              have q2 := hr2.inS (by omega)
              cases r2 with
              | bad e => exact ⟨_, .fE3 hr hw hr2⟩
              | ok y e =>
                simp only [InS] at q2
                obtain ⟨r, h4⟩ := ih e _ name (by omega) q2.2 (fun _ => by omega)
                exact ⟨r, .fE2 hr hw hr2 h4⟩
    refine ⟨?_, blk⟩
    cases hs : vB t a [123] with
    | true => obtain ⟨r, hr⟩ := blk; exact ⟨r, .sB hs hr⟩
    | false =>
      obtain ⟨r, hr⟩ := form (z3u t a).1 (z3u t a).2 a [] [] (Nat.le_refl _) (by omega) (fun h => by
        exfalso; revert h
        unfold z3u
        repeat' split
        all_goals simp)
      exact ⟨r, .sF hs hr⟩
theorem v0U {t : List zB} {c : y5h} {a : Nat} {r : Res} (h : SDer t c a r) : (match c with | .blk => True | .sl _ _ => True | _ => False) → ∀ x b, r = .ok x b → x.To = (zQ t (b - 1)).To := by
  induction h with
  | b0 _ => intro _ x b e; cases e
  | b1 _ _ ih => intro _ x b e; exact ih trivial x b e
  | lE _ => intro _ x b e; cases e; rfl
  | lG _ _ _ _ ih => intro _ x b e; exact ih trivial x b e
  | lB _ _ _ => intro _ x b e; cases e
  | _ => intro h; exact h.elim
theorem y2x (t : List zB) (a : Nat) (e : Int) : z0x t a e = some (zQ t a) := by
  unfold z0x zQ
  by_cases h : a < t.length
  · rw [if_pos (show (a : Int) < (t.length : Int) by omega), z2r h, zA, List.getElem?_eq_getElem h]; rfl
  · rw [if_neg (show ¬ (a : Int) < (t.length : Int) by omega), List.getElem?_eq_none (by omega)]; rfl
theorem y0t (s : Str) (t : List zB) (a : Nat) (e : Int) : uM 4 s t a e = some (vB t a s) := by
  unfold uM vB
  rw [y2x, zA]
  by_cases h : (zQ t a).K = 4
  · rw [if_pos h, decide_eq_true h]; rfl
  · rw [if_neg h, decide_eq_false h]; rfl
theorem y3S (s : Str) (t : List zB) (a : Nat) (e : Int) : uM 3 s t a e = some (vM t a s) := by
  unfold uM vM
  rw [y2x, zA]
  by_cases h : (zQ t a).K = 3
  · rw [if_pos h, decide_eq_true h]; rfl
  · rw [if_neg h, decide_eq_false h]; rfl
theorem z5E (s : Str) (t : List zB) (hl : t.length ≤ 1048576) (a : Nat) : zZ 4 s t a 0 = if vB t a s = true then some (t, ((a + 1 : Nat) : Int), 0) else some (t, (a : Int), 6) := by
  unfold zZ
  rw [if_pos rfl, y0t, zA]
  by_cases h : vB t a s = true
  · have := zU h
    rw [if_pos h, if_pos h, uJ hl (by omega)]
  · rw [if_neg h, if_neg h]
theorem y2w (s : Str) (t : List zB) (hl : t.length ≤ 1048576) (a : Nat) : zZ 3 s t a 0 = if vM t a s = true then some (t, ((a + 1 : Nat) : Int), 0) else some (t, (a : Int), 6) := by
  unfold zZ
  rw [if_pos rfl, y3S, zA]
  by_cases h : vM t a s = true
  · have := uD h
    rw [if_pos h, if_pos h, uJ hl (by omega)]
  · rw [if_neg h, if_neg h]
theorem z9O (k : Int) (s : Str) (t : List zB) (a : Int) {e : Int} (h : e ≠ 0) : zZ k s t a e = some (t, a, e) := by
  unfold zZ; rw [if_neg h]
theorem y1m (t : List zB) (hl : t.length ≤ 1048576) (a : Nat) : uW t a 0 = if (zQ t a).K = 1 then some ((zQ t a).S, t, ((a + 1 : Nat) : Int), 0) else some ([], t, (a : Int), 6) := by
  unfold uW
  rw [if_pos rfl, y2x, zA]
  by_cases h : (zQ t a).K = 1
  · have := wT (t := t) (a := a) (by rw [h]; decide)
    rw [if_pos h, if_pos h, uJ hl (by omega)]
  · rw [if_neg h, if_neg h]
theorem y8w (t : List zB) (a : Int) {e : Int} (h : e ≠ 0) : uW t a e = some ([], t, a, e) := by
  unfold uW; rw [if_neg h]
theorem y6t (k : Int) (s : Str) (l : List zD) (t : List zB) (hl : t.length ≤ 9223372036854775807) (f a : Nat) (hf : f < a) (ha : a ≤ t.length) : yU k s f l t a 0 = some (placed t f a ⟨k, 0, s, l, 0, 0⟩) := by
  unfold yU placed zQ
  have h1 : IntKind.wrap .i64 ((a : Int) - 1) = ((a - 1 : Nat) : Int) := by rw [z2h (by omega) (by omega)]; omega
  rw [if_pos rfl, z2r (show f < t.length by omega), zA, h1, z2r (show a - 1 < t.length by omega), zA, List.getElem?_eq_getElem (show f < t.length by omega), List.getElem?_eq_getElem (show a - 1 < t.length by omega)]; rfl
theorem y4W (k : Int) (s : Str) (l : List zD) (t : List zB) (f a : Int) {e : Int} (h : e ≠ 0) : yU k s f l t a e = some zT7 := by
  unfold yU; rw [if_neg h]
theorem y3d (t : List zB) (a : Int) {e : Int} (h : e ≠ 0) : wZ t a e = some (zT7, t, a, e) ∧ vU t a e = some (zT7, t, a, e) := by
  unfold wZ vU; rw [if_neg h, if_neg h]; exact ⟨rfl, rfl⟩
theorem y8p (t : List zB) (a : Int) {e : Int} (h : e ≠ 0) : yT t a e = some (zT7, t, a, e) := by
  unfold yT; rw [(y3d t a h).1]; rfl
theorem y9K (t : List zB) (hl : t.length ≤ 1048576) (a : Nat) (ha : a ≤ t.length) {x : zD} {b : Nat} (h : Der t (.lev 1) a (.ok x b)) : yT t a 0 = some (x, t, (b : Int), 0) := by
  unfold yT wZ
  rw [if_pos rfl, if_neg (by omega), y2m t hl a ha h]; rfl
theorem y9J (t : List zB) (hl : t.length ≤ 1048576) (a : Nat) (ha : a ≤ t.length) {b : Nat} (h : Der t (.lev 1) a (.bad b)) : yT t a 0 = some (zT7, t, (b : Int), 6) := by
  obtain ⟨y, hp⟩ : ∃ y, zJ t (a : Int) 0 = some (y, t, (b : Int), 6) := z4D ((y2p hl h ha).level (by omega))
  unfold yT wZ z0n z0j
  rw [if_pos rfl, if_neg (by omega), if_neg (by omega), if_neg (by omega), hp]; rfl
theorem y6u (t : List zB) (hl : t.length ≤ 1048576) (a : Nat) (ha : a ≤ t.length) : vU t a 0 = some (if (z3B t a).2.2 = 0 then (z3B t a).1 else zT7, t, ((z3B t a).2.1 : Int), (z3B t a).2.2) := by
  obtain ⟨x, e1, e2⟩ := y3I t (by omega) (t.length + 1) a (by omega) ha
  unfold vU z3s jB
  rw [if_pos rfl, if_neg (by omega), if_neg (by omega), if_neg (by omega), e1, zA]
  dsimp only
  by_cases h : (z3B t a).2.2 = 0
  · rw [if_pos h, if_pos h, e2 h]
    show some _ = _
    rw [h]
  · rw [if_neg h, if_neg h]; rfl
theorem y8v (f : Int) (l : List zD) (o : zD) (t : List zB) (a : Int) {e : Int} (h : e ≠ 0) : zS f l o t a e = some (zT7, t, a, e) := by
  rw [z0E]; unfold vT
  rw [if_neg h, z9O _ _ _ _ h, zA, y4W _ _ _ _ _ _ h]; rfl
theorem y7q (t : List zB) (a : Int) {e : Int} (h : e ≠ 0) : zG t a e = some (zT7, t, a, e) := by
  rw [z2x]; unfold uA
  rw [z9O _ _ _ _ h, zA, y8v _ _ _ _ _ h]
noncomputable def wH (t : List zB) : List It → List zD → Str → Int → Int → Option (List zD × Str × Int × Int)
  | [], ps, nm, a, e => some (ps, nm, a, e)
  | .word s :: r, ps, nm, a, e => zZ 3 s t a e >>= fun q => wH t r ps nm q.2.1 q.2.2
  | .sign s :: r, ps, nm, a, e => zZ 4 s t a e >>= fun q => wH t r ps nm q.2.1 q.2.2
  | .name :: r, ps, nm, a, e => uW t a e >>= fun q => wH t r ps q.1 q.2.2.1 q.2.2.2
  | .expr :: r, ps, nm, a, e => yT t a e >>= fun q => wH t r (ps ++ [q.1]) nm q.2.2.1 q.2.2.2
  | .type :: r, ps, nm, a, e => vU t a e >>= fun q => wH t r (ps ++ [q.1]) nm q.2.2.1 q.2.2.2
  | .block :: r, ps, nm, a, e => zG t a e >>= fun q => wH t r (ps ++ [q.1]) nm q.2.2.1 q.2.2.2
  | .be :: r, ps, nm, a, e => zG t a e >>= fun q =>
      if q.2.2.2 = 0 then (uM 3 y8O t q.2.2.1 q.2.2.2 >>= fun z => if z = true then (zG t (IntKind.wrap .i64 (q.2.2.1 + 1)) q.2.2.2 >>= fun w => wH t r (ps ++ [q.1] ++ [w.1]) nm w.2.2.1 w.2.2.2)
        else wH t r (ps ++ [q.1] ++ [z9x q.1.To]) nm q.2.2.1 q.2.2.2)
      else wH t r (ps ++ [q.1] ++ [z9x q.1.To]) nm q.2.2.1 q.2.2.2
theorem z6O (t : List zB) (a : Int) {e : Int} (h : e ≠ 0) : ∀ (its : List It) (ps : List zD) (nm : Str), ∃ ps' nm', wH t its ps nm a e = some (ps', nm', a, e)
  | [], ps, nm => ⟨ps, nm, rfl⟩
  | .word s :: r, ps, nm => by rw [wH, z9O _ _ _ _ h]; exact z6O t a h r ps nm
  | .sign s :: r, ps, nm => by rw [wH, z9O _ _ _ _ h]; exact z6O t a h r ps nm
  | .name :: r, ps, nm => by rw [wH, y8w _ _ h]; exact z6O t a h r ps []
  | .expr :: r, ps, nm => by rw [wH, y8p _ _ h]; exact z6O t a h r _ nm
  | .type :: r, ps, nm => by rw [wH, (y3d _ _ h).2]; exact z6O t a h r _ nm
  | .block :: r, ps, nm => by rw [wH, y7q _ _ h]; exact z6O t a h r _ nm
  | .be :: r, ps, nm => by
    rw [wH, y7q _ _ h, zA]
    dsimp only
    rw [if_neg h]; exact z6O t a h r _ nm
noncomputable abbrev mkF (t : List zB) (k : Int) (f : Int) (q : Option (List zD × Str × Int × Int)) : Option (zD × List zB × Int × Int) :=
  q >>= fun q => yU k q.2.1 f q.1 t q.2.2.1 q.2.2.2 >>= fun z => some (z, t, q.2.2.1, q.2.2.2)
theorem z3z {k : Int} {s : Str} {t : List zB} {a e : Int} {q : List zB × Int × Int} (h : zZ k s t a e = some q) : q.1 = t := by
  unfold zZ at h
  by_cases he : e = 0
  · rw [if_pos he] at h
    cases hi : uM k s t a e with
    | none => rw [hi] at h; cases h
    | some z =>
      rw [hi, zA] at h
      split at h <;> (cases h; rfl)
  · rw [if_neg he] at h; cases h; rfl
theorem y8b {t : List zB} {a e : Int} {q : Str × List zB × Int × Int} (h : uW t a e = some q) : q.2.1 = t := by
  unfold uW at h
  by_cases he : e = 0
  · rw [if_pos he] at h
    cases hi : z0x t a e with
    | none => rw [hi] at h; cases h
    | some z =>
      rw [hi, zA] at h
      split at h <;> (cases h; rfl)
  · rw [if_neg he] at h; cases h; rfl
theorem z4o {t : List zB} {a e : Int} {q : zD × List zB × Int × Int} (h : yT t a e = some q) : q.2.1 = t := by
  unfold yT wZ at h
  by_cases he : e = 0
  · rw [if_pos he] at h
    by_cases h1 : a > (List.length t : Int)
    · rw [if_pos h1] at h; cases h; rfl
    · rw [if_neg h1] at h
      cases hi : z0n t a with
      | none => rw [hi] at h; cases h
      | some z => rw [hi] at h; cases h; rfl
  · rw [if_neg he] at h; cases h; rfl
theorem v0d {t : List zB} {a e : Int} {q : zD × List zB × Int × Int} (h : vU t a e = some q) : q.2.1 = t := by
  unfold vU at h
  by_cases he : e = 0
  · rw [if_pos he] at h
    by_cases h1 : a > (List.length t : Int)
    · rw [if_pos h1] at h; cases h; rfl
    · rw [if_neg h1] at h
      cases hi : z3s t a with
      | none => rw [hi] at h; cases h
      | some z => rw [hi] at h; cases h; rfl
  · rw [if_neg he] at h; cases h; rfl
theorem wQ {α β : Type} {p : Option α} {f g : α → Option β} (h : ∀ q, p = some q → f q = g q) : (p >>= f) = (p >>= g) := by
  cases p with
  | none => rfl
  | some q => exact h q rfl
theorem y3m {α β γ : Type} (p : Option α) (f : α → Option β) (g : β → Option γ) : ((p >>= f) >>= g) = (p >>= fun x => f x >>= g) := by cases p <;> rfl
theorem y2v (t : List zB) (k a : Int) : jL k t a 0 = mkF t k a (wH t [.expr, .sign [59]] [] [] (IntKind.wrap .i64 (a + 1)) 0) := by
  unfold jL mkF
  simp only [wH, y3m]
  refine wQ fun q hq => ?_
  rw [z4o hq]
  refine wQ fun z hz => ?_
  rw [z3z hz]; rfl
theorem v1j (t : List zB) (a : Int) : z0M t a 0 = mkF t 22 a (wH t [.expr, .sign [61], .expr, .sign [59]] [] [] a 0) := by
  unfold z0M mkF
  simp only [wH, y3m]
  refine wQ fun q hq => ?_
  rw [z4o hq]
  refine wQ fun z hz => ?_
  rw [z3z hz]
  refine wQ fun q hq => ?_
  rw [z4o hq]
  refine wQ fun z hz => ?_
  rw [z3z hz]; rfl
theorem y9v (t : List zB) (hl : t.length ≤ 1048576) (a : Nat) (h1 : (zQ t (a + 1)).K = 1) (h2 : vB t (a + 2) [58] = true) : z0f t a 0 = mkF t 21 a (wH t [.name, .sign [58], .type, .sign [59]] [] [] ((a + 1 : Nat) : Int) 0) := by
  have k1 := wT (t := t) (a := a + 1) (by rw [h1]; decide)
  have k2 := zU h2
  have e1 := y1m t hl (a + 1)
  rw [if_pos h1] at e1
  have e2 := z5E [58] t hl (a + 2)
  rw [if_pos h2] at e2
  unfold z0f mkF
  simp only [wH, y3m]
  rw [uJ hl (by omega), e1, zA, zA]
  show (if (0 : Int) = 0 then _ else _) = (zZ 4 [58] t ((a + 2 : Nat) : Int) 0 >>= _)
  rw [if_pos rfl, e2, zA]
  show (uM 4 [58] t ((a + 2 : Nat) : Int) 0 >>= _) = _
  rw [y0t, zA, if_pos h2]
  show (vU t (IntKind.wrap .i64 (((a + 2 : Nat) : Int) + 1)) 0 >>= _) = _
  rw [uJ hl (by omega)]
  refine wQ fun q hq => ?_
  rw [v0d hq]
  refine wQ fun z hz => ?_
  rw [z3z hz]; rfl
theorem y9u (t : List zB) (hl : t.length ≤ 1048576) (a : Nat) (ha : a < t.length) (h : ¬ ((zQ t (a + 1)).K = 1 ∧ vB t (a + 2) [58] = true)) : z0f t a 0 = mkF t 20 a (wH t [.name, .sign [61], .expr, .sign [59]] [] [] ((a + 1 : Nat) : Int) 0) := by
  have rest : ∀ (nm : Str) (b e : Int), (zZ 4 [61] t b e >>= fun q6 => yT q6.1 q6.2.1 q6.2.2 >>= fun q7 => zZ 4 [59] q7.2.1 q7.2.2.1 q7.2.2.2 >>= fun q8 => yU 20 nm a [q7.1] q8.1 q8.2.1 q8.2.2 >>= fun q9 => some (q9, q8.1, q8.2.1, q8.2.2)) =
      (zZ 4 [61] t b e >>= fun q => yT t q.2.1 q.2.2 >>= fun q => zZ 4 [59] t q.2.2.1 q.2.2.2 >>= fun z => yU 20 nm a [q.1] t z.2.1 z.2.2 >>= fun y => some (y, t, z.2.1, z.2.2)) := by
    intro nm b e
    refine wQ fun q hq => ?_
    rw [z3z hq]
    refine wQ fun z hz => ?_
    rw [z4o hz]
    refine wQ fun y hy => ?_
    rw [z3z hy]
  unfold z0f mkF
  simp only [wH, y3m]
  rw [uJ hl (by omega), y1m t hl (a + 1)]
  by_cases h1 : (zQ t (a + 1)).K = 1
  · rw [if_pos h1, zA, zA]
    show (if (0 : Int) = 0 then _ else _) = _
    rw [if_pos rfl]
    show (uM 4 [58] t ((a + 2 : Nat) : Int) 0 >>= _) = _
    rw [y0t, zA, if_neg (fun h' => h ⟨h1, h'⟩)]
    exact rest _ _ _
  · rw [if_neg h1, zA, zA]
    show (if (6 : Int) = 0 then _ else _) = _
    rw [if_neg six]
    exact rest _ _ _
theorem y9O (t : List zB) (hl : t.length ≤ 1048576) (a : Nat) (ha : a < t.length) (hb : ∀ b e q, zG t b e = some q → q.2.1 = t) : yY t a 0 = mkF t 24 a (wH t [.expr, .block] [] [] ((a + 1 : Nat) : Int) 0) := by
  rw [z7y]; unfold jT mkF
  simp only [wH, y3m]
  rw [uJ hl (by omega)]
  refine wQ fun q hq => ?_
  rw [z4o hq]
  refine wQ fun z hz => ?_
  rw [hb _ _ _ hz]; rfl
theorem y9b (t : List zB) (hl : t.length ≤ 1048576) (a : Nat) (ha : a < t.length) (hb : ∀ b e q, zG t b e = some q → q.2.1 = t) : yX t a 0 = mkF t 25 a (wH t [.name, .sign [61], .expr, .word wTo, .expr, .block] [] [] ((a + 1 : Nat) : Int) 0) := by
  rw [z7x]; unfold jS mkF
  simp only [wH, y3m]
  rw [uJ hl (by omega)]
  refine wQ fun q hq => ?_
  rw [y8b hq]
  refine wQ fun q hq => ?_
  rw [z3z hq]
  refine wQ fun q hq => ?_
  rw [z4o hq]
  refine wQ fun q hq => ?_
  rw [z3z hq]
  refine wQ fun q hq => ?_
  rw [z4o hq]
  refine wQ fun z hz => ?_
  rw [hb _ _ _ hz]; rfl
theorem v0m (t : List zB) (hl : t.length ≤ 1048576) (a : Nat) (ha : a < t.length) (hb : ∀ b e q, zG t b e = some q → q.2.1 = t) : vF t a 0 = mkF t 23 a (wH t [.expr, .be] [] [] ((a + 1 : Nat) : Int) 0) := by
  rw [z8e]; unfold gG mkF
  simp only [wH, y3m]
  rw [uJ hl (by omega)]
  refine wQ fun q hq => ?_
  rw [z4o hq]
  refine wQ fun z hz => ?_
  rw [hb _ _ _ hz]
  by_cases h0 : z.2.2.2 = 0
  · rw [if_pos h0, if_pos h0]
    simp only [y3m]
    refine wQ fun y hy => ?_
    by_cases h1 : y = true
    · rw [if_pos h1, if_pos h1]
      simp only [y3m]
      refine wQ fun w hw => ?_
      rw [hb _ _ _ hw]; rfl
    · rw [if_neg h1, if_neg h1]; rfl
  · rw [if_neg h0, if_neg h0]; rfl
theorem v0j (t : List zB) : ∀ b e q, zG t b e = some q → q.2.1 = t := by
  have made_fin : ∀ {k : Int} {s : Str} {f : Int} {l : List zD} {t' : List zB} {a e : Int} {q : zD × List zB × Int × Int}, (yU k s f l t' a e >>= fun z => some (z, t', a, e)) = some q → q.2.1 = t' := fun {k s f l t' a e q} h => by
    obtain ⟨z, -, h⟩ := zC h
    cases h; rfl
  have all : ∀ i r, z2Z vJ i = some r → (match i, r with
      | .yO t _ _, r => r.2.1 = t
      | .zG t _ _, r => r.2.1 = t
      | .zS _ _ _ t _ _, r => r.2.1 = t
      | .vF t _ _, r => r.2.1 = t
      | .yY t _ _, r => r.2.1 = t
      | .yX t _ _, r => r.2.1 = t : Prop) := by
    refine jQ jN (P := fun i r => (match i, r with
      | .yO t _ _, r => r.2.1 = t
      | .zG t _ _, r => r.2.1 = t
      | .zS _ _ _ t _ _, r => r.2.1 = t
      | .vF t _ _, r => r.2.1 = t
      | .yY t _ _, r => r.2.1 = t
      | .yX t _ _, r => r.2.1 = t : Prop)) fun g ih i r h => ?_
    cases i with
    | yO t a e =>
      replace h : jM (fun t a e => g (.zG t a e)) (fun t a e => g (.vF t a e)) (fun t a e => g (.yY t a e)) (fun t a e => g (.yX t a e)) t a e = some r := h
      unfold jM at h
      obtain ⟨q1, -, h⟩ := zC h
      obtain ⟨q2, -, h⟩ := zC h
      show r.2.1 = t
      have sg : ∀ {k : Int} {q : zD × List zB × Int × Int}, jL k t a e = some q → q.2.1 = t := fun {k q} h => by
        unfold jL at h
        obtain ⟨x, h1, h⟩ := zC h
        obtain ⟨y, h2, h⟩ := zC h
        have := made_fin h
        rw [this, z3z h2, z4o h1]
      have lt : ∀ {q : zD × List zB × Int × Int}, z0f t a e = some q → q.2.1 = t := fun {q} h => by
        unfold z0f at h
        obtain ⟨x, h1, h⟩ := zC h
        have e1 := y8b h1
        have tail : ∀ {q : zD × List zB × Int × Int}, (zZ 4 [61] x.2.1 x.2.2.1 x.2.2.2 >>= fun q6 => yT q6.1 q6.2.1 q6.2.2 >>= fun q7 => zZ 4 [59] q7.2.1 q7.2.2.1 q7.2.2.2 >>= fun q8 => yU 20 x.1 a [q7.1] q8.1 q8.2.1 q8.2.2 >>= fun q9 => some (q9, q8.1, q8.2.1, q8.2.2)) = some q → q.2.1 = t := fun {q} h => by
          obtain ⟨y, h2, h⟩ := zC h
          obtain ⟨z, h3, h⟩ := zC h
          obtain ⟨w, h4, h⟩ := zC h
          have := made_fin h
          rw [this, z3z h4, z4o h3, z3z h2, e1]
        split at h
        · obtain ⟨y, h2, h⟩ := zC h
          split at h
          · obtain ⟨z, h3, h⟩ := zC h
            obtain ⟨w, h4, h⟩ := zC h
            have := made_fin h
            rw [this, z3z h4, v0d h3, e1]
          · exact tail h
        · exact tail h
      have st : ∀ {q : zD × List zB × Int × Int}, z0M t a e = some q → q.2.1 = t := fun {q} h => by
        unfold z0M at h
        obtain ⟨x, h1, h⟩ := zC h
        obtain ⟨y, h2, h⟩ := zC h
        obtain ⟨z, h3, h⟩ := zC h
        obtain ⟨w, h4, h⟩ := zC h
        have := made_fin h
        rw [this, z3z h4, z4o h3, z3z h2, z4o h1]
      have sh : ∀ {q : zD × List zB × Int × Int} {p : Option (zD × List zB × Int × Int)}, (p >>= fun x => some (x.1, x.2.1, x.2.2.1, x.2.2.2)) = some q → p = some q := fun {q p} h => by
        obtain ⟨x, h1, h⟩ := zC h
        cases h; exact h1
      repeat' split at h
      · exact ih _ _ (sh h)
      · exact st (sh h)
      · exact lt (sh h)
      · exact ih _ _ (sh h)
      · exact ih _ _ (sh h)
      · exact ih _ _ (sh h)
      · have := sh h; unfold z1L at this; exact sg (sh this)
      · have := sh h; unfold z1J at this; exact sg (sh this)
      · have := sh h; unfold z1K at this; exact sg (sh this)
      · cases h
    | zG t a e =>
      replace h : uA (fun f l o t a e => g (.zS f l o t a e)) t a e = some r := h
      unfold uA at h
      obtain ⟨x, h1, h⟩ := zC h
      have := ih _ _ h
      show r.2.1 = t
      rw [show r.2.1 = x.1 from this, z3z h1]
    | zS f l o t a e =>
      replace h : vT (fun f l o t a e => g (.zS f l o t a e)) (fun t a e => g (.yO t a e)) f l o t a e = some r := h
      unfold vT at h
      show r.2.1 = t
      split at h
      · obtain ⟨x, h1, h⟩ := zC h
        split at h
        · obtain ⟨y, h2, h⟩ := zC h
          rw [made_fin h, z3z h2]
        · obtain ⟨y, h2, h⟩ := zC h
          split at h
          · have e1 := ih _ _ h
            have e2 := ih _ _ h2
            rw [show r.2.1 = y.2.1 from e1]; exact e2
          · cases h
      · obtain ⟨y, h2, h⟩ := zC h
        rw [made_fin h, z3z h2]
    | vF t a e =>
      replace h : gG (fun t a e => g (.zG t a e)) t a e = some r := h
      unfold gG at h
      show r.2.1 = t
      obtain ⟨x, h1, h⟩ := zC h
      obtain ⟨y, h2, h⟩ := zC h
      have e1 := z4o h1
      have e2 : y.2.1 = x.2.1 := ih _ _ h2
      split at h
      · obtain ⟨z, h3, h⟩ := zC h
        split at h
        · obtain ⟨w, h4, h⟩ := zC h
          have e3 : w.2.1 = y.2.1 := ih _ _ h4
          rw [made_fin h, e3, e2, e1]
        · rw [made_fin h, e2, e1]
      · rw [made_fin h, e2, e1]
    | yY t a e =>
      replace h : jT (fun t a e => g (.zG t a e)) t a e = some r := h
      unfold jT at h
      show r.2.1 = t
      obtain ⟨x, h1, h⟩ := zC h
      obtain ⟨y, h2, h⟩ := zC h
      have e2 : y.2.1 = x.2.1 := ih _ _ h2
      rw [made_fin h, e2, z4o h1]
    | yX t a e =>
      replace h : jS (fun t a e => g (.zG t a e)) t a e = some r := h
      unfold jS at h
      show r.2.1 = t
      obtain ⟨x1, h1, h⟩ := zC h
      obtain ⟨x2, h2, h⟩ := zC h
      obtain ⟨x3, h3, h⟩ := zC h
      obtain ⟨x4, h4, h⟩ := zC h
      obtain ⟨x5, h5, h⟩ := zC h
      obtain ⟨x6, h6, h⟩ := zC h
      have e6 : x6.2.1 = x5.2.1 := ih _ _ h6
      rw [made_fin h, e6, z4o h5, z3z h4, z4o h3, z3z h2, y8b h1]
  intro b e q h
  exact all (.zG t b e) q h
def FM (t : List zB) (k : Int) (f : Nat) (p : Option (List zD × Str × Int × Int)) (r : Res) : Prop :=
  (∀ x b, r = .ok x b → ∃ ps nm, p = some (ps, nm, (b : Int), 0) ∧ x = placed t f b ⟨k, 0, nm, ps, 0, 0⟩ ∧ f < b ∧ b ≤ t.length) ∧ (∀ b, r = .bad b → ∃ ps nm, p = some (ps, nm, (b : Int), 6))
def PS (t : List zB) : y5h → Nat → Res → Prop
  | .stmt, a, r => PR t (yO t a 0) r
  | .blk, a, r => PR t (zG t a 0) r
  | .sl f acc, a, r => f < a → acc.length < a → ∀ o, PR t (zS f acc o t a 0) r
  | .form k f its parts name, a, r => FM t k f (wH t its parts name a 0) r
theorem FM.fin {t : List zB} (hl : t.length ≤ 1048576) {k : Int} {f : Nat} {p : Option (List zD × Str × Int × Int)} {r : Res} (h : FM t k f p r) : PR t (mkF t k f p) r := by
  cases r with
  | ok x b =>
    obtain ⟨ps, nm, e, e2, h1, h2⟩ := h.1 x b rfl
    show _ = _
    rw [e]; unfold mkF; rw [zA]
    dsimp only
    rw [y6t k nm ps t (by omega) f b h1 h2, e2]; rfl
  | bad b =>
    obtain ⟨ps, nm, e⟩ := h.2 b rfl
    show ∃ y, _ = _
    rw [e]; unfold mkF; rw [zA]
    dsimp only
    rw [y4W _ _ _ _ _ _ six]
    exact ⟨_, rfl⟩
theorem FM.bad {t : List zB} {k : Int} {f b : Nat} {its : List It} {ps : List zD} {nm : Str} : FM t k f (wH t its ps nm b 6) (.bad b) :=
  ⟨(fun _ _ h => by cases h), fun c h => by cases h; exact z6O t b six its ps nm⟩
theorem y7T (t : List zB) (a : Nat) : (vB t a [123] = true → z0D (zQ t a) = some 51) ∧ (vM t a v0M = true → z0D (zQ t a) = some 68) ∧ (vM t a wIf = true → z0D (zQ t a) = some 69) ∧ (vM t a y5f = true → z0D (zQ t a) = some 70) ∧
    (vM t a v1m = true → z0D (zQ t a) = some 71) ∧ (vM t a y5e = true → z0D (zQ t a) = some 72) ∧ (vM t a y2H = true → z0D (zQ t a) = some 73) ∧ (vM t a wDo = true → z0D (zQ t a) = some 74) := by
  have w : ∀ {s : Str} {n : Nat}, z0D ⟨3, (zQ t a).N, s, (zQ t a).From, (zQ t a).To⟩ = some n → vM t a s = true → z0D (zQ t a) = some n := fun {s n} h hw => by
    obtain ⟨h1, h2⟩ := y2M hw
    rw [← h, ← h1, ← h2]
  refine ⟨fun h => ?_, w rfl, w rfl, w rfl, w rfl, w rfl, w rfl, w rfl⟩
  obtain ⟨h1, h2⟩ := v0H h
  unfold z0D
  rw [if_pos h1, if_pos h2]
theorem y9t (t : List zB) (a : Nat) (h0 : vB t a [123] = false) (h1 : ¬ vM t a v0M = true) (h2 : ¬ vM t a wIf = true) (h3 : ¬ vM t a y5f = true) (h4 : ¬ vM t a v1m = true) (h5 : ¬ vM t a y5e = true) (h6 : ¬ vM t a y2H = true) (h7 : ¬ vM t a wDo = true) : z0D (zQ t a) = some 67 := by
  unfold z0D
  by_cases k4 : (zQ t a).K = 4
  · rw [if_pos k4, if_neg (fun e => by unfold vB at h0; rw [k4, e] at h0; simp at h0)]
  · rw [if_neg k4]
    by_cases k3 : (zQ t a).K = 3
    · have ne : ∀ s, ¬ vM t a s = true → ¬ (zQ t a).S = s := fun s h e => h (by unfold vM; rw [k3, e]; simp)
      rw [if_pos k3, if_neg (ne _ h1), if_neg (ne _ h2), if_neg (ne _ h3), if_neg (ne _ h4), if_neg (ne _ h5), if_neg (ne _ h6), if_neg (ne _ h7)]
    · rw [if_neg k3]
theorem PR.id {t : List zB} {p : Option (zD × List zB × Int × Int)} {r : Res} (h : PR t p r) : PR t (p >>= fun x => some (x.1, x.2.1, x.2.2.1, x.2.2.2)) r := by
  cases p with
  | none => cases r with
    | ok x b => cases h
    | bad b => obtain ⟨y, h⟩ := h; cases h
  | some q => exact h
theorem y8z {t : List zB} (hl : t.length ≤ 1048576) {a : Nat} {r : Res} (ha : a ≤ t.length) (h0 : vB t a [123] = false) (h : FM t (z3u t a).1 a (wH t (z3u t a).2 [] [] a 0) r) : PR t (yO t a 0) r := by
  have w1 : ∀ {s : Str} {its : List It}, vM t a s = true → wH t (.word s :: its) [] [] a 0 = wH t its [] [] ((a + 1 : Nat) : Int) 0 := fun {s its} hw => by
    rw [wH, y2w s t hl a, if_pos hw]; rfl
  obtain ⟨-, q1, q2, q3, q4, q5, q6, q7⟩ := y7T t a
  rw [z4H]; unfold jM
  rw [y2x, zA]
  unfold z3u at h
  by_cases g1 : vM t a v0M = true
  · have hlt := uD g1
    rw [if_pos g1] at h
    rw [q1 g1, zA, if_neg (by decide), if_neg (by decide), if_pos rfl]
    by_cases g2 : (zQ t (a + 1)).K = 1 ∧ vB t (a + 2) [58] = true
    · rw [if_pos g2] at h
      dsimp only at h
      rw [w1 g1] at h
      rw [y9v t hl a g2.1 g2.2]
      exact (h.fin hl).id
    · rw [if_neg g2] at h
      dsimp only at h
      rw [w1 g1] at h
      rw [y9u t hl a hlt g2]
      exact (h.fin hl).id
  rw [if_neg g1] at h
  by_cases g2 : vM t a wIf = true
  · have hlt := uD g2
    rw [if_pos g2] at h
    dsimp only at h
    rw [w1 g2] at h
    rw [q2 g2, zA, if_neg (by decide), if_neg (by decide), if_neg (by decide), if_pos rfl, v0m t hl a hlt (v0j t)]
    exact (h.fin hl).id
  rw [if_neg g2] at h
  by_cases g3 : vM t a y5f = true
  · have hlt := uD g3
    rw [if_pos g3] at h
    dsimp only at h
    rw [w1 g3] at h
    rw [q3 g3, zA, if_neg (by decide), if_neg (by decide), if_neg (by decide), if_neg (by decide), if_pos rfl, y9O t hl a hlt (v0j t)]
    exact (h.fin hl).id
  rw [if_neg g3] at h
  by_cases g4 : vM t a v1m = true
  · have hlt := uD g4
    rw [if_pos g4] at h
    dsimp only at h
    rw [w1 g4] at h
    rw [q4 g4, zA, if_neg (by decide), if_neg (by decide), if_neg (by decide), if_neg (by decide), if_neg (by decide), if_pos rfl, y9b t hl a hlt (v0j t)]
    exact (h.fin hl).id
  rw [if_neg g4] at h
  by_cases g5 : vM t a y5e = true
  · have hlt := uD g5
    rw [if_pos g5] at h
    dsimp only at h
    rw [w1 g5] at h
    rw [q5 g5, zA, if_neg (by decide), if_neg (by decide), if_neg (by decide), if_neg (by decide), if_neg (by decide), if_neg (by decide), if_pos rfl]
    unfold z1L
    rw [y2v, uJ hl (by omega)]
    exact (h.fin hl).id.id
  rw [if_neg g5] at h
  by_cases g6 : vM t a y2H = true
  · have hlt := uD g6
    rw [if_pos g6] at h
    dsimp only at h
    rw [w1 g6] at h
    rw [q6 g6, zA, if_neg (by decide), if_neg (by decide), if_neg (by decide), if_neg (by decide), if_neg (by decide), if_neg (by decide), if_neg (by decide), if_pos rfl]
    unfold z1J
    rw [y2v, uJ hl (by omega)]
    exact (h.fin hl).id.id
  rw [if_neg g6] at h
  by_cases g7 : vM t a wDo = true
  · have hlt := uD g7
    rw [if_pos g7] at h
    dsimp only at h
    rw [w1 g7] at h
    rw [q7 g7, zA, if_neg (by decide), if_neg (by decide), if_neg (by decide), if_neg (by decide), if_neg (by decide), if_neg (by decide), if_neg (by decide), if_neg (by decide), if_pos rfl]
    unfold z1K
    rw [y2v, uJ hl (by omega)]
    exact (h.fin hl).id.id
  rw [if_neg g7] at h
  dsimp only at h
  rw [y9t t a h0 g1 g2 g3 g4 g5 g6 g7, zA, if_neg (by decide), if_pos rfl, v1j]
  exact (h.fin hl).id
theorem y4V {t : List zB} (hl : t.length ≤ 1048576) {c : y5h} {a : Nat} {r : Res} (h : SDer t c a r) : a ≤ t.length → PS t c a r := by
  have at_lt : ∀ {b : Nat} {s : Str}, vM t b s = true → IntKind.wrap .i64 ((b : Int) + 1) = ((b + 1 : Nat) : Int) := fun {b s} h => by
    have := uD h
    exact uJ hl (by omega)
  induction h with
  | @sB a r h1 hd ih =>
    intro ha
    have e : PR t (zG t a 0) r := ih ha
    show PR t (yO t a 0) r
    rw [z4H]; unfold jM
    rw [y2x, zA, (y7T t a).1 h1, zA, if_pos rfl]
    exact e.id
  | sF h1 _ ih => intro ha; exact y8z hl ha h1 (ih ha)
  | @b0 a h1 =>
    intro ha
    show PR t (zG t a 0) (.bad a)
    rw [z2x]; unfold uA
    rw [z5E _ t hl a, h1, if_neg (by simp), zA]
    exact ⟨_, y8v _ _ _ _ _ six⟩
  | @b1 a r h1 hd ih =>
    intro ha
    have h0 := zU h1
    show PR t (zG t a 0) r
    rw [z2x]; unfold uA
    rw [z5E _ t hl a, if_pos h1, zA]
    exact ih (by omega) (by omega) (by simp) _
  | @lE f a acc h1 =>
    intro ha hf hacc o
    have h0 := zU h1
    show _ = _
    rw [z0E]; unfold vT
    rw [if_pos rfl, y0t, zA, if_pos h1, z5E _ t hl a, if_pos h1, zA]
    dsimp only
    rw [y6t 29 [] acc t (by omega) f (a + 1) (by omega) (by omega)]; rfl
  | @lG f a b acc x r h1 hd _ ih1 ih2 =>
    intro ha hf hacc o
    have q := hd.inS ha; simp only [InS] at q
    have e : yO t a 0 = some (x, t, (b : Int), 0) := ih1 ha
    rw [z0E]; unfold vT
    rw [if_pos rfl, y0t, zA, h1, if_neg (by simp), e, zA, if_pos (y6q (by simp; omega))]
    exact ih2 q.2 (by omega) (by simp; omega) o
  | @lB f a b acc h1 hd ih1 =>
    intro ha hf hacc o
    obtain ⟨y, e⟩ : ∃ y, yO t a 0 = some (y, t, (b : Int), 6) := ih1 ha
    rw [z0E]; unfold vT
    rw [if_pos rfl, y0t, zA, h1, if_neg (by simp), e, zA, if_pos (y6q (by simp; omega))]
    exact ⟨_, y8v _ _ _ _ _ six⟩
  | @fE f a k parts name h1 =>
    intro ha
    exact ⟨fun x b e => by cases e; exact ⟨parts, name, rfl, rfl, h1, ha⟩, fun b e => by cases e⟩
  | @fW f a k s its parts name r h1 _ ih =>
    intro ha
    have h0 := uD h1
    show FM t k f (wH t (.word s :: its) parts name a 0) r
    rw [wH, y2w s t hl a, if_pos h1, zA]
    exact ih (by omega)
  | @fW0 f a k s its parts name h1 =>
    intro ha
    show FM t k f (wH t (.word s :: its) parts name a 0) (.bad a)
    rw [wH, y2w s t hl a, h1, if_neg (by simp), zA]
    exact FM.bad
  | @fS f a k s its parts name r h1 _ ih =>
    intro ha
    have h0 := zU h1
    show FM t k f (wH t (.sign s :: its) parts name a 0) r
    rw [wH, z5E s t hl a, if_pos h1, zA]
    exact ih (by omega)
  | @fS0 f a k s its parts name h1 =>
    intro ha
    show FM t k f (wH t (.sign s :: its) parts name a 0) (.bad a)
    rw [wH, z5E s t hl a, h1, if_neg (by simp), zA]
    exact FM.bad
  | @fN f a k its parts name r h1 _ ih =>
    intro ha
    have h0 := wT (t := t) (a := a) (by rw [h1]; decide)
    show FM t k f (wH t (.name :: its) parts name a 0) r
    rw [wH, y1m t hl a, if_pos h1, zA]
    exact ih (by omega)
  | @fN0 f a k its parts name h1 =>
    intro ha
    show FM t k f (wH t (.name :: its) parts name a 0) (.bad a)
    rw [wH, y1m t hl a, if_neg h1, zA]
    exact FM.bad
  | @fX f a b k its parts name x r hd _ ih =>
    intro ha
    have q := hd.inR ha; simp only [InR] at q
    show FM t k f (wH t (.expr :: its) parts name a 0) r
    rw [wH, y9K t hl a ha hd, zA]
    exact ih q.2
  | @fX0 f a b k its parts name hd =>
    intro ha
    show FM t k f (wH t (.expr :: its) parts name a 0) (.bad b)
    rw [wH, y9J t hl a ha hd, zA]
    exact FM.bad
  | @fT f a k its parts name r h1 _ ih =>
    intro ha
    have q : a < (z3B t a).2.1 ∧ (z3B t a).2.1 ≤ t.length := z5J (t.length + 1) t a (by omega) h1
    show FM t k f (wH t (.type :: its) parts name a 0) r
    rw [wH, y6u t hl a ha, if_pos h1, zA]
    dsimp only
    have h1' : (typ (t.length + 1) t a).2.2 = 0 := h1
    rw [h1']
    exact ih q.2
  | @fT0 f a k its parts name h1 =>
    intro ha
    show FM t k f (wH t (.type :: its) parts name a 0) (.bad _)
    rw [wH, y6u t hl a ha, if_neg h1, zA]
    dsimp only
    have h6 : (typ (t.length + 1) t a).2.2 = 6 := (y8K (t.length + 1) t a).resolve_left h1
    rw [h6]
    exact FM.bad
  | @fK f a b k its parts name x r hd _ ih1 ih2 =>
    intro ha
    have q := hd.inS ha; simp only [InS] at q
    have e : zG t a 0 = some (x, t, (b : Int), 0) := ih1 ha
    show FM t k f (wH t (.block :: its) parts name a 0) r
    rw [wH, e, zA]
    exact ih2 q.2
  | @fK0 f a b k its parts name hd ih1 =>
    intro ha
    obtain ⟨y, e⟩ : ∃ y, zG t a 0 = some (y, t, (b : Int), 6) := ih1 ha
    show FM t k f (wH t (.block :: its) parts name a 0) (.bad b)
    rw [wH, e, zA]
    exact FM.bad
  | @fE0 f a b k its parts name hd ih1 =>
    intro ha
    obtain ⟨y, e⟩ : ∃ y, zG t a 0 = some (y, t, (b : Int), 6) := ih1 ha
    show FM t k f (wH t (.be :: its) parts name a 0) (.bad b)
    rw [wH, e, zA]
    dsimp only
    rw [if_neg six]
    exact FM.bad
  | @fE1 f a b k its parts name x r hd hw _ ih1 ih2 =>
    intro ha
    have q := hd.inS ha; simp only [InS] at q
    have e : zG t a 0 = some (x, t, (b : Int), 0) := ih1 ha
    show FM t k f (wH t (.be :: its) parts name a 0) r
    rw [wH, e, zA]
    dsimp only
    rw [if_pos rfl, y3S, zA, hw, if_neg (by simp), v0U hd trivial x b rfl]
    exact ih2 q.2
  | @fE2 f a b c k its parts name x y r hd hw hd2 _ ih1 ih2 ih3 =>
    intro ha
    have hb := uD hw
    have q := hd.inS ha; simp only [InS] at q
    have q2 := hd2.inS (by omega); simp only [InS] at q2
    have e : zG t a 0 = some (x, t, (b : Int), 0) := ih1 ha
    have e2 : zG t ((b + 1 : Nat) : Int) 0 = some (y, t, (c : Int), 0) := ih2 (by omega)
    show FM t k f (wH t (.be :: its) parts name a 0) r
    rw [wH, e, zA]
    dsimp only
    rw [if_pos rfl, y3S, zA, if_pos hw, at_lt hw, e2, zA]
    exact ih3 q2.2
  | @fE3 f a b c k its parts name x hd hw hd2 ih1 ih2 =>
    intro ha
    have hb := uD hw
    have e : zG t a 0 = some (x, t, (b : Int), 0) := ih1 ha
    obtain ⟨y, e2⟩ : ∃ y, zG t ((b + 1 : Nat) : Int) 0 = some (y, t, (c : Int), 6) := ih2 (by omega)
    show FM t k f (wH t (.be :: its) parts name a 0) (.bad c)
    rw [wH, e, zA]
    dsimp only
    rw [if_pos rfl, y3S, zA, if_pos hw, at_lt hw, e2, zA]
    exact FM.bad
def ans : Res → zD × Int × Int
  | .ok x b => (x, (b : Int), 0)
  | .bad b => (zT7, (b : Int), 6)
theorem y2s (t : List zB) (hl : t.length ≤ 1048576) (a : Nat) (ha : a ≤ t.length) {r : Res} (h : SDer t .blk a r) : z5F t a = some (ans r) := by
  have hp : PR t (zG t a 0) r := y4V hl h ha
  unfold z5F z0F
  rw [if_neg (by omega), if_neg (by omega)]
  cases r with
  | ok x b => rw [show zG t (a : Int) 0 = some (x, t, (b : Int), 0) from hp]; rfl
  | bad b => obtain ⟨y, hp⟩ := hp; rw [hp]; rfl
mutual
def z0s : zD → Nat
  | ⟨_, _, _, l, _, _⟩ => 1 + wR l
def wR : List zD → Nat
  | [] => 0
  | x :: r => z0s x + wR r
end
theorem z3P (t : zD) : z0s t = 1 + wR t.L := by cases t; simp [z0s]
theorem y8J (t : zD) : 0 < z0s t := by rw [z3P]; omega
theorem z4J {l : List zD} {i : Nat} (h : i < l.length) : wR (l.drop i) = z0s l[i] + wR (l.drop (i + 1)) := by
  rw [List.drop_eq_getElem_cons h, wR]
theorem z4v (l : List zD) : l.length ≤ wR l := by
  induction l with
  | nil => simp [wR]
  | cons x r ih => have := y8J x; simp [wR]; omega
theorem z4K (l : List zD) (i : Nat) : wR l = wR (l.take i) + wR (l.drop i) := by
  induction l generalizing i with
  | nil => simp [wR]
  | cons x r ih =>
    cases i with
    | zero => simp [wR]
    | succ i => simp [wR, ih i]; omega
theorem z5I (a b : List zD) : wR (a ++ b) = wR a + wR b := by
  induction a with
  | nil => simp [wR]
  | cons x r ih => simp [wR, ih]; omega
def SzM (t : List zB) : Cat → Nat → Res → Prop
  | .ll _ _ _ x, a, r => ∀ y b, r = .ok y b → z0s y + 2 * a ≤ z0s x + 2 * b
  | .pl _ x, a, r => ∀ y b, r = .ok y b → z0s y + 2 * a ≤ z0s x + 2 * b
  | .cls _, a, r => ∀ y b, r = .ok y b → wR y.L + 2 * a ≤ 2 * b
  | .lst acc, a, r => ∀ y b, r = .ok y b → wR y.L + 2 * a ≤ wR acc + 2 * b
  | _, a, r => ∀ y b, r = .ok y b → z0s y + 2 * a ≤ 2 * b
theorem y8C {t : List zB} {c : Cat} {a : Nat} {r : Res} (h : Der t c a r) : SzM t c a r := by
  induction h with
  | un _ _ ih => intro y b e; cases e; have := ih _ _ rfl; simp [placed, z0s, wR]; omega
  | unP _ _ _ ih => exact ih
  | lev _ _ _ _ ih1 ih2 => intro y b e; have := ih1 _ _ rfl; have := ih2 y b e; omega
  | llE _ _ => intro y b e; cases e; omega
  | llG _ _ _ _ _ ih1 ih2 => intro y b e; have := ih1 _ _ rfl; have := ih2 y b e; simp [placed, z0s, wR] at this; omega
  | post _ _ ih1 ih2 => intro y b e; have := ih1 _ _ rfl; have := ih2 y b e; omega
  | plE _ _ => intro y b e; cases e; omega
  | plI _ _ _ _ ih1 ih2 => intro y b e; have := ih1 _ _ rfl; have := ih2 y b e; simp [placed, z0s, wR] at this; omega
  | plF _ _ _ _ ih => intro y b e; have := ih y b e; simp [placed, z0s, wR] at this; omega
  | one _ => intro y b e; cases e; simp [placed, z0s, wR]; omega
  | par _ _ _ ih => intro y b e; cases e; have := ih _ _ rfl; omega
  | @call a o b k s few l h1 _ ih => intro y b' e; cases e; have h2 := ih _ _ rfl; have h3 := z2Q h1; simp only [placed, z0s] at h2 ⊢; omega
  | lis _ _ _ ih => intro y b e; cases e; have := ih _ _ rfl; simp [placed, z0s, wR] at this ⊢; omega
  | clsF _ _ => intro y b e; cases e; simp [wR]; omega
  | cls _ _ _ _ ih => intro y b e; cases e; have := ih _ _ rfl; simp [wR] at this ⊢; omega
  | lstE _ _ ih => intro y b e; cases e; have := ih _ _ rfl; simp [z5I, wR]; omega
  | lstG _ _ _ ih1 ih2 => intro y b e; have := ih1 _ _ rfl; have := ih2 y b e; simp [z5I, wR] at this; omega
  | _ => intro y b e; cases e
theorem v0Z {t : List zB} {k a b : Nat} {x : zD} (h : Der t (.lev k) a (.ok x b)) : z0s x + 2 * a ≤ 2 * b := y8C h x b rfl
def ltr (c : UInt8) : Bool := (decide (97 ≤ c.toNat) && decide (c.toNat ≤ 122)) || (decide (65 ≤ c.toNat) && decide (c.toNat ≤ 90)) || c.toNat == 95
def dgt (c : UInt8) : Bool := decide (48 ≤ c.toNat) && decide (c.toNat ≤ 57)
def mor (c : UInt8) : Bool := ltr c || dgt c
def lin (c : UInt8) : Bool := !(c.toNat == 10)
def blk (c : UInt8) : Bool := c.toNat == 32 || c.toNat == 9 || c.toNat == 10 || c.toNat == 13
theorem y9W (c : UInt8) (t : Str) (a : Int) (o : List zB) : z0p (Int.ofNat (UInt8.toNat c)) t a o = some (ltr c) := by
  unfold z0p ltr
  generalize c.toNat = n
  rw [show Int.ofNat n = (n : Int) from rfl]
  repeat' split
  all_goals (simp only [Option.some.injEq]; rw [Bool.eq_iff_iff]; simp; omega)
theorem y7x (c : UInt8) (t : Str) (a : Int) (o : List zB) : z0e (Int.ofNat (UInt8.toNat c)) t a o = some (dgt c) := by
  unfold z0e dgt
  generalize c.toNat = n
  rw [show Int.ofNat n = (n : Int) from rfl]
  repeat' split
  all_goals (simp only [Option.some.injEq]; rw [Bool.eq_iff_iff]; simp; omega)
theorem v1g (c : UInt8) (t : Str) (a : Int) (o : List zB) : z1v (Int.ofNat (UInt8.toNat c)) t a o = some (mor c) := by
  unfold z1v mor
  rw [y9W, zA]
  cases ltr c with
  | true => rfl
  | false => rw [if_neg (by simp), y7x, zA]; rfl
theorem v1a (c : UInt8) (t : Str) (a : Int) (o : List zB) : z1u (Int.ofNat (UInt8.toNat c)) t a o = some (lin c) := by
  unfold z1u lin
  generalize c.toNat = n
  rw [show Int.ofNat n = (n : Int) from rfl]
  simp only [Option.some.injEq]; rw [Bool.eq_iff_iff]; simp; omega
theorem y8M (c : UInt8) (n : Nat) : (Int.ofNat (UInt8.toNat c) = (n : Int)) ↔ c.toNat = n := by
  rw [show Int.ofNat (UInt8.toNat c) = ((UInt8.toNat c : Nat) : Int) from rfl]; omega
def tw (p : UInt8 → Bool) : List UInt8 → Nat
  | [] => 0
  | c :: r => if p c = true then tw p r + 1 else 0
theorem y3W (p : UInt8 → Bool) (l : List UInt8) : tw p l ≤ l.length := by
  induction l with
  | nil => simp [tw]
  | cons c r ih => simp only [tw, List.length_cons]; split <;> omega
theorem y2F (p : UInt8 → Bool) {l : List UInt8} {i : Nat} (h : i < l.length) : tw p (l.drop i) = if p l[i] = true then tw p (l.drop (i + 1)) + 1 else 0 := by
  rw [List.drop_eq_getElem_cons h, tw]
theorem v0c (p : UInt8 → Bool) : ∀ (l : List UInt8), ∀ c ∈ l.take (tw p l), p c = true
  | [], c, h => by simp [tw] at h
  | x :: r, c, h => by
    simp only [tw] at h
    split at h
    · rename_i hx
      rw [List.take_succ_cons] at h
      rcases List.mem_cons.1 h with rfl | h
      · exact hx
      · exact v0c p r c h
    · simp at h
theorem v0k {α : Type} {from_ at_ : Nat} {text : Str} {x : Option α} (h : at_ ≤ text.length) (hf : from_ ≤ at_) :
    (if (0 : Int) ≤ (at_ : Int) then (if Int.toNat (at_ : Int) ≤ List.length text then (if (0 : Int) ≤ (from_ : Int) then (if Int.toNat (from_ : Int) ≤ Int.toNat (at_ : Int) then x else none) else none) else none) else none) = x := by
  rw [if_pos (by omega), if_pos (by simpa using h), if_pos (by omega), if_pos (by simpa using hf)]
theorem y7f (text : Str) (hl : text.length ≤ 1000000) (out : List zB) (f : Nat) : ∀ (k a : Nat), a + k = text.length → f ≤ a →
    zP f text a out = some ((text.take (a + tw mor (text.drop a))).drop f, text, ((a + tw mor (text.drop a) : Nat) : Int), out) := by
  intro k
  induction k with
  | zero =>
    intro a ha hf
    rw [z0T]; unfold vQ
    have h1 : text.drop a = [] := List.drop_eq_nil_of_le (by omega)
    rw [if_neg (by omega), v0k (by omega) hf, h1]; rfl
  | succ k ih =>
    intro a ha hf
    have hl2 : a < text.length := by omega
    rw [z0T]; unfold vQ
    rw [if_pos (by omega), z2r hl2, zA, v1g, zA, y2F _ hl2]
    cases hm : mor text[a] with
    | true =>
      simp only [if_true]
      rw [z2h (by omega) (by omega), z1x, ih (a + 1) (by omega) (by omega)]
      rw [show a + 1 + tw mor (List.drop (a + 1) text) = a + (tw mor (List.drop (a + 1) text) + 1) by omega]
    | false =>
      simp only [Bool.false_eq_true, if_false]
      rw [v0k (by omega) hf]; rfl
theorem y5G (text : Str) (hl : text.length ≤ 1000000) (out : List zB) (f : Nat) : ∀ (k a : Nat), a + k = text.length → f ≤ a →
    zM f text a out = some ((text.take (a + tw dgt (text.drop a))).drop f, text, ((a + tw dgt (text.drop a) : Nat) : Int), out) := by
  intro k
  induction k with
  | zero =>
    intro a ha hf
    rw [z0J]; unfold vL
    have h1 : text.drop a = [] := List.drop_eq_nil_of_le (by omega)
    rw [if_neg (by omega), v0k (by omega) hf, h1]; rfl
  | succ k ih =>
    intro a ha hf
    have hl2 : a < text.length := by omega
    rw [z0J]; unfold vL
    rw [if_pos (by omega), z2r hl2, zA, y7x, zA, y2F _ hl2]
    cases hm : dgt text[a] with
    | true =>
      simp only [if_true]
      rw [z2h (by omega) (by omega), z1x, ih (a + 1) (by omega) (by omega)]
      rw [show a + 1 + tw dgt (List.drop (a + 1) text) = a + (tw dgt (List.drop (a + 1) text) + 1) by omega]
    | false =>
      simp only [Bool.false_eq_true, if_false]
      rw [v0k (by omega) hf]; rfl
theorem y7e (text : Str) (hl : text.length ≤ 1000000) (out : List zB) (f : Nat) : ∀ (k a : Nat), a + k = text.length → f ≤ a →
    zO f text a out = some ((text.take (a + tw lin (text.drop a))).drop f, text, ((a + tw lin (text.drop a) : Nat) : Int), out) := by
  intro k
  induction k with
  | zero =>
    intro a ha hf
    rw [z0S]; unfold vP
    have h1 : text.drop a = [] := List.drop_eq_nil_of_le (by omega)
    rw [if_neg (by omega), v0k (by omega) hf, h1]; rfl
  | succ k ih =>
    intro a ha hf
    have hl2 : a < text.length := by omega
    rw [z0S]; unfold vP
    rw [if_pos (by omega), z2r hl2, zA, v1a, zA, y2F _ hl2]
    cases hm : lin text[a] with
    | true =>
      simp only [if_true]
      rw [z2h (by omega) (by omega), z1x, ih (a + 1) (by omega) (by omega)]
      rw [show a + 1 + tw lin (List.drop (a + 1) text) = a + (tw lin (List.drop (a + 1) text) + 1) by omega]
    | false =>
      simp only [Bool.false_eq_true, if_false]
      rw [v0k (by omega) hf]; rfl
def y5g (n : Nat) : List UInt8 → Bool
  | d :: _ => d.toNat == n
  | [] => false
def nxt : Nat → List UInt8 → Nat
  | 0, _ => 0
  | _ + 1, [] => 0
  | n + 1, c :: r => if blk c = true then nxt n r + 1
    else if c.toNat = 47 ∧ y5g 47 r = true then tw lin (c :: r) + nxt n ((c :: r).drop (tw lin (c :: r))) else 0
theorem y8h (text : Str) (hl : text.length ≤ 1000000) (a : Nat) (out : List zB) : z0I 1 text a out = some (match text.drop (a + 1) with | d :: _ => Int.ofNat d.toNat | [] => 0) ∨ text.length < a := by
  by_cases h : text.length < a
  · exact .inr h
  left
  unfold z0I
  rw [z2h (by omega) (by omega), z1x]
  by_cases h2 : a + 1 < text.length
  · rw [if_pos (by omega), z2r h2, zA, List.drop_eq_getElem_cons h2]
  · rw [if_neg (by omega), List.drop_eq_nil_of_le (by omega)]
theorem z5B : ∀ (n : Nat) (l : List UInt8), nxt n l ≤ l.length
  | 0, l => by simp [nxt]
  | n + 1, [] => by simp [nxt]
  | n + 1, c :: r => by
    simp only [nxt]
    split
    · have := z5B n r; simp; omega
    · split
      · have := z5B n ((c :: r).drop (tw lin (c :: r)))
        have := y3W lin (c :: r)
        rw [List.length_drop] at *
        omega
      · omega
theorem y8u (text : Str) (hl : text.length ≤ 1000000) (out : List zB) : ∀ (n a : Nat), text.length ≤ a + n → a ≤ text.length →
    yC text a out = some (text, ((a + nxt n (text.drop a) : Nat) : Int), out) := by
  intro n
  induction n with
  | zero =>
    intro a h1 h2
    rw [z4a]; unfold gE
    rw [if_neg (by omega)]; rfl
  | succ n ih =>
    intro a h1 h2
    rw [z4a]; unfold gE
    by_cases h3 : a < text.length
    · rw [if_pos (by omega), z2r h3, zA, z2h (by omega) (by omega), z1x]
      have hd := List.drop_eq_getElem_cons h3
      simp only [show (32 : Int) = ((32 : Nat) : Int) from rfl, show (9 : Int) = ((9 : Nat) : Int) from rfl, show (10 : Int) = ((10 : Nat) : Int) from rfl, show (13 : Int) = ((13 : Nat) : Int) from rfl, show (47 : Int) = ((47 : Nat) : Int) from rfl, y8M]
      by_cases hb : blk text[a] = true
      · have hgo : yC text ((a + 1 : Nat) : Int) out = some (text, ((a + nxt (n + 1) (text.drop a) : Nat) : Int), out) := by
          rw [ih (a + 1) (by omega) (by omega), hd, nxt, if_pos hb]
          rw [show a + 1 + nxt n (List.drop (a + 1) text) = a + (nxt n (List.drop (a + 1) text) + 1) by omega]
        unfold blk at hb
        simp only [Bool.or_eq_true, beq_iff_eq] at hb
        repeat' split
        all_goals first | exact hgo | omega
      · have hb' : blk text[a] = false := by simpa using hb
        have hb2 := hb'
        unfold blk at hb'
        simp only [Bool.or_eq_false_iff, beq_eq_false_iff_ne] at hb'
        rw [if_neg hb'.1.1.1, if_neg hb'.1.1.2, if_neg hb'.1.2, if_neg hb'.2]
        by_cases h47 : text[a].toNat = 47
        · rw [if_pos h47]
          have hp := (y8h text hl a out).resolve_right (by omega)
          rw [hp, zA]
          have hlin : lin text[a] = true := by unfold lin; simp [h47]
          have hrest : ∀ (hh : y5g 47 (text.drop (a + 1)) = true), yC text ((a + tw lin (text.drop a) : Nat) : Int) out = some (text, ((a + nxt (n + 1) (text.drop a) : Nat) : Int), out) := fun hh => by
            have htw : 1 ≤ tw lin (text.drop a) := by rw [y2F _ h3, if_pos hlin]; omega
            have hle := y3W lin (text.drop a)
            rw [List.length_drop] at hle
            rw [ih (a + tw lin (text.drop a)) (by omega) (by omega)]
            have e : nxt (n + 1) (text.drop a) = tw lin (text.drop a) + nxt n ((text.drop a).drop (tw lin (text.drop a))) := by
              conv => lhs; rw [hd, nxt, if_neg (by rw [hb2]; simp), if_pos ⟨h47, hh⟩, ← hd]
            rw [e, List.drop_drop, Nat.add_assoc]
          cases hr : text.drop (a + 1) with
          | nil =>
            simp only []
            rw [if_neg (by omega), hd, nxt, if_neg (by rw [hb2]; simp), if_neg (by rw [hr]; simp [y5g])]; rfl
          | cons d r =>
            simp only [y8M]
            by_cases hd47 : d.toNat = 47
            · rw [if_pos hd47]
              unfold gV
              rw [y7e text hl out a (text.length - a) a (by omega) (by omega), zA]
              exact hrest (by rw [hr]; simp [y5g, hd47])
            · rw [if_neg hd47, hd, nxt, if_neg (by rw [hb2]; simp), if_neg (by rw [hr]; simp [y5g, hd47])]; rfl
        · rw [if_neg h47, hd, nxt, if_neg (by rw [hb2]; simp), if_neg (by simp [h47])]; rfl
    · have h4 : text.drop a = [] := List.drop_eq_nil_of_le (by omega)
      rw [if_neg (by omega), h4]; rfl
def wordsL : List Str := [[114, 101, 99], [99, 111, 110, 115, 116], [118, 97, 114], [112, 117, 98], [102, 110], [105, 110, 116], [98, 111, 111, 108], [108, 101, 116], [105, 102], [101, 108, 115, 101], [119, 104, 105, 108, 101], [102, 111, 114], [116, 111], [112, 114, 105, 110, 116], [114, 101, 116, 117, 114, 110], [100, 111], [116, 114, 117, 101], [102, 97, 108, 115, 101], [114, 101, 97, 100], [110, 101, 119]]
def isW (s : Str) : Bool := wordsL.contains s
theorem y9S (s : Str) : ∀ l : List Str, (l.foldr (fun w acc => if s = w then some true else acc) (some false)) = some (l.contains s)
  | [] => rfl
  | w :: r => by
    rw [List.foldr_cons, y9S s r, List.contains_cons]
    by_cases h : s = w
    · rw [if_pos h, h]; simp
    · rw [if_neg h]
      have : (s == w) = false := by simpa using h
      rw [this]; rfl
theorem v0O (s : Str) : z5y s = some (isW s) := by
  have := y9S s wordsL
  unfold z5y
  exact this
def y7k (v : Nat) (l : List UInt8) : Nat := l.foldl (fun v c => v * 10 + (c.toNat - 48)) v
theorem y6B (v : Nat) : y7k v [] = v := rfl
theorem y2G (v : Nat) (c : UInt8) (r : List UInt8) : y7k v (c :: r) = y7k (v * 10 + (c.toNat - 48)) r := by unfold y7k; rw [List.foldl_cons]
theorem y6A : ∀ (l : List UInt8) (v : Nat), v * 10 ^ l.length ≤ y7k v l
  | [], v => by rw [y6B]; simp
  | c :: r, v => by
    have := y6A r (v * 10 + (c.toNat - 48))
    rw [y2G, List.length_cons, Nat.pow_succ]
    refine Nat.le_trans ?_ this
    rw [Nat.mul_comm (10 ^ r.length) 10, ← Nat.mul_assoc]
    exact Nat.mul_le_mul_right _ (by omega)
def num (w : List UInt8) : Option Nat :=
  if w.length > 1 ∧ y5g 48 w = true then none
  else if y7k 0 w > 9223372036854775807 then none else some (y7k 0 w)
theorem v0P {n : Int} (h1 : 0 ≤ n) (h2 : n ≤ 18446744073709551615) : IntKind.wrap .u64 n = n := by rw [IntKind.wrap_u64]; omega
theorem v1w {n : Int} (h1 : 0 ≤ n) (h2 : n ≤ 255) : IntKind.wrap .u8 n = n := by
  have : IntKind.wrap .u8 n = n % 256 := rfl
  rw [this]; omega
theorem y2q (k n : Int) (s : Str) (f : Int) (text : Str) (a : Int) (out : List zB) (h : out.length ≤ 1000000) : z0r k n s f text a out = some (text, a, out ++ [⟨k, n, s, f, a⟩]) := by
  unfold z0r
  rw [if_pos (by unfold z2N; simp; omega)]
theorem y7c (f : Int) (w : Str) (hd : ∀ c ∈ w, dgt c = true) (hw : w.length ≤ 19) (text : Str) (a : Int) (out : List zB) (ho : out.length ≤ 1000000) : ∀ (k i v : Nat), i + k = w.length → v < 10 ^ i →
    yA f w v w.length i text a out = some (if y7k v (w.drop i) > 9223372036854775807 then (5, text, a, out) else (0, text, a, out ++ [⟨2, (y7k v (w.drop i) : Int), [], f, a⟩])) := by
  intro k
  induction k with
  | zero =>
    intro i v hi hv
    rw [z3w]; unfold jC
    have h1 : w.drop i = [] := List.drop_eq_nil_of_le (by omega)
    rw [if_neg (by omega), h1, y6B]
    by_cases h : v > 9223372036854775807
    · rw [if_pos (by omega), if_pos h]
    · rw [if_neg (by omega), if_neg h, y2q _ _ _ _ _ _ _ ho, zA, z2h (by omega) (by omega)]
  | succ k ih =>
    intro i v hi hv
    have h3 : i < w.length := by omega
    rw [z3w]; unfold jC
    have hc := hd _ (List.getElem_mem h3)
    unfold dgt at hc
    simp only [Bool.and_eq_true, decide_eq_true_eq] at hc
    have hp : 10 ^ i ≤ 10 ^ 18 := Nat.pow_le_pow_right (by omega) (by omega)
    rw [if_pos (by omega), z2r h3, zA, List.drop_eq_getElem_cons h3, y2G]
    rw [show Int.ofNat (UInt8.toNat w[i]) = ((UInt8.toNat w[i] : Nat) : Int) from rfl]
    rw [v1w (by omega) (by omega), v0P (n := ((UInt8.toNat w[i] : Nat) : Int) - 48) (by omega) (by omega), v0P (n := (v : Int) * 10) (by omega) (by omega), v0P (by omega) (by omega), z2h (by omega) (by omega), z1x]
    rw [show (v : Int) * 10 + (((UInt8.toNat w[i] : Nat) : Int) - 48) = ((v * 10 + (w[i].toNat - 48) : Nat) : Int) by omega]
    exact ih (i + 1) _ (by omega) (by rw [Nat.pow_succ]; omega)
def singles : List Nat := [123, 125, 40, 41, 91, 93, 44, 59, 58, 46, 43, 45, 42, 47, 37, 64]
def sgn (c d : Nat) : Nat :=
  if c = 61 ∨ c = 33 ∨ c = 60 ∨ c = 62 then (if d = 61 then 2 else 1)
  else if c = 38 ∨ c = 124 then (if d = c then 2 else 0)
  else if singles.contains c then 1 else 0
theorem y9R (c : Nat) : ∀ l : List Nat, (l.foldr (fun (w : Nat) acc => if (c : Int) = (w : Int) then some (1 : Int) else acc) (some 0)) = some (((if l.contains c then 1 else 0 : Nat)) : Int)
  | [] => rfl
  | w :: r => by
    rw [List.foldr_cons, y9R c r, List.contains_cons]
    by_cases h : (c : Int) = (w : Int)
    · rw [if_pos h]
      have : c = w := by omega
      subst this; simp
    · rw [if_neg h]
      have : (c == w) = false := by simp; omega
      rw [this]; simp
theorem y8s (c d : Nat) : z5z (c : Int) (d : Int) = some ((sgn c d : Nat) : Int) := by
  have hs := y9R c singles
  unfold z5z sgn
  have two : ∀ k : Nat, c = k → (k = 61 ∨ k = 33 ∨ k = 60 ∨ k = 62) → (if (d : Int) = 61 then some (2 : Int) else some 1) = some ((if c = 61 ∨ c = 33 ∨ c = 60 ∨ c = 62 then (if d = 61 then 2 else 1) else if c = 38 ∨ c = 124 then (if d = c then 2 else 0) else if singles.contains c = true then 1 else 0 : Nat) : Int) := fun k hk h => by
    rw [if_pos (show c = 61 ∨ c = 33 ∨ c = 60 ∨ c = 62 by omega)]
    by_cases h2 : d = 61
    · rw [if_pos (show (d : Int) = 61 by omega), if_pos h2]; rfl
    · rw [if_neg (show ¬ (d : Int) = 61 by omega), if_neg h2]; rfl
  have same : (c = 38 ∨ c = 124) → (if (d : Int) = (c : Int) then some (2 : Int) else some 0) = some ((if c = 61 ∨ c = 33 ∨ c = 60 ∨ c = 62 then (if d = 61 then 2 else 1) else if c = 38 ∨ c = 124 then (if d = c then 2 else 0) else if singles.contains c = true then 1 else 0 : Nat) : Int) := fun h => by
    rw [if_neg (show ¬ (c = 61 ∨ c = 33 ∨ c = 60 ∨ c = 62) by omega), if_pos h]
    by_cases h2 : d = c
    · rw [if_pos (show (d : Int) = (c : Int) by omega), if_pos h2]; rfl
    · rw [if_neg (show ¬ (d : Int) = (c : Int) by omega), if_neg h2]; rfl
  by_cases h61 : (c : Int) = 61
  · rw [if_pos h61]; exact two 61 (by omega) (by omega)
  rw [if_neg h61]
  by_cases h33 : (c : Int) = 33
  · rw [if_pos h33]; exact two 33 (by omega) (by omega)
  rw [if_neg h33]
  by_cases h60 : (c : Int) = 60
  · rw [if_pos h60]; exact two 60 (by omega) (by omega)
  rw [if_neg h60]
  by_cases h62 : (c : Int) = 62
  · rw [if_pos h62]; exact two 62 (by omega) (by omega)
  rw [if_neg h62]
  by_cases h38 : (c : Int) = 38
  · rw [if_pos h38]; exact same (by omega)
  rw [if_neg h38]
  by_cases h124 : (c : Int) = 124
  · rw [if_pos h124]; exact same (by omega)
  rw [if_neg h124, if_neg (show ¬ (c = 61 ∨ c = 33 ∨ c = 60 ∨ c = 62) by omega), if_neg (show ¬ (c = 38 ∨ c = 124) by omega)]
  exact hs
def hd0 : List UInt8 → Nat
  | d :: _ => d.toNat
  | [] => 0
def one : List UInt8 → Int ⊕ (Int × Int × Str × Nat)
  | [] => .inl 0
  | c :: r =>
    if ltr c = true then (if tw mor (c :: r) > 16 then .inl 3 else .inr (if isW ((c :: r).take (tw mor (c :: r))) = true then 3 else 1, 0, (c :: r).take (tw mor (c :: r)), tw mor (c :: r)))
    else if dgt c = true then (match num ((c :: r).take (tw dgt (c :: r))) with | none => .inl 5 | some n => .inr (2, (n : Int), [], tw dgt (c :: r)))
    else if sgn c.toNat (hd0 r) = 0 then .inl 4 else .inr (4, 0, (c :: r).take (sgn c.toNat (hd0 r)), sgn c.toNat (hd0 r))
theorem y5I (c : UInt8) (r : List UInt8) : sgn c.toNat (hd0 r) ≤ (c :: r).length := by
  cases r with
  | nil =>
    unfold sgn hd0
    simp only [List.length_cons, List.length_nil]
    split
    · simp
    · split
      · rw [if_neg (by omega)]; omega
      · split <;> omega
  | cons d r =>
    unfold sgn
    simp only [List.length_cons]
    split
    · split <;> omega
    · split
      · split <;> omega
      · split <;> omega
theorem y2j : ∀ {s : List UInt8} {k n : Int} {t : Str} {l : Nat}, one s = .inr (k, n, t, l) → 1 ≤ l ∧ l ≤ s.length
  | [], _, _, _, _, h => by simp [one] at h
  | c :: r, k, n, t, l, h => by
    rw [one] at h
    by_cases h1 : ltr c = true
    · rw [if_pos h1] at h
      have hm : mor c = true := by unfold mor; rw [h1]; rfl
      by_cases h2 : tw mor (c :: r) > 16
      · rw [if_pos h2] at h; cases h
      · rw [if_neg h2] at h
        injection h with h; injection h with _ h; injection h with _ h; injection h with _ h
        subst h
        refine ⟨?_, y3W _ _⟩
        rw [tw, if_pos hm]; omega
    · rw [if_neg h1] at h
      by_cases h2 : dgt c = true
      · rw [if_pos h2] at h
        cases hn : num ((c :: r).take (tw dgt (c :: r))) with
        | none => rw [hn] at h; cases h
        | some m =>
          rw [hn] at h
          injection h with h; injection h with _ h; injection h with _ h; injection h with _ h
          subst h
          refine ⟨?_, y3W _ _⟩
          rw [tw, if_pos h2]; omega
      · rw [if_neg h2] at h
        by_cases h3 : sgn c.toNat (hd0 r) = 0
        · rw [if_pos h3] at h; cases h
        · rw [if_neg h3] at h
          injection h with h; injection h with _ h; injection h with _ h; injection h with _ h
          subst h
          exact ⟨by omega, y5I c r⟩
theorem y3T (text : List UInt8) (a n : Nat) : (text.take (a + n)).drop a = (text.drop a).take n := by
  rw [List.drop_take]; congr 1; omega
theorem y9G (text : Str) (hl : text.length ≤ 1000000) (a : Nat) (ha : a ≤ text.length) (out : List zB) : z0I 1 text a out = some ((hd0 (text.drop (a + 1)) : Nat) : Int) := by
  rw [(y8h text hl a out).resolve_right (by omega)]
  cases text.drop (a + 1) <;> rfl
theorem v1i (text : Str) (hl : text.length ≤ 1000000) (a : Nat) (ha : a < text.length) (out : List zB) (ho : out.length ≤ 1000000) :
    (∃ k n s l, one (text.drop a) = .inr (k, n, s, l) ∧ z1O text a out = some (0, text, ((a + l : Nat) : Int), out ++ [⟨k, n, s, a, ((a + l : Nat) : Int)⟩])) ∨
    (∃ e a', one (text.drop a) = .inl e ∧ e ≠ 0 ∧ z1O text a out = some (e, text, a', out)) := by
  have hd := List.drop_eq_getElem_cons ha
  unfold z1O
  rw [z2r ha, zA, y9W, zA]
  have hle := y3W mor (text.drop a)
  have hle2 := y3W dgt (text.drop a)
  rw [List.length_drop] at hle hle2
  cases h1 : ltr text[a] with
  | true =>
    simp only [if_true]
    unfold z3x gW
    rw [y7f text hl out a (text.length - a) a (by omega) (by omega), zA, y3T]
    simp only []
    have hlen : ((text.drop a).take (tw mor (text.drop a))).length = tw mor (text.drop a) := by rw [List.length_take, List.length_drop]; omega
    have hone : one (text.drop a) = if tw mor (text.drop a) > 16 then .inl 3 else .inr (if isW ((text.drop a).take (tw mor (text.drop a))) = true then 3 else 1, 0, (text.drop a).take (tw mor (text.drop a)), tw mor (text.drop a)) := by
      conv => lhs; rw [hd, one, if_pos h1, ← hd]
    rw [hlen, hone]
    by_cases h2 : tw mor (text.drop a) > 16
    · rw [if_pos h2, if_pos (show ((tw mor (List.drop a text) : Nat) : Int) > 16 by omega)]
      exact .inr ⟨3, _, rfl, by decide, rfl⟩
    · rw [if_neg h2, if_neg (show ¬ ((tw mor (List.drop a text) : Nat) : Int) > 16 by omega), v0O, zA]
      left
      cases isW ((text.drop a).take (tw mor (text.drop a))) with
      | true =>
        simp only [if_true]
        rw [y2q _ _ _ _ _ _ _ ho, zA, zA]
        exact ⟨3, 0, _, _, rfl, rfl⟩
      | false =>
        simp only [Bool.false_eq_true, if_false]
        rw [y2q _ _ _ _ _ _ _ ho, zA, zA]
        exact ⟨1, 0, _, _, rfl, rfl⟩
  | false =>
    simp only [Bool.false_eq_true, if_false]
    rw [y7x, zA]
    cases h2 : dgt text[a] with
    | true =>
      simp only [if_true]
      unfold z2l gO
      rw [y5G text hl out a (text.length - a) a (by omega) (by omega), zA, y3T]
      simp only []
      have hlen : ((text.drop a).take (tw dgt (text.drop a))).length = tw dgt (text.drop a) := by rw [List.length_take, List.length_drop]; omega
      have hall := v0c dgt (text.drop a)
      have hone : one (text.drop a) = match num ((text.drop a).take (tw dgt (text.drop a))) with | none => .inl 5 | some n => .inr (2, (n : Int), [], tw dgt (text.drop a)) := by
        conv => lhs; rw [hd, one, if_neg (by rw [h1]; simp), if_pos h2, ← hd]
      have hpos : 1 ≤ tw dgt (text.drop a) := by rw [y2F _ ha, if_pos h2]; omega
      rw [hone]
      generalize hw : (text.drop a).take (tw dgt (text.drop a)) = w at *
      have tl : w.length ≤ 19 → (yA (a : Int) w 0 w.length 0 text ((a + tw dgt (text.drop a) : Nat) : Int) out) = some (if y7k 0 w > 9223372036854775807 then (5, text, ((a + tw dgt (text.drop a) : Nat) : Int), out) else (0, text, ((a + tw dgt (text.drop a) : Nat) : Int), out ++ [⟨2, (y7k 0 w : Int), [], (a : Int), ((a + tw dgt (text.drop a) : Nat) : Int)⟩])) := fun h19 => by
        have := y7c (a : Int) w hall h19 text ((a + tw dgt (text.drop a) : Nat) : Int) out ho w.length 0 0 (by omega) (by omega)
        simpa using this
      by_cases h19 : (List.length w : Int) > 19
      · rw [if_pos h19]
        right
        have hnum : num w = none := by
          unfold num
          by_cases hz : w.length > 1 ∧ y5g 48 w = true
          · rw [if_pos hz]
          · rw [if_neg hz, if_pos ?_]
            cases w with
            | nil => simp at h19
            | cons x q =>
              have hx : x.toNat ≠ 48 := fun e => hz ⟨by omega, by simp [y5g, e]⟩
              have hdx := hall x (by simp)
              unfold dgt at hdx
              simp only [Bool.and_eq_true, decide_eq_true_eq] at hdx
              have hlow := y6A q (0 * 10 + (x.toNat - 48))
              rw [y2G]
              have hq : 19 ≤ q.length := by simp at h19; omega
              have hp : 10 ^ 19 ≤ 10 ^ q.length := Nat.pow_le_pow_right (by omega) hq
              have : 1 * 10 ^ q.length ≤ (0 * 10 + (x.toNat - 48)) * 10 ^ q.length := Nat.mul_le_mul_right _ (by omega)
              omega
        rw [hnum]
        exact ⟨5, _, rfl, by decide, rfl⟩
      · rw [if_neg h19]
        have fin : ¬ (w.length > 1 ∧ y5g 48 w = true) → (∃ k n s l, (match num w with | none => (.inl 5 : Int ⊕ (Int × Int × Str × Nat)) | some n => .inr (2, (n : Int), [], tw dgt (text.drop a))) = .inr (k, n, s, l) ∧
            (yA (a : Int) w 0 w.length 0 text ((a + tw dgt (text.drop a) : Nat) : Int) out >>= fun q4 => some (q4.1, q4.2.1, q4.2.2.1, q4.2.2.2)) = some (0, text, ((a + l : Nat) : Int), out ++ [⟨k, n, s, (a : Int), ((a + l : Nat) : Int)⟩])) ∨
            (∃ e a', (match num w with | none => (.inl 5 : Int ⊕ (Int × Int × Str × Nat)) | some n => .inr (2, (n : Int), [], tw dgt (text.drop a))) = .inl e ∧ e ≠ 0 ∧ (yA (a : Int) w 0 w.length 0 text ((a + tw dgt (text.drop a) : Nat) : Int) out >>= fun q4 => some (q4.1, q4.2.1, q4.2.2.1, q4.2.2.2)) = some (e, text, a', out)) := fun hz => by
          rw [tl (by omega), zA]
          unfold num
          rw [if_neg hz]
          by_cases hv : y7k 0 w > 9223372036854775807
          · rw [if_pos hv, if_pos hv]; exact .inr ⟨5, _, rfl, by decide, rfl⟩
          · rw [if_neg hv, if_neg hv]; exact .inl ⟨2, _, _, _, rfl, rfl⟩
        by_cases hl1 : (List.length w : Int) > 1
        · rw [if_pos hl1]
          cases w with
          | nil => simp at hl1
          | cons x q =>
            rw [y9m]
            simp only [List.getElem?_cons_zero, zA, show (48 : Int) = ((48 : Nat) : Int) from rfl, y8M]
            by_cases h48 : x.toNat = 48
            · rw [if_pos h48]
              right
              have : num (x :: q) = none := by unfold num; rw [if_pos ⟨by omega, by simp [y5g, h48]⟩]
              rw [this]
              exact ⟨5, _, rfl, by decide, rfl⟩
            · rw [if_neg h48]
              exact fin (by simp [y5g, h48])
        · rw [if_neg hl1]
          exact fin (by omega)
    | false =>
      simp only [Bool.false_eq_true, if_false]
      have hone : one (text.drop a) = if sgn text[a].toNat (hd0 (text.drop (a + 1))) = 0 then .inl 4 else .inr (4, 0, (text.drop a).take (sgn text[a].toNat (hd0 (text.drop (a + 1)))), sgn text[a].toNat (hd0 (text.drop (a + 1)))) := by
        conv => lhs; rw [hd, one, if_neg (by rw [h1]; simp), if_neg (by rw [h2]; simp), ← hd]
      have hsl := y5I text[a] (text.drop (a + 1))
      rw [← hd, List.length_drop] at hsl
      rw [y9G text hl a (by omega), zA]
      rw [show Int.ofNat (UInt8.toNat text[a]) = ((UInt8.toNat text[a] : Nat) : Int) from rfl, y8s, zA, hone]
      by_cases h3 : sgn text[a].toNat (hd0 (text.drop (a + 1))) = 0
      · rw [if_pos h3, if_pos (show ((sgn text[a].toNat (hd0 (text.drop (a + 1))) : Nat) : Int) = 0 by omega)]
        exact .inr ⟨4, _, rfl, by decide, rfl⟩
      · rw [if_neg h3, if_neg (show ¬ ((sgn text[a].toNat (hd0 (text.drop (a + 1))) : Nat) : Int) = 0 by omega)]
        left
        generalize sgn text[a].toNat (hd0 (text.drop (a + 1))) = g at *
        rw [z2h (by omega) (by omega), show (a : Int) + (g : Int) = ((a + g : Nat) : Int) by omega, v0k (by omega) (by omega)]
        rw [show Int.toNat ((a + g : Nat) : Int) = a + g from rfl, show Int.toNat (a : Int) = a from rfl, y3T, y2q _ _ _ _ _ _ _ ho, zA]
        exact ⟨4, 0, _, _, rfl, rfl⟩
def z7z : Nat → List UInt8 → Nat → List zB → List zB × Int × Int
  | 0, _, _, _ => ([], 0, 0)
  | n + 1, s, a, out => match s with
    | [] => (out ++ [⟨5, 0, [], a, a⟩], 0, 0)
    | c :: r => match one (c :: r) with
      | .inl e => ([], a, e)
      | .inr (k, m, t, l) => z7z n (((c :: r).drop l).drop (nxt 10000 ((c :: r).drop l))) (a + l + nxt 10000 ((c :: r).drop l)) (out ++ [⟨k, m, t, a, ((a + l : Nat) : Int)⟩])
theorem v0K (text : Str) (hl : text.length ≤ 9000) : ∀ (n a : Nat) (out : List zB), text.length < a + n → a ≤ text.length → out.length ≤ a →
    wG text text a out = some (z7z n (text.drop a) a out) := by
  intro n
  induction n with
  | zero => intro a out h1 h2; omega
  | succ n ih =>
    intro a out h1 h2 ho
    rw [y1g]; unfold z1t
    by_cases ha : a < text.length
    · have hd := List.drop_eq_getElem_cons ha
      rw [if_pos (show (a : Int) < (List.length text : Int) by omega)]
      have ht : z7z (n + 1) (text.drop a) a out = match one (text.drop a) with
        | .inl e => ([], (a : Int), e)
        | .inr (k, m, t, l) => z7z n (((text.drop a).drop l).drop (nxt 10000 ((text.drop a).drop l))) (a + l + nxt 10000 ((text.drop a).drop l)) (out ++ [⟨k, m, t, a, ((a + l : Nat) : Int)⟩]) := by
        rw [hd, z7z]
      rw [ht]
      rcases v1i text (by omega) a ha out (by omega) with ⟨k, m, t, l, e1, e2⟩ | ⟨e, a', e1, e0, e2⟩
      · have hlen := y2j e1
        rw [List.length_drop] at hlen
        rw [e1, e2, zA]
        simp only []
        rw [if_pos True.intro]
        unfold z1w
        have hle := z5B 10000 (text.drop (a + l))
        rw [List.length_drop] at hle
        rw [y8u text (by omega) _ 10000 (a + l) (by omega) (by omega), zA, show (text.drop a).drop l = text.drop (a + l) from List.drop_drop .., List.drop_drop (l := text)]
        exact ih (a + l + nxt 10000 (text.drop (a + l))) (out ++ [(⟨k, m, t, a, ((a + l : Nat) : Int)⟩ : zB)]) (by omega) (by omega) (by simp only [List.length_append, List.length_cons, List.length_nil]; omega)
      · rw [e1, e2, zA]
        simp only []
        rw [if_neg e0]
    · have h4 : text.drop a = [] := List.drop_eq_nil_of_le (by omega)
      have h5 : a = text.length := by omega
      rw [if_neg (show ¬ (a : Int) < (List.length text : Int) by omega), h4, z7z]
      rw [y2q _ _ _ _ _ _ _ (by omega), zA]
def z2a (text : Str) : List zB × Int × Int := if text.length > 8192 then ([], 0, 3) else z7z 10000 (text.drop (nxt 10000 text)) (nxt 10000 text) []
theorem y2C (text : Str) (h : text.length ≤ 9223372036854775807) : z5x text = some (z2a text) := by
  unfold z5x z2a
  by_cases h1 : (List.length text : Int) > 8192
  · rw [if_pos h1, if_pos (show text.length > 8192 by omega)]
  · rw [if_neg h1, if_neg (show ¬ text.length > 8192 by omega)]
    unfold z1w
    have hle := z5B 10000 text
    have e2 := y8u text (by omega) [] 10000 0 (by omega) (by omega)
    rw [show ((0 : Nat) : Int) = 0 from rfl, List.drop_zero, Nat.zero_add] at e2
    rw [e2, zA]
    exact v0K text (by omega) 10000 (nxt 10000 text) [] (by omega) (by omega) (by simp)
def Ord : Nat → List zB → Prop
  | _, [] => False
  | a, x :: r => ∃ f t : Nat, x.From = (f : Int) ∧ x.To = (t : Int) ∧ a ≤ f ∧ f ≤ t ∧ ((r = [] ∧ x.K = 5) ∨ (x.K ≠ 5 ∧ Ord t r))
theorem Ord.mono {a b : Nat} (h : b ≤ a) : ∀ {l : List zB}, Ord a l → Ord b l
  | [], h => h
  | x :: r, ⟨f, t, h1, h2, h3, h4⟩ => ⟨f, t, h1, h2, by omega, h4⟩
theorem y9D {s : List UInt8} {k n : Int} {t : Str} {l : Nat} (h : one s = .inr (k, n, t, l)) : k ≠ 5 := by
  cases s with
  | nil => simp [one] at h
  | cons c r =>
    rw [one] at h
    by_cases h1 : ltr c = true
    · rw [if_pos h1] at h
      by_cases h2 : tw mor (c :: r) > 16
      · rw [if_pos h2] at h; cases h
      · rw [if_neg h2] at h
        injection h with h; injection h with h _
        rw [← h]; split <;> decide
    · rw [if_neg h1] at h
      by_cases h2 : dgt c = true
      · rw [if_pos h2] at h
        cases hn : num ((c :: r).take (tw dgt (c :: r))) with
        | none => rw [hn] at h; cases h
        | some m => rw [hn] at h; injection h with h; injection h with h _; rw [← h]; decide
      · rw [if_neg h2] at h
        by_cases h3 : sgn c.toNat (hd0 r) = 0
        · rw [if_pos h3] at h; cases h
        · rw [if_neg h3] at h; injection h with h; injection h with h _; rw [← h]; decide
theorem y9L (text : List UInt8) : ∀ (n a : Nat) (out : List zB), text.length < a + n → a ≤ text.length → (z7z n (text.drop a) a out).2.2 = 0 → ∃ r, (z7z n (text.drop a) a out).1 = out ++ r ∧ Ord a r := by
  intro n
  induction n with
  | zero => intro a out h1 h2; omega
  | succ n ih =>
    intro a out h1 h2 he
    by_cases ha : a < text.length
    · have hd := List.drop_eq_getElem_cons ha
      have ht : z7z (n + 1) (text.drop a) a out = match one (text.drop a) with
        | .inl e => ([], (a : Int), e)
        | .inr (k, m, t, l) => z7z n (((text.drop a).drop l).drop (nxt 10000 ((text.drop a).drop l))) (a + l + nxt 10000 ((text.drop a).drop l)) (out ++ [⟨k, m, t, a, ((a + l : Nat) : Int)⟩]) := by
        rw [hd, z7z]
      rw [ht] at he ⊢
      cases ho : one (text.drop a) with
      | inl e =>
        rw [ho] at he
        exfalso
        have he2 : e = 0 := he
        rw [hd] at ho
        rw [one] at ho
        subst he2
        revert ho
        repeat' split
        all_goals (intro ho; first | (injection ho with ho; omega) | cases ho)
      | inr q =>
        obtain ⟨k, m, t, l⟩ := q
        rw [ho] at he
        dsimp only at he ⊢
        have hlen := y2j ho
        rw [List.length_drop] at hlen
        have hle := z5B 10000 (text.drop (a + l))
        rw [List.length_drop] at hle
        rw [show (text.drop a).drop l = text.drop (a + l) from List.drop_drop .., List.drop_drop (l := text)] at he ⊢
        obtain ⟨r, e1, e2⟩ := ih (a + l + nxt 10000 (text.drop (a + l))) _ (by omega) (by omega) he
        exact ⟨⟨k, m, t, a, ((a + l : Nat) : Int)⟩ :: r, by rw [e1]; simp, a, a + l, rfl, rfl, Nat.le_refl _, by omega, .inr ⟨y9D ho, e2.mono (by omega)⟩⟩
    · have h4 : text.drop a = [] := List.drop_eq_nil_of_le (by omega)
      have h5 : a = text.length := by omega
      rw [h4, z7z]
      exact ⟨[⟨5, 0, [], a, a⟩], rfl, a, a, rfl, rfl, Nat.le_refl _, Nat.le_refl _, .inl ⟨rfl, rfl⟩⟩
theorem z5A {text : Str} (h : (z2a text).2.2 = 0) : Ord 0 (z2a text).1 := by
  unfold z2a at h ⊢
  by_cases h1 : text.length > 8192
  · rw [if_pos h1] at h; cases h
  · rw [if_neg h1] at h ⊢
    have hle := z5B 10000 text
    obtain ⟨r, e1, e2⟩ := y9L text 10000 (nxt 10000 text) [] (by omega) (by omega) h
    rw [e1]; exact e2.mono (by omega)
theorem v0J (text : List UInt8) : ∀ (n a : Nat) (out : List zB), text.length < a + n → a ≤ text.length → (z7z n (text.drop a) a out).2.2 = 0 → ∃ r, (z7z n (text.drop a) a out).1 = out ++ r ∧ r.length + a ≤ text.length + 1 ∧ ∀ x ∈ r, x.To ≤ (text.length : Int) := by
  intro n
  induction n with
  | zero => intro a out h1 h2; omega
  | succ n ih =>
    intro a out h1 h2 he
    by_cases ha : a < text.length
    · have hd := List.drop_eq_getElem_cons ha
      have ht : z7z (n + 1) (text.drop a) a out = match one (text.drop a) with
        | .inl e => ([], (a : Int), e)
        | .inr (k, m, t, l) => z7z n (((text.drop a).drop l).drop (nxt 10000 ((text.drop a).drop l))) (a + l + nxt 10000 ((text.drop a).drop l)) (out ++ [⟨k, m, t, a, ((a + l : Nat) : Int)⟩]) := by
        rw [hd, z7z]
      rw [ht] at he ⊢
      cases ho : one (text.drop a) with
      | inl e =>
        rw [ho] at he
        exfalso
        have he2 : e = 0 := he
        rw [hd] at ho
        rw [one] at ho
        subst he2
        revert ho
        repeat' split
        all_goals (intro ho; first | (injection ho with ho; omega) | cases ho)
      | inr q =>
        obtain ⟨k, m, t, l⟩ := q
        rw [ho] at he
        dsimp only at he ⊢
        have hlen := y2j ho
        rw [List.length_drop] at hlen
        have hle := z5B 10000 (text.drop (a + l))
        rw [List.length_drop] at hle
        rw [show (text.drop a).drop l = text.drop (a + l) from List.drop_drop .., List.drop_drop (l := text)] at he ⊢
        obtain ⟨r, e1, e2, e3⟩ := ih (a + l + nxt 10000 (text.drop (a + l))) _ (by omega) (by omega) he
        refine ⟨⟨k, m, t, a, ((a + l : Nat) : Int)⟩ :: r, by rw [e1]; simp, by simp only [List.length_cons]; omega, fun x hx => ?_⟩
        rcases List.mem_cons.1 hx with rfl | hx
        · show ((a + l : Nat) : Int) ≤ _; omega
        · exact e3 x hx
    · have h4 : text.drop a = [] := List.drop_eq_nil_of_le (by omega)
      have h5 : a = text.length := by omega
      rw [h4, z7z]
      exact ⟨[⟨5, 0, [], a, a⟩], rfl, by simp only [List.length_cons, List.length_nil]; omega, fun x hx => by simp at hx; subst hx; show (a : Int) ≤ _; omega⟩
theorem y6i {text : Str} (h : (z2a text).2.2 = 0) : (z2a text).1.length ≤ text.length + 1 ∧ ∀ x ∈ (z2a text).1, x.To ≤ (text.length : Int) := by
  unfold z2a at h ⊢
  by_cases h1 : text.length > 8192
  · rw [if_pos h1] at h; cases h
  · rw [if_neg h1] at h ⊢
    have hle := z5B 10000 text
    obtain ⟨r, e1, e2, e3⟩ := v0J text 10000 (nxt 10000 text) [] (by omega) (by omega) h
    rw [e1]; exact ⟨by rw [List.nil_append]; omega, by rw [List.nil_append]; exact e3⟩
def Chn (q : Int) : Int → List zD → Prop
  | _, [] => True
  | p, x :: r => p ≤ x.From ∧ x.From ≤ x.To ∧ x.To ≤ q ∧ Chn q x.To r
inductive Wn : zD → Prop
  | mk (t : zD) : Chn t.To t.From t.L → (∀ x ∈ t.L, Wn x) → Wn t
theorem Chn.mono {q q' : Int} (hq : q ≤ q') : ∀ {l : List zD} {p p' : Int}, p' ≤ p → Chn q p l → Chn q' p' l
  | [], _, _, _, _ => trivial
  | x :: r, p, p', hp, ⟨h1, h2, h3, h4⟩ => ⟨by omega, h2, by omega, Chn.mono hq (Int.le_refl _) h4⟩
theorem Chn.snoc {q : Int} {x : zD} (h1 : x.From ≤ x.To) (h2 : x.To ≤ q) : ∀ {l : List zD} {p q0 : Int}, Chn q0 p l → q0 ≤ x.From → p ≤ q0 → Chn q p (l ++ [x])
  | [], p, q0, _, h3, h4 => ⟨by omega, h1, h2, trivial⟩
  | y :: r, p, q0, ⟨g1, g2, g3, g4⟩, h3, h4 => ⟨g1, g2, by omega, Chn.snoc h1 h2 g4 h3 g3⟩
def Mon (t : List zB) : Prop := ∀ i j, i ≤ j → j < t.length → (zQ t i).From ≤ (zQ t i).To ∧ (i < j → (zQ t i).To ≤ (zQ t j).From)
theorem y5B : ∀ {l : List zB} {a : Nat}, Ord a l → (∀ i, i < l.length → (a : Int) ≤ (zQ l i).From) ∧ Mon l
  | [], a, h => h.elim
  | x :: r, a, ⟨f, t, h1, h2, h3, h4, h5⟩ => by
    have c0 : zQ (x :: r) 0 = x := rfl
    have cs : ∀ i, zQ (x :: r) (i + 1) = zQ r i := fun i => rfl
    rcases h5 with ⟨rfl, -⟩ | ⟨-, h5⟩
    · refine ⟨fun i hi => ?_, fun i j hij hj => ?_⟩
      · have : i = 0 := by simpa using hi
        subst this; rw [c0]; omega
      · have : j = 0 := by simpa using hj
        have : i = 0 := by omega
        subst this; rw [c0]; exact ⟨by omega, fun h => by omega⟩
    · obtain ⟨g1, g2⟩ := y5B h5
      refine ⟨fun i hi => ?_, fun i j hij hj => ?_⟩
      · cases i with
        | zero => rw [c0]; omega
        | succ i => rw [cs]; have := g1 i (by simpa using hi); omega
      · cases i with
        | zero =>
          rw [c0]
          refine ⟨by omega, fun h => ?_⟩
          cases j with
          | zero => omega
          | succ j => rw [cs]; have := g1 j (by simpa using hj); omega
        | succ i =>
          cases j with
          | zero => omega
          | succ j => rw [cs, cs]; have := g2 i j (by omega) (by simpa using hj); exact ⟨this.1, fun h => this.2 (by omega)⟩
def Bt (t : List zB) (a b : Nat) (x : zD) : Prop := (zQ t a).From ≤ x.From ∧ x.From ≤ x.To ∧ x.To ≤ (zQ t (b - 1)).To ∧ Wn x
def BM (t : List zB) : Cat → Nat → Res → Prop
  | .ll _ _ f x, a, r => f < a → Bt t f a x → ∀ y b, r = .ok y b → Bt t f b y
  | .pl f x, a, r => f < a → Bt t f a x → ∀ y b, r = .ok y b → Bt t f b y
  | .cls _, a, r => ∀ y b, r = .ok y b → ∃ q : Int, Chn q (zQ t a).From y.L ∧ q ≤ (zQ t (b - 1)).To ∧ ∀ x ∈ y.L, Wn x
  | .lst acc, a, r => ∀ p q0 : Int, Chn q0 p acc → p ≤ q0 → q0 ≤ (zQ t a).From → (∀ x ∈ acc, Wn x) → ∀ y b, r = .ok y b → Chn (zQ t (b - 1)).To p y.L ∧ ∀ x ∈ y.L, Wn x
  | _, a, r => ∀ y b, r = .ok y b → Bt t a b y
theorem y7r {t : List zB} (hm : Mon t) {c : Cat} {a : Nat} {r : Res} (h : Der t c a r) : a ≤ t.length → BM t c a r := by
  have le : ∀ {i j : Nat}, i ≤ j → j < t.length → (zQ t i).From ≤ (zQ t j).To ∧ (zQ t i).From ≤ (zQ t j).From ∧ (zQ t i).To ≤ (zQ t j).To := fun {i j} h1 h2 => by
    have q1 := hm i j h1 h2
    have q2 := hm j j (Nat.le_refl _) h2
    by_cases e : i = j
    · subst e; omega
    · have := q1.2 (by omega); omega
  have lt : ∀ {i j : Nat}, i < j → j < t.length → (zQ t i).To ≤ (zQ t j).From := fun {i j} h1 h2 => (hm i j (by omega) h2).2 h1
  have mk : ∀ {f b : Nat} {k n : Int} {s : Str} {l : List zD}, f < b → b ≤ t.length → Chn (zQ t (b - 1)).To (zQ t f).From l → (∀ x ∈ l, Wn x) → Bt t f b (placed t f b ⟨k, n, s, l, 0, 0⟩) := fun {f b k n s l} h1 h2 h3 h4 => by
    have := le (i := f) (j := b - 1) (by omega) (by omega)
    exact ⟨Int.le_refl _, this.1, Int.le_refl _, .mk _ h3 h4⟩
  induction h with
  | @un a b n x h1 hd ih =>
    intro ha y b' e; cases e
    have h0 : a < t.length := h1.elim (fun h => zU h.2) (fun h => zU h.2)
    have q := hd.inR (by omega); simp only [InR] at q
    obtain ⟨i1, i2, i3, i4⟩ := ih (by omega) x b rfl
    have := le (i := a) (j := a + 1) (by omega) (by omega)
    exact mk (by omega) q.2 ⟨by omega, i2, i3, trivial⟩ (by simpa using i4)
  | unP _ _ _ ih => exact ih
  | @lev k a b x r h1 h2 hd _ ih1 ih2 =>
    intro ha y c e
    have q := hd.inR ha; simp only [InR] at q
    exact ih2 q.2 q.1 (ih1 ha x b rfl) y c e
  | llE _ _ => intro ha hf hx y b e; cases e; exact hx
  | @llG k m f a b x y r h1 h2 h3 hd _ ih1 ih2 =>
    intro ha hf hx z c e
    have h0 := wT (t := t) (a := a) (by rw [z4s (by omega)]; decide)
    have q := hd.inR (by omega); simp only [InR] at q
    obtain ⟨i1, i2, i3, i4⟩ := ih1 (by omega) y b rfl
    obtain ⟨j1, j2, j3, j4⟩ := hx
    have g1 := lt (i := a - 1) (j := a + 1) (by omega) (by omega)
    have g2 := le (i := a - 1) (j := b - 1) (by omega) (by omega)
    exact ih2 q.2 (by omega) (mk (by omega) q.2 ⟨j1, j2, by omega, by omega, i2, i3, trivial⟩ (by simpa using ⟨j4, i4⟩)) z c e
  | @post a b x r hd _ ih1 ih2 =>
    intro ha y c e
    have q := hd.inR ha; simp only [InR] at q
    exact ih2 q.2 q.1 (ih1 ha x b rfl) y c e
  | plE _ _ => intro ha hf hx y b e; cases e; exact hx
  | @plI f a b x i r h1 hd h2 _ ih1 ih2 =>
    intro ha hf hx z c e
    have h0 := zU h1
    have hb := zU h2
    have q := hd.inR (by omega); simp only [InR] at q
    obtain ⟨i1, i2, i3, i4⟩ := ih1 (by omega) i b rfl
    obtain ⟨j1, j2, j3, j4⟩ := hx
    have g1 := lt (i := a - 1) (j := a + 1) (by omega) (by omega)
    have g2 := le (i := b - 1) (j := b) (by omega) (by omega)
    have g3 := le (i := a - 1) (j := b) (by omega) (by omega)
    exact ih2 (by omega) (by omega) (mk (by omega) (by omega) ⟨j1, j2, by show x.To ≤ (zQ t b).To; omega, by omega, i2, by show i.To ≤ (zQ t b).To; omega, trivial⟩ (by simpa using ⟨j4, i4⟩)) z c e
  | @plF f a x r h0 h1 h2 _ ih =>
    intro ha hf hx z c e
    have h3 := wT (t := t) (a := a + 1) (by rw [h2]; decide)
    obtain ⟨j1, j2, j3, j4⟩ := hx
    have g3 := le (i := a - 1) (j := a + 1) (by omega) (by omega)
    exact ih (by omega) (by omega) (mk (by omega) (by omega) ⟨j1, j2, by show x.To ≤ (zQ t (a + 1)).To; omega, trivial⟩ (by simpa using j4)) z c e
  | @one a k n s h1 =>
    intro ha y b e; cases e
    have h0 := z1d (t := t) (a := a) (by rw [h1]; simp)
    exact mk (by omega) (by omega) trivial (by simp)
  | @par a b x h1 hd h2 ih =>
    intro ha y b' e; cases e
    have h0 := z1d (t := t) (a := a) (by rw [h1]; simp)
    have hb := zU h2
    have q := hd.inR (by omega); simp only [InR] at q
    obtain ⟨i1, i2, i3, i4⟩ := ih (by omega) x b rfl
    have g1 := le (i := a) (j := a + 1) (by omega) (by omega)
    have g2 := le (i := b - 1) (j := b) (by omega) (by omega)
    exact ⟨by omega, i2, by show x.To ≤ (zQ t b).To; omega, i4⟩
  | @call a o b k s few l h1 hd ih =>
    intro ha y b' e; cases e
    have h0 := z2Q h1
    have q := hd.inR h0.2; simp only [InR] at q
    obtain ⟨z, i1, i2, i3⟩ := ih h0.2 _ b rfl
    have g1 := le (i := a) (j := o) (by omega) (by omega)
    exact mk (by omega) q.2 (i1.mono i2 g1.2.1) i3
  | @lis a b l h1 hd h2 ih =>
    intro ha y b' e; cases e
    have h0 := z1d (t := t) (a := a) (by rw [h1]; simp)
    have hb := zU h2
    have q := hd.inR (by omega); simp only [InR] at q
    have g1 := le (i := a) (j := a + 1) (by omega) (by omega)
    have g2 := le (i := b - 1) (j := b) (by omega) (by omega)
    obtain ⟨i1, i2⟩ := ih (by omega) (zQ t a).From (zQ t a).From trivial (Int.le_refl _) g1.2.1 (by simp) _ b rfl
    exact mk (by omega) (by omega) (i1.mono g2.2.2 (Int.le_refl _)) i2
  | @clsF a h1 h2 =>
    intro ha y b e; cases e
    exact ⟨(zQ t (a + 2 - 1)).To, trivial, Int.le_refl _, by simp⟩
  | @cls a b few l h1 h2 hd h3 ih =>
    intro ha y b' e; cases e
    have h0 := zU h1
    have hb := zU h3
    have q := hd.inR (by omega); simp only [InR] at q
    have g1 := le (i := a) (j := a + 1) (by omega) (by omega)
    have g2 := le (i := b - 1) (j := b) (by omega) (by omega)
    obtain ⟨i1, i2⟩ := ih (by omega) (zQ t a).From (zQ t a).From trivial (Int.le_refl _) g1.2.1 (by simp) _ b rfl
    exact ⟨_, i1, g2.2.2, i2⟩
  | @lstE a b acc x hd h1 ih =>
    intro ha p q0 c1 c2 c3 c4 y b' e; cases e
    have q := hd.inR ha; simp only [InR] at q
    obtain ⟨i1, i2, i3, i4⟩ := ih ha x b rfl
    refine ⟨Chn.snoc i2 i3 c1 (by omega) c2, fun z hz => ?_⟩
    rcases List.mem_append.1 hz with hz | hz
    · exact c4 z hz
    · simp at hz; subst hz; exact i4
  | @lstG a b acc x r hd h1 hd2 ih1 ih2 =>
    intro ha p q0 c1 c2 c3 c4 y b' e
    have hb := zU h1
    have q := hd.inR ha; simp only [InR] at q
    obtain ⟨i1, i2, i3, i4⟩ := ih1 ha x b rfl
    by_cases hb1 : b + 1 < t.length
    · have g1 := lt (i := b - 1) (j := b + 1) (by omega) (by omega)
      refine ih2 (by omega) p x.To (Chn.snoc i2 (Int.le_refl _) c1 (by omega) c2) (by omega) (by omega) (fun z hz => ?_) y b' e
      rcases List.mem_append.1 hz with hz | hz
      · exact c4 z hz
      · simp at hz; subst hz; exact i4
    · subst e
      have q2 := hd2.inR (by omega)
      simp only [InR] at q2
      omega
  | _ => first | (intro _ _ _ e; cases e; done) | (intro _ _ _ _ _ e; cases e; done) | (intro _ _ _ _ _ _ _ _ _ e; cases e; done)
def Lst (t : List zB) (n : Nat) : Prop := ∀ i, n ≤ i → (zQ t i).K = 5
theorem z1V {t : List zB} {n a : Nat} (hn : Lst t n) (h : (zQ t a).K ≠ 5) : a < n := Nat.lt_of_not_le fun h1 => h (hn a h1)
theorem gP {t : List zB} {n a : Nat} {s : Str} (hn : Lst t n) (h : vB t a s = true) : a < n := z1V hn (by
  unfold vB at h
  simp only [Bool.and_eq_true, decide_eq_true_eq] at h
  rw [h.1]; decide)
theorem z4u {t : List zB} {n a : Nat} {s : Str} (hn : Lst t n) (h : vM t a s = true) : a < n := z1V hn (by
  unfold vM at h
  simp only [Bool.and_eq_true, decide_eq_true_eq] at h
  rw [h.1]; decide)
theorem z4r {t : List zB} {n : Nat} (hn : Lst t n) {a : Nat} (h : z0V t a ≠ .no) : a < n := by
  unfold z0V at h
  by_cases h1 : (zQ t a).K = 2
  · exact z1V hn (by rw [h1]; decide)
  rw [if_neg h1] at h
  by_cases h2 : (zQ t a).K = 1
  · exact z1V hn (by rw [h2]; decide)
  rw [if_neg h2] at h
  by_cases h3 : vM t a [116, 114, 117, 101] = true
  · exact z4u hn h3
  rw [if_neg h3] at h
  by_cases h3 : vM t a [102, 97, 108, 115, 101] = true
  · exact z4u hn h3
  rw [if_neg h3] at h
  by_cases h3 : vM t a [114, 101, 97, 100] = true
  · exact z4u hn h3
  rw [if_neg h3] at h
  by_cases h3 : vM t a [110, 101, 119] = true
  · exact z4u hn h3
  rw [if_neg h3] at h
  by_cases h3 : vB t a [40] = true
  · exact gP hn h3
  rw [if_neg h3] at h
  by_cases h3 : vB t a [91] = true
  · exact gP hn h3
  rw [if_neg h3] at h
  by_cases h3 : vB t a [64] = true
  · exact gP hn h3
  rw [if_neg h3] at h
  exact absurd rfl h
theorem y1B {t : List zB} {n : Nat} (hn : Lst t n) {a o : Nat} {k : Int} {s : Str} {few : Bool} (h : z0V t a = .call k s o few) : a < o ∧ o ≤ n := by
  have h0 := z4r hn (t := t) (a := a) (by rw [h]; simp)
  unfold z0V at h
  repeat' split at h
  all_goals first
    | (cases h; done)
    | (injection h with h1 h2 h3 h4; subst h3; rename_i q; have := z1V (t := t) (n := n) hn (a := a + 1) (by rw [q]; decide); omega)
    | (injection h with h1 h2 h3 h4; subst h3; omega)
def z5K (n : Nat) (c : Cat) (a : Nat) : Res → Prop
  | .ok x b => (match c with | .ll _ _ _ _ => a ≤ b | .pl _ _ => a ≤ b | _ => a < b) ∧ b ≤ n
  | .bad b => a ≤ b ∧ b ≤ n
theorem Der.inRn {t : List zB} {n : Nat} (hn : Lst t n) {c : Cat} {a : Nat} {r : Res} (h : Der t c a r) : a ≤ n → z5K n c a r := by
  induction h with
  | un h1 _ ih =>
    intro _
    have ha : _ < n := h1.elim (fun h => gP hn h.2) (fun h => gP hn h.2)
    have := ih (by omega); simp only [z5K] at this ⊢; omega
  | unB h1 _ ih =>
    intro _
    have ha : _ < n := h1.elim (fun h => gP hn h) (fun h => gP hn h)
    have := ih (by omega); simp only [z5K] at this ⊢; omega
  | unP _ _ _ ih => intro h; exact ih h
  | @lev k a b x r h1 h2 _ _ ih1 ih2 =>
    intro h
    have q1 := ih1 h; simp only [z5K] at q1
    have q2 := ih2 q1.2
    cases r <;> simp only [z5K] at q2 ⊢ <;> omega
  | levB _ _ _ ih => intro h; exact ih h
  | llE _ _ => intro h; simp only [z5K]; omega
  | @llG k m f a b x y r h1 h2 h3 _ _ ih1 ih2 =>
    intro h
    have ha := z1V (t := t) (n := n) hn (a := a) (by rw [z4s (by omega)]; decide)
    have q1 := ih1 (by omega); simp only [z5K] at q1
    have q2 := ih2 q1.2
    cases r <;> simp only [z5K] at q2 ⊢ <;> omega
  | @llB k m f a b x h1 h2 h3 _ ih1 =>
    intro h
    have ha := z1V (t := t) (n := n) hn (a := a) (by rw [z4s (by omega)]; decide)
    have q1 := ih1 (by omega); simp only [z5K] at q1 ⊢; omega
  | @post a b x r _ _ ih1 ih2 =>
    intro h
    have q1 := ih1 h; simp only [z5K] at q1
    have q2 := ih2 q1.2
    cases r <;> simp only [z5K] at q2 ⊢ <;> omega
  | postB _ ih => intro h; exact ih h
  | plE _ _ => intro h; simp only [z5K]; omega
  | @plI f a b x i r h1 _ h2 _ ih1 ih2 =>
    intro h
    have ha := gP hn h1
    have hb := gP hn h2
    have q1 := ih1 (by omega); simp only [z5K] at q1
    have q2 := ih2 (by omega)
    cases r <;> simp only [z5K] at q2 ⊢ <;> omega
  | plI1 h1 _ ih =>
    intro h
    have ha := gP hn h1
    have q1 := ih (by omega); simp only [z5K] at q1 ⊢; omega
  | plI2 h1 _ _ ih =>
    intro h
    have ha := gP hn h1
    have q1 := ih (by omega); simp only [z5K] at q1 ⊢; omega
  | @plF f a x r h0 h1 h2 _ ih =>
    intro h
    have ha := z1V (t := t) (n := n) hn (a := a + 1) (by rw [h2]; decide)
    have q2 := ih (by omega)
    cases r <;> simp only [z5K] at q2 ⊢ <;> omega
  | plFB _ h1 _ => intro h; have := gP hn h1; simp only [z5K]; omega
  | one h1 => intro h; have := z4r hn (by rw [h1]; simp); simp only [z5K]; omega
  | par h1 _ h2 ih =>
    intro h; have ha := z4r hn (by rw [h1]; simp); have hb := gP hn h2
    have q1 := ih (by omega); simp only [z5K] at q1 ⊢; omega
  | par1 h1 _ ih =>
    intro h; have ha := z4r hn (by rw [h1]; simp)
    have q1 := ih (by omega); simp only [z5K] at q1 ⊢; omega
  | par2 h1 _ _ ih =>
    intro h; have ha := z4r hn (by rw [h1]; simp)
    have q1 := ih (by omega); simp only [z5K] at q1 ⊢; omega
  | call h1 _ ih =>
    intro h; have ha := y1B hn h1
    have q1 := ih (by omega); simp only [z5K] at q1 ⊢; omega
  | callB h1 _ ih =>
    intro h; have ha := y1B hn h1
    have q1 := ih (by omega); simp only [z5K] at q1 ⊢; omega
  | lis h1 _ h2 ih =>
    intro h; have ha := z4r hn (by rw [h1]; simp); have hb := gP hn h2
    have q1 := ih (by omega); simp only [z5K] at q1 ⊢; omega
  | lis1 h1 _ ih =>
    intro h; have ha := z4r hn (by rw [h1]; simp)
    have q1 := ih (by omega); simp only [z5K] at q1 ⊢; omega
  | lis2 h1 _ _ ih =>
    intro h; have ha := z4r hn (by rw [h1]; simp)
    have q1 := ih (by omega); simp only [z5K] at q1 ⊢; omega
  | nm h1 => intro h; have ha := z4r hn (by rw [h1]; simp); simp only [z5K]; omega
  | no _ => intro h; simp only [z5K]; omega
  | cls0 _ => intro h; simp only [z5K]; omega
  | clsF h1 h2 => intro h; have ha := gP hn h2; simp only [z5K]; omega
  | cls h1 _ _ h2 ih =>
    intro h; have ha := gP hn h1; have hb := gP hn h2
    have q1 := ih (by omega); simp only [z5K] at q1 ⊢; omega
  | cls1 h1 _ _ ih =>
    intro h; have ha := gP hn h1
    have q1 := ih (by omega); simp only [z5K] at q1 ⊢; omega
  | cls2 h1 _ _ _ ih =>
    intro h; have ha := gP hn h1
    have q1 := ih (by omega); simp only [z5K] at q1 ⊢; omega
  | lstE _ _ ih => intro h; have q1 := ih h; simp only [z5K] at q1 ⊢; omega
  | @lstG a b acc x r _ h2 _ ih1 ih2 =>
    intro h; have hb := gP hn h2
    have q1 := ih1 h; simp only [z5K] at q1
    have q2 := ih2 (by omega)
    cases r <;> simp only [z5K] at q2 ⊢ <;> omega
  | lstB _ ih => intro h; have q1 := ih h; simp only [z5K] at q1 ⊢; omega
theorem y5M {t : List zB} {m : Nat} (hn : Lst t m) : ∀ (n a : Nat), m < a + n → (typ n t a).2.2 = 0 → a < (typ n t a).2.1 ∧ (typ n t a).2.1 ≤ m
  | 0, a, _, h => by cases h
  | n + 1, a, hl, h => by
    rw [typ] at h ⊢
    by_cases h1 : vM t a [105, 110, 116] = true
    · rw [if_pos h1]; have := z4u hn h1; exact ⟨by simp, this⟩
    rw [if_neg h1] at h ⊢
    by_cases h2 : vM t a [98, 111, 111, 108] = true
    · rw [if_pos h2]; have := z4u hn h2; exact ⟨by simp, this⟩
    rw [if_neg h2] at h ⊢
    by_cases h3 : (zQ t a).K = 1
    · rw [if_pos h3]; have := z1V (t := t) (n := m) hn (a := a) (by rw [h3]; decide); exact ⟨by simp, this⟩
    rw [if_neg h3] at h ⊢
    by_cases h4 : vB t a [91] = true
    · rw [if_pos h4] at h ⊢
      by_cases h5 : (zQ t (a + 1)).K = 2
      · rw [if_pos h5] at h ⊢
        by_cases h6 : vB t (a + 2) [93] = true
        · rw [if_pos h6] at h ⊢
          by_cases h7 : (typ n t (a + 3)).2.2 = 0
          · rw [if_pos h7]
            have := y5M hn n (a + 3) (by omega) h7
            exact ⟨by show a < (typ n t (a + 3)).2.1; omega, this.2⟩
          · rw [if_neg h7] at h; exact absurd h h7
        · rw [if_neg h6] at h; cases h
      · rw [if_neg h5] at h; cases h
    · rw [if_neg h4] at h; cases h
theorem y0x {t : List zB} {m : Nat} (hn : Lst t m) : ∀ (n a : Nat), m < a + n → a ≤ m → (typ n t a).2.2 ≠ 0 → a ≤ (typ n t a).2.1 ∧ (typ n t a).2.1 ≤ m
  | 0, a, h1, h2, _ => by omega
  | n + 1, a, h1, h2, h => by
    rw [typ] at h ⊢
    by_cases g1 : vM t a [105, 110, 116] = true
    · rw [if_pos g1] at h; exact absurd rfl h
    rw [if_neg g1] at h ⊢
    by_cases g2 : vM t a [98, 111, 111, 108] = true
    · rw [if_pos g2] at h; exact absurd rfl h
    rw [if_neg g2] at h ⊢
    by_cases g3 : (zQ t a).K = 1
    · rw [if_pos g3] at h; exact absurd rfl h
    rw [if_neg g3] at h ⊢
    by_cases g4 : vB t a [91] = true
    · have k4 := gP hn g4
      rw [if_pos g4] at h ⊢
      by_cases g5 : (zQ t (a + 1)).K = 2
      · have k5 := z1V (t := t) (n := m) hn (a := a + 1) (by rw [g5]; decide)
        rw [if_pos g5] at h ⊢
        by_cases g6 : vB t (a + 2) [93] = true
        · have k6 := gP hn g6
          rw [if_pos g6] at h ⊢
          by_cases g7 : (typ n t (a + 3)).2.2 = 0
          · rw [if_pos g7] at h; exact absurd rfl h
          · rw [if_neg g7]
            have := y0x hn n (a + 3) (by omega) (by omega) g7
            exact ⟨by show a ≤ (typ n t (a + 3)).2.1; omega, this.2⟩
        · rw [if_neg g6]; exact ⟨by show a ≤ a + 2; omega, by show a + 2 ≤ m; omega⟩
      · rw [if_neg g5]; exact ⟨by show a ≤ a + 1; omega, by show a + 1 ≤ m; omega⟩
    · rw [if_neg g4]; exact ⟨Nat.le_refl _, h2⟩
def y0I (n : Nat) (c : y5h) (a : Nat) : Res → Prop
  | .ok x b => (match c with | .form _ _ its _ _ => a ≤ b ∧ (its ≠ [] → a < b) | _ => a < b) ∧ b ≤ n
  | .bad b => a ≤ b ∧ b ≤ n
theorem SDer.inSn {t : List zB} {mm : Nat} (hn : Lst t mm) (hlt : mm < t.length) {c : y5h} {a : Nat} {r : Res} (h : SDer t c a r) : a ≤ mm → y0I mm c a r := by
  have step : ∀ {k : Int} {f a b : Nat} {it : It} {its : List It} {p p' : List zD} {n n' : Str} {r : Res}, a < b → y0I mm (.form k f its p' n') b r → y0I mm (.form k f (it :: its) p n) a r := by
    intro k f a b it its p p' n n' r h1 h2
    cases r with
    | ok x c => simp only [y0I] at h2 ⊢; exact ⟨⟨by omega, fun _ => by omega⟩, h2.2⟩
    | bad c => simp only [y0I] at h2 ⊢; omega
  induction h with
  | sB _ _ ih => intro h; exact ih h
  | @sF a r h1 hd ih =>
    intro h
    have q := ih h
    cases r with
    | ok x b =>
      simp only [y0I] at q ⊢
      refine ⟨q.1.2 ?_, q.2⟩
      unfold z3u
      repeat' split
      all_goals simp
    | bad b => exact q
  | b0 _ => intro h; simp only [y0I]; omega
  | @b1 a r h1 _ ih =>
    intro h
    have := gP hn h1
    have q := ih (by omega)
    cases r <;> simp only [y0I] at q ⊢ <;> omega
  | lE h1 => intro h; have := gP hn h1; simp only [y0I]; omega
  | @lG f a b acc x r h1 _ _ ih1 ih2 =>
    intro h
    have q1 := ih1 h; simp only [y0I] at q1
    have q2 := ih2 q1.2
    cases r <;> simp only [y0I] at q2 ⊢ <;> omega
  | lB _ _ ih => intro h; exact ih h
  | fE _ => intro h; simp only [y0I]; exact ⟨⟨Nat.le_refl _, fun h => absurd rfl h⟩, h⟩
  | fW h1 _ ih => intro h; have := z4u hn h1; exact step (by omega) (ih (by omega))
  | fW0 _ => intro h; simp only [y0I]; omega
  | fS h1 _ ih => intro h; have := gP hn h1; exact step (by omega) (ih (by omega))
  | fS0 _ => intro h; simp only [y0I]; omega
  | @fN f a k its parts name r h1 _ ih => intro h; have := z1V (t := t) (n := mm) hn (a := a) (by rw [h1]; decide); exact step (Nat.lt_succ_self a) (ih (by omega))
  | fN0 _ => intro h; simp only [y0I]; omega
  | fX hd _ ih => intro h; have q := hd.inRn hn h; simp only [z5K] at q; exact step q.1 (ih q.2)
  | fX0 hd => intro h; have q := hd.inRn hn h; simp only [z5K, y0I] at q ⊢; exact q
  | @fT f a k its parts name r h1 _ ih => intro h; have q := y5M hn (t.length + 1) a (by omega) h1; exact step q.1 (ih q.2)
  | @fT0 f a k its parts name h1 => intro h; have q := y0x hn (t.length + 1) a (by omega) h h1; simp only [y0I]; exact q
  | fK _ _ ih1 ih2 => intro h; have q := ih1 h; simp only [y0I] at q; exact step q.1 (ih2 q.2)
  | fK0 _ ih => intro h; exact ih h
  | fE0 _ ih => intro h; exact ih h
  | fE1 _ _ _ ih1 ih2 => intro h; have q := ih1 h; simp only [y0I] at q; exact step q.1 (ih2 q.2)
  | @fE2 f a b c k its parts name x y r _ h2 _ _ ih1 ih2 ih3 =>
    intro h
    have hb := z4u hn h2
    have q := ih1 h; simp only [y0I] at q
    have q2 := ih2 (by omega); simp only [y0I] at q2
    exact step (by omega) (ih3 q2.2)
  | @fE3 f a b c k its parts name x _ h2 _ ih1 ih2 =>
    intro h
    have hb := z4u hn h2
    have q := ih1 h; simp only [y0I] at q
    have q2 := ih2 (by omega); simp only [y0I] at q2 ⊢
    omega
theorem Mon.le {t : List zB} (hm : Mon t) {i j : Nat} (h1 : i ≤ j) (h2 : j < t.length) : (zQ t i).From ≤ (zQ t j).To ∧ (zQ t i).From ≤ (zQ t j).From ∧ (zQ t i).To ≤ (zQ t j).To := by
  have q1 := hm i j h1 h2
  have q2 := hm j j (Nat.le_refl _) h2
  by_cases e : i = j
  · subst e; omega
  · have := q1.2 (by omega); omega
theorem Mon.lt {t : List zB} (hm : Mon t) {i j : Nat} (h1 : i < j) (h2 : j < t.length) : (zQ t i).To ≤ (zQ t j).From := (hm i j (by omega) h2).2 h1
def CH (t : List zB) (f a : Nat) (l : List zD) : Prop := ∃ q0 : Int, Chn q0 (zQ t f).From l ∧ (zQ t f).From ≤ q0 ∧ (q0 = (zQ t f).From ∨ (f < a ∧ q0 ≤ (zQ t (a - 1)).To)) ∧ ∀ x ∈ l, Wn x
theorem CH.nil (t : List zB) (f a : Nat) : CH t f a [] := ⟨_, trivial, Int.le_refl _, .inl rfl, by simp⟩
theorem CH.step {t : List zB} (hm : Mon t) {f a a' : Nat} {l : List zD} (h1 : a ≤ a') (h2 : a' ≤ t.length) : CH t f a l → CH t f a' l := by
  rintro ⟨q0, c1, c2, c3, c4⟩
  refine ⟨q0, c1, c2, ?_, c4⟩
  rcases c3 with c3 | ⟨c3, c5⟩
  · exact .inl c3
  · have := (hm.le (i := a - 1) (j := a' - 1) (by omega) (by omega)).2.2
    exact .inr ⟨by omega, by omega⟩
theorem CH.snoc {t : List zB} (hm : Mon t) {f a b : Nat} {l : List zD} {x : zD} (h0 : f ≤ a) (h1 : a < b) (h2 : b ≤ t.length) (hx : Bt t a b x) : CH t f a l → CH t f b (l ++ [x]) := by
  rintro ⟨q0, c1, c2, c3, c4⟩
  obtain ⟨x1, x2, x3, x4⟩ := hx
  have g : q0 ≤ (zQ t a).From := by
    rcases c3 with c3 | ⟨c3, c5⟩
    · have := (hm.le (i := f) (j := a) h0 (by omega)).2.1; omega
    · have := hm.lt (i := a - 1) (j := a) (by omega) (by omega); omega
  refine ⟨x.To, Chn.snoc x2 (Int.le_refl _) c1 (by omega) c2, by omega, .inr ⟨by omega, x3⟩, fun z hz => ?_⟩
  rcases List.mem_append.1 hz with hz | hz
  · exact c4 z hz
  · simp at hz; subst hz; exact x4
theorem CH.snocE {t : List zB} (hm : Mon t) {f b : Nat} {l : List zD} (h1 : f < b) (h2 : b ≤ t.length) : CH t f b l → CH t f b (l ++ [z9x (zQ t (b - 1)).To]) := by
  rintro ⟨q0, c1, c2, c3, c4⟩
  have g0 := (hm.le (i := f) (j := b - 1) (by omega) (by omega)).1
  have g : q0 ≤ (zQ t (b - 1)).To := by
    rcases c3 with c3 | ⟨c3, c5⟩ <;> omega
  refine ⟨(zQ t (b - 1)).To, Chn.snoc (x := z9x (zQ t (b - 1)).To) (Int.le_refl _) (Int.le_refl _) c1 g c2, g0, .inr ⟨h1, Int.le_refl _⟩, fun z hz => ?_⟩
  rcases List.mem_append.1 hz with hz | hz
  · exact c4 z hz
  · simp at hz; subst hz; exact .mk _ trivial (by simp)
theorem CH.chn {t : List zB} (hm : Mon t) {f b : Nat} {l : List zD} (h1 : f < b) (h2 : b ≤ t.length) : CH t f b l → Chn (zQ t (b - 1)).To (zQ t f).From l ∧ ∀ x ∈ l, Wn x := by
  rintro ⟨q0, c1, c2, c3, c4⟩
  have g0 := (hm.le (i := f) (j := b - 1) (by omega) (by omega)).1
  have g : q0 ≤ (zQ t (b - 1)).To := by
    rcases c3 with c3 | ⟨c3, c5⟩ <;> omega
  exact ⟨c1.mono g (Int.le_refl _), c4⟩
theorem CH.mk {t : List zB} (hm : Mon t) {f b : Nat} {l : List zD} {k n : Int} {s : Str} (h1 : f < b) (h2 : b ≤ t.length) (h : CH t f b l) : Bt t f b (placed t f b ⟨k, n, s, l, 0, 0⟩) := by
  have g0 := (hm.le (i := f) (j := b - 1) (by omega) (by omega)).1
  obtain ⟨g1, g2⟩ := h.chn hm h1 h2
  exact ⟨Int.le_refl _, g0, Int.le_refl _, .mk _ g1 g2⟩
theorem y6z {t : List zB} (hm : Mon t) : ∀ (n a : Nat), t.length < a + n → (typ n t a).2.2 = 0 → Bt t a (typ n t a).2.1 (typ n t a).1 ∧ z0s (typ n t a).1 + a ≤ (typ n t a).2.1
  | 0, a, _, h => by cases h
  | n + 1, a, hl, h => by
    have leaf : ∀ (k : Int) (s : Str), a < t.length → Bt t a (a + 1) (placed t a (a + 1) ⟨k, 0, s, [], 0, 0⟩) ∧ z0s (placed t a (a + 1) ⟨k, 0, s, [], 0, 0⟩) + a ≤ a + 1 := fun k s ha => ⟨(CH.nil t a (a + 1)).mk hm (by omega) (by omega), by simp [placed, z0s, wR]; omega⟩
    rw [typ] at h ⊢
    by_cases h1 : vM t a [105, 110, 116] = true
    · rw [if_pos h1]; exact leaf _ _ (uD h1)
    rw [if_neg h1] at h ⊢
    by_cases h2 : vM t a [98, 111, 111, 108] = true
    · rw [if_pos h2]; exact leaf _ _ (uD h2)
    rw [if_neg h2] at h ⊢
    by_cases h3 : (zQ t a).K = 1
    · rw [if_pos h3]; exact leaf _ _ (wT (t := t) (a := a) (by rw [h3]; decide))
    rw [if_neg h3] at h ⊢
    by_cases h4 : vB t a [91] = true
    · rw [if_pos h4] at h ⊢
      by_cases h5 : (zQ t (a + 1)).K = 2
      · rw [if_pos h5] at h ⊢
        by_cases h6 : vB t (a + 2) [93] = true
        · rw [if_pos h6] at h ⊢
          by_cases h7 : (typ n t (a + 3)).2.2 = 0
          · rw [if_pos h7]
            have q := z5J n t (a + 3) (by omega) h7
            obtain ⟨g1, g2⟩ := y6z hm n (a + 3) (by omega) h7
            refine ⟨CH.mk hm (show a < (typ n t (a + 3)).2.1 by omega) q.2 ?_, ?_⟩
            · have := (CH.nil t a (a + 3)).snoc hm (by omega) q.1 q.2 g1
              simpa using this
            · show z0s (placed t a (typ n t (a + 3)).2.1 ⟨3, _, [], [(typ n t (a + 3)).1], 0, 0⟩) + a ≤ (typ n t (a + 3)).2.1
              simp only [placed, z0s, wR]; omega
          · rw [if_neg h7] at h; exact absurd h h7
        · rw [if_neg h6] at h; cases h
      · rw [if_neg h5] at h; cases h
    · rw [if_neg h4] at h; cases h
def SB (t : List zB) : y5h → Nat → Res → Prop
  | .stmt, a, r => ∀ y b, r = .ok y b → Bt t a b y
  | .blk, a, r => ∀ y b, r = .ok y b → Bt t a b y
  | .sl f acc, a, r => f < a → CH t f a acc → ∀ y b, r = .ok y b → Bt t f b y
  | .form k f its parts name, a, r => f ≤ a → CH t f a parts → ∀ y b, r = .ok y b → Bt t f b y
theorem y6G {t : List zB} (hm : Mon t) {c : y5h} {a : Nat} {r : Res} (h : SDer t c a r) : a ≤ t.length → SB t c a r := by
  induction h with
  | sB _ _ ih => intro ha y b e; exact ih ha y b e
  | @sF a r h1 hd ih => intro ha y b e; exact ih ha (Nat.le_refl _) (CH.nil _ _ _) y b e
  | b0 _ => intro ha y b e; cases e
  | @b1 a r h1 _ ih => intro ha y b e; have h0 := zU h1; exact ih (by omega) (by omega) (CH.nil _ _ _) y b e
  | @lE f a acc h1 => intro ha hf hc y b e; cases e; have h0 := zU h1; exact CH.mk hm (by omega) (by omega) (hc.step hm (by omega) (by omega))
  | @lG f a b acc x r h1 hd _ ih1 ih2 =>
    intro ha hf hc y b' e
    have q := hd.inS ha; simp only [InS] at q
    exact ih2 q.2 (by omega) (hc.snoc hm (by omega) q.1 q.2 (ih1 ha x b rfl)) y b' e
  | lB _ _ _ => intro ha _ _ y b e; cases e
  | fE h1 => intro ha hf hc y b e; cases e; exact CH.mk hm h1 ha hc
  | fW h1 _ ih => intro ha hf hc y b e; have h0 := uD h1; exact ih (by omega) (by omega) (hc.step hm (by omega) (by omega)) y b e
  | fW0 _ => intro ha _ _ y b e; cases e
  | fS h1 _ ih => intro ha hf hc y b e; have h0 := zU h1; exact ih (by omega) (by omega) (hc.step hm (by omega) (by omega)) y b e
  | fS0 _ => intro ha _ _ y b e; cases e
  | @fN f a k its parts name r h1 _ ih => intro ha hf hc y b e; have h0 := wT (t := t) (a := a) (by rw [h1]; decide); exact ih (by omega) (by omega) (hc.step hm (by omega) (by omega)) y b e
  | fN0 _ => intro ha _ _ y b e; cases e
  | @fX f a b k its parts name x r hd _ ih => intro ha hf hc y b' e; have q := hd.inR ha; simp only [InR] at q; exact ih q.2 (by omega) (hc.snoc hm hf q.1 q.2 (y7r hm hd ha x b rfl)) y b' e
  | fX0 _ => intro ha _ _ y b e; cases e
  | @fT f a k its parts name r h1 _ ih =>
    intro ha hf hc y b e
    have q : a < (z3B t a).2.1 ∧ (z3B t a).2.1 ≤ t.length := z5J (t.length + 1) t a (by omega) h1
    exact ih q.2 (by omega) (hc.snoc hm hf q.1 q.2 (y6z hm (t.length + 1) a (by omega) h1).1) y b e
  | fT0 _ => intro ha _ _ y b e; cases e
  | @fK f a b k its parts name x r hd _ ih1 ih2 => intro ha hf hc y b' e; have q := hd.inS ha; simp only [InS] at q; exact ih2 q.2 (by omega) (hc.snoc hm hf q.1 q.2 (ih1 ha x b rfl)) y b' e
  | fK0 _ _ => intro ha _ _ y b e; cases e
  | fE0 _ _ => intro ha _ _ y b e; cases e
  | @fE1 f a b k its parts name x r hd _ _ ih1 ih2 =>
    intro ha hf hc y b' e
    have q := hd.inS ha; simp only [InS] at q
    exact ih2 q.2 (by omega) ((hc.snoc hm hf q.1 q.2 (ih1 ha x b rfl)).snocE hm (by omega) q.2) y b' e
  | @fE2 f a b c k its parts name x y r hd hw hd2 _ ih1 ih2 ih3 =>
    intro ha hf hc z b' e
    have hb := uD hw
    have q := hd.inS ha; simp only [InS] at q
    have q2 := hd2.inS (by omega); simp only [InS] at q2
    exact ih3 q2.2 (by omega) (CH.snoc hm (by omega) q2.1 q2.2 (ih2 (by omega) y c rfl) ((hc.snoc hm hf q.1 q.2 (ih1 ha x b rfl)).step hm (by omega) (by omega))) z b' e
  | fE3 _ _ _ _ _ => intro ha _ _ y b e; cases e
def SS (t : List zB) : y5h → Nat → Res → Prop
  | .stmt, a, r => ∀ y b, r = .ok y b → z0s y + 400 * a + 19 ≤ 400 * b
  | .blk, a, r => ∀ y b, r = .ok y b → z0s y + 400 * a + 500 ≤ 400 * b
  | .sl f acc, a, r => ∀ y b, r = .ok y b → z0s y + 400 * a + 300 ≤ wR acc + 400 * b
  | .form k f its parts name, a, r => ∀ y b, r = .ok y b → z0s y + 400 * a ≤ 1 + wR parts + 400 * b ∧ (its ≠ [] → z0s y + 400 * a + 20 ≤ 1 + wR parts + 400 * b)
theorem y7h {t : List zB} (hm : Mon t) {c : y5h} {a : Nat} {r : Res} (h : SDer t c a r) : a ≤ t.length → SS t c a r := by
  have sz : ∀ (p : List zD) (x : zD), wR (p ++ [x]) = wR p + z0s x := fun p x => by rw [z5I]; simp [wR]
  induction h with
  | sB _ _ ih => intro ha y b e; have := ih ha y b e; omega
  | @sF a r h1 hd ih =>
    intro ha y b e
    have := (ih ha y b e).2 (by unfold z3u; (repeat' split) <;> simp)
    simp only [wR] at this
    omega
  | b0 _ => intro ha y b e; cases e
  | @b1 a r h1 _ ih => intro ha y b e; have h0 := zU h1; have h2 := ih (by omega) y b e; rw [show wR [] = 0 from rfl, Nat.mul_add] at h2; clear h0 h1 ih e; show z0s y + 400 * a + 500 ≤ 400 * b; omega
  | lE h1 => intro ha y b e; cases e; simp only [placed, z0s]; omega
  | lG h1 hd _ ih1 ih2 => intro ha y b e; have q := hd.inS ha; simp only [InS] at q; have g1 := ih1 ha _ _ rfl; have g2 := ih2 q.2 y b e; rw [sz] at g2; omega
  | lB _ _ _ => intro ha y b e; cases e
  | fE _ => intro ha y b e; cases e; simp only [placed, z0s]; exact ⟨by omega, fun h => absurd rfl h⟩
  | fW h1 _ ih => intro ha y b e; have h0 := uD h1; have := (ih (by omega) y b e).1; exact ⟨by omega, fun _ => by omega⟩
  | fW0 _ => intro ha y b e; cases e
  | fS h1 _ ih => intro ha y b e; have h0 := zU h1; have := (ih (by omega) y b e).1; exact ⟨by omega, fun _ => by omega⟩
  | fS0 _ => intro ha y b e; cases e
  | @fN f a k its parts name r h1 _ ih => intro ha y b e; have h0 := wT (t := t) (a := a) (by rw [h1]; decide); have := (ih (by omega) y b e).1; exact ⟨by omega, fun _ => by omega⟩
  | fN0 _ => intro ha y b e; cases e
  | fX hd _ ih => intro ha y b e; have q := hd.inR ha; simp only [InR] at q; have g := v0Z hd; have := (ih q.2 y b e).1; rw [sz] at this; exact ⟨by omega, fun _ => by omega⟩
  | fX0 _ => intro ha y b e; cases e
  | @fT f a k its parts name r h1 _ ih =>
    intro ha y b e
    have q : a < (z3B t a).2.1 ∧ (z3B t a).2.1 ≤ t.length := z5J (t.length + 1) t a (by omega) h1
    have g : z0s (z3B t a).1 + a ≤ (z3B t a).2.1 := (y6z hm (t.length + 1) a (by omega) h1).2
    have := (ih q.2 y b e).1
    rw [sz] at this
    exact ⟨by omega, fun _ => by omega⟩
  | fT0 _ => intro ha y b e; cases e
  | fK hd _ ih1 ih2 => intro ha y b e; have q := hd.inS ha; simp only [InS] at q; have g := ih1 ha _ _ rfl; have := (ih2 q.2 y b e).1; rw [sz] at this; exact ⟨by omega, fun _ => by omega⟩
  | fK0 _ _ => intro ha y b e; cases e
  | fE0 _ _ => intro ha y b e; cases e
  | fE1 hd _ _ ih1 ih2 =>
    intro ha y b e
    have q := hd.inS ha; simp only [InS] at q
    have g := ih1 ha _ _ rfl
    have := (ih2 q.2 y b e).1
    rw [sz, sz] at this
    simp only [z0s, wR] at this
    exact ⟨by omega, fun _ => by omega⟩
  | fE2 hd hw hd2 _ ih1 ih2 ih3 =>
    intro ha y b e
    have hb := uD hw
    have q := hd.inS ha; simp only [InS] at q
    have q2 := hd2.inS (by omega); simp only [InS] at q2
    have g := ih1 ha _ _ rfl
    have g2 := ih2 (by omega) _ _ rfl
    have := (ih3 q2.2 y b e).1
    rw [sz, sz] at this
    exact ⟨by omega, fun _ => by omega⟩
  | fE3 _ _ _ _ _ => intro ha y b e; cases e
end Go.Proofs.Ytelddjedpmfclaa.M

