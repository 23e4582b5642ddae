/- How an expression is read, as rules: what stands at a place, and where it ends, or what is wrong. -/
import Derived.Test.YtelddjedpmfclaaP07t
namespace Go.Proofs.Ytelddjedpmfclaa.M
open Go Nt
set_option linter.unusedVariables false
set_option linter.unusedSimpArgs false
inductive Res where
  | ok (x : Term) (b : Nat)
  | bad (b : Nat)
/-- an operator's number and level; 0: none -/
def opOf (x : Token) : Int × Nat :=
  if x.K = 4 then
    if x.S = [124, 124] then (1, 1)
    else if x.S = [38, 38] then (2, 2)
    else if x.S = [61, 61] then (3, 3)
    else if x.S = [33, 61] then (4, 3)
    else if x.S = [60] then (5, 3)
    else if x.S = [60, 61] then (6, 3)
    else if x.S = [62] then (7, 3)
    else if x.S = [62, 61] then (8, 3)
    else if x.S = [43] then (9, 4)
    else if x.S = [45] then (10, 4)
    else if x.S = [42] then (11, 5)
    else if x.S = [47] then (12, 5)
    else if x.S = [37] then (13, 5)
    else (0, 0)
  else (0, 0)
theorem opOf_tok {x : Token} (h : (opOf x).2 ≠ 0) : x.K = 4 := by
  unfold opOf at h
  by_cases hk : x.K = 4
  · exact hk
  · rw [if_neg hk] at h; exact absurd rfl h
theorem opOf_le (x : Token) : (opOf x).2 ≤ 5 := by
  have st : ∀ (c : Prop) [Decidable c] (p q : Int × Nat), p.2 ≤ 5 → q.2 ≤ 5 → (if c then p else q).2 ≤ 5 := by intro c _ p q h1 h2; split <;> assumption
  unfold opOf
  repeat' (first | decide | refine st _ _ _ ?_ ?_)
/-- what kind of atom begins with a token -/
inductive AK where
  | one (k n : Int) (s : Str)
  | paren
  | call (k : Int) (s : Str) (o : Nat) (few : Bool)
  | lis
  | nm
  | no
def atomK (t : List Token) (a : Nat) : AK :=
  if (tokAt t a).K = 2 then .one 5 (tokAt t a).N []
  else if (tokAt t a).K = 1 then (if sgnAt t (a + 1) [40] = true then .call 16 (tokAt t a).S (a + 1) true else .one 19 0 (tokAt t a).S)
  else if wrdAt t a [116, 114, 117, 101] = true then .one 6 1 []
  else if wrdAt t a [102, 97, 108, 115, 101] = true then .one 6 0 []
  else if wrdAt t a [114, 101, 97, 100] = true then .one 18 0 []
  else if wrdAt t a [110, 101, 119] = true then (if (tokAt t (a + 1)).K = 1 then .call 15 (tokAt t (a + 1)).S (a + 2) false else .nm)
  else if sgnAt t a [40] = true then .paren
  else if sgnAt t a [91] = true then .lis
  else if sgnAt t a [64] = true then (if (tokAt t (a + 1)).K = 1 then .call 17 (tokAt t (a + 1)).S (a + 2) true else .nm)
  else .no
inductive Cat where
  | lev (k : Nat)
  | ll (k times f : Nat) (x : Term)
  | post
  | pl (f : Nat) (x : Term)
  | atom
  | cls (few : Bool)
  | lst (acc : List Term)
abbrev lT (l : List Term) : Term := ⟨0, 0, [], l, 0, 0⟩
inductive Der (t : List Token) : Cat → Nat → Res → Prop
  | un {a b : Nat} {n : Int} {x : Term} : (n = 1 ∧ sgnAt t a [45] = true) ∨ (n = 2 ∧ sgnAt t a [33] = true) → Der t (.lev 6) (a + 1) (.ok x b) → Der t (.lev 6) a (.ok (placed t a b ⟨11, n, [], [x], 0, 0⟩) b)
  | unB {a b : Nat} : sgnAt t a [45] = true ∨ sgnAt t a [33] = true → Der t (.lev 6) (a + 1) (.bad b) → Der t (.lev 6) a (.bad b)
  | unP {a : Nat} {r : Res} : sgnAt t a [45] = false → sgnAt t a [33] = false → Der t .post a r → Der t (.lev 6) a r
  | lev {k a b : Nat} {x : Term} {r : Res} : 1 ≤ k → k ≤ 5 → Der t (.lev (k + 1)) a (.ok x b) → Der t (.ll k 0 a x) b r → Der t (.lev k) a r
  | levB {k a b : Nat} : 1 ≤ k → k ≤ 5 → Der t (.lev (k + 1)) a (.bad b) → Der t (.lev k) a (.bad b)
  | llE {k m f a : Nat} {x : Term} : 1 ≤ k → (opOf (tokAt t a)).2 ≠ k ∨ (k = 3 ∧ m = 1) → Der t (.ll k m f x) a (.ok x a)
  | llG {k m f a b : Nat} {x y : Term} {r : Res} : 1 ≤ k → (opOf (tokAt t a)).2 = k → ¬ (k = 3 ∧ m = 1) → Der t (.lev (k + 1)) (a + 1) (.ok y b) → Der t (.ll k (m + 1) f (placed t f b ⟨10, (opOf (tokAt t a)).1, [], [x, y], 0, 0⟩)) b r → Der t (.ll k m f x) a r
  | llB {k m f a b : Nat} {x : Term} : 1 ≤ k → (opOf (tokAt t a)).2 = k → ¬ (k = 3 ∧ m = 1) → Der t (.lev (k + 1)) (a + 1) (.bad b) → Der t (.ll k m f x) a (.bad b)
  | post {a b : Nat} {x : Term} {r : Res} : Der t .atom a (.ok x b) → Der t (.pl a x) b r → Der t .post a r
  | postB {a b : Nat} : Der t .atom a (.bad b) → Der t .post a (.bad b)
  | plE {f a : Nat} {x : Term} : sgnAt t a [91] = false → sgnAt t a [46] = false → Der t (.pl f x) a (.ok x a)
  | plI {f a b : Nat} {x i : Term} {r : Res} : sgnAt t a [91] = true → Der t (.lev 1) (a + 1) (.ok i b) → sgnAt t b [93] = true → Der t (.pl f (placed t f (b + 1) ⟨12, 0, [], [x, i], 0, 0⟩)) (b + 1) r → Der t (.pl f x) a r
  | plI1 {f a b : Nat} {x : Term} : sgnAt t a [91] = true → Der t (.lev 1) (a + 1) (.bad b) → Der t (.pl f x) a (.bad b)
  | plI2 {f a b : Nat} {x i : Term} : sgnAt t a [91] = true → Der t (.lev 1) (a + 1) (.ok i b) → sgnAt t b [93] = false → Der t (.pl f x) a (.bad b)
  | plF {f a : Nat} {x : Term} {r : Res} : sgnAt t a [91] = false → sgnAt t a [46] = true → (tokAt t (a + 1)).K = 1 → Der t (.pl f (placed t f (a + 2) ⟨13, 0, (tokAt t (a + 1)).S, [x], 0, 0⟩)) (a + 2) r → Der t (.pl f x) a r
  | plFB {f a : Nat} {x : Term} : sgnAt t a [91] = false → sgnAt t a [46] = true → (tokAt t (a + 1)).K ≠ 1 → Der t (.pl f x) a (.bad (a + 1))
  | one {a : Nat} {k n : Int} {s : Str} : atomK t a = .one k n s → Der t .atom a (.ok (placed t a (a + 1) ⟨k, n, s, [], 0, 0⟩) (a + 1))
  | par {a b : Nat} {x : Term} : atomK t a = .paren → Der t (.lev 1) (a + 1) (.ok x b) → sgnAt t b [41] = true → Der t .atom a (.ok x (b + 1))
  | par1 {a b : Nat} : atomK t a = .paren → Der t (.lev 1) (a + 1) (.bad b) → Der t .atom a (.bad b)
  | par2 {a b : Nat} {x : Term} : atomK t a = .paren → Der t (.lev 1) (a + 1) (.ok x b) → sgnAt t b [41] = false → Der t .atom a (.bad b)
  | call {a o b : Nat} {k : Int} {s : Str} {few : Bool} {l : List Term} : atomK t a = .call k s o few → Der t (.cls few) o (.ok (lT l) b) → Der t .atom a (.ok (placed t a b ⟨k, 0, s, l, 0, 0⟩) b)
  | callB {a o b : Nat} {k : Int} {s : Str} {few : Bool} : atomK t a = .call k s o few → Der t (.cls few) o (.bad b) → Der t .atom a (.bad b)
  | lis {a b : Nat} {l : List Term} : atomK t a = .lis → Der t (.lst []) (a + 1) (.ok (lT l) b) → sgnAt t b [93] = true → Der t .atom a (.ok (placed t a (b + 1) ⟨14, 0, [], l, 0, 0⟩) (b + 1))
  | lis1 {a b : Nat} : atomK t a = .lis → Der t (.lst []) (a + 1) (.bad b) → Der t .atom a (.bad b)
  | lis2 {a b : Nat} {l : List Term} : atomK t a = .lis → Der t (.lst []) (a + 1) (.ok (lT l) b) → sgnAt t b [93] = false → Der t .atom a (.bad b)
  | nm {a : Nat} : atomK t a = .nm → Der t .atom a (.bad (a + 1))
  | no {a : Nat} : atomK t a = .no → Der t .atom a (.bad a)
  | cls0 {a : Nat} {few : Bool} : sgnAt t a [40] = false → Der t (.cls few) a (.bad a)
  | clsF {a : Nat} : sgnAt t a [40] = true → sgnAt t (a + 1) [41] = true → Der t (.cls true) a (.ok (lT []) (a + 2))
  | cls {a b : Nat} {few : Bool} {l : List Term} : sgnAt t a [40] = true → (few = true → sgnAt t (a + 1) [41] = false) → Der t (.lst []) (a + 1) (.ok (lT l) b) → sgnAt t b [41] = true → Der t (.cls few) a (.ok (lT l) (b + 1))
  | cls1 {a b : Nat} {few : Bool} : sgnAt t a [40] = true → (few = true → sgnAt t (a + 1) [41] = false) → Der t (.lst []) (a + 1) (.bad b) → Der t (.cls few) a (.bad b)
  | cls2 {a b : Nat} {few : Bool} {l : List Term} : sgnAt t a [40] = true → (few = true → sgnAt t (a + 1) [41] = false) → Der t (.lst []) (a + 1) (.ok (lT l) b) → sgnAt t b [41] = false → Der t (.cls few) a (.bad b)
  | lstE {a b : Nat} {acc : List Term} {x : Term} : Der t (.lev 1) a (.ok x b) → sgnAt t b [44] = false → Der t (.lst acc) a (.ok (lT (acc ++ [x])) b)
  | lstG {a b : Nat} {acc : List Term} {x : Term} {r : Res} : Der t (.lev 1) a (.ok x b) → sgnAt t b [44] = true → Der t (.lst (acc ++ [x])) (b + 1) r → Der t (.lst acc) a r
  | lstB {a b : Nat} {acc : List Term} : Der t (.lev 1) a (.bad b) → Der t (.lst acc) a (.bad b)

/-- a result lies behind its place -/
def InR (t : List Token) (c : Cat) (a : Nat) : Res → Prop
  | .ok x b => (match c with | .ll _ _ _ _ => a ≤ b | .pl _ _ => a ≤ b | _ => a < b) ∧ b ≤ t.length
  | .bad b => a ≤ b ∧ b ≤ t.length
theorem atomK_lt {t : List Token} {a : Nat} (h : atomK t a ≠ .no) : a < t.length := by
  unfold atomK at h
  by_cases h1 : (tokAt t a).K = 2
  · exact tokAt_lt (by rw [h1]; decide)
  rw [if_neg h1] at h
  by_cases h2 : (tokAt t a).K = 1
  · exact tokAt_lt (by rw [h2]; decide)
  rw [if_neg h2] at h
  by_cases h3 : wrdAt t a [116, 114, 117, 101] = true
  · exact wrdAt_lt h3
  rw [if_neg h3] at h
  by_cases h3 : wrdAt t a [102, 97, 108, 115, 101] = true
  · exact wrdAt_lt h3
  rw [if_neg h3] at h
  by_cases h3 : wrdAt t a [114, 101, 97, 100] = true
  · exact wrdAt_lt h3
  rw [if_neg h3] at h
  by_cases h3 : wrdAt t a [110, 101, 119] = true
  · exact wrdAt_lt h3
  rw [if_neg h3] at h
  by_cases h3 : sgnAt t a [40] = true
  · exact sgnAt_lt h3
  rw [if_neg h3] at h
  by_cases h3 : sgnAt t a [91] = true
  · exact sgnAt_lt h3
  rw [if_neg h3] at h
  by_cases h3 : sgnAt t a [64] = true
  · exact sgnAt_lt h3
  rw [if_neg h3] at h
  exact absurd rfl h
theorem atomK_call {t : List Token} {a o : Nat} {k : Int} {s : Str} {few : Bool} (h : atomK t a = .call k s o few) : a < o ∧ o ≤ t.length := by
  have h0 := atomK_lt (t := t) (a := a) (by rw [h]; simp)
  unfold atomK at h
  repeat' split at h
  all_goals first
    | (cases h; done)
    | (injection h with h1 h2 h3 h4; subst h3; rename_i q; have := tokAt_lt (t := t) (a := a + 1) (by rw [q]; decide); omega)
    | (injection h with h1 h2 h3 h4; subst h3; omega)
theorem Der.inR {t : List Token} {c : Cat} {a : Nat} {r : Res} (h : Der t c a r) : a ≤ t.length → InR t c a r := by
  induction h with
  | un h1 _ ih =>
    intro _
    have ha : _ < t.length := h1.elim (fun h => sgnAt_lt h.2) (fun h => sgnAt_lt h.2)
    have := ih (by omega); simp only [InR] at this ⊢; omega
  | unB h1 _ ih =>
    intro _
    have ha : _ < t.length := h1.elim (fun h => sgnAt_lt h) (fun h => sgnAt_lt h)
    have := ih (by omega); simp only [InR] at this ⊢; omega
  | unP _ _ _ ih => intro h; exact ih h
  | @lev k a b x r h1 h2 _ _ ih1 ih2 =>
    intro h
    have q1 := ih1 h; simp only [InR] at q1
    have q2 := ih2 q1.2
    cases r <;> simp only [InR] at q2 ⊢ <;> omega
  | levB _ _ _ ih => intro h; exact ih h
  | llE _ _ => intro h; simp only [InR]; omega
  | @llG k m f a b x y r h1 h2 h3 _ _ ih1 ih2 =>
    intro h
    have ha := tokAt_lt (t := t) (a := a) (by rw [opOf_tok (by omega)]; decide)
    have q1 := ih1 (by omega); simp only [InR] at q1
    have q2 := ih2 q1.2
    cases r <;> simp only [InR] at q2 ⊢ <;> omega
  | @llB k m f a b x h1 h2 h3 _ ih1 =>
    intro h
    have ha := tokAt_lt (t := t) (a := a) (by rw [opOf_tok (by omega)]; decide)
    have q1 := ih1 (by omega); simp only [InR] at q1 ⊢; omega
  | @post a b x r _ _ ih1 ih2 =>
    intro h
    have q1 := ih1 h; simp only [InR] at q1
    have q2 := ih2 q1.2
    cases r <;> simp only [InR] at q2 ⊢ <;> omega
  | postB _ ih => intro h; exact ih h
  | plE _ _ => intro h; simp only [InR]; omega
  | @plI f a b x i r h1 _ h2 _ ih1 ih2 =>
    intro h
    have ha := sgnAt_lt h1
    have hb := sgnAt_lt h2
    have q1 := ih1 (by omega); simp only [InR] at q1
    have q2 := ih2 (by omega)
    cases r <;> simp only [InR] at q2 ⊢ <;> omega
  | plI1 h1 _ ih =>
    intro h
    have ha := sgnAt_lt h1
    have q1 := ih (by omega); simp only [InR] at q1 ⊢; omega
  | plI2 h1 _ _ ih =>
    intro h
    have ha := sgnAt_lt h1
    have q1 := ih (by omega); simp only [InR] at q1 ⊢; omega
  | @plF f a x r h0 h1 h2 _ ih =>
    intro h
    have ha := tokAt_lt (t := t) (a := a + 1) (by rw [h2]; decide)
    have q2 := ih (by omega)
    cases r <;> simp only [InR] at q2 ⊢ <;> omega
  | plFB _ h1 _ => intro h; have := sgnAt_lt h1; simp only [InR]; omega
  | one h1 => intro h; have := atomK_lt (by rw [h1]; simp); simp only [InR]; omega
  | par h1 _ h2 ih =>
    intro h; have ha := atomK_lt (by rw [h1]; simp); have hb := sgnAt_lt h2
    have q1 := ih (by omega); simp only [InR] at q1 ⊢; omega
  | par1 h1 _ ih =>
    intro h; have ha := atomK_lt (by rw [h1]; simp)
    have q1 := ih (by omega); simp only [InR] at q1 ⊢; omega
  | par2 h1 _ _ ih =>
    intro h; have ha := atomK_lt (by rw [h1]; simp)
    have q1 := ih (by omega); simp only [InR] at q1 ⊢; omega
  | call h1 _ ih =>
    intro h; have ha := atomK_call h1
    have q1 := ih (by omega); simp only [InR] at q1 ⊢; omega
  | callB h1 _ ih =>
    intro h; have ha := atomK_call h1
    have q1 := ih (by omega); simp only [InR] at q1 ⊢; omega
  | lis h1 _ h2 ih =>
    intro h; have ha := atomK_lt (by rw [h1]; simp); have hb := sgnAt_lt h2
    have q1 := ih (by omega); simp only [InR] at q1 ⊢; omega
  | lis1 h1 _ ih =>
    intro h; have ha := atomK_lt (by rw [h1]; simp)
    have q1 := ih (by omega); simp only [InR] at q1 ⊢; omega
  | lis2 h1 _ _ ih =>
    intro h; have ha := atomK_lt (by rw [h1]; simp)
    have q1 := ih (by omega); simp only [InR] at q1 ⊢; omega
  | nm h1 => intro h; have ha := atomK_lt (by rw [h1]; simp); simp only [InR]; omega
  | no _ => intro h; simp only [InR]; omega
  | cls0 _ => intro h; simp only [InR]; omega
  | clsF h1 h2 => intro h; have ha := sgnAt_lt h2; simp only [InR]; omega
  | cls h1 _ _ h2 ih =>
    intro h; have ha := sgnAt_lt h1; have hb := sgnAt_lt h2
    have q1 := ih (by omega); simp only [InR] at q1 ⊢; omega
  | cls1 h1 _ _ ih =>
    intro h; have ha := sgnAt_lt h1
    have q1 := ih (by omega); simp only [InR] at q1 ⊢; omega
  | cls2 h1 _ _ _ ih =>
    intro h; have ha := sgnAt_lt h1
    have q1 := ih (by omega); simp only [InR] at q1 ⊢; omega
  | lstE _ _ ih => intro h; have q1 := ih h; simp only [InR] at q1 ⊢; omega
  | @lstG a b acc x r _ h2 _ ih1 ih2 =>
    intro h; have hb := sgnAt_lt h2
    have q1 := ih1 h; simp only [InR] at q1
    have q2 := ih2 (by omega)
    cases r <;> simp only [InR] at q2 ⊢ <;> omega
  | lstB _ ih => intro h; have q1 := ih h; simp only [InR] at q1 ⊢; omega

/-- at each place something is read, or is wrong -/
theorem der_all (t : List Token) : ∀ (d a : Nat), a + d = t.length → ∀ k, 1 ≤ k → k ≤ 6 → ∃ r, Der t (.lev k) a r := by
  intro d
  induction d using Nat.strongRecOn with
  | _ d IH =>
    intro a had
    have up : ∀ b, a < b → b ≤ t.length → ∀ k, 1 ≤ k → k ≤ 6 → ∃ r, Der t (.lev k) b r := fun b h1 h2 k hk1 hk2 => IH (t.length - b) (by omega) b (by omega) k hk1 hk2
    have lst : ∀ (n b : Nat) (acc : List Term), a < b → b + n = t.length → ∃ r, Der t (.lst acc) b r ∧ ∀ x c, r = .ok x c → ∃ l, x = lT l := by
      intro n
      induction n using Nat.strongRecOn with
      | _ n ihn =>
        intro b acc h1 h2
        obtain ⟨r, hr⟩ := up b h1 (by omega) 1 (by omega) (by omega)
        have q := hr.inR (by omega)
        cases r with
        | bad c => exact ⟨_, .lstB hr, fun _ _ h => by cases h⟩
        | ok x c =>
          simp only [InR] at q
          cases hs : sgnAt t c [44] with
          | false => exact ⟨_, .lstE hr hs, fun _ _ h => by cases h; exact ⟨_, rfl⟩⟩
          | true =>
            have := sgnAt_lt hs
            obtain ⟨r, h3, h4⟩ := ihn (t.length - (c + 1)) (by omega) (c + 1) (acc ++ [x]) (by omega) (by omega)
            exact ⟨r, .lstG hr hs h3, h4⟩
    have cls : ∀ (b : Nat) (few : Bool), a < b → b ≤ t.length → ∃ r, Der t (.cls few) b r ∧ ∀ x c, r = .ok x c → ∃ l, x = lT l := by
      intro b few h1 h2
      cases hs : sgnAt t b [40] with
      | false => exact ⟨_, .cls0 hs, fun _ _ h => by cases h⟩
      | true =>
        have hb := sgnAt_lt hs
        by_cases hf : few = true ∧ sgnAt t (b + 1) [41] = true
        · obtain ⟨rfl, h⟩ := hf
          exact ⟨_, .clsF hs h, fun _ _ h => by cases h; exact ⟨_, rfl⟩⟩
        · have hf' : few = true → sgnAt t (b + 1) [41] = false := fun h => by
            cases h1 : sgnAt t (b + 1) [41] with
            | false => rfl
            | true => exact absurd ⟨h, h1⟩ hf
          obtain ⟨r, h3, h4⟩ := lst (t.length - (b + 1)) (b + 1) [] (by omega) (by omega)
          cases r with
          | bad c => exact ⟨_, .cls1 hs hf' h3, fun _ _ h => by cases h⟩
          | ok x c =>
            obtain ⟨l, rfl⟩ := h4 x c rfl
            cases hc : sgnAt t c [41] with
            | true => exact ⟨_, .cls hs hf' h3 hc, fun _ _ h => by cases h; exact ⟨_, rfl⟩⟩
            | false => exact ⟨_, .cls2 hs hf' h3 hc, fun _ _ h => by cases h⟩
    have atom : ∃ r, Der t .atom a r := by
      cases hk : atomK t a with
      | no => exact ⟨_, .no hk⟩
      | nm => exact ⟨_, .nm hk⟩
      | one k n s => exact ⟨_, .one hk⟩
      | paren =>
        have ha := atomK_lt (t := t) (a := a) (by rw [hk]; simp)
        obtain ⟨r, hr⟩ := up (a + 1) (by omega) (by omega) 1 (by omega) (by omega)
        cases r with
        | bad c => exact ⟨_, .par1 hk hr⟩
        | ok x c =>
          cases hc : sgnAt t c [41] with
          | true => exact ⟨_, .par hk hr hc⟩
          | false => exact ⟨_, .par2 hk hr hc⟩
      | call k s o few =>
        have ha := atomK_call hk
        obtain ⟨r, h3, h4⟩ := cls o few ha.1 ha.2
        cases r with
        | bad c => exact ⟨_, .callB hk h3⟩
        | ok x c =>
          obtain ⟨l, rfl⟩ := h4 x c rfl
          exact ⟨_, .call hk h3⟩
      | lis =>
        have ha := atomK_lt (t := t) (a := a) (by rw [hk]; simp)
        obtain ⟨r, h3, h4⟩ := lst (t.length - (a + 1)) (a + 1) [] (by omega) (by omega)
        cases r with
        | bad c => exact ⟨_, .lis1 hk h3⟩
        | ok x c =>
          obtain ⟨l, rfl⟩ := h4 x c rfl
          cases hc : sgnAt t c [93] with
          | true => exact ⟨_, .lis hk h3 hc⟩
          | false => exact ⟨_, .lis2 hk h3 hc⟩
    have pl : ∀ (n b : Nat) (x : Term), a < b → b + n = t.length → ∃ r, Der t (.pl a x) b r := by
      intro n
      induction n using Nat.strongRecOn with
      | _ n ihn =>
        intro b x h1 h2
        cases hs : sgnAt t b [91] with
        | true =>
          have hb := sgnAt_lt hs
          obtain ⟨r, hr⟩ := up (b + 1) (by omega) (by omega) 1 (by omega) (by omega)
          have q := hr.inR (by omega)
          cases r with
          | bad c => exact ⟨_, .plI1 hs hr⟩
          | ok i c =>
            simp only [InR] at q
            cases hc : sgnAt t c [93] with
            | false => exact ⟨_, .plI2 hs hr hc⟩
            | true =>
              have := sgnAt_lt hc
              obtain ⟨r, h3⟩ := ihn (t.length - (c + 1)) (by omega) (c + 1) _ (by omega) (by omega)
              exact ⟨r, .plI hs hr hc h3⟩
        | false =>
          cases hd : sgnAt t b [46] with
          | false => exact ⟨_, .plE hs hd⟩
          | true =>
            by_cases hk : (tokAt t (b + 1)).K = 1
            · have := tokAt_lt (t := t) (a := b + 1) (by rw [hk]; decide)
              obtain ⟨r, h3⟩ := ihn (t.length - (b + 2)) (by omega) (b + 2) _ (by omega) (by omega)
              exact ⟨r, .plF hs hd hk h3⟩
            · exact ⟨_, .plFB hs hd hk⟩
    have post : ∃ r, Der t .post a r := by
      obtain ⟨r, hr⟩ := atom
      have q := hr.inR (by omega)
      cases r with
      | bad c => exact ⟨_, .postB hr⟩
      | ok x c =>
        simp only [InR] at q
        obtain ⟨r, h3⟩ := pl (t.length - c) c x (by omega) (by omega)
        exact ⟨r, .post hr h3⟩
    have un : ∃ r, Der t (.lev 6) a r := by
      by_cases hs : sgnAt t a [45] = true ∨ sgnAt t a [33] = true
      · have ha : a < t.length := hs.elim sgnAt_lt sgnAt_lt
        obtain ⟨r, hr⟩ := up (a + 1) (by omega) (by omega) 6 (by omega) (by omega)
        cases r with
        | bad c => exact ⟨_, .unB hs hr⟩
        | ok x c =>
          rcases hs with hs | hs
          · exact ⟨_, .un (n := 1) (.inl ⟨rfl, hs⟩) hr⟩
          · exact ⟨_, .un (n := 2) (.inr ⟨rfl, hs⟩) hr⟩
      · have h1 : sgnAt t a [45] = false := by cases h : sgnAt t a [45] <;> simp_all
        have h2 : sgnAt t a [33] = false := by cases h : sgnAt t a [33] <;> simp_all
        obtain ⟨r, hr⟩ := post
        exact ⟨r, .unP h1 h2 hr⟩
    have ll : ∀ (n b k m : Nat) (x : Term), a < b → b + n = t.length → 1 ≤ k → k ≤ 5 → ∃ r, Der t (.ll k m a x) b r := by
      intro n
      induction n using Nat.strongRecOn with
      | _ n ihn =>
        intro b k m x h1 h2 hk1 hk2
        by_cases ho : (opOf (tokAt t b)).2 ≠ k ∨ (k = 3 ∧ m = 1)
        · exact ⟨_, .llE hk1 ho⟩
        · have ho1 : (opOf (tokAt t b)).2 = k := by
            by_cases h : (opOf (tokAt t b)).2 = k
            · exact h
            · exact absurd (.inl h) ho
          have ho2 : ¬ (k = 3 ∧ m = 1) := fun h => ho (.inr h)
          have hb := tokAt_lt (t := t) (a := b) (by rw [opOf_tok (by omega)]; decide)
          obtain ⟨r, hr⟩ := up (b + 1) (by omega) (by omega) (k + 1) (by omega) (by omega)
          have q := hr.inR (by omega)
          cases r with
          | bad c => exact ⟨_, .llB hk1 ho1 ho2 hr⟩
          | ok y c =>
            simp only [InR] at q
            obtain ⟨r, h3⟩ := ihn (t.length - c) (by omega) c k (m + 1) _ (by omega) (by omega) hk1 hk2
            exact ⟨r, .llG hk1 ho1 ho2 hr h3⟩
    have down : ∀ j, j ≤ 5 → ∃ r, Der t (.lev (6 - j)) a r := by
      intro j
      induction j with
      | zero => intro _; exact un
      | succ j ih =>
        intro hj
        obtain ⟨r, hr⟩ := ih (by omega)
        rw [show 6 - j = (6 - (j + 1)) + 1 by omega] at hr
        have q := hr.inR (by omega)
        cases r with
        | bad c => exact ⟨_, .levB (by omega) (by omega) hr⟩
        | ok x c =>
          simp only [InR] at q
          obtain ⟨r, h3⟩ := ll (t.length - c) c (6 - (j + 1)) 0 x (by omega) (by omega) (by omega) (by omega)
          exact ⟨r, .lev (by omega) (by omega) hr h3⟩
    intro k hk1 hk2
    have := down (6 - k) (by omega)
    rwa [show 6 - (6 - k) = k by omega] at this
end Go.Proofs.Ytelddjedpmfclaa.M
