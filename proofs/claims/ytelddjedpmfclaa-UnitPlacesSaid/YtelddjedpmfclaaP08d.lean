/- How a statement is read, as rules. -/
import Derived.Test.YtelddjedpmfclaaP07v
namespace Go.Proofs.Ytelddjedpmfclaa.M
open Go Nt
set_option linter.unusedVariables false
set_option linter.unusedSimpArgs false
/-- what a form asks for, one behind the other; be: a block, and perhaps another one behind "else" -/
inductive It where
  | word (s : Str)
  | sign (s : Str)
  | name
  | expr
  | type
  | block
  | be
abbrev wLet : Str := [108, 101, 116]
abbrev wIf : Str := [105, 102]
abbrev wWhile : Str := [119, 104, 105, 108, 101]
abbrev wFor : Str := [102, 111, 114]
abbrev wPrint : Str := [112, 114, 105, 110, 116]
abbrev wReturn : Str := [114, 101, 116, 117, 114, 110]
abbrev wDo : Str := [100, 111]
abbrev wElse : Str := [101, 108, 115, 101]
abbrev wTo : Str := [116, 111]
/-- the kind and the form of the statement that begins with a token -/
def formOf (t : List Token) (a : Nat) : Int × List It :=
  if wrdAt t a wLet = true then (if (tokAt t (a + 1)).K = 1 ∧ sgnAt t (a + 2) [58] = true then (21, [.word wLet, .name, .sign [58], .type, .sign [59]]) else (20, [.word wLet, .name, .sign [61], .expr, .sign [59]]))
  else if wrdAt t a wIf = true then (23, [.word wIf, .expr, .be])
  else if wrdAt t a wWhile = true then (24, [.word wWhile, .expr, .block])
  else if wrdAt t a wFor = true then (25, [.word wFor, .name, .sign [61], .expr, .word wTo, .expr, .block])
  else if wrdAt t a wPrint = true then (26, [.word wPrint, .expr, .sign [59]])
  else if wrdAt t a wReturn = true then (27, [.word wReturn, .expr, .sign [59]])
  else if wrdAt t a wDo = true then (28, [.word wDo, .expr, .sign [59]])
  else (22, [.expr, .sign [61], .expr, .sign [59]])
inductive SCat where
  | stmt
  | blk
  | sl (f : Nat) (acc : List Term)
  | form (k : Int) (f : Nat) (its : List It) (parts : List Term) (name : Str)
/-- the type at a place -/
abbrev typAt (t : List Token) (a : Nat) : Term × Nat × Int := typ (t.length + 1) t a
abbrev emptyBlk (q : Int) : Term := ⟨29, 0, [], [], q, q⟩
inductive SDer (t : List Token) : SCat → Nat → Res → Prop
  | sB {a : Nat} {r : Res} : sgnAt t a [123] = true → SDer t .blk a r → SDer t .stmt a r
  | sF {a : Nat} {r : Res} : sgnAt t a [123] = false → SDer t (.form (formOf t a).1 a (formOf t a).2 [] []) a r → SDer t .stmt a r
  | b0 {a : Nat} : sgnAt t a [123] = false → SDer t .blk a (.bad a)
  | b1 {a : Nat} {r : Res} : sgnAt t a [123] = true → SDer t (.sl a []) (a + 1) r → SDer t .blk a r
  | lE {f a : Nat} {acc : List Term} : sgnAt t a [125] = true → SDer t (.sl f acc) a (.ok (placed t f (a + 1) ⟨29, 0, [], acc, 0, 0⟩) (a + 1))
  | lG {f a b : Nat} {acc : List Term} {x : Term} {r : Res} : sgnAt t a [125] = false → SDer t .stmt a (.ok x b) → SDer t (.sl f (acc ++ [x])) b r → SDer t (.sl f acc) a r
  | lB {f a b : Nat} {acc : List Term} : sgnAt t a [125] = false → SDer t .stmt a (.bad b) → SDer t (.sl f acc) a (.bad b)
  | fE {f a : Nat} {k : Int} {parts : List Term} {name : Str} : f < a → SDer t (.form k f [] parts name) a (.ok (placed t f a ⟨k, 0, name, parts, 0, 0⟩) a)
  | fW {f a : Nat} {k : Int} {s : Str} {its : List It} {parts : List Term} {name : Str} {r : Res} : wrdAt t a s = true → SDer t (.form k f its parts name) (a + 1) r → SDer t (.form k f (.word s :: its) parts name) a r
  | fW0 {f a : Nat} {k : Int} {s : Str} {its : List It} {parts : List Term} {name : Str} : wrdAt t a s = false → SDer t (.form k f (.word s :: its) parts name) a (.bad a)
  | fS {f a : Nat} {k : Int} {s : Str} {its : List It} {parts : List Term} {name : Str} {r : Res} : sgnAt t a s = true → SDer t (.form k f its parts name) (a + 1) r → SDer t (.form k f (.sign s :: its) parts name) a r
  | fS0 {f a : Nat} {k : Int} {s : Str} {its : List It} {parts : List Term} {name : Str} : sgnAt t a s = false → SDer t (.form k f (.sign s :: its) parts name) a (.bad a)
  | fN {f a : Nat} {k : Int} {its : List It} {parts : List Term} {name : Str} {r : Res} : (tokAt t a).K = 1 → SDer t (.form k f its parts (tokAt t a).S) (a + 1) r → SDer t (.form k f (.name :: its) parts name) a r
  | fN0 {f a : Nat} {k : Int} {its : List It} {parts : List Term} {name : Str} : (tokAt t a).K ≠ 1 → SDer t (.form k f (.name :: its) parts name) a (.bad a)
  | fX {f a b : Nat} {k : Int} {its : List It} {parts : List Term} {name : Str} {x : Term} {r : Res} : Der t (.lev 1) a (.ok x b) → SDer t (.form k f its (parts ++ [x]) name) b r → SDer t (.form k f (.expr :: its) parts name) a r
  | fX0 {f a b : Nat} {k : Int} {its : List It} {parts : List Term} {name : Str} : Der t (.lev 1) a (.bad b) → SDer t (.form k f (.expr :: its) parts name) a (.bad b)
  | fT {f a : Nat} {k : Int} {its : List It} {parts : List Term} {name : Str} {r : Res} : (typAt t a).2.2 = 0 → SDer t (.form k f its (parts ++ [(typAt t a).1]) name) (typAt t a).2.1 r → SDer t (.form k f (.type :: its) parts name) a r
  | fT0 {f a : Nat} {k : Int} {its : List It} {parts : List Term} {name : Str} : (typAt t a).2.2 ≠ 0 → SDer t (.form k f (.type :: its) parts name) a (.bad (typAt t a).2.1)
  | fK {f a b : Nat} {k : Int} {its : List It} {parts : List Term} {name : Str} {x : Term} {r : Res} : SDer t .blk a (.ok x b) → SDer t (.form k f its (parts ++ [x]) name) b r → SDer t (.form k f (.block :: its) parts name) a r
  | fK0 {f a b : Nat} {k : Int} {its : List It} {parts : List Term} {name : Str} : SDer t .blk a (.bad b) → SDer t (.form k f (.block :: its) parts name) a (.bad b)
  | fE0 {f a b : Nat} {k : Int} {its : List It} {parts : List Term} {name : Str} : SDer t .blk a (.bad b) → SDer t (.form k f (.be :: its) parts name) a (.bad b)
  | fE1 {f a b : Nat} {k : Int} {its : List It} {parts : List Term} {name : Str} {x : Term} {r : Res} : SDer t .blk a (.ok x b) → wrdAt t b wElse = false → SDer t (.form k f its (parts ++ [x] ++ [emptyBlk (tokAt t (b - 1)).To]) name) b r → SDer t (.form k f (.be :: its) parts name) a r
  | fE2 {f a b c : Nat} {k : Int} {its : List It} {parts : List Term} {name : Str} {x y : Term} {r : Res} : SDer t .blk a (.ok x b) → wrdAt t b wElse = true → SDer t .blk (b + 1) (.ok y c) → SDer t (.form k f its (parts ++ [x] ++ [y]) name) c r → SDer t (.form k f (.be :: its) parts name) a r
  | fE3 {f a b c : Nat} {k : Int} {its : List It} {parts : List Term} {name : Str} {x : Term} : SDer t .blk a (.ok x b) → wrdAt t b wElse = true → SDer t .blk (b + 1) (.bad c) → SDer t (.form k f (.be :: its) parts name) a (.bad c)
theorem typ_err : ∀ (n : Nat) (t : List Token) (a : Nat), (typ n t a).2.2 = 0 ∨ (typ n t a).2.2 = 6
  | 0, t, a => .inr rfl
  | n + 1, t, a => by
    have := typ_err n t (a + 3)
    rw [typ]
    repeat' split
    all_goals first | exact .inl rfl | exact .inr rfl | exact this | skip
theorem typ_badpl : ∀ (n : Nat) (t : List Token) (a : Nat), t.length < a + n → a ≤ t.length → (typ n t a).2.2 ≠ 0 → a ≤ (typ n t a).2.1 ∧ (typ n t a).2.1 ≤ t.length
  | 0, t, a, h1, h2, _ => by omega
  | n + 1, t, a, h1, h2, h => by
    rw [typ] at h ⊢
    by_cases g1 : wrdAt t a [105, 110, 116] = true
    · rw [if_pos g1] at h; exact absurd rfl h
    rw [if_neg g1] at h ⊢
    by_cases g2 : wrdAt t a [98, 111, 111, 108] = true
    · rw [if_pos g2] at h; exact absurd rfl h
    rw [if_neg g2] at h ⊢
    by_cases g3 : (tokAt t a).K = 1
    · rw [if_pos g3] at h; exact absurd rfl h
    rw [if_neg g3] at h ⊢
    by_cases g4 : sgnAt t a [91] = true
    · have k4 := sgnAt_lt g4
      rw [if_pos g4] at h ⊢
      by_cases g5 : (tokAt t (a + 1)).K = 2
      · have k5 := tokAt_lt (t := t) (a := a + 1) (by rw [g5]; decide)
        rw [if_pos g5] at h ⊢
        by_cases g6 : sgnAt t (a + 2) [93] = true
        · have k6 := sgnAt_lt g6
          rw [if_pos g6] at h ⊢
          by_cases g7 : (typ n t (a + 3)).2.2 = 0
          · rw [if_pos g7] at h; exact absurd rfl h
          · rw [if_neg g7]
            have := typ_badpl n t (a + 3) (by omega) (by omega) g7
            exact ⟨by show a ≤ (typ n t (a + 3)).2.1; omega, this.2⟩
        · rw [if_neg g6]; exact ⟨by show a ≤ a + 2; omega, by show a + 2 ≤ t.length; omega⟩
      · rw [if_neg g5]; exact ⟨by show a ≤ a + 1; omega, by show a + 1 ≤ t.length; omega⟩
    · rw [if_neg g4]; exact ⟨Nat.le_refl _, h2⟩
/-- a result lies behind its place -/
def InS (t : List Token) (c : SCat) (a : Nat) : Res → Prop
  | .ok x b => (match c with | .form _ _ its _ _ => a ≤ b ∧ (its ≠ [] → a < b) | _ => a < b) ∧ b ≤ t.length
  | .bad b => a ≤ b ∧ b ≤ t.length
theorem SDer.inS {t : List Token} {c : SCat} {a : Nat} {r : Res} (h : SDer t c a r) : a ≤ t.length → InS t c a r := by
  -- one step, and the rest of a form
  have step : ∀ {k : Int} {f a b : Nat} {it : It} {its : List It} {p p' : List Term} {n n' : Str} {r : Res}, a < b → InS t (.form k f its p' n') b r → InS t (.form k f (it :: its) p n) a r := by
    intro k f a b it its p p' n n' r h1 h2
    cases r with
    | ok x c => simp only [InS] at h2 ⊢; exact ⟨⟨by omega, fun _ => by omega⟩, h2.2⟩
    | bad c => simp only [InS] at h2 ⊢; omega
  induction h with
  | sB _ _ ih => intro h; exact ih h
  | @sF a r h1 hd ih =>
    intro h
    have q := ih h
    cases r with
    | ok x b =>
      simp only [InS] at q ⊢
      refine ⟨q.1.2 ?_, q.2⟩
      unfold formOf
      repeat' split
      all_goals simp
    | bad b => exact q
  | b0 _ => intro h; simp only [InS]; omega
  | @b1 a r h1 _ ih =>
    intro h
    have := sgnAt_lt h1
    have q := ih (by omega)
    cases r <;> simp only [InS] at q ⊢ <;> omega
  | lE h1 => intro h; have := sgnAt_lt h1; simp only [InS]; omega
  | @lG f a b acc x r h1 _ _ ih1 ih2 =>
    intro h
    have q1 := ih1 h; simp only [InS] at q1
    have q2 := ih2 q1.2
    cases r <;> simp only [InS] at q2 ⊢ <;> omega
  | lB _ _ ih => intro h; exact ih h
  | fE _ => intro h; simp only [InS]; exact ⟨⟨Nat.le_refl _, fun h => absurd rfl h⟩, h⟩
  | fW h1 _ ih => intro h; have := wrdAt_lt h1; exact step (by omega) (ih (by omega))
  | fW0 _ => intro h; simp only [InS]; omega
  | fS h1 _ ih => intro h; have := sgnAt_lt h1; exact step (by omega) (ih (by omega))
  | fS0 _ => intro h; simp only [InS]; omega
  | @fN f a k its parts name r h1 _ ih => intro h; have := tokAt_lt (t := t) (a := a) (by rw [h1]; decide); exact step (Nat.lt_succ_self a) (ih (by omega))
  | fN0 _ => intro h; simp only [InS]; omega
  | fX hd _ ih => intro h; have q := hd.inR h; simp only [InR] at q; exact step q.1 (ih q.2)
  | fX0 hd => intro h; have q := hd.inR h; simp only [InR, InS] at q ⊢; exact q
  | @fT f a k its parts name r h1 _ ih => intro h; have q := typ_pl (t.length + 1) t a (by omega) h1; exact step q.1 (ih q.2)
  | @fT0 f a k its parts name h1 => intro h; have q := typ_badpl (t.length + 1) t a (by omega) h h1; simp only [InS]; exact q
  | fK _ _ ih1 ih2 => intro h; have q := ih1 h; simp only [InS] at q; exact step q.1 (ih2 q.2)
  | fK0 _ ih => intro h; exact ih h
  | fE0 _ ih => intro h; exact ih h
  | fE1 _ _ _ ih1 ih2 => intro h; have q := ih1 h; simp only [InS] at q; exact step q.1 (ih2 q.2)
  | @fE2 f a b c k its parts name x y r _ h2 _ _ ih1 ih2 ih3 =>
    intro h
    have hb := wrdAt_lt h2
    have q := ih1 h; simp only [InS] at q
    have q2 := ih2 (by omega); simp only [InS] at q2
    exact step (by omega) (ih3 q2.2)
  | @fE3 f a b c k its parts name x _ h2 _ ih1 ih2 =>
    intro h
    have hb := wrdAt_lt h2
    have q := ih1 h; simp only [InS] at q
    have q2 := ih2 (by omega); simp only [InS] at q2 ⊢
    omega
theorem sder_all (t : List Token) : ∀ (d a : Nat), a + d = t.length → (∃ r, SDer t .stmt a r) ∧ (∃ r, SDer t .blk a r) := by
  intro d
  induction d using Nat.strongRecOn with
  | _ d IH =>
    intro a had
    have upS : ∀ b, a < b → b ≤ t.length → ∃ r, SDer t .stmt b r := fun b h1 h2 => (IH (t.length - b) (by omega) b (by omega)).1
    have upB : ∀ b, a < b → b ≤ t.length → ∃ r, SDer t .blk b r := fun b h1 h2 => (IH (t.length - b) (by omega) b (by omega)).2
    have sl : ∀ (n b : Nat) (acc : List Term), a < b → b + n = t.length → ∃ r, SDer t (.sl a acc) b r := by
      intro n
      induction n using Nat.strongRecOn with
      | _ n ihn =>
        intro b acc h1 h2
        cases hs : sgnAt t b [125] with
        | true => exact ⟨_, .lE hs⟩
        | false =>
          obtain ⟨r, hr⟩ := upS b h1 (by omega)
          have q := hr.inS (by omega)
          cases r with
          | bad c => exact ⟨_, .lB hs hr⟩
          | ok x c =>
            simp only [InS] at q
            obtain ⟨r, h3⟩ := ihn (t.length - c) (by omega) c (acc ++ [x]) (by omega) (by omega)
            exact ⟨r, .lG hs hr h3⟩
    have blk : ∃ r, SDer t .blk a r := by
      cases hs : sgnAt t a [123] with
      | false => exact ⟨_, .b0 hs⟩
      | true =>
        have := sgnAt_lt hs
        obtain ⟨r, hr⟩ := sl (t.length - (a + 1)) (a + 1) [] (by omega) (by omega)
        exact ⟨r, .b1 hs hr⟩
    have anyB : ∀ b, a ≤ b → b ≤ t.length → ∃ r, SDer t .blk b r := fun b h1 h2 => by
      by_cases e : b = a
      · subst e; exact blk
      · exact upB b (by omega) h2
    have form : ∀ (k : Int) (its : List It) (b : Nat) (parts : List Term) (name : Str), a ≤ b → b ≤ t.length → (its = [] → a < b) → ∃ r, SDer t (.form k a its parts name) b r := by
      intro k its
      induction its with
      | nil => intro b parts name h1 h2 h3; exact ⟨_, .fE (h3 rfl)⟩
      | cons it its ih =>
        intro b parts name h1 h2 h3
        cases it with
        | word s =>
          cases hs : wrdAt t b s with
          | false => exact ⟨_, .fW0 hs⟩
          | true =>
            have := wrdAt_lt hs
            obtain ⟨r, hr⟩ := ih (b + 1) parts name (by omega) (by omega) (fun _ => by omega)
            exact ⟨r, .fW hs hr⟩
        | sign s =>
          cases hs : sgnAt t b s with
          | false => exact ⟨_, .fS0 hs⟩
          | true =>
            have := sgnAt_lt hs
            obtain ⟨r, hr⟩ := ih (b + 1) parts name (by omega) (by omega) (fun _ => by omega)
            exact ⟨r, .fS hs hr⟩
        | name =>
          by_cases hk : (tokAt t b).K = 1
          · have := tokAt_lt (t := t) (a := b) (by rw [hk]; decide)
            obtain ⟨r, hr⟩ := ih (b + 1) parts (tokAt t b).S (by omega) (by omega) (fun _ => by omega)
            exact ⟨r, .fN hk hr⟩
          · exact ⟨_, .fN0 hk⟩
        | expr =>
          obtain ⟨r, hr⟩ := der_all t (t.length - b) b (by omega) 1 (by omega) (by omega)
          have q := hr.inR (by omega)
          cases r with
          | bad c => exact ⟨_, .fX0 hr⟩
          | ok x c =>
            simp only [InR] at q
            obtain ⟨r, h4⟩ := ih c (parts ++ [x]) name (by omega) q.2 (fun _ => by omega)
            exact ⟨r, .fX hr h4⟩
        | type =>
          by_cases he : (typAt t b).2.2 = 0
          · have q : b < (typAt t b).2.1 ∧ (typAt t b).2.1 ≤ t.length := typ_pl (t.length + 1) t b (by omega) he
            obtain ⟨r, h4⟩ := ih (typAt t b).2.1 (parts ++ [(typAt t b).1]) name (by omega) q.2 (fun _ => by omega)
            exact ⟨r, .fT he h4⟩
          · exact ⟨_, .fT0 he⟩
        | block =>
          obtain ⟨r, hr⟩ := anyB b h1 h2
          have q := hr.inS (by omega)
          cases r with
          | bad c => exact ⟨_, .fK0 hr⟩
          | ok x c =>
            simp only [InS] at q
            obtain ⟨r, h4⟩ := ih c (parts ++ [x]) name (by omega) q.2 (fun _ => by omega)
            exact ⟨r, .fK hr h4⟩
        | be =>
          obtain ⟨r, hr⟩ := anyB b h1 h2
          have q := hr.inS (by omega)
          cases r with
          | bad c => exact ⟨_, .fE0 hr⟩
          | ok x c =>
            simp only [InS] at q
            cases hw : wrdAt t c wElse with
            | false =>
              obtain ⟨r, h4⟩ := ih c _ name (by omega) q.2 (fun _ => by omega)
              exact ⟨r, .fE1 hr hw h4⟩
            | true =>
              have := wrdAt_lt hw
              obtain ⟨r2, hr2⟩ := anyB (c + 1) (by omega) (by omega)
              have q2 := hr2.inS (by omega)
              cases r2 with
              | bad e => exact ⟨_, .fE3 hr hw hr2⟩
              | ok y e =>
                simp only [InS] at q2
                obtain ⟨r, h4⟩ := ih e _ name (by omega) q2.2 (fun _ => by omega)
                exact ⟨r, .fE2 hr hw hr2 h4⟩
    refine ⟨?_, blk⟩
    cases hs : sgnAt t a [123] with
    | true => obtain ⟨r, hr⟩ := blk; exact ⟨r, .sB hs hr⟩
    | false =>
      obtain ⟨r, hr⟩ := form (formOf t a).1 (formOf t a).2 a [] [] (Nat.le_refl _) (by omega) (fun h => by
        exfalso; revert h
        unfold formOf
        repeat' split
        all_goals simp)
      exact ⟨r, .sF hs hr⟩
/-- a block ends where it stands -/
theorem blk_to {t : List Token} {c : SCat} {a : Nat} {r : Res} (h : SDer t c a r) : (match c with | .blk => True | .sl _ _ => True | _ => False) → ∀ x b, r = .ok x b → x.To = (tokAt t (b - 1)).To := by
  induction h with
  | b0 _ => intro _ x b e; cases e
  | b1 _ _ ih => intro _ x b e; exact ih trivial x b e
  | lE _ => intro _ x b e; cases e; rfl
  | lG _ _ _ _ ih => intro _ x b e; exact ih trivial x b e
  | lB _ _ _ => intro _ x b e; cases e
  | _ => intro h; exact h.elim
end Go.Proofs.Ytelddjedpmfclaa.M
