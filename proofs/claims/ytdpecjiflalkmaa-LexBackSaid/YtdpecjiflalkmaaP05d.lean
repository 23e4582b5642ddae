/- The reference's token, and all tokens of a text, on both sides. -/
import Derived.Test.YtdpecjiflalkmaaP05c
namespace Go.Proofs.Ytdpecjiflalkmaa.M
open Go Nt
set_option linter.unusedVariables false
set_option linter.unusedSimpArgs false

def zTok : Token := ⟨0, 0, [], 0, 0⟩
def exitW (text : Str) (a e : Nat) : Token × Int :=
  if e - a > 16 then (zTok, 3) else (⟨if isW ((text.take e).drop a) = true then 3 else 1, 0, (text.take e).drop a, a, e⟩, 0)
theorem exitW_ok (text : Str) (hl : text.length ≤ 1000000) (a e : Nat) (h1 : a ≤ e) (h2 : e ≤ text.length) :
    (if (IntKind.wrap .i64 ((e : Int) - (a : Int))) > 16 then
    some ((Token.mk 0 0 ([] : List UInt8) 0 0), 3)
  else
  if (0 : Int) ≤ (e : Int) then
  if Int.toNat (e : Int) ≤ List.length text then
  if (0 : Int) ≤ (a : Int) then
  if Int.toNat (a : Int) ≤ Int.toNat (e : Int) then
  ref05Words >>= fun q5 =>
  ref05Among (List.drop (Int.toNat (a : Int)) (List.take (Int.toNat (e : Int)) text)) q5 >>= fun q6 =>
  if q6 = true then
    some ((Token.mk 3 0 (List.drop (Int.toNat (a : Int)) (List.take (Int.toNat (e : Int)) text)) a e), 0)
  else
  some ((Token.mk 1 0 (List.drop (Int.toNat (a : Int)) (List.take (Int.toNat (e : Int)) text)) a e), 0)
  else none
  else none
  else none
  else none) = some (exitW text a e) := by
  rw [wi_id (by omega) (by omega), chk4 h2 h1]
  unfold exitW
  by_cases h : (e : Int) - (a : Int) > 16
  · rw [if_pos h, if_pos (show e - a > 16 by omega)]; rfl
  · rw [if_neg h, if_neg (show ¬ e - a > 16 by omega), words_ok, some_bind, among_ok _ _ (by decide), some_bind]
    have : wordsL.contains (List.drop (Int.toNat (a : Int)) (List.take (Int.toNat (e : Int)) text)) = isW ((text.take e).drop a) := rfl
    rw [this]
    cases isW ((text.take e).drop a) <;> rfl
theorem refWord_ok (text : Str) (hl : text.length ≤ 1000000) (a : Nat) (o4 : Token) : ∀ (k b : Nat), b + k = text.length → a ≤ b → ref05One_L4 text a b o4 = some (exitW text a (b + tw mor (text.drop b))) := by
  intro k
  induction k with
  | zero =>
    intro b hb hab
    rw [ref05One_L4_eq]; unfold ref05One_L4_B
    rw [if_neg (show ¬ (b : Int) < (List.length text : Int) by omega), List.drop_eq_nil_of_le (as := text) (i := b) (by omega)]
    exact exitW_ok text hl a b hab (by omega)
  | succ k ih =>
    intro b hb hab
    have h3 : b < text.length := by omega
    rw [ref05One_L4_eq]; unfold ref05One_L4_B
    have hgo : mor text[b] = true → ref05One_L4 text a (IntKind.wrap .i64 ((b : Int) + 1)) o4 = some (exitW text a (b + tw mor (text.drop b))) := fun hm => by
      rw [wi_id (by omega) (by omega), succ_cast, ih (b + 1) (by omega) (by omega), tw_drop _ h3, if_pos hm, show b + 1 + tw mor (List.drop (b + 1) text) = b + (tw mor (List.drop (b + 1) text) + 1) by omega]
    rw [if_pos (show (b : Int) < (List.length text : Int) by omega), idx_lt h3, some_bind, rltr_ok, some_bind]
    cases h1 : ltr text[b] with
    | true => rw [if_pos rfl]; exact hgo (by unfold mor; rw [h1]; rfl)
    | false =>
      rw [if_neg (by simp), some_bind, rdgt_ok, some_bind]
      cases h2 : dgt text[b] with
      | true => rw [if_pos rfl]; exact hgo (by unfold mor; rw [h2]; simp)
      | false =>
        have hm : mor text[b] = false := by unfold mor; rw [h1, h2]; rfl
        rw [if_neg (by simp), tw_drop _ h3, hm]
        exact exitW_ok text hl a b hab (by omega)
def exitN (text : Str) (a e : Nat) : Token × Int :=
  match num ((text.take e).drop a) with
  | some n => (⟨2, n, [], a, e⟩, 0)
  | none => (zTok, 5)
theorem exitN_ok (text : Str) (hl : text.length ≤ 1000000) (a e : Nat) (h1 : a < e) (h2 : e ≤ text.length) (hd : ∀ c ∈ (text.take e).drop a, dgt c = true) :
    (if (0 : Int) ≤ (e : Int) then
  if Int.toNat (e : Int) ≤ List.length text then
  if (0 : Int) ≤ (a : Int) then
  if Int.toNat (a : Int) ≤ Int.toNat (e : Int) then
  ref05Number (List.drop (Int.toNat (a : Int)) (List.take (Int.toNat (e : Int)) text)) >>= fun q3 =>
  if q3.2 = true then
    some ((Token.mk 2 q3.1 ([] : List UInt8) a e), 0)
  else
  some ((Token.mk 0 0 ([] : List UInt8) 0 0), 5)
  else none
  else none
  else none
  else none) = some (exitN text a e) := by
  rw [chk4 h2 (Nat.le_of_lt h1), show Int.toNat (a : Int) = a from rfl, show Int.toNat (e : Int) = e from rfl]
  have hlen : ((text.take e).drop a).length = e - a := by simp; omega
  rw [rnum_ok _ hd (by omega) (by omega), some_bind]
  unfold exitN
  cases num ((text.take e).drop a) <;> rfl
theorem refNum_ok (text : Str) (hl : text.length ≤ 1000000) (a : Nat) (o4 : Token) : ∀ (k b : Nat), b + k = text.length → a ≤ b → a < b + tw dgt (text.drop b) → (∀ c ∈ (text.take (b + tw dgt (text.drop b))).drop a, dgt c = true) →
    ref05One_L13 text a b o4 = some (exitN text a (b + tw dgt (text.drop b))) := by
  intro k
  induction k with
  | zero =>
    intro b hb hab hlt hd
    rw [ref05One_L13_eq]; unfold ref05One_L13_B
    have h1 : text.drop b = [] := List.drop_eq_nil_of_le (by omega)
    rw [h1] at hlt hd ⊢
    rw [if_neg (show ¬ (b : Int) < (List.length text : Int) by omega)]
    exact exitN_ok text hl a b hlt (by omega) hd
  | succ k ih =>
    intro b hb hab hlt hd
    have h3 : b < text.length := by omega
    rw [ref05One_L13_eq]; unfold ref05One_L13_B
    rw [if_pos (show (b : Int) < (List.length text : Int) by omega), idx_lt h3, some_bind, rdgt_ok, some_bind]
    rw [tw_drop _ h3] at hlt hd ⊢
    cases h1 : dgt text[b] with
    | true =>
      rw [h1, if_pos rfl] at hlt hd
      rw [if_pos rfl, if_pos rfl, wi_id (by omega) (by omega), succ_cast]
      have e : b + (tw dgt (List.drop (b + 1) text) + 1) = b + 1 + tw dgt (List.drop (b + 1) text) := by omega
      rw [e] at hlt hd ⊢
      exact ih (b + 1) (by omega) (by omega) hlt hd
    | false =>
      rw [h1] at hlt hd
      simp only [Bool.false_eq_true, if_false, Nat.add_zero] at hlt hd ⊢
      exact exitN_ok text hl a b hlt (by omega) hd
/-- the reference's token -/
theorem refOne_ok (text : Str) (hl : text.length ≤ 1000000) (a : Nat) (ha : a < text.length) :
    ref05One text a = some (match one (text.drop a) with | .inl e => (zTok, e) | .inr (k, n, s, l) => (⟨k, n, s, a, ((a + l : Nat) : Int)⟩, 0)) := by
  have hd := List.drop_eq_getElem_cons ha
  unfold ref05One
  rw [idx_lt ha, some_bind, rltr_ok, some_bind]
  have hle := tw_le mor (text.drop a)
  have hle2 := tw_le dgt (text.drop a)
  rw [List.length_drop] at hle hle2
  cases h1 : ltr text[a] with
  | true =>
    rw [if_pos rfl, refWord_ok text hl a _ (text.length - a) a (by omega) (by omega)]
    have hone : one (text.drop a) = if tw mor (text.drop a) > 16 then .inl 3 else .inr (if isW ((text.drop a).take (tw mor (text.drop a))) = true then 3 else 1, 0, (text.drop a).take (tw mor (text.drop a)), tw mor (text.drop a)) := by
      conv => lhs; rw [hd, one, if_pos h1, ← hd]
    unfold exitW
    rw [hone, slice_eq, show a + tw mor (text.drop a) - a = tw mor (text.drop a) by omega]
    by_cases h2 : tw mor (text.drop a) > 16
    · rw [if_pos h2, if_pos h2]
    · rw [if_neg h2, if_neg h2]
  | false =>
    rw [if_neg (by simp), rdgt_ok, some_bind]
    cases h2 : dgt text[a] with
    | true =>
      have hpos : 1 ≤ tw dgt (text.drop a) := by rw [tw_drop _ ha, if_pos h2]; omega
      have hone : one (text.drop a) = match num ((text.drop a).take (tw dgt (text.drop a))) with | none => .inl 5 | some n => .inr (2, (n : Int), [], tw dgt (text.drop a)) := by
        conv => lhs; rw [hd, one, if_neg (by rw [h1]; simp), if_pos h2, ← hd]
        cases num ((text.drop a).take (tw dgt (text.drop a))) <;> rfl
      rw [if_pos rfl, refNum_ok text hl a _ (text.length - a) a (by omega) (by omega) (by omega) (by rw [slice_eq]; exact tw_all dgt _)]
      unfold exitN
      rw [hone, slice_eq]
      cases num ((text.drop a).take (tw dgt (text.drop a))) <;> rfl
    | false =>
      have hone : one (text.drop a) = if sgn text[a].toNat (hd0 (text.drop (a + 1))) = 0 then .inl 4 else .inr (4, 0, (text.drop a).take (sgn text[a].toNat (hd0 (text.drop (a + 1)))), sgn text[a].toNat (hd0 (text.drop (a + 1)))) := by
        conv => lhs; rw [hd, one, if_neg (by rw [h1]; simp), if_neg (by rw [h2]; simp), ← hd]
      rw [if_neg (by simp), signs_ok, some_bind]
      have := signLoop_ok text hl a (by omega) (Token.mk 0 0 ([] : List UInt8) 0 0) signsL.length 0 (by omega)
      rw [show ((0 : Nat) : Int) = 0 from rfl, List.drop_zero] at this
      rw [this]
      have hf := find_sign text[a] (text.drop (a + 1))
      rw [← hd] at hf
      rw [hone]
      cases hfx : (signsL.find? fun x => bg x (text.drop a)) with
      | none =>
        rw [hfx] at hf
        by_cases h3 : sgn text[a].toNat (hd0 (text.drop (a + 1))) = 0
        · rw [if_pos h3]; rfl
        · rw [if_neg h3] at hf; cases hf
      | some x =>
        rw [hfx] at hf
        have hb := bg_take (s := x) (l := text.drop a) (List.find?_some (p := fun x => bg x (text.drop a)) hfx)
        by_cases h3 : sgn text[a].toNat (hd0 (text.drop (a + 1))) = 0
        · rw [if_pos h3] at hf; cases hf
        · rw [if_neg h3] at hf ⊢
          simp only [Option.map_some, Option.some.injEq] at hf
          rw [← hf]
          simp only []
          rw [← hb]

/-! all tokens -/
/-- the tokens of a text from a place on at which neither a blank nor a comment is: them, or the place and what is wrong -/
def toks : Nat → List UInt8 → Nat → List Token → List Token × Int × Int
  | 0, _, _, _ => ([], 0, 0)
  | n + 1, s, a, out => match s with
    | [] => (out ++ [⟨5, 0, [], a, a⟩], 0, 0)
    | c :: r => match one (c :: r) with
      | .inl e => ([], a, e)
      | .inr (k, m, t, l) => toks n (((c :: r).drop l).drop (nxt 10000 ((c :: r).drop l))) (a + l + nxt 10000 ((c :: r).drop l)) (out ++ [⟨k, m, t, a, ((a + l : Nat) : Int)⟩])
theorem toks_ok (text : Str) (hl : text.length ≤ 9000) : ∀ (n a : Nat) (out : List Token), text.length < a + n → a ≤ text.length → out.length ≤ a →
    ref05Tokens_L5 text out a = some (toks n (text.drop a) a out) ∧ ∃ hh, lex_Tokens_L5 text text a out = some ((toks n (text.drop a) a out).1, (toks n (text.drop a) a out).2.1, (toks n (text.drop a) a out).2.2, hh) := by
  intro n
  induction n with
  | zero => intro a out h1 h2; omega
  | succ n ih =>
    intro a out h1 h2 ho
    rw [ref05Tokens_L5_eq, lex_Tokens_L5_eq]; unfold ref05Tokens_L5_B lex_Tokens_L5_B
    by_cases ha : a < text.length
    · have hd := List.drop_eq_getElem_cons ha
      have hr := refOne_ok text (by omega) a ha
      rw [if_pos (show (a : Int) < (List.length text : Int) by omega), if_pos (show (a : Int) < (List.length text : Int) by omega), hr, some_bind]
      have ht : toks (n + 1) (text.drop a) a out = match one (text.drop a) with
        | .inl e => ([], (a : Int), e)
        | .inr (k, m, t, l) => toks n (((text.drop a).drop l).drop (nxt 10000 ((text.drop a).drop l))) (a + l + nxt 10000 ((text.drop a).drop l)) (out ++ [⟨k, m, t, a, ((a + l : Nat) : Int)⟩]) := by
        rw [hd, toks]
      rw [ht]
      rcases one_ok text (by omega) a ha out (by omega) with ⟨k, m, t, l, e1, e2⟩ | ⟨e, a', e1, e0, e2⟩
      · have hlen := one_len e1
        rw [List.length_drop] at hlen
        rw [e1, e2, some_bind]
        simp only []
        rw [if_pos True.intro, if_pos True.intro, if_pos (show roomy 48 (List.length out + List.length [(⟨k, m, t, a, ((a + l : Nat) : Int)⟩ : Token)]) by unfold roomy; simp; omega)]
        unfold ref05Next lex_reader_skip
        have hle := nxt_le 10000 (text.drop (a + l))
        rw [List.length_drop] at hle
        rw [(next_ok text (by omega) 10000 (a + l) (by omega) (by omega)).1, skip_ok text (by omega) _ 10000 (a + l) (by omega) (by omega), some_bind, some_bind, show (text.drop a).drop l = text.drop (a + l) from List.drop_drop .., List.drop_drop (l := text)]
        exact ih (a + l + nxt 10000 (text.drop (a + l))) (out ++ [(⟨k, m, t, a, ((a + l : Nat) : Int)⟩ : Token)]) (by omega) (by omega) (by simp only [List.length_append, List.length_cons, List.length_nil]; omega)
      · rw [e1, e2, some_bind]
        simp only []
        rw [if_neg e0, if_neg e0]
        exact ⟨rfl, _, rfl⟩
    · have h4 : text.drop a = [] := List.drop_eq_nil_of_le (by omega)
      have h5 : a = text.length := by omega
      rw [if_neg (show ¬ (a : Int) < (List.length text : Int) by omega), if_neg (show ¬ (a : Int) < (List.length text : Int) by omega), h4, toks]
      rw [if_pos (show roomy 48 (List.length out + List.length [(⟨5, 0, [], (List.length text : Int), (List.length text : Int)⟩ : Token)]) by unfold roomy; simp; omega), put_ok5 _ _ _ _ _ _ _ (by omega), some_bind, h5]
      exact ⟨rfl, _, rfl⟩
/-- the tokens of a text, or the place and what is wrong -/
def lexes (text : Str) : List Token × Int × Int := if text.length > 8192 then ([], 0, 3) else toks 10000 (text.drop (nxt 10000 text)) (nxt 10000 text) []
theorem tokens_ok (text : Str) (h : text.length ≤ 9223372036854775807) : ref05Tokens text = some (lexes text) ∧ ∃ hh, lex_Tokens text = some ((lexes text).1, (lexes text).2.1, (lexes text).2.2, hh) := by
  unfold ref05Tokens lex_Tokens lexes
  by_cases h1 : (List.length text : Int) > 8192
  · rw [if_pos h1, if_pos h1, if_pos (show text.length > 8192 by omega)]
    exact ⟨rfl, _, rfl⟩
  · rw [if_neg h1, if_neg h1, if_neg (show ¬ text.length > 8192 by omega)]
    unfold ref05Next lex_reader_skip
    have hle := nxt_le 10000 text
    have e1 := (next_ok text (by omega) 10000 0 (by omega) (by omega)).1
    have e2 := skip_ok text (by omega) [] 10000 0 (by omega) (by omega)
    rw [show ((0 : Nat) : Int) = 0 from rfl, List.drop_zero, Nat.zero_add] at e1 e2
    rw [e1, e2, some_bind, some_bind]
    exact toks_ok text (by omega) 10000 (nxt 10000 text) [] (by omega) (by omega) (by simp)
theorem lexAwake_ok : law05awake = some true := by
  unfold law05awake
  obtain ⟨hh, e⟩ := (tokens_ok [97, 32, 49] (by decide)).2
  rw [e]
  have : lexes [97, 32, 49] = ([⟨1, 0, [97], 0, 1⟩, ⟨2, 1, [], 2, 3⟩, ⟨5, 0, [], 3, 3⟩], 0, 0) := by rfl
  rw [this]; rfl
end Go.Proofs.Ytdpecjiflalkmaa.M
