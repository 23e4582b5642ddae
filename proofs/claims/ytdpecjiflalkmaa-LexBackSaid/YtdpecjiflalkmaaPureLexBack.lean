/- LexBack, as a plain law. -/
import Derived.Test.YtdpecjiflalkmaaP05e
import Derived.Test.YtdpecjiflalkmaaWf
namespace Go.Proofs.Ytdpecjiflalkmaa.M
open Go Nt
set_option linter.unusedVariables false
set_option linter.unusedSimpArgs false
/-- what may stand behind a token: nothing, or a blank -/
abbrev Gap (b : List UInt8) : Prop := b = [] ∨ ∃ r, b = 32 :: r
/-- these bytes are that token, whatever stands behind -/
def Tok (k n : Int) (t : Str) (w : List UInt8) : Prop := ∀ b, Gap b → one (w ++ b) = .inr (k, n, t, w.length)
theorem tw_app (p : UInt8 → Bool) (hp : p 32 = false) {b : List UInt8} (hb : Gap b) : ∀ w : List UInt8, (∀ c ∈ w, p c = true) → tw p (w ++ b) = w.length
  | [], _ => by
    rcases hb with rfl | ⟨r, rfl⟩
    · rfl
    · simp [tw, hp]
  | c :: w, h => by
    rw [List.cons_append, tw, if_pos (h c (by simp)), tw_app p hp hb w fun x hx => h x (by simp [hx])]; rfl
theorem hd0_gap {b : List UInt8} (hb : Gap b) : hd0 b = 0 ∨ hd0 b = 32 := by
  rcases hb with rfl | ⟨r, rfl⟩
  · exact .inl rfl
  · exact .inr rfl
theorem sgn_gap {c d e : Nat} (h : sgn c d = 1) (he : e = 0 ∨ e = 32) : sgn c e = 1 := by
  unfold sgn at h ⊢
  split at h
  · rename_i h1; rw [if_pos h1, if_neg (by omega)]
  · rename_i h1
    rw [if_neg h1]
    split at h
    · split at h <;> omega
    · rename_i h2; rw [if_neg h2]; exact h
theorem sgn_le (c d : Nat) : sgn c d ≤ 2 := by unfold sgn; (repeat' split) <;> omega
theorem one_tok {s : List UInt8} {k n : Int} {t : Str} {l : Nat} (h : one s = .inr (k, n, t, l)) : Tok k n t (s.take l) ∧ (s.take l).length = l := by
  have hlen := one_len h
  have hl : (s.take l).length = l := by rw [List.length_take]; omega
  refine ⟨fun b hb => ?_, hl⟩
  rw [hl]
  cases s with
  | nil => simp [one] at h
  | cons c r =>
    rw [one] at h
    by_cases h1 : ltr c = true
    · rw [if_pos h1] at h
      by_cases h2 : tw mor (c :: r) > 16
      · rw [if_pos h2] at h; cases h
      · rw [if_neg h2] at h
        injection h with h; injection h with e1 h; injection h with e2 h; injection h with e3 h
        have hall := tw_all mor (c :: r)
        rw [h] at hall
        have htw := tw_app mor (by decide) hb ((c :: r).take l) hall
        rw [hl] at htw
        have hw : ((c :: r).take l ++ b).take l = (c :: r).take l := by rw [List.take_append_of_le_length (by omega), List.take_of_length_le (by omega)]
        obtain ⟨l', rfl⟩ : ∃ l', l = l' + 1 := ⟨l - 1, by omega⟩
        rw [List.take_succ_cons, List.cons_append] at htw hw ⊢
        rw [one, if_pos h1, htw, if_neg (by omega), hw, ← List.take_succ_cons, ← e3, h]
        subst e1; subst e2; rw [h]
    · rw [if_neg h1] at h
      by_cases h2 : dgt c = true
      · rw [if_pos h2] at h
        cases hn : num ((c :: r).take (tw dgt (c :: r))) with
        | none => rw [hn] at h; cases h
        | some m =>
          rw [hn] at h
          injection h with h; injection h with e1 h; injection h with e2 h; injection h with e3 h
          have hall := tw_all dgt (c :: r)
          rw [h] at hall hn
          have htw := tw_app dgt (by decide) hb ((c :: r).take l) hall
          rw [hl] at htw
          have hw : ((c :: r).take l ++ b).take l = (c :: r).take l := by rw [List.take_append_of_le_length (by omega), List.take_of_length_le (by omega)]
          obtain ⟨l', rfl⟩ : ∃ l', l = l' + 1 := ⟨l - 1, by omega⟩
          rw [List.take_succ_cons, List.cons_append] at htw hw ⊢
          rw [List.take_succ_cons] at hn
          rw [one, if_neg h1, if_pos h2, htw, hw, hn]
          subst e1; subst e2; subst e3; rfl
      · rw [if_neg h2] at h
        by_cases h3 : sgn c.toNat (hd0 r) = 0
        · rw [if_pos h3] at h; cases h
        · rw [if_neg h3] at h
          injection h with h; injection h with e1 h; injection h with e2 h; injection h with e3 h
          have hle := sgn_le c.toNat (hd0 r)
          have h12 : l = 1 ∨ l = 2 := by omega
          rcases h12 with rfl | rfl
          · have hs := sgn_gap h (hd0_gap hb)
            rw [List.take_succ_cons, List.take_zero, List.cons_append, List.nil_append, one, if_neg h1, if_neg h2, hs, if_neg (by decide)]
            rw [h] at e3
            subst e1; subst e2; subst e3; rfl
          · cases r with
            | nil => simp at hlen
            | cons d r' =>
              have hs : sgn c.toNat (hd0 (d :: b)) = 2 := h
              rw [show (c :: d :: r').take 2 ++ b = c :: d :: b from rfl, one, if_neg h1, if_neg h2, hs, if_neg (by decide)]
              rw [h] at e3
              subst e1; subst e2; subst e3; rfl
theorem tok_nxt {k n : Int} {t : Str} {w : List UInt8} (h : Tok k n t w) {b : List UInt8} (hb : Gap b) (m : Nat) : nxt m (w ++ b) = 0 := by
  have h1 := h b hb
  cases m with
  | zero => rfl
  | succ m =>
    cases w with
    | nil => have := one_len h1; simp at this
    | cons c w =>
      rw [List.cons_append] at h1 ⊢
      rw [nxt]
      have hnb : blk c = false := by
        cases hbk : blk c with
        | false => rfl
        | true =>
          exfalso
          unfold blk at hbk
          simp only [Bool.or_eq_true, beq_iff_eq] at hbk
          rw [one, if_neg, if_neg] at h1
          · have hs : sgn c.toNat (hd0 (w ++ b)) = 0 := by
              unfold sgn
              rw [if_neg (by omega), if_neg (by omega), if_neg]
              rcases hbk with ((hbk | hbk) | hbk) | hbk <;> rw [hbk] <;> decide
            rw [if_pos hs] at h1; cases h1
          · unfold dgt; simp; omega
          · unfold ltr; simp; omega
      rw [if_neg (by rw [hnb]; simp), if_neg]
      rintro ⟨h47, hh⟩
      rw [one, if_neg, if_neg] at h1
      · have hs : sgn c.toNat (hd0 (w ++ b)) = 1 := by
          unfold sgn
          rw [if_neg (by omega), if_neg (by omega), h47]; rfl
        rw [hs, if_neg (by decide)] at h1
        injection h1 with h1; injection h1 with _ h1; injection h1 with _ h1; injection h1 with _ h1
        have hw : w = [] := by simpa using h1.symm
        subst hw
        rw [List.nil_append] at hh
        rcases hb with rfl | ⟨r, rfl⟩
        · simp [hdIs] at hh
        · simp [hdIs] at hh
      · unfold dgt; simp; omega
      · unfold ltr; simp; omega
/-- words, a blank ahead of each -/
def jn : List (List UInt8) → List UInt8
  | [] => []
  | w :: r => 32 :: (w ++ jn r)
theorem jn_gap (l : List (List UInt8)) : Gap (jn l) := by
  cases l with
  | nil => exact .inl rfl
  | cons w r => exact .inr ⟨_, rfl⟩
def body : List (List UInt8) → List UInt8
  | [] => []
  | w :: r => w ++ jn r
/-- tokens, the end behind, and their spellings -/
def Spelt : List Token → List (List UInt8) → Prop
  | x :: r, w :: ws => (Tok x.K x.N x.S w ∧ lex_Spell x = some w ∧ w.length ≤ 9000) ∧ Spelt r ws
  | [x], [] => x.K = 5 ∧ x.N = 0 ∧ x.S = []
  | _, _ => False
def Like : List Token → List Token → Prop
  | [], [] => True
  | x :: r, y :: s => (x.K = y.K ∧ x.N = y.N ∧ x.S = y.S) ∧ Like r s
  | _, _ => False
theorem body_nxt {r : List Token} {ws : List (List UInt8)} (h : Spelt r ws) (m : Nat) : nxt m (body ws) = 0 := by
  cases ws with
  | nil => cases m <;> rfl
  | cons w ws =>
    cases r with
    | nil => exact h.elim
    | cons x r => exact tok_nxt h.1.1 (jn_gap ws) m
theorem reread : ∀ (ws : List (List UInt8)) (r : List Token), Spelt r ws → ∀ (n a : Nat) (out : List Token), ws.length < n → ∃ ys, toks n (body ws) a out = (out ++ ys, 0, 0) ∧ Like r ys
  | [], [], h, _, _, _, _ => h.elim
  | [], [x], h, n, a, out, hn => by
    obtain ⟨n, rfl⟩ : ∃ m, n = m + 1 := ⟨n - 1, by omega⟩
    obtain ⟨e1, e2, e3⟩ := h
    exact ⟨[⟨5, 0, [], a, a⟩], rfl, ⟨e1, e2, e3⟩, trivial⟩
  | [], _ :: _ :: _, h, _, _, _, _ => h.elim
  | w :: ws, [], h, _, _, _, _ => h.elim
  | w :: ws, x :: r, ⟨⟨h1, h2, h3⟩, h4⟩, n, a, out, hn => by
    obtain ⟨n, rfl⟩ : ∃ m, n = m + 1 := ⟨n - 1, by simp only [List.length_cons] at hn; omega⟩
    have ho := h1 _ (jn_gap ws)
    have hne := one_len ho
    have hbody : body (w :: ws) = w ++ jn ws := rfl
    have ht : ∀ s : List UInt8, s ≠ [] → toks (n + 1) s a out = match one s with
        | .inl e => ([], (a : Int), e)
        | .inr (k, m, t, l) => toks n ((s.drop l).drop (nxt 10000 (s.drop l))) (a + l + nxt 10000 (s.drop l)) (out ++ [⟨k, m, t, a, ((a + l : Nat) : Int)⟩]) := fun s hs => by
      cases s with
      | nil => exact absurd rfl hs
      | cons c q =>
        rw [toks]
        rcases one (c :: q) with e | ⟨k, m, t, l⟩ <;> rfl
    rw [hbody, ht _ (fun e => by have h9 := congrArg List.length e; simp only [List.length_append, List.length_nil] at h9; omega), ho]
    dsimp only
    rw [List.drop_left]
    have hsk : (jn ws).drop (nxt 10000 (jn ws)) = body ws := by
      cases ws with
      | nil => rfl
      | cons v vs =>
        have : nxt 10000 (jn (v :: vs)) = nxt 9999 (body (v :: vs)) + 1 := by rw [jn, nxt, if_pos (by decide)]; rfl
        rw [this, body_nxt h4]; rfl
    rw [hsk]
    obtain ⟨ys, e1, e2⟩ := reread ws r h4 n (a + w.length + nxt 10000 (jn ws)) (out ++ [⟨x.K, x.N, x.S, a, ((a + w.length : Nat) : Int)⟩]) (by simp at hn; omega)
    exact ⟨⟨x.K, x.N, x.S, a, ((a + w.length : Nat) : Int)⟩ :: ys, by rw [e1]; simp, ⟨rfl, rfl, rfl⟩, e2⟩
theorem Like.len : ∀ {x y : List Token}, Like x y → x.length = y.length
  | [], [], _ => rfl
  | _ :: _, _ :: _, h => by rw [List.length_cons, List.length_cons, Like.len h.2]
  | [], _ :: _, h => h.elim
  | _ :: _, [], h => h.elim
theorem likeLoop (x y : List Token) (hx : x.length ≤ 1000000) : ∀ (r s : List Token) (i : Nat), Like r s → x.drop i = r → y.drop i = s → r.length + i = x.length → law05LexBack_L17 x y i = some true
  | [], s, i, h, hr, hs, hl => by
    rw [law05LexBack_L17_eq]; unfold law05LexBack_L17_B
    rw [if_neg (show ¬ (i : Int) < (x.length : Int) by simp at hl; omega), lexAwake_ok]; rfl
  | u :: r, [], i, h, _, _, _ => h.elim
  | u :: r, v :: s, i, ⟨⟨h1, h2, h3⟩, h4⟩, hr, hs, hl => by
    have hi : i < x.length := by simp at hl; omega
    have g : ∀ (l : List Token) (q : Token) (t : List Token), l.drop i = q :: t → idx l (i : Int) = some q ∧ l.drop (i + 1) = t := fun l q t he => by
      have e1 := congrArg (·[0]?) he
      have e2 := congrArg (List.drop 1) he
      have hil : i < l.length := by
        rcases Nat.lt_or_ge i l.length with h | h
        · exact h
        · rw [List.drop_eq_nil_of_le h] at he; cases he
      refine ⟨?_, by simpa [Nat.add_comm] using e2⟩
      rw [idx_lt hil]
      have : l[i]? = some q := by simpa using e1
      rw [List.getElem?_eq_getElem hil] at this
      exact this
    obtain ⟨a1, a2⟩ := g x u r hr
    obtain ⟨b1, b2⟩ := g y v s hs
    rw [law05LexBack_L17_eq]; unfold law05LexBack_L17_B
    rw [if_pos (show (i : Int) < (x.length : Int) by omega), a1, b1]
    simp only [some_bind]
    rw [if_pos h1, if_pos h2, if_pos h3, wi_id (by omega) (by omega), succ_cast]
    exact likeLoop x y hx r s (i + 1) h4 a2 b2 (by simp at hl; omega)
theorem Spelt.len : ∀ {r : List Token} {ws : List (List UInt8)}, Spelt r ws → r.length = ws.length + 1
  | _ :: _, _ :: _, h => by rw [List.length_cons, Spelt.len h.2]; rfl
  | [_], [], _ => rfl
  | [], _, h => h.elim
  | _ :: _ :: _, [], h => h.elim
theorem last_ok (x : List Token) (hx : x.length ≤ 20000) (ws : List (List UInt8)) (hs : Spelt x ws) :
    (if ((body ws).length : Int) > 8192 then law05awake >>= fun q4 => some q4 else lex_Tokens (body ws) >>= fun q5 => if q5.2.2.1 = 0 then (if (x.length : Int) = (q5.1.length : Int) then law05LexBack_L17 x q5.1 0 else some false) else some false) = some true := by
  by_cases h : ((body ws).length : Int) > 8192
  · rw [if_pos h, lexAwake_ok]; rfl
  · rw [if_neg h]
    obtain ⟨-, hh, e⟩ := tokens_ok (body ws) (by omega)
    have hws : ws.length ≤ (body ws).length + 1 := by
      cases ws with
      | nil => simp
      | cons w r =>
        have : ∀ l : List (List UInt8), l.length ≤ (jn l).length := by
          intro l
          induction l with
          | nil => simp
          | cons v l ih => rw [jn]; simp; omega
        have := this r
        simp [body]; omega
    have hle : lexes (body ws) = toks 10000 (body ws) 0 [] := by
      unfold lexes
      rw [if_neg (by omega), body_nxt hs, List.drop_zero]
    obtain ⟨ys, e1, e2⟩ := reread ws x hs 10000 0 [] (by omega)
    rw [e, hle, e1, some_bind]
    dsimp only
    rw [if_pos rfl, List.nil_append, if_pos (by rw [e2.len])]
    exact likeLoop x ys (by omega) x ys 0 e2 rfl rfl (by simp)
theorem backLoop (x : List Token) (hx : x.length ≤ 20000) (ws0 : List (List UInt8)) (hs0 : Spelt x ws0) : ∀ (ws : List (List UInt8)) (r : List Token) (i : Nat) (out : List UInt8), 1 ≤ i → Spelt r ws → x.drop i = r → r.length + i = x.length → out ++ jn ws = body ws0 → out.length + 9001 * r.length ≤ 1000000000 → law05LexBack_L6 x out i = some true := by
  intro ws
  have g : ∀ (i : Nat) (q : Token) (t : List Token), x.drop i = q :: t → i < x.length ∧ idx x (i : Int) = some q ∧ x.drop (i + 1) = t := fun i q t he => by
    have e1 := congrArg (·[0]?) he
    have e2 := congrArg (List.drop 1) he
    have hil : i < x.length := by
      rcases Nat.lt_or_ge i x.length with h | h
      · exact h
      · rw [List.drop_eq_nil_of_le h] at he; cases he
    refine ⟨hil, ?_, by simpa [Nat.add_comm] using e2⟩
    rw [idx_lt hil]
    have : x[i]? = some q := by simpa using e1
    rw [List.getElem?_eq_getElem hil] at this
    exact this
  induction ws with
  | nil =>
    intro r i out h1 hs hr hl ho hb
    cases r with
    | nil => exact hs.elim
    | cons y r =>
      cases r with
      | cons z r => exact hs.elim
      | nil =>
        obtain ⟨hi, hy, hr'⟩ := g i y [] hr
        obtain ⟨k1, k2, k3⟩ := hs
        have hsp : lex_Spell y = some [] := by unfold lex_Spell; rw [k1, if_neg (by decide), if_neg (by decide), if_neg (by decide), if_neg (by decide)]
        simp only [List.length_cons, List.length_nil] at hl hb
        rw [law05LexBack_L6_eq]; unfold law05LexBack_L6_B
        rw [if_pos (show (i : Int) < (x.length : Int) by omega), if_pos (show (i : Int) > 0 by omega), wi_id (n := (x.length : Int) - 1) (by omega) (by omega), if_neg (show ¬ (i : Int) < (x.length : Int) - 1 by omega), hy]
        simp only [some_bind, hsp]
        rw [if_pos (by simp; omega), wi_id (by omega) (by omega), succ_cast, List.append_nil]
        rw [law05LexBack_L6_eq]; unfold law05LexBack_L6_B
        rw [if_neg (show ¬ ((i + 1 : Nat) : Int) < (x.length : Int) by omega)]
        have : out = body ws0 := by rw [← ho]; simp [jn]
        rw [this]
        exact last_ok x hx ws0 hs0
  | cons w ws ih =>
    intro r i out h1 hs hr hl ho hb
    cases r with
    | nil => exact hs.elim
    | cons y r =>
      obtain ⟨⟨k1, k2, k3⟩, k4⟩ := hs
      have hrl := k4.len
      obtain ⟨hi, hy, hr'⟩ := g i y r hr
      simp only [List.length_cons] at hl hb
      rw [law05LexBack_L6_eq]; unfold law05LexBack_L6_B
      rw [if_pos (show (i : Int) < (x.length : Int) by omega), if_pos (show (i : Int) > 0 by omega), wi_id (n := (x.length : Int) - 1) (by omega) (by omega), if_pos (show (i : Int) < (x.length : Int) - 1 by omega), if_pos (show out.length + ([32] : List UInt8).length ≤ 9223372036854775807 by simp; omega), hy]
      simp only [some_bind, k2]
      rw [if_pos (show (out ++ ([32] : List UInt8)).length + w.length ≤ 9223372036854775807 by simp; omega), wi_id (by omega) (by omega), succ_cast]
      refine ih r (i + 1) _ (by omega) k4 hr' (by omega) ?_ (by simp; omega)
      rw [← ho, jn]; simp
theorem toks_spelt (text : List UInt8) (ht : text.length ≤ 9000) : ∀ (n a : Nat) (out : List Token), text.length < a + n → a ≤ text.length → (toks n (text.drop a) a out).2.2 = 0 → ∃ r ws, (toks n (text.drop a) a out).1 = out ++ r ∧ Spelt r ws := by
  intro n
  induction n with
  | zero => intro a out h1 h2; omega
  | succ n ih =>
    intro a out h1 h2 he
    by_cases ha : a < text.length
    · have hd := List.drop_eq_getElem_cons ha
      have hto : toks (n + 1) (text.drop a) a out = match one (text.drop a) with
        | .inl e => ([], (a : Int), e)
        | .inr (k, m, t, l) => toks n (((text.drop a).drop l).drop (nxt 10000 ((text.drop a).drop l))) (a + l + nxt 10000 ((text.drop a).drop l)) (out ++ [⟨k, m, t, a, ((a + l : Nat) : Int)⟩]) := by
        rw [hd, toks]
        rcases one (text[a] :: text.drop (a + 1)) with e | ⟨k, m, t, l⟩ <;> rfl
      rw [hto] at he ⊢
      cases ho : one (text.drop a) with
      | inl e =>
        rw [ho] at he
        exfalso
        have he2 : e = 0 := he
        rw [hd] at ho
        rw [one] at ho
        subst he2
        revert ho
        repeat' split
        all_goals (intro ho; first | (injection ho with ho; omega) | cases ho)
      | inr q =>
        obtain ⟨k, m, t, l⟩ := q
        rw [ho] at he
        dsimp only at he ⊢
        have hlen := one_len ho
        rw [List.length_drop] at hlen
        have hle := nxt_le 10000 (text.drop (a + l))
        rw [List.length_drop] at hle
        rw [show (text.drop a).drop l = text.drop (a + l) from List.drop_drop .., List.drop_drop (l := text)] at he ⊢
        obtain ⟨r, ws, e1, e2⟩ := ih (a + l + nxt 10000 (text.drop (a + l))) _ (by omega) (by omega) he
        obtain ⟨g1, g2⟩ := one_tok ho
        exact ⟨⟨k, m, t, a, ((a + l : Nat) : Int)⟩ :: r, (text.drop a).take l :: ws, by rw [e1]; simp, ⟨g1, one_spell ho _ _, by rw [g2]; omega⟩, e2⟩
    · have h4 : text.drop a = [] := List.drop_eq_nil_of_le (by omega)
      rw [h4, toks]
      exact ⟨[⟨5, 0, [], a, a⟩], [], rfl, rfl, rfl, rfl⟩
theorem toks_len : ∀ (n : Nat) (s : List UInt8) (a : Nat) (out : List Token), (toks n s a out).1.length ≤ out.length + n
  | 0, _, _, _ => by simp [toks]
  | n + 1, [], a, out => by simp [toks]
  | n + 1, c :: r, a, out => by
    rw [toks]
    split
    · simp
    · rename_i k m t l _
      have := toks_len n (((c :: r).drop l).drop (nxt 10000 ((c :: r).drop l))) (a + l + nxt 10000 ((c :: r).drop l)) (out ++ [⟨k, m, t, a, ((a + l : Nat) : Int)⟩])
      rw [List.length_append] at this
      simp only [List.length_cons, List.length_nil] at this
      omega
def hdW : List (List UInt8) → List UInt8
  | [] => []
  | w :: _ => w
theorem lexBackLaw (x0 : Str) (w0 : x0.length ≤ 9223372036854775807) : law05LexBack x0 = some true := by
  unfold law05LexBack
  obtain ⟨-, hh, e2⟩ := tokens_ok x0 w0
  rw [e2, some_bind, lexAwake_ok]
  by_cases he : (lexes x0).2.2 = 0
  · rw [if_pos he]
    unfold lexes at he ⊢
    by_cases h1 : x0.length > 8192
    · rw [if_pos h1] at he; cases he
    · rw [if_neg h1] at he ⊢
      have hle := nxt_le 10000 x0
      obtain ⟨r, ws, e1, h3⟩ := toks_spelt x0 (by omega) 10000 (nxt 10000 x0) [] (by omega) (by omega) he
      have hl := toks_len 10000 (x0.drop (nxt 10000 x0)) (nxt 10000 x0) []
      rw [e1, List.nil_append] at hl ⊢
      simp only [List.length_nil, Nat.zero_add] at hl
      have h0 := h3
      have hlen := h3.len
      cases r with
      | nil => exact h3.elim
      | cons y r =>
        have hsp : lex_Spell y = some (hdW ws) := by
          cases ws with
          | nil =>
            cases r with
            | nil =>
              obtain ⟨k1, k2, k3⟩ := h3
              unfold lex_Spell; rw [k1, if_neg (by decide), if_neg (by decide), if_neg (by decide), if_neg (by decide)]; rfl
            | cons z r => exact h3.elim
          | cons w ws => exact h3.1.2.1
        have i0 : idx (y :: r) 0 = some y := rfl
        have hwl : (hdW ws).length ≤ 9000 := by
          cases ws with
          | nil => simp [hdW]
          | cons w ws => exact h3.1.2.2
        rw [law05LexBack_L6_eq]; unfold law05LexBack_L6_B
        rw [if_pos (show (0 : Int) < ((y :: r).length : Int) by simp only [List.length_cons]; omega), if_neg (by decide), i0]
        simp only [some_bind, hsp]
        rw [if_pos (by simp; omega), show IntKind.wrap .i64 (0 + 1) = ((1 : Nat) : Int) from rfl, List.nil_append]
        cases ws with
        | nil =>
          simp only [List.length_nil, List.length_cons] at hlen
          rw [law05LexBack_L6_eq]; unfold law05LexBack_L6_B
          rw [if_neg (show ¬ ((1 : Nat) : Int) < ((y :: r).length : Int) by simp; omega)]
          exact last_ok (y :: r) (by omega) [] h0
        | cons w ws =>
          refine backLoop (y :: r) (by omega) (w :: ws) h0 ws r 1 w (Nat.le_refl _) ?_ rfl (by simp) rfl ?_
          · exact h3.2
          · have hw9 : w.length ≤ 9000 := hwl
            simp only [List.length_cons] at hl; omega
  · rw [if_neg he]; rfl
end Go.Proofs.Ytdpecjiflalkmaa.M
