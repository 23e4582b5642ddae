/- LexSpells, as a plain law. -/
import Derived.Test.YtdpecjiflalkmaaP05e
import Derived.Test.YtdpecjiflalkmaaWf
namespace Go.Proofs.Ytdpecjiflalkmaa.M
open Go Nt
set_option linter.unusedVariables false
/-- each token is spelt as its bytes, from a place on; the last one is the end -/
def Chain (text : List UInt8) : Nat → List Token → Prop
  | _, [] => False
  | a, x :: r => ∃ f t : Nat, x.From = (f : Int) ∧ x.To = (t : Int) ∧ a ≤ f ∧ f ≤ t ∧ t ≤ text.length ∧ lex_Spell x = some ((text.take t).drop f) ∧ ((r = [] ∧ x.K = 5) ∨ Chain text t r)
theorem Chain.mono {text : List UInt8} {a b : Nat} (h : b ≤ a) : ∀ {l : List Token}, Chain text a l → Chain text b l
  | [], h => h
  | x :: r, ⟨f, t, h1, h2, h3, h4⟩ => ⟨f, t, h1, h2, by omega, h4⟩
theorem toks_chain (text : List UInt8) : ∀ (n a : Nat) (out : List Token), text.length < a + n → a ≤ text.length → (toks n (text.drop a) a out).2.2 = 0 → ∃ r, (toks n (text.drop a) a out).1 = out ++ r ∧ Chain text a r := by
  intro n
  induction n with
  | zero => intro a out h1 h2; omega
  | succ n ih =>
    intro a out h1 h2 he
    by_cases ha : a < text.length
    · have hd := List.drop_eq_getElem_cons ha
      have ht : toks (n + 1) (text.drop a) a out = match one (text.drop a) with
        | .inl e => ([], (a : Int), e)
        | .inr (k, m, t, l) => toks n (((text.drop a).drop l).drop (nxt 10000 ((text.drop a).drop l))) (a + l + nxt 10000 ((text.drop a).drop l)) (out ++ [⟨k, m, t, a, ((a + l : Nat) : Int)⟩]) := by
        rw [hd, toks]
        rcases one (text[a] :: text.drop (a + 1)) with e | ⟨k, m, t, l⟩ <;> rfl
      rw [ht] at he ⊢
      cases ho : one (text.drop a) with
      | inl e =>
        rw [ho] at he
        exfalso
        have he2 : e = 0 := he
        rw [hd] at ho
        rw [one] at ho
        subst he2
        revert ho
        repeat' split
        all_goals (intro ho; first | (injection ho with ho; omega) | cases ho)
      | inr q =>
        obtain ⟨k, m, t, l⟩ := q
        rw [ho] at he
        dsimp only at he ⊢
        have hlen := one_len ho
        rw [List.length_drop] at hlen
        have hle := nxt_le 10000 (text.drop (a + l))
        rw [List.length_drop] at hle
        rw [show (text.drop a).drop l = text.drop (a + l) from List.drop_drop .., List.drop_drop (l := text)] at he ⊢
        obtain ⟨r, e1, e2⟩ := ih (a + l + nxt 10000 (text.drop (a + l))) _ (by omega) (by omega) he
        refine ⟨⟨k, m, t, a, ((a + l : Nat) : Int)⟩ :: r, by rw [e1]; simp, a, a + l, rfl, rfl, Nat.le_refl _, by omega, by omega, ?_, .inr (e2.mono (by omega))⟩
        rw [one_spell ho, slice_eq]
    · have h4 : text.drop a = [] := List.drop_eq_nil_of_le (by omega)
      have h5 : a = text.length := by omega
      rw [h4, toks]
      refine ⟨[⟨5, 0, [], a, a⟩], rfl, a, a, rfl, rfl, Nat.le_refl _, Nat.le_refl _, h2, ?_, .inl ⟨rfl, rfl⟩⟩
      rw [List.drop_eq_nil_of_le (by rw [List.length_take]; omega)]; rfl
theorem spellLoop (text : List UInt8) (x : List Token) (hx : x.length ≤ 1000000) : ∀ (r : List Token) (i a : Nat), x.drop i = r → r.length + i = x.length → Chain text a r → law05LexSpells_L6 text x a i = some true
  | [], i, a, hr, hl, h => h.elim
  | y :: r, i, a, hr, hl, ⟨f, t, h1, h2, h3, h4, h5, h6, h7⟩ => by
    have hi : i < x.length := by simp at hl; omega
    have hy : x[i]? = some y := by
      have := congrArg (·[0]?) hr
      simpa using this
    have hr' : x.drop (i + 1) = r := by
      have := congrArg (List.drop 1) hr
      simpa [Nat.add_comm] using this
    have hix : idx x (i : Int) = some y := by
      rw [idx_lt hi]; rw [List.getElem?_eq_getElem hi] at hy; exact hy
    rw [law05LexSpells_L6_eq]; unfold law05LexSpells_L6_B
    rw [if_pos (show (i : Int) < (x.length : Int) by omega), hix]
    simp only [some_bind, h1, h2, h6]
    rw [if_neg (show ¬ (f : Int) < (a : Int) by omega), if_neg (show ¬ (t : Int) < (f : Int) by omega), if_neg (show ¬ (t : Int) > (text.length : Int) by omega), if_pos (show (0 : Int) ≤ (t : Int) by omega), if_pos (show Int.toNat (t : Int) ≤ text.length by simpa using h5), if_pos (show (0 : Int) ≤ (f : Int) by omega), if_pos (show Int.toNat (f : Int) ≤ Int.toNat (t : Int) by simpa using h4)]
    rw [if_pos (show List.drop (Int.toNat (f : Int)) (List.take (Int.toNat (t : Int)) text) = List.drop f (List.take t text) from rfl), wi_id (by omega) (by omega), succ_cast]
    rcases h7 with ⟨hn, hk⟩ | hc
    · subst hn
      have hl1 : i + 1 = x.length := by simp at hl; omega
      rw [law05LexSpells_L6_eq]; unfold law05LexSpells_L6_B
      rw [if_neg (show ¬ ((i + 1 : Nat) : Int) < (x.length : Int) by omega), if_pos (show (x.length : Int) > 0 by omega), wi_id (by omega) (by omega), show (x.length : Int) - 1 = (i : Int) by omega, hix, some_bind, if_pos hk, lexAwake_ok]; rfl
    · exact spellLoop text x hx r (i + 1) t hr' (by simp at hl; omega) hc
theorem toks_len : ∀ (n : Nat) (s : List UInt8) (a : Nat) (out : List Token), (toks n s a out).1.length ≤ out.length + n
  | 0, _, _, _ => by simp [toks]
  | n + 1, [], a, out => by simp [toks]
  | n + 1, c :: r, a, out => by
    rw [toks]
    split
    · simp
    · rename_i k m t l _
      have := toks_len n (((c :: r).drop l).drop (nxt 10000 ((c :: r).drop l))) (a + l + nxt 10000 ((c :: r).drop l)) (out ++ [⟨k, m, t, a, ((a + l : Nat) : Int)⟩])
      rw [List.length_append] at this
      simp only [List.length_cons, List.length_nil] at this
      omega
theorem lexSpellsLaw (x0 : Str) (w0 : x0.length ≤ 9223372036854775807) : law05LexSpells x0 = some true := by
  unfold law05LexSpells
  obtain ⟨-, hh, e2⟩ := tokens_ok x0 w0
  rw [e2, some_bind, lexAwake_ok]
  by_cases he : (lexes x0).2.2 = 0
  · rw [if_pos he]
    unfold lexes at he ⊢
    by_cases h1 : x0.length > 8192
    · rw [if_pos h1] at he; cases he
    · rw [if_neg h1] at he ⊢
      have hle := nxt_le 10000 x0
      obtain ⟨r, e1, h3⟩ := toks_chain x0 10000 (nxt 10000 x0) [] (by omega) (by omega) he
      have hl := toks_len 10000 (x0.drop (nxt 10000 x0)) (nxt 10000 x0) []
      rw [e1, List.nil_append] at hl ⊢
      exact spellLoop x0 r (by simp at hl; omega) r 0 0 rfl (by simp) (h3.mono (by omega))
  · rw [if_neg he]; rfl
end Go.Proofs.Ytdpecjiflalkmaa.M
