/- LexReads, as a plain law. -/
import Derived.Test.YtdpecjiflalkmaaP05d
import Derived.Test.YtdpecjiflalkmaaWf
namespace Go.Proofs.Ytdpecjiflalkmaa.M
open Go Nt
set_option linter.unusedVariables false
theorem same_refl (l : List Token) (hl : l.length ≤ 1000000) : ref05Same l l = some true := by
  have loop : ∀ (k i : Nat), i + k = l.length → ref05Same_L4 l l i = some true := by
    intro k
    induction k with
    | zero =>
      intro i hi
      rw [ref05Same_L4_eq]; unfold ref05Same_L4_B
      rw [if_neg (by omega)]
    | succ k ih =>
      intro i hi
      rw [ref05Same_L4_eq]; unfold ref05Same_L4_B
      rw [if_pos (by omega), idx_lt (show i < l.length by omega), some_bind, some_bind, if_pos (by simp), wi_id (by omega) (by omega), succ_cast]
      exact ih (i + 1) (by omega)
  unfold ref05Same
  rw [if_pos rfl]
  exact loop l.length 0 (by omega)
theorem toks_len : ∀ (n : Nat) (s : List UInt8) (a : Nat) (out : List Token), (toks n s a out).1.length ≤ out.length + n
  | 0, _, _, _ => by simp [toks]
  | n + 1, [], a, out => by simp [toks]
  | n + 1, c :: r, a, out => by
    rw [toks]
    split
    · simp
    · rename_i k m t l _
      have := toks_len n (((c :: r).drop l).drop (nxt 10000 ((c :: r).drop l))) (a + l + nxt 10000 ((c :: r).drop l)) (out ++ [⟨k, m, t, a, ((a + l : Nat) : Int)⟩])
      rw [List.length_append] at this
      simp only [List.length_cons, List.length_nil] at this
      omega
theorem lexReadsLaw (x0 : Str) (w0 : x0.length ≤ 9223372036854775807) : law05LexReads x0 = some true := by
  unfold law05LexReads
  obtain ⟨e1, hh, e2⟩ := tokens_ok x0 w0
  have hl : (lexes x0).1.length ≤ 1000000 := by
    unfold lexes
    split
    · simp
    · have := toks_len 10000 (x0.drop (nxt 10000 x0)) (nxt 10000 x0) []
      simp at this; omega
  rw [e1, e2, some_bind, some_bind, if_pos rfl, if_pos rfl, same_refl _ hl, some_bind, if_pos rfl, lexAwake_ok]; rfl
end Go.Proofs.Ytdpecjiflalkmaa.M
