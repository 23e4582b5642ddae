/- Sizes and likeness of terms: what the reference's questions about terms come to. -/
import Derived.Test.YtkioflnaifdlkaaBase
namespace Go.Proofs.Ytkioflnaifdlkaa.M
open Go Nt
set_option linter.unusedVariables false
set_option linter.unusedSimpArgs false

mutual
def tsize : Term → Nat
  | ⟨_, _, _, l, _, _⟩ => 1 + tsizes l
def tsizes : List Term → Nat
  | [] => 0
  | x :: r => tsize x + tsizes r
end
theorem tsize_eq (t : Term) : tsize t = 1 + tsizes t.L := by cases t; simp [tsize]
theorem tsize_pos (t : Term) : 0 < tsize t := by rw [tsize_eq]; omega
theorem tsizes_drop {l : List Term} {i : Nat} (h : i < l.length) : tsizes (l.drop i) = tsize l[i] + tsizes (l.drop (i + 1)) := by
  rw [List.drop_eq_getElem_cons h, tsizes]
theorem tsizes_len (l : List Term) : l.length ≤ tsizes l := by
  induction l with
  | nil => simp [tsizes]
  | cons x r ih => have := tsize_pos x; simp [tsizes]; omega
theorem tsizes_take (l : List Term) (i : Nat) : tsizes l = tsizes (l.take i) + tsizes (l.drop i) := by
  induction l generalizing i with
  | nil => simp [tsizes]
  | cons x r ih =>
    cases i with
    | zero => simp [tsizes]
    | succ i => simp [tsizes, ih i]; omega

theorem count_ok (t : Term) : Term.Wf t → ∀ left levels : Int, 0 ≤ left → left ≤ 1000000 → levels ≤ 1000000 →
    ∃ v, ref06Count t left levels = some v ∧ -1 ≤ v ∧ v ≤ left ∧ (0 ≤ v → v + tsize t = left) := by
  induction t using Term.ind with
  | h t ih =>
    intro wt left levels h0 h1 h2
    have loop : ∀ (k i : Nat) (lf : Int), i + k = t.L.length → -1 ≤ lf → lf ≤ 1000000 → 0 < levels →
        ∃ v, ref06Count_L5 lf levels i t = some v ∧ -1 ≤ v ∧ v ≤ lf ∧ (0 ≤ v → v + tsizes (t.L.drop i) = lf) := by
      intro k
      induction k with
      | zero =>
        intro i lf hi h3 h4 h5
        rw [ref06Count_L5_eq]; unfold ref06Count_L5_B
        rw [if_neg (by omega)]
        have : t.L.drop i = [] := List.drop_eq_nil_of_le (by omega)
        exact ⟨lf, rfl, h3, by omega, fun _ => by rw [this]; simp [tsizes]⟩
      | succ k ihk =>
        intro i lf hi h3 h4 h5
        rw [ref06Count_L5_eq]; unfold ref06Count_L5_B
        rw [if_pos (by omega)]
        by_cases hlf : lf ≥ 0
        · rw [if_pos hlf, idx_lt (show i < t.L.length by omega), some_bind, wi_id (by omega) (by omega)]
          obtain ⟨v, e, v1, v2, v3⟩ := ih _ (List.getElem_mem _) (wt.L_.2 _ (List.getElem_mem _)) lf (levels - 1) hlf h4 (by omega)
          have hl := wt.L_.1
          rw [e, some_bind, wi_id (by omega) (by omega), succ_cast]
          obtain ⟨u, e2, u1, u2, u3⟩ := ihk (i + 1) v (by omega) v1 (by omega) h5
          refine ⟨u, e2, u1, by omega, fun hu => ?_⟩
          rw [tsizes_drop (show i < t.L.length by omega)]
          have := u3 hu
          have := v3 (by omega)
          omega
        · rw [if_neg hlf]
          exact ⟨lf, rfl, h3, by omega, fun h => absurd h (by omega)⟩
    rw [ref06Count_eq]; unfold ref06Count_B
    by_cases hlv : levels ≤ 0
    · rw [if_pos hlv]; exact ⟨-1, rfl, by omega, by omega, fun h => absurd h (by omega)⟩
    · rw [if_neg hlv, wi_id (by omega) (by omega)]
      obtain ⟨v, e, v1, v2, v3⟩ := loop t.L.length 0 (left - 1) (by omega) (by omega) (by omega) (by omega)
      refine ⟨v, e, v1, by omega, fun hv => ?_⟩
      have := v3 hv
      rw [tsize_eq]
      simp at this
      omega
theorem named_ok (t : Term) : Term.Wf t → ∃ b, ref06Named t = some b := by
  induction t using Term.ind with
  | h t ih =>
    intro wt
    have loop : ∀ (k i : Nat), i + k = t.L.length → ∃ b, ref06Named_L4 i t = some b := by
      intro k
      induction k with
      | zero =>
        intro i hi
        rw [ref06Named_L4_eq]; unfold ref06Named_L4_B
        rw [if_neg (by omega)]; exact ⟨_, rfl⟩
      | succ k ihk =>
        intro i hi
        rw [ref06Named_L4_eq]; unfold ref06Named_L4_B
        have hl := wt.L_.1
        obtain ⟨b, e⟩ := ih _ (List.getElem_mem (show i < t.L.length by omega)) (wt.L_.2 _ (List.getElem_mem _))
        rw [if_pos (by omega), idx_lt (show i < t.L.length by omega), some_bind, e, some_bind, wi_id (by omega) (by omega), succ_cast]
        cases b with
        | true => exact ⟨true, rfl⟩
        | false => simpa using ihk (i + 1) (by omega)
    rw [ref06Named_eq]; unfold ref06Named_B
    by_cases h : (List.length t.S : Int) > 40
    · rw [if_pos h]; exact ⟨_, rfl⟩
    · rw [if_neg h]; exact loop t.L.length 0 (by omega)
/-- what is not large has no more than 400 terms -/
theorem large_ok (t : Term) (w : Term.Wf t) : ∃ b, ref06Large t = some b ∧ (b = false → tsize t ≤ 400) := by
  unfold ref06Large
  obtain ⟨v, e, v1, v2, v3⟩ := count_ok t w 400 70 (by omega) (by omega) (by omega)
  rw [e, some_bind]
  by_cases h : v < 0
  · rw [if_pos h]; exact ⟨true, rfl, by simp⟩
  · rw [if_neg h]
    obtain ⟨b, e2⟩ := named_ok t w
    rw [e2, some_bind]
    exact ⟨b, rfl, fun _ => by have := v3 (by omega); omega⟩
/-- terms whose lists are no longer than can be counted -/
theorem placed_refl (n : Nat) : ∀ t : Term, tsize t ≤ n → (n : Int) ≤ 9223372036854775807 → ref06Placed t t = some true := by
  intro t
  induction t using Term.ind with
  | h t ih =>
    intro hs hn
    have hlen := tsizes_len t.L
    rw [tsize_eq] at hs
    have loop : ∀ (k i : Nat), i + k = t.L.length → ref06Placed_L4 i t t = some true := by
      intro k
      induction k with
      | zero =>
        intro i hi
        rw [ref06Placed_L4_eq]; unfold ref06Placed_L4_B
        rw [if_neg (by omega)]
      | succ k ihk =>
        intro i hi
        rw [ref06Placed_L4_eq]; unfold ref06Placed_L4_B
        have hd := tsizes_drop (show i < t.L.length by omega)
        have ht := tsizes_take t.L i
        have e := ih _ (List.getElem_mem (show i < t.L.length by omega)) (by omega) hn
        rw [if_pos (by omega), idx_lt (show i < t.L.length by omega), some_bind, some_bind, e, some_bind, if_pos rfl, wi_id (by omega) (by omega), succ_cast]
        exact ihk (i + 1) (by omega)
    rw [ref06Placed_eq]; unfold ref06Placed_B
    simp only [if_true]
    exact loop t.L.length 0 (by omega)
end Go.Proofs.Ytkioflnaifdlkaa.M
