/- Digits: of a number, and back; how a token is spelt. -/
import Derived.Test.YtdpecjiflalkmaaP05d
namespace Go.Proofs.Ytdpecjiflalkmaa.M
open Go Nt
set_option linter.unusedVariables false
set_option linter.unusedSimpArgs false

/-- a number's digits -/
def digs (n : Nat) : List UInt8 := if h : n < 10 then [UInt8.ofNat (48 + n)] else digs (n / 10) ++ [UInt8.ofNat (48 + n % 10)]
termination_by n
decreasing_by omega
theorem digs_lt {n : Nat} (h : n < 10) : digs n = [UInt8.ofNat (48 + n)] := by rw [digs, dif_pos h]
theorem digs_ge {n : Nat} (h : ¬ n < 10) : digs n = digs (n / 10) ++ [UInt8.ofNat (48 + n % 10)] := by rw [digs, dif_neg h]
theorem ofNat_toNat {n : Nat} (h : n < 256) : (UInt8.ofNat n).toNat = n := by rw [UInt8.toNat_ofNat']; omega
theorem bytesOf_map : ∀ s : List UInt8, bytesOf (s.map fun c => ((c.toNat : Nat) : Int)) = some s
  | [] => rfl
  | c :: r => by
    have hc := c.toNat_lt
    rw [List.map_cons, bytesOf, if_pos (by omega), bytesOf_map r]
    simp
theorem drop_set {b : List Int} {j : Nat} (h : j < b.length) (x : Int) : (b.set j x).drop j = x :: b.drop (j + 1) := by
  rw [List.drop_eq_getElem_cons (by simpa using h), List.getElem_set_self, List.drop_set_of_lt (by omega)]
theorem digLoop (n : Int) : ∀ (i u : Nat) (b : List Int) (s : List UInt8), b.length = 20 → i ≤ 20 → b.drop i = s.map (fun c => ((c.toNat : Nat) : Int)) → (n < 0 → 2 ≤ i ∧ u < 10 ^ (i - 1)) → (¬ n < 0 → 1 ≤ i ∧ u < 10 ^ i) → u ≤ 18446744073709551615 →
    lex_Digits_L6 n i u b = some ((if n < 0 then [45] else []) ++ (digs u ++ s)) := by
  intro i
  induction i with
  | zero =>
    intro u b s hb hi hs h1 h2 hu
    by_cases h : n < 0
    · have := h1 h; omega
    · have := h2 h; omega
  | succ j ih =>
    intro u b s hb hi hs h1 h2 hu
    rw [lex_Digits_L6_eq]; unfold lex_Digits_L6_B
    have hj : IntKind.wrap .i64 (((j + 1 : Nat) : Int) - 1) = (j : Int) := by rw [wi_id (by omega) (by omega)]; omega
    have hm : Int.tmod (u : Int) 10 = ((u % 10 : Nat) : Int) := by rw [Int.tmod_eq_emod_of_nonneg (by omega)]; omega
    have hd : Int.tdiv (u : Int) 10 = ((u / 10 : Nat) : Int) := by rw [Int.tdiv_eq_ediv_of_nonneg (by omega)]; omega
    have hc : IntKind.wrap .u8 (IntKind.wrap .u64 (48 + ((u % 10 : Nat) : Int))) = ((48 + u % 10 : Nat) : Int) := by rw [wu_id (by omega) (by omega), w8_id (by omega) (by omega)]; omega
    have hq : IntKind.wrap .u64 ((u / 10 : Nat) : Int) = ((u / 10 : Nat) : Int) := wu_id (by omega) (by omega)
    rw [hj, hm, hd, hc, hq]
    have ht : Int.toNat (j : Int) = j := rfl
    rw [ht]
    simp only [List.length_set, hb, ne_eq, show ¬ ((10 : Int) = 0) by decide, not_false_eq_true, if_true]
    rw [if_pos (show True ∧ (0 : Int) ≤ (j : Int) ∧ (j : Int) < ((20 : Nat) : Int) from ⟨trivial, by omega, by omega⟩), if_pos (show j < 20 by omega)]
    have hsetd : (b.set j ((48 + u % 10 : Nat) : Int)).drop j = (UInt8.ofNat (48 + u % 10) :: s).map (fun c => ((c.toNat : Nat) : Int)) := by
      rw [drop_set (by omega), hs, List.map_cons, ofNat_toNat (by omega)]
    by_cases h0 : u / 10 = 0
    · rw [if_pos (show ((u / 10 : Nat) : Int) = 0 by omega)]
      have hdg : digs u = [UInt8.ofNat (48 + u % 10)] := by rw [digs_lt (by omega), show u % 10 = u by omega]
      by_cases hn : n < 0
      · have h3 := h1 hn
        rw [if_pos hn, if_pos hn]
        have hj2 : IntKind.wrap .i64 ((j : Int) - 1) = ((j - 1 : Nat) : Int) := by rw [wi_id (by omega) (by omega)]; omega
        rw [hj2, show Int.toNat ((j - 1 : Nat) : Int) = j - 1 from rfl]
        rw [if_pos (show True ∧ (0 : Int) ≤ ((j - 1 : Nat) : Int) ∧ ((j - 1 : Nat) : Int) < ((20 : Nat) : Int) from ⟨trivial, by omega, by omega⟩), if_pos (show j - 1 < 20 by omega), if_pos (show (0 : Int) ≤ ((j - 1 : Nat) : Int) by omega), if_pos (show j - 1 ≤ 20 by omega)]
        have : ((b.set j ((48 + u % 10 : Nat) : Int)).set (j - 1) 45).drop (j - 1) = (45 :: UInt8.ofNat (48 + u % 10) :: s).map (fun c => ((c.toNat : Nat) : Int)) := by
          rw [drop_set (by simp; omega), show j - 1 + 1 = j by omega, hsetd]; rfl
        rw [this, bytesOf_map, hdg]; rfl
      · rw [if_neg hn, if_neg hn, if_pos (show (0 : Int) ≤ (j : Int) by omega), if_pos (show j ≤ 20 by omega), hsetd, bytesOf_map, hdg]; rfl
    · rw [if_neg (show ¬ ((u / 10 : Nat) : Int) = 0 by omega)]
      have hdg : digs u = digs (u / 10) ++ [UInt8.ofNat (48 + u % 10)] := digs_ge (by omega)
      rw [ih (u / 10) _ (UInt8.ofNat (48 + u % 10) :: s) (by simpa using hb) (by omega) hsetd ?_ ?_ (by omega), hdg]
      · simp
      · intro hn
        have h3 := h1 hn
        rcases j with _ | _ | j
        · omega
        · simp at h3; omega
        · refine ⟨by omega, ?_⟩
          have h4 := h3.2
          simp only [Nat.add_sub_cancel] at h4 ⊢
          rw [Nat.pow_succ] at h4
          omega
      · intro hn
        have h3 := h2 hn
        rcases j with _ | j
        · simp at h3; omega
        · refine ⟨by omega, ?_⟩
          have h4 := h3.2
          rw [Nat.pow_succ] at h4
          omega
theorem digits_ok (n : Int) (h : -9223372036854775808 ≤ n ∧ n ≤ 9223372036854775807) : lex_Digits n = some ((if n < 0 then [45] else []) ++ digs n.natAbs) := by
  unfold lex_Digits
  have z : ([0, 0, 0, 0, 0, 0, 0, 0, 0, 0, 0, 0, 0, 0, 0, 0, 0, 0, 0, 0] : List Int).length = 20 := rfl
  by_cases hn : n < 0
  · rw [if_pos hn]
    have : IntKind.wrap .u64 (0 - IntKind.wrap .u64 n) = ((n.natAbs : Nat) : Int) := by rw [IntKind.wrap_u64, IntKind.wrap_u64]; omega
    rw [this, show (20 : Int) = ((20 : Nat) : Int) from rfl, digLoop n 20 n.natAbs _ [] z (by omega) rfl (fun _ => ⟨by omega, by omega⟩) (fun h => absurd hn h) (by omega), List.append_nil]
  · rw [if_neg hn]
    have : IntKind.wrap .u64 n = ((n.natAbs : Nat) : Int) := by rw [IntKind.wrap_u64]; omega
    rw [this, show (20 : Int) = ((20 : Nat) : Int) from rfl, digLoop n 20 n.natAbs _ [] z (by omega) rfl (fun h => absurd h hn) (fun _ => ⟨by omega, by omega⟩) (by omega), List.append_nil]

/-! digits and what they say -/
theorem valF_snoc (w : List UInt8) (c : UInt8) (v : Nat) : valF v (w ++ [c]) = valF v w * 10 + (c.toNat - 48) := by unfold valF; rw [List.foldl_append]; rfl
theorem valF_pos {x : UInt8} {r : List UInt8} (h : x.toNat ≠ 48) (hd : dgt x = true) : 1 ≤ valF 0 (x :: r) := by
  unfold dgt at hd
  simp only [Bool.and_eq_true, decide_eq_true_eq] at hd
  rw [valF_cons]
  have := valF_ge r (0 * 10 + (x.toNat - 48))
  omega
theorem digs_val : ∀ (k : Nat) (w : List UInt8), w.length = k → 0 < k → (∀ c ∈ w, dgt c = true) → ¬ (w.length > 1 ∧ hdIs 48 w = true) → digs (valF 0 w) = w := by
  intro k
  induction k with
  | zero => intro w _ h; omega
  | succ k ih =>
    intro w hl _ hd hz
    have hne : w ≠ [] := by rintro rfl; simp at hl
    have hw := List.dropLast_concat_getLast hne
    generalize hu : w.dropLast = u at hw
    generalize w.getLast hne = c at hw
    subst hw
    have hc := hd c (by simp)
    have hc2 := hc
    unfold dgt at hc
    simp only [Bool.and_eq_true, decide_eq_true_eq] at hc
    rw [valF_snoc]
    have hcc : UInt8.ofNat (48 + (c.toNat - 48)) = c := by rw [show 48 + (c.toNat - 48) = c.toNat by omega]; exact UInt8.ofNat_toNat
    cases u with
    | nil =>
      rw [valF_nil, digs_lt (by omega), show 0 * 10 + (c.toNat - 48) = c.toNat - 48 by omega, hcc]; rfl
    | cons x r =>
      have hx : x.toNat ≠ 48 := fun e => hz ⟨by simp, by simp [hdIs, e]⟩
      have hp := valF_pos (r := r) hx (hd x (by simp))
      rw [digs_ge (by omega), show (valF 0 (x :: r) * 10 + (c.toNat - 48)) / 10 = valF 0 (x :: r) by omega, show (valF 0 (x :: r) * 10 + (c.toNat - 48)) % 10 = c.toNat - 48 by omega, hcc]
      rw [ih (x :: r) (by simp at hl ⊢; omega) (by simp at hl; omega) (fun y hy => hd y (List.mem_append_left _ hy)) (fun h => hx (by have := h.2; simpa [hdIs] using this))]
theorem num_digs {w : List UInt8} {n : Nat} (h : num w = some n) (h0 : 0 < w.length) (hd : ∀ c ∈ w, dgt c = true) : digs n = w ∧ n ≤ 9223372036854775807 := by
  unfold num at h
  by_cases hz : w.length > 1 ∧ hdIs 48 w = true
  · rw [if_pos hz] at h; cases h
  · rw [if_neg hz] at h
    by_cases hv : valF 0 w > 9223372036854775807
    · rw [if_pos hv] at h; cases h
    · rw [if_neg hv] at h
      injection h with h
      subst h
      exact ⟨digs_val _ w rfl h0 hd hz, by omega⟩
/-- a token's spelling -/
theorem one_spell {s : List UInt8} {k n : Int} {t : Str} {l : Nat} (h : one s = .inr (k, n, t, l)) (a b : Int) : lex_Spell ⟨k, n, t, a, b⟩ = some (s.take l) := by
  cases s with
  | nil => simp [one] at h
  | cons c r =>
    rw [one] at h
    by_cases h1 : ltr c = true
    · rw [if_pos h1] at h
      by_cases h2 : tw mor (c :: r) > 16
      · rw [if_pos h2] at h; cases h
      · rw [if_neg h2] at h
        injection h with h; injection h with e1 h; injection h with e2 h; injection h with e3 h
        subst e3; subst h; subst e1
        unfold lex_Spell
        dsimp only
        cases isW ((c :: r).take (tw mor (c :: r))) <;> rfl
    · rw [if_neg h1] at h
      by_cases h2 : dgt c = true
      · rw [if_pos h2] at h
        cases hn : num ((c :: r).take (tw dgt (c :: r))) with
        | none => rw [hn] at h; cases h
        | some m =>
          rw [hn] at h
          injection h with h; injection h with e1 h; injection h with e2 h; injection h with e3 h
          subst e3; subst h; subst e1; subst e2
          have hp : 1 ≤ tw dgt (c :: r) := by rw [tw, if_pos h2]; omega
          have hle := tw_le dgt (c :: r)
          obtain ⟨e, hm⟩ := num_digs hn (by rw [List.length_take]; omega) (tw_all dgt _)
          unfold lex_Spell
          dsimp only
          rw [if_neg (by decide), if_neg (by decide), if_neg (by decide), if_pos rfl, digits_ok _ (by omega), some_bind, if_neg (by omega), show (m : Int).natAbs = m from rfl, e]; rfl
      · rw [if_neg h2] at h
        by_cases h3 : sgn c.toNat (hd0 r) = 0
        · rw [if_pos h3] at h; cases h
        · rw [if_neg h3] at h
          injection h with h; injection h with e1 h; injection h with e2 h; injection h with e3 h
          subst e3; subst h; subst e1
          rfl
end Go.Proofs.Ytdpecjiflalkmaa.M
