/- ShiftBack, as a plain law. -/
import Derived.Test.YtccabbnpnpfnfaaP14d
import Derived.Test.YtccabbnpnpfnfaaPureShiftMoves
namespace Go.Proofs.Ytccabbnpnpfnfaa.M
open Go Nt
set_option linter.unusedVariables false
set_option linter.unusedSimpArgs false
theorem wrap_in (n : Int) : InK .i64 (IntKind.wrap .i64 n) := by rw [i64_iff, IntKind.wrap_i64]; omega
/-! what moved up comes back -/
theorem raise_K (b f : Int) (t : Term) (d : Int) : (mapL (raiseL b f) t d).K = t.K := by
  rw [mapL_eq]; split
  · unfold raiseL; split <;> rfl
  · rfl
theorem raise_Llen (b f : Int) (t : Term) (d : Int) : (mapL (raiseL b f) t d).L.length = t.L.length := by
  rw [mapL_eq]; split
  · unfold raiseL; split <;> rfl
  · exact mapLs_len _ _ _ _ _
theorem cntB_mapLs (b f : Int) (p : Term) : ∀ (l : List Term) (i : Nat) (d : Int) (n : Nat), cntB ((mapLs (raiseL b f) p l i d).take n) = cntB (l.take n)
  | [], _, _, n => by simp [mapLs]
  | x :: r, i, d, 0 => by simp
  | x :: r, i, d, n + 1 => by
    rw [mapLs, List.take_succ_cons, List.take_succ_cons, cntB, cntB, cntB_mapLs b f p r (i + 1) d n]
    unfold isB; rw [raise_K]
theorem inN_raise (b f : Int) (t : Term) (h7 : ¬ t.K = 7) (d : Int) (i : Nat) : inN { t with L := mapLs (raiseL b f) t t.L 0 d } i = inN t i := by
  unfold inN
  simp only [mapLs_len, cntB_mapLs]
  congr 1; congr 1; congr 1; congr 1; congr 1
  cases hL : t.L with
  | nil => rfl
  | cons x r => simp only [mapLs]; exact raise_Llen _ _ _ _
theorem back_ok (b f : Int) (hb : 0 ≤ b) (hb2 : b ≤ 100) (hf : 0 ≤ f) (t : Term) : Term.Wf t → ∀ d, 0 ≤ d → anyL (fun N _ => decide (N > 1099511627776)) t d = false →
    mapL (raiseL (-b) f) (mapL (raiseL b f) t d) d = t ∧ anyL (lostL (-b) f) (mapL (raiseL b f) t d) d = false ∧ (b ≠ 0 → anyL (fun N d => decide (d ≤ N ∧ N - d = f)) (mapL (raiseL b f) t d) d = false) := by
  induction t using Term.ind with
  | h t ih =>
    intro w d hd ht
    rw [anyL_eq] at ht
    by_cases h7 : t.K = 7
    · rw [if_pos h7] at ht
      have hN := i64_iff.1 w.N_
      have hN2 : ¬ t.N > 1099511627776 := of_decide_eq_false ht
      have e : mapL (raiseL b f) t d = raiseL b f t d := by rw [mapL_eq, if_pos h7]
      have hk : (raiseL b f t d).K = 7 := by unfold raiseL; split <;> exact h7
      rw [e, mapL_eq, if_pos hk, anyL_eq, if_pos hk, anyL_eq, if_pos hk]
      by_cases h1 : t.N < d ∨ t.N - d < f
      · have e2 : raiseL b f t d = t := by unfold raiseL; rw [if_pos h1]
        rw [e2]
        refine ⟨by unfold raiseL; rw [if_pos h1], decide_eq_false (by omega), fun _ => decide_eq_false (by omega)⟩
      · have e2 : raiseL b f t d = { t with N := t.N + b } := by unfold raiseL; rw [if_neg h1, wi_id (by omega) (by omega)]
        rw [e2]
        refine ⟨?_, decide_eq_false (by simp only; omega), fun _ => decide_eq_false (by simp only; omega)⟩
        unfold raiseL
        simp only
        rw [if_neg (by omega), wi_id (by omega) (by omega)]
        cases t; simp
        omega
    · rw [if_neg h7] at ht
      have e : mapL (raiseL b f) t d = { t with L := mapLs (raiseL b f) t t.L 0 d } := by rw [mapL_eq, if_neg h7]
      have hin := inN_raise b f t h7 d
      have main : ∀ (l : List Term) (i : Nat) (d : Int), 0 ≤ d → (∀ x ∈ l, x ∈ t.L) → anyLs (fun N _ => decide (N > 1099511627776)) t l i d = false → ∀ p, (∀ i, inN p i = inN t i) →
          mapLs (raiseL (-b) f) p (mapLs (raiseL b f) t l i d) i d = l ∧ anyLs (lostL (-b) f) p (mapLs (raiseL b f) t l i d) i d = false ∧ (b ≠ 0 → anyLs (fun N d => decide (d ≤ N ∧ N - d = f)) p (mapLs (raiseL b f) t l i d) i d = false) := by
        intro l
        induction l with
        | nil => intro i d _ _ _ p _; exact ⟨rfl, rfl, fun _ => rfl⟩
        | cons x r ihr =>
          intro i d hd hm ha p hp
          rw [anyLs, Bool.or_eq_false_iff] at ha
          obtain ⟨q1, q2, q3⟩ := ih x (hm x (by simp)) (w.L_.2 x (hm x (by simp))) (d + inN t i) (by omega) ha.1
          obtain ⟨q4, q5, q6⟩ := ihr (i + 1) d hd (fun y hy => hm y (by simp [hy])) ha.2 p hp
          refine ⟨?_, ?_, fun h0 => ?_⟩
          · rw [mapLs, mapLs, hp, q1, q4]
          · rw [mapLs, anyLs, hp, q2, q5]; rfl
          · rw [mapLs, anyLs, hp, q3 h0, q6 h0]; rfl
      obtain ⟨q1, q2, q3⟩ := main t.L 0 d hd (fun _ h => h) ht { t with L := mapLs (raiseL b f) t t.L 0 d } hin
      rw [e, mapL_eq, if_neg h7, anyL_eq, if_neg h7, anyL_eq, if_neg h7]
      refine ⟨?_, q2, q3⟩
      show { t with L := mapLs (raiseL (-b) f) { t with L := mapLs (raiseL b f) t t.L 0 d } (mapLs (raiseL b f) t t.L 0 d) 0 d } = t
      rw [q1]
      cases t; rfl
theorem raise_wf (b f : Int) (hb : -8192 ≤ b) (hb2 : b ≤ 8192) (t : Term) : Term.Wf t → ∀ d, Term.Wf (mapL (raiseL b f) t d) := by
  induction t using Term.ind with
  | h t ih =>
    intro w d
    rw [mapL_eq]; split
    · unfold raiseL; split
      · exact w
      · exact .mk _ w.K_ (wrap_in _) w.S_ w.L_.1 w.L_.2 w.From_ w.To_
    · refine .mk _ w.K_ w.N_ w.S_ (by show (mapLs _ _ _ _ _).length ≤ _; rw [mapLs_len]; exact w.L_.1) ?_ w.From_ w.To_
      have : ∀ (l : List Term) (p : Term) (i : Nat) (d : Int), (∀ x ∈ l, x ∈ t.L) → ∀ y ∈ mapLs (raiseL b f) p l i d, Term.Wf y := by
        intro l
        induction l with
        | nil => intro p i d _ y hy; simp [mapLs] at hy
        | cons x r ihr =>
          intro p i d hm y hy
          rw [mapLs] at hy
          rcases List.mem_cons.1 hy with rfl | hy
          · exact ih x (hm x (by simp)) (w.L_.2 x (hm x (by simp))) _
          · exact ihr p (i + 1) d (fun z hz => hm z (by simp [hz])) y hy
      exact this t.L t 0 d fun _ h => h
theorem wild_ok (t : Term) : Term.Wf t → tsize t ≤ 1000000000 → ∃ b, ref14Wild t = some b ∧ (b = false → ∀ d, anyL (fun N _ => decide (N > 1099511627776)) t d = false) := by
  induction t using Term.ind with
  | h t ih =>
    intro w hs
    have hsz := tsize_eq t
    have hlen := tsizes_len t.L
    have loop : ∀ (k i : Nat), i + k = t.L.length → ∃ b, ref14Wild_L4 i t = some b ∧ (b = false → ∀ d, anyLs (fun N _ => decide (N > 1099511627776)) t (t.L.drop i) i d = false) := by
      intro k
      induction k with
      | zero =>
        intro i hi
        rw [ref14Wild_L4_eq]; unfold ref14Wild_L4_B
        have h1 : t.L.drop i = [] := List.drop_eq_nil_of_le (by omega)
        rw [if_neg (by omega), h1]; exact ⟨false, rfl, fun _ _ => rfl⟩
      | succ k ihk =>
        intro i hi
        have hil : i < t.L.length := by omega
        have hd := tsizes_drop hil
        have ht := tsizes_take t.L i
        rw [ref14Wild_L4_eq]; unfold ref14Wild_L4_B
        obtain ⟨b, e, hb⟩ := ih _ (List.getElem_mem hil) (w.L_.2 _ (List.getElem_mem hil)) (by omega)
        rw [if_pos (by omega), idx_lt hil, some_bind, e, some_bind]
        cases b with
        | true => exact ⟨true, rfl, by simp⟩
        | false =>
          obtain ⟨b2, e2, hb2⟩ := ihk (i + 1) (by omega)
          rw [if_neg (by simp), wi_id (by omega) (by omega), succ_cast, e2]
          refine ⟨b2, rfl, fun h d => ?_⟩
          rw [anyLs_drop _ _ hil, hb rfl, hb2 h]; rfl
    obtain ⟨b, e, hb⟩ := loop t.L.length 0 (by omega)
    rw [ref14Wild_eq]; unfold ref14Wild_B
    have e0 : ref14Wild_L4 0 t = some b := by simpa using e
    by_cases h7 : t.K = 7
    · rw [if_pos h7]
      by_cases hN : t.N > 1099511627776
      · rw [if_pos hN]; exact ⟨true, rfl, by simp⟩
      · rw [if_neg hN, e0]
        exact ⟨b, rfl, fun _ d => by rw [anyL_eq, if_pos h7]; exact decide_eq_false hN⟩
    · rw [if_neg h7, e0]
      exact ⟨b, rfl, fun h d => by rw [anyL_eq, if_neg h7]; simpa using hb h d⟩
theorem shiftBackLaw (x0 : Term) (x1 : Int) (x2 : Int) (w0 : Term.Wf x0) (w1 : InK .i64 x1) (w2 : InK .i64 x2) : law14ShiftBack x0 x1 x2 = some true := by
  unfold law14ShiftBack
  obtain ⟨b, e, hb⟩ := large_ok x0 w0
  rw [e, some_bind, awake_ok]
  cases b with
  | true => rfl
  | false =>
    have hs := hb rfl
    obtain ⟨b2, e2, hb2⟩ := wild_ok x0 w0 (by omega)
    rw [if_neg (by simp), e2, some_bind]
    cases b2 with
    | true => rfl
    | false =>
      rw [if_neg (by simp)]
      by_cases h1 : x1 < 0
      · rw [if_pos h1]; rfl
      by_cases h2 : x1 > 100
      · rw [if_neg h1, if_pos h2]; rfl
      by_cases h3 : x2 < 0
      · rw [if_neg h1, if_neg h2, if_pos h3]; rfl
      by_cases h4 : x2 > 100
      · rw [if_neg h1, if_neg h2, if_neg h3, if_pos h4]; rfl
      rw [if_neg h1, if_neg h2, if_neg h3, if_neg h4]
      obtain ⟨q1, q2, q3⟩ := back_ok x1 x2 (by omega) (by omega) (by omega) x0 w0 0 (by omega) (hb2 rfl 0)
      obtain ⟨hh, e3⟩ := shift_good (b := x1) (f := x2) (by omega) w0 (by omega)
      have w5 := raise_wf x1 x2 (by omega) (by omega) x0 w0 0
      have hsz := mapL_raise_size x1 x2 x0 0
      obtain ⟨hh2, e4⟩ := shift_good (b := -x1) (f := x2) (by omega) w5 (by omega)
      rw [e3, lost_pos (by omega), some_bind]
      simp only [Bool.false_eq_true, if_false]
      rw [wi_id (by omega) (by omega), Int.zero_sub, e4, some_bind, q2]
      simp only [Bool.false_eq_true, if_false, if_true]
      rw [q1, placed_refl 400 _ hs (by omega), some_bind, if_pos rfl]
      by_cases h5 : x1 = 0
      · rw [if_pos h5]; rfl
      · rw [if_neg h5]
        unfold shift_Mentions
        rw [walkF_ok x2 _ w5 0 false (by omega) (by omega), some_bind]
        have : metL x2 = fun N d => decide (d ≤ N ∧ N - d = x2) := rfl
        rw [this, q3 h5]
        rfl
end Go.Proofs.Ytccabbnpnpfnfaa.M
