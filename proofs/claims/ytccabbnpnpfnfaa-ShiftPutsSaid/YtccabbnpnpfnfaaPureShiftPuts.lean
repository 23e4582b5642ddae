/- ShiftPuts, as a plain law. -/
import Derived.Test.YtccabbnpnpfnfaaPureShiftMoves
import Derived.Test.YtccabbnpnpfnfaaP14d
namespace Go.Proofs.Ytccabbnpnpfnfaa.M
open Go Nt
set_option linter.unusedVariables false
set_option linter.unusedSimpArgs false
theorem size_ok (t : Term) : tsize t ≤ 1000000000 → ref06Size t = some (tsize t : Int) := by
  induction t using Term.ind with
  | h t ih =>
    intro hs
    have hsz := tsize_eq t
    have hlen := tsizes_len t.L
    have loop : ∀ (k i : Nat) (n : Int), i + k = t.L.length → 0 ≤ n → n + tsizes (t.L.drop i) ≤ 2000000000 → ref06Size_L3 n i t = some (n + tsizes (t.L.drop i)) := by
      intro k
      induction k with
      | zero =>
        intro i n hi h0 h1
        rw [ref06Size_L3_eq]; unfold ref06Size_L3_B
        have h1 : t.L.drop i = [] := List.drop_eq_nil_of_le (by omega)
        rw [if_neg (by omega), h1]; simp [tsizes]
      | succ k ihk =>
        intro i n hi h0 h1
        have hil : i < t.L.length := by omega
        have hd := tsizes_drop hil
        have ht := tsizes_take t.L i
        rw [ref06Size_L3_eq]; unfold ref06Size_L3_B
        rw [if_pos (by omega), idx_lt hil, some_bind, ih _ (List.getElem_mem hil) (by omega), some_bind, wi_id (n := (i : Int) + 1) (by omega) (by omega), wi_id (by omega) (by omega), succ_cast, ihk (i + 1) _ (by omega) (by omega) (by omega), hd]
        congr 1; omega
    rw [ref06Size_eq]; unfold ref06Size_B
    have := loop t.L.length 0 1 (by omega) (by omega) (by simp; omega)
    rw [show ((0 : Nat) : Int) = 0 from rfl] at this
    rw [this, hsz]; simp
theorem put_ok (e : Term) (we : Term.Wf e) (he : tsize e ≤ 1000) (a : Int) (t : Term) : Term.Wf t → ∀ (d : Int), 0 ≤ d → d + tsize t ≤ 8000 → ref14Put t e a d = some (mapL (putL e a) t d) := by
  induction t using Term.ind with
  | h t ih =>
    intro wt d hd hs
    rw [ref14Put_eq]; unfold ref14Put_B
    rw [mapL_eq]
    by_cases h7 : t.K = 7
    · rw [if_pos h7, if_pos h7]
      unfold putL
      by_cases h0 : a ≥ 0
      · rw [if_pos h0, outer_ok wt hd, some_bind]
        by_cases h1 : t.N < d
        · rw [if_pos h1, if_neg (by omega), if_neg (by omega)]
        · rw [if_neg h1]
          by_cases h2 : t.N - d = a
          · rw [if_pos h2, if_pos (by omega), raise_ok d 0 (by omega) e we 0 (by omega) (by omega)]; rfl
          · rw [if_neg h2, if_neg (by omega)]
      · rw [if_neg h0, if_neg (by omega)]
    rw [if_neg h7, if_neg h7]
    have hsz := tsize_eq t
    have hlen := tsizes_len t.L
    have loop : ∀ (k i : Nat) (out : List Term), i + k = t.L.length → out = (mapLs (putL e a) t t.L 0 d).take i → ∀ o8 : Term, ref14Put_L7 a d out i t e o8 = some { t with L := mapLs (putL e a) t t.L 0 d } := by
      intro k
      induction k with
      | zero =>
        intro i out hi ho o8
        rw [ref14Put_L7_eq]; unfold ref14Put_L7_B
        rw [if_neg (by omega), ho, List.take_of_length_le (by rw [mapLs_len]; omega)]
      | succ k ihk =>
        intro i out hi ho o8
        have hil : i < t.L.length := by omega
        have hin := inN_size hil
        rw [ref14Put_L7_eq]; unfold ref14Put_L7_B
        have hget := mapLs_get (putL e a) t t.L 0 d i hil
        rw [Nat.zero_add] at hget
        have e1 := ih _ (List.getElem_mem hil) (wt.L_.2 _ (List.getElem_mem hil)) (d + (inN t i : Int)) (by omega) (by omega)
        have hol : out.length = i := by rw [ho, List.length_take, mapLs_len]; omega
        rw [if_pos (by omega), idx_lt hil, some_bind, refIn_ok t (by omega), some_bind, inI_nat, wi_id (by omega) (by omega), e1, some_bind, if_pos (by unfold roomy; simp [hol]; omega), append_eq ho hget, wi_id (by omega) (by omega), succ_cast]
        exact ihk (i + 1) _ (by omega) rfl o8
    exact loop t.L.length 0 [] (by omega) (by simp) _
theorem put_size (e : Term) (a : Int) (t : Term) : ∀ d, tsize (mapL (putL e a) t d) ≤ tsize e * tsize t := by
  have h1 := tsize_pos e
  induction t using Term.ind with
  | h t ih =>
    intro d
    have h2 := tsize_eq t
    rw [mapL_eq]
    split
    · unfold putL; split
      · rw [mapL_raise_size, h2]; exact Nat.le_mul_of_pos_right _ (by omega)
      · exact Nat.le_mul_of_pos_left _ h1
    · rw [tsize_eq, h2]
      show 1 + tsizes (mapLs _ _ _ _ _) ≤ _
      have : ∀ (l : List Term) (p : Term) (i : Nat) (d : Int), (∀ x ∈ l, ∀ d, tsize (mapL (putL e a) x d) ≤ tsize e * tsize x) → tsizes (mapLs (putL e a) p l i d) ≤ tsize e * tsizes l := by
        intro l
        induction l with
        | nil => intro p i d _; simp [mapLs, tsizes]
        | cons x r ihr =>
          intro p i d h
          rw [mapLs, tsizes, tsizes, Nat.mul_add]
          have := h x (by simp) (d + inN p i)
          have := ihr p (i + 1) d fun y hy => h y (by simp [hy])
          omega
      have := this t.L t 0 d ih
      rw [Nat.mul_add]; omega
theorem put_same (e : Term) (a : Int) (t : Term) : ∀ d, anyL (metL a) t d = false → mapL (putL e a) t d = t := by
  induction t using Term.ind with
  | h t ih =>
    intro d h
    rw [anyL_eq] at h
    rw [mapL_eq]
    by_cases h7 : t.K = 7
    · rw [if_pos h7] at h ⊢
      unfold putL; rw [if_neg (of_decide_eq_false h)]
    · rw [if_neg h7] at h ⊢
      have : ∀ (l : List Term) (p : Term) (i : Nat) (d : Int), (∀ x ∈ l, ∀ d, anyL (metL a) x d = false → mapL (putL e a) x d = x) → anyLs (metL a) p l i d = false → mapLs (putL e a) p l i d = l := by
        intro l
        induction l with
        | nil => intro p i d _ _; rfl
        | cons x r ihr =>
          intro p i d hx ha
          rw [anyLs, Bool.or_eq_false_iff] at ha
          rw [mapLs, hx x (by simp) _ ha.1, ihr p (i + 1) d (fun y hy => hx y (by simp [hy])) ha.2]
      rw [this t.L t 0 d ih h]; cases t; rfl
theorem shiftPutsLaw (x0 : Term) (x1 : Term) (x2 : Int) (w0 : Term.Wf x0) (w1 : Term.Wf x1) (w2 : InK .i64 x2) : law14ShiftPuts x0 x1 x2 = some true := by
  unfold law14ShiftPuts
  obtain ⟨b, e, hb⟩ := large_ok x0 w0
  obtain ⟨b2, e2, hb2⟩ := large_ok x1 w1
  rw [e, some_bind, awake_ok]
  cases b with
  | true => rfl
  | false =>
    have hs := hb rfl
    rw [if_neg (by simp), size_ok x0 (by omega), some_bind]
    by_cases h1 : (tsize x0 : Int) > 60
    · rw [if_pos h1]; rfl
    rw [if_neg h1, e2, some_bind]
    cases b2 with
    | true => rfl
    | false =>
      have hs2 := hb2 rfl
      rw [if_neg (by simp), size_ok x1 (by omega), some_bind]
      by_cases h2 : (tsize x1 : Int) > 60
      · rw [if_pos h2]; rfl
      rw [if_neg h2]
      have hsz : tsize (mapL (putL x1 x2) x0 0) ≤ 3600 := by
        have h3 := put_size x1 x2 x0 0
        have : tsize x1 * tsize x0 ≤ 60 * 60 := Nat.mul_le_mul (by omega) (by omega)
        omega
      unfold shift_Subst ref14Subst shift_Mentions
      rw [walkP_ok x1 w1 (by omega) x2 x0 w0 0 (by omega) (by omega), put_ok x1 w1 (by omega) x2 x0 w0 0 (by omega) (by omega), some_bind, some_bind, some_bind, some_bind,
        placed_refl 3600 _ hsz (by omega), some_bind, if_neg (by simp), walkF_ok x2 x0 w0 0 false (by omega) (by omega), some_bind, some_bind]
      simp only [Bool.false_or]
      cases hA : anyL (metL x2) x0 0 with
      | true => rfl
      | false =>
        rw [if_neg (by simp), put_same x1 x2 x0 0 hA, placed_refl 400 _ hs (by omega), some_bind, if_pos rfl]
end Go.Proofs.Ytccabbnpnpfnfaa.M
