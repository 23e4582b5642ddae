/- The program's walks that look for a local, and that put a term in for one. -/
import Derived.Test.YtccabbnpnpfnfaaP14c
namespace Go.Proofs.Ytccabbnpnpfnfaa.M
open Go Nt
set_option linter.unusedVariables false
set_option linter.unusedSimpArgs false
/-! the finder -/
def metL (a : Int) (N d : Int) : Bool := decide (d ≤ N ∧ N - d = a)
def sameL (t : Term) (_ : Int) : Term := t
theorem fturn_ok {t : Term} (w : Term.Wf t) {d a : Int} (hd : 0 ≤ d) (found : Bool) : shift_finder_turn t d a found = some (sameL t d, a, found || metL a t.N d) := by
  have hN := i64_iff.1 w.N_
  unfold shift_finder_turn metL sameL
  by_cases h1 : t.N ≥ d
  · rw [if_pos h1, wi_id (by omega) (by omega)]
    by_cases h2 : t.N - d = a
    · rw [if_pos h2, decide_eq_true (show d ≤ t.N ∧ t.N - d = a by omega)]; simp
    · rw [if_neg h2, decide_eq_false (show ¬ (d ≤ t.N ∧ t.N - d = a) by omega)]; simp
  · rw [if_neg h1, decide_eq_false (show ¬ (d ≤ t.N ∧ t.N - d = a) by omega)]; simp
theorem walkF_ok (a : Int) (t : Term) : Term.Wf t → ∀ (d : Int) (lost : Bool), 0 ≤ d → d + tsize t ≤ 1000000000 →
    shift_walk_finder_turn t d a lost = some (mapL sameL t d, a, lost || anyL (metL a) t d) := by
  induction t using Term.ind with
  | h t ih =>
    intro wt d lost hd hs
    rw [shift_walk_finder_turn_eq]; unfold shift_walk_finder_turn_B
    rw [mapL_eq, anyL_eq]
    by_cases h7 : t.K = 7
    · rw [if_pos h7, if_pos h7, if_pos h7, fturn_ok wt hd]
      rfl
    rw [if_neg h7, if_neg h7, if_neg h7]
    have hsz := tsize_eq t
    have hlen := tsizes_len t.L
    by_cases h0 : (List.length t.L : Int) = 0
    · rw [if_pos h0]
      have hnil : t.L = [] := List.length_eq_zero_iff.1 (by omega)
      rw [hnil]
      simp only [mapLs, anyLs, Bool.or_false]
      congr 1
      cases t; simp only at hnil; subst hnil; rfl
    rw [if_neg h0, if_pos (by omega)]
    have loop : ∀ (k i : Nat) (more : Int) (row : List Term) (lo : Bool), i + k = t.L.length → (t.K = 29 → more = cntB (t.L.take i)) → row.length = t.L.length →
        row.take i = (mapLs sameL t t.L 0 d).take i →
        ∀ o6 : Term, shift_walk_finder_turn_L8 d more t.L t.L.length i t o6 row a lo = some ({ t with L := mapLs sameL t t.L 0 d }, a, lo || anyLs (metL a) t (t.L.drop i) i d) := by
      intro k
      induction k with
      | zero =>
        intro i more row lo hi hm hr ht o6
        rw [shift_walk_finder_turn_L8_eq]; unfold shift_walk_finder_turn_L8_B
        rw [if_neg (by omega)]
        have h1 : t.L.drop i = [] := List.drop_eq_nil_of_le (by omega)
        have h2 : row = mapLs sameL t t.L 0 d := by
          have e1 := List.take_of_length_le (l := row) (i := i) (by omega)
          have e2 := List.take_of_length_le (l := mapLs sameL t t.L 0 d) (i := i) (by rw [mapLs_len]; omega)
          rw [← e1, ht, e2]
        rw [h1, h2]; simp [anyLs]
      | succ k ihk =>
        intro i more row lo hi hm hr ht o6
        have hil : i < t.L.length := by omega
        have hin := inN_size hil
        rw [shift_walk_finder_turn_L8_eq]; unfold shift_walk_finder_turn_L8_B
        rw [if_pos (by omega), idx_lt hil, some_bind, anyLs_drop _ _ hil]
        have hget := mapLs_get sameL t t.L 0 d i hil
        rw [Nat.zero_add] at hget
        have htk := take_succ_eq ht (by omega) hget
        have hwi : IntKind.wrap .i64 ((i : Int) + 1) = ((i + 1 : Nat) : Int) := by rw [wi_id (by omega) (by omega)]; omega
        have hdw : IntKind.wrap .i64 (d + (inN t i : Int)) = d + (inN t i : Int) := wi_id (by omega) (by omega)
        have e := ih _ (List.getElem_mem hil) (wt.L_.2 _ (List.getElem_mem hil)) (d + (inN t i : Int)) lo (by omega) (by omega)
        have hn : (i : Int).toNat = i := rfl
        by_cases h29 : t.K = 29
        · have hmore := hm h29
          rw [← inN_block h29 hil] at hmore
          rw [if_neg (by simpa using h29), hmore, hdw, e, some_bind, if_pos (by omega), if_pos (by rw [hn]; omega), if_pos h29, binds_ok, some_bind, hwi, hn]
          have hc := cntB_take hil
          have hbn := inN_block h29 hil
          cases hb : isB t.L[i] with
          | true =>
            rw [if_pos rfl, ihk (i + 1) _ _ _ (by omega) (fun _ => ?_) (by simpa using hr) htk]
            · simp [Bool.or_assoc]
            · rw [wi_id (by omega) (by omega), hc, hb, hbn]; simp
          | false =>
            rw [if_neg (by simp), ihk (i + 1) _ _ _ (by omega) (fun _ => ?_) (by simpa using hr) htk]
            · simp [Bool.or_assoc]
            · rw [hc, hb, hbn]; simp
        · rw [if_pos (by simpa using h29), in_ok t (by omega), some_bind, inI_nat, hdw, e, some_bind, if_pos (by omega), if_pos (by rw [hn]; omega), if_neg h29, hwi, hn,
            ihk (i + 1) _ _ _ (by omega) (fun h => absurd h h29) (by simpa using hr) htk]
          simp [Bool.or_assoc]
    have := loop t.L.length 0 0 (List.replicate (List.length t.L : Int).toNat (Term.mk 0 0 ([] : List UInt8) [] 0 0)) lost (by omega) (by simp [cntB]) (by simp) (by simp) (Term.mk 0 0 ([] : List UInt8) [] 0 0)
    simpa using this


/-! the putter -/
/-- what becomes of a local -/
def putL (e : Term) (a : Int) (t : Term) (d : Int) : Term := if d ≤ t.N ∧ t.N - d = a then mapL (raiseL d 0) e 0 else t
theorem pturn_ok {e t : Term} (we : Term.Wf e) (w : Term.Wf t) {d a : Int} (hd : 0 ≤ d) (hd2 : d ≤ 8192) (he : tsize e ≤ 1000000000) : ∃ hh, shift_putter_turn ⟨e, a⟩ t d = some (putL e a t d, hh) := by
  have hN := i64_iff.1 w.N_
  unfold shift_putter_turn putL
  by_cases h1 : t.N < d
  · rw [if_pos h1, if_neg (by omega)]; exact ⟨_, rfl⟩
  · rw [if_neg h1, wi_id (by omega) (by omega)]
    by_cases h2 : t.N - d = a
    · rw [if_neg (by simpa using h2), if_pos (by omega), walkM_ok d 0 ⟨by omega, by omega, by omega, by omega⟩ e we 0 false (by omega) (by omega), some_bind]
      exact ⟨_, rfl⟩
    · rw [if_pos h2, if_neg (by omega)]; exact ⟨_, rfl⟩
theorem walkP_ok (e : Term) (we : Term.Wf e) (he : tsize e ≤ 1000000000) (a : Int) (t : Term) : Term.Wf t → ∀ (d : Int), 0 ≤ d → d + tsize t ≤ 8000 →
    shift_walk_putter_turn t d ⟨e, a⟩ = some (mapL (putL e a) t d) := by
  induction t using Term.ind with
  | h t ih =>
    intro wt d hd hs
    rw [shift_walk_putter_turn_eq]; unfold shift_walk_putter_turn_B
    rw [mapL_eq]
    by_cases h7 : t.K = 7
    · obtain ⟨hh, e1⟩ := pturn_ok (a := a) we wt hd (by omega) he
      rw [if_pos h7, if_pos h7, e1]
      rfl
    rw [if_neg h7, if_neg h7]
    have hsz := tsize_eq t
    have hlen := tsizes_len t.L
    by_cases h0 : (List.length t.L : Int) = 0
    · rw [if_pos h0]
      have hnil : t.L = [] := List.length_eq_zero_iff.1 (by omega)
      rw [hnil]
      simp only [mapLs]
      congr 1
      cases t; simp only at hnil; subst hnil; rfl
    rw [if_neg h0, if_pos (by omega)]
    have loop : ∀ (k i : Nat) (more : Int) (row : List Term), i + k = t.L.length → (t.K = 29 → more = cntB (t.L.take i)) → row.length = t.L.length →
        row.take i = (mapLs (putL e a) t t.L 0 d).take i →
        ∀ o6 : Term, shift_walk_putter_turn_L8 d ⟨e, a⟩ more t.L t.L.length i t o6 row = some { t with L := mapLs (putL e a) t t.L 0 d } := by
      intro k
      induction k with
      | zero =>
        intro i more row hi hm hr ht o6
        rw [shift_walk_putter_turn_L8_eq]; unfold shift_walk_putter_turn_L8_B
        rw [if_neg (by omega)]
        have h1 : t.L.drop i = [] := List.drop_eq_nil_of_le (by omega)
        have h2 : row = mapLs (putL e a) t t.L 0 d := by
          have e1 := List.take_of_length_le (l := row) (i := i) (by omega)
          have e2 := List.take_of_length_le (l := mapLs (putL e a) t t.L 0 d) (i := i) (by rw [mapLs_len]; omega)
          rw [← e1, ht, e2]
        rw [h2]
      | succ k ihk =>
        intro i more row hi hm hr ht o6
        have hil : i < t.L.length := by omega
        have hin := inN_size hil
        rw [shift_walk_putter_turn_L8_eq]; unfold shift_walk_putter_turn_L8_B
        rw [if_pos (by omega), idx_lt hil, some_bind]
        have hget := mapLs_get (putL e a) t t.L 0 d i hil
        rw [Nat.zero_add] at hget
        have htk := take_succ_eq ht (by omega) hget
        have hwi : IntKind.wrap .i64 ((i : Int) + 1) = ((i + 1 : Nat) : Int) := by rw [wi_id (by omega) (by omega)]; omega
        have hdw : IntKind.wrap .i64 (d + (inN t i : Int)) = d + (inN t i : Int) := wi_id (by omega) (by omega)
        have e2 := ih _ (List.getElem_mem hil) (wt.L_.2 _ (List.getElem_mem hil)) (d + (inN t i : Int)) (by omega) (by omega)
        have hn : (i : Int).toNat = i := rfl
        by_cases h29 : t.K = 29
        · have hmore := hm h29
          rw [← inN_block h29 hil] at hmore
          rw [if_neg (by simpa using h29), hmore, hdw, e2, some_bind, if_pos (by omega), if_pos (by rw [hn]; omega), if_pos h29, binds_ok, some_bind, hwi, hn]
          have hc := cntB_take hil
          have hbn := inN_block h29 hil
          cases hb : isB t.L[i] with
          | true =>
            rw [if_pos rfl, ihk (i + 1) _ _ (by omega) (fun _ => ?_) (by simpa using hr) htk]
            rw [wi_id (by omega) (by omega), hc, hb, hbn]; simp
          | false =>
            rw [if_neg (by simp), ihk (i + 1) _ _ (by omega) (fun _ => ?_) (by simpa using hr) htk]
            rw [hc, hb, hbn]; simp
        · rw [if_pos (by simpa using h29), in_ok t (by omega), some_bind, inI_nat, hdw, e2, some_bind, if_pos (by omega), if_pos (by rw [hn]; omega), if_neg h29, hwi, hn,
            ihk (i + 1) _ _ (by omega) (fun h => absurd h h29) (by simpa using hr) htk]
    have := loop t.L.length 0 0 (List.replicate (List.length t.L : Int).toNat (Term.mk 0 0 ([] : List UInt8) [] 0 0)) (by omega) (by simp [cntB]) (by simp) (by simp) (Term.mk 0 0 ([] : List UInt8) [] 0 0)
    simpa using this

end Go.Proofs.Ytccabbnpnpfnfaa.M
