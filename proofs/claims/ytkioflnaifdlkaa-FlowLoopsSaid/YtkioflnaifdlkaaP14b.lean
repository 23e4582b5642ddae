/- A walk over a term, of the program's and of the reference's kinds: what it makes, and what it finds. -/
import Derived.Test.YtkioflnaifdlkaaP14a
namespace Go.Proofs.Ytkioflnaifdlkaa.M
open Go Nt
set_option linter.unusedVariables false
set_option linter.unusedSimpArgs false

/-! a term made anew at its locals; a question asked of its locals -/
mutual
def mapL (f : Term → Int → Term) : Term → Int → Term
  | ⟨K, N, S, L, F, T⟩, d => if K = 7 then f ⟨K, N, S, L, F, T⟩ d else ⟨K, N, S, mapLs f ⟨K, N, S, L, F, T⟩ L 0 d, F, T⟩
def mapLs (f : Term → Int → Term) (p : Term) : List Term → Nat → Int → List Term
  | [], _, _ => []
  | x :: r, i, d => mapL f x (d + inN p i) :: mapLs f p r (i + 1) d
end
mutual
def anyL (Q : Int → Int → Bool) : Term → Int → Bool
  | ⟨K, N, S, L, F, T⟩, d => if K = 7 then Q N d else anyLs Q ⟨K, N, S, L, F, T⟩ L 0 d
def anyLs (Q : Int → Int → Bool) (p : Term) : List Term → Nat → Int → Bool
  | [], _, _ => false
  | x :: r, i, d => anyL Q x (d + inN p i) || anyLs Q p r (i + 1) d
end
theorem mapL_eq (f : Term → Int → Term) (t : Term) (d : Int) : mapL f t d = if t.K = 7 then f t d else { t with L := mapLs f t t.L 0 d } := by cases t; simp only [mapL]
theorem anyL_eq (Q : Int → Int → Bool) (t : Term) (d : Int) : anyL Q t d = if t.K = 7 then Q t.N d else anyLs Q t t.L 0 d := by cases t; simp only [anyL]
theorem mapLs_len (f : Term → Int → Term) (p : Term) (l : List Term) : ∀ (i : Nat) (d : Int), (mapLs f p l i d).length = l.length := by
  induction l with
  | nil => intro i d; rfl
  | cons x r ih => intro i d; simp [mapLs, ih]
theorem mapLs_get (f : Term → Int → Term) (p : Term) : ∀ (l : List Term) (i : Nat) (d : Int) (j : Nat) (h : j < l.length), (mapLs f p l i d)[j]? = some (mapL f l[j] (d + inN p (i + j)))
  | [], i, d, j, h => by simp at h
  | x :: r, i, d, 0, h => by simp [mapLs]
  | x :: r, i, d, j + 1, h => by
    rw [mapLs, List.getElem?_cons_succ, mapLs_get f p r (i + 1) d j (by simpa using h), List.getElem_cons_succ, show i + 1 + j = i + (j + 1) by omega]
theorem take_succ_eq {α : Type} {l m : List α} {i : Nat} {x : α} (h : l.take i = m.take i) (hi : i < l.length) (hx : m[i]? = some x) : (l.set i x).take (i + 1) = m.take (i + 1) := by
  have hm : i < m.length := (List.getElem?_eq_some_iff.1 hx).1
  apply List.ext_getElem?
  intro j
  rw [List.getElem?_take, List.getElem?_take]
  split
  · rw [List.getElem?_set]
    split
    · rename_i h2 e; subst e; exact hx.symm
    · have := congrArg (·[j]?) h
      simp only [List.getElem?_take] at this
      rw [if_pos (by omega), if_pos (by omega)] at this
      exact this
  · rfl
theorem append_eq {α : Type} {l m : List α} {i : Nat} {x : α} (h : l = m.take i) (hx : m[i]? = some x) : l ++ [x] = m.take (i + 1) := by
  have hm : i < m.length := (List.getElem?_eq_some_iff.1 hx).1
  rw [h, List.take_add_one, hx]; rfl

/-! the program's walk that moves -/
/-- what becomes of a local, and whether it is lost -/
def raiseL (b f : Int) (t : Term) (d : Int) : Term := if t.N < d ∨ t.N - d < f then t else { t with N := IntKind.wrap .i64 (t.N + b) }
def lostL (b f : Int) (N d : Int) : Bool := decide (b < 0 ∧ d ≤ N ∧ f ≤ N - d ∧ N - d < f - b)
structure Lim (b f : Int) : Prop where
  b1 : -8192 ≤ b
  b2 : b ≤ 8192
  f1 : 0 ≤ f
  f2 : f ≤ 8192
theorem turn_ok {t : Term} (w : Term.Wf t) {d b f : Int} (hd : 0 ≤ d) (hd2 : d ≤ 4000000000000000000) (L : Lim b f) (lost : Bool) :
    shift_mover_turn t d b f lost = some (raiseL b f t d, b, f, lost || lostL b f t.N d) := by
  have hN := i64_iff.1 w.N_
  obtain ⟨b1, b2, f1, f2⟩ := L
  unfold shift_mover_turn raiseL lostL
  by_cases h1 : t.N < d
  · rw [if_pos h1, if_pos (.inl h1)]
    simp; omega
  rw [if_neg h1, wi_id (n := t.N - d) (by omega) (by omega), wi_id (n := f - b) (by omega) (by omega)]
  by_cases h2 : t.N - d < f
  · rw [if_pos h2, if_pos (.inr h2)]
    simp; omega
  rw [if_neg h2, if_neg (show ¬ (t.N < d ∨ t.N - d < f) by omega)]
  by_cases h3 : b < 0
  · rw [if_pos h3]
    by_cases h4 : t.N - d < f - b
    · rw [if_pos h4]
      have : decide (b < 0 ∧ d ≤ t.N ∧ f ≤ t.N - d ∧ t.N - d < f - b) = true := decide_eq_true (by omega)
      rw [this]; simp
    · rw [if_neg h4]
      have : decide (b < 0 ∧ d ≤ t.N ∧ f ≤ t.N - d ∧ t.N - d < f - b) = false := decide_eq_false (by omega)
      rw [this]; simp
  · rw [if_neg h3]
    have : decide (b < 0 ∧ d ≤ t.N ∧ f ≤ t.N - d ∧ t.N - d < f - b) = false := decide_eq_false (by omega)
    rw [this]; simp
theorem anyLs_drop (Q : Int → Int → Bool) (p : Term) {l : List Term} {i : Nat} (h : i < l.length) (d : Int) : anyLs Q p (l.drop i) i d = (anyL Q l[i] (d + inN p i) || anyLs Q p (l.drop (i + 1)) (i + 1) d) := by
  rw [List.drop_eq_getElem_cons h, anyLs]
theorem inI_nat (t : Term) (i : Nat) : inI t i = inN t i := by unfold inI; rw [if_neg (by omega)]; rfl
theorem inN_block {t : Term} (h : t.K = 29) {i : Nat} (hi : i < t.L.length) : inN t i = cntB (t.L.take i) := by unfold inN; rw [if_pos hi, if_pos h]

theorem walkM_ok (b f : Int) (L : Lim b f) (t : Term) : Term.Wf t → ∀ (d : Int) (lost : Bool), 0 ≤ d → d + tsize t ≤ 1000000000 →
    shift_walk_mover_turn t d b f lost = some (mapL (raiseL b f) t d, b, f, lost || anyL (lostL b f) t d) := by
  induction t using Term.ind with
  | h t ih =>
    intro wt d lost hd hs
    rw [shift_walk_mover_turn_eq]; unfold shift_walk_mover_turn_B
    rw [mapL_eq, anyL_eq]
    by_cases h7 : t.K = 7
    · rw [if_pos h7, if_pos h7, if_pos h7, turn_ok wt hd (by omega) L]
      rfl
    rw [if_neg h7, if_neg h7, if_neg h7]
    have hsz := tsize_eq t
    have hlen := tsizes_len t.L
    by_cases h0 : (List.length t.L : Int) = 0
    · rw [if_pos h0]
      have hnil : t.L = [] := List.length_eq_zero_iff.1 (by omega)
      rw [hnil]
      simp only [mapLs, anyLs, Bool.or_false]
      congr 1
      cases t; simp only at hnil; subst hnil; rfl
    rw [if_neg h0, if_pos (by omega)]
    have loop : ∀ (k i : Nat) (more : Int) (row : List Term) (lo : Bool), i + k = t.L.length → (t.K = 29 → more = cntB (t.L.take i)) → row.length = t.L.length →
        row.take i = (mapLs (raiseL b f) t t.L 0 d).take i →
        ∀ o6 : Term, shift_walk_mover_turn_L8 d more t.L t.L.length i t o6 row b f lo = some ({ t with L := mapLs (raiseL b f) t t.L 0 d }, b, f, lo || anyLs (lostL b f) t (t.L.drop i) i d) := by
      intro k
      induction k with
      | zero =>
        intro i more row lo hi hm hr ht o6
        rw [shift_walk_mover_turn_L8_eq]; unfold shift_walk_mover_turn_L8_B
        rw [if_neg (by omega)]
        have h1 : t.L.drop i = [] := List.drop_eq_nil_of_le (by omega)
        have h2 : row = mapLs (raiseL b f) t t.L 0 d := by
          have e1 := List.take_of_length_le (l := row) (i := i) (by omega)
          have e2 := List.take_of_length_le (l := mapLs (raiseL b f) t t.L 0 d) (i := i) (by rw [mapLs_len]; omega)
          rw [← e1, ht, e2]
        rw [h1, h2]; simp [anyLs]
      | succ k ihk =>
        intro i more row lo hi hm hr ht o6
        have hil : i < t.L.length := by omega
        have hin := inN_size hil
        rw [shift_walk_mover_turn_L8_eq]; unfold shift_walk_mover_turn_L8_B
        rw [if_pos (by omega), idx_lt hil, some_bind, anyLs_drop _ _ hil]
        have hget := mapLs_get (raiseL b f) t t.L 0 d i hil
        rw [Nat.zero_add] at hget
        have htk := take_succ_eq ht (by omega) hget
        have hwi : IntKind.wrap .i64 ((i : Int) + 1) = ((i + 1 : Nat) : Int) := by rw [wi_id (by omega) (by omega)]; omega
        have hdw : IntKind.wrap .i64 (d + (inN t i : Int)) = d + (inN t i : Int) := wi_id (by omega) (by omega)
        have e := ih _ (List.getElem_mem hil) (wt.L_.2 _ (List.getElem_mem hil)) (d + (inN t i : Int)) lo (by omega) (by omega)
        have hn : (i : Int).toNat = i := rfl
        by_cases h29 : t.K = 29
        · have hmore := hm h29
          rw [← inN_block h29 hil] at hmore
          rw [if_pos h29, hmore, hdw, e, some_bind, if_pos (by omega), if_pos (by rw [hn]; omega), binds_ok, some_bind, hwi, hn]
          have hc := cntB_take hil
          have hbn := inN_block h29 hil
          cases hb : isB t.L[i] with
          | true =>
            rw [if_pos rfl, ihk (i + 1) _ _ _ (by omega) (fun _ => ?_) (by simpa using hr) htk]
            · simp [Bool.or_assoc]
            · rw [wi_id (by omega) (by omega), hc, hb, hbn]; simp
          | false =>
            rw [if_neg (by simp), ihk (i + 1) _ _ _ (by omega) (fun _ => ?_) (by simpa using hr) htk]
            · simp [Bool.or_assoc]
            · rw [hc, hb, hbn]; simp
        · rw [if_neg h29, in_ok t (by omega), some_bind, inI_nat, hdw, e, some_bind, if_pos (by omega), if_pos (by rw [hn]; omega), hwi, hn,
            ihk (i + 1) _ _ _ (by omega) (fun h => absurd h h29) (by simpa using hr) htk]
          simp [Bool.or_assoc]
    have := loop t.L.length 0 0 (List.replicate (List.length t.L : Int).toNat (Term.mk 0 0 ([] : List UInt8) [] 0 0)) lost (by omega) (by simp [cntB]) (by simp) (by simp) (Term.mk 0 0 ([] : List UInt8) [] 0 0)
    simpa using this

/-! the reference's -/
theorem outer_ok {t : Term} (w : Term.Wf t) {d : Int} (hd : 0 ≤ d) : ref14Outer t d = some (if t.N < d then -1 else t.N - d) := by
  have hN := i64_iff.1 w.N_
  unfold ref14Outer
  by_cases h : t.N < d
  · rw [if_pos h, if_pos h]
  · rw [if_neg h, if_neg h, wi_id (by omega) (by omega)]
theorem raise_ok (b f : Int) (hf : 0 ≤ f) (t : Term) : Term.Wf t → ∀ (d : Int), 0 ≤ d → d + tsize t ≤ 1000000000 → ref14Raise t b f d = some (mapL (raiseL b f) t d) := by
  induction t using Term.ind with
  | h t ih =>
    intro wt d hd hs
    rw [ref14Raise_eq]; unfold ref14Raise_B
    rw [mapL_eq]
    by_cases h7 : t.K = 7
    · rw [if_pos h7, if_pos h7, outer_ok wt hd, some_bind]
      unfold raiseL
      by_cases h1 : t.N < d
      · rw [if_pos h1, if_neg (by omega), if_pos (.inl h1)]
      · rw [if_neg h1]
        by_cases h2 : t.N - d ≥ f
        · rw [if_pos h2, if_neg (by omega)]
        · rw [if_neg h2, if_pos (by omega)]
    rw [if_neg h7, if_neg h7]
    have hsz := tsize_eq t
    have hlen := tsizes_len t.L
    have loop : ∀ (k i : Nat) (out : List Term), i + k = t.L.length → out = (mapLs (raiseL b f) t t.L 0 d).take i → ∀ o8 : Term, ref14Raise_L7 b f d out i t o8 = some { t with L := mapLs (raiseL b f) t t.L 0 d } := by
      intro k
      induction k with
      | zero =>
        intro i out hi ho o8
        rw [ref14Raise_L7_eq]; unfold ref14Raise_L7_B
        rw [if_neg (by omega), ho, List.take_of_length_le (by rw [mapLs_len]; omega)]
      | succ k ihk =>
        intro i out hi ho o8
        have hil : i < t.L.length := by omega
        have hin := inN_size hil
        rw [ref14Raise_L7_eq]; unfold ref14Raise_L7_B
        have hget := mapLs_get (raiseL b f) t t.L 0 d i hil
        rw [Nat.zero_add] at hget
        have e := ih _ (List.getElem_mem hil) (wt.L_.2 _ (List.getElem_mem hil)) (d + (inN t i : Int)) (by omega) (by omega)
        have hol : out.length = i := by rw [ho, List.length_take, mapLs_len]; omega
        rw [if_pos (by omega), idx_lt hil, some_bind, refIn_ok t (by omega), some_bind, inI_nat, wi_id (by omega) (by omega), e, some_bind, if_pos (by unfold roomy; simp [hol]; omega), append_eq ho hget, wi_id (by omega) (by omega), succ_cast]
        exact ihk (i + 1) _ (by omega) rfl o8
    exact loop t.L.length 0 [] (by omega) (by simp) _
end Go.Proofs.Ytkioflnaifdlkaa.M
