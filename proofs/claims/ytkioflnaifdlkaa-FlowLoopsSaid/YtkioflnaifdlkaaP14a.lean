/- Locals below terms: a walk that turns them, a question about them; how many a term brings around a part. -/
import Derived.Test.YtkioflnaifdlkaaT6
namespace Go.Proofs.Ytkioflnaifdlkaa.M
open Go Nt
set_option linter.unusedVariables false
set_option linter.unusedSimpArgs false

def isB (t : Term) : Bool := t.K == 20 || t.K == 21
def cntB : List Term → Nat
  | [] => 0
  | x :: r => (if isB x = true then 1 else 0) + cntB r
theorem cntB_le (l : List Term) : cntB l ≤ l.length := by
  induction l with
  | nil => simp [cntB]
  | cons x r ih => simp only [cntB, List.length_cons]; split <;> omega
theorem cntB_take {l : List Term} {i : Nat} (h : i < l.length) : cntB (l.take (i + 1)) = cntB (l.take i) + (if isB l[i] = true then 1 else 0) := by
  induction l generalizing i with
  | nil => simp at h
  | cons x r ih =>
    cases i with
    | zero => simp [cntB]
    | succ i => simp only [List.take_succ_cons, cntB, List.getElem_cons_succ]; rw [ih (by simpa using h)]; omega
def inN (t : Term) (i : Nat) : Nat :=
  if i < t.L.length then
    if t.K = 29 then cntB (t.L.take i)
    else if t.K = 25 then (if i = 2 then 1 else 0)
    else if t.K = 33 then (if i = 2 then (match t.L with | x :: _ => x.L.length | [] => 0) else 0)
    else 0
  else 0
theorem inN_size {t : Term} {i : Nat} (h : i < t.L.length) : inN t i + tsize t.L[i] ≤ tsizes t.L := by
  have h1 := tsizes_take t.L i
  have h2 := tsizes_drop h
  have h3 := tsizes_len (t.L.take i)
  have h4 := cntB_le (t.L.take i)
  have h5 : (t.L.take i).length = i := by simp; omega
  suffices inN t i ≤ tsizes (t.L.take i) by omega
  unfold inN
  rw [if_pos h]
  split
  · omega
  · split
    · split <;> omega
    · split
      · split
        · rename_i hi; subst hi
          cases hl : t.L with
          | nil => simp
          | cons x r =>
            simp only [List.take_succ_cons, tsizes]
            have := tsize_eq x
            have := tsizes_len x.L
            omega
        · omega
      · omega

/-! how many locals -/
theorem binds_ok (t : Term) : shift_binds t = some (isB t) := by
  unfold shift_binds isB
  by_cases h : t.K = 20
  · rw [if_pos h]; simp [h]
  · rw [if_neg h]; simp [h]
theorem inLoop_ok (l : List Term) (hl : l.length ≤ 9223372036854775806) : ∀ (k i : Nat), i + k = l.length → ∀ n : Nat, n ≤ i → shift_In_L7 n l l.length i = some (((n + cntB (l.drop i) : Nat) : Int)) := by
  intro k
  induction k with
  | zero =>
    intro i hi n hn
    rw [shift_In_L7_eq]; unfold shift_In_L7_B
    rw [if_neg (by omega)]
    have : l.drop i = [] := List.drop_eq_nil_of_le (by omega)
    rw [this]; simp [cntB]
  | succ k ih =>
    intro i hi n hn
    rw [shift_In_L7_eq]; unfold shift_In_L7_B
    rw [if_pos (by omega), idx_lt (show i < l.length by omega), some_bind, binds_ok, some_bind, wi_id (n := (n : Int) + 1) (by omega) (by omega), wi_id (by omega) (by omega)]
    rw [List.drop_eq_getElem_cons (show i < l.length by omega), cntB]
    cases hb : isB l[i] with
    | true =>
      rw [if_pos rfl, succ_cast, succ_cast, ih (i + 1) (by omega) (n + 1) (by omega)]
      simp; omega
    | false =>
      rw [if_neg (by simp), succ_cast, ih (i + 1) (by omega) n (by omega)]
      simp
/-- what the program's question and the reference's come to -/
def inI (t : Term) (i : Int) : Int := if i < 0 then 0 else (inN t i.toNat : Int)
theorem in_ok (t : Term) (hl : t.L.length ≤ 9223372036854775806) (i : Int) : shift_In t i = some (inI t i) := by
  unfold shift_In inI
  by_cases h0 : i < 0
  · rw [if_pos h0, if_pos h0]
  rw [if_neg h0, if_neg h0]
  obtain ⟨n, rfl⟩ := Int.eq_ofNat_of_zero_le (show 0 ≤ i by omega)
  unfold inN
  have hn : (n : Int).toNat = n := rfl
  rw [hn]
  by_cases h1 : (n : Int) ≥ (List.length t.L : Int)
  · rw [if_pos h1, if_neg (by omega)]; rfl
  rw [if_neg h1, if_pos (show n < t.L.length by omega)]
  have hlt : n < t.L.length := by omega
  by_cases h29 : t.K = 29
  · rw [if_pos h29, if_pos h29, if_pos (by omega), if_pos (by omega), if_pos (by omega)]
    have := inLoop_ok (t.L.take n) (by simp; omega) (t.L.take n).length 0 (by omega) 0 (by omega)
    simpa using this
  rw [if_neg h29, if_neg h29]
  by_cases h25 : t.K = 25
  · rw [if_pos h25, if_pos h25]
    by_cases h2 : n = 2
    · subst h2; rfl
    · rw [if_neg (by omega), if_neg h2]; rfl
  rw [if_neg h25, if_neg h25]
  by_cases h33 : t.K = 33
  · rw [if_pos h33, if_pos h33]
    by_cases h2 : n = 2
    · subst h2
      rw [if_pos (by rfl), if_pos rfl, idx_zero]
      cases hL : t.L with
      | nil => rw [hL] at hlt; simp at hlt
      | cons x r => rfl
    · rw [if_neg (by omega), if_neg h2]; rfl
  · rw [if_neg h33, if_neg h33]; rfl
theorem refInLoop_ok (t : Term) (hl : t.L.length ≤ 9223372036854775806) (m : Nat) (hm : m ≤ t.L.length) : ∀ (k i : Nat), i + k = m → ∀ n : Nat, n ≤ i → ref14In_L6 m n i t = some (((n + cntB ((t.L.take m).drop i) : Nat) : Int)) := by
  intro k
  induction k with
  | zero =>
    intro i hi n hn
    rw [ref14In_L6_eq]; unfold ref14In_L6_B
    rw [if_neg (by omega)]
    have : (t.L.take m).drop i = [] := List.drop_eq_nil_of_le (by simp; omega)
    rw [this]; simp [cntB]
  | succ k ih =>
    intro i hi n hn
    rw [ref14In_L6_eq]; unfold ref14In_L6_B
    have hlen : i < (t.L.take m).length := by simp; omega
    rw [if_pos (by omega), idx_lt (show i < t.L.length by omega), some_bind, some_bind, wi_id (n := (n : Int) + 1) (by omega) (by omega), wi_id (by omega) (by omega)]
    rw [List.drop_eq_getElem_cons hlen, cntB]
    have hget : (t.L.take m)[i] = t.L[i] := by simp
    rw [hget]
    by_cases h20 : (t.L[i]).K = 20
    · rw [if_pos h20, succ_cast, succ_cast, ih (i + 1) (by omega) (n + 1) (by omega)]
      simp [isB, h20]; omega
    · rw [if_neg h20]
      by_cases h21 : (t.L[i]).K = 21
      · rw [if_pos h21, succ_cast, succ_cast, ih (i + 1) (by omega) (n + 1) (by omega)]
        simp [isB, h21]; omega
      · rw [if_neg h21, succ_cast, ih (i + 1) (by omega) n (by omega)]
        simp [isB, h20, h21]
theorem refIn_ok (t : Term) (hl : t.L.length ≤ 9223372036854775806) (i : Int) : ref14In t i = some (inI t i) := by
  unfold ref14In inI
  by_cases h0 : i < 0
  · rw [if_pos h0, if_pos h0]
  rw [if_neg h0, if_neg h0]
  obtain ⟨n, rfl⟩ := Int.eq_ofNat_of_zero_le (show 0 ≤ i by omega)
  unfold inN
  have hn : (n : Int).toNat = n := rfl
  rw [hn]
  by_cases h1 : (n : Int) ≥ (List.length t.L : Int)
  · rw [if_pos h1, if_neg (by omega)]; rfl
  rw [if_neg h1, if_pos (show n < t.L.length by omega)]
  have hlt : n < t.L.length := by omega
  by_cases h29 : t.K = 29
  · rw [if_pos h29, if_pos h29]
    have := refInLoop_ok t hl n (by omega) n 0 (by omega) 0 (by omega)
    simpa using this
  rw [if_neg h29, if_neg h29]
  have tl : (if t.K = 33 then if (n : Int) = 2 then idx t.L 0 >>= fun x => some (List.length x.L : Int) else some 0 else some 0) =
      some ((if t.K = 33 then (if n = 2 then (match t.L with | x :: _ => x.L.length | [] => 0) else 0) else 0 : Nat) : Int) := by
    by_cases h33 : t.K = 33
    · rw [if_pos h33, if_pos h33]
      by_cases h2 : n = 2
      · subst h2
        rw [if_pos (by rfl), if_pos rfl, idx_zero]
        cases hL : t.L with
        | nil => rw [hL] at hlt; simp at hlt
        | cons x r => rfl
      · rw [if_neg (by omega), if_neg h2]; rfl
    · rw [if_neg h33, if_neg h33]; rfl
  by_cases h25 : t.K = 25
  · rw [if_pos h25, if_pos h25]
    by_cases h2 : n = 2
    · subst h2; rfl
    · rw [if_neg (show ¬ (n : Int) = 2 by omega), if_neg h2]; rfl
  · rw [if_neg h25, if_neg h25]; exact tl
end Go.Proofs.Ytkioflnaifdlkaa.M
