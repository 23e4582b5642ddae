/- The program's shifts, of terms of a bounded size. -/
import Derived.Test.YtkioflnaifdlkaaP14b
namespace Go.Proofs.Ytkioflnaifdlkaa.M
open Go Nt
set_option linter.unusedVariables false
set_option linter.unusedSimpArgs false

def zT : Term := Term.mk 0 0 ([] : List UInt8) [] 0 0
theorem zT_wf : Term.Wf zT := .mk _ (by decide) (by decide) (by simp [zT]) (by simp [zT]) (by simp [zT]) (by decide) (by decide)
theorem anyLs_false {Q : Int → Int → Bool} {p : Term} : ∀ {l : List Term} {i : Nat} {d : Int}, (∀ x ∈ l, ∀ d, anyL Q x d = false) → anyLs Q p l i d = false
  | [], _, _, _ => rfl
  | x :: r, i, d, h => by rw [anyLs, h x (by simp), anyLs_false fun y hy => h y (by simp [hy])]; rfl
theorem anyL_false {Q : Int → Int → Bool} (hQ : ∀ N d, Q N d = false) (t : Term) : ∀ d, anyL Q t d = false := by
  induction t using Term.ind with
  | h t ih =>
    intro d
    rw [anyL_eq]
    split
    · exact hQ _ _
    · exact anyLs_false ih
abbrev Bad (b f : Int) : Prop := f < 0 ∨ f > 8192 ∨ b > 8192 ∨ b < -8192
theorem shift_bad {b f : Int} (h : Bad b f) (t : Term) : shift_Shift t b f = some (zT, false, []) := by
  unfold shift_Shift
  by_cases h1 : f < 0
  · rw [if_pos h1]; rfl
  rw [if_neg h1]
  by_cases h2 : f > 8192
  · rw [if_pos h2]; rfl
  rw [if_neg h2]
  by_cases h3 : b > 8192
  · rw [if_pos h3]; rfl
  rw [if_neg h3, if_pos (by rcases h with h | h | h | h <;> omega)]; rfl
theorem shift_good {b f : Int} (h : ¬ Bad b f) {t : Term} (w : Term.Wf t) (hs : tsize t ≤ 1000000000) :
    ∃ hh, shift_Shift t b f = some (if anyL (lostL b f) t 0 = true then (zT, false, hh) else (mapL (raiseL b f) t 0, true, hh)) := by
  unfold shift_Shift
  have L : Lim b f := ⟨by omega, by omega, by omega, by omega⟩
  rw [if_neg (by omega), if_neg (by omega), if_neg (by omega), if_neg (by omega), walkM_ok b f L t w 0 false (by omega) (by omega), some_bind, Bool.false_or]
  cases anyL (lostL b f) t 0 with
  | true => exact ⟨_, rfl⟩
  | false => exact ⟨_, rfl⟩
theorem lost_pos {b f : Int} (h : 0 ≤ b) (t : Term) (d : Int) : anyL (lostL b f) t d = false := anyL_false (fun N d => decide_eq_false (by omega)) t d
theorem mapL_raise_size (b f : Int) (t : Term) : ∀ d, tsize (mapL (raiseL b f) t d) = tsize t := by
  induction t using Term.ind with
  | h t ih =>
    intro d
    rw [mapL_eq]
    split
    · unfold raiseL; split
      · rfl
      · rw [tsize_eq, tsize_eq]
    · rw [tsize_eq, tsize_eq]
      congr 1
      show tsizes (mapLs _ _ _ _ _) = _
      have : ∀ (l : List Term) (p : Term) (i : Nat) (d : Int), (∀ x ∈ l, ∀ d, tsize (mapL (raiseL b f) x d) = tsize x) → tsizes (mapLs (raiseL b f) p l i d) = tsizes l := by
        intro l
        induction l with
        | nil => intro p i d _; rfl
        | cons x r ihr => intro p i d h; rw [mapLs, tsizes, tsizes, h x (by simp), ihr p (i + 1) d fun y hy => h y (by simp [hy])]
      exact this t.L t 0 d ih
end Go.Proofs.Ytkioflnaifdlkaa.M
