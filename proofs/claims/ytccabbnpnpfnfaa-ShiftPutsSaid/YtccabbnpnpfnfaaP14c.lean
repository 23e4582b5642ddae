/- Shifts: the program's and the reference's, of terms of a bounded size. -/
import Derived.Test.YtccabbnpnpfnfaaP14b
namespace Go.Proofs.Ytccabbnpnpfnfaa.M
open Go Nt
set_option linter.unusedVariables false
set_option linter.unusedSimpArgs false

def zT : Term := Term.mk 0 0 ([] : List UInt8) [] 0 0
theorem zT_wf : Term.Wf zT := .mk _ (by decide) (by decide) (by simp [zT]) (by simp [zT]) (by simp [zT]) (by decide) (by decide)
theorem anyLs_false {Q : Int → Int → Bool} {p : Term} : ∀ {l : List Term} {i : Nat} {d : Int}, (∀ x ∈ l, ∀ d, anyL Q x d = false) → anyLs Q p l i d = false
  | [], _, _, _ => rfl
  | x :: r, i, d, h => by rw [anyLs, h x (by simp), anyLs_false fun y hy => h y (by simp [hy])]; rfl
theorem anyL_false {Q : Int → Int → Bool} (hQ : ∀ N d, Q N d = false) (t : Term) : ∀ d, anyL Q t d = false := by
  induction t using Term.ind with
  | h t ih =>
    intro d
    rw [anyL_eq]
    split
    · exact hQ _ _
    · exact anyLs_false ih
abbrev Bad (b f : Int) : Prop := f < 0 ∨ f > 8192 ∨ b > 8192 ∨ b < -8192
theorem shift_bad {b f : Int} (h : Bad b f) (t : Term) : shift_Shift t b f = some (zT, false, []) := by
  unfold shift_Shift
  by_cases h1 : f < 0
  · rw [if_pos h1]; rfl
  rw [if_neg h1]
  by_cases h2 : f > 8192
  · rw [if_pos h2]; rfl
  rw [if_neg h2]
  by_cases h3 : b > 8192
  · rw [if_pos h3]; rfl
  rw [if_neg h3, if_pos (by rcases h with h | h | h | h <;> omega)]; rfl
theorem shift_good {b f : Int} (h : ¬ Bad b f) {t : Term} (w : Term.Wf t) (hs : tsize t ≤ 1000000000) :
    ∃ hh, shift_Shift t b f = some (if anyL (lostL b f) t 0 = true then (zT, false, hh) else (mapL (raiseL b f) t 0, true, hh)) := by
  unfold shift_Shift
  have L : Lim b f := ⟨by omega, by omega, by omega, by omega⟩
  rw [if_neg (by omega), if_neg (by omega), if_neg (by omega), if_neg (by omega), walkM_ok b f L t w 0 false (by omega) (by omega), some_bind, Bool.false_or]
  cases anyL (lostL b f) t 0 with
  | true => exact ⟨_, rfl⟩
  | false => exact ⟨_, rfl⟩
theorem refShift_bad {b f : Int} (h : Bad b f) (t : Term) : ref14Shift t b f = some (zT, false) := by
  unfold ref14Shift
  by_cases h1 : f < 0
  · rw [if_pos h1]; rfl
  rw [if_neg h1]
  by_cases h2 : f > 8192
  · rw [if_pos h2]; rfl
  rw [if_neg h2]
  by_cases h3 : b > 8192
  · rw [if_pos h3]; rfl
  rw [if_neg h3, if_pos (by rcases h with h | h | h | h <;> omega)]; rfl
theorem lost_pos {b f : Int} (h : 0 ≤ b) (t : Term) (d : Int) : anyL (lostL b f) t d = false := anyL_false (fun N d => decide_eq_false (by omega)) t d
theorem refShift_good {b f : Int} (h : ¬ Bad b f) {t : Term} (w : Term.Wf t) (hs : tsize t ≤ 1000000000) :
    ref14Shift t b f = some (if anyL (lostL b f) t 0 = true then (zT, false) else (mapL (raiseL b f) t 0, true)) := by
  unfold ref14Shift
  have wb : IntKind.wrap .i64 b = b := wi_id (by omega) (by omega)
  have wf : IntKind.wrap .i64 f = f := wi_id (by omega) (by omega)
  have wfb : IntKind.wrap .i64 (f - b) = f - b := wi_id (by omega) (by omega)
  rw [if_neg (by omega), if_neg (by omega), if_neg (by omega), if_neg (by omega)]
  simp only [wb, wf, wfb]
  by_cases hb : b < 0
  · rw [if_pos hb, meant_ok f (f - b) (by omega) t w 0 (by omega) (by omega), some_bind]
    have hQ : (fun N d => decide (d ≤ N ∧ f ≤ N - d ∧ N - d < f - b)) = lostL b f := by
      funext N d; unfold lostL; exact decide_eq_decide.2 (by omega)
    rw [hQ]
    cases anyL (lostL b f) t 0 with
    | true => rfl
    | false => rw [if_neg (by simp), raise_ok b f (by omega) t w 0 (by omega) (by omega), some_bind]; rfl
  · rw [if_neg hb, raise_ok b f (by omega) t w 0 (by omega) (by omega), some_bind, lost_pos (by omega)]; rfl
theorem awake_ok : law14awake = some true := by
  unfold law14awake
  obtain ⟨hh, e⟩ := shift_good (b := 3) (f := 1) (by omega) (t := Term.mk 7 2 ([] : List UInt8) [] 0 0)
    (.mk _ (by decide) (by decide) (by simp) (by simp) (by simp) (by decide) (by decide)) (by simp [tsize, tsizes])
  rw [e, lost_pos (by omega), some_bind]
  simp [mapL, raiseL, IntKind.wrap_i64]
end Go.Proofs.Ytccabbnpnpfnfaa.M
