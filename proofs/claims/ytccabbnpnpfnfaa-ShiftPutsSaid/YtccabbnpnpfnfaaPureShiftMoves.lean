/- ShiftMoves, as a plain law. -/
import Derived.Test.YtccabbnpnpfnfaaP14c
namespace Go.Proofs.Ytccabbnpnpfnfaa.M
open Go Nt
set_option linter.unusedVariables false
theorem mapL_raise_size (b f : Int) (t : Term) : ∀ d, tsize (mapL (raiseL b f) t d) = tsize t := by
  induction t using Term.ind with
  | h t ih =>
    intro d
    rw [mapL_eq]
    split
    · unfold raiseL; split
      · rfl
      · rw [tsize_eq, tsize_eq]
    · rw [tsize_eq, tsize_eq]
      congr 1
      show tsizes (mapLs _ _ _ _ _) = _
      have : ∀ (l : List Term) (p : Term) (i : Nat) (d : Int), (∀ x ∈ l, ∀ d, tsize (mapL (raiseL b f) x d) = tsize x) → tsizes (mapLs (raiseL b f) p l i d) = tsizes l := by
        intro l
        induction l with
        | nil => intro p i d _; rfl
        | cons x r ihr => intro p i d h; rw [mapLs, tsizes, tsizes, h x (by simp), ihr p (i + 1) d fun y hy => h y (by simp [hy])]
      exact this t.L t 0 d ih
theorem shiftMovesLaw (x0 : Term) (x1 : Int) (x2 : Int) (w0 : Term.Wf x0) (w1 : InK .i64 x1) (w2 : InK .i64 x2) : law14ShiftMoves x0 x1 x2 = some true := by
  unfold law14ShiftMoves
  obtain ⟨b, e, hb⟩ := large_ok x0 w0
  rw [e, some_bind, awake_ok]
  cases b with
  | true => rfl
  | false =>
    have hs := hb rfl
    have hlen := tsizes_len x0.L
    have hsz := tsize_eq x0
    rw [if_neg (by simp), in_ok x0 (by omega), refIn_ok x0 (by omega)]
    by_cases h : Bad x1 x2
    · rw [shift_bad h, refShift_bad h, some_bind, some_bind, if_pos rfl, placed_refl 400 zT (by simp [zT, tsize, tsizes]) (by omega)]
      simp [some_bind]
    · obtain ⟨hh, e1⟩ := shift_good h w0 (by omega)
      rw [e1, refShift_good h w0 (by omega), some_bind, some_bind]
      cases anyL (lostL x1 x2) x0 0 with
      | true =>
        rw [if_pos rfl, if_pos rfl, if_pos rfl, placed_refl 400 zT (by simp [zT, tsize, tsizes]) (by omega)]
        simp [some_bind]
      | false =>
        simp only [Bool.false_eq_true, if_false]
        rw [if_pos True.intro, placed_refl 400 _ (by rw [mapL_raise_size]; omega) (by omega)]
        simp [some_bind]
end Go.Proofs.Ytccabbnpnpfnfaa.M
