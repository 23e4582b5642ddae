/- Sizes of terms. -/
import Derived.Test.YtelddjedpmfclaaBase
namespace Go.Proofs.Ytelddjedpmfclaa.M
open Go Nt
set_option linter.unusedVariables false
set_option linter.unusedSimpArgs false
mutual
def tsize : Term → Nat
  | ⟨_, _, _, l, _, _⟩ => 1 + tsizes l
def tsizes : List Term → Nat
  | [] => 0
  | x :: r => tsize x + tsizes r
end
theorem tsize_eq (t : Term) : tsize t = 1 + tsizes t.L := by cases t; simp [tsize]
theorem tsize_pos (t : Term) : 0 < tsize t := by rw [tsize_eq]; omega
theorem tsizes_drop {l : List Term} {i : Nat} (h : i < l.length) : tsizes (l.drop i) = tsize l[i] + tsizes (l.drop (i + 1)) := by
  rw [List.drop_eq_getElem_cons h, tsizes]
theorem tsizes_len (l : List Term) : l.length ≤ tsizes l := by
  induction l with
  | nil => simp [tsizes]
  | cons x r ih => have := tsize_pos x; simp [tsizes]; omega
theorem tsizes_take (l : List Term) (i : Nat) : tsizes l = tsizes (l.take i) + tsizes (l.drop i) := by
  induction l generalizing i with
  | nil => simp [tsizes]
  | cons x r ih =>
    cases i with
    | zero => simp [tsizes]
    | succ i => simp [tsizes, ih i]; omega
end Go.Proofs.Ytelddjedpmfclaa.M
