/- Sizes of terms, and a term is like itself (the part of T6 for seats without Large). -/
import Derived.Test.YtpdhlbejdagkmaaBase
namespace Go.Proofs.Ytpdhlbejdagkmaa.M
open Go Nt
set_option linter.unusedVariables false
set_option linter.unusedSimpArgs false

mutual
def tsize : Term → Nat
  | ⟨_, _, _, l, _, _⟩ => 1 + tsizes l
def tsizes : List Term → Nat
  | [] => 0
  | x :: r => tsize x + tsizes r
end
theorem tsize_eq (t : Term) : tsize t = 1 + tsizes t.L := by cases t; simp [tsize]
theorem tsize_pos (t : Term) : 0 < tsize t := by rw [tsize_eq]; omega
theorem tsizes_drop {l : List Term} {i : Nat} (h : i < l.length) : tsizes (l.drop i) = tsize l[i] + tsizes (l.drop (i + 1)) := by
  rw [List.drop_eq_getElem_cons h, tsizes]
theorem tsizes_len (l : List Term) : l.length ≤ tsizes l := by
  induction l with
  | nil => simp [tsizes]
  | cons x r ih => have := tsize_pos x; simp [tsizes]; omega
theorem tsizes_take (l : List Term) (i : Nat) : tsizes l = tsizes (l.take i) + tsizes (l.drop i) := by
  induction l generalizing i with
  | nil => simp [tsizes]
  | cons x r ih =>
    cases i with
    | zero => simp [tsizes]
    | succ i => simp [tsizes, ih i]; omega

/-- terms whose lists are no longer than can be counted -/
theorem placed_refl (n : Nat) : ∀ t : Term, tsize t ≤ n → (n : Int) ≤ 9223372036854775807 → ref06Placed t t = some true := by
  intro t
  induction t using Term.ind with
  | h t ih =>
    intro hs hn
    have hlen := tsizes_len t.L
    rw [tsize_eq] at hs
    have loop : ∀ (k i : Nat), i + k = t.L.length → ref06Placed_L4 i t t = some true := by
      intro k
      induction k with
      | zero =>
        intro i hi
        rw [ref06Placed_L4_eq]; unfold ref06Placed_L4_B
        rw [if_neg (by omega)]
      | succ k ihk =>
        intro i hi
        rw [ref06Placed_L4_eq]; unfold ref06Placed_L4_B
        have hd := tsizes_drop (show i < t.L.length by omega)
        have ht := tsizes_take t.L i
        have e := ih _ (List.getElem_mem (show i < t.L.length by omega)) (by omega) hn
        rw [if_pos (by omega), idx_lt (show i < t.L.length by omega), some_bind, some_bind, e, some_bind, if_pos rfl, wi_id (by omega) (by omega), succ_cast]
        exact ihk (i + 1) (by omega)
    rw [ref06Placed_eq]; unfold ref06Placed_B
    simp only [if_true]
    exact loop t.L.length 0 (by omega)
end Go.Proofs.Ytpdhlbejdagkmaa.M
