/- FlowLoops, as a plain law. -/
import Derived.Test.YtkioflnaifdlkaaP14s
import Derived.Test.YtkioflnaifdlkaaWf
namespace Go.Proofs.Ytkioflnaifdlkaa.M
open Go Nt
set_option linter.unusedVariables false
set_option linter.unusedSimpArgs false
/-- a term of that kind, with so many parts, of which the last ones, of that place on, are blocks? -/
def shaped (t : Term) (kind : Int) (parts from_ : Nat) : Bool := decide (t.K = kind) && decide (t.N = 0) && decide (t.S = []) && decide (t.L.length = parts) && (t.L.drop from_).all fun x => decide (x.K = 29)
theorem isLoop_ok (l : List Term) (hl : l.length ≤ 1000) : ∀ (k i : Nat), i + k = l.length → flow_is_L4 l l.length i = some ((l.drop i).all fun x => decide (x.K = 29)) := by
  intro k
  induction k with
  | zero =>
    intro i hi
    rw [flow_is_L4_eq]; unfold flow_is_L4_B
    rw [if_neg (show ¬ (i : Int) < (l.length : Int) by omega), List.drop_eq_nil_of_le (show l.length ≤ i by omega)]; rfl
  | succ k ih =>
    intro i hi
    have hil : i < l.length := by omega
    rw [flow_is_L4_eq]; unfold flow_is_L4_B
    rw [if_pos (show (i : Int) < (l.length : Int) by omega), idx_lt hil, some_bind, List.drop_eq_getElem_cons hil, List.all_cons]
    by_cases h : l[i].K = 29
    · rw [if_pos h, wi_id (by omega) (by omega), succ_cast, ih (i + 1) (by omega), decide_eq_true h]; rfl
    · rw [if_neg h, decide_eq_false h]; rfl
theorem shLoop_ok (t : Term) (hl : t.L.length ≤ 1000) : ∀ (k i : Nat), i + k = t.L.length → ref28Shaped_L4 t.L.length i t = some ((t.L.drop i).all fun x => decide (x.K = 29)) := by
  intro k
  induction k with
  | zero =>
    intro i hi
    rw [ref28Shaped_L4_eq]; unfold ref28Shaped_L4_B
    rw [if_neg (show ¬ (i : Int) < (t.L.length : Int) by omega), List.drop_eq_nil_of_le (show t.L.length ≤ i by omega)]; rfl
  | succ k ih =>
    intro i hi
    have hil : i < t.L.length := by omega
    rw [ref28Shaped_L4_eq]; unfold ref28Shaped_L4_B
    rw [if_pos (show (i : Int) < (t.L.length : Int) by omega), idx_lt hil, some_bind, List.drop_eq_getElem_cons hil, List.all_cons]
    by_cases h : t.L[i].K = 29
    · rw [if_pos h, wi_id (by omega) (by omega), succ_cast, ih (i + 1) (by omega), decide_eq_true h]; rfl
    · rw [if_neg h, decide_eq_false h]; rfl
theorem is_ok (t : Term) (kind : Int) (parts blocks : Nat) (h : blocks ≤ parts) (h2 : parts ≤ 100) : flow_is t kind parts blocks = some (shaped t kind parts (parts - blocks)) := by
  unfold flow_is shaped
  by_cases h1 : t.K = kind
  · rw [if_pos h1, decide_eq_true h1]
    by_cases h2 : t.N = 0
    · rw [if_pos h2, decide_eq_true h2]
      by_cases h3 : t.S = []
      · rw [if_pos h3, decide_eq_true h3]
        by_cases h4 : t.L.length = parts
        · rw [if_pos (show (t.L.length : Int) = (parts : Int) by omega), decide_eq_true h4, if_pos (Nat.le_refl _), wi_id (show -9223372036854775808 ≤ (parts : Int) - (blocks : Int) by omega) (by omega),
            show (parts : Int) - (blocks : Int) = ((parts - blocks : Nat) : Int) by omega, if_pos (show (0 : Int) ≤ ((parts - blocks : Nat) : Int) by omega), show Int.toNat ((parts - blocks : Nat) : Int) = parts - blocks from rfl, if_pos (show parts - blocks ≤ t.L.length by omega),
            List.take_of_length_le (Nat.le_refl _)]
          have := isLoop_ok (t.L.drop (parts - blocks)) (by simp; omega) (t.L.drop (parts - blocks)).length 0 (by omega)
          simpa using this
        · rw [if_neg (show ¬ (t.L.length : Int) = (parts : Int) by omega), decide_eq_false h4]; simp
      · rw [if_neg h3, decide_eq_false h3]; simp
    · rw [if_neg h2, decide_eq_false h2]; simp
  · rw [if_neg h1, decide_eq_false h1]; simp
theorem rshaped_ok (t : Term) (kind : Int) (parts blocks : Nat) (h : blocks ≤ parts) (h2 : parts ≤ 100) : ref28Shaped t kind parts blocks = some (shaped t kind parts (parts - blocks)) := by
  unfold ref28Shaped shaped
  by_cases h1 : t.K = kind
  · rw [if_pos h1, decide_eq_true h1]
    by_cases h2 : t.N = 0
    · rw [if_pos h2, decide_eq_true h2]
      by_cases h3 : t.S = []
      · rw [if_pos h3, decide_eq_true h3]
        by_cases h4 : t.L.length = parts
        · rw [if_pos (show (t.L.length : Int) = (parts : Int) by omega), decide_eq_true h4, wi_id (show -9223372036854775808 ≤ (parts : Int) - (blocks : Int) by omega) (by omega), show (parts : Int) - (blocks : Int) = ((parts - blocks : Nat) : Int) by omega]
          have := shLoop_ok t (by omega) (t.L.length - (parts - blocks)) (parts - blocks) (by omega)
          rw [h4] at this
          simpa using this
        · rw [if_neg (show ¬ (t.L.length : Int) = (parts : Int) by omega), decide_eq_false h4]; simp
      · rw [if_neg h3, decide_eq_false h3]; simp
    · rw [if_neg h2, decide_eq_false h2]; simp
  · rw [if_neg h1, decide_eq_false h1]; simp
abbrev lf (k n : Int) : Term := ⟨k, n, [], [], 0, 0⟩
/-- a count, as a loop -/
def loopT (a b c : Term) : Term :=
  ⟨29, 0, [], [⟨20, 0, [], [a], 0, 0⟩, ⟨20, 0, [], [mapL (raiseL 1 0) b 0], 0, 0⟩,
    ⟨24, 0, [], [⟨10, 5, [], [lf 7 1, lf 7 0], 0, 0⟩, ⟨29, 0, [], [⟨20, 0, [], [lf 7 1], 0, 0⟩, mapL (raiseL 2 1) c 0, ⟨22, 0, [], [lf 7 2, ⟨10, 9, [], [lf 7 2, lf 5 1], 0, 0⟩], 0, 0⟩], 0, 0⟩], 0, 0⟩], 0, 0⟩
theorem loopT_size (a b c : Term) : tsize (loopT a b c) ≤ 100 + tsize a + tsize b + tsize c := by
  simp only [loopT, tsize, tsizes, mapL_raise_size]; omega
def loopF (t : Term) : Term × Bool :=
  if shaped t 25 3 2 = true then (match t.L with | [a, b, c] => (loopT a b c, true) | _ => (zT, false)) else (zT, false)
theorem shaped_list {t : Term} (h : shaped t 25 3 2 = true) : ∃ a b c, t.L = [a, b, c] := by
  unfold shaped at h
  simp only [Bool.and_eq_true, decide_eq_true_eq] at h
  have := h.1.2
  rcases hL : t.L with _ | ⟨a, _ | ⟨b, _ | ⟨c, _ | ⟨d, r⟩⟩⟩⟩
  · rw [hL] at this; simp at this
  · rw [hL] at this; simp at this
  · rw [hL] at this; simp at this
  · exact ⟨a, b, c, rfl⟩
  · rw [hL] at this; simp at this
theorem loop_ok (t : Term) (w : Term.Wf t) (hs : tsize t ≤ 400) : flow_Loop t = some (loopF t) := by
  unfold flow_Loop loopF
  rw [show (3 : Int) = ((3 : Nat) : Int) from rfl, show (1 : Int) = ((1 : Nat) : Int) from rfl, is_ok t 25 3 1 (by omega) (by omega), some_bind]
  cases h : shaped t 25 3 2 with
  | false => rfl
  | true =>
    obtain ⟨a, b, c, hL⟩ := shaped_list h
    rw [tsize_eq, hL] at hs
    simp only [tsizes] at hs
    obtain ⟨hh, e1⟩ := shift_good (b := 1) (f := 0) (by unfold Bad; omega) (w.L_.2 b (by rw [hL]; simp)) (by omega)
    obtain ⟨hh2, e2⟩ := shift_good (b := 2) (f := 1) (by unfold Bad; omega) (w.L_.2 c (by rw [hL]; simp)) (by omega)
    rw [lost_pos (by omega)] at e1 e2
    have i1 : idx [a, b, c] 1 = some b := rfl
    have i2 : idx [a, b, c] 2 = some c := rfl
    rw [if_pos rfl, if_pos rfl, hL]
    simp only [show ((1 : Nat) : Int) = 1 from rfl, i1, i2, some_bind, e1, e2]
    rfl
theorem rloop_ok (t : Term) (w : Term.Wf t) (hs : tsize t ≤ 400) : ref28Loop t = some (loopF t) := by
  unfold ref28Loop loopF
  rw [show (3 : Int) = ((3 : Nat) : Int) from rfl, show (1 : Int) = ((1 : Nat) : Int) from rfl, rshaped_ok t 25 3 1 (by omega) (by omega), some_bind]
  cases h : shaped t 25 3 2 with
  | false => rfl
  | true =>
    obtain ⟨a, b, c, hL⟩ := shaped_list h
    rw [tsize_eq, hL] at hs
    simp only [tsizes] at hs
    have e1 := raise_ok 1 0 (by omega) b (w.L_.2 b (by rw [hL]; simp)) 0 (by omega) (by omega)
    have e2 := raise_ok 2 1 (by omega) c (w.L_.2 c (by rw [hL]; simp)) 0 (by omega) (by omega)
    have i0 : idx [a, b, c] 0 = some a := rfl
    have i1 : idx [a, b, c] 1 = some b := rfl
    have i2 : idx [a, b, c] 2 = some c := rfl
    rw [if_pos rfl, if_pos rfl, hL]
    simp only [show ((1 : Nat) : Int) = 1 from rfl, i0, i1, i2, some_bind, e1, e2]
    rfl
theorem same_leaf (k n : Int) : term_Same (lf k n) (lf k n) = some true := by
  rw [term_Same_eq]; unfold term_Same_B
  simp only [if_true]
  rw [slices_EqualFunc_G89Same_eq]; unfold slices_EqualFunc_G89Same_B
  simp only [if_true]
  rw [slices_EqualFunc_G89Same_L4_eq]; unfold slices_EqualFunc_G89Same_L4_B
  rfl
theorem flowAwake_ok : law28awake = some true := by
  unfold law28awake
  have b0 : ref28Block [] = some (lf 29 0) := rfl
  have e : ref28Make 24 [(Term.mk 6 0 ([] : List UInt8) [] 0 0), lf 29 0] = some ⟨24, 0, [], [lf 6 0, lf 29 0], 0, 0⟩ := rfl
  rw [b0, some_bind, e, some_bind, some_bind]
  unfold flow_Holds
  have i1 := is_ok ⟨24, 0, [], [lf 6 0, lf 29 0], 0, 0⟩ 23 3 2 (by omega) (by omega)
  have i2 := is_ok ⟨24, 0, [], [lf 6 0, lf 29 0], 0, 0⟩ 24 2 1 (by omega) (by omega)
  have s2 : shaped ⟨24, 0, [], [lf 6 0, lf 29 0], 0, 0⟩ 24 2 1 = true := by decide
  rw [s2] at i2
  have hn : flow_use_never ⟨⟨24, 0, [], [lf 6 0, lf 29 0], 0, 0⟩, lf 29 0⟩ = some true := by
    unfold flow_use_never flow_truth flow_block
    have : idx [lf 6 0, lf 29 0] 0 = some (lf 6 0) := rfl
    simp only [this, some_bind, same_leaf, if_true]
  simp only [show ((3 : Nat) : Int) = 3 from rfl, show ((2 : Nat) : Int) = 2 from rfl, show ((1 : Nat) : Int) = 1 from rfl] at i1 i2
  rw [i1, some_bind, i2, hn]
  rfl
theorem flowLoopsLaw (x0 : Term) (w0 : Term.Wf x0) : law28FlowLoops x0 = some true := by
  unfold law28FlowLoops
  obtain ⟨b, e, hb⟩ := large_ok x0 w0
  rw [e, some_bind, flowAwake_ok, some_bind]
  cases b with
  | true => rfl
  | false =>
    have hs := hb rfl
    have hp : ref06Placed (loopF x0).1 (loopF x0).1 = some true := by
      refine placed_refl 1000 _ ?_ (by omega)
      unfold loopF
      split
      · rename_i h
        obtain ⟨a, b, c, hL⟩ := shaped_list h
        rw [tsize_eq, hL] at hs
        simp only [tsizes] at hs
        rw [hL]
        show tsize (loopT a b c) ≤ 1000
        have := loopT_size a b c; omega
      · simp [zT, tsize, tsizes]
    rw [if_neg (by simp), loop_ok x0 w0 hs, rloop_ok x0 w0 hs, some_bind, some_bind, if_pos rfl, hp]
    rfl
end Go.Proofs.Ytkioflnaifdlkaa.M
