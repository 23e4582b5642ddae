import Derived.Test.YtnbcacfljnooeaaMod
import Derived.Test.YtnbcacfljnooeaaWf
namespace Go.Proofs.Ytnbcacfljnooeaa.M
open Go Nt
set_option linter.unusedVariables false
set_option linter.unusedSimpArgs false
set_option linter.unusedSectionVars false
theorem z3e {n : Int} (h1 : -9223372036854775808 ≤ n) (h2 : n ≤ 9223372036854775807) : IntKind.wrap .i64 n = n := by rw [IntKind.wrap_i64]; omega
theorem z8N {α : Type} (l : List α) (n : Nat) : idx l (n : Int) = l[n]? := by unfold idx; rw [if_pos (by omega)]; rfl
theorem z1C {α : Type} {l : List α} {n : Nat} (h : n < l.length) : idx l (n : Int) = some l[n] := by rw [z8N]; exact List.getElem?_eq_getElem h
theorem zN {α β : Type} (x : α) (k : α → Option β) : (some x >>= k) = k x := rfl
theorem jA (n : Nat) : ((n : Int) + 1) = ((n + 1 : Nat) : Int) := by omega
mutual
def jV : zA → Nat
  | ⟨_, _, _, l, _, _⟩ => 1 + yS l
def yS : List zA → Nat
  | [] => 0
  | x :: r => jV x + yS r
end
theorem z0p (t : zA) : jV t = 1 + yS t.L := by cases t; simp [jV]
theorem z5w (t : zA) : 0 < jV t := by rw [z0p]; omega
theorem z0G {l : List zA} {i : Nat} (h : i < l.length) : yS (l.drop i) = jV l[i] + yS (l.drop (i + 1)) := by
  rw [List.drop_eq_getElem_cons h, yS]
theorem z0q (l : List zA) : l.length ≤ yS l := by
  induction l with
  | nil => simp [yS]
  | cons x r ih => have := z5w x; simp [yS]; omega
theorem z2S (l : List zA) (i : Nat) : yS l = yS (l.take i) + yS (l.drop i) := by
  induction l generalizing i with
  | nil => simp [yS]
  | cons x r ih =>
    cases i with
    | zero => simp [yS]
    | succ i => simp [yS, ih i]; omega
theorem z8f (t : zA) : zA.Wf t → ∀ left levels : Int, 0 ≤ left → left ≤ 1000000 → levels ≤ 1000000 →
    ∃ v, zV t left levels = some v ∧ -1 ≤ v ∧ v ≤ left ∧ (0 ≤ v → v + jV t = left) := by
  induction t using zA.ind with
  | h t ih =>
    intro wt left levels h0 h1 h2
    have loop : ∀ (k i : Nat) (lf : Int), i + k = t.L.length → -1 ≤ lf → lf ≤ 1000000 → 0 < levels →
        ∃ v, zH lf levels i t = some v ∧ -1 ≤ v ∧ v ≤ lf ∧ (0 ≤ v → v + yS (t.L.drop i) = lf) := by
      intro k
      induction k with
      | zero =>
        intro i lf hi h3 h4 h5
        rw [gJ]; unfold yP
        rw [if_neg (by omega)]
        have : t.L.drop i = [] := List.drop_eq_nil_of_le (by omega)
        exact ⟨lf, rfl, h3, by omega, fun _ => by rw [this]; simp [yS]⟩
      | succ k ihk =>
        intro i lf hi h3 h4 h5
        rw [gJ]; unfold yP
        rw [if_pos (by omega)]
        by_cases hlf : lf ≥ 0
        · rw [if_pos hlf, z1C (show i < t.L.length by omega), zN, z3e (by omega) (by omega)]
          obtain ⟨v, e, v1, v2, v3⟩ := ih _ (List.getElem_mem _) (wt.L_.2 _ (List.getElem_mem _)) lf (levels - 1) hlf h4 (by omega)
          have hl := wt.L_.1
          rw [e, zN, z3e (by omega) (by omega), jA]
          obtain ⟨u, e2, u1, u2, u3⟩ := ihk (i + 1) v (by omega) v1 (by omega) h5
          refine ⟨u, e2, u1, by omega, fun hu => ?_⟩
          rw [z0G (show i < t.L.length by omega)]
          have := u3 hu
          have := v3 (by omega)
          omega
        · rw [if_neg hlf]
          exact ⟨lf, rfl, h3, by omega, fun h => absurd h (by omega)⟩
    rw [z4j]; unfold vO
    by_cases hlv : levels ≤ 0
    · rw [if_pos hlv]; exact ⟨-1, rfl, by omega, by omega, fun h => absurd h (by omega)⟩
    · rw [if_neg hlv, z3e (by omega) (by omega)]
      obtain ⟨v, e, v1, v2, v3⟩ := loop t.L.length 0 (left - 1) (by omega) (by omega) (by omega) (by omega)
      refine ⟨v, e, v1, by omega, fun hv => ?_⟩
      have := v3 hv
      rw [z0p]
      simp at this
      omega
theorem z8v (t : zA) : zA.Wf t → ∃ b, zW t = some b := by
  induction t using zA.ind with
  | h t ih =>
    intro wt
    have loop : ∀ (k i : Nat), i + k = t.L.length → ∃ b, zI i t = some b := by
      intro k
      induction k with
      | zero =>
        intro i hi
        rw [gK]; unfold yQ
        rw [if_neg (by omega)]; exact ⟨_, rfl⟩
      | succ k ihk =>
        intro i hi
        rw [gK]; unfold yQ
        have hl := wt.L_.1
        obtain ⟨b, e⟩ := ih _ (List.getElem_mem (show i < t.L.length by omega)) (wt.L_.2 _ (List.getElem_mem _))
        rw [if_pos (by omega), z1C (show i < t.L.length by omega), zN, e, zN, z3e (by omega) (by omega), jA]
        cases b with
        | true => exact ⟨true, rfl⟩
        | false => simpa using ihk (i + 1) (by omega)
    rw [z4k]; unfold vP
    by_cases h : (List.length t.S : Int) > 40
    · rw [if_pos h]; exact ⟨_, rfl⟩
    · rw [if_neg h]; exact loop t.L.length 0 (by omega)
theorem z8s (t : zA) (w : zA.Wf t) : ∃ b, jS t = some b ∧ (b = false → jV t ≤ 400) := by
  unfold jS
  obtain ⟨v, e, v1, v2, v3⟩ := z8f t w 400 70 (by omega) (by omega) (by omega)
  rw [e, zN]
  by_cases h : v < 0
  · rw [if_pos h]; exact ⟨true, rfl, by simp⟩
  · rw [if_neg h]
    obtain ⟨b, e2⟩ := z8v t w
    rw [e2, zN]
    exact ⟨b, rfl, fun _ => by have := v3 (by omega); omega⟩
mutual
def nds : zA → List zA
  | ⟨K, N, S, L, F, T⟩ => ⟨K, N, S, L, F, T⟩ :: z1S L
def z1S : List zA → List zA
  | [] => []
  | x :: r => nds x ++ z1S r
end
theorem z6l (t : zA) : nds t = t :: z1S t.L := by cases t; simp [nds]
theorem z8w (a b : List zA) : z1S (a ++ b) = z1S a ++ z1S b := by
  induction a with
  | nil => simp [z1S]
  | cons x r ih => simp [z1S, ih]
theorem z6U (a b : List zA) : yS (a ++ b) = yS a + yS b := by
  induction a with
  | nil => simp [yS]
  | cons x r ih => simp [yS, ih]; omega
theorem z4d : ∀ t : zA, (nds t).length = jV t := by
  intro t
  induction t using zA.ind with
  | h t ih =>
    have : ∀ l : List zA, (∀ x ∈ l, (nds x).length = jV x) → (z1S l).length = yS l := by
      intro l
      induction l with
      | nil => intro _; simp [z1S, yS]
      | cons x r ihr =>
        intro h
        have := ihr (fun y hy => h y (by simp [hy]))
        simp [z1S, yS, h x (by simp), this]
    rw [z6l, z0p, List.length_cons, this t.L ih]; omega
theorem z9h : ∀ (n : Nat) (done q : List zA), yS q ≤ n → done.length + yS q ≤ 1000000 → ∃ r, quiet_all_L3 (done ++ q) (done.length : Int) = some r ∧ r.Perm (done ++ z1S q) := by
  intro n
  induction n with
  | zero =>
    intro done q h1 h2
    have hq : q = [] := by
      cases q with
      | nil => rfl
      | cons x r => have := z5w x; simp [yS] at h1; omega
    subst hq
    rw [uY]; unfold yN
    rw [List.append_nil, if_neg (by omega)]
    exact ⟨done, rfl, by simp [z1S]⟩
  | succ n ih =>
    intro done q h1 h2
    cases q with
    | nil =>
      rw [uY]; unfold yN
      rw [List.append_nil, if_neg (by omega)]
      exact ⟨done, rfl, by simp [z1S]⟩
    | cons x q =>
      have hx := z0p x
      have hl := z0q x.L
      have hl2 := z0q q
      have ha := z6U q x.L
      simp only [yS] at h1 h2
      obtain ⟨r, e1, e2⟩ := ih (done ++ [x]) (q ++ x.L) (by omega) (by simp; omega)
      rw [uY]; unfold yN
      have hidx : idx (done ++ x :: q) (done.length : Int) = some x := by
        rw [z1C (by simp)]; simp
      rw [if_pos (by simp; omega), hidx, zN, if_pos (by unfold z0s; simp; omega), z3e (by omega) (by omega)]
      have e3 : done ++ x :: q ++ x.L = (done ++ [x]) ++ (q ++ x.L) := by simp
      have e4 : ((done.length : Int) + 1) = (((done ++ [x]).length : Nat) : Int) := by simp
      rw [e3, e4]
      refine ⟨r, e1, e2.trans ?_⟩
      rw [z8w, show z1S (x :: q) = nds x ++ z1S q by simp [z1S], z6l]
      simp only [List.append_assoc, List.cons_append, List.nil_append]
      exact (List.Perm.cons x List.perm_append_comm).append_left done
def q1 (x : zA) : Bool :=
  if x.K = 5 ∨ x.K = 6 ∨ x.K = 7 ∨ x.K = 8 ∨ x.K = 9 ∨ x.K = 11 ∨ x.K = 13 ∨ x.K = 14 ∨ x.K = 15 then true
  else if x.K = 10 then (if x.N = 12 ∨ x.N = 13 then (match x.L with | _ :: b :: _ => decide (b.K = 5) && !decide (b.N = 0) | _ => false) else true) else false
theorem z9m (f : Bool → List zA → Int → Int → Option Bool) (v7 : List zA) (v8 v9 : Int) (x : zA) (h : v9 < v8) (hi : idx v7 v9 = some x) :
    yF f true v7 v8 v9 = if q1 x = true then f true v7 v8 (IntKind.wrap .i64 (v9 + 1)) else some false := by
  unfold yF
  rw [if_pos h, hi, zN]
  unfold q1
  by_cases h5 : x.K = 5
  · simp [h5]
  by_cases h6 : x.K = 6
  · simp [h6]
  by_cases h7 : x.K = 7
  · simp [h7]
  by_cases h8 : x.K = 8
  · simp [h8]
  by_cases h9 : x.K = 9
  · simp [h9]
  by_cases h11 : x.K = 11
  · simp [h11]
  by_cases h13 : x.K = 13
  · simp [h13]
  by_cases h14 : x.K = 14
  · simp [h14]
  by_cases h15 : x.K = 15
  · simp [h15]
  by_cases h10 : x.K = 10
  · simp only [h10]
    rcases hL : x.L with _ | ⟨a, _ | ⟨b, r⟩⟩
    · by_cases n1 : x.N = 12
      · simp [n1]
      · by_cases n2 : x.N = 13 <;> simp [n1, n2]
    · by_cases n1 : x.N = 12
      · simp [n1]
      · by_cases n2 : x.N = 13 <;> simp [n1, n2]
    · have hb : idx (a :: b :: r) 1 = some b := rfl
      have hl : ¬ ((List.length (a :: b :: r) : Int) < 2) := by simp; omega
      by_cases n1 : x.N = 12
      · simp only [n1, hb, zN, if_neg hl]
        by_cases k5 : b.K = 5 <;> by_cases k0 : b.N = 0 <;> simp [k5, k0]
      · by_cases n2 : x.N = 13
        · simp only [n2, hb, zN, if_neg hl]
          by_cases k5 : b.K = 5 <;> by_cases k0 : b.N = 0 <;> simp [k5, k0]
        · simp [n1, n2]
  · simp [h5, h6, h7, h8, h9, h10, h11, h13, h14, h15]
theorem z9n (l : List zA) (hl : l.length ≤ 1000000) : ∀ (k i : Nat), i + k = l.length → quiet_Quiet_L3 true l (l.length : Int) (i : Int) = some ((l.drop i).all q1) := by
  intro k
  induction k with
  | zero =>
    intro i hi
    rw [jQ]; unfold yF
    rw [if_neg (by omega), List.drop_eq_nil_of_le (by omega)]; rfl
  | succ k ih =>
    intro i hi
    rw [jQ, z9m _ _ _ _ l[i] (by omega) (z1C (by omega)), List.drop_eq_getElem_cons (show i < l.length by omega), List.all_cons, z3e (by omega) (by omega), jA]
    cases hq : q1 l[i] with
    | true => rw [if_pos rfl, ih (i + 1) (by omega)]; simp
    | false => rw [if_neg (by decide)]; simp
theorem z4h {t : zA} (h : jV t ≤ 1000) : ∃ r, jR t = some r ∧ r.Perm (nds t) ∧ wW t = some ((nds t).all q1) := by
  obtain ⟨r, e1, e2⟩ := z9h (jV t) [] [t] (by simp [yS]) (by simp [yS]; omega)
  have e3 : jR t = some r := e1
  have e4 : r.Perm (nds t) := by simpa [z1S] using e2
  have hlen : r.length = jV t := by rw [e4.length_eq, z4d]
  refine ⟨r, e3, e4, ?_⟩
  unfold wW
  rw [e3, zN]
  have := z9n r (by omega) r.length 0 (by omega)
  rw [show ((0 : Nat) : Int) = 0 from rfl] at this
  rw [this, List.drop_zero, List.all_eq, List.all_eq]
  congr 1
  simp only [e4.mem_iff]
theorem z8W (g : Int → zA → Option Bool) (x : zA) : vF g x = if q1 x = true then g 0 x else some false := by
  unfold vF q1
  by_cases h5 : x.K = 5
  · simp [h5]
  by_cases h6 : x.K = 6
  · simp [h6]
  by_cases h7 : x.K = 7
  · simp [h7]
  by_cases h8 : x.K = 8
  · simp [h8]
  by_cases h9 : x.K = 9
  · simp [h9]
  by_cases h11 : x.K = 11
  · simp [h11]
  by_cases h13 : x.K = 13
  · simp [h13]
  by_cases h14 : x.K = 14
  · simp [h14]
  by_cases h15 : x.K = 15
  · simp [h15]
  by_cases h10 : x.K = 10
  · simp only [h10]
    rcases hL : x.L with _ | ⟨a, _ | ⟨b, r⟩⟩
    · by_cases n1 : x.N = 12
      · simp [n1]
      · by_cases n2 : x.N = 13 <;> simp [n1, n2]
    · by_cases n1 : x.N = 12
      · simp [n1]
      · by_cases n2 : x.N = 13 <;> simp [n1, n2]
    · have hb : idx (a :: b :: r) 1 = some b := rfl
      have hl : ¬ ((List.length (a :: b :: r) : Int) < 2) := by simp; omega
      by_cases n1 : x.N = 12
      · simp only [n1, hb, zN, if_neg hl]
        by_cases k5 : b.K = 5 <;> by_cases k0 : b.N = 0 <;> simp [k5, k0]
      · by_cases n2 : x.N = 13
        · simp only [n2, hb, zN, if_neg hl]
          by_cases k5 : b.K = 5 <;> by_cases k0 : b.N = 0 <;> simp [k5, k0]
        · simp [n1, n2]
  · simp [h5, h6, h7, h8, h9, h10, h11, h13, h14, h15]
theorem z7G : ∀ t : zA, jV t ≤ 1000000 → zY t = some ((nds t).all q1) := by
  intro t
  induction t using zA.ind with
  | h t ih =>
    intro hs
    have hlen := z0q t.L
    have hts := z0p t
    have loop : ∀ (k i : Nat), i + k = t.L.length → zB (i : Int) t = some ((z1S (t.L.drop i)).all q1) := by
      intro k
      induction k with
      | zero =>
        intro i hi
        rw [gL]; unfold yR
        rw [if_neg (by omega), List.drop_eq_nil_of_le (by omega)]; simp [z1S]
      | succ k ihk =>
        intro i hi
        have hlt : i < t.L.length := by omega
        have ht := z2S t.L i
        have hd := z0G hlt
        rw [gL]; unfold yR
        rw [if_pos (by omega), z1C hlt, zN, ih _ (List.getElem_mem hlt) (by omega), zN, z3e (by omega) (by omega), jA, List.drop_eq_getElem_cons hlt, z1S, List.all_append]
        cases hq : (nds t.L[i]).all q1 with
        | true => rw [if_pos rfl, ihk (i + 1) (by omega)]; simp
        | false => rw [if_neg (by decide)]; simp
    rw [z4m, z8W, z6l, List.all_cons]
    cases hq : q1 t with
    | true =>
      have := loop t.L.length 0 (by omega)
      rw [List.drop_zero, show ((0 : Nat) : Int) = 0 from rfl] at this
      rw [if_pos rfl, this]; simp
    | false => rw [if_neg (by decide)]; simp
def gl (l : List zA) : List Int := (l.filter fun x => decide (x.K = 9)).map zA.N
theorem z9i (a b : List zA) : gl (a ++ b) = gl a ++ gl b := by simp [gl]
theorem z7i (l : List zA) : (gl l).length ≤ l.length := by unfold gl; rw [List.length_map]; exact List.length_filter_le _ _
theorem z8L {a b : List zA} (h : a.Perm b) : (gl a).Perm (gl b) := (h.filter _).map _
theorem z4i : ∀ (l : List zA) (out : List Int), out.length + l.length ≤ 1000000 → yM l out = some (out ++ gl l)
  | [], out, _ => by simp [yM, gl]
  | x :: r, out, h => by
    unfold yM
    simp only [List.length_cons] at h
    by_cases h9 : x.K = 9
    · rw [if_pos h9, if_pos (by unfold z0s; omega), z4i r _ (by simp; omega)]
      simp [gl, h9]
    · rw [if_neg h9, z4i r _ (by omega)]
      simp [gl, h9]
theorem z6F : ∀ t : zA, jV t ≤ 1000000 → zM t = some (gl (nds t)) := by
  intro t
  induction t using zA.ind with
  | h t ih =>
    intro hs
    have hlen := z0q t.L
    have hts := z0p t
    have gll : ∀ x : zA, (gl (nds x)).length ≤ jV x := fun x => by have := z7i (nds x); rw [z4d] at this; exact this
    have loop : ∀ (k i : Nat) (out : List Int), i + k = t.L.length → out.length + yS (t.L.drop i) ≤ 1000000 → zC out (i : Int) t = some (out ++ gl (z1S (t.L.drop i))) := by
      intro k
      induction k with
      | zero =>
        intro i out hi _
        rw [jI]; unfold yH
        rw [if_neg (by omega), List.drop_eq_nil_of_le (by omega)]; simp [z1S, gl]
      | succ k ihk =>
        intro i out hi ho
        have hlt : i < t.L.length := by omega
        have ht := z2S t.L i
        have hd := z0G hlt
        have hg := gll t.L[i]
        rw [jI]; unfold yH
        rw [if_pos (by omega), z1C hlt, zN, ih _ (List.getElem_mem hlt) (by omega), zN, if_pos (by unfold z0s; omega), z3e (by omega) (by omega), jA, ihk (i + 1) _ (by omega) (by simp; omega), List.drop_eq_getElem_cons hlt, z1S, z9i, List.append_assoc]
    rw [z2H, z6l]; unfold vA
    by_cases h9 : t.K = 9
    · have := loop t.L.length 0 [t.N] (by omega) (by simp; omega)
      rw [List.drop_zero, show ((0 : Nat) : Int) = 0 from rfl] at this
      rw [if_pos h9, if_pos (by unfold z0s; simp), List.nil_append, this]
      simp [gl, h9]
    · have := loop t.L.length 0 [] (by omega) (by simp; omega)
      rw [List.drop_zero, show ((0 : Nat) : Int) = 0 from rfl] at this
      rw [if_neg h9, this]
      simp [gl, h9]
abbrev Up (l : List Int) : Prop := l.Pairwise (· < ·)
theorem z9c {l : List Int} (h : Up l) {z : Int} (hz : l.getLast? = some z) : ∀ a ∈ l, a ≤ z := by
  intro a ha
  obtain ⟨r, rfl⟩ : ∃ r, l = r ++ [z] := by
    have hne : l ≠ [] := fun e => by rw [e] at hz; simp at hz
    refine ⟨l.dropLast, ?_⟩
    have := List.dropLast_concat_getLast hne
    rw [List.getLast?_eq_some_getLast hne] at hz
    injection hz with hz
    rw [hz] at this; exact this.symm
  rcases List.mem_append.1 ha with h1 | h1
  · have := (List.pairwise_append.1 h).2.2 a h1 z (by simp); omega
  · simp at h1; omega
theorem z7c : ∀ (l acc : List Int), Up acc → (∀ a ∈ acc, ∀ x ∈ l, a ≤ x) → l.Pairwise (· ≤ ·) →
    Up (l.foldl (fun acc x => if acc.getLast? = some x then acc else acc ++ [x]) acc) ∧ ∀ y, y ∈ l.foldl (fun acc x => if acc.getLast? = some x then acc else acc ++ [x]) acc ↔ y ∈ acc ∨ y ∈ l
  | [], acc, h, _, _ => ⟨h, by simp⟩
  | x :: l, acc, h, h1, h2 => by
    rw [List.foldl_cons]
    have hx := List.pairwise_cons.1 h2
    by_cases hl : acc.getLast? = some x
    · rw [if_pos hl]
      have hm : x ∈ acc := List.mem_of_getLast? hl
      obtain ⟨g1, g2⟩ := z7c l acc h (fun a ha y hy => h1 a ha y (by simp [hy])) hx.2
      refine ⟨g1, fun y => ?_⟩
      rw [g2 y]
      constructor
      · rintro (h | h)
        · exact .inl h
        · exact .inr (by simp [h])
      · rintro (h | h)
        · exact .inl h
        · rcases List.mem_cons.1 h with rfl | h
          · exact .inl hm
          · exact .inr h
    · rw [if_neg hl]
      have hu : Up (acc ++ [x]) := by
        refine List.pairwise_append.2 ⟨h, by simp, fun a ha b hb => ?_⟩
        simp at hb; subst hb
        have hle := h1 a ha b (by simp)
        rcases Int.lt_or_eq_of_le hle with h9 | h9
        · exact h9
        · exfalso
          have hne : acc ≠ [] := fun e => by rw [e] at ha; simp at ha
          have hz := List.getLast?_eq_some_getLast hne
          have h3 := z9c h hz a ha
          have h4 := h1 _ (List.getLast_mem hne) b (by simp)
          exact hl (by rw [hz]; congr 1; omega)
      obtain ⟨g1, g2⟩ := z7c l (acc ++ [x]) hu (fun a ha y hy => by
        rcases List.mem_append.1 ha with h3 | h3
        · exact h1 a h3 y (by simp [hy])
        · simp at h3; subst h3; exact hx.1 y hy) hx.2
      refine ⟨g1, fun y => ?_⟩
      rw [g2 y]
      simp [or_assoc]
theorem z8Z (l : List Int) : Up ((l.mergeSort fun x y => decide (x ≤ y)).foldl (fun acc x => if acc.getLast? = some x then acc else acc ++ [x]) []) ∧ ∀ y, y ∈ (l.mergeSort fun x y => decide (x ≤ y)).foldl (fun acc x => if acc.getLast? = some x then acc else acc ++ [x]) [] ↔ y ∈ l := by
  have hs : (l.mergeSort fun x y => decide (x ≤ y)).Pairwise (· ≤ ·) := by
    have := List.pairwise_mergeSort (le := fun x y : Int => decide (x ≤ y)) (fun a b c h1 h2 => by simp at *; omega) (fun a b => by simp; omega) l
    exact this.imp (fun h => by simpa using h)
  obtain ⟨g1, g2⟩ := z7c _ [] (by simp) (by simp) hs
  refine ⟨g1, fun y => ?_⟩
  rw [g2 y]
  simp
theorem z9u (l : List Int) (n : Int) (hl : l.length ≤ 1000000) : z4l l n = some (decide (n ∈ l)) := by
  have loop : ∀ (k i : Nat), i + k = l.length → zX l n (i : Int) = some (decide (n ∈ l.drop i)) := by
    intro k
    induction k with
    | zero =>
      intro i hi
      rw [z0Z]; unfold vE
      rw [if_neg (by omega), List.drop_eq_nil_of_le (by omega)]; simp
    | succ k ih =>
      intro i hi
      rw [z0Z]; unfold vE
      rw [if_pos (by omega), z1C (show i < l.length by omega), zN, List.drop_eq_getElem_cons (show i < l.length by omega), z3e (by omega) (by omega), jA, ih (i + 1) (by omega)]
      by_cases h : l[i] = n
      · rw [if_pos h]; simp [h]
      · rw [if_neg h]
        have h' : ¬ n = l[i] := fun e => h e.symm
        have : n ∈ l.drop (i + 1) ↔ n ∈ l[i] :: l.drop (i + 1) := by
          rw [List.mem_cons]; exact ⟨.inr, fun h => h.resolve_left h'⟩
        exact congrArg some (decide_eq_decide.2 this)
  have := loop l.length 0 (by omega)
  rw [List.drop_zero] at this
  exact this
theorem z9t {out : List Int} (h : Up out) (x : Int) (hx : x ∉ out) : ∀ n, n ≤ out.length → (∀ i (hi : i < out.length), n ≤ i → x < out[i]) →
    zQ out x n ≤ n ∧ (∀ a ∈ out.take (zQ out x n), a < x) ∧ (∀ a ∈ out.drop (zQ out x n), x < a) := by
  intro n
  induction n with
  | zero =>
    intro _ h1
    refine ⟨Nat.le_refl _, by simp [zQ], fun a ha => ?_⟩
    rw [zQ, List.drop_zero] at ha
    obtain ⟨i, hi, rfl⟩ := List.getElem_of_mem ha
    exact h1 i hi (by omega)
  | succ n ih =>
    intro hn h1
    have hlt : n < out.length := by omega
    have hg : out.getD n 0 = out[n] := by simp [List.getD, List.getElem?_eq_getElem hlt]
    unfold zQ
    rw [hg]
    by_cases hc : out[n] > x
    · rw [if_pos hc]
      obtain ⟨g1, g2, g3⟩ := ih (by omega) (fun i hi hni => by
        by_cases e : i = n
        · subst e; exact hc
        · exact h1 i hi (by omega))
      exact ⟨by omega, g2, g3⟩
    · rw [if_neg hc]
      have hne : out[n] ≠ x := fun e => hx (by rw [← e]; exact List.getElem_mem hlt)
      refine ⟨Nat.le_refl _, fun a ha => ?_, fun a ha => ?_⟩
      · obtain ⟨i, hi, rfl⟩ := List.getElem_of_mem ha
        rw [List.getElem_take]
        have hi' : i < n + 1 := by rw [List.length_take] at hi; omega
        by_cases e : i = n
        · subst e; omega
        · have := List.pairwise_iff_getElem.1 h i n (by omega) hlt (by omega)
          omega
      · obtain ⟨i, hi, rfl⟩ := List.getElem_of_mem ha
        rw [List.getElem_drop]
        rw [List.length_drop] at hi
        exact h1 _ (by omega) (by omega)
theorem z2J : ∀ (l out : List Int), Up out → out.length + l.length ≤ 1000000 → ∃ r, yX l out = some r ∧ Up r ∧ ∀ y, y ∈ r ↔ y ∈ out ∨ y ∈ l
  | [], out, h, _ => ⟨out, rfl, h, by simp⟩
  | x :: l, out, h, hl => by
    simp only [List.length_cons] at hl
    unfold yX
    rw [z9u out x (by omega), zN]
    by_cases hx : x ∈ out
    · rw [if_pos (by simpa using hx)]
      obtain ⟨r, e, g1, g2⟩ := z2J l out h (by omega)
      refine ⟨r, e, g1, fun y => ?_⟩
      rw [g2 y]
      constructor
      · rintro (h | h)
        · exact .inl h
        · exact .inr (by simp [h])
      · rintro (h | h)
        · exact .inl h
        · rcases List.mem_cons.1 h with rfl | h
          · exact .inl hx
          · exact .inr h
    · rw [if_neg (by simpa using hx)]
      obtain ⟨a1, a2, a3⟩ := z9t h x hx out.length (Nat.le_refl _) (fun i hi h9 => by omega)
      generalize zQ out x out.length = m at a1 a2 a3 ⊢
      have hu : Up (out.take m ++ [x] ++ out.drop m) := by
        refine List.pairwise_append.2 ⟨List.pairwise_append.2 ⟨h.sublist (List.take_sublist _ _), by simp, fun a ha b hb => by simp at hb; subst hb; exact a2 a ha⟩, h.sublist (List.drop_sublist _ _), fun a ha b hb => ?_⟩
        have hb3 := a3 b hb
        rcases List.mem_append.1 ha with h4 | h4
        · have := a2 a h4; omega
        · simp at h4; subst h4; exact hb3
      obtain ⟨r, e, g1, g2⟩ := z2J l _ hu (by simp; omega)
      refine ⟨r, e, g1, fun y => ?_⟩
      rw [g2 y]
      have hm : y ∈ out ↔ y ∈ out.take m ∨ y ∈ out.drop m := by
        conv => lhs; rw [← List.take_append_drop m out]
        rw [List.mem_append]
      simp only [List.mem_append, List.mem_cons, List.not_mem_nil, or_false, hm]
      constructor
      · rintro (((h | h) | h) | h)
        · exact .inl (.inl h)
        · exact .inr (.inl h)
        · exact .inl (.inr h)
        · exact .inr (.inr h)
      · rintro ((h | h) | h | h)
        · exact .inl (.inl (.inl h))
        · exact .inl (.inr h)
        · exact .inl (.inl (.inr h))
        · exact .inr h
theorem z9b : ∀ {a b : List Int}, Up a → Up b → (∀ y, y ∈ a ↔ y ∈ b) → a = b
  | [], [], _, _, _ => rfl
  | [], y :: b, _, _, h => by have := (h y).2 (by simp); simp at this
  | x :: a, [], _, _, h => by have := (h x).1 (by simp); simp at this
  | x :: a, y :: b, ha, hb, h => by
    have h1 := List.pairwise_cons.1 ha
    have h2 := List.pairwise_cons.1 hb
    have hxy : x = y := by
      have e1 := (h x).1 (by simp)
      have e2 := (h y).2 (by simp)
      rcases List.mem_cons.1 e1 with e1 | e1
      · exact e1
      · rcases List.mem_cons.1 e2 with e2 | e2
        · exact e2.symm
        · have := h2.1 x e1; have := h1.1 y e2; omega
    subst hxy
    congr 1
    refine z9b h1.2 h2.2 fun z => ?_
    have hz := h z
    simp only [List.mem_cons] at hz
    constructor
    · intro hm
      rcases hz.1 (.inr hm) with rfl | h9
      · have := h1.1 z hm; omega
      · exact h9
    · intro hm
      rcases hz.2 (.inr hm) with rfl | h9
      · have := h2.1 z hm; omega
      · exact h9
theorem z5L (l : List Int) (hl : l.length ≤ 1000000) : uZ l l = some true := by
  have loop : ∀ (k i : Nat), i + k = l.length → zR l l (i : Int) = some true := by
    intro k
    induction k with
    | zero =>
      intro i hi
      rw [z0y]; unfold yW
      rw [if_neg (by omega)]
    | succ k ih =>
      intro i hi
      rw [z0y]; unfold yW
      rw [if_pos (by omega), z1C (show i < l.length by omega), zN, zN, if_pos rfl, z3e (by omega) (by omega), jA]
      exact ih (i + 1) (by omega)
  unfold uZ z1U
  rw [if_pos rfl]
  have := loop l.length 0 (by omega)
  rw [show ((0 : Nat) : Int) = 0 from rfl] at this
  rw [this]; rfl
theorem z5B : ∀ (l acc : List Int), (l.foldl (fun acc x => if acc.getLast? = some x then acc else acc ++ [x]) acc).length ≤ acc.length + l.length
  | [], acc => by simp
  | x :: l, acc => by
    rw [List.foldl_cons, List.length_cons]
    by_cases h : acc.getLast? = some x
    · rw [if_pos h]; have := z5B l acc; omega
    · rw [if_neg h]; have := z5B l (acc ++ [x]); rw [List.length_append, List.length_cons, List.length_nil] at this; omega
theorem z6p {t : zA} (h : jV t ≤ 1000) : ∃ r, uX t = some r ∧ Up r ∧ (∀ y, y ∈ r ↔ y ∈ gl (nds t)) ∧ r.length ≤ 1000 := by
  obtain ⟨q, e1, e2, -⟩ := z4h h
  have hlen : q.length = jV t := by rw [e2.length_eq, z4d]
  obtain ⟨g1, g2⟩ := z8Z (gl q)
  refine ⟨_, ?_, g1, fun y => ?_, ?_⟩
  · unfold uX
    rw [e1, zN, z4i q [] (by simp; omega), zN, if_pos (by omega), List.nil_append]
  · rw [g2 y]; exact (z8L e2).mem_iff
  · have h1 := z5B ((gl q).mergeSort fun x y => decide (x ≤ y)) []
    have h2 := z7i q
    rw [List.length_mergeSort] at h1
    simp only [List.length_nil] at h1; omega
theorem z7H {t : zA} (h : jV t ≤ 1000) : ∃ r, z0m t = some r ∧ Up r ∧ ∀ y, y ∈ r ↔ y ∈ gl (nds t) := by
  have hl := z7i (nds t)
  rw [z4d] at hl
  obtain ⟨r, e, g1, g2⟩ := z2J (gl (nds t)) [] (by simp) (by simp; omega)
  refine ⟨r, ?_, g1, fun y => by rw [g2 y]; simp⟩
  unfold z0m
  rw [z6F t (by omega), zN, if_pos (by omega), e]
theorem z4f : uS = some true := by
  unfold uS
  obtain ⟨-, -, -, e1⟩ := z4h (t := ⟨5, 0, [], [], 0, 0⟩) (by simp [jV, yS])
  obtain ⟨r, e2, u, hm, -⟩ := z6p (t := ⟨9, 3, [], [], 0, 0⟩) (by simp [jV, yS])
  have hr : r = [3] := z9b u (by simp) (fun y => by rw [hm y]; simp [nds, z1S, gl])
  rw [e1, zN, show (nds ⟨5, 0, [], [], 0, 0⟩).all q1 = true from rfl, if_pos rfl, e2, zN, hr]; rfl
theorem z4g (x0 : zA) (w0 : zA.Wf x0) : wP x0 = some true := by
  unfold wP
  obtain ⟨b, hb, hs⟩ := z8s x0 w0
  rw [hb, zN, z4f]
  cases b with
  | true => rw [if_pos rfl]; rfl
  | false =>
    have h4 := hs rfl
    obtain ⟨-, -, -, e1⟩ := z4h (t := x0) (by omega)
    obtain ⟨r, e2, u1, m1, hl⟩ := z6p (t := x0) (by omega)
    obtain ⟨r', e3, u2, m2⟩ := z7H (t := x0) (by omega)
    have he : r = r' := z9b u1 u2 (fun y => by rw [m1 y, m2 y])
    subst he
    rw [if_neg (by decide), e1, zN, z7G x0 (by omega), zN, if_pos rfl, e2, zN, e3, zN, z5L r (by omega), zN, if_pos rfl]; rfl
end Go.Proofs.Ytnbcacfljnooeaa.M

