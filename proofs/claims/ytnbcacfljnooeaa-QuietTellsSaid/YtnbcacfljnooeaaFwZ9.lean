import Derived.Test.YtnbcacfljnooeaaFwZ8
import Derived.Sort.OwnSortedInts
import Derived.Lib.SlicesCompact
import Derived.Deep.QuietTactic
import Derived.BigQuiet
import Derived.Deep.RegionLaw
import Derived.BigRegion
namespace Nt
open Go Go.Proofs Go.RowKit
set_option linter.unusedVariables false
set_option linter.unusedSimpArgs false
def kN : Kap := fun _ => none
theorem z6m {M : Nat → Nat → Prop} {b o : Nat} (h : ¬ M b o) : ¬ Mut M kN b o := fun hm => hm.elim h (fun ⟨_, _, h, _⟩ => by cases h)
theorem z5M {W : World} {M0 : Nat → Nat → Prop} (h : ∀ b o, M0 b o → b < W.heap.size) : Before W M0 kN [] where
  m0 := fun b o hb => ⟨h b o hb, fun _ _ hk => by cases hk⟩
  kb := fun _ _ _ hk => by cases hk
  ki := fun _ _ _ _ _ hk => by cases hk
  hn := fun _ _ hk => by cases hk
  noar := fun _ => rfl
  heap := fun id cs hc => by simp at hc
theorem z0c {W : World} : Before W noM kN [] := z5M (fun _ _ h => h.elim)
theorem z0z {W W' : World} {M0 : Nat → Nat → Prop} {κ' : Kap} {h' : H} (A : z4v W M0 kN h' W' κ') : Below W.heap.size W W' :=
  ⟨A.kept.os, A.kept.tape, A.kept.output, A.kept.size, fun k hk => A.kept.block k hk (fun ⟨_, _, h⟩ => by cases h)⟩
theorem z6h {w W : World} {M : Nat → Nat → Prop} (h : Below w.heap.size w W) : Keeps w M W (Mut noM kN) :=
  ⟨fun b o v hv _ => by rw [zL (h.block b (z0C hv))]; exact hv, fun b o v hv _ hm => z6m (fun h => h.elim) hm⟩
theorem z5f {w : World} {M0 : Nat → Nat → Prop} {κ : Kap} {h : H} (B : Before w M0 κ h) {b o : Nat} (hb : w.heap.size ≤ b) : ¬ Mut M0 κ b o := fun hm => hm.elim
  (fun h => by have := (B.m0 _ _ h).1; omega) (fun ⟨_, _, h, _⟩ => by have := B.kb _ _ _ h; omega)
theorem z3n {w : World} {M : Nat → Nat → Prop} {b : Nat} : ∀ {l : List Int} {o : Nat}, RelC w M b o (yU (l.map (D.int .i64))) → ∀ {k : Nat} (hk : k < l.length), w.cell? ⟨b, o + k, none⟩ = some (.int .i64 l[k])
  | [], o, _, k, hk => by simp at hk
  | x :: l, o, h, k, hk => by
    have h' : RelC w M b o (.int .i64 x :: yU (l.map (D.int .i64))) := h
    cases h' with
    | cons _ _ v _ _ h1 h2 h3 h4 h5 =>
      cases k with
      | zero => cases h4; exact h1
      | succ k =>
        have := z3n h5 (k := k) (by simpa using hk)
        rw [show o + (k + 1) = o + 1 + k by omega]; simpa using this
theorem z5h {W : World} {M : Nat → Nat → Prop} {g : Nat} (hM : ∀ o, ¬ M g o) : ∀ (l : List Int) (o : Nat), (∀ k (hk : k < l.length), W.cell? ⟨g, o + k, none⟩ = some (.int .i64 l[k])) → RelC W M g o (yU (l.map (D.int .i64)))
  | [], o, _ => .nil g o
  | x :: l, o, h => .cons _ _ _ _ _ (h 0 (by simp)) (hM o) rfl (.int _ _) (z5h hM l (o + 1) fun k hk => by
      have := h (k + 1) (by simpa using hk)
      rw [show o + 1 + k = o + (k + 1) by omega]; simpa using this)
theorem z8U {w : World} {base e : Nat} {v : Value} {n : Nat} {l : List Int} (h : w.ownsRow base e 1 v n (l.map (Value.int .i64))) : n = l.length := by
  have := h.1; simp at this; exact this.symm
theorem z4e {W : World} {M : Nat → Nat → Prop} {base e : Nat} {v : Value} {n : Nat} {l : List Int} (h : W.ownsRow base e 1 v n (l.map (Value.int .i64))) (hM : ∀ b o, base ≤ b → ¬ M b o) : RelV W M v (.sl (l.map (D.int .i64))) := by
  have hn := z8U h
  subst hn
  rcases h with ⟨-, ⟨rfl, h0⟩ | ⟨g, cap, cur, rfl, hb, hh, h1, h2, h3, h4⟩⟩
  · have : l = [] := List.eq_nil_of_length_eq_zero h0
    subst this; exact .nil
  · have hc : ∀ k (hk : k < l.length), W.cell? ⟨g, 0 + k, none⟩ = some (.int .i64 l[k]) := fun k hk => by
      have e1 : (cur.toList.take (l.length * 1))[k]? = (l.map (Value.int .i64))[k]? := by rw [h4]
      rw [List.getElem?_take_of_lt (by omega), List.getElem?_map, List.getElem?_eq_getElem hk] at e1
      simp only [World.cell?, hh, Nat.zero_add, Option.isSome_none, Bool.false_eq_true, if_false]
      rw [← Array.getElem?_toList]; exact e1
    have := RelV.sl (w := W) (M := M) g 0 cap (l.map (D.int .i64)) (z5h (fun o => hM g o hb) l 0 hc) (by rw [List.length_map]; exact h1)
    rw [List.length_map] at this; exact this
def cpt (l : List Int) : List Int := l.foldl (fun acc x => if acc.getLast? = some x then acc else acc ++ [x]) []
theorem z1B (l : List Int) : Lib.compact l = cpt l := by
  have key : ∀ m, m ≤ l.length → Lib.compactUpTo l.toArray m = (l.take m).foldl (fun acc x => if acc.getLast? = some x then acc else acc ++ [x]) [] ∧ (0 < m → (Lib.compactUpTo l.toArray m).getLast? = l[m - 1]?) := by
    intro m
    induction m with
    | zero => intro _; exact ⟨by simp [Lib.compactUpTo], fun h => absurd h (by omega)⟩
    | succ m ih =>
      intro hm
      obtain ⟨h1, h2⟩ := ih (by omega)
      have e : l.take (m + 1) = l.take m ++ [l[m]'(by omega)] := by rw [List.take_succ_eq_append_getElem]
      rw [Lib.compactUpTo_succ, e, List.foldl_append, ← h1]
      have hx : l.toArray[m]! = l[m]'(by omega) := by rw [getElem!_pos l.toArray m (by simp; omega)]; simp
      by_cases h0 : m = 0
      · subst h0
        have : Lib.keeps l.toArray 0 = true := by simp [Lib.keeps]
        rw [this, if_pos rfl]
        have e0 : Lib.compactUpTo l.toArray 0 = [] := by simp [Lib.compactUpTo]
        rw [e0]
        rw [hx]
        refine ⟨by simp, fun _ => ?_⟩
        rw [List.getElem?_eq_getElem (show 0 + 1 - 1 < l.length by omega)]; simp
      · have hl := h2 (by omega)
        have hy : l.toArray[m - 1]! = l[m - 1]'(by omega) := by rw [getElem!_pos l.toArray (m - 1) (by simp; omega)]; simp
        have hk : Lib.keeps l.toArray m = true ↔ l[m]'(by omega) ≠ l[m - 1]'(by omega) := by
          simp only [Lib.keeps]
          rw [hx, hy]
          simp [h0]
        have hl' : (Lib.compactUpTo l.toArray m).getLast? = some (l[m - 1]'(by omega)) := by rw [hl, List.getElem?_eq_getElem (show m - 1 < l.length by omega)]
        by_cases hne : l[m]'(by omega) = l[m - 1]'(by omega)
        · have hkf : ¬ Lib.keeps l.toArray m = true := fun g => (hk.1 g) hne
          rw [if_neg hkf, List.append_nil]
          refine ⟨?_, fun _ => ?_⟩
          · simp only [List.foldl_cons, List.foldl_nil]; rw [hl', hne, if_pos rfl]
          · rw [hl', Nat.add_sub_cancel, List.getElem?_eq_getElem (show m < l.length by omega), hne]
        · rw [if_pos (hk.2 hne), hx]
          refine ⟨?_, fun _ => ?_⟩
          · simp only [List.foldl_cons, List.foldl_nil]; rw [hl', if_neg (fun g => hne (by injection g with g; exact g.symm))]
          · rw [List.getLast?_concat, Nat.add_sub_cancel, List.getElem?_eq_getElem (show m < l.length by omega)]
  have := (key l.length (Nat.le_refl _)).1
  rw [List.take_length] at this
  exact this
theorem z1s {w : World} {base e g n cap k : Nat} {xs : List Value} (h : w.ownsRow base e 1 (.slice (some ⟨g, 0, none⟩) n cap) n xs) (hk : k ≤ n) : w.ownsRow base e 1 (.slice (some ⟨g, 0, none⟩) k cap) k (xs.take k) := by
  obtain ⟨hl, ⟨h0, -⟩ | ⟨g', cap', cur, h0, hb, hh, h1, h2, h3, h4⟩⟩ := h
  · cases h0
  · injection h0 with e1 e2 e3
    injection e1 with e1
    injection e1 with e1
    subst e1; subst e3
    refine ⟨by rw [List.length_take, hl]; omega, .inr ⟨g, cap, cur, rfl, hb, hh, by omega, h2, h3, ?_⟩⟩
    rw [← h4, List.take_take]; congr 1; omega
theorem wR {P : Program} {ops : Array Oper} {o : Oper} {a : Act} {w : World} {K : Act → World → Prop} {Q : Exit → Act → World → Prop} {E : Prop} (hg : o.guard = none) (s x : Operand) (t : TypeId)
    (ho : o.op = .call { callee := .builtin .append, args := #[s, x], argTypes := #[t, t] })
    (base : Nat) (e : TypeId) (i : TypeInfo) (z : Value) (size bytes : Nat) (ht : P.underlying t = some (.slice e)) (hi : P.info? e = some i) (hz : i.zero = some z)
    (hsize : i.size = size) (hby : i.bytes = bytes) (hzs : z.cells.size = size) (hsz : 0 < size)
    (v : Value) (n : Nat) (xs : List Value) (hs : a.eval s = v) (hown : w.ownsRow base e size v n xs)
    (ad : Addr) (m c : Nat) (news : List Value) (hx : a.eval x = .slice (some ad) m c) (hl : news.length = m * size) (hnews : ∀ j u, news[j]? = some u → w.cell? (ad.add j) = some u) (h1 : ∀ u ∈ news, u.oneCell' = true)
    (h63 : n + m ≤ maxLen) (hbytes : (n + m) * bytes ≤ 140737488355328) (hbase : base ≤ w.heap.size)
    (h : ∀ v' w', w'.ownsRow base e size v' (n + m) (xs ++ news) → w.grownBy w' v.ownBlock → (v' = .slice none 0 0 ↔ v = .slice none 0 0 ∧ m = 0) → K (a.put o.dst v') w') :
    if Region.wanted o (yielded ops a.tmps) = true then Oper.wp P o a w K Q else E := by
  have hw : Region.wanted o (yielded ops a.tmps) = true := by simp [Region.wanted, hg]
  rw [if_pos hw]
  exact wp_append_own w s x t ho base e i z size bytes ht hi hz hsize hby hzs hsz v n xs hs hown ad m c news hx hl hnews h1 h63 hbytes hbase h
theorem uG {w w' : World} {base e size n : Nat} {v : Value} {xs : List Value} (h : w.ownsRow base e size v n xs) (hb : Below w.heap.size w w') : w'.ownsRow base e size v n xs :=
  h.kept (row := none) ⟨hb.os, hb.tape, hb.output, hb.size, fun k hk _ => hb.block k hk⟩ (by
    cases v.ownBlock with
    | none => exact .inl rfl
    | some k => exact .inr (by simp))
theorem wT (w : World) (n B : Nat) : Below B w (w.drewN n) := ⟨rfl, rfl, rfl, Nat.le_refl _, fun _ _ => rfl⟩
theorem uQ (w : World) (B : Nat) : Below B w w.drew := ⟨rfl, rfl, rfl, Nat.le_refl _, fun _ _ => rfl⟩
theorem z6o {w : World} {base e g n cap : Nat} {xs : List Value} (h : w.ownsRow base e 1 (.slice (some ⟨g, 0, none⟩) n cap) n xs) {j : Nat} {u : Value} (hj : xs[j]? = some u) : w.cell? ⟨g, j, none⟩ = some u := by
  have := h.cells (g := g) rfl j u hj
  by_cases h0 : j = 0
  · subst h0; simpa [Addr.add] using this
  · simpa [Addr.add, h0] using this
theorem z0i (l : List Int) : ∀ u ∈ l.map (Value.int .i64), u.oneCell' = true := by
  intro u hu
  obtain ⟨x, -, rfl⟩ := List.mem_map.1 hu
  rfl
theorem uO {w w' : World} {p : Addr} {u : Value} (h : w.cell? p = some u) (hb : Below w.heap.size w w') : w'.cell? p = some u := by
  have hlt : p.block < w.heap.size := by
    rcases Nat.lt_or_ge p.block w.heap.size with h' | h'
    · exact h'
    · simp [World.cell?, Array.getElem?_eq_none h'] at h
  rw [hb.cell hlt]; exact h
theorem z5V (w : World) (u : Value) (e : TypeId) : (w.alloc (.cells #[u] e)).cell? ⟨w.heap.size, 0, none⟩ = some u := by simp
end Nt

