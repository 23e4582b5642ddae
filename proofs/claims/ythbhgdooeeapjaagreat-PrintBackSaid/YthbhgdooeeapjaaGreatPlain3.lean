import Derived.Test.YthbhgdooeeapjaaGreatPlain2
import Derived.Test.YthbhgdooeeapjaaGreatPlain1
namespace Go.Proofs.YthbhgdooeeapjaaGreat.M
open Go Nt
set_option linter.unusedVariables false
set_option linter.unusedSimpArgs false
set_option linter.unusedSectionVars false
theorem v0P {u : List zB} : ∀ {x y : List Str} {a : Nat}, At u a x → At u (a + x.length) y → At u a (x ++ y)
  | [], y, a, _, h => by simpa using h
  | w :: r, y, a, ⟨h1, h2⟩, h => ⟨h1, v0P h2 (by rw [List.length_cons, show a + (r.length + 1) = a + 1 + r.length by omega] at h; exact h)⟩
section
variable {u : List zB} {n : Nat} (tk : Tk u n) (K N : Int) (S : Str) (L : List zD) (F T : Int)
include tk
theorem z8C {a : Nat} {w : Str} (h : TM (zP u a) w) : a < n := z2H tk.ln (by
  rcases z8u (y8i h) with ⟨h2, -, -⟩ | ⟨-, h2, -, -⟩
  · rw [h2]; decide
  · exact h2)
theorem y8w : ∀ {w : List Str} {a : Nat}, a ≤ n → At u a w → a + w.length ≤ n
  | [], a, ha, _ => by simpa using ha
  | v :: r, a, ha, h => by
    have := z8C tk h.1.2
    have := y8w (by omega) h.2
    simp only [List.length_cons]; omega
theorem z8D {a : Nat} {s : Str} (h : TM (zP u a) s) (hs : Nm s) : wY u a 0 K N S L F T = some (s, u, ((a + 1 : Nat) : Int), 0, K, N, S, L, F, T) := by
  obtain ⟨k1, k2⟩ := z8s h hs
  have h0 := z8C tk h
  have h1 := tk.len
  have h2 := tk.room
  unfold wY
  rw [if_pos rfl, tk.idx (by omega), zA, if_pos k1, y5t tk (by omega), z3B (by omega) (by omega), show ((a + 1 : Nat) : Int) - 1 = (a : Int) by omega, tk.idx (by omega), zA, k2]
theorem v1N {k : Int} {s : Str} {a : Nat} (ha : a ≤ n) (h : y0s u k s a = true) : yM k s u a 0 K N S L F T = some (u, ((a + 1 : Nat) : Int), 0, K, N, S, L, F, T) := by
  unfold yM
  rw [if_pos rfl, z6n tk K N S L F T k s ha rfl h, zA, if_pos rfl]
theorem z5s {s : Str} {a : Nat} (h : TM (zP u a) s) (ho : one s = .inr (4, 0, s, s.length)) : yM 4 s u a 0 K N S L F T = some (u, ((a + 1 : Nat) : Int), 0, K, N, S, L, F, T) :=
  v1N tk K N S L F T (by have := z8C tk h; omega) (z2w h ho)
theorem v1O {s : Str} {a : Nat} (h : TM (zP u a) s) (ho : one s = .inr (3, 0, s, s.length)) : yM 3 s u a 0 K N S L F T = some (u, ((a + 1 : Nat) : Int), 0, K, N, S, L, F, T) :=
  v1N tk K N S L F T (by have := z8C tk h; omega) (z5o h ho)
theorem z7o (k m : Int) (s : Str) {f b : Nat} (l : List zD) (hf : f < b) (hb : b ≤ n) : ∃ F' T', wA k m s f l u b 0 K N S L F T = some ⟨k, m, s, l, F', T'⟩ := by
  unfold wA
  have h1 := tk.len
  have h2 := tk.room
  rw [if_pos rfl, tk.idx (show f ≤ n by omega), zA, z3B (by omega) (by omega), show (b : Int) - 1 = ((b - 1 : Nat) : Int) by omega, tk.idx (show b - 1 ≤ n by omega), zA]
  exact ⟨_, _, rfl⟩
theorem y6R {x : zD} {w : List Str} (h : PT x w) {a : Nat} (ha : At u a w) (han : a ≤ n) : ∃ y, z1m y = z1m x ∧ vK u a 0 K N S L F T = some (y, u, ((a + w.length : Nat) : Int), 0, K, N, S, L, F, T) := by
  have h1 := tk.len
  have h2 := tk.room
  obtain ⟨y, e1, e2⟩ := v4u h a (u.length + 1) ha (by omega)
  unfold vK
  rw [if_pos rfl]
  unfold z5l z0d
  obtain ⟨x', q1, q2⟩ := y6F u (by omega) (u.length + 1) a (by omega) (by omega)
  have h3 : (typ (u.length + 1) u a).2.2 = 0 := by rw [e1]
  rw [if_neg (by omega), if_neg (by omega), q1, zA]
  dsimp only
  rw [if_pos h3, zA, zA, q2 h3, e1]
  exact ⟨y, e2, rfl⟩
theorem v0Z {x : zD} {w : List Str} (h : PS (.bl x) w) {a : Nat} (ha : At u a w) (han : a ≤ n) : ∃ y, z1m y = z1m x ∧ vX u a 0 K N S L F T = some (y, u, ((a + w.length : Nat) : Int), 0, K, N, S, L, F, T) := by
  have h1 := tk.len
  have h2 := tk.room
  have hr : RS u (.bl x) w := v6T h
  obtain ⟨y, e, d⟩ := hr a ha
  unfold vX
  rw [if_pos rfl, y8g u (by omega) a (by omega) d, zA]
  exact ⟨y, e, rfl⟩
theorem y6E {x : zD} {w : List Str} (h : PN x w) {a : Nat} (ha : At u a w) (han : a ≤ n) : ∃ y, z1m y = z1m x ∧ gR u a 0 K N S L F T = some (y, u, ((a + w.length : Nat) : Int), 0, K, N, S, L, F, T) := by
  have hl := y8w tk han ha
  cases h with
  | @mk s x w F' T' hn ht =>
    have t1 := ha.1.2
    have t2 := ha.2.1.2
    have h3 : At u (a + 2) w := ha.2.2
    have eb : a + ([s, [58]] ++ w).length = a + 2 + w.length := by simp; omega
    rw [eb] at hl ⊢
    obtain ⟨y, e1, e2⟩ := y6R tk K N S L F T ht h3 (by omega)
    obtain ⟨F2, T2, e3⟩ := z7o tk K N S L F T 34 0 s (f := a) (b := a + 2 + w.length) [y] (by omega) hl
    unfold gR
    rw [z8D tk K N S L F T t1 hn, zA]; dsimp only
    rw [z5s tk K N S L F T t2 rfl, zA]; dsimp only
    rw [show a + 1 + 1 = a + 2 from rfl, e2, zA]; dsimp only
    rw [e3, zA]
    exact ⟨_, by simp [z1m, uL, e1], rfl⟩
theorem y8X {l : List zD} {a : Nat} (h : l.length ≤ a) (ha : a ≤ n) (x : zD) : z4F 72 (List.length l + List.length [x]) := by
  have := tk.len; have := tk.room
  exact y8f (by simp only [List.length_cons, List.length_nil]; omega)
theorem v2b {l : List zD} {w : List Str} (h : PNs l w) : ∀ (a : Nat) (out : List zD), At u a w → a ≤ n → out.length ≤ a → y0s u 4 [44] (a + w.length) = false →
    ∃ l', uL l' = uL l ∧ ∃ (y : zD) (b : Nat), gR u a 0 K N S L F T = some (y, u, (b : Int), 0, K, N, S, L, F, T) ∧ zH (out ++ [y]) u b 0 K N S L F T = some (out ++ l', u, ((a + w.length : Nat) : Int), 0, K, N, S, L, F, T) := by
  induction h with
  | @one x w hx =>
    intro a out ha han ho hc
    have hl := y8w tk han ha
    obtain ⟨y, e1, e2⟩ := y6E tk K N S L F T hx ha han
    refine ⟨[y], by simp [uL, e1], y, _, e2, ?_⟩
    rw [wL]; unfold yA z1A
    rw [if_pos rfl, y0x tk K N S L F T 4 [44] hl (fun g => by rw [hc] at g; exact absurd g.2 (by decide)), zA, zA]; dsimp only
    rw [if_neg (by decide)]
  | @cons x l w wl hx _ ih =>
    intro a out ha han ho hc
    have hl := y8w tk han ha
    obtain ⟨g1, g2⟩ := z0e ha
    obtain ⟨g3, g4⟩ := z0e g1
    have t1 := g4.1.2
    have e2 : a + (w ++ [[44]]).length = a + w.length + 1 := by simp; omega
    have eb : a + (w ++ [[44]] ++ wl).length = a + w.length + 1 + wl.length := by simp; omega
    rw [e2] at g2
    rw [eb] at hc hl ⊢
    obtain ⟨y, e1, e2⟩ := y6E tk K N S L F T hx g3 han
    have hwp : 1 ≤ w.length := by cases hx; simp
    obtain ⟨l', q1, y2, b2, q2, q3⟩ := ih (a + w.length + 1) (out ++ [y]) g2 (by omega) (by simp; omega) hc
    refine ⟨y :: l', by simp [uL, e1, q1], y, _, e2, ?_⟩
    rw [wL]; unfold yA z1A
    rw [if_pos rfl, z6n tk K N S L F T 4 [44] (by omega) rfl (z2w t1 rfl), zA, zA]; dsimp only
    rw [if_pos rfl, q2, zA]; dsimp only
    rw [if_pos (y8X tk (a := a + w.length) (by simp; omega) (by omega) y2), q3]
    simp
theorem v2e {l : List zD} {w : List Str} (h : PNs l w) : ∃ s r, w = s :: r ∧ Nm s := by
  cases h with
  | one h => cases h with | mk h _ => exact ⟨_, _, rfl, h⟩
  | cons h _ => cases h with | mk h _ => exact ⟨_, _, rfl, h⟩
theorem y8S {a : Nat} (ha : At u a [[40], [41]]) : ∃ F' T', wG u a 0 K N S L F T = some (⟨35, 0, [], [], F', T'⟩, u, ((a + 2 : Nat) : Int), 0, K, N, S, L, F, T) := by
  have t1 := ha.1.2
  have t2 := ha.2.1.2
  have h2 := z8C tk t2
  obtain ⟨F2, T2, e3⟩ := z7o tk K N S L F T 35 0 [] (f := a) (b := a + 1 + 1) [] (by omega) (by omega)
  unfold wG
  rw [z5s tk K N S L F T t1 rfl, zA]; dsimp only
  rw [z6n tk K N S L F T 4 [41] (by omega) rfl (z2w t2 rfl), zA]; dsimp only
  rw [if_pos rfl, e3, zA]
  exact ⟨F2, T2, rfl⟩
theorem v0E {l : List zD} {w : List Str} (h : PNs l w) {a : Nat} (ha : At u a ([[40]] ++ w ++ [[41]])) : ∃ F' T' l', uL l' = uL l ∧ wG u a 0 K N S L F T = some (⟨35, 0, [], l', F', T'⟩, u, ((a + (w.length + 2) : Nat) : Int), 0, K, N, S, L, F, T) := by
  obtain ⟨g1, g2⟩ := z0e ha
  have t1 := g1.1.2
  have h3 : At u (a + 1) w := g1.2
  have e2 : a + ([[40]] ++ w).length = a + 1 + w.length := by simp; omega
  rw [e2] at g2
  have t2 := g2.1.2
  have hl := z8C tk t2
  obtain ⟨s, r, ew, hs⟩ := v2e tk h
  have hno : yK u (a + 1) [41] = false := by
    rw [ew] at h3
    obtain ⟨k1, -⟩ := z8s h3.1.2 hs
    unfold yK; rw [k1]; rfl
  obtain ⟨l', q1, y2, b2, q2, q3⟩ := v2b tk K N S L F T h (a + 1) [] h3 (by omega) (by simp) (z4d t2 (by decide))
  obtain ⟨F2, T2, e3⟩ := z7o tk K N S L F T 35 0 [] (f := a) (b := a + 1 + w.length + 1) l' (by omega) (by omega)
  unfold wG
  rw [z5s tk K N S L F T t1 rfl, zA]; dsimp only
  rw [y0x tk K N S L F T 4 [41] (by omega) (fun g => by have := g.2; rw [show y0s u 4 [41] (a + 1) = yK u (a + 1) [41] from rfl, hno] at this; cases this), zA]; dsimp only
  rw [if_neg (by decide)]
  unfold wE
  rw [q2, zA]; dsimp only
  rw [show ([y2] : List zD) = [] ++ [y2] from rfl, q3, zA]; dsimp only
  rw [z5s tk K N S L F T t2 rfl, zA]; dsimp only
  rw [List.nil_append, e3, zA]
  exact ⟨F2, T2, l', q1, by rw [show a + (w.length + 2) = a + 1 + w.length + 1 by omega]⟩
theorem y7K {x : zD} {w : List Str} (h : PN x w) {a : Nat} (ha : At u a (w ++ [[59]])) (han : a ≤ n) : ∃ y, z1m y = z1m x ∧ z0v u a 0 K N S L F T = some (y, u, ((a + w.length + 1 : Nat) : Int), 0, K, N, S, L, F, T) := by
  obtain ⟨g1, g2⟩ := z0e ha
  obtain ⟨y, e1, e2⟩ := y6E tk K N S L F T h g1 han
  unfold z0v
  rw [e2, zA]; dsimp only
  rw [z5s tk K N S L F T g2.1.2 rfl, zA]
  exact ⟨y, e1, rfl⟩
theorem v0n {l : List zD} {w : List Str} (h : PFs l w) : ∀ (a : Nat) (out : List zD), At u a w → a ≤ n → out.length ≤ a → y0s u 4 [125] (a + w.length) = true →
    ∃ l', uL l' = uL l ∧ zG out u a 0 K N S L F T = some (out ++ l', u, ((a + w.length : Nat) : Int), 0, K, N, S, L, F, T) := by
  induction h with
  | nil =>
    intro a out ha han ho hc
    refine ⟨[], rfl, ?_⟩
    rw [wJ]; unfold zZ z1S
    rw [if_pos rfl, z9q tk K N S L F T 4 [125] 0 han, zA, zA, show y0s u 4 [125] a = true from hc, if_neg (by decide)]
    simp
  | @cons x l w wl hx _ ih =>
    intro a out ha han ho hc
    have hl := y8w tk han ha
    obtain ⟨g1, g2⟩ := z0e ha
    have e2 : a + (w ++ [[59]]).length = a + w.length + 1 := by simp; omega
    have eb : a + (w ++ [[59]] ++ wl).length = a + w.length + 1 + wl.length := by simp; omega
    rw [e2] at g2
    rw [eb] at hc hl ⊢
    obtain ⟨y, e1, e3⟩ := y7K tk K N S L F T hx g1 han
    obtain ⟨l', q1, q2⟩ := ih (a + w.length + 1) (out ++ [y]) g2 (by omega) (by simp; omega) hc
    have hno : y0s u 4 [125] a = false := by
      cases hx with
      | mk hn _ =>
        obtain ⟨k1, -⟩ := z8s ha.1.2 hn
        show yK u a [125] = false
        unfold yK; rw [k1]; rfl
    refine ⟨y :: l', by simp [uL, e1, q1], ?_⟩
    rw [wJ]; unfold zZ z1S
    rw [if_pos rfl, z9q tk K N S L F T 4 [125] 0 han, zA, zA, hno, if_pos (show (!false) = true from rfl), e3, zA]; dsimp only
    rw [if_pos (y8X tk ho han y), q2]
    simp
theorem v4V {x : zD} {w : List Str} (h : PL x w) {a : Nat} (ha : At u a w) : ∃ y, z1m y = z1m x ∧ w.length = 1 ∧ a < n ∧ z0q u a 0 K N S L F T = some (y, u, ((a + 1 : Nat) : Int), 0, K, N, S, L, F, T) := by
  have h1 := tk.len
  have e0 : zP [zP u a] 0 = zP u a := rfl
  have hsl : a < n → List.drop (Int.toNat (a : Int)) (List.take (Int.toNat ((a + 1 : Nat) : Int)) u) = [zP u a] := fun hlt => by
    rw [show Int.toNat (a : Int) = a from rfl, show Int.toNat ((a + 1 : Nat) : Int) = a + 1 from rfl, List.drop_take, show a + 1 - a = 1 by omega, List.drop_eq_getElem_cons (show a < u.length by omega)]
    unfold zP; rw [List.getElem?_eq_getElem (show a < u.length by omega)]; rfl
  have fin : ∀ {k m : Int} {s : Str}, a < n → z0o [zP u a] 0 = .one k m s → (zP u a).K ≠ 4 →
      ∃ F' T', (if (0 : Int) ≤ (IntKind.wrap .i64 ((a : Int) + 1)) then
       if Int.toNat (IntKind.wrap .i64 ((a : Int) + 1)) ≤ List.length u then
       if (0 : Int) ≤ (a : Int) then
       if Int.toNat (a : Int) ≤ Int.toNat (IntKind.wrap .i64 ((a : Int) + 1)) then
       z0T (List.drop (Int.toNat (a : Int)) (List.take (Int.toNat (IntKind.wrap .i64 ((a : Int) + 1))) u)) 0 >>= fun q5 =>
       some (q5.1, u, IntKind.wrap .i64 ((a : Int) + 1), (0 : Int), K, N, S, L, F, T)
       else none
       else none
       else none
       else none) = some (⟨k, m, s, [], F', T'⟩, u, ((a + 1 : Nat) : Int), 0, K, N, S, L, F, T) := fun {k m s} hlt g1 g2 => by
    have hp : z0T [zP u a] 0 = some _ := y4X [zP u a] (by simp) 0 (by simp) (v1c g1 (by rw [e0]; exact g2) rfl)
    rw [y5t tk (by omega), if_pos (by omega), if_pos (by omega), if_pos (by omega), if_pos (by omega), hsl hlt, hp, zA]
    exact ⟨_, _, rfl⟩
  unfold z0q
  cases h with
  | @num m F' T' h1 h2 =>
    have t1 := ha.1.2
    have hlt := z8C tk t1
    obtain ⟨k1, k2⟩ := v1Q t1 h2
    obtain ⟨F2, T2, e⟩ := fin (k := 5) (m := m) (s := []) hlt (by unfold z0o; rw [if_pos (by rw [e0, k1]), e0, k2]) (by rw [k1]; decide)
    rw [if_pos rfl, tk.idx (by omega), zA, if_pos k1]
    exact ⟨_, by simp [z1m, uL], rfl, hlt, e⟩
  | @tru F' T' =>
    have t1 := ha.1.2
    have hlt := z8C tk t1
    have hw := z5o t1 (show one [116, 114, 117, 101] = .inr (3, 0, [116, 114, 117, 101], 4) from rfl)
    have hk := (y5r hw).1
    obtain ⟨F2, T2, e⟩ := fin (k := 6) (m := 1) (s := []) hlt (by
      have hw' : vC [zP u a] 0 [116, 114, 117, 101] = true := hw
      unfold z0o; rw [if_neg (by rw [e0, hk]; decide), if_neg (by rw [e0, hk]; decide), if_pos hw']) (by rw [hk]; decide)
    rw [if_pos rfl, tk.idx (by omega), zA, if_neg (by rw [hk]; decide), z9q tk K N S L F T 3 _ 0 (by omega), zA, if_pos (show y0s u 3 [116, 114, 117, 101] a = true from hw)]
    exact ⟨_, by simp [z1m, uL], rfl, hlt, e⟩
  | @fal F' T' =>
    have t1 := ha.1.2
    have hlt := z8C tk t1
    have hw := z5o t1 (show one [102, 97, 108, 115, 101] = .inr (3, 0, [102, 97, 108, 115, 101], 5) from rfl)
    have hk := (y5r hw).1
    have hn : vC u a [116, 114, 117, 101] = false := y2X t1 (by decide)
    obtain ⟨F2, T2, e⟩ := fin (k := 6) (m := 0) (s := []) hlt (by
      have hw' : vC [zP u a] 0 [102, 97, 108, 115, 101] = true := hw
      have hn' : vC [zP u a] 0 [116, 114, 117, 101] = false := hn
      unfold z0o; rw [if_neg (by rw [e0, hk]; decide), if_neg (by rw [e0, hk]; decide), if_neg (by rw [hn']; decide), if_pos hw']) (by rw [hk]; decide)
    rw [if_pos rfl, tk.idx (by omega), zA, if_neg (by rw [hk]; decide), z9q tk K N S L F T 3 _ 0 (by omega), zA, if_neg (by rw [show y0s u 3 [116, 114, 117, 101] a = false from hn]; decide), z9q tk K N S L F T 3 _ 0 (by omega), zA, if_pos (show y0s u 3 [102, 97, 108, 115, 101] a = true from hw)]
    exact ⟨_, by simp [z1m, uL], rfl, hlt, e⟩
theorem v5R {k : Int} {s : Str} {x y : zD} {wx wy : List Str} {lp : List zD} {wp : List Str} (hs : Nm s) (hx : PT x wx) (hy : PS (.bl y) wy) {f a : Nat} (hf : f ≤ a) (h1 : TM (zP u a) s)
    (hp : ∃ F' T' l', uL l' = uL lp ∧ wG u ((a + 1 : Nat) : Int) 0 K N S L F T = some (⟨35, 0, [], l', F', T'⟩, u, ((a + 1 + (wp.length + 2) : Nat) : Int), 0, K, N, S, L, F, T))
    (h2 : TM (zP u (a + 1 + (wp.length + 2))) [58]) (h3 : At u (a + 1 + (wp.length + 2) + 1) wx) (h4 : At u (a + 1 + (wp.length + 2) + 1 + wx.length) wy) :
    ∃ F' T' F2 T2 l' x' y', uL l' = uL lp ∧ z1m x' = z1m x ∧ z1m y' = z1m y ∧ (
    wY u a 0 K N S L F T >>= fun q3 =>
    wG q3.2.1 q3.2.2.1 q3.2.2.2.1 q3.2.2.2.2.1 q3.2.2.2.2.2.1 q3.2.2.2.2.2.2.1 q3.2.2.2.2.2.2.2.1 q3.2.2.2.2.2.2.2.2.1 q3.2.2.2.2.2.2.2.2.2 >>= fun q4 =>
    yM 4 ([58] : List UInt8) q4.2.1 q4.2.2.1 q4.2.2.2.1 q4.2.2.2.2.1 q4.2.2.2.2.2.1 q4.2.2.2.2.2.2.1 q4.2.2.2.2.2.2.2.1 q4.2.2.2.2.2.2.2.2.1 q4.2.2.2.2.2.2.2.2.2 >>= fun q5 =>
    vK q5.1 q5.2.1 q5.2.2.1 q5.2.2.2.1 q5.2.2.2.2.1 q5.2.2.2.2.2.1 q5.2.2.2.2.2.2.1 q5.2.2.2.2.2.2.2.1 q5.2.2.2.2.2.2.2.2 >>= fun q6 =>
    vX q6.2.1 q6.2.2.1 q6.2.2.2.1 q6.2.2.2.2.1 q6.2.2.2.2.2.1 q6.2.2.2.2.2.2.1 q6.2.2.2.2.2.2.2.1 q6.2.2.2.2.2.2.2.2.1 q6.2.2.2.2.2.2.2.2.2 >>= fun q7 =>
    wA 33 k q3.1 f [q4.1, q6.1, q7.1] q7.2.1 q7.2.2.1 q7.2.2.2.1 q7.2.2.2.2.1 q7.2.2.2.2.2.1 q7.2.2.2.2.2.2.1 q7.2.2.2.2.2.2.2.1 q7.2.2.2.2.2.2.2.2.1 q7.2.2.2.2.2.2.2.2.2 >>= fun q8 =>
    some (q8, q7.2.1, q7.2.2.1, q7.2.2.2.1, q7.2.2.2.2.1, q7.2.2.2.2.2.1, q7.2.2.2.2.2.2.1, q7.2.2.2.2.2.2.2.1, q7.2.2.2.2.2.2.2.2.1, q7.2.2.2.2.2.2.2.2.2)) =
      some (⟨33, k, s, [⟨35, 0, [], l', F', T'⟩, x', y'], F2, T2⟩, u, ((a + 1 + (wp.length + 2) + 1 + wx.length + wy.length : Nat) : Int), 0, K, N, S, L, F, T) := by
  obtain ⟨F', T', l', p1, p2⟩ := hp
  have n2 := z8C tk h2
  have n3 := y8w tk (by omega) h3
  have n4 := y8w tk n3 h4
  obtain ⟨x', e1, e2⟩ := y6R tk K N S L F T hx h3 (by omega)
  obtain ⟨y', e3, e4⟩ := v0Z tk K N S L F T hy h4 n3
  obtain ⟨F2, T2, e5⟩ := z7o tk K N S L F T 33 k s (f := f) (b := a + 1 + (wp.length + 2) + 1 + wx.length + wy.length) [⟨35, 0, [], l', F', T'⟩, x', y'] (by omega) n4
  refine ⟨F', T', F2, T2, l', x', y', p1, e1, e3, ?_⟩
  rw [z8D tk K N S L F T h1 hs, zA]; dsimp only
  rw [p2, zA]; dsimp only
  rw [z5s tk K N S L F T h2 rfl, zA]; dsimp only
  rw [e2, zA]; dsimp only
  rw [e4, zA]; dsimp only
  rw [e5, zA]
theorem y3e {k : Int} {s : Str} {x y : zD} {wx wy : List Str} {lp : List zD} {wp : List Str} {F1 T1 F3 T3 : Int} (hk : k = 0 ∨ k = 1) (hs : Nm s) (hx : PT x wx) (hy : PS (.bl y) wy) (hp : (lp = [] ∧ wp = []) ∨ PNs lp wp) {a : Nat}
    (ha : At u a ((if k = 1 then [[112, 117, 98]] else []) ++ [[102, 110], s, [40]] ++ wp ++ [[41], [58]] ++ wx ++ wy)) (han : a ≤ n) :
    ∃ z, z1m z = z1m ⟨33, k, s, [⟨35, 0, [], lp, F1, T1⟩, x, y], F3, T3⟩ ∧ jW u a 0 K N S L F T = some (z, u, ((a + ((if k = 1 then [[112, 117, 98]] else []) ++ [[102, 110], s, [40]] ++ wp ++ [[41], [58]] ++ wx ++ wy).length : Nat) : Int), 0, K, N, S, L, F, T) := by
  have rest : ∀ {f b : Nat}, f ≤ b → At u b ([[102, 110], s, [40]] ++ wp ++ [[41], [58]] ++ wx ++ wy) → TM (zP u b) [102, 110] ∧ ∃ F' T' F2 T2 l' x' y', uL l' = uL lp ∧ z1m x' = z1m x ∧ z1m y' = z1m y ∧ (
    wY u ((b + 1 : Nat) : Int) 0 K N S L F T >>= fun q3 =>
    wG q3.2.1 q3.2.2.1 q3.2.2.2.1 q3.2.2.2.2.1 q3.2.2.2.2.2.1 q3.2.2.2.2.2.2.1 q3.2.2.2.2.2.2.2.1 q3.2.2.2.2.2.2.2.2.1 q3.2.2.2.2.2.2.2.2.2 >>= fun q4 =>
    yM 4 ([58] : List UInt8) q4.2.1 q4.2.2.1 q4.2.2.2.1 q4.2.2.2.2.1 q4.2.2.2.2.2.1 q4.2.2.2.2.2.2.1 q4.2.2.2.2.2.2.2.1 q4.2.2.2.2.2.2.2.2.1 q4.2.2.2.2.2.2.2.2.2 >>= fun q5 =>
    vK q5.1 q5.2.1 q5.2.2.1 q5.2.2.2.1 q5.2.2.2.2.1 q5.2.2.2.2.2.1 q5.2.2.2.2.2.2.1 q5.2.2.2.2.2.2.2.1 q5.2.2.2.2.2.2.2.2 >>= fun q6 =>
    vX q6.2.1 q6.2.2.1 q6.2.2.2.1 q6.2.2.2.2.1 q6.2.2.2.2.2.1 q6.2.2.2.2.2.2.1 q6.2.2.2.2.2.2.2.1 q6.2.2.2.2.2.2.2.2.1 q6.2.2.2.2.2.2.2.2.2 >>= fun q7 =>
    wA 33 k q3.1 f [q4.1, q6.1, q7.1] q7.2.1 q7.2.2.1 q7.2.2.2.1 q7.2.2.2.2.1 q7.2.2.2.2.2.1 q7.2.2.2.2.2.2.1 q7.2.2.2.2.2.2.2.1 q7.2.2.2.2.2.2.2.2.1 q7.2.2.2.2.2.2.2.2.2 >>= fun q8 =>
    some (q8, q7.2.1, q7.2.2.1, q7.2.2.2.1, q7.2.2.2.2.1, q7.2.2.2.2.2.1, q7.2.2.2.2.2.2.1, q7.2.2.2.2.2.2.2.1, q7.2.2.2.2.2.2.2.2.1, q7.2.2.2.2.2.2.2.2.2)) =
      some (⟨33, k, s, [⟨35, 0, [], l', F', T'⟩, x', y'], F2, T2⟩, u, ((b + 1 + 1 + (wp.length + 2) + 1 + wx.length + wy.length : Nat) : Int), 0, K, N, S, L, F, T) := by
    intro f b hf hb
    obtain ⟨g1, g5⟩ := z0e hb
    obtain ⟨g2, g4⟩ := z0e g1
    obtain ⟨g3, g6⟩ := z0e g2
    obtain ⟨g7, g8⟩ := z0e g3
    have t1 := g7.1.2
    have t2 := g7.2.1.2
    have t3 := g7.2.2.1.2
    have l1 : b + ([[102, 110], s, [40]] : List Str).length = b + 3 := rfl
    have l2 : b + ([[102, 110], s, [40]] ++ wp).length = b + 3 + wp.length := by simp; omega
    have l3 : b + ([[102, 110], s, [40]] ++ wp ++ [[41], [58]]).length = b + 1 + 1 + (wp.length + 2) + 1 := by simp; omega
    have l4 : b + ([[102, 110], s, [40]] ++ wp ++ [[41], [58]] ++ wx).length = b + 1 + 1 + (wp.length + 2) + 1 + wx.length := by simp; omega
    rw [l1] at g8
    rw [l2] at g6
    rw [l3] at g4
    rw [l4] at g5
    have t4 := g6.1.2
    have t5 := g6.2.1.2
    refine ⟨t1, ?_⟩
    refine v5R tk K N S L F T (k := k) (lp := lp) (wp := wp) hs hx hy (f := f) (a := b + 1) (by omega) t2 ?_ (by rw [show b + 1 + 1 + (wp.length + 2) = b + 3 + wp.length + 1 by omega]; exact t5) g4 g5
    rcases hp with ⟨rfl, rfl⟩ | hp
    · obtain ⟨F', T', e⟩ := y8S tk K N S L F T (a := b + 1 + 1) ⟨⟨by have := z8C tk t3; have := tk.len; omega, t3⟩, ⟨by have q1 := z8C tk t4; have q2 := tk.len; simp only [List.length_nil] at q1; omega, by simpa using t4⟩, trivial⟩
      exact ⟨F', T', [], rfl, e⟩
    · obtain ⟨F', T', l', e1, e2⟩ := v0E tk K N S L F T hp (a := b + 1 + 1) (by
        have c0 : At u (b + 3) (wp ++ [[41]]) := v0P g8 ⟨⟨by have := z8C tk t4; have := tk.len; omega, t4⟩, trivial⟩
        have c1 : At u (b + 1 + 1) ([[40]] ++ (wp ++ [[41]])) := ⟨⟨by have := z8C tk t3; have := tk.len; omega, t3⟩, c0⟩
        rw [List.append_assoc]; exact c1)
      exact ⟨F', T', l', e1, e2⟩
  unfold jW
  rcases hk with rfl | rfl
  · rw [if_neg (show ¬ (0 : Int) = 1 by decide), List.nil_append] at ha ⊢
    obtain ⟨t1, F', T', F2, T2, l', x', y', e1, e2, e3, e4⟩ := rest (f := a) (b := a) (Nat.le_refl a) ha
    refine ⟨⟨33, 0, s, [⟨35, 0, [], l', F', T'⟩, x', y'], F2, T2⟩, by simp [z1m, uL, e1, e2, e3], ?_⟩
    rw [y0x tk K N S L F T 3 [112, 117, 98] han (fun g => by have := g.2; rw [show y0s u 3 [112, 117, 98] a = vC u a [112, 117, 98] from rfl, y2X t1 (by decide)] at this; cases this), zA]; dsimp only
    rw [if_neg (by decide), v1O tk K N S L F T t1 rfl, zA]; dsimp only
    rw [e4]
    have le : a + ([[102, 110], s, [40]] ++ wp ++ [[41], [58]] ++ wx ++ wy).length = a + 1 + 1 + (wp.length + 2) + 1 + wx.length + wy.length := by simp; omega
    rw [le]
  · rw [if_pos (show (1 : Int) = 1 from rfl)] at ha ⊢
    have ha' : At u a ([[112, 117, 98]] ++ ([[102, 110], s, [40]] ++ wp ++ [[41], [58]] ++ wx ++ wy)) := by simpa using ha
    have t0 := ha'.1.2
    obtain ⟨t1, F', T', F2, T2, l', x', y', e1, e2, e3, e4⟩ := rest (f := a) (b := a + 1) (by omega) ha'.2
    refine ⟨⟨33, 1, s, [⟨35, 0, [], l', F', T'⟩, x', y'], F2, T2⟩, by simp [z1m, uL, e1, e2, e3], ?_⟩
    rw [z6n tk K N S L F T 3 [112, 117, 98] han rfl (z5o t0 rfl), zA]; dsimp only
    rw [if_pos rfl, v1O tk K N S L F T t1 rfl, zA]; dsimp only
    rw [e4]
    have le : a + ([[112, 117, 98]] ++ [[102, 110], s, [40]] ++ wp ++ [[41], [58]] ++ wx ++ wy).length = a + 1 + 1 + 1 + (wp.length + 2) + 1 + wx.length + wy.length := by simp; omega
    rw [le]
theorem v3i {x : zD} {w : List Str} (h : PD x w) {a : Nat} (ha : At u a w) (han : a ≤ n) : ∃ z, z1m z = z1m x ∧ a < a + w.length ∧ z1l u a 0 K N S L F T = some (z, u, ((a + w.length : Nat) : Int), 0, K, N, S, L, F, T) := by
  have k1 : ∀ {p : Option (zD × List zB × Int × Int × Int × Int × Str × List zD × Int × Int)}, (p >>= fun q2 => some (q2.1, q2.2.1, q2.2.2.1, q2.2.2.2.1, q2.2.2.2.2.1, q2.2.2.2.2.2.1, q2.2.2.2.2.2.2.1, q2.2.2.2.2.2.2.2.1, q2.2.2.2.2.2.2.2.2.1, q2.2.2.2.2.2.2.2.2.2)) = p := fun {p} => by
    cases p <;> rfl
  unfold z1l
  simp only [k1, z9q tk K N S L F T 3 _ 0 han, zA]
  have no : ∀ {v s : Str}, TM (zP u a) v → v ≠ s → ¬ y0s u 3 s a = true := fun {v s} h1 h2 g => by
    rw [show y0s u 3 s a = vC u a s from rfl, y2X h1 h2] at g; cases g
  have ok : ∀ {v : Str}, TM (zP u a) v → one v = .inr (3, 0, v, v.length) → y0s u 3 v a = true := fun {v} h1 h2 => z5o h1 h2
  cases h with
  | @rcd s l w F' T' hs hl hf =>
    obtain ⟨g1, g2⟩ := z0e ha
    obtain ⟨g3, g4⟩ := z0e g1
    have t1 := g3.1.2
    have t2 := g3.2.1.2
    have t3 := g3.2.2.1.2
    have l1 : a + ([[114, 101, 99], s, [123]] : List Str).length = a + 3 := rfl
    have l2 : a + ([[114, 101, 99], s, [123]] ++ w).length = a + 3 + w.length := by simp; omega
    have l3 : a + ([[114, 101, 99], s, [123]] ++ w ++ [[125]]).length = a + 3 + w.length + 1 := by simp; omega
    rw [l1] at g4
    rw [l2] at g2
    rw [l3]
    have t4 := g2.1.2
    have n4 := z8C tk t4
    rw [if_pos (ok t1 rfl)]
    unfold z1k
    rw [y5t tk han, z8D tk K N S L F T t2 hs, zA]; dsimp only
    rw [z5s tk K N S L F T t3 rfl, zA]; dsimp only
    unfold wD
    cases hf with
    | nil => exact absurd rfl hl
    | @cons x l w wl hx hf =>
      obtain ⟨c1, c2⟩ := z0e g4
      have m1 : a + 3 + (w ++ [[59]]).length = a + 3 + w.length + 1 := by simp; omega
      have m2 : a + 3 + (w ++ [[59]] ++ wl).length = a + 3 + w.length + 1 + wl.length := by simp; omega
      rw [m1] at c2
      rw [m2] at t4 n4 ⊢
      obtain ⟨y, e1, e2⟩ := y7K tk K N S L F T hx c1 (by omega)
      obtain ⟨l', q1, q2⟩ := v0n tk K N S L F T hf (a + 3 + w.length + 1) [y] c2 (by omega) (by simp) (z2w t4 rfl)
      obtain ⟨F2, T2, e5⟩ := z7o tk K N S L F T 30 0 s (f := a) (b := a + 3 + w.length + 1 + wl.length + 1) ([y] ++ l') (by omega) (by omega)
      refine ⟨⟨30, 0, s, [y] ++ l', F2, T2⟩, by simp [z1m, uL, e1, q1], by omega, ?_⟩
      rw [show a + 1 + 1 + 1 = a + 3 from rfl, e2, zA]; dsimp only
      rw [q2, zA]; dsimp only
      rw [z5s tk K N S L F T t4 rfl, zA]; dsimp only
      rw [e5, zA]
  | @const s x w F' T' hs hx =>
    obtain ⟨g1, g2⟩ := z0e ha
    obtain ⟨g3, g4⟩ := z0e g1
    have t1 := g3.1.2
    have t2 := g3.2.1.2
    have t3 := g3.2.2.1.2
    have l1 : a + ([[99, 111, 110, 115, 116], s, [61]] : List Str).length = a + 3 := rfl
    rw [l1] at g4
    obtain ⟨y, e1, hw1, hlt, e2⟩ := v4V tk K N S L F T hx g4
    have l2 : a + ([[99, 111, 110, 115, 116], s, [61]] ++ w).length = a + 4 := by simp; omega
    have l3 : a + ([[99, 111, 110, 115, 116], s, [61]] ++ w ++ [[59]]).length = a + 5 := by simp; omega
    rw [l2] at g2
    rw [l3]
    have t4 := g2.1.2
    have n4 := z8C tk t4
    obtain ⟨F2, T2, e5⟩ := z7o tk K N S L F T 31 0 s (f := a) (b := a + 5) [y] (by omega) (by omega)
    rw [if_neg (no t1 (by decide)), if_pos (ok t1 rfl)]
    unfold z1i
    rw [y5t tk han, z8D tk K N S L F T t2 hs, zA]; dsimp only
    rw [z5s tk K N S L F T t3 rfl, zA]; dsimp only
    rw [show a + 1 + 1 + 1 = a + 3 from rfl, e2, zA]; dsimp only
    rw [show a + 3 + 1 = a + 4 from rfl, z5s tk K N S L F T t4 rfl, zA]; dsimp only
    rw [show a + 4 + 1 = a + 5 from rfl, e5, zA]
    exact ⟨_, by simp [z1m, uL, e1], by omega, rfl⟩
  | @var s x w F' T' hs hx =>
    obtain ⟨g1, g2⟩ := z0e ha
    obtain ⟨g3, g4⟩ := z0e g1
    have t1 := g3.1.2
    have t2 := g3.2.1.2
    have t3 := g3.2.2.1.2
    have l1 : a + ([[118, 97, 114], s, [58]] : List Str).length = a + 3 := rfl
    have l2 : a + ([[118, 97, 114], s, [58]] ++ w).length = a + 3 + w.length := by simp; omega
    have l3 : a + ([[118, 97, 114], s, [58]] ++ w ++ [[59]]).length = a + 3 + w.length + 1 := by simp; omega
    rw [l1] at g4
    rw [l2] at g2
    rw [l3]
    have t4 := g2.1.2
    have n4 := z8C tk t4
    obtain ⟨y, e1, e2⟩ := y6R tk K N S L F T hx g4 (by omega)
    obtain ⟨F2, T2, e5⟩ := z7o tk K N S L F T 32 0 s (f := a) (b := a + 3 + w.length + 1) [y] (by omega) (by omega)
    rw [if_neg (no t1 (by decide)), if_neg (no t1 (by decide)), if_pos (ok t1 rfl)]
    unfold z1j
    rw [y5t tk han, z8D tk K N S L F T t2 hs, zA]; dsimp only
    rw [z5s tk K N S L F T t3 rfl, zA]; dsimp only
    rw [show a + 1 + 1 + 1 = a + 3 from rfl, e2, zA]; dsimp only
    rw [z5s tk K N S L F T t4 rfl, zA]; dsimp only
    rw [e5, zA]
    exact ⟨_, by simp [z1m, uL, e1], by omega, rfl⟩
  | @fn0 k s x y wx wy F1 T1 F3 T3 hk hs hx hy =>
    obtain ⟨z, e1, e2⟩ := y3e tk K N S L F T (F1 := F3) (T1 := T3) (F3 := F1) (T3 := T1) hk hs hx hy (lp := []) (wp := []) (.inl ⟨rfl, rfl⟩) ha han
    refine ⟨z, e1, by split <;> simp, ?_⟩
    rw [← e2]
    rcases hk with rfl | rfl
    · have t1 : TM (zP u a) [102, 110] := by rw [if_neg (by decide)] at ha; exact ha.1.2
      rw [if_neg (no t1 (by decide)), if_neg (no t1 (by decide)), if_neg (no t1 (by decide)), if_neg (no t1 (by decide)), if_pos (ok t1 rfl)]
    · have t1 : TM (zP u a) [112, 117, 98] := by rw [if_pos rfl] at ha; exact ha.1.2
      rw [if_neg (no t1 (by decide)), if_neg (no t1 (by decide)), if_neg (no t1 (by decide)), if_pos (ok t1 rfl)]
  | @fn k s l x y wl wx wy F1 T1 F3 T3 hk hs hp hx hy =>
    obtain ⟨z, e1, e2⟩ := y3e tk K N S L F T (F1 := F3) (T1 := T3) (F3 := F1) (T3 := T1) hk hs hx hy (.inr hp) ha han
    refine ⟨z, e1, by split <;> simp, ?_⟩
    rw [← e2]
    rcases hk with rfl | rfl
    · have t1 : TM (zP u a) [102, 110] := by rw [if_neg (by decide)] at ha; exact ha.1.2
      rw [if_neg (no t1 (by decide)), if_neg (no t1 (by decide)), if_neg (no t1 (by decide)), if_neg (no t1 (by decide)), if_pos (ok t1 rfl)]
    · have t1 : TM (zP u a) [112, 117, 98] := by rw [if_pos rfl] at ha; exact ha.1.2
      rw [if_neg (no t1 (by decide)), if_neg (no t1 (by decide)), if_neg (no t1 (by decide)), if_pos (ok t1 rfl)]
end
theorem y6P (p : UInt8 → Bool) (h : p 10 = false) : ∀ (l b : List UInt8), tw p (l ++ 10 :: b) = tw p l
  | [], b => by simp [tw, h]
  | c :: r, b => by
    simp only [List.cons_append, tw]
    rw [y6P p h r b]
theorem v4Y (c : UInt8) (r b : List UInt8) : one (c :: r ++ 10 :: b) = one (c :: r) := by
  have em : mor 10 = false := rfl
  have ed : dgt 10 = false := rfl
  have tk : ∀ n, n ≤ (c :: r).length → (c :: (r ++ 10 :: b)).take n = (c :: r).take n := fun n hn => by
    rw [← List.cons_append, List.take_append_of_le_length hn]
  have sg : sgn c.toNat (hd0 (r ++ 10 :: b)) = sgn c.toNat (hd0 r) := by
    cases r with
    | nil =>
      show sgn c.toNat 10 = sgn c.toNat 0
      unfold sgn
      split
      · rfl
      · split
        · rw [if_neg (by omega), if_neg (by omega)]
        · rfl
    | cons d r => rfl
  rw [List.cons_append, one, one]
  have t1 := y6P mor em (c :: r) b
  have t2 := y6P dgt ed (c :: r) b
  rw [List.cons_append] at t1 t2
  rw [t1, t2, sg, tk _ (y6Q mor (c :: r)), tk _ (y6Q dgt (c :: r)), tk _ (y9a c r)]
theorem v3s (n : Nat) (hn : n ≠ 10) (l b : List UInt8) : y5u n (l ++ 10 :: b) = y5u n l := by
  cases l with
  | nil => simp [y5u]; omega
  | cons c r => rfl
theorem y2c : ∀ (n m : Nat) (l : List UInt8), l.length ≤ n → l.length ≤ m → nxt n l = nxt m l
  | 0, m, l, h1, h2 => by
    have : l = [] := List.length_eq_zero_iff.1 (by omega)
    subst this; cases m <;> rfl
  | n + 1, 0, l, h1, h2 => by
    have : l = [] := List.length_eq_zero_iff.1 (by omega)
    subst this; rfl
  | n + 1, m + 1, [], h1, h2 => rfl
  | n + 1, m + 1, c :: r, h1, h2 => by
    simp only [List.length_cons] at h1 h2
    rw [nxt, nxt]
    by_cases hb : blk c = true
    · rw [if_pos hb, if_pos hb, y2c n m r (by omega) (by omega)]
    · rw [if_neg hb, if_neg hb]
      by_cases hc : c.toNat = 47 ∧ y5u 47 r = true
      · rw [if_pos hc, if_pos hc]
        have hl : lin c = true := by unfold lin; simp [hc.1]
        have ht : 1 ≤ tw lin (c :: r) := by rw [tw, if_pos hl]; omega
        rw [y2c n m ((c :: r).drop (tw lin (c :: r))) (by rw [List.length_drop, List.length_cons]; omega) (by rw [List.length_drop, List.length_cons]; omega)]
      · rw [if_neg hc, if_neg hc]
theorem y6C : ∀ (n : Nat) (l b : List UInt8), l.length + 1 + b.length ≤ n → nxt n (l ++ 10 :: b) = if nxt n l = l.length then l.length + 1 + nxt n b else nxt n l
  | 0, l, b, h => by omega
  | n + 1, [], b, h => by
    simp only [List.length_nil] at h
    rw [show nxt (n + 1) [] = 0 from rfl, if_pos (show (0 : Nat) = ([] : List UInt8).length from rfl)]
    show nxt (n + 1) (10 :: b) = _
    rw [nxt, if_pos (by rfl), y2c n (n + 1) b (by omega) (by omega)]; simp; omega
  | n + 1, c :: r, b, h => by
    simp only [List.length_cons] at h ⊢
    rw [List.cons_append, nxt, nxt]
    by_cases hb : blk c = true
    · rw [if_pos hb, if_pos hb, y6C n r b (by omega), y2c n (n + 1) b (by omega) (by omega)]
      split <;> split <;> omega
    · rw [if_neg hb, if_neg hb, v3s 47 (by decide)]
      by_cases hc : c.toNat = 47 ∧ y5u 47 r = true
      · rw [if_pos hc, if_pos hc]
        have hl : lin c = true := by unfold lin; simp [hc.1]
        have ht : 1 ≤ tw lin (c :: r) := by rw [tw, if_pos hl]; omega
        have hle := y6Q lin (c :: r)
        have e := y6P lin rfl (c :: r) b
        rw [List.cons_append] at e
        rw [e, ← List.cons_append, List.drop_append_of_le_length hle, y6C n ((c :: r).drop (tw lin (c :: r))) b (by rw [List.length_drop, List.length_cons]; omega), y2c n (n + 1) b (by omega) (by omega)]
        have hd : ((c :: r).drop (tw lin (c :: r))).length = r.length + 1 - tw lin (c :: r) := by rw [List.length_drop, List.length_cons]
        rw [hd]
        simp only [List.length_cons] at hle
        split <;> split <;> omega
      · rw [if_neg hc, if_neg hc, if_neg (by omega)]
def mvK (w : Int) (x : zB) : zB := ⟨x.K, x.N, x.S, x.From + w, x.To + w⟩
theorem y2k (n : Nat) (c : UInt8) (r : List UInt8) (p : Nat) (out : List zB) : z7f (n + 1) (c :: r) p out = match one (c :: r) with
    | .inl e => ([], (p : Int), e)
    | .inr (k, m, t, l) => z7f n (((c :: r).drop l).drop (nxt 10000 ((c :: r).drop l))) (p + l + nxt 10000 ((c :: r).drop l)) (out ++ [⟨k, m, t, p, ((p + l : Nat) : Int)⟩]) := by
  rw [z7f]
  cases one (c :: r) <;> rfl
theorem y8k (w : Nat) : ∀ (n m : Nat) (s : List UInt8) (p : Nat) (out out' : List zB), s.length < n → s.length < m → (z7f n s p out).2.2 = 0 → (∃ e, one s = .inl e → False) ∨ True →
    ∃ r, z7f n s p out = (out ++ r, 0, 0) ∧ z7f m s (p + w) out' = (out' ++ r.map (mvK (w : Int)), 0, 0)
  | 0, m, s, p, out, out', h1, h2, h, _ => by omega
  | n + 1, 0, s, p, out, out', h1, h2, h, _ => by omega
  | n + 1, m + 1, [], p, out, out', h1, h2, h, _ => by
    refine ⟨[⟨5, 0, [], p, p⟩], rfl, ?_⟩
    rw [z7f]
    simp only [List.map_cons, List.map_nil, mvK]
    rw [show ((p + w : Nat) : Int) = (p : Int) + (w : Int) by omega]
  | n + 1, m + 1, c :: r, p, out, out', h1, h2, h, _ => by
    rw [y2k] at h ⊢
    rw [y2k]
    cases ho : one (c :: r) with
    | inl e =>
      rw [ho] at h
      exfalso
      have he2 : e = 0 := h
      rw [one] at ho
      subst he2
      revert ho
      repeat' split
      all_goals (intro ho; first | (injection ho with ho; omega) | cases ho)
    | inr q =>
      obtain ⟨k, m', t, l⟩ := q
      rw [ho] at h
      dsimp only at h ⊢
      have hlen := z7r ho
      have hle := z6U 10000 ((c :: r).drop l)
      rw [List.length_drop] at hle
      obtain ⟨r', e1, e2⟩ := y8k w n m _ _ _ (out' ++ [⟨k, m', t, ((p + w : Nat) : Int), ((p + w + l : Nat) : Int)⟩]) (by rw [List.length_drop, List.length_drop]; omega) (by rw [List.length_drop, List.length_drop]; omega) h (.inr trivial)
      refine ⟨⟨k, m', t, p, ((p + l : Nat) : Int)⟩ :: r', by rw [e1]; simp, ?_⟩
      rw [show p + w + l + nxt 10000 ((c :: r).drop l) = p + l + nxt 10000 ((c :: r).drop l) + w by omega, e2]
      simp only [List.map_cons, mvK, List.append_assoc, List.singleton_append, Prod.mk.injEq, and_true, List.append_cancel_left_eq, List.cons.injEq, zB.mk.injEq, true_and]
      omega
theorem v2H (A b : List UInt8) (hA : A.length + 1 + b.length ≤ 8192) : ∀ (n m p : Nat) (out : List zB), A.length < p + n → A.length + 1 + b.length < p + m → p < A.length → (z7f n (A.drop p) p out).2.2 = 0 →
    ∃ r, (z7f n (A.drop p) p out).1 = out ++ r ++ [⟨5, 0, [], A.length, A.length⟩] ∧ ∃ m2, b.length < nxt 10000 b + m2 ∧ z7f m ((A ++ 10 :: b).drop p) p out = z7f m2 (b.drop (nxt 10000 b)) (A.length + 1 + nxt 10000 b) (out ++ r) := by
  intro n
  induction n with
  | zero => intro m p out h1 h2 h3; omega
  | succ n ih =>
    intro m p out h1 h2 h3 he
    cases m with
    | zero => omega
    | succ m =>
      have hd := List.drop_eq_getElem_cons h3
      have hj : (A ++ 10 :: b).drop p = A[p] :: A.drop (p + 1) ++ 10 :: b := by rw [List.drop_append_of_le_length (by omega), hd]
      rw [hd, y2k] at he ⊢
      rw [hj, List.cons_append, y2k, ← List.cons_append, v4Y]
      cases ho : one (A[p] :: A.drop (p + 1)) with
      | inl e =>
        rw [ho] at he
        exfalso
        have he2 : e = 0 := he
        rw [one] at ho
        subst he2
        revert ho
        repeat' split
        all_goals (intro ho; first | (injection ho with ho; omega) | cases ho)
      | inr q =>
        obtain ⟨k, m', t, l⟩ := q
        rw [ho] at he
        dsimp only at he ⊢
        have hlen := z7r ho
        rw [← hd, List.length_drop] at hlen
        rw [← hd] at he ⊢
        have e1 : (A.drop p ++ 10 :: b).drop l = (A.drop p).drop l ++ 10 :: b := List.drop_append_of_le_length (by rw [List.length_drop]; omega)
        have e2 : (A.drop p).drop l = A.drop (p + l) := List.drop_drop ..
        have hl2 : (A.drop (p + l)).length = A.length - (p + l) := List.length_drop
        have hle := z6U 10000 (A.drop (p + l))
        have hnb := z6U 10000 b
        have hn := y6C 10000 (A.drop (p + l)) b (by rw [hl2]; omega)
        rw [e1, e2, hn]
        rw [e2, List.drop_drop (l := A)] at he
        rw [List.drop_drop (l := A)]
        by_cases hz : nxt 10000 (A.drop (p + l)) = (A.drop (p + l)).length
        · rw [if_pos hz]
          have hp : p + l + nxt 10000 (A.drop (p + l)) = A.length := by omega
          rw [hp, List.drop_eq_nil_of_le (as := A) (by omega)]
          cases n with
          | zero => omega
          | succ n =>
            refine ⟨[⟨k, m', t, p, ((p + l : Nat) : Int)⟩], by rw [z7f], m, by omega, ?_⟩
            rw [List.drop_append, List.drop_eq_nil_of_le (by omega), List.nil_append, hl2, show A.length - (p + l) + 1 + nxt 10000 b - (A.length - (p + l)) = nxt 10000 b + 1 by omega, List.drop_succ_cons, show p + l + (A.length - (p + l) + 1 + nxt 10000 b) = A.length + 1 + nxt 10000 b by omega]
        · rw [if_neg hz]
          obtain ⟨r, g1, m2, g2, g3⟩ := ih m (p + l + nxt 10000 (A.drop (p + l))) (out ++ [⟨k, m', t, p, ((p + l : Nat) : Int)⟩]) (by omega) (by omega) (by omega) he
          refine ⟨⟨k, m', t, p, ((p + l : Nat) : Int)⟩ :: r, by rw [g1]; simp, m2, g2, ?_⟩
          have e3 : (A.drop (p + l) ++ 10 :: b).drop (nxt 10000 (A.drop (p + l))) = (A ++ 10 :: b).drop (p + l + nxt 10000 (A.drop (p + l))) := by
            rw [List.drop_append_of_le_length hle, List.drop_append_of_le_length (l₁ := A) (by omega), List.drop_drop]
          rw [e3, g3]
          simp
theorem v0z {A b : List UInt8} (hA : A.length + 1 + b.length ≤ 8192) (h1 : (z5n A).2.2 = 0) (h2 : (z5n b).2.2 = 0) :
    ∃ r, (z5n A).1 = r ++ [⟨5, 0, [], A.length, A.length⟩] ∧ z5n (A ++ [10] ++ b) = (r ++ (z5n b).1.map (mvK ((A.length + 1 : Nat) : Int)), 0, 0) := by
  have hj : A ++ [10] ++ b = A ++ 10 :: b := by simp
  have hjl : (A ++ 10 :: b).length = A.length + 1 + b.length := by simp; omega
  unfold z5n at h1 h2 ⊢
  rw [hj, if_neg (show ¬ A.length > 8192 by omega), if_neg (show ¬ (A ++ 10 :: b).length > 8192 by rw [hjl]; omega), if_neg (show ¬ b.length > 8192 by omega)]
  rw [if_neg (by omega)] at h1 h2
  have hz := z6U 10000 A
  have hnb := z6U 10000 b
  have hn := y6C 10000 A b (by omega)
  rw [hn]
  have mvb : ∀ m out', b.length < nxt 10000 b + m → z7f m (b.drop (nxt 10000 b)) (A.length + 1 + nxt 10000 b) out' = (out' ++ (z7f 10000 (b.drop (nxt 10000 b)) (nxt 10000 b) []).1.map (mvK ((A.length + 1 : Nat) : Int)), 0, 0) := fun m out' hm => by
    obtain ⟨r, e1, e2⟩ := y8k (A.length + 1) 10000 m (b.drop (nxt 10000 b)) (nxt 10000 b) [] out' (by rw [List.length_drop]; omega) (by rw [List.length_drop]; omega) h2 (.inr trivial)
    rw [show A.length + 1 + nxt 10000 b = nxt 10000 b + (A.length + 1) by omega, e2, e1, List.nil_append]
  by_cases hc : nxt 10000 A = A.length
  · rw [if_pos hc, hc, List.drop_eq_nil_of_le (Nat.le_refl _)]
    refine ⟨[], rfl, ?_⟩
    have e : (A ++ 10 :: b).drop (A.length + 1 + nxt 10000 b) = b.drop (nxt 10000 b) := by
      rw [List.drop_append, List.drop_eq_nil_of_le (by omega), List.nil_append, show A.length + 1 + nxt 10000 b - A.length = nxt 10000 b + 1 by omega, List.drop_succ_cons]
    rw [e, mvb 10000 [] (by omega)]
  · rw [if_neg hc]
    obtain ⟨r, g1, m2, g2, g3⟩ := v2H A b (by omega) 10000 10000 (nxt 10000 A) [] (by omega) (by omega) (by omega) h1
    refine ⟨r, by rw [g1]; simp, ?_⟩
    rw [g3, mvb m2 _ g2]; simp
theorem y0y {w : Str} {k n : Int} {t : Str} (h : one w = .inr (k, n, t, w.length)) : TW [w] := z1y (z1X h)
theorem v2i {x : zD} {w : List Str} (h : PT x w) : TW w := by
  induction h with
  | int => exact y0y (w := [105, 110, 116]) rfl
  | bool => exact y0y (w := [98, 111, 111, 108]) rfl
  | rcd h => exact z1y h
  | arr h1 h2 _ ih => exact vL (vL (a := [[91]]) (y0y rfl) (vL (a := [_]) (z1y h2) (y0y rfl))) ih
theorem v6d {its : List It} {s : Str} (h : z6x (.word s :: its) = true) : TW [s] ∧ z6x its = true := by
  simp only [z6x, Bool.and_eq_true] at h
  exact ⟨y0y (v1S h.1), h.2⟩
theorem v6c {its : List It} {s : Str} (h : z6x (.sign s :: its) = true) : TW [s] ∧ z6x its = true := by
  simp only [z6x, Bool.and_eq_true] at h
  exact ⟨y0y (v1R h.1), h.2⟩
def TWS : SC → List Str → Prop
  | .fm its _ _, w => z6x its = true → TW w
  | _, w => TW w
theorem v6t {c : SC} {w : List Str} (h : PS c w) : TWS c w := by
  induction h with
  | blk _ ih => exact vL (vL (y0y rfl) ih) (y0y rfl)
  | ss0 => exact fun x hx => by simp at hx
  | ssc _ _ ih1 ih2 => exact vL ih1 ih2
  | stB _ ih => exact ih
  | stF hk _ _ ih => exact ih (y9w hk)
  | f0 => exact fun _ x hx => by simp at hx
  | fW _ ih => intro h; obtain ⟨h1, h2⟩ := v6d h; exact vL h1 (ih h2)
  | fS _ ih => intro h; obtain ⟨h1, h2⟩ := v6c h; exact vL h1 (ih h2)
  | fN hn _ ih => intro h; exact vL (z1y hn) (ih h)
  | fX hx _ ih => intro h; simp only [z6x, Bool.and_eq_true] at h; exact vL (v6r hx) (ih h.2)
  | fT hx _ ih => intro h; exact vL (v2i hx) (ih h)
  | fK _ _ ih1 ih => intro h; exact vL ih1 (ih h)
  | fE1 _ _ ih1 ih =>
    intro h
    simp only [z6x, List.isEmpty_iff] at h
    subst h
    exact vL ih1 (ih rfl)
  | fE2 _ _ _ _ ih1 ih2 ih =>
    intro h
    simp only [z6x, List.isEmpty_iff] at h
    subst h
    exact vL (vL ih1 (vL (y0y rfl) ih2)) (ih rfl)
theorem v5g {x : zD} {w : List Str} (h : PN x w) : TW w := by
  cases h with
  | mk h1 h2 => exact vL (vL (a := [_]) (z1y h1) (y0y rfl)) (v2i h2)
theorem v6o {l : List zD} {w : List Str} (h : PNs l w) : TW w := by
  induction h with
  | one h => exact v5g h
  | cons h _ ih => exact vL (vL (v5g h) (y0y rfl)) ih
theorem v6k {l : List zD} {w : List Str} (h : PFs l w) : TW w := by
  induction h with
  | nil => exact fun x hx => by simp at hx
  | cons h _ ih => exact vL (vL (v5g h) (y0y rfl)) ih
theorem tw3 {a b c : Str} (ha : TW [a]) (hb : TW [b]) (hc : TW [c]) : TW [a, b, c] := vL ha (vL hb hc)
theorem v6g {x : zD} {w : List Str} (h : PD x w) : TW w ∧ w ≠ [] := by
  cases h with
  | rcd h1 h2 h3 => exact ⟨vL (vL (tw3 (y0y rfl) (z1y h1) (y0y rfl)) (v6k h3)) (y0y rfl), by simp⟩
  | const h1 h2 => exact ⟨vL (vL (tw3 (y0y rfl) (z1y h1) (y0y rfl)) (v6r h2.pr)) (y0y rfl), by simp⟩
  | var h1 h2 => exact ⟨vL (vL (tw3 (y0y rfl) (z1y h1) (y0y rfl)) (v2i h2)) (y0y rfl), by simp⟩
  | fn0 hk h1 h2 h3 =>
    have hb : TW _ := v6t h3
    refine ⟨vL (vL (vL (vL (vL ?_ (tw3 (y0y rfl) (z1y h1) (y0y rfl))) (fun x hx => by simp at hx)) (vL (a := [[41]]) (y0y rfl) (y0y rfl))) (v2i h2)) hb, by simp⟩
    split
    · exact y0y rfl
    · exact fun x hx => by simp at hx
  | fn hk h1 hp h2 h3 =>
    have hb : TW _ := v6t h3
    refine ⟨vL (vL (vL (vL (vL ?_ (tw3 (y0y rfl) (z1y h1) (y0y rfl))) (v6o hp)) (vL (a := [[41]]) (y0y rfl) (y0y rfl))) (v2i h2)) hb, by simp⟩
    split
    · exact y0y rfl
    · exact fun x hx => by simp at hx
theorem LW.app : ∀ {ys zs : List zB} {w v : List Str}, LW ys w → LW zs v → LW (ys ++ zs) (w ++ v)
  | [], zs, [], v, _, h => h
  | y :: ys, zs, x :: w, v, ⟨h1, h2⟩, h => ⟨h1, LW.app h2 h⟩
  | [], _, _ :: _, _, h, _ => h.elim
  | _ :: _, _, [], _, h, _ => h.elim
theorem LW.mv : ∀ {ys : List zB} {w : List Str} (k : Int), LW ys w → LW (ys.map (mvK k)) w
  | [], [], k, h => trivial
  | y :: ys, x :: w, k, ⟨h1, h2⟩ => ⟨h1, LW.mv k h2⟩
  | [], _ :: _, _, h => h.elim
  | _ :: _, [], _, h => h.elim
theorem v3F {l : List zD} {ws : List (List Str)} (h : QD l ws) : (MT ws).length ≤ 8192 → ∃ ys e, z5n (MT ws) = (ys ++ [e], 0, 0) ∧ e.K = 5 ∧ LW ys ws.flatten := by
  induction h with
  | nil => intro _; exact ⟨[], ⟨5, 0, [], 0, 0⟩, rfl, rfl, trivial⟩
  | @cons x w l ws hx _ ih =>
    intro hlen
    have e : MT (w :: ws) = J w ++ [10] ++ MT ws := by simp [MT]
    rw [e] at hlen ⊢
    simp only [List.length_append, List.length_cons, List.length_nil] at hlen
    obtain ⟨htw, hne⟩ := v6g hx
    have hj := v5J hne
    obtain ⟨ys, e1, a1, a2, a3⟩ := y8N htw (by omega)
    obtain ⟨zs, e2, b1, b2, b3⟩ := ih (by omega)
    obtain ⟨r, c1, c2⟩ := v0z (A := J w) (b := MT ws) (by omega) (by rw [a1]) (by rw [b1])
    rw [a1] at c1
    have c3 := List.append_inj_left' c1 rfl
    subst c3
    refine ⟨ys ++ zs.map (mvK (((J w).length + 1 : Nat) : Int)), mvK (((J w).length + 1 : Nat) : Int) e2, by rw [c2, b1]; simp, b2, ?_⟩
    rw [List.flatten_cons]
    exact a3.app (b3.mv _)
theorem v1Y {t : List zB} {n : Nat} (tk : Tk t n) (o : zD) (L : List zD) (T : Int) (h1 : L.length ≤ 64) (h2 : yR L + 1 ≤ 1000000) (h3 : hts L < 64) :
    vQ o t (n : Int) 0 36 0 [] L 0 T = some (⟨36, 0, [], L, 0, T⟩, 0, 0) := by
  rw [z5u]; unfold z1d
  have hs : jB ⟨36, 0, [], L, 0, T⟩ = 1 + yR L := z8P _
  have hh : ht ⟨36, 0, [], L, 0, T⟩ = 1 + hts L := v4P _
  rw [tk.idx (Nat.le_refl n), zA, if_pos tk.lst, if_neg (by omega), y9i (by rw [hs]; omega), zA, hh, if_neg (by omega)]
section
variable {u : List zB} {n : Nat} (tk : Tk u n) (T : Int)
include tk
theorem v4X {l : List zD} {ws : List (List Str)} (h : QD l ws) (o : zD) : ∀ (a : Nat) (L : List zD), At u a ws.flatten → a + ws.flatten.length = n → L.length ≤ a →
    ∃ l', uL l' = uL l ∧ vQ o u (a : Int) 0 36 0 [] L 0 T = vQ o u (n : Int) 0 36 0 [] (L ++ l') 0 T := by
  induction h with
  | nil => intro a L _ hn _; refine ⟨[], rfl, ?_⟩; rw [List.append_nil, show a = n by simpa using hn]
  | @cons x w l ws hx _ ih =>
    intro a L ha hn hL
    rw [List.flatten_cons] at ha hn
    rw [List.length_append] at hn
    obtain ⟨g1, g2⟩ := z0e ha
    obtain ⟨z, e1, e2, e3⟩ := v3i tk 36 0 [] L 0 T hx g1 (by omega)
    have hK : (zP u a).K ≠ 5 := by
      have hne := (v6g hx).2
      cases w with
      | nil => exact absurd rfl hne
      | cons v r =>
        rcases z8u (y8i g1.1.2) with ⟨h2, -, -⟩ | ⟨-, h2, -, -⟩
        · rw [h2]; decide
        · exact h2
    obtain ⟨l', q1, q2⟩ := ih (a + w.length) (L ++ [z]) g2 (by omega) (by simp; omega)
    refine ⟨z :: l', by simp [uL, e1, q1], ?_⟩
    rw [z5u]; unfold z1d
    rw [tk.idx (by omega), zA, if_neg hK, e3, zA]; dsimp only
    rw [if_pos rfl, if_pos (y8X tk hL (by omega) z), q2, List.append_assoc]
    rfl
end
theorem v3M {l : List zD} {ws : List (List Str)} (h : QD l ws) (hl : (MT ws).length ≤ 8192) (h1 : l.length ≤ 64) (h2 : yR l ≤ 900000) (h3 : hts l < 64) :
    ∃ l', uL l' = uL l ∧ z3Y (MT ws) = some (⟨36, 0, [], l', 0, ((MT ws).length : Int)⟩, 0, 0) := by
  obtain ⟨ys, e, a1, a2, a3⟩ := v3F h hl
  have tk := y9H (x := MT ws) (by rw [a1]) hl
  rw [a1] at tk
  have hlen := a3.len
  have e0 : (ys ++ [e]).length - 1 = ws.flatten.length := by simp [hlen]
  dsimp only at tk
  rw [e0] at tk
  have hat := v5L [] e a3
  rw [List.nil_append] at hat
  obtain ⟨l', q1, q2⟩ := v4X tk ((MT ws).length : Int) h (zD.mk 0 0 ([] : List UInt8) [] 0 0) 0 [] hat (by simp) (by simp)
  obtain ⟨k1, k2, k3⟩ := y6g q1
  refine ⟨l', q1, ?_⟩
  unfold z3Y
  rw [y8j _ (by omega), a1, zA, if_pos rfl]
  show vQ _ _ ((0 : Nat) : Int) 0 36 0 [] [] 0 _ = _
  rw [q2, List.nil_append]
  exact v1Y tk _ l' _ (by omega) (by omega) (by omega)
theorem y8c (x0 : Str) (w0 : x0.length ≤ 9223372036854775807) : z4Z x0 = some true := by
  unfold z4Z
  rw [y6G]
  by_cases h1 : (List.length x0 : Int) > 2000
  · rw [if_pos h1]; rfl
  rw [if_neg h1]
  obtain ⟨m, q, e, e1, e2⟩ := v5b x0 (by omega)
  rw [e1, zA]
  dsimp only
  by_cases h2 : e = 0
  · obtain ⟨l, ws, rfl, k2, k3, k4, k5⟩ := e2 h2
    have hh : ht ⟨36, 0, [], l, 0, (x0.length : Int)⟩ = 1 + hts l := v4P _
    have pt : ∀ {l' : List zD} (T : Int), QD l' ws → yR l' ≤ 801000 → z6X ⟨36, 0, [], l', 0, T⟩ = some (MT ws) := fun {l'} T k2 k4 => by
      unfold z6X
      have := v5u k2 [] (by simp only [List.length_nil]; omega)
      rw [List.nil_append] at this; exact this
    rw [if_pos h2, pt _ k2 k4, zA]
    by_cases h3 : (List.length (MT ws) : Int) > 8192
    · rw [if_pos h3]; rfl
    obtain ⟨l', b1, b2⟩ := v3M k2 (by omega) k5 (by omega) (by omega)
    obtain ⟨c1, c2, c3⟩ := y6g b1
    have hs : jB ⟨36, 0, [], l', 0, ((MT ws).length : Int)⟩ = 1 + yR l' := z8P _
    rw [if_neg h3, b2, zA]
    dsimp only
    rw [if_pos rfl, v2p 1000000 (by omega) _ ⟨36, 0, [], l, 0, (x0.length : Int)⟩ (by simp [z1m, b1]) (by rw [hs]; omega), zA, if_pos rfl, pt _ (v5k k2 l' b1) (by omega), zA, if_pos rfl]
    rfl
  · rw [if_neg h2]; rfl
end Go.Proofs.YthbhgdooeeapjaaGreat.M

