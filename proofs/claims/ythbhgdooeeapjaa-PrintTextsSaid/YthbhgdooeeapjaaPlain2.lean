import Derived.Test.YthbhgdooeeapjaaPlain1
namespace Go.Proofs.Ythbhgdooeeapjaa.M
open Go Nt
set_option linter.unusedVariables false
set_option linter.unusedSimpArgs false
set_option linter.unusedSectionVars false
abbrev iW (s : Str) : zJ := ⟨[119, 111, 114, 100], s⟩
abbrev iS (s : Str) : zJ := ⟨[115, 105, 103, 110], s⟩
abbrev iN : zJ := ⟨[110, 97, 109, 101], []⟩
abbrev iX : zJ := ⟨[101, 120, 112, 114], []⟩
abbrev iT : zJ := ⟨[116, 121, 112, 101], []⟩
abbrev iK : zJ := ⟨[98, 108, 111, 99, 107], []⟩
abbrev iL : zJ := ⟨[101, 108, 115, 101], []⟩
def v0Z : List It → List zJ
  | [] => []
  | .word s :: r => iW s :: v0Z r
  | .sign s :: r => iS s :: v0Z r
  | .name :: r => iN :: v0Z r
  | .expr :: r => iX :: v0Z r
  | .type :: r => iT :: v0Z r
  | .block :: r => iK :: v0Z r
  | .be :: r => iK :: iL :: v0Z r
theorem v1O (t : List zC) (hl : t.length ≤ 1048576) (a : Nat) (ha : a ≤ t.length) : z6E t a = some ((z3v t a).1, v0Z (z3v t a).2) := by
  unfold z6E z3v
  rw [wD, zA]
  by_cases h1 : vW t a z8p = true
  · have := uR h1
    rw [if_pos h1, if_pos h1, uZ (t := t) (by omega) (by omega), jO, zA]
    by_cases h2 : (zK t (a + 1)).K = 1
    · rw [if_pos h2, z8Z (t := t) (by omega) (by omega), zO, zA]
      by_cases h3 : yB t (a + 2) [58] = true
      · rw [if_pos h3, if_pos ⟨h2, h3⟩]; rfl
      · rw [if_neg h3, if_neg (fun h => h3 h.2)]; rfl
    · rw [if_neg h2, if_neg (fun h => h2 h.1)]; rfl
  rw [if_neg h1, if_neg h1, wD, zA]
  by_cases h2 : vW t a wIf = true
  · rw [if_pos h2, if_pos h2]; rfl
  rw [if_neg h2, if_neg h2, wD, zA]
  by_cases h2 : vW t a z0N = true
  · rw [if_pos h2, if_pos h2]; rfl
  rw [if_neg h2, if_neg h2, wD, zA]
  by_cases h2 : vW t a z9D = true
  · rw [if_pos h2, if_pos h2]; rfl
  rw [if_neg h2, if_neg h2, wD, zA]
  by_cases h2 : vW t a z0M = true
  · rw [if_pos h2, if_pos h2]; rfl
  rw [if_neg h2, if_neg h2, wD, zA]
  by_cases h2 : vW t a jY = true
  · rw [if_pos h2, if_pos h2]; rfl
  rw [if_neg h2, if_neg h2, wD, zA]
  by_cases h2 : vW t a wDo = true
  · rw [if_pos h2, if_pos h2]; rfl
  rw [if_neg h2, if_neg h2]; rfl
def RS (t : List zC) : y9i → Nat → Res → Prop
  | .stmt, a, r => jB t a = some (got r)
  | .blk, a, r => yG t a = some (got r)
  | .sl f acc, a, r => f < a → acc.length < a → ∀ o, vL t f acc a o = some (got r)
  | .form k f its parts name, a, r => f ≤ a → ∀ (form : List zJ) (i : Nat) (o : zG), form.drop i = v0Z its → form.length ≤ 100 → parts.length ≤ i → zM t f k form parts name a i o = some (got r)
theorem y7Z {t : List zC} (hl : t.length ≤ 1048576) {a : Nat} (ha : a ≤ t.length) {r : Res} (h : Der t (.lev 1) a r) : yJ t a = some (got r) := z7u (y8S (by omega) h ha)
theorem y3b (t : List zC) (a : Nat) {g : zG} (h : yJ t a = some g) : uS t a [101, 120, 112, 114] = some g := by
  rw [z6F]; unfold z1s
  rw [if_pos rfl, h]; rfl
theorem y3c (t : List zC) (a : Nat) {g : zG} (h : wV t a = some g) : uS t a [116, 121, 112, 101] = some g := by
  rw [z6F]; unfold z1s
  rw [if_neg (by decide), if_pos rfl, h]; rfl
theorem z3k (t : List zC) (a : Nat) (s : Str) (h1 : s ≠ [101, 120, 112, 114]) (h2 : s ≠ [116, 121, 112, 101]) {g : zG} (h : yG t a = some g) : uS t a s = some g := by
  rw [z6F]; unfold z1s
  rw [if_neg h1, if_neg h2, h]; rfl
theorem jG {α : Type} {l : List α} {i : Nat} {x : α} {r : List α} (h : l.drop i = x :: r) : i < l.length ∧ l[i]? = some x ∧ l.drop (i + 1) = r := by
  have h1 : i < l.length := by
    rcases Nat.lt_or_ge i l.length with h1 | h1
    · exact h1
    · rw [List.drop_eq_nil_of_le h1] at h; cases h
  rw [List.drop_eq_getElem_cons h1] at h
  injection h with h2 h3
  exact ⟨h1, by rw [List.getElem?_eq_getElem h1, h2], h3⟩
theorem z8H {α : Type} {l : List α} {i : Nat} {x : α} (h : l[i]? = some x) : idx l (i : Int) = some x := by rw [y9K]; exact h
theorem y8d (t : List zC) (hl : t.length ≤ 1048576) (f : Nat) (k : Int) (form : List zJ) (parts : List zF) (name : Str) (a i : Nat) (ha : a ≤ t.length) (o : zG) (s : Str) (hi : form[i]? = some (iW s)) (hf : form.length ≤ 100) :
    zM t f k form parts name a i o = if vW t a s = true then zM t f k form parts name ((a + 1 : Nat) : Int) ((i + 1 : Nat) : Int) o else some ⟨zT7, a, 6⟩ := by
  have h1 : i < form.length := (List.getElem?_eq_some_iff.1 hi).1
  rw [z0I]; unfold uT
  rw [if_pos (by omega), z8H hi, zA, if_pos rfl, zA, wD, zA]
  by_cases h : vW t a s = true
  · rw [if_pos h, if_pos h, uZ (t := t) (by omega) (by omega), uU (by omega) (by omega), wB]
  · rw [if_neg h, if_neg h]; rfl
theorem y8c (t : List zC) (hl : t.length ≤ 1048576) (f : Nat) (k : Int) (form : List zJ) (parts : List zF) (name : Str) (a i : Nat) (ha : a ≤ t.length) (o : zG) (s : Str) (hi : form[i]? = some (iS s)) (hf : form.length ≤ 100) :
    zM t f k form parts name a i o = if yB t a s = true then zM t f k form parts name ((a + 1 : Nat) : Int) ((i + 1 : Nat) : Int) o else some ⟨zT7, a, 6⟩ := by
  have h1 : i < form.length := (List.getElem?_eq_some_iff.1 hi).1
  rw [z0I]; unfold uT
  rw [if_pos (by omega), z8H hi, zA, if_neg (show ¬ ([115, 105, 103, 110] : Str) = [119, 111, 114, 100] by decide), if_pos rfl, zA, zO, zA]
  by_cases h : yB t a s = true
  · rw [if_pos h, if_pos h, uZ (t := t) (by omega) (by omega), uU (by omega) (by omega), wB]
  · rw [if_neg h, if_neg h]; rfl
theorem y8b (t : List zC) (hl : t.length ≤ 1048576) (f : Nat) (k : Int) (form : List zJ) (parts : List zF) (name : Str) (a i : Nat) (ha : a ≤ t.length) (o : zG) (hi : form[i]? = some iN) (hf : form.length ≤ 100) :
    zM t f k form parts name a i o = if (zK t a).K = 1 then zM t f k form parts (zK t a).S ((a + 1 : Nat) : Int) ((i + 1 : Nat) : Int) o else some ⟨zT7, a, 6⟩ := by
  have h1 : i < form.length := (List.getElem?_eq_some_iff.1 hi).1
  rw [z0I]; unfold uT
  rw [if_pos (by omega), z8H hi, zA, if_neg (by decide), if_neg (by decide), if_pos rfl, jO, zA]
  by_cases h : (zK t a).K = 1
  · have hlt := uJ (t := t) (a := a) (by rw [h]; decide)
    have e : zK t a = t[a] := by unfold zK; rw [List.getElem?_eq_getElem hlt]; rfl
    rw [if_pos h, if_pos h, gF hlt, zA, uZ (t := t) (by omega) (by omega), uU (by omega) (by omega), wB, e]
  · rw [if_neg h, if_neg h]; rfl
theorem z3d (t : List zC) (hl : t.length ≤ 1048576) (f : Nat) (k : Int) (form : List zJ) (parts : List zF) (name : Str) (a i : Nat) (ha : a ≤ t.length) (o : zG) (x : zJ) (hi : form[i]? = some x) (hf : form.length ≤ 100) (hp : parts.length ≤ 200)
    (n1 : x.What ≠ [119, 111, 114, 100]) (n2 : x.What ≠ [115, 105, 103, 110]) (n3 : x.What ≠ [110, 97, 109, 101]) (n4 : x.What ≠ [101, 108, 115, 101]) {g : zG} (hg : uS t a x.What = some g) :
    zM t f k form parts name a i o = if g.E = 0 then zM t f k form (parts ++ [g.T_]) name g.At ((i + 1 : Nat) : Int) o else some g := by
  have h1 : i < form.length := (List.getElem?_eq_some_iff.1 hi).1
  rw [z0I]; unfold uT
  rw [if_pos (by omega), z8H hi, zA, if_neg n1, if_neg n2, if_neg n3, if_neg n4, hg, zA]
  by_cases h : g.E = 0
  · rw [if_pos h, if_pos h, if_pos (y3a (by simp; omega)), uU (by omega) (by omega), wB]
  · rw [if_neg h, if_neg h]
theorem y4o (t : List zC) (hl : t.length ≤ 1048576) (f : Nat) (k : Int) (form : List zJ) (parts : List zF) (name : Str) (a i : Nat) (ha : a ≤ t.length) (ha0 : 0 < a) (o : zG) (hi : form[i]? = some iL) (hf : form.length ≤ 100) (hp : parts.length ≤ 200) :
    zM t f k form parts name a i o = if vW t a z2B = true then
      (uS t ((a + 1 : Nat) : Int) z2B >>= fun g => if g.E = 0 then zM t f k form (parts ++ [g.T_]) name g.At ((i + 1 : Nat) : Int) o else some g)
      else zM t f k form (parts ++ [y3O (zK t (a - 1)).To]) name a ((i + 1 : Nat) : Int) o := by
  have h1 : i < form.length := (List.getElem?_eq_some_iff.1 hi).1
  rw [z0I]; unfold uT
  rw [if_pos (by omega), z8H hi, zA, if_neg (by decide), if_neg (by decide), if_neg (by decide), if_pos rfl, wD, zA]
  by_cases h : vW t a z2B = true
  · rw [if_pos h, if_pos h, uZ (t := t) (by omega) (by omega)]
    congr 1
    funext g
    by_cases hg : g.E = 0
    · rw [if_pos hg, if_pos hg, if_pos (y3a (by simp; omega)), uU (by omega) (by omega), wB]
    · rw [if_neg hg, if_neg hg]
  · have e : zK t (a - 1) = t[a - 1] := by unfold zK; rw [List.getElem?_eq_getElem (show a - 1 < t.length by omega)]; rfl
    rw [if_neg h, if_neg h, uU (n := (a : Int) - 1) (by omega) (by omega), show (a : Int) - 1 = ((a - 1 : Nat) : Int) by omega, gF (show a - 1 < t.length by omega), zA, if_pos (y3a (by simp; omega)), uU (by omega) (by omega), wB, e]
theorem y8e (t : List zC) (hl : t.length ≤ 1048576) (a : Nat) (ha : a ≤ t.length) : wV t a = some ⟨(z4D t a).1, ((z4D t a).2.1 : Int), (z4D t a).2.2⟩ := y8f t hl (t.length + 1) a (by omega) (by omega)
theorem v1X : ∀ (n : Nat) (t : List zC) (a : Nat), (typ n t a).2.2 ≠ 0 → (typ n t a).1 = zT7 := by
  intro n t a h
  cases n with
  | zero => rfl
  | succ n =>
    rw [typ] at h ⊢
    revert h
    repeat' split
    all_goals (intro h; first | rfl | exact absurd rfl h)
theorem y7k {t : List zC} (hl : t.length ≤ 1048576) {c : y9i} {a : Nat} {r : Res} (h : SDer t c a r) : a ≤ t.length → RS t c a r := by
  induction h with
  | @sB a r h1 hd ih =>
    intro ha
    have e : yG t a = some (got r) := ih ha
    show jB t a = _
    rw [z9W]; unfold z2c
    rw [zO, zA, if_pos h1, e]; rfl
  | @sF a r h1 hd ih =>
    intro ha
    show jB t a = _
    rw [z9W]; unfold z2c
    rw [zO, zA, h1, if_neg (by simp), v1O t hl a ha, zA]
    refine ih ha (Nat.le_refl _) (v0Z (z3v t a).2) 0 _ rfl ?_ (by simp)
    unfold z3v
    repeat' split
    all_goals decide
  | @b0 a h1 =>
    intro ha
    show yG t a = _
    rw [z8T]; unfold z1r
    rw [zO, zA, h1]; rfl
  | @b1 a r h1 hd ih =>
    intro ha
    have h0 := zS h1
    show yG t a = _
    rw [z8T]; unfold z1r
    rw [zO, zA, if_pos h1, uZ (t := t) (by omega) (by omega)]
    exact ih (by omega) (by omega) (by simp) _
  | @lE f a acc h1 =>
    intro ha hf hacc o
    have h0 := zS h1
    rw [z3r]; unfold gC
    rw [zO, zA, if_pos h1, uZ (t := t) (by omega) (by omega), jQ t (by omega) f (a + 1) (by omega) (by omega)]; rfl
  | @lG f a b acc x r h1 hd _ ih1 ih2 =>
    intro ha hf hacc o
    have q := hd.inS ha; simp only [InS] at q
    have e : jB t a = some ⟨x, (b : Int), 0⟩ := ih1 ha
    rw [z3r]; unfold gC
    rw [zO, zA, h1, if_neg (by simp), e, zA, if_pos rfl, if_pos (y3a (by simp; omega))]
    exact ih2 q.2 (by omega) (by simp; omega) o
  | @lB f a b acc h1 hd ih1 =>
    intro ha hf hacc o
    have e : jB t a = some ⟨zT7, (b : Int), 6⟩ := ih1 ha
    rw [z3r]; unfold gC
    rw [zO, zA, h1, if_neg (by simp), e, zA]; rfl
  | @fE f a k parts name h1 =>
    intro ha hf form i o hd hl2 hp
    rw [z0I]; unfold uT
    have : form.length ≤ i := by
      rcases Nat.lt_or_ge i form.length with h | h
      · rw [List.drop_eq_getElem_cons h] at hd; cases hd
      · exact h
    rw [if_neg (by omega), jQ t (by omega) f a h1 ha]; rfl
  | @fW f a k s its parts name r h1 _ ih =>
    intro ha hf form i o hd hl2 hp
    have h0 := uR h1
    obtain ⟨g1, g2, g3⟩ := jG hd
    rw [y8d t hl f k form parts name a i ha o s g2 hl2, if_pos h1]
    exact ih (by omega) (by omega) form (i + 1) o g3 hl2 (by omega)
  | @fW0 f a k s its parts name h1 =>
    intro ha hf form i o hd hl2 hp
    obtain ⟨g1, g2, g3⟩ := jG hd
    rw [y8d t hl f k form parts name a i ha o s g2 hl2, h1]; rfl
  | @fS f a k s its parts name r h1 _ ih =>
    intro ha hf form i o hd hl2 hp
    have h0 := zS h1
    obtain ⟨g1, g2, g3⟩ := jG hd
    rw [y8c t hl f k form parts name a i ha o s g2 hl2, if_pos h1]
    exact ih (by omega) (by omega) form (i + 1) o g3 hl2 (by omega)
  | @fS0 f a k s its parts name h1 =>
    intro ha hf form i o hd hl2 hp
    obtain ⟨g1, g2, g3⟩ := jG hd
    rw [y8c t hl f k form parts name a i ha o s g2 hl2, h1]; rfl
  | @fN f a k its parts name r h1 _ ih =>
    intro ha hf form i o hd hl2 hp
    have h0 := uJ (t := t) (a := a) (by rw [h1]; decide)
    obtain ⟨g1, g2, g3⟩ := jG hd
    rw [y8b t hl f k form parts name a i ha o g2 hl2, if_pos h1]
    exact ih (by omega) (by omega) form (i + 1) o g3 hl2 (by omega)
  | @fN0 f a k its parts name h1 =>
    intro ha hf form i o hd hl2 hp
    obtain ⟨g1, g2, g3⟩ := jG hd
    rw [y8b t hl f k form parts name a i ha o g2 hl2, if_neg h1]; rfl
  | @fX f a b k its parts name x r hd1 _ ih =>
    intro ha hf form i o hd hl2 hp
    have q := hd1.inR ha; simp only [InR] at q
    obtain ⟨g1, g2, g3⟩ := jG hd
    rw [z3d t hl f k form parts name a i ha o _ g2 hl2 (by omega) (by decide) (by decide) (by decide) (by decide) (y3b t a (y7Z hl ha hd1))]
    show (if (0 : Int) = 0 then _ else _) = _
    rw [if_pos rfl]
    exact ih q.2 (by omega) form (i + 1) o g3 hl2 (by simp; omega)
  | @fX0 f a b k its parts name hd1 =>
    intro ha hf form i o hd hl2 hp
    obtain ⟨g1, g2, g3⟩ := jG hd
    rw [z3d t hl f k form parts name a i ha o _ g2 hl2 (by omega) (by decide) (by decide) (by decide) (by decide) (y3b t a (y7Z hl ha hd1))]
    rfl
  | @fT f a k its parts name r h1 _ ih =>
    intro ha hf form i o hd hl2 hp
    have q : a < (z4D t a).2.1 ∧ (z4D t a).2.1 ≤ t.length := y0c (t.length + 1) t a (by omega) h1
    obtain ⟨g1, g2, g3⟩ := jG hd
    rw [z3d t hl f k form parts name a i ha o _ g2 hl2 (by omega) (by decide) (by decide) (by decide) (by decide) (y3c t a (y8e t hl a ha))]
    dsimp only
    rw [if_pos h1]
    exact ih q.2 (by omega) form (i + 1) o g3 hl2 (by simp; omega)
  | @fT0 f a k its parts name h1 =>
    intro ha hf form i o hd hl2 hp
    obtain ⟨g1, g2, g3⟩ := jG hd
    rw [z3d t hl f k form parts name a i ha o _ g2 hl2 (by omega) (by decide) (by decide) (by decide) (by decide) (y3c t a (y8e t hl a ha))]
    dsimp only
    have h6 := (v0R (t.length + 1) t a).resolve_left h1
    rw [if_neg h1, v1X _ t a h1]
    show some (zG.mk zT7 _ (typ (t.length + 1) t a).2.2) = _
    rw [h6]; rfl
  | @fK f a b k its parts name x r hd1 _ ih1 ih2 =>
    intro ha hf form i o hd hl2 hp
    have q := hd1.inS ha; simp only [InS] at q
    have e : yG t a = some ⟨x, (b : Int), 0⟩ := ih1 ha
    obtain ⟨g1, g2, g3⟩ := jG hd
    rw [z3d t hl f k form parts name a i ha o _ g2 hl2 (by omega) (by decide) (by decide) (by decide) (by decide) (z3k t a _ (by decide) (by decide) e), if_pos rfl]
    exact ih2 q.2 (by omega) form (i + 1) o g3 hl2 (by simp; omega)
  | @fK0 f a b k its parts name hd1 ih1 =>
    intro ha hf form i o hd hl2 hp
    have e : yG t a = some ⟨zT7, (b : Int), 6⟩ := ih1 ha
    obtain ⟨g1, g2, g3⟩ := jG hd
    rw [z3d t hl f k form parts name a i ha o _ g2 hl2 (by omega) (by decide) (by decide) (by decide) (by decide) (z3k t a _ (by decide) (by decide) e)]
    rfl
  | @fE0 f a b k its parts name hd1 ih1 =>
    intro ha hf form i o hd hl2 hp
    have e : yG t a = some ⟨zT7, (b : Int), 6⟩ := ih1 ha
    obtain ⟨g1, g2, g3⟩ := jG hd
    rw [z3d t hl f k form parts name a i ha o _ g2 hl2 (by omega) (by decide) (by decide) (by decide) (by decide) (z3k t a _ (by decide) (by decide) e)]
    rfl
  | @fE1 f a b k its parts name x r hd1 hw _ ih1 ih2 =>
    intro ha hf form i o hd hl2 hp
    have q := hd1.inS ha; simp only [InS] at q
    have e : yG t a = some ⟨x, (b : Int), 0⟩ := ih1 ha
    obtain ⟨g1, g2, g3⟩ := jG hd
    obtain ⟨k1, k2, k3⟩ := jG g3
    rw [z3d t hl f k form parts name a i ha o _ g2 hl2 (by omega) (by decide) (by decide) (by decide) (by decide) (z3k t a _ (by decide) (by decide) e), if_pos rfl]
    show zM t f k form (parts ++ [x]) name b ((i + 1 : Nat) : Int) o = _
    rw [y4o t hl f k form _ name b (i + 1) q.2 (by omega) o k2 hl2 (by simp; omega), hw, if_neg (by simp)]
    exact ih2 q.2 (by omega) form (i + 1 + 1) o k3 hl2 (by simp; omega)
  | @fE2 f a b c k its parts name x y r hd1 hw hd2 _ ih1 ih2 ih3 =>
    intro ha hf form i o hd hl2 hp
    have hb := uR hw
    have q := hd1.inS ha; simp only [InS] at q
    have q2 := hd2.inS (by omega); simp only [InS] at q2
    have e : yG t a = some ⟨x, (b : Int), 0⟩ := ih1 ha
    have e2 : yG t ((b + 1 : Nat) : Int) = some ⟨y, (c : Int), 0⟩ := ih2 (by omega)
    obtain ⟨g1, g2, g3⟩ := jG hd
    obtain ⟨k1, k2, k3⟩ := jG g3
    rw [z3d t hl f k form parts name a i ha o _ g2 hl2 (by omega) (by decide) (by decide) (by decide) (by decide) (z3k t a _ (by decide) (by decide) e), if_pos rfl]
    show zM t f k form (parts ++ [x]) name b ((i + 1 : Nat) : Int) o = _
    rw [y4o t hl f k form _ name b (i + 1) q.2 (by omega) o k2 hl2 (by simp; omega), if_pos hw, z3k t (b + 1) _ (by decide) (by decide) e2, zA, if_pos rfl]
    exact ih3 q2.2 (by omega) form (i + 1 + 1) o k3 hl2 (by simp; omega)
  | @fE3 f a b c k its parts name x hd1 hw hd2 ih1 ih2 =>
    intro ha hf form i o hd hl2 hp
    have hb := uR hw
    have q := hd1.inS ha; simp only [InS] at q
    have e : yG t a = some ⟨x, (b : Int), 0⟩ := ih1 ha
    have e2 : yG t ((b + 1 : Nat) : Int) = some ⟨zT7, (c : Int), 6⟩ := ih2 (by omega)
    obtain ⟨g1, g2, g3⟩ := jG hd
    obtain ⟨k1, k2, k3⟩ := jG g3
    rw [z3d t hl f k form parts name a i ha o _ g2 hl2 (by omega) (by decide) (by decide) (by decide) (by decide) (z3k t a _ (by decide) (by decide) e), if_pos rfl]
    show zM t f k form (parts ++ [x]) name b ((i + 1 : Nat) : Int) o = _
    rw [y4o t hl f k form _ name b (i + 1) q.2 (by omega) o k2 hl2 (by simp; omega), if_pos hw, z3k t (b + 1) _ (by decide) (by decide) e2, zA]
    rfl
inductive PN : zF → List Str → Prop
  | mk {s : Str} {x : zF} {w : List Str} {F T : Int} : Nm s → PT x w → PN ⟨34, 0, s, [x], F, T⟩ ([s, [58]] ++ w)
inductive PNs : List zF → List Str → Prop
  | one {x : zF} {w : List Str} : PN x w → PNs [x] w
  | cons {x : zF} {l : List zF} {w wl : List Str} : PN x w → PNs l wl → PNs (x :: l) (w ++ [[44]] ++ wl)
inductive PFs : List zF → List Str → Prop
  | nil : PFs [] []
  | cons {x : zF} {l : List zF} {w wl : List Str} : PN x w → PFs l wl → PFs (x :: l) (w ++ [[59]] ++ wl)
inductive PL : zF → List Str → Prop
  | num {n : Nat} {F T : Int} : n ≤ 9223372036854775807 → Tok 2 n [] (z9i n) → PL ⟨5, (n : Int), [], [], F, T⟩ [z9i n]
  | tru {F T : Int} : PL ⟨6, 1, [], [], F, T⟩ [[116, 114, 117, 101]]
  | fal {F T : Int} : PL ⟨6, 0, [], [], F, T⟩ [[102, 97, 108, 115, 101]]
theorem PL.pr {x : zF} {w : List Str} (h : PL x w) : PR (.ex x) w := by
  cases h with
  | num h1 h2 => exact .num h1 h2
  | tru => exact .tru
  | fal => exact .fal
inductive PD : zF → List Str → Prop
  | rcd {s : Str} {l : List zF} {w : List Str} {F T : Int} : Nm s → l ≠ [] → PFs l w → PD ⟨30, 0, s, l, F, T⟩ ([[114, 101, 99], s, [123]] ++ w ++ [[125]])
  | const {s : Str} {x : zF} {w : List Str} {F T : Int} : Nm s → PL x w → PD ⟨31, 0, s, [x], F, T⟩ ([[99, 111, 110, 115, 116], s, [61]] ++ w ++ [[59]])
  | var {s : Str} {x : zF} {w : List Str} {F T : Int} : Nm s → PT x w → PD ⟨32, 0, s, [x], F, T⟩ ([[118, 97, 114], s, [58]] ++ w ++ [[59]])
  | fn0 {n : Int} {s : Str} {x y : zF} {wx wy : List Str} {F T F' T' : Int} : n = 0 ∨ n = 1 → Nm s → PT x wx → PS (.bl y) wy → PD ⟨33, n, s, [⟨35, 0, [], [], F', T'⟩, x, y], F, T⟩ ((if n = 1 then [[112, 117, 98]] else []) ++ [[102, 110], s, [40]] ++ [] ++ [[41], [58]] ++ wx ++ wy)
  | fn {n : Int} {s : Str} {l : List zF} {x y : zF} {wl wx wy : List Str} {F T F' T' : Int} : n = 0 ∨ n = 1 → Nm s → PNs l wl → PT x wx → PS (.bl y) wy → PD ⟨33, n, s, [⟨35, 0, [], l, F', T'⟩, x, y], F, T⟩ ((if n = 1 then [[112, 117, 98]] else []) ++ [[102, 110], s, [40]] ++ wl ++ [[41], [58]] ++ wx ++ wy)
inductive PDs : List zF → List (List Str) → Prop
  | nil : PDs [] []
  | snoc {l : List zF} {x : zF} {ws : List (List Str)} {w : List Str} : PDs l ws → PD x w → PDs (l ++ [x]) (ws ++ [w])
def RO (n a : Nat) (p : Option zG) (P : zF → Prop) : Prop :=
  ∃ g, p = some g ∧ ((g.E = 0 ∧ ∃ b : Nat, g.At = (b : Int) ∧ a < b ∧ b ≤ n ∧ P g.T_ ∧ wW g.T_ + 400 * a ≤ 400 * b) ∨ (g.E ≠ 0 ∧ ∃ b : Nat, g.At = (b : Int) ∧ b ≤ n))
section
variable {t : List zC} {n : Nat} (tf : TF t) (hm : Mon t) (hn : n + 1 = t.length) (ln : Lst t n) (hl : t.length ≤ 1048576)
include tf hm hn ln hl
theorem z4i {a b : Nat} {P : zF → Prop} (hb : b ≤ n) : RO n a (some ⟨zT7, (b : Int), 6⟩) P := ⟨_, rfl, .inr ⟨show (6 : Int) ≠ 0 by decide, b, rfl, hb⟩⟩
theorem w1 {a k : Nat} (ha : a ≤ n) (hk : k ≤ 10) : IntKind.wrap .i64 ((a : Int) + (k : Int)) = ((a + k : Nat) : Int) := by rw [uU (by omega) (by omega)]; omega
theorem v1E {a : Nat} (h : (zK t a).K = 1) : a < n ∧ Nm (zK t a).S ∧ idx t (a : Int) = some (zK t a) := by
  have h1 := z1A ln (a := a) (by rw [h]; decide)
  refine ⟨h1, (z9r tf hm h).2.1, ?_⟩
  rw [gF (show a < t.length by omega)]; unfold zK; rw [List.getElem?_eq_getElem (show a < t.length by omega)]; rfl
theorem y4p {a : Nat} (ha : a ≤ n) : RO n a (wV t (a : Int)) (fun x => ∃ w, PT x w) := by
  rw [y8f t hl (t.length + 1) a (by omega) (by omega)]
  by_cases h : (typ (t.length + 1) t a).2.2 = 0
  · have q := y7t ln (t.length + 1) a (by omega) h
    obtain ⟨w, hw⟩ := v0S tf hm (t.length + 1) a (by omega) h
    have g := (v0Q hm (t.length + 1) a (by omega) h).2
    exact ⟨_, rfl, .inl ⟨h, _, rfl, q.1, q.2, ⟨w, hw⟩, by show wW (typ (t.length + 1) t a).1 + 400 * a ≤ 400 * (typ (t.length + 1) t a).2.1; omega⟩⟩
  · have q := z9B ln (t.length + 1) a (by omega) ha h
    exact ⟨_, rfl, .inr ⟨h, _, rfl, q.2⟩⟩
theorem v0o {a : Nat} (ha : a ≤ n) : RO n a (yG t (a : Int)) (fun x => ∃ w, PS (.bl x) w) := by
  obtain ⟨r, hr⟩ := (v1S t (t.length - a) a (by omega)).2
  have e : yG t (a : Int) = some (got r) := y7k hl hr (by omega)
  have q := hr.inSn ln (show n < t.length by omega) ha
  rw [e]
  cases r with
  | ok x b =>
    simp only [y0i] at q
    obtain ⟨w, hw⟩ := y8Q tf hm hr (by omega) x b rfl
    have g2 : wW x + 400 * a + 500 ≤ 400 * b := y8X hm hr (by omega) x b rfl
    exact ⟨_, rfl, .inl ⟨rfl, b, rfl, q.1, q.2, ⟨w, hw⟩, by show wW x + 400 * a ≤ 400 * b; omega⟩⟩
  | bad b =>
    simp only [y0i] at q
    exact ⟨_, rfl, .inr ⟨by show (6 : Int) ≠ 0; decide, b, rfl, q.2⟩⟩
theorem y8a {a : Nat} (ha : a ≤ n) : RO n a (z3j t (a : Int)) (fun x => ∃ w, PN x w) := by
  unfold z3j
  rw [jO, zA]
  by_cases h1 : (zK t a).K = 1
  · obtain ⟨g1, g2, g3⟩ := v1E tf hm hn ln hl h1
    have e1 : IntKind.wrap .i64 ((a : Int) + 1) = ((a + 1 : Nat) : Int) := w1 tf hm hn ln hl (k := 1) ha (by omega)
    have e2 : IntKind.wrap .i64 ((a : Int) + 2) = ((a + 2 : Nat) : Int) := w1 tf hm hn ln hl (k := 2) ha (by omega)
    rw [if_pos h1, e1, e2, zO, zA]
    by_cases h2 : yB t (a + 1) [58] = true
    · have h2n := wE ln h2
      rw [if_pos h2]
      obtain ⟨g, e, h | ⟨h, b, h3, h4⟩⟩ := y4p tf hm hn ln hl (a := a + 2) (by omega)
      · obtain ⟨h, b, h3, h4, h5, ⟨w, hw⟩, h6⟩ := h
        rw [e, zA, if_pos h, g3, zA, h3, jQ t (by omega) a b (by omega) (by omega)]
        exact ⟨_, rfl, .inl ⟨rfl, b, rfl, by omega, h5, ⟨_, .mk g2 hw⟩, by simp only [jL, wW, zV]; omega⟩⟩
      · rw [e, zA, if_neg h]; exact ⟨_, rfl, .inr ⟨h, b, h3, h4⟩⟩
    · rw [if_neg h2]; exact z4i tf hm hn ln hl (by omega)
  · rw [if_neg h1]; exact z4i tf hm hn ln hl ha
theorem y9B : ∀ (k b : Nat) (out : List zF), n < b + k → b ≤ n → out.length ≤ b → ∃ l to e, yP t (b : Int) out = some (l, to, e) ∧
    ((e = 0 ∧ ∃ (c : Nat) (l' : List zF) (w : List Str), to = (c : Int) ∧ b < c ∧ c ≤ n ∧ l = out ++ l' ∧ PFs l' w ∧ zV l' + 400 * b ≤ 400 * c ∧ l ≠ []) ∨ (e ≠ 0 ∧ ∃ c : Nat, to = (c : Int) ∧ c ≤ n)) := by
  intro k
  induction k with
  | zero => intro b out h1 h2; omega
  | succ k ih =>
    intro b out h1 h2 h3
    have step : ∃ l to e, (z3j t (b : Int) >>= fun q1 => if q1.E = 0 then zQ t q1.At [59] >>= fun q2 => if q2 = true then (if z0C 72 (List.length out + List.length [q1.T_]) then yP t (IntKind.wrap .i64 (q1.At + 1)) (out ++ [q1.T_]) else none) else some (out, q1.At, 6) else some (out, q1.At, q1.E)) = some (l, to, e) ∧
        ((e = 0 ∧ ∃ (c : Nat) (l' : List zF) (w : List Str), to = (c : Int) ∧ b < c ∧ c ≤ n ∧ l = out ++ l' ∧ PFs l' w ∧ zV l' + 400 * b ≤ 400 * c ∧ l ≠ []) ∨ (e ≠ 0 ∧ ∃ c : Nat, to = (c : Int) ∧ c ≤ n)) := by
      obtain ⟨g, e, h | ⟨h, c, h4, h5⟩⟩ := y8a tf hm hn ln hl (a := b) h2
      · obtain ⟨h, c, h4, h5, h6, ⟨w, hw⟩, h7⟩ := h
        rw [e, zA, if_pos h, h4, zO, zA]
        by_cases hs : yB t c [59] = true
        · have hsn := wE ln hs
          have e1 : IntKind.wrap .i64 ((c : Int) + 1) = ((c + 1 : Nat) : Int) := w1 tf hm hn ln hl (k := 1) h6 (by omega)
          rw [if_pos hs, if_pos (by unfold z0C; simp; omega), e1]
          obtain ⟨l, to, e', q1, q2⟩ := ih (c + 1) (out ++ [g.T_]) (by omega) (by omega) (by simp; omega)
          refine ⟨l, to, e', q1, ?_⟩
          rcases q2 with ⟨q2, c', l', w', q3, q4, q5, q6, q7, q8, q9⟩ | q2
          · exact .inl ⟨q2, c', g.T_ :: l', _, q3, by omega, q5, by rw [q6]; simp, .cons hw q7, by simp only [zV]; omega, q9⟩
          · exact .inr q2
        · rw [if_neg hs]; exact ⟨_, _, _, rfl, .inr ⟨by decide, c, rfl, h6⟩⟩
      · rw [e, zA, if_neg h]; exact ⟨_, _, _, rfl, .inr ⟨h, c, h4, h5⟩⟩
    rw [z9u]; unfold z0j
    by_cases h0 : (List.length out : Int) = 0
    · rw [if_pos h0]; exact step
    · rw [if_neg h0, zO, zA]
      by_cases hs : yB t b [125] = true
      · have hsn := wE ln hs
        have e1 : IntKind.wrap .i64 ((b : Int) + 1) = ((b + 1 : Nat) : Int) := w1 tf hm hn ln hl (k := 1) h2 (by omega)
        rw [if_pos hs, e1]
        exact ⟨out, _, 0, rfl, .inl ⟨rfl, b + 1, [], [], rfl, by omega, by omega, by simp, .nil, by simp only [zV]; omega, fun e => h0 (by rw [e]; rfl)⟩⟩
      · rw [if_neg hs]; exact step
theorem y7i : ∀ x : zF, wW x ≤ 1000000 → ∃ d : Nat, uK x = some (d : Int) ∧ d ≤ wW x := by
  intro x
  induction x using zF.ind with
  | h x ih =>
    intro hs
    have hlen := y9a x.L
    have hts := y4v x
    have loop : ∀ (k i most : Nat), i + k = x.L.length → most + 1 ≤ wW x → ∃ d : Nat, vB (most : Int) (i : Int) x = some (d : Int) ∧ d ≤ wW x := by
      intro k
      induction k with
      | zero =>
        intro i most hi hm
        rw [z5B]; unfold z0b
        rw [if_neg (by omega), uU (by omega) (by omega)]
        exact ⟨most + 1, rfl, hm⟩
      | succ k ihk =>
        intro i most hi hm
        have hlt : i < x.L.length := by omega
        have ht := y7s x.L i
        have hd := y7r hlt
        obtain ⟨d, e, h1⟩ := ih _ (List.getElem_mem hlt) (by omega)
        rw [z5B]; unfold z0b
        rw [if_pos (by omega), gF hlt, zA, e, zA, uU (by omega) (by omega), wB]
        by_cases hg : (d : Int) > (most : Int)
        · rw [if_pos hg]; exact ihk (i + 1) d (by omega) (by omega)
        · rw [if_neg hg]; exact ihk (i + 1) most (by omega) hm
    rw [y4j]; unfold z2k
    exact loop x.L.length 0 0 (by omega) (by omega)
end
section
variable {t : List zC} {n : Nat} (tf : TF t) (hm : Mon t) (hn : n + 1 = t.length) (ln : Lst t n) (hl : t.length ≤ 1048576)
include tf hm hn ln hl
def v4h (x : zF) : Prop := ∃ F T l, x = ⟨35, 0, [], l, F, T⟩ ∧ (l = [] ∨ ∃ w, PNs l w)
theorem y8P {f : Nat} (o : zG) : ∀ (k b : Nat) (out : List zF), n < b + k → b ≤ n → f < b → out.length ≤ b → zV out + 400 * f + 400 ≤ 400 * b → ∃ g, vA t (f : Int) out (b : Int) true o = some g ∧
    ((g.E = 0 ∧ ∃ (c : Nat) (l' : List zF) (w : List Str) (F T : Int), g.At = (c : Int) ∧ b < c ∧ c ≤ n ∧ g.T_ = ⟨35, 0, [], out ++ l', F, T⟩ ∧ PNs l' w ∧ wW g.T_ + 400 * f ≤ 400 * c) ∨ (g.E ≠ 0 ∧ ∃ c : Nat, g.At = (c : Int) ∧ c ≤ n)) := by
  intro k
  induction k with
  | zero => intro b out h1 h2; omega
  | succ k ih =>
    intro b out h1 h2 hf h3 hsz
    rw [z4L]; unfold gI
    rw [if_pos rfl]
    obtain ⟨g, e, h | ⟨h, c, h4, h5⟩⟩ := y8a tf hm hn ln hl (a := b) h2
    · obtain ⟨h, c, h4, h5, h6, ⟨w, hw⟩, h7⟩ := h
      rw [e, zA, if_pos h, if_pos (by unfold z0C; simp; omega), h4, zO, zA]
      by_cases hs : yB t c [44] = true
      · have hsn := wE ln hs
        have e1 : IntKind.wrap .i64 ((c : Int) + 1) = ((c + 1 : Nat) : Int) := w1 tf hm hn ln hl (k := 1) h6 (by omega)
        rw [if_pos hs, e1, hs]
        obtain ⟨g', q1, q2⟩ := ih (c + 1) (out ++ [g.T_]) (by omega) (by omega) (by omega) (by simp; omega) (by rw [z3K]; simp only [zV]; omega)
        refine ⟨g', q1, ?_⟩
        rcases q2 with ⟨q2, c', l', w', F, T, q3, q4, q5, q6, q7, q8⟩ | q2
        · exact .inl ⟨q2, c', g.T_ :: l', _, F, T, q3, by omega, q5, by rw [q6]; simp, .cons hw q7, q8⟩
        · exact .inr q2
      · have hsf : yB t c [44] = false := by simpa using hs
        rw [if_neg hs, hsf, z4L]; unfold gI
        rw [if_neg (by decide), zO, zA]
        by_cases hs2 : yB t c [41] = true
        · have hsn := wE ln hs2
          have e1 : IntKind.wrap .i64 ((c : Int) + 1) = ((c + 1 : Nat) : Int) := w1 tf hm hn ln hl (k := 1) h6 (by omega)
          rw [if_pos hs2, e1, jQ t (by omega) f (c + 1) (by omega) (by omega)]
          refine ⟨_, rfl, .inl ⟨rfl, c + 1, [g.T_], w, _, _, rfl, by omega, by omega, rfl, .one hw, ?_⟩⟩
          simp only [jL, wW]
          rw [z3K]; simp only [zV]; omega
        · rw [if_neg hs2]; exact ⟨_, rfl, .inr ⟨show (6 : Int) ≠ 0 by decide, c, rfl, h6⟩⟩
    · rw [e, zA, if_neg h]; exact ⟨_, rfl, .inr ⟨h, c, h4, h5⟩⟩
theorem v0j {a : Nat} (ha : a ≤ n) : RO n a (z4h t (a : Int)) v4h := by
  unfold z4h
  rw [zO, zA]
  by_cases h1 : yB t a [40] = true
  · have h1n := wE ln h1
    have e1 : IntKind.wrap .i64 ((a : Int) + 1) = ((a + 1 : Nat) : Int) := w1 tf hm hn ln hl (k := 1) ha (by omega)
    rw [if_pos h1, e1, zO, zA]
    by_cases h2 : yB t (a + 1) [41] = true
    · have h2n := wE ln h2
      have e2 : IntKind.wrap .i64 (((a + 1 : Nat) : Int) + 1) = ((a + 1 + 1 : Nat) : Int) := w1 tf hm hn ln hl (k := 1) (by omega) (by omega)
      rw [if_pos h2, e2, jQ t (by omega) a (a + 1 + 1) (by omega) (by omega)]
      exact ⟨_, rfl, .inl ⟨rfl, a + 1 + 1, rfl, by omega, by omega, ⟨_, _, _, rfl, .inl rfl⟩, by simp only [jL, wW, zV]; omega⟩⟩
    · rw [if_neg h2]
      obtain ⟨g, q1, q2⟩ := y8P tf hm hn ln hl (f := a) (zG.mk (zF.mk 0 0 [] [] 0 0) 0 0) (n + 1) (a + 1) [] (by omega) (by omega) (by omega) (by simp) (by simp only [zV]; omega)
      refine ⟨g, q1, ?_⟩
      rcases q2 with ⟨q2, c', l', w', F, T, q3, q4, q5, q6, q7, q8⟩ | q2
      · exact .inl ⟨q2, c', q3, by omega, q5, ⟨F, T, l', by rw [q6]; rfl, .inr ⟨w', q7⟩⟩, q8⟩
      · exact .inr q2
  · rw [if_neg h1]; exact z4i tf hm hn ln hl ha
theorem v3p {f a : Nat} {pub : Int} (hp : pub = 0 ∨ pub = 1) (hf : f ≤ a) (ha : a ≤ n) : RO n f (z9v t (f : Int) (a : Int) pub) (fun x => ∃ w, PD x w) := by
  unfold z9v
  rw [wD, zA]
  by_cases h1 : vW t a [102, 110] = true
  · have h1n := z1a ln h1
    have e1 : IntKind.wrap .i64 ((a : Int) + 1) = ((a + 1 : Nat) : Int) := w1 tf hm hn ln hl (k := 1) ha (by omega)
    have e2 : IntKind.wrap .i64 ((a : Int) + 2) = ((a + 2 : Nat) : Int) := w1 tf hm hn ln hl (k := 2) ha (by omega)
    rw [if_pos h1, e1, e2, jO, zA]
    by_cases h2 : (zK t (a + 1)).K = 1
    · obtain ⟨g1, g2, g3⟩ := v1E tf hm hn ln hl h2
      rw [if_pos h2]
      obtain ⟨g, e, h | ⟨h, c, h4, h5⟩⟩ := v0j tf hm hn ln hl (a := a + 2) (by omega)
      · obtain ⟨h, c, h4, h5, h6, ⟨F', T', l, hx, hls⟩, h7⟩ := h
        rw [e, zA, if_pos h, h4, zO, zA]
        by_cases hs : yB t c [58] = true
        · have hsn := wE ln hs
          have e3 : IntKind.wrap .i64 ((c : Int) + 1) = ((c + 1 : Nat) : Int) := w1 tf hm hn ln hl (k := 1) h6 (by omega)
          rw [if_pos hs, e3]
          obtain ⟨g', e', k | ⟨k, c', k4, k5⟩⟩ := y4p tf hm hn ln hl (a := c + 1) (by omega)
          · obtain ⟨k, c', k4, k5, k6, ⟨wt, hwt⟩, k7⟩ := k
            rw [e', zA, if_pos k, k4]
            obtain ⟨g'', e'', m | ⟨m, c'', m4, m5⟩⟩ := v0o tf hm hn ln hl (a := c') k6
            · obtain ⟨m, c'', m4, m5, m6, ⟨wb, hwb⟩, m7⟩ := m
              rw [e'', zA, if_pos m, g3, zA, m4, jQ t (by omega) f c'' (by omega) (by omega)]
              refine ⟨_, rfl, .inl ⟨rfl, c'', rfl, by omega, m6, ?_, by simp only [jL, wW, zV]; omega⟩⟩
              rw [hx]
              rcases hls with rfl | ⟨wl, hls⟩
              · exact ⟨_, .fn0 hp g2 hwt hwb⟩
              · exact ⟨_, .fn hp g2 hls hwt hwb⟩
            · rw [e'', zA, if_neg m]; exact ⟨_, rfl, .inr ⟨m, c'', m4, m5⟩⟩
          · rw [e', zA, if_neg k]; exact ⟨_, rfl, .inr ⟨k, c', k4, k5⟩⟩
        · rw [if_neg hs]; exact z4i tf hm hn ln hl (by omega)
      · rw [e, zA, if_neg h]; exact ⟨_, rfl, .inr ⟨h, c, h4, h5⟩⟩
    · rw [if_neg h2]; exact z4i tf hm hn ln hl (by omega)
  · rw [if_neg h1]; exact z4i tf hm hn ln hl ha
theorem y8h {a : Nat} (h : vW t a [99, 111, 110, 115, 116] = true ∨ vW t a [118, 97, 114] = true) : RO n a (z3J t (a : Int)) (fun x => ∃ w, PD x w) := by
  have ha : a < n := by rcases h with h | h <;> exact z1a ln h
  unfold z3J
  have e1 : IntKind.wrap .i64 ((a : Int) + 1) = ((a + 1 : Nat) : Int) := w1 tf hm hn ln hl (k := 1) (by omega) (by omega)
  have e2 : IntKind.wrap .i64 ((a : Int) + 2) = ((a + 2 : Nat) : Int) := w1 tf hm hn ln hl (k := 2) (by omega) (by omega)
  have e3 : IntKind.wrap .i64 ((a : Int) + 3) = ((a + 3 : Nat) : Int) := w1 tf hm hn ln hl (k := 3) (by omega) (by omega)
  rw [e1, e2, e3, jO, zA]
  by_cases h2 : (zK t (a + 1)).K = 1
  · obtain ⟨g1, g2, g3⟩ := v1E tf hm hn ln hl h2
    rw [if_pos h2, wD, zA]
    by_cases hc : vW t a [99, 111, 110, 115, 116] = true
    · rw [if_pos hc, zO, zA]
      by_cases hs : yB t (a + 2) [61] = true
      · have hsn := wE ln hs
        rw [if_pos hs, if_neg (show ¬ (31 : Int) = 32 by decide), jO, zA]
        have tail : ∀ {k m : Int} {s : Str}, z0g t (a + 3) = .one k m s → (∀ F T, ∃ w, PL ⟨k, m, s, [], F, T⟩ w) → a + 3 < n →
            RO n a (yM t ((a + 3 : Nat) : Int) >>= fun q11 =>
              if q11.E = 0 then
                zQ t q11.At ([59] : List UInt8) >>= fun q12 =>
                if q12 = true then
                  idx t ((a + 1 : Nat) : Int) >>= fun x1 =>
                  zR t a (IntKind.wrap .i64 (q11.At + 1)) 31 0 x1.S [q11.T_] >>= fun q14 =>
                  some (q14)
                else
                vO q11.At >>= fun q13 =>
                some (q13)
              else
              some (q11)) (fun x => ∃ w, PD x w) := fun {k m s} hk hp ht => by
          rw [y5R t (by omega) (a + 3) hk, zA, if_pos rfl, zO, zA]
          by_cases h4 : yB t (a + 3 + 1) [59] = true
          · have h4n := wE ln h4
            have e5 : IntKind.wrap .i64 (((a + 3 + 1 : Nat) : Int) + 1) = ((a + 3 + 1 + 1 : Nat) : Int) := w1 tf hm hn ln hl (k := 1) (by omega) (by omega)
            rw [if_pos h4, g3, zA, e5, jQ t (by omega) a (a + 3 + 1 + 1) (by omega) (by omega)]
            obtain ⟨w, hw⟩ := hp (zK t (a + 3)).From (zK t (a + 3 + 1 - 1)).To
            exact ⟨_, rfl, .inl ⟨rfl, a + 3 + 1 + 1, rfl, by omega, by omega, ⟨_, .const g2 hw⟩, by simp only [jL, wW, zV]; omega⟩⟩
          · rw [if_neg h4]; exact z4i tf hm hn ln hl (by omega)
        by_cases k2 : (zK t (a + 3)).K = 2
        · rw [if_pos k2]
          have hlt := z1A ln (a := a + 3) (by rw [k2]; decide)
          obtain ⟨m, q1, q2, q3, -⟩ := (v1a tf hm (show a + 3 < t.length by omega)).nu k2
          exact tail (k := 5) (m := (zK t (a + 3)).N) (s := []) (by unfold z0g; rw [if_pos k2]) (fun F T => ⟨_, by rw [q1]; exact .num q2 q3⟩) hlt
        · rw [if_neg k2, wD, zA]
          by_cases k3 : vW t (a + 3) [116, 114, 117, 101] = true
          · rw [if_pos k3]
            have hk := y2N k3
            exact tail (k := 6) (m := 1) (s := []) (by unfold z0g; rw [if_neg k2, if_neg (by rw [hk.1]; decide), if_pos k3]) (fun F T => ⟨_, .tru⟩) (z1a ln k3)
          · rw [if_neg k3, wD, zA]
            by_cases k4 : vW t (a + 3) [102, 97, 108, 115, 101] = true
            · rw [if_pos k4]
              have hk := y2N k4
              exact tail (k := 6) (m := 0) (s := []) (by unfold z0g; rw [if_neg k2, if_neg (by rw [hk.1]; decide), if_neg k3, if_pos k4]) (fun F T => ⟨_, .fal⟩) (z1a ln k4)
            · rw [if_neg k4]
              exact z4i tf hm hn ln hl (by omega)
      · rw [if_neg hs]; exact z4i tf hm hn ln hl (by omega)
    · rw [if_neg hc, zO, zA]
      by_cases hs : yB t (a + 2) [58] = true
      · have hsn := wE ln hs
        rw [if_pos hs, if_pos rfl]
        obtain ⟨g', e', k | ⟨k, c', k4, k5⟩⟩ := y4p tf hm hn ln hl (a := a + 3) (by omega)
        · obtain ⟨k, c', k4, k5, k6, ⟨wt, hwt⟩, k7⟩ := k
          rw [e', zA, if_pos k, k4, zO, zA]
          by_cases h4 : yB t c' [59] = true
          · have h4n := wE ln h4
            have e5 : IntKind.wrap .i64 ((c' : Int) + 1) = ((c' + 1 : Nat) : Int) := w1 tf hm hn ln hl (k := 1) k6 (by omega)
            rw [if_pos h4, g3, zA, e5, jQ t (by omega) a (c' + 1) (by omega) (by omega)]
            exact ⟨_, rfl, .inl ⟨rfl, c' + 1, rfl, by omega, by omega, ⟨_, .var g2 hwt⟩, by simp only [jL, wW, zV]; omega⟩⟩
          · rw [if_neg h4]; exact z4i tf hm hn ln hl (by omega)
        · rw [e', zA, if_neg k]; exact ⟨_, rfl, .inr ⟨k, c', k4, k5⟩⟩
      · rw [if_neg hs]; exact z4i tf hm hn ln hl (by omega)
  · rw [if_neg h2]; exact z4i tf hm hn ln hl (by omega)
theorem RO.id {a : Nat} {p : Option zG} {P : zF → Prop} (h : RO n a p P) : RO n a (p >>= fun q => some q) P := by
  obtain ⟨g, rfl, h⟩ := h
  exact ⟨g, rfl, h⟩
theorem v2E {a : Nat} (ha : a ≤ n) : RO n a (z6G t (a : Int)) (fun x => ∃ w, PD x w) := by
  unfold z6G
  have e1 : IntKind.wrap .i64 ((a : Int) + 1) = ((a + 1 : Nat) : Int) := w1 tf hm hn ln hl (k := 1) (by omega) (by omega)
  have e2 : IntKind.wrap .i64 ((a : Int) + 2) = ((a + 2 : Nat) : Int) := w1 tf hm hn ln hl (k := 2) (by omega) (by omega)
  have e3 : IntKind.wrap .i64 ((a : Int) + 3) = ((a + 3 : Nat) : Int) := w1 tf hm hn ln hl (k := 3) (by omega) (by omega)
  rw [e1, e2, e3, wD, zA]
  by_cases h1 : vW t a [99, 111, 110, 115, 116] = true
  · rw [if_pos h1]; exact RO.id tf hm hn ln hl (y8h tf hm hn ln hl (.inl h1))
  rw [if_neg h1, wD, zA]
  by_cases h2 : vW t a [118, 97, 114] = true
  · rw [if_pos h2]; exact RO.id tf hm hn ln hl (y8h tf hm hn ln hl (.inr h2))
  rw [if_neg h2, wD, zA]
  by_cases h3 : vW t a [112, 117, 98] = true
  · have := z1a ln h3
    rw [if_pos h3]; exact RO.id tf hm hn ln hl (v3p tf hm hn ln hl (.inr rfl) (by omega) (by omega))
  rw [if_neg h3, wD, zA]
  by_cases h4 : vW t a [102, 110] = true
  · rw [if_pos h4]; exact RO.id tf hm hn ln hl (v3p tf hm hn ln hl (.inl rfl) (Nat.le_refl _) ha)
  rw [if_neg h4, wD, zA]
  by_cases h5 : vW t a [114, 101, 99] = true
  · have h5n := z1a ln h5
    rw [if_pos h5, jO, zA]
    by_cases k1 : (zK t (a + 1)).K = 1
    · obtain ⟨g1, g2, g3⟩ := v1E tf hm hn ln hl k1
      rw [if_pos k1, zO, zA]
      by_cases k2 : yB t (a + 2) [123] = true
      · have k2n := wE ln k2
        rw [if_pos k2]
        unfold z5l
        obtain ⟨l, to, e, q1, q2⟩ := y9B tf hm hn ln hl (n + 1) (a + 3) [] (by omega) (by omega) (by simp)
        rw [q1, zA]; dsimp only
        rcases q2 with ⟨rfl, c, l', w, rfl, q4, q5, q6, q7, q8, q9⟩ | ⟨q2, c, rfl, q4⟩
        · rw [if_pos rfl, g3, zA, jQ t (by omega) a c (by omega) (by omega)]
          rw [List.nil_append] at q6
          subst q6
          exact ⟨_, rfl, .inl ⟨rfl, c, rfl, by omega, q5, ⟨_, .rcd g2 q9 q7⟩, by simp only [jL, wW]; omega⟩⟩
        · rw [if_neg q2]; exact ⟨_, rfl, .inr ⟨q2, c, rfl, q4⟩⟩
      · rw [if_neg k2]; exact z4i tf hm hn ln hl (by omega)
    · rw [if_neg k1]; exact z4i tf hm hn ln hl (by omega)
  rw [if_neg h5]
  exact z4i tf hm hn ln hl ha
theorem v1K (text : Str) (hn2 : n ≤ 2400) (o2 : zF) : ∀ (k a : Nat) (out : List zF) (ws : List (List Str)), n < a + k → a ≤ n → PDs out ws → zV out ≤ 400 * a → out.length ≤ a →
    ∃ m q e, vR text t out (a : Int) o2 = some (m, q, e) ∧ (e = 0 → ∃ l ws, m = ⟨36, 0, [], l, 0, (text.length : Int)⟩ ∧ PDs l ws ∧ zV l ≤ 400 * n ∧ l.length ≤ 64) := by
  intro k
  induction k with
  | zero => intro a out ws h1 h2; omega
  | succ k ih =>
    intro a out ws h1 h2 h3 h4 h5
    rw [y0x]; unfold z0J
    rw [uU (n := (List.length t : Int) - 1) (by omega) (by omega)]
    by_cases ha : a < n
    · rw [if_pos (by omega)]
      obtain ⟨g, e, h | ⟨h, c, k4, k5⟩⟩ := v2E tf hm hn ln hl h2
      · obtain ⟨h, c, k4, k5, k6, ⟨w, hw⟩, k7⟩ := h
        rw [e, zA, if_pos h, if_pos (by unfold z0C; simp; omega), k4]
        exact ih c (out ++ [g.T_]) (ws ++ [w]) (by omega) k6 (.snoc h3 hw) (by rw [z3K]; simp only [zV]; omega) (by simp; omega)
      · rw [e, zA, if_neg h, k4, gF (show c < t.length by omega), zA]
        exact ⟨_, _, _, rfl, fun g => absurd g h⟩
    · rw [if_neg (by omega)]
      by_cases h6 : (List.length out : Int) > 64
      · rw [if_pos h6]; exact ⟨_, _, _, rfl, fun g => absurd g (by decide)⟩
      · rw [if_neg h6]
        have hs : wW ⟨36, 0, [], out, 0, (text.length : Int)⟩ = 1 + zV out := y4v _
        obtain ⟨d, e, -⟩ := y7i tf hm hn ln hl ⟨36, 0, [], out, 0, (text.length : Int)⟩ (by rw [hs]; omega)
        rw [e, zA]
        by_cases h7 : (d : Int) > 64
        · rw [if_pos h7]; exact ⟨_, _, _, rfl, fun g => absurd g (by decide)⟩
        · rw [if_neg h7]
          exact ⟨_, _, _, rfl, fun _ => ⟨out, ws, rfl, h3, by omega, by omega⟩⟩
end
theorem v1I {n : Int} (h1 : 1 ≤ n) (h2 : n ≤ 13) : n = 1 ∨ n = 2 ∨ n = 3 ∨ n = 4 ∨ n = 5 ∨ n = 6 ∨ n = 7 ∨ n = 8 ∨ n = 9 ∨ n = 10 ∨ n = 11 ∨ n = 12 ∨ n = 13 := by omega
theorem y7X {n : Int} (h1 : 1 ≤ n) (h2 : n ≤ 13) : z4H n = some (v0z n, (z7i n : Int)) := by
  rcases v1I h1 h2 with rfl | rfl | rfl | rfl | rfl | rfl | rfl | rfl | rfl | rfl | rfl | rfl | rfl <;> rfl
theorem v2l (n : Int) : 1 ≤ z7i n ∧ z7i n ≤ 5 := by unfold z7i; (repeat' split) <;> omega
theorem z3h {c : XC} {w : List Str} (h : PR c w) : w ≠ [] := by
  induction h <;> simp_all [hw] <;> (try split) <;> simp_all
theorem v3n {c : XC} {w : List Str} (h : PR c w) : match c with | .ex x => z0V x = some (bnd x : Int) | .ls _ => True := by
  cases h with
  | bin h1 h2 _ _ => 
    show z0V _ = _
    unfold z0V
    rw [if_pos rfl, y7X h1 h2, zA]; rfl
  | call h _ _ => rcases h with rfl | rfl | rfl <;> rfl
  | call0 h _ => rcases h with rfl | rfl <;> rfl
  | one _ => trivial
  | cons _ _ => trivial
  | _ => rfl
theorem z8f (w : List Str) : w.length ≤ szw w := by
  induction w with
  | nil => simp
  | cons x r ih => simp [szw]; omega
theorem wC (ws out : List Str) (h : szw out + szw ws ≤ 1000000000) : zI ws out = some (out ++ ws) := by
  have h1 := z8f ws
  have h2 := z8f out
  unfold zI
  rw [if_pos (by unfold z0C; omega)]
theorem z4G (K N : Int) (S : Str) (x : zF) (r : List zF) (F T : Int) : zP ⟨K, N, S, x :: r, F, T⟩ 0 = some x := by
  unfold zP
  rw [if_pos (by simp only [List.length_cons]; omega)]; rfl
theorem y2L (K N : Int) (S : Str) (x y : zF) (r : List zF) (F T : Int) : zP ⟨K, N, S, x :: y :: r, F, T⟩ 1 = some y := by
  unfold zP
  rw [if_pos (by simp only [List.length_cons]; omega)]; rfl
theorem z9n {x : zF} {w : List Str} (hp : PR (.ex x) w) (hx : ∀ out, szw out + szw w ≤ 1000000000 → print_writer_expr x out = some (out ++ w)) (least : Nat) (out : List Str) (h : szw out + szw (hw least x w) ≤ 1000000000) : print_writer_held x (least : Int) out = some (out ++ hw least x w) := by
  have hb : z0V x = some (bnd x : Int) := v3n hp
  rw [z7j]; unfold jW
  rw [hb, zA]
  unfold hw at h ⊢
  by_cases hc : least ≤ bnd x
  · rw [if_pos hc] at h ⊢
    rw [if_pos (show (bnd x : Int) ≥ (least : Int) by omega), hx out h]; rfl
  · rw [if_neg hc] at h ⊢
    rw [zD, zD] at h
    simp only [szw, List.length_cons, List.length_nil] at h
    rw [if_neg (show ¬ (bnd x : Int) ≥ (least : Int) by omega), wC _ _ (by simp only [szw, List.length_cons, List.length_nil]; omega), zA, hx _ (by rw [zD]; simp only [szw, List.length_cons, List.length_nil]; omega), zA, wC _ _ (by rw [zD, zD]; simp only [szw, List.length_cons, List.length_nil]; omega), zA]
    simp
def z8o (i : Nat) (w : List Str) : List Str := if i = 0 then w else [[44]] ++ w
def PPM : XC → List Str → Prop
  | .ex x, w => ∀ out, szw out + szw w ≤ 1000000000 → print_writer_expr x out = some (out ++ w)
  | .ls l, w => ∀ (L : List zF) (i : Nat) (out : List Str), L.drop i = l → L.length ≤ 1000000000 → szw out + szw (z8o i w) ≤ 1000000000 → print_writer_list_writer_expr_L1 L (L.length : Int) (i : Int) out = some (out ++ z8o i w)
theorem v2f (L : List zF) (out : List Str) (i : Nat) (h : L.length ≤ i) : print_writer_list_writer_expr_L1 L (L.length : Int) (i : Int) out = some out := by
  rw [gZ]; unfold yV
  rw [if_neg (by omega)]
theorem y9g {L l : List zF} {i : Nat} {x : zF} {w : List Str} (hL : L.length ≤ 1000000000) (hx : ∀ out, szw out + szw w ≤ 1000000000 → print_writer_expr x out = some (out ++ w)) (h : L.drop i = x :: l) (out : List Str) (hs : szw out + szw (z8o i w) ≤ 1000000000) :
    print_writer_list_writer_expr_L1 L (L.length : Int) (i : Int) out = print_writer_list_writer_expr_L1 L (L.length : Int) ((i + 1 : Nat) : Int) (out ++ z8o i w) ∧ L.drop (i + 1) = l := by
  have hlt : i < L.length := by
    have := congrArg List.length h
    rw [List.length_drop, List.length_cons] at this; omega
  have hd := List.drop_eq_getElem_cons hlt
  rw [h] at hd
  injection hd with e1 e2
  refine ⟨?_, e2.symm⟩
  conv => lhs; rw [gZ]
  unfold yV
  unfold z8o at hs ⊢
  rw [if_pos (by omega), gF hlt, zA, ← e1]
  by_cases hi : i = 0
  · rw [if_pos hi] at hs ⊢
    rw [if_neg (by omega), hx out hs, zA, uU (by omega) (by omega), wB]
  · rw [if_neg hi] at hs ⊢
    rw [zD] at hs
    simp only [szw, List.length_cons, List.length_nil] at hs
    rw [if_pos (by omega), wC _ _ (by simp only [szw, List.length_cons, List.length_nil]; omega), zA, hx _ (by rw [zD]; simp only [szw, List.length_cons, List.length_nil]; omega), zA, uU (by omega) (by omega), wB, List.append_assoc]
theorem y3v {l : List zF} {w : List Str} (hp : PR (.ls l) w) (ih : PPM (.ls l) w) (hl : l.length ≤ 1000000000) (out : List Str) (h : szw out + szw w ≤ 1000000000) : print_writer_list_writer_expr l out = some (out ++ w) := by
  rw [z0B]; unfold vM
  have := ih l 0 out (by simp) hl h
  exact this
theorem y0z (out : List Str) : print_writer_list_writer_expr [] out = some out := by
  rw [z0B]; unfold vM
  exact v2f [] out 0 (by simp)
def v3O : XC → List Str → Prop
  | .ex _, _ => True
  | .ls l, w => l.length ≤ w.length
theorem y7P {c : XC} {w : List Str} (h : PR c w) : v3O c w := by
  induction h with
  | @one x w h _ =>
    have := z3h h
    show [x].length ≤ w.length
    cases w with
    | nil => exact absurd rfl this
    | cons _ _ => simp
  | @cons x l w wl h1 h2 _ ih =>
    have h3 : l.length ≤ wl.length := ih
    show (x :: l).length ≤ (w ++ [[44]] ++ wl).length
    simp; omega
  | _ => trivial
theorem z6W {c : XC} {w : List Str} (h : PR c w) : PPM c w := by
  induction h with
  | @num n F T h1 h2 =>
    intro out ho
    rw [vF]; unfold yE; dsimp only
    rw [if_pos rfl, y5g _ (by show _ ∧ _; omega), zA, if_neg (show ¬ ((n : Int) < 0) by omega), List.nil_append, show ((n : Int)).natAbs = n by omega, wC _ _ ho]; rfl
  | tru => intro out ho; rw [vF]; unfold yE; dsimp only; rw [if_neg (by decide), if_pos rfl, if_pos rfl, wC _ _ ho]; rfl
  | fal => intro out ho; rw [vF]; unfold yE; dsimp only; rw [if_neg (by decide), if_pos rfl, if_neg (by decide), wC _ _ ho]; rfl
  | rd => intro out ho; rw [vF]; unfold yE; dsimp only; rw [if_neg (by decide), if_neg (by decide), if_pos rfl, wC _ _ ho]; rfl
  | name _ => intro out ho; rw [vF]; unfold yE; dsimp only; rw [if_neg (by decide), if_neg (by decide), if_neg (by decide), if_pos rfl, wC _ _ ho]; rfl
  | @bin n x y wx wy F T h1 h2 p1 p2 ih1 ih2 =>
    intro out ho
    rw [zD, zD] at ho
    have hl := v2l n
    have e2 := ih2
    rw [vF]; unfold yE; dsimp only
    rw [if_neg (by decide), if_neg (by decide), if_neg (by decide), if_neg (by decide), if_pos rfl, y7X h1 h2, zA]
    dsimp only
    have step : ∀ lf : Nat, lf = y6a n → (zP ⟨10, n, [], [x, y], F, T⟩ 0 >>= fun q8 => print_writer_held q8 (lf : Int) out >>= fun q9 => zI [v0z n] q9 >>= fun q10 => zP ⟨10, n, [], [x, y], F, T⟩ 1 >>= fun q11 => print_writer_held q11 (IntKind.wrap .i64 ((z7i n : Int) + 1)) q10 >>= fun q12 => some (q12)) = some (out ++ (hw (y6a n) x wx ++ [v0z n] ++ hw (z7i n + 1) y wy)) := fun lf e => by
      rw [z4G, zA, e, z9n p1 ih1 _ _ (by omega), zA, wC _ _ (by rw [zD]; omega), zA, y2L, zA, uU (by omega) (by omega), show (z7i n : Int) + 1 = ((z7i n + 1 : Nat) : Int) by omega, z9n p2 ih2 _ _ (by rw [zD, zD]; omega), zA]
      simp
    by_cases h3 : z7i n = 3
    · rw [if_pos (show (z7i n : Int) = 3 by omega)]
      exact step 4 (by unfold y6a; rw [if_pos h3])
    · rw [if_neg (show ¬ (z7i n : Int) = 3 by omega)]
      exact step (z7i n) (by unfold y6a; rw [if_neg h3])
  | @neg x wx F T p1 ih1 =>
    intro out ho
    rw [zD] at ho
    rw [vF]; unfold yE; dsimp only
    rw [if_neg (by decide), if_neg (by decide), if_neg (by decide), if_neg (by decide), if_neg (by decide), if_pos rfl, if_pos rfl, wC _ _ (by omega), zA, z4G, zA, show (6 : Int) = ((6 : Nat) : Int) from rfl, z9n p1 ih1 _ _ (by rw [zD]; omega), zA]
    simp
  | @not x wx F T p1 ih1 =>
    intro out ho
    rw [zD] at ho
    rw [vF]; unfold yE; dsimp only
    rw [if_neg (by decide), if_neg (by decide), if_neg (by decide), if_neg (by decide), if_neg (by decide), if_pos rfl, if_neg (by decide), wC _ _ (by omega), zA, z4G, zA, show (6 : Int) = ((6 : Nat) : Int) from rfl, z9n p1 ih1 _ _ (by rw [zD]; omega), zA]
    simp
  | @index x i wx wi F T p1 p2 ih1 ih2 =>
    intro out ho
    rw [zD, zD, zD] at ho
    rw [vF]; unfold yE; dsimp only
    rw [if_neg (by decide), if_neg (by decide), if_neg (by decide), if_neg (by decide), if_neg (by decide), if_neg (by decide), wU]; unfold yR; dsimp only
    rw [if_pos rfl, z4G, zA, show (7 : Int) = ((7 : Nat) : Int) from rfl, z9n p1 ih1 _ _ (by omega), zA, wC _ _ (by rw [zD]; omega), zA, y2L, zA, ih2 _ (by rw [zD, zD]; omega), zA, wC _ _ (by rw [zD, zD, zD]; omega), zA, zA]
    simp
  | @field s x wx F T p0 p1 ih1 =>
    intro out ho
    rw [zD] at ho
    rw [vF]; unfold yE; dsimp only
    rw [if_neg (by decide), if_neg (by decide), if_neg (by decide), if_neg (by decide), if_neg (by decide), if_neg (by decide), wU]; unfold yR; dsimp only
    rw [if_neg (by decide), if_pos rfl, z4G, zA, show (7 : Int) = ((7 : Nat) : Int) from rfl, z9n p1 ih1 _ _ (by omega), zA, wC _ _ (by rw [zD]; omega), zA, zA]
    simp
  | @lis l w F T p1 ih1 =>
    intro out ho
    rw [zD, zD] at ho
    have hl : l.length ≤ w.length := y7P p1
    have hw1 := z8f w
    rw [vF]; unfold yE; dsimp only
    rw [if_neg (by decide), if_neg (by decide), if_neg (by decide), if_neg (by decide), if_neg (by decide), if_neg (by decide), wU]; unfold yR; dsimp only
    rw [if_neg (by decide), if_neg (by decide), if_pos rfl, wC _ _ (by omega), zA, y3v p1 ih1 (by omega) _ (by rw [zD]; omega), zA, wC _ _ (by rw [zD, zD]; omega), zA, zA]
    simp
  | @call k s l w F T hk p0 p1 ih1 =>
    intro out ho
    rw [zD, zD, zD] at ho
    have hl : l.length ≤ w.length := y7P p1
    have hw1 := z8f w
    rw [vF]; unfold yE
    rcases hk with rfl | rfl | rfl
    · have ho' : szw out + (szw [[110, 101, 119], s] + szw [[40]] + szw w + szw [[41]]) ≤ 1000000000 := ho
      dsimp only
      rw [if_neg (by decide), if_neg (by decide), if_neg (by decide), if_neg (by decide), if_neg (by decide), if_neg (by decide), wU]; unfold yR; dsimp only
      rw [if_neg (by decide), if_neg (by decide), if_neg (by decide), if_neg (by decide), if_neg (by decide), if_pos rfl, wC _ _ (by omega), zA, wC _ _ (by rw [zD]; omega), zA, y3v p1 ih1 (by omega) _ (by rw [zD, zD]; omega), zA, wC _ _ (by rw [zD, zD, zD]; omega), zA, zA]
      simp [y1T]
    · have ho' : szw out + (szw [s] + szw [[40]] + szw w + szw [[41]]) ≤ 1000000000 := ho
      dsimp only
      rw [if_neg (by decide), if_neg (by decide), if_neg (by decide), if_neg (by decide), if_neg (by decide), if_neg (by decide), wU]; unfold yR; dsimp only
      rw [if_neg (by decide), if_neg (by decide), if_neg (by decide), if_pos rfl, wC _ _ (by omega), zA, wC _ _ (by rw [zD]; omega), zA, y3v p1 ih1 (by omega) _ (by rw [zD, zD]; omega), zA, wC _ _ (by rw [zD, zD, zD]; omega), zA, zA]
      simp [y1T]
    · have ho' : szw out + (szw [[64], s] + szw [[40]] + szw w + szw [[41]]) ≤ 1000000000 := ho
      dsimp only
      rw [if_neg (by decide), if_neg (by decide), if_neg (by decide), if_neg (by decide), if_neg (by decide), if_neg (by decide), wU]; unfold yR; dsimp only
      rw [if_neg (by decide), if_neg (by decide), if_neg (by decide), if_neg (by decide), if_pos rfl, wC _ _ (by omega), zA, wC _ _ (by rw [zD]; omega), zA, y3v p1 ih1 (by omega) _ (by rw [zD, zD]; omega), zA, wC _ _ (by rw [zD, zD, zD]; omega), zA, zA]
      simp [y1T]
  | @call0 k s F T hk p0 =>
    intro out ho
    rw [zD, zD, zD] at ho
    simp only [szw] at ho
    rw [vF]; unfold yE
    rcases hk with rfl | rfl
    · have ho' : szw out + (szw [s] + szw [[40]] + 0 + szw [[41]]) ≤ 1000000000 := ho
      dsimp only
      rw [if_neg (by decide), if_neg (by decide), if_neg (by decide), if_neg (by decide), if_neg (by decide), if_neg (by decide), wU]; unfold yR; dsimp only
      rw [if_neg (by decide), if_neg (by decide), if_neg (by decide), if_pos rfl, wC _ _ (by omega), zA, wC _ _ (by rw [zD]; omega), zA, y0z, zA, wC _ _ (by rw [zD, zD]; omega), zA, zA]
      simp [y1T]
    · have ho' : szw out + (szw [[64], s] + szw [[40]] + 0 + szw [[41]]) ≤ 1000000000 := ho
      dsimp only
      rw [if_neg (by decide), if_neg (by decide), if_neg (by decide), if_neg (by decide), if_neg (by decide), if_neg (by decide), wU]; unfold yR; dsimp only
      rw [if_neg (by decide), if_neg (by decide), if_neg (by decide), if_neg (by decide), if_pos rfl, wC _ _ (by omega), zA, wC _ _ (by rw [zD]; omega), zA, y0z, zA, wC _ _ (by rw [zD, zD]; omega), zA, zA]
      simp [y1T]
  | @one x w p1 ih1 =>
    intro L i out hd hL hs
    obtain ⟨e1, e2⟩ := y9g hL ih1 hd out hs
    rw [e1, v2f _ _ _ (by have := congrArg List.length e2; simp at this; omega)]
  | @cons x l w wl p1 p2 ih1 ih2 =>
    intro L i out hd hL hs
    have e0 : z8o i (w ++ [[44]] ++ wl) = z8o i w ++ z8o (i + 1) wl := by unfold z8o; rw [if_neg (show ¬ i + 1 = 0 by omega)]; split <;> simp
    rw [e0, zD] at hs
    obtain ⟨e1, e2⟩ := y9g hL ih1 hd out (by omega)
    rw [e1, ih2 L (i + 1) _ e2 hL (by rw [zD]; omega), e0, List.append_assoc]
theorem z5z {s : Str} (h : Nm s) : s.length ≤ 16 := by
  have ho : one s = .inr (1, 0, s, s.length) := by have := h [] (.inl rfl); rwa [List.append_nil] at this
  cases s with
  | nil => cases ho
  | cons c r =>
    rw [one] at ho
    by_cases h1 : ltr c = true
    · rw [if_pos h1] at ho
      by_cases h2 : tw mor (c :: r) > 16
      · rw [if_pos h2] at ho; cases ho
      · rw [if_neg h2] at ho
        injection ho with ho
        simp only [Prod.mk.injEq] at ho
        omega
    · rw [if_neg h1] at ho
      by_cases h2 : dgt c = true
      · rw [if_pos h2] at ho
        split at ho
        · cases ho
        · injection ho with ho
          simp only [Prod.mk.injEq] at ho
          exact absurd ho.1 (by decide)
      · rw [if_neg h2] at ho
        split at ho
        · cases ho
        · injection ho with ho
          simp only [Prod.mk.injEq] at ho
          exact absurd ho.1 (by decide)
theorem v2h {n : Nat} (h : n ≤ 9223372036854775807) : (z9i n).length ≤ 19 := z7W 19 n (by omega) (by omega)
theorem v3C {n : Int} (h1 : 1 ≤ n) (h2 : n ≤ 13) : (v0z n).length ≤ 2 := by
  rcases v1I h1 h2 with rfl | rfl | rfl | rfl | rfl | rfl | rfl | rfl | rfl | rfl | rfl | rfl | rfl <;> decide
def SzX : XC → List Str → Prop
  | .ex x, w => szw w + 10 ≤ 200 * wW x
  | .ls l, w => szw w ≤ 200 * zV l
theorem v3B {c : XC} {w : List Str} (h : PR c w) : SzX c w := by
  induction h with
  | num h1 _ => have := v2h h1; simp only [SzX, szw, wW, zV]; omega
  | tru => simp only [SzX, szw, wW, zV, List.length_cons, List.length_nil]; omega
  | fal => simp only [SzX, szw, wW, zV, List.length_cons, List.length_nil]; omega
  | rd => simp only [SzX, szw, wW, zV, List.length_cons, List.length_nil]; omega
  | name h => have := z5z h; simp only [SzX, szw, wW, zV]; omega
  | @bin n x y wx wy F T h1 h2 _ _ ih1 ih2 =>
    have := v3C h1 h2
    have e1 := z6P (y6a n) x wx
    have e2 := z6P (z7i n + 1) y wy
    simp only [SzX, szw, wW, zV, zD] at ih1 ih2 ⊢; omega
  | @neg x wx F T _ ih => have e1 := z6P 6 x wx; simp only [SzX, szw, wW, zV, zD, List.length_cons, List.length_nil] at ih ⊢; omega
  | @not x wx F T _ ih => have e1 := z6P 6 x wx; simp only [SzX, szw, wW, zV, zD, List.length_cons, List.length_nil] at ih ⊢; omega
  | @index x i wx wi F T _ _ ih1 ih2 => have e1 := z6P 7 x wx; simp only [SzX, szw, wW, zV, zD, List.length_cons, List.length_nil] at ih1 ih2 ⊢; omega
  | @field s x wx F T h _ ih => have := z5z h; have e1 := z6P 7 x wx; simp only [SzX, szw, wW, zV, zD, List.length_cons, List.length_nil] at ih ⊢; omega
  | lis _ ih => simp only [SzX, szw, wW, zV, zD, List.length_cons, List.length_nil] at ih ⊢; omega
  | @call k s l w F T _ h _ ih =>
    have := z5z h
    have e : szw (y1T k s) ≤ 30 := by unfold y1T; (repeat' split) <;> simp only [szw, List.length_cons, List.length_nil] <;> omega
    simp only [SzX, szw, wW, zV, zD, List.length_cons, List.length_nil] at ih ⊢; omega
  | @call0 k s F T _ h =>
    have := z5z h
    have e : szw (y1T k s) ≤ 30 := by unfold y1T; (repeat' split) <;> simp only [szw, List.length_cons, List.length_nil] <;> omega
    simp only [SzX, szw, wW, zV, zD, List.length_cons, List.length_nil]; omega
  | one _ ih => simp only [SzX, zV] at ih ⊢; omega
  | cons _ _ ih1 ih2 => simp only [SzX, szw, zV, zD, List.length_cons, List.length_nil] at ih1 ih2 ⊢; omega
theorem v0l {x : zF} {w : List Str} (h : PT x w) : szw w + 10 ≤ 200 * wW x := by
  induction h with
  | int => simp only [szw, wW, zV, List.length_cons, List.length_nil]; omega
  | bool => simp only [szw, wW, zV, List.length_cons, List.length_nil]; omega
  | rcd h => have := z5z h; simp only [szw, wW, zV]; omega
  | arr h1 _ _ ih => have := v2h h1; simp only [szw, wW, zV, zD, List.length_cons, List.length_nil] at ih ⊢; omega
def itB : List It → Nat
  | [] => 0
  | .word s :: r => s.length + 1 + itB r
  | .sign s :: r => s.length + 1 + itB r
  | .name :: r => 17 + itB r
  | .be :: r => 5 + itB r
  | _ :: r => itB r
theorem v4i {k : Int} {its : List It} (h : FK k its) : itB its ≤ 60 := by cases h <;> decide
def SzS : SC → List Str → Prop
  | .st x, w => szw w + 10 ≤ 200 * wW x
  | .bl x, w => szw w + 10 ≤ 200 * wW x
  | .ss l, w => szw w ≤ 200 * zV l
  | .fm its ps _, w => szw w ≤ 200 * zV ps + itB its
theorem v2S {c : SC} {w : List Str} (h : PS c w) : SzS c w := by
  induction h with
  | blk _ ih => simp only [SzS, szw, wW, zD, List.length_cons, List.length_nil] at ih ⊢; omega
  | ss0 => simp only [SzS, szw, zV]; omega
  | ssc _ _ ih1 ih2 => simp only [SzS, szw, zV, zD] at ih1 ih2 ⊢; omega
  | stB _ ih => exact ih
  | stF hk _ _ ih => have := v4i hk; simp only [SzS, wW] at ih ⊢; omega
  | f0 => simp only [SzS, szw, zV, itB]; omega
  | fW _ ih => simp only [SzS, szw, itB, zD] at ih ⊢; omega
  | fS _ ih => simp only [SzS, szw, itB, zD] at ih ⊢; omega
  | fN h _ ih => have := z5z h; simp only [SzS, szw, itB, zD] at ih ⊢; omega
  | fX h _ ih => have e := v3B h; simp only [SzX] at e; simp only [SzS, zV, itB, zD] at ih ⊢; omega
  | fT h _ ih => have e := v0l h; simp only [SzS, zV, itB, zD] at ih ⊢; omega
  | fK _ _ ih1 ih2 => simp only [SzS, zV, itB, zD] at ih1 ih2 ⊢; omega
  | fE1 _ _ ih1 ih2 => simp only [SzS, wW, zV, itB, zD] at ih1 ih2 ⊢; omega
  | fE2 _ _ _ _ ih1 ih2 ih3 => simp only [SzS, szw, zV, itB, zD, List.length_cons, List.length_nil] at ih1 ih2 ih3 ⊢; omega
theorem v2Q {x : zF} {w : List Str} (h : PN x w) : szw w + 10 ≤ 200 * wW x := by
  cases h with
  | mk h1 h2 => have := z5z h1; have e := v0l h2; simp only [szw, wW, zV, zD, List.length_cons, List.length_nil]; omega
theorem v3A {l : List zF} {w : List Str} (h : PNs l w) : szw w ≤ 200 * zV l := by
  induction h with
  | one h => have := v2Q h; simp only [zV]; omega
  | cons h _ ih => have := v2Q h; simp only [szw, zV, zD, List.length_cons, List.length_nil]; omega
theorem v3y {l : List zF} {w : List Str} (h : PFs l w) : szw w ≤ 200 * zV l := by
  induction h with
  | nil => simp only [szw, zV]; omega
  | cons h _ ih => have := v2Q h; simp only [szw, zV, zD, List.length_cons, List.length_nil]; omega
theorem v3w {x : zF} {w : List Str} (h : PD x w) : szw w + 10 ≤ 200 * wW x := by
  cases h with
  | rcd h _ h2 => have := z5z h; have e := v3y h2; simp only [szw, wW, zD, List.length_cons, List.length_nil]; omega
  | const h h2 => have := z5z h; have e := v3B h2.pr; simp only [SzX] at e; simp only [szw, wW, zV, zD, List.length_cons, List.length_nil]; omega
  | var h h2 => have := z5z h; have e := v0l h2; simp only [szw, wW, zV, zD, List.length_cons, List.length_nil]; omega
  | @fn0 n s x y wx wy F T F' T' _ h h2 h3 =>
    have := z5z h; have e := v0l h2; have e3 := v2S h3
    have e4 : szw (if n = 1 then [[112, 117, 98]] else ([] : List Str)) ≤ 4 := by split <;> simp [szw]
    simp only [SzS] at e3
    simp only [szw, wW, zV, zD, List.length_cons, List.length_nil]; omega
  | @fn n s l x y wl wx wy F T F' T' _ h hl h2 h3 =>
    have := z5z h; have e := v0l h2; have e3 := v2S h3; have e5 := v3A hl
    have e4 : szw (if n = 1 then [[112, 117, 98]] else ([] : List Str)) ≤ 4 := by split <;> simp [szw]
    simp only [SzS] at e3
    simp only [szw, wW, zV, zD, List.length_cons, List.length_nil]; omega
theorem y1I {x : zF} {w : List Str} (h : PT x w) : ∀ out, szw out + szw w ≤ 1000000000 → print_writer_kind x out = some (out ++ w) := by
  induction h with
  | int => intro out ho; rw [gO]; unfold wR; dsimp only; rw [if_pos rfl, wC _ _ ho]; rfl
  | bool => intro out ho; rw [gO]; unfold wR; dsimp only; rw [if_neg (by decide), if_pos rfl, wC _ _ ho]; rfl
  | rcd _ => intro out ho; rw [gO]; unfold wR; dsimp only; rw [if_neg (by decide), if_neg (by decide), if_neg (by decide), if_pos rfl, wC _ _ ho]; rfl
  | @arr n x w F T h1 h2 h3 ih =>
    intro out ho
    rw [zD] at ho
    rw [gO]; unfold wR; dsimp only
    rw [if_neg (by decide), if_neg (by decide), if_pos rfl, y5g _ (by show _ ∧ _; omega), zA, if_neg (show ¬ ((n : Int) < 0) by omega), List.nil_append, show ((n : Int)).natAbs = n by omega, wC _ _ (by omega), zA, z4G, zA, ih _ (by rw [zD]; omega), zA]
    simp
theorem y4f {K N : Int} {s : Str} {x : zF} {r : List zF} {F T : Int} {w : List Str} (h : PT x w) (out : List Str) (ho : szw out + szw ([s, [58]] ++ w) ≤ 1000000000) : wX ⟨K, N, s, x :: r, F, T⟩ out = some (out ++ ([s, [58]] ++ w)) := by
  rw [zD] at ho
  unfold wX; dsimp only
  rw [wC _ _ (by omega), zA, z4G, zA, y1I h _ (by rw [zD]; omega), zA]
  simp
theorem z9o {x : zF} {w : List Str} (h : PR (.ex x) w) (ws out : List Str) (ho : szw out + szw (ws ++ w ++ [[59]]) ≤ 1000000000) : uE x ws out = some (out ++ (ws ++ w ++ [[59]])) := by
  rw [zD, zD] at ho
  unfold uE
  rw [wC _ _ (by omega), zA, z6W h _ (by rw [zD]; omega), zA, wC _ _ (by rw [zD, zD]; omega), zA]
  simp
def FMM (BK : zF → List Str → Prop) : List It → List zF → Str → List Str → Prop
  | [], ps, nm, w => ps = [] ∧ w = []
  | .word s :: its, ps, nm, w => ∃ w', w = [s] ++ w' ∧ FMM BK its ps nm w'
  | .sign s :: its, ps, nm, w => ∃ w', w = [s] ++ w' ∧ FMM BK its ps nm w'
  | .name :: its, ps, nm, w => ∃ w', w = [nm] ++ w' ∧ FMM BK its ps nm w'
  | .expr :: its, ps, nm, w => ∃ x ps' wx w', ps = x :: ps' ∧ w = wx ++ w' ∧ PR (.ex x) wx ∧ FMM BK its ps' nm w'
  | .type :: its, ps, nm, w => ∃ x ps' wx w', ps = x :: ps' ∧ w = wx ++ w' ∧ PT x wx ∧ FMM BK its ps' nm w'
  | .block :: its, ps, nm, w => ∃ x ps' wx w', ps = x :: ps' ∧ w = wx ++ w' ∧ wx ≠ [] ∧ BK x wx ∧ FMM BK its ps' nm w'
  | .be :: its, ps, nm, w => ∃ x y ps' wx wy w', ps = x :: y :: ps' ∧ w = wx ++ wy ++ w' ∧ wx ≠ [] ∧ BK x wx ∧ ((y.L = [] ∧ wy = []) ∨ (y.L ≠ [] ∧ ∃ wz, wy = [[101, 108, 115, 101]] ++ wz ∧ wz ≠ [] ∧ BK y wz)) ∧ FMM BK its ps' nm w'
def BKp (x : zF) (w : List Str) : Prop := ∀ out, szw out + szw w ≤ 1000000000 → print_writer_block x out = some (out ++ w)
def PPS : SC → List Str → Prop
  | .st x, w => ∀ out, szw out + szw w ≤ 1000000000 → print_writer_stmt x out = some (out ++ w)
  | .bl x, w => w ≠ [] ∧ BKp x w
  | .ss l, w => ∀ (L : List zF) (i : Nat) (out : List Str), L.drop i = l → L.length ≤ 1000000000 → szw out + szw (w ++ [[125]]) ≤ 1000000000 → print_writer_block_L3 L (L.length : Int) (i : Int) out = some (out ++ (w ++ [[125]]))
  | .fm its ps nm, w => FMM BKp its ps nm w
theorem v3c {k : Int} {its : List It} {ps : List zF} {nm : Str} {w : List Str} {F T : Int} (hk : FK k its) (h : FMM BKp its ps nm w) (out : List Str) (ho : szw out + szw w ≤ 1000000000) : print_writer_stmt ⟨k, 0, nm, ps, F, T⟩ out = some (out ++ w) := by
  rw [z3x]; unfold uY
  cases hk with
  | new =>
    obtain ⟨w1, rfl, w2, rfl, w3, rfl, x, ps', wx, w4, rfl, rfl, hx, w5, rfl, rfl, rfl⟩ := h
    dsimp only
    rw [if_neg (by decide), if_neg (by decide), if_pos rfl, wC _ _ (by simp only [zD, szw, z8p, wIf, z0N, z9D, z0M, jY, wDo, z2B, wTo, List.length_cons, List.length_nil] at ho ⊢; omega), zA, y4f hx _ (by simp only [zD, szw, z8p, wIf, z0N, z9D, z0M, jY, wDo, z2B, wTo, List.length_cons, List.length_nil] at ho ⊢; omega), zA, wC _ _ (by simp only [zD, szw, z8p, wIf, z0N, z9D, z0M, jY, wDo, z2B, wTo, List.length_cons, List.length_nil] at ho ⊢; omega), zA]
    simp
  | let_ =>
    obtain ⟨w1, rfl, w2, rfl, w3, rfl, x, ps', wx, w4, rfl, rfl, hx, w5, rfl, rfl, rfl⟩ := h
    dsimp only
    rw [if_neg (by decide), if_pos rfl, z4G, zA, z9o hx _ _ (by simp only [zD, szw, z8p, wIf, z0N, z9D, z0M, jY, wDo, z2B, wTo, List.length_cons, List.length_nil] at ho ⊢; omega), zA]
    simp
  | if_ =>
    obtain ⟨w1, rfl, x, ps', wx, w2, rfl, rfl, hx, y, z, ps'', wy, wz, w3, rfl, rfl, -, hy, hz, rfl, rfl⟩ := h
    dsimp only
    rw [if_neg (by decide), if_neg (by decide), if_neg (by decide), if_neg (by decide), if_neg (by decide), if_neg (by decide), if_neg (by decide), z1g]; unfold wY; dsimp only
    have p2 : zP ⟨23, 0, nm, [x, y, z], F, T⟩ 2 = some z := by unfold zP; rw [if_pos (by simp only [List.length_cons, List.length_nil]; omega)]; rfl
    rw [if_pos rfl, wC _ _ (by simp only [zD, szw, z8p, wIf, z0N, z9D, z0M, jY, wDo, z2B, wTo, List.length_cons, List.length_nil] at ho ⊢; omega), zA, z4G, zA, z6W hx _ (by simp only [zD, szw, z8p, wIf, z0N, z9D, z0M, jY, wDo, z2B, wTo, List.length_cons, List.length_nil] at ho ⊢; omega), zA, y2L, zA, hy _ (by simp only [zD, szw, z8p, wIf, z0N, z9D, z0M, jY, wDo, z2B, wTo, List.length_cons, List.length_nil] at ho ⊢; omega), zA, p2, zA]
    rcases hz with ⟨hz, rfl⟩ | ⟨hz, wq, rfl, -, hq⟩
    · rw [hz, if_neg (by decide)]; simp
    · have hpos : (List.length z.L : Int) > 0 := by cases hl : z.L with
        | nil => exact absurd hl hz
        | cons a b => simp only [List.length_cons]; omega
      rw [if_pos hpos, wC _ _ (by simp only [zD, szw, z8p, wIf, z0N, z9D, z0M, jY, wDo, z2B, wTo, List.length_cons, List.length_nil] at ho ⊢; omega), zA, zA, hq _ (by simp only [zD, szw, z8p, wIf, z0N, z9D, z0M, jY, wDo, z2B, wTo, List.length_cons, List.length_nil] at ho ⊢; omega), zA]
      simp
  | «while» =>
    obtain ⟨w1, rfl, x, ps', wx, w2, rfl, rfl, hx, y, ps'', wy, w3, rfl, rfl, -, hy, rfl, rfl⟩ := h
    dsimp only
    rw [if_neg (by decide), if_neg (by decide), if_neg (by decide), if_neg (by decide), if_neg (by decide), if_neg (by decide), if_neg (by decide), z1g]; unfold wY; dsimp only
    rw [if_neg (by decide), if_pos rfl, wC _ _ (by simp only [zD, szw, z8p, wIf, z0N, z9D, z0M, jY, wDo, z2B, wTo, List.length_cons, List.length_nil] at ho ⊢; omega), zA, z4G, zA, z6W hx _ (by simp only [zD, szw, z8p, wIf, z0N, z9D, z0M, jY, wDo, z2B, wTo, List.length_cons, List.length_nil] at ho ⊢; omega), zA, y2L, zA, hy _ (by simp only [zD, szw, z8p, wIf, z0N, z9D, z0M, jY, wDo, z2B, wTo, List.length_cons, List.length_nil] at ho ⊢; omega), zA, zA]
    simp
  | «for» =>
    obtain ⟨w1, rfl, w2, rfl, w3, rfl, x, ps', wx, w4, rfl, rfl, hx, w5, rfl, y, ps'', wy, w6, rfl, rfl, hy, z, ps3, wz, w7, rfl, rfl, -, hz, rfl, rfl⟩ := h
    dsimp only
    rw [if_neg (by decide), if_neg (by decide), if_neg (by decide), if_neg (by decide), if_neg (by decide), if_neg (by decide), if_neg (by decide), z1g]; unfold wY; dsimp only
    have p2 : zP ⟨25, 0, nm, [x, y, z], F, T⟩ 2 = some z := by unfold zP; rw [if_pos (by simp only [List.length_cons, List.length_nil]; omega)]; rfl
    rw [if_neg (by decide), if_neg (by decide), if_pos rfl, wC _ _ (by simp only [zD, szw, z8p, wIf, z0N, z9D, z0M, jY, wDo, z2B, wTo, List.length_cons, List.length_nil] at ho ⊢; omega), zA, z4G, zA, z6W hx _ (by simp only [zD, szw, z8p, wIf, z0N, z9D, z0M, jY, wDo, z2B, wTo, List.length_cons, List.length_nil] at ho ⊢; omega), zA, wC _ _ (by simp only [zD, szw, z8p, wIf, z0N, z9D, z0M, jY, wDo, z2B, wTo, List.length_cons, List.length_nil] at ho ⊢; omega), zA, y2L, zA, z6W hy _ (by simp only [zD, szw, z8p, wIf, z0N, z9D, z0M, jY, wDo, z2B, wTo, List.length_cons, List.length_nil] at ho ⊢; omega), zA, p2, zA, hz _ (by simp only [zD, szw, z8p, wIf, z0N, z9D, z0M, jY, wDo, z2B, wTo, List.length_cons, List.length_nil] at ho ⊢; omega), zA, zA]
    simp
  | print =>
    obtain ⟨w1, rfl, x, ps', wx, w4, rfl, rfl, hx, w5, rfl, rfl, rfl⟩ := h
    dsimp only
    rw [if_neg (by decide), if_neg (by decide), if_neg (by decide), if_neg (by decide), if_pos rfl, z4G, zA, z9o hx _ _ (by simp only [zD, szw, z8p, wIf, z0N, z9D, z0M, jY, wDo, z2B, wTo, List.length_cons, List.length_nil] at ho ⊢; omega), zA]
    simp
  | ret =>
    obtain ⟨w1, rfl, x, ps', wx, w4, rfl, rfl, hx, w5, rfl, rfl, rfl⟩ := h
    dsimp only
    rw [if_neg (by decide), if_neg (by decide), if_neg (by decide), if_neg (by decide), if_neg (by decide), if_pos rfl, z4G, zA, z9o hx _ _ (by simp only [zD, szw, z8p, wIf, z0N, z9D, z0M, jY, wDo, z2B, wTo, List.length_cons, List.length_nil] at ho ⊢; omega), zA]
    simp
  | do_ =>
    obtain ⟨w1, rfl, x, ps', wx, w4, rfl, rfl, hx, w5, rfl, rfl, rfl⟩ := h
    dsimp only
    rw [if_neg (by decide), if_neg (by decide), if_neg (by decide), if_neg (by decide), if_neg (by decide), if_neg (by decide), if_pos rfl, z4G, zA, z9o hx _ _ (by simp only [zD, szw, z8p, wIf, z0N, z9D, z0M, jY, wDo, z2B, wTo, List.length_cons, List.length_nil] at ho ⊢; omega), zA]
    simp
  | set =>
    obtain ⟨x, ps', wx, w1, rfl, rfl, hx, w2, rfl, y, ps'', wy, w4, rfl, rfl, hy, w5, rfl, rfl, rfl⟩ := h
    dsimp only
    rw [if_neg (by decide), if_neg (by decide), if_neg (by decide), if_pos rfl, z4G, zA, z6W hx _ (by simp only [zD, szw, z8p, wIf, z0N, z9D, z0M, jY, wDo, z2B, wTo, List.length_cons, List.length_nil] at ho ⊢; omega), zA, y2L, zA, z9o hy _ _ (by simp only [zD, szw, z8p, wIf, z0N, z9D, z0M, jY, wDo, z2B, wTo, List.length_cons, List.length_nil] at ho ⊢; omega), zA]
    simp
def LnS : SC → List Str → Prop
  | .ss l, w => l.length ≤ szw w
  | .st _, w => 1 ≤ szw w
  | .bl _, w => 1 ≤ szw w
  | .fm its _ _, w => its = [] ∨ 1 ≤ szw w
theorem y3f {w : List Str} (h : w ≠ []) : 1 ≤ szw w := by
  cases w with
  | nil => exact absurd rfl h
  | cons x r => simp only [szw]; omega
theorem v2R {c : SC} {w : List Str} (h : PS c w) : LnS c w := by
  induction h with
  | blk _ _ => exact y3f (by simp)
  | ss0 => exact Nat.le_refl _
  | ssc _ _ ih1 ih2 => simp only [LnS, zD, List.length_cons] at ih1 ih2 ⊢; omega
  | stB _ ih => exact ih
  | stF hk _ _ ih =>
    simp only [LnS] at ih ⊢
    rcases ih with rfl | ih
    · cases hk
    · exact ih
  | f0 => exact .inl rfl
  | fW _ _ => exact .inr (y3f (by simp))
  | fS _ _ => exact .inr (y3f (by simp))
  | fN _ _ _ => exact .inr (y3f (by simp))
  | fX h _ _ => exact .inr (y3f (by have := z3h h; simp [this]))
  | fT h _ _ => exact .inr (y3f (by cases h <;> simp))
  | fK _ _ ih _ => simp only [LnS] at ih ⊢; rw [zD]; exact .inr (by omega)
  | fE1 _ _ ih _ => simp only [LnS] at ih ⊢; rw [zD]; exact .inr (by omega)
  | fE2 _ _ _ _ ih _ _ => simp only [LnS] at ih ⊢; rw [zD, zD]; exact .inr (by omega)
theorem y7W {c : SC} {w : List Str} (h : PS c w) : PPS c w := by
  induction h with
  | @blk l w F T hp ih =>
    refine ⟨by simp, fun out ho => ?_⟩
    have hz := v2S hp
    simp only [zD] at ho
    have hll : l.length ≤ 1000000000 := by have := v2R hp; simp only [LnS] at this; omega
    rw [z6x]; unfold jI
    rw [wC _ _ (by omega), zA]
    have := ih l 0 (out ++ [[123]]) (by simp) hll (by rw [zD, zD]; omega)
    rw [show print_writer_block_L3 l (l.length : Int) 0 (out ++ [[123]]) = _ from this]
    simp
  | ss0 =>
    intro L i out hd hL ho
    rw [z2j]; unfold uB
    have : L.length ≤ i := by have := congrArg List.length hd; simp at this; omega
    rw [if_neg (by omega), wC _ _ (by simpa using ho)]; rfl
  | @ssc x l w wl h1 h2 ih1 ih2 =>
    intro L i out hd hL ho
    rw [zD, zD] at ho
    have hlt : i < L.length := by
      have := congrArg List.length hd
      rw [List.length_drop, List.length_cons] at this; omega
    have hdd := List.drop_eq_getElem_cons hlt
    rw [hd] at hdd
    injection hdd with e1 e2
    rw [z2j]; unfold uB
    rw [if_pos (by omega), gF hlt, zA, ← e1, ih1 out (by omega), zA, uU (by omega) (by omega), wB, ih2 L (i + 1) _ e2.symm hL (by rw [zD, zD]; omega)]
    simp
  | @stB x w hb ih =>
    intro out ho
    have hK : x.K = 29 := by cases hb; rfl
    rw [z3x]; unfold uY
    rw [if_pos hK, ih.2 out ho]; rfl
  | stF hk _ _ ih => intro out ho; exact v3c hk ih out ho
  | f0 => exact ⟨rfl, rfl⟩
  | fW _ ih => exact ⟨_, rfl, ih⟩
  | fS _ ih => exact ⟨_, rfl, ih⟩
  | fN _ _ ih => exact ⟨_, rfl, ih⟩
  | fX h _ ih => exact ⟨_, _, _, _, rfl, rfl, h, ih⟩
  | fT h _ ih => exact ⟨_, _, _, _, rfl, rfl, h, ih⟩
  | fK _ _ ih1 ih2 => exact ⟨_, _, _, _, rfl, rfl, ih1.1, ih1.2, ih2⟩
  | @fE1 its x ps nm wx w F T _ _ ih1 ih2 => exact ⟨_, _, _, wx, [], w, rfl, by simp, ih1.1, ih1.2, .inl ⟨rfl, rfl⟩, ih2⟩
  | fE2 _ _ hy _ ih1 ih2 ih3 => exact ⟨_, _, _, _, _, _, rfl, by simp, ih1.1, ih1.2, .inr ⟨hy, _, rfl, ih2.1, ih2.2⟩, ih3⟩
theorem v2P {x : zF} {w : List Str} (h : PN x w) (out : List Str) (ho : szw out + szw w ≤ 1000000000) : wX x out = some (out ++ w) := by
  cases h with
  | mk h1 h2 => exact y4f h2 out ho
theorem z6o {l : List zF} {L : List zF} {i : Nat} {x : zF} (hd : L.drop i = x :: l) : ∃ h : i < L.length, L[i] = x ∧ L.drop (i + 1) = l := by
  have hlt : i < L.length := by
    have := congrArg List.length hd
    rw [List.length_drop, List.length_cons] at this; omega
  have hdd := List.drop_eq_getElem_cons hlt
  rw [hd] at hdd
  injection hdd with e1 e2
  exact ⟨hlt, e1.symm, e2.symm⟩
theorem v0d (L : List zF) (out : List Str) (i : Nat) (h : L.length ≤ i) : print_writer_list_writer_named_L1 L (L.length : Int) (i : Int) out = some out := by
  rw [gS]; unfold yN
  rw [if_neg (by omega)]
theorem y7S {L l : List zF} {i : Nat} {x : zF} {w : List Str} (hL : L.length ≤ 1000000000) (hx : PN x w) (h : L.drop i = x :: l) (out : List Str) (hs : szw out + szw (z8o i w) ≤ 1000000000) :
    print_writer_list_writer_named_L1 L (L.length : Int) (i : Int) out = print_writer_list_writer_named_L1 L (L.length : Int) ((i + 1 : Nat) : Int) (out ++ z8o i w) ∧ L.drop (i + 1) = l := by
  obtain ⟨hlt, e1, e2⟩ := z6o h
  refine ⟨?_, e2⟩
  conv => lhs; rw [gS]
  unfold yN
  unfold z8o at hs ⊢
  rw [if_pos (by omega), gF hlt, zA, e1]
  by_cases hi : i = 0
  · rw [if_pos hi] at hs ⊢
    rw [if_neg (by omega), v2P hx out hs, zA, uU (by omega) (by omega), wB]
  · rw [if_neg hi] at hs ⊢
    rw [zD] at hs
    rw [if_pos (by omega), wC _ _ (by omega), zA, v2P hx _ (by rw [zD]; omega), zA, uU (by omega) (by omega), wB, List.append_assoc]
theorem v3z {l : List zF} {w : List Str} (h : PNs l w) : ∀ (L : List zF) (i : Nat) (out : List Str), L.drop i = l → L.length ≤ 1000000000 → szw out + szw (z8o i w) ≤ 1000000000 → print_writer_list_writer_named_L1 L (L.length : Int) (i : Int) out = some (out ++ z8o i w) := by
  induction h with
  | one hx =>
    intro L i out hd hL hs
    obtain ⟨e1, e2⟩ := y7S hL hx hd out hs
    rw [e1, v0d _ _ _ (by have := congrArg List.length e2; simp at this; omega)]
  | @cons x l w wl hx _ ih =>
    intro L i out hd hL hs
    have e0 : z8o i (w ++ [[44]] ++ wl) = z8o i w ++ z8o (i + 1) wl := by unfold z8o; rw [if_neg (show ¬ i + 1 = 0 by omega)]; split <;> simp
    rw [e0, zD] at hs
    obtain ⟨e1, e2⟩ := y7S hL hx hd out (by omega)
    rw [e1, ih L (i + 1) _ e2 hL (by rw [zD]; omega), e0, List.append_assoc]
theorem v3x {l : List zF} {w : List Str} (h : PFs l w) : ∀ (L : List zF) (i : Nat) (out : List Str), L.drop i = l → L.length ≤ 1000000000 → szw out + szw (w ++ [[125]]) ≤ 1000000000 → print_writer_decl_L5 L (L.length : Int) (i : Int) out = some (out ++ (w ++ [[125]])) := by
  induction h with
  | nil =>
    intro L i out hd hL ho
    rw [z2A]; unfold uH
    have : L.length ≤ i := by have := congrArg List.length hd; simp at this; omega
    rw [if_neg (by omega), wC _ _ (by simpa using ho)]; rfl
  | @cons x l w wl hx _ ih =>
    intro L i out hd hL ho
    simp only [zD] at ho
    obtain ⟨hlt, e1, e2⟩ := z6o hd
    rw [z2A]; unfold uH
    rw [if_pos (by omega), gF hlt, zA, e1, v2P hx _ (by omega), zA, wC _ _ (by rw [zD]; omega), zA, uU (by omega) (by omega), wB, ih L (i + 1) _ e2 hL (by simp only [zD]; omega)]
    simp
theorem v2n {l : List zF} {w : List Str} (h : PNs l w) : l.length ≤ szw w := by
  induction h with
  | @one x w h => cases h; simp only [zD, szw, List.length_cons, List.length_nil]; omega
  | @cons x l w wl h _ ih => simp only [zD, szw, List.length_cons, List.length_nil]; omega
theorem v2m {l : List zF} {w : List Str} (h : PFs l w) : l.length ≤ szw w := by
  induction h with
  | nil => exact Nat.le_refl _
  | @cons x l w wl h _ ih => simp only [zD, szw, List.length_cons, List.length_nil]; omega
theorem v2D {x : zF} {w : List Str} (h : PD x w) (out : List Str) (ho : szw out + szw w ≤ 1000000000) : z0H x out = some (out ++ w) := by
  unfold z0H
  cases h with
  | @rcd s l w F T hn _ hf =>
    have hl := v2m hf
    simp only [zD] at ho
    dsimp only
    rw [if_pos rfl, wC _ _ (by omega), zA]
    have := v3x hf l 0 (out ++ [[114, 101, 99], s, [123]]) (by simp) (by omega) (by simp only [zD]; omega)
    rw [show print_writer_decl_L5 l (l.length : Int) 0 (out ++ [[114, 101, 99], s, [123]]) = _ from this]
    simp
  | @const s x w F T hn hp =>
    dsimp only
    rw [if_neg (by decide), if_pos rfl, z4G, zA, z9o hp.pr _ _ ho]; rfl
  | @var s x w F T hn ht =>
    have e : szw ([[118, 97, 114], s, [58]] ++ w ++ [[59]]) = szw [[118, 97, 114]] + (szw [s, [58]] + szw w) + szw [[59]] := by simp only [zD, szw]; omega
    rw [e] at ho
    dsimp only
    rw [if_neg (by decide), if_neg (by decide), if_pos rfl, wC _ _ (by omega), zA, y4f ht _ (by simp only [zD]; omega), zA, wC _ _ (by simp only [zD]; omega), zA]
    simp
  | @fn0 n s x y wx wy F T F' T' hn2 hn ht hb =>
    simp only [zD] at ho
    have hb' : ∀ out, szw out + szw wy ≤ 1000000000 → print_writer_block y out = some (out ++ wy) := (y7W hb).2
    dsimp only
    have p2 : zP ⟨33, n, s, [⟨35, 0, [], [], F', T'⟩, x, y], F, T⟩ 2 = some y := by unfold zP; rw [if_pos (by simp only [List.length_cons, List.length_nil]; omega)]; rfl
    have pl : ∀ out, yY [] out = some out := fun out => by unfold yY; exact v0d [] out 0 (by simp)
    rcases hn2 with rfl | rfl
    · rw [if_neg (show ¬ (0 : Int) = 1 by decide)] at ho ⊢
      rw [if_neg (by decide), if_neg (by decide), if_neg (by decide), if_pos rfl, if_neg (by decide), wC _ _ (by omega), zA, z4G, zA]
      dsimp only
      rw [pl, zA, wC _ _ (by simp only [zD]; omega), zA, y2L, zA, y1I ht _ (by simp only [zD]; omega), zA, p2, zA, hb' _ (by simp only [zD]; omega), zA]
      simp
    · rw [if_pos (show (1 : Int) = 1 by decide)] at ho ⊢
      rw [if_neg (by decide), if_neg (by decide), if_neg (by decide), if_pos rfl, if_pos rfl, wC _ _ (by omega), zA, wC _ _ (by simp only [zD]; omega), zA, z4G, zA]
      dsimp only
      rw [pl, zA, wC _ _ (by simp only [zD]; omega), zA, y2L, zA, y1I ht _ (by simp only [zD]; omega), zA, p2, zA, hb' _ (by simp only [zD]; omega), zA]
      simp
  | @fn n s l x y wl wx wy F T F' T' hn2 hn hp ht hb =>
    have hl := v2n hp
    simp only [zD] at ho
    have hb' : ∀ out, szw out + szw wy ≤ 1000000000 → print_writer_block y out = some (out ++ wy) := (y7W hb).2
    dsimp only
    have p2 : zP ⟨33, n, s, [⟨35, 0, [], l, F', T'⟩, x, y], F, T⟩ 2 = some y := by unfold zP; rw [if_pos (by simp only [List.length_cons, List.length_nil]; omega)]; rfl
    have pl : ∀ out, szw out + szw wl ≤ 1000000000 → yY l out = some (out ++ wl) := fun out h => by
      unfold yY
      exact v3z hp l 0 out (by simp) (by omega) h
    rcases hn2 with rfl | rfl
    · rw [if_neg (show ¬ (0 : Int) = 1 by decide)] at ho ⊢
      rw [if_neg (by decide), if_neg (by decide), if_neg (by decide), if_pos rfl, if_neg (by decide), wC _ _ (by omega), zA, z4G, zA]
      dsimp only
      rw [pl _ (by simp only [zD]; omega), zA, wC _ _ (by simp only [zD]; omega), zA, y2L, zA, y1I ht _ (by simp only [zD]; omega), zA, p2, zA, hb' _ (by simp only [zD]; omega), zA]
      simp
    · rw [if_pos (show (1 : Int) = 1 by decide)] at ho ⊢
      rw [if_neg (by decide), if_neg (by decide), if_neg (by decide), if_pos rfl, if_pos rfl, wC _ _ (by omega), zA, wC _ _ (by simp only [zD]; omega), zA, z4G, zA]
      dsimp only
      rw [pl _ (by simp only [zD]; omega), zA, wC _ _ (by simp only [zD]; omega), zA, y2L, zA, y1I ht _ (by simp only [zD]; omega), zA, p2, zA, hb' _ (by simp only [zD]; omega), zA]
      simp
def v1r : List Str → List Int → Int → Option Str
  | s :: ss, o :: os, op => if o = op then some s else v1r ss os op
  | _, _, _ => none
theorem rs6 (op level : Int) (signs : List Str) (ops : List Int) (h1 : ops.length = signs.length) (h2 : ops.length ≤ 100) : ∀ (k i : Nat), i + k = ops.length → vU op level signs ops (i : Int) = match v1r (signs.drop i) (ops.drop i) op with | some s => some s | none => vP op (IntKind.wrap .i64 (level + 1)) := by
  intro k
  induction k with
  | zero =>
    intro i hi
    rw [z6K]; unfold z0x
    rw [if_neg (by omega), List.drop_eq_nil_of_le (by omega), List.drop_eq_nil_of_le (by omega)]; rfl
  | succ k ih =>
    intro i hi
    have g1 : i < ops.length := by omega
    have g2 : i < signs.length := by omega
    rw [z6K]; unfold z0x
    rw [if_pos (by omega), gF g1, zA, List.drop_eq_getElem_cons g1, List.drop_eq_getElem_cons g2, v1r]
    by_cases hc : ops[i] = op
    · rw [if_pos hc, if_pos hc, gF g2]; rfl
    · rw [if_neg hc, if_neg hc, uU (by omega) (by omega), wB]
      exact ih (i + 1) (by omega)
theorem rs2 (op : Int) (l : Nat) (signs : List Str) (ops : List Int) (hl : l ≤ 5) (ho : z4q (l : Int) = some (signs, ops)) (h1 : ops.length = signs.length) (h2 : ops.length ≤ 100) : vP op (l : Int) = match v1r signs ops op with | some s => some s | none => vP op ((l + 1 : Nat) : Int) := by
  conv => lhs; rw [y1W]
  unfold z1d
  rw [if_pos (by omega), ho, zA]
  have := rs6 op (l : Int) signs ops h1 h2 ops.length 0 (by omega)
  rw [uU (by omega) (by omega), show ((l : Int) + 1) = ((l + 1 : Nat) : Int) by omega] at this
  exact this
theorem v0x {n : Int} (h1 : 1 ≤ n) (h2 : n ≤ 13) : z4O n = some (v0z n) := by
  unfold z4O
  have e1 := rs2 n 1 _ _ (by omega) rfl rfl (by decide)
  have e2 := rs2 n 2 _ _ (by omega) rfl rfl (by decide)
  have e3 := rs2 n 3 _ _ (by omega) rfl rfl (by decide)
  have e4 := rs2 n 4 _ _ (by omega) rfl rfl (by decide)
  have e5 := rs2 n 5 _ _ (by omega) rfl rfl (by decide)
  rw [show vP n 1 = _ from e1, e2, e3, e4, e5]
  rcases v1I h1 h2 with rfl | rfl | rfl | rfl | rfl | rfl | rfl | rfl | rfl | rfl | rfl | rfl | rfl <;> rfl
def v3L : List Int → Int → Bool
  | [], _ => false
  | o :: os, n => if o = n then true else v3L os n
theorem v4j (level : Int) (ops : List Int) (t : zF) (h2 : ops.length ≤ 100) : ∀ (k i : Nat), i + k = ops.length → yQ level ops (i : Int) t = if v3L (ops.drop i) t.N = true then some level else vC (IntKind.wrap .i64 (level + 1)) t := by
  intro k
  induction k with
  | zero =>
    intro i hi
    rw [z4N]; unfold gJ
    rw [if_neg (by omega), List.drop_eq_nil_of_le (by omega)]; rfl
  | succ k ih =>
    intro i hi
    have g1 : i < ops.length := by omega
    rw [z4N]; unfold gJ
    rw [if_pos (by omega), gF g1, zA, List.drop_eq_getElem_cons g1, v3L]
    by_cases hc : ops[i] = t.N
    · rw [if_pos hc, if_pos hc]; rfl
    · rw [if_neg hc, if_neg hc, uU (by omega) (by omega), wB]
      exact ih (i + 1) (by omega)
theorem rb6 (t : zF) (l : Nat) (signs : List Str) (ops : List Int) (hl : l ≤ 5) (ho : z4q (l : Int) = some (signs, ops)) (h2 : ops.length ≤ 100) : vC (l : Int) t = if v3L ops t.N = true then some (l : Int) else vC ((l + 1 : Nat) : Int) t := by
  conv => lhs; rw [y0y]
  unfold z0K
  rw [if_pos (by omega), ho, zA]
  have := v4j (l : Int) ops t h2 ops.length 0 (by omega)
  rw [uU (by omega) (by omega), show ((l : Int) + 1) = ((l + 1 : Nat) : Int) by omega] at this
  exact this
theorem v0n {n : Int} (h1 : 1 ≤ n) (h2 : n ≤ 13) (S : Str) (L : List zF) (F T : Int) : z2l ⟨10, n, S, L, F, T⟩ = some (z7i n : Int) := by
  unfold z2l; dsimp only
  rw [if_neg (by decide), if_pos rfl]
  have e1 := rb6 ⟨10, n, S, L, F, T⟩ 1 _ _ (by omega) rfl (by decide)
  have e2 := rb6 ⟨10, n, S, L, F, T⟩ 2 _ _ (by omega) rfl (by decide)
  have e3 := rb6 ⟨10, n, S, L, F, T⟩ 3 _ _ (by omega) rfl (by decide)
  have e4 := rb6 ⟨10, n, S, L, F, T⟩ 4 _ _ (by omega) rfl (by decide)
  have e5 := rb6 ⟨10, n, S, L, F, T⟩ 5 _ _ (by omega) rfl (by decide)
  rw [show vC 1 ⟨10, n, S, L, F, T⟩ = _ from e1, e2, e3, e4, e5]
  rcases v1I h1 h2 with rfl | rfl | rfl | rfl | rfl | rfl | rfl | rfl | rfl | rfl | rfl | rfl | rfl <;> rfl
theorem v2U {c : XC} {w : List Str} (h : PR c w) : match c with | .ex x => z2l x = some (bnd x : Int) | .ls _ => True := by
  cases h with
  | bin h1 h2 _ _ => exact v0n h1 h2 _ _ _ _
  | call h _ _ => rcases h with rfl | rfl | rfl <;> rfl
  | call0 h _ => rcases h with rfl | rfl <;> rfl
  | one _ => trivial
  | cons _ _ => trivial
  | _ => rfl
abbrev J (w : List Str) : Str := z1Y w [32]
theorem z3C {a b : List Str} (ha : a ≠ []) (hb : b ≠ []) : J (a ++ b) = J a ++ [32] ++ J b := by
  cases a with
  | nil => exact absurd rfl ha
  | cons x r =>
    cases b with
    | nil => exact absurd rfl hb
    | cons y s => simp [J, z1Y]
theorem z1D (w : Str) : J [w] = w := by simp [J, z1Y]
theorem z0R (w : List Str) : (J w).length ≤ szw w := by
  have tail : ∀ r : List Str, ((r.map (([32] : Str) ++ ·)).flatten).length = szw r := by
    intro r
    induction r with
    | nil => rfl
    | cons x r ih => simp [szw] at ih ⊢; omega
  cases w with
  | nil => simp [J, z1Y]
  | cons x r =>
    show (x ++ (r.map (([32] : Str) ++ ·)).flatten).length ≤ _
    rw [List.length_append, tail]; simp [szw]
theorem y9f {w : List Str} (h : w ≠ []) : (J w).length + 1 = szw w := by
  have tail : ∀ r : List Str, ((r.map (([32] : Str) ++ ·)).flatten).length = szw r := by
    intro r
    induction r with
    | nil => rfl
    | cons x r ih => simp [szw] at ih ⊢; omega
  cases w with
  | nil => exact absurd rfl h
  | cons x r =>
    show (x ++ (r.map (([32] : Str) ++ ·)).flatten).length + 1 = _
    rw [List.length_append, tail]; simp [szw]; omega
theorem y8E {k : Nat} {x : zF} {w : List Str} (h : w ≠ []) : hw k x w ≠ [] := by unfold hw; split <;> simp_all
theorem z4Q {x : zF} {w : List Str} (hp : PR (.ex x) w) (hs : szw w ≤ 1000000000) (hx : vE x = some (J w)) (least : Nat) : wP x (least : Int) = some (J (hw least x w)) := by
  have hb : z2l x = some (bnd x : Int) := v2U hp
  have hj := z0R w
  rw [y4l]; unfold z2n
  rw [hb, zA]
  unfold hw
  by_cases hc : least ≤ bnd x
  · rw [if_pos hc, if_neg (show ¬ (bnd x : Int) < (least : Int) by omega), hx]; rfl
  · rw [if_neg hc, if_pos (show (bnd x : Int) < (least : Int) by omega), hx, zA]
    have hn := z3h hp
    rw [if_pos (by simp only [List.length_append, List.length_cons, List.length_nil]; omega), if_pos (by simp only [List.length_append, List.length_cons, List.length_nil]; omega)]
    rw [z3C (by simp) (by simp), z3C (by simp) hn, z1D, z1D]; simp
def v1T (i : Nat) : Str := if i = 0 then [] else [32, 44]
def RPM : XC → List Str → Prop
  | .ex x, w => szw w ≤ 1000000000 → vE x = some (J w)
  | .ls l, w => ∀ (L : List zF) (i : Nat) (last out : Str), L.drop i = l → L.length ≤ 1000000000 → out.length + szw w + last.length ≤ 3000000000 → szw w ≤ 1000000000 → yS L last out (i : Int) = some (out ++ v1T i ++ [32] ++ J w ++ [32] ++ last)
theorem v2g (L : List zF) (last out : Str) (i : Nat) (h : L.length ≤ i) (hl : out.length + last.length ≤ 4000000000) : yS L last out (i : Int) = some (out ++ [32] ++ last) := by
  rw [z6J]; unfold z0w
  rw [if_neg (by omega), if_pos (by simp only [List.length_append, List.length_cons, List.length_nil]; omega), if_pos (by simp only [List.length_append, List.length_cons, List.length_nil]; omega)]
theorem y9h {L l : List zF} {i : Nat} {x : zF} {w : List Str} (hL : L.length ≤ 1000000000) (hx : vE x = some (J w)) (hw : szw w ≤ 1000000000) (h : L.drop i = x :: l) (last out : Str) (hs : out.length ≤ 4000000000) :
    yS L last out (i : Int) = yS L last (out ++ v1T i ++ [32] ++ J w) ((i + 1 : Nat) : Int) ∧ L.drop (i + 1) = l := by
  have hj := z0R w
  have hlt : i < L.length := by
    have := congrArg List.length h
    rw [List.length_drop, List.length_cons] at this; omega
  have hd := List.drop_eq_getElem_cons hlt
  rw [h] at hd
  injection hd with e1 e2
  refine ⟨?_, e2.symm⟩
  conv => lhs; rw [z6J]
  unfold z0w
  unfold v1T
  rw [if_pos (by omega)]
  by_cases hi : i = 0
  · rw [if_pos hi, if_neg (by omega), if_pos (by simp only [List.length_append, List.length_cons, List.length_nil]; omega), gF hlt, zA, ← e1, hx, zA, if_pos (by simp only [List.length_append, List.length_cons, List.length_nil]; omega), uU (by omega) (by omega), wB]
    simp
  · rw [if_neg hi, if_pos (by omega), if_pos (by simp only [List.length_append, List.length_cons, List.length_nil]; omega), if_pos (by simp only [List.length_append, List.length_cons, List.length_nil]; omega), gF hlt, zA, ← e1, hx, zA, if_pos (by simp only [List.length_append, List.length_cons, List.length_nil]; omega), uU (by omega) (by omega), wB]
theorem y7Y {l : List zF} {w : List Str} (ih : RPM (.ls l) w) (hl : l.length ≤ 1000000000) (hs : szw w ≤ 1000000000) (a b : Str) (ha : a.length ≤ 10) (hb : b.length ≤ 10) : jE l a b = some (a ++ [32] ++ J w ++ [32] ++ b) := by
  rw [z9X]; unfold z2d
  have := ih l 0 b a (by simp) hl (by omega) hs
  rw [show yS l b a 0 = _ from this]
  simp [v1T]
theorem v0m (a b : Str) (ha : a.length ≤ 10) (hb : b.length ≤ 10) : jE [] a b = some (a ++ [32] ++ b) := by
  rw [z9X]; unfold z2d
  exact v2g [] b a 0 (by simp) (by omega)
theorem z6N {c : XC} {w : List Str} (h : PR c w) : RPM c w := by
  induction h with
  | @num n F T h1 h2 =>
    intro ho
    rw [jD]; unfold uI; dsimp only
    rw [if_pos rfl, z9Z 19 (n : Int) (by omega) (by omega) (by omega) (by omega), zA, if_neg (show ¬ ((n : Int) < 0) by omega), List.nil_append, show ((n : Int)).natAbs = n by omega, z1D]
  | tru => intro ho; rw [jD]; unfold uI; dsimp only; rw [if_neg (by decide), if_pos rfl, if_pos rfl, z1D]
  | fal => intro ho; rw [jD]; unfold uI; dsimp only; rw [if_neg (by decide), if_pos rfl, if_neg (by decide), z1D]
  | rd => intro ho; rw [jD]; unfold uI; dsimp only; rw [if_neg (by decide), if_neg (by decide), if_pos rfl, z1D]
  | name _ => intro ho; rw [jD]; unfold uI; dsimp only; rw [if_neg (by decide), if_neg (by decide), if_neg (by decide), if_pos rfl, z1D]
  | @bin n x y wx wy F T h1 h2 p1 p2 ih1 ih2 =>
    intro ho
    rw [zD, zD] at ho
    have hl := v2l n
    have j1 := z0R (hw (y6a n) x wx)
    have j2 := z0R (hw (z7i n + 1) y wy)
    have j3 : (v0z n).length ≤ szw [v0z n] := by simp [szw]
    have w1 : szw wx ≤ szw (hw (y6a n) x wx) := by unfold hw; split <;> (try simp only [zD]) <;> omega
    have w2 : szw wy ≤ szw (hw (z7i n + 1) y wy) := by unfold hw; split <;> (try simp only [zD]) <;> omega
    have n1 := y8E (k := y6a n) (x := x) (z3h p1)
    have n2 := y8E (k := z7i n + 1) (x := y) (z3h p2)
    rw [jD]; unfold uI; dsimp only
    rw [if_neg (by decide), if_neg (by decide), if_neg (by decide), if_neg (by decide), if_pos rfl, v0n h1 h2, zA]
    have r1 : ∀ lf : Nat, lf = y6a n → wP x (lf : Int) = some (J (hw (y6a n) x wx)) := fun lf e => by rw [e]; exact z4Q p1 (by omega) (ih1 (by omega)) _
    have r2 : wP y (IntKind.wrap .i64 ((z7i n : Int) + 1)) = some (J (hw (z7i n + 1) y wy)) := by
      rw [uU (by omega) (by omega), show (z7i n : Int) + 1 = ((z7i n + 1 : Nat) : Int) by omega]; exact z4Q p2 (by omega) (ih2 (by omega)) _
    have fin : J (hw (y6a n) x wx ++ [v0z n] ++ hw (z7i n + 1) y wy) = J (hw (y6a n) x wx) ++ [32] ++ v0z n ++ [32] ++ J (hw (z7i n + 1) y wy) := by
      rw [z3C (by simp) n2, z3C n1 (by simp), z1D]
    by_cases h3 : z7i n = 3
    · rw [if_pos (show (z7i n : Int) = 3 by omega), show idx [x, y] 0 = some x from rfl, zA, show (4 : Int) = ((4 : Nat) : Int) from rfl, r1 4 (by unfold y6a; rw [if_pos h3]), zA,
        if_pos (by simp only [List.length_append, List.length_cons, List.length_nil]; omega), v0x h1 h2, zA, if_pos (by simp only [List.length_append, List.length_cons, List.length_nil]; omega), if_pos (by simp only [List.length_append, List.length_cons, List.length_nil]; omega),
        show idx [x, y] 1 = some y from rfl, zA, r2, zA, if_pos (by simp only [List.length_append, List.length_cons, List.length_nil]; omega), fin]
    · rw [if_neg (show ¬ (z7i n : Int) = 3 by omega), show idx [x, y] 0 = some x from rfl, zA, r1 (z7i n) (by unfold y6a; rw [if_neg h3]), zA,
        if_pos (by simp only [List.length_append, List.length_cons, List.length_nil]; omega), v0x h1 h2, zA, if_pos (by simp only [List.length_append, List.length_cons, List.length_nil]; omega), if_pos (by simp only [List.length_append, List.length_cons, List.length_nil]; omega),
        show idx [x, y] 1 = some y from rfl, zA, r2, zA, if_pos (by simp only [List.length_append, List.length_cons, List.length_nil]; omega), fin]
  | @neg x wx F T p1 ih1 =>
    intro ho
    rw [zD] at ho
    have j1 := z0R (hw 6 x wx)
    have w1 : szw wx ≤ szw (hw 6 x wx) := by unfold hw; split <;> (try simp only [zD]) <;> omega
    rw [jD]; unfold uI; dsimp only
    rw [if_neg (by decide), if_neg (by decide), if_neg (by decide), if_neg (by decide), if_neg (by decide), if_pos rfl, if_pos rfl, show idx [x] 0 = some x from rfl, zA, show (6 : Int) = ((6 : Nat) : Int) from rfl, z4Q p1 (by omega) (ih1 (by omega)), zA, if_pos (by simp only [List.length_append, List.length_cons, List.length_nil]; omega),
      z3C (by simp) (y8E (z3h p1)), z1D]; simp
  | @not x wx F T p1 ih1 =>
    intro ho
    rw [zD] at ho
    have j1 := z0R (hw 6 x wx)
    have w1 : szw wx ≤ szw (hw 6 x wx) := by unfold hw; split <;> (try simp only [zD]) <;> omega
    rw [jD]; unfold uI; dsimp only
    rw [if_neg (by decide), if_neg (by decide), if_neg (by decide), if_neg (by decide), if_neg (by decide), if_pos rfl, if_neg (by decide), show idx [x] 0 = some x from rfl, zA, show (6 : Int) = ((6 : Nat) : Int) from rfl, z4Q p1 (by omega) (ih1 (by omega)), zA, if_pos (by simp only [List.length_append, List.length_cons, List.length_nil]; omega),
      z3C (by simp) (y8E (z3h p1)), z1D]; simp
  | @index x i wx wi F T p1 p2 ih1 ih2 =>
    intro ho
    rw [zD, zD, zD] at ho
    have j1 := z0R (hw 7 x wx)
    have j2 := z0R wi
    have w1 : szw wx ≤ szw (hw 7 x wx) := by unfold hw; split <;> (try simp only [zD]) <;> omega
    rw [jD]; unfold uI; dsimp only
    rw [if_neg (by decide), if_neg (by decide), if_neg (by decide), if_neg (by decide), if_neg (by decide), if_neg (by decide), if_pos rfl, show idx [x, i] 0 = some x from rfl, zA, show (7 : Int) = ((7 : Nat) : Int) from rfl, z4Q p1 (by omega) (ih1 (by omega)), zA, if_pos (by simp only [List.length_append, List.length_cons, List.length_nil]; omega),
      show idx [x, i] 1 = some i from rfl, zA, ih2 (by omega), zA, if_pos (by simp only [List.length_append, List.length_cons, List.length_nil]; omega), if_pos (by simp only [List.length_append, List.length_cons, List.length_nil]; omega),
      z3C (by simp) (by simp), z3C (by simp) (z3h p2), z3C (y8E (z3h p1)) (by simp), z1D, z1D]; simp
  | @field s x wx F T p0 p1 ih1 =>
    intro ho
    rw [zD] at ho
    simp only [szw, List.length_cons, List.length_nil] at ho
    have j1 := z0R (hw 7 x wx)
    have w1 : szw wx ≤ szw (hw 7 x wx) := by unfold hw; split <;> (try simp only [zD]) <;> omega
    rw [jD]; unfold uI; dsimp only
    rw [if_neg (by decide), if_neg (by decide), if_neg (by decide), if_neg (by decide), if_neg (by decide), if_neg (by decide), if_neg (by decide), if_pos rfl, show idx [x] 0 = some x from rfl, zA, show (7 : Int) = ((7 : Nat) : Int) from rfl, z4Q p1 (by omega) (ih1 (by omega)), zA, if_pos (by simp only [List.length_append, List.length_cons, List.length_nil]; omega),
      if_pos (by simp only [List.length_append, List.length_cons, List.length_nil]; omega), z3C (y8E (z3h p1)) (by simp), show ([[46], s] : List Str) = [[46]] ++ [s] from rfl, z3C (by simp) (by simp), z1D, z1D]; simp
  | @lis l w F T p1 ih1 =>
    intro ho
    rw [zD, zD] at ho
    have hl : l.length ≤ w.length := y7P p1
    have hw1 := z8f w
    rw [jD]; unfold uI; dsimp only
    rw [if_neg (by decide), if_neg (by decide), if_neg (by decide), if_neg (by decide), if_neg (by decide), if_neg (by decide), if_neg (by decide), if_neg (by decide), if_pos rfl, y7Y ih1 (by omega) (by omega) _ _ (by decide) (by decide), zA,
      z3C (by simp) (by simp), z3C (by simp) (z3h p1), z1D, z1D]
  | @call k s l w F T hk p0 p1 ih1 =>
    intro ho
    rw [zD, zD, zD] at ho
    have hl : l.length ≤ w.length := y7P p1
    have hw1 := z8f w
    have j1 := z0R w
    have ar := y7Y ih1 (by omega) (by omega) [40] [41] (by decide) (by decide)
    have hs : s.length ≤ szw (y1T k s) := by unfold y1T; (repeat' split) <;> simp only [szw] <;> omega
    rw [jD]; unfold uI
    have fin : ∀ p, y1T k s = p → p ≠ [] → J (y1T k s ++ [[40]] ++ w ++ [[41]]) = J p ++ [32] ++ ([40] ++ [32] ++ J w ++ [32] ++ [41]) := fun p e hp => by
      rw [e, z3C (by simp) (by simp), z3C (by simp) (z3h p1), z3C hp (by simp), z1D, z1D]; simp
    rcases hk with rfl | rfl | rfl
    · dsimp only
      rw [if_neg (by decide), if_neg (by decide), if_neg (by decide), if_neg (by decide), if_neg (by decide), if_neg (by decide), if_neg (by decide), if_neg (by decide), if_neg (by decide), if_neg (by decide), if_pos rfl, if_pos (by simp only [List.length_append, List.length_cons, List.length_nil]; omega), if_pos (by simp only [List.length_append, List.length_cons, List.length_nil]; omega), ar, zA, if_pos (by simp only [List.length_append, List.length_cons, List.length_nil]; omega), fin [[110, 101, 119], s] rfl (by simp),
        show ([[110, 101, 119], s] : List Str) = [[110, 101, 119]] ++ [s] from rfl, z3C (by simp) (by simp), z1D, z1D]; simp
    · dsimp only
      rw [if_neg (by decide), if_neg (by decide), if_neg (by decide), if_neg (by decide), if_neg (by decide), if_neg (by decide), if_neg (by decide), if_neg (by decide), if_neg (by decide), if_neg (by decide), if_neg (by decide), if_pos (by simp only [List.length_append, List.length_cons, List.length_nil]; omega), ar, zA, if_pos (by simp only [List.length_append, List.length_cons, List.length_nil]; omega), fin [s] rfl (by simp), z1D]
    · dsimp only
      rw [if_neg (by decide), if_neg (by decide), if_neg (by decide), if_neg (by decide), if_neg (by decide), if_neg (by decide), if_neg (by decide), if_neg (by decide), if_neg (by decide), if_pos rfl, if_pos (by simp only [List.length_append, List.length_cons, List.length_nil]; omega), if_pos (by simp only [List.length_append, List.length_cons, List.length_nil]; omega), ar, zA, if_pos (by simp only [List.length_append, List.length_cons, List.length_nil]; omega), fin [[64], s] rfl (by simp),
        show ([[64], s] : List Str) = [[64]] ++ [s] from rfl, z3C (by simp) (by simp), z1D, z1D]; simp
  | @call0 k s F T hk p0 =>
    intro ho
    rw [zD, zD, zD] at ho
    have ar := v0m [40] [41] (by decide) (by decide)
    have hs : s.length ≤ szw (y1T k s) := by unfold y1T; (repeat' split) <;> simp only [szw] <;> omega
    rw [jD]; unfold uI
    have fin : ∀ p, y1T k s = p → p ≠ [] → J (y1T k s ++ [[40]] ++ [] ++ [[41]]) = J p ++ [32] ++ ([40] ++ [32] ++ [41]) := fun p e hp => by
      rw [e, List.append_nil, z3C (by simp) (by simp), z3C hp (by simp), z1D, z1D]; simp
    rcases hk with rfl | rfl
    · dsimp only
      rw [if_neg (by decide), if_neg (by decide), if_neg (by decide), if_neg (by decide), if_neg (by decide), if_neg (by decide), if_neg (by decide), if_neg (by decide), if_neg (by decide), if_neg (by decide), if_neg (by decide), if_pos (by simp only [List.length_append, List.length_cons, List.length_nil]; omega), ar, zA, if_pos (by simp only [List.length_append, List.length_cons, List.length_nil]; omega), fin [s] rfl (by simp), z1D]
    · dsimp only
      rw [if_neg (by decide), if_neg (by decide), if_neg (by decide), if_neg (by decide), if_neg (by decide), if_neg (by decide), if_neg (by decide), if_neg (by decide), if_neg (by decide), if_pos rfl, if_pos (by simp only [List.length_append, List.length_cons, List.length_nil]; omega), if_pos (by simp only [List.length_append, List.length_cons, List.length_nil]; omega), ar, zA, if_pos (by simp only [List.length_append, List.length_cons, List.length_nil]; omega), fin [[64], s] rfl (by simp),
        show ([[64], s] : List Str) = [[64]] ++ [s] from rfl, z3C (by simp) (by simp), z1D, z1D]; simp
  | @one x w p1 ih1 =>
    intro L i last out hd hL hs hw
    have hj := z0R w
    obtain ⟨e1, e2⟩ := y9h hL (ih1 hw) hw hd last out (by omega)
    have hsp : (v1T i).length ≤ 2 := by unfold v1T; split <;> simp
    rw [e1, v2g _ _ _ _ (by have := congrArg List.length e2; simp at this; omega) (by simp only [List.length_append, List.length_cons, List.length_nil]; omega)]
  | @cons x l w wl p1 p2 ih1 ih2 =>
    intro L i last out hd hL hs hw
    rw [zD, zD] at hs hw
    simp only [szw, List.length_cons, List.length_nil] at hs hw
    have hj := z0R w
    have hj2 := z0R wl
    have hsp : (v1T i).length ≤ 2 := by unfold v1T; split <;> simp
    obtain ⟨e1, e2⟩ := y9h hL (ih1 (by omega)) (by omega) hd last out (by omega)
    have h9 := y9f (z3h p1)
    rw [e1, ih2 L (i + 1) last _ e2 hL (by simp only [List.length_append, List.length_cons, List.length_nil]; omega) (by omega), z3C (by simp) (z3h p2), z3C (z3h p1) (by simp), z1D]
    simp [v1T]
theorem j1 (x : Str) : z1Y [x] [32] = x := by simp [z1Y]
theorem jC (x : Str) {r : List Str} (h : r ≠ []) : z1Y (x :: r) [32] = x ++ 32 :: z1Y r [32] := by
  cases r with
  | nil => exact absurd rfl h
  | cons y s => simp [z1Y]
theorem jA {a b : List Str} (ha : a ≠ []) (hb : b ≠ []) : z1Y (a ++ b) [32] = z1Y a [32] ++ 32 :: z1Y b [32] := by
  have := z3C ha hb; simpa using this
def JS (w : List Str) : Str := (w.map (· ++ [32])).flatten
def JB (w : List Str) : Str := (w.map (([32] : Str) ++ ·)).flatten
theorem v2e (a b : List Str) : JS (a ++ b) = JS a ++ JS b := by simp [JS]
theorem y9d (a b : List Str) : JB (a ++ b) = JB a ++ JB b := by simp [JB]
theorem v2d (w : List Str) : (JB w).length = szw w := by
  induction w with
  | nil => rfl
  | cons x r ih => simp [JB, szw] at ih ⊢; omega
theorem v2r {w : List Str} (h : w ≠ []) : JS w = z1Y w [32] ++ [32] := by
  induction w with
  | nil => exact absurd rfl h
  | cons x r ih =>
    cases r with
    | nil => simp [JS, z1Y]
    | cons y s =>
      rw [jC _ (by simp)]
      have := ih (by simp)
      simp only [JS, List.map_cons, List.flatten_cons] at this ⊢
      rw [this]; simp
theorem v1c {w : List Str} (h : w ≠ []) : JB w = 32 :: z1Y w [32] := by
  cases w with
  | nil => exact absurd rfl h
  | cons x r => simp [JB, z1Y]
theorem y9e (a : Str) (w : List Str) (b : Str) : z1Y ([a] ++ w ++ [b]) [32] = a ++ 32 :: (JS w ++ b) := by
  cases w with
  | nil => simp [z1Y, JS]
  | cons x r =>
    rw [v2r (by simp), List.append_assoc, jA (by simp) (by simp), jA (by simp) (by simp), j1, j1]; simp
theorem z9w {x : zF} {w : List Str} (h : PT x w) : szw w ≤ 1000000000 → uD x = some (J w) := by
  induction h with
  | int => intro _; rw [z4r]; unfold z0Y; dsimp only; rw [if_pos rfl, z1D]
  | bool => intro _; rw [z4r]; unfold z0Y; dsimp only; rw [if_neg (by decide), if_pos rfl, z1D]
  | rcd _ => intro _; rw [z4r]; unfold z0Y; dsimp only; rw [if_neg (by decide), if_neg (by decide), if_neg (by decide), z1D]
  | @arr n x w F T h1 h2 h3 ih =>
    intro hs
    rw [zD] at hs
    simp only [szw, List.length_cons, List.length_nil] at hs
    have hj := z0R w
    have hne : w ≠ [] := by cases h3 <;> simp
    rw [z4r]; unfold z0Y; dsimp only
    rw [if_neg (by decide), if_neg (by decide), if_pos rfl, z9Z 19 (n : Int) (by omega) (by omega) (by omega) (by omega), zA, if_neg (show ¬ ((n : Int) < 0) by omega), List.nil_append, show ((n : Int)).natAbs = n by omega,
      if_pos (by simp only [List.length_append, List.length_cons, List.length_nil]; omega), if_pos (by simp only [List.length_append, List.length_cons, List.length_nil]; omega), show idx [x] 0 = some x from rfl, zA, ih (by omega), zA, if_pos (by simp only [List.length_append, List.length_cons, List.length_nil]; omega)]
    simp [jC, hne]
def BKr (x : zF) (w : List Str) : Prop := szw w ≤ 1000000000 → wO x = some (J w)
def RPS : SC → List Str → Prop
  | .st x, w => szw w ≤ 1000000000 → gD x = some (J w)
  | .bl x, w => w ≠ [] ∧ BKr x w
  | .ss l, w => ∀ (t : zF) (i : Nat) (out : Str), t.L.drop i = l → t.L.length ≤ 1000000000 → out.length + szw w ≤ 2000000000 → szw w ≤ 1000000000 → vD out (i : Int) t = some (out ++ JS w ++ [125])
  | .fm its ps nm, w => FMM BKr its ps nm w
theorem v1P {k : Int} {its : List It} {ps : List zF} {nm : Str} {w : List Str} {F T : Int} (hk : FK k its) (h : FMM BKr its ps nm w) (ho : szw w ≤ 1000000000) : gD ⟨k, 0, nm, ps, F, T⟩ = some (J w) := by
  rw [z9Y]; unfold z2e
  cases hk with
  | new =>
    obtain ⟨w1, rfl, w2, rfl, w3, rfl, x, ps', wx, w4, rfl, rfl, hx, w5, rfl, rfl, rfl⟩ := h
    simp only [zD, szw, z8p, List.length_cons, List.length_nil] at ho
    have hj := z0R wx
    have hne : wx ≠ [] := by cases hx <;> simp
    dsimp only
    rw [if_neg (by decide), if_pos rfl, if_pos (by simp only [List.length_append, List.length_cons, List.length_nil]; omega), if_pos (by simp only [List.length_append, List.length_cons, List.length_nil]; omega), show idx [x] 0 = some x from rfl, zA, z9w hx (by omega), zA, if_pos (by simp only [List.length_append, List.length_cons, List.length_nil]; omega), if_pos (by simp only [List.length_append, List.length_cons, List.length_nil]; omega)]
    simp [jC, jA, j1, hne]
  | let_ =>
    obtain ⟨w1, rfl, w2, rfl, w3, rfl, x, ps', wx, w4, rfl, rfl, hx, w5, rfl, rfl, rfl⟩ := h
    simp only [zD, szw, z8p, List.length_cons, List.length_nil] at ho
    have hj := z0R wx
    have hne := z3h hx
    dsimp only
    rw [if_neg (by decide), if_neg (by decide), show idx [x] 0 = some x from rfl, zA, z6N hx (by omega), zA, if_pos rfl, if_pos (by simp only [List.length_append, List.length_cons, List.length_nil]; omega), if_pos (by simp only [List.length_append, List.length_cons, List.length_nil]; omega), if_pos (by simp only [List.length_append, List.length_cons, List.length_nil]; omega), if_pos (by simp only [List.length_append, List.length_cons, List.length_nil]; omega)]
    simp [jC, jA, j1, hne]
  | if_ =>
    obtain ⟨w1, rfl, x, ps', wx, w2, rfl, rfl, hx, y, z, ps'', wy, wz, w3, rfl, rfl, ny, hy, hz, rfl, rfl⟩ := h
    simp only [zD, szw, wIf, List.length_cons, List.length_nil] at ho
    have hj := z0R wx
    have hj2 := z0R wy
    have hne := z3h hx
    dsimp only
    rw [if_neg (by decide), if_neg (by decide), show idx [x, y, z] 0 = some x from rfl, zA, z6N hx (by omega), zA, if_neg (by decide), if_neg (by decide), if_neg (by decide), if_neg (by decide), if_neg (by decide), if_neg (by decide), if_neg (by decide),
      if_pos (by simp only [List.length_append, List.length_cons, List.length_nil]; omega), if_pos (by simp only [List.length_append, List.length_cons, List.length_nil]; omega), show idx [x, y, z] 1 = some y from rfl, zA, hy (by omega), zA, if_pos (by simp only [List.length_append, List.length_cons, List.length_nil]; omega), show idx [x, y, z] 2 = some z from rfl, zA, zA]
    rcases hz with ⟨hz, rfl⟩ | ⟨hz, wq, rfl, nq, hq⟩
    · rw [hz, if_neg (by decide)]; simp [jC, jA, j1, hne, ny]
    · have hpos : (List.length z.L : Int) > 0 := by cases hl : z.L with
        | nil => exact absurd hl hz
        | cons a b => simp only [List.length_cons]; omega
      simp only [zD, szw, List.length_cons, List.length_nil] at ho
      have hj3 := z0R wq
      rw [if_pos hpos, if_pos (by simp only [List.length_append, List.length_cons, List.length_nil]; omega), hq (by omega), zA, if_pos (by simp only [List.length_append, List.length_cons, List.length_nil]; omega)]
      simp [jC, jA, j1, hne, ny, nq]
  | «while» =>
    obtain ⟨w1, rfl, x, ps', wx, w2, rfl, rfl, hx, y, ps'', wy, w3, rfl, rfl, ny, hy, rfl, rfl⟩ := h
    simp only [zD, szw, z0N, List.length_cons, List.length_nil] at ho
    have hj := z0R wx
    have hj2 := z0R wy
    have hne := z3h hx
    dsimp only
    rw [if_neg (by decide), if_neg (by decide), show idx [x, y] 0 = some x from rfl, zA, z6N hx (by omega), zA, if_neg (by decide), if_neg (by decide), if_neg (by decide), if_neg (by decide), if_neg (by decide), if_pos rfl,
      if_pos (by simp only [List.length_append, List.length_cons, List.length_nil]; omega), if_pos (by simp only [List.length_append, List.length_cons, List.length_nil]; omega), show idx [x, y] 1 = some y from rfl, zA, hy (by omega), zA, if_pos (by simp only [List.length_append, List.length_cons, List.length_nil]; omega)]
    simp [jC, jA, j1, hne, ny]
  | «for» =>
    obtain ⟨w1, rfl, w2, rfl, w3, rfl, x, ps', wx, w4, rfl, rfl, hx, w5, rfl, y, ps'', wy, w6, rfl, rfl, hy, z, ps3, wz, w7, rfl, rfl, nz, hz, rfl, rfl⟩ := h
    simp only [zD, szw, z9D, wTo, List.length_cons, List.length_nil] at ho
    have hj := z0R wx
    have hj2 := z0R wy
    have hj3 := z0R wz
    have hne := z3h hx
    have hne2 := z3h hy
    dsimp only
    rw [if_neg (by decide), if_neg (by decide), show idx [x, y, z] 0 = some x from rfl, zA, z6N hx (by omega), zA, if_neg (by decide), if_neg (by decide), if_neg (by decide), if_neg (by decide), if_neg (by decide), if_neg (by decide), if_pos rfl,
      if_pos (by simp only [List.length_append, List.length_cons, List.length_nil]; omega), if_pos (by simp only [List.length_append, List.length_cons, List.length_nil]; omega), if_pos (by simp only [List.length_append, List.length_cons, List.length_nil]; omega), if_pos (by simp only [List.length_append, List.length_cons, List.length_nil]; omega),
      show idx [x, y, z] 1 = some y from rfl, zA, z6N hy (by omega), zA, if_pos (by simp only [List.length_append, List.length_cons, List.length_nil]; omega), if_pos (by simp only [List.length_append, List.length_cons, List.length_nil]; omega), show idx [x, y, z] 2 = some z from rfl, zA, hz (by omega), zA, if_pos (by simp only [List.length_append, List.length_cons, List.length_nil]; omega)]
    simp [jC, jA, j1, hne, hne2, nz]
  | print =>
    obtain ⟨w1, rfl, x, ps', wx, w4, rfl, rfl, hx, w5, rfl, rfl, rfl⟩ := h
    simp only [zD, szw, z0M, List.length_cons, List.length_nil] at ho
    have hj := z0R wx
    have hne := z3h hx
    dsimp only
    rw [if_neg (by decide), if_neg (by decide), show idx [x] 0 = some x from rfl, zA, z6N hx (by omega), zA, if_neg (by decide), if_neg (by decide), if_pos rfl, if_pos (by simp only [List.length_append, List.length_cons, List.length_nil]; omega), if_pos (by simp only [List.length_append, List.length_cons, List.length_nil]; omega)]
    simp [jC, jA, j1, hne]
  | ret =>
    obtain ⟨w1, rfl, x, ps', wx, w4, rfl, rfl, hx, w5, rfl, rfl, rfl⟩ := h
    simp only [zD, szw, jY, List.length_cons, List.length_nil] at ho
    have hj := z0R wx
    have hne := z3h hx
    dsimp only
    rw [if_neg (by decide), if_neg (by decide), show idx [x] 0 = some x from rfl, zA, z6N hx (by omega), zA, if_neg (by decide), if_neg (by decide), if_neg (by decide), if_pos rfl, if_pos (by simp only [List.length_append, List.length_cons, List.length_nil]; omega), if_pos (by simp only [List.length_append, List.length_cons, List.length_nil]; omega)]
    simp [jC, jA, j1, hne]
  | do_ =>
    obtain ⟨w1, rfl, x, ps', wx, w4, rfl, rfl, hx, w5, rfl, rfl, rfl⟩ := h
    simp only [zD, szw, wDo, List.length_cons, List.length_nil] at ho
    have hj := z0R wx
    have hne := z3h hx
    dsimp only
    rw [if_neg (by decide), if_neg (by decide), show idx [x] 0 = some x from rfl, zA, z6N hx (by omega), zA, if_neg (by decide), if_neg (by decide), if_neg (by decide), if_neg (by decide), if_pos rfl, if_pos (by simp only [List.length_append, List.length_cons, List.length_nil]; omega), if_pos (by simp only [List.length_append, List.length_cons, List.length_nil]; omega)]
    simp [jC, jA, j1, hne]
  | set =>
    obtain ⟨x, ps', wx, w1, rfl, rfl, hx, w2, rfl, y, ps'', wy, w4, rfl, rfl, hy, w5, rfl, rfl, rfl⟩ := h
    simp only [zD, szw, List.length_cons, List.length_nil] at ho
    have hj := z0R wx
    have hj2 := z0R wy
    have hne := z3h hx
    have hne2 := z3h hy
    dsimp only
    rw [if_neg (by decide), if_neg (by decide), show idx [x, y] 0 = some x from rfl, zA, z6N hx (by omega), zA, if_neg (by decide), if_pos rfl, if_pos (by simp only [List.length_append, List.length_cons, List.length_nil]; omega), show idx [x, y] 1 = some y from rfl, zA, z6N hy (by omega), zA, if_pos (by simp only [List.length_append, List.length_cons, List.length_nil]; omega), if_pos (by simp only [List.length_append, List.length_cons, List.length_nil]; omega)]
    simp [jC, jA, j1, hne, hne2]
theorem v3Z {x : zF} {w : List Str} (h : PS (.st x) w) : w ≠ [] := by
  have := v2R h
  simp only [LnS] at this
  rintro rfl
  simp [szw] at this
theorem v0r {c : SC} {w : List Str} (h : PS c w) : RPS c w := by
  induction h with
  | @blk l w F T hp ih =>
    refine ⟨by simp, fun ho => ?_⟩
    have hz := v2R hp
    simp only [LnS] at hz
    simp only [zD] at ho
    rw [y4k]; unfold z2m
    have := ih ⟨29, 0, [], l, F, T⟩ 0 [123, 32] (by simp) (by show l.length ≤ _; omega) (by simp only [List.length_cons, List.length_nil]; omega) (by omega)
    rw [show vD [123, 32] 0 ⟨29, 0, [], l, F, T⟩ = _ from this]
    show _ = some (z1Y ([[123]] ++ w ++ [[125]]) [32])
    rw [y9e]; simp
  | ss0 =>
    intro t i out hd hL ho hw
    rw [z5C]; unfold z0d
    have : t.L.length ≤ i := by have := congrArg List.length hd; simp at this; omega
    rw [if_neg (by omega), if_pos (by simp only [List.length_cons, List.length_nil]; omega)]
    simp [JS]
  | @ssc x l w wl h1 h2 ih1 ih2 =>
    intro t i out hd hL ho hw
    rw [zD] at ho hw
    have hj := z0R w
    have hne := v3Z h1
    have hlt : i < t.L.length := by
      have := congrArg List.length hd
      rw [List.length_drop, List.length_cons] at this; omega
    have hdd := List.drop_eq_getElem_cons hlt
    rw [hd] at hdd
    injection hdd with e1 e2
    have hj1 := y9f hne
    rw [z5C]; unfold z0d
    rw [if_pos (by omega), gF hlt, zA, ← e1, ih1 (by omega), zA, if_pos (by omega), if_pos (by simp only [List.length_append, List.length_cons, List.length_nil]; omega), uU (by omega) (by omega), wB, ih2 t (i + 1) _ e2.symm hL (by simp only [List.length_append, List.length_cons, List.length_nil]; omega) (by omega), v2e, v2r hne]
    simp
  | @stB x w hb ih =>
    intro ho
    have hK : x.K = 29 := by cases hb; rfl
    rw [z9Y]; unfold z2e
    rw [if_pos hK, ih.2 ho]; rfl
  | stF hk _ _ ih => intro ho; exact v1P hk ih ho
  | f0 => exact ⟨rfl, rfl⟩
  | fW _ ih => exact ⟨_, rfl, ih⟩
  | fS _ ih => exact ⟨_, rfl, ih⟩
  | fN _ _ ih => exact ⟨_, rfl, ih⟩
  | fX h _ ih => exact ⟨_, _, _, _, rfl, rfl, h, ih⟩
  | fT h _ ih => exact ⟨_, _, _, _, rfl, rfl, h, ih⟩
  | fK _ _ ih1 ih2 => exact ⟨_, _, _, _, rfl, rfl, ih1.1, ih1.2, ih2⟩
  | @fE1 its x ps nm wx w F T _ _ ih1 ih2 => exact ⟨_, _, _, wx, [], w, rfl, by simp, ih1.1, ih1.2, .inl ⟨rfl, rfl⟩, ih2⟩
  | fE2 _ _ hy _ ih1 ih2 ih3 => exact ⟨_, _, _, _, _, _, rfl, by simp, ih1.1, ih1.2, .inr ⟨hy, _, rfl, ih2.1, ih2.2⟩, ih3⟩
theorem y7f {x : zF} {w : List Str} (h : PT x w) : w ≠ [] := by cases h <;> simp
theorem v3W {l : List zF} {w : List Str} (h : PFs l w) : ∀ (t : zF) (i : Nat) (out : Str), t.L.drop i = l → t.L.length ≤ 1000000000 → out.length + szw w ≤ 2000000000 → szw w ≤ 1000000000 → wA out (i : Int) t = some (out ++ JS w ++ [125]) := by
  induction h with
  | nil =>
    intro t i out hd hL ho hw
    rw [z6I]; unfold z0v
    have : t.L.length ≤ i := by have := congrArg List.length hd; simp at this; omega
    rw [if_neg (by omega), if_pos (by simp only [List.length_cons, List.length_nil]; omega)]
    simp [JS]
  | @cons x l w wl hx _ ih =>
    intro t i out hd hL ho hw
    cases hx with
    | @mk s y wy F T hn ht =>
      simp only [zD, szw, List.length_cons, List.length_nil] at ho hw
      have hj := z0R wy
      have hj1 := y9f (y7f ht)
      obtain ⟨hlt, e1, e2⟩ := z6o hd
      rw [z6I]; unfold z0v
      rw [if_pos (by omega), gF hlt, zA, e1]
      dsimp only
      rw [if_pos (by omega), if_pos (by simp only [List.length_append, List.length_cons, List.length_nil]; omega), zA, show idx [y] 0 = some y from rfl, zA, z9w ht (by omega), zA, if_pos (by simp only [List.length_append, List.length_cons, List.length_nil]; omega), if_pos (by simp only [List.length_append, List.length_cons, List.length_nil]; omega), uU (by omega) (by omega), wB, ih t (i + 1) _ e2 hL (by simp only [List.length_append, List.length_cons, List.length_nil]; omega) (by omega)]
      simp only [v2e, v2r (y7f ht)]
      simp [JS]
def tlF (wx wy : List Str) : Str := [32, 41, 32, 58, 32] ++ z1Y wx [32] ++ [32] ++ z1Y wy [32]
theorem v2i {k n : Int} {s : Str} {p x y : zF} {wx wy : List Str} {F T : Int} (ht : PT x wx) (hb : PS (.bl y) wy) (h1 : szw wx ≤ 1000000000) (h2 : szw wy ≤ 1000000000) (i : Nat) (hi : p.L.length ≤ i) (out : Str) (ho : out.length ≤ 3000000000) :
    yI out (i : Int) ⟨k, n, s, [p, x, y], F, T⟩ = some (out ++ tlF wx wy) := by
  have hj := z0R wx
  have hj2 := z0R wy
  have hb' : szw wy ≤ 1000000000 → wO y = some (J wy) := (v0r hb).2
  rw [z5D]; unfold z0e; dsimp only
  rw [show idx [p, x, y] 0 = some p from rfl, zA, if_neg (by omega), if_pos (by simp only [List.length_cons, List.length_nil]; omega), show idx [p, x, y] 1 = some x from rfl, zA, z9w ht h1, zA, if_pos (by simp only [List.length_append, List.length_cons, List.length_nil]; omega), if_pos (by simp only [List.length_append, List.length_cons, List.length_nil]; omega), show idx [p, x, y] 2 = some y from rfl, zA, hb' h2, zA, if_pos (by simp only [List.length_append, List.length_cons, List.length_nil]; omega)]
  simp [tlF]
theorem y9E {k n : Int} {s : Str} {p x y : zF} {F T : Int} {l : List zF} {i : Nat} {z : zF} {w : List Str} (hp : p.L.length ≤ 1000000000) (hx : PN z w) (hd : p.L.drop i = z :: l) (out : Str) (ho : out.length + szw w ≤ 3000000000) (hw : szw w ≤ 1000000000) :
    yI out (i : Int) ⟨k, n, s, [p, x, y], F, T⟩ = yI (out ++ JB (z8o i w)) ((i + 1 : Nat) : Int) ⟨k, n, s, [p, x, y], F, T⟩ ∧ p.L.drop (i + 1) = l := by
  obtain ⟨hlt, e1, e2⟩ := z6o hd
  refine ⟨?_, e2⟩
  cases hx with
  | @mk s' v wv F' T' hn ht =>
    simp only [zD, szw, List.length_cons, List.length_nil] at ho hw
    have hj := z0R wv
    conv => lhs; rw [z5D]
    unfold z0e; dsimp only
    rw [show idx [p, x, y] 0 = some p from rfl, zA, if_pos (by omega)]
    unfold z8o
    by_cases hi : i = 0
    · rw [if_pos hi, if_neg (by omega), if_pos (by simp only [List.length_append, List.length_cons, List.length_nil]; omega), zA, gF hlt, zA, e1]
      dsimp only
      rw [if_pos (by simp only [List.length_append, List.length_cons, List.length_nil]; omega), if_pos (by simp only [List.length_append, List.length_cons, List.length_nil]; omega), zA, gF hlt, zA, e1, show idx [v] 0 = some v from rfl, zA, z9w ht (by omega), zA, if_pos (by simp only [List.length_append, List.length_cons, List.length_nil]; omega), uU (by omega) (by omega), wB]
      simp only [y9d, v1c (y7f ht)]
      simp [JB]
    · rw [if_neg hi, if_pos (by omega), if_pos (by simp only [List.length_append, List.length_cons, List.length_nil]; omega), if_pos (by simp only [List.length_append, List.length_cons, List.length_nil]; omega), zA, gF hlt, zA, e1]
      dsimp only
      rw [if_pos (by simp only [List.length_append, List.length_cons, List.length_nil]; omega), if_pos (by simp only [List.length_append, List.length_cons, List.length_nil]; omega), zA, gF hlt, zA, e1, show idx [v] 0 = some v from rfl, zA, z9w ht (by omega), zA, if_pos (by simp only [List.length_append, List.length_cons, List.length_nil]; omega), uU (by omega) (by omega), wB]
      simp only [y9d, v1c (y7f ht)]
      simp [JB]
theorem v3X {k n : Int} {s : Str} {x y : zF} {p : zF} {wx wy : List Str} {F T : Int} (ht : PT x wx) (hb : PS (.bl y) wy) (h1 : szw wx ≤ 1000000000) (h2 : szw wy ≤ 1000000000) (hp : p.L.length ≤ 1000000000) {l : List zF} {w : List Str} (h : PNs l w) :
    ∀ (i : Nat) (out : Str), p.L.drop i = l → out.length + szw (z8o i w) ≤ 2000000000 → szw w ≤ 1000000000 → yI out (i : Int) ⟨k, n, s, [p, x, y], F, T⟩ = some (out ++ JB (z8o i w) ++ tlF wx wy) := by
  induction h with
  | @one z w hx =>
    intro i out hd ho hw
    have hs : szw w ≤ szw (z8o i w) := by unfold z8o; split <;> (try rw [zD]) <;> omega
    obtain ⟨e1, e2⟩ := y9E (k := k) (n := n) (s := s) (x := x) (y := y) (F := F) (T := T) hp hx hd out (by omega) hw
    rw [e1, v2i ht hb h1 h2 _ (by have := congrArg List.length e2; simp at this; omega) _ (by rw [List.length_append, v2d]; omega)]
  | @cons z l w wl hx _ ih =>
    intro i out hd ho hw
    have e0 : z8o i (w ++ [[44]] ++ wl) = z8o i w ++ z8o (i + 1) wl := by unfold z8o; rw [if_neg (show ¬ i + 1 = 0 by omega)]; split <;> simp
    rw [e0, zD] at ho
    simp only [zD] at hw
    have hs : szw w ≤ szw (z8o i w) := by unfold z8o; split <;> (try rw [zD]) <;> omega
    obtain ⟨e1, e2⟩ := y9E (k := k) (n := n) (s := s) (x := x) (y := y) (F := F) (T := T) hp hx hd out (by omega) (by omega)
    rw [e1, ih (i + 1) _ e2 (by rw [List.length_append, v2d]; omega) (by omega), e0, y9d]
    simp
theorem v1M {x : zF} {w : List Str} (h : PD x w) (ho : szw w ≤ 1000000000) : z6H x = some (J w) := by
  unfold z6H
  cases h with
  | @rcd s l w F T hn _ hf =>
    have hl := v2m hf
    simp only [zD, szw, List.length_cons, List.length_nil] at ho
    dsimp only
    rw [if_neg (by decide), if_neg (by decide), if_pos rfl, if_pos (by simp only [List.length_append, List.length_cons, List.length_nil]; omega), if_pos (by simp only [List.length_append, List.length_cons, List.length_nil]; omega)]
    have := v3W hf ⟨30, 0, s, l, F, T⟩ 0 (([114, 101, 99, 32] ++ s) ++ [32, 123, 32]) (by simp) (by show l.length ≤ _; omega) (by simp only [List.length_append, List.length_cons, List.length_nil]; omega) (by omega)
    rw [show wA (([114, 101, 99, 32] ++ s) ++ [32, 123, 32]) 0 ⟨30, 0, s, l, F, T⟩ = _ from this]
    have e : ([[114, 101, 99], s, [123]] ++ w ++ [[125]] : List Str) = [114, 101, 99] :: s :: ([[123]] ++ w ++ [[125]]) := by simp
    show _ = some (z1Y ([[114, 101, 99], s, [123]] ++ w ++ [[125]]) [32])
    rw [e, jC _ (by simp), jC _ (by simp), y9e]
    simp
  | @const s x w F T hn hp =>
    simp only [zD, szw, List.length_cons, List.length_nil] at ho
    have hj := z0R w
    have hne := z3h hp.pr
    dsimp only
    rw [if_pos rfl, if_pos (by simp only [List.length_append, List.length_cons, List.length_nil]; omega), if_pos (by simp only [List.length_append, List.length_cons, List.length_nil]; omega), show idx [x] 0 = some x from rfl, zA, z6N hp.pr (by omega), zA, if_pos (by simp only [List.length_append, List.length_cons, List.length_nil]; omega), if_pos (by simp only [List.length_append, List.length_cons, List.length_nil]; omega)]
    simp [jC, jA, j1, hne]
  | @var s x w F T hn ht =>
    simp only [zD, szw, List.length_cons, List.length_nil] at ho
    have hj := z0R w
    have hne := y7f ht
    dsimp only
    rw [if_neg (by decide), if_pos rfl, if_pos (by simp only [List.length_append, List.length_cons, List.length_nil]; omega), if_pos (by simp only [List.length_append, List.length_cons, List.length_nil]; omega), show idx [x] 0 = some x from rfl, zA, z9w ht (by omega), zA, if_pos (by simp only [List.length_append, List.length_cons, List.length_nil]; omega), if_pos (by simp only [List.length_append, List.length_cons, List.length_nil]; omega)]
    simp [jC, jA, j1, hne]
  | @fn0 n s x y wx wy F T F' T' hn2 hn ht hb =>
    simp only [zD, szw, List.length_cons, List.length_nil] at ho
    have nx := y7f ht
    have ny : wy ≠ [] := (v0r hb).1
    dsimp only
    rw [if_neg (by decide), if_neg (by decide), if_neg (by decide), if_pos (by simp only [List.length_append, List.length_cons, List.length_nil]; omega), if_pos (by simp only [List.length_append, List.length_cons, List.length_nil]; omega)]
    have fe : ∀ (out : Str), out.length ≤ 1000000100 → yI out 0 ⟨33, n, s, [⟨35, 0, [], [], F', T'⟩, x, y], F, T⟩ = some (out ++ tlF wx wy) := fun out h => v2i ht hb (by omega) (by omega) 0 (by simp) out (by omega)
    rcases hn2 with rfl | rfl
    · rw [if_neg (show ¬ (0 : Int) = 1 by decide), fe _ (by simp only [List.length_append, List.length_cons, List.length_nil]; omega)]
      simp [jC, jA, j1, nx, ny, tlF]
    · rw [if_pos (show (1 : Int) = 1 by decide), if_pos (by simp only [List.length_append, List.length_cons, List.length_nil]; omega), fe _ (by simp only [List.length_append, List.length_cons, List.length_nil]; omega)]
      simp [jC, jA, j1, nx, ny, tlF]
  | @fn n s l x y wl wx wy F T F' T' hn2 hn hp ht hb =>
    have hl := v2n hp
    simp only [zD, szw, List.length_cons, List.length_nil] at ho
    have nx := y7f ht
    have ny : wy ≠ [] := (v0r hb).1
    have nl : wl ≠ [] := by cases hp with
      | one h => cases h; simp
      | cons h _ => cases h; simp
    dsimp only
    rw [if_neg (by decide), if_neg (by decide), if_neg (by decide), if_pos (by simp only [List.length_append, List.length_cons, List.length_nil]; omega), if_pos (by simp only [List.length_append, List.length_cons, List.length_nil]; omega)]
    have fe : ∀ (out : Str), out.length ≤ 1000000000 → yI out 0 ⟨33, n, s, [⟨35, 0, [], l, F', T'⟩, x, y], F, T⟩ = some (out ++ JB wl ++ tlF wx wy) := fun out h => by
      have := v3X (k := 33) (n := n) (s := s) (x := x) (y := y) (p := ⟨35, 0, [], l, F', T'⟩) (F := F) (T := T) ht hb (by omega) (by omega) (by show l.length ≤ _; omega) hp 0 out (by simp) (by show out.length + szw wl ≤ _; omega) (by omega)
      exact this
    rcases hn2 with rfl | rfl
    · rw [if_neg (show ¬ (0 : Int) = 1 by decide), fe _ (by simp only [List.length_append, List.length_cons, List.length_nil]; omega)]
      rw [v1c nl]
      simp [jC, jA, j1, nx, ny, nl, tlF]
    · rw [if_pos (show (1 : Int) = 1 by decide), if_pos (by simp only [List.length_append, List.length_cons, List.length_nil]; omega), fe _ (by simp only [List.length_append, List.length_cons, List.length_nil]; omega)]
      rw [v1c nl]
      simp [jC, jA, j1, nx, ny, nl, tlF]
theorem v3f (text : List UInt8) : ∀ (n a : Nat) (out : List zC), text.length < a + n → a ≤ text.length → (y2f n (text.drop a) a out).2.2 = 0 → ∃ r, (y2f n (text.drop a) a out).1 = out ++ r ∧ r.length + a ≤ text.length + 1 ∧ ∀ x ∈ r, x.To ≤ (text.length : Int) := by
  intro n
  induction n with
  | zero => intro a out h1 h2; omega
  | succ n ih =>
    intro a out h1 h2 he
    by_cases ha : a < text.length
    · have hd := List.drop_eq_getElem_cons ha
      have ht : y2f (n + 1) (text.drop a) a out = match one (text.drop a) with
        | .inl e => ([], (a : Int), e)
        | .inr (k, m, t, l) => y2f n (((text.drop a).drop l).drop (nxt 10000 ((text.drop a).drop l))) (a + l + nxt 10000 ((text.drop a).drop l)) (out ++ [⟨k, m, t, a, ((a + l : Nat) : Int)⟩]) := by
        rw [hd, y2f]; first | done | rfl
      rw [ht] at he ⊢
      cases ho : one (text.drop a) with
      | inl e =>
        rw [ho] at he
        exfalso
        have he2 : e = 0 := he
        rw [hd] at ho
        rw [one] at ho
        subst he2
        revert ho
        repeat' split
        all_goals (intro ho; first | (injection ho with ho; omega) | cases ho)
      | inr q =>
        obtain ⟨k, m, t, l⟩ := q
        rw [ho] at he
        dsimp only at he ⊢
        have hlen := y1R ho
        rw [List.length_drop] at hlen
        have hle := z9T 10000 (text.drop (a + l))
        rw [List.length_drop] at hle
        rw [show (text.drop a).drop l = text.drop (a + l) from List.drop_drop .., List.drop_drop (l := text)] at he ⊢
        obtain ⟨r, e1, e2, e3⟩ := ih (a + l + nxt 10000 (text.drop (a + l))) _ (by omega) (by omega) he
        refine ⟨⟨k, m, t, a, ((a + l : Nat) : Int)⟩ :: r, by rw [e1]; simp, by simp only [List.length_cons]; omega, fun x hx => ?_⟩
        rcases List.mem_cons.1 hx with rfl | hx
        · show ((a + l : Nat) : Int) ≤ _; omega
        · exact e3 x hx
    · have h4 : text.drop a = [] := List.drop_eq_nil_of_le (by omega)
      have h5 : a = text.length := by omega
      rw [h4, y2f]
      exact ⟨[⟨5, 0, [], a, a⟩], rfl, by simp only [List.length_cons, List.length_nil]; omega, fun x hx => by simp at hx; subst hx; show (a : Int) ≤ _; omega⟩
theorem v1B {text : Str} (h : (z8g text).2.2 = 0) : (z8g text).1.length ≤ text.length + 1 ∧ ∀ x ∈ (z8g text).1, x.To ≤ (text.length : Int) := by
  unfold z8g at h ⊢
  by_cases h1 : text.length > 8192
  · rw [if_pos h1] at h; cases h
  · rw [if_neg h1] at h ⊢
    have hle := z9T 10000 text
    obtain ⟨r, e1, e2, e3⟩ := v3f text 10000 (nxt 10000 text) [] (by omega) (by omega) h
    rw [e1]; exact ⟨by rw [List.nil_append]; omega, by rw [List.nil_append]; exact e3⟩
theorem y9O {w : List Str} (h : szw w ≤ 1000000000) : strings_Join w [32] = some (J w) := by
  have h1 := z0R w
  have h2 := z8f w
  unfold strings_Join
  rw [if_pos ⟨by omega, by show (J w).length ≤ _; omega⟩]
theorem y4h : z2N = some true := by
  unfold z2N z6V
  rw [gO]; unfold wR; dsimp only
  rw [if_pos rfl, wC _ _ (by decide), zA, zA]
  unfold gW
  rw [y9O (by decide)]; rfl
theorem y7U : ∀ {l : List zC} {a : Nat}, Ord a l → 0 < l.length ∧ (zK l (l.length - 1)).K = 5
  | [], a, h => h.elim
  | x :: r, a, ⟨f, t, h1, h2, h3, h4, h5⟩ => by
    rcases h5 with ⟨rfl, h⟩ | ⟨h0, h5⟩
    · exact ⟨by simp, h⟩
    · obtain ⟨g1, g2⟩ := y7U h5
      refine ⟨by simp, ?_⟩
      have : (x :: r).length - 1 = (r.length - 1) + 1 := by simp; omega
      rw [this]; exact g2
def MT (ws : List (List Str)) : Str := (ws.map fun w => J w ++ [10]).flatten
inductive QD : List zF → List (List Str) → Prop
  | nil : QD [] []
  | cons {x : zF} {w : List Str} {l : List zF} {ws : List (List Str)} : PD x w → QD l ws → QD (x :: l) (w :: ws)
theorem QD.snoc {l : List zF} {ws : List (List Str)} (h : QD l ws) {x : zF} {w : List Str} (hx : PD x w) : QD (l ++ [x]) (ws ++ [w]) := by
  induction h with
  | nil => exact .cons hx .nil
  | cons h1 _ ih => exact .cons h1 ih
theorem v3Y {l : List zF} {ws : List (List Str)} (h : PDs l ws) : QD l ws := by
  induction h with
  | nil => exact .nil
  | snoc _ hx ih => exact ih.snoc hx
theorem v3d {l : List zF} {ws : List (List Str)} (h : QD l ws) : ∀ u : Str, u.length + 200 * zV l ≤ 1000000000 → z0k l u = some (u ++ MT ws) := by
  induction h with
  | nil => intro u _; simp [z0k, MT]
  | @cons x w l ws h1 _ ih =>
    intro u hu
    have h2 := v3w h1
    have h3 := z0R w
    simp only [zV] at hu
    unfold z0k
    rw [v2D h1 [] (by simp only [szw]; omega), zA, List.nil_append]
    unfold gW
    rw [y9O (by omega), zA, zA, if_pos (by omega), ih _ (by simp only [List.length_append, List.length_cons, List.length_nil]; omega)]
    have e : MT (w :: ws) = J w ++ [10] ++ MT ws := by simp [MT]
    rw [e]; simp
theorem v1Q {l : List zF} {ws : List (List Str)} (h : QD l ws) : ∀ (m : zF) (i : Nat) (u : Str), m.L.drop i = l → m.L.length ≤ 1000000 → u.length + 200 * zV l ≤ 1000000000 → wJ u (i : Int) m = some (u ++ MT ws) := by
  induction h with
  | nil =>
    intro m i u hd _ _
    have : m.L.length ≤ i := by have := congrArg List.length hd; simp at this; omega
    rw [z6M]; unfold z0y
    rw [if_neg (by omega)]; simp [MT]
  | @cons x w l ws h1 _ ih =>
    intro m i u hd hL hu
    have h2 := v3w h1
    have h3 := z0R w
    simp only [zV] at hu
    obtain ⟨hlt, e1, e2⟩ := z6o hd
    rw [z6M]; unfold z0y
    rw [if_pos (by omega), gF hlt, zA, e1, v1M h1 (by omega), zA, if_pos (by omega), if_pos (by simp only [List.length_append, List.length_cons, List.length_nil]; omega), uU (by omega) (by omega), wB, ih m (i + 1) _ e2 hL (by simp only [List.length_append, List.length_cons, List.length_nil]; omega)]
    have e : MT (w :: ws) = J w ++ [10] ++ MT ws := by simp [MT]
    rw [e]; simp
theorem v3s {t : List zC} (h0 : 0 < t.length) (h : (zK t (t.length - 1)).K = 5) : Lst t (t.length - 1) := by
  intro i hi
  by_cases h1 : i = t.length - 1
  · rw [h1]; exact h
  · unfold zK; rw [List.getElem?_eq_none (by omega)]; rfl
theorem y8U (x : Str) (hx : x.length ≤ 2000) : ∃ m q e, z4M x = some (m, q, e) ∧ (e = 0 → ∃ l ws, m = ⟨36, 0, [], l, 0, (x.length : Int)⟩ ∧ QD l ws ∧ zV l ≤ 800000 ∧ l.length ≤ 64) := by
  unfold z4M
  rw [y8V x (by omega), zA]
  by_cases h2 : (z8g x).2.2 = 0
  · rw [if_pos h2]
    obtain ⟨g1, g2⟩ := v1B h2
    have ho := y9Z h2
    obtain ⟨hm0, hm⟩ := v0i ho
    have tf := y8N x
    obtain ⟨hp, hk⟩ := y7U ho
    have ln := v3s hp hk
    obtain ⟨m, q, e, e1, e2⟩ := v1K (n := (z8g x).1.length - 1) tf hm (by omega) ln (by omega) x (by omega) (zF.mk 0 0 [] [] 0 0) ((z8g x).1.length) 0 [] [] (by omega) (by omega) .nil (by simp [zV]) (by simp)
    refine ⟨m, q, e, e1, fun h => ?_⟩
    obtain ⟨l, ws, k1, k2, k3, k4⟩ := e2 h
    exact ⟨l, ws, k1, v3Y k2, by omega, k4⟩
  · rw [if_neg h2]
    exact ⟨_, _, _, rfl, fun g => absurd g h2⟩
theorem y4i (x0 : Str) (w0 : x0.length ≤ 9223372036854775807) : z2y x0 = some true := by
  unfold z2y
  rw [y4h]
  by_cases h1 : (List.length x0 : Int) > 2000
  · rw [if_pos h1]; rfl
  rw [if_neg h1]
  obtain ⟨m, q, e, e1, e2⟩ := y8U x0 (by omega)
  rw [e1, zA]
  dsimp only
  by_cases h2 : e = 0
  · obtain ⟨l, ws, rfl, k2, k3, k4⟩ := e2 h2
    have p1 : z6U ⟨36, 0, [], l, 0, (x0.length : Int)⟩ = some (MT ws) := by
      unfold z6U
      have := v3d k2 [] (by simp only [List.length_nil]; omega)
      rw [List.nil_append] at this; exact this
    have p2 : z6L ⟨36, 0, [], l, 0, (x0.length : Int)⟩ = some (MT ws) := by
      unfold z6L
      have := v1Q k2 ⟨36, 0, [], l, 0, (x0.length : Int)⟩ 0 [] (by simp) (by show l.length ≤ _; omega) (by simp only [List.length_nil]; omega)
      rw [List.nil_append] at this; exact this
    rw [if_pos h2, p1, zA, p2, zA, if_pos rfl]; rfl
  · rw [if_neg h2]; rfl
end Go.Proofs.Ythbhgdooeeapjaa.M

