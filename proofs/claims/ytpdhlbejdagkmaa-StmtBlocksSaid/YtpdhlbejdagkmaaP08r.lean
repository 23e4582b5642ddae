/- The reference reads a statement as the rules say. -/
import Derived.Test.YtpdhlbejdagkmaaP08d
namespace Go.Proofs.Ytpdhlbejdagkmaa.M
open Go Nt
set_option linter.unusedVariables false
set_option linter.unusedSimpArgs false
abbrev iW (s : Str) : Ref08Item := ⟨[119, 111, 114, 100], s⟩
abbrev iS (s : Str) : Ref08Item := ⟨[115, 105, 103, 110], s⟩
abbrev iN : Ref08Item := ⟨[110, 97, 109, 101], []⟩
abbrev iX : Ref08Item := ⟨[101, 120, 112, 114], []⟩
abbrev iT : Ref08Item := ⟨[116, 121, 112, 101], []⟩
abbrev iK : Ref08Item := ⟨[98, 108, 111, 99, 107], []⟩
abbrev iL : Ref08Item := ⟨[101, 108, 115, 101], []⟩
/-- the reference's items -/
def rIts : List It → List Ref08Item
  | [] => []
  | .word s :: r => iW s :: rIts r
  | .sign s :: r => iS s :: rIts r
  | .name :: r => iN :: rIts r
  | .expr :: r => iX :: rIts r
  | .type :: r => iT :: rIts r
  | .block :: r => iK :: rIts r
  | .be :: r => iK :: iL :: rIts r
theorem rform_ok (t : List Token) (hl : t.length ≤ 300) (a : Nat) (ha : a ≤ t.length) : ref08Form t a = some ((formOf t a).1, rIts (formOf t a).2) := by
  unfold ref08Form formOf
  rw [rword_ok, some_bind]
  by_cases h1 : wrdAt t a wLet = true
  · have := wrdAt_lt h1
    rw [if_pos h1, if_pos h1, wi_succ (t := t) (by omega) (by omega), rnow_ok, some_bind]
    by_cases h2 : (tokAt t (a + 1)).K = 1
    · rw [if_pos h2, wi_succ2 (t := t) (by omega) (by omega), rsign_ok, some_bind]
      by_cases h3 : sgnAt t (a + 2) [58] = true
      · rw [if_pos h3, if_pos ⟨h2, h3⟩]; rfl
      · rw [if_neg h3, if_neg (fun h => h3 h.2)]; rfl
    · rw [if_neg h2, if_neg (fun h => h2 h.1)]; rfl
  rw [if_neg h1, if_neg h1, rword_ok, some_bind]
  by_cases h2 : wrdAt t a wIf = true
  · rw [if_pos h2, if_pos h2]; rfl
  rw [if_neg h2, if_neg h2, rword_ok, some_bind]
  by_cases h2 : wrdAt t a wWhile = true
  · rw [if_pos h2, if_pos h2]; rfl
  rw [if_neg h2, if_neg h2, rword_ok, some_bind]
  by_cases h2 : wrdAt t a wFor = true
  · rw [if_pos h2, if_pos h2]; rfl
  rw [if_neg h2, if_neg h2, rword_ok, some_bind]
  by_cases h2 : wrdAt t a wPrint = true
  · rw [if_pos h2, if_pos h2]; rfl
  rw [if_neg h2, if_neg h2, rword_ok, some_bind]
  by_cases h2 : wrdAt t a wReturn = true
  · rw [if_pos h2, if_pos h2]; rfl
  rw [if_neg h2, if_neg h2, rword_ok, some_bind]
  by_cases h2 : wrdAt t a wDo = true
  · rw [if_pos h2, if_pos h2]; rfl
  rw [if_neg h2, if_neg h2]; rfl
def RS (t : List Token) : SCat → Nat → Res → Prop
  | .stmt, a, r => ref08Stmt t a = some (got r)
  | .blk, a, r => ref08Block t a = some (got r)
  | .sl f acc, a, r => f < a → acc.length < a → ∀ o, ref08Block_L5 t f acc a o = some (got r)
  | .form k f its parts name, a, r => f ≤ a → ∀ (form : List Ref08Item) (i : Nat) (o : Ref07Got), form.drop i = rIts its → form.length ≤ 100 → parts.length ≤ i → ref08Stmt_L8 t f k form parts name a i o = some (got r)
theorem rexpr_of {t : List Token} (hl : t.length ≤ 300) {a : Nat} (ha : a ≤ t.length) {r : Res} (h : Der t (.lev 1) a r) : ref07Expr t a = some (got r) := expr_1 (ref_of_der (by omega) h ha)
theorem rpart_expr (t : List Token) (a : Nat) {g : Ref07Got} (h : ref07Expr t a = some g) : ref08Part t a [101, 120, 112, 114] = some g := by
  rw [ref08Part_eq]; unfold ref08Part_B
  rw [if_pos rfl, h]; rfl
theorem rpart_type (t : List Token) (a : Nat) {g : Ref07Got} (h : ref07Type t a = some g) : ref08Part t a [116, 121, 112, 101] = some g := by
  rw [ref08Part_eq]; unfold ref08Part_B
  rw [if_neg (by decide), if_pos rfl, h]; rfl
theorem rpart_blk (t : List Token) (a : Nat) (s : Str) (h1 : s ≠ [101, 120, 112, 114]) (h2 : s ≠ [116, 121, 112, 101]) {g : Ref07Got} (h : ref08Block t a = some g) : ref08Part t a s = some g := by
  rw [ref08Part_eq]; unfold ref08Part_B
  rw [if_neg h1, if_neg h2, h]; rfl
/-- a form's items, one behind the other -/
theorem drop_cons {α : Type} {l : List α} {i : Nat} {x : α} {r : List α} (h : l.drop i = x :: r) : i < l.length ∧ l[i]? = some x ∧ l.drop (i + 1) = r := by
  have h1 : i < l.length := by
    rcases Nat.lt_or_ge i l.length with h1 | h1
    · exact h1
    · rw [List.drop_eq_nil_of_le h1] at h; cases h
  rw [List.drop_eq_getElem_cons h1] at h
  injection h with h2 h3
  exact ⟨h1, by rw [List.getElem?_eq_getElem h1, h2], h3⟩
theorem idx_some {α : Type} {l : List α} {i : Nat} {x : α} (h : l[i]? = some x) : idx l (i : Int) = some x := by rw [idx_nat]; exact h
theorem rst_word (t : List Token) (hl : t.length ≤ 300) (f : Nat) (k : Int) (form : List Ref08Item) (parts : List Term) (name : Str) (a i : Nat) (ha : a ≤ t.length) (o : Ref07Got) (s : Str) (hi : form[i]? = some (iW s)) (hf : form.length ≤ 100) :
    ref08Stmt_L8 t f k form parts name a i o = if wrdAt t a s = true then ref08Stmt_L8 t f k form parts name ((a + 1 : Nat) : Int) ((i + 1 : Nat) : Int) o else some ⟨zT7, a, 6⟩ := by
  have h1 : i < form.length := (List.getElem?_eq_some_iff.1 hi).1
  rw [ref08Stmt_L8_eq]; unfold ref08Stmt_L8_B
  rw [if_pos (by omega), idx_some hi, some_bind, if_pos rfl, some_bind, rword_ok, some_bind]
  by_cases h : wrdAt t a s = true
  · rw [if_pos h, if_pos h, wi_succ (t := t) (by omega) (by omega), wi_id (by omega) (by omega), succ_cast]
  · rw [if_neg h, if_neg h]; rfl
theorem rst_sign (t : List Token) (hl : t.length ≤ 300) (f : Nat) (k : Int) (form : List Ref08Item) (parts : List Term) (name : Str) (a i : Nat) (ha : a ≤ t.length) (o : Ref07Got) (s : Str) (hi : form[i]? = some (iS s)) (hf : form.length ≤ 100) :
    ref08Stmt_L8 t f k form parts name a i o = if sgnAt t a s = true then ref08Stmt_L8 t f k form parts name ((a + 1 : Nat) : Int) ((i + 1 : Nat) : Int) o else some ⟨zT7, a, 6⟩ := by
  have h1 : i < form.length := (List.getElem?_eq_some_iff.1 hi).1
  rw [ref08Stmt_L8_eq]; unfold ref08Stmt_L8_B
  rw [if_pos (by omega), idx_some hi, some_bind, if_neg (show ¬ ([115, 105, 103, 110] : Str) = [119, 111, 114, 100] by decide), if_pos rfl, some_bind, rsign_ok, some_bind]
  by_cases h : sgnAt t a s = true
  · rw [if_pos h, if_pos h, wi_succ (t := t) (by omega) (by omega), wi_id (by omega) (by omega), succ_cast]
  · rw [if_neg h, if_neg h]; rfl
theorem rst_name (t : List Token) (hl : t.length ≤ 300) (f : Nat) (k : Int) (form : List Ref08Item) (parts : List Term) (name : Str) (a i : Nat) (ha : a ≤ t.length) (o : Ref07Got) (hi : form[i]? = some iN) (hf : form.length ≤ 100) :
    ref08Stmt_L8 t f k form parts name a i o = if (tokAt t a).K = 1 then ref08Stmt_L8 t f k form parts (tokAt t a).S ((a + 1 : Nat) : Int) ((i + 1 : Nat) : Int) o else some ⟨zT7, a, 6⟩ := by
  have h1 : i < form.length := (List.getElem?_eq_some_iff.1 hi).1
  rw [ref08Stmt_L8_eq]; unfold ref08Stmt_L8_B
  rw [if_pos (by omega), idx_some hi, some_bind, if_neg (by decide), if_neg (by decide), if_pos rfl, rnow_ok, some_bind]
  by_cases h : (tokAt t a).K = 1
  · have hlt := tokAt_lt (t := t) (a := a) (by rw [h]; decide)
    have e : tokAt t a = t[a] := by unfold tokAt; rw [List.getElem?_eq_getElem hlt]; rfl
    rw [if_pos h, if_pos h, idx_lt hlt, some_bind, wi_succ (t := t) (by omega) (by omega), wi_id (by omega) (by omega), succ_cast, e]
  · rw [if_neg h, if_neg h]; rfl
/-- an item that is read as a part -/
theorem rst_part (t : List Token) (hl : t.length ≤ 300) (f : Nat) (k : Int) (form : List Ref08Item) (parts : List Term) (name : Str) (a i : Nat) (ha : a ≤ t.length) (o : Ref07Got) (x : Ref08Item) (hi : form[i]? = some x) (hf : form.length ≤ 100) (hp : parts.length ≤ 200)
    (n1 : x.What ≠ [119, 111, 114, 100]) (n2 : x.What ≠ [115, 105, 103, 110]) (n3 : x.What ≠ [110, 97, 109, 101]) (n4 : x.What ≠ [101, 108, 115, 101]) {g : Ref07Got} (hg : ref08Part t a x.What = some g) :
    ref08Stmt_L8 t f k form parts name a i o = if g.E = 0 then ref08Stmt_L8 t f k form (parts ++ [g.T_]) name g.At ((i + 1 : Nat) : Int) o else some g := by
  have h1 : i < form.length := (List.getElem?_eq_some_iff.1 hi).1
  rw [ref08Stmt_L8_eq]; unfold ref08Stmt_L8_B
  rw [if_pos (by omega), idx_some hi, some_bind, if_neg n1, if_neg n2, if_neg n3, if_neg n4, hg, some_bind]
  by_cases h : g.E = 0
  · rw [if_pos h, if_pos h, if_pos (room72 (by simp; omega)), wi_id (by omega) (by omega), succ_cast]
  · rw [if_neg h, if_neg h]
theorem rst_else (t : List Token) (hl : t.length ≤ 300) (f : Nat) (k : Int) (form : List Ref08Item) (parts : List Term) (name : Str) (a i : Nat) (ha : a ≤ t.length) (ha0 : 0 < a) (o : Ref07Got) (hi : form[i]? = some iL) (hf : form.length ≤ 100) (hp : parts.length ≤ 200) :
    ref08Stmt_L8 t f k form parts name a i o = if wrdAt t a wElse = true then
      (ref08Part t ((a + 1 : Nat) : Int) wElse >>= fun g => if g.E = 0 then ref08Stmt_L8 t f k form (parts ++ [g.T_]) name g.At ((i + 1 : Nat) : Int) o else some g)
      else ref08Stmt_L8 t f k form (parts ++ [emptyBlk (tokAt t (a - 1)).To]) name a ((i + 1 : Nat) : Int) o := by
  have h1 : i < form.length := (List.getElem?_eq_some_iff.1 hi).1
  rw [ref08Stmt_L8_eq]; unfold ref08Stmt_L8_B
  rw [if_pos (by omega), idx_some hi, some_bind, if_neg (by decide), if_neg (by decide), if_neg (by decide), if_pos rfl, rword_ok, some_bind]
  by_cases h : wrdAt t a wElse = true
  · rw [if_pos h, if_pos h, wi_succ (t := t) (by omega) (by omega)]
    congr 1
    funext g
    by_cases hg : g.E = 0
    · rw [if_pos hg, if_pos hg, if_pos (room72 (by simp; omega)), wi_id (by omega) (by omega), succ_cast]
    · rw [if_neg hg, if_neg hg]
  · have e : tokAt t (a - 1) = t[a - 1] := by unfold tokAt; rw [List.getElem?_eq_getElem (show a - 1 < t.length by omega)]; rfl
    rw [if_neg h, if_neg h, wi_id (n := (a : Int) - 1) (by omega) (by omega), show (a : Int) - 1 = ((a - 1 : Nat) : Int) by omega, idx_lt (show a - 1 < t.length by omega), some_bind, if_pos (room72 (by simp; omega)), wi_id (by omega) (by omega), succ_cast, e]
theorem rtype_at (t : List Token) (hl : t.length ≤ 300) (a : Nat) (ha : a ≤ t.length) : ref07Type t a = some ⟨(typAt t a).1, ((typAt t a).2.1 : Int), (typAt t a).2.2⟩ := rtype_ok t hl (t.length + 1) a (by omega) (by omega)
theorem typ_badz : ∀ (n : Nat) (t : List Token) (a : Nat), (typ n t a).2.2 ≠ 0 → (typ n t a).1 = zT7 := by
  intro n t a h
  cases n with
  | zero => rfl
  | succ n =>
    rw [typ] at h ⊢
    revert h
    repeat' split
    all_goals (intro h; first | rfl | exact absurd rfl h)
theorem ref_of_sder {t : List Token} (hl : t.length ≤ 300) {c : SCat} {a : Nat} {r : Res} (h : SDer t c a r) : a ≤ t.length → RS t c a r := by
  induction h with
  | @sB a r h1 hd ih =>
    intro ha
    have e : ref08Block t a = some (got r) := ih ha
    show ref08Stmt t a = _
    rw [ref08Stmt_eq]; unfold ref08Stmt_B
    rw [rsign_ok, some_bind, if_pos h1, e]; rfl
  | @sF a r h1 hd ih =>
    intro ha
    show ref08Stmt t a = _
    rw [ref08Stmt_eq]; unfold ref08Stmt_B
    rw [rsign_ok, some_bind, h1, if_neg (by simp), rform_ok t hl a ha, some_bind]
    refine ih ha (Nat.le_refl _) (rIts (formOf t a).2) 0 _ rfl ?_ (by simp)
    unfold formOf
    repeat' split
    all_goals decide
  | @b0 a h1 =>
    intro ha
    show ref08Block t a = _
    rw [ref08Block_eq]; unfold ref08Block_B
    rw [rsign_ok, some_bind, h1]; rfl
  | @b1 a r h1 hd ih =>
    intro ha
    have h0 := sgnAt_lt h1
    show ref08Block t a = _
    rw [ref08Block_eq]; unfold ref08Block_B
    rw [rsign_ok, some_bind, if_pos h1, wi_succ (t := t) (by omega) (by omega)]
    exact ih (by omega) (by omega) (by simp) _
  | @lE f a acc h1 =>
    intro ha hf hacc o
    have h0 := sgnAt_lt h1
    rw [ref08Block_L5_eq]; unfold ref08Block_L5_B
    rw [rsign_ok, some_bind, if_pos h1, wi_succ (t := t) (by omega) (by omega), rmake_ok t (by omega) f (a + 1) (by omega) (by omega)]; rfl
  | @lG f a b acc x r h1 hd _ ih1 ih2 =>
    intro ha hf hacc o
    have q := hd.inS ha; simp only [InS] at q
    have e : ref08Stmt t a = some ⟨x, (b : Int), 0⟩ := ih1 ha
    rw [ref08Block_L5_eq]; unfold ref08Block_L5_B
    rw [rsign_ok, some_bind, h1, if_neg (by simp), e, some_bind, if_pos rfl, if_pos (room72 (by simp; omega))]
    exact ih2 q.2 (by omega) (by simp; omega) o
  | @lB f a b acc h1 hd ih1 =>
    intro ha hf hacc o
    have e : ref08Stmt t a = some ⟨zT7, (b : Int), 6⟩ := ih1 ha
    rw [ref08Block_L5_eq]; unfold ref08Block_L5_B
    rw [rsign_ok, some_bind, h1, if_neg (by simp), e, some_bind]; rfl
  | @fE f a k parts name h1 =>
    intro ha hf form i o hd hl2 hp
    rw [ref08Stmt_L8_eq]; unfold ref08Stmt_L8_B
    have : form.length ≤ i := by
      rcases Nat.lt_or_ge i form.length with h | h
      · rw [List.drop_eq_getElem_cons h] at hd; cases hd
      · exact h
    rw [if_neg (by omega), rmake_ok t (by omega) f a h1 ha]; rfl
  | @fW f a k s its parts name r h1 _ ih =>
    intro ha hf form i o hd hl2 hp
    have h0 := wrdAt_lt h1
    obtain ⟨g1, g2, g3⟩ := drop_cons hd
    rw [rst_word t hl f k form parts name a i ha o s g2 hl2, if_pos h1]
    exact ih (by omega) (by omega) form (i + 1) o g3 hl2 (by omega)
  | @fW0 f a k s its parts name h1 =>
    intro ha hf form i o hd hl2 hp
    obtain ⟨g1, g2, g3⟩ := drop_cons hd
    rw [rst_word t hl f k form parts name a i ha o s g2 hl2, h1]; rfl
  | @fS f a k s its parts name r h1 _ ih =>
    intro ha hf form i o hd hl2 hp
    have h0 := sgnAt_lt h1
    obtain ⟨g1, g2, g3⟩ := drop_cons hd
    rw [rst_sign t hl f k form parts name a i ha o s g2 hl2, if_pos h1]
    exact ih (by omega) (by omega) form (i + 1) o g3 hl2 (by omega)
  | @fS0 f a k s its parts name h1 =>
    intro ha hf form i o hd hl2 hp
    obtain ⟨g1, g2, g3⟩ := drop_cons hd
    rw [rst_sign t hl f k form parts name a i ha o s g2 hl2, h1]; rfl
  | @fN f a k its parts name r h1 _ ih =>
    intro ha hf form i o hd hl2 hp
    have h0 := tokAt_lt (t := t) (a := a) (by rw [h1]; decide)
    obtain ⟨g1, g2, g3⟩ := drop_cons hd
    rw [rst_name t hl f k form parts name a i ha o g2 hl2, if_pos h1]
    exact ih (by omega) (by omega) form (i + 1) o g3 hl2 (by omega)
  | @fN0 f a k its parts name h1 =>
    intro ha hf form i o hd hl2 hp
    obtain ⟨g1, g2, g3⟩ := drop_cons hd
    rw [rst_name t hl f k form parts name a i ha o g2 hl2, if_neg h1]; rfl
  | @fX f a b k its parts name x r hd1 _ ih =>
    intro ha hf form i o hd hl2 hp
    have q := hd1.inR ha; simp only [InR] at q
    obtain ⟨g1, g2, g3⟩ := drop_cons hd
    rw [rst_part t hl f k form parts name a i ha o _ g2 hl2 (by omega) (by decide) (by decide) (by decide) (by decide) (rpart_expr t a (rexpr_of hl ha hd1))]
    show (if (0 : Int) = 0 then _ else _) = _
    rw [if_pos rfl]
    exact ih q.2 (by omega) form (i + 1) o g3 hl2 (by simp; omega)
  | @fX0 f a b k its parts name hd1 =>
    intro ha hf form i o hd hl2 hp
    obtain ⟨g1, g2, g3⟩ := drop_cons hd
    rw [rst_part t hl f k form parts name a i ha o _ g2 hl2 (by omega) (by decide) (by decide) (by decide) (by decide) (rpart_expr t a (rexpr_of hl ha hd1))]
    rfl
  | @fT f a k its parts name r h1 _ ih =>
    intro ha hf form i o hd hl2 hp
    have q : a < (typAt t a).2.1 ∧ (typAt t a).2.1 ≤ t.length := typ_pl (t.length + 1) t a (by omega) h1
    obtain ⟨g1, g2, g3⟩ := drop_cons hd
    rw [rst_part t hl f k form parts name a i ha o _ g2 hl2 (by omega) (by decide) (by decide) (by decide) (by decide) (rpart_type t a (rtype_at t hl a ha))]
    dsimp only
    rw [if_pos h1]
    exact ih q.2 (by omega) form (i + 1) o g3 hl2 (by simp; omega)
  | @fT0 f a k its parts name h1 =>
    intro ha hf form i o hd hl2 hp
    obtain ⟨g1, g2, g3⟩ := drop_cons hd
    rw [rst_part t hl f k form parts name a i ha o _ g2 hl2 (by omega) (by decide) (by decide) (by decide) (by decide) (rpart_type t a (rtype_at t hl a ha))]
    dsimp only
    have h6 := (typ_err (t.length + 1) t a).resolve_left h1
    rw [if_neg h1, typ_badz _ t a h1]
    show some (Ref07Got.mk zT7 _ (typ (t.length + 1) t a).2.2) = _
    rw [h6]; rfl
  | @fK f a b k its parts name x r hd1 _ ih1 ih2 =>
    intro ha hf form i o hd hl2 hp
    have q := hd1.inS ha; simp only [InS] at q
    have e : ref08Block t a = some ⟨x, (b : Int), 0⟩ := ih1 ha
    obtain ⟨g1, g2, g3⟩ := drop_cons hd
    rw [rst_part t hl f k form parts name a i ha o _ g2 hl2 (by omega) (by decide) (by decide) (by decide) (by decide) (rpart_blk t a _ (by decide) (by decide) e), if_pos rfl]
    exact ih2 q.2 (by omega) form (i + 1) o g3 hl2 (by simp; omega)
  | @fK0 f a b k its parts name hd1 ih1 =>
    intro ha hf form i o hd hl2 hp
    have e : ref08Block t a = some ⟨zT7, (b : Int), 6⟩ := ih1 ha
    obtain ⟨g1, g2, g3⟩ := drop_cons hd
    rw [rst_part t hl f k form parts name a i ha o _ g2 hl2 (by omega) (by decide) (by decide) (by decide) (by decide) (rpart_blk t a _ (by decide) (by decide) e)]
    rfl
  | @fE0 f a b k its parts name hd1 ih1 =>
    intro ha hf form i o hd hl2 hp
    have e : ref08Block t a = some ⟨zT7, (b : Int), 6⟩ := ih1 ha
    obtain ⟨g1, g2, g3⟩ := drop_cons hd
    rw [rst_part t hl f k form parts name a i ha o _ g2 hl2 (by omega) (by decide) (by decide) (by decide) (by decide) (rpart_blk t a _ (by decide) (by decide) e)]
    rfl
  | @fE1 f a b k its parts name x r hd1 hw _ ih1 ih2 =>
    intro ha hf form i o hd hl2 hp
    have q := hd1.inS ha; simp only [InS] at q
    have e : ref08Block t a = some ⟨x, (b : Int), 0⟩ := ih1 ha
    obtain ⟨g1, g2, g3⟩ := drop_cons hd
    obtain ⟨k1, k2, k3⟩ := drop_cons g3
    rw [rst_part t hl f k form parts name a i ha o _ g2 hl2 (by omega) (by decide) (by decide) (by decide) (by decide) (rpart_blk t a _ (by decide) (by decide) e), if_pos rfl]
    show ref08Stmt_L8 t f k form (parts ++ [x]) name b ((i + 1 : Nat) : Int) o = _
    rw [rst_else t hl f k form _ name b (i + 1) q.2 (by omega) o k2 hl2 (by simp; omega), hw, if_neg (by simp)]
    exact ih2 q.2 (by omega) form (i + 1 + 1) o k3 hl2 (by simp; omega)
  | @fE2 f a b c k its parts name x y r hd1 hw hd2 _ ih1 ih2 ih3 =>
    intro ha hf form i o hd hl2 hp
    have hb := wrdAt_lt hw
    have q := hd1.inS ha; simp only [InS] at q
    have q2 := hd2.inS (by omega); simp only [InS] at q2
    have e : ref08Block t a = some ⟨x, (b : Int), 0⟩ := ih1 ha
    have e2 : ref08Block t ((b + 1 : Nat) : Int) = some ⟨y, (c : Int), 0⟩ := ih2 (by omega)
    obtain ⟨g1, g2, g3⟩ := drop_cons hd
    obtain ⟨k1, k2, k3⟩ := drop_cons g3
    rw [rst_part t hl f k form parts name a i ha o _ g2 hl2 (by omega) (by decide) (by decide) (by decide) (by decide) (rpart_blk t a _ (by decide) (by decide) e), if_pos rfl]
    show ref08Stmt_L8 t f k form (parts ++ [x]) name b ((i + 1 : Nat) : Int) o = _
    rw [rst_else t hl f k form _ name b (i + 1) q.2 (by omega) o k2 hl2 (by simp; omega), if_pos hw, rpart_blk t (b + 1) _ (by decide) (by decide) e2, some_bind, if_pos rfl]
    exact ih3 q2.2 (by omega) form (i + 1 + 1) o k3 hl2 (by simp; omega)
  | @fE3 f a b c k its parts name x hd1 hw hd2 ih1 ih2 =>
    intro ha hf form i o hd hl2 hp
    have hb := wrdAt_lt hw
    have q := hd1.inS ha; simp only [InS] at q
    have e : ref08Block t a = some ⟨x, (b : Int), 0⟩ := ih1 ha
    have e2 : ref08Block t ((b + 1 : Nat) : Int) = some ⟨zT7, (c : Int), 6⟩ := ih2 (by omega)
    obtain ⟨g1, g2, g3⟩ := drop_cons hd
    obtain ⟨k1, k2, k3⟩ := drop_cons g3
    rw [rst_part t hl f k form parts name a i ha o _ g2 hl2 (by omega) (by decide) (by decide) (by decide) (by decide) (rpart_blk t a _ (by decide) (by decide) e), if_pos rfl]
    show ref08Stmt_L8 t f k form (parts ++ [x]) name b ((i + 1 : Nat) : Int) o = _
    rw [rst_else t hl f k form _ name b (i + 1) q.2 (by omega) o k2 hl2 (by simp; omega), if_pos hw, rpart_blk t (b + 1) _ (by decide) (by decide) e2, some_bind]
    rfl
end Go.Proofs.Ytpdhlbejdagkmaa.M
