/- Sizes of statements that are read; whether the reader answers at all. -/
import Derived.Test.YtpdhlbejdagkmaaP08q
import Derived.Test.YtpdhlbejdagkmaaP07z
namespace Go.Proofs.Ytpdhlbejdagkmaa.M
open Go Nt
set_option linter.unusedVariables false
set_option linter.unusedSimpArgs false
def SS (t : List Token) : SCat → Nat → Res → Prop
  | .stmt, a, r => ∀ y b, r = .ok y b → tsize y + 400 * a + 19 ≤ 400 * b
  | .blk, a, r => ∀ y b, r = .ok y b → tsize y + 400 * a + 500 ≤ 400 * b
  | .sl f acc, a, r => ∀ y b, r = .ok y b → tsize y + 400 * a + 300 ≤ tsizes acc + 400 * b
  | .form k f its parts name, a, r => ∀ y b, r = .ok y b → tsize y + 400 * a ≤ 1 + tsizes parts + 400 * b ∧ (its ≠ [] → tsize y + 400 * a + 20 ≤ 1 + tsizes parts + 400 * b)
theorem typ_ts' (t : List Token) : ∀ (n a : Nat), tsize (typ n t a).1 ≤ n + 1
  | 0, a => by simp [typ, tsize, tsizes]
  | n + 1, a => by
    have := typ_ts' t n (a + 3)
    rw [typ]
    repeat' split
    all_goals (simp [placed, tsize, tsizes]; try omega)
theorem ss_of_sder {t : List Token} (hl : t.length ≤ 300) {c : SCat} {a : Nat} {r : Res} (h : SDer t c a r) : a ≤ t.length → SS t c a r := by
  have sz : ∀ (p : List Term) (x : Term), tsizes (p ++ [x]) = tsizes p + tsize x := fun p x => by rw [tsizes_app]; simp [tsizes]
  induction h with
  | sB _ _ ih => intro ha y b e; have := ih ha y b e; omega
  | @sF a r h1 hd ih =>
    intro ha y b e
    have := (ih ha y b e).2 (by unfold formOf; (repeat' split) <;> simp)
    simp only [tsizes] at this
    omega
  | b0 _ => intro ha y b e; cases e
  | @b1 a r h1 _ ih => intro ha y b e; have h0 := sgnAt_lt h1; have h2 := ih (by omega) y b e; rw [show tsizes [] = 0 from rfl, Nat.mul_add] at h2; clear h0 h1 ih e; show tsize y + 400 * a + 500 ≤ 400 * b; omega
  | lE h1 => intro ha y b e; cases e; simp only [placed, tsize]; omega
  | lG h1 hd _ ih1 ih2 => intro ha y b e; have q := hd.inS ha; simp only [InS] at q; have g1 := ih1 ha _ _ rfl; have g2 := ih2 q.2 y b e; rw [sz] at g2; omega
  | lB _ _ _ => intro ha y b e; cases e
  | fE _ => intro ha y b e; cases e; simp only [placed, tsize]; exact ⟨by omega, fun h => absurd rfl h⟩
  | fW h1 _ ih => intro ha y b e; have h0 := wrdAt_lt h1; have := (ih (by omega) y b e).1; exact ⟨by omega, fun _ => by omega⟩
  | fW0 _ => intro ha y b e; cases e
  | fS h1 _ ih => intro ha y b e; have h0 := sgnAt_lt h1; have := (ih (by omega) y b e).1; exact ⟨by omega, fun _ => by omega⟩
  | fS0 _ => intro ha y b e; cases e
  | @fN f a k its parts name r h1 _ ih => intro ha y b e; have h0 := tokAt_lt (t := t) (a := a) (by rw [h1]; decide); have := (ih (by omega) y b e).1; exact ⟨by omega, fun _ => by omega⟩
  | fN0 _ => intro ha y b e; cases e
  | fX hd _ ih => intro ha y b e; have q := hd.inR ha; simp only [InR] at q; have g := lev_sz hd; have := (ih q.2 y b e).1; rw [sz] at this; exact ⟨by omega, fun _ => by omega⟩
  | fX0 _ => intro ha y b e; cases e
  | @fT f a k its parts name r h1 _ ih =>
    intro ha y b e
    have q : a < (typAt t a).2.1 ∧ (typAt t a).2.1 ≤ t.length := typ_pl (t.length + 1) t a (by omega) h1
    have g : tsize (typAt t a).1 ≤ t.length + 2 := typ_ts' t (t.length + 1) a
    have := (ih q.2 y b e).1
    rw [sz] at this
    exact ⟨by omega, fun _ => by omega⟩
  | fT0 _ => intro ha y b e; cases e
  | fK hd _ ih1 ih2 => intro ha y b e; have q := hd.inS ha; simp only [InS] at q; have g := ih1 ha _ _ rfl; have := (ih2 q.2 y b e).1; rw [sz] at this; exact ⟨by omega, fun _ => by omega⟩
  | fK0 _ _ => intro ha y b e; cases e
  | fE0 _ _ => intro ha y b e; cases e
  | fE1 hd _ _ ih1 ih2 =>
    intro ha y b e
    have q := hd.inS ha; simp only [InS] at q
    have g := ih1 ha _ _ rfl
    have := (ih2 q.2 y b e).1
    rw [sz, sz] at this
    simp only [tsize, tsizes] at this
    exact ⟨by omega, fun _ => by omega⟩
  | fE2 hd hw hd2 _ ih1 ih2 ih3 =>
    intro ha y b e
    have hb := wrdAt_lt hw
    have q := hd.inS ha; simp only [InS] at q
    have q2 := hd2.inS (by omega); simp only [InS] at q2
    have g := ih1 ha _ _ rfl
    have g2 := ih2 (by omega) _ _ rfl
    have := (ih3 q2.2 y b e).1
    rw [sz, sz] at this
    exact ⟨by omega, fun _ => by omega⟩
  | fE3 _ _ _ _ _ => intro ha y b e; cases e
abbrev T2 : List Token := [⟨4, 0, [123], 0, 0⟩, ⟨4, 0, [125], 0, 2⟩]
theorem stmtAwake_ok : law08awake = some true := by
  have d : SDer T2 .blk 0 (.ok (placed T2 0 2 ⟨29, 0, [], [], 0, 0⟩) 2) := .b1 rfl (.lE rfl)
  have e := sblock_ok T2 (by decide) 0 (by decide) d
  unfold law08awake
  rw [show ((0 : Nat) : Int) = 0 from rfl] at e
  rw [e]; rfl
theorem stmt_sz {t : List Token} (hl : t.length ≤ 300) {a : Nat} {r : Res} (ha : a ≤ t.length) (h : SDer t .stmt a r) : tsize (ans r).1 ≤ 1000000 := by
  cases r with
  | ok x b =>
    have q := h.inS ha; simp only [InS] at q
    have := ss_of_sder hl h ha x b rfl
    show tsize x ≤ _
    omega
  | bad b => simp [ans, tsize, tsizes]
theorem blk_sz {t : List Token} (hl : t.length ≤ 300) {a : Nat} {r : Res} (ha : a ≤ t.length) (h : SDer t .blk a r) : tsize (ans r).1 ≤ 1000000 := by
  cases r with
  | ok x b =>
    have q := h.inS ha; simp only [InS] at q
    have := ss_of_sder hl h ha x b rfl
    show tsize x ≤ _
    omega
  | bad b => simp [ans, tsize, tsizes]
end Go.Proofs.Ytpdhlbejdagkmaa.M
