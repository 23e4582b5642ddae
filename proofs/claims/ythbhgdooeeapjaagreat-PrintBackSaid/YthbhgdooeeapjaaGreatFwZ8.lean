import Derived.Test.YthbhgdooeeapjaaGreatFwZ7
import Derived.Shelf.Strings.BuilderK
import Derived.Lib.OthersKept
import Derived.WalkKit
import Derived.BigCall
namespace Nt
open Go Go.Proofs Go.RowKit Go.Shelf
set_option linter.unusedVariables false
set_option linter.unusedSimpArgs false
theorem v0X {T e : TypeId} {B b : Nat} {bs : List Value} {w w' : World} (h : Lib.IsBuilderF T e B b bs w) (hb : Below w.heap.size w w') : Lib.IsBuilderF T e B b bs w' := by
  have one : ∀ p, Lib.BuilderAtF T e B b p bs w → Lib.BuilderAtF T e B b p bs w' := fun p ⟨h1, v, h2, h3, h4⟩ => by
    have hlt : b < w.heap.size := by
      rcases Nat.lt_or_ge b w.heap.size with h' | h'
      · exact h'
      · simp [Array.getElem?_eq_none h'] at h2
    refine ⟨h1, v, by rw [hb.block b hlt]; exact h2, h3.kept (row := none) ⟨hb.os, hb.tape, hb.output, hb.size, fun k hk _ => hb.block k hk⟩ ?_, h4⟩
    cases v.ownBlock with
    | none => exact .inl rfl
    | some k => exact .inr (by simp)
  exact h.elim (fun x => .inl (one _ x)) (fun x => .inr (one _ x))
theorem v3W {w : World} {M : Nat → Nat → Prop} {v : Value} : ∀ {l : List D}, RelV w M v (.sl l) → ∃ a n c, v = .slice a n c
  | _, .nil => ⟨_, _, _, rfl⟩
  | _, .emp _ => ⟨_, _, _, rfl⟩
  | _, .sl _ _ _ _ _ _ => ⟨_, _, _, rfl⟩
theorem y7P (k : IntKind) (n : Int) : intOf (.int k n) = n := rfl
theorem v5s {w : World} {M : Nat → Nat → Prop} {v : Value} : ∀ {l : List D}, RelV w M v (.sl l) → ∃ a c, v = .slice a l.length c ∧ (l ≠ [] → ∃ b o, a = some ⟨b, o, none⟩ ∧ RelC w M b o (z1w l))
  | _, .nil => ⟨_, _, rfl, fun h => absurd rfl h⟩
  | _, .emp _ => ⟨_, _, rfl, fun h => absurd rfl h⟩
  | _, .sl b o _ _ h _ => ⟨_, _, rfl, fun _ => ⟨b, o, rfl, h⟩⟩
def wK (b : Nat) : Kap
  | .hp 0 => some (b, 0)
  | _ => none
theorem y0z {b : Nat} {key : Key} {q : Nat × Nat} (h : wK b key = some q) : key = .hp 0 ∧ q = (b, 0) := by
  unfold wK at h
  split at h
  · exact ⟨rfl, (Option.some.inj h).symm⟩
  · cases h
theorem v6A {b b' o : Nat} (h : Mut noM (wK b) b' o) : b' = b := by
  rcases h with h | ⟨key, lo, h, -⟩
  · exact h.elim
  · have := (y0z h).2; simp at this; exact this.1
theorem v2S {W : World} {b : Nat} (hb : b < W.heap.size) (hc : uB W b 0 = some (.slice none 0 0)) (hi : icy W b 0 = false) : Before W noM (wK b) [[.own 1 []]] where
  m0 := fun b o h => h.elim
  kb := fun key b' lo h => by have := (y0z h).2; simp at this; omega
  ki := fun k1 k2 b' l1 l2 h1 h2 => by rw [(y0z h1).1, (y0z h2).1]
  hn := fun id r h => by have := (y0z h).1; simp at this; simp [this]
  noar := fun k => rfl
  heap := fun id cs hcs => by
    cases id with
    | zero =>
      simp at hcs; subst hcs
      refine ⟨b, rfl, fun i c hic => ?_⟩
      cases i with
      | zero =>
        simp at hic; subst hic
        exact ⟨_, hc, rfl, hi, .nil, fun x hx => by simp at hx, .inl rfl⟩
      | succ i => simp at hic
    | succ id => simp at hcs
theorem v3Z {W0 W1 W2 : World} {b n : Nat} {κ2 : Kap} {h' : H} {M0 : Nat → Nat → Prop} (h1 : Below n W0 W1) (hn : n ≤ b ∧ n ≤ W1.heap.size) (A : y3Q W1 M0 (wK b) h' W2 κ2) : Below n W0 W2 :=
  h1.trans ⟨A.kept.os, A.kept.tape, A.kept.output, A.kept.size, fun k hk => A.kept.block k (by omega) (fun ⟨key, lo, h⟩ => by have := (y0z h).2; simp at this; omega)⟩
theorem y7b {W W' : World} {κ κ' : Kap} {h' : H} (A : y3Q W noM κ h' W' κ') : Before W' noM (z9p κ') h' where
  m0 := fun b o h => h.elim
  kb := fun key b lo hk => (A.kb key b lo (z1h hk).2).1
  ki := fun k1 k2 b l1 l2 h1 h2 => A.ki k1 k2 b l1 l2 (z1h h1).2 (z1h h2).2
  hn := fun id r hk => A.hn id r hk
  noar := fun k => rfl
  heap := fun id cs hcs => by
    have K : Keeps W' (Mut noM κ') W' (Mut noM (z9p κ')) := ⟨fun _ _ _ h _ => h, fun b o v _ hm hm' => hm (by
      rcases hm' with h | ⟨key, lo, h, hl⟩
      · exact h.elim
      · exact .inr ⟨key, lo, (z1h h).2, hl⟩)⟩
    obtain ⟨b, h1, h2⟩ := A.heap id cs hcs
    refine ⟨b, h1, fun i c hi => ?_⟩
    obtain ⟨v, g1, g2, g3, g4⟩ := h2 i c hi
    exact ⟨v, g1, g2, g3, RelHc.conv (κ := κ') (κ' := z9p κ') K (.refl _) (fun _ _ h => h) rfl g4⟩
end Nt

