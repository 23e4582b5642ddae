import Derived.Test.YthbhgdooeeapjaaGreatFwZ5
import Derived.Shelf.Strings.OnBuilder
namespace Nt
open Go Go.Proofs Go.Shelf Go.RowKit
set_option linter.unusedVariables false
set_option linter.unusedSimpArgs false
theorem v1u : ∀ (l : List (List UInt8)) (s : List UInt8), Lib.join l s = y4E l s
  | [], s => rfl
  | x :: r, s => by
    rw [Lib.join_cons]
    unfold y4E
    unfold Lib.joinTail
    congr 2
theorem z8e {w : World} {b o : Nat} {v : Value} (h : uB w b o = some v) : b < w.heap.size := by
  by_cases hb : b < w.heap.size
  · exact hb
  · have e : w.heap[b]? = none := Array.getElem?_eq_none (by omega)
    simp [uB, World.cell?, e] at h
theorem y4l {w w' : World} (h : Below w.heap.size w w') (M : Nat → Nat → Prop) : Keeps w M w' M :=
  ⟨fun b o v hv _ => by rw [uQ (h.block b (z8e hv))]; exact hv, fun _ _ _ _ hm => hm⟩
theorem y4k {w w' : World} (h : Below w.heap.size w w') : Grows w w' :=
  ⟨fun b o v hv => ⟨v, by rw [uQ (h.block b (z8e hv))]; exact hv⟩, fun b o v hv hi => by rw [z3m (h.block b (z8e hv))]; exact hi⟩
theorem y4j {w w' : World} {M0 : Nat → Nat → Prop} {κ : Kap} {hp : H} (B : Before w M0 κ hp) (h : Below w.heap.size w w') : y3Q w M0 κ hp w' κ where
  kept := ⟨h.os, h.tape, h.output, h.size, fun k hk _ => h.block k hk⟩
  k0 := y4l h _
  g0 := y4k h
  kb := fun key b lo hk => ⟨Nat.lt_of_lt_of_le (B.kb key b lo hk) h.size, .inr ⟨key, lo, hk⟩⟩
  ki := B.ki
  hn := B.hn
  hp := fun _ _ h => h
  heap := by
    intro id cs hc
    obtain ⟨b, h1, h2⟩ := B.heap id cs hc
    refine ⟨b, h1, fun i c hi => ?_⟩
    obtain ⟨v, g1, g2, g3, g4⟩ := h2 i c hi
    have hb := h.block b (z8e g1)
    exact ⟨v, by rw [uQ hb]; exact g1, g2, by rw [z3m hb]; exact g3, RelHc.conv (y4l h _) (y4k h) (fun _ _ h => h) rfl g4⟩
theorem y5S {w : World} {M : Nat → Nat → Prop} {b : Nat} : ∀ (l : List (List UInt8)) (o : Nat), RelC w M b o (z1w (l.map .str)) → ∀ (j : Nat) x, (l.map fun s => (⟨⟨s⟩⟩ : ByteArray))[j]? = some x → w.cell? ⟨b, o + j, none⟩ = some (.string x)
  | [], o, _, j, x, hx => by simp at hx
  | s :: l, o, h, j, x, hx => by
    have h' : RelC w M b o (.str s :: z1w (l.map .str)) := h
    cases h' with
    | cons _ _ v _ _ h1 h2 h3 h4 h5 =>
      cases j with
      | zero =>
        simp at hx
        subst hx
        cases h4
        exact h1
      | succ j =>
        have := y5S l (o + 1) h5 j x (by simpa using hx)
        rw [show o + (j + 1) = o + 1 + j by omega]; exact this
theorem v1w {P : Program} {ρ : Ren} (L : Lays.n156 P ρ) (X : Builder.Extra P ρ) (l : List (List UInt8)) (s : List UInt8) (hp : H) (h1 : l.length ≤ 140737488355328) (h2 : (y4E l s).length ≤ 140737488355328) :
    Trip P (ρ.f 156) [.d (.sl (l.map .str)), .d (.str s)] hp [.d (.str (y4E l s))] hp := by
  refine ⟨⟨_, L.f156, by rfl, by rfl⟩, fun w M0 κ vs B hv => ?_⟩
  cases hv with
  | cons v1 _ vs1 _ g1 hv =>
    cases hv with
    | cons v2 _ vs2 _ g2 hv =>
      cases hv
      cases g1 with
      | d _ _ g1 =>
        cases g2 with
        | d _ _ g2 =>
          cases g2
          have fin : ∀ {w' : World}, Below w.heap.size w w' → ∃ v κ', Ending.returned (.string ⟨(y4E l s).toArray⟩) = .returned v ∧ y3Q w M0 κ hp w' κ' ∧ ResRel w' (Mut M0 κ') κ' v [.d (.str (y4E l s))] := fun hb =>
            ⟨_, κ, rfl, y4j B hb, rfl, .d _ _ (.str _)⟩
          have none : ∀ (a : Option Addr) (c : Nat), l = [] → Calls P (ρ.f 156) ⟨[.slice a 0 c, .string ⟨⟨s⟩⟩]⟩ w fun e w' => ∃ v κ', e = .returned v ∧ y3Q w M0 κ hp w' κ' ∧ ResRel w' (Mut M0 κ') κ' v [.d (.str (y4E l s))] := fun a c hl => by
            refine (Any.strings_Join_none L X a c ⟨⟨s⟩⟩ w).mono ?_
            rintro e w' ⟨rfl, hw⟩
            have := fin (w' := w') (by rw [hw]; exact Below.refl w.heap.size w)
            rw [hl] at this ⊢; exact this
          generalize hd : List.map D.str l = dl at g1
          cases g1 with
          | nil => exact none _ _ (List.map_eq_nil_iff.1 hd)
          | emp a => exact none _ _ (List.map_eq_nil_iff.1 hd)
          | sl b o cap _ hc hcap =>
            rw [← hd, List.length_map] at hcap
            rw [← hd] at hc
            have hlen : dl.length = l.length := by rw [← hd, List.length_map]
            rw [hlen]
            by_cases hl : l = []
            · have := none (some ⟨b, o, Option.none⟩) cap hl
              rw [hl] at this ⊢; exact this
            · obtain ⟨x, r, hl⟩ : ∃ x r, l = x :: r := by
                cases l with
                | nil => exact absurd rfl hl
                | cons x r => exact ⟨x, r, rfl⟩
              have e0 : ((l.map fun s => (⟨⟨s⟩⟩ : ByteArray)).map (·.data.toList)) = l := by rw [List.map_map]; exact List.map_id l
              have hcell := y5S l o hc
              have hb : b < w.heap.size := by
                have := hcell 0 ⟨⟨x⟩⟩ (by rw [hl]; rfl)
                exact z8e this
              have := Any.strings_Join L X b o cap (l.map fun s => (⟨⟨s⟩⟩ : ByteArray)) ⟨⟨s⟩⟩ w hcell hb (by rw [List.length_map]; exact h1) (by rw [List.length_map]; exact hcap) (by rw [e0, v1u]; exact h2)
              rw [List.length_map] at this
              refine this.mono ?_
              rintro e w' ⟨rfl, hb⟩
              rw [e0, v1u]
              exact fin hb
end Nt

