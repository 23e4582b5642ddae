/- UnitPlaces, as a plain law. -/
import Derived.Test.YtelddjedpmfclaaXM
namespace Go.Proofs.Ytelddjedpmfclaa.M
open Go Nt
set_option linter.unusedVariables false
theorem ord_last : ∀ {l : List Token} {a : Nat}, Ord a l → 0 < l.length ∧ (tokAt l (l.length - 1)).K = 5
  | [], a, h => h.elim
  | x :: r, a, ⟨f, t, h1, h2, h3, h4, h5⟩ => by
    rcases h5 with ⟨rfl, h⟩ | ⟨-, h5⟩
    · exact ⟨by simp, h⟩
    · obtain ⟨g1, g2⟩ := ord_last h5
      refine ⟨by simp, ?_⟩
      have : (x :: r).length - 1 = (r.length - 1) + 1 := by simp; omega
      rw [this]; exact g2
/-- the last token of what is read is no end -/
theorem lexes_tk {x : Str} (h : (lexes x).2.2 = 0) (hx : x.length ≤ 4100) : Tk (lexes x).1 ((lexes x).1.length - 1) := by
  have ho := lexes_ord h
  obtain ⟨-, hm⟩ := ord_mon ho
  obtain ⟨hpos, hk⟩ := ord_last ho
  have := (lexes_bd h).1
  exact ⟨hm, by omega, hk, by omega⟩
theorem unitPlacesLaw (x0 : Str) (w0 : x0.length ≤ 9223372036854775807) : law09UnitPlaces x0 = some true := by
  unfold law09UnitPlaces
  rw [unitAwake_ok]
  by_cases h1 : (List.length x0 : Int) > 2000
  · rw [if_pos h1]; rfl
  rw [if_neg h1]
  have e : ∃ m q e, unit_Parse x0 = some (m, q, e) ∧ (e = 0 → Wn m ∧ tsize m ≤ 1000000 ∧ m.From = 0 ∧ m.To = (List.length x0 : Int)) := by
    unfold unit_Parse
    rw [tokens_ok x0 w0, some_bind]
    by_cases h2 : (lexes x0).2.2 = 0
    · rw [if_pos h2]
      have tk := lexes_tk h2 (by omega)
      obtain ⟨g1, g2⟩ := lexes_bd h2
      have hl := tk.len
      have h0 := (ord_mon (lexes_ord h2)).1 0 (by omega)
      exact module_ok tk 0 [] (List.length x0 : Int) (by omega) (by simpa using h0) (fun i hi => by
        have hlt : i < (lexes x0).1.length := by omega
        have : tokAt (lexes x0).1 i = (lexes x0).1[i] := by unfold tokAt; rw [List.getElem?_eq_getElem hlt]; rfl
        rw [this]; exact g2 _ (List.getElem_mem hlt)) _ ((lexes x0).1.length) 0 [] (by omega) (by omega) (LL.nil (by omega))
    · rw [if_neg h2]
      exact ⟨_, _, _, rfl, fun g => absurd g h2⟩
  obtain ⟨m, q, e, h2, h3⟩ := e
  rw [h2, some_bind]; dsimp only
  by_cases h4 : e = 0
  · obtain ⟨g1, g2, g3, g4⟩ := h3 h4
    rw [if_pos h4, within_ok m g1 g2, some_bind, if_pos rfl, if_pos g3, if_pos g4]; rfl
  · rw [if_neg h4]; rfl
end Go.Proofs.Ytelddjedpmfclaa.M
