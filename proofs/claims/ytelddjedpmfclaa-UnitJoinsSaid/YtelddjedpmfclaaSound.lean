import Derived.Test.YtelddjedpmfclaaMod
import Derived.Test.YtelddjedpmfclaaEv
namespace Go.Proofs.Ytelddjedpmfclaa.M
open Go Nt Go.Proofs
set_option linter.unusedVariables false
set_option linter.unusedSimpArgs false
set_option linter.unnecessarySimpa false
set_option maxRecDepth 100000
theorem z2u (c : Int) (text : Str) (at_ : Int) (out : List zB) (r : Bool) (h : z0e c text at_ out = some r) : Trip Try.prog 28 [.hp 0 0, .d (.int .u8 c)] [(hX text at_ (List.map zB.toD out))] [(nB r)] [(hX text at_ (List.map zB.toD out))] := by
  unfold z0e at h
  refine yJ 1000 (by kernel_rfl) (by kernel_rfl) (by kernel_rfl) (by kernel_rfl) (by kernel_rfl) (z7q _ _ _ _ c text at_ out) ?_
  rintro _ rfl
  refine zI decide_eq_true_iff h (fun _ h => ?_) (fun _ h => ?_)
  ·
    rintro _ rfl
    cases h; exact ⟨rfl, rfl⟩
  cases h; exact ⟨rfl, rfl⟩
theorem z3R (c : Int) (text : Str) (at_ : Int) (out : List zB) (r : Bool) (h : z0p c text at_ out = some r) : Trip Try.prog 26 [.hp 0 0, .d (.int .u8 c)] [(hX text at_ (List.map zB.toD out))] [(nB r)] [(hX text at_ (List.map zB.toD out))] := by
  unfold z0p at h
  refine yJ 1000 (by kernel_rfl) (by kernel_rfl) (by kernel_rfl) (by kernel_rfl) (by kernel_rfl) (z6D _ _ _ _ c text at_ out) ?_
  rintro _ rfl
  refine zI decide_eq_true_iff h (fun _ h => ?_) (fun _ h => ?_)
  ·
    rintro _ rfl
    refine zI decide_eq_true_iff h (fun _ h => ?_) (fun _ h => ?_)
    ·
      cases h; exact ⟨rfl, rfl⟩
    rintro _ rfl
    refine zI decide_eq_true_iff h (fun _ h => ?_) (fun _ h => ?_)
    ·
      rintro _ rfl
      refine zI decide_eq_true_iff h (fun _ h => ?_) (fun _ h => ?_)
      ·
        cases h; exact ⟨rfl, rfl⟩
      rintro _ rfl
      cases h; exact ⟨rfl, rfl⟩
    rintro _ rfl
    cases h; exact ⟨rfl, rfl⟩
  rintro _ rfl
  refine zI decide_eq_true_iff h (fun _ h => ?_) (fun _ h => ?_)
  ·
    rintro _ rfl
    refine zI decide_eq_true_iff h (fun _ h => ?_) (fun _ h => ?_)
    ·
      cases h; exact ⟨rfl, rfl⟩
    rintro _ rfl
    cases h; exact ⟨rfl, rfl⟩
  rintro _ rfl
  cases h; exact ⟨rfl, rfl⟩
theorem z1I (k n : Int) (s : Str) (from_ : Int) (text : Str) (at_ : Int) (out : List zB) (r : Str × Int × List zB) (h : z0r k n s from_ text at_ out = some r) : Trip Try.prog 15 [.hp 0 0, (nI k), (nI n), (nS s), (nI from_)] [(hX text at_ (List.map zB.toD out))] [] [(hX r.1 r.2.1 (List.map zB.toD r.2.2))] := by
  unfold z0r at h
  refine yJ 1000 (by kernel_rfl) (by kernel_rfl) (by kernel_rfl) (by kernel_rfl) (by kernel_rfl) (y0W _ _ _ _ k n s from_ text at_ out) ?_
  refine ⟨by simp [uO, D.cells], ?_⟩
  refine ⟨by first | rfl | decide | simp only [List.length_map, List.length_cons, List.length_nil, List.map_append, List.length_append], ?_⟩
  obtain ⟨hP, h⟩ := z0q h
  refine ⟨by first | exact hP | simpa using hP, ?_⟩
  refine z1B (e' := List.map zB.toD (out ++ [(zB.mk k n s from_ at_)])) (by first | rfl | simp only [List.map_append, List.map_cons, List.map_nil, List.map_take, List.map_drop, List.map_set, List.map_replicate, List.length_map, zB.toD_eq]) ?_
  refine ⟨by first | rfl | decide | simp only [List.length_map, List.length_cons, List.length_nil, List.map_append, List.length_append], ?_⟩
  cases h; exact ⟨rfl, rfl⟩
def z3D : (i : z0O) → z1P i → Prop
  | .yA from_ s v v29 v30 text at_ out, r => Ok (z2I (Trip Try.prog) [(nI r.1)] [(hX r.2.1 r.2.2.1 (List.map zB.toD r.2.2.2))]) (kL Try.f29 7) ⟨49, [(0, .hp 0 0), (3, (nI from_)), (4, (nS s)), (5, .d (.int .u64 v)), (29, (nI v29)), (30, (nI v30))], [], [(hX text at_ (List.map zB.toD out))], 0⟩
theorem z6c : ∀ i r, z2Z z0N i = some r → z3D i r := by
  refine jQ z3C fun g ih i => ?_
  cases i with
  | yA from_ s v v29 v30 text at_ out =>
    have ih_lex_reader_number_L7 := fun from_ s v v29 v30 text at_ out r h => ih (.yA from_ s v v29 v30 text at_ out) r h
    intro r h
    replace h : jC (fun from_ s v v29 v30 text at_ out => g (z0O.yA from_ s v v29 v30 text at_ out)) from_ s v v29 v30 text at_ out = some r := h
    unfold jC at h
    refine z6L 1000 (z6f _ _ _ _ from_ s v v29 v30 text at_ out) ?_
    rintro _ rfl
    refine zI decide_eq_true_iff h (fun _ h => ?_) (fun _ h => ?_)
    ·
      rintro _ rfl
      obtain ⟨c, hx, h⟩ := zC h
      refine ⟨z6Q hx, c, y9M hx, ?_⟩
      rintro _ rfl
      rintro _ rfl
      rintro _ rfl
      rintro _ rfl
      rintro _ rfl
      exact ih_lex_reader_number_L7 _ _ _ _ _ _ _ _ _ h
    rintro _ rfl
    refine zI decide_eq_true_iff h (fun _ h => ?_) (fun _ h => ?_)
    ·
      cases h; exact ⟨rfl, rfl⟩
    rintro _ rfl
    obtain ⟨q1, g, h⟩ := zC h
    refine ⟨_, _, _, z1I _ _ _ _ _ _ _ _ g, ?_⟩
    cases h; exact ⟨rfl, rfl⟩
theorem z3E (from_ : Int) (s : Str) (v v29 v30 : Int) (text : Str) (at_ : Int) (out : List zB) (r : Int × Str × Int × List zB) (h : yA from_ s v v29 v30 text at_ out = some r) : z3D (.yA from_ s v v29 v30 text at_ out) r := z6c (.yA from_ s v v29 v30 text at_ out) r h
def z0R : (i : uY) → gX i → Prop
  | .zM from_ text at_ out, r => Ok (z0m (Trip Try.prog) [(nS r.1)] [(hX r.2.1 r.2.2.1 (List.map zB.toD r.2.2.2))]) (kL Try.f24 2) ⟨50, [(0, .hp 0 0), (1, .fn 28 [.hp 0 0] []), (5, (nI from_))], [], [(hX text at_ (List.map zB.toD out))], 0⟩
theorem z2W : ∀ i r, z2Z uX i = some r → z0R i r := by
  refine jQ z0Q fun g ih i => ?_
  cases i with
  | zM from_ text at_ out =>
    have ih_lex_reader_run_reader_isDigit_L2 := fun from_ text at_ out r h => ih (.zM from_ text at_ out) r h
    intro r h
    replace h : vL (fun from_ text at_ out => g (uY.zM from_ text at_ out)) from_ text at_ out = some r := h
    unfold vL at h
    refine z6L 1000 (z2Y _ _ _ _ from_ text at_ out) ?_
    rintro _ rfl
    rintro _ rfl
    refine zI decide_eq_true_iff h (fun _ h => ?_) (fun _ h => ?_)
    ·
      obtain ⟨c, hx, h⟩ := zC h
      refine ⟨z6Q hx, c, y9M hx, ?_⟩
      rintro _ rfl
      obtain ⟨q1, g, h⟩ := zC h
      refine ⟨_, z2u _ _ _ _ _ g, ?_⟩
      refine zI Iff.rfl h (fun _ h => ?_) (fun _ h => ?_)
      ·
        rintro _ rfl
        exact ih_lex_reader_run_reader_isDigit_L2 _ _ _ _ _ h
      obtain ⟨hP, h⟩ := z0q h
      refine ⟨by first | exact hP | simpa using hP, ?_⟩
      obtain ⟨hP, h⟩ := z0q h
      refine ⟨by first | exact hP | simpa using hP, ?_⟩
      obtain ⟨hP, h⟩ := z0q h
      refine ⟨by first | exact hP | simpa using hP, ?_⟩
      obtain ⟨hP, h⟩ := z0q h
      refine ⟨by first | exact hP | simpa using hP, ?_⟩
      rintro _ rfl
      cases h; exact ⟨rfl, rfl⟩
    obtain ⟨hP, h⟩ := z0q h
    refine ⟨by first | exact hP | simpa using hP, ?_⟩
    obtain ⟨hP, h⟩ := z0q h
    refine ⟨by first | exact hP | simpa using hP, ?_⟩
    obtain ⟨hP, h⟩ := z0q h
    refine ⟨by first | exact hP | simpa using hP, ?_⟩
    obtain ⟨hP, h⟩ := z0q h
    refine ⟨by first | exact hP | simpa using hP, ?_⟩
    rintro _ rfl
    cases h; exact ⟨rfl, rfl⟩
theorem z2X (from_ : Int) (text : Str) (at_ : Int) (out : List zB) (r : Str × Str × Int × List zB) (h : zM from_ text at_ out = some r) : z0R (.zM from_ text at_ out) r := z2W (.zM from_ text at_ out) r h
theorem z3H (text : Str) (at_ : Int) (out : List zB) (r : Str × Str × Int × List zB) (h : gO text at_ out = some r) : Trip Try.prog 24 [.hp 0 0, .fn 28 [.hp 0 0] []] [(hX text at_ (List.map zB.toD out))] [(nS r.1)] [(hX r.2.1 r.2.2.1 (List.map zB.toD r.2.2.2))] := by
  unfold gO at h
  refine yJ 1000 (by kernel_rfl) (by kernel_rfl) (by kernel_rfl) (by kernel_rfl) (by kernel_rfl) (z3L _ _ _ _ text at_ out) ?_
  exact z2X _ _ _ _ _ h
theorem z7H (text : Str) (at_ : Int) (out : List zB) (r : Int × Str × Int × List zB) (h : z2l text at_ out = some r) : Trip Try.prog 29 [.hp 0 0] [(hX text at_ (List.map zB.toD out))] [(nI r.1)] [(hX r.2.1 r.2.2.1 (List.map zB.toD r.2.2.2))] := by
  unfold z2l at h
  refine yJ 1000 (by kernel_rfl) (by kernel_rfl) (by kernel_rfl) (by kernel_rfl) (by kernel_rfl) (z7U _ _ _ _ text at_ out) ?_
  obtain ⟨q1, g, h⟩ := zC h
  refine ⟨_, _, _, _, z3H _ _ _ _ g, ?_⟩
  rintro _ rfl
  rintro _ rfl
  refine zI decide_eq_true_iff h (fun _ h => ?_) (fun _ h => ?_)
  ·
    cases h; exact ⟨rfl, rfl⟩
  rintro _ rfl
  rintro _ rfl
  refine zI decide_eq_true_iff h (fun _ h => ?_) (fun _ h => ?_)
  ·
    obtain ⟨c, hx, h⟩ := zC h
    refine ⟨z6Q hx, c, y9M hx, ?_⟩
    rintro _ rfl
    rintro _ rfl
    refine zI beq_iff_eq h (fun _ h => ?_) (fun _ h => ?_)
    ·
      cases h; exact ⟨rfl, rfl⟩
    rintro _ rfl
    exact z3E _ _ _ _ _ _ _ _ _ h
  rintro _ rfl
  exact z3E _ _ _ _ _ _ _ _ _ h
theorem z5h (k : Int) (text : Str) (at_ : Int) (out : List zB) (r : Int) (h : z0I k text at_ out = some r) : Trip Try.prog 23 [.hp 0 0, (nI k)] [(hX text at_ (List.map zB.toD out))] [.d (.int .u8 r)] [(hX text at_ (List.map zB.toD out))] := by
  unfold z0I at h
  refine yJ 1000 (by kernel_rfl) (by kernel_rfl) (by kernel_rfl) (by kernel_rfl) (by kernel_rfl) (y0f _ _ _ _ k text at_ out) ?_
  rintro _ rfl
  rintro _ rfl
  rintro _ rfl
  refine zI decide_eq_true_iff h (fun _ h => ?_) (fun _ h => ?_)
  ·
    rintro _ rfl
    obtain ⟨c, hx, h⟩ := zC h
    refine ⟨z6Q hx, c, y9M hx, ?_⟩
    rintro _ rfl
    cases h; exact ⟨rfl, rfl⟩
  cases h; exact ⟨rfl, rfl⟩
theorem y4a (s : Str) (r : Bool) (h : z5y s = some r) : Trip Try.prog 44 [(nS s)] [] [(nB r)] [] := by
  unfold z5y at h
  refine yJ 1000 (by kernel_rfl) (by kernel_rfl) (by kernel_rfl) (by kernel_rfl) (by kernel_rfl) (y4x _ _ _ _ s) ?_
  rintro _ rfl
  refine zI beq_iff_eq h (fun hc16 h => ?_) (fun hc16 h => ?_)
  ·
    refine uP beq_iff_eq hc16 ?_
    cases h; exact ⟨rfl, rfl⟩
  rintro _ rfl
  refine zI beq_iff_eq h (fun hc17 h => ?_) (fun hc17 h => ?_)
  ·
    refine uP beq_iff_eq hc17 ?_
    cases h; exact ⟨rfl, rfl⟩
  rintro _ rfl
  refine zI beq_iff_eq h (fun hc18 h => ?_) (fun hc18 h => ?_)
  ·
    refine uP beq_iff_eq hc18 ?_
    cases h; exact ⟨rfl, rfl⟩
  rintro _ rfl
  refine zI beq_iff_eq h (fun hc19 h => ?_) (fun hc19 h => ?_)
  ·
    refine uP beq_iff_eq hc19 ?_
    cases h; exact ⟨rfl, rfl⟩
  rintro _ rfl
  refine zI beq_iff_eq h (fun hc20 h => ?_) (fun hc20 h => ?_)
  ·
    refine uP beq_iff_eq hc20 ?_
    cases h; exact ⟨rfl, rfl⟩
  rintro _ rfl
  refine zI beq_iff_eq h (fun hc21 h => ?_) (fun hc21 h => ?_)
  ·
    refine uP beq_iff_eq hc21 ?_
    cases h; exact ⟨rfl, rfl⟩
  rintro _ rfl
  refine zI beq_iff_eq h (fun hc22 h => ?_) (fun hc22 h => ?_)
  ·
    refine uP beq_iff_eq hc22 ?_
    cases h; exact ⟨rfl, rfl⟩
  rintro _ rfl
  refine zI beq_iff_eq h (fun hc23 h => ?_) (fun hc23 h => ?_)
  ·
    refine uP beq_iff_eq hc23 ?_
    cases h; exact ⟨rfl, rfl⟩
  rintro _ rfl
  refine zI beq_iff_eq h (fun hc24 h => ?_) (fun hc24 h => ?_)
  ·
    refine uP beq_iff_eq hc24 ?_
    cases h; exact ⟨rfl, rfl⟩
  rintro _ rfl
  refine zI beq_iff_eq h (fun hc25 h => ?_) (fun hc25 h => ?_)
  ·
    refine uP beq_iff_eq hc25 ?_
    cases h; exact ⟨rfl, rfl⟩
  rintro _ rfl
  refine zI beq_iff_eq h (fun hc26 h => ?_) (fun hc26 h => ?_)
  ·
    refine uP beq_iff_eq hc26 ?_
    cases h; exact ⟨rfl, rfl⟩
  rintro _ rfl
  refine zI beq_iff_eq h (fun hc27 h => ?_) (fun hc27 h => ?_)
  ·
    refine uP beq_iff_eq hc27 ?_
    cases h; exact ⟨rfl, rfl⟩
  rintro _ rfl
  refine zI beq_iff_eq h (fun hc28 h => ?_) (fun hc28 h => ?_)
  ·
    refine uP beq_iff_eq hc28 ?_
    cases h; exact ⟨rfl, rfl⟩
  rintro _ rfl
  refine zI beq_iff_eq h (fun hc29 h => ?_) (fun hc29 h => ?_)
  ·
    refine uP beq_iff_eq hc29 ?_
    cases h; exact ⟨rfl, rfl⟩
  rintro _ rfl
  refine zI beq_iff_eq h (fun hc30 h => ?_) (fun hc30 h => ?_)
  ·
    refine uP beq_iff_eq hc30 ?_
    cases h; exact ⟨rfl, rfl⟩
  rintro _ rfl
  refine zI beq_iff_eq h (fun hc31 h => ?_) (fun hc31 h => ?_)
  ·
    refine uP beq_iff_eq hc31 ?_
    cases h; exact ⟨rfl, rfl⟩
  rintro _ rfl
  refine zI beq_iff_eq h (fun hc32 h => ?_) (fun hc32 h => ?_)
  ·
    refine uP beq_iff_eq hc32 ?_
    cases h; exact ⟨rfl, rfl⟩
  rintro _ rfl
  refine zI beq_iff_eq h (fun hc33 h => ?_) (fun hc33 h => ?_)
  ·
    refine uP beq_iff_eq hc33 ?_
    cases h; exact ⟨rfl, rfl⟩
  rintro _ rfl
  refine zI beq_iff_eq h (fun hc34 h => ?_) (fun hc34 h => ?_)
  ·
    refine uP beq_iff_eq hc34 ?_
    cases h; exact ⟨rfl, rfl⟩
  rintro _ rfl
  refine zI beq_iff_eq h (fun _ h => ?_) (fun _ h => ?_)
  ·
    cases h; exact ⟨rfl, rfl⟩
  cases h; exact ⟨rfl, rfl⟩
theorem z7G (c : Int) (text : Str) (at_ : Int) (out : List zB) (r : Bool) (h : z1v c text at_ out = some r) : Trip Try.prog 43 [.hp 0 0, .d (.int .u8 c)] [(hX text at_ (List.map zB.toD out))] [(nB r)] [(hX text at_ (List.map zB.toD out))] := by
  unfold z1v at h
  refine yJ 1000 (by kernel_rfl) (by kernel_rfl) (by kernel_rfl) (by kernel_rfl) (by kernel_rfl) (z7T _ _ _ _ c text at_ out) ?_
  obtain ⟨q1, g, h⟩ := zC h
  refine ⟨_, z3R _ _ _ _ _ g, ?_⟩
  refine zI Iff.rfl h (fun _ h => ?_) (fun _ h => ?_)
  ·
    cases h; exact ⟨rfl, rfl⟩
  obtain ⟨q2, g, h⟩ := zC h
  refine ⟨_, z2u _ _ _ _ _ g, ?_⟩
  cases h; exact ⟨rfl, rfl⟩
def z1c : (i : jG) → z0b i → Prop
  | .zP from_ text at_ out, r => Ok (z0v (Trip Try.prog) [(nS r.1)] [(hX r.2.1 r.2.2.1 (List.map zB.toD r.2.2.2))]) (kL Try.f24 2) ⟨50, [(0, .hp 0 0), (1, .fn 43 [.hp 0 0] []), (5, (nI from_))], [], [(hX text at_ (List.map zB.toD out))], 0⟩
theorem z3d : ∀ i r, z2Z jE i = some r → z1c i r := by
  refine jQ z0Z fun g ih i => ?_
  cases i with
  | zP from_ text at_ out =>
    have ih_lex_reader_run_reader_isMore_L2 := fun from_ text at_ out r h => ih (.zP from_ text at_ out) r h
    intro r h
    replace h : vQ (fun from_ text at_ out => g (jG.zP from_ text at_ out)) from_ text at_ out = some r := h
    unfold vQ at h
    refine z6L 1000 (z3r _ _ _ _ from_ text at_ out) ?_
    rintro _ rfl
    rintro _ rfl
    refine zI decide_eq_true_iff h (fun _ h => ?_) (fun _ h => ?_)
    ·
      obtain ⟨c, hx, h⟩ := zC h
      refine ⟨z6Q hx, c, y9M hx, ?_⟩
      rintro _ rfl
      obtain ⟨q1, g, h⟩ := zC h
      refine ⟨_, z7G _ _ _ _ _ g, ?_⟩
      refine zI Iff.rfl h (fun _ h => ?_) (fun _ h => ?_)
      ·
        rintro _ rfl
        exact ih_lex_reader_run_reader_isMore_L2 _ _ _ _ _ h
      obtain ⟨hP, h⟩ := z0q h
      refine ⟨by first | exact hP | simpa using hP, ?_⟩
      obtain ⟨hP, h⟩ := z0q h
      refine ⟨by first | exact hP | simpa using hP, ?_⟩
      obtain ⟨hP, h⟩ := z0q h
      refine ⟨by first | exact hP | simpa using hP, ?_⟩
      obtain ⟨hP, h⟩ := z0q h
      refine ⟨by first | exact hP | simpa using hP, ?_⟩
      rintro _ rfl
      cases h; exact ⟨rfl, rfl⟩
    obtain ⟨hP, h⟩ := z0q h
    refine ⟨by first | exact hP | simpa using hP, ?_⟩
    obtain ⟨hP, h⟩ := z0q h
    refine ⟨by first | exact hP | simpa using hP, ?_⟩
    obtain ⟨hP, h⟩ := z0q h
    refine ⟨by first | exact hP | simpa using hP, ?_⟩
    obtain ⟨hP, h⟩ := z0q h
    refine ⟨by first | exact hP | simpa using hP, ?_⟩
    rintro _ rfl
    cases h; exact ⟨rfl, rfl⟩
theorem z3l (from_ : Int) (text : Str) (at_ : Int) (out : List zB) (r : Str × Str × Int × List zB) (h : zP from_ text at_ out = some r) : z1c (.zP from_ text at_ out) r := z3d (.zP from_ text at_ out) r h
theorem z3T (text : Str) (at_ : Int) (out : List zB) (r : Str × Str × Int × List zB) (h : gW text at_ out = some r) : Trip Try.prog 24 [.hp 0 0, .fn 43 [.hp 0 0] []] [(hX text at_ (List.map zB.toD out))] [(nS r.1)] [(hX r.2.1 r.2.2.1 (List.map zB.toD r.2.2.2))] := by
  unfold gW at h
  refine yJ 1000 (by kernel_rfl) (by kernel_rfl) (by kernel_rfl) (by kernel_rfl) (by kernel_rfl) (z3X _ _ _ _ text at_ out) ?_
  exact z3l _ _ _ _ _ h
theorem z9S (text : Str) (at_ : Int) (out : List zB) (r : Int × Str × Int × List zB) (h : z3x text at_ out = some r) : Trip Try.prog 27 [.hp 0 0] [(hX text at_ (List.map zB.toD out))] [(nI r.1)] [(hX r.2.1 r.2.2.1 (List.map zB.toD r.2.2.2))] := by
  unfold z3x at h
  refine yJ 1000 (by kernel_rfl) (by kernel_rfl) (by kernel_rfl) (by kernel_rfl) (by kernel_rfl) (y0h _ _ _ _ text at_ out) ?_
  obtain ⟨q1, g, h⟩ := zC h
  refine ⟨_, _, _, _, z3T _ _ _ _ g, ?_⟩
  rintro _ rfl
  rintro _ rfl
  refine zI decide_eq_true_iff h (fun _ h => ?_) (fun _ h => ?_)
  ·
    cases h; exact ⟨rfl, rfl⟩
  obtain ⟨q2, g, h⟩ := zC h
  refine ⟨_, ⟨_, y4a _ _ g⟩, ?_⟩
  refine zI Iff.rfl h (fun _ h => ?_) (fun _ h => ?_)
  ·
    obtain ⟨q3, g, h⟩ := zC h
    refine ⟨_, _, _, z1I _ _ _ _ _ _ _ _ g, ?_⟩
    cases h; exact ⟨rfl, rfl⟩
  obtain ⟨q4, g, h⟩ := zC h
  refine ⟨_, _, _, z1I _ _ _ _ _ _ _ _ g, ?_⟩
  cases h; exact ⟨rfl, rfl⟩
theorem y4b (c d r : Int) (h : z5z c d = some r) : Trip Try.prog 30 [.d (.int .u8 c), .d (.int .u8 d)] [] [(nI r)] [] := by
  unfold z5z at h
  refine yJ 1000 (by kernel_rfl) (by kernel_rfl) (by kernel_rfl) (by kernel_rfl) (by kernel_rfl) (y4y _ _ _ _ c d) ?_
  rintro _ rfl
  refine zI beq_iff_eq h (fun hc41 h => ?_) (fun hc41 h => ?_)
  ·
    refine uP beq_iff_eq hc41 ?_
    rintro _ rfl
    refine zI beq_iff_eq h (fun _ h => ?_) (fun _ h => ?_)
    ·
      cases h; exact ⟨rfl, rfl⟩
    cases h; exact ⟨rfl, rfl⟩
  rintro _ rfl
  refine zI beq_iff_eq h (fun hc43 h => ?_) (fun hc43 h => ?_)
  ·
    refine uP beq_iff_eq hc43 ?_
    rintro _ rfl
    refine zI beq_iff_eq h (fun _ h => ?_) (fun _ h => ?_)
    ·
      cases h; exact ⟨rfl, rfl⟩
    cases h; exact ⟨rfl, rfl⟩
  rintro _ rfl
  refine zI beq_iff_eq h (fun hc45 h => ?_) (fun hc45 h => ?_)
  ·
    refine uP beq_iff_eq hc45 ?_
    rintro _ rfl
    refine zI beq_iff_eq h (fun _ h => ?_) (fun _ h => ?_)
    ·
      cases h; exact ⟨rfl, rfl⟩
    cases h; exact ⟨rfl, rfl⟩
  rintro _ rfl
  refine zI beq_iff_eq h (fun _ h => ?_) (fun _ h => ?_)
  ·
    rintro _ rfl
    refine zI beq_iff_eq h (fun _ h => ?_) (fun _ h => ?_)
    ·
      cases h; exact ⟨rfl, rfl⟩
    cases h; exact ⟨rfl, rfl⟩
  rintro _ rfl
  refine zI beq_iff_eq h (fun hc49 h => ?_) (fun hc49 h => ?_)
  ·
    refine uP beq_iff_eq hc49 ?_
    rintro _ rfl
    refine zI beq_iff_eq h (fun _ h => ?_) (fun _ h => ?_)
    ·
      cases h; exact ⟨rfl, rfl⟩
    cases h; exact ⟨rfl, rfl⟩
  rintro _ rfl
  refine zI beq_iff_eq h (fun _ h => ?_) (fun _ h => ?_)
  ·
    rintro _ rfl
    refine zI beq_iff_eq h (fun _ h => ?_) (fun _ h => ?_)
    ·
      cases h; exact ⟨rfl, rfl⟩
    cases h; exact ⟨rfl, rfl⟩
  rintro _ rfl
  refine zI beq_iff_eq h (fun hc53 h => ?_) (fun hc53 h => ?_)
  ·
    refine uP beq_iff_eq hc53 ?_
    cases h; exact ⟨rfl, rfl⟩
  rintro _ rfl
  refine zI beq_iff_eq h (fun hc54 h => ?_) (fun hc54 h => ?_)
  ·
    refine uP beq_iff_eq hc54 ?_
    cases h; exact ⟨rfl, rfl⟩
  rintro _ rfl
  refine zI beq_iff_eq h (fun hc55 h => ?_) (fun hc55 h => ?_)
  ·
    refine uP beq_iff_eq hc55 ?_
    cases h; exact ⟨rfl, rfl⟩
  rintro _ rfl
  refine zI beq_iff_eq h (fun hc56 h => ?_) (fun hc56 h => ?_)
  ·
    refine uP beq_iff_eq hc56 ?_
    cases h; exact ⟨rfl, rfl⟩
  rintro _ rfl
  refine zI beq_iff_eq h (fun hc57 h => ?_) (fun hc57 h => ?_)
  ·
    refine uP beq_iff_eq hc57 ?_
    cases h; exact ⟨rfl, rfl⟩
  rintro _ rfl
  refine zI beq_iff_eq h (fun hc58 h => ?_) (fun hc58 h => ?_)
  ·
    refine uP beq_iff_eq hc58 ?_
    cases h; exact ⟨rfl, rfl⟩
  rintro _ rfl
  refine zI beq_iff_eq h (fun hc59 h => ?_) (fun hc59 h => ?_)
  ·
    refine uP beq_iff_eq hc59 ?_
    cases h; exact ⟨rfl, rfl⟩
  rintro _ rfl
  refine zI beq_iff_eq h (fun hc60 h => ?_) (fun hc60 h => ?_)
  ·
    refine uP beq_iff_eq hc60 ?_
    cases h; exact ⟨rfl, rfl⟩
  rintro _ rfl
  refine zI beq_iff_eq h (fun hc61 h => ?_) (fun hc61 h => ?_)
  ·
    refine uP beq_iff_eq hc61 ?_
    cases h; exact ⟨rfl, rfl⟩
  rintro _ rfl
  refine zI beq_iff_eq h (fun hc62 h => ?_) (fun hc62 h => ?_)
  ·
    refine uP beq_iff_eq hc62 ?_
    cases h; exact ⟨rfl, rfl⟩
  rintro _ rfl
  refine zI beq_iff_eq h (fun hc63 h => ?_) (fun hc63 h => ?_)
  ·
    refine uP beq_iff_eq hc63 ?_
    cases h; exact ⟨rfl, rfl⟩
  rintro _ rfl
  refine zI beq_iff_eq h (fun hc64 h => ?_) (fun hc64 h => ?_)
  ·
    refine uP beq_iff_eq hc64 ?_
    cases h; exact ⟨rfl, rfl⟩
  rintro _ rfl
  refine zI beq_iff_eq h (fun hc65 h => ?_) (fun hc65 h => ?_)
  ·
    refine uP beq_iff_eq hc65 ?_
    cases h; exact ⟨rfl, rfl⟩
  rintro _ rfl
  refine zI beq_iff_eq h (fun hc66 h => ?_) (fun hc66 h => ?_)
  ·
    refine uP beq_iff_eq hc66 ?_
    cases h; exact ⟨rfl, rfl⟩
  rintro _ rfl
  refine zI beq_iff_eq h (fun hc67 h => ?_) (fun hc67 h => ?_)
  ·
    refine uP beq_iff_eq hc67 ?_
    cases h; exact ⟨rfl, rfl⟩
  rintro _ rfl
  refine zI beq_iff_eq h (fun _ h => ?_) (fun _ h => ?_)
  ·
    cases h; exact ⟨rfl, rfl⟩
  cases h; exact ⟨rfl, rfl⟩
theorem y0K (text : Str) (at_ : Int) (out : List zB) (r : Int × Str × Int × List zB) (h : z1O text at_ out = some r) : Trip Try.prog 14 [.hp 0 0] [(hX text at_ (List.map zB.toD out))] [(nI r.1)] [(hX r.2.1 r.2.2.1 (List.map zB.toD r.2.2.2))] := by
  unfold z1O at h
  refine yJ 1000 (by kernel_rfl) (by kernel_rfl) (by kernel_rfl) (by kernel_rfl) (by kernel_rfl) (y0V _ _ _ _ text at_ out) ?_
  obtain ⟨c, hx, h⟩ := zC h
  refine ⟨z6Q hx, c, y9M hx, ?_⟩
  rintro _ rfl
  obtain ⟨q1, g, h⟩ := zC h
  refine ⟨_, z3R _ _ _ _ _ g, ?_⟩
  refine zI Iff.rfl h (fun _ h => ?_) (fun _ h => ?_)
  ·
    obtain ⟨q2, g, h⟩ := zC h
    refine ⟨_, _, _, _, z9S _ _ _ _ g, ?_⟩
    cases h; exact ⟨rfl, rfl⟩
  obtain ⟨q3, g, h⟩ := zC h
  refine ⟨_, z2u _ _ _ _ _ g, ?_⟩
  refine zI Iff.rfl h (fun _ h => ?_) (fun _ h => ?_)
  ·
    obtain ⟨q4, g, h⟩ := zC h
    refine ⟨_, _, _, _, z7H _ _ _ _ g, ?_⟩
    cases h; exact ⟨rfl, rfl⟩
  obtain ⟨q5, g, h⟩ := zC h
  refine ⟨_, z5h _ _ _ _ _ g, ?_⟩
  obtain ⟨q6, g, h⟩ := zC h
  refine ⟨_, ⟨_, y4b _ _ _ g⟩, ?_⟩
  rintro _ rfl
  refine zI beq_iff_eq h (fun _ h => ?_) (fun _ h => ?_)
  ·
    cases h; exact ⟨rfl, rfl⟩
  rintro _ rfl
  obtain ⟨hP, h⟩ := z0q h
  refine ⟨by first | exact hP | simpa using hP, ?_⟩
  obtain ⟨hP, h⟩ := z0q h
  refine ⟨by first | exact hP | simpa using hP, ?_⟩
  obtain ⟨hP, h⟩ := z0q h
  refine ⟨by first | exact hP | simpa using hP, ?_⟩
  obtain ⟨hP, h⟩ := z0q h
  refine ⟨by first | exact hP | simpa using hP, ?_⟩
  rintro _ rfl
  obtain ⟨q7, g, h⟩ := zC h
  refine ⟨_, _, _, z1I _ _ _ _ _ _ _ _ g, ?_⟩
  cases h; exact ⟨rfl, rfl⟩
theorem z7F (c : Int) (text : Str) (at_ : Int) (out : List zB) (r : Bool) (h : z1u c text at_ out = some r) : Trip Try.prog 25 [.hp 0 0, .d (.int .u8 c)] [(hX text at_ (List.map zB.toD out))] [(nB r)] [(hX text at_ (List.map zB.toD out))] := by
  unfold z1u at h
  refine yJ 1000 (by kernel_rfl) (by kernel_rfl) (by kernel_rfl) (by kernel_rfl) (by kernel_rfl) (z7S _ _ _ _ c text at_ out) ?_
  rintro _ rfl
  cases h; exact ⟨rfl, rfl⟩
def z1b : (i : jF) → z0a i → Prop
  | .zO from_ text at_ out, r => Ok (z0u (Trip Try.prog) [(nS r.1)] [(hX r.2.1 r.2.2.1 (List.map zB.toD r.2.2.2))]) (kL Try.f24 2) ⟨50, [(0, .hp 0 0), (1, .fn 25 [.hp 0 0] []), (5, (nI from_))], [], [(hX text at_ (List.map zB.toD out))], 0⟩
theorem z3c : ∀ i r, z2Z jD i = some r → z1b i r := by
  refine jQ z0Y fun g ih i => ?_
  cases i with
  | zO from_ text at_ out =>
    have ih_lex_reader_run_reader_isLine_L2 := fun from_ text at_ out r h => ih (.zO from_ text at_ out) r h
    intro r h
    replace h : vP (fun from_ text at_ out => g (jF.zO from_ text at_ out)) from_ text at_ out = some r := h
    unfold vP at h
    refine z6L 1000 (z3q _ _ _ _ from_ text at_ out) ?_
    rintro _ rfl
    rintro _ rfl
    refine zI decide_eq_true_iff h (fun _ h => ?_) (fun _ h => ?_)
    ·
      obtain ⟨c, hx, h⟩ := zC h
      refine ⟨z6Q hx, c, y9M hx, ?_⟩
      rintro _ rfl
      obtain ⟨q1, g, h⟩ := zC h
      refine ⟨_, z7F _ _ _ _ _ g, ?_⟩
      refine zI Iff.rfl h (fun _ h => ?_) (fun _ h => ?_)
      ·
        rintro _ rfl
        exact ih_lex_reader_run_reader_isLine_L2 _ _ _ _ _ h
      obtain ⟨hP, h⟩ := z0q h
      refine ⟨by first | exact hP | simpa using hP, ?_⟩
      obtain ⟨hP, h⟩ := z0q h
      refine ⟨by first | exact hP | simpa using hP, ?_⟩
      obtain ⟨hP, h⟩ := z0q h
      refine ⟨by first | exact hP | simpa using hP, ?_⟩
      obtain ⟨hP, h⟩ := z0q h
      refine ⟨by first | exact hP | simpa using hP, ?_⟩
      rintro _ rfl
      cases h; exact ⟨rfl, rfl⟩
    obtain ⟨hP, h⟩ := z0q h
    refine ⟨by first | exact hP | simpa using hP, ?_⟩
    obtain ⟨hP, h⟩ := z0q h
    refine ⟨by first | exact hP | simpa using hP, ?_⟩
    obtain ⟨hP, h⟩ := z0q h
    refine ⟨by first | exact hP | simpa using hP, ?_⟩
    obtain ⟨hP, h⟩ := z0q h
    refine ⟨by first | exact hP | simpa using hP, ?_⟩
    rintro _ rfl
    cases h; exact ⟨rfl, rfl⟩
theorem z3k (from_ : Int) (text : Str) (at_ : Int) (out : List zB) (r : Str × Str × Int × List zB) (h : zO from_ text at_ out = some r) : z1b (.zO from_ text at_ out) r := z3c (.zO from_ text at_ out) r h
theorem z3S (text : Str) (at_ : Int) (out : List zB) (r : Str × Str × Int × List zB) (h : gV text at_ out = some r) : Trip Try.prog 24 [.hp 0 0, .fn 25 [.hp 0 0] []] [(hX text at_ (List.map zB.toD out))] [(nS r.1)] [(hX r.2.1 r.2.2.1 (List.map zB.toD r.2.2.2))] := by
  unfold gV at h
  refine yJ 1000 (by kernel_rfl) (by kernel_rfl) (by kernel_rfl) (by kernel_rfl) (by kernel_rfl) (z3W _ _ _ _ text at_ out) ?_
  exact z3k _ _ _ _ _ h
def z4m : (i : z1q) → z2t i → Prop
  | .yC text at_ out, r => Ok (z3K (Trip Try.prog) [] [(hX r.1 r.2.1 (List.map zB.toD r.2.2))]) (kL Try.f13 0) ⟨56, [(0, .hp 0 0)], [], [(hX text at_ (List.map zB.toD out))], 0⟩
theorem z7d : ∀ i r, z2Z z1o i = some r → z4m i r := by
  refine jQ z4k fun g ih i => ?_
  cases i with
  | yC text at_ out =>
    have ih_lex_reader_skip_L0 := fun text at_ out r h => ih (.yC text at_ out) r h
    intro r h
    replace h : gE (fun text at_ out => g (z1q.yC text at_ out)) text at_ out = some r := h
    unfold gE at h
    refine z6L 1000 (z7r _ _ _ _ text at_ out) ?_
    rintro _ rfl
    rintro _ rfl
    refine zI decide_eq_true_iff h (fun _ h => ?_) (fun _ h => ?_)
    ·
      obtain ⟨c, hx, h⟩ := zC h
      refine ⟨z6Q hx, c, y9M hx, ?_⟩
      rintro _ rfl
      rintro _ rfl
      refine zI beq_iff_eq h (fun _ h => ?_) (fun _ h => ?_)
      ·
        rintro _ rfl
        exact ih_lex_reader_skip_L0 _ _ _ _ h
      rintro _ rfl
      refine zI beq_iff_eq h (fun _ h => ?_) (fun _ h => ?_)
      ·
        rintro _ rfl
        exact ih_lex_reader_skip_L0 _ _ _ _ h
      rintro _ rfl
      refine zI beq_iff_eq h (fun _ h => ?_) (fun _ h => ?_)
      ·
        rintro _ rfl
        exact ih_lex_reader_skip_L0 _ _ _ _ h
      rintro _ rfl
      refine zI beq_iff_eq h (fun _ h => ?_) (fun _ h => ?_)
      ·
        rintro _ rfl
        exact ih_lex_reader_skip_L0 _ _ _ _ h
      rintro _ rfl
      refine zI beq_iff_eq h (fun _ h => ?_) (fun _ h => ?_)
      ·
        obtain ⟨q1, g, h⟩ := zC h
        refine ⟨_, z5h _ _ _ _ _ g, ?_⟩
        rintro _ rfl
        refine zI beq_iff_eq h (fun _ h => ?_) (fun _ h => ?_)
        ·
          obtain ⟨q2, g, h⟩ := zC h
          refine ⟨_, _, _, _, z3S _ _ _ _ g, ?_⟩
          exact ih_lex_reader_skip_L0 _ _ _ _ h
        cases h; exact ⟨rfl, rfl⟩
      cases h; exact ⟨rfl, rfl⟩
    cases h; exact ⟨rfl, rfl⟩
theorem z7f (text : Str) (at_ : Int) (out : List zB) (r : Str × Int × List zB) (h : yC text at_ out = some r) : z4m (.yC text at_ out) r := z7d (.yC text at_ out) r h
theorem z5i (text : Str) (at_ : Int) (out : List zB) (r : Str × Int × List zB) (h : z1w text at_ out = some r) : Trip Try.prog 13 [.hp 0 0] [(hX text at_ (List.map zB.toD out))] [] [(hX r.1 r.2.1 (List.map zB.toD r.2.2))] := by
  unfold z1w at h
  refine yJ 1000 (by kernel_rfl) (by kernel_rfl) (by kernel_rfl) (by kernel_rfl) (by kernel_rfl) (y0g _ _ _ _ text at_ out) ?_
  exact z7f _ _ _ _ h
def z6m : (i : z3e) → z4x i → Prop
  | .wG text text1 at_ out, r => Ok (z6v (Trip Try.prog) (hU (List.map zB.toD r.1) r.2.1 r.2.2) []) (kL Try.f10 5) ⟨45, [(0, (nS text)), (5, .hp 0 0)], [], [(hX text1 at_ (List.map zB.toD out))], 0⟩
theorem y1o : ∀ i r, z2Z z3a i = some r → z6m i r := by
  refine jQ z6i fun g ih i => ?_
  cases i with
  | wG text text1 at_ out =>
    have ih_lex_Tokens_L5 := fun text text1 at_ out r h => ih (.wG text text1 at_ out) r h
    intro r h
    replace h : z1t (fun text text1 at_ out => g (z3e.wG text text1 at_ out)) text text1 at_ out = some r := h
    unfold z1t at h
    refine z6L 1000 (y1K _ _ _ _ text text1 at_ out) ?_
    rintro _ rfl
    rintro _ rfl
    refine zI decide_eq_true_iff h (fun _ h => ?_) (fun _ h => ?_)
    ·
      obtain ⟨q1, g, h⟩ := zC h
      refine ⟨_, _, _, _, y0K _ _ _ _ g, ?_⟩
      rintro _ rfl
      refine vZ beq_iff_eq h (fun _ h => ?_) (fun _ h => ?_)
      ·
        obtain ⟨q2, g, h⟩ := zC h
        refine ⟨_, _, _, z5i _ _ _ _ g, ?_⟩
        exact ih_lex_Tokens_L5 _ _ _ _ _ h
      cases h; exact ⟨rfl, rfl⟩
    obtain ⟨q3, g, h⟩ := zC h
    refine ⟨_, _, _, z1I _ _ _ _ _ _ _ _ g, ?_⟩
    cases h; exact ⟨rfl, rfl⟩
theorem y1t (text text1 : Str) (at_ : Int) (out : List zB) (r : List zB × Int × Int) (h : wG text text1 at_ out = some r) : z6m (.wG text text1 at_ out) r := y1o (.wG text text1 at_ out) r h
theorem y3Z (text : Str) (r : List zB × Int × Int) (h : z5x text = some r) : Trip Try.prog 10 [(nS text)] [] (hU (List.map zB.toD r.1) r.2.1 r.2.2) [] := by
  unfold z5x at h
  refine yJ 1000 (by kernel_rfl) (by kernel_rfl) (by kernel_rfl) (by kernel_rfl) (by kernel_rfl) (y4w _ _ _ _ text) ?_
  rintro _ rfl
  rintro _ rfl
  refine zI decide_eq_true_iff h (fun _ h => ?_) (fun _ h => ?_)
  ·
    cases h; exact ⟨rfl, rfl⟩
  obtain ⟨q1, g, h⟩ := zC h
  refine ⟨_, _, _, z5i _ _ _ _ g, ?_⟩
  exact y1t _ _ _ _ _ h
theorem y0L (path : List Int) (v : zD) (size depth : Int) (r : Int × Int) (h : z2B path v size depth = some r) : Trip Try.prog 22 [.hp 0 0, .d (.sl (List.map (D.int .i64) path)), .d (gT v.K v.N v.S (List.map zD.toD v.L) v.From v.To)] [[(nI size), (nI depth)]] [] [[(nI r.1), (nI r.2)]] := by
  unfold z2B at h
  refine yJ 1000 (by kernel_rfl) (by kernel_rfl) (by kernel_rfl) (by kernel_rfl) (by kernel_rfl) (y0Z _ _ _ _ path v size depth) ?_
  rintro _ rfl
  refine z1B (e' := (List.length path : Int)) (by first | rfl | rw [List.length_map]) ?_
  rintro _ rfl
  rintro _ rfl
  cases h; exact ⟨rfl, rfl⟩
def z3Q : (i : uQ) → z1X i → Prop
  | .zX t path size depth, r => Trip Try.prog 21 [.d (gT t.K t.N t.S (List.map zD.toD t.L) t.From t.To), .d (.sl (List.map (D.int .i64) path)), .fn 22 [.hp 0 0] []] [[(nI size), (nI depth)]] [] [[(nI r.1), (nI r.2)]]
  | .zN path v13 v14 v15 size depth, r => Ok (z1Y (Trip Try.prog) [] [[(nI r.1), (nI r.2)]]) (kL Try.f21 3) ⟨33, [(1, .d (.sl (List.map (D.int .i64) path))), (2, .fn 22 [.hp 0 0] []), (13, .d (.sl (List.map zD.toD v13))), (14, (nI v14)), (15, (nI v15))], [], [[(nI size), (nI depth)]], 0⟩
theorem z6l : ∀ i r, z2Z gU i = some r → z3Q i r := by
  refine jQ z1W fun g ih i => ?_
  cases i with
  | zX t path size depth =>
    have ih_term_walk_meter_see_L3 := fun path v13 v14 v15 size depth r h => ih (.zN path v13 v14 v15 size depth) r h
    intro r h
    replace h : jU (fun path v13 v14 v15 size depth => g (uQ.zN path v13 v14 v15 size depth)) t path size depth = some r := h
    unfold jU at h
    refine yJ 1000 (by kernel_rfl) (by kernel_rfl) (by kernel_rfl) (by kernel_rfl) (by kernel_rfl) (z6E _ _ _ _ t path size depth) ?_
    obtain ⟨q1, g, h⟩ := zC h
    refine ⟨_, _, y0L _ _ _ _ _ g, ?_⟩
    refine z1B (e' := (List.length t.L : Int)) (by first | rfl | rw [List.length_map]) ?_
    exact ih_term_walk_meter_see_L3 _ _ _ _ _ _ _ h
  | zN path v13 v14 v15 size depth =>
    have ih_term_walk_meter_see := fun t path size depth r h => ih (.zX t path size depth) r h
    have ih_term_walk_meter_see_L3 := fun path v13 v14 v15 size depth r h => ih (.zN path v13 v14 v15 size depth) r h
    intro r h
    replace h : wI (fun t path size depth => g (uQ.zX t path size depth)) (fun path v13 v14 v15 size depth => g (uQ.zN path v13 v14 v15 size depth)) path v13 v14 v15 size depth = some r := h
    unfold wI at h
    refine z6L 1000 (z5s _ _ _ _ path v13 v14 v15 size depth) ?_
    rintro _ rfl
    refine zI decide_eq_true_iff h (fun _ h => ?_) (fun _ h => ?_)
    ·
      obtain ⟨x, hx, h⟩ := zC h
      refine ⟨z0U (l := v13) (zD.sz), z6Q hx, x.K, x.N, x.S, List.map zD.toD x.L, x.From, x.To, z4b (zD.toD_eq x) hx, ?_⟩
      refine z1B (e' := (List.length path : Int)) (by first | rfl | rw [List.length_map]) ?_
      refine z1B (e' := (List.length path : Int)) (by first | rfl | rw [List.length_map]) ?_
      refine ⟨z0U (l := path) (fun _ => rfl), ?_⟩
      obtain ⟨hP, h⟩ := z0q h
      refine ⟨by first | exact hP | simpa using hP, ?_⟩
      obtain ⟨hP, h⟩ := z0q h
      refine ⟨by first | exact hP | simpa using hP, ?_⟩
      obtain ⟨hP, h⟩ := z0q h
      refine ⟨by first | exact hP | simpa using hP, ?_⟩
      obtain ⟨hP, h⟩ := z0q h
      refine ⟨by first | exact hP | simpa using hP, ?_⟩
      obtain ⟨hP, h⟩ := z0q h
      refine ⟨by first | exact hP | simpa using hP, ?_⟩
      refine z1B (e' := List.map (D.int .i64) (List.drop 0 (List.take (Int.toNat (List.length path : Int)) path))) (by first | rfl | simp only [List.map_append, List.map_cons, List.map_nil, List.map_take, List.map_drop, List.map_set, List.map_replicate, List.length_map]) ?_
      refine ⟨by simp [uO, D.cells], ?_⟩
      refine ⟨by first | rfl | decide | simp only [List.length_map, List.length_cons, List.length_nil, List.map_append, List.length_append], ?_⟩
      obtain ⟨hP, h⟩ := z0q h
      refine ⟨by first | exact hP | simpa using hP, ?_⟩
      refine z1B (e' := List.map (D.int .i64) ((List.drop 0 (List.take (Int.toNat (List.length path : Int)) path)) ++ [v15])) (by first | rfl | simp only [List.map_append, List.map_cons, List.map_nil, List.map_take, List.map_drop, List.map_set, List.map_replicate, List.length_map]) ?_
      obtain ⟨q1, g, h⟩ := zC h
      refine ⟨_, _, ih_term_walk_meter_see _ _ _ _ _ g, ?_⟩
      rintro _ rfl
      exact ih_term_walk_meter_see_L3 _ _ _ _ _ _ _ h
    cases h; exact ⟨rfl, rfl⟩
theorem z6p (t : zD) (path : List Int) (size depth : Int) (r : Int × Int) (h : zX t path size depth = some r) : z3Q (.zX t path size depth) r := z6l (.zX t path size depth) r h
theorem y4d (t : zD) (r : Int) (h : z2U t = some r) : Trip Try.prog 12 [.d (gT t.K t.N t.S (List.map zD.toD t.L) t.From t.To)] [] [(nI r)] [] := by
  unfold z2U at h
  refine yJ 1000 (by kernel_rfl) (by kernel_rfl) (by kernel_rfl) (by kernel_rfl) (by kernel_rfl) (y4B _ _ _ _ t) ?_
  obtain ⟨q1, g, h⟩ := zC h
  refine ⟨_, _, z6p _ _ _ _ _ g, ?_⟩
  cases h; exact ⟨rfl, rfl⟩
theorem y1s (t : zB) (r : Int × Int) (h : z3t t = some r) : Trip Try.prog 66 [.d (gK t.K t.N t.S t.From t.To)] [] [(nI r.1), (nI r.2)] [] := by
  unfold z3t at h
  refine yJ 1000 (by kernel_rfl) (by kernel_rfl) (by kernel_rfl) (by kernel_rfl) (by kernel_rfl) (y1J _ _ _ _ t) ?_
  rintro _ rfl
  refine vZ beq_iff_eq h (fun _ h => ?_) (fun _ h => ?_)
  ·
    rintro _ rfl
    refine zI beq_iff_eq h (fun _ h => ?_) (fun _ h => ?_)
    ·
      cases h; exact ⟨rfl, rfl⟩
    rintro _ rfl
    refine zI beq_iff_eq h (fun _ h => ?_) (fun _ h => ?_)
    ·
      cases h; exact ⟨rfl, rfl⟩
    rintro _ rfl
    refine zI beq_iff_eq h (fun _ h => ?_) (fun _ h => ?_)
    ·
      cases h; exact ⟨rfl, rfl⟩
    rintro _ rfl
    refine zI beq_iff_eq h (fun _ h => ?_) (fun _ h => ?_)
    ·
      cases h; exact ⟨rfl, rfl⟩
    rintro _ rfl
    refine zI beq_iff_eq h (fun _ h => ?_) (fun _ h => ?_)
    ·
      cases h; exact ⟨rfl, rfl⟩
    rintro _ rfl
    refine zI beq_iff_eq h (fun _ h => ?_) (fun _ h => ?_)
    ·
      cases h; exact ⟨rfl, rfl⟩
    rintro _ rfl
    refine zI beq_iff_eq h (fun _ h => ?_) (fun _ h => ?_)
    ·
      cases h; exact ⟨rfl, rfl⟩
    rintro _ rfl
    refine zI beq_iff_eq h (fun _ h => ?_) (fun _ h => ?_)
    ·
      cases h; exact ⟨rfl, rfl⟩
    rintro _ rfl
    refine zI beq_iff_eq h (fun _ h => ?_) (fun _ h => ?_)
    ·
      cases h; exact ⟨rfl, rfl⟩
    rintro _ rfl
    refine zI beq_iff_eq h (fun _ h => ?_) (fun _ h => ?_)
    ·
      cases h; exact ⟨rfl, rfl⟩
    rintro _ rfl
    refine zI beq_iff_eq h (fun _ h => ?_) (fun _ h => ?_)
    ·
      cases h; exact ⟨rfl, rfl⟩
    rintro _ rfl
    refine zI beq_iff_eq h (fun _ h => ?_) (fun _ h => ?_)
    ·
      cases h; exact ⟨rfl, rfl⟩
    rintro _ rfl
    refine zI beq_iff_eq h (fun _ h => ?_) (fun _ h => ?_)
    ·
      cases h; exact ⟨rfl, rfl⟩
    cases h; exact ⟨rfl, rfl⟩
  cases h; exact ⟨rfl, rfl⟩
theorem yR (t : zD) (from_ : Int) (t1 : List zB) (at_ e : Int) (r : zD) (h : yD t from_ t1 at_ e = some r) : Trip Try.prog 54 [.hp 0 0, .d (gT t.K t.N t.S (List.map zD.toD t.L) t.From t.To), (nI from_)] [(hU (List.map zB.toD t1) at_ e)] [.d (gT r.K r.N r.S (List.map zD.toD r.L) r.From r.To)] [(hU (List.map zB.toD t1) at_ e)] := by
  unfold yD at h
  refine yJ 1000 (by kernel_rfl) (by kernel_rfl) (by kernel_rfl) (by kernel_rfl) (by kernel_rfl) (z9b _ _ _ _ t from_ t1 at_ e) ?_
  rintro _ rfl
  refine zI beq_iff_eq h (fun _ h => ?_) (fun _ h => ?_)
  ·
    obtain ⟨x, hx, h⟩ := zC h
    refine ⟨z0U (l := t1) (zB.sz), z6Q hx, x.K, x.N, x.S, x.From, x.To, z4b (zB.toD_eq x) hx, ?_⟩
    rintro _ rfl
    obtain ⟨x1, hx, h⟩ := zC h
    refine ⟨z0U (l := t1) (zB.sz), z6Q hx, x1.K, x1.N, x1.S, x1.From, x1.To, z4b (zB.toD_eq x1) hx, ?_⟩
    cases h; exact ⟨rfl, rfl⟩
  cases h; exact ⟨rfl, rfl⟩
theorem z0l (t : List zB) (at_ e : Int) (r : zB) (h : uV t at_ e = some r) : Trip Try.prog 53 [.hp 0 0] [(hU (List.map zB.toD t) at_ e)] [.d (gK r.K r.N r.S r.From r.To)] [(hU (List.map zB.toD t) at_ e)] := by
  unfold uV at h
  refine yJ 1000 (by kernel_rfl) (by kernel_rfl) (by kernel_rfl) (by kernel_rfl) (by kernel_rfl) (y0e _ _ _ _ t at_ e) ?_
  refine z1B (e' := (List.length t : Int)) (by first | rfl | rw [List.length_map]) ?_
  rintro _ rfl
  refine zI decide_eq_true_iff h (fun _ h => ?_) (fun _ h => ?_)
  ·
    obtain ⟨x, hx, h⟩ := zC h
    refine ⟨z0U (l := t) (zB.sz), z6Q hx, x.K, x.N, x.S, x.From, x.To, z4b (zB.toD_eq x) hx, ?_⟩
    cases h; exact ⟨rfl, rfl⟩
  cases h; exact ⟨rfl, rfl⟩
theorem uK (s : Str) (t : List zB) (at_ e : Int) (r : Bool) (h : wM s t at_ e = some r) : Trip Try.prog 55 [.hp 0 0, (nS s)] [(hU (List.map zB.toD t) at_ e)] [(nB r)] [(hU (List.map zB.toD t) at_ e)] := by
  unfold wM at h
  refine yJ 1000 (by kernel_rfl) (by kernel_rfl) (by kernel_rfl) (by kernel_rfl) (by kernel_rfl) (z9f _ _ _ _ s t at_ e) ?_
  obtain ⟨q1, g, h⟩ := zC h
  refine ⟨_, _, _, _, _, z0l _ _ _ _ g, ?_⟩
  rintro _ rfl
  refine zI beq_iff_eq h (fun _ h => ?_) (fun _ h => ?_)
  ·
    rintro _ rfl
    cases h; exact ⟨rfl, rfl⟩
  cases h; exact ⟨rfl, rfl⟩
theorem jH (t : List zB) (at_ e : Int) (r : List zB × Int × Int) (h : wL t at_ e = some r) : Trip Try.prog 56 [.hp 0 0] [(hU (List.map zB.toD t) at_ e)] [] [(hU (List.map zB.toD r.1) r.2.1 r.2.2)] := by
  unfold wL at h
  refine yJ 1000 (by kernel_rfl) (by kernel_rfl) (by kernel_rfl) (by kernel_rfl) (by kernel_rfl) (z8Z _ _ _ _ t at_ e) ?_
  rintro _ rfl
  refine zI beq_iff_eq h (fun _ h => ?_) (fun _ h => ?_)
  ·
    cases h; exact ⟨rfl, rfl⟩
  cases h; exact ⟨rfl, rfl⟩
theorem jI (s : Str) (t : List zB) (at_ e : Int) (r : List zB × Int × Int) (h : vI s t at_ e = some r) : Trip Try.prog 57 [.hp 0 0, (nS s)] [(hU (List.map zB.toD t) at_ e)] [] [(hU (List.map zB.toD r.1) r.2.1 r.2.2)] := by
  unfold vI at h
  refine yJ 1000 (by kernel_rfl) (by kernel_rfl) (by kernel_rfl) (by kernel_rfl) (by kernel_rfl) (z9d _ _ _ _ s t at_ e) ?_
  rintro _ rfl
  refine vZ beq_iff_eq h (fun _ h => ?_) (fun _ h => ?_)
  ·
    obtain ⟨q1, g, h⟩ := zC h
    refine ⟨_, uK _ _ _ _ _ g, ?_⟩
    refine vZ Iff.rfl h (fun _ h => ?_) (fun _ h => ?_)
    ·
      rintro _ rfl
      cases h; exact ⟨rfl, rfl⟩
    obtain ⟨q2, g, h⟩ := zC h
    refine ⟨_, _, _, jH _ _ _ _ g, ?_⟩
    cases h; exact ⟨rfl, rfl⟩
  cases h; exact ⟨rfl, rfl⟩
theorem z3j (t : List zB) (at_ e : Int) (r : Str × List zB × Int × Int) (h : gM t at_ e = some r) : Trip Try.prog 81 [.hp 0 0] [(hU (List.map zB.toD t) at_ e)] [(nS r.1)] [(hU (List.map zB.toD r.2.1) r.2.2.1 r.2.2.2)] := by
  unfold gM at h
  refine yJ 1000 (by kernel_rfl) (by kernel_rfl) (by kernel_rfl) (by kernel_rfl) (by kernel_rfl) (z9c _ _ _ _ t at_ e) ?_
  rintro _ rfl
  refine vZ beq_iff_eq h (fun _ h => ?_) (fun _ h => ?_)
  ·
    obtain ⟨q1, g, h⟩ := zC h
    refine ⟨_, _, _, _, _, z0l _ _ _ _ g, ?_⟩
    rintro _ rfl
    refine vZ beq_iff_eq h (fun _ h => ?_) (fun _ h => ?_)
    ·
      rintro _ rfl
      cases h; exact ⟨rfl, rfl⟩
    obtain ⟨q2, g, h⟩ := zC h
    refine ⟨_, _, _, jH _ _ _ _ g, ?_⟩
    cases h; exact ⟨rfl, rfl⟩
  cases h; exact ⟨rfl, rfl⟩
def z3g : (i : zK) → z3h i → Prop
  | .zJ t at_ e, r => Trip Try.prog 52 [.hp 0 0] [(hU (List.map zB.toD t) at_ e)] [.d (gT r.1.K r.1.N r.1.S (List.map zD.toD r.1.L) r.1.From r.1.To)] [(hU (List.map zB.toD r.2.1) r.2.2.1 r.2.2.2)]
  | .zV least t at_ e, r => Trip Try.prog 62 [.hp 0 0, (nI least)] [(hU (List.map zB.toD t) at_ e)] [.d (gT r.1.K r.1.N r.1.S (List.map zD.toD r.1.L) r.1.From r.1.To)] [(hU (List.map zB.toD r.2.1) r.2.2.1 r.2.2.2)]
  | .zR least from_ most o4 left t at_ e, r => Ok (z2H (Trip Try.prog) [.d (gT r.1.K r.1.N r.1.S (List.map zD.toD r.1.L) r.1.From r.1.To)] [(hU (List.map zB.toD r.2.1) r.2.2.1 r.2.2.2)]) (kL Try.f62 4) ⟨63, [(0, .hp 0 0), (1, (nI least)), (4, .ref 4 1 0), (5, (nI from_)), (6, .ref 6 1 0), (7, (nI most))], [(4, 1, some (.agg (gT o4.K o4.N o4.S (List.map zD.toD o4.L) o4.From o4.To))), (6, 1, some (.agg (gT left.K left.N left.S (List.map zD.toD left.L) left.From left.To)))], [(hU (List.map zB.toD t) at_ e)], 0⟩
  | .yM t at_ e, r => Trip Try.prog 65 [.hp 0 0] [(hU (List.map zB.toD t) at_ e)] [.d (gT r.1.K r.1.N r.1.S (List.map zD.toD r.1.L) r.1.From r.1.To)] [(hU (List.map zB.toD r.2.1) r.2.2.1 r.2.2.2)]
  | .yW t at_ e, r => Trip Try.prog 75 [.hp 0 0] [(hU (List.map zB.toD t) at_ e)] [.d (gT r.1.K r.1.N r.1.S (List.map zD.toD r.1.L) r.1.From r.1.To)] [(hU (List.map zB.toD r.2.1) r.2.2.1 r.2.2.2)]
  | .zW from_ o2 x t at_ e, r => Ok (z3n (Trip Try.prog) [.d (gT r.1.K r.1.N r.1.S (List.map zD.toD r.1.L) r.1.From r.1.To)] [(hU (List.map zB.toD r.2.1) r.2.2.1 r.2.2.2)]) (kL Try.f75 3) ⟨57, [(0, .hp 0 0), (2, .ref 2 1 0), (3, (nI from_)), (4, .ref 4 1 0)], [(2, 1, some (.agg (gT o2.K o2.N o2.S (List.map zD.toD o2.L) o2.From o2.To))), (4, 1, some (.agg (gT x.K x.N x.S (List.map zD.toD x.L) x.From x.To)))], [(hU (List.map zB.toD t) at_ e)], 0⟩
  | .zY t at_ e, r => Trip Try.prog 80 [.hp 0 0] [(hU (List.map zB.toD t) at_ e)] [.d (gT r.1.K r.1.N r.1.S (List.map zD.toD r.1.L) r.1.From r.1.To)] [(hU (List.map zB.toD r.2.1) r.2.2.1 r.2.2.2)]
  | .zT few t at_ e, r => Trip Try.prog 82 [.hp 0 0, (nB few)] [(hU (List.map zB.toD t) at_ e)] [.d (.sl (List.map zD.toD r.1))] [(hU (List.map zB.toD r.2.1) r.2.2.1 r.2.2.2)]
  | .vN s from_ t at_ e, r => Trip Try.prog 83 [.hp 0 0, (nS s), (nI from_)] [(hU (List.map zB.toD t) at_ e)] [.d (gT r.1.K r.1.N r.1.S (List.map zD.toD r.1.L) r.1.From r.1.To)] [(hU (List.map zB.toD r.2.1) r.2.2.1 r.2.2.2)]
  | .vA s from_ t at_ e, r => Trip Try.prog 84 [.hp 0 0, (nS s), (nI from_)] [(hU (List.map zB.toD t) at_ e)] [.d (gT r.1.K r.1.N r.1.S (List.map zD.toD r.1.L) r.1.From r.1.To)] [(hU (List.map zB.toD r.2.1) r.2.2.1 r.2.2.2)]
  | .zL t at_ e, r => Trip Try.prog 85 [.hp 0 0, .fn 52 [.hp 0 0] []] [(hU (List.map zB.toD t) at_ e)] [.d (.sl (List.map zD.toD r.1))] [(hU (List.map zB.toD r.2.1) r.2.2.1 r.2.2.2)]
  | .zH out t at_ e, r => Ok (z0t (Trip Try.prog) [.d (.sl (List.map zD.toD r.1))] [(hU (List.map zB.toD r.2.1) r.2.2.1 r.2.2.2)]) (kL Try.f85 2) ⟨31, [(0, .hp 0 0), (1, .fn 52 [.hp 0 0] []), (5, .right 8 1 6 (List.map zD.toD out))], [(8, 1, some (.tok 6 (List.length (List.map zD.toD out))))], [(hU (List.map zB.toD t) at_ e)], 0⟩
theorem z8h : ∀ i r, z2Z yB i = some r → z3g i r := by
  refine jQ wE fun g ih i => ?_
  cases i with
  | zJ t at_ e =>
    have ih_expr_parser_level := fun least t at_ e r h => ih (.zV least t at_ e) r h
    intro r h
    replace h : z0A (fun least t at_ e => g (zK.zV least t at_ e)) t at_ e = some r := h
    unfold z0A at h
    refine yJ 1000 (by kernel_rfl) (by kernel_rfl) (by kernel_rfl) (by kernel_rfl) (by kernel_rfl) (z8Y _ _ _ _ t at_ e) ?_
    obtain ⟨q1, g, h⟩ := zC h
    refine ⟨_, _, _, _, _, _, _, _, _, ih_expr_parser_level _ _ _ _ _ g, ?_⟩
    cases h; exact ⟨rfl, rfl⟩
  | zV least t at_ e =>
    have ih_expr_parser_level_L4 := fun least from_ most o4 left t at_ e r h => ih (.zR least from_ most o4 left t at_ e) r h
    have ih_expr_parser_un := fun t at_ e r h => ih (.yM t at_ e) r h
    intro r h
    replace h : jO (fun least from_ most o4 left t at_ e => g (zK.zR least from_ most o4 left t at_ e)) (fun t at_ e => g (zK.yM t at_ e)) least t at_ e = some r := h
    unfold jO at h
    refine yJ 1000 (by kernel_rfl) (by kernel_rfl) (by kernel_rfl) (by kernel_rfl) (by kernel_rfl) (z7R _ _ _ _ least t at_ e) ?_
    obtain ⟨q1, g, h⟩ := zC h
    refine ⟨_, _, _, _, _, _, _, _, _, ih_expr_parser_un _ _ _ _ g, ?_⟩
    exact ih_expr_parser_level_L4 _ _ _ _ _ _ _ _ _ h
  | zR least from_ most o4 left t at_ e =>
    have ih_expr_parser_level := fun least t at_ e r h => ih (.zV least t at_ e) r h
    have ih_expr_parser_level_L4 := fun least from_ most o4 left t at_ e r h => ih (.zR least from_ most o4 left t at_ e) r h
    intro r h
    replace h : wK (fun least t at_ e => g (zK.zV least t at_ e)) (fun least from_ most o4 left t at_ e => g (zK.zR least from_ most o4 left t at_ e)) least from_ most o4 left t at_ e = some r := h
    unfold wK at h
    refine z6L 1000 (z6e _ _ _ _ least from_ most o4 left t at_ e) ?_
    rintro _ rfl
    refine zI beq_iff_eq h (fun _ h => ?_) (fun _ h => ?_)
    ·
      obtain ⟨q1, g, h⟩ := zC h
      refine ⟨_, _, _, _, _, z0l _ _ _ _ g, ?_⟩
      obtain ⟨q2, g, h⟩ := zC h
      refine ⟨_, _, ⟨_, y1s _ _ g⟩, ?_⟩
      rintro _ rfl
      refine zI decide_eq_true_iff h (fun _ h => ?_) (fun _ h => ?_)
      ·
        cases h; exact ⟨rfl, rfl⟩
      rintro _ rfl
      refine zI beq_iff_eq h (fun _ h => ?_) (fun _ h => ?_)
      ·
        cases h; exact ⟨rfl, rfl⟩
      rintro _ rfl
      refine zI decide_eq_true_iff h (fun _ h => ?_) (fun _ h => ?_)
      ·
        cases h; exact ⟨rfl, rfl⟩
      rintro _ rfl
      rintro _ rfl
      obtain ⟨q3, g, h⟩ := zC h
      refine ⟨_, _, _, _, _, _, _, _, _, ih_expr_parser_level _ _ _ _ _ g, ?_⟩
      obtain ⟨q4, g, h⟩ := zC h
      have hT := yR _ _ _ _ _ _ g
      simp only [List.map_cons, List.map_nil, zD.toD_eq] at hT
      refine ⟨_, _, _, _, _, _, hT, ?_⟩
      rintro _ rfl
      refine zI beq_iff_eq h (fun _ h => ?_) (fun _ h => ?_)
      ·
        exact ih_expr_parser_level_L4 _ _ _ _ _ _ _ _ _ h
      exact ih_expr_parser_level_L4 _ _ _ _ _ _ _ _ _ h
    cases h; exact ⟨rfl, rfl⟩
  | yM t at_ e =>
    have ih_expr_parser_un := fun t at_ e r h => ih (.yM t at_ e) r h
    have ih_expr_parser_post := fun t at_ e r h => ih (.yW t at_ e) r h
    intro r h
    replace h : gN (fun t at_ e => g (zK.yM t at_ e)) (fun t at_ e => g (zK.yW t at_ e)) t at_ e = some r := h
    unfold gN at h
    refine yJ 1000 (by kernel_rfl) (by kernel_rfl) (by kernel_rfl) (by kernel_rfl) (by kernel_rfl) (y0T _ _ _ _ t at_ e) ?_
    rintro _ rfl
    refine vZ beq_iff_eq h (fun _ h => ?_) (fun _ h => ?_)
    ·
      obtain ⟨q1, g, h⟩ := zC h
      refine ⟨_, uK _ _ _ _ _ g, ?_⟩
      refine zI Iff.rfl h (fun _ h => ?_) (fun _ h => ?_)
      ·
        rintro _ rfl
        refine zI beq_iff_eq h (fun _ h => ?_) (fun _ h => ?_)
        ·
          obtain ⟨q2, g, h⟩ := zC h
          refine ⟨_, _, _, _, _, _, _, _, _, ih_expr_parser_post _ _ _ _ g, ?_⟩
          cases h; exact ⟨rfl, rfl⟩
        rintro _ rfl
        obtain ⟨q3, g, h⟩ := zC h
        refine ⟨_, _, _, _, _, _, _, _, _, ih_expr_parser_un _ _ _ _ g, ?_⟩
        obtain ⟨q4, g, h⟩ := zC h
        have hT := yR _ _ _ _ _ _ g
        simp only [List.map_cons, List.map_nil, zD.toD_eq] at hT
        refine ⟨_, _, _, _, _, _, hT, ?_⟩
        cases h; exact ⟨rfl, rfl⟩
      obtain ⟨q5, g, h⟩ := zC h
      refine ⟨_, uK _ _ _ _ _ g, ?_⟩
      refine zI Iff.rfl h (fun _ h => ?_) (fun _ h => ?_)
      ·
        rintro _ rfl
        refine zI beq_iff_eq h (fun _ h => ?_) (fun _ h => ?_)
        ·
          obtain ⟨q6, g, h⟩ := zC h
          refine ⟨_, _, _, _, _, _, _, _, _, ih_expr_parser_post _ _ _ _ g, ?_⟩
          cases h; exact ⟨rfl, rfl⟩
        rintro _ rfl
        obtain ⟨q7, g, h⟩ := zC h
        refine ⟨_, _, _, _, _, _, _, _, _, ih_expr_parser_un _ _ _ _ g, ?_⟩
        obtain ⟨q8, g, h⟩ := zC h
        have hT := yR _ _ _ _ _ _ g
        simp only [List.map_cons, List.map_nil, zD.toD_eq] at hT
        refine ⟨_, _, _, _, _, _, hT, ?_⟩
        cases h; exact ⟨rfl, rfl⟩
      rintro _ rfl
      refine zI beq_iff_eq h (fun _ h => ?_) (fun _ h => ?_)
      ·
        obtain ⟨q9, g, h⟩ := zC h
        refine ⟨_, _, _, _, _, _, _, _, _, ih_expr_parser_post _ _ _ _ g, ?_⟩
        cases h; exact ⟨rfl, rfl⟩
      rintro _ rfl
      obtain ⟨q10, g, h⟩ := zC h
      refine ⟨_, _, _, _, _, _, _, _, _, ih_expr_parser_un _ _ _ _ g, ?_⟩
      obtain ⟨q11, g, h⟩ := zC h
      have hT := yR _ _ _ _ _ _ g
      simp only [List.map_cons, List.map_nil, zD.toD_eq] at hT
      refine ⟨_, _, _, _, _, _, hT, ?_⟩
      cases h; exact ⟨rfl, rfl⟩
    cases h; exact ⟨rfl, rfl⟩
  | yW t at_ e =>
    have ih_expr_parser_post_L3 := fun from_ o2 x t at_ e r h => ih (.zW from_ o2 x t at_ e) r h
    have ih_expr_parser_atom := fun t at_ e r h => ih (.zY t at_ e) r h
    intro r h
    replace h : z0d (fun from_ o2 x t at_ e => g (zK.zW from_ o2 x t at_ e)) (fun t at_ e => g (zK.zY t at_ e)) t at_ e = some r := h
    unfold z0d at h
    refine yJ 1000 (by kernel_rfl) (by kernel_rfl) (by kernel_rfl) (by kernel_rfl) (by kernel_rfl) (z9e _ _ _ _ t at_ e) ?_
    obtain ⟨q1, g, h⟩ := zC h
    refine ⟨_, _, _, _, _, _, _, _, _, ih_expr_parser_atom _ _ _ _ g, ?_⟩
    exact ih_expr_parser_post_L3 _ _ _ _ _ _ _ h
  | zW from_ o2 x t at_ e =>
    have ih_expr_parser_expr := fun t at_ e r h => ih (.zJ t at_ e) r h
    have ih_expr_parser_post_L3 := fun from_ o2 x t at_ e r h => ih (.zW from_ o2 x t at_ e) r h
    intro r h
    replace h : vR (fun t at_ e => g (zK.zJ t at_ e)) (fun from_ o2 x t at_ e => g (zK.zW from_ o2 x t at_ e)) from_ o2 x t at_ e = some r := h
    unfold vR at h
    refine z6L 1000 (z6C _ _ _ _ from_ o2 x t at_ e) ?_
    rintro _ rfl
    refine zI beq_iff_eq h (fun _ h => ?_) (fun _ h => ?_)
    ·
      obtain ⟨q1, g, h⟩ := zC h
      refine ⟨_, uK _ _ _ _ _ g, ?_⟩
      refine zI Iff.rfl h (fun _ h => ?_) (fun _ h => ?_)
      ·
        rintro _ rfl
        obtain ⟨q2, g, h⟩ := zC h
        refine ⟨_, _, _, _, _, _, _, _, _, ih_expr_parser_expr _ _ _ _ g, ?_⟩
        obtain ⟨q3, g, h⟩ := zC h
        refine ⟨_, _, _, jI _ _ _ _ _ g, ?_⟩
        obtain ⟨q4, g, h⟩ := zC h
        have hT := yR _ _ _ _ _ _ g
        simp only [List.map_cons, List.map_nil, zD.toD_eq] at hT
        refine ⟨_, _, _, _, _, _, hT, ?_⟩
        exact ih_expr_parser_post_L3 _ _ _ _ _ _ _ h
      obtain ⟨q5, g, h⟩ := zC h
      refine ⟨_, uK _ _ _ _ _ g, ?_⟩
      refine zI Iff.rfl h (fun _ h => ?_) (fun _ h => ?_)
      ·
        rintro _ rfl
        obtain ⟨q6, g, h⟩ := zC h
        refine ⟨_, _, _, _, z3j _ _ _ _ g, ?_⟩
        obtain ⟨q7, g, h⟩ := zC h
        have hT := yR _ _ _ _ _ _ g
        simp only [List.map_cons, List.map_nil, zD.toD_eq] at hT
        refine ⟨_, _, _, _, _, _, hT, ?_⟩
        exact ih_expr_parser_post_L3 _ _ _ _ _ _ _ h
      cases h; exact ⟨rfl, rfl⟩
    cases h; exact ⟨rfl, rfl⟩
  | zY t at_ e =>
    have ih_expr_parser_args := fun few t at_ e r h => ih (.zT few t at_ e) r h
    have ih_expr_parser_word := fun s from_ t at_ e r h => ih (.vN s from_ t at_ e) r h
    have ih_expr_parser_bracket := fun s from_ t at_ e r h => ih (.vA s from_ t at_ e) r h
    intro r h
    replace h : uL (fun few t at_ e => g (zK.zT few t at_ e)) (fun s from_ t at_ e => g (zK.vN s from_ t at_ e)) (fun s from_ t at_ e => g (zK.vA s from_ t at_ e)) t at_ e = some r := h
    unfold uL at h
    refine yJ 1000 (by kernel_rfl) (by kernel_rfl) (by kernel_rfl) (by kernel_rfl) (by kernel_rfl) (z8X _ _ _ _ t at_ e) ?_
    rintro _ rfl
    refine vZ beq_iff_eq h (fun _ h => ?_) (fun _ h => ?_)
    ·
      obtain ⟨q1, g, h⟩ := zC h
      refine ⟨_, _, _, _, _, z0l _ _ _ _ g, ?_⟩
      rintro _ rfl
      refine zI beq_iff_eq h (fun _ h => ?_) (fun _ h => ?_)
      ·
        rintro _ rfl
        obtain ⟨q2, g, h⟩ := zC h
        refine ⟨_, _, _, _, _, _, yR _ _ _ _ _ _ g, ?_⟩
        cases h; exact ⟨rfl, rfl⟩
      rintro _ rfl
      refine zI beq_iff_eq h (fun _ h => ?_) (fun _ h => ?_)
      ·
        rintro _ rfl
        obtain ⟨q3, g, h⟩ := zC h
        refine ⟨_, uK _ _ _ _ _ g, ?_⟩
        refine zI Iff.rfl h (fun _ h => ?_) (fun _ h => ?_)
        ·
          obtain ⟨q4, g, h⟩ := zC h
          refine ⟨_, _, _, _, ih_expr_parser_args _ _ _ _ _ g, ?_⟩
          obtain ⟨q5, g, h⟩ := zC h
          refine ⟨_, _, _, _, _, _, yR _ _ _ _ _ _ g, ?_⟩
          cases h; exact ⟨rfl, rfl⟩
        obtain ⟨q6, g, h⟩ := zC h
        refine ⟨_, _, _, _, _, _, yR _ _ _ _ _ _ g, ?_⟩
        cases h; exact ⟨rfl, rfl⟩
      rintro _ rfl
      refine zI beq_iff_eq h (fun _ h => ?_) (fun _ h => ?_)
      ·
        obtain ⟨q7, g, h⟩ := zC h
        refine ⟨_, _, _, _, _, _, _, _, _, ih_expr_parser_word _ _ _ _ _ _ g, ?_⟩
        cases h; exact ⟨rfl, rfl⟩
      rintro _ rfl
      refine zI beq_iff_eq h (fun _ h => ?_) (fun _ h => ?_)
      ·
        obtain ⟨q8, g, h⟩ := zC h
        refine ⟨_, _, _, _, _, _, _, _, _, ih_expr_parser_bracket _ _ _ _ _ _ g, ?_⟩
        cases h; exact ⟨rfl, rfl⟩
      obtain ⟨q9, g, h⟩ := zC h
      refine ⟨_, _, _, jH _ _ _ _ g, ?_⟩
      cases h; exact ⟨rfl, rfl⟩
    cases h; exact ⟨rfl, rfl⟩
  | zT few t at_ e =>
    have ih_expr_parser_list_parser_expr := fun t at_ e r h => ih (.zL t at_ e) r h
    intro r h
    replace h : jK (fun t at_ e => g (zK.zL t at_ e)) few t at_ e = some r := h
    unfold jK at h
    refine yJ 1000 (by kernel_rfl) (by kernel_rfl) (by kernel_rfl) (by kernel_rfl) (by kernel_rfl) (z8W _ _ _ _ few t at_ e) ?_
    obtain ⟨q1, g, h⟩ := zC h
    refine ⟨_, _, _, jI _ _ _ _ _ g, ?_⟩
    rintro _ rfl
    refine zI beq_iff_eq h (fun _ h => ?_) (fun _ h => ?_)
    ·
      refine zI Iff.rfl h (fun _ h => ?_) (fun _ h => ?_)
      ·
        obtain ⟨q2, g, h⟩ := zC h
        refine ⟨_, uK _ _ _ _ _ g, ?_⟩
        refine zI Iff.rfl h (fun _ h => ?_) (fun _ h => ?_)
        ·
          rintro _ rfl
          cases h; exact ⟨rfl, rfl⟩
        obtain ⟨q3, g, h⟩ := zC h
        refine ⟨_, _, _, _, ih_expr_parser_list_parser_expr _ _ _ _ g, ?_⟩
        obtain ⟨q4, g, h⟩ := zC h
        refine ⟨_, _, _, jI _ _ _ _ _ g, ?_⟩
        cases h; exact ⟨rfl, rfl⟩
      obtain ⟨q5, g, h⟩ := zC h
      refine ⟨_, _, _, _, ih_expr_parser_list_parser_expr _ _ _ _ g, ?_⟩
      obtain ⟨q6, g, h⟩ := zC h
      refine ⟨_, _, _, jI _ _ _ _ _ g, ?_⟩
      cases h; exact ⟨rfl, rfl⟩
    obtain ⟨q7, g, h⟩ := zC h
    refine ⟨_, _, _, _, ih_expr_parser_list_parser_expr _ _ _ _ g, ?_⟩
    obtain ⟨q8, g, h⟩ := zC h
    refine ⟨_, _, _, jI _ _ _ _ _ g, ?_⟩
    cases h; exact ⟨rfl, rfl⟩
  | vN s from_ t at_ e =>
    have ih_expr_parser_args := fun few t at_ e r h => ih (.zT few t at_ e) r h
    intro r h
    replace h : wY (fun few t at_ e => g (zK.zT few t at_ e)) s from_ t at_ e = some r := h
    unfold wY at h
    refine yJ 1000 (by kernel_rfl) (by kernel_rfl) (by kernel_rfl) (by kernel_rfl) (by kernel_rfl) (z9g _ _ _ _ s from_ t at_ e) ?_
    rintro _ rfl
    rintro _ rfl
    refine zI beq_iff_eq h (fun _ h => ?_) (fun _ h => ?_)
    ·
      obtain ⟨q1, g, h⟩ := zC h
      refine ⟨_, _, _, _, _, _, yR _ _ _ _ _ _ g, ?_⟩
      cases h; exact ⟨rfl, rfl⟩
    rintro _ rfl
    refine zI beq_iff_eq h (fun _ h => ?_) (fun _ h => ?_)
    ·
      obtain ⟨q2, g, h⟩ := zC h
      refine ⟨_, _, _, _, _, _, yR _ _ _ _ _ _ g, ?_⟩
      cases h; exact ⟨rfl, rfl⟩
    rintro _ rfl
    refine zI beq_iff_eq h (fun _ h => ?_) (fun _ h => ?_)
    ·
      obtain ⟨q3, g, h⟩ := zC h
      refine ⟨_, _, _, _, _, _, yR _ _ _ _ _ _ g, ?_⟩
      cases h; exact ⟨rfl, rfl⟩
    rintro _ rfl
    refine zI beq_iff_eq h (fun _ h => ?_) (fun _ h => ?_)
    ·
      obtain ⟨q4, g, h⟩ := zC h
      refine ⟨_, _, _, _, z3j _ _ _ _ g, ?_⟩
      obtain ⟨q5, g, h⟩ := zC h
      refine ⟨_, _, _, _, ih_expr_parser_args _ _ _ _ _ g, ?_⟩
      obtain ⟨q6, g, h⟩ := zC h
      refine ⟨_, _, _, _, _, _, yR _ _ _ _ _ _ g, ?_⟩
      cases h; exact ⟨rfl, rfl⟩
    rintro _ rfl
    obtain ⟨q7, g, h⟩ := zC h
    refine ⟨_, _, _, jH _ _ _ _ g, ?_⟩
    cases h; exact ⟨rfl, rfl⟩
  | vA s from_ t at_ e =>
    have ih_expr_parser_expr := fun t at_ e r h => ih (.zJ t at_ e) r h
    have ih_expr_parser_args := fun few t at_ e r h => ih (.zT few t at_ e) r h
    have ih_expr_parser_list_parser_expr := fun t at_ e r h => ih (.zL t at_ e) r h
    intro r h
    replace h : vG (fun t at_ e => g (zK.zJ t at_ e)) (fun few t at_ e => g (zK.zT few t at_ e)) (fun t at_ e => g (zK.zL t at_ e)) s from_ t at_ e = some r := h
    unfold vG at h
    refine yJ 1000 (by kernel_rfl) (by kernel_rfl) (by kernel_rfl) (by kernel_rfl) (by kernel_rfl) (z6B _ _ _ _ s from_ t at_ e) ?_
    rintro _ rfl
    rintro _ rfl
    refine zI beq_iff_eq h (fun _ h => ?_) (fun _ h => ?_)
    ·
      obtain ⟨q1, g, h⟩ := zC h
      refine ⟨_, _, _, _, _, _, _, _, _, ih_expr_parser_expr _ _ _ _ g, ?_⟩
      obtain ⟨q2, g, h⟩ := zC h
      refine ⟨_, _, _, jI _ _ _ _ _ g, ?_⟩
      cases h; exact ⟨rfl, rfl⟩
    rintro _ rfl
    refine zI beq_iff_eq h (fun _ h => ?_) (fun _ h => ?_)
    ·
      obtain ⟨q3, g, h⟩ := zC h
      refine ⟨_, _, _, _, ih_expr_parser_list_parser_expr _ _ _ _ g, ?_⟩
      obtain ⟨q4, g, h⟩ := zC h
      refine ⟨_, _, _, jI _ _ _ _ _ g, ?_⟩
      obtain ⟨q5, g, h⟩ := zC h
      refine ⟨_, _, _, _, _, _, yR _ _ _ _ _ _ g, ?_⟩
      cases h; exact ⟨rfl, rfl⟩
    rintro _ rfl
    refine zI beq_iff_eq h (fun _ h => ?_) (fun _ h => ?_)
    ·
      obtain ⟨q6, g, h⟩ := zC h
      refine ⟨_, _, _, _, z3j _ _ _ _ g, ?_⟩
      obtain ⟨q7, g, h⟩ := zC h
      refine ⟨_, _, _, _, ih_expr_parser_args _ _ _ _ _ g, ?_⟩
      obtain ⟨q8, g, h⟩ := zC h
      refine ⟨_, _, _, _, _, _, yR _ _ _ _ _ _ g, ?_⟩
      cases h; exact ⟨rfl, rfl⟩
    rintro _ rfl
    obtain ⟨q9, g, h⟩ := zC h
    refine ⟨_, _, _, jH _ _ _ _ g, ?_⟩
    cases h; exact ⟨rfl, rfl⟩
  | zL t at_ e =>
    have ih_expr_parser_expr := fun t at_ e r h => ih (.zJ t at_ e) r h
    have ih_expr_parser_list_parser_expr_L2 := fun out t at_ e r h => ih (.zH out t at_ e) r h
    intro r h
    replace h : wU (fun t at_ e => g (zK.zJ t at_ e)) (fun out t at_ e => g (zK.zH out t at_ e)) t at_ e = some r := h
    unfold wU at h
    refine yJ 1000 (by kernel_rfl) (by kernel_rfl) (by kernel_rfl) (by kernel_rfl) (by kernel_rfl) (z3V _ _ _ _ t at_ e) ?_
    obtain ⟨q1, g, h⟩ := zC h
    refine ⟨_, _, _, _, _, _, _, _, _, ih_expr_parser_expr _ _ _ _ g, ?_⟩
    have hT := ih_expr_parser_list_parser_expr_L2 _ _ _ _ _ h
    unfold z3g at hT; dsimp only at hT
    simp only [List.map_cons, List.map_nil, List.length_cons, List.length_nil, zD.toD_eq] at hT
    exact hT
  | zH out t at_ e =>
    have ih_expr_parser_expr := fun t at_ e r h => ih (.zJ t at_ e) r h
    have ih_expr_parser_list_parser_expr_L2 := fun out t at_ e r h => ih (.zH out t at_ e) r h
    intro r h
    replace h : vH (fun t at_ e => g (zK.zJ t at_ e)) (fun out t at_ e => g (zK.zH out t at_ e)) out t at_ e = some r := h
    unfold vH at h
    refine z6L 1000 (z3p _ _ _ _ out t at_ e) ?_
    rintro _ rfl
    refine zI beq_iff_eq h (fun _ h => ?_) (fun _ h => ?_)
    ·
      obtain ⟨q1, g, h⟩ := zC h
      refine ⟨_, uK _ _ _ _ _ g, ?_⟩
      refine zI Iff.rfl h (fun _ h => ?_) (fun _ h => ?_)
      ·
        rintro _ rfl
        obtain ⟨q2, g, h⟩ := zC h
        refine ⟨_, _, _, _, _, _, _, _, _, ih_expr_parser_expr _ _ _ _ g, ?_⟩
        refine ⟨by simp [uO, D.cells], ?_⟩
        refine ⟨by first | rfl | decide | simp only [List.length_map, List.length_cons, List.length_nil, List.map_append, List.length_append], ?_⟩
        obtain ⟨hP, h⟩ := z0q h
        refine ⟨by first | exact hP | simpa using hP, ?_⟩
        refine z1B (e' := List.map zD.toD (out ++ [q2.1])) (by first | rfl | simp only [List.map_append, List.map_cons, List.map_nil, List.map_take, List.map_drop, List.map_set, List.map_replicate, List.length_map, zD.toD_eq]) ?_
        exact ih_expr_parser_list_parser_expr_L2 _ _ _ _ _ h
      cases h; exact ⟨rfl, rfl⟩
    cases h; exact ⟨rfl, rfl⟩
theorem z8l (t : List zB) (at_ e : Int) (r : zD × List zB × Int × Int) (h : zJ t at_ e = some r) : z3g (.zJ t at_ e) r := z8h (.zJ t at_ e) r h
theorem z5f (t : List zB) (at_ : Int) (r : zD × Int × Int) (h : z0j t at_ = some r) : Trip Try.prog 47 [.d (.sl (List.map zB.toD t)), (nI at_), .fn 52 [] []] [] [.d (gT r.1.K r.1.N r.1.S (List.map zD.toD r.1.L) r.1.From r.1.To), (nI r.2.1), (nI r.2.2)] [] := by
  unfold z0j at h
  refine yJ 1000 (by kernel_rfl) (by kernel_rfl) (by kernel_rfl) (by kernel_rfl) (by kernel_rfl) (z5p _ _ _ _ t at_) ?_
  rintro _ rfl
  refine zI decide_eq_true_iff h (fun _ h => ?_) (fun _ h => ?_)
  ·
    cases h; exact ⟨rfl, rfl⟩
  refine z1B (e' := (List.length t : Int)) (by first | rfl | rw [List.length_map]) ?_
  rintro _ rfl
  refine zI decide_eq_true_iff h (fun _ h => ?_) (fun _ h => ?_)
  ·
    cases h; exact ⟨rfl, rfl⟩
  obtain ⟨q1, g, h⟩ := zC h
  refine ⟨_, _, _, _, _, _, _, _, _, z8l _ _ _ _ g, ?_⟩
  rintro _ rfl
  refine vZ beq_iff_eq h (fun _ h => ?_) (fun _ h => ?_)
  ·
    cases h; exact ⟨rfl, rfl⟩
  cases h; exact ⟨rfl, rfl⟩
theorem z4N (t : List zB) (at_ : Int) (r : zD × Int × Int) (h : z0n t at_ = some r) : Trip Try.prog 46 [.d (.sl (List.map zB.toD t)), (nI at_)] [] [.d (gT r.1.K r.1.N r.1.S (List.map zD.toD r.1.L) r.1.From r.1.To), (nI r.2.1), (nI r.2.2)] [] := by
  unfold z0n at h
  refine yJ 1000 (by kernel_rfl) (by kernel_rfl) (by kernel_rfl) (by kernel_rfl) (by kernel_rfl) (y4u _ _ _ _ t at_) ?_
  obtain ⟨q1, g, h⟩ := zC h
  refine ⟨_, _, _, _, _, _, _, _, ⟨_, z5f _ _ _ g⟩, ?_⟩
  cases h; exact ⟨rfl, rfl⟩
theorem gL (k : Int) (s : Str) (t : List zB) (at_ e K N : Int) (S : Str) (L : List zD) (From To : Int) (r : Bool) (h : wW k s t at_ e K N S L From To = some r) : Trip Try.prog 16 [.hp 0 0, (nI k), (nS s)] [(hU (List.map zB.toD t) at_ e), (hM K N S (List.map zD.toD L) From To)] [(nB r)] [(hU (List.map zB.toD t) at_ e), (hM K N S (List.map zD.toD L) From To)] := by
  unfold wW at h
  refine yJ 1000 (by kernel_rfl) (by kernel_rfl) (by kernel_rfl) (by kernel_rfl) (by kernel_rfl) (y1a _ _ _ _ k s t at_ e K N S L From To) ?_
  obtain ⟨x, hx, h⟩ := zC h
  refine ⟨z0U (l := t) (zB.sz), z6Q hx, x.K, x.N, x.S, x.From, x.To, z4b (zB.toD_eq x) hx, ?_⟩
  rintro _ rfl
  refine zI beq_iff_eq h (fun _ h => ?_) (fun _ h => ?_)
  ·
    obtain ⟨x1, hx, h⟩ := zC h
    refine ⟨z0U (l := t) (zB.sz), z6Q hx, x1.K, x1.N, x1.S, x1.From, x1.To, z4b (zB.toD_eq x1) hx, ?_⟩
    rintro _ rfl
    cases h; exact ⟨rfl, rfl⟩
  cases h; exact ⟨rfl, rfl⟩
theorem z6q (t : List zB) (at_ e K N : Int) (S : Str) (L : List zD) (From To : Int) (r : zD × List zB × Int × Int × Int × Int × Str × List zD × Int × Int) (h : vC t at_ e K N S L From To = some r) : Trip Try.prog 37 [.hp 0 0] [(hU (List.map zB.toD t) at_ e), (hM K N S (List.map zD.toD L) From To)] [.d (gT r.1.K r.1.N r.1.S (List.map zD.toD r.1.L) r.1.From r.1.To)] [(hU (List.map zB.toD r.2.1) r.2.2.1 r.2.2.2.1), (hM r.2.2.2.2.1 r.2.2.2.2.2.1 r.2.2.2.2.2.2.1 (List.map zD.toD r.2.2.2.2.2.2.2.1) r.2.2.2.2.2.2.2.2.1 r.2.2.2.2.2.2.2.2.2)] := by
  unfold vC at h
  refine yJ 1000 (by kernel_rfl) (by kernel_rfl) (by kernel_rfl) (by kernel_rfl) (by kernel_rfl) (z6F _ _ _ _ t at_ e K N S L From To) ?_
  rintro _ rfl
  refine vZ beq_iff_eq h (fun _ h => ?_) (fun _ h => ?_)
  ·
    obtain ⟨x, hx, h⟩ := zC h
    refine ⟨z0U (l := t) (zB.sz), z6Q hx, x.K, x.N, x.S, x.From, x.To, z4b (zB.toD_eq x) hx, ?_⟩
    rintro _ rfl
    refine vZ beq_iff_eq h (fun _ h => ?_) (fun _ h => ?_)
    ·
      rintro _ rfl
      refine ⟨z0U (l := t) (zB.sz), ?_⟩
      obtain ⟨hP, h⟩ := z0q h
      refine ⟨by first | exact hP | simpa using hP, ?_⟩
      obtain ⟨hP, h⟩ := z0q h
      refine ⟨by first | exact hP | simpa using hP, ?_⟩
      obtain ⟨hP, h⟩ := z0q h
      refine ⟨by first | exact hP | simpa using hP, ?_⟩
      obtain ⟨hP, h⟩ := z0q h
      refine ⟨by first | exact hP | simpa using hP, ?_⟩
      refine z1B (e' := List.map zB.toD (List.drop (Int.toNat at_) (List.take (Int.toNat (IntKind.wrap .i64 (at_ + 1))) t))) (by first | rfl | simp only [List.map_append, List.map_cons, List.map_nil, List.map_take, List.map_drop, List.map_set, List.map_replicate, List.length_map, zB.toD_eq]) ?_
      obtain ⟨q5, g, h⟩ := zC h
      refine ⟨_, _, _, _, _, _, _, _, ⟨_, z4N _ _ _ g⟩, ?_⟩
      rintro _ rfl
      cases h; exact ⟨rfl, rfl⟩
    obtain ⟨q1, g, h⟩ := zC h
    refine ⟨_, gL _ _ _ _ _ _ _ _ _ _ _ _ g, ?_⟩
    refine vZ Iff.rfl h (fun _ h => ?_) (fun _ h => ?_)
    ·
      rintro _ rfl
      refine ⟨z0U (l := t) (zB.sz), ?_⟩
      obtain ⟨hP, h⟩ := z0q h
      refine ⟨by first | exact hP | simpa using hP, ?_⟩
      obtain ⟨hP, h⟩ := z0q h
      refine ⟨by first | exact hP | simpa using hP, ?_⟩
      obtain ⟨hP, h⟩ := z0q h
      refine ⟨by first | exact hP | simpa using hP, ?_⟩
      obtain ⟨hP, h⟩ := z0q h
      refine ⟨by first | exact hP | simpa using hP, ?_⟩
      refine z1B (e' := List.map zB.toD (List.drop (Int.toNat at_) (List.take (Int.toNat (IntKind.wrap .i64 (at_ + 1))) t))) (by first | rfl | simp only [List.map_append, List.map_cons, List.map_nil, List.map_take, List.map_drop, List.map_set, List.map_replicate, List.length_map, zB.toD_eq]) ?_
      obtain ⟨q4, g, h⟩ := zC h
      refine ⟨_, _, _, _, _, _, _, _, ⟨_, z4N _ _ _ g⟩, ?_⟩
      rintro _ rfl
      cases h; exact ⟨rfl, rfl⟩
    obtain ⟨q2, g, h⟩ := zC h
    refine ⟨_, gL _ _ _ _ _ _ _ _ _ _ _ _ g, ?_⟩
    refine vZ Iff.rfl h (fun _ h => ?_) (fun _ h => ?_)
    ·
      rintro _ rfl
      refine ⟨z0U (l := t) (zB.sz), ?_⟩
      obtain ⟨hP, h⟩ := z0q h
      refine ⟨by first | exact hP | simpa using hP, ?_⟩
      obtain ⟨hP, h⟩ := z0q h
      refine ⟨by first | exact hP | simpa using hP, ?_⟩
      obtain ⟨hP, h⟩ := z0q h
      refine ⟨by first | exact hP | simpa using hP, ?_⟩
      obtain ⟨hP, h⟩ := z0q h
      refine ⟨by first | exact hP | simpa using hP, ?_⟩
      refine z1B (e' := List.map zB.toD (List.drop (Int.toNat at_) (List.take (Int.toNat (IntKind.wrap .i64 (at_ + 1))) t))) (by first | rfl | simp only [List.map_append, List.map_cons, List.map_nil, List.map_take, List.map_drop, List.map_set, List.map_replicate, List.length_map, zB.toD_eq]) ?_
      obtain ⟨q3, g, h⟩ := zC h
      refine ⟨_, _, _, _, _, _, _, _, ⟨_, z4N _ _ _ g⟩, ?_⟩
      rintro _ rfl
      cases h; exact ⟨rfl, rfl⟩
    cases h; exact ⟨rfl, rfl⟩
  cases h; exact ⟨rfl, rfl⟩
theorem gF (k n : Int) (s : Str) (from_ : Int) (parts : List zD) (t : List zB) (at_ e K N : Int) (S : Str) (L : List zD) (From To : Int) (r : zD) (h : yH k n s from_ parts t at_ e K N S L From To = some r) : Trip Try.prog 36 [.hp 0 0, (nI k), (nI n), (nS s), (nI from_), .d (.sl (List.map zD.toD parts))] [(hU (List.map zB.toD t) at_ e), (hM K N S (List.map zD.toD L) From To)] [.d (gT r.K r.N r.S (List.map zD.toD r.L) r.From r.To)] [(hU (List.map zB.toD t) at_ e), (hM K N S (List.map zD.toD L) From To)] := by
  unfold yH at h
  refine yJ 1000 (by kernel_rfl) (by kernel_rfl) (by kernel_rfl) (by kernel_rfl) (by kernel_rfl) (z9r _ _ _ _ k n s from_ parts t at_ e K N S L From To) ?_
  rintro _ rfl
  refine vZ beq_iff_eq h (fun _ h => ?_) (fun _ h => ?_)
  ·
    obtain ⟨x, hx, h⟩ := zC h
    refine ⟨z0U (l := t) (zB.sz), z6Q hx, x.K, x.N, x.S, x.From, x.To, z4b (zB.toD_eq x) hx, ?_⟩
    rintro _ rfl
    obtain ⟨x1, hx, h⟩ := zC h
    refine ⟨z0U (l := t) (zB.sz), z6Q hx, x1.K, x1.N, x1.S, x1.From, x1.To, z4b (zB.toD_eq x1) hx, ?_⟩
    cases h; exact ⟨rfl, rfl⟩
  cases h; exact ⟨rfl, rfl⟩
theorem z0y (t : List zB) (at_ e K N : Int) (S : Str) (L : List zD) (From To : Int) (r : Str × List zB × Int × Int × Int × Int × Str × List zD × Int × Int) (h : vO t at_ e K N S L From To = some r) : Trip Try.prog 31 [.hp 0 0] [(hU (List.map zB.toD t) at_ e), (hM K N S (List.map zD.toD L) From To)] [(nS r.1)] [(hU (List.map zB.toD r.2.1) r.2.2.1 r.2.2.2.1), (hM r.2.2.2.2.1 r.2.2.2.2.2.1 r.2.2.2.2.2.2.1 (List.map zD.toD r.2.2.2.2.2.2.2.1) r.2.2.2.2.2.2.2.2.1 r.2.2.2.2.2.2.2.2.2)] := by
  unfold vO at h
  refine yJ 1000 (by kernel_rfl) (by kernel_rfl) (by kernel_rfl) (by kernel_rfl) (by kernel_rfl) (z9s _ _ _ _ t at_ e K N S L From To) ?_
  rintro _ rfl
  refine vZ beq_iff_eq h (fun _ h => ?_) (fun _ h => ?_)
  ·
    obtain ⟨x, hx, h⟩ := zC h
    refine ⟨z0U (l := t) (zB.sz), z6Q hx, x.K, x.N, x.S, x.From, x.To, z4b (zB.toD_eq x) hx, ?_⟩
    rintro _ rfl
    refine vZ beq_iff_eq h (fun _ h => ?_) (fun _ h => ?_)
    ·
      rintro _ rfl
      rintro _ rfl
      obtain ⟨x1, hx, h⟩ := zC h
      refine ⟨z0U (l := t) (zB.sz), z6Q hx, x1.K, x1.N, x1.S, x1.From, x1.To, z4b (zB.toD_eq x1) hx, ?_⟩
      cases h; exact ⟨rfl, rfl⟩
    cases h; exact ⟨rfl, rfl⟩
  cases h; exact ⟨rfl, rfl⟩
theorem z1S (k : Int) (s : Str) (t : List zB) (at_ e K N : Int) (S : Str) (L : List zD) (From To : Int) (r : Bool × List zB × Int × Int × Int × Int × Str × List zD × Int × Int) (h : jX k s t at_ e K N S L From To = some r) : Trip Try.prog 40 [.hp 0 0, (nI k), (nS s)] [(hU (List.map zB.toD t) at_ e), (hM K N S (List.map zD.toD L) From To)] [(nB r.1)] [(hU (List.map zB.toD r.2.1) r.2.2.1 r.2.2.2.1), (hM r.2.2.2.2.1 r.2.2.2.2.2.1 r.2.2.2.2.2.2.1 (List.map zD.toD r.2.2.2.2.2.2.2.1) r.2.2.2.2.2.2.2.2.1 r.2.2.2.2.2.2.2.2.2)] := by
  unfold jX at h
  refine yJ 1000 (by kernel_rfl) (by kernel_rfl) (by kernel_rfl) (by kernel_rfl) (by kernel_rfl) (z9w _ _ _ _ k s t at_ e K N S L From To) ?_
  rintro _ rfl
  refine vZ beq_iff_eq h (fun _ h => ?_) (fun _ h => ?_)
  ·
    obtain ⟨q1, g, h⟩ := zC h
    refine ⟨_, gL _ _ _ _ _ _ _ _ _ _ _ _ g, ?_⟩
    refine vZ Iff.rfl h (fun _ h => ?_) (fun _ h => ?_)
    ·
      rintro _ rfl
      cases h; exact ⟨rfl, rfl⟩
    cases h; exact ⟨rfl, rfl⟩
  cases h; exact ⟨rfl, rfl⟩
theorem vX (k : Int) (s : Str) (t : List zB) (at_ e K N : Int) (S : Str) (L : List zD) (From To : Int) (r : List zB × Int × Int × Int × Int × Str × List zD × Int × Int) (h : yK k s t at_ e K N S L From To = some r) : Trip Try.prog 32 [.hp 0 0, (nI k), (nS s)] [(hU (List.map zB.toD t) at_ e), (hM K N S (List.map zD.toD L) From To)] [] [(hU (List.map zB.toD r.1) r.2.1 r.2.2.1), (hM r.2.2.2.1 r.2.2.2.2.1 r.2.2.2.2.2.1 (List.map zD.toD r.2.2.2.2.2.2.1) r.2.2.2.2.2.2.2.1 r.2.2.2.2.2.2.2.2)] := by
  unfold yK at h
  refine yJ 1000 (by kernel_rfl) (by kernel_rfl) (by kernel_rfl) (by kernel_rfl) (by kernel_rfl) (z9t _ _ _ _ k s t at_ e K N S L From To) ?_
  rintro _ rfl
  refine zI beq_iff_eq h (fun _ h => ?_) (fun _ h => ?_)
  ·
    obtain ⟨q1, g, h⟩ := zC h
    refine ⟨_, _, _, _, _, _, _, _, _, _, z1S _ _ _ _ _ _ _ _ _ _ _ _ g, ?_⟩
    refine vZ Iff.rfl h (fun _ h => ?_) (fun _ h => ?_)
    ·
      cases h; exact ⟨rfl, rfl⟩
    cases h; exact ⟨rfl, rfl⟩
  cases h; exact ⟨rfl, rfl⟩
theorem z7g (t : List zB) (at_ e K N : Int) (S : Str) (L : List zD) (From To : Int) (r : zD × List zB × Int × Int × Int × Int × Str × List zD × Int × Int) (h : gH t at_ e K N S L From To = some r) : Trip Try.prog 18 [.hp 0 0] [(hU (List.map zB.toD t) at_ e), (hM K N S (List.map zD.toD L) From To)] [.d (gT r.1.K r.1.N r.1.S (List.map zD.toD r.1.L) r.1.From r.1.To)] [(hU (List.map zB.toD r.2.1) r.2.2.1 r.2.2.2.1), (hM r.2.2.2.2.1 r.2.2.2.2.2.1 r.2.2.2.2.2.2.1 (List.map zD.toD r.2.2.2.2.2.2.2.1) r.2.2.2.2.2.2.2.2.1 r.2.2.2.2.2.2.2.2.2)] := by
  unfold gH at h
  refine yJ 1000 (by kernel_rfl) (by kernel_rfl) (by kernel_rfl) (by kernel_rfl) (by kernel_rfl) (z7t _ _ _ _ t at_ e K N S L From To) ?_
  rintro _ rfl
  obtain ⟨q1, g, h⟩ := zC h
  refine ⟨_, _, _, _, _, _, _, _, _, _, z0y _ _ _ _ _ _ _ _ _ _ g, ?_⟩
  obtain ⟨q2, g, h⟩ := zC h
  refine ⟨_, _, _, _, _, _, _, _, _, vX _ _ _ _ _ _ _ _ _ _ _ _ g, ?_⟩
  obtain ⟨q3, g, h⟩ := zC h
  refine ⟨_, _, _, _, _, _, _, _, _, _, _, _, _, _, _, z6q _ _ _ _ _ _ _ _ _ _ g, ?_⟩
  obtain ⟨q4, g, h⟩ := zC h
  refine ⟨_, _, _, _, _, _, _, _, _, vX _ _ _ _ _ _ _ _ _ _ _ _ g, ?_⟩
  obtain ⟨q5, g, h⟩ := zC h
  have hT := gF _ _ _ _ _ _ _ _ _ _ _ _ _ _ _ g
  simp only [List.map_cons, List.map_nil, zD.toD_eq] at hT
  refine ⟨_, _, _, _, _, _, hT, ?_⟩
  cases h; exact ⟨rfl, rfl⟩
theorem z3I (t : List zB) (at_ e : Int) (r : zB) (h : z0x t at_ e = some r) : Trip Try.prog 63 [.hp 0 0] [(hU (List.map zB.toD t) at_ e)] [.d (gK r.K r.N r.S r.From r.To)] [(hU (List.map zB.toD t) at_ e)] := by
  unfold z0x at h
  refine yJ 1000 (by kernel_rfl) (by kernel_rfl) (by kernel_rfl) (by kernel_rfl) (by kernel_rfl) (y0j _ _ _ _ t at_ e) ?_
  refine z1B (e' := (List.length t : Int)) (by first | rfl | rw [List.length_map]) ?_
  rintro _ rfl
  refine zI decide_eq_true_iff h (fun _ h => ?_) (fun _ h => ?_)
  ·
    obtain ⟨x, hx, h⟩ := zC h
    refine ⟨z0U (l := t) (zB.sz), z6Q hx, x.K, x.N, x.S, x.From, x.To, z4b (zB.toD_eq x) hx, ?_⟩
    cases h; exact ⟨rfl, rfl⟩
  cases h; exact ⟨rfl, rfl⟩
theorem z2D (k : Int) (s : Str) (t : List zB) (at_ e : Int) (r : Bool) (h : uM k s t at_ e = some r) : Trip Try.prog 59 [.hp 0 0, (nI k), (nS s)] [(hU (List.map zB.toD t) at_ e)] [(nB r)] [(hU (List.map zB.toD t) at_ e)] := by
  unfold uM at h
  refine yJ 1000 (by kernel_rfl) (by kernel_rfl) (by kernel_rfl) (by kernel_rfl) (by kernel_rfl) (y0Y _ _ _ _ k s t at_ e) ?_
  obtain ⟨q1, g, h⟩ := zC h
  refine ⟨_, _, _, _, _, z3I _ _ _ _ g, ?_⟩
  rintro _ rfl
  refine zI beq_iff_eq h (fun _ h => ?_) (fun _ h => ?_)
  ·
    rintro _ rfl
    cases h; exact ⟨rfl, rfl⟩
  cases h; exact ⟨rfl, rfl⟩
theorem wP (k : Int) (s : Str) (from_ : Int) (parts : List zD) (t : List zB) (at_ e : Int) (r : zD) (h : yU k s from_ parts t at_ e = some r) : Trip Try.prog 61 [.hp 0 0, (nI k), (nS s), (nI from_), .d (.sl (List.map zD.toD parts))] [(hU (List.map zB.toD t) at_ e)] [.d (gT r.K r.N r.S (List.map zD.toD r.L) r.From r.To)] [(hU (List.map zB.toD t) at_ e)] := by
  unfold yU at h
  refine yJ 1000 (by kernel_rfl) (by kernel_rfl) (by kernel_rfl) (by kernel_rfl) (by kernel_rfl) (z9l _ _ _ _ k s from_ parts t at_ e) ?_
  rintro _ rfl
  refine vZ beq_iff_eq h (fun _ h => ?_) (fun _ h => ?_)
  ·
    obtain ⟨x, hx, h⟩ := zC h
    refine ⟨z0U (l := t) (zB.sz), z6Q hx, x.K, x.N, x.S, x.From, x.To, z4b (zB.toD_eq x) hx, ?_⟩
    rintro _ rfl
    obtain ⟨x1, hx, h⟩ := zC h
    refine ⟨z0U (l := t) (zB.sz), z6Q hx, x1.K, x1.N, x1.S, x1.From, x1.To, z4b (zB.toD_eq x1) hx, ?_⟩
    cases h; exact ⟨rfl, rfl⟩
  cases h; exact ⟨rfl, rfl⟩
theorem wF (k : Int) (s : Str) (t : List zB) (at_ e : Int) (r : List zB × Int × Int) (h : zZ k s t at_ e = some r) : Trip Try.prog 58 [.hp 0 0, (nI k), (nS s)] [(hU (List.map zB.toD t) at_ e)] [] [(hU (List.map zB.toD r.1) r.2.1 r.2.2)] := by
  unfold zZ at h
  refine yJ 1000 (by kernel_rfl) (by kernel_rfl) (by kernel_rfl) (by kernel_rfl) (by kernel_rfl) (z9n _ _ _ _ k s t at_ e) ?_
  rintro _ rfl
  refine vZ beq_iff_eq h (fun _ h => ?_) (fun _ h => ?_)
  ·
    obtain ⟨q1, g, h⟩ := zC h
    refine ⟨_, z2D _ _ _ _ _ _ g, ?_⟩
    refine vZ Iff.rfl h (fun _ h => ?_) (fun _ h => ?_)
    ·
      rintro _ rfl
      cases h; exact ⟨rfl, rfl⟩
    cases h; exact ⟨rfl, rfl⟩
  cases h; exact ⟨rfl, rfl⟩
theorem y5i (t : zB) (r : Nat) (h : z0D t = some r) : Trip Try.prog 64 [.d (gK t.K t.N t.S t.From t.To)] [] [.fn r [] []] [] := by
  unfold z0D at h
  refine yJ 1000 (by kernel_rfl) (by kernel_rfl) (by kernel_rfl) (by kernel_rfl) (by kernel_rfl) (y5r _ _ _ _ t) ?_
  rintro _ rfl
  refine zI beq_iff_eq h (fun hc159 h => ?_) (fun hc159 h => ?_)
  ·
    rintro _ rfl
    refine zI beq_iff_eq h (fun _ h => ?_) (fun _ h => ?_)
    ·
      cases h; exact ⟨rfl, rfl⟩
    rintro _ rfl
    refine y9N beq_iff_eq (fun e => absurd (hc159.symm.trans e) (by decide)) ?_
    cases h; exact ⟨rfl, rfl⟩
  rintro _ rfl
  refine vZ beq_iff_eq h (fun _ h => ?_) (fun _ h => ?_)
  ·
    rintro _ rfl
    refine zI beq_iff_eq h (fun _ h => ?_) (fun _ h => ?_)
    ·
      cases h; exact ⟨rfl, rfl⟩
    rintro _ rfl
    refine zI beq_iff_eq h (fun _ h => ?_) (fun _ h => ?_)
    ·
      cases h; exact ⟨rfl, rfl⟩
    rintro _ rfl
    refine zI beq_iff_eq h (fun _ h => ?_) (fun _ h => ?_)
    ·
      cases h; exact ⟨rfl, rfl⟩
    rintro _ rfl
    refine zI beq_iff_eq h (fun _ h => ?_) (fun _ h => ?_)
    ·
      cases h; exact ⟨rfl, rfl⟩
    rintro _ rfl
    refine zI beq_iff_eq h (fun _ h => ?_) (fun _ h => ?_)
    ·
      cases h; exact ⟨rfl, rfl⟩
    rintro _ rfl
    refine zI beq_iff_eq h (fun _ h => ?_) (fun _ h => ?_)
    ·
      cases h; exact ⟨rfl, rfl⟩
    rintro _ rfl
    refine zI beq_iff_eq h (fun _ h => ?_) (fun _ h => ?_)
    ·
      cases h; exact ⟨rfl, rfl⟩
    cases h; exact ⟨rfl, rfl⟩
  cases h; exact ⟨rfl, rfl⟩
theorem z4W (t : List zB) (at_ e : Int) (r : zD × List zB × Int × Int) (h : wZ t at_ e = some r) : Trip Try.prog 78 [.hp 0 0, .fn 46 [] []] [(hU (List.map zB.toD t) at_ e)] [.d (gT r.1.K r.1.N r.1.S (List.map zD.toD r.1.L) r.1.From r.1.To)] [(hU (List.map zB.toD r.2.1) r.2.2.1 r.2.2.2)] := by
  unfold wZ at h
  refine yJ 1000 (by kernel_rfl) (by kernel_rfl) (by kernel_rfl) (by kernel_rfl) (by kernel_rfl) (z5b _ _ _ _ t at_ e) ?_
  rintro _ rfl
  refine vZ beq_iff_eq h (fun _ h => ?_) (fun _ h => ?_)
  ·
    refine z1B (e' := (List.length t : Int)) (by first | rfl | rw [List.length_map]) ?_
    rintro _ rfl
    refine zI decide_eq_true_iff h (fun _ h => ?_) (fun _ h => ?_)
    ·
      cases h; exact ⟨rfl, rfl⟩
    obtain ⟨q1, g, h⟩ := zC h
    refine ⟨_, _, _, _, _, _, _, _, ⟨_, z4N _ _ _ g⟩, ?_⟩
    cases h; exact ⟨rfl, rfl⟩
  cases h; exact ⟨rfl, rfl⟩
theorem jJ (t : List zB) (at_ e : Int) (r : zD × List zB × Int × Int) (h : yT t at_ e = some r) : Trip Try.prog 76 [.hp 0 0] [(hU (List.map zB.toD t) at_ e)] [.d (gT r.1.K r.1.N r.1.S (List.map zD.toD r.1.L) r.1.From r.1.To)] [(hU (List.map zB.toD r.2.1) r.2.2.1 r.2.2.2)] := by
  unfold yT at h
  refine yJ 1000 (by kernel_rfl) (by kernel_rfl) (by kernel_rfl) (by kernel_rfl) (by kernel_rfl) (z9k _ _ _ _ t at_ e) ?_
  obtain ⟨q1, g, h⟩ := zC h
  refine ⟨_, _, _, _, _, _, _, _, _, z4W _ _ _ _ g, ?_⟩
  cases h; exact ⟨rfl, rfl⟩
theorem z2v (k : Int) (t : List zB) (at_ e : Int) (r : zD × List zB × Int × Int) (h : jL k t at_ e = some r) : Trip Try.prog 79 [.hp 0 0, (nI k)] [(hU (List.map zB.toD t) at_ e)] [.d (gT r.1.K r.1.N r.1.S (List.map zD.toD r.1.L) r.1.From r.1.To)] [(hU (List.map zB.toD r.2.1) r.2.2.1 r.2.2.2)] := by
  unfold jL at h
  refine yJ 1000 (by kernel_rfl) (by kernel_rfl) (by kernel_rfl) (by kernel_rfl) (by kernel_rfl) (z7s _ _ _ _ k t at_ e) ?_
  rintro _ rfl
  obtain ⟨q1, g, h⟩ := zC h
  refine ⟨_, _, _, _, _, _, _, _, _, jJ _ _ _ _ g, ?_⟩
  obtain ⟨q2, g, h⟩ := zC h
  refine ⟨_, _, _, wF _ _ _ _ _ _ g, ?_⟩
  obtain ⟨q3, g, h⟩ := zC h
  have hT := wP _ _ _ _ _ _ _ _ g
  simp only [List.map_cons, List.map_nil, zD.toD_eq] at hT
  refine ⟨_, _, _, _, _, _, hT, ?_⟩
  cases h; exact ⟨rfl, rfl⟩
theorem z8n (t : List zB) (at_ e : Int) (r : zD × List zB × Int × Int) (h : z1J t at_ e = some r) : Trip Try.prog 73 [.hp 0 0] [(hU (List.map zB.toD t) at_ e)] [.d (gT r.1.K r.1.N r.1.S (List.map zD.toD r.1.L) r.1.From r.1.To)] [(hU (List.map zB.toD r.2.1) r.2.2.1 r.2.2.2)] := by
  unfold z1J at h
  refine yJ 1000 (by kernel_rfl) (by kernel_rfl) (by kernel_rfl) (by kernel_rfl) (by kernel_rfl) (z9h _ _ _ _ t at_ e) ?_
  obtain ⟨q1, g, h⟩ := zC h
  refine ⟨_, _, _, _, _, _, _, _, _, z2v _ _ _ _ _ g, ?_⟩
  cases h; exact ⟨rfl, rfl⟩
theorem z8o (t : List zB) (at_ e : Int) (r : zD × List zB × Int × Int) (h : z1K t at_ e = some r) : Trip Try.prog 74 [.hp 0 0] [(hU (List.map zB.toD t) at_ e)] [.d (gT r.1.K r.1.N r.1.S (List.map zD.toD r.1.L) r.1.From r.1.To)] [(hU (List.map zB.toD r.2.1) r.2.2.1 r.2.2.2)] := by
  unfold z1K at h
  refine yJ 1000 (by kernel_rfl) (by kernel_rfl) (by kernel_rfl) (by kernel_rfl) (by kernel_rfl) (z9i _ _ _ _ t at_ e) ?_
  obtain ⟨q1, g, h⟩ := zC h
  refine ⟨_, _, _, _, _, _, _, _, _, z2v _ _ _ _ _ g, ?_⟩
  cases h; exact ⟨rfl, rfl⟩
theorem z4O (t : List zB) (at_ e : Int) (r : Str × List zB × Int × Int) (h : uW t at_ e = some r) : Trip Try.prog 77 [.hp 0 0] [(hU (List.map zB.toD t) at_ e)] [(nS r.1)] [(hU (List.map zB.toD r.2.1) r.2.2.1 r.2.2.2)] := by
  unfold uW at h
  refine yJ 1000 (by kernel_rfl) (by kernel_rfl) (by kernel_rfl) (by kernel_rfl) (by kernel_rfl) (z9m _ _ _ _ t at_ e) ?_
  rintro _ rfl
  refine vZ beq_iff_eq h (fun _ h => ?_) (fun _ h => ?_)
  ·
    obtain ⟨q1, g, h⟩ := zC h
    refine ⟨_, _, _, _, _, z3I _ _ _ _ g, ?_⟩
    rintro _ rfl
    refine vZ beq_iff_eq h (fun _ h => ?_) (fun _ h => ?_)
    ·
      rintro _ rfl
      cases h; exact ⟨rfl, rfl⟩
    cases h; exact ⟨rfl, rfl⟩
  cases h; exact ⟨rfl, rfl⟩
def z4M : (i : z1R) → z3i i → Prop
  | .yN t at_ e, r => Trip Try.prog 48 [.hp 0 0] [(hU (List.map zB.toD t) at_ e)] [.d (gT r.1.K r.1.N r.1.S (List.map zD.toD r.1.L) r.1.From r.1.To)] [(hU (List.map zB.toD r.2.1) r.2.2.1 r.2.2.2)]
theorem z8i : ∀ i r, z2Z z1Q i = some r → z4M i r := by
  refine jQ z4L fun g ih i => ?_
  cases i with
  | yN t at_ e =>
    have ih_expr_parser_kind := fun t at_ e r h => ih (.yN t at_ e) r h
    intro r h
    replace h : z0c (fun t at_ e => g (z1R.yN t at_ e)) t at_ e = some r := h
    unfold z0c at h
    refine yJ 1000 (by kernel_rfl) (by kernel_rfl) (by kernel_rfl) (by kernel_rfl) (by kernel_rfl) (z9a _ _ _ _ t at_ e) ?_
    rintro _ rfl
    refine vZ beq_iff_eq h (fun _ h => ?_) (fun _ h => ?_)
    ·
      obtain ⟨q1, g, h⟩ := zC h
      refine ⟨_, _, _, _, _, z0l _ _ _ _ g, ?_⟩
      rintro _ rfl
      refine zI beq_iff_eq h (fun hc174 h => ?_) (fun hc174 h => ?_)
      ·
        rintro _ rfl
        refine zI beq_iff_eq h (fun _ h => ?_) (fun _ h => ?_)
        ·
          rintro _ rfl
          obtain ⟨q2, g, h⟩ := zC h
          refine ⟨_, _, _, _, _, _, yR _ _ _ _ _ _ g, ?_⟩
          cases h; exact ⟨rfl, rfl⟩
        rintro _ rfl
        refine uP beq_iff_eq hc174 ?_
        rintro _ rfl
        refine zI beq_iff_eq h (fun _ h => ?_) (fun _ h => ?_)
        ·
          rintro _ rfl
          obtain ⟨q3, g, h⟩ := zC h
          refine ⟨_, _, _, _, _, _, yR _ _ _ _ _ _ g, ?_⟩
          cases h; exact ⟨rfl, rfl⟩
        rintro _ rfl
        refine y8P beq_iff_eq (fun e => absurd (hc174.symm.trans e) (by decide)) ?_
        obtain ⟨q5, g, h⟩ := zC h
        refine ⟨_, uK _ _ _ _ _ g, ?_⟩
        refine zI Iff.rfl h (fun _ h => ?_) (fun _ h => ?_)
        ·
          rintro _ rfl
          obtain ⟨q6, g, h⟩ := zC h
          refine ⟨_, _, _, _, _, z0l _ _ _ _ g, ?_⟩
          rintro _ rfl
          refine vZ beq_iff_eq h (fun _ h => ?_) (fun _ h => ?_)
          ·
            rintro _ rfl
            obtain ⟨q8, g, h⟩ := zC h
            refine ⟨_, _, _, jI _ _ _ _ _ g, ?_⟩
            obtain ⟨q9, g, h⟩ := zC h
            refine ⟨_, _, _, _, _, _, _, _, _, ih_expr_parser_kind _ _ _ _ g, ?_⟩
            obtain ⟨q10, g, h⟩ := zC h
            have hT := yR _ _ _ _ _ _ g
            simp only [List.map_cons, List.map_nil, zD.toD_eq] at hT
            refine ⟨_, _, _, _, _, _, hT, ?_⟩
            cases h; exact ⟨rfl, rfl⟩
          obtain ⟨q7, g, h⟩ := zC h
          refine ⟨_, _, _, jH _ _ _ _ g, ?_⟩
          cases h; exact ⟨rfl, rfl⟩
        obtain ⟨q11, g, h⟩ := zC h
        refine ⟨_, _, _, jH _ _ _ _ g, ?_⟩
        cases h; exact ⟨rfl, rfl⟩
      rintro _ rfl
      refine y8P beq_iff_eq hc174 ?_
      rintro _ rfl
      refine zI beq_iff_eq h (fun _ h => ?_) (fun _ h => ?_)
      ·
        rintro _ rfl
        obtain ⟨q29, g, h⟩ := zC h
        refine ⟨_, _, _, _, _, _, yR _ _ _ _ _ _ g, ?_⟩
        cases h; exact ⟨rfl, rfl⟩
      obtain ⟨q30, g, h⟩ := zC h
      refine ⟨_, uK _ _ _ _ _ g, ?_⟩
      refine zI Iff.rfl h (fun _ h => ?_) (fun _ h => ?_)
      ·
        rintro _ rfl
        obtain ⟨q31, g, h⟩ := zC h
        refine ⟨_, _, _, _, _, z0l _ _ _ _ g, ?_⟩
        rintro _ rfl
        refine vZ beq_iff_eq h (fun _ h => ?_) (fun _ h => ?_)
        ·
          rintro _ rfl
          obtain ⟨q33, g, h⟩ := zC h
          refine ⟨_, _, _, jI _ _ _ _ _ g, ?_⟩
          obtain ⟨q34, g, h⟩ := zC h
          refine ⟨_, _, _, _, _, _, _, _, _, ih_expr_parser_kind _ _ _ _ g, ?_⟩
          obtain ⟨q35, g, h⟩ := zC h
          have hT := yR _ _ _ _ _ _ g
          simp only [List.map_cons, List.map_nil, zD.toD_eq] at hT
          refine ⟨_, _, _, _, _, _, hT, ?_⟩
          cases h; exact ⟨rfl, rfl⟩
        obtain ⟨q32, g, h⟩ := zC h
        refine ⟨_, _, _, jH _ _ _ _ g, ?_⟩
        cases h; exact ⟨rfl, rfl⟩
      obtain ⟨q36, g, h⟩ := zC h
      refine ⟨_, _, _, jH _ _ _ _ g, ?_⟩
      cases h; exact ⟨rfl, rfl⟩
    cases h; exact ⟨rfl, rfl⟩
theorem z8m (t : List zB) (at_ e : Int) (r : zD × List zB × Int × Int) (h : yN t at_ e = some r) : z4M (.yN t at_ e) r := z8i (.yN t at_ e) r h
theorem z5g (t : List zB) (at_ : Int) (r : zD × Int × Int) (h : jB t at_ = some r) : Trip Try.prog 47 [.d (.sl (List.map zB.toD t)), (nI at_), .fn 48 [] []] [] [.d (gT r.1.K r.1.N r.1.S (List.map zD.toD r.1.L) r.1.From r.1.To), (nI r.2.1), (nI r.2.2)] [] := by
  unfold jB at h
  refine yJ 1000 (by kernel_rfl) (by kernel_rfl) (by kernel_rfl) (by kernel_rfl) (by kernel_rfl) (z5q _ _ _ _ t at_) ?_
  rintro _ rfl
  refine zI decide_eq_true_iff h (fun _ h => ?_) (fun _ h => ?_)
  ·
    cases h; exact ⟨rfl, rfl⟩
  refine z1B (e' := (List.length t : Int)) (by first | rfl | rw [List.length_map]) ?_
  rintro _ rfl
  refine zI decide_eq_true_iff h (fun _ h => ?_) (fun _ h => ?_)
  ·
    cases h; exact ⟨rfl, rfl⟩
  obtain ⟨q1, g, h⟩ := zC h
  refine ⟨_, _, _, _, _, _, _, _, _, z8m _ _ _ _ g, ?_⟩
  rintro _ rfl
  refine vZ beq_iff_eq h (fun _ h => ?_) (fun _ h => ?_)
  ·
    cases h; exact ⟨rfl, rfl⟩
  cases h; exact ⟨rfl, rfl⟩
theorem y1r (t : List zB) (at_ : Int) (r : zD × Int × Int) (h : z3s t at_ = some r) : Trip Try.prog 39 [.d (.sl (List.map zB.toD t)), (nI at_)] [] [.d (gT r.1.K r.1.N r.1.S (List.map zD.toD r.1.L) r.1.From r.1.To), (nI r.2.1), (nI r.2.2)] [] := by
  unfold z3s at h
  refine yJ 1000 (by kernel_rfl) (by kernel_rfl) (by kernel_rfl) (by kernel_rfl) (by kernel_rfl) (y5q _ _ _ _ t at_) ?_
  obtain ⟨q1, g, h⟩ := zC h
  refine ⟨_, _, _, _, _, _, _, _, ⟨_, z5g _ _ _ g⟩, ?_⟩
  cases h; exact ⟨rfl, rfl⟩
theorem z5j (t : List zB) (at_ e : Int) (r : zD × List zB × Int × Int) (h : vU t at_ e = some r) : Trip Try.prog 78 [.hp 0 0, .fn 39 [] []] [(hU (List.map zB.toD t) at_ e)] [.d (gT r.1.K r.1.N r.1.S (List.map zD.toD r.1.L) r.1.From r.1.To)] [(hU (List.map zB.toD r.2.1) r.2.2.1 r.2.2.2)] := by
  unfold vU at h
  refine yJ 1000 (by kernel_rfl) (by kernel_rfl) (by kernel_rfl) (by kernel_rfl) (by kernel_rfl) (z5r _ _ _ _ t at_ e) ?_
  rintro _ rfl
  refine vZ beq_iff_eq h (fun _ h => ?_) (fun _ h => ?_)
  ·
    refine z1B (e' := (List.length t : Int)) (by first | rfl | rw [List.length_map]) ?_
    rintro _ rfl
    refine zI decide_eq_true_iff h (fun _ h => ?_) (fun _ h => ?_)
    ·
      cases h; exact ⟨rfl, rfl⟩
    obtain ⟨q1, g, h⟩ := zC h
    refine ⟨_, _, _, _, _, _, _, _, ⟨_, y1r _ _ _ g⟩, ?_⟩
    cases h; exact ⟨rfl, rfl⟩
  cases h; exact ⟨rfl, rfl⟩
theorem z9T (t : List zB) (at_ e : Int) (r : zD × List zB × Int × Int) (h : z0f t at_ e = some r) : Trip Try.prog 68 [.hp 0 0] [(hU (List.map zB.toD t) at_ e)] [.d (gT r.1.K r.1.N r.1.S (List.map zD.toD r.1.L) r.1.From r.1.To)] [(hU (List.map zB.toD r.2.1) r.2.2.1 r.2.2.2)] := by
  unfold z0f at h
  refine yJ 1000 (by kernel_rfl) (by kernel_rfl) (by kernel_rfl) (by kernel_rfl) (by kernel_rfl) (y0i _ _ _ _ t at_ e) ?_
  rintro _ rfl
  obtain ⟨q1, g, h⟩ := zC h
  refine ⟨_, _, _, _, z4O _ _ _ _ g, ?_⟩
  rintro _ rfl
  refine zI beq_iff_eq h (fun _ h => ?_) (fun _ h => ?_)
  ·
    obtain ⟨q2, g, h⟩ := zC h
    refine ⟨_, z2D _ _ _ _ _ _ g, ?_⟩
    refine zI Iff.rfl h (fun _ h => ?_) (fun _ h => ?_)
    ·
      rintro _ rfl
      obtain ⟨q3, g, h⟩ := zC h
      refine ⟨_, _, _, _, _, _, _, _, _, z5j _ _ _ _ g, ?_⟩
      obtain ⟨q4, g, h⟩ := zC h
      refine ⟨_, _, _, wF _ _ _ _ _ _ g, ?_⟩
      obtain ⟨q5, g, h⟩ := zC h
      have hT := wP _ _ _ _ _ _ _ _ g
      simp only [List.map_cons, List.map_nil, zD.toD_eq] at hT
      refine ⟨_, _, _, _, _, _, hT, ?_⟩
      cases h; exact ⟨rfl, rfl⟩
    obtain ⟨q6, g, h⟩ := zC h
    refine ⟨_, _, _, wF _ _ _ _ _ _ g, ?_⟩
    obtain ⟨q7, g, h⟩ := zC h
    refine ⟨_, _, _, _, _, _, _, _, _, jJ _ _ _ _ g, ?_⟩
    obtain ⟨q8, g, h⟩ := zC h
    refine ⟨_, _, _, wF _ _ _ _ _ _ g, ?_⟩
    obtain ⟨q9, g, h⟩ := zC h
    have hT := wP _ _ _ _ _ _ _ _ g
    simp only [List.map_cons, List.map_nil, zD.toD_eq] at hT
    refine ⟨_, _, _, _, _, _, hT, ?_⟩
    cases h; exact ⟨rfl, rfl⟩
  obtain ⟨q10, g, h⟩ := zC h
  refine ⟨_, _, _, wF _ _ _ _ _ _ g, ?_⟩
  obtain ⟨q11, g, h⟩ := zC h
  refine ⟨_, _, _, _, _, _, _, _, _, jJ _ _ _ _ g, ?_⟩
  obtain ⟨q12, g, h⟩ := zC h
  refine ⟨_, _, _, wF _ _ _ _ _ _ g, ?_⟩
  obtain ⟨q13, g, h⟩ := zC h
  have hT := wP _ _ _ _ _ _ _ _ g
  simp only [List.map_cons, List.map_nil, zD.toD_eq] at hT
  refine ⟨_, _, _, _, _, _, hT, ?_⟩
  cases h; exact ⟨rfl, rfl⟩
theorem z9U (t : List zB) (at_ e : Int) (r : zD × List zB × Int × Int) (h : z0M t at_ e = some r) : Trip Try.prog 67 [.hp 0 0] [(hU (List.map zB.toD t) at_ e)] [.d (gT r.1.K r.1.N r.1.S (List.map zD.toD r.1.L) r.1.From r.1.To)] [(hU (List.map zB.toD r.2.1) r.2.2.1 r.2.2.2)] := by
  unfold z0M at h
  refine yJ 1000 (by kernel_rfl) (by kernel_rfl) (by kernel_rfl) (by kernel_rfl) (by kernel_rfl) (y0k _ _ _ _ t at_ e) ?_
  obtain ⟨q1, g, h⟩ := zC h
  refine ⟨_, _, _, _, _, _, _, _, _, jJ _ _ _ _ g, ?_⟩
  obtain ⟨q2, g, h⟩ := zC h
  refine ⟨_, _, _, wF _ _ _ _ _ _ g, ?_⟩
  obtain ⟨q3, g, h⟩ := zC h
  refine ⟨_, _, _, _, _, _, _, _, _, jJ _ _ _ _ g, ?_⟩
  obtain ⟨q4, g, h⟩ := zC h
  refine ⟨_, _, _, wF _ _ _ _ _ _ g, ?_⟩
  obtain ⟨q5, g, h⟩ := zC h
  have hT := wP _ _ _ _ _ _ _ _ g
  simp only [List.map_cons, List.map_nil, zD.toD_eq] at hT
  refine ⟨_, _, _, _, _, _, hT, ?_⟩
  cases h; exact ⟨rfl, rfl⟩
theorem z8p (t : List zB) (at_ e : Int) (r : zD × List zB × Int × Int) (h : z1L t at_ e = some r) : Trip Try.prog 72 [.hp 0 0] [(hU (List.map zB.toD t) at_ e)] [.d (gT r.1.K r.1.N r.1.S (List.map zD.toD r.1.L) r.1.From r.1.To)] [(hU (List.map zB.toD r.2.1) r.2.2.1 r.2.2.2)] := by
  unfold z1L at h
  refine yJ 1000 (by kernel_rfl) (by kernel_rfl) (by kernel_rfl) (by kernel_rfl) (by kernel_rfl) (z9o _ _ _ _ t at_ e) ?_
  obtain ⟨q1, g, h⟩ := zC h
  refine ⟨_, _, _, _, _, _, _, _, _, z2v _ _ _ _ _ g, ?_⟩
  cases h; exact ⟨rfl, rfl⟩
def z4w : (i : yG) → z2F i → Prop
  | .zG t at_ e, r => Trip Try.prog 51 [.hp 0 0] [(hU (List.map zB.toD t) at_ e)] [.d (gT r.1.K r.1.N r.1.S (List.map zD.toD r.1.L) r.1.From r.1.To)] [(hU (List.map zB.toD r.2.1) r.2.2.1 r.2.2.2)]
  | .zS from_ l o2 t at_ e, r => Ok (z2J (Trip Try.prog) [.d (gT r.1.K r.1.N r.1.S (List.map zD.toD r.1.L) r.1.From r.1.To)] [(hU (List.map zB.toD r.2.1) r.2.2.1 r.2.2.2)]) (kL Try.f51 4) ⟨32, [(0, .hp 0 0), (2, .ref 2 1 0), (3, (nI from_)), (4, .right 4 1 6 (List.map zD.toD l))], [(4, 1, some (.tok 6 (List.length (List.map zD.toD l)))), (2, 1, some (.agg (gT o2.K o2.N o2.S (List.map zD.toD o2.L) o2.From o2.To)))], [(hU (List.map zB.toD t) at_ e)], 0⟩
  | .yO t at_ e, r => Trip Try.prog 60 [.hp 0 0] [(hU (List.map zB.toD t) at_ e)] [.d (gT r.1.K r.1.N r.1.S (List.map zD.toD r.1.L) r.1.From r.1.To)] [(hU (List.map zB.toD r.2.1) r.2.2.1 r.2.2.2)]
  | .vF t at_ e, r => Trip Try.prog 69 [.hp 0 0] [(hU (List.map zB.toD t) at_ e)] [.d (gT r.1.K r.1.N r.1.S (List.map zD.toD r.1.L) r.1.From r.1.To)] [(hU (List.map zB.toD r.2.1) r.2.2.1 r.2.2.2)]
  | .yY t at_ e, r => Trip Try.prog 70 [.hp 0 0] [(hU (List.map zB.toD t) at_ e)] [.d (gT r.1.K r.1.N r.1.S (List.map zD.toD r.1.L) r.1.From r.1.To)] [(hU (List.map zB.toD r.2.1) r.2.2.1 r.2.2.2)]
  | .yX t at_ e, r => Trip Try.prog 71 [.hp 0 0] [(hU (List.map zB.toD t) at_ e)] [.d (gT r.1.K r.1.N r.1.S (List.map zD.toD r.1.L) r.1.From r.1.To)] [(hU (List.map zB.toD r.2.1) r.2.2.1 r.2.2.2)]
theorem z7E : ∀ i r, z2Z vJ i = some r → z4w i r := by
  refine jQ jN fun g ih i => ?_
  cases i with
  | zG t at_ e =>
    have ih_stmt_reader_block_L4 := fun from_ l o2 t at_ e r h => ih (.zS from_ l o2 t at_ e) r h
    intro r h
    replace h : uA (fun from_ l o2 t at_ e => g (yG.zS from_ l o2 t at_ e)) t at_ e = some r := h
    unfold uA at h
    refine yJ 1000 (by kernel_rfl) (by kernel_rfl) (by kernel_rfl) (by kernel_rfl) (by kernel_rfl) (z7V _ _ _ _ t at_ e) ?_
    obtain ⟨q1, g, h⟩ := zC h
    refine ⟨_, _, _, wF _ _ _ _ _ _ g, ?_⟩
    exact ih_stmt_reader_block_L4 _ _ _ _ _ _ _ h
  | zS from_ l o2 t at_ e =>
    have ih_stmt_reader_block_L4 := fun from_ l o2 t at_ e r h => ih (.zS from_ l o2 t at_ e) r h
    have ih_stmt_reader_stmt := fun t at_ e r h => ih (.yO t at_ e) r h
    intro r h
    replace h : vT (fun from_ l o2 t at_ e => g (yG.zS from_ l o2 t at_ e)) (fun t at_ e => g (yG.yO t at_ e)) from_ l o2 t at_ e = some r := h
    unfold vT at h
    refine z6L 1000 (z6g _ _ _ _ from_ l o2 t at_ e) ?_
    rintro _ rfl
    refine zI beq_iff_eq h (fun _ h => ?_) (fun _ h => ?_)
    ·
      obtain ⟨q1, g, h⟩ := zC h
      refine ⟨_, z2D _ _ _ _ _ _ g, ?_⟩
      refine vZ Iff.rfl h (fun _ h => ?_) (fun _ h => ?_)
      ·
        obtain ⟨q3, g, h⟩ := zC h
        refine ⟨_, _, _, wF _ _ _ _ _ _ g, ?_⟩
        obtain ⟨q4, g, h⟩ := zC h
        refine ⟨_, _, _, _, _, _, wP _ _ _ _ _ _ _ _ g, ?_⟩
        cases h; exact ⟨rfl, rfl⟩
      obtain ⟨q2, g, h⟩ := zC h
      refine ⟨_, _, _, _, _, _, _, _, _, ih_stmt_reader_stmt _ _ _ _ g, ?_⟩
      refine ⟨by simp [uO, D.cells], ?_⟩
      refine ⟨by first | rfl | decide | simp only [List.length_map, List.length_cons, List.length_nil, List.map_append, List.length_append], ?_⟩
      obtain ⟨hP, h⟩ := z0q h
      refine ⟨by first | exact hP | simpa using hP, ?_⟩
      refine z1B (e' := List.map zD.toD (l ++ [q2.1])) (by first | rfl | simp only [List.map_append, List.map_cons, List.map_nil, List.map_take, List.map_drop, List.map_set, List.map_replicate, List.length_map, zD.toD_eq]) ?_
      exact ih_stmt_reader_block_L4 _ _ _ _ _ _ _ h
    obtain ⟨q5, g, h⟩ := zC h
    refine ⟨_, _, _, wF _ _ _ _ _ _ g, ?_⟩
    obtain ⟨q6, g, h⟩ := zC h
    refine ⟨_, _, _, _, _, _, wP _ _ _ _ _ _ _ _ g, ?_⟩
    cases h; exact ⟨rfl, rfl⟩
  | yO t at_ e =>
    have ih_stmt_reader_block := fun t at_ e r h => ih (.zG t at_ e) r h
    have ih_stmt_reader_cond := fun t at_ e r h => ih (.vF t at_ e) r h
    have ih_stmt_reader_while := fun t at_ e r h => ih (.yY t at_ e) r h
    have ih_stmt_reader_count := fun t at_ e r h => ih (.yX t at_ e) r h
    intro r h
    replace h : jM (fun t at_ e => g (yG.zG t at_ e)) (fun t at_ e => g (yG.vF t at_ e)) (fun t at_ e => g (yG.yY t at_ e)) (fun t at_ e => g (yG.yX t at_ e)) t at_ e = some r := h
    unfold jM at h
    refine yJ 1000 (by kernel_rfl) (by kernel_rfl) (by kernel_rfl) (by kernel_rfl) (by kernel_rfl) (z9p _ _ _ _ t at_ e) ?_
    obtain ⟨q1, g, h⟩ := zC h
    refine ⟨_, _, _, _, _, z3I _ _ _ _ g, ?_⟩
    obtain ⟨q2, g, h⟩ := zC h
    have hT := y5i _ _ g
    by_cases hg : q2 = 51
    · rw [if_pos hg] at h; rw [hg] at hT
      refine .inl ⟨⟨_, hT⟩, ?_⟩
      obtain ⟨q3, g, h⟩ := zC h
      refine ⟨_, _, _, _, _, _, _, _, _, ih_stmt_reader_block _ _ _ _ g, ?_⟩
      cases h; exact ⟨rfl, rfl⟩
    rw [if_neg hg] at h; clear hg
    by_cases hg : q2 = 67
    · rw [if_pos hg] at h; rw [hg] at hT
      refine .inr <| .inl ⟨⟨_, hT⟩, ?_⟩
      obtain ⟨q4, g, h⟩ := zC h
      refine ⟨_, _, _, _, _, _, _, _, _, z9U _ _ _ _ g, ?_⟩
      cases h; exact ⟨rfl, rfl⟩
    rw [if_neg hg] at h; clear hg
    by_cases hg : q2 = 68
    · rw [if_pos hg] at h; rw [hg] at hT
      refine .inr <| .inr <| .inl ⟨⟨_, hT⟩, ?_⟩
      obtain ⟨q5, g, h⟩ := zC h
      refine ⟨_, _, _, _, _, _, _, _, _, z9T _ _ _ _ g, ?_⟩
      cases h; exact ⟨rfl, rfl⟩
    rw [if_neg hg] at h; clear hg
    by_cases hg : q2 = 69
    · rw [if_pos hg] at h; rw [hg] at hT
      refine .inr <| .inr <| .inr <| .inl ⟨⟨_, hT⟩, ?_⟩
      obtain ⟨q6, g, h⟩ := zC h
      refine ⟨_, _, _, _, _, _, _, _, _, ih_stmt_reader_cond _ _ _ _ g, ?_⟩
      cases h; exact ⟨rfl, rfl⟩
    rw [if_neg hg] at h; clear hg
    by_cases hg : q2 = 70
    · rw [if_pos hg] at h; rw [hg] at hT
      refine .inr <| .inr <| .inr <| .inr <| .inl ⟨⟨_, hT⟩, ?_⟩
      obtain ⟨q7, g, h⟩ := zC h
      refine ⟨_, _, _, _, _, _, _, _, _, ih_stmt_reader_while _ _ _ _ g, ?_⟩
      cases h; exact ⟨rfl, rfl⟩
    rw [if_neg hg] at h; clear hg
    by_cases hg : q2 = 71
    · rw [if_pos hg] at h; rw [hg] at hT
      refine .inr <| .inr <| .inr <| .inr <| .inr <| .inl ⟨⟨_, hT⟩, ?_⟩
      obtain ⟨q8, g, h⟩ := zC h
      refine ⟨_, _, _, _, _, _, _, _, _, ih_stmt_reader_count _ _ _ _ g, ?_⟩
      cases h; exact ⟨rfl, rfl⟩
    rw [if_neg hg] at h; clear hg
    by_cases hg : q2 = 72
    · rw [if_pos hg] at h; rw [hg] at hT
      refine .inr <| .inr <| .inr <| .inr <| .inr <| .inr <| .inl ⟨⟨_, hT⟩, ?_⟩
      obtain ⟨q9, g, h⟩ := zC h
      refine ⟨_, _, _, _, _, _, _, _, _, z8p _ _ _ _ g, ?_⟩
      cases h; exact ⟨rfl, rfl⟩
    rw [if_neg hg] at h; clear hg
    by_cases hg : q2 = 73
    · rw [if_pos hg] at h; rw [hg] at hT
      refine .inr <| .inr <| .inr <| .inr <| .inr <| .inr <| .inr <| .inl ⟨⟨_, hT⟩, ?_⟩
      obtain ⟨q10, g, h⟩ := zC h
      refine ⟨_, _, _, _, _, _, _, _, _, z8n _ _ _ _ g, ?_⟩
      cases h; exact ⟨rfl, rfl⟩
    rw [if_neg hg] at h; clear hg
    by_cases hg : q2 = 74
    · rw [if_pos hg] at h; rw [hg] at hT
      refine .inr <| .inr <| .inr <| .inr <| .inr <| .inr <| .inr <| .inr <| .inl ⟨⟨_, hT⟩, ?_⟩
      obtain ⟨q11, g, h⟩ := zC h
      refine ⟨_, _, _, _, _, _, _, _, _, z8o _ _ _ _ g, ?_⟩
      cases h; exact ⟨rfl, rfl⟩
    rw [if_neg hg] at h; clear hg
    cases h
  | vF t at_ e =>
    have ih_stmt_reader_block := fun t at_ e r h => ih (.zG t at_ e) r h
    intro r h
    replace h : gG (fun t at_ e => g (yG.zG t at_ e)) t at_ e = some r := h
    unfold gG at h
    refine yJ 1000 (by kernel_rfl) (by kernel_rfl) (by kernel_rfl) (by kernel_rfl) (by kernel_rfl) (z9j _ _ _ _ t at_ e) ?_
    rintro _ rfl
    obtain ⟨q1, g, h⟩ := zC h
    refine ⟨_, _, _, _, _, _, _, _, _, jJ _ _ _ _ g, ?_⟩
    obtain ⟨q2, g, h⟩ := zC h
    refine ⟨_, _, _, _, _, _, _, _, _, ih_stmt_reader_block _ _ _ _ g, ?_⟩
    rintro _ rfl
    refine zI beq_iff_eq h (fun _ h => ?_) (fun _ h => ?_)
    ·
      obtain ⟨q3, g, h⟩ := zC h
      refine ⟨_, z2D _ _ _ _ _ _ g, ?_⟩
      refine zI Iff.rfl h (fun _ h => ?_) (fun _ h => ?_)
      ·
        rintro _ rfl
        obtain ⟨q4, g, h⟩ := zC h
        refine ⟨_, _, _, _, _, _, _, _, _, ih_stmt_reader_block _ _ _ _ g, ?_⟩
        obtain ⟨q5, g, h⟩ := zC h
        have hT := wP _ _ _ _ _ _ _ _ g
        simp only [List.map_cons, List.map_nil, zD.toD_eq] at hT
        refine ⟨_, _, _, _, _, _, hT, ?_⟩
        cases h; exact ⟨rfl, rfl⟩
      obtain ⟨q6, g, h⟩ := zC h
      have hT := wP _ _ _ _ _ _ _ _ g
      simp only [List.map_cons, List.map_nil, zD.toD_eq] at hT
      refine ⟨_, _, _, _, _, _, hT, ?_⟩
      cases h; exact ⟨rfl, rfl⟩
    obtain ⟨q7, g, h⟩ := zC h
    have hT := wP _ _ _ _ _ _ _ _ g
    simp only [List.map_cons, List.map_nil, zD.toD_eq] at hT
    refine ⟨_, _, _, _, _, _, hT, ?_⟩
    cases h; exact ⟨rfl, rfl⟩
  | yY t at_ e =>
    have ih_stmt_reader_block := fun t at_ e r h => ih (.zG t at_ e) r h
    intro r h
    replace h : jT (fun t at_ e => g (yG.zG t at_ e)) t at_ e = some r := h
    unfold jT at h
    refine yJ 1000 (by kernel_rfl) (by kernel_rfl) (by kernel_rfl) (by kernel_rfl) (by kernel_rfl) (z7X _ _ _ _ t at_ e) ?_
    rintro _ rfl
    obtain ⟨q1, g, h⟩ := zC h
    refine ⟨_, _, _, _, _, _, _, _, _, jJ _ _ _ _ g, ?_⟩
    obtain ⟨q2, g, h⟩ := zC h
    refine ⟨_, _, _, _, _, _, _, _, _, ih_stmt_reader_block _ _ _ _ g, ?_⟩
    obtain ⟨q3, g, h⟩ := zC h
    have hT := wP _ _ _ _ _ _ _ _ g
    simp only [List.map_cons, List.map_nil, zD.toD_eq] at hT
    refine ⟨_, _, _, _, _, _, hT, ?_⟩
    cases h; exact ⟨rfl, rfl⟩
  | yX t at_ e =>
    have ih_stmt_reader_block := fun t at_ e r h => ih (.zG t at_ e) r h
    intro r h
    replace h : jS (fun t at_ e => g (yG.zG t at_ e)) t at_ e = some r := h
    unfold jS at h
    refine yJ 1000 (by kernel_rfl) (by kernel_rfl) (by kernel_rfl) (by kernel_rfl) (by kernel_rfl) (z7W _ _ _ _ t at_ e) ?_
    rintro _ rfl
    obtain ⟨q1, g, h⟩ := zC h
    refine ⟨_, _, _, _, z4O _ _ _ _ g, ?_⟩
    obtain ⟨q2, g, h⟩ := zC h
    refine ⟨_, _, _, wF _ _ _ _ _ _ g, ?_⟩
    obtain ⟨q3, g, h⟩ := zC h
    refine ⟨_, _, _, _, _, _, _, _, _, jJ _ _ _ _ g, ?_⟩
    obtain ⟨q4, g, h⟩ := zC h
    refine ⟨_, _, _, wF _ _ _ _ _ _ g, ?_⟩
    obtain ⟨q5, g, h⟩ := zC h
    refine ⟨_, _, _, _, _, _, _, _, _, jJ _ _ _ _ g, ?_⟩
    obtain ⟨q6, g, h⟩ := zC h
    refine ⟨_, _, _, _, _, _, _, _, _, ih_stmt_reader_block _ _ _ _ g, ?_⟩
    obtain ⟨q7, g, h⟩ := zC h
    have hT := wP _ _ _ _ _ _ _ _ g
    simp only [List.map_cons, List.map_nil, zD.toD_eq] at hT
    refine ⟨_, _, _, _, _, _, hT, ?_⟩
    cases h; exact ⟨rfl, rfl⟩
theorem z7I (t : List zB) (at_ e : Int) (r : zD × List zB × Int × Int) (h : zG t at_ e = some r) : z4w (.zG t at_ e) r := z7E (.zG t at_ e) r h
theorem z4X (t : List zB) (at_ : Int) (r : zD × Int × Int) (h : z0F t at_ = some r) : Trip Try.prog 50 [.d (.sl (List.map zB.toD t)), (nI at_), .fn 51 [] []] [] [.d (gT r.1.K r.1.N r.1.S (List.map zD.toD r.1.L) r.1.From r.1.To), (nI r.2.1), (nI r.2.2)] [] := by
  unfold z0F at h
  refine yJ 1000 (by kernel_rfl) (by kernel_rfl) (by kernel_rfl) (by kernel_rfl) (by kernel_rfl) (z5c _ _ _ _ t at_) ?_
  rintro _ rfl
  refine zI decide_eq_true_iff h (fun _ h => ?_) (fun _ h => ?_)
  ·
    cases h; exact ⟨rfl, rfl⟩
  refine z1B (e' := (List.length t : Int)) (by first | rfl | rw [List.length_map]) ?_
  rintro _ rfl
  refine zI decide_eq_true_iff h (fun _ h => ?_) (fun _ h => ?_)
  ·
    cases h; exact ⟨rfl, rfl⟩
  obtain ⟨q1, g, h⟩ := zC h
  refine ⟨_, _, _, _, _, _, _, _, _, z7I _ _ _ _ g, ?_⟩
  rintro _ rfl
  refine vZ beq_iff_eq h (fun _ h => ?_) (fun _ h => ?_)
  ·
    cases h; exact ⟨rfl, rfl⟩
  cases h; exact ⟨rfl, rfl⟩
theorem y4c (t : List zB) (at_ : Int) (r : zD × Int × Int) (h : z5F t at_ = some r) : Trip Try.prog 42 [.d (.sl (List.map zB.toD t)), (nI at_)] [] [.d (gT r.1.K r.1.N r.1.S (List.map zD.toD r.1.L) r.1.From r.1.To), (nI r.2.1), (nI r.2.2)] [] := by
  unfold z5F at h
  refine yJ 1000 (by kernel_rfl) (by kernel_rfl) (by kernel_rfl) (by kernel_rfl) (by kernel_rfl) (y4A _ _ _ _ t at_) ?_
  obtain ⟨q1, g, h⟩ := zC h
  refine ⟨_, _, _, _, _, _, _, _, ⟨_, z4X _ _ _ g⟩, ?_⟩
  cases h; exact ⟨rfl, rfl⟩
theorem z2y (t : List zB) (at_ e K N : Int) (S : Str) (L : List zD) (From To : Int) (r : zD × List zB × Int × Int × Int × Int × Str × List zD × Int × Int) (h : vD t at_ e K N S L From To = some r) : Trip Try.prog 38 [.hp 0 0, .fn 42 [] []] [(hU (List.map zB.toD t) at_ e), (hM K N S (List.map zD.toD L) From To)] [.d (gT r.1.K r.1.N r.1.S (List.map zD.toD r.1.L) r.1.From r.1.To)] [(hU (List.map zB.toD r.2.1) r.2.2.1 r.2.2.2.1), (hM r.2.2.2.2.1 r.2.2.2.2.2.1 r.2.2.2.2.2.2.1 (List.map zD.toD r.2.2.2.2.2.2.2.1) r.2.2.2.2.2.2.2.2.1 r.2.2.2.2.2.2.2.2.2)] := by
  unfold vD at h
  refine yJ 1000 (by kernel_rfl) (by kernel_rfl) (by kernel_rfl) (by kernel_rfl) (by kernel_rfl) (z5d _ _ _ _ t at_ e K N S L From To) ?_
  rintro _ rfl
  refine vZ beq_iff_eq h (fun _ h => ?_) (fun _ h => ?_)
  ·
    obtain ⟨q1, g, h⟩ := zC h
    refine ⟨_, _, _, _, _, _, _, _, ⟨_, y4c _ _ _ g⟩, ?_⟩
    cases h; exact ⟨rfl, rfl⟩
  cases h; exact ⟨rfl, rfl⟩
theorem z0z (t : List zB) (at_ e K N : Int) (S : Str) (L : List zD) (From To : Int) (r : zD × List zB × Int × Int × Int × Int × Str × List zD × Int × Int) (h : yL t at_ e K N S L From To = some r) : Trip Try.prog 38 [.hp 0 0, .fn 39 [] []] [(hU (List.map zB.toD t) at_ e), (hM K N S (List.map zD.toD L) From To)] [.d (gT r.1.K r.1.N r.1.S (List.map zD.toD r.1.L) r.1.From r.1.To)] [(hU (List.map zB.toD r.2.1) r.2.2.1 r.2.2.2.1), (hM r.2.2.2.2.1 r.2.2.2.2.2.1 r.2.2.2.2.2.2.1 (List.map zD.toD r.2.2.2.2.2.2.2.1) r.2.2.2.2.2.2.2.2.1 r.2.2.2.2.2.2.2.2.2)] := by
  unfold yL at h
  refine yJ 1000 (by kernel_rfl) (by kernel_rfl) (by kernel_rfl) (by kernel_rfl) (by kernel_rfl) (z5t _ _ _ _ t at_ e K N S L From To) ?_
  rintro _ rfl
  refine vZ beq_iff_eq h (fun _ h => ?_) (fun _ h => ?_)
  ·
    obtain ⟨q1, g, h⟩ := zC h
    refine ⟨_, _, _, _, _, _, _, _, ⟨_, y1r _ _ _ g⟩, ?_⟩
    cases h; exact ⟨rfl, rfl⟩
  cases h; exact ⟨rfl, rfl⟩
theorem z7J (t : List zB) (at_ e K N : Int) (S : Str) (L : List zD) (From To : Int) (r : Bool × List zB × Int × Int × Int × Int × Str × List zD × Int × Int) (h : z1A t at_ e K N S L From To = some r) : Trip Try.prog 49 [.hp 0 0] [(hU (List.map zB.toD t) at_ e), (hM K N S (List.map zD.toD L) From To)] [(nB r.1)] [(hU (List.map zB.toD r.2.1) r.2.2.1 r.2.2.2.1), (hM r.2.2.2.2.1 r.2.2.2.2.2.1 r.2.2.2.2.2.2.1 (List.map zD.toD r.2.2.2.2.2.2.2.1) r.2.2.2.2.2.2.2.2.1 r.2.2.2.2.2.2.2.2.2)] := by
  unfold z1A at h
  refine yJ 1000 (by kernel_rfl) (by kernel_rfl) (by kernel_rfl) (by kernel_rfl) (by kernel_rfl) (z7Y _ _ _ _ t at_ e K N S L From To) ?_
  obtain ⟨q1, g, h⟩ := zC h
  refine ⟨_, _, _, _, _, _, _, _, _, _, z1S _ _ _ _ _ _ _ _ _ _ _ _ g, ?_⟩
  cases h; exact ⟨rfl, rfl⟩
theorem z3m (t : List zB) (at_ e K N : Int) (S : Str) (L : List zD) (From To : Int) (r : zD × List zB × Int × Int × Int × Int × Str × List zD × Int × Int) (h : jW t at_ e K N S L From To = some r) : Trip Try.prog 45 [.hp 0 0] [(hU (List.map zB.toD t) at_ e), (hM K N S (List.map zD.toD L) From To)] [.d (gT r.1.K r.1.N r.1.S (List.map zD.toD r.1.L) r.1.From r.1.To)] [(hU (List.map zB.toD r.2.1) r.2.2.1 r.2.2.2.1), (hM r.2.2.2.2.1 r.2.2.2.2.2.1 r.2.2.2.2.2.2.1 (List.map zD.toD r.2.2.2.2.2.2.2.1) r.2.2.2.2.2.2.2.2.1 r.2.2.2.2.2.2.2.2.2)] := by
  unfold jW at h
  refine yJ 1000 (by kernel_rfl) (by kernel_rfl) (by kernel_rfl) (by kernel_rfl) (by kernel_rfl) (z9v _ _ _ _ t at_ e K N S L From To) ?_
  obtain ⟨q1, g, h⟩ := zC h
  refine ⟨_, _, _, _, _, _, _, _, _, _, z0y _ _ _ _ _ _ _ _ _ _ g, ?_⟩
  obtain ⟨q2, g, h⟩ := zC h
  refine ⟨_, _, _, _, _, _, _, _, _, vX _ _ _ _ _ _ _ _ _ _ _ _ g, ?_⟩
  obtain ⟨q3, g, h⟩ := zC h
  refine ⟨_, _, _, _, _, _, _, _, _, _, _, _, _, _, _, z0z _ _ _ _ _ _ _ _ _ _ g, ?_⟩
  obtain ⟨q4, g, h⟩ := zC h
  have hT := gF _ _ _ _ _ _ _ _ _ _ _ _ _ _ _ g
  simp only [List.map_cons, List.map_nil, zD.toD_eq] at hT
  refine ⟨_, _, _, _, _, _, hT, ?_⟩
  cases h; exact ⟨rfl, rfl⟩
def uF : (i : wD) → uH i → Prop
  | .zF out t at_ e K N S L From To, r => Ok (uT (Trip Try.prog) [.d (.sl (List.map zD.toD r.1))] [(hU (List.map zB.toD r.2.1) r.2.2.1 r.2.2.2.1), (hM r.2.2.2.2.1 r.2.2.2.2.2.1 r.2.2.2.2.2.2.1 (List.map zD.toD r.2.2.2.2.2.2.2.1) r.2.2.2.2.2.2.2.2.1 r.2.2.2.2.2.2.2.2.2)]) (kL Try.f33 2) ⟨26, [(0, .hp 0 0), (1, .fn 45 [.hp 0 0] []), (2, .fn 49 [.hp 0 0] []), (7, .right 10 1 6 (List.map zD.toD out))], [(10, 1, some (.tok 6 (List.length (List.map zD.toD out))))], [(hU (List.map zB.toD t) at_ e), (hM K N S (List.map zD.toD L) From To)], 0⟩
theorem z1h : ∀ i r, z2Z wB i = some r → uF i r := by
  refine jQ gR fun g ih i => ?_
  cases i with
  | zF out t at_ e K N S L From To =>
    have ih_unit_reader_list_reader_part_reader_comma_L2 := fun out t at_ e K N S L From To r h => ih (.zF out t at_ e K N S L From To) r h
    intro r h
    replace h : yF (fun out t at_ e K N S L From To => g (wD.zF out t at_ e K N S L From To)) out t at_ e K N S L From To = some r := h
    unfold yF at h
    refine z6L 1000 (z1l _ _ _ _ out t at_ e K N S L From To) ?_
    rintro _ rfl
    refine zI beq_iff_eq h (fun _ h => ?_) (fun _ h => ?_)
    ·
      obtain ⟨q1, g, h⟩ := zC h
      refine ⟨_, _, _, _, _, _, _, _, _, _, z7J _ _ _ _ _ _ _ _ _ _ g, ?_⟩
      refine zI Iff.rfl h (fun _ h => ?_) (fun _ h => ?_)
      ·
        obtain ⟨q2, g, h⟩ := zC h
        refine ⟨_, _, _, _, _, _, _, _, _, _, _, _, _, _, _, z3m _ _ _ _ _ _ _ _ _ _ g, ?_⟩
        refine ⟨by simp [uO, D.cells], ?_⟩
        refine ⟨by first | rfl | decide | simp only [List.length_map, List.length_cons, List.length_nil, List.map_append, List.length_append], ?_⟩
        obtain ⟨hP, h⟩ := z0q h
        refine ⟨by first | exact hP | simpa using hP, ?_⟩
        refine z1B (e' := List.map zD.toD (out ++ [q2.1])) (by first | rfl | simp only [List.map_append, List.map_cons, List.map_nil, List.map_take, List.map_drop, List.map_set, List.map_replicate, List.length_map, zD.toD_eq]) ?_
        exact ih_unit_reader_list_reader_part_reader_comma_L2 _ _ _ _ _ _ _ _ _ _ _ h
      cases h; exact ⟨rfl, rfl⟩
    cases h; exact ⟨rfl, rfl⟩
theorem z1j (out : List zD) (t : List zB) (at_ e K N : Int) (S : Str) (L : List zD) (From To : Int) (r : List zD × List zB × Int × Int × Int × Int × Str × List zD × Int × Int) (h : zF out t at_ e K N S L From To = some r) : uF (.zF out t at_ e K N S L From To) r := z1h (.zF out t at_ e K N S L From To) r h
theorem z1E (t : List zB) (at_ e K N : Int) (S : Str) (L : List zD) (From To : Int) (r : List zD × List zB × Int × Int × Int × Int × Str × List zD × Int × Int) (h : vW t at_ e K N S L From To = some r) : Trip Try.prog 33 [.hp 0 0, .fn 45 [.hp 0 0] [], .fn 49 [.hp 0 0] []] [(hU (List.map zB.toD t) at_ e), (hM K N S (List.map zD.toD L) From To)] [.d (.sl (List.map zD.toD r.1))] [(hU (List.map zB.toD r.2.1) r.2.2.1 r.2.2.2.1), (hM r.2.2.2.2.1 r.2.2.2.2.2.1 r.2.2.2.2.2.2.1 (List.map zD.toD r.2.2.2.2.2.2.2.1) r.2.2.2.2.2.2.2.2.1 r.2.2.2.2.2.2.2.2.2)] := by
  unfold vW at h
  refine yJ 1000 (by kernel_rfl) (by kernel_rfl) (by kernel_rfl) (by kernel_rfl) (by kernel_rfl) (z1G _ _ _ _ t at_ e K N S L From To) ?_
  obtain ⟨q1, g, h⟩ := zC h
  refine ⟨_, _, _, _, _, _, _, _, _, _, _, _, _, _, _, z3m _ _ _ _ _ _ _ _ _ _ g, ?_⟩
  have hT := z1j _ _ _ _ _ _ _ _ _ _ _ h
  unfold uF at hT; dsimp only at hT
  simp only [List.map_cons, List.map_nil, List.length_cons, List.length_nil, zD.toD_eq] at hT
  exact hT
theorem z4n (t : List zB) (at_ e K N : Int) (S : Str) (L : List zD) (From To : Int) (r : zD × List zB × Int × Int × Int × Int × Str × List zD × Int × Int) (h : wJ t at_ e K N S L From To = some r) : Trip Try.prog 41 [.hp 0 0] [(hU (List.map zB.toD t) at_ e), (hM K N S (List.map zD.toD L) From To)] [.d (gT r.1.K r.1.N r.1.S (List.map zD.toD r.1.L) r.1.From r.1.To)] [(hU (List.map zB.toD r.2.1) r.2.2.1 r.2.2.2.1), (hM r.2.2.2.2.1 r.2.2.2.2.2.1 r.2.2.2.2.2.2.1 (List.map zD.toD r.2.2.2.2.2.2.2.1) r.2.2.2.2.2.2.2.2.1 r.2.2.2.2.2.2.2.2.2)] := by
  unfold wJ at h
  refine yJ 1000 (by kernel_rfl) (by kernel_rfl) (by kernel_rfl) (by kernel_rfl) (by kernel_rfl) (z7v _ _ _ _ t at_ e K N S L From To) ?_
  obtain ⟨q1, g, h⟩ := zC h
  refine ⟨_, _, _, _, _, _, _, _, _, vX _ _ _ _ _ _ _ _ _ _ _ _ g, ?_⟩
  obtain ⟨q2, g, h⟩ := zC h
  refine ⟨_, _, _, _, _, _, _, _, _, _, z1S _ _ _ _ _ _ _ _ _ _ _ _ g, ?_⟩
  refine zI Iff.rfl h (fun _ h => ?_) (fun _ h => ?_)
  ·
    obtain ⟨q3, g, h⟩ := zC h
    refine ⟨_, _, _, _, _, _, gF _ _ _ _ _ _ _ _ _ _ _ _ _ _ _ g, ?_⟩
    cases h; exact ⟨rfl, rfl⟩
  obtain ⟨q4, g, h⟩ := zC h
  refine ⟨_, _, _, _, _, _, _, _, _, _, z1E _ _ _ _ _ _ _ _ _ _ g, ?_⟩
  obtain ⟨q5, g, h⟩ := zC h
  refine ⟨_, _, _, _, _, _, _, _, _, vX _ _ _ _ _ _ _ _ _ _ _ _ g, ?_⟩
  obtain ⟨q6, g, h⟩ := zC h
  refine ⟨_, _, _, _, _, _, gF _ _ _ _ _ _ _ _ _ _ _ _ _ _ _ g, ?_⟩
  cases h; exact ⟨rfl, rfl⟩
theorem z3F (t : List zB) (at_ e K N : Int) (S : Str) (L : List zD) (From To : Int) (r : zD × List zB × Int × Int × Int × Int × Str × List zD × Int × Int) (h : uI t at_ e K N S L From To = some r) : Trip Try.prog 20 [.hp 0 0] [(hU (List.map zB.toD t) at_ e), (hM K N S (List.map zD.toD L) From To)] [.d (gT r.1.K r.1.N r.1.S (List.map zD.toD r.1.L) r.1.From r.1.To)] [(hU (List.map zB.toD r.2.1) r.2.2.1 r.2.2.2.1), (hM r.2.2.2.2.1 r.2.2.2.2.2.1 r.2.2.2.2.2.2.1 (List.map zD.toD r.2.2.2.2.2.2.2.1) r.2.2.2.2.2.2.2.2.1 r.2.2.2.2.2.2.2.2.2)] := by
  unfold uI at h
  refine yJ 1000 (by kernel_rfl) (by kernel_rfl) (by kernel_rfl) (by kernel_rfl) (by kernel_rfl) (z6h _ _ _ _ t at_ e K N S L From To) ?_
  obtain ⟨q1, g, h⟩ := zC h
  refine ⟨_, _, _, _, _, _, _, _, _, _, z1S _ _ _ _ _ _ _ _ _ _ _ _ g, ?_⟩
  refine zI Iff.rfl h (fun _ h => ?_) (fun _ h => ?_)
  ·
    obtain ⟨q2, g, h⟩ := zC h
    refine ⟨_, _, _, _, _, _, _, _, _, vX _ _ _ _ _ _ _ _ _ _ _ _ g, ?_⟩
    obtain ⟨q3, g, h⟩ := zC h
    refine ⟨_, _, _, _, _, _, _, _, _, _, z0y _ _ _ _ _ _ _ _ _ _ g, ?_⟩
    obtain ⟨q4, g, h⟩ := zC h
    refine ⟨_, _, _, _, _, _, _, _, _, _, _, _, _, _, _, z4n _ _ _ _ _ _ _ _ _ _ g, ?_⟩
    obtain ⟨q5, g, h⟩ := zC h
    refine ⟨_, _, _, _, _, _, _, _, _, vX _ _ _ _ _ _ _ _ _ _ _ _ g, ?_⟩
    obtain ⟨q6, g, h⟩ := zC h
    refine ⟨_, _, _, _, _, _, _, _, _, _, _, _, _, _, _, z0z _ _ _ _ _ _ _ _ _ _ g, ?_⟩
    obtain ⟨q7, g, h⟩ := zC h
    refine ⟨_, _, _, _, _, _, _, _, _, _, _, _, _, _, _, z2y _ _ _ _ _ _ _ _ _ _ g, ?_⟩
    obtain ⟨q8, g, h⟩ := zC h
    have hT := gF _ _ _ _ _ _ _ _ _ _ _ _ _ _ _ g
    simp only [List.map_cons, List.map_nil, zD.toD_eq] at hT
    refine ⟨_, _, _, _, _, _, hT, ?_⟩
    cases h; exact ⟨rfl, rfl⟩
  obtain ⟨q9, g, h⟩ := zC h
  refine ⟨_, _, _, _, _, _, _, _, _, vX _ _ _ _ _ _ _ _ _ _ _ _ g, ?_⟩
  obtain ⟨q10, g, h⟩ := zC h
  refine ⟨_, _, _, _, _, _, _, _, _, _, z0y _ _ _ _ _ _ _ _ _ _ g, ?_⟩
  obtain ⟨q11, g, h⟩ := zC h
  refine ⟨_, _, _, _, _, _, _, _, _, _, _, _, _, _, _, z4n _ _ _ _ _ _ _ _ _ _ g, ?_⟩
  obtain ⟨q12, g, h⟩ := zC h
  refine ⟨_, _, _, _, _, _, _, _, _, vX _ _ _ _ _ _ _ _ _ _ _ _ g, ?_⟩
  obtain ⟨q13, g, h⟩ := zC h
  refine ⟨_, _, _, _, _, _, _, _, _, _, _, _, _, _, _, z0z _ _ _ _ _ _ _ _ _ _ g, ?_⟩
  obtain ⟨q14, g, h⟩ := zC h
  refine ⟨_, _, _, _, _, _, _, _, _, _, _, _, _, _, _, z2y _ _ _ _ _ _ _ _ _ _ g, ?_⟩
  obtain ⟨q15, g, h⟩ := zC h
  have hT := gF _ _ _ _ _ _ _ _ _ _ _ _ _ _ _ g
  simp only [List.map_cons, List.map_nil, zD.toD_eq] at hT
  refine ⟨_, _, _, _, _, _, hT, ?_⟩
  cases h; exact ⟨rfl, rfl⟩
theorem z7h (t : List zB) (at_ e K N : Int) (S : Str) (L : List zD) (From To : Int) (r : zD × List zB × Int × Int × Int × Int × Str × List zD × Int × Int) (h : uN t at_ e K N S L From To = some r) : Trip Try.prog 19 [.hp 0 0] [(hU (List.map zB.toD t) at_ e), (hM K N S (List.map zD.toD L) From To)] [.d (gT r.1.K r.1.N r.1.S (List.map zD.toD r.1.L) r.1.From r.1.To)] [(hU (List.map zB.toD r.2.1) r.2.2.1 r.2.2.2.1), (hM r.2.2.2.2.1 r.2.2.2.2.2.1 r.2.2.2.2.2.2.1 (List.map zD.toD r.2.2.2.2.2.2.2.1) r.2.2.2.2.2.2.2.2.1 r.2.2.2.2.2.2.2.2.2)] := by
  unfold uN at h
  refine yJ 1000 (by kernel_rfl) (by kernel_rfl) (by kernel_rfl) (by kernel_rfl) (by kernel_rfl) (z7u _ _ _ _ t at_ e K N S L From To) ?_
  rintro _ rfl
  obtain ⟨q1, g, h⟩ := zC h
  refine ⟨_, _, _, _, _, _, _, _, _, _, z0y _ _ _ _ _ _ _ _ _ _ g, ?_⟩
  obtain ⟨q2, g, h⟩ := zC h
  refine ⟨_, _, _, _, _, _, _, _, _, vX _ _ _ _ _ _ _ _ _ _ _ _ g, ?_⟩
  obtain ⟨q3, g, h⟩ := zC h
  refine ⟨_, _, _, _, _, _, _, _, _, _, _, _, _, _, _, z0z _ _ _ _ _ _ _ _ _ _ g, ?_⟩
  obtain ⟨q4, g, h⟩ := zC h
  refine ⟨_, _, _, _, _, _, _, _, _, vX _ _ _ _ _ _ _ _ _ _ _ _ g, ?_⟩
  obtain ⟨q5, g, h⟩ := zC h
  have hT := gF _ _ _ _ _ _ _ _ _ _ _ _ _ _ _ g
  simp only [List.map_cons, List.map_nil, zD.toD_eq] at hT
  refine ⟨_, _, _, _, _, _, hT, ?_⟩
  cases h; exact ⟨rfl, rfl⟩
theorem z4z (t : List zB) (at_ e K N : Int) (S : Str) (L : List zD) (From To : Int) (r : zD × List zB × Int × Int × Int × Int × Str × List zD × Int × Int) (h : gB t at_ e K N S L From To = some r) : Trip Try.prog 34 [.hp 0 0] [(hU (List.map zB.toD t) at_ e), (hM K N S (List.map zD.toD L) From To)] [.d (gT r.1.K r.1.N r.1.S (List.map zD.toD r.1.L) r.1.From r.1.To)] [(hU (List.map zB.toD r.2.1) r.2.2.1 r.2.2.2.1), (hM r.2.2.2.2.1 r.2.2.2.2.2.1 r.2.2.2.2.2.2.1 (List.map zD.toD r.2.2.2.2.2.2.2.1) r.2.2.2.2.2.2.2.2.1 r.2.2.2.2.2.2.2.2.2)] := by
  unfold gB at h
  refine yJ 1000 (by kernel_rfl) (by kernel_rfl) (by kernel_rfl) (by kernel_rfl) (by kernel_rfl) (z7Z _ _ _ _ t at_ e K N S L From To) ?_
  obtain ⟨q1, g, h⟩ := zC h
  refine ⟨_, _, _, _, _, _, _, _, _, _, _, _, _, _, _, z3m _ _ _ _ _ _ _ _ _ _ g, ?_⟩
  obtain ⟨q2, g, h⟩ := zC h
  refine ⟨_, _, _, _, _, _, _, _, _, vX _ _ _ _ _ _ _ _ _ _ _ _ g, ?_⟩
  cases h; exact ⟨rfl, rfl⟩
theorem z8r (t : List zB) (at_ e K N : Int) (S : Str) (L : List zD) (From To : Int) (r : Bool) (h : z1M t at_ e K N S L From To = some r) : Trip Try.prog 35 [.hp 0 0] [(hU (List.map zB.toD t) at_ e), (hM K N S (List.map zD.toD L) From To)] [(nB r)] [(hU (List.map zB.toD t) at_ e), (hM K N S (List.map zD.toD L) From To)] := by
  unfold z1M at h
  refine yJ 1000 (by kernel_rfl) (by kernel_rfl) (by kernel_rfl) (by kernel_rfl) (by kernel_rfl) (z9u _ _ _ _ t at_ e K N S L From To) ?_
  obtain ⟨q1, g, h⟩ := zC h
  refine ⟨_, gL _ _ _ _ _ _ _ _ _ _ _ _ g, ?_⟩
  cases h; exact ⟨rfl, rfl⟩
def uE : (i : wC) → uG i → Prop
  | .zE out t at_ e K N S L From To, r => Ok (uS (Trip Try.prog) [.d (.sl (List.map zD.toD r.1))] [(hU (List.map zB.toD r.2.1) r.2.2.1 r.2.2.2.1), (hM r.2.2.2.2.1 r.2.2.2.2.2.1 r.2.2.2.2.2.2.1 (List.map zD.toD r.2.2.2.2.2.2.2.1) r.2.2.2.2.2.2.2.2.1 r.2.2.2.2.2.2.2.2.2)]) (kL Try.f33 2) ⟨26, [(0, .hp 0 0), (1, .fn 34 [.hp 0 0] []), (2, .fn 35 [.hp 0 0] []), (7, .right 10 1 6 (List.map zD.toD out))], [(10, 1, some (.tok 6 (List.length (List.map zD.toD out))))], [(hU (List.map zB.toD t) at_ e), (hM K N S (List.map zD.toD L) From To)], 0⟩
theorem z1g : ∀ i r, z2Z wA i = some r → uE i r := by
  refine jQ gQ fun g ih i => ?_
  cases i with
  | zE out t at_ e K N S L From To =>
    have ih_unit_reader_list_reader_field_reader_open_L2 := fun out t at_ e K N S L From To r h => ih (.zE out t at_ e K N S L From To) r h
    intro r h
    replace h : yE (fun out t at_ e K N S L From To => g (wC.zE out t at_ e K N S L From To)) out t at_ e K N S L From To = some r := h
    unfold yE at h
    refine z6L 1000 (z1k _ _ _ _ out t at_ e K N S L From To) ?_
    rintro _ rfl
    refine zI beq_iff_eq h (fun _ h => ?_) (fun _ h => ?_)
    ·
      obtain ⟨q1, g, h⟩ := zC h
      refine ⟨_, z8r _ _ _ _ _ _ _ _ _ _ g, ?_⟩
      refine zI Iff.rfl h (fun _ h => ?_) (fun _ h => ?_)
      ·
        obtain ⟨q2, g, h⟩ := zC h
        refine ⟨_, _, _, _, _, _, _, _, _, _, _, _, _, _, _, z4z _ _ _ _ _ _ _ _ _ _ g, ?_⟩
        refine ⟨by simp [uO, D.cells], ?_⟩
        refine ⟨by first | rfl | decide | simp only [List.length_map, List.length_cons, List.length_nil, List.map_append, List.length_append], ?_⟩
        obtain ⟨hP, h⟩ := z0q h
        refine ⟨by first | exact hP | simpa using hP, ?_⟩
        refine z1B (e' := List.map zD.toD (out ++ [q2.1])) (by first | rfl | simp only [List.map_append, List.map_cons, List.map_nil, List.map_take, List.map_drop, List.map_set, List.map_replicate, List.length_map, zD.toD_eq]) ?_
        exact ih_unit_reader_list_reader_field_reader_open_L2 _ _ _ _ _ _ _ _ _ _ _ h
      cases h; exact ⟨rfl, rfl⟩
    cases h; exact ⟨rfl, rfl⟩
theorem z1i (out : List zD) (t : List zB) (at_ e K N : Int) (S : Str) (L : List zD) (From To : Int) (r : List zD × List zB × Int × Int × Int × Int × Str × List zD × Int × Int) (h : zE out t at_ e K N S L From To = some r) : uE (.zE out t at_ e K N S L From To) r := z1g (.zE out t at_ e K N S L From To) r h
theorem z1D (t : List zB) (at_ e K N : Int) (S : Str) (L : List zD) (From To : Int) (r : List zD × List zB × Int × Int × Int × Int × Str × List zD × Int × Int) (h : vV t at_ e K N S L From To = some r) : Trip Try.prog 33 [.hp 0 0, .fn 34 [.hp 0 0] [], .fn 35 [.hp 0 0] []] [(hU (List.map zB.toD t) at_ e), (hM K N S (List.map zD.toD L) From To)] [.d (.sl (List.map zD.toD r.1))] [(hU (List.map zB.toD r.2.1) r.2.2.1 r.2.2.2.1), (hM r.2.2.2.2.1 r.2.2.2.2.2.1 r.2.2.2.2.2.2.1 (List.map zD.toD r.2.2.2.2.2.2.2.1) r.2.2.2.2.2.2.2.2.1 r.2.2.2.2.2.2.2.2.2)] := by
  unfold vV at h
  refine yJ 1000 (by kernel_rfl) (by kernel_rfl) (by kernel_rfl) (by kernel_rfl) (by kernel_rfl) (z1F _ _ _ _ t at_ e K N S L From To) ?_
  obtain ⟨q1, g, h⟩ := zC h
  refine ⟨_, _, _, _, _, _, _, _, _, _, _, _, _, _, _, z4z _ _ _ _ _ _ _ _ _ _ g, ?_⟩
  have hT := z1i _ _ _ _ _ _ _ _ _ _ _ h
  unfold uE at hT; dsimp only at hT
  simp only [List.map_cons, List.map_nil, List.length_cons, List.length_nil, zD.toD_eq] at hT
  exact hT
theorem z7i (t : List zB) (at_ e K N : Int) (S : Str) (L : List zD) (From To : Int) (r : zD × List zB × Int × Int × Int × Int × Str × List zD × Int × Int) (h : gI t at_ e K N S L From To = some r) : Trip Try.prog 17 [.hp 0 0] [(hU (List.map zB.toD t) at_ e), (hM K N S (List.map zD.toD L) From To)] [.d (gT r.1.K r.1.N r.1.S (List.map zD.toD r.1.L) r.1.From r.1.To)] [(hU (List.map zB.toD r.2.1) r.2.2.1 r.2.2.2.1), (hM r.2.2.2.2.1 r.2.2.2.2.2.1 r.2.2.2.2.2.2.1 (List.map zD.toD r.2.2.2.2.2.2.2.1) r.2.2.2.2.2.2.2.2.1 r.2.2.2.2.2.2.2.2.2)] := by
  unfold gI at h
  refine yJ 1000 (by kernel_rfl) (by kernel_rfl) (by kernel_rfl) (by kernel_rfl) (by kernel_rfl) (z7w _ _ _ _ t at_ e K N S L From To) ?_
  rintro _ rfl
  obtain ⟨q1, g, h⟩ := zC h
  refine ⟨_, _, _, _, _, _, _, _, _, _, z0y _ _ _ _ _ _ _ _ _ _ g, ?_⟩
  obtain ⟨q2, g, h⟩ := zC h
  refine ⟨_, _, _, _, _, _, _, _, _, vX _ _ _ _ _ _ _ _ _ _ _ _ g, ?_⟩
  obtain ⟨q3, g, h⟩ := zC h
  refine ⟨_, _, _, _, _, _, _, _, _, _, z1D _ _ _ _ _ _ _ _ _ _ g, ?_⟩
  obtain ⟨q4, g, h⟩ := zC h
  refine ⟨_, _, _, _, _, _, _, _, _, vX _ _ _ _ _ _ _ _ _ _ _ _ g, ?_⟩
  obtain ⟨q5, g, h⟩ := zC h
  refine ⟨_, _, _, _, _, _, gF _ _ _ _ _ _ _ _ _ _ _ _ _ _ _ g, ?_⟩
  cases h; exact ⟨rfl, rfl⟩
theorem z8q (t : List zB) (at_ e K N : Int) (S : Str) (L : List zD) (From To : Int) (r : zD × List zB × Int × Int × Int × Int × Str × List zD × Int × Int) (h : jV t at_ e K N S L From To = some r) : Trip Try.prog 11 [.hp 0 0] [(hU (List.map zB.toD t) at_ e), (hM K N S (List.map zD.toD L) From To)] [.d (gT r.1.K r.1.N r.1.S (List.map zD.toD r.1.L) r.1.From r.1.To)] [(hU (List.map zB.toD r.2.1) r.2.2.1 r.2.2.2.1), (hM r.2.2.2.2.1 r.2.2.2.2.2.1 r.2.2.2.2.2.2.1 (List.map zD.toD r.2.2.2.2.2.2.2.1) r.2.2.2.2.2.2.2.2.1 r.2.2.2.2.2.2.2.2.2)] := by
  unfold jV at h
  refine yJ 1000 (by kernel_rfl) (by kernel_rfl) (by kernel_rfl) (by kernel_rfl) (by kernel_rfl) (z9q _ _ _ _ t at_ e K N S L From To) ?_
  obtain ⟨q1, g, h⟩ := zC h
  refine ⟨_, gL _ _ _ _ _ _ _ _ _ _ _ _ g, ?_⟩
  refine zI Iff.rfl h (fun _ h => ?_) (fun _ h => ?_)
  ·
    obtain ⟨q2, g, h⟩ := zC h
    refine ⟨_, _, _, _, _, _, _, _, _, _, _, _, _, _, _, z7i _ _ _ _ _ _ _ _ _ _ g, ?_⟩
    cases h; exact ⟨rfl, rfl⟩
  obtain ⟨q3, g, h⟩ := zC h
  refine ⟨_, gL _ _ _ _ _ _ _ _ _ _ _ _ g, ?_⟩
  refine zI Iff.rfl h (fun _ h => ?_) (fun _ h => ?_)
  ·
    obtain ⟨q4, g, h⟩ := zC h
    refine ⟨_, _, _, _, _, _, _, _, _, _, _, _, _, _, _, z7g _ _ _ _ _ _ _ _ _ _ g, ?_⟩
    cases h; exact ⟨rfl, rfl⟩
  obtain ⟨q5, g, h⟩ := zC h
  refine ⟨_, gL _ _ _ _ _ _ _ _ _ _ _ _ g, ?_⟩
  refine zI Iff.rfl h (fun _ h => ?_) (fun _ h => ?_)
  ·
    obtain ⟨q6, g, h⟩ := zC h
    refine ⟨_, _, _, _, _, _, _, _, _, _, _, _, _, _, _, z7h _ _ _ _ _ _ _ _ _ _ g, ?_⟩
    cases h; exact ⟨rfl, rfl⟩
  obtain ⟨q7, g, h⟩ := zC h
  refine ⟨_, gL _ _ _ _ _ _ _ _ _ _ _ _ g, ?_⟩
  refine zI Iff.rfl h (fun hc207 h => ?_) (fun hc207 h => ?_)
  ·
    refine uP Iff.rfl hc207 ?_
    obtain ⟨q8, g, h⟩ := zC h
    refine ⟨_, _, _, _, _, _, _, _, _, _, _, _, _, _, _, z3F _ _ _ _ _ _ _ _ _ _ g, ?_⟩
    cases h; exact ⟨rfl, rfl⟩
  obtain ⟨q9, g, h⟩ := zC h
  refine ⟨_, gL _ _ _ _ _ _ _ _ _ _ _ _ g, ?_⟩
  refine zI Iff.rfl h (fun _ h => ?_) (fun _ h => ?_)
  ·
    obtain ⟨q10, g, h⟩ := zC h
    refine ⟨_, _, _, _, _, _, _, _, _, _, _, _, _, _, _, z3F _ _ _ _ _ _ _ _ _ _ g, ?_⟩
    cases h; exact ⟨rfl, rfl⟩
  cases h; exact ⟨rfl, rfl⟩
def z6n : (i : z3f) → z4y i → Prop
  | .yZ o2 t at_ e K N S L From To, r => Ok (z6y (Trip Try.prog) [.d (gT r.1.K r.1.N r.1.S (List.map zD.toD r.1.L) r.1.From r.1.To), (nI r.2.1), (nI r.2.2)] []) (kL Try.f6 6) ⟨79, [(2, .ref 2 1 0), (8, .hp 0 0), (9, .hp 1 0)], [(2, 1, some (.agg (gT o2.K o2.N o2.S (List.map zD.toD o2.L) o2.From o2.To)))], [(hU (List.map zB.toD t) at_ e), (hM K N S (List.map zD.toD L) From To)], 0⟩
theorem y1p : ∀ i r, z2Z z3b i = some r → z6n i r := by
  refine jQ z6k fun g ih i => ?_
  cases i with
  | yZ o2 t at_ e K N S L From To =>
    have ih_unit_Parse_L6 := fun o2 t at_ e K N S L From To r h => ih (.yZ o2 t at_ e K N S L From To) r h
    intro r h
    replace h : gJ (fun o2 t at_ e K N S L From To => g (z3f.yZ o2 t at_ e K N S L From To)) o2 t at_ e K N S L From To = some r := h
    unfold gJ at h
    refine z6L 1000 (y1M _ _ _ _ o2 t at_ e K N S L From To) ?_
    obtain ⟨x, hx, h⟩ := zC h
    refine ⟨z0U (l := t) (zB.sz), z6Q hx, x.K, x.N, x.S, x.From, x.To, z4b (zB.toD_eq x) hx, ?_⟩
    rintro _ rfl
    refine vZ beq_iff_eq h (fun _ h => ?_) (fun _ h => ?_)
    ·
      refine z1B (e' := (List.length L : Int)) (by first | rfl | rw [List.length_map]) ?_
      rintro _ rfl
      refine zI decide_eq_true_iff h (fun _ h => ?_) (fun _ h => ?_)
      ·
        cases h; exact ⟨rfl, rfl⟩
      obtain ⟨q2, g, h⟩ := zC h
      refine ⟨_, ⟨_, y4d _ _ g⟩, ?_⟩
      rintro _ rfl
      refine zI decide_eq_true_iff h (fun _ h => ?_) (fun _ h => ?_)
      ·
        cases h; exact ⟨rfl, rfl⟩
      cases h; exact ⟨rfl, rfl⟩
    obtain ⟨q1, g, h⟩ := zC h
    refine ⟨_, _, _, _, _, _, _, _, _, _, _, _, _, _, _, z8q _ _ _ _ _ _ _ _ _ _ g, ?_⟩
    rintro _ rfl
    refine vZ beq_iff_eq h (fun _ h => ?_) (fun _ h => ?_)
    ·
      refine ⟨by simp [uO, D.cells], ?_⟩
      refine ⟨by first | rfl | decide | simp only [List.length_map, List.length_cons, List.length_nil, List.map_append, List.length_append], ?_⟩
      obtain ⟨hP, h⟩ := z0q h
      refine ⟨by first | exact hP | simpa using hP, ?_⟩
      refine z1B (e' := List.map zD.toD (q1.2.2.2.2.2.2.2.1 ++ [q1.1])) (by first | rfl | simp only [List.map_append, List.map_cons, List.map_nil, List.map_take, List.map_drop, List.map_set, List.map_replicate, List.length_map, zD.toD_eq]) ?_
      refine ⟨by first | rfl | decide | simp only [List.length_map, List.length_cons, List.length_nil, List.map_append, List.length_append], ?_⟩
      exact ih_unit_Parse_L6 _ _ _ _ _ _ _ _ _ _ _ h
    obtain ⟨x1, hx, h⟩ := zC h
    refine ⟨z0U (l := q1.2.1) (zB.sz), z6Q hx, x1.K, x1.N, x1.S, x1.From, x1.To, z4b (zB.toD_eq x1) hx, ?_⟩
    cases h; exact ⟨rfl, rfl⟩
theorem y1u (o2 : zD) (t : List zB) (at_ e K N : Int) (S : Str) (L : List zD) (From To : Int) (r : zD × Int × Int) (h : yZ o2 t at_ e K N S L From To = some r) : z6n (.yZ o2 t at_ e K N S L From To) r := y1p (.yZ o2 t at_ e K N S L From To) r h
theorem z4P (text : Str) (r : zD × Int × Int) (h : z1z text = some r) : Trip Try.prog 6 [(nS text)] [] [.d (gT r.1.K r.1.N r.1.S (List.map zD.toD r.1.L) r.1.From r.1.To), (nI r.2.1), (nI r.2.2)] [] := by
  unfold z1z at h
  refine yJ 1000 (by kernel_rfl) (by kernel_rfl) (by kernel_rfl) (by kernel_rfl) (by kernel_rfl) (y4C _ _ _ _ text) ?_
  obtain ⟨q1, g, h⟩ := zC h
  refine ⟨_, _, _, ⟨_, y3Z _ _ g⟩, ?_⟩
  rintro _ rfl
  refine vZ beq_iff_eq h (fun _ h => ?_) (fun _ h => ?_)
  ·
    rintro _ rfl
    exact y1u _ _ _ _ _ _ _ _ _ _ _ h
  cases h; exact ⟨rfl, rfl⟩
theorem z2P  (r : Bool) (h : z1N = some r) : Trip Try.prog 5 [] [] [(nB r)] [] := by
  unfold z1N at h
  refine yJ 1000 (by kernel_rfl) (by kernel_rfl) (by kernel_rfl) (by kernel_rfl) (by kernel_rfl) (y4v _ _ _ _ ) ?_
  obtain ⟨q1, g, h⟩ := zC h
  refine ⟨_, _, _, _, _, _, _, _, ⟨_, z4P _ _ g⟩, ?_⟩
  rintro _ rfl
  refine zI beq_iff_eq h (fun _ h => ?_) (fun _ h => ?_)
  ·
    rintro _ rfl
    refine zI beq_iff_eq h (fun _ h => ?_) (fun _ h => ?_)
    ·
      refine z1B (e' := (List.length q1.1.L : Int)) (by first | rfl | rw [List.length_map]) ?_
      rintro _ rfl
      refine zI beq_iff_eq h (fun _ h => ?_) (fun _ h => ?_)
      ·
        obtain ⟨x, hx, h⟩ := zC h
        refine ⟨z0U (l := q1.1.L) (zD.sz), z6Q hx, x.K, x.N, x.S, List.map zD.toD x.L, x.From, x.To, z4b (zD.toD_eq x) hx, ?_⟩
        rintro _ rfl
        cases h; exact ⟨rfl, rfl⟩
      cases h; exact ⟨rfl, rfl⟩
    cases h; exact ⟨rfl, rfl⟩
  cases h; exact ⟨rfl, rfl⟩
def z8j : (i : z1a) → z5N i → Prop
  | .wO a b, r => Trip Try.prog 7 [.d (gT a.K a.N a.S (List.map zD.toD a.L) a.From a.To), .d (gT b.K b.N b.S (List.map zD.toD b.L) b.From b.To)] [] [(nB r)] []
  | .vK i a b, r => Ok (z5P (Trip Try.prog) [(nB r)] []) (kL Try.f7 4) ⟨67, [(2, .ref 2 1 0), (3, .ref 3 1 0), (5, (nI i))], [(2, 1, some (.agg (gT a.K a.N a.S (List.map zD.toD a.L) a.From a.To))), (3, 1, some (.agg (gT b.K b.N b.S (List.map zD.toD b.L) b.From b.To)))], [], 0⟩
theorem y3k : ∀ i r, z2Z z2i i = some r → z8j i r := by
  refine jQ z5M fun g ih i => ?_
  cases i with
  | wO a b =>
    have ih_ref06Placed_L4 := fun i a b r h => ih (.vK i a b) r h
    intro r h
    replace h : z2o (fun i a b => g (z1a.vK i a b)) a b = some r := h
    unfold z2o at h
    refine yJ 1000 (by kernel_rfl) (by kernel_rfl) (by kernel_rfl) (by kernel_rfl) (by kernel_rfl) (y3r _ _ _ _ a b) ?_
    rintro _ rfl
    refine vZ beq_iff_eq h (fun _ h => ?_) (fun _ h => ?_)
    ·
      rintro _ rfl
      refine vZ beq_iff_eq h (fun _ h => ?_) (fun _ h => ?_)
      ·
        rintro _ rfl
        refine vZ beq_iff_eq h (fun _ h => ?_) (fun _ h => ?_)
        ·
          rintro _ rfl
          refine vZ beq_iff_eq h (fun _ h => ?_) (fun _ h => ?_)
          ·
            rintro _ rfl
            refine vZ beq_iff_eq h (fun _ h => ?_) (fun _ h => ?_)
            ·
              refine z1B (e' := (List.length a.L : Int)) (by first | rfl | rw [List.length_map]) ?_
              refine z1B (e' := (List.length b.L : Int)) (by first | rfl | rw [List.length_map]) ?_
              rintro _ rfl
              refine vZ beq_iff_eq h (fun _ h => ?_) (fun _ h => ?_)
              ·
                exact ih_ref06Placed_L4 _ _ _ _ h
              cases h; exact ⟨rfl, rfl⟩
            cases h; exact ⟨rfl, rfl⟩
          cases h; exact ⟨rfl, rfl⟩
        cases h; exact ⟨rfl, rfl⟩
      cases h; exact ⟨rfl, rfl⟩
    cases h; exact ⟨rfl, rfl⟩
  | vK i a b =>
    have ih_ref06Placed := fun a b r h => ih (.wO a b) r h
    have ih_ref06Placed_L4 := fun i a b r h => ih (.vK i a b) r h
    intro r h
    replace h : z0B (fun a b => g (z1a.wO a b)) (fun i a b => g (z1a.vK i a b)) i a b = some r := h
    unfold z0B at h
    refine z6L 1000 (y0X _ _ _ _ i a b) ?_
    refine z1B (e' := (List.length a.L : Int)) (by first | rfl | rw [List.length_map]) ?_
    rintro _ rfl
    refine zI decide_eq_true_iff h (fun _ h => ?_) (fun _ h => ?_)
    ·
      obtain ⟨x, hx, h⟩ := zC h
      refine ⟨z0U (l := a.L) (zD.sz), z6Q hx, x.K, x.N, x.S, List.map zD.toD x.L, x.From, x.To, z4b (zD.toD_eq x) hx, ?_⟩
      obtain ⟨x1, hx, h⟩ := zC h
      refine ⟨z0U (l := b.L) (zD.sz), z6Q hx, x1.K, x1.N, x1.S, List.map zD.toD x1.L, x1.From, x1.To, z4b (zD.toD_eq x1) hx, ?_⟩
      obtain ⟨q1, g, h⟩ := zC h
      refine ⟨_, ⟨_, ih_ref06Placed _ _ _ g⟩, ?_⟩
      refine vZ Iff.rfl h (fun _ h => ?_) (fun _ h => ?_)
      ·
        rintro _ rfl
        exact ih_ref06Placed_L4 _ _ _ _ h
      cases h; exact ⟨rfl, rfl⟩
    cases h; exact ⟨rfl, rfl⟩
theorem z5O (a b : zD) (r : Bool) (h : wO a b = some r) : z8j (.wO a b) r := y3k (.wO a b) r h
def y0A : (i : z1C) → z6o i → Prop
  | .uR t by_, r => Trip Try.prog 8 [.d (gT t.K t.N t.S (List.map zD.toD t.L) t.From t.To), (nI by_)] [] [.d (gT r.K r.N r.S (List.map zD.toD r.L) r.From r.To)] []
  | .vS by_ out i t o4, r => Ok (z6x (Trip Try.prog) [.d (gT r.K r.N r.S (List.map zD.toD r.L) r.From r.To)] []) (kL Try.f8 3) ⟨41, [(1, (nI by_)), (2, .ref 2 1 0), (4, .ref 4 1 0), (5, .right 7 1 6 (List.map zD.toD out)), (6, (nI i))], [(2, 1, some (.agg (gT t.K t.N t.S (List.map zD.toD t.L) t.From t.To))), (4, 1, some (.agg (gT o4.K o4.N o4.S (List.map zD.toD o4.L) o4.From o4.To))), (7, 1, some (.tok 6 (List.length (List.map zD.toD out))))], [], 0⟩
theorem y3Y : ∀ i r, z2Z z2O i = some r → y0A i r := by
  refine jQ z6j fun g ih i => ?_
  cases i with
  | uR t by_ =>
    have ih_ref09Moved_L3 := fun by_ out i t o4 r h => ih (.vS by_ out i t o4) r h
    intro r h
    replace h : z2T (fun by_ out i t o4 => g (z1C.vS by_ out i t o4)) t by_ = some r := h
    unfold z2T at h
    refine yJ 1000 (by kernel_rfl) (by kernel_rfl) (by kernel_rfl) (by kernel_rfl) (by kernel_rfl) (y4z _ _ _ _ t by_) ?_
    exact ih_ref09Moved_L3 _ _ _ _ _ _ h
  | vS by_ out i t o4 =>
    have ih_ref09Moved := fun t by_ r h => ih (.uR t by_) r h
    have ih_ref09Moved_L3 := fun by_ out i t o4 r h => ih (.vS by_ out i t o4) r h
    intro r h
    replace h : z0K (fun t by_ => g (z1C.uR t by_)) (fun by_ out i t o4 => g (z1C.vS by_ out i t o4)) by_ out i t o4 = some r := h
    unfold z0K at h
    refine z6L 1000 (y1L _ _ _ _ by_ out i t o4) ?_
    refine z1B (e' := (List.length t.L : Int)) (by first | rfl | rw [List.length_map]) ?_
    rintro _ rfl
    refine zI decide_eq_true_iff h (fun _ h => ?_) (fun _ h => ?_)
    ·
      obtain ⟨x, hx, h⟩ := zC h
      refine ⟨z0U (l := t.L) (zD.sz), z6Q hx, x.K, x.N, x.S, List.map zD.toD x.L, x.From, x.To, z4b (zD.toD_eq x) hx, ?_⟩
      obtain ⟨q1, g, h⟩ := zC h
      refine ⟨_, _, _, _, _, _, ⟨_, ih_ref09Moved _ _ _ g⟩, ?_⟩
      refine ⟨by simp [uO, D.cells], ?_⟩
      refine ⟨by first | rfl | decide | simp only [List.length_map, List.length_cons, List.length_nil, List.map_append, List.length_append], ?_⟩
      obtain ⟨hP, h⟩ := z0q h
      refine ⟨by first | exact hP | simpa using hP, ?_⟩
      refine z1B (e' := List.map zD.toD (out ++ [q1])) (by first | rfl | simp only [List.map_append, List.map_cons, List.map_nil, List.map_take, List.map_drop, List.map_set, List.map_replicate, List.length_map, zD.toD_eq]) ?_
      rintro _ rfl
      exact ih_ref09Moved_L3 _ _ _ _ _ _ h
    rintro _ rfl
    rintro _ rfl
    cases h; exact ⟨rfl, rfl⟩
theorem y0B (t : zD) (by_ : Int) (r : zD) (h : uR t by_ = some r) : y0A (.uR t by_) r := y3Y (.uR t by_) r h
def z4l : (i : z1p) → z2s i → Prop
  | .yI a i x y z, r => Ok (z4c (Trip Try.prog) [(nB r)] []) (kL Try.f3 12) ⟨142, [(0, (nS a)), (5, .ref 5 1 0), (8, .ref 8 1 0), (12, .ref 12 1 0), (15, (nI i))], [(5, 1, some (.agg (gT x.K x.N x.S (List.map zD.toD x.L) x.From x.To))), (8, 1, some (.agg (gT y.K y.N y.S (List.map zD.toD y.L) y.From y.To))), (12, 1, some (.agg (gT z.K z.N z.S (List.map zD.toD z.L) z.From z.To)))], [], 0⟩
theorem z7c : ∀ i r, z2Z z1n i = some r → z4l i r := by
  refine jQ z4j fun g ih i => ?_
  cases i with
  | yI a i x y z =>
    have ih_law09UnitJoins_L12 := fun a i x y z r h => ih (.yI a i x y z) r h
    intro r h
    replace h : gD (fun a i x y z => g (z1p.yI a i x y z)) a i x y z = some r := h
    unfold gD at h
    refine z6L 1000 (z7p _ _ _ _ a i x y z) ?_
    refine z1B (e' := (List.length z.L : Int)) (by first | rfl | rw [List.length_map]) ?_
    rintro _ rfl
    refine zI decide_eq_true_iff h (fun _ h => ?_) (fun _ h => ?_)
    ·
      refine z1B (e' := (List.length x.L : Int)) (by first | rfl | rw [List.length_map]) ?_
      rintro _ rfl
      refine zI decide_eq_true_iff h (fun _ h => ?_) (fun _ h => ?_)
      ·
        obtain ⟨x1, hx, h⟩ := zC h
        refine ⟨z0U (l := z.L) (zD.sz), z6Q hx, x1.K, x1.N, x1.S, List.map zD.toD x1.L, x1.From, x1.To, z4b (zD.toD_eq x1) hx, ?_⟩
        obtain ⟨x2, hx, h⟩ := zC h
        refine ⟨z0U (l := x.L) (zD.sz), z6Q hx, x2.K, x2.N, x2.S, List.map zD.toD x2.L, x2.From, x2.To, z4b (zD.toD_eq x2) hx, ?_⟩
        obtain ⟨q1, g, h⟩ := zC h
        refine ⟨_, ⟨_, z5O _ _ _ g⟩, ?_⟩
        refine vZ Iff.rfl h (fun _ h => ?_) (fun _ h => ?_)
        ·
          refine z1B (e' := (List.length x.L : Int)) (by first | rfl | rw [List.length_map]) ?_
          rintro _ rfl
          refine zI decide_eq_true_iff h (fun _ h => ?_) (fun _ h => ?_)
          ·
            obtain ⟨x3, hx, h⟩ := zC h
            refine ⟨z0U (l := z.L) (zD.sz), z6Q hx, x3.K, x3.N, x3.S, List.map zD.toD x3.L, x3.From, x3.To, z4b (zD.toD_eq x3) hx, ?_⟩
            refine z1B (e' := (List.length x.L : Int)) (by first | rfl | rw [List.length_map]) ?_
            rintro _ rfl
            obtain ⟨x4, hx, h⟩ := zC h
            refine ⟨z0U (l := y.L) (zD.sz), z6Q hx, x4.K, x4.N, x4.S, List.map zD.toD x4.L, x4.From, x4.To, z4b (zD.toD_eq x4) hx, ?_⟩
            rintro _ rfl
            rintro _ rfl
            obtain ⟨q2, g, h⟩ := zC h
            refine ⟨_, _, _, _, _, _, ⟨_, y0B _ _ _ g⟩, ?_⟩
            obtain ⟨q3, g, h⟩ := zC h
            refine ⟨_, ⟨_, z5O _ _ _ g⟩, ?_⟩
            refine vZ Iff.rfl h (fun _ h => ?_) (fun _ h => ?_)
            ·
              rintro _ rfl
              exact ih_law09UnitJoins_L12 _ _ _ _ _ _ h
            cases h; exact ⟨rfl, rfl⟩
          rintro _ rfl
          exact ih_law09UnitJoins_L12 _ _ _ _ _ _ h
        cases h; exact ⟨rfl, rfl⟩
      refine z1B (e' := (List.length x.L : Int)) (by first | rfl | rw [List.length_map]) ?_
      rintro _ rfl
      refine zI decide_eq_true_iff h (fun _ h => ?_) (fun _ h => ?_)
      ·
        obtain ⟨x5, hx, h⟩ := zC h
        refine ⟨z0U (l := z.L) (zD.sz), z6Q hx, x5.K, x5.N, x5.S, List.map zD.toD x5.L, x5.From, x5.To, z4b (zD.toD_eq x5) hx, ?_⟩
        refine z1B (e' := (List.length x.L : Int)) (by first | rfl | rw [List.length_map]) ?_
        rintro _ rfl
        obtain ⟨x6, hx, h⟩ := zC h
        refine ⟨z0U (l := y.L) (zD.sz), z6Q hx, x6.K, x6.N, x6.S, List.map zD.toD x6.L, x6.From, x6.To, z4b (zD.toD_eq x6) hx, ?_⟩
        rintro _ rfl
        rintro _ rfl
        obtain ⟨q4, g, h⟩ := zC h
        refine ⟨_, _, _, _, _, _, ⟨_, y0B _ _ _ g⟩, ?_⟩
        obtain ⟨q5, g, h⟩ := zC h
        refine ⟨_, ⟨_, z5O _ _ _ g⟩, ?_⟩
        refine vZ Iff.rfl h (fun _ h => ?_) (fun _ h => ?_)
        ·
          rintro _ rfl
          exact ih_law09UnitJoins_L12 _ _ _ _ _ _ h
        cases h; exact ⟨rfl, rfl⟩
      rintro _ rfl
      exact ih_law09UnitJoins_L12 _ _ _ _ _ _ h
    obtain ⟨q6, g, h⟩ := zC h
    refine ⟨_, ⟨_, z2P _ g⟩, ?_⟩
    cases h; exact ⟨rfl, rfl⟩
theorem z7e (a : Str) (i : Int) (x y z : zD) (r : Bool) (h : yI a i x y z = some r) : z4l (.yI a i x y z) r := z7c (.yI a i x y z) r h
theorem y0J (a b : Str) (r : Bool) (h : z3O a b = some r) : Trip Try.prog 3 [(nS a), (nS b)] [] [(nB r)] [] := by
  unfold z3O at h
  refine yJ 1000 (by kernel_rfl) (by kernel_rfl) (by kernel_rfl) (by kernel_rfl) (by kernel_rfl) (y0U _ _ _ _ a b) ?_
  rintro _ rfl
  rintro _ rfl
  refine zI decide_eq_true_iff h (fun _ h => ?_) (fun _ h => ?_)
  ·
    obtain ⟨q1, g, h⟩ := zC h
    refine ⟨_, ⟨_, z2P _ g⟩, ?_⟩
    cases h; exact ⟨rfl, rfl⟩
  rintro _ rfl
  rintro _ rfl
  refine zI decide_eq_true_iff h (fun _ h => ?_) (fun _ h => ?_)
  ·
    obtain ⟨q2, g, h⟩ := zC h
    refine ⟨_, ⟨_, z2P _ g⟩, ?_⟩
    cases h; exact ⟨rfl, rfl⟩
  obtain ⟨q3, g, h⟩ := zC h
  refine ⟨_, _, _, _, _, _, _, _, ⟨_, z4P _ _ g⟩, ?_⟩
  obtain ⟨q4, g, h⟩ := zC h
  refine ⟨_, _, _, _, _, _, _, _, ⟨_, z4P _ _ g⟩, ?_⟩
  rintro _ rfl
  refine vZ beq_iff_eq h (fun _ h => ?_) (fun _ h => ?_)
  ·
    rintro _ rfl
    refine vZ beq_iff_eq h (fun _ h => ?_) (fun _ h => ?_)
    ·
      refine z1B (e' := (List.length q3.1.L : Int)) (by first | rfl | rw [List.length_map]) ?_
      refine z1B (e' := (List.length q4.1.L : Int)) (by first | rfl | rw [List.length_map]) ?_
      rintro _ rfl
      rintro _ rfl
      refine zI decide_eq_true_iff h (fun _ h => ?_) (fun _ h => ?_)
      ·
        obtain ⟨q7, g, h⟩ := zC h
        refine ⟨_, ⟨_, z2P _ g⟩, ?_⟩
        cases h; exact ⟨rfl, rfl⟩
      obtain ⟨hP, h⟩ := z0q h
      refine ⟨by first | exact hP | simpa using hP, ?_⟩
      rintro _ rfl
      obtain ⟨hP, h⟩ := z0q h
      refine ⟨by first | exact hP | simpa using hP, ?_⟩
      rintro _ rfl
      obtain ⟨q8, g, h⟩ := zC h
      refine ⟨_, _, _, _, _, _, _, _, ⟨_, z4P _ _ g⟩, ?_⟩
      rintro _ rfl
      refine vZ beq_iff_eq h (fun _ h => ?_) (fun _ h => ?_)
      ·
        refine z1B (e' := (List.length q8.1.L : Int)) (by first | rfl | rw [List.length_map]) ?_
        refine z1B (e' := (List.length q3.1.L : Int)) (by first | rfl | rw [List.length_map]) ?_
        refine z1B (e' := (List.length q4.1.L : Int)) (by first | rfl | rw [List.length_map]) ?_
        rintro _ rfl
        rintro _ rfl
        refine vZ beq_iff_eq h (fun _ h => ?_) (fun _ h => ?_)
        ·
          rintro _ rfl
          rintro _ rfl
          refine vZ beq_iff_eq h (fun _ h => ?_) (fun _ h => ?_)
          ·
            exact z7e _ _ _ _ _ _ h
          cases h; exact ⟨rfl, rfl⟩
        cases h; exact ⟨rfl, rfl⟩
      cases h; exact ⟨rfl, rfl⟩
    obtain ⟨q6, g, h⟩ := zC h
    refine ⟨_, ⟨_, z2P _ g⟩, ?_⟩
    cases h; exact ⟨rfl, rfl⟩
  obtain ⟨q5, g, h⟩ := zC h
  refine ⟨_, ⟨_, z2P _ g⟩, ?_⟩
  cases h; exact ⟨rfl, rfl⟩
end Go.Proofs.Ytelddjedpmfclaa.M

