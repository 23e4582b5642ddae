import Derived.Test.YtelddjedpmfclaaGreatMod
import Derived.Test.YtelddjedpmfclaaGreatEv
namespace Go.Proofs.YtelddjedpmfclaaGreat.M
open Go Nt Go.Proofs
set_option linter.unusedVariables false
set_option linter.unusedSimpArgs false
set_option linter.unnecessarySimpa false
set_option maxRecDepth 100000
theorem z3Y (c : Int) (text : Str) (at_ : Int) (out : List zB) (r : Bool) (h : z1c c text at_ out = some r) : Trip Tryz.prog 39 [.hp 0 0, .d (.int .u8 c)] [(hX text at_ (List.map zB.toD out))] [(nB r)] [(hX text at_ (List.map zB.toD out))] := by
  unfold z1c at h
  refine zW 1000 (by kernel_rfl) (by kernel_rfl) (by kernel_rfl) (by kernel_rfl) (by kernel_rfl) (y0E _ _ _ _ c text at_ out) ?_
  rintro _ rfl
  refine zD decide_eq_true_iff h (fun _ h => ?_) (fun _ h => ?_)
  ·
    rintro _ rfl
    cases h; exact ⟨rfl, rfl⟩
  cases h; exact ⟨rfl, rfl⟩
theorem z5T (c : Int) (text : Str) (at_ : Int) (out : List zB) (r : Bool) (h : z1x c text at_ out = some r) : Trip Tryz.prog 37 [.hp 0 0, .d (.int .u8 c)] [(hX text at_ (List.map zB.toD out))] [(nB r)] [(hX text at_ (List.map zB.toD out))] := by
  unfold z1x at h
  refine zW 1000 (by kernel_rfl) (by kernel_rfl) (by kernel_rfl) (by kernel_rfl) (by kernel_rfl) (z9W _ _ _ _ c text at_ out) ?_
  rintro _ rfl
  refine zD decide_eq_true_iff h (fun _ h => ?_) (fun _ h => ?_)
  ·
    rintro _ rfl
    refine zD decide_eq_true_iff h (fun _ h => ?_) (fun _ h => ?_)
    ·
      cases h; exact ⟨rfl, rfl⟩
    rintro _ rfl
    refine zD decide_eq_true_iff h (fun _ h => ?_) (fun _ h => ?_)
    ·
      rintro _ rfl
      refine zD decide_eq_true_iff h (fun _ h => ?_) (fun _ h => ?_)
      ·
        cases h; exact ⟨rfl, rfl⟩
      rintro _ rfl
      cases h; exact ⟨rfl, rfl⟩
    rintro _ rfl
    cases h; exact ⟨rfl, rfl⟩
  rintro _ rfl
  refine zD decide_eq_true_iff h (fun _ h => ?_) (fun _ h => ?_)
  ·
    rintro _ rfl
    refine zD decide_eq_true_iff h (fun _ h => ?_) (fun _ h => ?_)
    ·
      cases h; exact ⟨rfl, rfl⟩
    rintro _ rfl
    cases h; exact ⟨rfl, rfl⟩
  rintro _ rfl
  cases h; exact ⟨rfl, rfl⟩
theorem z3m (k n : Int) (s : Str) (from_ : Int) (text : Str) (at_ : Int) (out : List zB) (r : Str × Int × List zB) (h : z1z k n s from_ text at_ out = some r) : Trip Tryz.prog 16 [.hp 0 0, (nI k), (nI n), (nS s), (nI from_)] [(hX text at_ (List.map zB.toD out))] [] [(hX r.1 r.2.1 (List.map zB.toD r.2.2))] := by
  unfold z1z at h
  refine zW 1000 (by kernel_rfl) (by kernel_rfl) (by kernel_rfl) (by kernel_rfl) (by kernel_rfl) (y5i _ _ _ _ k n s from_ text at_ out) ?_
  refine ⟨by simp [wB, D.cells], ?_⟩
  refine ⟨by first | rfl | decide | simp only [List.length_map, List.length_cons, List.length_nil, List.map_append, List.length_append], ?_⟩
  obtain ⟨hP, h⟩ := jZ h
  refine ⟨by first | exact hP | simpa using hP, ?_⟩
  refine z2g (e' := List.map zB.toD (out ++ [(zB.mk k n s from_ at_)])) (by first | rfl | simp only [List.map_append, List.map_cons, List.map_nil, List.map_take, List.map_drop, List.map_set, List.map_replicate, List.length_map, zB.toD_eq]) ?_
  refine ⟨by first | rfl | decide | simp only [List.length_map, List.length_cons, List.length_nil, List.map_append, List.length_append], ?_⟩
  cases h; exact ⟨rfl, rfl⟩
def z5v : (i : z2l) → z3q i → Prop
  | .yD from_ s v v29 v30 text at_ out, r => Ok (z4y (Trip Tryz.prog) [(nI r.1)] [(hX r.2.1 r.2.2.1 (List.map zB.toD r.2.2.2))]) (kL Tryz.f40 7) ⟨49, [(0, .hp 0 0), (3, (nI from_)), (4, (nS s)), (5, .d (.int .u64 v)), (29, (nI v29)), (30, (nI v30))], [], [(hX text at_ (List.map zB.toD out))], 0⟩
theorem z8W : ∀ i r, z1S z2j i = some r → z5v i r := by
  refine wM z5u fun g ih i => ?_
  cases i with
  | yD from_ s v v29 v30 text at_ out =>
    have ih_lex_reader_number_L7 := fun from_ s v v29 v30 text at_ out r h => ih (.yD from_ s v v29 v30 text at_ out) r h
    intro r h
    replace h : gW (fun from_ s v v29 v30 text at_ out => g (z2l.yD from_ s v v29 v30 text at_ out)) from_ s v v29 v30 text at_ out = some r := h
    unfold gW at h
    refine z4a 1000 (z8X _ _ _ _ from_ s v v29 v30 text at_ out) ?_
    rintro _ rfl
    refine zD decide_eq_true_iff h (fun _ h => ?_) (fun _ h => ?_)
    ·
      rintro _ rfl
      obtain ⟨c, hx, h⟩ := zC h
      refine ⟨z4f hx, c, y9B hx, ?_⟩
      rintro _ rfl
      rintro _ rfl
      rintro _ rfl
      rintro _ rfl
      rintro _ rfl
      exact ih_lex_reader_number_L7 _ _ _ _ _ _ _ _ _ h
    rintro _ rfl
    refine zD decide_eq_true_iff h (fun _ h => ?_) (fun _ h => ?_)
    ·
      cases h; exact ⟨rfl, rfl⟩
    rintro _ rfl
    obtain ⟨q1, g, h⟩ := zC h
    refine ⟨_, _, _, z3m _ _ _ _ _ _ _ _ g, ?_⟩
    cases h; exact ⟨rfl, rfl⟩
theorem z5r (from_ : Int) (s : Str) (v v29 v30 : Int) (text : Str) (at_ : Int) (out : List zB) (r : Int × Str × Int × List zB) (h : yD from_ s v v29 v30 text at_ out = some r) : z5v (.yD from_ s v v29 v30 text at_ out) r := z8W (.yD from_ s v v29 v30 text at_ out) r h
def z2n : (i : gQ) → z0U i → Prop
  | .zO from_ text at_ out, r => Ok (z1u (Trip Tryz.prog) [(nS r.1)] [(hX r.2.1 r.2.2.1 (List.map zB.toD r.2.2.2))]) (kL Tryz.f35 2) ⟨50, [(0, .hp 0 0), (1, .fn 39 [.hp 0 0] []), (5, (nI from_))], [], [(hX text at_ (List.map zB.toD out))], 0⟩
theorem z4L : ∀ i r, z1S gR i = some r → z2n i r := by
  refine wM z2p fun g ih i => ?_
  cases i with
  | zO from_ text at_ out =>
    have ih_lex_reader_run_reader_isDigit_L2 := fun from_ text at_ out r h => ih (.zO from_ text at_ out) r h
    intro r h
    replace h : wL (fun from_ text at_ out => g (gQ.zO from_ text at_ out)) from_ text at_ out = some r := h
    unfold wL at h
    refine z4a 1000 (z4K _ _ _ _ from_ text at_ out) ?_
    rintro _ rfl
    rintro _ rfl
    refine zD decide_eq_true_iff h (fun _ h => ?_) (fun _ h => ?_)
    ·
      obtain ⟨c, hx, h⟩ := zC h
      refine ⟨z4f hx, c, y9B hx, ?_⟩
      rintro _ rfl
      obtain ⟨q1, g, h⟩ := zC h
      refine ⟨_, z3Y _ _ _ _ _ g, ?_⟩
      refine zD Iff.rfl h (fun _ h => ?_) (fun _ h => ?_)
      ·
        rintro _ rfl
        exact ih_lex_reader_run_reader_isDigit_L2 _ _ _ _ _ h
      obtain ⟨hP, h⟩ := jZ h
      refine ⟨by first | exact hP | simpa using hP, ?_⟩
      obtain ⟨hP, h⟩ := jZ h
      refine ⟨by first | exact hP | simpa using hP, ?_⟩
      obtain ⟨hP, h⟩ := jZ h
      refine ⟨by first | exact hP | simpa using hP, ?_⟩
      obtain ⟨hP, h⟩ := jZ h
      refine ⟨by first | exact hP | simpa using hP, ?_⟩
      rintro _ rfl
      cases h; exact ⟨rfl, rfl⟩
    obtain ⟨hP, h⟩ := jZ h
    refine ⟨by first | exact hP | simpa using hP, ?_⟩
    obtain ⟨hP, h⟩ := jZ h
    refine ⟨by first | exact hP | simpa using hP, ?_⟩
    obtain ⟨hP, h⟩ := jZ h
    refine ⟨by first | exact hP | simpa using hP, ?_⟩
    obtain ⟨hP, h⟩ := jZ h
    refine ⟨by first | exact hP | simpa using hP, ?_⟩
    rintro _ rfl
    cases h; exact ⟨rfl, rfl⟩
theorem z4J (from_ : Int) (text : Str) (at_ : Int) (out : List zB) (r : Str × Str × Int × List zB) (h : zO from_ text at_ out = some r) : z2n (.zO from_ text at_ out) r := z4L (.zO from_ text at_ out) r h
theorem z5C (text : Str) (at_ : Int) (out : List zB) (r : Str × Str × Int × List zB) (h : z0I text at_ out = some r) : Trip Tryz.prog 35 [.hp 0 0, .fn 39 [.hp 0 0] []] [(hX text at_ (List.map zB.toD out))] [(nS r.1)] [(hX r.2.1 r.2.2.1 (List.map zB.toD r.2.2.2))] := by
  unfold z0I at h
  refine zW 1000 (by kernel_rfl) (by kernel_rfl) (by kernel_rfl) (by kernel_rfl) (by kernel_rfl) (z5D _ _ _ _ text at_ out) ?_
  exact z4J _ _ _ _ _ h
theorem y1C (text : Str) (at_ : Int) (out : List zB) (r : Int × Str × Int × List zB) (h : z3O text at_ out = some r) : Trip Tryz.prog 40 [.hp 0 0] [(hX text at_ (List.map zB.toD out))] [(nI r.1)] [(hX r.2.1 r.2.2.1 (List.map zB.toD r.2.2.2))] := by
  unfold z3O at h
  refine zW 1000 (by kernel_rfl) (by kernel_rfl) (by kernel_rfl) (by kernel_rfl) (by kernel_rfl) (y1e _ _ _ _ text at_ out) ?_
  obtain ⟨q1, g, h⟩ := zC h
  refine ⟨_, _, _, _, z5C _ _ _ _ g, ?_⟩
  rintro _ rfl
  rintro _ rfl
  refine zD decide_eq_true_iff h (fun _ h => ?_) (fun _ h => ?_)
  ·
    cases h; exact ⟨rfl, rfl⟩
  rintro _ rfl
  rintro _ rfl
  refine zD decide_eq_true_iff h (fun _ h => ?_) (fun _ h => ?_)
  ·
    obtain ⟨c, hx, h⟩ := zC h
    refine ⟨z4f hx, c, y9B hx, ?_⟩
    rintro _ rfl
    rintro _ rfl
    refine zD beq_iff_eq h (fun _ h => ?_) (fun _ h => ?_)
    ·
      cases h; exact ⟨rfl, rfl⟩
    rintro _ rfl
    exact z5r _ _ _ _ _ _ _ _ _ h
  rintro _ rfl
  exact z5r _ _ _ _ _ _ _ _ _ h
theorem z7H (k : Int) (text : Str) (at_ : Int) (out : List zB) (r : Int) (h : z2i k text at_ out = some r) : Trip Tryz.prog 34 [.hp 0 0, (nI k)] [(hX text at_ (List.map zB.toD out))] [.d (.int .u8 r)] [(hX text at_ (List.map zB.toD out))] := by
  unfold z2i at h
  refine zW 1000 (by kernel_rfl) (by kernel_rfl) (by kernel_rfl) (by kernel_rfl) (by kernel_rfl) (y3S _ _ _ _ k text at_ out) ?_
  rintro _ rfl
  rintro _ rfl
  rintro _ rfl
  refine zD decide_eq_true_iff h (fun _ h => ?_) (fun _ h => ?_)
  ·
    rintro _ rfl
    obtain ⟨c, hx, h⟩ := zC h
    refine ⟨z4f hx, c, y9B hx, ?_⟩
    rintro _ rfl
    cases h; exact ⟨rfl, rfl⟩
  cases h; exact ⟨rfl, rfl⟩
theorem v0F (s : Str) (r : Bool) (h : z7G s = some r) : Trip Tryz.prog 68 [(nS s)] [] [(nB r)] [] := by
  unfold z7G at h
  refine zW 1000 (by kernel_rfl) (by kernel_rfl) (by kernel_rfl) (by kernel_rfl) (by kernel_rfl) (v1a _ _ _ _ s) ?_
  rintro _ rfl
  refine zD beq_iff_eq h (fun hc16 h => ?_) (fun hc16 h => ?_)
  ·
    refine jK beq_iff_eq hc16 ?_
    cases h; exact ⟨rfl, rfl⟩
  rintro _ rfl
  refine zD beq_iff_eq h (fun hc17 h => ?_) (fun hc17 h => ?_)
  ·
    refine jK beq_iff_eq hc17 ?_
    cases h; exact ⟨rfl, rfl⟩
  rintro _ rfl
  refine zD beq_iff_eq h (fun hc18 h => ?_) (fun hc18 h => ?_)
  ·
    refine jK beq_iff_eq hc18 ?_
    cases h; exact ⟨rfl, rfl⟩
  rintro _ rfl
  refine zD beq_iff_eq h (fun hc19 h => ?_) (fun hc19 h => ?_)
  ·
    refine jK beq_iff_eq hc19 ?_
    cases h; exact ⟨rfl, rfl⟩
  rintro _ rfl
  refine zD beq_iff_eq h (fun hc20 h => ?_) (fun hc20 h => ?_)
  ·
    refine jK beq_iff_eq hc20 ?_
    cases h; exact ⟨rfl, rfl⟩
  rintro _ rfl
  refine zD beq_iff_eq h (fun hc21 h => ?_) (fun hc21 h => ?_)
  ·
    refine jK beq_iff_eq hc21 ?_
    cases h; exact ⟨rfl, rfl⟩
  rintro _ rfl
  refine zD beq_iff_eq h (fun hc22 h => ?_) (fun hc22 h => ?_)
  ·
    refine jK beq_iff_eq hc22 ?_
    cases h; exact ⟨rfl, rfl⟩
  rintro _ rfl
  refine zD beq_iff_eq h (fun hc23 h => ?_) (fun hc23 h => ?_)
  ·
    refine jK beq_iff_eq hc23 ?_
    cases h; exact ⟨rfl, rfl⟩
  rintro _ rfl
  refine zD beq_iff_eq h (fun hc24 h => ?_) (fun hc24 h => ?_)
  ·
    refine jK beq_iff_eq hc24 ?_
    cases h; exact ⟨rfl, rfl⟩
  rintro _ rfl
  refine zD beq_iff_eq h (fun hc25 h => ?_) (fun hc25 h => ?_)
  ·
    refine jK beq_iff_eq hc25 ?_
    cases h; exact ⟨rfl, rfl⟩
  rintro _ rfl
  refine zD beq_iff_eq h (fun hc26 h => ?_) (fun hc26 h => ?_)
  ·
    refine jK beq_iff_eq hc26 ?_
    cases h; exact ⟨rfl, rfl⟩
  rintro _ rfl
  refine zD beq_iff_eq h (fun hc27 h => ?_) (fun hc27 h => ?_)
  ·
    refine jK beq_iff_eq hc27 ?_
    cases h; exact ⟨rfl, rfl⟩
  rintro _ rfl
  refine zD beq_iff_eq h (fun hc28 h => ?_) (fun hc28 h => ?_)
  ·
    refine jK beq_iff_eq hc28 ?_
    cases h; exact ⟨rfl, rfl⟩
  rintro _ rfl
  refine zD beq_iff_eq h (fun hc29 h => ?_) (fun hc29 h => ?_)
  ·
    refine jK beq_iff_eq hc29 ?_
    cases h; exact ⟨rfl, rfl⟩
  rintro _ rfl
  refine zD beq_iff_eq h (fun hc30 h => ?_) (fun hc30 h => ?_)
  ·
    refine jK beq_iff_eq hc30 ?_
    cases h; exact ⟨rfl, rfl⟩
  rintro _ rfl
  refine zD beq_iff_eq h (fun hc31 h => ?_) (fun hc31 h => ?_)
  ·
    refine jK beq_iff_eq hc31 ?_
    cases h; exact ⟨rfl, rfl⟩
  rintro _ rfl
  refine zD beq_iff_eq h (fun hc32 h => ?_) (fun hc32 h => ?_)
  ·
    refine jK beq_iff_eq hc32 ?_
    cases h; exact ⟨rfl, rfl⟩
  rintro _ rfl
  refine zD beq_iff_eq h (fun hc33 h => ?_) (fun hc33 h => ?_)
  ·
    refine jK beq_iff_eq hc33 ?_
    cases h; exact ⟨rfl, rfl⟩
  rintro _ rfl
  refine zD beq_iff_eq h (fun hc34 h => ?_) (fun hc34 h => ?_)
  ·
    refine jK beq_iff_eq hc34 ?_
    cases h; exact ⟨rfl, rfl⟩
  rintro _ rfl
  refine zD beq_iff_eq h (fun _ h => ?_) (fun _ h => ?_)
  ·
    cases h; exact ⟨rfl, rfl⟩
  cases h; exact ⟨rfl, rfl⟩
theorem y1K (c : Int) (text : Str) (at_ : Int) (out : List zB) (r : Bool) (h : z2T c text at_ out = some r) : Trip Tryz.prog 67 [.hp 0 0, .d (.int .u8 c)] [(hX text at_ (List.map zB.toD out))] [(nB r)] [(hX text at_ (List.map zB.toD out))] := by
  unfold z2T at h
  refine zW 1000 (by kernel_rfl) (by kernel_rfl) (by kernel_rfl) (by kernel_rfl) (by kernel_rfl) (y1M _ _ _ _ c text at_ out) ?_
  obtain ⟨q1, g, h⟩ := zC h
  refine ⟨_, z5T _ _ _ _ _ g, ?_⟩
  refine zD Iff.rfl h (fun _ h => ?_) (fun _ h => ?_)
  ·
    cases h; exact ⟨rfl, rfl⟩
  obtain ⟨q2, g, h⟩ := zC h
  refine ⟨_, z3Y _ _ _ _ _ g, ?_⟩
  cases h; exact ⟨rfl, rfl⟩
def z2u : (i : gZ) → z0Y i → Prop
  | .zR from_ text at_ out, r => Ok (z1A (Trip Tryz.prog) [(nS r.1)] [(hX r.2.1 r.2.2.1 (List.map zB.toD r.2.2.2))]) (kL Tryz.f35 2) ⟨50, [(0, .hp 0 0), (1, .fn 67 [.hp 0 0] []), (5, (nI from_))], [], [(hX text at_ (List.map zB.toD out))], 0⟩
theorem z5m : ∀ i r, z1S z0c i = some r → z2u i r := by
  refine wM z2w fun g ih i => ?_
  cases i with
  | zR from_ text at_ out =>
    have ih_lex_reader_run_reader_isMore_L2 := fun from_ text at_ out r h => ih (.zR from_ text at_ out) r h
    intro r h
    replace h : wO (fun from_ text at_ out => g (gZ.zR from_ text at_ out)) from_ text at_ out = some r := h
    unfold wO at h
    refine z4a 1000 (z4X _ _ _ _ from_ text at_ out) ?_
    rintro _ rfl
    rintro _ rfl
    refine zD decide_eq_true_iff h (fun _ h => ?_) (fun _ h => ?_)
    ·
      obtain ⟨c, hx, h⟩ := zC h
      refine ⟨z4f hx, c, y9B hx, ?_⟩
      rintro _ rfl
      obtain ⟨q1, g, h⟩ := zC h
      refine ⟨_, y1K _ _ _ _ _ g, ?_⟩
      refine zD Iff.rfl h (fun _ h => ?_) (fun _ h => ?_)
      ·
        rintro _ rfl
        exact ih_lex_reader_run_reader_isMore_L2 _ _ _ _ _ h
      obtain ⟨hP, h⟩ := jZ h
      refine ⟨by first | exact hP | simpa using hP, ?_⟩
      obtain ⟨hP, h⟩ := jZ h
      refine ⟨by first | exact hP | simpa using hP, ?_⟩
      obtain ⟨hP, h⟩ := jZ h
      refine ⟨by first | exact hP | simpa using hP, ?_⟩
      obtain ⟨hP, h⟩ := jZ h
      refine ⟨by first | exact hP | simpa using hP, ?_⟩
      rintro _ rfl
      cases h; exact ⟨rfl, rfl⟩
    obtain ⟨hP, h⟩ := jZ h
    refine ⟨by first | exact hP | simpa using hP, ?_⟩
    obtain ⟨hP, h⟩ := jZ h
    refine ⟨by first | exact hP | simpa using hP, ?_⟩
    obtain ⟨hP, h⟩ := jZ h
    refine ⟨by first | exact hP | simpa using hP, ?_⟩
    obtain ⟨hP, h⟩ := jZ h
    refine ⟨by first | exact hP | simpa using hP, ?_⟩
    rintro _ rfl
    cases h; exact ⟨rfl, rfl⟩
theorem z5e (from_ : Int) (text : Str) (at_ : Int) (out : List zB) (r : Str × Str × Int × List zB) (h : zR from_ text at_ out = some r) : z2u (.zR from_ text at_ out) r := z5m (.zR from_ text at_ out) r h
theorem z6e (text : Str) (at_ : Int) (out : List zB) (r : Str × Str × Int × List zB) (h : z0T text at_ out = some r) : Trip Tryz.prog 35 [.hp 0 0, .fn 67 [.hp 0 0] []] [(hX text at_ (List.map zB.toD out))] [(nS r.1)] [(hX r.2.1 r.2.2.1 (List.map zB.toD r.2.2.2))] := by
  unfold z0T at h
  refine zW 1000 (by kernel_rfl) (by kernel_rfl) (by kernel_rfl) (by kernel_rfl) (by kernel_rfl) (z5X _ _ _ _ text at_ out) ?_
  exact z5e _ _ _ _ _ h
theorem y4g (text : Str) (at_ : Int) (out : List zB) (r : Int × Str × Int × List zB) (h : z4V text at_ out = some r) : Trip Tryz.prog 38 [.hp 0 0] [(hX text at_ (List.map zB.toD out))] [(nI r.1)] [(hX r.2.1 r.2.2.1 (List.map zB.toD r.2.2.2))] := by
  unfold z4V at h
  refine zW 1000 (by kernel_rfl) (by kernel_rfl) (by kernel_rfl) (by kernel_rfl) (by kernel_rfl) (y3V _ _ _ _ text at_ out) ?_
  obtain ⟨q1, g, h⟩ := zC h
  refine ⟨_, _, _, _, z6e _ _ _ _ g, ?_⟩
  rintro _ rfl
  rintro _ rfl
  refine zD decide_eq_true_iff h (fun _ h => ?_) (fun _ h => ?_)
  ·
    cases h; exact ⟨rfl, rfl⟩
  obtain ⟨q2, g, h⟩ := zC h
  refine ⟨_, ⟨_, v0F _ _ g⟩, ?_⟩
  refine zD Iff.rfl h (fun _ h => ?_) (fun _ h => ?_)
  ·
    obtain ⟨q3, g, h⟩ := zC h
    refine ⟨_, _, _, z3m _ _ _ _ _ _ _ _ g, ?_⟩
    cases h; exact ⟨rfl, rfl⟩
  obtain ⟨q4, g, h⟩ := zC h
  refine ⟨_, _, _, z3m _ _ _ _ _ _ _ _ g, ?_⟩
  cases h; exact ⟨rfl, rfl⟩
theorem v0V (c d r : Int) (h : z8d c d = some r) : Trip Tryz.prog 41 [.d (.int .u8 c), .d (.int .u8 d)] [] [(nI r)] [] := by
  unfold z8d at h
  refine zW 1000 (by kernel_rfl) (by kernel_rfl) (by kernel_rfl) (by kernel_rfl) (by kernel_rfl) (y9x _ _ _ _ c d) ?_
  rintro _ rfl
  refine zD beq_iff_eq h (fun hc41 h => ?_) (fun hc41 h => ?_)
  ·
    refine jK beq_iff_eq hc41 ?_
    rintro _ rfl
    refine zD beq_iff_eq h (fun _ h => ?_) (fun _ h => ?_)
    ·
      cases h; exact ⟨rfl, rfl⟩
    cases h; exact ⟨rfl, rfl⟩
  rintro _ rfl
  refine zD beq_iff_eq h (fun hc43 h => ?_) (fun hc43 h => ?_)
  ·
    refine jK beq_iff_eq hc43 ?_
    rintro _ rfl
    refine zD beq_iff_eq h (fun _ h => ?_) (fun _ h => ?_)
    ·
      cases h; exact ⟨rfl, rfl⟩
    cases h; exact ⟨rfl, rfl⟩
  rintro _ rfl
  refine zD beq_iff_eq h (fun hc45 h => ?_) (fun hc45 h => ?_)
  ·
    refine jK beq_iff_eq hc45 ?_
    rintro _ rfl
    refine zD beq_iff_eq h (fun _ h => ?_) (fun _ h => ?_)
    ·
      cases h; exact ⟨rfl, rfl⟩
    cases h; exact ⟨rfl, rfl⟩
  rintro _ rfl
  refine zD beq_iff_eq h (fun _ h => ?_) (fun _ h => ?_)
  ·
    rintro _ rfl
    refine zD beq_iff_eq h (fun _ h => ?_) (fun _ h => ?_)
    ·
      cases h; exact ⟨rfl, rfl⟩
    cases h; exact ⟨rfl, rfl⟩
  rintro _ rfl
  refine zD beq_iff_eq h (fun hc49 h => ?_) (fun hc49 h => ?_)
  ·
    refine jK beq_iff_eq hc49 ?_
    rintro _ rfl
    refine zD beq_iff_eq h (fun _ h => ?_) (fun _ h => ?_)
    ·
      cases h; exact ⟨rfl, rfl⟩
    cases h; exact ⟨rfl, rfl⟩
  rintro _ rfl
  refine zD beq_iff_eq h (fun _ h => ?_) (fun _ h => ?_)
  ·
    rintro _ rfl
    refine zD beq_iff_eq h (fun _ h => ?_) (fun _ h => ?_)
    ·
      cases h; exact ⟨rfl, rfl⟩
    cases h; exact ⟨rfl, rfl⟩
  rintro _ rfl
  refine zD beq_iff_eq h (fun hc53 h => ?_) (fun hc53 h => ?_)
  ·
    refine jK beq_iff_eq hc53 ?_
    cases h; exact ⟨rfl, rfl⟩
  rintro _ rfl
  refine zD beq_iff_eq h (fun hc54 h => ?_) (fun hc54 h => ?_)
  ·
    refine jK beq_iff_eq hc54 ?_
    cases h; exact ⟨rfl, rfl⟩
  rintro _ rfl
  refine zD beq_iff_eq h (fun hc55 h => ?_) (fun hc55 h => ?_)
  ·
    refine jK beq_iff_eq hc55 ?_
    cases h; exact ⟨rfl, rfl⟩
  rintro _ rfl
  refine zD beq_iff_eq h (fun hc56 h => ?_) (fun hc56 h => ?_)
  ·
    refine jK beq_iff_eq hc56 ?_
    cases h; exact ⟨rfl, rfl⟩
  rintro _ rfl
  refine zD beq_iff_eq h (fun hc57 h => ?_) (fun hc57 h => ?_)
  ·
    refine jK beq_iff_eq hc57 ?_
    cases h; exact ⟨rfl, rfl⟩
  rintro _ rfl
  refine zD beq_iff_eq h (fun hc58 h => ?_) (fun hc58 h => ?_)
  ·
    refine jK beq_iff_eq hc58 ?_
    cases h; exact ⟨rfl, rfl⟩
  rintro _ rfl
  refine zD beq_iff_eq h (fun hc59 h => ?_) (fun hc59 h => ?_)
  ·
    refine jK beq_iff_eq hc59 ?_
    cases h; exact ⟨rfl, rfl⟩
  rintro _ rfl
  refine zD beq_iff_eq h (fun hc60 h => ?_) (fun hc60 h => ?_)
  ·
    refine jK beq_iff_eq hc60 ?_
    cases h; exact ⟨rfl, rfl⟩
  rintro _ rfl
  refine zD beq_iff_eq h (fun hc61 h => ?_) (fun hc61 h => ?_)
  ·
    refine jK beq_iff_eq hc61 ?_
    cases h; exact ⟨rfl, rfl⟩
  rintro _ rfl
  refine zD beq_iff_eq h (fun hc62 h => ?_) (fun hc62 h => ?_)
  ·
    refine jK beq_iff_eq hc62 ?_
    cases h; exact ⟨rfl, rfl⟩
  rintro _ rfl
  refine zD beq_iff_eq h (fun hc63 h => ?_) (fun hc63 h => ?_)
  ·
    refine jK beq_iff_eq hc63 ?_
    cases h; exact ⟨rfl, rfl⟩
  rintro _ rfl
  refine zD beq_iff_eq h (fun hc64 h => ?_) (fun hc64 h => ?_)
  ·
    refine jK beq_iff_eq hc64 ?_
    cases h; exact ⟨rfl, rfl⟩
  rintro _ rfl
  refine zD beq_iff_eq h (fun hc65 h => ?_) (fun hc65 h => ?_)
  ·
    refine jK beq_iff_eq hc65 ?_
    cases h; exact ⟨rfl, rfl⟩
  rintro _ rfl
  refine zD beq_iff_eq h (fun hc66 h => ?_) (fun hc66 h => ?_)
  ·
    refine jK beq_iff_eq hc66 ?_
    cases h; exact ⟨rfl, rfl⟩
  rintro _ rfl
  refine zD beq_iff_eq h (fun hc67 h => ?_) (fun hc67 h => ?_)
  ·
    refine jK beq_iff_eq hc67 ?_
    cases h; exact ⟨rfl, rfl⟩
  rintro _ rfl
  refine zD beq_iff_eq h (fun _ h => ?_) (fun _ h => ?_)
  ·
    cases h; exact ⟨rfl, rfl⟩
  cases h; exact ⟨rfl, rfl⟩
theorem y4P (text : Str) (at_ : Int) (out : List zB) (r : Int × Str × Int × List zB) (h : z3p text at_ out = some r) : Trip Tryz.prog 15 [.hp 0 0] [(hX text at_ (List.map zB.toD out))] [(nI r.1)] [(hX r.2.1 r.2.2.1 (List.map zB.toD r.2.2.2))] := by
  unfold z3p at h
  refine zW 1000 (by kernel_rfl) (by kernel_rfl) (by kernel_rfl) (by kernel_rfl) (by kernel_rfl) (y5v _ _ _ _ text at_ out) ?_
  obtain ⟨c, hx, h⟩ := zC h
  refine ⟨z4f hx, c, y9B hx, ?_⟩
  rintro _ rfl
  obtain ⟨q1, g, h⟩ := zC h
  refine ⟨_, z5T _ _ _ _ _ g, ?_⟩
  refine zD Iff.rfl h (fun _ h => ?_) (fun _ h => ?_)
  ·
    obtain ⟨q2, g, h⟩ := zC h
    refine ⟨_, _, _, _, y4g _ _ _ _ g, ?_⟩
    cases h; exact ⟨rfl, rfl⟩
  obtain ⟨q3, g, h⟩ := zC h
  refine ⟨_, z3Y _ _ _ _ _ g, ?_⟩
  refine zD Iff.rfl h (fun _ h => ?_) (fun _ h => ?_)
  ·
    obtain ⟨q4, g, h⟩ := zC h
    refine ⟨_, _, _, _, y1C _ _ _ _ g, ?_⟩
    cases h; exact ⟨rfl, rfl⟩
  obtain ⟨q5, g, h⟩ := zC h
  refine ⟨_, z7H _ _ _ _ _ g, ?_⟩
  obtain ⟨q6, g, h⟩ := zC h
  refine ⟨_, ⟨_, v0V _ _ _ g⟩, ?_⟩
  rintro _ rfl
  refine zD beq_iff_eq h (fun _ h => ?_) (fun _ h => ?_)
  ·
    cases h; exact ⟨rfl, rfl⟩
  rintro _ rfl
  obtain ⟨hP, h⟩ := jZ h
  refine ⟨by first | exact hP | simpa using hP, ?_⟩
  obtain ⟨hP, h⟩ := jZ h
  refine ⟨by first | exact hP | simpa using hP, ?_⟩
  obtain ⟨hP, h⟩ := jZ h
  refine ⟨by first | exact hP | simpa using hP, ?_⟩
  obtain ⟨hP, h⟩ := jZ h
  refine ⟨by first | exact hP | simpa using hP, ?_⟩
  rintro _ rfl
  obtain ⟨q7, g, h⟩ := zC h
  refine ⟨_, _, _, z3m _ _ _ _ _ _ _ _ g, ?_⟩
  cases h; exact ⟨rfl, rfl⟩
theorem y1m (c : Int) (text : Str) (at_ : Int) (out : List zB) (r : Bool) (h : z3a c text at_ out = some r) : Trip Tryz.prog 36 [.hp 0 0, .d (.int .u8 c)] [(hX text at_ (List.map zB.toD out))] [(nB r)] [(hX text at_ (List.map zB.toD out))] := by
  unfold z3a at h
  refine zW 1000 (by kernel_rfl) (by kernel_rfl) (by kernel_rfl) (by kernel_rfl) (by kernel_rfl) (y1H _ _ _ _ c text at_ out) ?_
  rintro _ rfl
  cases h; exact ⟨rfl, rfl⟩
def z2t : (i : z0g) → z1f i → Prop
  | .zS from_ text at_ out, r => Ok (z1D (Trip Tryz.prog) [(nS r.1)] [(hX r.2.1 r.2.2.1 (List.map zB.toD r.2.2.2))]) (kL Tryz.f35 2) ⟨50, [(0, .hp 0 0), (1, .fn 36 [.hp 0 0] []), (5, (nI from_))], [], [(hX text at_ (List.map zB.toD out))], 0⟩
theorem z4R : ∀ i r, z1S z0j i = some r → z2t i r := by
  refine wM z2y fun g ih i => ?_
  cases i with
  | zS from_ text at_ out =>
    have ih_lex_reader_run_reader_isLine_L2 := fun from_ text at_ out r h => ih (.zS from_ text at_ out) r h
    intro r h
    replace h : wQ (fun from_ text at_ out => g (z0g.zS from_ text at_ out)) from_ text at_ out = some r := h
    unfold wQ at h
    refine z4a 1000 (z5h _ _ _ _ from_ text at_ out) ?_
    rintro _ rfl
    rintro _ rfl
    refine zD decide_eq_true_iff h (fun _ h => ?_) (fun _ h => ?_)
    ·
      obtain ⟨c, hx, h⟩ := zC h
      refine ⟨z4f hx, c, y9B hx, ?_⟩
      rintro _ rfl
      obtain ⟨q1, g, h⟩ := zC h
      refine ⟨_, y1m _ _ _ _ _ g, ?_⟩
      refine zD Iff.rfl h (fun _ h => ?_) (fun _ h => ?_)
      ·
        rintro _ rfl
        exact ih_lex_reader_run_reader_isLine_L2 _ _ _ _ _ h
      obtain ⟨hP, h⟩ := jZ h
      refine ⟨by first | exact hP | simpa using hP, ?_⟩
      obtain ⟨hP, h⟩ := jZ h
      refine ⟨by first | exact hP | simpa using hP, ?_⟩
      obtain ⟨hP, h⟩ := jZ h
      refine ⟨by first | exact hP | simpa using hP, ?_⟩
      obtain ⟨hP, h⟩ := jZ h
      refine ⟨by first | exact hP | simpa using hP, ?_⟩
      rintro _ rfl
      cases h; exact ⟨rfl, rfl⟩
    obtain ⟨hP, h⟩ := jZ h
    refine ⟨by first | exact hP | simpa using hP, ?_⟩
    obtain ⟨hP, h⟩ := jZ h
    refine ⟨by first | exact hP | simpa using hP, ?_⟩
    obtain ⟨hP, h⟩ := jZ h
    refine ⟨by first | exact hP | simpa using hP, ?_⟩
    obtain ⟨hP, h⟩ := jZ h
    refine ⟨by first | exact hP | simpa using hP, ?_⟩
    rintro _ rfl
    cases h; exact ⟨rfl, rfl⟩
theorem z5p (from_ : Int) (text : Str) (at_ : Int) (out : List zB) (r : Str × Str × Int × List zB) (h : zS from_ text at_ out = some r) : z2t (.zS from_ text at_ out) r := z4R (.zS from_ text at_ out) r h
theorem z5U (text : Str) (at_ : Int) (out : List zB) (r : Str × Str × Int × List zB) (h : z0S text at_ out = some r) : Trip Tryz.prog 35 [.hp 0 0, .fn 36 [.hp 0 0] []] [(hX text at_ (List.map zB.toD out))] [(nS r.1)] [(hX r.2.1 r.2.2.1 (List.map zB.toD r.2.2.2))] := by
  unfold z0S at h
  refine zW 1000 (by kernel_rfl) (by kernel_rfl) (by kernel_rfl) (by kernel_rfl) (by kernel_rfl) (z5S _ _ _ _ text at_ out) ?_
  exact z5p _ _ _ _ _ h
def z6q : (i : z2P) → z4c i → Prop
  | .yJ text at_ out, r => Ok (z5G (Trip Tryz.prog) [] [(hX r.1 r.2.1 (List.map zB.toD r.2.2))]) (kL Tryz.f14 0) ⟨56, [(0, .hp 0 0)], [], [(hX text at_ (List.map zB.toD out))], 0⟩
theorem y0x : ∀ i r, z1S z2Q i = some r → z6q i r := by
  refine wM z6s fun g ih i => ?_
  cases i with
  | yJ text at_ out =>
    have ih_lex_reader_skip_L0 := fun text at_ out r h => ih (.yJ text at_ out) r h
    intro r h
    replace h : z0x (fun text at_ out => g (z2P.yJ text at_ out)) text at_ out = some r := h
    unfold z0x at h
    refine z4a 1000 (y0K _ _ _ _ text at_ out) ?_
    rintro _ rfl
    rintro _ rfl
    refine zD decide_eq_true_iff h (fun _ h => ?_) (fun _ h => ?_)
    ·
      obtain ⟨c, hx, h⟩ := zC h
      refine ⟨z4f hx, c, y9B hx, ?_⟩
      rintro _ rfl
      rintro _ rfl
      refine zD beq_iff_eq h (fun _ h => ?_) (fun _ h => ?_)
      ·
        rintro _ rfl
        exact ih_lex_reader_skip_L0 _ _ _ _ h
      rintro _ rfl
      refine zD beq_iff_eq h (fun _ h => ?_) (fun _ h => ?_)
      ·
        rintro _ rfl
        exact ih_lex_reader_skip_L0 _ _ _ _ h
      rintro _ rfl
      refine zD beq_iff_eq h (fun _ h => ?_) (fun _ h => ?_)
      ·
        rintro _ rfl
        exact ih_lex_reader_skip_L0 _ _ _ _ h
      rintro _ rfl
      refine zD beq_iff_eq h (fun _ h => ?_) (fun _ h => ?_)
      ·
        rintro _ rfl
        exact ih_lex_reader_skip_L0 _ _ _ _ h
      rintro _ rfl
      refine zD beq_iff_eq h (fun _ h => ?_) (fun _ h => ?_)
      ·
        obtain ⟨q1, g, h⟩ := zC h
        refine ⟨_, z7H _ _ _ _ _ g, ?_⟩
        rintro _ rfl
        refine zD beq_iff_eq h (fun _ h => ?_) (fun _ h => ?_)
        ·
          obtain ⟨q2, g, h⟩ := zC h
          refine ⟨_, _, _, _, z5U _ _ _ _ g, ?_⟩
          exact ih_lex_reader_skip_L0 _ _ _ _ h
        cases h; exact ⟨rfl, rfl⟩
      cases h; exact ⟨rfl, rfl⟩
    cases h; exact ⟨rfl, rfl⟩
theorem y0B (text : Str) (at_ : Int) (out : List zB) (r : Str × Int × List zB) (h : yJ text at_ out = some r) : z6q (.yJ text at_ out) r := y0x (.yJ text at_ out) r h
theorem z8g (text : Str) (at_ : Int) (out : List zB) (r : Str × Int × List zB) (h : z2S text at_ out = some r) : Trip Tryz.prog 14 [.hp 0 0] [(hX text at_ (List.map zB.toD out))] [] [(hX r.1 r.2.1 (List.map zB.toD r.2.2))] := by
  unfold z2S at h
  refine zW 1000 (by kernel_rfl) (by kernel_rfl) (by kernel_rfl) (by kernel_rfl) (by kernel_rfl) (y3J _ _ _ _ text at_ out) ?_
  exact y0B _ _ _ _ h
def z9j : (i : z5l) → z6G i → Prop
  | .uL text text1 at_ out, r => Ok (z9Z (Trip Tryz.prog) (hU (List.map zB.toD r.1) r.2.1 r.2.2) []) (kL Tryz.f8 5) ⟨45, [(0, (nS text)), (5, .hp 0 0)], [], [(hX text1 at_ (List.map zB.toD out))], 0⟩
theorem y7j : ∀ i r, z1S z5b i = some r → z9j i r := by
  refine wM z9A fun g ih i => ?_
  cases i with
  | uL text text1 at_ out =>
    have ih_lex_Tokens_L5 := fun text text1 at_ out r h => ih (.uL text text1 at_ out) r h
    intro r h
    replace h : z2X (fun text text1 at_ out => g (z5l.uL text text1 at_ out)) text text1 at_ out = some r := h
    unfold z2X at h
    refine z4a 1000 (y5M _ _ _ _ text text1 at_ out) ?_
    rintro _ rfl
    rintro _ rfl
    refine zD decide_eq_true_iff h (fun _ h => ?_) (fun _ h => ?_)
    ·
      obtain ⟨q1, g, h⟩ := zC h
      refine ⟨_, _, _, _, y4P _ _ _ _ g, ?_⟩
      rintro _ rfl
      refine zU beq_iff_eq h (fun _ h => ?_) (fun _ h => ?_)
      ·
        obtain ⟨q2, g, h⟩ := zC h
        refine ⟨_, _, _, z8g _ _ _ _ g, ?_⟩
        exact ih_lex_Tokens_L5 _ _ _ _ _ h
      cases h; exact ⟨rfl, rfl⟩
    obtain ⟨q3, g, h⟩ := zC h
    refine ⟨_, _, _, z3m _ _ _ _ _ _ _ _ g, ?_⟩
    cases h; exact ⟨rfl, rfl⟩
theorem y7g (text text1 : Str) (at_ : Int) (out : List zB) (r : List zB × Int × Int) (h : uL text text1 at_ out = some r) : z9j (.uL text text1 at_ out) r := y7j (.uL text text1 at_ out) r h
theorem v0e (text : Str) (r : List zB × Int × Int) (h : z8e text = some r) : Trip Tryz.prog 8 [(nS text)] [] (hU (List.map zB.toD r.1) r.2.1 r.2.2) [] := by
  unfold z8e at h
  refine zW 1000 (by kernel_rfl) (by kernel_rfl) (by kernel_rfl) (by kernel_rfl) (by kernel_rfl) (y9A _ _ _ _ text) ?_
  rintro _ rfl
  rintro _ rfl
  refine zD decide_eq_true_iff h (fun _ h => ?_) (fun _ h => ?_)
  ·
    cases h; exact ⟨rfl, rfl⟩
  obtain ⟨q1, g, h⟩ := zC h
  refine ⟨_, _, _, z8g _ _ _ _ g, ?_⟩
  exact y7g _ _ _ _ _ h
theorem y4U (path : List Int) (v : zE) (size depth : Int) (r : Int × Int) (h : z5O path v size depth = some r) : Trip Tryz.prog 23 [.hp 0 0, .d (.sl (List.map (D.int .i64) path)), .d (gT v.K v.N v.S (List.map zE.toD v.L) v.From v.To)] [[(nI size), (nI depth)]] [] [[(nI r.1), (nI r.2)]] := by
  unfold z5O at h
  refine zW 1000 (by kernel_rfl) (by kernel_rfl) (by kernel_rfl) (by kernel_rfl) (by kernel_rfl) (y5m _ _ _ _ path v size depth) ?_
  rintro _ rfl
  refine z2g (e' := (List.length path : Int)) (by first | rfl | rw [List.length_map]) ?_
  rintro _ rfl
  rintro _ rfl
  cases h; exact ⟨rfl, rfl⟩
def z6a : (i : gH) → z3y i → Prop
  | .yF t path size depth, r => Trip Tryz.prog 22 [.d (gT t.K t.N t.S (List.map zE.toD t.L) t.From t.To), .d (.sl (List.map (D.int .i64) path)), .fn 23 [.hp 0 0] []] [[(nI size), (nI depth)]] [] [[(nI r.1), (nI r.2)]]
  | .zP path v13 v14 v15 size depth, r => Ok (z3D (Trip Tryz.prog) [] [[(nI r.1), (nI r.2)]]) (kL Tryz.f22 3) ⟨33, [(1, .d (.sl (List.map (D.int .i64) path))), (2, .fn 23 [.hp 0 0] []), (13, .d (.sl (List.map zE.toD v13))), (14, (nI v14)), (15, (nI v15))], [], [[(nI size), (nI depth)]], 0⟩
theorem z9G : ∀ i r, z1S z0O i = some r → z6a i r := by
  refine wM z3I fun g ih i => ?_
  cases i with
  | yF t path size depth =>
    have ih_term_walk_meter_see_L3 := fun path v13 v14 v15 size depth r h => ih (.zP path v13 v14 v15 size depth) r h
    intro r h
    replace h : z0P (fun path v13 v14 v15 size depth => g (gH.zP path v13 v14 v15 size depth)) t path size depth = some r := h
    unfold z0P at h
    refine zW 1000 (by kernel_rfl) (by kernel_rfl) (by kernel_rfl) (by kernel_rfl) (by kernel_rfl) (z9H _ _ _ _ t path size depth) ?_
    obtain ⟨q1, g, h⟩ := zC h
    refine ⟨_, _, y4U _ _ _ _ _ g, ?_⟩
    refine z2g (e' := (List.length t.L : Int)) (by first | rfl | rw [List.length_map]) ?_
    exact ih_term_walk_meter_see_L3 _ _ _ _ _ _ _ h
  | zP path v13 v14 v15 size depth =>
    have ih_term_walk_meter_see := fun t path size depth r h => ih (.yF t path size depth) r h
    have ih_term_walk_meter_see_L3 := fun path v13 v14 v15 size depth r h => ih (.zP path v13 v14 v15 size depth) r h
    intro r h
    replace h : gC (fun t path size depth => g (gH.yF t path size depth)) (fun path v13 v14 v15 size depth => g (gH.zP path v13 v14 v15 size depth)) path v13 v14 v15 size depth = some r := h
    unfold gC at h
    refine z4a 1000 (z7P _ _ _ _ path v13 v14 v15 size depth) ?_
    rintro _ rfl
    refine zD decide_eq_true_iff h (fun _ h => ?_) (fun _ h => ?_)
    ·
      obtain ⟨x, hx, h⟩ := zC h
      refine ⟨gN (l := v13) (zE.sz), z4f hx, x.K, x.N, x.S, List.map zE.toD x.L, x.From, x.To, z1Y (zE.toD_eq x) hx, ?_⟩
      refine z2g (e' := (List.length path : Int)) (by first | rfl | rw [List.length_map]) ?_
      refine z2g (e' := (List.length path : Int)) (by first | rfl | rw [List.length_map]) ?_
      refine ⟨gN (l := path) (fun _ => rfl), ?_⟩
      obtain ⟨hP, h⟩ := jZ h
      refine ⟨by first | exact hP | simpa using hP, ?_⟩
      obtain ⟨hP, h⟩ := jZ h
      refine ⟨by first | exact hP | simpa using hP, ?_⟩
      obtain ⟨hP, h⟩ := jZ h
      refine ⟨by first | exact hP | simpa using hP, ?_⟩
      obtain ⟨hP, h⟩ := jZ h
      refine ⟨by first | exact hP | simpa using hP, ?_⟩
      obtain ⟨hP, h⟩ := jZ h
      refine ⟨by first | exact hP | simpa using hP, ?_⟩
      refine z2g (e' := List.map (D.int .i64) (List.drop 0 (List.take (Int.toNat (List.length path : Int)) path))) (by first | rfl | simp only [List.map_append, List.map_cons, List.map_nil, List.map_take, List.map_drop, List.map_set, List.map_replicate, List.length_map]) ?_
      refine ⟨by simp [wB, D.cells], ?_⟩
      refine ⟨by first | rfl | decide | simp only [List.length_map, List.length_cons, List.length_nil, List.map_append, List.length_append], ?_⟩
      obtain ⟨hP, h⟩ := jZ h
      refine ⟨by first | exact hP | simpa using hP, ?_⟩
      refine z2g (e' := List.map (D.int .i64) ((List.drop 0 (List.take (Int.toNat (List.length path : Int)) path)) ++ [v15])) (by first | rfl | simp only [List.map_append, List.map_cons, List.map_nil, List.map_take, List.map_drop, List.map_set, List.map_replicate, List.length_map]) ?_
      obtain ⟨q1, g, h⟩ := zC h
      refine ⟨_, _, ih_term_walk_meter_see _ _ _ _ _ g, ?_⟩
      rintro _ rfl
      exact ih_term_walk_meter_see_L3 _ _ _ _ _ _ _ h
    cases h; exact ⟨rfl, rfl⟩
theorem z9p (t : zE) (path : List Int) (size depth : Int) (r : Int × Int) (h : yF t path size depth = some r) : z6a (.yF t path size depth) r := z9G (.yF t path size depth) r h
theorem v0K (t : zE) (r : Int) (h : z6C t = some r) : Trip Tryz.prog 10 [.d (gT t.K t.N t.S (List.map zE.toD t.L) t.From t.To)] [] [(nI r)] [] := by
  unfold z6C at h
  refine zW 1000 (by kernel_rfl) (by kernel_rfl) (by kernel_rfl) (by kernel_rfl) (by kernel_rfl) (v0u _ _ _ _ t) ?_
  obtain ⟨q1, g, h⟩ := zC h
  refine ⟨_, _, z9p _ _ _ _ _ g, ?_⟩
  cases h; exact ⟨rfl, rfl⟩
theorem y6H (t : zB) (r : Int × Int) (h : z4Q t = some r) : Trip Tryz.prog 100 [.d (gK t.K t.N t.S t.From t.To)] [] [(nI r.1), (nI r.2)] [] := by
  unfold z4Q at h
  refine zW 1000 (by kernel_rfl) (by kernel_rfl) (by kernel_rfl) (by kernel_rfl) (by kernel_rfl) (y6L _ _ _ _ t) ?_
  rintro _ rfl
  refine zU beq_iff_eq h (fun _ h => ?_) (fun _ h => ?_)
  ·
    rintro _ rfl
    refine zD beq_iff_eq h (fun _ h => ?_) (fun _ h => ?_)
    ·
      cases h; exact ⟨rfl, rfl⟩
    rintro _ rfl
    refine zD beq_iff_eq h (fun _ h => ?_) (fun _ h => ?_)
    ·
      cases h; exact ⟨rfl, rfl⟩
    rintro _ rfl
    refine zD beq_iff_eq h (fun _ h => ?_) (fun _ h => ?_)
    ·
      cases h; exact ⟨rfl, rfl⟩
    rintro _ rfl
    refine zD beq_iff_eq h (fun _ h => ?_) (fun _ h => ?_)
    ·
      cases h; exact ⟨rfl, rfl⟩
    rintro _ rfl
    refine zD beq_iff_eq h (fun _ h => ?_) (fun _ h => ?_)
    ·
      cases h; exact ⟨rfl, rfl⟩
    rintro _ rfl
    refine zD beq_iff_eq h (fun _ h => ?_) (fun _ h => ?_)
    ·
      cases h; exact ⟨rfl, rfl⟩
    rintro _ rfl
    refine zD beq_iff_eq h (fun _ h => ?_) (fun _ h => ?_)
    ·
      cases h; exact ⟨rfl, rfl⟩
    rintro _ rfl
    refine zD beq_iff_eq h (fun _ h => ?_) (fun _ h => ?_)
    ·
      cases h; exact ⟨rfl, rfl⟩
    rintro _ rfl
    refine zD beq_iff_eq h (fun _ h => ?_) (fun _ h => ?_)
    ·
      cases h; exact ⟨rfl, rfl⟩
    rintro _ rfl
    refine zD beq_iff_eq h (fun _ h => ?_) (fun _ h => ?_)
    ·
      cases h; exact ⟨rfl, rfl⟩
    rintro _ rfl
    refine zD beq_iff_eq h (fun _ h => ?_) (fun _ h => ?_)
    ·
      cases h; exact ⟨rfl, rfl⟩
    rintro _ rfl
    refine zD beq_iff_eq h (fun _ h => ?_) (fun _ h => ?_)
    ·
      cases h; exact ⟨rfl, rfl⟩
    rintro _ rfl
    refine zD beq_iff_eq h (fun _ h => ?_) (fun _ h => ?_)
    ·
      cases h; exact ⟨rfl, rfl⟩
    cases h; exact ⟨rfl, rfl⟩
  cases h; exact ⟨rfl, rfl⟩
theorem vB (t : zE) (from_ : Int) (t1 : List zB) (at_ e : Int) (r : zE) (h : yK t from_ t1 at_ e = some r) : Trip Tryz.prog 81 [.hp 0 0, .d (gT t.K t.N t.S (List.map zE.toD t.L) t.From t.To), (nI from_)] [(hU (List.map zB.toD t1) at_ e)] [.d (gT r.K r.N r.S (List.map zE.toD r.L) r.From r.To)] [(hU (List.map zB.toD t1) at_ e)] := by
  unfold yK at h
  refine zW 1000 (by kernel_rfl) (by kernel_rfl) (by kernel_rfl) (by kernel_rfl) (by kernel_rfl) (y2S _ _ _ _ t from_ t1 at_ e) ?_
  rintro _ rfl
  refine zD beq_iff_eq h (fun _ h => ?_) (fun _ h => ?_)
  ·
    obtain ⟨x, hx, h⟩ := zC h
    refine ⟨gN (l := t1) (zB.sz), z4f hx, x.K, x.N, x.S, x.From, x.To, z1Y (zB.toD_eq x) hx, ?_⟩
    rintro _ rfl
    obtain ⟨x1, hx, h⟩ := zC h
    refine ⟨gN (l := t1) (zB.sz), z4f hx, x1.K, x1.N, x1.S, x1.From, x1.To, z1Y (zB.toD_eq x1) hx, ?_⟩
    cases h; exact ⟨rfl, rfl⟩
  cases h; exact ⟨rfl, rfl⟩
theorem z1y (t : List zB) (at_ e : Int) (r : zB) (h : gO t at_ e = some r) : Trip Tryz.prog 80 [.hp 0 0] [(hU (List.map zB.toD t) at_ e)] [.d (gK r.K r.N r.S r.From r.To)] [(hU (List.map zB.toD t) at_ e)] := by
  unfold gO at h
  refine zW 1000 (by kernel_rfl) (by kernel_rfl) (by kernel_rfl) (by kernel_rfl) (by kernel_rfl) (y4e _ _ _ _ t at_ e) ?_
  refine z2g (e' := (List.length t : Int)) (by first | rfl | rw [List.length_map]) ?_
  rintro _ rfl
  refine zD decide_eq_true_iff h (fun _ h => ?_) (fun _ h => ?_)
  ·
    obtain ⟨x, hx, h⟩ := zC h
    refine ⟨gN (l := t) (zB.sz), z4f hx, x.K, x.N, x.S, x.From, x.To, z1Y (zB.toD_eq x) hx, ?_⟩
    cases h; exact ⟨rfl, rfl⟩
  cases h; exact ⟨rfl, rfl⟩
theorem gE (s : Str) (t : List zB) (at_ e : Int) (r : Bool) (h : uQ s t at_ e = some r) : Trip Tryz.prog 82 [.hp 0 0, (nS s)] [(hU (List.map zB.toD t) at_ e)] [(nB r)] [(hU (List.map zB.toD t) at_ e)] := by
  unfold uQ at h
  refine zW 1000 (by kernel_rfl) (by kernel_rfl) (by kernel_rfl) (by kernel_rfl) (by kernel_rfl) (y2I _ _ _ _ s t at_ e) ?_
  obtain ⟨q1, g, h⟩ := zC h
  refine ⟨_, _, _, _, _, z1y _ _ _ _ g, ?_⟩
  rintro _ rfl
  refine zD beq_iff_eq h (fun _ h => ?_) (fun _ h => ?_)
  ·
    rintro _ rfl
    cases h; exact ⟨rfl, rfl⟩
  cases h; exact ⟨rfl, rfl⟩
theorem z0i (t : List zB) (at_ e : Int) (r : List zB × Int × Int) (h : uP t at_ e = some r) : Trip Tryz.prog 83 [.hp 0 0] [(hU (List.map zB.toD t) at_ e)] [] [(hU (List.map zB.toD r.1) r.2.1 r.2.2)] := by
  unfold uP at h
  refine zW 1000 (by kernel_rfl) (by kernel_rfl) (by kernel_rfl) (by kernel_rfl) (by kernel_rfl) (y2C _ _ _ _ t at_ e) ?_
  rintro _ rfl
  refine zD beq_iff_eq h (fun _ h => ?_) (fun _ h => ?_)
  ·
    cases h; exact ⟨rfl, rfl⟩
  cases h; exact ⟨rfl, rfl⟩
theorem z0h (s : Str) (t : List zB) (at_ e : Int) (r : List zB × Int × Int) (h : wA s t at_ e = some r) : Trip Tryz.prog 84 [.hp 0 0, (nS s)] [(hU (List.map zB.toD t) at_ e)] [] [(hU (List.map zB.toD r.1) r.2.1 r.2.2)] := by
  unfold wA at h
  refine zW 1000 (by kernel_rfl) (by kernel_rfl) (by kernel_rfl) (by kernel_rfl) (by kernel_rfl) (y2k _ _ _ _ s t at_ e) ?_
  rintro _ rfl
  refine zU beq_iff_eq h (fun _ h => ?_) (fun _ h => ?_)
  ·
    obtain ⟨q1, g, h⟩ := zC h
    refine ⟨_, gE _ _ _ _ _ g, ?_⟩
    refine zU Iff.rfl h (fun _ h => ?_) (fun _ h => ?_)
    ·
      rintro _ rfl
      cases h; exact ⟨rfl, rfl⟩
    obtain ⟨q2, g, h⟩ := zC h
    refine ⟨_, _, _, z0i _ _ _ _ g, ?_⟩
    cases h; exact ⟨rfl, rfl⟩
  cases h; exact ⟨rfl, rfl⟩
theorem z4U (t : List zB) (at_ e : Int) (r : Str × List zB × Int × Int) (h : z0J t at_ e = some r) : Trip Tryz.prog 117 [.hp 0 0] [(hU (List.map zB.toD t) at_ e)] [(nS r.1)] [(hU (List.map zB.toD r.2.1) r.2.2.1 r.2.2.2)] := by
  unfold z0J at h
  refine zW 1000 (by kernel_rfl) (by kernel_rfl) (by kernel_rfl) (by kernel_rfl) (by kernel_rfl) (y3u _ _ _ _ t at_ e) ?_
  rintro _ rfl
  refine zU beq_iff_eq h (fun _ h => ?_) (fun _ h => ?_)
  ·
    obtain ⟨q1, g, h⟩ := zC h
    refine ⟨_, _, _, _, _, z1y _ _ _ _ g, ?_⟩
    rintro _ rfl
    refine zU beq_iff_eq h (fun _ h => ?_) (fun _ h => ?_)
    ·
      rintro _ rfl
      cases h; exact ⟨rfl, rfl⟩
    obtain ⟨q2, g, h⟩ := zC h
    refine ⟨_, _, _, z0i _ _ _ _ g, ?_⟩
    cases h; exact ⟨rfl, rfl⟩
  cases h; exact ⟨rfl, rfl⟩
def z4N : (i : zL) → z4Y i → Prop
  | .zK t at_ e, r => Trip Tryz.prog 79 [.hp 0 0] [(hU (List.map zB.toD t) at_ e)] [.d (gT r.1.K r.1.N r.1.S (List.map zE.toD r.1.L) r.1.From r.1.To)] [(hU (List.map zB.toD r.2.1) r.2.2.1 r.2.2.2)]
  | .zZ least t at_ e, r => Trip Tryz.prog 93 [.hp 0 0, (nI least)] [(hU (List.map zB.toD t) at_ e)] [.d (gT r.1.K r.1.N r.1.S (List.map zE.toD r.1.L) r.1.From r.1.To)] [(hU (List.map zB.toD r.2.1) r.2.2.1 r.2.2.2)]
  | .zT least from_ most o4 left t at_ e, r => Ok (z4u (Trip Tryz.prog) [.d (gT r.1.K r.1.N r.1.S (List.map zE.toD r.1.L) r.1.From r.1.To)] [(hU (List.map zB.toD r.2.1) r.2.2.1 r.2.2.2)]) (kL Tryz.f93 4) ⟨63, [(0, .hp 0 0), (1, (nI least)), (4, .ref 4 1 0), (5, (nI from_)), (6, .ref 6 1 0), (7, (nI most))], [(4, 1, some (.agg (gT o4.K o4.N o4.S (List.map zE.toD o4.L) o4.From o4.To))), (6, 1, some (.agg (gT left.K left.N left.S (List.map zE.toD left.L) left.From left.To)))], [(hU (List.map zB.toD t) at_ e)], 0⟩
  | .yU t at_ e, r => Trip Tryz.prog 99 [.hp 0 0] [(hU (List.map zB.toD t) at_ e)] [.d (gT r.1.K r.1.N r.1.S (List.map zE.toD r.1.L) r.1.From r.1.To)] [(hU (List.map zB.toD r.2.1) r.2.2.1 r.2.2.2)]
  | .vI t at_ e, r => Trip Tryz.prog 111 [.hp 0 0] [(hU (List.map zB.toD t) at_ e)] [.d (gT r.1.K r.1.N r.1.S (List.map zE.toD r.1.L) r.1.From r.1.To)] [(hU (List.map zB.toD r.2.1) r.2.2.1 r.2.2.2)]
  | .yA from_ o2 x t at_ e, r => Ok (z5a (Trip Tryz.prog) [.d (gT r.1.K r.1.N r.1.S (List.map zE.toD r.1.L) r.1.From r.1.To)] [(hU (List.map zB.toD r.2.1) r.2.2.1 r.2.2.2)]) (kL Tryz.f111 3) ⟨57, [(0, .hp 0 0), (2, .ref 2 1 0), (3, (nI from_)), (4, .ref 4 1 0)], [(2, 1, some (.agg (gT o2.K o2.N o2.S (List.map zE.toD o2.L) o2.From o2.To))), (4, 1, some (.agg (gT x.K x.N x.S (List.map zE.toD x.L) x.From x.To)))], [(hU (List.map zB.toD t) at_ e)], 0⟩
  | .yC t at_ e, r => Trip Tryz.prog 116 [.hp 0 0] [(hU (List.map zB.toD t) at_ e)] [.d (gT r.1.K r.1.N r.1.S (List.map zE.toD r.1.L) r.1.From r.1.To)] [(hU (List.map zB.toD r.2.1) r.2.2.1 r.2.2.2)]
  | .zY few t at_ e, r => Trip Tryz.prog 118 [.hp 0 0, (nB few)] [(hU (List.map zB.toD t) at_ e)] [.d (.sl (List.map zE.toD r.1))] [(hU (List.map zB.toD r.2.1) r.2.2.1 r.2.2.2)]
  | .wN s from_ t at_ e, r => Trip Tryz.prog 119 [.hp 0 0, (nS s), (nI from_)] [(hU (List.map zB.toD t) at_ e)] [.d (gT r.1.K r.1.N r.1.S (List.map zE.toD r.1.L) r.1.From r.1.To)] [(hU (List.map zB.toD r.2.1) r.2.2.1 r.2.2.2)]
  | .vN s from_ t at_ e, r => Trip Tryz.prog 120 [.hp 0 0, (nS s), (nI from_)] [(hU (List.map zB.toD t) at_ e)] [.d (gT r.1.K r.1.N r.1.S (List.map zE.toD r.1.L) r.1.From r.1.To)] [(hU (List.map zB.toD r.2.1) r.2.2.1 r.2.2.2)]
  | .zM t at_ e, r => Trip Tryz.prog 121 [.hp 0 0, .fn 79 [.hp 0 0] []] [(hU (List.map zB.toD t) at_ e)] [.d (.sl (List.map zE.toD r.1))] [(hU (List.map zB.toD r.2.1) r.2.2.1 r.2.2.2)]
  | .zJ out t at_ e, r => Ok (z1E (Trip Tryz.prog) [.d (.sl (List.map zE.toD r.1))] [(hU (List.map zB.toD r.2.1) r.2.2.1 r.2.2.2)]) (kL Tryz.f121 2) ⟨31, [(0, .hp 0 0), (1, .fn 79 [.hp 0 0] []), (5, .right 8 1 6 (List.map zE.toD out))], [(8, 1, some (.tok 6 (List.length (List.map zE.toD out))))], [(hU (List.map zB.toD t) at_ e)], 0⟩
theorem y2E : ∀ i r, z1S yI i = some r → z4N i r := by
  refine wM uN fun g ih i => ?_
  cases i with
  | zK t at_ e =>
    have ih_expr_parser_level := fun least t at_ e r h => ih (.zZ least t at_ e) r h
    intro r h
    replace h : z1I (fun least t at_ e => g (zL.zZ least t at_ e)) t at_ e = some r := h
    unfold z1I at h
    refine zW 1000 (by kernel_rfl) (by kernel_rfl) (by kernel_rfl) (by kernel_rfl) (by kernel_rfl) (y3j _ _ _ _ t at_ e) ?_
    obtain ⟨q1, g, h⟩ := zC h
    refine ⟨_, _, _, _, _, _, _, _, _, ih_expr_parser_level _ _ _ _ _ g, ?_⟩
    cases h; exact ⟨rfl, rfl⟩
  | zZ least t at_ e =>
    have ih_expr_parser_level_L4 := fun least from_ most o4 left t at_ e r h => ih (.zT least from_ most o4 left t at_ e) r h
    have ih_expr_parser_un := fun t at_ e r h => ih (.yU t at_ e) r h
    intro r h
    replace h : z0p (fun least from_ most o4 left t at_ e => g (zL.zT least from_ most o4 left t at_ e)) (fun t at_ e => g (zL.yU t at_ e)) least t at_ e = some r := h
    unfold z0p at h
    refine zW 1000 (by kernel_rfl) (by kernel_rfl) (by kernel_rfl) (by kernel_rfl) (by kernel_rfl) (y1h _ _ _ _ least t at_ e) ?_
    obtain ⟨q1, g, h⟩ := zC h
    refine ⟨_, _, _, _, _, _, _, _, _, ih_expr_parser_un _ _ _ _ g, ?_⟩
    exact ih_expr_parser_level_L4 _ _ _ _ _ _ _ _ _ h
  | zT least from_ most o4 left t at_ e =>
    have ih_expr_parser_level := fun least t at_ e r h => ih (.zZ least t at_ e) r h
    have ih_expr_parser_level_L4 := fun least from_ most o4 left t at_ e r h => ih (.zT least from_ most o4 left t at_ e) r h
    intro r h
    replace h : uO (fun least t at_ e => g (zL.zZ least t at_ e)) (fun least from_ most o4 left t at_ e => g (zL.zT least from_ most o4 left t at_ e)) least from_ most o4 left t at_ e = some r := h
    unfold uO at h
    refine z4a 1000 (z8U _ _ _ _ least from_ most o4 left t at_ e) ?_
    rintro _ rfl
    refine zD beq_iff_eq h (fun _ h => ?_) (fun _ h => ?_)
    ·
      obtain ⟨q1, g, h⟩ := zC h
      refine ⟨_, _, _, _, _, z1y _ _ _ _ g, ?_⟩
      obtain ⟨q2, g, h⟩ := zC h
      refine ⟨_, _, ⟨_, y6H _ _ g⟩, ?_⟩
      rintro _ rfl
      refine zD decide_eq_true_iff h (fun _ h => ?_) (fun _ h => ?_)
      ·
        cases h; exact ⟨rfl, rfl⟩
      rintro _ rfl
      refine zD beq_iff_eq h (fun _ h => ?_) (fun _ h => ?_)
      ·
        cases h; exact ⟨rfl, rfl⟩
      rintro _ rfl
      refine zD decide_eq_true_iff h (fun _ h => ?_) (fun _ h => ?_)
      ·
        cases h; exact ⟨rfl, rfl⟩
      rintro _ rfl
      rintro _ rfl
      obtain ⟨q3, g, h⟩ := zC h
      refine ⟨_, _, _, _, _, _, _, _, _, ih_expr_parser_level _ _ _ _ _ g, ?_⟩
      obtain ⟨q4, g, h⟩ := zC h
      have hT := vB _ _ _ _ _ _ g
      simp only [List.map_cons, List.map_nil, zE.toD_eq] at hT
      refine ⟨_, _, _, _, _, _, hT, ?_⟩
      rintro _ rfl
      refine zD beq_iff_eq h (fun _ h => ?_) (fun _ h => ?_)
      ·
        exact ih_expr_parser_level_L4 _ _ _ _ _ _ _ _ _ h
      exact ih_expr_parser_level_L4 _ _ _ _ _ _ _ _ _ h
    cases h; exact ⟨rfl, rfl⟩
  | yU t at_ e =>
    have ih_expr_parser_un := fun t at_ e r h => ih (.yU t at_ e) r h
    have ih_expr_parser_post := fun t at_ e r h => ih (.vI t at_ e) r h
    intro r h
    replace h : z0E (fun t at_ e => g (zL.yU t at_ e)) (fun t at_ e => g (zL.vI t at_ e)) t at_ e = some r := h
    unfold z0E at h
    refine zW 1000 (by kernel_rfl) (by kernel_rfl) (by kernel_rfl) (by kernel_rfl) (by kernel_rfl) (y5e _ _ _ _ t at_ e) ?_
    rintro _ rfl
    refine zU beq_iff_eq h (fun _ h => ?_) (fun _ h => ?_)
    ·
      obtain ⟨q1, g, h⟩ := zC h
      refine ⟨_, gE _ _ _ _ _ g, ?_⟩
      refine zD Iff.rfl h (fun _ h => ?_) (fun _ h => ?_)
      ·
        rintro _ rfl
        refine zD beq_iff_eq h (fun _ h => ?_) (fun _ h => ?_)
        ·
          obtain ⟨q2, g, h⟩ := zC h
          refine ⟨_, _, _, _, _, _, _, _, _, ih_expr_parser_post _ _ _ _ g, ?_⟩
          cases h; exact ⟨rfl, rfl⟩
        rintro _ rfl
        obtain ⟨q3, g, h⟩ := zC h
        refine ⟨_, _, _, _, _, _, _, _, _, ih_expr_parser_un _ _ _ _ g, ?_⟩
        obtain ⟨q4, g, h⟩ := zC h
        have hT := vB _ _ _ _ _ _ g
        simp only [List.map_cons, List.map_nil, zE.toD_eq] at hT
        refine ⟨_, _, _, _, _, _, hT, ?_⟩
        cases h; exact ⟨rfl, rfl⟩
      obtain ⟨q5, g, h⟩ := zC h
      refine ⟨_, gE _ _ _ _ _ g, ?_⟩
      refine zD Iff.rfl h (fun _ h => ?_) (fun _ h => ?_)
      ·
        rintro _ rfl
        refine zD beq_iff_eq h (fun _ h => ?_) (fun _ h => ?_)
        ·
          obtain ⟨q6, g, h⟩ := zC h
          refine ⟨_, _, _, _, _, _, _, _, _, ih_expr_parser_post _ _ _ _ g, ?_⟩
          cases h; exact ⟨rfl, rfl⟩
        rintro _ rfl
        obtain ⟨q7, g, h⟩ := zC h
        refine ⟨_, _, _, _, _, _, _, _, _, ih_expr_parser_un _ _ _ _ g, ?_⟩
        obtain ⟨q8, g, h⟩ := zC h
        have hT := vB _ _ _ _ _ _ g
        simp only [List.map_cons, List.map_nil, zE.toD_eq] at hT
        refine ⟨_, _, _, _, _, _, hT, ?_⟩
        cases h; exact ⟨rfl, rfl⟩
      rintro _ rfl
      refine zD beq_iff_eq h (fun _ h => ?_) (fun _ h => ?_)
      ·
        obtain ⟨q9, g, h⟩ := zC h
        refine ⟨_, _, _, _, _, _, _, _, _, ih_expr_parser_post _ _ _ _ g, ?_⟩
        cases h; exact ⟨rfl, rfl⟩
      rintro _ rfl
      obtain ⟨q10, g, h⟩ := zC h
      refine ⟨_, _, _, _, _, _, _, _, _, ih_expr_parser_un _ _ _ _ g, ?_⟩
      obtain ⟨q11, g, h⟩ := zC h
      have hT := vB _ _ _ _ _ _ g
      simp only [List.map_cons, List.map_nil, zE.toD_eq] at hT
      refine ⟨_, _, _, _, _, _, hT, ?_⟩
      cases h; exact ⟨rfl, rfl⟩
    cases h; exact ⟨rfl, rfl⟩
  | vI t at_ e =>
    have ih_expr_parser_post_L3 := fun from_ o2 x t at_ e r h => ih (.yA from_ o2 x t at_ e) r h
    have ih_expr_parser_atom := fun t at_ e r h => ih (.yC t at_ e) r h
    intro r h
    replace h : z1a (fun from_ o2 x t at_ e => g (zL.yA from_ o2 x t at_ e)) (fun t at_ e => g (zL.yC t at_ e)) t at_ e = some r := h
    unfold z1a at h
    refine zW 1000 (by kernel_rfl) (by kernel_rfl) (by kernel_rfl) (by kernel_rfl) (by kernel_rfl) (y3D _ _ _ _ t at_ e) ?_
    obtain ⟨q1, g, h⟩ := zC h
    refine ⟨_, _, _, _, _, _, _, _, _, ih_expr_parser_atom _ _ _ _ g, ?_⟩
    exact ih_expr_parser_post_L3 _ _ _ _ _ _ _ h
  | yA from_ o2 x t at_ e =>
    have ih_expr_parser_expr := fun t at_ e r h => ih (.zK t at_ e) r h
    have ih_expr_parser_post_L3 := fun from_ o2 x t at_ e r h => ih (.yA from_ o2 x t at_ e) r h
    intro r h
    replace h : wS (fun t at_ e => g (zL.zK t at_ e)) (fun from_ o2 x t at_ e => g (zL.yA from_ o2 x t at_ e)) from_ o2 x t at_ e = some r := h
    unfold wS at h
    refine z4a 1000 (z9U _ _ _ _ from_ o2 x t at_ e) ?_
    rintro _ rfl
    refine zD beq_iff_eq h (fun _ h => ?_) (fun _ h => ?_)
    ·
      obtain ⟨q1, g, h⟩ := zC h
      refine ⟨_, gE _ _ _ _ _ g, ?_⟩
      refine zD Iff.rfl h (fun _ h => ?_) (fun _ h => ?_)
      ·
        rintro _ rfl
        obtain ⟨q2, g, h⟩ := zC h
        refine ⟨_, _, _, _, _, _, _, _, _, ih_expr_parser_expr _ _ _ _ g, ?_⟩
        obtain ⟨q3, g, h⟩ := zC h
        refine ⟨_, _, _, z0h _ _ _ _ _ g, ?_⟩
        obtain ⟨q4, g, h⟩ := zC h
        have hT := vB _ _ _ _ _ _ g
        simp only [List.map_cons, List.map_nil, zE.toD_eq] at hT
        refine ⟨_, _, _, _, _, _, hT, ?_⟩
        exact ih_expr_parser_post_L3 _ _ _ _ _ _ _ h
      obtain ⟨q5, g, h⟩ := zC h
      refine ⟨_, gE _ _ _ _ _ g, ?_⟩
      refine zD Iff.rfl h (fun _ h => ?_) (fun _ h => ?_)
      ·
        rintro _ rfl
        obtain ⟨q6, g, h⟩ := zC h
        refine ⟨_, _, _, _, z4U _ _ _ _ g, ?_⟩
        obtain ⟨q7, g, h⟩ := zC h
        have hT := vB _ _ _ _ _ _ g
        simp only [List.map_cons, List.map_nil, zE.toD_eq] at hT
        refine ⟨_, _, _, _, _, _, hT, ?_⟩
        exact ih_expr_parser_post_L3 _ _ _ _ _ _ _ h
      cases h; exact ⟨rfl, rfl⟩
    cases h; exact ⟨rfl, rfl⟩
  | yC t at_ e =>
    have ih_expr_parser_args := fun few t at_ e r h => ih (.zY few t at_ e) r h
    have ih_expr_parser_word := fun s from_ t at_ e r h => ih (.wN s from_ t at_ e) r h
    have ih_expr_parser_bracket := fun s from_ t at_ e r h => ih (.vN s from_ t at_ e) r h
    intro r h
    replace h : gF (fun few t at_ e => g (zL.zY few t at_ e)) (fun s from_ t at_ e => g (zL.wN s from_ t at_ e)) (fun s from_ t at_ e => g (zL.vN s from_ t at_ e)) t at_ e = some r := h
    unfold gF at h
    refine zW 1000 (by kernel_rfl) (by kernel_rfl) (by kernel_rfl) (by kernel_rfl) (by kernel_rfl) (y2g _ _ _ _ t at_ e) ?_
    rintro _ rfl
    refine zU beq_iff_eq h (fun _ h => ?_) (fun _ h => ?_)
    ·
      obtain ⟨q1, g, h⟩ := zC h
      refine ⟨_, _, _, _, _, z1y _ _ _ _ g, ?_⟩
      rintro _ rfl
      refine zD beq_iff_eq h (fun _ h => ?_) (fun _ h => ?_)
      ·
        rintro _ rfl
        obtain ⟨q2, g, h⟩ := zC h
        refine ⟨_, _, _, _, _, _, vB _ _ _ _ _ _ g, ?_⟩
        cases h; exact ⟨rfl, rfl⟩
      rintro _ rfl
      refine zD beq_iff_eq h (fun _ h => ?_) (fun _ h => ?_)
      ·
        rintro _ rfl
        obtain ⟨q3, g, h⟩ := zC h
        refine ⟨_, gE _ _ _ _ _ g, ?_⟩
        refine zD Iff.rfl h (fun _ h => ?_) (fun _ h => ?_)
        ·
          obtain ⟨q4, g, h⟩ := zC h
          refine ⟨_, _, _, _, ih_expr_parser_args _ _ _ _ _ g, ?_⟩
          obtain ⟨q5, g, h⟩ := zC h
          refine ⟨_, _, _, _, _, _, vB _ _ _ _ _ _ g, ?_⟩
          cases h; exact ⟨rfl, rfl⟩
        obtain ⟨q6, g, h⟩ := zC h
        refine ⟨_, _, _, _, _, _, vB _ _ _ _ _ _ g, ?_⟩
        cases h; exact ⟨rfl, rfl⟩
      rintro _ rfl
      refine zD beq_iff_eq h (fun _ h => ?_) (fun _ h => ?_)
      ·
        obtain ⟨q7, g, h⟩ := zC h
        refine ⟨_, _, _, _, _, _, _, _, _, ih_expr_parser_word _ _ _ _ _ _ g, ?_⟩
        cases h; exact ⟨rfl, rfl⟩
      rintro _ rfl
      refine zD beq_iff_eq h (fun _ h => ?_) (fun _ h => ?_)
      ·
        obtain ⟨q8, g, h⟩ := zC h
        refine ⟨_, _, _, _, _, _, _, _, _, ih_expr_parser_bracket _ _ _ _ _ _ g, ?_⟩
        cases h; exact ⟨rfl, rfl⟩
      obtain ⟨q9, g, h⟩ := zC h
      refine ⟨_, _, _, z0i _ _ _ _ g, ?_⟩
      cases h; exact ⟨rfl, rfl⟩
    cases h; exact ⟨rfl, rfl⟩
  | zY few t at_ e =>
    have ih_expr_parser_list_parser_expr := fun t at_ e r h => ih (.zM t at_ e) r h
    intro r h
    replace h : z0b (fun t at_ e => g (zL.zM t at_ e)) few t at_ e = some r := h
    unfold z0b at h
    refine zW 1000 (by kernel_rfl) (by kernel_rfl) (by kernel_rfl) (by kernel_rfl) (by kernel_rfl) (y2A _ _ _ _ few t at_ e) ?_
    obtain ⟨q1, g, h⟩ := zC h
    refine ⟨_, _, _, z0h _ _ _ _ _ g, ?_⟩
    rintro _ rfl
    refine zD beq_iff_eq h (fun _ h => ?_) (fun _ h => ?_)
    ·
      refine zD Iff.rfl h (fun _ h => ?_) (fun _ h => ?_)
      ·
        obtain ⟨q2, g, h⟩ := zC h
        refine ⟨_, gE _ _ _ _ _ g, ?_⟩
        refine zD Iff.rfl h (fun _ h => ?_) (fun _ h => ?_)
        ·
          rintro _ rfl
          cases h; exact ⟨rfl, rfl⟩
        obtain ⟨q3, g, h⟩ := zC h
        refine ⟨_, _, _, _, ih_expr_parser_list_parser_expr _ _ _ _ g, ?_⟩
        obtain ⟨q4, g, h⟩ := zC h
        refine ⟨_, _, _, z0h _ _ _ _ _ g, ?_⟩
        cases h; exact ⟨rfl, rfl⟩
      obtain ⟨q5, g, h⟩ := zC h
      refine ⟨_, _, _, _, ih_expr_parser_list_parser_expr _ _ _ _ g, ?_⟩
      obtain ⟨q6, g, h⟩ := zC h
      refine ⟨_, _, _, z0h _ _ _ _ _ g, ?_⟩
      cases h; exact ⟨rfl, rfl⟩
    obtain ⟨q7, g, h⟩ := zC h
    refine ⟨_, _, _, _, ih_expr_parser_list_parser_expr _ _ _ _ g, ?_⟩
    obtain ⟨q8, g, h⟩ := zC h
    refine ⟨_, _, _, z0h _ _ _ _ _ g, ?_⟩
    cases h; exact ⟨rfl, rfl⟩
  | wN s from_ t at_ e =>
    have ih_expr_parser_args := fun few t at_ e r h => ih (.zY few t at_ e) r h
    intro r h
    replace h : jO (fun few t at_ e => g (zL.zY few t at_ e)) s from_ t at_ e = some r := h
    unfold jO at h
    refine zW 1000 (by kernel_rfl) (by kernel_rfl) (by kernel_rfl) (by kernel_rfl) (by kernel_rfl) (y2Q _ _ _ _ s from_ t at_ e) ?_
    rintro _ rfl
    rintro _ rfl
    refine zD beq_iff_eq h (fun _ h => ?_) (fun _ h => ?_)
    ·
      obtain ⟨q1, g, h⟩ := zC h
      refine ⟨_, _, _, _, _, _, vB _ _ _ _ _ _ g, ?_⟩
      cases h; exact ⟨rfl, rfl⟩
    rintro _ rfl
    refine zD beq_iff_eq h (fun _ h => ?_) (fun _ h => ?_)
    ·
      obtain ⟨q2, g, h⟩ := zC h
      refine ⟨_, _, _, _, _, _, vB _ _ _ _ _ _ g, ?_⟩
      cases h; exact ⟨rfl, rfl⟩
    rintro _ rfl
    refine zD beq_iff_eq h (fun _ h => ?_) (fun _ h => ?_)
    ·
      obtain ⟨q3, g, h⟩ := zC h
      refine ⟨_, _, _, _, _, _, vB _ _ _ _ _ _ g, ?_⟩
      cases h; exact ⟨rfl, rfl⟩
    rintro _ rfl
    refine zD beq_iff_eq h (fun _ h => ?_) (fun _ h => ?_)
    ·
      obtain ⟨q4, g, h⟩ := zC h
      refine ⟨_, _, _, _, z4U _ _ _ _ g, ?_⟩
      obtain ⟨q5, g, h⟩ := zC h
      refine ⟨_, _, _, _, ih_expr_parser_args _ _ _ _ _ g, ?_⟩
      obtain ⟨q6, g, h⟩ := zC h
      refine ⟨_, _, _, _, _, _, vB _ _ _ _ _ _ g, ?_⟩
      cases h; exact ⟨rfl, rfl⟩
    rintro _ rfl
    obtain ⟨q7, g, h⟩ := zC h
    refine ⟨_, _, _, z0i _ _ _ _ g, ?_⟩
    cases h; exact ⟨rfl, rfl⟩
  | vN s from_ t at_ e =>
    have ih_expr_parser_expr := fun t at_ e r h => ih (.zK t at_ e) r h
    have ih_expr_parser_args := fun few t at_ e r h => ih (.zY few t at_ e) r h
    have ih_expr_parser_list_parser_expr := fun t at_ e r h => ih (.zM t at_ e) r h
    intro r h
    replace h : vY (fun t at_ e => g (zL.zK t at_ e)) (fun few t at_ e => g (zL.zY few t at_ e)) (fun t at_ e => g (zL.zM t at_ e)) s from_ t at_ e = some r := h
    unfold vY at h
    refine zW 1000 (by kernel_rfl) (by kernel_rfl) (by kernel_rfl) (by kernel_rfl) (by kernel_rfl) (y0b _ _ _ _ s from_ t at_ e) ?_
    rintro _ rfl
    rintro _ rfl
    refine zD beq_iff_eq h (fun _ h => ?_) (fun _ h => ?_)
    ·
      obtain ⟨q1, g, h⟩ := zC h
      refine ⟨_, _, _, _, _, _, _, _, _, ih_expr_parser_expr _ _ _ _ g, ?_⟩
      obtain ⟨q2, g, h⟩ := zC h
      refine ⟨_, _, _, z0h _ _ _ _ _ g, ?_⟩
      cases h; exact ⟨rfl, rfl⟩
    rintro _ rfl
    refine zD beq_iff_eq h (fun _ h => ?_) (fun _ h => ?_)
    ·
      obtain ⟨q3, g, h⟩ := zC h
      refine ⟨_, _, _, _, ih_expr_parser_list_parser_expr _ _ _ _ g, ?_⟩
      obtain ⟨q4, g, h⟩ := zC h
      refine ⟨_, _, _, z0h _ _ _ _ _ g, ?_⟩
      obtain ⟨q5, g, h⟩ := zC h
      refine ⟨_, _, _, _, _, _, vB _ _ _ _ _ _ g, ?_⟩
      cases h; exact ⟨rfl, rfl⟩
    rintro _ rfl
    refine zD beq_iff_eq h (fun _ h => ?_) (fun _ h => ?_)
    ·
      obtain ⟨q6, g, h⟩ := zC h
      refine ⟨_, _, _, _, z4U _ _ _ _ g, ?_⟩
      obtain ⟨q7, g, h⟩ := zC h
      refine ⟨_, _, _, _, ih_expr_parser_args _ _ _ _ _ g, ?_⟩
      obtain ⟨q8, g, h⟩ := zC h
      refine ⟨_, _, _, _, _, _, vB _ _ _ _ _ _ g, ?_⟩
      cases h; exact ⟨rfl, rfl⟩
    rintro _ rfl
    obtain ⟨q9, g, h⟩ := zC h
    refine ⟨_, _, _, z0i _ _ _ _ g, ?_⟩
    cases h; exact ⟨rfl, rfl⟩
  | zM t at_ e =>
    have ih_expr_parser_expr := fun t at_ e r h => ih (.zK t at_ e) r h
    have ih_expr_parser_list_parser_expr_L2 := fun out t at_ e r h => ih (.zJ out t at_ e) r h
    intro r h
    replace h : jG (fun t at_ e => g (zL.zK t at_ e)) (fun out t at_ e => g (zL.zJ out t at_ e)) t at_ e = some r := h
    unfold jG at h
    refine zW 1000 (by kernel_rfl) (by kernel_rfl) (by kernel_rfl) (by kernel_rfl) (by kernel_rfl) (z6b _ _ _ _ t at_ e) ?_
    obtain ⟨q1, g, h⟩ := zC h
    refine ⟨_, _, _, _, _, _, _, _, _, ih_expr_parser_expr _ _ _ _ g, ?_⟩
    have hT := ih_expr_parser_list_parser_expr_L2 _ _ _ _ _ h
    unfold z4N at hT; dsimp only at hT
    simp only [List.map_cons, List.map_nil, List.length_cons, List.length_nil, zE.toD_eq] at hT
    exact hT
  | zJ out t at_ e =>
    have ih_expr_parser_expr := fun t at_ e r h => ih (.zK t at_ e) r h
    have ih_expr_parser_list_parser_expr_L2 := fun out t at_ e r h => ih (.zJ out t at_ e) r h
    intro r h
    replace h : vW (fun t at_ e => g (zL.zK t at_ e)) (fun out t at_ e => g (zL.zJ out t at_ e)) out t at_ e = some r := h
    unfold vW at h
    refine z4a 1000 (z5j _ _ _ _ out t at_ e) ?_
    rintro _ rfl
    refine zD beq_iff_eq h (fun _ h => ?_) (fun _ h => ?_)
    ·
      obtain ⟨q1, g, h⟩ := zC h
      refine ⟨_, gE _ _ _ _ _ g, ?_⟩
      refine zD Iff.rfl h (fun _ h => ?_) (fun _ h => ?_)
      ·
        rintro _ rfl
        obtain ⟨q2, g, h⟩ := zC h
        refine ⟨_, _, _, _, _, _, _, _, _, ih_expr_parser_expr _ _ _ _ g, ?_⟩
        refine ⟨by simp [wB, D.cells], ?_⟩
        refine ⟨by first | rfl | decide | simp only [List.length_map, List.length_cons, List.length_nil, List.map_append, List.length_append], ?_⟩
        obtain ⟨hP, h⟩ := jZ h
        refine ⟨by first | exact hP | simpa using hP, ?_⟩
        refine z2g (e' := List.map zE.toD (out ++ [q2.1])) (by first | rfl | simp only [List.map_append, List.map_cons, List.map_nil, List.map_take, List.map_drop, List.map_set, List.map_replicate, List.length_map, zE.toD_eq]) ?_
        exact ih_expr_parser_list_parser_expr_L2 _ _ _ _ _ h
      cases h; exact ⟨rfl, rfl⟩
    cases h; exact ⟨rfl, rfl⟩
theorem y3r (t : List zB) (at_ e : Int) (r : zE × List zB × Int × Int) (h : zK t at_ e = some r) : z4N (.zK t at_ e) r := y2E (.zK t at_ e) r h
theorem z7J (t : List zB) (at_ : Int) (r : zE × Int × Int) (h : z1q t at_ = some r) : Trip Tryz.prog 71 [.d (.sl (List.map zB.toD t)), (nI at_), .fn 79 [] []] [] [.d (gT r.1.K r.1.N r.1.S (List.map zE.toD r.1.L) r.1.From r.1.To), (nI r.2.1), (nI r.2.2)] [] := by
  unfold z1q at h
  refine zW 1000 (by kernel_rfl) (by kernel_rfl) (by kernel_rfl) (by kernel_rfl) (by kernel_rfl) (z7X _ _ _ _ t at_) ?_
  rintro _ rfl
  refine zD decide_eq_true_iff h (fun _ h => ?_) (fun _ h => ?_)
  ·
    cases h; exact ⟨rfl, rfl⟩
  refine z2g (e' := (List.length t : Int)) (by first | rfl | rw [List.length_map]) ?_
  rintro _ rfl
  refine zD decide_eq_true_iff h (fun _ h => ?_) (fun _ h => ?_)
  ·
    cases h; exact ⟨rfl, rfl⟩
  obtain ⟨q1, g, h⟩ := zC h
  refine ⟨_, _, _, _, _, _, _, _, _, y3r _ _ _ _ g, ?_⟩
  rintro _ rfl
  refine zU beq_iff_eq h (fun _ h => ?_) (fun _ h => ?_)
  ·
    cases h; exact ⟨rfl, rfl⟩
  cases h; exact ⟨rfl, rfl⟩
theorem z7f (t : List zB) (at_ : Int) (r : zE × Int × Int) (h : z1w t at_ = some r) : Trip Tryz.prog 70 [.d (.sl (List.map zB.toD t)), (nI at_)] [] [.d (gT r.1.K r.1.N r.1.S (List.map zE.toD r.1.L) r.1.From r.1.To), (nI r.2.1), (nI r.2.2)] [] := by
  unfold z1w at h
  refine zW 1000 (by kernel_rfl) (by kernel_rfl) (by kernel_rfl) (by kernel_rfl) (by kernel_rfl) (y9u _ _ _ _ t at_) ?_
  obtain ⟨q1, g, h⟩ := zC h
  refine ⟨_, _, _, _, _, _, _, _, ⟨_, z7J _ _ _ g⟩, ?_⟩
  cases h; exact ⟨rfl, rfl⟩
theorem z0F (k : Int) (s : Str) (t : List zB) (at_ e K N : Int) (S : Str) (L : List zE) (From To : Int) (r : Bool) (h : jH k s t at_ e K N S L From To = some r) : Trip Tryz.prog 17 [.hp 0 0, (nI k), (nS s)] [(hU (List.map zB.toD t) at_ e), (hM K N S (List.map zE.toD L) From To)] [(nB r)] [(hU (List.map zB.toD t) at_ e), (hM K N S (List.map zE.toD L) From To)] := by
  unfold jH at h
  refine zW 1000 (by kernel_rfl) (by kernel_rfl) (by kernel_rfl) (by kernel_rfl) (by kernel_rfl) (y4X _ _ _ _ k s t at_ e K N S L From To) ?_
  obtain ⟨x, hx, h⟩ := zC h
  refine ⟨gN (l := t) (zB.sz), z4f hx, x.K, x.N, x.S, x.From, x.To, z1Y (zB.toD_eq x) hx, ?_⟩
  rintro _ rfl
  refine zD beq_iff_eq h (fun _ h => ?_) (fun _ h => ?_)
  ·
    obtain ⟨x1, hx, h⟩ := zC h
    refine ⟨gN (l := t) (zB.sz), z4f hx, x1.K, x1.N, x1.S, x1.From, x1.To, z1Y (zB.toD_eq x1) hx, ?_⟩
    rintro _ rfl
    cases h; exact ⟨rfl, rfl⟩
  cases h; exact ⟨rfl, rfl⟩
theorem z9L (t : List zB) (at_ e K N : Int) (S : Str) (L : List zE) (From To : Int) (r : zE × List zB × Int × Int × Int × Int × Str × List zE × Int × Int) (h : vM t at_ e K N S L From To = some r) : Trip Tryz.prog 48 [.hp 0 0] [(hU (List.map zB.toD t) at_ e), (hM K N S (List.map zE.toD L) From To)] [.d (gT r.1.K r.1.N r.1.S (List.map zE.toD r.1.L) r.1.From r.1.To)] [(hU (List.map zB.toD r.2.1) r.2.2.1 r.2.2.2.1), (hM r.2.2.2.2.1 r.2.2.2.2.2.1 r.2.2.2.2.2.2.1 (List.map zE.toD r.2.2.2.2.2.2.2.1) r.2.2.2.2.2.2.2.2.1 r.2.2.2.2.2.2.2.2.2)] := by
  unfold vM at h
  refine zW 1000 (by kernel_rfl) (by kernel_rfl) (by kernel_rfl) (by kernel_rfl) (by kernel_rfl) (z9s _ _ _ _ t at_ e K N S L From To) ?_
  rintro _ rfl
  refine zU beq_iff_eq h (fun _ h => ?_) (fun _ h => ?_)
  ·
    obtain ⟨x, hx, h⟩ := zC h
    refine ⟨gN (l := t) (zB.sz), z4f hx, x.K, x.N, x.S, x.From, x.To, z1Y (zB.toD_eq x) hx, ?_⟩
    rintro _ rfl
    refine zU beq_iff_eq h (fun _ h => ?_) (fun _ h => ?_)
    ·
      rintro _ rfl
      refine ⟨gN (l := t) (zB.sz), ?_⟩
      obtain ⟨hP, h⟩ := jZ h
      refine ⟨by first | exact hP | simpa using hP, ?_⟩
      obtain ⟨hP, h⟩ := jZ h
      refine ⟨by first | exact hP | simpa using hP, ?_⟩
      obtain ⟨hP, h⟩ := jZ h
      refine ⟨by first | exact hP | simpa using hP, ?_⟩
      obtain ⟨hP, h⟩ := jZ h
      refine ⟨by first | exact hP | simpa using hP, ?_⟩
      refine z2g (e' := List.map zB.toD (List.drop (Int.toNat at_) (List.take (Int.toNat (IntKind.wrap .i64 (at_ + 1))) t))) (by first | rfl | simp only [List.map_append, List.map_cons, List.map_nil, List.map_take, List.map_drop, List.map_set, List.map_replicate, List.length_map, zB.toD_eq]) ?_
      obtain ⟨q5, g, h⟩ := zC h
      refine ⟨_, _, _, _, _, _, _, _, ⟨_, z7f _ _ _ g⟩, ?_⟩
      rintro _ rfl
      cases h; exact ⟨rfl, rfl⟩
    obtain ⟨q1, g, h⟩ := zC h
    refine ⟨_, z0F _ _ _ _ _ _ _ _ _ _ _ _ g, ?_⟩
    refine zU Iff.rfl h (fun _ h => ?_) (fun _ h => ?_)
    ·
      rintro _ rfl
      refine ⟨gN (l := t) (zB.sz), ?_⟩
      obtain ⟨hP, h⟩ := jZ h
      refine ⟨by first | exact hP | simpa using hP, ?_⟩
      obtain ⟨hP, h⟩ := jZ h
      refine ⟨by first | exact hP | simpa using hP, ?_⟩
      obtain ⟨hP, h⟩ := jZ h
      refine ⟨by first | exact hP | simpa using hP, ?_⟩
      obtain ⟨hP, h⟩ := jZ h
      refine ⟨by first | exact hP | simpa using hP, ?_⟩
      refine z2g (e' := List.map zB.toD (List.drop (Int.toNat at_) (List.take (Int.toNat (IntKind.wrap .i64 (at_ + 1))) t))) (by first | rfl | simp only [List.map_append, List.map_cons, List.map_nil, List.map_take, List.map_drop, List.map_set, List.map_replicate, List.length_map, zB.toD_eq]) ?_
      obtain ⟨q4, g, h⟩ := zC h
      refine ⟨_, _, _, _, _, _, _, _, ⟨_, z7f _ _ _ g⟩, ?_⟩
      rintro _ rfl
      cases h; exact ⟨rfl, rfl⟩
    obtain ⟨q2, g, h⟩ := zC h
    refine ⟨_, z0F _ _ _ _ _ _ _ _ _ _ _ _ g, ?_⟩
    refine zU Iff.rfl h (fun _ h => ?_) (fun _ h => ?_)
    ·
      rintro _ rfl
      refine ⟨gN (l := t) (zB.sz), ?_⟩
      obtain ⟨hP, h⟩ := jZ h
      refine ⟨by first | exact hP | simpa using hP, ?_⟩
      obtain ⟨hP, h⟩ := jZ h
      refine ⟨by first | exact hP | simpa using hP, ?_⟩
      obtain ⟨hP, h⟩ := jZ h
      refine ⟨by first | exact hP | simpa using hP, ?_⟩
      obtain ⟨hP, h⟩ := jZ h
      refine ⟨by first | exact hP | simpa using hP, ?_⟩
      refine z2g (e' := List.map zB.toD (List.drop (Int.toNat at_) (List.take (Int.toNat (IntKind.wrap .i64 (at_ + 1))) t))) (by first | rfl | simp only [List.map_append, List.map_cons, List.map_nil, List.map_take, List.map_drop, List.map_set, List.map_replicate, List.length_map, zB.toD_eq]) ?_
      obtain ⟨q3, g, h⟩ := zC h
      refine ⟨_, _, _, _, _, _, _, _, ⟨_, z7f _ _ _ g⟩, ?_⟩
      rintro _ rfl
      cases h; exact ⟨rfl, rfl⟩
    cases h; exact ⟨rfl, rfl⟩
  cases h; exact ⟨rfl, rfl⟩
theorem z0z (k n : Int) (s : Str) (from_ : Int) (parts : List zE) (t : List zB) (at_ e K N : Int) (S : Str) (L : List zE) (From To : Int) (r : zE) (h : vO k n s from_ parts t at_ e K N S L From To = some r) : Trip Tryz.prog 47 [.hp 0 0, (nI k), (nI n), (nS s), (nI from_), .d (.sl (List.map zE.toD parts))] [(hU (List.map zB.toD t) at_ e), (hM K N S (List.map zE.toD L) From To)] [.d (gT r.K r.N r.S (List.map zE.toD r.L) r.From r.To)] [(hU (List.map zB.toD t) at_ e), (hM K N S (List.map zE.toD L) From To)] := by
  unfold vO at h
  refine zW 1000 (by kernel_rfl) (by kernel_rfl) (by kernel_rfl) (by kernel_rfl) (by kernel_rfl) (y2u _ _ _ _ k n s from_ parts t at_ e K N S L From To) ?_
  rintro _ rfl
  refine zU beq_iff_eq h (fun _ h => ?_) (fun _ h => ?_)
  ·
    obtain ⟨x, hx, h⟩ := zC h
    refine ⟨gN (l := t) (zB.sz), z4f hx, x.K, x.N, x.S, x.From, x.To, z1Y (zB.toD_eq x) hx, ?_⟩
    rintro _ rfl
    obtain ⟨x1, hx, h⟩ := zC h
    refine ⟨gN (l := t) (zB.sz), z4f hx, x1.K, x1.N, x1.S, x1.From, x1.To, z1Y (zB.toD_eq x1) hx, ?_⟩
    cases h; exact ⟨rfl, rfl⟩
  cases h; exact ⟨rfl, rfl⟩
theorem z1J (t : List zB) (at_ e K N : Int) (S : Str) (L : List zE) (From To : Int) (r : Str × List zB × Int × Int × Int × Int × Str × List zE × Int × Int) (h : wC t at_ e K N S L From To = some r) : Trip Tryz.prog 42 [.hp 0 0] [(hU (List.map zB.toD t) at_ e), (hM K N S (List.map zE.toD L) From To)] [(nS r.1)] [(hU (List.map zB.toD r.2.1) r.2.2.1 r.2.2.2.1), (hM r.2.2.2.2.1 r.2.2.2.2.2.1 r.2.2.2.2.2.2.1 (List.map zE.toD r.2.2.2.2.2.2.2.1) r.2.2.2.2.2.2.2.2.1 r.2.2.2.2.2.2.2.2.2)] := by
  unfold wC at h
  refine zW 1000 (by kernel_rfl) (by kernel_rfl) (by kernel_rfl) (by kernel_rfl) (by kernel_rfl) (y1Q _ _ _ _ t at_ e K N S L From To) ?_
  rintro _ rfl
  refine zU beq_iff_eq h (fun _ h => ?_) (fun _ h => ?_)
  ·
    obtain ⟨x, hx, h⟩ := zC h
    refine ⟨gN (l := t) (zB.sz), z4f hx, x.K, x.N, x.S, x.From, x.To, z1Y (zB.toD_eq x) hx, ?_⟩
    rintro _ rfl
    refine zU beq_iff_eq h (fun _ h => ?_) (fun _ h => ?_)
    ·
      rintro _ rfl
      rintro _ rfl
      obtain ⟨x1, hx, h⟩ := zC h
      refine ⟨gN (l := t) (zB.sz), z4f hx, x1.K, x1.N, x1.S, x1.From, x1.To, z1Y (zB.toD_eq x1) hx, ?_⟩
      cases h; exact ⟨rfl, rfl⟩
    cases h; exact ⟨rfl, rfl⟩
  cases h; exact ⟨rfl, rfl⟩
theorem z3r (k : Int) (s : Str) (t : List zB) (at_ e K N : Int) (S : Str) (L : List zE) (From To : Int) (r : Bool × List zB × Int × Int × Int × Int × Str × List zE × Int × Int) (h : z0s k s t at_ e K N S L From To = some r) : Trip Tryz.prog 51 [.hp 0 0, (nI k), (nS s)] [(hU (List.map zB.toD t) at_ e), (hM K N S (List.map zE.toD L) From To)] [(nB r.1)] [(hU (List.map zB.toD r.2.1) r.2.2.1 r.2.2.2.1), (hM r.2.2.2.2.1 r.2.2.2.2.2.1 r.2.2.2.2.2.2.1 (List.map zE.toD r.2.2.2.2.2.2.2.1) r.2.2.2.2.2.2.2.2.1 r.2.2.2.2.2.2.2.2.2)] := by
  unfold z0s at h
  refine zW 1000 (by kernel_rfl) (by kernel_rfl) (by kernel_rfl) (by kernel_rfl) (by kernel_rfl) (y2L _ _ _ _ k s t at_ e K N S L From To) ?_
  rintro _ rfl
  refine zU beq_iff_eq h (fun _ h => ?_) (fun _ h => ?_)
  ·
    obtain ⟨q1, g, h⟩ := zC h
    refine ⟨_, z0F _ _ _ _ _ _ _ _ _ _ _ _ g, ?_⟩
    refine zU Iff.rfl h (fun _ h => ?_) (fun _ h => ?_)
    ·
      rintro _ rfl
      cases h; exact ⟨rfl, rfl⟩
    cases h; exact ⟨rfl, rfl⟩
  cases h; exact ⟨rfl, rfl⟩
theorem uB (k : Int) (s : Str) (t : List zB) (at_ e K N : Int) (S : Str) (L : List zE) (From To : Int) (r : List zB × Int × Int × Int × Int × Str × List zE × Int × Int) (h : yE k s t at_ e K N S L From To = some r) : Trip Tryz.prog 43 [.hp 0 0, (nI k), (nS s)] [(hU (List.map zB.toD t) at_ e), (hM K N S (List.map zE.toD L) From To)] [] [(hU (List.map zB.toD r.1) r.2.1 r.2.2.1), (hM r.2.2.2.1 r.2.2.2.2.1 r.2.2.2.2.2.1 (List.map zE.toD r.2.2.2.2.2.2.1) r.2.2.2.2.2.2.2.1 r.2.2.2.2.2.2.2.2)] := by
  unfold yE at h
  refine zW 1000 (by kernel_rfl) (by kernel_rfl) (by kernel_rfl) (by kernel_rfl) (by kernel_rfl) (y1N _ _ _ _ k s t at_ e K N S L From To) ?_
  rintro _ rfl
  refine zD beq_iff_eq h (fun _ h => ?_) (fun _ h => ?_)
  ·
    obtain ⟨q1, g, h⟩ := zC h
    refine ⟨_, _, _, _, _, _, _, _, _, _, z3r _ _ _ _ _ _ _ _ _ _ _ _ g, ?_⟩
    refine zU Iff.rfl h (fun _ h => ?_) (fun _ h => ?_)
    ·
      cases h; exact ⟨rfl, rfl⟩
    cases h; exact ⟨rfl, rfl⟩
  cases h; exact ⟨rfl, rfl⟩
theorem y0L (t : List zB) (at_ e K N : Int) (S : Str) (L : List zE) (From To : Int) (r : zE × List zB × Int × Int × Int × Int × Str × List zE × Int × Int) (h : z1h t at_ e K N S L From To = some r) : Trip Tryz.prog 19 [.hp 0 0] [(hU (List.map zB.toD t) at_ e), (hM K N S (List.map zE.toD L) From To)] [.d (gT r.1.K r.1.N r.1.S (List.map zE.toD r.1.L) r.1.From r.1.To)] [(hU (List.map zB.toD r.2.1) r.2.2.1 r.2.2.2.1), (hM r.2.2.2.2.1 r.2.2.2.2.2.1 r.2.2.2.2.2.2.1 (List.map zE.toD r.2.2.2.2.2.2.2.1) r.2.2.2.2.2.2.2.2.1 r.2.2.2.2.2.2.2.2.2)] := by
  unfold z1h at h
  refine zW 1000 (by kernel_rfl) (by kernel_rfl) (by kernel_rfl) (by kernel_rfl) (by kernel_rfl) (y0P _ _ _ _ t at_ e K N S L From To) ?_
  rintro _ rfl
  obtain ⟨q1, g, h⟩ := zC h
  refine ⟨_, _, _, _, _, _, _, _, _, _, z1J _ _ _ _ _ _ _ _ _ _ g, ?_⟩
  obtain ⟨q2, g, h⟩ := zC h
  refine ⟨_, _, _, _, _, _, _, _, _, uB _ _ _ _ _ _ _ _ _ _ _ _ g, ?_⟩
  obtain ⟨q3, g, h⟩ := zC h
  refine ⟨_, _, _, _, _, _, _, _, _, _, _, _, _, _, _, z9L _ _ _ _ _ _ _ _ _ _ g, ?_⟩
  obtain ⟨q4, g, h⟩ := zC h
  refine ⟨_, _, _, _, _, _, _, _, _, uB _ _ _ _ _ _ _ _ _ _ _ _ g, ?_⟩
  obtain ⟨q5, g, h⟩ := zC h
  have hT := z0z _ _ _ _ _ _ _ _ _ _ _ _ _ _ _ g
  simp only [List.map_cons, List.map_nil, zE.toD_eq] at hT
  refine ⟨_, _, _, _, _, _, hT, ?_⟩
  cases h; exact ⟨rfl, rfl⟩
theorem z5B (t : List zB) (at_ e : Int) (r : zB) (h : z1F t at_ e = some r) : Trip Tryz.prog 94 [.hp 0 0] [(hU (List.map zB.toD t) at_ e)] [.d (gK r.K r.N r.S r.From r.To)] [(hU (List.map zB.toD t) at_ e)] := by
  unfold z1F at h
  refine zW 1000 (by kernel_rfl) (by kernel_rfl) (by kernel_rfl) (by kernel_rfl) (by kernel_rfl) (y3M _ _ _ _ t at_ e) ?_
  refine z2g (e' := (List.length t : Int)) (by first | rfl | rw [List.length_map]) ?_
  rintro _ rfl
  refine zD decide_eq_true_iff h (fun _ h => ?_) (fun _ h => ?_)
  ·
    obtain ⟨x, hx, h⟩ := zC h
    refine ⟨gN (l := t) (zB.sz), z4f hx, x.K, x.N, x.S, x.From, x.To, z1Y (zB.toD_eq x) hx, ?_⟩
    cases h; exact ⟨rfl, rfl⟩
  cases h; exact ⟨rfl, rfl⟩
theorem z4h (k : Int) (s : Str) (t : List zB) (at_ e : Int) (r : Bool) (h : gG k s t at_ e = some r) : Trip Tryz.prog 86 [.hp 0 0, (nI k), (nS s)] [(hU (List.map zB.toD t) at_ e)] [(nB r)] [(hU (List.map zB.toD t) at_ e)] := by
  unfold gG at h
  refine zW 1000 (by kernel_rfl) (by kernel_rfl) (by kernel_rfl) (by kernel_rfl) (by kernel_rfl) (y4Y _ _ _ _ k s t at_ e) ?_
  obtain ⟨q1, g, h⟩ := zC h
  refine ⟨_, _, _, _, _, z5B _ _ _ _ g, ?_⟩
  rintro _ rfl
  refine zD beq_iff_eq h (fun _ h => ?_) (fun _ h => ?_)
  ·
    rintro _ rfl
    cases h; exact ⟨rfl, rfl⟩
  cases h; exact ⟨rfl, rfl⟩
theorem uX (k : Int) (s : Str) (from_ : Int) (parts : List zE) (t : List zB) (at_ e : Int) (r : zE) (h : vE k s from_ parts t at_ e = some r) : Trip Tryz.prog 88 [.hp 0 0, (nI k), (nS s), (nI from_), .d (.sl (List.map zE.toD parts))] [(hU (List.map zB.toD t) at_ e)] [.d (gT r.K r.N r.S (List.map zE.toD r.L) r.From r.To)] [(hU (List.map zB.toD t) at_ e)] := by
  unfold vE at h
  refine zW 1000 (by kernel_rfl) (by kernel_rfl) (by kernel_rfl) (by kernel_rfl) (by kernel_rfl) (y2x _ _ _ _ k s from_ parts t at_ e) ?_
  rintro _ rfl
  refine zU beq_iff_eq h (fun _ h => ?_) (fun _ h => ?_)
  ·
    obtain ⟨x, hx, h⟩ := zC h
    refine ⟨gN (l := t) (zB.sz), z4f hx, x.K, x.N, x.S, x.From, x.To, z1Y (zB.toD_eq x) hx, ?_⟩
    rintro _ rfl
    obtain ⟨x1, hx, h⟩ := zC h
    refine ⟨gN (l := t) (zB.sz), z4f hx, x1.K, x1.N, x1.S, x1.From, x1.To, z1Y (zB.toD_eq x1) hx, ?_⟩
    cases h; exact ⟨rfl, rfl⟩
  cases h; exact ⟨rfl, rfl⟩
theorem uJ (k : Int) (s : Str) (t : List zB) (at_ e : Int) (r : List zB × Int × Int) (h : yB k s t at_ e = some r) : Trip Tryz.prog 85 [.hp 0 0, (nI k), (nS s)] [(hU (List.map zB.toD t) at_ e)] [] [(hU (List.map zB.toD r.1) r.2.1 r.2.2)] := by
  unfold yB at h
  refine zW 1000 (by kernel_rfl) (by kernel_rfl) (by kernel_rfl) (by kernel_rfl) (by kernel_rfl) (y2s _ _ _ _ k s t at_ e) ?_
  rintro _ rfl
  refine zU beq_iff_eq h (fun _ h => ?_) (fun _ h => ?_)
  ·
    obtain ⟨q1, g, h⟩ := zC h
    refine ⟨_, z4h _ _ _ _ _ _ g, ?_⟩
    refine zU Iff.rfl h (fun _ h => ?_) (fun _ h => ?_)
    ·
      rintro _ rfl
      cases h; exact ⟨rfl, rfl⟩
    cases h; exact ⟨rfl, rfl⟩
  cases h; exact ⟨rfl, rfl⟩
theorem v2l (t : zB) (r : Nat) (h : z1P t = some r) : Trip Tryz.prog 95 [.d (gK t.K t.N t.S t.From t.To)] [] [.fn r [] []] [] := by
  unfold z1P at h
  refine zW 1000 (by kernel_rfl) (by kernel_rfl) (by kernel_rfl) (by kernel_rfl) (by kernel_rfl) (v2h _ _ _ _ t) ?_
  rintro _ rfl
  refine zD beq_iff_eq h (fun hc159 h => ?_) (fun hc159 h => ?_)
  ·
    rintro _ rfl
    refine zD beq_iff_eq h (fun _ h => ?_) (fun _ h => ?_)
    ·
      cases h; exact ⟨rfl, rfl⟩
    rintro _ rfl
    refine v6F beq_iff_eq (fun e => absurd (hc159.symm.trans e) (by decide)) ?_
    cases h; exact ⟨rfl, rfl⟩
  rintro _ rfl
  refine zU beq_iff_eq h (fun _ h => ?_) (fun _ h => ?_)
  ·
    rintro _ rfl
    refine zD beq_iff_eq h (fun _ h => ?_) (fun _ h => ?_)
    ·
      cases h; exact ⟨rfl, rfl⟩
    rintro _ rfl
    refine zD beq_iff_eq h (fun _ h => ?_) (fun _ h => ?_)
    ·
      cases h; exact ⟨rfl, rfl⟩
    rintro _ rfl
    refine zD beq_iff_eq h (fun _ h => ?_) (fun _ h => ?_)
    ·
      cases h; exact ⟨rfl, rfl⟩
    rintro _ rfl
    refine zD beq_iff_eq h (fun _ h => ?_) (fun _ h => ?_)
    ·
      cases h; exact ⟨rfl, rfl⟩
    rintro _ rfl
    refine zD beq_iff_eq h (fun _ h => ?_) (fun _ h => ?_)
    ·
      cases h; exact ⟨rfl, rfl⟩
    rintro _ rfl
    refine zD beq_iff_eq h (fun _ h => ?_) (fun _ h => ?_)
    ·
      cases h; exact ⟨rfl, rfl⟩
    rintro _ rfl
    refine zD beq_iff_eq h (fun _ h => ?_) (fun _ h => ?_)
    ·
      cases h; exact ⟨rfl, rfl⟩
    cases h; exact ⟨rfl, rfl⟩
  cases h; exact ⟨rfl, rfl⟩
theorem z7x (t : List zB) (at_ e : Int) (r : zE × List zB × Int × Int) (h : jN t at_ e = some r) : Trip Tryz.prog 114 [.hp 0 0, .fn 70 [] []] [(hU (List.map zB.toD t) at_ e)] [.d (gT r.1.K r.1.N r.1.S (List.map zE.toD r.1.L) r.1.From r.1.To)] [(hU (List.map zB.toD r.2.1) r.2.2.1 r.2.2.2)] := by
  unfold jN at h
  refine zW 1000 (by kernel_rfl) (by kernel_rfl) (by kernel_rfl) (by kernel_rfl) (by kernel_rfl) (z7s _ _ _ _ t at_ e) ?_
  rintro _ rfl
  refine zU beq_iff_eq h (fun _ h => ?_) (fun _ h => ?_)
  ·
    refine z2g (e' := (List.length t : Int)) (by first | rfl | rw [List.length_map]) ?_
    rintro _ rfl
    refine zD decide_eq_true_iff h (fun _ h => ?_) (fun _ h => ?_)
    ·
      cases h; exact ⟨rfl, rfl⟩
    obtain ⟨q1, g, h⟩ := zC h
    refine ⟨_, _, _, _, _, _, _, _, ⟨_, z7f _ _ _ g⟩, ?_⟩
    cases h; exact ⟨rfl, rfl⟩
  cases h; exact ⟨rfl, rfl⟩
theorem z0e (t : List zB) (at_ e : Int) (r : zE × List zB × Int × Int) (h : vF t at_ e = some r) : Trip Tryz.prog 112 [.hp 0 0] [(hU (List.map zB.toD t) at_ e)] [.d (gT r.1.K r.1.N r.1.S (List.map zE.toD r.1.L) r.1.From r.1.To)] [(hU (List.map zB.toD r.2.1) r.2.2.1 r.2.2.2)] := by
  unfold vF at h
  refine zW 1000 (by kernel_rfl) (by kernel_rfl) (by kernel_rfl) (by kernel_rfl) (by kernel_rfl) (y2J _ _ _ _ t at_ e) ?_
  obtain ⟨q1, g, h⟩ := zC h
  refine ⟨_, _, _, _, _, _, _, _, _, z7x _ _ _ _ g, ?_⟩
  cases h; exact ⟨rfl, rfl⟩
theorem z3X (k : Int) (t : List zB) (at_ e : Int) (r : zE × List zB × Int × Int) (h : z0k k t at_ e = some r) : Trip Tryz.prog 115 [.hp 0 0, (nI k)] [(hU (List.map zB.toD t) at_ e)] [.d (gT r.1.K r.1.N r.1.S (List.map zE.toD r.1.L) r.1.From r.1.To)] [(hU (List.map zB.toD r.2.1) r.2.2.1 r.2.2.2)] := by
  unfold z0k at h
  refine zW 1000 (by kernel_rfl) (by kernel_rfl) (by kernel_rfl) (by kernel_rfl) (by kernel_rfl) (y0w _ _ _ _ k t at_ e) ?_
  rintro _ rfl
  obtain ⟨q1, g, h⟩ := zC h
  refine ⟨_, _, _, _, _, _, _, _, _, z0e _ _ _ _ g, ?_⟩
  obtain ⟨q2, g, h⟩ := zC h
  refine ⟨_, _, _, uJ _ _ _ _ _ _ g, ?_⟩
  obtain ⟨q3, g, h⟩ := zC h
  have hT := uX _ _ _ _ _ _ _ _ g
  simp only [List.map_cons, List.map_nil, zE.toD_eq] at hT
  refine ⟨_, _, _, _, _, _, hT, ?_⟩
  cases h; exact ⟨rfl, rfl⟩
theorem y1P (t : List zB) (at_ e : Int) (r : zE × List zB × Int × Int) (h : z3k t at_ e = some r) : Trip Tryz.prog 107 [.hp 0 0] [(hU (List.map zB.toD t) at_ e)] [.d (gT r.1.K r.1.N r.1.S (List.map zE.toD r.1.L) r.1.From r.1.To)] [(hU (List.map zB.toD r.2.1) r.2.2.1 r.2.2.2)] := by
  unfold z3k at h
  refine zW 1000 (by kernel_rfl) (by kernel_rfl) (by kernel_rfl) (by kernel_rfl) (by kernel_rfl) (y1O _ _ _ _ t at_ e) ?_
  obtain ⟨q1, g, h⟩ := zC h
  refine ⟨_, _, _, _, _, _, _, _, _, z3X _ _ _ _ _ g, ?_⟩
  cases h; exact ⟨rfl, rfl⟩
theorem y2a (t : List zB) (at_ e : Int) (r : zE × List zB × Int × Int) (h : z3n t at_ e = some r) : Trip Tryz.prog 108 [.hp 0 0] [(hU (List.map zB.toD t) at_ e)] [.d (gT r.1.K r.1.N r.1.S (List.map zE.toD r.1.L) r.1.From r.1.To)] [(hU (List.map zB.toD r.2.1) r.2.2.1 r.2.2.2)] := by
  unfold z3n at h
  refine zW 1000 (by kernel_rfl) (by kernel_rfl) (by kernel_rfl) (by kernel_rfl) (by kernel_rfl) (y3b _ _ _ _ t at_ e) ?_
  obtain ⟨q1, g, h⟩ := zC h
  refine ⟨_, _, _, _, _, _, _, _, _, z3X _ _ _ _ _ g, ?_⟩
  cases h; exact ⟨rfl, rfl⟩
theorem z7n (t : List zB) (at_ e : Int) (r : Str × List zB × Int × Int) (h : gP t at_ e = some r) : Trip Tryz.prog 113 [.hp 0 0] [(hU (List.map zB.toD t) at_ e)] [(nS r.1)] [(hU (List.map zB.toD r.2.1) r.2.2.1 r.2.2.2)] := by
  unfold gP at h
  refine zW 1000 (by kernel_rfl) (by kernel_rfl) (by kernel_rfl) (by kernel_rfl) (by kernel_rfl) (y3d _ _ _ _ t at_ e) ?_
  rintro _ rfl
  refine zU beq_iff_eq h (fun _ h => ?_) (fun _ h => ?_)
  ·
    obtain ⟨q1, g, h⟩ := zC h
    refine ⟨_, _, _, _, _, z5B _ _ _ _ g, ?_⟩
    rintro _ rfl
    refine zU beq_iff_eq h (fun _ h => ?_) (fun _ h => ?_)
    ·
      rintro _ rfl
      cases h; exact ⟨rfl, rfl⟩
    cases h; exact ⟨rfl, rfl⟩
  cases h; exact ⟨rfl, rfl⟩
def z7i : (i : z3s) → z4W i → Prop
  | .yY t at_ e, r => Trip Tryz.prog 72 [.hp 0 0] [(hU (List.map zB.toD t) at_ e)] [.d (gT r.1.K r.1.N r.1.S (List.map zE.toD r.1.L) r.1.From r.1.To)] [(hU (List.map zB.toD r.2.1) r.2.2.1 r.2.2.2)]
theorem y2Y : ∀ i r, z1S z3v i = some r → z7i i r := by
  refine wM z7d fun g ih i => ?_
  cases i with
  | yY t at_ e =>
    have ih_expr_parser_kind := fun t at_ e r h => ih (.yY t at_ e) r h
    intro r h
    replace h : z0Z (fun t at_ e => g (z3s.yY t at_ e)) t at_ e = some r := h
    unfold z0Z at h
    refine zW 1000 (by kernel_rfl) (by kernel_rfl) (by kernel_rfl) (by kernel_rfl) (by kernel_rfl) (y3s _ _ _ _ t at_ e) ?_
    rintro _ rfl
    refine zU beq_iff_eq h (fun _ h => ?_) (fun _ h => ?_)
    ·
      obtain ⟨q1, g, h⟩ := zC h
      refine ⟨_, _, _, _, _, z1y _ _ _ _ g, ?_⟩
      rintro _ rfl
      refine zD beq_iff_eq h (fun hc174 h => ?_) (fun hc174 h => ?_)
      ·
        rintro _ rfl
        refine zD beq_iff_eq h (fun _ h => ?_) (fun _ h => ?_)
        ·
          rintro _ rfl
          obtain ⟨q2, g, h⟩ := zC h
          refine ⟨_, _, _, _, _, _, vB _ _ _ _ _ _ g, ?_⟩
          cases h; exact ⟨rfl, rfl⟩
        rintro _ rfl
        refine jK beq_iff_eq hc174 ?_
        rintro _ rfl
        refine zD beq_iff_eq h (fun _ h => ?_) (fun _ h => ?_)
        ·
          rintro _ rfl
          obtain ⟨q3, g, h⟩ := zC h
          refine ⟨_, _, _, _, _, _, vB _ _ _ _ _ _ g, ?_⟩
          cases h; exact ⟨rfl, rfl⟩
        rintro _ rfl
        refine y1y beq_iff_eq (fun e => absurd (hc174.symm.trans e) (by decide)) ?_
        obtain ⟨q5, g, h⟩ := zC h
        refine ⟨_, gE _ _ _ _ _ g, ?_⟩
        refine zD Iff.rfl h (fun _ h => ?_) (fun _ h => ?_)
        ·
          rintro _ rfl
          obtain ⟨q6, g, h⟩ := zC h
          refine ⟨_, _, _, _, _, z1y _ _ _ _ g, ?_⟩
          rintro _ rfl
          refine zU beq_iff_eq h (fun _ h => ?_) (fun _ h => ?_)
          ·
            rintro _ rfl
            obtain ⟨q8, g, h⟩ := zC h
            refine ⟨_, _, _, z0h _ _ _ _ _ g, ?_⟩
            obtain ⟨q9, g, h⟩ := zC h
            refine ⟨_, _, _, _, _, _, _, _, _, ih_expr_parser_kind _ _ _ _ g, ?_⟩
            obtain ⟨q10, g, h⟩ := zC h
            have hT := vB _ _ _ _ _ _ g
            simp only [List.map_cons, List.map_nil, zE.toD_eq] at hT
            refine ⟨_, _, _, _, _, _, hT, ?_⟩
            cases h; exact ⟨rfl, rfl⟩
          obtain ⟨q7, g, h⟩ := zC h
          refine ⟨_, _, _, z0i _ _ _ _ g, ?_⟩
          cases h; exact ⟨rfl, rfl⟩
        obtain ⟨q11, g, h⟩ := zC h
        refine ⟨_, _, _, z0i _ _ _ _ g, ?_⟩
        cases h; exact ⟨rfl, rfl⟩
      rintro _ rfl
      refine y1y beq_iff_eq hc174 ?_
      rintro _ rfl
      refine zD beq_iff_eq h (fun _ h => ?_) (fun _ h => ?_)
      ·
        rintro _ rfl
        obtain ⟨q29, g, h⟩ := zC h
        refine ⟨_, _, _, _, _, _, vB _ _ _ _ _ _ g, ?_⟩
        cases h; exact ⟨rfl, rfl⟩
      obtain ⟨q30, g, h⟩ := zC h
      refine ⟨_, gE _ _ _ _ _ g, ?_⟩
      refine zD Iff.rfl h (fun _ h => ?_) (fun _ h => ?_)
      ·
        rintro _ rfl
        obtain ⟨q31, g, h⟩ := zC h
        refine ⟨_, _, _, _, _, z1y _ _ _ _ g, ?_⟩
        rintro _ rfl
        refine zU beq_iff_eq h (fun _ h => ?_) (fun _ h => ?_)
        ·
          rintro _ rfl
          obtain ⟨q33, g, h⟩ := zC h
          refine ⟨_, _, _, z0h _ _ _ _ _ g, ?_⟩
          obtain ⟨q34, g, h⟩ := zC h
          refine ⟨_, _, _, _, _, _, _, _, _, ih_expr_parser_kind _ _ _ _ g, ?_⟩
          obtain ⟨q35, g, h⟩ := zC h
          have hT := vB _ _ _ _ _ _ g
          simp only [List.map_cons, List.map_nil, zE.toD_eq] at hT
          refine ⟨_, _, _, _, _, _, hT, ?_⟩
          cases h; exact ⟨rfl, rfl⟩
        obtain ⟨q32, g, h⟩ := zC h
        refine ⟨_, _, _, z0i _ _ _ _ g, ?_⟩
        cases h; exact ⟨rfl, rfl⟩
      obtain ⟨q36, g, h⟩ := zC h
      refine ⟨_, _, _, z0i _ _ _ _ g, ?_⟩
      cases h; exact ⟨rfl, rfl⟩
    cases h; exact ⟨rfl, rfl⟩
theorem y3f (t : List zB) (at_ e : Int) (r : zE × List zB × Int × Int) (h : yY t at_ e = some r) : z7i (.yY t at_ e) r := y2Y (.yY t at_ e) r h
theorem z8c (t : List zB) (at_ : Int) (r : zE × Int × Int) (h : gY t at_ = some r) : Trip Tryz.prog 71 [.d (.sl (List.map zB.toD t)), (nI at_), .fn 72 [] []] [] [.d (gT r.1.K r.1.N r.1.S (List.map zE.toD r.1.L) r.1.From r.1.To), (nI r.2.1), (nI r.2.2)] [] := by
  unfold gY at h
  refine zW 1000 (by kernel_rfl) (by kernel_rfl) (by kernel_rfl) (by kernel_rfl) (by kernel_rfl) (z7Y _ _ _ _ t at_) ?_
  rintro _ rfl
  refine zD decide_eq_true_iff h (fun _ h => ?_) (fun _ h => ?_)
  ·
    cases h; exact ⟨rfl, rfl⟩
  refine z2g (e' := (List.length t : Int)) (by first | rfl | rw [List.length_map]) ?_
  rintro _ rfl
  refine zD decide_eq_true_iff h (fun _ h => ?_) (fun _ h => ?_)
  ·
    cases h; exact ⟨rfl, rfl⟩
  obtain ⟨q1, g, h⟩ := zC h
  refine ⟨_, _, _, _, _, _, _, _, _, y3f _ _ _ _ g, ?_⟩
  rintro _ rfl
  refine zU beq_iff_eq h (fun _ h => ?_) (fun _ h => ?_)
  ·
    cases h; exact ⟨rfl, rfl⟩
  cases h; exact ⟨rfl, rfl⟩
theorem y6c (t : List zB) (at_ : Int) (r : zE × Int × Int) (h : z5c t at_ = some r) : Trip Tryz.prog 50 [.d (.sl (List.map zB.toD t)), (nI at_)] [] [.d (gT r.1.K r.1.N r.1.S (List.map zE.toD r.1.L) r.1.From r.1.To), (nI r.2.1), (nI r.2.2)] [] := by
  unfold z5c at h
  refine zW 1000 (by kernel_rfl) (by kernel_rfl) (by kernel_rfl) (by kernel_rfl) (by kernel_rfl) (v1m _ _ _ _ t at_) ?_
  obtain ⟨q1, g, h⟩ := zC h
  refine ⟨_, _, _, _, _, _, _, _, ⟨_, z8c _ _ _ g⟩, ?_⟩
  cases h; exact ⟨rfl, rfl⟩
theorem z7R (t : List zB) (at_ e : Int) (r : zE × List zB × Int × Int) (h : wY t at_ e = some r) : Trip Tryz.prog 114 [.hp 0 0, .fn 50 [] []] [(hU (List.map zB.toD t) at_ e)] [.d (gT r.1.K r.1.N r.1.S (List.map zE.toD r.1.L) r.1.From r.1.To)] [(hU (List.map zB.toD r.2.1) r.2.2.1 r.2.2.2)] := by
  unfold wY at h
  refine zW 1000 (by kernel_rfl) (by kernel_rfl) (by kernel_rfl) (by kernel_rfl) (by kernel_rfl) (z8f _ _ _ _ t at_ e) ?_
  rintro _ rfl
  refine zU beq_iff_eq h (fun _ h => ?_) (fun _ h => ?_)
  ·
    refine z2g (e' := (List.length t : Int)) (by first | rfl | rw [List.length_map]) ?_
    rintro _ rfl
    refine zD decide_eq_true_iff h (fun _ h => ?_) (fun _ h => ?_)
    ·
      cases h; exact ⟨rfl, rfl⟩
    obtain ⟨q1, g, h⟩ := zC h
    refine ⟨_, _, _, _, _, _, _, _, ⟨_, y6c _ _ _ g⟩, ?_⟩
    cases h; exact ⟨rfl, rfl⟩
  cases h; exact ⟨rfl, rfl⟩
theorem y4j (t : List zB) (at_ e : Int) (r : zE × List zB × Int × Int) (h : z1g t at_ e = some r) : Trip Tryz.prog 102 [.hp 0 0] [(hU (List.map zB.toD t) at_ e)] [.d (gT r.1.K r.1.N r.1.S (List.map zE.toD r.1.L) r.1.From r.1.To)] [(hU (List.map zB.toD r.2.1) r.2.2.1 r.2.2.2)] := by
  unfold z1g at h
  refine zW 1000 (by kernel_rfl) (by kernel_rfl) (by kernel_rfl) (by kernel_rfl) (by kernel_rfl) (y4d _ _ _ _ t at_ e) ?_
  rintro _ rfl
  obtain ⟨q1, g, h⟩ := zC h
  refine ⟨_, _, _, _, z7n _ _ _ _ g, ?_⟩
  rintro _ rfl
  refine zD beq_iff_eq h (fun _ h => ?_) (fun _ h => ?_)
  ·
    obtain ⟨q2, g, h⟩ := zC h
    refine ⟨_, z4h _ _ _ _ _ _ g, ?_⟩
    refine zD Iff.rfl h (fun _ h => ?_) (fun _ h => ?_)
    ·
      rintro _ rfl
      obtain ⟨q3, g, h⟩ := zC h
      refine ⟨_, _, _, _, _, _, _, _, _, z7R _ _ _ _ g, ?_⟩
      obtain ⟨q4, g, h⟩ := zC h
      refine ⟨_, _, _, uJ _ _ _ _ _ _ g, ?_⟩
      obtain ⟨q5, g, h⟩ := zC h
      have hT := uX _ _ _ _ _ _ _ _ g
      simp only [List.map_cons, List.map_nil, zE.toD_eq] at hT
      refine ⟨_, _, _, _, _, _, hT, ?_⟩
      cases h; exact ⟨rfl, rfl⟩
    obtain ⟨q6, g, h⟩ := zC h
    refine ⟨_, _, _, uJ _ _ _ _ _ _ g, ?_⟩
    obtain ⟨q7, g, h⟩ := zC h
    refine ⟨_, _, _, _, _, _, _, _, _, z0e _ _ _ _ g, ?_⟩
    obtain ⟨q8, g, h⟩ := zC h
    refine ⟨_, _, _, uJ _ _ _ _ _ _ g, ?_⟩
    obtain ⟨q9, g, h⟩ := zC h
    have hT := uX _ _ _ _ _ _ _ _ g
    simp only [List.map_cons, List.map_nil, zE.toD_eq] at hT
    refine ⟨_, _, _, _, _, _, hT, ?_⟩
    cases h; exact ⟨rfl, rfl⟩
  obtain ⟨q10, g, h⟩ := zC h
  refine ⟨_, _, _, uJ _ _ _ _ _ _ g, ?_⟩
  obtain ⟨q11, g, h⟩ := zC h
  refine ⟨_, _, _, _, _, _, _, _, _, z0e _ _ _ _ g, ?_⟩
  obtain ⟨q12, g, h⟩ := zC h
  refine ⟨_, _, _, uJ _ _ _ _ _ _ g, ?_⟩
  obtain ⟨q13, g, h⟩ := zC h
  have hT := uX _ _ _ _ _ _ _ _ g
  simp only [List.map_cons, List.map_nil, zE.toD_eq] at hT
  refine ⟨_, _, _, _, _, _, hT, ?_⟩
  cases h; exact ⟨rfl, rfl⟩
theorem y4p (t : List zB) (at_ e : Int) (r : zE × List zB × Int × Int) (h : z2b t at_ e = some r) : Trip Tryz.prog 101 [.hp 0 0] [(hU (List.map zB.toD t) at_ e)] [.d (gT r.1.K r.1.N r.1.S (List.map zE.toD r.1.L) r.1.From r.1.To)] [(hU (List.map zB.toD r.2.1) r.2.2.1 r.2.2.2)] := by
  unfold z2b at h
  refine zW 1000 (by kernel_rfl) (by kernel_rfl) (by kernel_rfl) (by kernel_rfl) (by kernel_rfl) (y3R _ _ _ _ t at_ e) ?_
  obtain ⟨q1, g, h⟩ := zC h
  refine ⟨_, _, _, _, _, _, _, _, _, z0e _ _ _ _ g, ?_⟩
  obtain ⟨q2, g, h⟩ := zC h
  refine ⟨_, _, _, uJ _ _ _ _ _ _ g, ?_⟩
  obtain ⟨q3, g, h⟩ := zC h
  refine ⟨_, _, _, _, _, _, _, _, _, z0e _ _ _ _ g, ?_⟩
  obtain ⟨q4, g, h⟩ := zC h
  refine ⟨_, _, _, uJ _ _ _ _ _ _ g, ?_⟩
  obtain ⟨q5, g, h⟩ := zC h
  have hT := uX _ _ _ _ _ _ _ _ g
  simp only [List.map_cons, List.map_nil, zE.toD_eq] at hT
  refine ⟨_, _, _, _, _, _, hT, ?_⟩
  cases h; exact ⟨rfl, rfl⟩
theorem y2P (t : List zB) (at_ e : Int) (r : zE × List zB × Int × Int) (h : z3i t at_ e = some r) : Trip Tryz.prog 106 [.hp 0 0] [(hU (List.map zB.toD t) at_ e)] [.d (gT r.1.K r.1.N r.1.S (List.map zE.toD r.1.L) r.1.From r.1.To)] [(hU (List.map zB.toD r.2.1) r.2.2.1 r.2.2.2)] := by
  unfold z3i at h
  refine zW 1000 (by kernel_rfl) (by kernel_rfl) (by kernel_rfl) (by kernel_rfl) (by kernel_rfl) (y3E _ _ _ _ t at_ e) ?_
  obtain ⟨q1, g, h⟩ := zC h
  refine ⟨_, _, _, _, _, _, _, _, _, z3X _ _ _ _ _ g, ?_⟩
  cases h; exact ⟨rfl, rfl⟩
def z6T : (i : yR) → z4C i → Prop
  | .zF t at_ e, r => Trip Tryz.prog 75 [.hp 0 0] [(hU (List.map zB.toD t) at_ e)] [.d (gT r.1.K r.1.N r.1.S (List.map zE.toD r.1.L) r.1.From r.1.To)] [(hU (List.map zB.toD r.2.1) r.2.2.1 r.2.2.2)]
  | .zX from_ l o2 t at_ e, r => Ok (z4s (Trip Tryz.prog) [.d (gT r.1.K r.1.N r.1.S (List.map zE.toD r.1.L) r.1.From r.1.To)] [(hU (List.map zB.toD r.2.1) r.2.2.1 r.2.2.2)]) (kL Tryz.f75 4) ⟨32, [(0, .hp 0 0), (2, .ref 2 1 0), (3, (nI from_)), (4, .right 4 1 6 (List.map zE.toD l))], [(4, 1, some (.tok 6 (List.length (List.map zE.toD l)))), (2, 1, some (.agg (gT o2.K o2.N o2.S (List.map zE.toD o2.L) o2.From o2.To)))], [(hU (List.map zB.toD t) at_ e)], 0⟩
  | .yX t at_ e, r => Trip Tryz.prog 87 [.hp 0 0] [(hU (List.map zB.toD t) at_ e)] [.d (gT r.1.K r.1.N r.1.S (List.map zE.toD r.1.L) r.1.From r.1.To)] [(hU (List.map zB.toD r.2.1) r.2.2.1 r.2.2.2)]
  | .vU t at_ e, r => Trip Tryz.prog 103 [.hp 0 0] [(hU (List.map zB.toD t) at_ e)] [.d (gT r.1.K r.1.N r.1.S (List.map zE.toD r.1.L) r.1.From r.1.To)] [(hU (List.map zB.toD r.2.1) r.2.2.1 r.2.2.2)]
  | .vK t at_ e, r => Trip Tryz.prog 104 [.hp 0 0] [(hU (List.map zB.toD t) at_ e)] [.d (gT r.1.K r.1.N r.1.S (List.map zE.toD r.1.L) r.1.From r.1.To)] [(hU (List.map zB.toD r.2.1) r.2.2.1 r.2.2.2)]
  | .vJ t at_ e, r => Trip Tryz.prog 105 [.hp 0 0] [(hU (List.map zB.toD t) at_ e)] [.d (gT r.1.K r.1.N r.1.S (List.map zE.toD r.1.L) r.1.From r.1.To)] [(hU (List.map zB.toD r.2.1) r.2.2.1 r.2.2.2)]
theorem y1J : ∀ i r, z1S wD i = some r → z6T i r := by
  refine wM z0q fun g ih i => ?_
  cases i with
  | zF t at_ e =>
    have ih_stmt_reader_block_L4 := fun from_ l o2 t at_ e r h => ih (.zX from_ l o2 t at_ e) r h
    intro r h
    replace h : jR (fun from_ l o2 t at_ e => g (yR.zX from_ l o2 t at_ e)) t at_ e = some r := h
    unfold jR at h
    refine zW 1000 (by kernel_rfl) (by kernel_rfl) (by kernel_rfl) (by kernel_rfl) (by kernel_rfl) (y1u _ _ _ _ t at_ e) ?_
    obtain ⟨q1, g, h⟩ := zC h
    refine ⟨_, _, _, uJ _ _ _ _ _ _ g, ?_⟩
    exact ih_stmt_reader_block_L4 _ _ _ _ _ _ _ h
  | zX from_ l o2 t at_ e =>
    have ih_stmt_reader_block_L4 := fun from_ l o2 t at_ e r h => ih (.zX from_ l o2 t at_ e) r h
    have ih_stmt_reader_stmt := fun t at_ e r h => ih (.yX t at_ e) r h
    intro r h
    replace h : wZ (fun from_ l o2 t at_ e => g (yR.zX from_ l o2 t at_ e)) (fun t at_ e => g (yR.yX t at_ e)) from_ l o2 t at_ e = some r := h
    unfold wZ at h
    refine z4a 1000 (z8Z _ _ _ _ from_ l o2 t at_ e) ?_
    rintro _ rfl
    refine zD beq_iff_eq h (fun _ h => ?_) (fun _ h => ?_)
    ·
      obtain ⟨q1, g, h⟩ := zC h
      refine ⟨_, z4h _ _ _ _ _ _ g, ?_⟩
      refine zU Iff.rfl h (fun _ h => ?_) (fun _ h => ?_)
      ·
        obtain ⟨q3, g, h⟩ := zC h
        refine ⟨_, _, _, uJ _ _ _ _ _ _ g, ?_⟩
        obtain ⟨q4, g, h⟩ := zC h
        refine ⟨_, _, _, _, _, _, uX _ _ _ _ _ _ _ _ g, ?_⟩
        cases h; exact ⟨rfl, rfl⟩
      obtain ⟨q2, g, h⟩ := zC h
      refine ⟨_, _, _, _, _, _, _, _, _, ih_stmt_reader_stmt _ _ _ _ g, ?_⟩
      refine ⟨by simp [wB, D.cells], ?_⟩
      refine ⟨by first | rfl | decide | simp only [List.length_map, List.length_cons, List.length_nil, List.map_append, List.length_append], ?_⟩
      obtain ⟨hP, h⟩ := jZ h
      refine ⟨by first | exact hP | simpa using hP, ?_⟩
      refine z2g (e' := List.map zE.toD (l ++ [q2.1])) (by first | rfl | simp only [List.map_append, List.map_cons, List.map_nil, List.map_take, List.map_drop, List.map_set, List.map_replicate, List.length_map, zE.toD_eq]) ?_
      exact ih_stmt_reader_block_L4 _ _ _ _ _ _ _ h
    obtain ⟨q5, g, h⟩ := zC h
    refine ⟨_, _, _, uJ _ _ _ _ _ _ g, ?_⟩
    obtain ⟨q6, g, h⟩ := zC h
    refine ⟨_, _, _, _, _, _, uX _ _ _ _ _ _ _ _ g, ?_⟩
    cases h; exact ⟨rfl, rfl⟩
  | yX t at_ e =>
    have ih_stmt_reader_block := fun t at_ e r h => ih (.zF t at_ e) r h
    have ih_stmt_reader_cond := fun t at_ e r h => ih (.vU t at_ e) r h
    have ih_stmt_reader_while := fun t at_ e r h => ih (.vK t at_ e) r h
    have ih_stmt_reader_count := fun t at_ e r h => ih (.vJ t at_ e) r h
    intro r h
    replace h : z0a (fun t at_ e => g (yR.zF t at_ e)) (fun t at_ e => g (yR.vU t at_ e)) (fun t at_ e => g (yR.vK t at_ e)) (fun t at_ e => g (yR.vJ t at_ e)) t at_ e = some r := h
    unfold z0a at h
    refine zW 1000 (by kernel_rfl) (by kernel_rfl) (by kernel_rfl) (by kernel_rfl) (by kernel_rfl) (y2X _ _ _ _ t at_ e) ?_
    obtain ⟨q1, g, h⟩ := zC h
    refine ⟨_, _, _, _, _, z5B _ _ _ _ g, ?_⟩
    obtain ⟨q2, g, h⟩ := zC h
    have hT := v2l _ _ g
    by_cases hg : q2 = 75
    · rw [if_pos hg] at h; rw [hg] at hT
      refine .inl ⟨⟨_, hT⟩, ?_⟩
      obtain ⟨q3, g, h⟩ := zC h
      refine ⟨_, _, _, _, _, _, _, _, _, ih_stmt_reader_block _ _ _ _ g, ?_⟩
      cases h; exact ⟨rfl, rfl⟩
    rw [if_neg hg] at h; clear hg
    by_cases hg : q2 = 101
    · rw [if_pos hg] at h; rw [hg] at hT
      refine .inr <| .inl ⟨⟨_, hT⟩, ?_⟩
      obtain ⟨q4, g, h⟩ := zC h
      refine ⟨_, _, _, _, _, _, _, _, _, y4p _ _ _ _ g, ?_⟩
      cases h; exact ⟨rfl, rfl⟩
    rw [if_neg hg] at h; clear hg
    by_cases hg : q2 = 102
    · rw [if_pos hg] at h; rw [hg] at hT
      refine .inr <| .inr <| .inl ⟨⟨_, hT⟩, ?_⟩
      obtain ⟨q5, g, h⟩ := zC h
      refine ⟨_, _, _, _, _, _, _, _, _, y4j _ _ _ _ g, ?_⟩
      cases h; exact ⟨rfl, rfl⟩
    rw [if_neg hg] at h; clear hg
    by_cases hg : q2 = 103
    · rw [if_pos hg] at h; rw [hg] at hT
      refine .inr <| .inr <| .inr <| .inl ⟨⟨_, hT⟩, ?_⟩
      obtain ⟨q6, g, h⟩ := zC h
      refine ⟨_, _, _, _, _, _, _, _, _, ih_stmt_reader_cond _ _ _ _ g, ?_⟩
      cases h; exact ⟨rfl, rfl⟩
    rw [if_neg hg] at h; clear hg
    by_cases hg : q2 = 104
    · rw [if_pos hg] at h; rw [hg] at hT
      refine .inr <| .inr <| .inr <| .inr <| .inl ⟨⟨_, hT⟩, ?_⟩
      obtain ⟨q7, g, h⟩ := zC h
      refine ⟨_, _, _, _, _, _, _, _, _, ih_stmt_reader_while _ _ _ _ g, ?_⟩
      cases h; exact ⟨rfl, rfl⟩
    rw [if_neg hg] at h; clear hg
    by_cases hg : q2 = 105
    · rw [if_pos hg] at h; rw [hg] at hT
      refine .inr <| .inr <| .inr <| .inr <| .inr <| .inl ⟨⟨_, hT⟩, ?_⟩
      obtain ⟨q8, g, h⟩ := zC h
      refine ⟨_, _, _, _, _, _, _, _, _, ih_stmt_reader_count _ _ _ _ g, ?_⟩
      cases h; exact ⟨rfl, rfl⟩
    rw [if_neg hg] at h; clear hg
    by_cases hg : q2 = 106
    · rw [if_pos hg] at h; rw [hg] at hT
      refine .inr <| .inr <| .inr <| .inr <| .inr <| .inr <| .inl ⟨⟨_, hT⟩, ?_⟩
      obtain ⟨q9, g, h⟩ := zC h
      refine ⟨_, _, _, _, _, _, _, _, _, y2P _ _ _ _ g, ?_⟩
      cases h; exact ⟨rfl, rfl⟩
    rw [if_neg hg] at h; clear hg
    by_cases hg : q2 = 107
    · rw [if_pos hg] at h; rw [hg] at hT
      refine .inr <| .inr <| .inr <| .inr <| .inr <| .inr <| .inr <| .inl ⟨⟨_, hT⟩, ?_⟩
      obtain ⟨q10, g, h⟩ := zC h
      refine ⟨_, _, _, _, _, _, _, _, _, y1P _ _ _ _ g, ?_⟩
      cases h; exact ⟨rfl, rfl⟩
    rw [if_neg hg] at h; clear hg
    by_cases hg : q2 = 108
    · rw [if_pos hg] at h; rw [hg] at hT
      refine .inr <| .inr <| .inr <| .inr <| .inr <| .inr <| .inr <| .inr <| .inl ⟨⟨_, hT⟩, ?_⟩
      obtain ⟨q11, g, h⟩ := zC h
      refine ⟨_, _, _, _, _, _, _, _, _, y2a _ _ _ _ g, ?_⟩
      cases h; exact ⟨rfl, rfl⟩
    rw [if_neg hg] at h; clear hg
    cases h
  | vU t at_ e =>
    have ih_stmt_reader_block := fun t at_ e r h => ih (.zF t at_ e) r h
    intro r h
    replace h : z0y (fun t at_ e => g (yR.zF t at_ e)) t at_ e = some r := h
    unfold z0y at h
    refine zW 1000 (by kernel_rfl) (by kernel_rfl) (by kernel_rfl) (by kernel_rfl) (by kernel_rfl) (y2F _ _ _ _ t at_ e) ?_
    rintro _ rfl
    obtain ⟨q1, g, h⟩ := zC h
    refine ⟨_, _, _, _, _, _, _, _, _, z0e _ _ _ _ g, ?_⟩
    obtain ⟨q2, g, h⟩ := zC h
    refine ⟨_, _, _, _, _, _, _, _, _, ih_stmt_reader_block _ _ _ _ g, ?_⟩
    rintro _ rfl
    refine zD beq_iff_eq h (fun _ h => ?_) (fun _ h => ?_)
    ·
      obtain ⟨q3, g, h⟩ := zC h
      refine ⟨_, z4h _ _ _ _ _ _ g, ?_⟩
      refine zD Iff.rfl h (fun _ h => ?_) (fun _ h => ?_)
      ·
        rintro _ rfl
        obtain ⟨q4, g, h⟩ := zC h
        refine ⟨_, _, _, _, _, _, _, _, _, ih_stmt_reader_block _ _ _ _ g, ?_⟩
        obtain ⟨q5, g, h⟩ := zC h
        have hT := uX _ _ _ _ _ _ _ _ g
        simp only [List.map_cons, List.map_nil, zE.toD_eq] at hT
        refine ⟨_, _, _, _, _, _, hT, ?_⟩
        cases h; exact ⟨rfl, rfl⟩
      obtain ⟨q6, g, h⟩ := zC h
      have hT := uX _ _ _ _ _ _ _ _ g
      simp only [List.map_cons, List.map_nil, zE.toD_eq] at hT
      refine ⟨_, _, _, _, _, _, hT, ?_⟩
      cases h; exact ⟨rfl, rfl⟩
    obtain ⟨q7, g, h⟩ := zC h
    have hT := uX _ _ _ _ _ _ _ _ g
    simp only [List.map_cons, List.map_nil, zE.toD_eq] at hT
    refine ⟨_, _, _, _, _, _, hT, ?_⟩
    cases h; exact ⟨rfl, rfl⟩
  | vK t at_ e =>
    have ih_stmt_reader_block := fun t at_ e r h => ih (.zF t at_ e) r h
    intro r h
    replace h : z0n (fun t at_ e => g (yR.zF t at_ e)) t at_ e = some r := h
    unfold z0n at h
    refine zW 1000 (by kernel_rfl) (by kernel_rfl) (by kernel_rfl) (by kernel_rfl) (by kernel_rfl) (y1j _ _ _ _ t at_ e) ?_
    rintro _ rfl
    obtain ⟨q1, g, h⟩ := zC h
    refine ⟨_, _, _, _, _, _, _, _, _, z0e _ _ _ _ g, ?_⟩
    obtain ⟨q2, g, h⟩ := zC h
    refine ⟨_, _, _, _, _, _, _, _, _, ih_stmt_reader_block _ _ _ _ g, ?_⟩
    obtain ⟨q3, g, h⟩ := zC h
    have hT := uX _ _ _ _ _ _ _ _ g
    simp only [List.map_cons, List.map_nil, zE.toD_eq] at hT
    refine ⟨_, _, _, _, _, _, hT, ?_⟩
    cases h; exact ⟨rfl, rfl⟩
  | vJ t at_ e =>
    have ih_stmt_reader_block := fun t at_ e r h => ih (.zF t at_ e) r h
    intro r h
    replace h : z0m (fun t at_ e => g (yR.zF t at_ e)) t at_ e = some r := h
    unfold z0m at h
    refine zW 1000 (by kernel_rfl) (by kernel_rfl) (by kernel_rfl) (by kernel_rfl) (by kernel_rfl) (y1l _ _ _ _ t at_ e) ?_
    rintro _ rfl
    obtain ⟨q1, g, h⟩ := zC h
    refine ⟨_, _, _, _, z7n _ _ _ _ g, ?_⟩
    obtain ⟨q2, g, h⟩ := zC h
    refine ⟨_, _, _, uJ _ _ _ _ _ _ g, ?_⟩
    obtain ⟨q3, g, h⟩ := zC h
    refine ⟨_, _, _, _, _, _, _, _, _, z0e _ _ _ _ g, ?_⟩
    obtain ⟨q4, g, h⟩ := zC h
    refine ⟨_, _, _, uJ _ _ _ _ _ _ g, ?_⟩
    obtain ⟨q5, g, h⟩ := zC h
    refine ⟨_, _, _, _, _, _, _, _, _, z0e _ _ _ _ g, ?_⟩
    obtain ⟨q6, g, h⟩ := zC h
    refine ⟨_, _, _, _, _, _, _, _, _, ih_stmt_reader_block _ _ _ _ g, ?_⟩
    obtain ⟨q7, g, h⟩ := zC h
    have hT := uX _ _ _ _ _ _ _ _ g
    simp only [List.map_cons, List.map_nil, zE.toD_eq] at hT
    refine ⟨_, _, _, _, _, _, hT, ?_⟩
    cases h; exact ⟨rfl, rfl⟩
theorem y1s (t : List zB) (at_ e : Int) (r : zE × List zB × Int × Int) (h : zF t at_ e = some r) : z6T (.zF t at_ e) r := y1J (.zF t at_ e) r h
theorem z7v (t : List zB) (at_ : Int) (r : zE × Int × Int) (h : z1U t at_ = some r) : Trip Tryz.prog 74 [.d (.sl (List.map zB.toD t)), (nI at_), .fn 75 [] []] [] [.d (gT r.1.K r.1.N r.1.S (List.map zE.toD r.1.L) r.1.From r.1.To), (nI r.2.1), (nI r.2.2)] [] := by
  unfold z1U at h
  refine zW 1000 (by kernel_rfl) (by kernel_rfl) (by kernel_rfl) (by kernel_rfl) (by kernel_rfl) (z7C _ _ _ _ t at_) ?_
  rintro _ rfl
  refine zD decide_eq_true_iff h (fun _ h => ?_) (fun _ h => ?_)
  ·
    cases h; exact ⟨rfl, rfl⟩
  refine z2g (e' := (List.length t : Int)) (by first | rfl | rw [List.length_map]) ?_
  rintro _ rfl
  refine zD decide_eq_true_iff h (fun _ h => ?_) (fun _ h => ?_)
  ·
    cases h; exact ⟨rfl, rfl⟩
  obtain ⟨q1, g, h⟩ := zC h
  refine ⟨_, _, _, _, _, _, _, _, _, y1s _ _ _ _ g, ?_⟩
  rintro _ rfl
  refine zU beq_iff_eq h (fun _ h => ?_) (fun _ h => ?_)
  ·
    cases h; exact ⟨rfl, rfl⟩
  cases h; exact ⟨rfl, rfl⟩
theorem v0N (t : List zB) (at_ : Int) (r : zE × Int × Int) (h : z7I t at_ = some r) : Trip Tryz.prog 53 [.d (.sl (List.map zB.toD t)), (nI at_)] [] [.d (gT r.1.K r.1.N r.1.S (List.map zE.toD r.1.L) r.1.From r.1.To), (nI r.2.1), (nI r.2.2)] [] := by
  unfold z7I at h
  refine zW 1000 (by kernel_rfl) (by kernel_rfl) (by kernel_rfl) (by kernel_rfl) (by kernel_rfl) (v0M _ _ _ _ t at_) ?_
  obtain ⟨q1, g, h⟩ := zC h
  refine ⟨_, _, _, _, _, _, _, _, ⟨_, z7v _ _ _ g⟩, ?_⟩
  cases h; exact ⟨rfl, rfl⟩
theorem z4d (t : List zB) (at_ e K N : Int) (S : Str) (L : List zE) (From To : Int) (r : zE × List zB × Int × Int × Int × Int × Str × List zE × Int × Int) (h : vQ t at_ e K N S L From To = some r) : Trip Tryz.prog 49 [.hp 0 0, .fn 53 [] []] [(hU (List.map zB.toD t) at_ e), (hM K N S (List.map zE.toD L) From To)] [.d (gT r.1.K r.1.N r.1.S (List.map zE.toD r.1.L) r.1.From r.1.To)] [(hU (List.map zB.toD r.2.1) r.2.2.1 r.2.2.2.1), (hM r.2.2.2.2.1 r.2.2.2.2.2.1 r.2.2.2.2.2.2.1 (List.map zE.toD r.2.2.2.2.2.2.2.1) r.2.2.2.2.2.2.2.2.1 r.2.2.2.2.2.2.2.2.2)] := by
  unfold vQ at h
  refine zW 1000 (by kernel_rfl) (by kernel_rfl) (by kernel_rfl) (by kernel_rfl) (by kernel_rfl) (z7r _ _ _ _ t at_ e K N S L From To) ?_
  rintro _ rfl
  refine zU beq_iff_eq h (fun _ h => ?_) (fun _ h => ?_)
  ·
    obtain ⟨q1, g, h⟩ := zC h
    refine ⟨_, _, _, _, _, _, _, _, ⟨_, v0N _ _ _ g⟩, ?_⟩
    cases h; exact ⟨rfl, rfl⟩
  cases h; exact ⟨rfl, rfl⟩
theorem z1H (t : List zB) (at_ e K N : Int) (S : Str) (L : List zE) (From To : Int) (r : zE × List zB × Int × Int × Int × Int × Str × List zE × Int × Int) (h : yL t at_ e K N S L From To = some r) : Trip Tryz.prog 49 [.hp 0 0, .fn 50 [] []] [(hU (List.map zB.toD t) at_ e), (hM K N S (List.map zE.toD L) From To)] [.d (gT r.1.K r.1.N r.1.S (List.map zE.toD r.1.L) r.1.From r.1.To)] [(hU (List.map zB.toD r.2.1) r.2.2.1 r.2.2.2.1), (hM r.2.2.2.2.1 r.2.2.2.2.2.1 r.2.2.2.2.2.2.1 (List.map zE.toD r.2.2.2.2.2.2.2.1) r.2.2.2.2.2.2.2.2.1 r.2.2.2.2.2.2.2.2.2)] := by
  unfold yL at h
  refine zW 1000 (by kernel_rfl) (by kernel_rfl) (by kernel_rfl) (by kernel_rfl) (by kernel_rfl) (z8b _ _ _ _ t at_ e K N S L From To) ?_
  rintro _ rfl
  refine zU beq_iff_eq h (fun _ h => ?_) (fun _ h => ?_)
  ·
    obtain ⟨q1, g, h⟩ := zC h
    refine ⟨_, _, _, _, _, _, _, _, ⟨_, y6c _ _ _ g⟩, ?_⟩
    cases h; exact ⟨rfl, rfl⟩
  cases h; exact ⟨rfl, rfl⟩
theorem y1k (t : List zB) (at_ e K N : Int) (S : Str) (L : List zE) (From To : Int) (r : Bool × List zB × Int × Int × Int × Int × Str × List zE × Int × Int) (h : z2R t at_ e K N S L From To = some r) : Trip Tryz.prog 73 [.hp 0 0] [(hU (List.map zB.toD t) at_ e), (hM K N S (List.map zE.toD L) From To)] [(nB r.1)] [(hU (List.map zB.toD r.2.1) r.2.2.1 r.2.2.2.1), (hM r.2.2.2.2.1 r.2.2.2.2.2.1 r.2.2.2.2.2.2.1 (List.map zE.toD r.2.2.2.2.2.2.2.1) r.2.2.2.2.2.2.2.2.1 r.2.2.2.2.2.2.2.2.2)] := by
  unfold z2R at h
  refine zW 1000 (by kernel_rfl) (by kernel_rfl) (by kernel_rfl) (by kernel_rfl) (by kernel_rfl) (y1o _ _ _ _ t at_ e K N S L From To) ?_
  obtain ⟨q1, g, h⟩ := zC h
  refine ⟨_, _, _, _, _, _, _, _, _, _, z3r _ _ _ _ _ _ _ _ _ _ _ _ g, ?_⟩
  cases h; exact ⟨rfl, rfl⟩
theorem z4Z (t : List zB) (at_ e K N : Int) (S : Str) (L : List zE) (From To : Int) (r : zE × List zB × Int × Int × Int × Int × Str × List zE × Int × Int) (h : uY t at_ e K N S L From To = some r) : Trip Tryz.prog 69 [.hp 0 0] [(hU (List.map zB.toD t) at_ e), (hM K N S (List.map zE.toD L) From To)] [.d (gT r.1.K r.1.N r.1.S (List.map zE.toD r.1.L) r.1.From r.1.To)] [(hU (List.map zB.toD r.2.1) r.2.2.1 r.2.2.2.1), (hM r.2.2.2.2.1 r.2.2.2.2.2.1 r.2.2.2.2.2.2.1 (List.map zE.toD r.2.2.2.2.2.2.2.1) r.2.2.2.2.2.2.2.2.1 r.2.2.2.2.2.2.2.2.2)] := by
  unfold uY at h
  refine zW 1000 (by kernel_rfl) (by kernel_rfl) (by kernel_rfl) (by kernel_rfl) (by kernel_rfl) (y2V _ _ _ _ t at_ e K N S L From To) ?_
  obtain ⟨q1, g, h⟩ := zC h
  refine ⟨_, _, _, _, _, _, _, _, _, _, z1J _ _ _ _ _ _ _ _ _ _ g, ?_⟩
  obtain ⟨q2, g, h⟩ := zC h
  refine ⟨_, _, _, _, _, _, _, _, _, uB _ _ _ _ _ _ _ _ _ _ _ _ g, ?_⟩
  obtain ⟨q3, g, h⟩ := zC h
  refine ⟨_, _, _, _, _, _, _, _, _, _, _, _, _, _, _, z1H _ _ _ _ _ _ _ _ _ _ g, ?_⟩
  obtain ⟨q4, g, h⟩ := zC h
  have hT := z0z _ _ _ _ _ _ _ _ _ _ _ _ _ _ _ g
  simp only [List.map_cons, List.map_nil, zE.toD_eq] at hT
  refine ⟨_, _, _, _, _, _, hT, ?_⟩
  cases h; exact ⟨rfl, rfl⟩
def jX : (i : uE) → jV i → Prop
  | .zH out t at_ e K N S L From To, r => Ok (gM (Trip Tryz.prog) [.d (.sl (List.map zE.toD r.1))] [(hU (List.map zB.toD r.2.1) r.2.2.1 r.2.2.2.1), (hM r.2.2.2.2.1 r.2.2.2.2.2.1 r.2.2.2.2.2.2.1 (List.map zE.toD r.2.2.2.2.2.2.2.1) r.2.2.2.2.2.2.2.2.1 r.2.2.2.2.2.2.2.2.2)]) (kL Tryz.f44 2) ⟨26, [(0, .hp 0 0), (1, .fn 69 [.hp 0 0] []), (2, .fn 73 [.hp 0 0] []), (7, .right 10 1 6 (List.map zE.toD out))], [(10, 1, some (.tok 6 (List.length (List.map zE.toD out))))], [(hU (List.map zB.toD t) at_ e), (hM K N S (List.map zE.toD L) From To)], 0⟩
theorem z2L : ∀ i r, z1S uF i = some r → jX i r := by
  refine wM z0L fun g ih i => ?_
  cases i with
  | zH out t at_ e K N S L From To =>
    have ih_unit_reader_list_reader_part_reader_comma_L2 := fun out t at_ e K N S L From To r h => ih (.zH out t at_ e K N S L From To) r h
    intro r h
    replace h : yO (fun out t at_ e K N S L From To => g (uE.zH out t at_ e K N S L From To)) out t at_ e K N S L From To = some r := h
    unfold yO at h
    refine z4a 1000 (z2M _ _ _ _ out t at_ e K N S L From To) ?_
    rintro _ rfl
    refine zD beq_iff_eq h (fun _ h => ?_) (fun _ h => ?_)
    ·
      obtain ⟨q1, g, h⟩ := zC h
      refine ⟨_, _, _, _, _, _, _, _, _, _, y1k _ _ _ _ _ _ _ _ _ _ g, ?_⟩
      refine zD Iff.rfl h (fun _ h => ?_) (fun _ h => ?_)
      ·
        obtain ⟨q2, g, h⟩ := zC h
        refine ⟨_, _, _, _, _, _, _, _, _, _, _, _, _, _, _, z4Z _ _ _ _ _ _ _ _ _ _ g, ?_⟩
        refine ⟨by simp [wB, D.cells], ?_⟩
        refine ⟨by first | rfl | decide | simp only [List.length_map, List.length_cons, List.length_nil, List.map_append, List.length_append], ?_⟩
        obtain ⟨hP, h⟩ := jZ h
        refine ⟨by first | exact hP | simpa using hP, ?_⟩
        refine z2g (e' := List.map zE.toD (out ++ [q2.1])) (by first | rfl | simp only [List.map_append, List.map_cons, List.map_nil, List.map_take, List.map_drop, List.map_set, List.map_replicate, List.length_map, zE.toD_eq]) ?_
        exact ih_unit_reader_list_reader_part_reader_comma_L2 _ _ _ _ _ _ _ _ _ _ _ h
      cases h; exact ⟨rfl, rfl⟩
    cases h; exact ⟨rfl, rfl⟩
theorem z2K (out : List zE) (t : List zB) (at_ e K N : Int) (S : Str) (L : List zE) (From To : Int) (r : List zE × List zB × Int × Int × Int × Int × Str × List zE × Int × Int) (h : zH out t at_ e K N S L From To = some r) : jX (.zH out t at_ e K N S L From To) r := z2L (.zH out t at_ e K N S L From To) r h
theorem z3f (t : List zB) (at_ e K N : Int) (S : Str) (L : List zE) (From To : Int) (r : List zE × List zB × Int × Int × Int × Int × Str × List zE × Int × Int) (h : vZ t at_ e K N S L From To = some r) : Trip Tryz.prog 44 [.hp 0 0, .fn 69 [.hp 0 0] [], .fn 73 [.hp 0 0] []] [(hU (List.map zB.toD t) at_ e), (hM K N S (List.map zE.toD L) From To)] [.d (.sl (List.map zE.toD r.1))] [(hU (List.map zB.toD r.2.1) r.2.2.1 r.2.2.2.1), (hM r.2.2.2.2.1 r.2.2.2.2.2.1 r.2.2.2.2.2.2.1 (List.map zE.toD r.2.2.2.2.2.2.2.1) r.2.2.2.2.2.2.2.2.1 r.2.2.2.2.2.2.2.2.2)] := by
  unfold vZ at h
  refine zW 1000 (by kernel_rfl) (by kernel_rfl) (by kernel_rfl) (by kernel_rfl) (by kernel_rfl) (z3d _ _ _ _ t at_ e K N S L From To) ?_
  obtain ⟨q1, g, h⟩ := zC h
  refine ⟨_, _, _, _, _, _, _, _, _, _, _, _, _, _, _, z4Z _ _ _ _ _ _ _ _ _ _ g, ?_⟩
  have hT := z2K _ _ _ _ _ _ _ _ _ _ _ h
  unfold jX at hT; dsimp only at hT
  simp only [List.map_cons, List.map_nil, List.length_cons, List.length_nil, zE.toD_eq] at hT
  exact hT
theorem z6p (t : List zB) (at_ e K N : Int) (S : Str) (L : List zE) (From To : Int) (r : zE × List zB × Int × Int × Int × Int × Str × List zE × Int × Int) (h : uK t at_ e K N S L From To = some r) : Trip Tryz.prog 52 [.hp 0 0] [(hU (List.map zB.toD t) at_ e), (hM K N S (List.map zE.toD L) From To)] [.d (gT r.1.K r.1.N r.1.S (List.map zE.toD r.1.L) r.1.From r.1.To)] [(hU (List.map zB.toD r.2.1) r.2.2.1 r.2.2.2.1), (hM r.2.2.2.2.1 r.2.2.2.2.2.1 r.2.2.2.2.2.2.1 (List.map zE.toD r.2.2.2.2.2.2.2.1) r.2.2.2.2.2.2.2.2.1 r.2.2.2.2.2.2.2.2.2)] := by
  unfold uK at h
  refine zW 1000 (by kernel_rfl) (by kernel_rfl) (by kernel_rfl) (by kernel_rfl) (by kernel_rfl) (y0F _ _ _ _ t at_ e K N S L From To) ?_
  obtain ⟨q1, g, h⟩ := zC h
  refine ⟨_, _, _, _, _, _, _, _, _, uB _ _ _ _ _ _ _ _ _ _ _ _ g, ?_⟩
  obtain ⟨q2, g, h⟩ := zC h
  refine ⟨_, _, _, _, _, _, _, _, _, _, z3r _ _ _ _ _ _ _ _ _ _ _ _ g, ?_⟩
  refine zD Iff.rfl h (fun _ h => ?_) (fun _ h => ?_)
  ·
    obtain ⟨q3, g, h⟩ := zC h
    refine ⟨_, _, _, _, _, _, z0z _ _ _ _ _ _ _ _ _ _ _ _ _ _ _ g, ?_⟩
    cases h; exact ⟨rfl, rfl⟩
  obtain ⟨q4, g, h⟩ := zC h
  refine ⟨_, _, _, _, _, _, _, _, _, _, z3f _ _ _ _ _ _ _ _ _ _ g, ?_⟩
  obtain ⟨q5, g, h⟩ := zC h
  refine ⟨_, _, _, _, _, _, _, _, _, uB _ _ _ _ _ _ _ _ _ _ _ _ g, ?_⟩
  obtain ⟨q6, g, h⟩ := zC h
  refine ⟨_, _, _, _, _, _, z0z _ _ _ _ _ _ _ _ _ _ _ _ _ _ _ g, ?_⟩
  cases h; exact ⟨rfl, rfl⟩
theorem z5t (t : List zB) (at_ e K N : Int) (S : Str) (L : List zE) (From To : Int) (r : zE × List zB × Int × Int × Int × Int × Str × List zE × Int × Int) (h : gV t at_ e K N S L From To = some r) : Trip Tryz.prog 21 [.hp 0 0] [(hU (List.map zB.toD t) at_ e), (hM K N S (List.map zE.toD L) From To)] [.d (gT r.1.K r.1.N r.1.S (List.map zE.toD r.1.L) r.1.From r.1.To)] [(hU (List.map zB.toD r.2.1) r.2.2.1 r.2.2.2.1), (hM r.2.2.2.2.1 r.2.2.2.2.2.1 r.2.2.2.2.2.2.1 (List.map zE.toD r.2.2.2.2.2.2.2.1) r.2.2.2.2.2.2.2.2.1 r.2.2.2.2.2.2.2.2.2)] := by
  unfold gV at h
  refine zW 1000 (by kernel_rfl) (by kernel_rfl) (by kernel_rfl) (by kernel_rfl) (by kernel_rfl) (z8V _ _ _ _ t at_ e K N S L From To) ?_
  obtain ⟨q1, g, h⟩ := zC h
  refine ⟨_, _, _, _, _, _, _, _, _, _, z3r _ _ _ _ _ _ _ _ _ _ _ _ g, ?_⟩
  refine zD Iff.rfl h (fun _ h => ?_) (fun _ h => ?_)
  ·
    obtain ⟨q2, g, h⟩ := zC h
    refine ⟨_, _, _, _, _, _, _, _, _, uB _ _ _ _ _ _ _ _ _ _ _ _ g, ?_⟩
    obtain ⟨q3, g, h⟩ := zC h
    refine ⟨_, _, _, _, _, _, _, _, _, _, z1J _ _ _ _ _ _ _ _ _ _ g, ?_⟩
    obtain ⟨q4, g, h⟩ := zC h
    refine ⟨_, _, _, _, _, _, _, _, _, _, _, _, _, _, _, z6p _ _ _ _ _ _ _ _ _ _ g, ?_⟩
    obtain ⟨q5, g, h⟩ := zC h
    refine ⟨_, _, _, _, _, _, _, _, _, uB _ _ _ _ _ _ _ _ _ _ _ _ g, ?_⟩
    obtain ⟨q6, g, h⟩ := zC h
    refine ⟨_, _, _, _, _, _, _, _, _, _, _, _, _, _, _, z1H _ _ _ _ _ _ _ _ _ _ g, ?_⟩
    obtain ⟨q7, g, h⟩ := zC h
    refine ⟨_, _, _, _, _, _, _, _, _, _, _, _, _, _, _, z4d _ _ _ _ _ _ _ _ _ _ g, ?_⟩
    obtain ⟨q8, g, h⟩ := zC h
    have hT := z0z _ _ _ _ _ _ _ _ _ _ _ _ _ _ _ g
    simp only [List.map_cons, List.map_nil, zE.toD_eq] at hT
    refine ⟨_, _, _, _, _, _, hT, ?_⟩
    cases h; exact ⟨rfl, rfl⟩
  obtain ⟨q9, g, h⟩ := zC h
  refine ⟨_, _, _, _, _, _, _, _, _, uB _ _ _ _ _ _ _ _ _ _ _ _ g, ?_⟩
  obtain ⟨q10, g, h⟩ := zC h
  refine ⟨_, _, _, _, _, _, _, _, _, _, z1J _ _ _ _ _ _ _ _ _ _ g, ?_⟩
  obtain ⟨q11, g, h⟩ := zC h
  refine ⟨_, _, _, _, _, _, _, _, _, _, _, _, _, _, _, z6p _ _ _ _ _ _ _ _ _ _ g, ?_⟩
  obtain ⟨q12, g, h⟩ := zC h
  refine ⟨_, _, _, _, _, _, _, _, _, uB _ _ _ _ _ _ _ _ _ _ _ _ g, ?_⟩
  obtain ⟨q13, g, h⟩ := zC h
  refine ⟨_, _, _, _, _, _, _, _, _, _, _, _, _, _, _, z1H _ _ _ _ _ _ _ _ _ _ g, ?_⟩
  obtain ⟨q14, g, h⟩ := zC h
  refine ⟨_, _, _, _, _, _, _, _, _, _, _, _, _, _, _, z4d _ _ _ _ _ _ _ _ _ _ g, ?_⟩
  obtain ⟨q15, g, h⟩ := zC h
  have hT := z0z _ _ _ _ _ _ _ _ _ _ _ _ _ _ _ g
  simp only [List.map_cons, List.map_nil, zE.toD_eq] at hT
  refine ⟨_, _, _, _, _, _, hT, ?_⟩
  cases h; exact ⟨rfl, rfl⟩
theorem y0C (t : List zB) (at_ e K N : Int) (S : Str) (L : List zE) (From To : Int) (r : zE × List zB × Int × Int × Int × Int × Str × List zE × Int × Int) (h : z0d t at_ e K N S L From To = some r) : Trip Tryz.prog 20 [.hp 0 0] [(hU (List.map zB.toD t) at_ e), (hM K N S (List.map zE.toD L) From To)] [.d (gT r.1.K r.1.N r.1.S (List.map zE.toD r.1.L) r.1.From r.1.To)] [(hU (List.map zB.toD r.2.1) r.2.2.1 r.2.2.2.1), (hM r.2.2.2.2.1 r.2.2.2.2.2.1 r.2.2.2.2.2.2.1 (List.map zE.toD r.2.2.2.2.2.2.2.1) r.2.2.2.2.2.2.2.2.1 r.2.2.2.2.2.2.2.2.2)] := by
  unfold z0d at h
  refine zW 1000 (by kernel_rfl) (by kernel_rfl) (by kernel_rfl) (by kernel_rfl) (by kernel_rfl) (y0y _ _ _ _ t at_ e K N S L From To) ?_
  rintro _ rfl
  obtain ⟨q1, g, h⟩ := zC h
  refine ⟨_, _, _, _, _, _, _, _, _, _, z1J _ _ _ _ _ _ _ _ _ _ g, ?_⟩
  obtain ⟨q2, g, h⟩ := zC h
  refine ⟨_, _, _, _, _, _, _, _, _, uB _ _ _ _ _ _ _ _ _ _ _ _ g, ?_⟩
  obtain ⟨q3, g, h⟩ := zC h
  refine ⟨_, _, _, _, _, _, _, _, _, _, _, _, _, _, _, z1H _ _ _ _ _ _ _ _ _ _ g, ?_⟩
  obtain ⟨q4, g, h⟩ := zC h
  refine ⟨_, _, _, _, _, _, _, _, _, uB _ _ _ _ _ _ _ _ _ _ _ _ g, ?_⟩
  obtain ⟨q5, g, h⟩ := zC h
  have hT := z0z _ _ _ _ _ _ _ _ _ _ _ _ _ _ _ g
  simp only [List.map_cons, List.map_nil, zE.toD_eq] at hT
  refine ⟨_, _, _, _, _, _, hT, ?_⟩
  cases h; exact ⟨rfl, rfl⟩
theorem z6K (t : List zB) (at_ e K N : Int) (S : Str) (L : List zE) (From To : Int) (r : zE × List zB × Int × Int × Int × Int × Str × List zE × Int × Int) (h : gD t at_ e K N S L From To = some r) : Trip Tryz.prog 45 [.hp 0 0] [(hU (List.map zB.toD t) at_ e), (hM K N S (List.map zE.toD L) From To)] [.d (gT r.1.K r.1.N r.1.S (List.map zE.toD r.1.L) r.1.From r.1.To)] [(hU (List.map zB.toD r.2.1) r.2.2.1 r.2.2.2.1), (hM r.2.2.2.2.1 r.2.2.2.2.2.1 r.2.2.2.2.2.2.1 (List.map zE.toD r.2.2.2.2.2.2.2.1) r.2.2.2.2.2.2.2.2.1 r.2.2.2.2.2.2.2.2.2)] := by
  unfold gD at h
  refine zW 1000 (by kernel_rfl) (by kernel_rfl) (by kernel_rfl) (by kernel_rfl) (by kernel_rfl) (y1n _ _ _ _ t at_ e K N S L From To) ?_
  obtain ⟨q1, g, h⟩ := zC h
  refine ⟨_, _, _, _, _, _, _, _, _, _, _, _, _, _, _, z4Z _ _ _ _ _ _ _ _ _ _ g, ?_⟩
  obtain ⟨q2, g, h⟩ := zC h
  refine ⟨_, _, _, _, _, _, _, _, _, uB _ _ _ _ _ _ _ _ _ _ _ _ g, ?_⟩
  cases h; exact ⟨rfl, rfl⟩
theorem y3q (t : List zB) (at_ e K N : Int) (S : Str) (L : List zE) (From To : Int) (r : Bool) (h : z3l t at_ e K N S L From To = some r) : Trip Tryz.prog 46 [.hp 0 0] [(hU (List.map zB.toD t) at_ e), (hM K N S (List.map zE.toD L) From To)] [(nB r)] [(hU (List.map zB.toD t) at_ e), (hM K N S (List.map zE.toD L) From To)] := by
  unfold z3l at h
  refine zW 1000 (by kernel_rfl) (by kernel_rfl) (by kernel_rfl) (by kernel_rfl) (by kernel_rfl) (y1U _ _ _ _ t at_ e K N S L From To) ?_
  obtain ⟨q1, g, h⟩ := zC h
  refine ⟨_, z0F _ _ _ _ _ _ _ _ _ _ _ _ g, ?_⟩
  cases h; exact ⟨rfl, rfl⟩
def jU : (i : uH) → jW i → Prop
  | .zG out t at_ e K N S L From To, r => Ok (gL (Trip Tryz.prog) [.d (.sl (List.map zE.toD r.1))] [(hU (List.map zB.toD r.2.1) r.2.2.1 r.2.2.2.1), (hM r.2.2.2.2.1 r.2.2.2.2.2.1 r.2.2.2.2.2.2.1 (List.map zE.toD r.2.2.2.2.2.2.2.1) r.2.2.2.2.2.2.2.2.1 r.2.2.2.2.2.2.2.2.2)]) (kL Tryz.f44 2) ⟨26, [(0, .hp 0 0), (1, .fn 45 [.hp 0 0] []), (2, .fn 46 [.hp 0 0] []), (7, .right 10 1 6 (List.map zE.toD out))], [(10, 1, some (.tok 6 (List.length (List.map zE.toD out))))], [(hU (List.map zB.toD t) at_ e), (hM K N S (List.map zE.toD L) From To)], 0⟩
theorem z2H : ∀ i r, z1S uG i = some r → jU i r := by
  refine wM z0K fun g ih i => ?_
  cases i with
  | zG out t at_ e K N S L From To =>
    have ih_unit_reader_list_reader_field_reader_open_L2 := fun out t at_ e K N S L From To r h => ih (.zG out t at_ e K N S L From To) r h
    intro r h
    replace h : yP (fun out t at_ e K N S L From To => g (uH.zG out t at_ e K N S L From To)) out t at_ e K N S L From To = some r := h
    unfold yP at h
    refine z4a 1000 (z2J _ _ _ _ out t at_ e K N S L From To) ?_
    rintro _ rfl
    refine zD beq_iff_eq h (fun _ h => ?_) (fun _ h => ?_)
    ·
      obtain ⟨q1, g, h⟩ := zC h
      refine ⟨_, y3q _ _ _ _ _ _ _ _ _ _ g, ?_⟩
      refine zD Iff.rfl h (fun _ h => ?_) (fun _ h => ?_)
      ·
        obtain ⟨q2, g, h⟩ := zC h
        refine ⟨_, _, _, _, _, _, _, _, _, _, _, _, _, _, _, z6K _ _ _ _ _ _ _ _ _ _ g, ?_⟩
        refine ⟨by simp [wB, D.cells], ?_⟩
        refine ⟨by first | rfl | decide | simp only [List.length_map, List.length_cons, List.length_nil, List.map_append, List.length_append], ?_⟩
        obtain ⟨hP, h⟩ := jZ h
        refine ⟨by first | exact hP | simpa using hP, ?_⟩
        refine z2g (e' := List.map zE.toD (out ++ [q2.1])) (by first | rfl | simp only [List.map_append, List.map_cons, List.map_nil, List.map_take, List.map_drop, List.map_set, List.map_replicate, List.length_map, zE.toD_eq]) ?_
        exact ih_unit_reader_list_reader_field_reader_open_L2 _ _ _ _ _ _ _ _ _ _ _ h
      cases h; exact ⟨rfl, rfl⟩
    cases h; exact ⟨rfl, rfl⟩
theorem z2I (out : List zE) (t : List zB) (at_ e K N : Int) (S : Str) (L : List zE) (From To : Int) (r : List zE × List zB × Int × Int × Int × Int × Str × List zE × Int × Int) (h : zG out t at_ e K N S L From To = some r) : jU (.zG out t at_ e K N S L From To) r := z2H (.zG out t at_ e K N S L From To) r h
theorem z3g (t : List zB) (at_ e K N : Int) (S : Str) (L : List zE) (From To : Int) (r : List zE × List zB × Int × Int × Int × Int × Str × List zE × Int × Int) (h : uA t at_ e K N S L From To = some r) : Trip Tryz.prog 44 [.hp 0 0, .fn 45 [.hp 0 0] [], .fn 46 [.hp 0 0] []] [(hU (List.map zB.toD t) at_ e), (hM K N S (List.map zE.toD L) From To)] [.d (.sl (List.map zE.toD r.1))] [(hU (List.map zB.toD r.2.1) r.2.2.1 r.2.2.2.1), (hM r.2.2.2.2.1 r.2.2.2.2.2.1 r.2.2.2.2.2.2.1 (List.map zE.toD r.2.2.2.2.2.2.2.1) r.2.2.2.2.2.2.2.2.1 r.2.2.2.2.2.2.2.2.2)] := by
  unfold uA at h
  refine zW 1000 (by kernel_rfl) (by kernel_rfl) (by kernel_rfl) (by kernel_rfl) (by kernel_rfl) (z3c _ _ _ _ t at_ e K N S L From To) ?_
  obtain ⟨q1, g, h⟩ := zC h
  refine ⟨_, _, _, _, _, _, _, _, _, _, _, _, _, _, _, z6K _ _ _ _ _ _ _ _ _ _ g, ?_⟩
  have hT := z2I _ _ _ _ _ _ _ _ _ _ _ h
  unfold jU at hT; dsimp only at hT
  simp only [List.map_cons, List.map_nil, List.length_cons, List.length_nil, zE.toD_eq] at hT
  exact hT
theorem y0I (t : List zB) (at_ e K N : Int) (S : Str) (L : List zE) (From To : Int) (r : zE × List zB × Int × Int × Int × Int × Str × List zE × Int × Int) (h : z1b t at_ e K N S L From To = some r) : Trip Tryz.prog 18 [.hp 0 0] [(hU (List.map zB.toD t) at_ e), (hM K N S (List.map zE.toD L) From To)] [.d (gT r.1.K r.1.N r.1.S (List.map zE.toD r.1.L) r.1.From r.1.To)] [(hU (List.map zB.toD r.2.1) r.2.2.1 r.2.2.2.1), (hM r.2.2.2.2.1 r.2.2.2.2.2.1 r.2.2.2.2.2.2.1 (List.map zE.toD r.2.2.2.2.2.2.2.1) r.2.2.2.2.2.2.2.2.1 r.2.2.2.2.2.2.2.2.2)] := by
  unfold z1b at h
  refine zW 1000 (by kernel_rfl) (by kernel_rfl) (by kernel_rfl) (by kernel_rfl) (by kernel_rfl) (y0z _ _ _ _ t at_ e K N S L From To) ?_
  rintro _ rfl
  obtain ⟨q1, g, h⟩ := zC h
  refine ⟨_, _, _, _, _, _, _, _, _, _, z1J _ _ _ _ _ _ _ _ _ _ g, ?_⟩
  obtain ⟨q2, g, h⟩ := zC h
  refine ⟨_, _, _, _, _, _, _, _, _, uB _ _ _ _ _ _ _ _ _ _ _ _ g, ?_⟩
  obtain ⟨q3, g, h⟩ := zC h
  refine ⟨_, _, _, _, _, _, _, _, _, _, z3g _ _ _ _ _ _ _ _ _ _ g, ?_⟩
  obtain ⟨q4, g, h⟩ := zC h
  refine ⟨_, _, _, _, _, _, _, _, _, uB _ _ _ _ _ _ _ _ _ _ _ _ g, ?_⟩
  obtain ⟨q5, g, h⟩ := zC h
  refine ⟨_, _, _, _, _, _, z0z _ _ _ _ _ _ _ _ _ _ _ _ _ _ _ g, ?_⟩
  cases h; exact ⟨rfl, rfl⟩
theorem y2j (t : List zB) (at_ e K N : Int) (S : Str) (L : List zE) (From To : Int) (r : zE × List zB × Int × Int × Int × Int × Str × List zE × Int × Int) (h : z0H t at_ e K N S L From To = some r) : Trip Tryz.prog 9 [.hp 0 0] [(hU (List.map zB.toD t) at_ e), (hM K N S (List.map zE.toD L) From To)] [.d (gT r.1.K r.1.N r.1.S (List.map zE.toD r.1.L) r.1.From r.1.To)] [(hU (List.map zB.toD r.2.1) r.2.2.1 r.2.2.2.1), (hM r.2.2.2.2.1 r.2.2.2.2.2.1 r.2.2.2.2.2.2.1 (List.map zE.toD r.2.2.2.2.2.2.2.1) r.2.2.2.2.2.2.2.2.1 r.2.2.2.2.2.2.2.2.2)] := by
  unfold z0H at h
  refine zW 1000 (by kernel_rfl) (by kernel_rfl) (by kernel_rfl) (by kernel_rfl) (by kernel_rfl) (y3x _ _ _ _ t at_ e K N S L From To) ?_
  obtain ⟨q1, g, h⟩ := zC h
  refine ⟨_, z0F _ _ _ _ _ _ _ _ _ _ _ _ g, ?_⟩
  refine zD Iff.rfl h (fun _ h => ?_) (fun _ h => ?_)
  ·
    obtain ⟨q2, g, h⟩ := zC h
    refine ⟨_, _, _, _, _, _, _, _, _, _, _, _, _, _, _, y0I _ _ _ _ _ _ _ _ _ _ g, ?_⟩
    cases h; exact ⟨rfl, rfl⟩
  obtain ⟨q3, g, h⟩ := zC h
  refine ⟨_, z0F _ _ _ _ _ _ _ _ _ _ _ _ g, ?_⟩
  refine zD Iff.rfl h (fun _ h => ?_) (fun _ h => ?_)
  ·
    obtain ⟨q4, g, h⟩ := zC h
    refine ⟨_, _, _, _, _, _, _, _, _, _, _, _, _, _, _, y0L _ _ _ _ _ _ _ _ _ _ g, ?_⟩
    cases h; exact ⟨rfl, rfl⟩
  obtain ⟨q5, g, h⟩ := zC h
  refine ⟨_, z0F _ _ _ _ _ _ _ _ _ _ _ _ g, ?_⟩
  refine zD Iff.rfl h (fun _ h => ?_) (fun _ h => ?_)
  ·
    obtain ⟨q6, g, h⟩ := zC h
    refine ⟨_, _, _, _, _, _, _, _, _, _, _, _, _, _, _, y0C _ _ _ _ _ _ _ _ _ _ g, ?_⟩
    cases h; exact ⟨rfl, rfl⟩
  obtain ⟨q7, g, h⟩ := zC h
  refine ⟨_, z0F _ _ _ _ _ _ _ _ _ _ _ _ g, ?_⟩
  refine zD Iff.rfl h (fun hc207 h => ?_) (fun hc207 h => ?_)
  ·
    refine jK Iff.rfl hc207 ?_
    obtain ⟨q8, g, h⟩ := zC h
    refine ⟨_, _, _, _, _, _, _, _, _, _, _, _, _, _, _, z5t _ _ _ _ _ _ _ _ _ _ g, ?_⟩
    cases h; exact ⟨rfl, rfl⟩
  obtain ⟨q9, g, h⟩ := zC h
  refine ⟨_, z0F _ _ _ _ _ _ _ _ _ _ _ _ g, ?_⟩
  refine zD Iff.rfl h (fun _ h => ?_) (fun _ h => ?_)
  ·
    obtain ⟨q10, g, h⟩ := zC h
    refine ⟨_, _, _, _, _, _, _, _, _, _, _, _, _, _, _, z5t _ _ _ _ _ _ _ _ _ _ g, ?_⟩
    cases h; exact ⟨rfl, rfl⟩
  cases h; exact ⟨rfl, rfl⟩
def z9B : (i : z5i) → z6Z i → Prop
  | .wP o2 t at_ e K N S L From To, r => Ok (z9r (Trip Tryz.prog) [.d (gT r.1.K r.1.N r.1.S (List.map zE.toD r.1.L) r.1.From r.1.To), (nI r.2.1), (nI r.2.2)] []) (kL Tryz.f5 6) ⟨79, [(2, .ref 2 1 0), (8, .hp 0 0), (9, .hp 1 0)], [(2, 1, some (.agg (gT o2.K o2.N o2.S (List.map zE.toD o2.L) o2.From o2.To)))], [(hU (List.map zB.toD t) at_ e), (hM K N S (List.map zE.toD L) From To)], 0⟩
theorem y5G : ∀ i r, z1S z4M i = some r → z9B i r := by
  refine wM z9F fun g ih i => ?_
  cases i with
  | wP o2 t at_ e K N S L From To =>
    have ih_unit_Parse_L6 := fun o2 t at_ e K N S L From To r h => ih (.wP o2 t at_ e K N S L From To) r h
    intro r h
    replace h : z1Z (fun o2 t at_ e K N S L From To => g (z5i.wP o2 t at_ e K N S L From To)) o2 t at_ e K N S L From To = some r := h
    unfold z1Z at h
    refine z4a 1000 (y6k _ _ _ _ o2 t at_ e K N S L From To) ?_
    obtain ⟨x, hx, h⟩ := zC h
    refine ⟨gN (l := t) (zB.sz), z4f hx, x.K, x.N, x.S, x.From, x.To, z1Y (zB.toD_eq x) hx, ?_⟩
    rintro _ rfl
    refine zU beq_iff_eq h (fun _ h => ?_) (fun _ h => ?_)
    ·
      refine z2g (e' := (List.length L : Int)) (by first | rfl | rw [List.length_map]) ?_
      rintro _ rfl
      refine zD decide_eq_true_iff h (fun _ h => ?_) (fun _ h => ?_)
      ·
        cases h; exact ⟨rfl, rfl⟩
      obtain ⟨q2, g, h⟩ := zC h
      refine ⟨_, ⟨_, v0K _ _ g⟩, ?_⟩
      rintro _ rfl
      refine zD decide_eq_true_iff h (fun _ h => ?_) (fun _ h => ?_)
      ·
        cases h; exact ⟨rfl, rfl⟩
      cases h; exact ⟨rfl, rfl⟩
    obtain ⟨q1, g, h⟩ := zC h
    refine ⟨_, _, _, _, _, _, _, _, _, _, _, _, _, _, _, y2j _ _ _ _ _ _ _ _ _ _ g, ?_⟩
    rintro _ rfl
    refine zU beq_iff_eq h (fun _ h => ?_) (fun _ h => ?_)
    ·
      refine ⟨by simp [wB, D.cells], ?_⟩
      refine ⟨by first | rfl | decide | simp only [List.length_map, List.length_cons, List.length_nil, List.map_append, List.length_append], ?_⟩
      obtain ⟨hP, h⟩ := jZ h
      refine ⟨by first | exact hP | simpa using hP, ?_⟩
      refine z2g (e' := List.map zE.toD (q1.2.2.2.2.2.2.2.1 ++ [q1.1])) (by first | rfl | simp only [List.map_append, List.map_cons, List.map_nil, List.map_take, List.map_drop, List.map_set, List.map_replicate, List.length_map, zE.toD_eq]) ?_
      refine ⟨by first | rfl | decide | simp only [List.length_map, List.length_cons, List.length_nil, List.map_append, List.length_append], ?_⟩
      exact ih_unit_Parse_L6 _ _ _ _ _ _ _ _ _ _ _ h
    obtain ⟨x1, hx, h⟩ := zC h
    refine ⟨gN (l := q1.2.1) (zB.sz), z4f hx, x1.K, x1.N, x1.S, x1.From, x1.To, z1Y (zB.toD_eq x1) hx, ?_⟩
    cases h; exact ⟨rfl, rfl⟩
theorem y6u (o2 : zE) (t : List zB) (at_ e K N : Int) (S : Str) (L : List zE) (From To : Int) (r : zE × Int × Int) (h : wP o2 t at_ e K N S L From To = some r) : z9B (.wP o2 t at_ e K N S L From To) r := y5G (.wP o2 t at_ e K N S L From To) r h
theorem y4u (text : Str) (r : zE × Int × Int) (h : z5I text = some r) : Trip Tryz.prog 5 [(nS text)] [] [.d (gT r.1.K r.1.N r.1.S (List.map zE.toD r.1.L) r.1.From r.1.To), (nI r.2.1), (nI r.2.2)] [] := by
  unfold z5I at h
  refine zW 1000 (by kernel_rfl) (by kernel_rfl) (by kernel_rfl) (by kernel_rfl) (by kernel_rfl) (y9n _ _ _ _ text) ?_
  obtain ⟨q1, g, h⟩ := zC h
  refine ⟨_, _, _, ⟨_, v0e _ _ g⟩, ?_⟩
  rintro _ rfl
  refine zU beq_iff_eq h (fun _ h => ?_) (fun _ h => ?_)
  ·
    rintro _ rfl
    exact y6u _ _ _ _ _ _ _ _ _ _ _ h
  cases h; exact ⟨rfl, rfl⟩
theorem y4D  (r : Bool) (h : z6D = some r) : Trip Tryz.prog 4 [] [] [(nB r)] [] := by
  unfold z6D at h
  refine zW 1000 (by kernel_rfl) (by kernel_rfl) (by kernel_rfl) (by kernel_rfl) (by kernel_rfl) (v0r _ _ _ _ ) ?_
  obtain ⟨q1, g, h⟩ := zC h
  refine ⟨_, _, _, _, _, _, _, _, ⟨_, y4u _ _ g⟩, ?_⟩
  rintro _ rfl
  refine zD beq_iff_eq h (fun _ h => ?_) (fun _ h => ?_)
  ·
    rintro _ rfl
    refine zD beq_iff_eq h (fun _ h => ?_) (fun _ h => ?_)
    ·
      refine z2g (e' := (List.length q1.1.L : Int)) (by first | rfl | rw [List.length_map]) ?_
      rintro _ rfl
      refine zD beq_iff_eq h (fun _ h => ?_) (fun _ h => ?_)
      ·
        obtain ⟨x, hx, h⟩ := zC h
        refine ⟨gN (l := q1.1.L) (zE.sz), z4f hx, x.K, x.N, x.S, List.map zE.toD x.L, x.From, x.To, z1Y (zE.toD_eq x) hx, ?_⟩
        rintro _ rfl
        cases h; exact ⟨rfl, rfl⟩
      cases h; exact ⟨rfl, rfl⟩
    cases h; exact ⟨rfl, rfl⟩
  cases h; exact ⟨rfl, rfl⟩
def y3a : (i : z2A) → z8G i → Prop
  | .gB a b, r => Trip Tryz.prog 7 [.d (gT a.K a.N a.S (List.map zE.toD a.L) a.From a.To), .d (gT b.K b.N b.S (List.map zE.toD b.L) b.From b.To)] [] [(nB r)] []
  | .wG i a b, r => Ok (z8s (Trip Tryz.prog) [(nB r)] []) (kL Tryz.f7 4) ⟨67, [(2, .ref 2 1 0), (3, .ref 3 1 0), (5, (nI i))], [(2, 1, some (.agg (gT a.K a.N a.S (List.map zE.toD a.L) a.From a.To))), (3, 1, some (.agg (gT b.K b.N b.S (List.map zE.toD b.L) b.From b.To)))], [], 0⟩
theorem y8w : ∀ i r, z1S z3M i = some r → y3a i r := by
  refine wM z8C fun g ih i => ?_
  cases i with
  | gB a b =>
    have ih_ref06Placed_L4 := fun i a b r h => ih (.wG i a b) r h
    intro r h
    replace h : z3U (fun i a b => g (z2A.wG i a b)) a b = some r := h
    unfold z3U at h
    refine zW 1000 (by kernel_rfl) (by kernel_rfl) (by kernel_rfl) (by kernel_rfl) (by kernel_rfl) (y9e _ _ _ _ a b) ?_
    rintro _ rfl
    refine zU beq_iff_eq h (fun _ h => ?_) (fun _ h => ?_)
    ·
      rintro _ rfl
      refine zU beq_iff_eq h (fun _ h => ?_) (fun _ h => ?_)
      ·
        rintro _ rfl
        refine zU beq_iff_eq h (fun _ h => ?_) (fun _ h => ?_)
        ·
          rintro _ rfl
          refine zU beq_iff_eq h (fun _ h => ?_) (fun _ h => ?_)
          ·
            rintro _ rfl
            refine zU beq_iff_eq h (fun _ h => ?_) (fun _ h => ?_)
            ·
              refine z2g (e' := (List.length a.L : Int)) (by first | rfl | rw [List.length_map]) ?_
              refine z2g (e' := (List.length b.L : Int)) (by first | rfl | rw [List.length_map]) ?_
              rintro _ rfl
              refine zU beq_iff_eq h (fun _ h => ?_) (fun _ h => ?_)
              ·
                exact ih_ref06Placed_L4 _ _ _ _ h
              cases h; exact ⟨rfl, rfl⟩
            cases h; exact ⟨rfl, rfl⟩
          cases h; exact ⟨rfl, rfl⟩
        cases h; exact ⟨rfl, rfl⟩
      cases h; exact ⟨rfl, rfl⟩
    cases h; exact ⟨rfl, rfl⟩
  | wG i a b =>
    have ih_ref06Placed := fun a b r h => ih (.gB a b) r h
    have ih_ref06Placed_L4 := fun i a b r h => ih (.wG i a b) r h
    intro r h
    replace h : z1K (fun a b => g (z2A.gB a b)) (fun i a b => g (z2A.wG i a b)) i a b = some r := h
    unfold z1K at h
    refine z4a 1000 (y5g _ _ _ _ i a b) ?_
    refine z2g (e' := (List.length a.L : Int)) (by first | rfl | rw [List.length_map]) ?_
    rintro _ rfl
    refine zD decide_eq_true_iff h (fun _ h => ?_) (fun _ h => ?_)
    ·
      obtain ⟨x, hx, h⟩ := zC h
      refine ⟨gN (l := a.L) (zE.sz), z4f hx, x.K, x.N, x.S, List.map zE.toD x.L, x.From, x.To, z1Y (zE.toD_eq x) hx, ?_⟩
      obtain ⟨x1, hx, h⟩ := zC h
      refine ⟨gN (l := b.L) (zE.sz), z4f hx, x1.K, x1.N, x1.S, List.map zE.toD x1.L, x1.From, x1.To, z1Y (zE.toD_eq x1) hx, ?_⟩
      obtain ⟨q1, g, h⟩ := zC h
      refine ⟨_, ⟨_, ih_ref06Placed _ _ _ g⟩, ?_⟩
      refine zU Iff.rfl h (fun _ h => ?_) (fun _ h => ?_)
      ·
        rintro _ rfl
        exact ih_ref06Placed_L4 _ _ _ _ h
      cases h; exact ⟨rfl, rfl⟩
    cases h; exact ⟨rfl, rfl⟩
theorem y8G (a b : zE) (r : Bool) (h : gB a b = some r) : y3a (.gB a b) r := y8w (.gB a b) r h
theorem y3o (text : Str) (at_ : Int) (s : Str) (r : Bool) (h : z5E text at_ s = some r) : Trip Tryz.prog 55 [(nS text), (nI at_), (nS s)] [] [(nB r)] [] := by
  unfold z5E at h
  refine zW 1000 (by kernel_rfl) (by kernel_rfl) (by kernel_rfl) (by kernel_rfl) (by kernel_rfl) (y8M _ _ _ _ text at_ s) ?_
  rintro _ rfl
  rintro _ rfl
  rintro _ rfl
  rintro _ rfl
  refine zD decide_eq_true_iff h (fun _ h => ?_) (fun _ h => ?_)
  ·
    rintro _ rfl
    rintro _ rfl
    obtain ⟨hP, h⟩ := jZ h
    refine ⟨by first | exact hP | simpa using hP, ?_⟩
    obtain ⟨hP, h⟩ := jZ h
    refine ⟨by first | exact hP | simpa using hP, ?_⟩
    obtain ⟨hP, h⟩ := jZ h
    refine ⟨by first | exact hP | simpa using hP, ?_⟩
    obtain ⟨hP, h⟩ := jZ h
    refine ⟨by first | exact hP | simpa using hP, ?_⟩
    rintro _ rfl
    rintro _ rfl
    cases h; exact ⟨rfl, rfl⟩
  cases h; exact ⟨rfl, rfl⟩
theorem v0S (c : Int) (r : Bool) (h : z7K c = some r) : Trip Tryz.prog 54 [.d (.int .u8 c)] [] [(nB r)] [] := by
  unfold z7K at h
  refine zW 1000 (by kernel_rfl) (by kernel_rfl) (by kernel_rfl) (by kernel_rfl) (by kernel_rfl) (v0O _ _ _ _ c) ?_
  rintro _ rfl
  refine zD beq_iff_eq h (fun _ h => ?_) (fun _ h => ?_)
  ·
    cases h; exact ⟨rfl, rfl⟩
  rintro _ rfl
  refine zD beq_iff_eq h (fun _ h => ?_) (fun _ h => ?_)
  ·
    cases h; exact ⟨rfl, rfl⟩
  rintro _ rfl
  refine zD beq_iff_eq h (fun _ h => ?_) (fun _ h => ?_)
  ·
    cases h; exact ⟨rfl, rfl⟩
  rintro _ rfl
  cases h; exact ⟨rfl, rfl⟩
def y0T : (i : z0W) → z7A i → Prop
  | .vX text at_, r => Ok (z6Y (Trip Tryz.prog) [(nI r)] []) (kL Tryz.f24 1) ⟨32, [(0, (nS text)), (1, (nI at_))], [], [], 0⟩
  | .uR text at_, r => Ok (z6Y (Trip Tryz.prog) [(nI r)] []) (kL Tryz.f24 5) ⟨32, [(0, (nS text)), (1, (nI at_))], [], [], 0⟩
theorem y7m : ∀ i r, z1S z3o i = some r → y0T i r := by
  refine wM z7w fun g ih i => ?_
  cases i with
  | vX text at_ =>
    have ih_ref05Next_L1 := fun text at_ r h => ih (.vX text at_) r h
    have ih_ref05Next_L5 := fun text at_ r h => ih (.uR text at_) r h
    intro r h
    replace h : z2B (fun text at_ => g (z0W.vX text at_)) (fun text at_ => g (z0W.uR text at_)) text at_ = some r := h
    unfold z2B at h
    refine z4a 1000 (y7x _ _ _ _ text at_) ?_
    rintro _ rfl
    rintro _ rfl
    refine zD decide_eq_true_iff h (fun _ h => ?_) (fun _ h => ?_)
    ·
      obtain ⟨c, hx, h⟩ := zC h
      refine ⟨z4f hx, c, y9B hx, ?_⟩
      rintro _ rfl
      obtain ⟨q1, g, h⟩ := zC h
      refine ⟨_, ⟨_, v0S _ _ g⟩, ?_⟩
      refine zD Iff.rfl h (fun _ h => ?_) (fun _ h => ?_)
      ·
        rintro _ rfl
        exact ih_ref05Next_L1 _ _ _ h
      obtain ⟨q2, g, h⟩ := zC h
      refine ⟨_, ⟨_, y3o _ _ _ _ g⟩, ?_⟩
      refine zD Iff.rfl h (fun _ h => ?_) (fun _ h => ?_)
      ·
        exact ih_ref05Next_L5 _ _ _ h
      cases h; exact ⟨rfl, rfl⟩
    cases h; exact ⟨rfl, rfl⟩
  | uR text at_ =>
    have ih_ref05Next_L1 := fun text at_ r h => ih (.vX text at_) r h
    have ih_ref05Next_L5 := fun text at_ r h => ih (.uR text at_) r h
    intro r h
    replace h : z2D (fun text at_ => g (z0W.vX text at_)) (fun text at_ => g (z0W.uR text at_)) text at_ = some r := h
    unfold z2D at h
    refine z4a 1000 (y7r _ _ _ _ text at_) ?_
    rintro _ rfl
    rintro _ rfl
    refine zD decide_eq_true_iff h (fun _ h => ?_) (fun _ h => ?_)
    ·
      obtain ⟨c, hx, h⟩ := zC h
      refine ⟨z4f hx, c, y9B hx, ?_⟩
      rintro _ rfl
      rintro _ rfl
      refine zU beq_iff_eq h (fun _ h => ?_) (fun _ h => ?_)
      ·
        exact ih_ref05Next_L1 _ _ _ h
      rintro _ rfl
      exact ih_ref05Next_L5 _ _ _ h
    exact ih_ref05Next_L1 _ _ _ h
theorem y7n (text : Str) (at_ r : Int) (h : vX text at_ = some r) : y0T (.vX text at_) r := y7m (.vX text at_) r h
theorem y6a (text : Str) (at_ r : Int) (h : z7Q text at_ = some r) : Trip Tryz.prog 24 [(nS text), (nI at_)] [] [(nI r)] [] := by
  unfold z7Q at h
  refine zW 1000 (by kernel_rfl) (by kernel_rfl) (by kernel_rfl) (by kernel_rfl) (by kernel_rfl) (v1U _ _ _ _ text at_) ?_
  exact y7n _ _ _ h
theorem y0d (c : Int) (r : Bool) (h : z5x c = some r) : Trip Tryz.prog 57 [.d (.int .u8 c)] [] [(nB r)] [] := by
  unfold z5x at h
  refine zW 1000 (by kernel_rfl) (by kernel_rfl) (by kernel_rfl) (by kernel_rfl) (by kernel_rfl) (v0U _ _ _ _ c) ?_
  rintro _ rfl
  refine zD decide_eq_true_iff h (fun _ h => ?_) (fun _ h => ?_)
  ·
    rintro _ rfl
    cases h; exact ⟨rfl, rfl⟩
  cases h; exact ⟨rfl, rfl⟩
theorem y2v (c : Int) (r : Bool) (h : z5J c = some r) : Trip Tryz.prog 56 [.d (.int .u8 c)] [] [(nB r)] [] := by
  unfold z5J at h
  refine zW 1000 (by kernel_rfl) (by kernel_rfl) (by kernel_rfl) (by kernel_rfl) (by kernel_rfl) (y8f _ _ _ _ c) ?_
  rintro _ rfl
  refine zD decide_eq_true_iff h (fun _ h => ?_) (fun _ h => ?_)
  ·
    rintro _ rfl
    refine zD decide_eq_true_iff h (fun _ h => ?_) (fun _ h => ?_)
    ·
      cases h; exact ⟨rfl, rfl⟩
    rintro _ rfl
    refine zD decide_eq_true_iff h (fun _ h => ?_) (fun _ h => ?_)
    ·
      rintro _ rfl
      refine zD decide_eq_true_iff h (fun _ h => ?_) (fun _ h => ?_)
      ·
        cases h; exact ⟨rfl, rfl⟩
      rintro _ rfl
      cases h; exact ⟨rfl, rfl⟩
    rintro _ rfl
    cases h; exact ⟨rfl, rfl⟩
  rintro _ rfl
  refine zD decide_eq_true_iff h (fun _ h => ?_) (fun _ h => ?_)
  ·
    rintro _ rfl
    refine zD decide_eq_true_iff h (fun _ h => ?_) (fun _ h => ?_)
    ·
      cases h; exact ⟨rfl, rfl⟩
    rintro _ rfl
    cases h; exact ⟨rfl, rfl⟩
  rintro _ rfl
  cases h; exact ⟨rfl, rfl⟩
def z8N : (i : z4o) → z6f i → Prop
  | .wH s v i, r => Ok (z8r (Trip Tryz.prog) [(nI r.1), (nB r.2)] []) (kL Tryz.f60 5) ⟨41, [(0, (nS s)), (4, (nI v)), (5, (nI i))], [], [], 0⟩
theorem y4Z : ∀ i r, z1S z4k i = some r → z8N i r := by
  refine wM z8K fun g ih i => ?_
  cases i with
  | wH s v i =>
    have ih_ref05Number_L5 := fun s v i r h => ih (.wH s v i) r h
    intro r h
    replace h : z1M (fun s v i => g (z4o.wH s v i)) s v i = some r := h
    unfold z1M at h
    refine z4a 1000 (y5o _ _ _ _ s v i) ?_
    rintro _ rfl
    rintro _ rfl
    refine zD decide_eq_true_iff h (fun _ h => ?_) (fun _ h => ?_)
    ·
      obtain ⟨c, hx, h⟩ := zC h
      refine ⟨z4f hx, c, y9B hx, ?_⟩
      rintro _ rfl
      rintro _ rfl
      rintro _ rfl
      rintro _ rfl
      obtain ⟨hP, h⟩ := jZ h
      refine ⟨by first | exact hP | simpa using hP, ?_⟩
      rintro _ rfl
      rintro _ rfl
      refine zD decide_eq_true_iff h (fun _ h => ?_) (fun _ h => ?_)
      ·
        cases h; exact ⟨rfl, rfl⟩
      rintro _ rfl
      rintro _ rfl
      rintro _ rfl
      exact ih_ref05Number_L5 _ _ _ _ h
    cases h; exact ⟨rfl, rfl⟩
theorem z8T (s : Str) (v i : Int) (r : Int × Bool) (h : wH s v i = some r) : z8N (.wH s v i) r := y4Z (.wH s v i) r h
theorem y1V (s : Str) (r : Int × Bool) (h : z4z s = some r) : Trip Tryz.prog 60 [(nS s)] [] [(nI r.1), (nB r.2)] [] := by
  unfold z4z at h
  refine zW 1000 (by kernel_rfl) (by kernel_rfl) (by kernel_rfl) (by kernel_rfl) (by kernel_rfl) (y8X _ _ _ _ s) ?_
  rintro _ rfl
  rintro _ rfl
  refine zD beq_iff_eq h (fun _ h => ?_) (fun _ h => ?_)
  ·
    cases h; exact ⟨rfl, rfl⟩
  rintro _ rfl
  rintro _ rfl
  refine zD decide_eq_true_iff h (fun _ h => ?_) (fun _ h => ?_)
  ·
    obtain ⟨c, hx, h⟩ := zC h
    refine ⟨z4f hx, c, y9B hx, ?_⟩
    rintro _ rfl
    rintro _ rfl
    refine zD beq_iff_eq h (fun _ h => ?_) (fun _ h => ?_)
    ·
      cases h; exact ⟨rfl, rfl⟩
    exact z8T _ _ _ _ h
  exact z8T _ _ _ _ h
def y0V : (i : z5Q) → z7u i → Prop
  | .jE text at_ to_ o4, r => Ok (z5z (Trip Tryz.prog) [.d (gK r.1.K r.1.N r.1.S r.1.From r.1.To), (nI r.2)] []) (kL Tryz.f25 13) ⟨114, [(0, (nS text)), (1, (nI at_)), (4, .ref 4 1 0), (7, (nI to_))], [(4, 1, some (.agg (gK o4.K o4.N o4.S o4.From o4.To)))], [], 0⟩
theorem y7z : ∀ i r, z1S z5R i = some r → y0V i r := by
  refine wM y0U fun g ih i => ?_
  cases i with
  | jE text at_ to_ o4 =>
    have ih_ref05One_L13 := fun text at_ to_ o4 r h => ih (.jE text at_ to_ o4) r h
    intro r h
    replace h : z2C (fun text at_ to_ o4 => g (z5Q.jE text at_ to_ o4)) text at_ to_ o4 = some r := h
    unfold z2C at h
    refine z4a 1000 (y7s _ _ _ _ text at_ to_ o4) ?_
    rintro _ rfl
    rintro _ rfl
    refine zD decide_eq_true_iff h (fun _ h => ?_) (fun _ h => ?_)
    ·
      obtain ⟨c, hx, h⟩ := zC h
      refine ⟨z4f hx, c, y9B hx, ?_⟩
      rintro _ rfl
      obtain ⟨q1, g, h⟩ := zC h
      refine ⟨_, ⟨_, y0d _ _ g⟩, ?_⟩
      refine zD Iff.rfl h (fun _ h => ?_) (fun _ h => ?_)
      ·
        rintro _ rfl
        exact ih_ref05One_L13 _ _ _ _ _ h
      obtain ⟨hP, h⟩ := jZ h
      refine ⟨by first | exact hP | simpa using hP, ?_⟩
      obtain ⟨hP, h⟩ := jZ h
      refine ⟨by first | exact hP | simpa using hP, ?_⟩
      obtain ⟨hP, h⟩ := jZ h
      refine ⟨by first | exact hP | simpa using hP, ?_⟩
      obtain ⟨hP, h⟩ := jZ h
      refine ⟨by first | exact hP | simpa using hP, ?_⟩
      rintro _ rfl
      obtain ⟨q2, g, h⟩ := zC h
      refine ⟨_, _, ⟨_, y1V _ _ g⟩, ?_⟩
      refine zU Iff.rfl h (fun _ h => ?_) (fun _ h => ?_)
      ·
        cases h; exact ⟨rfl, rfl⟩
      cases h; exact ⟨rfl, rfl⟩
    obtain ⟨hP, h⟩ := jZ h
    refine ⟨by first | exact hP | simpa using hP, ?_⟩
    obtain ⟨hP, h⟩ := jZ h
    refine ⟨by first | exact hP | simpa using hP, ?_⟩
    obtain ⟨hP, h⟩ := jZ h
    refine ⟨by first | exact hP | simpa using hP, ?_⟩
    obtain ⟨hP, h⟩ := jZ h
    refine ⟨by first | exact hP | simpa using hP, ?_⟩
    rintro _ rfl
    obtain ⟨q3, g, h⟩ := zC h
    refine ⟨_, _, ⟨_, y1V _ _ g⟩, ?_⟩
    refine zU Iff.rfl h (fun _ h => ?_) (fun _ h => ?_)
    ·
      cases h; exact ⟨rfl, rfl⟩
    cases h; exact ⟨rfl, rfl⟩
theorem y7u (text : Str) (at_ to_ : Int) (o4 : zB) (r : zB × Int) (h : jE text at_ to_ o4 = some r) : y0V (.jE text at_ to_ o4) r := y7z (.jE text at_ to_ o4) r h
def y1b : (i : z5L) → z7z i → Prop
  | .jF text at_ all i o4, r => Ok (z5z (Trip Tryz.prog) [.d (gK r.1.K r.1.N r.1.S r.1.From r.1.To), (nI r.2)] []) (kL Tryz.f25 21) ⟨114, [(0, (nS text)), (1, (nI at_)), (4, .ref 4 1 0), (11, .d (.sl (List.map D.str all))), (12, (nI i))], [(4, 1, some (.agg (gK o4.K o4.N o4.S o4.From o4.To)))], [], 0⟩
theorem y7v : ∀ i r, z1S z5N i = some r → y1b i r := by
  refine wM y0Z fun g ih i => ?_
  cases i with
  | jF text at_ all i o4 =>
    have ih_ref05One_L21 := fun text at_ all i o4 r h => ih (.jF text at_ all i o4) r h
    intro r h
    replace h : z2E (fun text at_ all i o4 => g (z5L.jF text at_ all i o4)) text at_ all i o4 = some r := h
    unfold z2E at h
    refine z4a 1000 (y7D _ _ _ _ text at_ all i o4) ?_
    refine z2g (e' := (List.length all : Int)) (by first | rfl | rw [List.length_map]) ?_
    rintro _ rfl
    refine zD decide_eq_true_iff h (fun _ h => ?_) (fun _ h => ?_)
    ·
      obtain ⟨x, hx, h⟩ := zC h
      refine ⟨gN (l := all) (fun _ => rfl), z4f hx, x, z1Y rfl hx, ?_⟩
      obtain ⟨q1, g, h⟩ := zC h
      refine ⟨_, ⟨_, y3o _ _ _ _ g⟩, ?_⟩
      refine zD Iff.rfl h (fun _ h => ?_) (fun _ h => ?_)
      ·
        obtain ⟨x1, hx, h⟩ := zC h
        refine ⟨gN (l := all) (fun _ => rfl), z4f hx, x1, z1Y rfl hx, ?_⟩
        obtain ⟨x2, hx, h⟩ := zC h
        refine ⟨gN (l := all) (fun _ => rfl), z4f hx, x2, z1Y rfl hx, ?_⟩
        rintro _ rfl
        rintro _ rfl
        cases h; exact ⟨rfl, rfl⟩
      rintro _ rfl
      exact ih_ref05One_L21 _ _ _ _ _ _ h
    cases h; exact ⟨rfl, rfl⟩
theorem y7C (text : Str) (at_ : Int) (all : List Str) (i : Int) (o4 : zB) (r : zB × Int) (h : jF text at_ all i o4 = some r) : y1b (.jF text at_ all i o4) r := y7v (.jF text at_ all i o4) r h
def z9Y : (i : z4P) → z6L i → Prop
  | .uI s all i, r => Ok (z9b (Trip Tryz.prog) [(nB r)] []) (kL Tryz.f58 2) ⟨18, [(0, (nS s)), (1, .d (.sl (List.map D.str all))), (5, (nI i))], [], [], 0⟩
theorem y6A : ∀ i r, z1S z5q i = some r → z9Y i r := by
  refine wM z9h fun g ih i => ?_
  cases i with
  | uI s all i =>
    have ih_ref05Among_L2 := fun s all i r h => ih (.uI s all i) r h
    intro r h
    replace h : z2f (fun s all i => g (z4P.uI s all i)) s all i = some r := h
    unfold z2f at h
    refine z4a 1000 (y6m _ _ _ _ s all i) ?_
    refine z2g (e' := (List.length all : Int)) (by first | rfl | rw [List.length_map]) ?_
    rintro _ rfl
    refine zD decide_eq_true_iff h (fun _ h => ?_) (fun _ h => ?_)
    ·
      obtain ⟨x, hx, h⟩ := zC h
      refine ⟨gN (l := all) (fun _ => rfl), z4f hx, x, z1Y rfl hx, ?_⟩
      rintro _ rfl
      refine zD beq_iff_eq h (fun _ h => ?_) (fun _ h => ?_)
      ·
        cases h; exact ⟨rfl, rfl⟩
      rintro _ rfl
      exact ih_ref05Among_L2 _ _ _ _ h
    cases h; exact ⟨rfl, rfl⟩
theorem y6e (s : Str) (all : List Str) (i : Int) (r : Bool) (h : uI s all i = some r) : z9Y (.uI s all i) r := y6A (.uI s all i) r h
theorem y4A (s : Str) (all : List Str) (r : Bool) (h : z5A s all = some r) : Trip Tryz.prog 58 [(nS s), .d (.sl (List.map D.str all))] [] [(nB r)] [] := by
  unfold z5A at h
  refine zW 1000 (by kernel_rfl) (by kernel_rfl) (by kernel_rfl) (by kernel_rfl) (by kernel_rfl) (y9R _ _ _ _ s all) ?_
  exact y6e _ _ _ _ h
theorem y4z  (r : List Str) (h : z6A = some r) : Trip Tryz.prog 59 [] [] [.d (.sl (List.map D.str r))] [] := by
  unfold z6A at h
  refine zW 1000 (by kernel_rfl) (by kernel_rfl) (by kernel_rfl) (by kernel_rfl) (by kernel_rfl) (v0I _ _ _ _ ) ?_
  cases h; exact ⟨rfl, rfl⟩
def y2t : (i : z6z) → z8o i → Prop
  | .jL text at_ to_ o4, r => Ok (z5z (Trip Tryz.prog) [.d (gK r.1.K r.1.N r.1.S r.1.From r.1.To), (nI r.2)] []) (kL Tryz.f25 4) ⟨114, [(0, (nS text)), (1, (nI at_)), (4, .ref 4 1 0), (7, (nI to_))], [(4, 1, some (.agg (gK o4.K o4.N o4.S o4.From o4.To)))], [], 0⟩
theorem y8q : ∀ i r, z1S z6v i = some r → y2t i r := by
  refine wM y2q fun g ih i => ?_
  cases i with
  | jL text at_ to_ o4 =>
    have ih_ref05One_L4 := fun text at_ to_ o4 r h => ih (.jL text at_ to_ o4) r h
    intro r h
    replace h : z3h (fun text at_ to_ o4 => g (z6z.jL text at_ to_ o4)) text at_ to_ o4 = some r := h
    unfold z3h at h
    refine z4a 1000 (y8Q _ _ _ _ text at_ to_ o4) ?_
    rintro _ rfl
    rintro _ rfl
    refine zD decide_eq_true_iff h (fun _ h => ?_) (fun _ h => ?_)
    ·
      obtain ⟨c, hx, h⟩ := zC h
      refine ⟨z4f hx, c, y9B hx, ?_⟩
      rintro _ rfl
      obtain ⟨q1, g, h⟩ := zC h
      refine ⟨_, ⟨_, y2v _ _ g⟩, ?_⟩
      refine zD Iff.rfl h (fun _ h => ?_) (fun _ h => ?_)
      ·
        rintro _ rfl
        exact ih_ref05One_L4 _ _ _ _ _ h
      obtain ⟨c1, hx, h⟩ := zC h
      refine ⟨z4f hx, c1, y9B hx, ?_⟩
      rintro _ rfl
      obtain ⟨q2, g, h⟩ := zC h
      refine ⟨_, ⟨_, y0d _ _ g⟩, ?_⟩
      refine zD Iff.rfl h (fun _ h => ?_) (fun _ h => ?_)
      ·
        rintro _ rfl
        exact ih_ref05One_L4 _ _ _ _ _ h
      rintro _ rfl
      rintro _ rfl
      refine zD decide_eq_true_iff h (fun _ h => ?_) (fun _ h => ?_)
      ·
        cases h; exact ⟨rfl, rfl⟩
      obtain ⟨hP, h⟩ := jZ h
      refine ⟨by first | exact hP | simpa using hP, ?_⟩
      obtain ⟨hP, h⟩ := jZ h
      refine ⟨by first | exact hP | simpa using hP, ?_⟩
      obtain ⟨hP, h⟩ := jZ h
      refine ⟨by first | exact hP | simpa using hP, ?_⟩
      obtain ⟨hP, h⟩ := jZ h
      refine ⟨by first | exact hP | simpa using hP, ?_⟩
      rintro _ rfl
      obtain ⟨q3, g, h⟩ := zC h
      refine ⟨_, ⟨_, y4z _ g⟩, ?_⟩
      obtain ⟨q4, g, h⟩ := zC h
      refine ⟨_, ⟨_, y4A _ _ _ g⟩, ?_⟩
      refine zD Iff.rfl h (fun _ h => ?_) (fun _ h => ?_)
      ·
        cases h; exact ⟨rfl, rfl⟩
      cases h; exact ⟨rfl, rfl⟩
    rintro _ rfl
    rintro _ rfl
    refine zD decide_eq_true_iff h (fun _ h => ?_) (fun _ h => ?_)
    ·
      cases h; exact ⟨rfl, rfl⟩
    obtain ⟨hP, h⟩ := jZ h
    refine ⟨by first | exact hP | simpa using hP, ?_⟩
    obtain ⟨hP, h⟩ := jZ h
    refine ⟨by first | exact hP | simpa using hP, ?_⟩
    obtain ⟨hP, h⟩ := jZ h
    refine ⟨by first | exact hP | simpa using hP, ?_⟩
    obtain ⟨hP, h⟩ := jZ h
    refine ⟨by first | exact hP | simpa using hP, ?_⟩
    rintro _ rfl
    obtain ⟨q5, g, h⟩ := zC h
    refine ⟨_, ⟨_, y4z _ g⟩, ?_⟩
    obtain ⟨q6, g, h⟩ := zC h
    refine ⟨_, ⟨_, y4A _ _ _ g⟩, ?_⟩
    refine zD Iff.rfl h (fun _ h => ?_) (fun _ h => ?_)
    ·
      cases h; exact ⟨rfl, rfl⟩
    cases h; exact ⟨rfl, rfl⟩
theorem y8n (text : Str) (at_ to_ : Int) (o4 : zB) (r : zB × Int) (h : jL text at_ to_ o4 = some r) : y2t (.jL text at_ to_ o4) r := y8q (.jL text at_ to_ o4) r h
theorem y9m  (r : List Str) (h : y0q = some r) : Trip Tryz.prog 61 [] [] [.d (.sl (List.map D.str r))] [] := by
  unfold y0q at h
  refine zW 1000 (by kernel_rfl) (by kernel_rfl) (by kernel_rfl) (by kernel_rfl) (by kernel_rfl) (y9F _ _ _ _ ) ?_
  cases h; exact ⟨rfl, rfl⟩
theorem v4d (text : Str) (at_ : Int) (r : zB × Int) (h : y3F text at_ = some r) : Trip Tryz.prog 25 [(nS text), (nI at_)] [] [.d (gK r.1.K r.1.N r.1.S r.1.From r.1.To), (nI r.2)] [] := by
  unfold y3F at h
  refine zW 1000 (by kernel_rfl) (by kernel_rfl) (by kernel_rfl) (by kernel_rfl) (by kernel_rfl) (v3U _ _ _ _ text at_) ?_
  obtain ⟨c, hx, h⟩ := zC h
  refine ⟨z4f hx, c, y9B hx, ?_⟩
  rintro _ rfl
  obtain ⟨q1, g, h⟩ := zC h
  refine ⟨_, ⟨_, y2v _ _ g⟩, ?_⟩
  refine zD Iff.rfl h (fun _ h => ?_) (fun _ h => ?_)
  ·
    exact y8n _ _ _ _ _ h
  obtain ⟨q2, g, h⟩ := zC h
  refine ⟨_, ⟨_, y0d _ _ g⟩, ?_⟩
  refine zD Iff.rfl h (fun _ h => ?_) (fun _ h => ?_)
  ·
    exact y7u _ _ _ _ _ h
  obtain ⟨q3, g, h⟩ := zC h
  refine ⟨_, ⟨_, y9m _ g⟩, ?_⟩
  exact y7C _ _ _ _ _ _ h
def z8O : (i : z4q) → z6m i → Prop
  | .wV text out at_, r => Ok (z8B (Trip Tryz.prog) (hU (List.map zB.toD r.1) r.2.1 r.2.2) []) (kL Tryz.f11 5) ⟨47, [(0, (nS text)), (5, .right 9 1 5 (List.map zB.toD out)), (6, (nI at_))], [(9, 1, some (.tok 5 (List.length (List.map zB.toD out))))], [], 0⟩
theorem y5w : ∀ i r, z1S z4j i = some r → z8O i r := by
  refine wM z8L fun g ih i => ?_
  cases i with
  | wV text out at_ =>
    have ih_ref05Tokens_L5 := fun text out at_ r h => ih (.wV text out at_) r h
    intro r h
    replace h : z2s (fun text out at_ => g (z4q.wV text out at_)) text out at_ = some r := h
    unfold z2s at h
    refine z4a 1000 (y4R _ _ _ _ text out at_) ?_
    rintro _ rfl
    rintro _ rfl
    refine zD decide_eq_true_iff h (fun _ h => ?_) (fun _ h => ?_)
    ·
      obtain ⟨q1, g, h⟩ := zC h
      refine ⟨_, _, _, _, _, _, ⟨_, v4d _ _ _ g⟩, ?_⟩
      rintro _ rfl
      refine zU beq_iff_eq h (fun _ h => ?_) (fun _ h => ?_)
      ·
        refine ⟨by simp [wB, D.cells], ?_⟩
        refine ⟨by first | rfl | decide | simp only [List.length_map, List.length_cons, List.length_nil, List.map_append, List.length_append], ?_⟩
        obtain ⟨hP, h⟩ := jZ h
        refine ⟨by first | exact hP | simpa using hP, ?_⟩
        refine z2g (e' := List.map zB.toD (out ++ [q1.1])) (by first | rfl | simp only [List.map_append, List.map_cons, List.map_nil, List.map_take, List.map_drop, List.map_set, List.map_replicate, List.length_map, zB.toD_eq]) ?_
        obtain ⟨q2, g, h⟩ := zC h
        refine ⟨_, ⟨_, y6a _ _ _ g⟩, ?_⟩
        exact ih_ref05Tokens_L5 _ _ _ _ h
      cases h; exact ⟨rfl, rfl⟩
    rintro _ rfl
    rintro _ rfl
    refine ⟨by simp [wB, D.cells], ?_⟩
    refine ⟨by first | rfl | decide | simp only [List.length_map, List.length_cons, List.length_nil, List.map_append, List.length_append], ?_⟩
    obtain ⟨hP, h⟩ := jZ h
    refine ⟨by first | exact hP | simpa using hP, ?_⟩
    refine z2g (e' := List.map zB.toD (out ++ [(zB.mk 5 0 [] (List.length text : Int) (List.length text : Int))])) (by first | rfl | simp only [List.map_append, List.map_cons, List.map_nil, List.map_take, List.map_drop, List.map_set, List.map_replicate, List.length_map, zB.toD_eq]) ?_
    cases h; exact ⟨rfl, rfl⟩
theorem y5d (text : Str) (out : List zB) (at_ : Int) (r : List zB × Int × Int) (h : wV text out at_ = some r) : z8O (.wV text out at_) r := y5w (.wV text out at_) r h
theorem y8T (text : Str) (r : List zB × Int × Int) (h : z6R text = some r) : Trip Tryz.prog 11 [(nS text)] [] (hU (List.map zB.toD r.1) r.2.1 r.2.2) [] := by
  unfold z6R at h
  refine zW 1000 (by kernel_rfl) (by kernel_rfl) (by kernel_rfl) (by kernel_rfl) (by kernel_rfl) (y8K _ _ _ _ text) ?_
  rintro _ rfl
  rintro _ rfl
  refine zD decide_eq_true_iff h (fun _ h => ?_) (fun _ h => ?_)
  ·
    cases h; exact ⟨rfl, rfl⟩
  obtain ⟨q1, g, h⟩ := zC h
  refine ⟨_, ⟨_, y6a _ _ _ g⟩, ?_⟩
  exact y5d _ _ _ _ h
def y4y : (i : z3b) → z9z i → Prop
  | .z0l t, r => Trip Tryz.prog 13 [.d (gT t.K t.N t.S (List.map zE.toD t.L) t.From t.To)] [] [(nI r)] []
  | .wJ most i t, r => Ok (z9k (Trip Tryz.prog) [(nI r)] []) (kL Tryz.f13 3) ⟨25, [(1, .ref 1 1 0), (3, (nI most)), (4, (nI i))], [(1, 1, some (.agg (gT t.K t.N t.S (List.map zE.toD t.L) t.From t.To)))], [], 0⟩
theorem v0P : ∀ i r, z1S z4G i = some r → y4y i r := by
  refine wM z9q fun g ih i => ?_
  cases i with
  | z0l t =>
    have ih_ref06Depth_L3 := fun most i t r h => ih (.wJ most i t) r h
    intro r h
    replace h : z4D (fun most i t => g (z3b.wJ most i t)) t = some r := h
    unfold z4D at h
    refine zW 1000 (by kernel_rfl) (by kernel_rfl) (by kernel_rfl) (by kernel_rfl) (by kernel_rfl) (v0h _ _ _ _ t) ?_
    exact ih_ref06Depth_L3 _ _ _ _ h
  | wJ most i t =>
    have ih_ref06Depth := fun t r h => ih (.z0l t) r h
    have ih_ref06Depth_L3 := fun most i t r h => ih (.wJ most i t) r h
    intro r h
    replace h : z2h (fun t => g (z3b.z0l t)) (fun most i t => g (z3b.wJ most i t)) most i t = some r := h
    unfold z2h at h
    refine z4a 1000 (y7e _ _ _ _ most i t) ?_
    refine z2g (e' := (List.length t.L : Int)) (by first | rfl | rw [List.length_map]) ?_
    rintro _ rfl
    refine zD decide_eq_true_iff h (fun _ h => ?_) (fun _ h => ?_)
    ·
      obtain ⟨x, hx, h⟩ := zC h
      refine ⟨gN (l := t.L) (zE.sz), z4f hx, x.K, x.N, x.S, List.map zE.toD x.L, x.From, x.To, z1Y (zE.toD_eq x) hx, ?_⟩
      obtain ⟨q1, g, h⟩ := zC h
      refine ⟨_, ⟨_, ih_ref06Depth _ _ g⟩, ?_⟩
      rintro _ rfl
      refine zD decide_eq_true_iff h (fun _ h => ?_) (fun _ h => ?_)
      ·
        rintro _ rfl
        exact ih_ref06Depth_L3 _ _ _ _ h
      rintro _ rfl
      exact ih_ref06Depth_L3 _ _ _ _ h
    rintro _ rfl
    cases h; exact ⟨rfl, rfl⟩
theorem y9s (t : zE) (r : Int) (h : z0l t = some r) : y4y (.z0l t) r := v0P (.z0l t) r h
theorem vR (at_ : Int) (r : zI) (h : wW at_ = some r) : Trip Tryz.prog 29 [(nI at_)] [] [.d (.agg [(.int .i64 r.T_.K), (.int .i64 r.T_.N), (.str r.T_.S), (.sl (List.map zE.toD r.T_.L)), (.int .i64 r.T_.From), (.int .i64 r.T_.To), (.int .i64 r.At), (.int .i64 r.E)])] [] := by
  unfold wW at h
  refine zW 1000 (by kernel_rfl) (by kernel_rfl) (by kernel_rfl) (by kernel_rfl) (by kernel_rfl) (v3H _ _ _ _ at_) ?_
  cases h; exact ⟨rfl, rfl⟩
theorem yV (t : List zB) (from_ to_ k n : Int) (s : Str) (parts : List zE) (r : zI) (h : yS t from_ to_ k n s parts = some r) : Trip Tryz.prog 33 [.d (.sl (List.map zB.toD t)), (nI from_), (nI to_), (nI k), (nI n), (nS s), .d (.sl (List.map zE.toD parts))] [] [.d (.agg [(.int .i64 r.T_.K), (.int .i64 r.T_.N), (.str r.T_.S), (.sl (List.map zE.toD r.T_.L)), (.int .i64 r.T_.From), (.int .i64 r.T_.To), (.int .i64 r.At), (.int .i64 r.E)])] [] := by
  unfold yS at h
  refine zW 1000 (by kernel_rfl) (by kernel_rfl) (by kernel_rfl) (by kernel_rfl) (by kernel_rfl) (v1o _ _ _ _ t from_ to_ k n s parts) ?_
  obtain ⟨x, hx, h⟩ := zC h
  refine ⟨gN (l := t) (zB.sz), z4f hx, x.K, x.N, x.S, x.From, x.To, z1Y (zB.toD_eq x) hx, ?_⟩
  rintro _ rfl
  obtain ⟨x1, hx, h⟩ := zC h
  refine ⟨gN (l := t) (zB.sz), z4f hx, x1.K, x1.N, x1.S, x1.From, x1.To, z1Y (zB.toD_eq x1) hx, ?_⟩
  cases h; exact ⟨rfl, rfl⟩
theorem jT (t : List zB) (at_ : Int) (r : zB) (h : z0f t at_ = some r) : Trip Tryz.prog 30 [.d (.sl (List.map zB.toD t)), (nI at_)] [] [.d (gK r.K r.N r.S r.From r.To)] [] := by
  unfold z0f at h
  refine zW 1000 (by kernel_rfl) (by kernel_rfl) (by kernel_rfl) (by kernel_rfl) (by kernel_rfl) (v4i _ _ _ _ t at_) ?_
  refine z2g (e' := (List.length t : Int)) (by first | rfl | rw [List.length_map]) ?_
  rintro _ rfl
  refine zD decide_eq_true_iff h (fun _ h => ?_) (fun _ h => ?_)
  ·
    obtain ⟨x, hx, h⟩ := zC h
    refine ⟨gN (l := t) (zB.sz), z4f hx, x.K, x.N, x.S, x.From, x.To, z1Y (zB.toD_eq x) hx, ?_⟩
    cases h; exact ⟨rfl, rfl⟩
  cases h; exact ⟨rfl, rfl⟩
theorem yN (t : List zB) (at_ : Int) (s : Str) (r : Bool) (h : yH t at_ s = some r) : Trip Tryz.prog 31 [.d (.sl (List.map zB.toD t)), (nI at_), (nS s)] [] [(nB r)] [] := by
  unfold yH at h
  refine zW 1000 (by kernel_rfl) (by kernel_rfl) (by kernel_rfl) (by kernel_rfl) (by kernel_rfl) (v1J _ _ _ _ t at_ s) ?_
  obtain ⟨q1, g, h⟩ := zC h
  refine ⟨_, _, _, _, _, ⟨_, jT _ _ _ g⟩, ?_⟩
  rintro _ rfl
  refine zD beq_iff_eq h (fun _ h => ?_) (fun _ h => ?_)
  ·
    obtain ⟨q2, g, h⟩ := zC h
    refine ⟨_, _, _, _, _, ⟨_, jT _ _ _ g⟩, ?_⟩
    rintro _ rfl
    cases h; exact ⟨rfl, rfl⟩
  cases h; exact ⟨rfl, rfl⟩
theorem wU (t : List zB) (at_ : Int) (s : Str) (r : Bool) (h : uW t at_ s = some r) : Trip Tryz.prog 26 [.d (.sl (List.map zB.toD t)), (nI at_), (nS s)] [] [(nB r)] [] := by
  unfold uW at h
  refine zW 1000 (by kernel_rfl) (by kernel_rfl) (by kernel_rfl) (by kernel_rfl) (by kernel_rfl) (v1k _ _ _ _ t at_ s) ?_
  obtain ⟨q1, g, h⟩ := zC h
  refine ⟨_, _, _, _, _, ⟨_, jT _ _ _ g⟩, ?_⟩
  rintro _ rfl
  refine zD beq_iff_eq h (fun _ h => ?_) (fun _ h => ?_)
  ·
    obtain ⟨q2, g, h⟩ := zC h
    refine ⟨_, _, _, _, _, ⟨_, jT _ _ _ g⟩, ?_⟩
    rintro _ rfl
    cases h; exact ⟨rfl, rfl⟩
  cases h; exact ⟨rfl, rfl⟩
def y6w : (i : z8w) → y1t i → Prop
  | .jJ t at_, r => Trip Tryz.prog 62 [.d (.sl (List.map zB.toD t)), (nI at_)] [] [.d (.agg [(.int .i64 r.T_.K), (.int .i64 r.T_.N), (.str r.T_.S), (.sl (List.map zE.toD r.T_.L)), (.int .i64 r.T_.From), (.int .i64 r.T_.To), (.int .i64 r.At), (.int .i64 r.E)])] []
theorem v1P : ∀ i r, z1S z8t i = some r → y6w i r := by
  refine wM y6n fun g ih i => ?_
  cases i with
  | jJ t at_ =>
    have ih_ref07Type := fun t at_ r h => ih (.jJ t at_) r h
    intro r h
    replace h : z4x (fun t at_ => g (z8w.jJ t at_)) t at_ = some r := h
    unfold z4x at h
    refine zW 1000 (by kernel_rfl) (by kernel_rfl) (by kernel_rfl) (by kernel_rfl) (by kernel_rfl) (v1H _ _ _ _ t at_) ?_
    obtain ⟨q1, g, h⟩ := zC h
    refine ⟨_, ⟨_, wU _ _ _ _ g⟩, ?_⟩
    refine zD Iff.rfl h (fun _ h => ?_) (fun _ h => ?_)
    ·
      rintro _ rfl
      obtain ⟨q2, g, h⟩ := zC h
      refine ⟨_, _, _, _, _, _, _, _, ⟨_, yV _ _ _ _ _ _ _ _ g⟩, ?_⟩
      cases h; exact ⟨rfl, rfl⟩
    obtain ⟨q3, g, h⟩ := zC h
    refine ⟨_, ⟨_, wU _ _ _ _ g⟩, ?_⟩
    refine zD Iff.rfl h (fun _ h => ?_) (fun _ h => ?_)
    ·
      rintro _ rfl
      obtain ⟨q4, g, h⟩ := zC h
      refine ⟨_, _, _, _, _, _, _, _, ⟨_, yV _ _ _ _ _ _ _ _ g⟩, ?_⟩
      cases h; exact ⟨rfl, rfl⟩
    obtain ⟨q5, g, h⟩ := zC h
    refine ⟨_, _, _, _, _, ⟨_, jT _ _ _ g⟩, ?_⟩
    rintro _ rfl
    refine zD beq_iff_eq h (fun _ h => ?_) (fun _ h => ?_)
    ·
      rintro _ rfl
      obtain ⟨q6, g, h⟩ := zC h
      refine ⟨_, _, _, _, _, ⟨_, jT _ _ _ g⟩, ?_⟩
      obtain ⟨q7, g, h⟩ := zC h
      refine ⟨_, _, _, _, _, _, _, _, ⟨_, yV _ _ _ _ _ _ _ _ g⟩, ?_⟩
      cases h; exact ⟨rfl, rfl⟩
    obtain ⟨q8, g, h⟩ := zC h
    refine ⟨_, ⟨_, yN _ _ _ _ g⟩, ?_⟩
    refine zU Iff.rfl h (fun _ h => ?_) (fun _ h => ?_)
    ·
      rintro _ rfl
      obtain ⟨q10, g, h⟩ := zC h
      refine ⟨_, _, _, _, _, ⟨_, jT _ _ _ g⟩, ?_⟩
      rintro _ rfl
      refine zU beq_iff_eq h (fun _ h => ?_) (fun _ h => ?_)
      ·
        rintro _ rfl
        obtain ⟨q12, g, h⟩ := zC h
        refine ⟨_, ⟨_, yN _ _ _ _ g⟩, ?_⟩
        refine zU Iff.rfl h (fun _ h => ?_) (fun _ h => ?_)
        ·
          rintro _ rfl
          obtain ⟨q14, g, h⟩ := zC h
          refine ⟨_, _, _, _, _, _, _, _, ⟨_, ih_ref07Type _ _ _ g⟩, ?_⟩
          rintro _ rfl
          refine zU beq_iff_eq h (fun _ h => ?_) (fun _ h => ?_)
          ·
            rintro _ rfl
            obtain ⟨q15, g, h⟩ := zC h
            refine ⟨_, _, _, _, _, ⟨_, jT _ _ _ g⟩, ?_⟩
            obtain ⟨q16, g, h⟩ := zC h
            have hT := yV _ _ _ _ _ _ _ _ g
            simp only [List.map_cons, List.map_nil, zE.toD_eq] at hT
            refine ⟨_, _, _, _, _, _, _, _, ⟨_, hT⟩, ?_⟩
            cases h; exact ⟨rfl, rfl⟩
          cases h; exact ⟨rfl, rfl⟩
        rintro _ rfl
        obtain ⟨q13, g, h⟩ := zC h
        refine ⟨_, _, _, _, _, _, _, _, ⟨_, vR _ _ g⟩, ?_⟩
        cases h; exact ⟨rfl, rfl⟩
      rintro _ rfl
      obtain ⟨q11, g, h⟩ := zC h
      refine ⟨_, _, _, _, _, _, _, _, ⟨_, vR _ _ g⟩, ?_⟩
      cases h; exact ⟨rfl, rfl⟩
    obtain ⟨q9, g, h⟩ := zC h
    refine ⟨_, _, _, _, _, _, _, _, ⟨_, vR _ _ g⟩, ?_⟩
    cases h; exact ⟨rfl, rfl⟩
theorem z6W (t : List zB) (at_ : Int) (r : zI) (h : jJ t at_ = some r) : y6w (.jJ t at_) r := v1P (.jJ t at_) r h
theorem y1p (t : List zB) (at_ : Int) (r : zI) (h : z3K t at_ = some r) : Trip Tryz.prog 66 [.d (.sl (List.map zB.toD t)), (nI at_)] [] [.d (.agg [(.int .i64 r.T_.K), (.int .i64 r.T_.N), (.str r.T_.S), (.sl (List.map zE.toD r.T_.L)), (.int .i64 r.T_.From), (.int .i64 r.T_.To), (.int .i64 r.At), (.int .i64 r.E)])] [] := by
  unfold z3K at h
  refine zW 1000 (by kernel_rfl) (by kernel_rfl) (by kernel_rfl) (by kernel_rfl) (by kernel_rfl) (v1L _ _ _ _ t at_) ?_
  obtain ⟨q1, g, h⟩ := zC h
  refine ⟨_, _, _, _, _, ⟨_, jT _ _ _ g⟩, ?_⟩
  rintro _ rfl
  refine zU beq_iff_eq h (fun _ h => ?_) (fun _ h => ?_)
  ·
    rintro _ rfl
    obtain ⟨q3, g, h⟩ := zC h
    refine ⟨_, ⟨_, yN _ _ _ _ g⟩, ?_⟩
    refine zU Iff.rfl h (fun _ h => ?_) (fun _ h => ?_)
    ·
      rintro _ rfl
      obtain ⟨q5, g, h⟩ := zC h
      refine ⟨_, _, _, _, _, _, _, _, ⟨_, z6W _ _ _ g⟩, ?_⟩
      rintro _ rfl
      refine zU beq_iff_eq h (fun _ h => ?_) (fun _ h => ?_)
      ·
        obtain ⟨x, hx, h⟩ := zC h
        refine ⟨gN (l := t) (zB.sz), z4f hx, x.K, x.N, x.S, x.From, x.To, z1Y (zB.toD_eq x) hx, ?_⟩
        obtain ⟨q6, g, h⟩ := zC h
        have hT := yV _ _ _ _ _ _ _ _ g
        simp only [List.map_cons, List.map_nil, zE.toD_eq] at hT
        refine ⟨_, _, _, _, _, _, _, _, ⟨_, hT⟩, ?_⟩
        cases h; exact ⟨rfl, rfl⟩
      cases h; exact ⟨rfl, rfl⟩
    rintro _ rfl
    obtain ⟨q4, g, h⟩ := zC h
    refine ⟨_, _, _, _, _, _, _, _, ⟨_, vR _ _ g⟩, ?_⟩
    cases h; exact ⟨rfl, rfl⟩
  obtain ⟨q2, g, h⟩ := zC h
  refine ⟨_, _, _, _, _, _, _, _, ⟨_, vR _ _ g⟩, ?_⟩
  cases h; exact ⟨rfl, rfl⟩
def z8M : (i : z4i) → z6j i → Prop
  | .vT t at_ out, r => Ok (z8v (Trip Tryz.prog) (hU (List.map zE.toD r.1) r.2.1 r.2.2) []) (kL Tryz.f32 2) ⟨49, [(0, .d (.sl (List.map zB.toD t))), (1, (nI at_)), (7, .right 9 1 6 (List.map zE.toD out))], [(9, 1, some (.tok 6 (List.length (List.map zE.toD out))))], [], 0⟩
theorem y5c : ∀ i r, z1S z4n i = some r → z8M i r := by
  refine wM z8I fun g ih i => ?_
  cases i with
  | vT t at_ out =>
    have ih_ref09Fields_L2 := fun t at_ out r h => ih (.vT t at_ out) r h
    intro r h
    replace h : z1O (fun t at_ out => g (z4i.vT t at_ out)) t at_ out = some r := h
    unfold z1O at h
    refine z4a 1000 (y5t _ _ _ _ t at_ out) ?_
    refine z2g (e' := (List.length out : Int)) (by first | rfl | rw [List.length_map]) ?_
    rintro _ rfl
    refine zD beq_iff_eq h (fun _ h => ?_) (fun _ h => ?_)
    ·
      obtain ⟨q1, g, h⟩ := zC h
      refine ⟨_, _, _, _, _, _, _, _, ⟨_, y1p _ _ _ g⟩, ?_⟩
      rintro _ rfl
      refine zU beq_iff_eq h (fun _ h => ?_) (fun _ h => ?_)
      ·
        obtain ⟨q2, g, h⟩ := zC h
        refine ⟨_, ⟨_, yN _ _ _ _ g⟩, ?_⟩
        refine zU Iff.rfl h (fun _ h => ?_) (fun _ h => ?_)
        ·
          refine ⟨by simp [wB, D.cells], ?_⟩
          refine ⟨by first | rfl | decide | simp only [List.length_map, List.length_cons, List.length_nil, List.map_append, List.length_append], ?_⟩
          obtain ⟨hP, h⟩ := jZ h
          refine ⟨by first | exact hP | simpa using hP, ?_⟩
          refine z2g (e' := List.map zE.toD (out ++ [q1.T_])) (by first | rfl | simp only [List.map_append, List.map_cons, List.map_nil, List.map_take, List.map_drop, List.map_set, List.map_replicate, List.length_map, zE.toD_eq]) ?_
          rintro _ rfl
          exact ih_ref09Fields_L2 _ _ _ _ h
        cases h; exact ⟨rfl, rfl⟩
      cases h; exact ⟨rfl, rfl⟩
    obtain ⟨q3, g, h⟩ := zC h
    refine ⟨_, ⟨_, yN _ _ _ _ g⟩, ?_⟩
    refine zU Iff.rfl h (fun _ h => ?_) (fun _ h => ?_)
    ·
      rintro _ rfl
      cases h; exact ⟨rfl, rfl⟩
    obtain ⟨q4, g, h⟩ := zC h
    refine ⟨_, _, _, _, _, _, _, _, ⟨_, y1p _ _ _ g⟩, ?_⟩
    rintro _ rfl
    refine zU beq_iff_eq h (fun _ h => ?_) (fun _ h => ?_)
    ·
      obtain ⟨q5, g, h⟩ := zC h
      refine ⟨_, ⟨_, yN _ _ _ _ g⟩, ?_⟩
      refine zU Iff.rfl h (fun _ h => ?_) (fun _ h => ?_)
      ·
        refine ⟨by simp [wB, D.cells], ?_⟩
        refine ⟨by first | rfl | decide | simp only [List.length_map, List.length_cons, List.length_nil, List.map_append, List.length_append], ?_⟩
        obtain ⟨hP, h⟩ := jZ h
        refine ⟨by first | exact hP | simpa using hP, ?_⟩
        refine z2g (e' := List.map zE.toD (out ++ [q4.T_])) (by first | rfl | simp only [List.map_append, List.map_cons, List.map_nil, List.map_take, List.map_drop, List.map_set, List.map_replicate, List.length_map, zE.toD_eq]) ?_
        rintro _ rfl
        exact ih_ref09Fields_L2 _ _ _ _ h
      cases h; exact ⟨rfl, rfl⟩
    cases h; exact ⟨rfl, rfl⟩
theorem y5l (t : List zB) (at_ : Int) (out : List zE) (r : List zE × Int × Int) (h : vT t at_ out = some r) : z8M (.vT t at_ out) r := y5c (.vT t at_ out) r h
theorem y8r (t : List zB) (at_ : Int) (r : List zE × Int × Int) (h : z6S t at_ = some r) : Trip Tryz.prog 32 [.d (.sl (List.map zB.toD t)), (nI at_)] [] (hU (List.map zE.toD r.1) r.2.1 r.2.2) [] := by
  unfold z6S at h
  refine zW 1000 (by kernel_rfl) (by kernel_rfl) (by kernel_rfl) (by kernel_rfl) (by kernel_rfl) (y8z _ _ _ _ t at_) ?_
  exact y5l _ _ _ _ h
theorem v1T (t : List zB) (at_ : Int) (r : Int × List zN) (h : z9V t at_ = some r) : Trip Tryz.prog 91 [.d (.sl (List.map zB.toD t)), (nI at_)] [] [(nI r.1), .d (.sl (List.map zN.toD r.2))] [] := by
  unfold z9V at h
  refine zW 1000 (by kernel_rfl) (by kernel_rfl) (by kernel_rfl) (by kernel_rfl) (by kernel_rfl) (v1Q _ _ _ _ t at_) ?_
  obtain ⟨q1, g, h⟩ := zC h
  refine ⟨_, ⟨_, wU _ _ _ _ g⟩, ?_⟩
  refine zD Iff.rfl h (fun _ h => ?_) (fun _ h => ?_)
  ·
    rintro _ rfl
    obtain ⟨q2, g, h⟩ := zC h
    refine ⟨_, _, _, _, _, ⟨_, jT _ _ _ g⟩, ?_⟩
    rintro _ rfl
    refine zD beq_iff_eq h (fun _ h => ?_) (fun _ h => ?_)
    ·
      rintro _ rfl
      obtain ⟨q3, g, h⟩ := zC h
      refine ⟨_, ⟨_, yN _ _ _ _ g⟩, ?_⟩
      refine zD Iff.rfl h (fun _ h => ?_) (fun _ h => ?_)
      ·
        cases h; refine ⟨?_, rfl⟩; simp only [List.map_cons, List.map_nil, zE.toD_eq]
      cases h; refine ⟨?_, rfl⟩; simp only [List.map_cons, List.map_nil, zE.toD_eq]
    cases h; refine ⟨?_, rfl⟩; simp only [List.map_cons, List.map_nil, zE.toD_eq]
  obtain ⟨q4, g, h⟩ := zC h
  refine ⟨_, ⟨_, wU _ _ _ _ g⟩, ?_⟩
  refine zD Iff.rfl h (fun _ h => ?_) (fun _ h => ?_)
  ·
    cases h; refine ⟨?_, rfl⟩; simp only [List.map_cons, List.map_nil, zE.toD_eq]
  obtain ⟨q5, g, h⟩ := zC h
  refine ⟨_, ⟨_, wU _ _ _ _ g⟩, ?_⟩
  refine zD Iff.rfl h (fun _ h => ?_) (fun _ h => ?_)
  ·
    cases h; refine ⟨?_, rfl⟩; simp only [List.map_cons, List.map_nil, zE.toD_eq]
  obtain ⟨q6, g, h⟩ := zC h
  refine ⟨_, ⟨_, wU _ _ _ _ g⟩, ?_⟩
  refine zD Iff.rfl h (fun _ h => ?_) (fun _ h => ?_)
  ·
    cases h; refine ⟨?_, rfl⟩; simp only [List.map_cons, List.map_nil, zE.toD_eq]
  obtain ⟨q7, g, h⟩ := zC h
  refine ⟨_, ⟨_, wU _ _ _ _ g⟩, ?_⟩
  refine zD Iff.rfl h (fun _ h => ?_) (fun _ h => ?_)
  ·
    cases h; refine ⟨?_, rfl⟩; simp only [List.map_cons, List.map_nil, zE.toD_eq]
  obtain ⟨q8, g, h⟩ := zC h
  refine ⟨_, ⟨_, wU _ _ _ _ g⟩, ?_⟩
  refine zD Iff.rfl h (fun _ h => ?_) (fun _ h => ?_)
  ·
    cases h; refine ⟨?_, rfl⟩; simp only [List.map_cons, List.map_nil, zE.toD_eq]
  obtain ⟨q9, g, h⟩ := zC h
  refine ⟨_, ⟨_, wU _ _ _ _ g⟩, ?_⟩
  refine zD Iff.rfl h (fun _ h => ?_) (fun _ h => ?_)
  ·
    cases h; refine ⟨?_, rfl⟩; simp only [List.map_cons, List.map_nil, zE.toD_eq]
  cases h; refine ⟨?_, rfl⟩; simp only [List.map_cons, List.map_nil, zE.toD_eq]
def y4K : (i : z7j) → z9x i → Prop
  | .gS t at_ signs ops i, r => Ok (y6K (Trip Tryz.prog) [(nI r)] []) (kL Tryz.f97 3) ⟨32, [(0, .d (.sl (List.map zB.toD t))), (1, (nI at_)), (7, .d (.sl (List.map D.str signs))), (8, .d (.sl (List.map (D.int .i64) ops))), (9, (nI i))], [], [], 0⟩
theorem y9I : ∀ i r, z1S z7h i = some r → y4K i r := by
  refine wM y4t fun g ih i => ?_
  cases i with
  | gS t at_ signs ops i =>
    have ih_ref07Op_L3 := fun t at_ signs ops i r h => ih (.gS t at_ signs ops i) r h
    intro r h
    replace h : z3A (fun t at_ signs ops i => g (z7j.gS t at_ signs ops i)) t at_ signs ops i = some r := h
    unfold z3A at h
    refine z4a 1000 (v0w _ _ _ _ t at_ signs ops i) ?_
    refine z2g (e' := (List.length signs : Int)) (by first | rfl | rw [List.length_map]) ?_
    rintro _ rfl
    refine zD decide_eq_true_iff h (fun _ h => ?_) (fun _ h => ?_)
    ·
      obtain ⟨x, hx, h⟩ := zC h
      refine ⟨gN (l := signs) (fun _ => rfl), z4f hx, x, z1Y rfl hx, ?_⟩
      obtain ⟨q1, g, h⟩ := zC h
      refine ⟨_, ⟨_, yN _ _ _ _ g⟩, ?_⟩
      refine zD Iff.rfl h (fun _ h => ?_) (fun _ h => ?_)
      ·
        obtain ⟨x1, hx, h⟩ := zC h
        refine ⟨gN (l := ops) (fun _ => rfl), z4f hx, x1, z1Y rfl hx, ?_⟩
        cases h; exact ⟨rfl, rfl⟩
      rintro _ rfl
      exact ih_ref07Op_L3 _ _ _ _ _ _ h
    cases h; exact ⟨rfl, rfl⟩
theorem v0t (t : List zB) (at_ : Int) (signs : List Str) (ops : List Int) (i r : Int) (h : gS t at_ signs ops i = some r) : y4K (.gS t at_ signs ops i) r := y9I (.gS t at_ signs ops i) r h
theorem v3M (level : Int) (r : List Str × List Int) (h : y5A level = some r) : Trip Tryz.prog 110 [(nI level)] [] [.d (.sl (List.map D.str r.1)), .d (.sl (List.map (D.int .i64) r.2))] [] := by
  unfold y5A at h
  refine zW 1000 (by kernel_rfl) (by kernel_rfl) (by kernel_rfl) (by kernel_rfl) (by kernel_rfl) (v3F _ _ _ _ level) ?_
  rintro _ rfl
  refine zD beq_iff_eq h (fun _ h => ?_) (fun _ h => ?_)
  ·
    cases h; exact ⟨rfl, rfl⟩
  rintro _ rfl
  refine zD beq_iff_eq h (fun _ h => ?_) (fun _ h => ?_)
  ·
    cases h; exact ⟨rfl, rfl⟩
  rintro _ rfl
  refine zD beq_iff_eq h (fun _ h => ?_) (fun _ h => ?_)
  ·
    cases h; exact ⟨rfl, rfl⟩
  rintro _ rfl
  refine zD beq_iff_eq h (fun _ h => ?_) (fun _ h => ?_)
  ·
    cases h; exact ⟨rfl, rfl⟩
  cases h; exact ⟨rfl, rfl⟩
theorem v5u (t : List zB) (at_ level r : Int) (h : y5W t at_ level = some r) : Trip Tryz.prog 97 (hU (List.map zB.toD t) at_ level) [] [(nI r)] [] := by
  unfold y5W at h
  refine zW 1000 (by kernel_rfl) (by kernel_rfl) (by kernel_rfl) (by kernel_rfl) (by kernel_rfl) (v5j _ _ _ _ t at_ level) ?_
  obtain ⟨q1, g, h⟩ := zC h
  refine ⟨_, _, ⟨_, v3M _ _ g⟩, ?_⟩
  exact v0t _ _ _ _ _ _ h
def y1z : (i : yW) → y1L i → Prop
  | .vP t at_, r => Trip Tryz.prog 63 [.d (.sl (List.map zB.toD t)), (nI at_)] [] [.d (.agg [(.int .i64 r.T_.K), (.int .i64 r.T_.N), (.str r.T_.S), (.sl (List.map zE.toD r.T_.L)), (.int .i64 r.T_.From), (.int .i64 r.T_.To), (.int .i64 r.At), (.int .i64 r.E)])] []
  | .vS t at_, r => Trip Tryz.prog 76 [.d (.sl (List.map zB.toD t)), (nI at_)] [] [.d (.agg [(.int .i64 r.T_.K), (.int .i64 r.T_.N), (.str r.T_.S), (.sl (List.map zE.toD r.T_.L)), (.int .i64 r.T_.From), (.int .i64 r.T_.To), (.int .i64 r.At), (.int .i64 r.E)])] []
  | .jA t at_, r => Trip Tryz.prog 77 [.d (.sl (List.map zB.toD t)), (nI at_)] [] [.d (.agg [(.int .i64 r.T_.K), (.int .i64 r.T_.N), (.str r.T_.S), (.sl (List.map zE.toD r.T_.L)), (.int .i64 r.T_.From), (.int .i64 r.T_.To), (.int .i64 r.At), (.int .i64 r.E)])] []
  | .vV t at_ level, r => Trip Tryz.prog 89 (hU (List.map zB.toD t) at_ level) [] [.d (.agg [(.int .i64 r.T_.K), (.int .i64 r.T_.N), (.str r.T_.S), (.sl (List.map zE.toD r.T_.L)), (.int .i64 r.T_.From), (.int .i64 r.T_.To), (.int .i64 r.At), (.int .i64 r.E)])] []
  | .wI t at_ level times o6 left, r => Ok (z9o (Trip Tryz.prog) [.d (.agg [(.int .i64 r.T_.K), (.int .i64 r.T_.N), (.str r.T_.S), (.sl (List.map zE.toD r.T_.L)), (.int .i64 r.T_.From), (.int .i64 r.T_.To), (.int .i64 r.At), (.int .i64 r.E)])] []) (kL Tryz.f89 5) ⟨65, [(0, .d (.sl (List.map zB.toD t))), (1, (nI at_)), (2, (nI level)), (6, .ref 6 1 0), (7, .ref 7 1 0), (8, (nI times))], [(6, 1, some (.agg (.agg [(.int .i64 o6.T_.K), (.int .i64 o6.T_.N), (.str o6.T_.S), (.sl (List.map zE.toD o6.T_.L)), (.int .i64 o6.T_.From), (.int .i64 o6.T_.To), (.int .i64 o6.At), (.int .i64 o6.E)]))), (7, 1, some (.agg (.agg [(.int .i64 left.T_.K), (.int .i64 left.T_.N), (.str left.T_.S), (.sl (List.map zE.toD left.T_.L)), (.int .i64 left.T_.From), (.int .i64 left.T_.To), (.int .i64 left.At), (.int .i64 left.E)])))], [], 0⟩
  | .wK t open_ few first last, r => Trip Tryz.prog 90 [.d (.sl (List.map zB.toD t)), (nI open_), (nB few), (nS first), (nS last)] [] (hU (List.map zE.toD r.1) r.2.1 r.2.2) []
  | .z1t t at_, r => Trip Tryz.prog 96 [.d (.sl (List.map zB.toD t)), (nI at_)] [] [.d (.agg [(.int .i64 r.T_.K), (.int .i64 r.T_.N), (.str r.T_.S), (.sl (List.map zE.toD r.T_.L)), (.int .i64 r.T_.From), (.int .i64 r.T_.To), (.int .i64 r.At), (.int .i64 r.E)])] []
  | .z1r t at_, r => Trip Tryz.prog 98 [.d (.sl (List.map zB.toD t)), (nI at_)] [] (hU (List.map zE.toD r.1) r.2.1 r.2.2) []
  | .wT t at_ out, r => Ok (y1q (Trip Tryz.prog) (hU (List.map zE.toD r.1) r.2.1 r.2.2) []) (kL Tryz.f98 2) ⟨37, [(0, .d (.sl (List.map zB.toD t))), (1, (nI at_)), (7, .right 9 1 6 (List.map zE.toD out))], [(9, 1, some (.tok 6 (List.length (List.map zE.toD out))))], [], 0⟩
  | .z0v t at_, r => Trip Tryz.prog 109 [.d (.sl (List.map zB.toD t)), (nI at_)] [] [.d (.agg [(.int .i64 r.T_.K), (.int .i64 r.T_.N), (.str r.T_.S), (.sl (List.map zE.toD r.T_.L)), (.int .i64 r.T_.From), (.int .i64 r.T_.To), (.int .i64 r.At), (.int .i64 r.E)])] []
  | .wR t at_ o4 x, r => Ok (y1E (Trip Tryz.prog) [.d (.agg [(.int .i64 r.T_.K), (.int .i64 r.T_.N), (.str r.T_.S), (.sl (List.map zE.toD r.T_.L)), (.int .i64 r.T_.From), (.int .i64 r.T_.To), (.int .i64 r.At), (.int .i64 r.E)])] []) (kL Tryz.f109 2) ⟨75, [(0, .d (.sl (List.map zB.toD t))), (1, (nI at_)), (4, .ref 4 1 0), (5, .ref 5 1 0)], [(4, 1, some (.agg (.agg [(.int .i64 o4.T_.K), (.int .i64 o4.T_.N), (.str o4.T_.S), (.sl (List.map zE.toD o4.T_.L)), (.int .i64 o4.T_.From), (.int .i64 o4.T_.To), (.int .i64 o4.At), (.int .i64 o4.E)]))), (5, 1, some (.agg (.agg [(.int .i64 x.T_.K), (.int .i64 x.T_.N), (.str x.T_.S), (.sl (List.map zE.toD x.T_.L)), (.int .i64 x.T_.From), (.int .i64 x.T_.To), (.int .i64 x.At), (.int .i64 x.E)])))], [], 0⟩
theorem y6s : ∀ i r, z1S uU i = some r → y1z i r := by
  refine wM z1L fun g ih i => ?_
  cases i with
  | vP t at_ =>
    have ih_ref07Expr := fun t at_ r h => ih (.vS t at_) r h
    have ih_ref07Called := fun t at_ r h => ih (.jA t at_) r h
    intro r h
    replace h : z3x (fun t at_ => g (yW.vS t at_)) (fun t at_ => g (yW.jA t at_)) t at_ = some r := h
    unfold z3x at h
    refine zW 1000 (by kernel_rfl) (by kernel_rfl) (by kernel_rfl) (by kernel_rfl) (by kernel_rfl) (v1p _ _ _ _ t at_) ?_
    obtain ⟨q1, g, h⟩ := zC h
    refine ⟨_, _, _, _, _, ⟨_, jT _ _ _ g⟩, ?_⟩
    rintro _ rfl
    refine zD beq_iff_eq h (fun _ h => ?_) (fun _ h => ?_)
    ·
      rintro _ rfl
      obtain ⟨q2, g, h⟩ := zC h
      refine ⟨_, _, _, _, _, _, _, _, ⟨_, yV _ _ _ _ _ _ _ _ g⟩, ?_⟩
      cases h; exact ⟨rfl, rfl⟩
    obtain ⟨q3, g, h⟩ := zC h
    refine ⟨_, ⟨_, wU _ _ _ _ g⟩, ?_⟩
    refine zD Iff.rfl h (fun _ h => ?_) (fun _ h => ?_)
    ·
      rintro _ rfl
      obtain ⟨q4, g, h⟩ := zC h
      refine ⟨_, _, _, _, _, _, _, _, ⟨_, yV _ _ _ _ _ _ _ _ g⟩, ?_⟩
      cases h; exact ⟨rfl, rfl⟩
    obtain ⟨q5, g, h⟩ := zC h
    refine ⟨_, ⟨_, wU _ _ _ _ g⟩, ?_⟩
    refine zD Iff.rfl h (fun _ h => ?_) (fun _ h => ?_)
    ·
      rintro _ rfl
      obtain ⟨q6, g, h⟩ := zC h
      refine ⟨_, _, _, _, _, _, _, _, ⟨_, yV _ _ _ _ _ _ _ _ g⟩, ?_⟩
      cases h; exact ⟨rfl, rfl⟩
    obtain ⟨q7, g, h⟩ := zC h
    refine ⟨_, ⟨_, wU _ _ _ _ g⟩, ?_⟩
    refine zD Iff.rfl h (fun _ h => ?_) (fun _ h => ?_)
    ·
      rintro _ rfl
      obtain ⟨q8, g, h⟩ := zC h
      refine ⟨_, _, _, _, _, _, _, _, ⟨_, yV _ _ _ _ _ _ _ _ g⟩, ?_⟩
      cases h; exact ⟨rfl, rfl⟩
    rintro _ rfl
    refine zD beq_iff_eq h (fun _ h => ?_) (fun _ h => ?_)
    ·
      rintro _ rfl
      obtain ⟨q9, g, h⟩ := zC h
      refine ⟨_, ⟨_, yN _ _ _ _ g⟩, ?_⟩
      refine zU Iff.rfl h (fun _ h => ?_) (fun _ h => ?_)
      ·
        obtain ⟨q11, g, h⟩ := zC h
        refine ⟨_, ⟨_, yN _ _ _ _ g⟩, ?_⟩
        refine zD Iff.rfl h (fun _ h => ?_) (fun _ h => ?_)
        ·
          rintro _ rfl
          obtain ⟨q12, g, h⟩ := zC h
          refine ⟨_, _, _, _, _, _, _, _, ⟨_, ih_ref07Expr _ _ _ g⟩, ?_⟩
          rintro _ rfl
          refine zD beq_iff_eq h (fun hc309 h => ?_) (fun hc309 h => ?_)
          ·
            obtain ⟨q13, g, h⟩ := zC h
            refine ⟨_, ⟨_, yN _ _ _ _ g⟩, ?_⟩
            refine zU Iff.rfl h (fun _ h => ?_) (fun _ h => ?_)
            ·
              rintro _ rfl
              refine jK beq_iff_eq hc309 ?_
              rintro _ rfl
              cases h; exact ⟨rfl, rfl⟩
            obtain ⟨q14, g, h⟩ := zC h
            refine ⟨_, _, _, _, _, _, _, _, ⟨_, vR _ _ g⟩, ?_⟩
            cases h; exact ⟨rfl, rfl⟩
          rintro _ rfl
          refine y1y beq_iff_eq hc309 ?_
          cases h; exact ⟨rfl, rfl⟩
        obtain ⟨q15, g, h⟩ := zC h
        refine ⟨_, _, _, _, _, _, _, _, ⟨_, ih_ref07Called _ _ _ g⟩, ?_⟩
        cases h; exact ⟨rfl, rfl⟩
      rintro _ rfl
      obtain ⟨q10, g, h⟩ := zC h
      refine ⟨_, _, _, _, _, _, _, _, ⟨_, yV _ _ _ _ _ _ _ _ g⟩, ?_⟩
      cases h; exact ⟨rfl, rfl⟩
    obtain ⟨q16, g, h⟩ := zC h
    refine ⟨_, ⟨_, yN _ _ _ _ g⟩, ?_⟩
    refine zD Iff.rfl h (fun _ h => ?_) (fun _ h => ?_)
    ·
      rintro _ rfl
      obtain ⟨q17, g, h⟩ := zC h
      refine ⟨_, _, _, _, _, _, _, _, ⟨_, ih_ref07Expr _ _ _ g⟩, ?_⟩
      rintro _ rfl
      refine zD beq_iff_eq h (fun hc312 h => ?_) (fun hc312 h => ?_)
      ·
        obtain ⟨q18, g, h⟩ := zC h
        refine ⟨_, ⟨_, yN _ _ _ _ g⟩, ?_⟩
        refine zU Iff.rfl h (fun _ h => ?_) (fun _ h => ?_)
        ·
          rintro _ rfl
          refine jK beq_iff_eq hc312 ?_
          rintro _ rfl
          cases h; exact ⟨rfl, rfl⟩
        obtain ⟨q19, g, h⟩ := zC h
        refine ⟨_, _, _, _, _, _, _, _, ⟨_, vR _ _ g⟩, ?_⟩
        cases h; exact ⟨rfl, rfl⟩
      rintro _ rfl
      refine y1y beq_iff_eq hc312 ?_
      cases h; exact ⟨rfl, rfl⟩
    obtain ⟨q20, g, h⟩ := zC h
    refine ⟨_, _, _, _, _, _, _, _, ⟨_, ih_ref07Called _ _ _ g⟩, ?_⟩
    cases h; exact ⟨rfl, rfl⟩
  | vS t at_ =>
    have ih_ref07Level := fun t at_ level r h => ih (.vV t at_ level) r h
    intro r h
    replace h : z5w (fun t at_ level => g (yW.vV t at_ level)) t at_ = some r := h
    unfold z5w at h
    refine zW 1000 (by kernel_rfl) (by kernel_rfl) (by kernel_rfl) (by kernel_rfl) (by kernel_rfl) (v2q _ _ _ _ t at_) ?_
    obtain ⟨q1, g, h⟩ := zC h
    refine ⟨_, _, _, _, _, _, _, _, ⟨_, ih_ref07Level _ _ _ _ g⟩, ?_⟩
    cases h; exact ⟨rfl, rfl⟩
  | jA t at_ =>
    have ih_ref07Closed := fun t open_ few first last r h => ih (.wK t open_ few first last) r h
    intro r h
    replace h : z0G (fun t open_ few first last => g (yW.wK t open_ few first last)) t at_ = some r := h
    unfold z0G at h
    refine zW 1000 (by kernel_rfl) (by kernel_rfl) (by kernel_rfl) (by kernel_rfl) (by kernel_rfl) (y8P _ _ _ _ t at_) ?_
    rintro _ rfl
    obtain ⟨q1, g, h⟩ := zC h
    refine ⟨_, _, _, _, _, ⟨_, jT _ _ _ g⟩, ?_⟩
    rintro _ rfl
    refine zD beq_iff_eq h (fun _ h => ?_) (fun _ h => ?_)
    ·
      obtain ⟨q2, g, h⟩ := zC h
      refine ⟨_, _, _, _, _, ⟨_, jT _ _ _ g⟩, ?_⟩
      obtain ⟨q3, g, h⟩ := zC h
      refine ⟨_, _, _, ⟨_, ih_ref07Closed _ _ _ _ _ _ g⟩, ?_⟩
      rintro _ rfl
      refine zU beq_iff_eq h (fun _ h => ?_) (fun _ h => ?_)
      ·
        obtain ⟨q4, g, h⟩ := zC h
        refine ⟨_, _, _, _, _, _, _, _, ⟨_, yV _ _ _ _ _ _ _ _ g⟩, ?_⟩
        cases h; exact ⟨rfl, rfl⟩
      cases h; exact ⟨rfl, rfl⟩
    obtain ⟨q5, g, h⟩ := zC h
    refine ⟨_, ⟨_, yN _ _ _ _ g⟩, ?_⟩
    refine zD Iff.rfl h (fun _ h => ?_) (fun _ h => ?_)
    ·
      obtain ⟨q6, g, h⟩ := zC h
      refine ⟨_, _, _, ⟨_, ih_ref07Closed _ _ _ _ _ _ g⟩, ?_⟩
      rintro _ rfl
      refine zU beq_iff_eq h (fun _ h => ?_) (fun _ h => ?_)
      ·
        obtain ⟨q7, g, h⟩ := zC h
        refine ⟨_, _, _, _, _, _, _, _, ⟨_, yV _ _ _ _ _ _ _ _ g⟩, ?_⟩
        cases h; exact ⟨rfl, rfl⟩
      cases h; exact ⟨rfl, rfl⟩
    obtain ⟨q8, g, h⟩ := zC h
    refine ⟨_, ⟨_, yN _ _ _ _ g⟩, ?_⟩
    refine zD Iff.rfl h (fun _ h => ?_) (fun _ h => ?_)
    ·
      rintro _ rfl
      obtain ⟨q9, g, h⟩ := zC h
      refine ⟨_, _, _, _, _, ⟨_, jT _ _ _ g⟩, ?_⟩
      rintro _ rfl
      refine zU beq_iff_eq h (fun _ h => ?_) (fun _ h => ?_)
      ·
        rintro _ rfl
        obtain ⟨q11, g, h⟩ := zC h
        refine ⟨_, _, _, _, _, ⟨_, jT _ _ _ g⟩, ?_⟩
        rintro _ rfl
        obtain ⟨q12, g, h⟩ := zC h
        refine ⟨_, ⟨_, wU _ _ _ _ g⟩, ?_⟩
        refine zD Iff.rfl h (fun _ h => ?_) (fun _ h => ?_)
        ·
          obtain ⟨q13, g, h⟩ := zC h
          refine ⟨_, _, _, ⟨_, ih_ref07Closed _ _ _ _ _ _ g⟩, ?_⟩
          rintro _ rfl
          refine zU beq_iff_eq h (fun _ h => ?_) (fun _ h => ?_)
          ·
            obtain ⟨q14, g, h⟩ := zC h
            refine ⟨_, _, _, _, _, _, _, _, ⟨_, yV _ _ _ _ _ _ _ _ g⟩, ?_⟩
            cases h; exact ⟨rfl, rfl⟩
          cases h; exact ⟨rfl, rfl⟩
        obtain ⟨q15, g, h⟩ := zC h
        refine ⟨_, _, _, ⟨_, ih_ref07Closed _ _ _ _ _ _ g⟩, ?_⟩
        rintro _ rfl
        refine zU beq_iff_eq h (fun _ h => ?_) (fun _ h => ?_)
        ·
          obtain ⟨q16, g, h⟩ := zC h
          refine ⟨_, _, _, _, _, _, _, _, ⟨_, yV _ _ _ _ _ _ _ _ g⟩, ?_⟩
          cases h; exact ⟨rfl, rfl⟩
        cases h; exact ⟨rfl, rfl⟩
      rintro _ rfl
      obtain ⟨q10, g, h⟩ := zC h
      refine ⟨_, _, _, _, _, _, _, _, ⟨_, vR _ _ g⟩, ?_⟩
      cases h; exact ⟨rfl, rfl⟩
    obtain ⟨q17, g, h⟩ := zC h
    refine ⟨_, ⟨_, wU _ _ _ _ g⟩, ?_⟩
    refine zD Iff.rfl h (fun _ h => ?_) (fun _ h => ?_)
    ·
      rintro _ rfl
      obtain ⟨q18, g, h⟩ := zC h
      refine ⟨_, _, _, _, _, ⟨_, jT _ _ _ g⟩, ?_⟩
      rintro _ rfl
      refine zU beq_iff_eq h (fun _ h => ?_) (fun _ h => ?_)
      ·
        rintro _ rfl
        obtain ⟨q20, g, h⟩ := zC h
        refine ⟨_, _, _, _, _, ⟨_, jT _ _ _ g⟩, ?_⟩
        rintro _ rfl
        obtain ⟨q21, g, h⟩ := zC h
        refine ⟨_, ⟨_, wU _ _ _ _ g⟩, ?_⟩
        refine zD Iff.rfl h (fun _ h => ?_) (fun _ h => ?_)
        ·
          obtain ⟨q22, g, h⟩ := zC h
          refine ⟨_, _, _, ⟨_, ih_ref07Closed _ _ _ _ _ _ g⟩, ?_⟩
          rintro _ rfl
          refine zU beq_iff_eq h (fun _ h => ?_) (fun _ h => ?_)
          ·
            obtain ⟨q23, g, h⟩ := zC h
            refine ⟨_, _, _, _, _, _, _, _, ⟨_, yV _ _ _ _ _ _ _ _ g⟩, ?_⟩
            cases h; exact ⟨rfl, rfl⟩
          cases h; exact ⟨rfl, rfl⟩
        obtain ⟨q24, g, h⟩ := zC h
        refine ⟨_, _, _, ⟨_, ih_ref07Closed _ _ _ _ _ _ g⟩, ?_⟩
        rintro _ rfl
        refine zU beq_iff_eq h (fun _ h => ?_) (fun _ h => ?_)
        ·
          obtain ⟨q25, g, h⟩ := zC h
          refine ⟨_, _, _, _, _, _, _, _, ⟨_, yV _ _ _ _ _ _ _ _ g⟩, ?_⟩
          cases h; exact ⟨rfl, rfl⟩
        cases h; exact ⟨rfl, rfl⟩
      rintro _ rfl
      obtain ⟨q19, g, h⟩ := zC h
      refine ⟨_, _, _, _, _, _, _, _, ⟨_, vR _ _ g⟩, ?_⟩
      cases h; exact ⟨rfl, rfl⟩
    obtain ⟨q26, g, h⟩ := zC h
    refine ⟨_, _, _, _, _, _, _, _, ⟨_, vR _ _ g⟩, ?_⟩
    cases h; exact ⟨rfl, rfl⟩
  | vV t at_ level =>
    have ih_ref07Level := fun t at_ level r h => ih (.vV t at_ level) r h
    have ih_ref07Level_L5 := fun t at_ level times o6 left r h => ih (.wI t at_ level times o6 left) r h
    have ih_ref07Un := fun t at_ r h => ih (.z1t t at_) r h
    intro r h
    replace h : z2x (fun t at_ level => g (yW.vV t at_ level)) (fun t at_ level times o6 left => g (yW.wI t at_ level times o6 left)) (fun t at_ => g (yW.z1t t at_)) t at_ level = some r := h
    unfold z2x at h
    refine zW 1000 (by kernel_rfl) (by kernel_rfl) (by kernel_rfl) (by kernel_rfl) (by kernel_rfl) (v0L _ _ _ _ t at_ level) ?_
    rintro _ rfl
    refine zD beq_iff_eq h (fun _ h => ?_) (fun _ h => ?_)
    ·
      obtain ⟨q1, g, h⟩ := zC h
      refine ⟨_, _, _, _, _, _, _, _, ⟨_, ih_ref07Un _ _ _ g⟩, ?_⟩
      cases h; exact ⟨rfl, rfl⟩
    rintro _ rfl
    obtain ⟨q2, g, h⟩ := zC h
    refine ⟨_, _, _, _, _, _, _, _, ⟨_, ih_ref07Level _ _ _ _ g⟩, ?_⟩
    exact ih_ref07Level_L5 _ _ _ _ _ _ _ h
  | wI t at_ level times o6 left =>
    have ih_ref07Level := fun t at_ level r h => ih (.vV t at_ level) r h
    have ih_ref07Level_L5 := fun t at_ level times o6 left r h => ih (.wI t at_ level times o6 left) r h
    intro r h
    replace h : z0X (fun t at_ level => g (yW.vV t at_ level)) (fun t at_ level times o6 left => g (yW.wI t at_ level times o6 left)) t at_ level times o6 left = some r := h
    unfold z0X at h
    refine z4a 1000 (y6P _ _ _ _ t at_ level times o6 left) ?_
    rintro _ rfl
    refine zD beq_iff_eq h (fun _ h => ?_) (fun _ h => ?_)
    ·
      obtain ⟨q1, g, h⟩ := zC h
      refine ⟨_, ⟨_, v5u _ _ _ _ g⟩, ?_⟩
      rintro _ rfl
      refine zD beq_iff_eq h (fun _ h => ?_) (fun _ h => ?_)
      ·
        cases h; exact ⟨rfl, rfl⟩
      rintro _ rfl
      refine zD beq_iff_eq h (fun _ h => ?_) (fun _ h => ?_)
      ·
        rintro _ rfl
        refine zD beq_iff_eq h (fun _ h => ?_) (fun _ h => ?_)
        ·
          cases h; exact ⟨rfl, rfl⟩
        rintro _ rfl
        rintro _ rfl
        obtain ⟨q2, g, h⟩ := zC h
        refine ⟨_, _, _, _, _, _, _, _, ⟨_, ih_ref07Level _ _ _ _ g⟩, ?_⟩
        rintro _ rfl
        refine zU beq_iff_eq h (fun _ h => ?_) (fun _ h => ?_)
        ·
          obtain ⟨q3, g, h⟩ := zC h
          have hT := yV _ _ _ _ _ _ _ _ g
          simp only [List.map_cons, List.map_nil, zE.toD_eq] at hT
          refine ⟨_, _, _, _, _, _, _, _, ⟨_, hT⟩, ?_⟩
          rintro _ rfl
          exact ih_ref07Level_L5 _ _ _ _ _ _ _ h
        cases h; exact ⟨rfl, rfl⟩
      rintro _ rfl
      rintro _ rfl
      obtain ⟨q4, g, h⟩ := zC h
      refine ⟨_, _, _, _, _, _, _, _, ⟨_, ih_ref07Level _ _ _ _ g⟩, ?_⟩
      rintro _ rfl
      refine zU beq_iff_eq h (fun _ h => ?_) (fun _ h => ?_)
      ·
        obtain ⟨q5, g, h⟩ := zC h
        have hT := yV _ _ _ _ _ _ _ _ g
        simp only [List.map_cons, List.map_nil, zE.toD_eq] at hT
        refine ⟨_, _, _, _, _, _, _, _, ⟨_, hT⟩, ?_⟩
        rintro _ rfl
        exact ih_ref07Level_L5 _ _ _ _ _ _ _ h
      cases h; exact ⟨rfl, rfl⟩
    cases h; exact ⟨rfl, rfl⟩
  | wK t open_ few first last =>
    have ih_ref07List := fun t at_ r h => ih (.z1r t at_) r h
    intro r h
    replace h : z2z (fun t at_ => g (yW.z1r t at_)) t open_ few first last = some r := h
    unfold z2z at h
    refine zW 1000 (by kernel_rfl) (by kernel_rfl) (by kernel_rfl) (by kernel_rfl) (by kernel_rfl) (y8x _ _ _ _ t open_ few first last) ?_
    obtain ⟨q1, g, h⟩ := zC h
    refine ⟨_, ⟨_, yN _ _ _ _ g⟩, ?_⟩
    refine zU Iff.rfl h (fun _ h => ?_) (fun _ h => ?_)
    ·
      refine zD Iff.rfl h (fun _ h => ?_) (fun _ h => ?_)
      ·
        rintro _ rfl
        obtain ⟨q2, g, h⟩ := zC h
        refine ⟨_, ⟨_, yN _ _ _ _ g⟩, ?_⟩
        refine zD Iff.rfl h (fun _ h => ?_) (fun _ h => ?_)
        ·
          rintro _ rfl
          cases h; exact ⟨rfl, rfl⟩
        rintro _ rfl
        obtain ⟨q3, g, h⟩ := zC h
        refine ⟨_, _, _, ⟨_, ih_ref07List _ _ _ g⟩, ?_⟩
        rintro _ rfl
        refine zU beq_iff_eq h (fun _ h => ?_) (fun _ h => ?_)
        ·
          obtain ⟨q4, g, h⟩ := zC h
          refine ⟨_, ⟨_, yN _ _ _ _ g⟩, ?_⟩
          refine zU Iff.rfl h (fun _ h => ?_) (fun _ h => ?_)
          ·
            rintro _ rfl
            cases h; exact ⟨rfl, rfl⟩
          cases h; exact ⟨rfl, rfl⟩
        cases h; exact ⟨rfl, rfl⟩
      rintro _ rfl
      obtain ⟨q5, g, h⟩ := zC h
      refine ⟨_, _, _, ⟨_, ih_ref07List _ _ _ g⟩, ?_⟩
      rintro _ rfl
      refine zU beq_iff_eq h (fun _ h => ?_) (fun _ h => ?_)
      ·
        obtain ⟨q6, g, h⟩ := zC h
        refine ⟨_, ⟨_, yN _ _ _ _ g⟩, ?_⟩
        refine zU Iff.rfl h (fun _ h => ?_) (fun _ h => ?_)
        ·
          rintro _ rfl
          cases h; exact ⟨rfl, rfl⟩
        cases h; exact ⟨rfl, rfl⟩
      cases h; exact ⟨rfl, rfl⟩
    cases h; exact ⟨rfl, rfl⟩
  | z1t t at_ =>
    have ih_ref07Un := fun t at_ r h => ih (.z1t t at_) r h
    have ih_ref07Post := fun t at_ r h => ih (.z0v t at_) r h
    intro r h
    replace h : z5W (fun t at_ => g (yW.z1t t at_)) (fun t at_ => g (yW.z0v t at_)) t at_ = some r := h
    unfold z5W at h
    refine zW 1000 (by kernel_rfl) (by kernel_rfl) (by kernel_rfl) (by kernel_rfl) (by kernel_rfl) (v5g _ _ _ _ t at_) ?_
    obtain ⟨q1, g, h⟩ := zC h
    refine ⟨_, ⟨_, yN _ _ _ _ g⟩, ?_⟩
    refine zD Iff.rfl h (fun _ h => ?_) (fun _ h => ?_)
    ·
      obtain ⟨q2, g, h⟩ := zC h
      refine ⟨_, ⟨_, yN _ _ _ _ g⟩, ?_⟩
      refine zD Iff.rfl h (fun _ h => ?_) (fun _ h => ?_)
      ·
        rintro _ rfl
        refine zD beq_iff_eq h (fun _ h => ?_) (fun _ h => ?_)
        ·
          obtain ⟨q3, g, h⟩ := zC h
          refine ⟨_, _, _, _, _, _, _, _, ⟨_, ih_ref07Post _ _ _ g⟩, ?_⟩
          cases h; exact ⟨rfl, rfl⟩
        rintro _ rfl
        obtain ⟨q4, g, h⟩ := zC h
        refine ⟨_, _, _, _, _, _, _, _, ⟨_, ih_ref07Un _ _ _ g⟩, ?_⟩
        rintro _ rfl
        refine zU beq_iff_eq h (fun _ h => ?_) (fun _ h => ?_)
        ·
          obtain ⟨q5, g, h⟩ := zC h
          have hT := yV _ _ _ _ _ _ _ _ g
          simp only [List.map_cons, List.map_nil, zE.toD_eq] at hT
          refine ⟨_, _, _, _, _, _, _, _, ⟨_, hT⟩, ?_⟩
          cases h; exact ⟨rfl, rfl⟩
        cases h; exact ⟨rfl, rfl⟩
      rintro _ rfl
      refine zD beq_iff_eq h (fun _ h => ?_) (fun _ h => ?_)
      ·
        obtain ⟨q6, g, h⟩ := zC h
        refine ⟨_, _, _, _, _, _, _, _, ⟨_, ih_ref07Post _ _ _ g⟩, ?_⟩
        cases h; exact ⟨rfl, rfl⟩
      rintro _ rfl
      obtain ⟨q7, g, h⟩ := zC h
      refine ⟨_, _, _, _, _, _, _, _, ⟨_, ih_ref07Un _ _ _ g⟩, ?_⟩
      rintro _ rfl
      refine zU beq_iff_eq h (fun _ h => ?_) (fun _ h => ?_)
      ·
        obtain ⟨q8, g, h⟩ := zC h
        have hT := yV _ _ _ _ _ _ _ _ g
        simp only [List.map_cons, List.map_nil, zE.toD_eq] at hT
        refine ⟨_, _, _, _, _, _, _, _, ⟨_, hT⟩, ?_⟩
        cases h; exact ⟨rfl, rfl⟩
      cases h; exact ⟨rfl, rfl⟩
    obtain ⟨q9, g, h⟩ := zC h
    refine ⟨_, ⟨_, yN _ _ _ _ g⟩, ?_⟩
    refine zD Iff.rfl h (fun _ h => ?_) (fun _ h => ?_)
    ·
      rintro _ rfl
      refine zD beq_iff_eq h (fun _ h => ?_) (fun _ h => ?_)
      ·
        obtain ⟨q10, g, h⟩ := zC h
        refine ⟨_, _, _, _, _, _, _, _, ⟨_, ih_ref07Post _ _ _ g⟩, ?_⟩
        cases h; exact ⟨rfl, rfl⟩
      rintro _ rfl
      obtain ⟨q11, g, h⟩ := zC h
      refine ⟨_, _, _, _, _, _, _, _, ⟨_, ih_ref07Un _ _ _ g⟩, ?_⟩
      rintro _ rfl
      refine zU beq_iff_eq h (fun _ h => ?_) (fun _ h => ?_)
      ·
        obtain ⟨q12, g, h⟩ := zC h
        have hT := yV _ _ _ _ _ _ _ _ g
        simp only [List.map_cons, List.map_nil, zE.toD_eq] at hT
        refine ⟨_, _, _, _, _, _, _, _, ⟨_, hT⟩, ?_⟩
        cases h; exact ⟨rfl, rfl⟩
      cases h; exact ⟨rfl, rfl⟩
    rintro _ rfl
    refine zD beq_iff_eq h (fun _ h => ?_) (fun _ h => ?_)
    ·
      obtain ⟨q13, g, h⟩ := zC h
      refine ⟨_, _, _, _, _, _, _, _, ⟨_, ih_ref07Post _ _ _ g⟩, ?_⟩
      cases h; exact ⟨rfl, rfl⟩
    rintro _ rfl
    obtain ⟨q14, g, h⟩ := zC h
    refine ⟨_, _, _, _, _, _, _, _, ⟨_, ih_ref07Un _ _ _ g⟩, ?_⟩
    rintro _ rfl
    refine zU beq_iff_eq h (fun _ h => ?_) (fun _ h => ?_)
    ·
      obtain ⟨q15, g, h⟩ := zC h
      have hT := yV _ _ _ _ _ _ _ _ g
      simp only [List.map_cons, List.map_nil, zE.toD_eq] at hT
      refine ⟨_, _, _, _, _, _, _, _, ⟨_, hT⟩, ?_⟩
      cases h; exact ⟨rfl, rfl⟩
    cases h; exact ⟨rfl, rfl⟩
  | z1r t at_ =>
    have ih_ref07List_L2 := fun t at_ out r h => ih (.wT t at_ out) r h
    intro r h
    replace h : z6I (fun t at_ out => g (yW.wT t at_ out)) t at_ = some r := h
    unfold z6I at h
    refine zW 1000 (by kernel_rfl) (by kernel_rfl) (by kernel_rfl) (by kernel_rfl) (by kernel_rfl) (v2d _ _ _ _ t at_) ?_
    exact ih_ref07List_L2 _ _ _ _ h
  | wT t at_ out =>
    have ih_ref07Expr := fun t at_ r h => ih (.vS t at_) r h
    have ih_ref07List_L2 := fun t at_ out r h => ih (.wT t at_ out) r h
    intro r h
    replace h : z1X (fun t at_ => g (yW.vS t at_)) (fun t at_ out => g (yW.wT t at_ out)) t at_ out = some r := h
    unfold z1X at h
    refine z4a 1000 (y7q _ _ _ _ t at_ out) ?_
    obtain ⟨q1, g, h⟩ := zC h
    refine ⟨_, _, _, _, _, _, _, _, ⟨_, ih_ref07Expr _ _ _ g⟩, ?_⟩
    rintro _ rfl
    refine zU beq_iff_eq h (fun _ h => ?_) (fun _ h => ?_)
    ·
      refine ⟨by simp [wB, D.cells], ?_⟩
      refine ⟨by first | rfl | decide | simp only [List.length_map, List.length_cons, List.length_nil, List.map_append, List.length_append], ?_⟩
      obtain ⟨hP, h⟩ := jZ h
      refine ⟨by first | exact hP | simpa using hP, ?_⟩
      refine z2g (e' := List.map zE.toD (out ++ [q1.T_])) (by first | rfl | simp only [List.map_append, List.map_cons, List.map_nil, List.map_take, List.map_drop, List.map_set, List.map_replicate, List.length_map, zE.toD_eq]) ?_
      obtain ⟨q2, g, h⟩ := zC h
      refine ⟨_, ⟨_, yN _ _ _ _ g⟩, ?_⟩
      refine zU Iff.rfl h (fun _ h => ?_) (fun _ h => ?_)
      ·
        rintro _ rfl
        exact ih_ref07List_L2 _ _ _ _ h
      cases h; exact ⟨rfl, rfl⟩
    cases h; exact ⟨rfl, rfl⟩
  | z0v t at_ =>
    have ih_ref07Atom := fun t at_ r h => ih (.vP t at_) r h
    have ih_ref07Post_L2 := fun t at_ o4 x r h => ih (.wR t at_ o4 x) r h
    intro r h
    replace h : z4v (fun t at_ => g (yW.vP t at_)) (fun t at_ o4 x => g (yW.wR t at_ o4 x)) t at_ = some r := h
    unfold z4v at h
    refine zW 1000 (by kernel_rfl) (by kernel_rfl) (by kernel_rfl) (by kernel_rfl) (by kernel_rfl) (v1c _ _ _ _ t at_) ?_
    obtain ⟨q1, g, h⟩ := zC h
    refine ⟨_, _, _, _, _, _, _, _, ⟨_, ih_ref07Atom _ _ _ g⟩, ?_⟩
    exact ih_ref07Post_L2 _ _ _ _ _ h
  | wR t at_ o4 x =>
    have ih_ref07Expr := fun t at_ r h => ih (.vS t at_) r h
    have ih_ref07Post_L2 := fun t at_ o4 x r h => ih (.wR t at_ o4 x) r h
    intro r h
    replace h : z0r (fun t at_ => g (yW.vS t at_)) (fun t at_ o4 x => g (yW.wR t at_ o4 x)) t at_ o4 x = some r := h
    unfold z0r at h
    refine z4a 1000 (y7A _ _ _ _ t at_ o4 x) ?_
    rintro _ rfl
    refine zD beq_iff_eq h (fun _ h => ?_) (fun _ h => ?_)
    ·
      obtain ⟨q1, g, h⟩ := zC h
      refine ⟨_, ⟨_, yN _ _ _ _ g⟩, ?_⟩
      refine zD Iff.rfl h (fun _ h => ?_) (fun _ h => ?_)
      ·
        rintro _ rfl
        obtain ⟨q2, g, h⟩ := zC h
        refine ⟨_, _, _, _, _, _, _, _, ⟨_, ih_ref07Expr _ _ _ g⟩, ?_⟩
        rintro _ rfl
        refine zU beq_iff_eq h (fun _ h => ?_) (fun _ h => ?_)
        ·
          obtain ⟨q3, g, h⟩ := zC h
          refine ⟨_, ⟨_, yN _ _ _ _ g⟩, ?_⟩
          refine zU Iff.rfl h (fun _ h => ?_) (fun _ h => ?_)
          ·
            rintro _ rfl
            obtain ⟨q5, g, h⟩ := zC h
            have hT := yV _ _ _ _ _ _ _ _ g
            simp only [List.map_cons, List.map_nil, zE.toD_eq] at hT
            refine ⟨_, _, _, _, _, _, _, _, ⟨_, hT⟩, ?_⟩
            exact ih_ref07Post_L2 _ _ _ _ _ h
          obtain ⟨q4, g, h⟩ := zC h
          refine ⟨_, _, _, _, _, _, _, _, ⟨_, vR _ _ g⟩, ?_⟩
          cases h; exact ⟨rfl, rfl⟩
        cases h; exact ⟨rfl, rfl⟩
      obtain ⟨q6, g, h⟩ := zC h
      refine ⟨_, ⟨_, yN _ _ _ _ g⟩, ?_⟩
      refine zD Iff.rfl h (fun _ h => ?_) (fun _ h => ?_)
      ·
        rintro _ rfl
        obtain ⟨q7, g, h⟩ := zC h
        refine ⟨_, _, _, _, _, ⟨_, jT _ _ _ g⟩, ?_⟩
        rintro _ rfl
        refine zU beq_iff_eq h (fun _ h => ?_) (fun _ h => ?_)
        ·
          rintro _ rfl
          obtain ⟨q9, g, h⟩ := zC h
          have hT := yV _ _ _ _ _ _ _ _ g
          simp only [List.map_cons, List.map_nil, zE.toD_eq] at hT
          refine ⟨_, _, _, _, _, _, _, _, ⟨_, hT⟩, ?_⟩
          exact ih_ref07Post_L2 _ _ _ _ _ h
        rintro _ rfl
        obtain ⟨q8, g, h⟩ := zC h
        refine ⟨_, _, _, _, _, _, _, _, ⟨_, vR _ _ g⟩, ?_⟩
        cases h; exact ⟨rfl, rfl⟩
      cases h; exact ⟨rfl, rfl⟩
    cases h; exact ⟨rfl, rfl⟩
theorem z5K (t : List zB) (at_ : Int) (r : zI) (h : vP t at_ = some r) : y1z (.vP t at_) r := y6s (.vP t at_) r h
theorem v2m (t : List zB) (at_ : Int) (r : zI) (h : vS t at_ = some r) : y1z (.vS t at_) r := y6s (.vS t at_) r h
def y4B : (i : jY) → z9P i → Prop
  | .vH t at_, r => Trip Tryz.prog 65 [.d (.sl (List.map zB.toD t)), (nI at_)] [] [.d (.agg [(.int .i64 r.T_.K), (.int .i64 r.T_.N), (.str r.T_.S), (.sl (List.map zE.toD r.T_.L)), (.int .i64 r.T_.From), (.int .i64 r.T_.To), (.int .i64 r.At), (.int .i64 r.E)])] []
  | .wX t at_ parts to_ o4, r => Ok (y0c (Trip Tryz.prog) [.d (.agg [(.int .i64 r.T_.K), (.int .i64 r.T_.N), (.str r.T_.S), (.sl (List.map zE.toD r.T_.L)), (.int .i64 r.T_.From), (.int .i64 r.T_.To), (.int .i64 r.At), (.int .i64 r.E)])] []) (kL Tryz.f65 5) ⟨41, [(0, .d (.sl (List.map zB.toD t))), (1, (nI at_)), (4, .ref 4 1 0), (5, .right 14 1 6 (List.map zE.toD parts)), (6, (nI to_))], [(4, 1, some (.agg (.agg [(.int .i64 o4.T_.K), (.int .i64 o4.T_.N), (.str o4.T_.S), (.sl (List.map zE.toD o4.T_.L)), (.int .i64 o4.T_.From), (.int .i64 o4.T_.To), (.int .i64 o4.At), (.int .i64 o4.E)]))), (14, 1, some (.tok 6 (List.length (List.map zE.toD parts))))], [], 0⟩
  | .z0R t at_, r => Trip Tryz.prog 78 [.d (.sl (List.map zB.toD t)), (nI at_)] [] [.d (.agg [(.int .i64 r.T_.K), (.int .i64 r.T_.N), (.str r.T_.S), (.sl (List.map zE.toD r.T_.L)), (.int .i64 r.T_.From), (.int .i64 r.T_.To), (.int .i64 r.At), (.int .i64 r.E)])] []
  | .yQ t at_ kind form parts name to_ i o4, r => Ok (y1f (Trip Tryz.prog) [.d (.agg [(.int .i64 r.T_.K), (.int .i64 r.T_.N), (.str r.T_.S), (.sl (List.map zE.toD r.T_.L)), (.int .i64 r.T_.From), (.int .i64 r.T_.To), (.int .i64 r.At), (.int .i64 r.E)])] []) (kL Tryz.f78 8) ⟨139, [(0, .d (.sl (List.map zB.toD t))), (1, (nI at_)), (4, .ref 4 1 0), (5, (nI kind)), (6, .d (.sl (List.map zN.toD form))), (7, .right 26 1 6 (List.map zE.toD parts)), (8, (nS name)), (9, (nI to_)), (10, (nI i))], [(4, 1, some (.agg (.agg [(.int .i64 o4.T_.K), (.int .i64 o4.T_.N), (.str o4.T_.S), (.sl (List.map zE.toD o4.T_.L)), (.int .i64 o4.T_.From), (.int .i64 o4.T_.To), (.int .i64 o4.At), (.int .i64 o4.E)]))), (26, 1, some (.tok 6 (List.length (List.map zE.toD parts))))], [], 0⟩
  | .z0D t at_ what, r => Trip Tryz.prog 92 [.d (.sl (List.map zB.toD t)), (nI at_), (nS what)] [] [.d (.agg [(.int .i64 r.T_.K), (.int .i64 r.T_.N), (.str r.T_.S), (.sl (List.map zE.toD r.T_.L)), (.int .i64 r.T_.From), (.int .i64 r.T_.To), (.int .i64 r.At), (.int .i64 r.E)])] []
theorem v0D : ∀ i r, z1S z1m i = some r → y4B i r := by
  refine wM z4I fun g ih i => ?_
  cases i with
  | vH t at_ =>
    have ih_ref08Block_L5 := fun t at_ parts to_ o4 r h => ih (.wX t at_ parts to_ o4) r h
    intro r h
    replace h : z3H (fun t at_ parts to_ o4 => g (jY.wX t at_ parts to_ o4)) t at_ = some r := h
    unfold z3H at h
    refine zW 1000 (by kernel_rfl) (by kernel_rfl) (by kernel_rfl) (by kernel_rfl) (by kernel_rfl) (y9W _ _ _ _ t at_) ?_
    obtain ⟨q1, g, h⟩ := zC h
    refine ⟨_, ⟨_, yN _ _ _ _ g⟩, ?_⟩
    refine zU Iff.rfl h (fun _ h => ?_) (fun _ h => ?_)
    ·
      rintro _ rfl
      exact ih_ref08Block_L5 _ _ _ _ _ _ h
    obtain ⟨q2, g, h⟩ := zC h
    refine ⟨_, _, _, _, _, _, _, _, ⟨_, vR _ _ g⟩, ?_⟩
    cases h; exact ⟨rfl, rfl⟩
  | wX t at_ parts to_ o4 =>
    have ih_ref08Block_L5 := fun t at_ parts to_ o4 r h => ih (.wX t at_ parts to_ o4) r h
    have ih_ref08Stmt := fun t at_ r h => ih (.z0R t at_) r h
    intro r h
    replace h : z1B (fun t at_ parts to_ o4 => g (jY.wX t at_ parts to_ o4)) (fun t at_ => g (jY.z0R t at_)) t at_ parts to_ o4 = some r := h
    unfold z1B at h
    refine z4a 1000 (y5L _ _ _ _ t at_ parts to_ o4) ?_
    obtain ⟨q1, g, h⟩ := zC h
    refine ⟨_, ⟨_, yN _ _ _ _ g⟩, ?_⟩
    refine zU Iff.rfl h (fun _ h => ?_) (fun _ h => ?_)
    ·
      rintro _ rfl
      obtain ⟨q3, g, h⟩ := zC h
      refine ⟨_, _, _, _, _, _, _, _, ⟨_, yV _ _ _ _ _ _ _ _ g⟩, ?_⟩
      cases h; exact ⟨rfl, rfl⟩
    obtain ⟨q2, g, h⟩ := zC h
    refine ⟨_, _, _, _, _, _, _, _, ⟨_, ih_ref08Stmt _ _ _ g⟩, ?_⟩
    rintro _ rfl
    refine zU beq_iff_eq h (fun _ h => ?_) (fun _ h => ?_)
    ·
      refine ⟨by simp [wB, D.cells], ?_⟩
      refine ⟨by first | rfl | decide | simp only [List.length_map, List.length_cons, List.length_nil, List.map_append, List.length_append], ?_⟩
      obtain ⟨hP, h⟩ := jZ h
      refine ⟨by first | exact hP | simpa using hP, ?_⟩
      refine z2g (e' := List.map zE.toD (parts ++ [q2.T_])) (by first | rfl | simp only [List.map_append, List.map_cons, List.map_nil, List.map_take, List.map_drop, List.map_set, List.map_replicate, List.length_map, zE.toD_eq]) ?_
      exact ih_ref08Block_L5 _ _ _ _ _ _ h
    cases h; exact ⟨rfl, rfl⟩
  | z0R t at_ =>
    have ih_ref08Block := fun t at_ r h => ih (.vH t at_) r h
    have ih_ref08Stmt_L8 := fun t at_ kind form parts name to_ i o4 r h => ih (.yQ t at_ kind form parts name to_ i o4) r h
    intro r h
    replace h : z4t (fun t at_ => g (jY.vH t at_)) (fun t at_ kind form parts name to_ i o4 => g (jY.yQ t at_ kind form parts name to_ i o4)) t at_ = some r := h
    unfold z4t at h
    refine zW 1000 (by kernel_rfl) (by kernel_rfl) (by kernel_rfl) (by kernel_rfl) (by kernel_rfl) (v2s _ _ _ _ t at_) ?_
    obtain ⟨q1, g, h⟩ := zC h
    refine ⟨_, ⟨_, yN _ _ _ _ g⟩, ?_⟩
    refine zD Iff.rfl h (fun _ h => ?_) (fun _ h => ?_)
    ·
      obtain ⟨q2, g, h⟩ := zC h
      refine ⟨_, _, _, _, _, _, _, _, ⟨_, ih_ref08Block _ _ _ g⟩, ?_⟩
      cases h; exact ⟨rfl, rfl⟩
    obtain ⟨q3, g, h⟩ := zC h
    refine ⟨_, _, ⟨_, v1T _ _ _ g⟩, ?_⟩
    exact ih_ref08Stmt_L8 _ _ _ _ _ _ _ _ _ _ h
  | yQ t at_ kind form parts name to_ i o4 =>
    have ih_ref08Stmt_L8 := fun t at_ kind form parts name to_ i o4 r h => ih (.yQ t at_ kind form parts name to_ i o4) r h
    have ih_ref08Part := fun t at_ what r h => ih (.z0D t at_ what) r h
    intro r h
    replace h : z0B (fun t at_ kind form parts name to_ i o4 => g (jY.yQ t at_ kind form parts name to_ i o4)) (fun t at_ what => g (jY.z0D t at_ what)) t at_ kind form parts name to_ i o4 = some r := h
    unfold z0B at h
    refine z4a 1000 (y7w _ _ _ _ t at_ kind form parts name to_ i o4) ?_
    refine z2g (e' := (List.length form : Int)) (by first | rfl | rw [List.length_map]) ?_
    rintro _ rfl
    refine zD decide_eq_true_iff h (fun _ h => ?_) (fun _ h => ?_)
    ·
      obtain ⟨x, hx, h⟩ := zC h
      refine ⟨gN (l := form) (zN.sz), z4f hx, x.What, x.S, z1Y (zN.toD_eq x) hx, ?_⟩
      rintro _ rfl
      refine zD beq_iff_eq h (fun hc366 h => ?_) (fun hc366 h => ?_)
      ·
        rintro _ rfl
        refine jK beq_iff_eq hc366 ?_
        obtain ⟨x1, hx, h⟩ := zC h
        refine ⟨gN (l := form) (zN.sz), z4f hx, x1.What, x1.S, z1Y (zN.toD_eq x1) hx, ?_⟩
        obtain ⟨q1, g, h⟩ := zC h
        refine ⟨_, ⟨_, wU _ _ _ _ g⟩, ?_⟩
        refine zU Iff.rfl h (fun _ h => ?_) (fun _ h => ?_)
        ·
          rintro _ rfl
          refine y1y beq_iff_eq (fun e => absurd (hc366.symm.trans e) (by decide)) ?_
          rintro _ rfl
          rintro _ rfl
          exact ih_ref08Stmt_L8 _ _ _ _ _ _ _ _ _ _ h
        obtain ⟨q2, g, h⟩ := zC h
        refine ⟨_, _, _, _, _, _, _, _, ⟨_, vR _ _ g⟩, ?_⟩
        cases h; exact ⟨rfl, rfl⟩
      rintro _ rfl
      refine zD beq_iff_eq h (fun hc368 h => ?_) (fun hc368 h => ?_)
      ·
        rintro _ rfl
        refine y1y beq_iff_eq hc366 ?_
        rintro _ rfl
        refine jK beq_iff_eq hc368 ?_
        obtain ⟨x6, hx, h⟩ := zC h
        refine ⟨gN (l := form) (zN.sz), z4f hx, x6.What, x6.S, z1Y (zN.toD_eq x6) hx, ?_⟩
        obtain ⟨q11, g, h⟩ := zC h
        refine ⟨_, ⟨_, yN _ _ _ _ g⟩, ?_⟩
        refine zU Iff.rfl h (fun _ h => ?_) (fun _ h => ?_)
        ·
          rintro _ rfl
          rintro _ rfl
          exact ih_ref08Stmt_L8 _ _ _ _ _ _ _ _ _ _ h
        obtain ⟨q12, g, h⟩ := zC h
        refine ⟨_, _, _, _, _, _, _, _, ⟨_, vR _ _ g⟩, ?_⟩
        cases h; exact ⟨rfl, rfl⟩
      rintro _ rfl
      refine zD beq_iff_eq h (fun _ h => ?_) (fun _ h => ?_)
      ·
        obtain ⟨q13, g, h⟩ := zC h
        refine ⟨_, _, _, _, _, ⟨_, jT _ _ _ g⟩, ?_⟩
        rintro _ rfl
        refine zU beq_iff_eq h (fun _ h => ?_) (fun _ h => ?_)
        ·
          obtain ⟨x7, hx, h⟩ := zC h
          refine ⟨gN (l := t) (zB.sz), z4f hx, x7.K, x7.N, x7.S, x7.From, x7.To, z1Y (zB.toD_eq x7) hx, ?_⟩
          rintro _ rfl
          rintro _ rfl
          exact ih_ref08Stmt_L8 _ _ _ _ _ _ _ _ _ _ h
        obtain ⟨q14, g, h⟩ := zC h
        refine ⟨_, _, _, _, _, _, _, _, ⟨_, vR _ _ g⟩, ?_⟩
        cases h; exact ⟨rfl, rfl⟩
      rintro _ rfl
      refine zD beq_iff_eq h (fun hc372 h => ?_) (fun hc372 h => ?_)
      ·
        obtain ⟨q15, g, h⟩ := zC h
        refine ⟨_, ⟨_, wU _ _ _ _ g⟩, ?_⟩
        refine zU Iff.rfl h (fun _ h => ?_) (fun _ h => ?_)
        ·
          rintro _ rfl
          refine jK beq_iff_eq hc372 ?_
          rintro _ rfl
          obtain ⟨q16, g, h⟩ := zC h
          refine ⟨_, _, _, _, _, _, _, _, ⟨_, ih_ref08Part _ _ _ _ g⟩, ?_⟩
          rintro _ rfl
          refine zU beq_iff_eq h (fun _ h => ?_) (fun _ h => ?_)
          ·
            refine ⟨by simp [wB, D.cells], ?_⟩
            refine ⟨by first | rfl | decide | simp only [List.length_map, List.length_cons, List.length_nil, List.map_append, List.length_append], ?_⟩
            obtain ⟨hP, h⟩ := jZ h
            refine ⟨by first | exact hP | simpa using hP, ?_⟩
            refine z2g (e' := List.map zE.toD (parts ++ [q16.T_])) (by first | rfl | simp only [List.map_append, List.map_cons, List.map_nil, List.map_take, List.map_drop, List.map_set, List.map_replicate, List.length_map, zE.toD_eq]) ?_
            rintro _ rfl
            exact ih_ref08Stmt_L8 _ _ _ _ _ _ _ _ _ _ h
          cases h; exact ⟨rfl, rfl⟩
        rintro _ rfl
        obtain ⟨x8, hx, h⟩ := zC h
        refine ⟨gN (l := t) (zB.sz), z4f hx, x8.K, x8.N, x8.S, x8.From, x8.To, z1Y (zB.toD_eq x8) hx, ?_⟩
        refine ⟨by simp [wB, D.cells], ?_⟩
        refine ⟨by first | rfl | decide | simp only [List.length_map, List.length_cons, List.length_nil, List.map_append, List.length_append], ?_⟩
        obtain ⟨hP, h⟩ := jZ h
        refine ⟨by first | exact hP | simpa using hP, ?_⟩
        refine z2g (e' := List.map zE.toD (parts ++ [(zE.mk 29 0 [] [] x8.To x8.To)])) (by first | rfl | simp only [List.map_append, List.map_cons, List.map_nil, List.map_take, List.map_drop, List.map_set, List.map_replicate, List.length_map, zE.toD_eq]) ?_
        rintro _ rfl
        exact ih_ref08Stmt_L8 _ _ _ _ _ _ _ _ _ _ h
      rintro _ rfl
      refine y1y beq_iff_eq hc372 ?_
      obtain ⟨q19, g, h⟩ := zC h
      refine ⟨_, _, _, _, _, _, _, _, ⟨_, ih_ref08Part _ _ _ _ g⟩, ?_⟩
      rintro _ rfl
      refine zU beq_iff_eq h (fun _ h => ?_) (fun _ h => ?_)
      ·
        refine ⟨by simp [wB, D.cells], ?_⟩
        refine ⟨by first | rfl | decide | simp only [List.length_map, List.length_cons, List.length_nil, List.map_append, List.length_append], ?_⟩
        obtain ⟨hP, h⟩ := jZ h
        refine ⟨by first | exact hP | simpa using hP, ?_⟩
        refine z2g (e' := List.map zE.toD (parts ++ [q19.T_])) (by first | rfl | simp only [List.map_append, List.map_cons, List.map_nil, List.map_take, List.map_drop, List.map_set, List.map_replicate, List.length_map, zE.toD_eq]) ?_
        rintro _ rfl
        exact ih_ref08Stmt_L8 _ _ _ _ _ _ _ _ _ _ h
      cases h; exact ⟨rfl, rfl⟩
    obtain ⟨q20, g, h⟩ := zC h
    refine ⟨_, _, _, _, _, _, _, _, ⟨_, yV _ _ _ _ _ _ _ _ g⟩, ?_⟩
    cases h; exact ⟨rfl, rfl⟩
  | z0D t at_ what =>
    have ih_ref08Block := fun t at_ r h => ih (.vH t at_) r h
    intro r h
    replace h : z3w (fun t at_ => g (jY.vH t at_)) t at_ what = some r := h
    unfold z3w at h
    refine zW 1000 (by kernel_rfl) (by kernel_rfl) (by kernel_rfl) (by kernel_rfl) (by kernel_rfl) (v1O _ _ _ _ t at_ what) ?_
    rintro _ rfl
    refine zD beq_iff_eq h (fun _ h => ?_) (fun _ h => ?_)
    ·
      obtain ⟨q1, g, h⟩ := zC h
      refine ⟨_, _, _, _, _, _, _, _, ⟨_, v2m _ _ _ g⟩, ?_⟩
      cases h; exact ⟨rfl, rfl⟩
    rintro _ rfl
    refine zD beq_iff_eq h (fun _ h => ?_) (fun _ h => ?_)
    ·
      obtain ⟨q2, g, h⟩ := zC h
      refine ⟨_, _, _, _, _, _, _, _, ⟨_, z6W _ _ _ g⟩, ?_⟩
      cases h; exact ⟨rfl, rfl⟩
    obtain ⟨q3, g, h⟩ := zC h
    refine ⟨_, _, _, _, _, _, _, _, ⟨_, ih_ref08Block _ _ _ g⟩, ?_⟩
    cases h; exact ⟨rfl, rfl⟩
theorem y9p (t : List zB) (at_ : Int) (r : zI) (h : vH t at_ = some r) : y4B (.vH t at_) r := v0D (.vH t at_) r h
def z8J : (i : z4p) → z6i i → Prop
  | .wF t at_ out to_ more o4, r => Ok (z8q (Trip Tryz.prog) [.d (.agg [(.int .i64 r.T_.K), (.int .i64 r.T_.N), (.str r.T_.S), (.sl (List.map zE.toD r.T_.L)), (.int .i64 r.T_.From), (.int .i64 r.T_.To), (.int .i64 r.At), (.int .i64 r.E)])] []) (kL Tryz.f64 7) ⟨55, [(0, .d (.sl (List.map zB.toD t))), (1, (nI at_)), (4, .ref 4 1 0), (5, .right 9 1 6 (List.map zE.toD out)), (6, (nI to_)), (7, (nB more))], [(4, 1, some (.agg (.agg [(.int .i64 o4.T_.K), (.int .i64 o4.T_.N), (.str o4.T_.S), (.sl (List.map zE.toD o4.T_.L)), (.int .i64 o4.T_.From), (.int .i64 o4.T_.To), (.int .i64 o4.At), (.int .i64 o4.E)]))), (9, 1, some (.tok 6 (List.length (List.map zE.toD out))))], [], 0⟩
theorem y4Q : ∀ i r, z1S z4l i = some r → z8J i r := by
  refine wM z8P fun g ih i => ?_
  cases i with
  | wF t at_ out to_ more o4 =>
    have ih_ref09Params_L7 := fun t at_ out to_ more o4 r h => ih (.wF t at_ out to_ more o4) r h
    intro r h
    replace h : z1j (fun t at_ out to_ more o4 => g (z4p.wF t at_ out to_ more o4)) t at_ out to_ more o4 = some r := h
    unfold z1j at h
    refine z4a 1000 (y5q _ _ _ _ t at_ out to_ more o4) ?_
    refine zD Iff.rfl h (fun _ h => ?_) (fun _ h => ?_)
    ·
      obtain ⟨q1, g, h⟩ := zC h
      refine ⟨_, _, _, _, _, _, _, _, ⟨_, y1p _ _ _ g⟩, ?_⟩
      rintro _ rfl
      refine zU beq_iff_eq h (fun _ h => ?_) (fun _ h => ?_)
      ·
        refine ⟨by simp [wB, D.cells], ?_⟩
        refine ⟨by first | rfl | decide | simp only [List.length_map, List.length_cons, List.length_nil, List.map_append, List.length_append], ?_⟩
        obtain ⟨hP, h⟩ := jZ h
        refine ⟨by first | exact hP | simpa using hP, ?_⟩
        refine z2g (e' := List.map zE.toD (out ++ [q1.T_])) (by first | rfl | simp only [List.map_append, List.map_cons, List.map_nil, List.map_take, List.map_drop, List.map_set, List.map_replicate, List.length_map, zE.toD_eq]) ?_
        obtain ⟨q2, g, h⟩ := zC h
        refine ⟨_, ⟨_, yN _ _ _ _ g⟩, ?_⟩
        refine zD Iff.rfl h (fun _ h => ?_) (fun _ h => ?_)
        ·
          rintro _ rfl
          exact ih_ref09Params_L7 _ _ _ _ _ _ _ h
        exact ih_ref09Params_L7 _ _ _ _ _ _ _ h
      cases h; exact ⟨rfl, rfl⟩
    obtain ⟨q3, g, h⟩ := zC h
    refine ⟨_, ⟨_, yN _ _ _ _ g⟩, ?_⟩
    refine zU Iff.rfl h (fun _ h => ?_) (fun _ h => ?_)
    ·
      rintro _ rfl
      obtain ⟨q5, g, h⟩ := zC h
      refine ⟨_, _, _, _, _, _, _, _, ⟨_, yV _ _ _ _ _ _ _ _ g⟩, ?_⟩
      cases h; exact ⟨rfl, rfl⟩
    obtain ⟨q4, g, h⟩ := zC h
    refine ⟨_, _, _, _, _, _, _, _, ⟨_, vR _ _ g⟩, ?_⟩
    cases h; exact ⟨rfl, rfl⟩
theorem y5u (t : List zB) (at_ : Int) (out : List zE) (to_ : Int) (more : Bool) (o4 r : zI) (h : wF t at_ out to_ more o4 = some r) : z8J (.wF t at_ out to_ more o4) r := y4Q (.wF t at_ out to_ more o4) r h
theorem y8h (t : List zB) (at_ : Int) (r : zI) (h : z6E t at_ = some r) : Trip Tryz.prog 64 [.d (.sl (List.map zB.toD t)), (nI at_)] [] [.d (.agg [(.int .i64 r.T_.K), (.int .i64 r.T_.N), (.str r.T_.S), (.sl (List.map zE.toD r.T_.L)), (.int .i64 r.T_.From), (.int .i64 r.T_.To), (.int .i64 r.At), (.int .i64 r.E)])] [] := by
  unfold z6E at h
  refine zW 1000 (by kernel_rfl) (by kernel_rfl) (by kernel_rfl) (by kernel_rfl) (by kernel_rfl) (y8j _ _ _ _ t at_) ?_
  obtain ⟨q1, g, h⟩ := zC h
  refine ⟨_, ⟨_, yN _ _ _ _ g⟩, ?_⟩
  refine zU Iff.rfl h (fun _ h => ?_) (fun _ h => ?_)
  ·
    rintro _ rfl
    obtain ⟨q3, g, h⟩ := zC h
    refine ⟨_, ⟨_, yN _ _ _ _ g⟩, ?_⟩
    refine zU Iff.rfl h (fun _ h => ?_) (fun _ h => ?_)
    ·
      rintro _ rfl
      obtain ⟨q4, g, h⟩ := zC h
      refine ⟨_, _, _, _, _, _, _, _, ⟨_, yV _ _ _ _ _ _ _ _ g⟩, ?_⟩
      cases h; exact ⟨rfl, rfl⟩
    exact y5u _ _ _ _ _ _ _ h
  obtain ⟨q2, g, h⟩ := zC h
  refine ⟨_, _, _, _, _, _, _, _, ⟨_, vR _ _ g⟩, ?_⟩
  cases h; exact ⟨rfl, rfl⟩
theorem y9Y (t : List zB) (first at_ pub : Int) (r : zI) (h : y4h t first at_ pub = some r) : Trip Tryz.prog 28 [.d (.sl (List.map zB.toD t)), (nI first), (nI at_), (nI pub)] [] [.d (.agg [(.int .i64 r.T_.K), (.int .i64 r.T_.N), (.str r.T_.S), (.sl (List.map zE.toD r.T_.L)), (.int .i64 r.T_.From), (.int .i64 r.T_.To), (.int .i64 r.At), (.int .i64 r.E)])] [] := by
  unfold y4h at h
  refine zW 1000 (by kernel_rfl) (by kernel_rfl) (by kernel_rfl) (by kernel_rfl) (by kernel_rfl) (v5f _ _ _ _ t first at_ pub) ?_
  obtain ⟨q1, g, h⟩ := zC h
  refine ⟨_, ⟨_, wU _ _ _ _ g⟩, ?_⟩
  refine zU Iff.rfl h (fun _ h => ?_) (fun _ h => ?_)
  ·
    rintro _ rfl
    obtain ⟨q3, g, h⟩ := zC h
    refine ⟨_, _, _, _, _, ⟨_, jT _ _ _ g⟩, ?_⟩
    rintro _ rfl
    refine zU beq_iff_eq h (fun _ h => ?_) (fun _ h => ?_)
    ·
      rintro _ rfl
      obtain ⟨q5, g, h⟩ := zC h
      refine ⟨_, _, _, _, _, _, _, _, ⟨_, y8h _ _ _ g⟩, ?_⟩
      rintro _ rfl
      refine zU beq_iff_eq h (fun _ h => ?_) (fun _ h => ?_)
      ·
        obtain ⟨q6, g, h⟩ := zC h
        refine ⟨_, ⟨_, yN _ _ _ _ g⟩, ?_⟩
        refine zU Iff.rfl h (fun _ h => ?_) (fun _ h => ?_)
        ·
          rintro _ rfl
          obtain ⟨q8, g, h⟩ := zC h
          refine ⟨_, _, _, _, _, _, _, _, ⟨_, z6W _ _ _ g⟩, ?_⟩
          rintro _ rfl
          refine zU beq_iff_eq h (fun _ h => ?_) (fun _ h => ?_)
          ·
            obtain ⟨q9, g, h⟩ := zC h
            refine ⟨_, _, _, _, _, _, _, _, ⟨_, y9p _ _ _ g⟩, ?_⟩
            rintro _ rfl
            refine zU beq_iff_eq h (fun _ h => ?_) (fun _ h => ?_)
            ·
              rintro _ rfl
              obtain ⟨x, hx, h⟩ := zC h
              refine ⟨gN (l := t) (zB.sz), z4f hx, x.K, x.N, x.S, x.From, x.To, z1Y (zB.toD_eq x) hx, ?_⟩
              obtain ⟨q10, g, h⟩ := zC h
              have hT := yV _ _ _ _ _ _ _ _ g
              simp only [List.map_cons, List.map_nil, zE.toD_eq] at hT
              refine ⟨_, _, _, _, _, _, _, _, ⟨_, hT⟩, ?_⟩
              cases h; exact ⟨rfl, rfl⟩
            cases h; exact ⟨rfl, rfl⟩
          cases h; exact ⟨rfl, rfl⟩
        obtain ⟨q7, g, h⟩ := zC h
        refine ⟨_, _, _, _, _, _, _, _, ⟨_, vR _ _ g⟩, ?_⟩
        cases h; exact ⟨rfl, rfl⟩
      cases h; exact ⟨rfl, rfl⟩
    rintro _ rfl
    obtain ⟨q4, g, h⟩ := zC h
    refine ⟨_, _, _, _, _, _, _, _, ⟨_, vR _ _ g⟩, ?_⟩
    cases h; exact ⟨rfl, rfl⟩
  obtain ⟨q2, g, h⟩ := zC h
  refine ⟨_, _, _, _, _, _, _, _, ⟨_, vR _ _ g⟩, ?_⟩
  cases h; exact ⟨rfl, rfl⟩
theorem y4I (t : List zB) (at_ : Int) (r : zI) (h : z4H t at_ = some r) : Trip Tryz.prog 27 [.d (.sl (List.map zB.toD t)), (nI at_)] [] [.d (.agg [(.int .i64 r.T_.K), (.int .i64 r.T_.N), (.str r.T_.S), (.sl (List.map zE.toD r.T_.L)), (.int .i64 r.T_.From), (.int .i64 r.T_.To), (.int .i64 r.At), (.int .i64 r.E)])] [] := by
  unfold z4H at h
  refine zW 1000 (by kernel_rfl) (by kernel_rfl) (by kernel_rfl) (by kernel_rfl) (by kernel_rfl) (v0y _ _ _ _ t at_) ?_
  rintro _ rfl
  obtain ⟨q1, g, h⟩ := zC h
  refine ⟨_, _, _, _, _, ⟨_, jT _ _ _ g⟩, ?_⟩
  rintro _ rfl
  refine zU beq_iff_eq h (fun _ h => ?_) (fun _ h => ?_)
  ·
    obtain ⟨q3, g, h⟩ := zC h
    refine ⟨_, ⟨_, wU _ _ _ _ g⟩, ?_⟩
    refine zD Iff.rfl h (fun _ h => ?_) (fun _ h => ?_)
    ·
      rintro _ rfl
      obtain ⟨q4, g, h⟩ := zC h
      refine ⟨_, ⟨_, yN _ _ _ _ g⟩, ?_⟩
      refine zU Iff.rfl h (fun _ h => ?_) (fun _ h => ?_)
      ·
        rintro _ rfl
        refine zD beq_iff_eq h (fun _ h => ?_) (fun _ h => ?_)
        ·
          rintro _ rfl
          obtain ⟨q6, g, h⟩ := zC h
          refine ⟨_, _, _, _, _, _, _, _, ⟨_, z6W _ _ _ g⟩, ?_⟩
          rintro _ rfl
          refine zU beq_iff_eq h (fun _ h => ?_) (fun _ h => ?_)
          ·
            obtain ⟨q7, g, h⟩ := zC h
            refine ⟨_, ⟨_, yN _ _ _ _ g⟩, ?_⟩
            refine zU Iff.rfl h (fun _ h => ?_) (fun _ h => ?_)
            ·
              rintro _ rfl
              rintro _ rfl
              obtain ⟨x, hx, h⟩ := zC h
              refine ⟨gN (l := t) (zB.sz), z4f hx, x.K, x.N, x.S, x.From, x.To, z1Y (zB.toD_eq x) hx, ?_⟩
              obtain ⟨q9, g, h⟩ := zC h
              have hT := yV _ _ _ _ _ _ _ _ g
              simp only [List.map_cons, List.map_nil, zE.toD_eq] at hT
              refine ⟨_, _, _, _, _, _, _, _, ⟨_, hT⟩, ?_⟩
              cases h; exact ⟨rfl, rfl⟩
            obtain ⟨q8, g, h⟩ := zC h
            refine ⟨_, _, _, _, _, _, _, _, ⟨_, vR _ _ g⟩, ?_⟩
            cases h; exact ⟨rfl, rfl⟩
          cases h; exact ⟨rfl, rfl⟩
        rintro _ rfl
        obtain ⟨q10, g, h⟩ := zC h
        refine ⟨_, _, _, _, _, ⟨_, jT _ _ _ g⟩, ?_⟩
        rintro _ rfl
        refine zD beq_iff_eq h (fun _ h => ?_) (fun _ h => ?_)
        ·
          rintro _ rfl
          obtain ⟨q11, g, h⟩ := zC h
          refine ⟨_, _, _, _, _, _, _, _, ⟨_, z5K _ _ _ g⟩, ?_⟩
          rintro _ rfl
          refine zU beq_iff_eq h (fun _ h => ?_) (fun _ h => ?_)
          ·
            obtain ⟨q12, g, h⟩ := zC h
            refine ⟨_, ⟨_, yN _ _ _ _ g⟩, ?_⟩
            refine zU Iff.rfl h (fun _ h => ?_) (fun _ h => ?_)
            ·
              rintro _ rfl
              rintro _ rfl
              obtain ⟨x1, hx, h⟩ := zC h
              refine ⟨gN (l := t) (zB.sz), z4f hx, x1.K, x1.N, x1.S, x1.From, x1.To, z1Y (zB.toD_eq x1) hx, ?_⟩
              obtain ⟨q14, g, h⟩ := zC h
              have hT := yV _ _ _ _ _ _ _ _ g
              simp only [List.map_cons, List.map_nil, zE.toD_eq] at hT
              refine ⟨_, _, _, _, _, _, _, _, ⟨_, hT⟩, ?_⟩
              cases h; exact ⟨rfl, rfl⟩
            obtain ⟨q13, g, h⟩ := zC h
            refine ⟨_, _, _, _, _, _, _, _, ⟨_, vR _ _ g⟩, ?_⟩
            cases h; exact ⟨rfl, rfl⟩
          cases h; exact ⟨rfl, rfl⟩
        rintro _ rfl
        obtain ⟨q15, g, h⟩ := zC h
        refine ⟨_, ⟨_, wU _ _ _ _ g⟩, ?_⟩
        refine zD Iff.rfl h (fun _ h => ?_) (fun _ h => ?_)
        ·
          rintro _ rfl
          obtain ⟨q16, g, h⟩ := zC h
          refine ⟨_, _, _, _, _, _, _, _, ⟨_, z5K _ _ _ g⟩, ?_⟩
          rintro _ rfl
          refine zU beq_iff_eq h (fun _ h => ?_) (fun _ h => ?_)
          ·
            obtain ⟨q17, g, h⟩ := zC h
            refine ⟨_, ⟨_, yN _ _ _ _ g⟩, ?_⟩
            refine zU Iff.rfl h (fun _ h => ?_) (fun _ h => ?_)
            ·
              rintro _ rfl
              rintro _ rfl
              obtain ⟨x2, hx, h⟩ := zC h
              refine ⟨gN (l := t) (zB.sz), z4f hx, x2.K, x2.N, x2.S, x2.From, x2.To, z1Y (zB.toD_eq x2) hx, ?_⟩
              obtain ⟨q19, g, h⟩ := zC h
              have hT := yV _ _ _ _ _ _ _ _ g
              simp only [List.map_cons, List.map_nil, zE.toD_eq] at hT
              refine ⟨_, _, _, _, _, _, _, _, ⟨_, hT⟩, ?_⟩
              cases h; exact ⟨rfl, rfl⟩
            obtain ⟨q18, g, h⟩ := zC h
            refine ⟨_, _, _, _, _, _, _, _, ⟨_, vR _ _ g⟩, ?_⟩
            cases h; exact ⟨rfl, rfl⟩
          cases h; exact ⟨rfl, rfl⟩
        rintro _ rfl
        obtain ⟨q20, g, h⟩ := zC h
        refine ⟨_, ⟨_, wU _ _ _ _ g⟩, ?_⟩
        refine zD Iff.rfl h (fun _ h => ?_) (fun _ h => ?_)
        ·
          rintro _ rfl
          obtain ⟨q21, g, h⟩ := zC h
          refine ⟨_, _, _, _, _, _, _, _, ⟨_, z5K _ _ _ g⟩, ?_⟩
          rintro _ rfl
          refine zU beq_iff_eq h (fun _ h => ?_) (fun _ h => ?_)
          ·
            obtain ⟨q22, g, h⟩ := zC h
            refine ⟨_, ⟨_, yN _ _ _ _ g⟩, ?_⟩
            refine zU Iff.rfl h (fun _ h => ?_) (fun _ h => ?_)
            ·
              rintro _ rfl
              rintro _ rfl
              obtain ⟨x3, hx, h⟩ := zC h
              refine ⟨gN (l := t) (zB.sz), z4f hx, x3.K, x3.N, x3.S, x3.From, x3.To, z1Y (zB.toD_eq x3) hx, ?_⟩
              obtain ⟨q24, g, h⟩ := zC h
              have hT := yV _ _ _ _ _ _ _ _ g
              simp only [List.map_cons, List.map_nil, zE.toD_eq] at hT
              refine ⟨_, _, _, _, _, _, _, _, ⟨_, hT⟩, ?_⟩
              cases h; exact ⟨rfl, rfl⟩
            obtain ⟨q23, g, h⟩ := zC h
            refine ⟨_, _, _, _, _, _, _, _, ⟨_, vR _ _ g⟩, ?_⟩
            cases h; exact ⟨rfl, rfl⟩
          cases h; exact ⟨rfl, rfl⟩
        rintro _ rfl
        obtain ⟨q25, g, h⟩ := zC h
        refine ⟨_, _, _, _, _, _, _, _, ⟨_, vR _ _ g⟩, ?_⟩
        rintro _ rfl
        refine zU beq_iff_eq h (fun _ h => ?_) (fun _ h => ?_)
        ·
          obtain ⟨q26, g, h⟩ := zC h
          refine ⟨_, ⟨_, yN _ _ _ _ g⟩, ?_⟩
          refine zU Iff.rfl h (fun _ h => ?_) (fun _ h => ?_)
          ·
            rintro _ rfl
            rintro _ rfl
            obtain ⟨x4, hx, h⟩ := zC h
            refine ⟨gN (l := t) (zB.sz), z4f hx, x4.K, x4.N, x4.S, x4.From, x4.To, z1Y (zB.toD_eq x4) hx, ?_⟩
            obtain ⟨q28, g, h⟩ := zC h
            have hT := yV _ _ _ _ _ _ _ _ g
            simp only [List.map_cons, List.map_nil, zE.toD_eq] at hT
            refine ⟨_, _, _, _, _, _, _, _, ⟨_, hT⟩, ?_⟩
            cases h; exact ⟨rfl, rfl⟩
          obtain ⟨q27, g, h⟩ := zC h
          refine ⟨_, _, _, _, _, _, _, _, ⟨_, vR _ _ g⟩, ?_⟩
          cases h; exact ⟨rfl, rfl⟩
        cases h; exact ⟨rfl, rfl⟩
      rintro _ rfl
      obtain ⟨q5, g, h⟩ := zC h
      refine ⟨_, _, _, _, _, _, _, _, ⟨_, vR _ _ g⟩, ?_⟩
      cases h; exact ⟨rfl, rfl⟩
    rintro _ rfl
    obtain ⟨q29, g, h⟩ := zC h
    refine ⟨_, ⟨_, yN _ _ _ _ g⟩, ?_⟩
    refine zU Iff.rfl h (fun _ h => ?_) (fun _ h => ?_)
    ·
      rintro _ rfl
      refine zD beq_iff_eq h (fun _ h => ?_) (fun _ h => ?_)
      ·
        rintro _ rfl
        obtain ⟨q31, g, h⟩ := zC h
        refine ⟨_, _, _, _, _, _, _, _, ⟨_, z6W _ _ _ g⟩, ?_⟩
        rintro _ rfl
        refine zU beq_iff_eq h (fun _ h => ?_) (fun _ h => ?_)
        ·
          obtain ⟨q32, g, h⟩ := zC h
          refine ⟨_, ⟨_, yN _ _ _ _ g⟩, ?_⟩
          refine zU Iff.rfl h (fun _ h => ?_) (fun _ h => ?_)
          ·
            rintro _ rfl
            rintro _ rfl
            obtain ⟨x5, hx, h⟩ := zC h
            refine ⟨gN (l := t) (zB.sz), z4f hx, x5.K, x5.N, x5.S, x5.From, x5.To, z1Y (zB.toD_eq x5) hx, ?_⟩
            obtain ⟨q34, g, h⟩ := zC h
            have hT := yV _ _ _ _ _ _ _ _ g
            simp only [List.map_cons, List.map_nil, zE.toD_eq] at hT
            refine ⟨_, _, _, _, _, _, _, _, ⟨_, hT⟩, ?_⟩
            cases h; exact ⟨rfl, rfl⟩
          obtain ⟨q33, g, h⟩ := zC h
          refine ⟨_, _, _, _, _, _, _, _, ⟨_, vR _ _ g⟩, ?_⟩
          cases h; exact ⟨rfl, rfl⟩
        cases h; exact ⟨rfl, rfl⟩
      rintro _ rfl
      obtain ⟨q35, g, h⟩ := zC h
      refine ⟨_, _, _, _, _, ⟨_, jT _ _ _ g⟩, ?_⟩
      rintro _ rfl
      refine zD beq_iff_eq h (fun _ h => ?_) (fun _ h => ?_)
      ·
        rintro _ rfl
        obtain ⟨q36, g, h⟩ := zC h
        refine ⟨_, _, _, _, _, _, _, _, ⟨_, z5K _ _ _ g⟩, ?_⟩
        rintro _ rfl
        refine zU beq_iff_eq h (fun _ h => ?_) (fun _ h => ?_)
        ·
          obtain ⟨q37, g, h⟩ := zC h
          refine ⟨_, ⟨_, yN _ _ _ _ g⟩, ?_⟩
          refine zU Iff.rfl h (fun _ h => ?_) (fun _ h => ?_)
          ·
            rintro _ rfl
            rintro _ rfl
            obtain ⟨x6, hx, h⟩ := zC h
            refine ⟨gN (l := t) (zB.sz), z4f hx, x6.K, x6.N, x6.S, x6.From, x6.To, z1Y (zB.toD_eq x6) hx, ?_⟩
            obtain ⟨q39, g, h⟩ := zC h
            have hT := yV _ _ _ _ _ _ _ _ g
            simp only [List.map_cons, List.map_nil, zE.toD_eq] at hT
            refine ⟨_, _, _, _, _, _, _, _, ⟨_, hT⟩, ?_⟩
            cases h; exact ⟨rfl, rfl⟩
          obtain ⟨q38, g, h⟩ := zC h
          refine ⟨_, _, _, _, _, _, _, _, ⟨_, vR _ _ g⟩, ?_⟩
          cases h; exact ⟨rfl, rfl⟩
        cases h; exact ⟨rfl, rfl⟩
      rintro _ rfl
      obtain ⟨q40, g, h⟩ := zC h
      refine ⟨_, ⟨_, wU _ _ _ _ g⟩, ?_⟩
      refine zD Iff.rfl h (fun _ h => ?_) (fun _ h => ?_)
      ·
        rintro _ rfl
        obtain ⟨q41, g, h⟩ := zC h
        refine ⟨_, _, _, _, _, _, _, _, ⟨_, z5K _ _ _ g⟩, ?_⟩
        rintro _ rfl
        refine zU beq_iff_eq h (fun _ h => ?_) (fun _ h => ?_)
        ·
          obtain ⟨q42, g, h⟩ := zC h
          refine ⟨_, ⟨_, yN _ _ _ _ g⟩, ?_⟩
          refine zU Iff.rfl h (fun _ h => ?_) (fun _ h => ?_)
          ·
            rintro _ rfl
            rintro _ rfl
            obtain ⟨x7, hx, h⟩ := zC h
            refine ⟨gN (l := t) (zB.sz), z4f hx, x7.K, x7.N, x7.S, x7.From, x7.To, z1Y (zB.toD_eq x7) hx, ?_⟩
            obtain ⟨q44, g, h⟩ := zC h
            have hT := yV _ _ _ _ _ _ _ _ g
            simp only [List.map_cons, List.map_nil, zE.toD_eq] at hT
            refine ⟨_, _, _, _, _, _, _, _, ⟨_, hT⟩, ?_⟩
            cases h; exact ⟨rfl, rfl⟩
          obtain ⟨q43, g, h⟩ := zC h
          refine ⟨_, _, _, _, _, _, _, _, ⟨_, vR _ _ g⟩, ?_⟩
          cases h; exact ⟨rfl, rfl⟩
        cases h; exact ⟨rfl, rfl⟩
      rintro _ rfl
      obtain ⟨q45, g, h⟩ := zC h
      refine ⟨_, ⟨_, wU _ _ _ _ g⟩, ?_⟩
      refine zD Iff.rfl h (fun _ h => ?_) (fun _ h => ?_)
      ·
        rintro _ rfl
        obtain ⟨q46, g, h⟩ := zC h
        refine ⟨_, _, _, _, _, _, _, _, ⟨_, z5K _ _ _ g⟩, ?_⟩
        rintro _ rfl
        refine zU beq_iff_eq h (fun _ h => ?_) (fun _ h => ?_)
        ·
          obtain ⟨q47, g, h⟩ := zC h
          refine ⟨_, ⟨_, yN _ _ _ _ g⟩, ?_⟩
          refine zU Iff.rfl h (fun _ h => ?_) (fun _ h => ?_)
          ·
            rintro _ rfl
            rintro _ rfl
            obtain ⟨x8, hx, h⟩ := zC h
            refine ⟨gN (l := t) (zB.sz), z4f hx, x8.K, x8.N, x8.S, x8.From, x8.To, z1Y (zB.toD_eq x8) hx, ?_⟩
            obtain ⟨q49, g, h⟩ := zC h
            have hT := yV _ _ _ _ _ _ _ _ g
            simp only [List.map_cons, List.map_nil, zE.toD_eq] at hT
            refine ⟨_, _, _, _, _, _, _, _, ⟨_, hT⟩, ?_⟩
            cases h; exact ⟨rfl, rfl⟩
          obtain ⟨q48, g, h⟩ := zC h
          refine ⟨_, _, _, _, _, _, _, _, ⟨_, vR _ _ g⟩, ?_⟩
          cases h; exact ⟨rfl, rfl⟩
        cases h; exact ⟨rfl, rfl⟩
      rintro _ rfl
      obtain ⟨q50, g, h⟩ := zC h
      refine ⟨_, _, _, _, _, _, _, _, ⟨_, vR _ _ g⟩, ?_⟩
      rintro _ rfl
      refine zU beq_iff_eq h (fun _ h => ?_) (fun _ h => ?_)
      ·
        obtain ⟨q51, g, h⟩ := zC h
        refine ⟨_, ⟨_, yN _ _ _ _ g⟩, ?_⟩
        refine zU Iff.rfl h (fun _ h => ?_) (fun _ h => ?_)
        ·
          rintro _ rfl
          rintro _ rfl
          obtain ⟨x9, hx, h⟩ := zC h
          refine ⟨gN (l := t) (zB.sz), z4f hx, x9.K, x9.N, x9.S, x9.From, x9.To, z1Y (zB.toD_eq x9) hx, ?_⟩
          obtain ⟨q53, g, h⟩ := zC h
          have hT := yV _ _ _ _ _ _ _ _ g
          simp only [List.map_cons, List.map_nil, zE.toD_eq] at hT
          refine ⟨_, _, _, _, _, _, _, _, ⟨_, hT⟩, ?_⟩
          cases h; exact ⟨rfl, rfl⟩
        obtain ⟨q52, g, h⟩ := zC h
        refine ⟨_, _, _, _, _, _, _, _, ⟨_, vR _ _ g⟩, ?_⟩
        cases h; exact ⟨rfl, rfl⟩
      cases h; exact ⟨rfl, rfl⟩
    rintro _ rfl
    obtain ⟨q30, g, h⟩ := zC h
    refine ⟨_, _, _, _, _, _, _, _, ⟨_, vR _ _ g⟩, ?_⟩
    cases h; exact ⟨rfl, rfl⟩
  rintro _ rfl
  obtain ⟨q2, g, h⟩ := zC h
  refine ⟨_, _, _, _, _, _, _, _, ⟨_, vR _ _ g⟩, ?_⟩
  cases h; exact ⟨rfl, rfl⟩
theorem v1X (t : List zB) (at_ : Int) (r : zI) (h : z9J t at_ = some r) : Trip Tryz.prog 12 [.d (.sl (List.map zB.toD t)), (nI at_)] [] [.d (.agg [(.int .i64 r.T_.K), (.int .i64 r.T_.N), (.str r.T_.S), (.sl (List.map zE.toD r.T_.L)), (.int .i64 r.T_.From), (.int .i64 r.T_.To), (.int .i64 r.At), (.int .i64 r.E)])] [] := by
  unfold z9J at h
  refine zW 1000 (by kernel_rfl) (by kernel_rfl) (by kernel_rfl) (by kernel_rfl) (by kernel_rfl) (v1S _ _ _ _ t at_) ?_
  obtain ⟨q1, g, h⟩ := zC h
  refine ⟨_, ⟨_, wU _ _ _ _ g⟩, ?_⟩
  refine zD Iff.rfl h (fun _ h => ?_) (fun _ h => ?_)
  ·
    obtain ⟨q2, g, h⟩ := zC h
    refine ⟨_, _, _, _, _, _, _, _, ⟨_, y4I _ _ _ g⟩, ?_⟩
    cases h; exact ⟨rfl, rfl⟩
  obtain ⟨q3, g, h⟩ := zC h
  refine ⟨_, ⟨_, wU _ _ _ _ g⟩, ?_⟩
  refine zD Iff.rfl h (fun _ h => ?_) (fun _ h => ?_)
  ·
    obtain ⟨q4, g, h⟩ := zC h
    refine ⟨_, _, _, _, _, _, _, _, ⟨_, y4I _ _ _ g⟩, ?_⟩
    cases h; exact ⟨rfl, rfl⟩
  obtain ⟨q5, g, h⟩ := zC h
  refine ⟨_, ⟨_, wU _ _ _ _ g⟩, ?_⟩
  refine zD Iff.rfl h (fun _ h => ?_) (fun _ h => ?_)
  ·
    rintro _ rfl
    obtain ⟨q6, g, h⟩ := zC h
    refine ⟨_, _, _, _, _, _, _, _, ⟨_, y9Y _ _ _ _ _ g⟩, ?_⟩
    cases h; exact ⟨rfl, rfl⟩
  obtain ⟨q7, g, h⟩ := zC h
  refine ⟨_, ⟨_, wU _ _ _ _ g⟩, ?_⟩
  refine zD Iff.rfl h (fun _ h => ?_) (fun _ h => ?_)
  ·
    obtain ⟨q8, g, h⟩ := zC h
    refine ⟨_, _, _, _, _, _, _, _, ⟨_, y9Y _ _ _ _ _ g⟩, ?_⟩
    cases h; exact ⟨rfl, rfl⟩
  obtain ⟨q9, g, h⟩ := zC h
  refine ⟨_, ⟨_, wU _ _ _ _ g⟩, ?_⟩
  refine zU Iff.rfl h (fun _ h => ?_) (fun _ h => ?_)
  ·
    rintro _ rfl
    obtain ⟨q11, g, h⟩ := zC h
    refine ⟨_, _, _, _, _, ⟨_, jT _ _ _ g⟩, ?_⟩
    rintro _ rfl
    refine zU beq_iff_eq h (fun _ h => ?_) (fun _ h => ?_)
    ·
      rintro _ rfl
      obtain ⟨q13, g, h⟩ := zC h
      refine ⟨_, ⟨_, yN _ _ _ _ g⟩, ?_⟩
      refine zU Iff.rfl h (fun _ h => ?_) (fun _ h => ?_)
      ·
        rintro _ rfl
        obtain ⟨q15, g, h⟩ := zC h
        refine ⟨_, _, _, ⟨_, y8r _ _ _ g⟩, ?_⟩
        rintro _ rfl
        refine zU beq_iff_eq h (fun _ h => ?_) (fun _ h => ?_)
        ·
          rintro _ rfl
          obtain ⟨x, hx, h⟩ := zC h
          refine ⟨gN (l := t) (zB.sz), z4f hx, x.K, x.N, x.S, x.From, x.To, z1Y (zB.toD_eq x) hx, ?_⟩
          obtain ⟨q16, g, h⟩ := zC h
          refine ⟨_, _, _, _, _, _, _, _, ⟨_, yV _ _ _ _ _ _ _ _ g⟩, ?_⟩
          cases h; exact ⟨rfl, rfl⟩
        cases h; exact ⟨rfl, rfl⟩
      rintro _ rfl
      obtain ⟨q14, g, h⟩ := zC h
      refine ⟨_, _, _, _, _, _, _, _, ⟨_, vR _ _ g⟩, ?_⟩
      cases h; exact ⟨rfl, rfl⟩
    rintro _ rfl
    obtain ⟨q12, g, h⟩ := zC h
    refine ⟨_, _, _, _, _, _, _, _, ⟨_, vR _ _ g⟩, ?_⟩
    cases h; exact ⟨rfl, rfl⟩
  obtain ⟨q10, g, h⟩ := zC h
  refine ⟨_, _, _, _, _, _, _, _, ⟨_, vR _ _ g⟩, ?_⟩
  cases h; exact ⟨rfl, rfl⟩
def z9C : (i : z4O) → z6Q i → Prop
  | .uC text t out i o2, r => Ok (z9S (Trip Tryz.prog) [.d (gT r.1.K r.1.N r.1.S (List.map zE.toD r.1.L) r.1.From r.1.To), (nI r.2.1), (nI r.2.2)] []) (kL Tryz.f6 6) ⟨64, [(0, (nS text)), (2, .ref 2 1 0), (5, .d (.sl (List.map zB.toD t))), (8, .right 23 1 6 (List.map zE.toD out)), (9, (nI i))], [(2, 1, some (.agg (gT o2.K o2.N o2.S (List.map zE.toD o2.L) o2.From o2.To))), (23, 1, some (.tok 6 (List.length (List.map zE.toD out))))], [], 0⟩
theorem y6g : ∀ i r, z1S z5k i = some r → z9C i r := by
  refine wM z9a fun g ih i => ?_
  cases i with
  | uC text t out i o2 =>
    have ih_ref09Parse_L6 := fun text t out i o2 r h => ih (.uC text t out i o2) r h
    intro r h
    replace h : z2Z (fun text t out i o2 => g (z4O.uC text t out i o2)) text t out i o2 = some r := h
    unfold z2Z at h
    refine z4a 1000 (y6p _ _ _ _ text t out i o2) ?_
    refine z2g (e' := (List.length t : Int)) (by first | rfl | rw [List.length_map]) ?_
    rintro _ rfl
    rintro _ rfl
    refine zD decide_eq_true_iff h (fun _ h => ?_) (fun _ h => ?_)
    ·
      obtain ⟨q1, g, h⟩ := zC h
      refine ⟨_, _, _, _, _, _, _, _, ⟨_, v1X _ _ _ g⟩, ?_⟩
      rintro _ rfl
      refine zU beq_iff_eq h (fun _ h => ?_) (fun _ h => ?_)
      ·
        refine ⟨by simp [wB, D.cells], ?_⟩
        refine ⟨by first | rfl | decide | simp only [List.length_map, List.length_cons, List.length_nil, List.map_append, List.length_append], ?_⟩
        obtain ⟨hP, h⟩ := jZ h
        refine ⟨by first | exact hP | simpa using hP, ?_⟩
        refine z2g (e' := List.map zE.toD (out ++ [q1.T_])) (by first | rfl | simp only [List.map_append, List.map_cons, List.map_nil, List.map_take, List.map_drop, List.map_set, List.map_replicate, List.length_map, zE.toD_eq]) ?_
        exact ih_ref09Parse_L6 _ _ _ _ _ _ h
      obtain ⟨x, hx, h⟩ := zC h
      refine ⟨gN (l := t) (zB.sz), z4f hx, x.K, x.N, x.S, x.From, x.To, z1Y (zB.toD_eq x) hx, ?_⟩
      cases h; exact ⟨rfl, rfl⟩
    rintro _ rfl
    refine z2g (e' := (List.length out : Int)) (by first | rfl | rw [List.length_map]) ?_
    rintro _ rfl
    refine zD decide_eq_true_iff h (fun _ h => ?_) (fun _ h => ?_)
    ·
      cases h; exact ⟨rfl, rfl⟩
    obtain ⟨q2, g, h⟩ := zC h
    refine ⟨_, ⟨_, y9s _ _ g⟩, ?_⟩
    rintro _ rfl
    refine zD decide_eq_true_iff h (fun _ h => ?_) (fun _ h => ?_)
    ·
      cases h; exact ⟨rfl, rfl⟩
    cases h; exact ⟨rfl, rfl⟩
theorem y6W (text : Str) (t : List zB) (out : List zE) (i : Int) (o2 : zE) (r : zE × Int × Int) (h : uC text t out i o2 = some r) : z9C (.uC text t out i o2) r := y6g (.uC text t out i o2) r h
theorem y9r (text : Str) (r : zE × Int × Int) (h : z8i text = some r) : Trip Tryz.prog 6 [(nS text)] [] [.d (gT r.1.K r.1.N r.1.S (List.map zE.toD r.1.L) r.1.From r.1.To), (nI r.2.1), (nI r.2.2)] [] := by
  unfold z8i at h
  refine zW 1000 (by kernel_rfl) (by kernel_rfl) (by kernel_rfl) (by kernel_rfl) (by kernel_rfl) (v0l _ _ _ _ text) ?_
  obtain ⟨q1, g, h⟩ := zC h
  refine ⟨_, _, _, ⟨_, y8T _ _ g⟩, ?_⟩
  rintro _ rfl
  refine zU beq_iff_eq h (fun _ h => ?_) (fun _ h => ?_)
  ·
    exact y6W _ _ _ _ _ _ h
  cases h; exact ⟨rfl, rfl⟩
theorem y5j (text : Str) (r : Bool) (h : z5P text = some r) : Trip Tryz.prog 3 [(nS text)] [] [(nB r)] [] := by
  unfold z5P at h
  refine zW 1000 (by kernel_rfl) (by kernel_rfl) (by kernel_rfl) (by kernel_rfl) (by kernel_rfl) (y5s _ _ _ _ text) ?_
  rintro _ rfl
  rintro _ rfl
  refine zD decide_eq_true_iff h (fun _ h => ?_) (fun _ h => ?_)
  ·
    obtain ⟨q1, g, h⟩ := zC h
    refine ⟨_, ⟨_, y4D _ g⟩, ?_⟩
    cases h; exact ⟨rfl, rfl⟩
  obtain ⟨q2, g, h⟩ := zC h
  refine ⟨_, _, _, _, _, _, _, _, ⟨_, y4u _ _ g⟩, ?_⟩
  obtain ⟨q3, g, h⟩ := zC h
  refine ⟨_, _, _, _, _, _, _, _, ⟨_, y9r _ _ g⟩, ?_⟩
  rintro _ rfl
  refine zD beq_iff_eq h (fun _ h => ?_) (fun _ h => ?_)
  ·
    rintro _ rfl
    refine zD beq_iff_eq h (fun _ h => ?_) (fun _ h => ?_)
    ·
      obtain ⟨q4, g, h⟩ := zC h
      refine ⟨_, ⟨_, y8G _ _ _ g⟩, ?_⟩
      refine zD Iff.rfl h (fun _ h => ?_) (fun _ h => ?_)
      ·
        obtain ⟨q5, g, h⟩ := zC h
        refine ⟨_, ⟨_, y4D _ g⟩, ?_⟩
        cases h; exact ⟨rfl, rfl⟩
      cases h; exact ⟨rfl, rfl⟩
    cases h; exact ⟨rfl, rfl⟩
  cases h; exact ⟨rfl, rfl⟩
end Go.Proofs.YtelddjedpmfclaaGreat.M

