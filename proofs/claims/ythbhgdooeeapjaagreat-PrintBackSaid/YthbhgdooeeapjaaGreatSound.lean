import Derived.Test.YthbhgdooeeapjaaGreatMod
import Derived.Test.YthbhgdooeeapjaaGreatEv
import Derived.Test.YthbhgdooeeapjaaGreatLay
namespace Go.Proofs.YthbhgdooeeapjaaGreat.M
open Go Nt Go.Proofs
set_option linter.unusedVariables false
set_option linter.unusedSimpArgs false
set_option linter.unnecessarySimpa false
set_option maxRecDepth 100000
def z7M : (i : z4j) → z5M i → Prop
  | .wI n i u b, r => Ok (z7X (Trip Tryz.prog) [(nS r)] []) (kL Tryz.f36 6) ⟨33, [(0, (nI n)), (3, .ref 3 1 0), (4, (nI i)), (5, .d (.int .u64 u))], [(3, 1, some (.row 1 (List.map (D.int .u8) b)))], [], 0⟩
theorem y3R : ∀ i r, z2Z z4e i = some r → z7M i r := by
  refine uR z7I fun g ih i => ?_
  cases i with
  | wI n i u b =>
    have ih_lex_Digits_L6 := fun n i u b r h => ih (.wI n i u b) r h
    intro r h
    replace h : z2q (fun n i u b => g (z4j.wI n i u b)) n i u b = some r := h
    unfold z2q at h
    refine z6V 1000 (y4v _ _ _ _ n i u b) ?_
    rintro _ rfl
    obtain ⟨hP, h⟩ := gX h
    refine ⟨by first | exact hP | simpa using hP, ?_⟩
    rintro _ rfl
    rintro _ rfl
    rintro _ rfl
    obtain ⟨hP, h⟩ := gX h
    refine ⟨by first | exact hP.1 | (simp only [List.length_map] at hP ⊢; exact hP.1), by first | exact hP.2.1 | (simp only [List.length_map] at hP ⊢; exact hP.2.1), by first | exact hP.2.2 | (simp only [List.length_map] at hP ⊢; exact hP.2.2), ?_⟩
    obtain ⟨hP, h⟩ := gX h
    refine ⟨by first | exact hP | (rw [List.length_map]; exact hP), ?_⟩
    refine z2R (e' := List.map (D.int .u8) (b.set (Int.toNat (IntKind.wrap .i64 (i - 1))) (IntKind.wrap .u8 (IntKind.wrap .u64 (48 + (Int.tmod u 10)))))) (v6B rfl) ?_
    obtain ⟨hP, h⟩ := gX h
    refine ⟨by first | exact hP | simpa using hP, ?_⟩
    rintro _ rfl
    rintro _ rfl
    refine zE beq_iff_eq h (fun _ h => ?_) (fun _ h => ?_)
    ·
      rintro _ rfl
      refine zE decide_eq_true_iff h (fun _ h => ?_) (fun _ h => ?_)
      ·
        rintro _ rfl
        obtain ⟨hP, h⟩ := gX h
        refine ⟨by first | exact hP.1 | (simp only [List.length_map] at hP ⊢; exact hP.1), by first | exact hP.2.1 | (simp only [List.length_map] at hP ⊢; exact hP.2.1), by first | exact hP.2.2 | (simp only [List.length_map] at hP ⊢; exact hP.2.2), ?_⟩
        obtain ⟨hP, h⟩ := gX h
        refine ⟨by first | exact hP | (rw [List.length_map]; exact hP), ?_⟩
        refine z2R (e' := List.map (D.int .u8) ((b.set (IntKind.wrap .i64 (i - 1)).toNat (IntKind.wrap .u8 (IntKind.wrap .u64 (48 + (Int.tmod u 10))))).set (Int.toNat (IntKind.wrap .i64 ((IntKind.wrap .i64 (i - 1)) - 1))) 45)) (v6B rfl) ?_
        obtain ⟨hP, h⟩ := gX h
        refine ⟨by first | exact hP | simpa using hP, ?_⟩
        obtain ⟨hP, h⟩ := gX h
        refine ⟨by first | exact hP | simpa using hP, ?_⟩
        obtain ⟨hP, h⟩ := gX h
        refine ⟨by first | exact hP | simpa using hP, ?_⟩
        refine z2R (e' := List.map (D.int .u8) (List.drop (Int.toNat (IntKind.wrap .i64 ((IntKind.wrap .i64 (i - 1)) - 1))) ((b.set (IntKind.wrap .i64 (i - 1)).toNat (IntKind.wrap .u8 (IntKind.wrap .u64 (48 + (Int.tmod u 10))))).set (IntKind.wrap .i64 ((IntKind.wrap .i64 (i - 1)) - 1)).toNat 45))) (by first | rfl | simp only [List.map_append, List.map_cons, List.map_nil, List.map_take, List.map_drop, List.map_set, List.map_replicate, List.length_map]) ?_
        obtain ⟨s, hx, h⟩ := zC h
        refine ⟨s, y9g hx, ?_⟩
        cases h; exact ⟨rfl, rfl⟩
      obtain ⟨hP, h⟩ := gX h
      refine ⟨by first | exact hP | simpa using hP, ?_⟩
      obtain ⟨hP, h⟩ := gX h
      refine ⟨by first | exact hP | simpa using hP, ?_⟩
      obtain ⟨hP, h⟩ := gX h
      refine ⟨by first | exact hP | simpa using hP, ?_⟩
      refine z2R (e' := List.map (D.int .u8) (List.drop (Int.toNat (IntKind.wrap .i64 (i - 1))) (b.set (IntKind.wrap .i64 (i - 1)).toNat (IntKind.wrap .u8 (IntKind.wrap .u64 (48 + (Int.tmod u 10))))))) (by first | rfl | simp only [List.map_append, List.map_cons, List.map_nil, List.map_take, List.map_drop, List.map_set, List.map_replicate, List.length_map]) ?_
      obtain ⟨s1, hx, h⟩ := zC h
      refine ⟨s1, y9g hx, ?_⟩
      cases h; exact ⟨rfl, rfl⟩
    exact ih_lex_Digits_L6 _ _ _ _ _ h
theorem z7P (n i u : Int) (b : List Int) (r : Str) (h : wI n i u b = some r) : z7M (.wI n i u b) r := y3R (.wI n i u b) r h
theorem y2Z (n : Int) (r : Str) (h : z5H n = some r) : Trip Tryz.prog 36 [(nI n)] [] [(nS r)] [] := by
  unfold z5H at h
  refine yE 1000 (by kernel_rfl) (by kernel_rfl) (by kernel_rfl) (by kernel_rfl) (by kernel_rfl) (y7z _ _ _ _ n) ?_
  rintro _ rfl
  rintro _ rfl
  refine zE decide_eq_true_iff h (fun _ h => ?_) (fun _ h => ?_)
  ·
    rintro _ rfl
    exact z7P _ _ _ _ _ h
  exact z7P _ _ _ _ _ h
theorem yZ (t : zD) (i : Int) (r : zD) (h : yL t i = some r) : Trip Tryz.prog 31 [.d (gT t.K t.N t.S (List.map zD.toD t.L) t.From t.To), (nI i)] [] [.d (gT r.K r.N r.S (List.map zD.toD r.L) r.From r.To)] [] := by
  unfold yL at h
  refine yE 1000 (by kernel_rfl) (by kernel_rfl) (by kernel_rfl) (by kernel_rfl) (by kernel_rfl) (y7E _ _ _ _ t i) ?_
  refine z2R (e' := (List.length t.L : Int)) (by first | rfl | rw [List.length_map]) ?_
  rintro _ rfl
  refine zE decide_eq_true_iff h (fun _ h => ?_) (fun _ h => ?_)
  ·
    obtain ⟨x, hx, h⟩ := zC h
    refine ⟨z2a (l := t.L) (zD.sz), z9B hx, x.K, x.N, x.S, List.map zD.toD x.L, x.From, x.To, z6a (zD.toD_eq x) hx, ?_⟩
    cases h; exact ⟨rfl, rfl⟩
  cases h; exact ⟨rfl, rfl⟩
theorem zI (words out r : List Str) (h : zK words out = some r) : Trip Tryz.prog 28 [.hp 0 0, .d (.sl (List.map D.str words))] [[.own 1 (List.map D.str out)]] [] [[.own 1 (List.map D.str r)]] := by
  unfold zK at h
  refine yE 1000 (by kernel_rfl) (by kernel_rfl) (by kernel_rfl) (by kernel_rfl) (by kernel_rfl) (y1B _ _ _ _ words out) ?_
  refine ⟨z2a (l := words) (fun _ => rfl), ?_⟩
  refine ⟨by first | rfl | decide | simp only [List.length_map, List.length_cons, List.length_nil, List.map_append, List.length_append], ?_⟩
  obtain ⟨hP, h⟩ := gX h
  refine ⟨by first | exact hP | simpa using hP, ?_⟩
  refine z2R (e' := List.map D.str (out ++ words)) (by first | rfl | simp only [List.map_append, List.map_cons, List.map_nil, List.map_take, List.map_drop, List.map_set, List.map_replicate, List.length_map]) ?_
  refine ⟨by first | rfl | decide | simp only [List.length_map, List.length_cons, List.length_nil, List.map_append, List.length_append], ?_⟩
  cases h; exact ⟨rfl, rfl⟩
def z5K : (i : I_print_writer_kind) → z3K i → Prop
  | .print_writer_kind t out, r => Trip Tryz.prog 17 [.hp 0 0, .d (gT t.K t.N t.S (List.map zD.toD t.L) t.From t.To)] [[.own 1 (List.map D.str out)]] [] [[.own 1 (List.map D.str r)]]
theorem z9E : ∀ i r, z2Z z2y i = some r → z5K i r := by
  refine uR z5I fun g ih i => ?_
  cases i with
  | print_writer_kind t out =>
    have ih_print_writer_kind := fun t out r h => ih (.print_writer_kind t out) r h
    intro r h
    replace h : uS (fun t out => g (I_print_writer_kind.print_writer_kind t out)) t out = some r := h
    unfold uS at h
    refine yE 1000 (by kernel_rfl) (by kernel_rfl) (by kernel_rfl) (by kernel_rfl) (by kernel_rfl) (y0j _ _ _ _ t out) ?_
    rintro _ rfl
    refine zE beq_iff_eq h (fun _ h => ?_) (fun _ h => ?_)
    ·
      obtain ⟨q1, g, h⟩ := zC h
      refine ⟨_, zI _ _ _ g, ?_⟩
      cases h; exact ⟨rfl, rfl⟩
    rintro _ rfl
    refine zE beq_iff_eq h (fun _ h => ?_) (fun _ h => ?_)
    ·
      obtain ⟨q2, g, h⟩ := zC h
      refine ⟨_, zI _ _ _ g, ?_⟩
      cases h; exact ⟨rfl, rfl⟩
    rintro _ rfl
    refine zE beq_iff_eq h (fun _ h => ?_) (fun _ h => ?_)
    ·
      obtain ⟨q3, g, h⟩ := zC h
      refine ⟨_, ⟨_, y2Z _ _ g⟩, ?_⟩
      obtain ⟨q4, g, h⟩ := zC h
      refine ⟨_, zI _ _ _ g, ?_⟩
      obtain ⟨q5, g, h⟩ := zC h
      refine ⟨_, _, _, _, _, _, ⟨_, yZ _ _ _ g⟩, ?_⟩
      obtain ⟨q6, g, h⟩ := zC h
      refine ⟨_, ih_print_writer_kind _ _ _ g, ?_⟩
      cases h; exact ⟨rfl, rfl⟩
    rintro _ rfl
    refine zE beq_iff_eq h (fun _ h => ?_) (fun _ h => ?_)
    ·
      obtain ⟨q7, g, h⟩ := zC h
      refine ⟨_, zI _ _ _ g, ?_⟩
      cases h; exact ⟨rfl, rfl⟩
    cases h; exact ⟨rfl, rfl⟩
theorem z2z (t : zD) (out r : List Str) (h : print_writer_kind t out = some r) : z5K (.print_writer_kind t out) r := z9E (.print_writer_kind t out) r h
theorem y5x (elems : List Str) (sep r : Str) (h : strings_Join elems sep = some r) : Trip Tryz.prog 35 [.d (.sl (List.map D.str elems)), (nS sep)] [] [(nS r)] [] := by
  unfold strings_Join at h
  obtain ⟨h0, h⟩ := gX h
  cases h
  exact v1w v6N v6D elems sep [] h0.1 h0.2
theorem z5P (out : List Str) (r : Str) (h : z1z out = some r) : Trip Tryz.prog 14 [.hp 0 0] [[.own 1 (List.map D.str out)]] [(nS r)] [[.own 1 (List.map D.str out)]] := by
  unfold z1z at h
  refine yE 1000 (by kernel_rfl) (by kernel_rfl) (by kernel_rfl) (by kernel_rfl) (by kernel_rfl) (y0m _ _ _ _ out) ?_
  obtain ⟨q1, g, h⟩ := zC h
  refine ⟨_, ⟨_, y5x _ _ _ g⟩, ?_⟩
  cases h; exact ⟨rfl, rfl⟩
theorem y6Y (t : zD) (r : Str) (h : z8K t = some r) : Trip Tryz.prog 8 [.d (gT t.K t.N t.S (List.map zD.toD t.L) t.From t.To)] [] [(nS r)] [] := by
  unfold z8K at h
  refine yE 1000 (by kernel_rfl) (by kernel_rfl) (by kernel_rfl) (by kernel_rfl) (by kernel_rfl) (y7D _ _ _ _ t) ?_
  obtain ⟨q1, g, h⟩ := zC h
  refine ⟨_, z2z _ _ _ g, ?_⟩
  obtain ⟨q2, g, h⟩ := zC h
  refine ⟨_, z5P _ _ g, ?_⟩
  cases h; exact ⟨rfl, rfl⟩
theorem z6e  (r : Bool) (h : z3V = some r) : Trip Tryz.prog 4 [] [] [(nB r)] [] := by
  unfold z3V at h
  refine yE 1000 (by kernel_rfl) (by kernel_rfl) (by kernel_rfl) (by kernel_rfl) (by kernel_rfl) (y7y _ _ _ _ ) ?_
  obtain ⟨q1, g, h⟩ := zC h
  refine ⟨_, ⟨_, y6Y _ _ g⟩, ?_⟩
  rintro _ rfl
  cases h; exact ⟨rfl, rfl⟩
theorem y3b (op : Int) (r : Str × Int) (h : z6Y op = some r) : Trip Tryz.prog 70 [(nI op)] [] [(nS r.1), (nI r.2)] [] := by
  unfold z6Y at h
  refine yE 1000 (by kernel_rfl) (by kernel_rfl) (by kernel_rfl) (by kernel_rfl) (by kernel_rfl) (y7F _ _ _ _ op) ?_
  rintro _ rfl
  refine zE beq_iff_eq h (fun _ h => ?_) (fun _ h => ?_)
  ·
    cases h; exact ⟨rfl, rfl⟩
  rintro _ rfl
  refine zE beq_iff_eq h (fun _ h => ?_) (fun _ h => ?_)
  ·
    cases h; exact ⟨rfl, rfl⟩
  rintro _ rfl
  refine zE beq_iff_eq h (fun _ h => ?_) (fun _ h => ?_)
  ·
    cases h; exact ⟨rfl, rfl⟩
  rintro _ rfl
  refine zE beq_iff_eq h (fun _ h => ?_) (fun _ h => ?_)
  ·
    cases h; exact ⟨rfl, rfl⟩
  rintro _ rfl
  refine zE beq_iff_eq h (fun _ h => ?_) (fun _ h => ?_)
  ·
    cases h; exact ⟨rfl, rfl⟩
  rintro _ rfl
  refine zE beq_iff_eq h (fun _ h => ?_) (fun _ h => ?_)
  ·
    cases h; exact ⟨rfl, rfl⟩
  rintro _ rfl
  refine zE beq_iff_eq h (fun _ h => ?_) (fun _ h => ?_)
  ·
    cases h; exact ⟨rfl, rfl⟩
  rintro _ rfl
  refine zE beq_iff_eq h (fun _ h => ?_) (fun _ h => ?_)
  ·
    cases h; exact ⟨rfl, rfl⟩
  rintro _ rfl
  refine zE beq_iff_eq h (fun _ h => ?_) (fun _ h => ?_)
  ·
    cases h; exact ⟨rfl, rfl⟩
  rintro _ rfl
  refine zE beq_iff_eq h (fun _ h => ?_) (fun _ h => ?_)
  ·
    cases h; exact ⟨rfl, rfl⟩
  rintro _ rfl
  refine zE beq_iff_eq h (fun _ h => ?_) (fun _ h => ?_)
  ·
    cases h; exact ⟨rfl, rfl⟩
  rintro _ rfl
  refine zE beq_iff_eq h (fun _ h => ?_) (fun _ h => ?_)
  ·
    cases h; exact ⟨rfl, rfl⟩
  cases h; exact ⟨rfl, rfl⟩
theorem y3Z (t : zD) (r : Int) (h : z2G t = some r) : Trip Tryz.prog 85 [.d (gT t.K t.N t.S (List.map zD.toD t.L) t.From t.To)] [] [(nI r)] [] := by
  unfold z2G at h
  refine yE 1000 (by kernel_rfl) (by kernel_rfl) (by kernel_rfl) (by kernel_rfl) (by kernel_rfl) (y4x _ _ _ _ t) ?_
  rintro _ rfl
  refine zE beq_iff_eq h (fun _ h => ?_) (fun _ h => ?_)
  ·
    obtain ⟨q1, g, h⟩ := zC h
    refine ⟨_, _, ⟨_, y3b _ _ g⟩, ?_⟩
    cases h; exact ⟨rfl, rfl⟩
  rintro _ rfl
  refine zE beq_iff_eq h (fun _ h => ?_) (fun _ h => ?_)
  ·
    cases h; exact ⟨rfl, rfl⟩
  cases h; exact ⟨rfl, rfl⟩
def z5J : (i : I_print_writer_expr) → z3J i → Prop
  | .print_writer_expr t out, r => Trip Tryz.prog 57 [.hp 0 0, .d (gT t.K t.N t.S (List.map zD.toD t.L) t.From t.To)] [[.own 1 (List.map D.str out)]] [] [[.own 1 (List.map D.str r)]]
  | .print_writer_held t least out, r => Trip Tryz.prog 71 [.hp 0 0, .d (gT t.K t.N t.S (List.map zD.toD t.L) t.From t.To), (nI least)] [[.own 1 (List.map D.str out)]] [] [[.own 1 (List.map D.str r)]]
  | .print_writer_closed t out, r => Trip Tryz.prog 72 [.hp 0 0, .d (gT t.K t.N t.S (List.map zD.toD t.L) t.From t.To)] [[.own 1 (List.map D.str out)]] [] [[.own 1 (List.map D.str r)]]
  | .print_writer_list_writer_expr l out, r => Trip Tryz.prog 32 [.hp 0 0, .d (.sl (List.map zD.toD l)), .fn 57 [.hp 0 0] []] [[.own 1 (List.map D.str out)]] [] [[.own 1 (List.map D.str r)]]
  | .print_writer_list_writer_expr_L1 v8 v9 v10 out, r => Ok (z0S (Trip Tryz.prog) [] [[.own 1 (List.map D.str r)]]) (kL Tryz.f32 1) ⟨24, [(0, .hp 0 0), (2, .fn 57 [.hp 0 0] []), (8, .d (.sl (List.map zD.toD v8))), (9, (nI v9)), (10, (nI v10))], [], [[.own 1 (List.map D.str out)]], 0⟩
theorem z9D : ∀ i r, z2Z wV i = some r → z5J i r := by
  refine uR z0N fun g ih i => ?_
  cases i with
  | print_writer_expr t out =>
    have ih_print_writer_held := fun t least out r h => ih (.print_writer_held t least out) r h
    have ih_print_writer_closed := fun t out r h => ih (.print_writer_closed t out) r h
    intro r h
    replace h : vB (fun t least out => g (I_print_writer_expr.print_writer_held t least out)) (fun t out => g (I_print_writer_expr.print_writer_closed t out)) t out = some r := h
    unfold vB at h
    refine yE 1000 (by kernel_rfl) (by kernel_rfl) (by kernel_rfl) (by kernel_rfl) (by kernel_rfl) (y0h _ _ _ _ t out) ?_
    rintro _ rfl
    refine zE beq_iff_eq h (fun _ h => ?_) (fun _ h => ?_)
    ·
      obtain ⟨q1, g, h⟩ := zC h
      refine ⟨_, ⟨_, y2Z _ _ g⟩, ?_⟩
      obtain ⟨q2, g, h⟩ := zC h
      refine ⟨_, zI _ _ _ g, ?_⟩
      cases h; exact ⟨rfl, rfl⟩
    rintro _ rfl
    refine zE beq_iff_eq h (fun _ h => ?_) (fun _ h => ?_)
    ·
      rintro _ rfl
      refine zE beq_iff_eq h (fun _ h => ?_) (fun _ h => ?_)
      ·
        obtain ⟨q3, g, h⟩ := zC h
        refine ⟨_, zI _ _ _ g, ?_⟩
        cases h; exact ⟨rfl, rfl⟩
      obtain ⟨q4, g, h⟩ := zC h
      refine ⟨_, zI _ _ _ g, ?_⟩
      cases h; exact ⟨rfl, rfl⟩
    rintro _ rfl
    refine zE beq_iff_eq h (fun _ h => ?_) (fun _ h => ?_)
    ·
      obtain ⟨q5, g, h⟩ := zC h
      refine ⟨_, zI _ _ _ g, ?_⟩
      cases h; exact ⟨rfl, rfl⟩
    rintro _ rfl
    refine zE beq_iff_eq h (fun _ h => ?_) (fun _ h => ?_)
    ·
      obtain ⟨q6, g, h⟩ := zC h
      refine ⟨_, zI _ _ _ g, ?_⟩
      cases h; exact ⟨rfl, rfl⟩
    rintro _ rfl
    refine zE beq_iff_eq h (fun _ h => ?_) (fun _ h => ?_)
    ·
      obtain ⟨q7, g, h⟩ := zC h
      refine ⟨_, _, ⟨_, y3b _ _ g⟩, ?_⟩
      rintro _ rfl
      refine zE beq_iff_eq h (fun _ h => ?_) (fun _ h => ?_)
      ·
        obtain ⟨q8, g, h⟩ := zC h
        refine ⟨_, _, _, _, _, _, ⟨_, yZ _ _ _ g⟩, ?_⟩
        obtain ⟨q9, g, h⟩ := zC h
        refine ⟨_, ih_print_writer_held _ _ _ _ g, ?_⟩
        obtain ⟨q10, g, h⟩ := zC h
        refine ⟨_, zI _ _ _ g, ?_⟩
        obtain ⟨q11, g, h⟩ := zC h
        refine ⟨_, _, _, _, _, _, ⟨_, yZ _ _ _ g⟩, ?_⟩
        rintro _ rfl
        obtain ⟨q12, g, h⟩ := zC h
        refine ⟨_, ih_print_writer_held _ _ _ _ g, ?_⟩
        cases h; exact ⟨rfl, rfl⟩
      obtain ⟨q13, g, h⟩ := zC h
      refine ⟨_, _, _, _, _, _, ⟨_, yZ _ _ _ g⟩, ?_⟩
      obtain ⟨q14, g, h⟩ := zC h
      refine ⟨_, ih_print_writer_held _ _ _ _ g, ?_⟩
      obtain ⟨q15, g, h⟩ := zC h
      refine ⟨_, zI _ _ _ g, ?_⟩
      obtain ⟨q16, g, h⟩ := zC h
      refine ⟨_, _, _, _, _, _, ⟨_, yZ _ _ _ g⟩, ?_⟩
      rintro _ rfl
      obtain ⟨q17, g, h⟩ := zC h
      refine ⟨_, ih_print_writer_held _ _ _ _ g, ?_⟩
      cases h; exact ⟨rfl, rfl⟩
    rintro _ rfl
    refine zE beq_iff_eq h (fun _ h => ?_) (fun _ h => ?_)
    ·
      rintro _ rfl
      refine zE beq_iff_eq h (fun _ h => ?_) (fun _ h => ?_)
      ·
        obtain ⟨q18, g, h⟩ := zC h
        refine ⟨_, zI _ _ _ g, ?_⟩
        obtain ⟨q19, g, h⟩ := zC h
        refine ⟨_, _, _, _, _, _, ⟨_, yZ _ _ _ g⟩, ?_⟩
        obtain ⟨q20, g, h⟩ := zC h
        refine ⟨_, ih_print_writer_held _ _ _ _ g, ?_⟩
        cases h; exact ⟨rfl, rfl⟩
      obtain ⟨q21, g, h⟩ := zC h
      refine ⟨_, zI _ _ _ g, ?_⟩
      obtain ⟨q22, g, h⟩ := zC h
      refine ⟨_, _, _, _, _, _, ⟨_, yZ _ _ _ g⟩, ?_⟩
      obtain ⟨q23, g, h⟩ := zC h
      refine ⟨_, ih_print_writer_held _ _ _ _ g, ?_⟩
      cases h; exact ⟨rfl, rfl⟩
    obtain ⟨q24, g, h⟩ := zC h
    refine ⟨_, ih_print_writer_closed _ _ _ g, ?_⟩
    cases h; exact ⟨rfl, rfl⟩
  | print_writer_held t least out =>
    have ih_print_writer_expr := fun t out r h => ih (.print_writer_expr t out) r h
    intro r h
    replace h : z0W (fun t out => g (I_print_writer_expr.print_writer_expr t out)) t least out = some r := h
    unfold z0W at h
    refine yE 1000 (by kernel_rfl) (by kernel_rfl) (by kernel_rfl) (by kernel_rfl) (by kernel_rfl) (y0i _ _ _ _ t least out) ?_
    obtain ⟨q1, g, h⟩ := zC h
    refine ⟨_, ⟨_, y3Z _ _ g⟩, ?_⟩
    rintro _ rfl
    refine zE decide_eq_true_iff h (fun _ h => ?_) (fun _ h => ?_)
    ·
      obtain ⟨q2, g, h⟩ := zC h
      refine ⟨_, ih_print_writer_expr _ _ _ g, ?_⟩
      cases h; exact ⟨rfl, rfl⟩
    obtain ⟨q3, g, h⟩ := zC h
    refine ⟨_, zI _ _ _ g, ?_⟩
    obtain ⟨q4, g, h⟩ := zC h
    refine ⟨_, ih_print_writer_expr _ _ _ g, ?_⟩
    obtain ⟨q5, g, h⟩ := zC h
    refine ⟨_, zI _ _ _ g, ?_⟩
    cases h; exact ⟨rfl, rfl⟩
  | print_writer_closed t out =>
    have ih_print_writer_expr := fun t out r h => ih (.print_writer_expr t out) r h
    have ih_print_writer_held := fun t least out r h => ih (.print_writer_held t least out) r h
    have ih_print_writer_list_writer_expr := fun l out r h => ih (.print_writer_list_writer_expr l out) r h
    intro r h
    replace h : vP (fun t out => g (I_print_writer_expr.print_writer_expr t out)) (fun t least out => g (I_print_writer_expr.print_writer_held t least out)) (fun l out => g (I_print_writer_expr.print_writer_list_writer_expr l out)) t out = some r := h
    unfold vP at h
    refine yE 1000 (by kernel_rfl) (by kernel_rfl) (by kernel_rfl) (by kernel_rfl) (by kernel_rfl) (z8j _ _ _ _ t out) ?_
    rintro _ rfl
    refine zE beq_iff_eq h (fun _ h => ?_) (fun _ h => ?_)
    ·
      obtain ⟨q1, g, h⟩ := zC h
      refine ⟨_, _, _, _, _, _, ⟨_, yZ _ _ _ g⟩, ?_⟩
      obtain ⟨q2, g, h⟩ := zC h
      refine ⟨_, ih_print_writer_held _ _ _ _ g, ?_⟩
      obtain ⟨q3, g, h⟩ := zC h
      refine ⟨_, zI _ _ _ g, ?_⟩
      obtain ⟨q4, g, h⟩ := zC h
      refine ⟨_, _, _, _, _, _, ⟨_, yZ _ _ _ g⟩, ?_⟩
      obtain ⟨q5, g, h⟩ := zC h
      refine ⟨_, ih_print_writer_expr _ _ _ g, ?_⟩
      obtain ⟨q6, g, h⟩ := zC h
      refine ⟨_, zI _ _ _ g, ?_⟩
      cases h; exact ⟨rfl, rfl⟩
    rintro _ rfl
    refine zE beq_iff_eq h (fun _ h => ?_) (fun _ h => ?_)
    ·
      obtain ⟨q7, g, h⟩ := zC h
      refine ⟨_, _, _, _, _, _, ⟨_, yZ _ _ _ g⟩, ?_⟩
      obtain ⟨q8, g, h⟩ := zC h
      refine ⟨_, ih_print_writer_held _ _ _ _ g, ?_⟩
      obtain ⟨q9, g, h⟩ := zC h
      refine ⟨_, zI _ _ _ g, ?_⟩
      cases h; exact ⟨rfl, rfl⟩
    rintro _ rfl
    refine zE beq_iff_eq h (fun _ h => ?_) (fun _ h => ?_)
    ·
      obtain ⟨q10, g, h⟩ := zC h
      refine ⟨_, zI _ _ _ g, ?_⟩
      obtain ⟨q11, g, h⟩ := zC h
      refine ⟨_, ih_print_writer_list_writer_expr _ _ _ g, ?_⟩
      obtain ⟨q12, g, h⟩ := zC h
      refine ⟨_, zI _ _ _ g, ?_⟩
      cases h; exact ⟨rfl, rfl⟩
    rintro _ rfl
    refine zE beq_iff_eq h (fun _ h => ?_) (fun _ h => ?_)
    ·
      obtain ⟨q13, g, h⟩ := zC h
      refine ⟨_, zI _ _ _ g, ?_⟩
      obtain ⟨q14, g, h⟩ := zC h
      refine ⟨_, zI _ _ _ g, ?_⟩
      obtain ⟨q15, g, h⟩ := zC h
      refine ⟨_, ih_print_writer_list_writer_expr _ _ _ g, ?_⟩
      obtain ⟨q16, g, h⟩ := zC h
      refine ⟨_, zI _ _ _ g, ?_⟩
      cases h; exact ⟨rfl, rfl⟩
    rintro _ rfl
    refine zE beq_iff_eq h (fun _ h => ?_) (fun _ h => ?_)
    ·
      obtain ⟨q17, g, h⟩ := zC h
      refine ⟨_, zI _ _ _ g, ?_⟩
      obtain ⟨q18, g, h⟩ := zC h
      refine ⟨_, zI _ _ _ g, ?_⟩
      obtain ⟨q19, g, h⟩ := zC h
      refine ⟨_, ih_print_writer_list_writer_expr _ _ _ g, ?_⟩
      obtain ⟨q20, g, h⟩ := zC h
      refine ⟨_, zI _ _ _ g, ?_⟩
      cases h; exact ⟨rfl, rfl⟩
    rintro _ rfl
    refine zE beq_iff_eq h (fun _ h => ?_) (fun _ h => ?_)
    ·
      obtain ⟨q21, g, h⟩ := zC h
      refine ⟨_, zI _ _ _ g, ?_⟩
      obtain ⟨q22, g, h⟩ := zC h
      refine ⟨_, zI _ _ _ g, ?_⟩
      obtain ⟨q23, g, h⟩ := zC h
      refine ⟨_, ih_print_writer_list_writer_expr _ _ _ g, ?_⟩
      obtain ⟨q24, g, h⟩ := zC h
      refine ⟨_, zI _ _ _ g, ?_⟩
      cases h; exact ⟨rfl, rfl⟩
    cases h; exact ⟨rfl, rfl⟩
  | print_writer_list_writer_expr l out =>
    have ih_print_writer_list_writer_expr_L1 := fun v8 v9 v10 out r h => ih (.print_writer_list_writer_expr_L1 v8 v9 v10 out) r h
    intro r h
    replace h : wH (fun v8 v9 v10 out => g (I_print_writer_expr.print_writer_list_writer_expr_L1 v8 v9 v10 out)) l out = some r := h
    unfold wH at h
    refine yE 1000 (by kernel_rfl) (by kernel_rfl) (by kernel_rfl) (by kernel_rfl) (by kernel_rfl) (z4U _ _ _ _ l out) ?_
    refine z2R (e' := (List.length l : Int)) (by first | rfl | rw [List.length_map]) ?_
    exact ih_print_writer_list_writer_expr_L1 _ _ _ _ _ h
  | print_writer_list_writer_expr_L1 v8 v9 v10 out =>
    have ih_print_writer_expr := fun t out r h => ih (.print_writer_expr t out) r h
    have ih_print_writer_list_writer_expr_L1 := fun v8 v9 v10 out r h => ih (.print_writer_list_writer_expr_L1 v8 v9 v10 out) r h
    intro r h
    replace h : vS (fun t out => g (I_print_writer_expr.print_writer_expr t out)) (fun v8 v9 v10 out => g (I_print_writer_expr.print_writer_list_writer_expr_L1 v8 v9 v10 out)) v8 v9 v10 out = some r := h
    unfold vS at h
    refine z6V 1000 (z4c _ _ _ _ v8 v9 v10 out) ?_
    rintro _ rfl
    refine zE decide_eq_true_iff h (fun _ h => ?_) (fun _ h => ?_)
    ·
      obtain ⟨x, hx, h⟩ := zC h
      refine ⟨z2a (l := v8) (zD.sz), z9B hx, x.K, x.N, x.S, List.map zD.toD x.L, x.From, x.To, z6a (zD.toD_eq x) hx, ?_⟩
      rintro _ rfl
      refine zE decide_eq_true_iff h (fun _ h => ?_) (fun _ h => ?_)
      ·
        obtain ⟨q1, g, h⟩ := zC h
        refine ⟨_, zI _ _ _ g, ?_⟩
        obtain ⟨q2, g, h⟩ := zC h
        refine ⟨_, ih_print_writer_expr _ _ _ g, ?_⟩
        rintro _ rfl
        exact ih_print_writer_list_writer_expr_L1 _ _ _ _ _ h
      obtain ⟨q3, g, h⟩ := zC h
      refine ⟨_, ih_print_writer_expr _ _ _ g, ?_⟩
      rintro _ rfl
      exact ih_print_writer_list_writer_expr_L1 _ _ _ _ _ h
    cases h; exact ⟨rfl, rfl⟩
theorem z0P (t : zD) (out r : List Str) (h : print_writer_expr t out = some r) : z5J (.print_writer_expr t out) r := z9D (.print_writer_expr t out) r h
theorem z0Q (t : zD) (words out r : List Str) (h : jU t words out = some r) : Trip Tryz.prog 30 [.hp 0 0, .d (gT t.K t.N t.S (List.map zD.toD t.L) t.From t.To), .d (.sl (List.map D.str words))] [[.own 1 (List.map D.str out)]] [] [[.own 1 (List.map D.str r)]] := by
  unfold jU at h
  refine yE 1000 (by kernel_rfl) (by kernel_rfl) (by kernel_rfl) (by kernel_rfl) (by kernel_rfl) (y0k _ _ _ _ t words out) ?_
  obtain ⟨q1, g, h⟩ := zC h
  refine ⟨_, zI _ _ _ g, ?_⟩
  obtain ⟨q2, g, h⟩ := zC h
  refine ⟨_, z0P _ _ _ g, ?_⟩
  obtain ⟨q3, g, h⟩ := zC h
  refine ⟨_, zI _ _ _ g, ?_⟩
  cases h; exact ⟨rfl, rfl⟩
theorem z1o (t : zD) (out r : List Str) (h : jF t out = some r) : Trip Tryz.prog 29 [.hp 0 0, .d (gT t.K t.N t.S (List.map zD.toD t.L) t.From t.To)] [[.own 1 (List.map D.str out)]] [] [[.own 1 (List.map D.str r)]] := by
  unfold jF at h
  refine yE 1000 (by kernel_rfl) (by kernel_rfl) (by kernel_rfl) (by kernel_rfl) (by kernel_rfl) (z9j _ _ _ _ t out) ?_
  obtain ⟨q1, g, h⟩ := zC h
  refine ⟨_, zI _ _ _ g, ?_⟩
  obtain ⟨q2, g, h⟩ := zC h
  refine ⟨_, _, _, _, _, _, ⟨_, yZ _ _ _ g⟩, ?_⟩
  obtain ⟨q3, g, h⟩ := zC h
  refine ⟨_, z2z _ _ _ g, ?_⟩
  cases h; exact ⟨rfl, rfl⟩
def z5x : (i : I_print_writer_block) → z3u i → Prop
  | .print_writer_block t out, r => Trip Tryz.prog 33 [.hp 0 0, .d (gT t.K t.N t.S (List.map zD.toD t.L) t.From t.To)] [[.own 1 (List.map D.str out)]] [] [[.own 1 (List.map D.str r)]]
  | .print_writer_block_L3 v10 v11 v12 out, r => Ok (z3x (Trip Tryz.prog) [] [[.own 1 (List.map D.str r)]]) (kL Tryz.f33 3) ⟨23, [(0, .hp 0 0), (10, .d (.sl (List.map zD.toD v10))), (11, (nI v11)), (12, (nI v12))], [], [[.own 1 (List.map D.str out)]], 0⟩
  | .print_writer_stmt t out, r => Trip Tryz.prog 58 [.hp 0 0, .d (gT t.K t.N t.S (List.map zD.toD t.L) t.From t.To)] [[.own 1 (List.map D.str out)]] [] [[.own 1 (List.map D.str r)]]
  | .print_writer_nested t out, r => Trip Tryz.prog 73 [.hp 0 0, .d (gT t.K t.N t.S (List.map zD.toD t.L) t.From t.To)] [[.own 1 (List.map D.str out)]] [] [[.own 1 (List.map D.str r)]]
theorem z8U : ∀ i r, z2Z uK i = some r → z5x i r := by
  refine uR z1n fun g ih i => ?_
  cases i with
  | print_writer_block t out =>
    have ih_print_writer_block_L3 := fun v10 v11 v12 out r h => ih (.print_writer_block_L3 v10 v11 v12 out) r h
    intro r h
    replace h : z0G (fun v10 v11 v12 out => g (I_print_writer_block.print_writer_block_L3 v10 v11 v12 out)) t out = some r := h
    unfold z0G at h
    refine yE 1000 (by kernel_rfl) (by kernel_rfl) (by kernel_rfl) (by kernel_rfl) (by kernel_rfl) (z9i _ _ _ _ t out) ?_
    obtain ⟨q1, g, h⟩ := zC h
    refine ⟨_, zI _ _ _ g, ?_⟩
    refine z2R (e' := (List.length t.L : Int)) (by first | rfl | rw [List.length_map]) ?_
    exact ih_print_writer_block_L3 _ _ _ _ _ h
  | print_writer_block_L3 v10 v11 v12 out =>
    have ih_print_writer_block_L3 := fun v10 v11 v12 out r h => ih (.print_writer_block_L3 v10 v11 v12 out) r h
    have ih_print_writer_stmt := fun t out r h => ih (.print_writer_stmt t out) r h
    intro r h
    replace h : jO (fun v10 v11 v12 out => g (I_print_writer_block.print_writer_block_L3 v10 v11 v12 out)) (fun t out => g (I_print_writer_block.print_writer_stmt t out)) v10 v11 v12 out = some r := h
    unfold jO at h
    refine z6V 1000 (z7j _ _ _ _ v10 v11 v12 out) ?_
    rintro _ rfl
    refine zE decide_eq_true_iff h (fun _ h => ?_) (fun _ h => ?_)
    ·
      obtain ⟨x, hx, h⟩ := zC h
      refine ⟨z2a (l := v10) (zD.sz), z9B hx, x.K, x.N, x.S, List.map zD.toD x.L, x.From, x.To, z6a (zD.toD_eq x) hx, ?_⟩
      obtain ⟨q1, g, h⟩ := zC h
      refine ⟨_, ih_print_writer_stmt _ _ _ g, ?_⟩
      rintro _ rfl
      exact ih_print_writer_block_L3 _ _ _ _ _ h
    obtain ⟨q2, g, h⟩ := zC h
    refine ⟨_, zI _ _ _ g, ?_⟩
    cases h; exact ⟨rfl, rfl⟩
  | print_writer_stmt t out =>
    have ih_print_writer_block := fun t out r h => ih (.print_writer_block t out) r h
    have ih_print_writer_nested := fun t out r h => ih (.print_writer_nested t out) r h
    intro r h
    replace h : z0p (fun t out => g (I_print_writer_block.print_writer_block t out)) (fun t out => g (I_print_writer_block.print_writer_nested t out)) t out = some r := h
    unfold z0p at h
    refine yE 1000 (by kernel_rfl) (by kernel_rfl) (by kernel_rfl) (by kernel_rfl) (by kernel_rfl) (y0l _ _ _ _ t out) ?_
    rintro _ rfl
    refine zE beq_iff_eq h (fun _ h => ?_) (fun _ h => ?_)
    ·
      obtain ⟨q1, g, h⟩ := zC h
      refine ⟨_, ih_print_writer_block _ _ _ g, ?_⟩
      cases h; exact ⟨rfl, rfl⟩
    rintro _ rfl
    refine zE beq_iff_eq h (fun _ h => ?_) (fun _ h => ?_)
    ·
      obtain ⟨q2, g, h⟩ := zC h
      refine ⟨_, _, _, _, _, _, ⟨_, yZ _ _ _ g⟩, ?_⟩
      obtain ⟨q3, g, h⟩ := zC h
      refine ⟨_, z0Q _ _ _ _ g, ?_⟩
      cases h; exact ⟨rfl, rfl⟩
    rintro _ rfl
    refine zE beq_iff_eq h (fun _ h => ?_) (fun _ h => ?_)
    ·
      obtain ⟨q4, g, h⟩ := zC h
      refine ⟨_, zI _ _ _ g, ?_⟩
      obtain ⟨q5, g, h⟩ := zC h
      refine ⟨_, z1o _ _ _ g, ?_⟩
      obtain ⟨q6, g, h⟩ := zC h
      refine ⟨_, zI _ _ _ g, ?_⟩
      cases h; exact ⟨rfl, rfl⟩
    rintro _ rfl
    refine zE beq_iff_eq h (fun _ h => ?_) (fun _ h => ?_)
    ·
      obtain ⟨q7, g, h⟩ := zC h
      refine ⟨_, _, _, _, _, _, ⟨_, yZ _ _ _ g⟩, ?_⟩
      obtain ⟨q8, g, h⟩ := zC h
      refine ⟨_, z0P _ _ _ g, ?_⟩
      obtain ⟨q9, g, h⟩ := zC h
      refine ⟨_, _, _, _, _, _, ⟨_, yZ _ _ _ g⟩, ?_⟩
      obtain ⟨q10, g, h⟩ := zC h
      refine ⟨_, z0Q _ _ _ _ g, ?_⟩
      cases h; exact ⟨rfl, rfl⟩
    rintro _ rfl
    refine zE beq_iff_eq h (fun _ h => ?_) (fun _ h => ?_)
    ·
      obtain ⟨q11, g, h⟩ := zC h
      refine ⟨_, _, _, _, _, _, ⟨_, yZ _ _ _ g⟩, ?_⟩
      obtain ⟨q12, g, h⟩ := zC h
      refine ⟨_, z0Q _ _ _ _ g, ?_⟩
      cases h; exact ⟨rfl, rfl⟩
    rintro _ rfl
    refine zE beq_iff_eq h (fun _ h => ?_) (fun _ h => ?_)
    ·
      obtain ⟨q13, g, h⟩ := zC h
      refine ⟨_, _, _, _, _, _, ⟨_, yZ _ _ _ g⟩, ?_⟩
      obtain ⟨q14, g, h⟩ := zC h
      refine ⟨_, z0Q _ _ _ _ g, ?_⟩
      cases h; exact ⟨rfl, rfl⟩
    rintro _ rfl
    refine zE beq_iff_eq h (fun _ h => ?_) (fun _ h => ?_)
    ·
      obtain ⟨q15, g, h⟩ := zC h
      refine ⟨_, _, _, _, _, _, ⟨_, yZ _ _ _ g⟩, ?_⟩
      obtain ⟨q16, g, h⟩ := zC h
      refine ⟨_, z0Q _ _ _ _ g, ?_⟩
      cases h; exact ⟨rfl, rfl⟩
    obtain ⟨q17, g, h⟩ := zC h
    refine ⟨_, ih_print_writer_nested _ _ _ g, ?_⟩
    cases h; exact ⟨rfl, rfl⟩
  | print_writer_nested t out =>
    have ih_print_writer_block := fun t out r h => ih (.print_writer_block t out) r h
    intro r h
    replace h : jJ (fun t out => g (I_print_writer_block.print_writer_block t out)) t out = some r := h
    unfold jJ at h
    refine yE 1000 (by kernel_rfl) (by kernel_rfl) (by kernel_rfl) (by kernel_rfl) (by kernel_rfl) (z8k _ _ _ _ t out) ?_
    rintro _ rfl
    refine zE beq_iff_eq h (fun _ h => ?_) (fun _ h => ?_)
    ·
      obtain ⟨q1, g, h⟩ := zC h
      refine ⟨_, zI _ _ _ g, ?_⟩
      obtain ⟨q2, g, h⟩ := zC h
      refine ⟨_, _, _, _, _, _, ⟨_, yZ _ _ _ g⟩, ?_⟩
      obtain ⟨q3, g, h⟩ := zC h
      refine ⟨_, z0P _ _ _ g, ?_⟩
      obtain ⟨q4, g, h⟩ := zC h
      refine ⟨_, _, _, _, _, _, ⟨_, yZ _ _ _ g⟩, ?_⟩
      obtain ⟨q5, g, h⟩ := zC h
      refine ⟨_, ih_print_writer_block _ _ _ g, ?_⟩
      obtain ⟨q6, g, h⟩ := zC h
      refine ⟨_, _, _, _, _, _, ⟨_, yZ _ _ _ g⟩, ?_⟩
      refine z2R (e' := (List.length q6.L : Int)) (by first | rfl | rw [List.length_map]) ?_
      rintro _ rfl
      refine zE decide_eq_true_iff h (fun _ h => ?_) (fun _ h => ?_)
      ·
        obtain ⟨q7, g, h⟩ := zC h
        refine ⟨_, zI _ _ _ g, ?_⟩
        obtain ⟨q8, g, h⟩ := zC h
        refine ⟨_, _, _, _, _, _, ⟨_, yZ _ _ _ g⟩, ?_⟩
        obtain ⟨q9, g, h⟩ := zC h
        refine ⟨_, ih_print_writer_block _ _ _ g, ?_⟩
        cases h; exact ⟨rfl, rfl⟩
      cases h; exact ⟨rfl, rfl⟩
    rintro _ rfl
    refine zE beq_iff_eq h (fun _ h => ?_) (fun _ h => ?_)
    ·
      obtain ⟨q10, g, h⟩ := zC h
      refine ⟨_, zI _ _ _ g, ?_⟩
      obtain ⟨q11, g, h⟩ := zC h
      refine ⟨_, _, _, _, _, _, ⟨_, yZ _ _ _ g⟩, ?_⟩
      obtain ⟨q12, g, h⟩ := zC h
      refine ⟨_, z0P _ _ _ g, ?_⟩
      obtain ⟨q13, g, h⟩ := zC h
      refine ⟨_, _, _, _, _, _, ⟨_, yZ _ _ _ g⟩, ?_⟩
      obtain ⟨q14, g, h⟩ := zC h
      refine ⟨_, ih_print_writer_block _ _ _ g, ?_⟩
      cases h; exact ⟨rfl, rfl⟩
    rintro _ rfl
    refine zE beq_iff_eq h (fun _ h => ?_) (fun _ h => ?_)
    ·
      obtain ⟨q15, g, h⟩ := zC h
      refine ⟨_, zI _ _ _ g, ?_⟩
      obtain ⟨q16, g, h⟩ := zC h
      refine ⟨_, _, _, _, _, _, ⟨_, yZ _ _ _ g⟩, ?_⟩
      obtain ⟨q17, g, h⟩ := zC h
      refine ⟨_, z0P _ _ _ g, ?_⟩
      obtain ⟨q18, g, h⟩ := zC h
      refine ⟨_, zI _ _ _ g, ?_⟩
      obtain ⟨q19, g, h⟩ := zC h
      refine ⟨_, _, _, _, _, _, ⟨_, yZ _ _ _ g⟩, ?_⟩
      obtain ⟨q20, g, h⟩ := zC h
      refine ⟨_, z0P _ _ _ g, ?_⟩
      obtain ⟨q21, g, h⟩ := zC h
      refine ⟨_, _, _, _, _, _, ⟨_, yZ _ _ _ g⟩, ?_⟩
      obtain ⟨q22, g, h⟩ := zC h
      refine ⟨_, ih_print_writer_block _ _ _ g, ?_⟩
      cases h; exact ⟨rfl, rfl⟩
    cases h; exact ⟨rfl, rfl⟩
theorem z5y (t : zD) (out r : List Str) (h : print_writer_block t out = some r) : z5x (.print_writer_block t out) r := z8U (.print_writer_block t out) r h
def z4J : (i : I_print_writer_decl_L5) → z2O i → Prop
  | .print_writer_decl_L5 v16 v17 v18 out, r => Ok (z3Q (Trip Tryz.prog) [] [[.own 1 (List.map D.str r)]]) (kL Tryz.f12 5) ⟨83, [(0, .hp 0 0), (16, .d (.sl (List.map zD.toD v16))), (17, (nI v17)), (18, (nI v18))], [], [[.own 1 (List.map D.str out)]], 0⟩
theorem z7z : ∀ i r, z2Z z1L i = some r → z4J i r := by
  refine uR z4H fun g ih i => ?_
  cases i with
  | print_writer_decl_L5 v16 v17 v18 out =>
    have ih_print_writer_decl_L5 := fun v16 v17 v18 out r h => ih (.print_writer_decl_L5 v16 v17 v18 out) r h
    intro r h
    replace h : gA (fun v16 v17 v18 out => g (I_print_writer_decl_L5.print_writer_decl_L5 v16 v17 v18 out)) v16 v17 v18 out = some r := h
    unfold gA at h
    refine z6V 1000 (z7E _ _ _ _ v16 v17 v18 out) ?_
    rintro _ rfl
    refine zE decide_eq_true_iff h (fun _ h => ?_) (fun _ h => ?_)
    ·
      obtain ⟨x, hx, h⟩ := zC h
      refine ⟨z2a (l := v16) (zD.sz), z9B hx, x.K, x.N, x.S, List.map zD.toD x.L, x.From, x.To, z6a (zD.toD_eq x) hx, ?_⟩
      obtain ⟨q1, g, h⟩ := zC h
      refine ⟨_, z1o _ _ _ g, ?_⟩
      obtain ⟨q2, g, h⟩ := zC h
      refine ⟨_, zI _ _ _ g, ?_⟩
      rintro _ rfl
      exact ih_print_writer_decl_L5 _ _ _ _ _ h
    obtain ⟨q3, g, h⟩ := zC h
    refine ⟨_, zI _ _ _ g, ?_⟩
    cases h; exact ⟨rfl, rfl⟩
theorem z7A (v16 : List zD) (v17 v18 : Int) (out r : List Str) (h : print_writer_decl_L5 v16 v17 v18 out = some r) : z4J (.print_writer_decl_L5 v16 v17 v18 out) r := z7z (.print_writer_decl_L5 v16 v17 v18 out) r h
def z1C : (i : I_print_writer_list_writer_named_L1) → z0m i → Prop
  | .print_writer_list_writer_named_L1 v8 v9 v10 out, r => Ok (z0J (Trip Tryz.prog) [] [[.own 1 (List.map D.str r)]]) (kL Tryz.f32 1) ⟨24, [(0, .hp 0 0), (2, .fn 29 [.hp 0 0] []), (8, .d (.sl (List.map zD.toD v8))), (9, (nI v9)), (10, (nI v10))], [], [[.own 1 (List.map D.str out)]], 0⟩
theorem z3I : ∀ i r, z2Z jK i = some r → z1C i r := by
  refine uR z1B fun g ih i => ?_
  cases i with
  | print_writer_list_writer_named_L1 v8 v9 v10 out =>
    have ih_print_writer_list_writer_named_L1 := fun v8 v9 v10 out r h => ih (.print_writer_list_writer_named_L1 v8 v9 v10 out) r h
    intro r h
    replace h : vO (fun v8 v9 v10 out => g (I_print_writer_list_writer_named_L1.print_writer_list_writer_named_L1 v8 v9 v10 out)) v8 v9 v10 out = some r := h
    unfold vO at h
    refine z6V 1000 (z3S _ _ _ _ v8 v9 v10 out) ?_
    rintro _ rfl
    refine zE decide_eq_true_iff h (fun _ h => ?_) (fun _ h => ?_)
    ·
      obtain ⟨x, hx, h⟩ := zC h
      refine ⟨z2a (l := v8) (zD.sz), z9B hx, x.K, x.N, x.S, List.map zD.toD x.L, x.From, x.To, z6a (zD.toD_eq x) hx, ?_⟩
      rintro _ rfl
      refine zE decide_eq_true_iff h (fun _ h => ?_) (fun _ h => ?_)
      ·
        obtain ⟨q1, g, h⟩ := zC h
        refine ⟨_, zI _ _ _ g, ?_⟩
        obtain ⟨q2, g, h⟩ := zC h
        refine ⟨_, z1o _ _ _ g, ?_⟩
        rintro _ rfl
        exact ih_print_writer_list_writer_named_L1 _ _ _ _ _ h
      obtain ⟨q3, g, h⟩ := zC h
      refine ⟨_, z1o _ _ _ g, ?_⟩
      rintro _ rfl
      exact ih_print_writer_list_writer_named_L1 _ _ _ _ _ h
    cases h; exact ⟨rfl, rfl⟩
theorem z3M (v8 : List zD) (v9 v10 : Int) (out r : List Str) (h : print_writer_list_writer_named_L1 v8 v9 v10 out = some r) : z1C (.print_writer_list_writer_named_L1 v8 v9 v10 out) r := z3I (.print_writer_list_writer_named_L1 v8 v9 v10 out) r h
theorem z2d (l : List zD) (out r : List Str) (h : vU l out = some r) : Trip Tryz.prog 32 [.hp 0 0, .d (.sl (List.map zD.toD l)), .fn 29 [.hp 0 0] []] [[.own 1 (List.map D.str out)]] [] [[.own 1 (List.map D.str r)]] := by
  unfold vU at h
  refine yE 1000 (by kernel_rfl) (by kernel_rfl) (by kernel_rfl) (by kernel_rfl) (by kernel_rfl) (z4E _ _ _ _ l out) ?_
  refine z2R (e' := (List.length l : Int)) (by first | rfl | rw [List.length_map]) ?_
  exact z3M _ _ _ _ _ h
theorem z9K (t : zD) (out r : List Str) (h : z2v t out = some r) : Trip Tryz.prog 12 [.hp 0 0, .d (gT t.K t.N t.S (List.map zD.toD t.L) t.From t.To)] [[.own 1 (List.map D.str out)]] [] [[.own 1 (List.map D.str r)]] := by
  unfold z2v at h
  refine yE 1000 (by kernel_rfl) (by kernel_rfl) (by kernel_rfl) (by kernel_rfl) (by kernel_rfl) (y0g _ _ _ _ t out) ?_
  rintro _ rfl
  refine zE beq_iff_eq h (fun _ h => ?_) (fun _ h => ?_)
  ·
    obtain ⟨q1, g, h⟩ := zC h
    refine ⟨_, zI _ _ _ g, ?_⟩
    refine z2R (e' := (List.length t.L : Int)) (by first | rfl | rw [List.length_map]) ?_
    exact z7A _ _ _ _ _ h
  rintro _ rfl
  refine zE beq_iff_eq h (fun _ h => ?_) (fun _ h => ?_)
  ·
    obtain ⟨q2, g, h⟩ := zC h
    refine ⟨_, _, _, _, _, _, ⟨_, yZ _ _ _ g⟩, ?_⟩
    obtain ⟨q3, g, h⟩ := zC h
    refine ⟨_, z0Q _ _ _ _ g, ?_⟩
    cases h; exact ⟨rfl, rfl⟩
  rintro _ rfl
  refine zE beq_iff_eq h (fun _ h => ?_) (fun _ h => ?_)
  ·
    obtain ⟨q4, g, h⟩ := zC h
    refine ⟨_, zI _ _ _ g, ?_⟩
    obtain ⟨q5, g, h⟩ := zC h
    refine ⟨_, z1o _ _ _ g, ?_⟩
    obtain ⟨q6, g, h⟩ := zC h
    refine ⟨_, zI _ _ _ g, ?_⟩
    cases h; exact ⟨rfl, rfl⟩
  rintro _ rfl
  refine zE beq_iff_eq h (fun _ h => ?_) (fun _ h => ?_)
  ·
    rintro _ rfl
    refine zE beq_iff_eq h (fun _ h => ?_) (fun _ h => ?_)
    ·
      obtain ⟨q7, g, h⟩ := zC h
      refine ⟨_, zI _ _ _ g, ?_⟩
      obtain ⟨q8, g, h⟩ := zC h
      refine ⟨_, zI _ _ _ g, ?_⟩
      obtain ⟨q9, g, h⟩ := zC h
      refine ⟨_, _, _, _, _, _, ⟨_, yZ _ _ _ g⟩, ?_⟩
      obtain ⟨q10, g, h⟩ := zC h
      refine ⟨_, z2d _ _ _ g, ?_⟩
      obtain ⟨q11, g, h⟩ := zC h
      refine ⟨_, zI _ _ _ g, ?_⟩
      obtain ⟨q12, g, h⟩ := zC h
      refine ⟨_, _, _, _, _, _, ⟨_, yZ _ _ _ g⟩, ?_⟩
      obtain ⟨q13, g, h⟩ := zC h
      refine ⟨_, z2z _ _ _ g, ?_⟩
      obtain ⟨q14, g, h⟩ := zC h
      refine ⟨_, _, _, _, _, _, ⟨_, yZ _ _ _ g⟩, ?_⟩
      obtain ⟨q15, g, h⟩ := zC h
      refine ⟨_, z5y _ _ _ g, ?_⟩
      cases h; exact ⟨rfl, rfl⟩
    obtain ⟨q16, g, h⟩ := zC h
    refine ⟨_, zI _ _ _ g, ?_⟩
    obtain ⟨q17, g, h⟩ := zC h
    refine ⟨_, _, _, _, _, _, ⟨_, yZ _ _ _ g⟩, ?_⟩
    obtain ⟨q18, g, h⟩ := zC h
    refine ⟨_, z2d _ _ _ g, ?_⟩
    obtain ⟨q19, g, h⟩ := zC h
    refine ⟨_, zI _ _ _ g, ?_⟩
    obtain ⟨q20, g, h⟩ := zC h
    refine ⟨_, _, _, _, _, _, ⟨_, yZ _ _ _ g⟩, ?_⟩
    obtain ⟨q21, g, h⟩ := zC h
    refine ⟨_, z2z _ _ _ g, ?_⟩
    obtain ⟨q22, g, h⟩ := zC h
    refine ⟨_, _, _, _, _, _, ⟨_, yZ _ _ _ g⟩, ?_⟩
    obtain ⟨q23, g, h⟩ := zC h
    refine ⟨_, z5y _ _ _ g, ?_⟩
    cases h; exact ⟨rfl, rfl⟩
  cases h; exact ⟨rfl, rfl⟩
open Go.RowKit in
theorem v0i {w : World} {M : Nat → Nat → Prop} {b o : Nat} {l : List zD} (hc : RelC w M b o (z1w (l.map zD.toD))) {k : Nat} (hk : k < l.length) :
    ∃ v3, w.cell? ⟨b, o + k * 6, none⟩ = some (.int .i64 l[k].K) ∧ w.cell? ⟨b, o + k * 6 + 1, none⟩ = some (.int .i64 l[k].N) ∧ w.cell? ⟨b, o + k * 6 + 2, none⟩ = some (.string ⟨⟨l[k].S⟩⟩) ∧
      w.cell? ⟨b, o + k * 6 + 3, none⟩ = some v3 ∧ w.cell? ⟨b, o + k * 6 + 4, none⟩ = some (.int .i64 l[k].From) ∧ w.cell? ⟨b, o + k * 6 + 5, none⟩ = some (.int .i64 l[k].To) ∧ RelV w M v3 (.sl (l[k].L.map zD.toD)) := by
  have hs : jP 6 (l.map zD.toD) := z2a (fun x => by rw [zD.toD_eq]; rfl)
  have h := hc.elem hs (i := k) (x := l[k].toD) (by rw [List.getElem?_map, List.getElem?_eq_getElem hk]; rfl)
  rw [zD.toD_eq] at h
  cases h with
  | cons _ _ v0 _ _ c0 _ _ r0 h => cases h with
  | cons _ _ v1 _ _ c1 _ _ r1 h => cases h with
  | cons _ _ v2 _ _ c2 _ _ r2 h => cases h with
  | cons _ _ v3 _ _ c3 _ _ r3 h => cases h with
  | cons _ _ v4 _ _ c4 _ _ r4 h => cases h with
  | cons _ _ v5 _ _ c5 _ _ r5 h =>
    cases r0; cases r1; cases r2; cases r4; cases r5
    exact ⟨v3, c0, c1, c2, c3, c4, c5, r3⟩
set_option maxHeartbeats 4000000 in
set_option maxRecDepth 1000000 in
open Go.RowKit Go.Shelf in
theorem y3a (m : zD) (r : Str) (h : z6X m = some r) : Trip Tryz.prog 6 [.d (gT m.K m.N m.S (List.map zD.toD m.L) m.From m.To)] [] [(nS r)] [] := by
  refine ⟨⟨_, Tryz.func6, by rfl, by rfl⟩, fun w M0 κ vs B hv => ?_⟩
  cases hv with
  | cons v _ vs _ g1 hv =>
    cases hv
    cases g1 with
    | d _ _ g1 =>
      cases g1 with
      | agg vs _ g1 =>
        cases g1 with
        | cons v0 _ _ _ s0 h0 g1 =>
        cases g1 with
        | cons v1 _ _ _ s1 h1 g1 =>
        cases g1 with
        | cons v2 _ _ _ s2 h2 g1 =>
        cases g1 with
        | cons v3 _ _ _ s3 h3 g1 =>
        cases g1 with
        | cons v4 _ _ _ s4 h4 g1 =>
        cases g1 with
        | cons v5 _ _ _ s5 h5 g1 =>
        cases g1
        cases h0; cases h1; cases h2; cases h4; cases h5
        obtain ⟨ad, cap, rfl, hopen⟩ := v5s h3
        rw [List.length_map] at *
        go_enter Tryz.func6, Tryz.ntmps6
        go_wp2
        go_loopw [10] (fun i wr => ∃ (k : Nat) (acc : List UInt8), i = .int .i64 (k : Int) ∧ k ≤ m.L.length ∧ Lib.IsBuilderF 45 5 (w.heap.size + 1) (w.heap.size + 1) (Lib.byteCells acc) wr ∧ Below w.heap.size w wr ∧ z1Y (m.L.drop k) acc = some r ∧ k ≤ acc.length) (fun i _ => m.L.length - (intOf i).toNat)
        case atStart =>
          have hf := Lib.fresh_isBuilder 45 5 (w.alloc (.cells #[.int .i64 m.K, .int .i64 m.N, .string ⟨⟨m.S⟩⟩, .slice ad m.L.length cap, .int .i64 m.From, .int .i64 m.To] 25))
          have e1 : (w.alloc (.cells #[.int .i64 m.K, .int .i64 m.N, .string ⟨⟨m.S⟩⟩, .slice ad m.L.length cap, .int .i64 m.From, .int .i64 m.To] 25)).heap.size = w.heap.size + 1 := by simp
          rw [e1] at hf
          refine ⟨0, [], rfl, Nat.zero_le _, Lib.IsBuilderF.of hf, ((Below.refl _ w).alloc (Nat.le_refl _) _).alloc (by simp) _, h, Nat.zero_le _⟩
        case round =>
          obtain ⟨k, acc, rfl, hk, hI, hbw, hgo, hka⟩ := hrel
          by_cases hlt : k < m.L.length
          · obtain ⟨b, o, rfl, hc⟩ := hopen (fun e => by have := congrArg List.length e; simp at this; rw [this] at hlt; simp at hlt)
            obtain ⟨u3, c0, c1, c2, c3, c4, c5, r3⟩ := v0i hc hlt
            have hbs : b < w.heap.size := z8e c0
            have tr : ∀ {p : Nat} {v : Value}, w.cell? ⟨b, p, none⟩ = some v → wr.cell? ⟨b, p, none⟩ = some v := fun {p v} hcv => by
              have := uQ (hbw.block b hbs) p
              exact this.trans hcv
            obtain ⟨ua, un, uc, rfl⟩ := v3W r3
            have d0 := tr c0; have d1 := tr c1; have d2 := tr c2; have d3 := tr c3; have d4 := tr c4; have d5 := tr c5
            rw [List.drop_eq_getElem_cons hlt] at hgo
            rw [z1Y] at hgo
            obtain ⟨q, g, hgo⟩ := zC hgo
            obtain ⟨s, hs, hgo⟩ := zC hgo
            obtain ⟨hroom, hgo⟩ := gX hgo
            go_wp2_with fail
            generalize hW1 : ((wr.alloc (Obj.cells #[Value.int IntKind.i64 m.L[k].K, Value.int IntKind.i64 m.L[k].N, Value.string { data := { toList := m.L[k].S } }, Value.slice ua un uc, Value.int IntKind.i64 m.L[k].From, Value.int IntKind.i64 m.L[k].To] 25)).alloc (Obj.cells #[Value.slice none 0 0] 48)) = W1
            have bel1 : Below wr.heap.size wr W1 := by rw [← hW1]; exact ((Below.refl _ wr).alloc (Nat.le_refl _) _).alloc (by simp) _
            have sz1 : W1.heap.size = wr.heap.size + 2 := by rw [← hW1]; simp
            have hp1 : W1.heap[wr.heap.size + 1]? = some (.cells #[.slice none 0 0] 48) := by
              rw [← hW1]
              have := heap_alloc_new (wr.alloc (Obj.cells #[Value.int IntKind.i64 m.L[k].K, Value.int IntKind.i64 m.L[k].N, Value.string { data := { toList := m.L[k].S } }, Value.slice ua un uc, Value.int IntKind.i64 m.L[k].From, Value.int IntKind.i64 m.L[k].To] 25)) (Obj.cells #[Value.slice none 0 0] 48)
              simpa using this
            have cell1 : uB W1 (wr.heap.size + 1) 0 = some (.slice none 0 0) := by simp [uB, World.cell?, hp1]
            have ice1 : icy W1 (wr.heap.size + 1) 0 = false := by simp [icy, World.frozen?, hp1]
            have B1 : Before W1 noM (wK (wr.heap.size + 1)) [[.own 1 []]] := v2S (by omega) cell1 ice1
            have K1 : Keeps w (Mut M0 κ) W1 (Mut noM (wK (wr.heap.size + 1))) := by
              have hb2 : Below w.heap.size w W1 := hbw.trans (bel1.mono hbw.size)
              refine ⟨fun b' o' v hv _ => by rw [uQ (hb2.block b' (z8e hv))]; exact hv, fun b' o' v hv _ hm => ?_⟩
              have h1 := z8e hv
              have h2 := v6A hm
              have h3 := hbw.size
              omega
            refine ((z9K m.L[k] [] q g).2 W1 noM (wK (wr.heap.size + 1)) _ B1 (.cons _ _ _ _ (.hp (wr.heap.size + 1) 0 0 rfl) (.cons _ _ _ _ (.d _ _ (.agg _ _ (.cons _ _ _ _ rfl (.int _ _) (.cons _ _ _ _ rfl (.int _ _) (.cons _ _ _ _ rfl (.str _) (.cons _ _ _ _ rfl (r3.keep K1) (.cons _ _ _ _ rfl (.int _ _) (.cons _ _ _ _ rfl (.int _ _) .nil)))))))) .nil))).mono ?_
            rintro e W2 ⟨v, κ2, rfl, A2, hres⟩
            obtain ⟨vs2, rfl, hv2, -⟩ := hres
            have bel2 : Below wr.heap.size wr W2 := v3Z bel1 (by omega) A2
            have B2 := y7b A2
            go_wp2_with fail
            refine ((z5P q s hs).2 W2 noM (z9p κ2) _ B2 (.cons _ _ _ _ (.hp (wr.heap.size + 1) 0 0 (A2.hp 0 _ rfl)) .nil)).mono ?_
            rintro e W3 ⟨v, κ3, rfl, A3, hres⟩
            have hv3 : v = .string ⟨⟨s⟩⟩ := by
              have := hres.2
              cases this with
              | d _ _ h => cases h; rfl
            subst hv3
            have sz2 := bel2.size
            have bel3 : Below wr.heap.size wr W3 := bel2.trans ⟨A3.kept.os, A3.kept.tape, A3.kept.output, A3.kept.size, fun j hj => A3.kept.block j (by omega) (fun ⟨key, lo, hk⟩ => by
              obtain ⟨-, hk2⟩ := z1h hk
              rcases (A2.kb key j lo hk2).2 with h9 | ⟨key', lo', h9⟩
              · omega
              · have := (y0z h9).2; simp at this; omega)⟩
            have hI3 := v0X hI bel3
            have szW3 := bel3.size
            have szw := hbw.size
            have hIlt : w.heap.size + 1 < wr.heap.size := by
              rcases hI with ⟨h1, v, h2, -⟩ | ⟨h1, v, h2, -⟩ <;> exact (Array.getElem?_eq_some_iff.1 h2).1
            go_wp2_with fail
            refine (Any.Builder_WriteString_k (ρ := v5E) { v6N with } v6D (w.heap.size + 1) (w.heap.size + 1) _ ⟨⟨s⟩⟩ W3 hI3 (by rw [Lib.byteCells_length]; show _ + s.length ≤ _; omega) (by omega)).mono ?_
            rintro e W4 ⟨rfl, hI4, bel4, -⟩
            go_wp2_with fail
            refine (Any.Builder_WriteByte_k (ρ := v5E) v4R v6D (w.heap.size + 1) (w.heap.size + 1) _ 10 W4 (Or.inr hI4) (by rw [List.length_append, Lib.byteCells_length, Lib.strCells_length]; show _ + s.length + 1 ≤ _; omega) (by have := bel4.size; omega)).mono ?_
            rintro e W5 ⟨rfl, hI5, bel5, -⟩
            have a1 : k + 1 ≤ m.L.length := hlt
            have a3 : k + 1 ≤ (acc ++ s ++ [10]).length := by simp; omega
            have b5 : Below w.heap.size w W5 := ((hbw.trans (bel3.mono szw)).trans (bel4.mono (Nat.le_succ _))).trans (bel5.mono (Nat.le_succ _))
            have i5 : Lib.IsBuilderF 45 5 (w.heap.size + 1) (w.heap.size + 1) (Lib.byteCells (acc ++ s ++ [10])) W5 := by
              rw [Lib.byteCells_append, Lib.byteCells_append]
              exact Or.inr hI5
            have hm9 : m.L.length - (k + 1) < m.L.length - k := by omega
            have hwr : wrap64 ((k : Int) + 1) = ((k + 1 : Nat) : Int) := (IntWalk.wrap64_in _ ⟨by omega, by omega⟩).trans (by omega)
            clear hroom hka
            go_wp2
            go_roundw
            case rel => exact ⟨k + 1, acc ++ s ++ [10], congrArg _ hwr, a1, i5, b5, hgo, a3⟩
            case measure =>
              rw [y7P, y7P, hwr, Int.toNat_natCast, Int.toNat_natCast]; exact hm9
          · have hke : k = m.L.length := by omega
            subst hke
            rw [List.drop_eq_nil_of_le (Nat.le_refl _)] at hgo
            have hr : acc = r := by simpa [z1Y] using hgo
            subst hr
            go_wp2_with fail
            refine (Any.Builder_String_any_k (ρ := v5E) { v6N with } v6D (w.heap.size + 1) (w.heap.size + 1) acc wr hI (by
              rcases hI with ⟨h1, v, h2, -⟩ | ⟨h1, v, h2, -⟩ <;> exact Nat.le_of_lt (Array.getElem?_eq_some_iff.1 h2).1)).mono ?_
            rintro e W1 ⟨rfl, h9, b1, -⟩
            go_wp2
            go_ret
            exact ⟨_, κ, rfl, y4j B (hbw.trans (b1.mono (by omega))), rfl, .d _ _ (.str acc)⟩
def y3U : (i : z3b) → z9G i → Prop
  | .z0t a b, r => Trip Tryz.prog 7 [.d (gT a.K a.N a.S (List.map zD.toD a.L) a.From a.To), .d (gT b.K b.N b.S (List.map zD.toD b.L) b.From b.To)] [] [(nB r)] []
  | .wZ i a b, r => Ok (z9X (Trip Tryz.prog) [(nB r)] []) (kL Tryz.f7 4) ⟨53, [(2, .ref 2 1 0), (3, .ref 3 1 0), (5, (nI i))], [(2, 1, some (.agg (gT a.K a.N a.S (List.map zD.toD a.L) a.From a.To))), (3, 1, some (.agg (gT b.K b.N b.S (List.map zD.toD b.L) b.From b.To)))], [], 0⟩
theorem y8q : ∀ i r, z2Z z4N i = some r → y3U i r := by
  refine uR z9C fun g ih i => ?_
  cases i with
  | z0t a b =>
    have ih_ref06Same_L4 := fun i a b r h => ih (.wZ i a b) r h
    intro r h
    replace h : z4W (fun i a b => g (z3b.wZ i a b)) a b = some r := h
    unfold z4W at h
    refine yE 1000 (by kernel_rfl) (by kernel_rfl) (by kernel_rfl) (by kernel_rfl) (by kernel_rfl) (y8F _ _ _ _ a b) ?_
    rintro _ rfl
    refine uP beq_iff_eq h (fun _ h => ?_) (fun _ h => ?_)
    ·
      rintro _ rfl
      refine uP beq_iff_eq h (fun _ h => ?_) (fun _ h => ?_)
      ·
        rintro _ rfl
        refine uP beq_iff_eq h (fun _ h => ?_) (fun _ h => ?_)
        ·
          refine z2R (e' := (List.length a.L : Int)) (by first | rfl | rw [List.length_map]) ?_
          refine z2R (e' := (List.length b.L : Int)) (by first | rfl | rw [List.length_map]) ?_
          rintro _ rfl
          refine uP beq_iff_eq h (fun _ h => ?_) (fun _ h => ?_)
          ·
            exact ih_ref06Same_L4 _ _ _ _ h
          cases h; exact ⟨rfl, rfl⟩
        cases h; exact ⟨rfl, rfl⟩
      cases h; exact ⟨rfl, rfl⟩
    cases h; exact ⟨rfl, rfl⟩
  | wZ i a b =>
    have ih_ref06Same := fun a b r h => ih (.z0t a b) r h
    have ih_ref06Same_L4 := fun i a b r h => ih (.wZ i a b) r h
    intro r h
    replace h : z2c (fun a b => g (z3b.z0t a b)) (fun i a b => g (z3b.wZ i a b)) i a b = some r := h
    unfold z2c at h
    refine z6V 1000 (y5y _ _ _ _ i a b) ?_
    refine z2R (e' := (List.length a.L : Int)) (by first | rfl | rw [List.length_map]) ?_
    rintro _ rfl
    refine zE decide_eq_true_iff h (fun _ h => ?_) (fun _ h => ?_)
    ·
      obtain ⟨x, hx, h⟩ := zC h
      refine ⟨z2a (l := a.L) (zD.sz), z9B hx, x.K, x.N, x.S, List.map zD.toD x.L, x.From, x.To, z6a (zD.toD_eq x) hx, ?_⟩
      obtain ⟨x1, hx, h⟩ := zC h
      refine ⟨z2a (l := b.L) (zD.sz), z9B hx, x1.K, x1.N, x1.S, List.map zD.toD x1.L, x1.From, x1.To, z6a (zD.toD_eq x1) hx, ?_⟩
      obtain ⟨q1, g, h⟩ := zC h
      refine ⟨_, ⟨_, ih_ref06Same _ _ _ g⟩, ?_⟩
      refine uP Iff.rfl h (fun _ h => ?_) (fun _ h => ?_)
      ·
        rintro _ rfl
        exact ih_ref06Same_L4 _ _ _ _ h
      cases h; exact ⟨rfl, rfl⟩
    cases h; exact ⟨rfl, rfl⟩
theorem y8r (a b : zD) (r : Bool) (h : z0t a b = some r) : y3U (.z0t a b) r := y8q (.z0t a b) r h
theorem z3v (c : Int) (text : Str) (at_ : Int) (out : List zB) (r : Bool) (h : z0E c text at_ out = some r) : Trip Tryz.prog 42 [.hp 0 0, .d (.int .u8 c)] [(hX text at_ (List.map zB.toD out))] [(nB r)] [(hX text at_ (List.map zB.toD out))] := by
  unfold z0E at h
  refine yE 1000 (by kernel_rfl) (by kernel_rfl) (by kernel_rfl) (by kernel_rfl) (by kernel_rfl) (z9g _ _ _ _ c text at_ out) ?_
  rintro _ rfl
  refine zE decide_eq_true_iff h (fun _ h => ?_) (fun _ h => ?_)
  ·
    rintro _ rfl
    cases h; exact ⟨rfl, rfl⟩
  cases h; exact ⟨rfl, rfl⟩
theorem z5d (c : Int) (text : Str) (at_ : Int) (out : List zB) (r : Bool) (h : z0V c text at_ out = some r) : Trip Tryz.prog 40 [.hp 0 0, .d (.int .u8 c)] [(hX text at_ (List.map zB.toD out))] [(nB r)] [(hX text at_ (List.map zB.toD out))] := by
  unfold z0V at h
  refine yE 1000 (by kernel_rfl) (by kernel_rfl) (by kernel_rfl) (by kernel_rfl) (by kernel_rfl) (z8i _ _ _ _ c text at_ out) ?_
  rintro _ rfl
  refine zE decide_eq_true_iff h (fun _ h => ?_) (fun _ h => ?_)
  ·
    rintro _ rfl
    refine zE decide_eq_true_iff h (fun _ h => ?_) (fun _ h => ?_)
    ·
      cases h; exact ⟨rfl, rfl⟩
    rintro _ rfl
    refine zE decide_eq_true_iff h (fun _ h => ?_) (fun _ h => ?_)
    ·
      rintro _ rfl
      refine zE decide_eq_true_iff h (fun _ h => ?_) (fun _ h => ?_)
      ·
        cases h; exact ⟨rfl, rfl⟩
      rintro _ rfl
      cases h; exact ⟨rfl, rfl⟩
    rintro _ rfl
    cases h; exact ⟨rfl, rfl⟩
  rintro _ rfl
  refine zE decide_eq_true_iff h (fun _ h => ?_) (fun _ h => ?_)
  ·
    rintro _ rfl
    refine zE decide_eq_true_iff h (fun _ h => ?_) (fun _ h => ?_)
    ·
      cases h; exact ⟨rfl, rfl⟩
    rintro _ rfl
    cases h; exact ⟨rfl, rfl⟩
  rintro _ rfl
  cases h; exact ⟨rfl, rfl⟩
theorem z2I (k n : Int) (s : Str) (from_ : Int) (text : Str) (at_ : Int) (out : List zB) (r : Str × Int × List zB) (h : z0X k n s from_ text at_ out = some r) : Trip Tryz.prog 20 [.hp 0 0, (nI k), (nI n), (nS s), (nI from_)] [(hX text at_ (List.map zB.toD out))] [] [(hX r.1 r.2.1 (List.map zB.toD r.2.2))] := by
  unfold z0X at h
  refine yE 1000 (by kernel_rfl) (by kernel_rfl) (by kernel_rfl) (by kernel_rfl) (by kernel_rfl) (y3A _ _ _ _ k n s from_ text at_ out) ?_
  refine ⟨by simp [jP, D.cells], ?_⟩
  refine ⟨by first | rfl | decide | simp only [List.length_map, List.length_cons, List.length_nil, List.map_append, List.length_append], ?_⟩
  obtain ⟨hP, h⟩ := gX h
  refine ⟨by first | exact hP | simpa using hP, ?_⟩
  refine z2R (e' := List.map zB.toD (out ++ [(zB.mk k n s from_ at_)])) (by first | rfl | simp only [List.map_append, List.map_cons, List.map_nil, List.map_take, List.map_drop, List.map_set, List.map_replicate, List.length_map, zB.toD_eq]) ?_
  refine ⟨by first | rfl | decide | simp only [List.length_map, List.length_cons, List.length_nil, List.map_append, List.length_append], ?_⟩
  cases h; exact ⟨rfl, rfl⟩
def z4I : (i : z1M) → z2N i → Prop
  | .yD from_ s v v29 v30 text at_ out, r => Ok (z3P (Trip Tryz.prog) [(nI r.1)] [(hX r.2.1 r.2.2.1 (List.map zB.toD r.2.2.2))]) (kL Tryz.f43 7) ⟨49, [(0, .hp 0 0), (3, (nI from_)), (4, (nS s)), (5, .d (.int .u64 v)), (29, (nI v29)), (30, (nI v30))], [], [(hX text at_ (List.map zB.toD out))], 0⟩
theorem z7y : ∀ i r, z2Z z1K i = some r → z4I i r := by
  refine uR z4G fun g ih i => ?_
  cases i with
  | yD from_ s v v29 v30 text at_ out =>
    have ih_lex_reader_number_L7 := fun from_ s v v29 v30 text at_ out r h => ih (.yD from_ s v v29 v30 text at_ out) r h
    intro r h
    replace h : jZ (fun from_ s v v29 v30 text at_ out => g (z1M.yD from_ s v v29 v30 text at_ out)) from_ s v v29 v30 text at_ out = some r := h
    unfold jZ at h
    refine z6V 1000 (z7D _ _ _ _ from_ s v v29 v30 text at_ out) ?_
    rintro _ rfl
    refine zE decide_eq_true_iff h (fun _ h => ?_) (fun _ h => ?_)
    ·
      rintro _ rfl
      obtain ⟨c, hx, h⟩ := zC h
      refine ⟨z9B hx, c, v4a hx, ?_⟩
      rintro _ rfl
      rintro _ rfl
      rintro _ rfl
      rintro _ rfl
      rintro _ rfl
      exact ih_lex_reader_number_L7 _ _ _ _ _ _ _ _ _ h
    rintro _ rfl
    refine zE decide_eq_true_iff h (fun _ h => ?_) (fun _ h => ?_)
    ·
      cases h; exact ⟨rfl, rfl⟩
    rintro _ rfl
    obtain ⟨q1, g, h⟩ := zC h
    refine ⟨_, _, _, z2I _ _ _ _ _ _ _ _ g, ?_⟩
    cases h; exact ⟨rfl, rfl⟩
theorem z4K (from_ : Int) (s : Str) (v v29 v30 : Int) (text : Str) (at_ : Int) (out : List zB) (r : Int × Str × Int × List zB) (h : yD from_ s v v29 v30 text at_ out = some r) : z4I (.yD from_ s v v29 v30 text at_ out) r := z7y (.yD from_ s v v29 v30 text at_ out) r h
def z1O : (i : jT) → z0y i → Prop
  | .zQ from_ text at_ out, r => Ok (z0R (Trip Tryz.prog) [(nS r.1)] [(hX r.2.1 r.2.2.1 (List.map zB.toD r.2.2.2))]) (kL Tryz.f38 2) ⟨50, [(0, .hp 0 0), (1, .fn 42 [.hp 0 0] []), (5, (nI from_))], [], [(hX text at_ (List.map zB.toD out))], 0⟩
theorem z3Z : ∀ i r, z2Z jS i = some r → z1O i r := by
  refine uR z1N fun g ih i => ?_
  cases i with
  | zQ from_ text at_ out =>
    have ih_lex_reader_run_reader_isDigit_L2 := fun from_ text at_ out r h => ih (.zQ from_ text at_ out) r h
    intro r h
    replace h : vR (fun from_ text at_ out => g (jT.zQ from_ text at_ out)) from_ text at_ out = some r := h
    unfold vR at h
    refine z6V 1000 (z4b _ _ _ _ from_ text at_ out) ?_
    rintro _ rfl
    rintro _ rfl
    refine zE decide_eq_true_iff h (fun _ h => ?_) (fun _ h => ?_)
    ·
      obtain ⟨c, hx, h⟩ := zC h
      refine ⟨z9B hx, c, v4a hx, ?_⟩
      rintro _ rfl
      obtain ⟨q1, g, h⟩ := zC h
      refine ⟨_, z3v _ _ _ _ _ g, ?_⟩
      refine zE Iff.rfl h (fun _ h => ?_) (fun _ h => ?_)
      ·
        rintro _ rfl
        exact ih_lex_reader_run_reader_isDigit_L2 _ _ _ _ _ h
      obtain ⟨hP, h⟩ := gX h
      refine ⟨by first | exact hP | simpa using hP, ?_⟩
      obtain ⟨hP, h⟩ := gX h
      refine ⟨by first | exact hP | simpa using hP, ?_⟩
      obtain ⟨hP, h⟩ := gX h
      refine ⟨by first | exact hP | simpa using hP, ?_⟩
      obtain ⟨hP, h⟩ := gX h
      refine ⟨by first | exact hP | simpa using hP, ?_⟩
      rintro _ rfl
      cases h; exact ⟨rfl, rfl⟩
    obtain ⟨hP, h⟩ := gX h
    refine ⟨by first | exact hP | simpa using hP, ?_⟩
    obtain ⟨hP, h⟩ := gX h
    refine ⟨by first | exact hP | simpa using hP, ?_⟩
    obtain ⟨hP, h⟩ := gX h
    refine ⟨by first | exact hP | simpa using hP, ?_⟩
    obtain ⟨hP, h⟩ := gX h
    refine ⟨by first | exact hP | simpa using hP, ?_⟩
    rintro _ rfl
    cases h; exact ⟨rfl, rfl⟩
theorem z4a (from_ : Int) (text : Str) (at_ : Int) (out : List zB) (r : Str × Str × Int × List zB) (h : zQ from_ text at_ out = some r) : z1O (.zQ from_ text at_ out) r := z3Z (.zQ from_ text at_ out) r h
theorem z4O (text : Str) (at_ : Int) (out : List zB) (r : Str × Str × Int × List zB) (h : z0i text at_ out = some r) : Trip Tryz.prog 38 [.hp 0 0, .fn 42 [.hp 0 0] []] [(hX text at_ (List.map zB.toD out))] [(nS r.1)] [(hX r.2.1 r.2.2.1 (List.map zB.toD r.2.2.2))] := by
  unfold z0i at h
  refine yE 1000 (by kernel_rfl) (by kernel_rfl) (by kernel_rfl) (by kernel_rfl) (by kernel_rfl) (z4T _ _ _ _ text at_ out) ?_
  exact z4a _ _ _ _ _ h
theorem z9J (text : Str) (at_ : Int) (out : List zB) (r : Int × Str × Int × List zB) (h : z3n text at_ out = some r) : Trip Tryz.prog 43 [.hp 0 0] [(hX text at_ (List.map zB.toD out))] [(nI r.1)] [(hX r.2.1 r.2.2.1 (List.map zB.toD r.2.2.2))] := by
  unfold z3n at h
  refine yE 1000 (by kernel_rfl) (by kernel_rfl) (by kernel_rfl) (by kernel_rfl) (by kernel_rfl) (y0f _ _ _ _ text at_ out) ?_
  obtain ⟨q1, g, h⟩ := zC h
  refine ⟨_, _, _, _, z4O _ _ _ _ g, ?_⟩
  rintro _ rfl
  rintro _ rfl
  refine zE decide_eq_true_iff h (fun _ h => ?_) (fun _ h => ?_)
  ·
    cases h; exact ⟨rfl, rfl⟩
  rintro _ rfl
  rintro _ rfl
  refine zE decide_eq_true_iff h (fun _ h => ?_) (fun _ h => ?_)
  ·
    obtain ⟨c, hx, h⟩ := zC h
    refine ⟨z9B hx, c, v4a hx, ?_⟩
    rintro _ rfl
    rintro _ rfl
    refine zE beq_iff_eq h (fun _ h => ?_) (fun _ h => ?_)
    ·
      cases h; exact ⟨rfl, rfl⟩
    rintro _ rfl
    exact z4K _ _ _ _ _ _ _ _ _ h
  rintro _ rfl
  exact z4K _ _ _ _ _ _ _ _ _ h
theorem z6C (k : Int) (text : Str) (at_ : Int) (out : List zB) (r : Int) (h : z1E k text at_ out = some r) : Trip Tryz.prog 37 [.hp 0 0, (nI k)] [(hX text at_ (List.map zB.toD out))] [.d (.int .u8 r)] [(hX text at_ (List.map zB.toD out))] := by
  unfold z1E at h
  refine yE 1000 (by kernel_rfl) (by kernel_rfl) (by kernel_rfl) (by kernel_rfl) (by kernel_rfl) (y2B _ _ _ _ k text at_ out) ?_
  rintro _ rfl
  rintro _ rfl
  rintro _ rfl
  refine zE decide_eq_true_iff h (fun _ h => ?_) (fun _ h => ?_)
  ·
    rintro _ rfl
    obtain ⟨c, hx, h⟩ := zC h
    refine ⟨z9B hx, c, v4a hx, ?_⟩
    rintro _ rfl
    cases h; exact ⟨rfl, rfl⟩
  cases h; exact ⟨rfl, rfl⟩
theorem y6W (s : Str) (r : Bool) (h : z6S s = some r) : Trip Tryz.prog 62 [(nS s)] [] [(nB r)] [] := by
  unfold z6S at h
  refine yE 1000 (by kernel_rfl) (by kernel_rfl) (by kernel_rfl) (by kernel_rfl) (by kernel_rfl) (y7B _ _ _ _ s) ?_
  rintro _ rfl
  refine zE beq_iff_eq h (fun hc82 h => ?_) (fun hc82 h => ?_)
  ·
    refine jH beq_iff_eq hc82 ?_
    cases h; exact ⟨rfl, rfl⟩
  rintro _ rfl
  refine zE beq_iff_eq h (fun hc83 h => ?_) (fun hc83 h => ?_)
  ·
    refine jH beq_iff_eq hc83 ?_
    cases h; exact ⟨rfl, rfl⟩
  rintro _ rfl
  refine zE beq_iff_eq h (fun hc84 h => ?_) (fun hc84 h => ?_)
  ·
    refine jH beq_iff_eq hc84 ?_
    cases h; exact ⟨rfl, rfl⟩
  rintro _ rfl
  refine zE beq_iff_eq h (fun hc85 h => ?_) (fun hc85 h => ?_)
  ·
    refine jH beq_iff_eq hc85 ?_
    cases h; exact ⟨rfl, rfl⟩
  rintro _ rfl
  refine zE beq_iff_eq h (fun hc86 h => ?_) (fun hc86 h => ?_)
  ·
    refine jH beq_iff_eq hc86 ?_
    cases h; exact ⟨rfl, rfl⟩
  rintro _ rfl
  refine zE beq_iff_eq h (fun hc87 h => ?_) (fun hc87 h => ?_)
  ·
    refine jH beq_iff_eq hc87 ?_
    cases h; exact ⟨rfl, rfl⟩
  rintro _ rfl
  refine zE beq_iff_eq h (fun hc88 h => ?_) (fun hc88 h => ?_)
  ·
    refine jH beq_iff_eq hc88 ?_
    cases h; exact ⟨rfl, rfl⟩
  rintro _ rfl
  refine zE beq_iff_eq h (fun hc89 h => ?_) (fun hc89 h => ?_)
  ·
    refine jH beq_iff_eq hc89 ?_
    cases h; exact ⟨rfl, rfl⟩
  rintro _ rfl
  refine zE beq_iff_eq h (fun hc90 h => ?_) (fun hc90 h => ?_)
  ·
    refine jH beq_iff_eq hc90 ?_
    cases h; exact ⟨rfl, rfl⟩
  rintro _ rfl
  refine zE beq_iff_eq h (fun hc91 h => ?_) (fun hc91 h => ?_)
  ·
    refine jH beq_iff_eq hc91 ?_
    cases h; exact ⟨rfl, rfl⟩
  rintro _ rfl
  refine zE beq_iff_eq h (fun hc92 h => ?_) (fun hc92 h => ?_)
  ·
    refine jH beq_iff_eq hc92 ?_
    cases h; exact ⟨rfl, rfl⟩
  rintro _ rfl
  refine zE beq_iff_eq h (fun hc93 h => ?_) (fun hc93 h => ?_)
  ·
    refine jH beq_iff_eq hc93 ?_
    cases h; exact ⟨rfl, rfl⟩
  rintro _ rfl
  refine zE beq_iff_eq h (fun hc94 h => ?_) (fun hc94 h => ?_)
  ·
    refine jH beq_iff_eq hc94 ?_
    cases h; exact ⟨rfl, rfl⟩
  rintro _ rfl
  refine zE beq_iff_eq h (fun hc95 h => ?_) (fun hc95 h => ?_)
  ·
    refine jH beq_iff_eq hc95 ?_
    cases h; exact ⟨rfl, rfl⟩
  rintro _ rfl
  refine zE beq_iff_eq h (fun hc96 h => ?_) (fun hc96 h => ?_)
  ·
    refine jH beq_iff_eq hc96 ?_
    cases h; exact ⟨rfl, rfl⟩
  rintro _ rfl
  refine zE beq_iff_eq h (fun hc97 h => ?_) (fun hc97 h => ?_)
  ·
    refine jH beq_iff_eq hc97 ?_
    cases h; exact ⟨rfl, rfl⟩
  rintro _ rfl
  refine zE beq_iff_eq h (fun hc98 h => ?_) (fun hc98 h => ?_)
  ·
    refine jH beq_iff_eq hc98 ?_
    cases h; exact ⟨rfl, rfl⟩
  rintro _ rfl
  refine zE beq_iff_eq h (fun hc99 h => ?_) (fun hc99 h => ?_)
  ·
    refine jH beq_iff_eq hc99 ?_
    cases h; exact ⟨rfl, rfl⟩
  rintro _ rfl
  refine zE beq_iff_eq h (fun hc100 h => ?_) (fun hc100 h => ?_)
  ·
    refine jH beq_iff_eq hc100 ?_
    cases h; exact ⟨rfl, rfl⟩
  rintro _ rfl
  refine zE beq_iff_eq h (fun _ h => ?_) (fun _ h => ?_)
  ·
    cases h; exact ⟨rfl, rfl⟩
  cases h; exact ⟨rfl, rfl⟩
theorem z9I (c : Int) (text : Str) (at_ : Int) (out : List zB) (r : Bool) (h : z2t c text at_ out = some r) : Trip Tryz.prog 61 [.hp 0 0, .d (.int .u8 c)] [(hX text at_ (List.map zB.toD out))] [(nB r)] [(hX text at_ (List.map zB.toD out))] := by
  unfold z2t at h
  refine yE 1000 (by kernel_rfl) (by kernel_rfl) (by kernel_rfl) (by kernel_rfl) (by kernel_rfl) (y0e _ _ _ _ c text at_ out) ?_
  obtain ⟨q1, g, h⟩ := zC h
  refine ⟨_, z5d _ _ _ _ _ g, ?_⟩
  refine zE Iff.rfl h (fun _ h => ?_) (fun _ h => ?_)
  ·
    cases h; exact ⟨rfl, rfl⟩
  obtain ⟨q2, g, h⟩ := zC h
  refine ⟨_, z3v _ _ _ _ _ g, ?_⟩
  cases h; exact ⟨rfl, rfl⟩
def z1W : (i : gE) → z0B i → Prop
  | .zS from_ text at_ out, r => Ok (z1a (Trip Tryz.prog) [(nS r.1)] [(hX r.2.1 r.2.2.1 (List.map zB.toD r.2.2.2))]) (kL Tryz.f38 2) ⟨50, [(0, .hp 0 0), (1, .fn 61 [.hp 0 0] []), (5, (nI from_))], [], [(hX text at_ (List.map zB.toD out))], 0⟩
theorem z4i : ∀ i r, z2Z gC i = some r → z1W i r := by
  refine uR z1U fun g ih i => ?_
  cases i with
  | zS from_ text at_ out =>
    have ih_lex_reader_run_reader_isMore_L2 := fun from_ text at_ out r h => ih (.zS from_ text at_ out) r h
    intro r h
    replace h : vW (fun from_ text at_ out => g (gE.zS from_ text at_ out)) from_ text at_ out = some r := h
    unfold vW at h
    refine z6V 1000 (z4x _ _ _ _ from_ text at_ out) ?_
    rintro _ rfl
    rintro _ rfl
    refine zE decide_eq_true_iff h (fun _ h => ?_) (fun _ h => ?_)
    ·
      obtain ⟨c, hx, h⟩ := zC h
      refine ⟨z9B hx, c, v4a hx, ?_⟩
      rintro _ rfl
      obtain ⟨q1, g, h⟩ := zC h
      refine ⟨_, z9I _ _ _ _ _ g, ?_⟩
      refine zE Iff.rfl h (fun _ h => ?_) (fun _ h => ?_)
      ·
        rintro _ rfl
        exact ih_lex_reader_run_reader_isMore_L2 _ _ _ _ _ h
      obtain ⟨hP, h⟩ := gX h
      refine ⟨by first | exact hP | simpa using hP, ?_⟩
      obtain ⟨hP, h⟩ := gX h
      refine ⟨by first | exact hP | simpa using hP, ?_⟩
      obtain ⟨hP, h⟩ := gX h
      refine ⟨by first | exact hP | simpa using hP, ?_⟩
      obtain ⟨hP, h⟩ := gX h
      refine ⟨by first | exact hP | simpa using hP, ?_⟩
      rintro _ rfl
      cases h; exact ⟨rfl, rfl⟩
    obtain ⟨hP, h⟩ := gX h
    refine ⟨by first | exact hP | simpa using hP, ?_⟩
    obtain ⟨hP, h⟩ := gX h
    refine ⟨by first | exact hP | simpa using hP, ?_⟩
    obtain ⟨hP, h⟩ := gX h
    refine ⟨by first | exact hP | simpa using hP, ?_⟩
    obtain ⟨hP, h⟩ := gX h
    refine ⟨by first | exact hP | simpa using hP, ?_⟩
    rintro _ rfl
    cases h; exact ⟨rfl, rfl⟩
theorem z4r (from_ : Int) (text : Str) (at_ : Int) (out : List zB) (r : Str × Str × Int × List zB) (h : zS from_ text at_ out = some r) : z1W (.zS from_ text at_ out) r := z4i (.zS from_ text at_ out) r h
theorem z5f (text : Str) (at_ : Int) (out : List zB) (r : Str × Str × Int × List zB) (h : z0x text at_ out = some r) : Trip Tryz.prog 38 [.hp 0 0, .fn 61 [.hp 0 0] []] [(hX text at_ (List.map zB.toD out))] [(nS r.1)] [(hX r.2.1 r.2.2.1 (List.map zB.toD r.2.2.2))] := by
  unfold z0x at h
  refine yE 1000 (by kernel_rfl) (by kernel_rfl) (by kernel_rfl) (by kernel_rfl) (by kernel_rfl) (z5j _ _ _ _ text at_ out) ?_
  exact z4r _ _ _ _ _ h
theorem y2o (text : Str) (at_ : Int) (out : List zB) (r : Int × Str × Int × List zB) (h : z4A text at_ out = some r) : Trip Tryz.prog 41 [.hp 0 0] [(hX text at_ (List.map zB.toD out))] [(nI r.1)] [(hX r.2.1 r.2.2.1 (List.map zB.toD r.2.2.2))] := by
  unfold z4A at h
  refine yE 1000 (by kernel_rfl) (by kernel_rfl) (by kernel_rfl) (by kernel_rfl) (by kernel_rfl) (y2D _ _ _ _ text at_ out) ?_
  obtain ⟨q1, g, h⟩ := zC h
  refine ⟨_, _, _, _, z5f _ _ _ _ g, ?_⟩
  rintro _ rfl
  rintro _ rfl
  refine zE decide_eq_true_iff h (fun _ h => ?_) (fun _ h => ?_)
  ·
    cases h; exact ⟨rfl, rfl⟩
  obtain ⟨q2, g, h⟩ := zC h
  refine ⟨_, ⟨_, y6W _ _ g⟩, ?_⟩
  refine zE Iff.rfl h (fun _ h => ?_) (fun _ h => ?_)
  ·
    obtain ⟨q3, g, h⟩ := zC h
    refine ⟨_, _, _, z2I _ _ _ _ _ _ _ _ g, ?_⟩
    cases h; exact ⟨rfl, rfl⟩
  obtain ⟨q4, g, h⟩ := zC h
  refine ⟨_, _, _, z2I _ _ _ _ _ _ _ _ g, ?_⟩
  cases h; exact ⟨rfl, rfl⟩
theorem y6X (c d r : Int) (h : z6T c d = some r) : Trip Tryz.prog 44 [.d (.int .u8 c), .d (.int .u8 d)] [] [(nI r)] [] := by
  unfold z6T at h
  refine yE 1000 (by kernel_rfl) (by kernel_rfl) (by kernel_rfl) (by kernel_rfl) (by kernel_rfl) (y7C _ _ _ _ c d) ?_
  rintro _ rfl
  refine zE beq_iff_eq h (fun hc107 h => ?_) (fun hc107 h => ?_)
  ·
    refine jH beq_iff_eq hc107 ?_
    rintro _ rfl
    refine zE beq_iff_eq h (fun _ h => ?_) (fun _ h => ?_)
    ·
      cases h; exact ⟨rfl, rfl⟩
    cases h; exact ⟨rfl, rfl⟩
  rintro _ rfl
  refine zE beq_iff_eq h (fun hc109 h => ?_) (fun hc109 h => ?_)
  ·
    refine jH beq_iff_eq hc109 ?_
    rintro _ rfl
    refine zE beq_iff_eq h (fun _ h => ?_) (fun _ h => ?_)
    ·
      cases h; exact ⟨rfl, rfl⟩
    cases h; exact ⟨rfl, rfl⟩
  rintro _ rfl
  refine zE beq_iff_eq h (fun hc111 h => ?_) (fun hc111 h => ?_)
  ·
    refine jH beq_iff_eq hc111 ?_
    rintro _ rfl
    refine zE beq_iff_eq h (fun _ h => ?_) (fun _ h => ?_)
    ·
      cases h; exact ⟨rfl, rfl⟩
    cases h; exact ⟨rfl, rfl⟩
  rintro _ rfl
  refine zE beq_iff_eq h (fun _ h => ?_) (fun _ h => ?_)
  ·
    rintro _ rfl
    refine zE beq_iff_eq h (fun _ h => ?_) (fun _ h => ?_)
    ·
      cases h; exact ⟨rfl, rfl⟩
    cases h; exact ⟨rfl, rfl⟩
  rintro _ rfl
  refine zE beq_iff_eq h (fun hc115 h => ?_) (fun hc115 h => ?_)
  ·
    refine jH beq_iff_eq hc115 ?_
    rintro _ rfl
    refine zE beq_iff_eq h (fun _ h => ?_) (fun _ h => ?_)
    ·
      cases h; exact ⟨rfl, rfl⟩
    cases h; exact ⟨rfl, rfl⟩
  rintro _ rfl
  refine zE beq_iff_eq h (fun _ h => ?_) (fun _ h => ?_)
  ·
    rintro _ rfl
    refine zE beq_iff_eq h (fun _ h => ?_) (fun _ h => ?_)
    ·
      cases h; exact ⟨rfl, rfl⟩
    cases h; exact ⟨rfl, rfl⟩
  rintro _ rfl
  refine zE beq_iff_eq h (fun hc119 h => ?_) (fun hc119 h => ?_)
  ·
    refine jH beq_iff_eq hc119 ?_
    cases h; exact ⟨rfl, rfl⟩
  rintro _ rfl
  refine zE beq_iff_eq h (fun hc120 h => ?_) (fun hc120 h => ?_)
  ·
    refine jH beq_iff_eq hc120 ?_
    cases h; exact ⟨rfl, rfl⟩
  rintro _ rfl
  refine zE beq_iff_eq h (fun hc121 h => ?_) (fun hc121 h => ?_)
  ·
    refine jH beq_iff_eq hc121 ?_
    cases h; exact ⟨rfl, rfl⟩
  rintro _ rfl
  refine zE beq_iff_eq h (fun hc122 h => ?_) (fun hc122 h => ?_)
  ·
    refine jH beq_iff_eq hc122 ?_
    cases h; exact ⟨rfl, rfl⟩
  rintro _ rfl
  refine zE beq_iff_eq h (fun hc123 h => ?_) (fun hc123 h => ?_)
  ·
    refine jH beq_iff_eq hc123 ?_
    cases h; exact ⟨rfl, rfl⟩
  rintro _ rfl
  refine zE beq_iff_eq h (fun hc124 h => ?_) (fun hc124 h => ?_)
  ·
    refine jH beq_iff_eq hc124 ?_
    cases h; exact ⟨rfl, rfl⟩
  rintro _ rfl
  refine zE beq_iff_eq h (fun hc125 h => ?_) (fun hc125 h => ?_)
  ·
    refine jH beq_iff_eq hc125 ?_
    cases h; exact ⟨rfl, rfl⟩
  rintro _ rfl
  refine zE beq_iff_eq h (fun hc126 h => ?_) (fun hc126 h => ?_)
  ·
    refine jH beq_iff_eq hc126 ?_
    cases h; exact ⟨rfl, rfl⟩
  rintro _ rfl
  refine zE beq_iff_eq h (fun hc127 h => ?_) (fun hc127 h => ?_)
  ·
    refine jH beq_iff_eq hc127 ?_
    cases h; exact ⟨rfl, rfl⟩
  rintro _ rfl
  refine zE beq_iff_eq h (fun hc128 h => ?_) (fun hc128 h => ?_)
  ·
    refine jH beq_iff_eq hc128 ?_
    cases h; exact ⟨rfl, rfl⟩
  rintro _ rfl
  refine zE beq_iff_eq h (fun hc129 h => ?_) (fun hc129 h => ?_)
  ·
    refine jH beq_iff_eq hc129 ?_
    cases h; exact ⟨rfl, rfl⟩
  rintro _ rfl
  refine zE beq_iff_eq h (fun hc130 h => ?_) (fun hc130 h => ?_)
  ·
    refine jH beq_iff_eq hc130 ?_
    cases h; exact ⟨rfl, rfl⟩
  rintro _ rfl
  refine zE beq_iff_eq h (fun hc131 h => ?_) (fun hc131 h => ?_)
  ·
    refine jH beq_iff_eq hc131 ?_
    cases h; exact ⟨rfl, rfl⟩
  rintro _ rfl
  refine zE beq_iff_eq h (fun hc132 h => ?_) (fun hc132 h => ?_)
  ·
    refine jH beq_iff_eq hc132 ?_
    cases h; exact ⟨rfl, rfl⟩
  rintro _ rfl
  refine zE beq_iff_eq h (fun hc133 h => ?_) (fun hc133 h => ?_)
  ·
    refine jH beq_iff_eq hc133 ?_
    cases h; exact ⟨rfl, rfl⟩
  rintro _ rfl
  refine zE beq_iff_eq h (fun _ h => ?_) (fun _ h => ?_)
  ·
    cases h; exact ⟨rfl, rfl⟩
  cases h; exact ⟨rfl, rfl⟩
theorem y3m (text : Str) (at_ : Int) (out : List zB) (r : Int × Str × Int × List zB) (h : z2M text at_ out = some r) : Trip Tryz.prog 19 [.hp 0 0] [(hX text at_ (List.map zB.toD out))] [(nI r.1)] [(hX r.2.1 r.2.2.1 (List.map zB.toD r.2.2.2))] := by
  unfold z2M at h
  refine yE 1000 (by kernel_rfl) (by kernel_rfl) (by kernel_rfl) (by kernel_rfl) (by kernel_rfl) (y3z _ _ _ _ text at_ out) ?_
  obtain ⟨c, hx, h⟩ := zC h
  refine ⟨z9B hx, c, v4a hx, ?_⟩
  rintro _ rfl
  obtain ⟨q1, g, h⟩ := zC h
  refine ⟨_, z5d _ _ _ _ _ g, ?_⟩
  refine zE Iff.rfl h (fun _ h => ?_) (fun _ h => ?_)
  ·
    obtain ⟨q2, g, h⟩ := zC h
    refine ⟨_, _, _, _, y2o _ _ _ _ g, ?_⟩
    cases h; exact ⟨rfl, rfl⟩
  obtain ⟨q3, g, h⟩ := zC h
  refine ⟨_, z3v _ _ _ _ _ g, ?_⟩
  refine zE Iff.rfl h (fun _ h => ?_) (fun _ h => ?_)
  ·
    obtain ⟨q4, g, h⟩ := zC h
    refine ⟨_, _, _, _, z9J _ _ _ _ g, ?_⟩
    cases h; exact ⟨rfl, rfl⟩
  obtain ⟨q5, g, h⟩ := zC h
  refine ⟨_, z6C _ _ _ _ _ g, ?_⟩
  obtain ⟨q6, g, h⟩ := zC h
  refine ⟨_, ⟨_, y6X _ _ _ g⟩, ?_⟩
  rintro _ rfl
  refine zE beq_iff_eq h (fun _ h => ?_) (fun _ h => ?_)
  ·
    cases h; exact ⟨rfl, rfl⟩
  rintro _ rfl
  obtain ⟨hP, h⟩ := gX h
  refine ⟨by first | exact hP | simpa using hP, ?_⟩
  obtain ⟨hP, h⟩ := gX h
  refine ⟨by first | exact hP | simpa using hP, ?_⟩
  obtain ⟨hP, h⟩ := gX h
  refine ⟨by first | exact hP | simpa using hP, ?_⟩
  obtain ⟨hP, h⟩ := gX h
  refine ⟨by first | exact hP | simpa using hP, ?_⟩
  rintro _ rfl
  obtain ⟨q7, g, h⟩ := zC h
  refine ⟨_, _, _, z2I _ _ _ _ _ _ _ _ g, ?_⟩
  cases h; exact ⟨rfl, rfl⟩
theorem z9H (c : Int) (text : Str) (at_ : Int) (out : List zB) (r : Bool) (h : z2s c text at_ out = some r) : Trip Tryz.prog 39 [.hp 0 0, .d (.int .u8 c)] [(hX text at_ (List.map zB.toD out))] [(nB r)] [(hX text at_ (List.map zB.toD out))] := by
  unfold z2s at h
  refine yE 1000 (by kernel_rfl) (by kernel_rfl) (by kernel_rfl) (by kernel_rfl) (by kernel_rfl) (y0d _ _ _ _ c text at_ out) ?_
  rintro _ rfl
  cases h; exact ⟨rfl, rfl⟩
def z1V : (i : gD) → z0A i → Prop
  | .zR from_ text at_ out, r => Ok (z0Z (Trip Tryz.prog) [(nS r.1)] [(hX r.2.1 r.2.2.1 (List.map zB.toD r.2.2.2))]) (kL Tryz.f38 2) ⟨50, [(0, .hp 0 0), (1, .fn 39 [.hp 0 0] []), (5, (nI from_))], [], [(hX text at_ (List.map zB.toD out))], 0⟩
theorem z4h : ∀ i r, z2Z gB i = some r → z1V i r := by
  refine uR z1T fun g ih i => ?_
  cases i with
  | zR from_ text at_ out =>
    have ih_lex_reader_run_reader_isLine_L2 := fun from_ text at_ out r h => ih (.zR from_ text at_ out) r h
    intro r h
    replace h : vV (fun from_ text at_ out => g (gD.zR from_ text at_ out)) from_ text at_ out = some r := h
    unfold vV at h
    refine z6V 1000 (z4w _ _ _ _ from_ text at_ out) ?_
    rintro _ rfl
    rintro _ rfl
    refine zE decide_eq_true_iff h (fun _ h => ?_) (fun _ h => ?_)
    ·
      obtain ⟨c, hx, h⟩ := zC h
      refine ⟨z9B hx, c, v4a hx, ?_⟩
      rintro _ rfl
      obtain ⟨q1, g, h⟩ := zC h
      refine ⟨_, z9H _ _ _ _ _ g, ?_⟩
      refine zE Iff.rfl h (fun _ h => ?_) (fun _ h => ?_)
      ·
        rintro _ rfl
        exact ih_lex_reader_run_reader_isLine_L2 _ _ _ _ _ h
      obtain ⟨hP, h⟩ := gX h
      refine ⟨by first | exact hP | simpa using hP, ?_⟩
      obtain ⟨hP, h⟩ := gX h
      refine ⟨by first | exact hP | simpa using hP, ?_⟩
      obtain ⟨hP, h⟩ := gX h
      refine ⟨by first | exact hP | simpa using hP, ?_⟩
      obtain ⟨hP, h⟩ := gX h
      refine ⟨by first | exact hP | simpa using hP, ?_⟩
      rintro _ rfl
      cases h; exact ⟨rfl, rfl⟩
    obtain ⟨hP, h⟩ := gX h
    refine ⟨by first | exact hP | simpa using hP, ?_⟩
    obtain ⟨hP, h⟩ := gX h
    refine ⟨by first | exact hP | simpa using hP, ?_⟩
    obtain ⟨hP, h⟩ := gX h
    refine ⟨by first | exact hP | simpa using hP, ?_⟩
    obtain ⟨hP, h⟩ := gX h
    refine ⟨by first | exact hP | simpa using hP, ?_⟩
    rintro _ rfl
    cases h; exact ⟨rfl, rfl⟩
theorem z4q (from_ : Int) (text : Str) (at_ : Int) (out : List zB) (r : Str × Str × Int × List zB) (h : zR from_ text at_ out = some r) : z1V (.zR from_ text at_ out) r := z4h (.zR from_ text at_ out) r h
theorem z5e (text : Str) (at_ : Int) (out : List zB) (r : Str × Str × Int × List zB) (h : z0w text at_ out = some r) : Trip Tryz.prog 38 [.hp 0 0, .fn 39 [.hp 0 0] []] [(hX text at_ (List.map zB.toD out))] [(nS r.1)] [(hX r.2.1 r.2.2.1 (List.map zB.toD r.2.2.2))] := by
  unfold z0w at h
  refine yE 1000 (by kernel_rfl) (by kernel_rfl) (by kernel_rfl) (by kernel_rfl) (by kernel_rfl) (z5i _ _ _ _ text at_ out) ?_
  exact z4q _ _ _ _ _ h
def z5w : (i : z2n) → z3t i → Prop
  | .yH text at_ out, r => Ok (z4S (Trip Tryz.prog) [] [(hX r.1 r.2.1 (List.map zB.toD r.2.2))]) (kL Tryz.f18 0) ⟨56, [(0, .hp 0 0)], [], [(hX text at_ (List.map zB.toD out))], 0⟩
theorem z8T : ∀ i r, z2Z z2m i = some r → z5w i r := by
  refine uR z5v fun g ih i => ?_
  cases i with
  | yH text at_ out =>
    have ih_lex_reader_skip_L0 := fun text at_ out r h => ih (.yH text at_ out) r h
    intro r h
    replace h : gZ (fun text at_ out => g (z2n.yH text at_ out)) text at_ out = some r := h
    unfold gZ at h
    refine z6V 1000 (z9h _ _ _ _ text at_ out) ?_
    rintro _ rfl
    rintro _ rfl
    refine zE decide_eq_true_iff h (fun _ h => ?_) (fun _ h => ?_)
    ·
      obtain ⟨c, hx, h⟩ := zC h
      refine ⟨z9B hx, c, v4a hx, ?_⟩
      rintro _ rfl
      rintro _ rfl
      refine zE beq_iff_eq h (fun _ h => ?_) (fun _ h => ?_)
      ·
        rintro _ rfl
        exact ih_lex_reader_skip_L0 _ _ _ _ h
      rintro _ rfl
      refine zE beq_iff_eq h (fun _ h => ?_) (fun _ h => ?_)
      ·
        rintro _ rfl
        exact ih_lex_reader_skip_L0 _ _ _ _ h
      rintro _ rfl
      refine zE beq_iff_eq h (fun _ h => ?_) (fun _ h => ?_)
      ·
        rintro _ rfl
        exact ih_lex_reader_skip_L0 _ _ _ _ h
      rintro _ rfl
      refine zE beq_iff_eq h (fun _ h => ?_) (fun _ h => ?_)
      ·
        rintro _ rfl
        exact ih_lex_reader_skip_L0 _ _ _ _ h
      rintro _ rfl
      refine zE beq_iff_eq h (fun _ h => ?_) (fun _ h => ?_)
      ·
        obtain ⟨q1, g, h⟩ := zC h
        refine ⟨_, z6C _ _ _ _ _ g, ?_⟩
        rintro _ rfl
        refine zE beq_iff_eq h (fun _ h => ?_) (fun _ h => ?_)
        ·
          obtain ⟨q2, g, h⟩ := zC h
          refine ⟨_, _, _, _, z5e _ _ _ _ g, ?_⟩
          exact ih_lex_reader_skip_L0 _ _ _ _ h
        cases h; exact ⟨rfl, rfl⟩
      cases h; exact ⟨rfl, rfl⟩
    cases h; exact ⟨rfl, rfl⟩
theorem z8V (text : Str) (at_ : Int) (out : List zB) (r : Str × Int × List zB) (h : yH text at_ out = some r) : z5w (.yH text at_ out) r := z8T (.yH text at_ out) r h
theorem z6D (text : Str) (at_ : Int) (out : List zB) (r : Str × Int × List zB) (h : z2u text at_ out = some r) : Trip Tryz.prog 18 [.hp 0 0] [(hX text at_ (List.map zB.toD out))] [] [(hX r.1 r.2.1 (List.map zB.toD r.2.2))] := by
  unfold z2u at h
  refine yE 1000 (by kernel_rfl) (by kernel_rfl) (by kernel_rfl) (by kernel_rfl) (by kernel_rfl) (y2C _ _ _ _ text at_ out) ?_
  exact z8V _ _ _ _ h
def z7N : (i : z4k) → z5N i → Prop
  | .wS text text1 at_ out, r => Ok (z7Y (Trip Tryz.prog) (hU (List.map zB.toD r.1) r.2.1 r.2.2) []) (kL Tryz.f9 5) ⟨45, [(0, (nS text)), (5, .hp 0 0)], [], [(hX text1 at_ (List.map zB.toD out))], 0⟩
theorem y3S : ∀ i r, z2Z z4f i = some r → z7N i r := by
  refine uR z7J fun g ih i => ?_
  cases i with
  | wS text text1 at_ out =>
    have ih_lex_Tokens_L5 := fun text text1 at_ out r h => ih (.wS text text1 at_ out) r h
    intro r h
    replace h : z2r (fun text text1 at_ out => g (z4k.wS text text1 at_ out)) text text1 at_ out = some r := h
    unfold z2r at h
    refine z6V 1000 (y4w _ _ _ _ text text1 at_ out) ?_
    rintro _ rfl
    rintro _ rfl
    refine zE decide_eq_true_iff h (fun _ h => ?_) (fun _ h => ?_)
    ·
      obtain ⟨q1, g, h⟩ := zC h
      refine ⟨_, _, _, _, y3m _ _ _ _ g, ?_⟩
      rintro _ rfl
      refine uP beq_iff_eq h (fun _ h => ?_) (fun _ h => ?_)
      ·
        obtain ⟨q2, g, h⟩ := zC h
        refine ⟨_, _, _, z6D _ _ _ _ g, ?_⟩
        exact ih_lex_Tokens_L5 _ _ _ _ _ h
      cases h; exact ⟨rfl, rfl⟩
    obtain ⟨q3, g, h⟩ := zC h
    refine ⟨_, _, _, z2I _ _ _ _ _ _ _ _ g, ?_⟩
    cases h; exact ⟨rfl, rfl⟩
theorem y3Y (text text1 : Str) (at_ : Int) (out : List zB) (r : List zB × Int × Int) (h : wS text text1 at_ out = some r) : z7N (.wS text text1 at_ out) r := y3S (.wS text text1 at_ out) r h
theorem y6V (text : Str) (r : List zB × Int × Int) (h : z6R text = some r) : Trip Tryz.prog 9 [(nS text)] [] (hU (List.map zB.toD r.1) r.2.1 r.2.2) [] := by
  unfold z6R at h
  refine yE 1000 (by kernel_rfl) (by kernel_rfl) (by kernel_rfl) (by kernel_rfl) (by kernel_rfl) (y7A _ _ _ _ text) ?_
  rintro _ rfl
  rintro _ rfl
  refine zE decide_eq_true_iff h (fun _ h => ?_) (fun _ h => ?_)
  ·
    cases h; exact ⟨rfl, rfl⟩
  obtain ⟨q1, g, h⟩ := zC h
  refine ⟨_, _, _, z6D _ _ _ _ g, ?_⟩
  exact y3Y _ _ _ _ _ h
theorem y3n (path : List Int) (v : zD) (size depth : Int) (r : Int × Int) (h : z5b path v size depth = some r) : Trip Tryz.prog 27 [.hp 0 0, .d (.sl (List.map (D.int .i64) path)), .d (gT v.K v.N v.S (List.map zD.toD v.L) v.From v.To)] [[(nI size), (nI depth)]] [] [[(nI r.1), (nI r.2)]] := by
  unfold z5b at h
  refine yE 1000 (by kernel_rfl) (by kernel_rfl) (by kernel_rfl) (by kernel_rfl) (by kernel_rfl) (y3C _ _ _ _ path v size depth) ?_
  rintro _ rfl
  refine z2R (e' := (List.length path : Int)) (by first | rfl | rw [List.length_map]) ?_
  rintro _ rfl
  rintro _ rfl
  cases h; exact ⟨rfl, rfl⟩
def z5c : (i : jI) → z3c i → Prop
  | .yN t path size depth, r => Trip Tryz.prog 26 [.d (gT t.K t.N t.S (List.map zD.toD t.L) t.From t.To), .d (.sl (List.map (D.int .i64) path)), .fn 27 [.hp 0 0] []] [[(nI size), (nI depth)]] [] [[(nI r.1), (nI r.2)]]
  | .zW path v13 v14 v15 size depth, r => Ok (z3d (Trip Tryz.prog) [] [[(nI r.1), (nI r.2)]]) (kL Tryz.f26 3) ⟨33, [(1, .d (.sl (List.map (D.int .i64) path))), (2, .fn 27 [.hp 0 0] []), (13, .d (.sl (List.map zD.toD v13))), (14, (nI v14)), (15, (nI v15))], [], [[(nI size), (nI depth)]], 0⟩
theorem z7L : ∀ i r, z2Z z0r i = some r → z5c i r := by
  refine uR z3a fun g ih i => ?_
  cases i with
  | yN t path size depth =>
    have ih_term_walk_meter_see_L3 := fun path v13 v14 v15 size depth r h => ih (.zW path v13 v14 v15 size depth) r h
    intro r h
    replace h : z0u (fun path v13 v14 v15 size depth => g (jI.zW path v13 v14 v15 size depth)) t path size depth = some r := h
    unfold z0u at h
    refine yE 1000 (by kernel_rfl) (by kernel_rfl) (by kernel_rfl) (by kernel_rfl) (by kernel_rfl) (z8l _ _ _ _ t path size depth) ?_
    obtain ⟨q1, g, h⟩ := zC h
    refine ⟨_, _, y3n _ _ _ _ _ g, ?_⟩
    refine z2R (e' := (List.length t.L : Int)) (by first | rfl | rw [List.length_map]) ?_
    exact ih_term_walk_meter_see_L3 _ _ _ _ _ _ _ h
  | zW path v13 v14 v15 size depth =>
    have ih_term_walk_meter_see := fun t path size depth r h => ih (.yN t path size depth) r h
    have ih_term_walk_meter_see_L3 := fun path v13 v14 v15 size depth r h => ih (.zW path v13 v14 v15 size depth) r h
    intro r h
    replace h : jA (fun t path size depth => g (jI.yN t path size depth)) (fun path v13 v14 v15 size depth => g (jI.zW path v13 v14 v15 size depth)) path v13 v14 v15 size depth = some r := h
    unfold jA at h
    refine z6V 1000 (z6N _ _ _ _ path v13 v14 v15 size depth) ?_
    rintro _ rfl
    refine zE decide_eq_true_iff h (fun _ h => ?_) (fun _ h => ?_)
    ·
      obtain ⟨x, hx, h⟩ := zC h
      refine ⟨z2a (l := v13) (zD.sz), z9B hx, x.K, x.N, x.S, List.map zD.toD x.L, x.From, x.To, z6a (zD.toD_eq x) hx, ?_⟩
      refine z2R (e' := (List.length path : Int)) (by first | rfl | rw [List.length_map]) ?_
      refine z2R (e' := (List.length path : Int)) (by first | rfl | rw [List.length_map]) ?_
      refine ⟨z2a (l := path) (fun _ => rfl), ?_⟩
      obtain ⟨hP, h⟩ := gX h
      refine ⟨by first | exact hP | simpa using hP, ?_⟩
      obtain ⟨hP, h⟩ := gX h
      refine ⟨by first | exact hP | simpa using hP, ?_⟩
      obtain ⟨hP, h⟩ := gX h
      refine ⟨by first | exact hP | simpa using hP, ?_⟩
      obtain ⟨hP, h⟩ := gX h
      refine ⟨by first | exact hP | simpa using hP, ?_⟩
      obtain ⟨hP, h⟩ := gX h
      refine ⟨by first | exact hP | simpa using hP, ?_⟩
      refine z2R (e' := List.map (D.int .i64) (List.drop 0 (List.take (Int.toNat (List.length path : Int)) path))) (by first | rfl | simp only [List.map_append, List.map_cons, List.map_nil, List.map_take, List.map_drop, List.map_set, List.map_replicate, List.length_map]) ?_
      refine ⟨by simp [jP, D.cells], ?_⟩
      refine ⟨by first | rfl | decide | simp only [List.length_map, List.length_cons, List.length_nil, List.map_append, List.length_append], ?_⟩
      obtain ⟨hP, h⟩ := gX h
      refine ⟨by first | exact hP | simpa using hP, ?_⟩
      refine z2R (e' := List.map (D.int .i64) ((List.drop 0 (List.take (Int.toNat (List.length path : Int)) path)) ++ [v15])) (by first | rfl | simp only [List.map_append, List.map_cons, List.map_nil, List.map_take, List.map_drop, List.map_set, List.map_replicate, List.length_map]) ?_
      obtain ⟨q1, g, h⟩ := zC h
      refine ⟨_, _, ih_term_walk_meter_see _ _ _ _ _ g, ?_⟩
      rintro _ rfl
      exact ih_term_walk_meter_see_L3 _ _ _ _ _ _ _ h
    cases h; exact ⟨rfl, rfl⟩
theorem z7Q (t : zD) (path : List Int) (size depth : Int) (r : Int × Int) (h : yN t path size depth = some r) : z5c (.yN t path size depth) r := z7L (.yN t path size depth) r h
theorem y7a (t : zD) (r : Int) (h : z7e t = some r) : Trip Tryz.prog 11 [.d (gT t.K t.N t.S (List.map zD.toD t.L) t.From t.To)] [] [(nI r)] [] := by
  unfold z7e at h
  refine yE 1000 (by kernel_rfl) (by kernel_rfl) (by kernel_rfl) (by kernel_rfl) (by kernel_rfl) (y7H _ _ _ _ t) ?_
  obtain ⟨q1, g, h⟩ := zC h
  refine ⟨_, _, z7Q _ _ _ _ _ g, ?_⟩
  cases h; exact ⟨rfl, rfl⟩
theorem y3X (t : zB) (r : Int × Int) (h : z4y t = some r) : Trip Tryz.prog 91 [.d (gK t.K t.N t.S t.From t.To)] [] [(nI r.1), (nI r.2)] [] := by
  unfold z4y at h
  refine yE 1000 (by kernel_rfl) (by kernel_rfl) (by kernel_rfl) (by kernel_rfl) (by kernel_rfl) (y4u _ _ _ _ t) ?_
  rintro _ rfl
  refine uP beq_iff_eq h (fun _ h => ?_) (fun _ h => ?_)
  ·
    rintro _ rfl
    refine zE beq_iff_eq h (fun _ h => ?_) (fun _ h => ?_)
    ·
      cases h; exact ⟨rfl, rfl⟩
    rintro _ rfl
    refine zE beq_iff_eq h (fun _ h => ?_) (fun _ h => ?_)
    ·
      cases h; exact ⟨rfl, rfl⟩
    rintro _ rfl
    refine zE beq_iff_eq h (fun _ h => ?_) (fun _ h => ?_)
    ·
      cases h; exact ⟨rfl, rfl⟩
    rintro _ rfl
    refine zE beq_iff_eq h (fun _ h => ?_) (fun _ h => ?_)
    ·
      cases h; exact ⟨rfl, rfl⟩
    rintro _ rfl
    refine zE beq_iff_eq h (fun _ h => ?_) (fun _ h => ?_)
    ·
      cases h; exact ⟨rfl, rfl⟩
    rintro _ rfl
    refine zE beq_iff_eq h (fun _ h => ?_) (fun _ h => ?_)
    ·
      cases h; exact ⟨rfl, rfl⟩
    rintro _ rfl
    refine zE beq_iff_eq h (fun _ h => ?_) (fun _ h => ?_)
    ·
      cases h; exact ⟨rfl, rfl⟩
    rintro _ rfl
    refine zE beq_iff_eq h (fun _ h => ?_) (fun _ h => ?_)
    ·
      cases h; exact ⟨rfl, rfl⟩
    rintro _ rfl
    refine zE beq_iff_eq h (fun _ h => ?_) (fun _ h => ?_)
    ·
      cases h; exact ⟨rfl, rfl⟩
    rintro _ rfl
    refine zE beq_iff_eq h (fun _ h => ?_) (fun _ h => ?_)
    ·
      cases h; exact ⟨rfl, rfl⟩
    rintro _ rfl
    refine zE beq_iff_eq h (fun _ h => ?_) (fun _ h => ?_)
    ·
      cases h; exact ⟨rfl, rfl⟩
    rintro _ rfl
    refine zE beq_iff_eq h (fun _ h => ?_) (fun _ h => ?_)
    ·
      cases h; exact ⟨rfl, rfl⟩
    rintro _ rfl
    refine zE beq_iff_eq h (fun _ h => ?_) (fun _ h => ?_)
    ·
      cases h; exact ⟨rfl, rfl⟩
    cases h; exact ⟨rfl, rfl⟩
  cases h; exact ⟨rfl, rfl⟩
theorem yU (t : zD) (from_ : Int) (t1 : List zB) (at_ e : Int) (r : zD) (h : yI t from_ t1 at_ e = some r) : Trip Tryz.prog 77 [.hp 0 0, .d (gT t.K t.N t.S (List.map zD.toD t.L) t.From t.To), (nI from_)] [(hU (List.map zB.toD t1) at_ e)] [.d (gT r.K r.N r.S (List.map zD.toD r.L) r.From r.To)] [(hU (List.map zB.toD t1) at_ e)] := by
  unfold yI at h
  refine yE 1000 (by kernel_rfl) (by kernel_rfl) (by kernel_rfl) (by kernel_rfl) (by kernel_rfl) (y1v _ _ _ _ t from_ t1 at_ e) ?_
  rintro _ rfl
  refine zE beq_iff_eq h (fun _ h => ?_) (fun _ h => ?_)
  ·
    obtain ⟨x, hx, h⟩ := zC h
    refine ⟨z2a (l := t1) (zB.sz), z9B hx, x.K, x.N, x.S, x.From, x.To, z6a (zB.toD_eq x) hx, ?_⟩
    rintro _ rfl
    obtain ⟨x1, hx, h⟩ := zC h
    refine ⟨z2a (l := t1) (zB.sz), z9B hx, x1.K, x1.N, x1.S, x1.From, x1.To, z6a (zB.toD_eq x1) hx, ?_⟩
    cases h; exact ⟨rfl, rfl⟩
  cases h; exact ⟨rfl, rfl⟩
theorem z0O (t : List zB) (at_ e : Int) (r : zB) (h : jQ t at_ e = some r) : Trip Tryz.prog 76 [.hp 0 0] [(hU (List.map zB.toD t) at_ e)] [.d (gK r.K r.N r.S r.From r.To)] [(hU (List.map zB.toD t) at_ e)] := by
  unfold jQ at h
  refine yE 1000 (by kernel_rfl) (by kernel_rfl) (by kernel_rfl) (by kernel_rfl) (by kernel_rfl) (y2A _ _ _ _ t at_ e) ?_
  refine z2R (e' := (List.length t : Int)) (by first | rfl | rw [List.length_map]) ?_
  rintro _ rfl
  refine zE decide_eq_true_iff h (fun _ h => ?_) (fun _ h => ?_)
  ·
    obtain ⟨x, hx, h⟩ := zC h
    refine ⟨z2a (l := t) (zB.sz), z9B hx, x.K, x.N, x.S, x.From, x.To, z6a (zB.toD_eq x) hx, ?_⟩
    cases h; exact ⟨rfl, rfl⟩
  cases h; exact ⟨rfl, rfl⟩
theorem jD (s : Str) (t : List zB) (at_ e : Int) (r : Bool) (h : wX s t at_ e = some r) : Trip Tryz.prog 78 [.hp 0 0, (nS s)] [(hU (List.map zB.toD t) at_ e)] [(nB r)] [(hU (List.map zB.toD t) at_ e)] := by
  unfold wX at h
  refine yE 1000 (by kernel_rfl) (by kernel_rfl) (by kernel_rfl) (by kernel_rfl) (by kernel_rfl) (y1z _ _ _ _ s t at_ e) ?_
  obtain ⟨q1, g, h⟩ := zC h
  refine ⟨_, _, _, _, _, z0O _ _ _ _ g, ?_⟩
  rintro _ rfl
  refine zE beq_iff_eq h (fun _ h => ?_) (fun _ h => ?_)
  ·
    rintro _ rfl
    cases h; exact ⟨rfl, rfl⟩
  cases h; exact ⟨rfl, rfl⟩
theorem gF (t : List zB) (at_ e : Int) (r : List zB × Int × Int) (h : wW t at_ e = some r) : Trip Tryz.prog 79 [.hp 0 0] [(hU (List.map zB.toD t) at_ e)] [] [(hU (List.map zB.toD r.1) r.2.1 r.2.2)] := by
  unfold wW at h
  refine yE 1000 (by kernel_rfl) (by kernel_rfl) (by kernel_rfl) (by kernel_rfl) (by kernel_rfl) (y1t _ _ _ _ t at_ e) ?_
  rintro _ rfl
  refine zE beq_iff_eq h (fun _ h => ?_) (fun _ h => ?_)
  ·
    cases h; exact ⟨rfl, rfl⟩
  cases h; exact ⟨rfl, rfl⟩
theorem gG (s : Str) (t : List zB) (at_ e : Int) (r : List zB × Int × Int) (h : vM s t at_ e = some r) : Trip Tryz.prog 80 [.hp 0 0, (nS s)] [(hU (List.map zB.toD t) at_ e)] [] [(hU (List.map zB.toD r.1) r.2.1 r.2.2)] := by
  unfold vM at h
  refine yE 1000 (by kernel_rfl) (by kernel_rfl) (by kernel_rfl) (by kernel_rfl) (by kernel_rfl) (y1x _ _ _ _ s t at_ e) ?_
  rintro _ rfl
  refine uP beq_iff_eq h (fun _ h => ?_) (fun _ h => ?_)
  ·
    obtain ⟨q1, g, h⟩ := zC h
    refine ⟨_, jD _ _ _ _ _ g, ?_⟩
    refine uP Iff.rfl h (fun _ h => ?_) (fun _ h => ?_)
    ·
      rintro _ rfl
      cases h; exact ⟨rfl, rfl⟩
    obtain ⟨q2, g, h⟩ := zC h
    refine ⟨_, _, _, gF _ _ _ _ g, ?_⟩
    cases h; exact ⟨rfl, rfl⟩
  cases h; exact ⟨rfl, rfl⟩
theorem z4p (t : List zB) (at_ e : Int) (r : Str × List zB × Int × Int) (h : z0g t at_ e = some r) : Trip Tryz.prog 106 [.hp 0 0] [(hU (List.map zB.toD t) at_ e)] [(nS r.1)] [(hU (List.map zB.toD r.2.1) r.2.2.1 r.2.2.2)] := by
  unfold z0g at h
  refine yE 1000 (by kernel_rfl) (by kernel_rfl) (by kernel_rfl) (by kernel_rfl) (by kernel_rfl) (y1w _ _ _ _ t at_ e) ?_
  rintro _ rfl
  refine uP beq_iff_eq h (fun _ h => ?_) (fun _ h => ?_)
  ·
    obtain ⟨q1, g, h⟩ := zC h
    refine ⟨_, _, _, _, _, z0O _ _ _ _ g, ?_⟩
    rintro _ rfl
    refine uP beq_iff_eq h (fun _ h => ?_) (fun _ h => ?_)
    ·
      rintro _ rfl
      cases h; exact ⟨rfl, rfl⟩
    obtain ⟨q2, g, h⟩ := zC h
    refine ⟨_, _, _, gF _ _ _ _ g, ?_⟩
    cases h; exact ⟨rfl, rfl⟩
  cases h; exact ⟨rfl, rfl⟩
def z4m : (i : zN) → z4n i → Prop
  | .zM t at_ e, r => Trip Tryz.prog 75 [.hp 0 0] [(hU (List.map zB.toD t) at_ e)] [.d (gT r.1.K r.1.N r.1.S (List.map zD.toD r.1.L) r.1.From r.1.To)] [(hU (List.map zB.toD r.2.1) r.2.2.1 r.2.2.2)]
  | .zX least t at_ e, r => Trip Tryz.prog 87 [.hp 0 0, (nI least)] [(hU (List.map zB.toD t) at_ e)] [.d (gT r.1.K r.1.N r.1.S (List.map zD.toD r.1.L) r.1.From r.1.To)] [(hU (List.map zB.toD r.2.1) r.2.2.1 r.2.2.2)]
  | .zT least from_ most o4 left t at_ e, r => Ok (z3O (Trip Tryz.prog) [.d (gT r.1.K r.1.N r.1.S (List.map zD.toD r.1.L) r.1.From r.1.To)] [(hU (List.map zB.toD r.2.1) r.2.2.1 r.2.2.2)]) (kL Tryz.f87 4) ⟨63, [(0, .hp 0 0), (1, (nI least)), (4, .ref 4 1 0), (5, (nI from_)), (6, .ref 6 1 0), (7, (nI most))], [(4, 1, some (.agg (gT o4.K o4.N o4.S (List.map zD.toD o4.L) o4.From o4.To))), (6, 1, some (.agg (gT left.K left.N left.S (List.map zD.toD left.L) left.From left.To)))], [(hU (List.map zB.toD t) at_ e)], 0⟩
  | .yP t at_ e, r => Trip Tryz.prog 90 [.hp 0 0] [(hU (List.map zB.toD t) at_ e)] [.d (gT r.1.K r.1.N r.1.S (List.map zD.toD r.1.L) r.1.From r.1.To)] [(hU (List.map zB.toD r.2.1) r.2.2.1 r.2.2.2)]
  | .vD t at_ e, r => Trip Tryz.prog 100 [.hp 0 0] [(hU (List.map zB.toD t) at_ e)] [.d (gT r.1.K r.1.N r.1.S (List.map zD.toD r.1.L) r.1.From r.1.To)] [(hU (List.map zB.toD r.2.1) r.2.2.1 r.2.2.2)]
  | .zY from_ o2 x t at_ e, r => Ok (z4t (Trip Tryz.prog) [.d (gT r.1.K r.1.N r.1.S (List.map zD.toD r.1.L) r.1.From r.1.To)] [(hU (List.map zB.toD r.2.1) r.2.2.1 r.2.2.2)]) (kL Tryz.f100 3) ⟨57, [(0, .hp 0 0), (2, .ref 2 1 0), (3, (nI from_)), (4, .ref 4 1 0)], [(2, 1, some (.agg (gT o2.K o2.N o2.S (List.map zD.toD o2.L) o2.From o2.To))), (4, 1, some (.agg (gT x.K x.N x.S (List.map zD.toD x.L) x.From x.To)))], [(hU (List.map zB.toD t) at_ e)], 0⟩
  | .yB t at_ e, r => Trip Tryz.prog 105 [.hp 0 0] [(hU (List.map zB.toD t) at_ e)] [.d (gT r.1.K r.1.N r.1.S (List.map zD.toD r.1.L) r.1.From r.1.To)] [(hU (List.map zB.toD r.2.1) r.2.2.1 r.2.2.2)]
  | .zV few t at_ e, r => Trip Tryz.prog 107 [.hp 0 0, (nB few)] [(hU (List.map zB.toD t) at_ e)] [.d (.sl (List.map zD.toD r.1))] [(hU (List.map zB.toD r.2.1) r.2.2.1 r.2.2.2)]
  | .vT s from_ t at_ e, r => Trip Tryz.prog 108 [.hp 0 0, (nS s), (nI from_)] [(hU (List.map zB.toD t) at_ e)] [.d (gT r.1.K r.1.N r.1.S (List.map zD.toD r.1.L) r.1.From r.1.To)] [(hU (List.map zB.toD r.2.1) r.2.2.1 r.2.2.2)]
  | .vG s from_ t at_ e, r => Trip Tryz.prog 109 [.hp 0 0, (nS s), (nI from_)] [(hU (List.map zB.toD t) at_ e)] [.d (gT r.1.K r.1.N r.1.S (List.map zD.toD r.1.L) r.1.From r.1.To)] [(hU (List.map zB.toD r.2.1) r.2.2.1 r.2.2.2)]
  | .zO t at_ e, r => Trip Tryz.prog 110 [.hp 0 0, .fn 75 [.hp 0 0] []] [(hU (List.map zB.toD t) at_ e)] [.d (.sl (List.map zD.toD r.1))] [(hU (List.map zB.toD r.2.1) r.2.2.1 r.2.2.2)]
  | .zJ out t at_ e, r => Ok (z0Y (Trip Tryz.prog) [.d (.sl (List.map zD.toD r.1))] [(hU (List.map zB.toD r.2.1) r.2.2.1 r.2.2.2)]) (kL Tryz.f110 2) ⟨31, [(0, .hp 0 0), (1, .fn 75 [.hp 0 0] []), (5, .right 8 1 6 (List.map zD.toD out))], [(8, 1, some (.tok 6 (List.length (List.map zD.toD out))))], [(hU (List.map zB.toD t) at_ e)], 0⟩
theorem y0A : ∀ i r, z2Z yG i = some r → z4m i r := by
  refine uR wQ fun g ih i => ?_
  cases i with
  | zM t at_ e =>
    have ih_expr_parser_level := fun least t at_ e r h => ih (.zX least t at_ e) r h
    intro r h
    replace h : z1g (fun least t at_ e => g (zN.zX least t at_ e)) t at_ e = some r := h
    unfold z1g at h
    refine yE 1000 (by kernel_rfl) (by kernel_rfl) (by kernel_rfl) (by kernel_rfl) (by kernel_rfl) (y1s _ _ _ _ t at_ e) ?_
    obtain ⟨q1, g, h⟩ := zC h
    refine ⟨_, _, _, _, _, _, _, _, _, ih_expr_parser_level _ _ _ _ _ g, ?_⟩
    cases h; exact ⟨rfl, rfl⟩
  | zX least t at_ e =>
    have ih_expr_parser_level_L4 := fun least from_ most o4 left t at_ e r h => ih (.zT least from_ most o4 left t at_ e) r h
    have ih_expr_parser_un := fun t at_ e r h => ih (.yP t at_ e) r h
    intro r h
    replace h : gN (fun least from_ most o4 left t at_ e => g (zN.zT least from_ most o4 left t at_ e)) (fun t at_ e => g (zN.yP t at_ e)) least t at_ e = some r := h
    unfold gN at h
    refine yE 1000 (by kernel_rfl) (by kernel_rfl) (by kernel_rfl) (by kernel_rfl) (by kernel_rfl) (y0c _ _ _ _ least t at_ e) ?_
    obtain ⟨q1, g, h⟩ := zC h
    refine ⟨_, _, _, _, _, _, _, _, _, ih_expr_parser_un _ _ _ _ g, ?_⟩
    exact ih_expr_parser_level_L4 _ _ _ _ _ _ _ _ _ h
  | zT least from_ most o4 left t at_ e =>
    have ih_expr_parser_level := fun least t at_ e r h => ih (.zX least t at_ e) r h
    have ih_expr_parser_level_L4 := fun least from_ most o4 left t at_ e r h => ih (.zT least from_ most o4 left t at_ e) r h
    intro r h
    replace h : wU (fun least t at_ e => g (zN.zX least t at_ e)) (fun least from_ most o4 left t at_ e => g (zN.zT least from_ most o4 left t at_ e)) least from_ most o4 left t at_ e = some r := h
    unfold wU at h
    refine z6V 1000 (z7C _ _ _ _ least from_ most o4 left t at_ e) ?_
    rintro _ rfl
    refine zE beq_iff_eq h (fun _ h => ?_) (fun _ h => ?_)
    ·
      obtain ⟨q1, g, h⟩ := zC h
      refine ⟨_, _, _, _, _, z0O _ _ _ _ g, ?_⟩
      obtain ⟨q2, g, h⟩ := zC h
      refine ⟨_, _, ⟨_, y3X _ _ g⟩, ?_⟩
      rintro _ rfl
      refine zE decide_eq_true_iff h (fun _ h => ?_) (fun _ h => ?_)
      ·
        cases h; exact ⟨rfl, rfl⟩
      rintro _ rfl
      refine zE beq_iff_eq h (fun _ h => ?_) (fun _ h => ?_)
      ·
        cases h; exact ⟨rfl, rfl⟩
      rintro _ rfl
      refine zE decide_eq_true_iff h (fun _ h => ?_) (fun _ h => ?_)
      ·
        cases h; exact ⟨rfl, rfl⟩
      rintro _ rfl
      rintro _ rfl
      obtain ⟨q3, g, h⟩ := zC h
      refine ⟨_, _, _, _, _, _, _, _, _, ih_expr_parser_level _ _ _ _ _ g, ?_⟩
      obtain ⟨q4, g, h⟩ := zC h
      have hT := yU _ _ _ _ _ _ g
      simp only [List.map_cons, List.map_nil, zD.toD_eq] at hT
      refine ⟨_, _, _, _, _, _, hT, ?_⟩
      rintro _ rfl
      refine zE beq_iff_eq h (fun _ h => ?_) (fun _ h => ?_)
      ·
        exact ih_expr_parser_level_L4 _ _ _ _ _ _ _ _ _ h
      exact ih_expr_parser_level_L4 _ _ _ _ _ _ _ _ _ h
    cases h; exact ⟨rfl, rfl⟩
  | yP t at_ e =>
    have ih_expr_parser_un := fun t at_ e r h => ih (.yP t at_ e) r h
    have ih_expr_parser_post := fun t at_ e r h => ih (.vD t at_ e) r h
    intro r h
    replace h : z0h (fun t at_ e => g (zN.yP t at_ e)) (fun t at_ e => g (zN.vD t at_ e)) t at_ e = some r := h
    unfold z0h at h
    refine yE 1000 (by kernel_rfl) (by kernel_rfl) (by kernel_rfl) (by kernel_rfl) (by kernel_rfl) (y3x _ _ _ _ t at_ e) ?_
    rintro _ rfl
    refine uP beq_iff_eq h (fun _ h => ?_) (fun _ h => ?_)
    ·
      obtain ⟨q1, g, h⟩ := zC h
      refine ⟨_, jD _ _ _ _ _ g, ?_⟩
      refine zE Iff.rfl h (fun _ h => ?_) (fun _ h => ?_)
      ·
        rintro _ rfl
        refine zE beq_iff_eq h (fun _ h => ?_) (fun _ h => ?_)
        ·
          obtain ⟨q2, g, h⟩ := zC h
          refine ⟨_, _, _, _, _, _, _, _, _, ih_expr_parser_post _ _ _ _ g, ?_⟩
          cases h; exact ⟨rfl, rfl⟩
        rintro _ rfl
        obtain ⟨q3, g, h⟩ := zC h
        refine ⟨_, _, _, _, _, _, _, _, _, ih_expr_parser_un _ _ _ _ g, ?_⟩
        obtain ⟨q4, g, h⟩ := zC h
        have hT := yU _ _ _ _ _ _ g
        simp only [List.map_cons, List.map_nil, zD.toD_eq] at hT
        refine ⟨_, _, _, _, _, _, hT, ?_⟩
        cases h; exact ⟨rfl, rfl⟩
      obtain ⟨q5, g, h⟩ := zC h
      refine ⟨_, jD _ _ _ _ _ g, ?_⟩
      refine zE Iff.rfl h (fun _ h => ?_) (fun _ h => ?_)
      ·
        rintro _ rfl
        refine zE beq_iff_eq h (fun _ h => ?_) (fun _ h => ?_)
        ·
          obtain ⟨q6, g, h⟩ := zC h
          refine ⟨_, _, _, _, _, _, _, _, _, ih_expr_parser_post _ _ _ _ g, ?_⟩
          cases h; exact ⟨rfl, rfl⟩
        rintro _ rfl
        obtain ⟨q7, g, h⟩ := zC h
        refine ⟨_, _, _, _, _, _, _, _, _, ih_expr_parser_un _ _ _ _ g, ?_⟩
        obtain ⟨q8, g, h⟩ := zC h
        have hT := yU _ _ _ _ _ _ g
        simp only [List.map_cons, List.map_nil, zD.toD_eq] at hT
        refine ⟨_, _, _, _, _, _, hT, ?_⟩
        cases h; exact ⟨rfl, rfl⟩
      rintro _ rfl
      refine zE beq_iff_eq h (fun _ h => ?_) (fun _ h => ?_)
      ·
        obtain ⟨q9, g, h⟩ := zC h
        refine ⟨_, _, _, _, _, _, _, _, _, ih_expr_parser_post _ _ _ _ g, ?_⟩
        cases h; exact ⟨rfl, rfl⟩
      rintro _ rfl
      obtain ⟨q10, g, h⟩ := zC h
      refine ⟨_, _, _, _, _, _, _, _, _, ih_expr_parser_un _ _ _ _ g, ?_⟩
      obtain ⟨q11, g, h⟩ := zC h
      have hT := yU _ _ _ _ _ _ g
      simp only [List.map_cons, List.map_nil, zD.toD_eq] at hT
      refine ⟨_, _, _, _, _, _, hT, ?_⟩
      cases h; exact ⟨rfl, rfl⟩
    cases h; exact ⟨rfl, rfl⟩
  | vD t at_ e =>
    have ih_expr_parser_post_L3 := fun from_ o2 x t at_ e r h => ih (.zY from_ o2 x t at_ e) r h
    have ih_expr_parser_atom := fun t at_ e r h => ih (.yB t at_ e) r h
    intro r h
    replace h : z0D (fun from_ o2 x t at_ e => g (zN.zY from_ o2 x t at_ e)) (fun t at_ e => g (zN.yB t at_ e)) t at_ e = some r := h
    unfold z0D at h
    refine yE 1000 (by kernel_rfl) (by kernel_rfl) (by kernel_rfl) (by kernel_rfl) (by kernel_rfl) (y1y _ _ _ _ t at_ e) ?_
    obtain ⟨q1, g, h⟩ := zC h
    refine ⟨_, _, _, _, _, _, _, _, _, ih_expr_parser_atom _ _ _ _ g, ?_⟩
    exact ih_expr_parser_post_L3 _ _ _ _ _ _ _ h
  | zY from_ o2 x t at_ e =>
    have ih_expr_parser_expr := fun t at_ e r h => ih (.zM t at_ e) r h
    have ih_expr_parser_post_L3 := fun from_ o2 x t at_ e r h => ih (.zY from_ o2 x t at_ e) r h
    intro r h
    replace h : vZ (fun t at_ e => g (zN.zM t at_ e)) (fun from_ o2 x t at_ e => g (zN.zY from_ o2 x t at_ e)) from_ o2 x t at_ e = some r := h
    unfold vZ at h
    refine z6V 1000 (z8h _ _ _ _ from_ o2 x t at_ e) ?_
    rintro _ rfl
    refine zE beq_iff_eq h (fun _ h => ?_) (fun _ h => ?_)
    ·
      obtain ⟨q1, g, h⟩ := zC h
      refine ⟨_, jD _ _ _ _ _ g, ?_⟩
      refine zE Iff.rfl h (fun _ h => ?_) (fun _ h => ?_)
      ·
        rintro _ rfl
        obtain ⟨q2, g, h⟩ := zC h
        refine ⟨_, _, _, _, _, _, _, _, _, ih_expr_parser_expr _ _ _ _ g, ?_⟩
        obtain ⟨q3, g, h⟩ := zC h
        refine ⟨_, _, _, gG _ _ _ _ _ g, ?_⟩
        obtain ⟨q4, g, h⟩ := zC h
        have hT := yU _ _ _ _ _ _ g
        simp only [List.map_cons, List.map_nil, zD.toD_eq] at hT
        refine ⟨_, _, _, _, _, _, hT, ?_⟩
        exact ih_expr_parser_post_L3 _ _ _ _ _ _ _ h
      obtain ⟨q5, g, h⟩ := zC h
      refine ⟨_, jD _ _ _ _ _ g, ?_⟩
      refine zE Iff.rfl h (fun _ h => ?_) (fun _ h => ?_)
      ·
        rintro _ rfl
        obtain ⟨q6, g, h⟩ := zC h
        refine ⟨_, _, _, _, z4p _ _ _ _ g, ?_⟩
        obtain ⟨q7, g, h⟩ := zC h
        have hT := yU _ _ _ _ _ _ g
        simp only [List.map_cons, List.map_nil, zD.toD_eq] at hT
        refine ⟨_, _, _, _, _, _, hT, ?_⟩
        exact ih_expr_parser_post_L3 _ _ _ _ _ _ _ h
      cases h; exact ⟨rfl, rfl⟩
    cases h; exact ⟨rfl, rfl⟩
  | yB t at_ e =>
    have ih_expr_parser_args := fun few t at_ e r h => ih (.zV few t at_ e) r h
    have ih_expr_parser_word := fun s from_ t at_ e r h => ih (.vT s from_ t at_ e) r h
    have ih_expr_parser_bracket := fun s from_ t at_ e r h => ih (.vG s from_ t at_ e) r h
    intro r h
    replace h : jE (fun few t at_ e => g (zN.zV few t at_ e)) (fun s from_ t at_ e => g (zN.vT s from_ t at_ e)) (fun s from_ t at_ e => g (zN.vG s from_ t at_ e)) t at_ e = some r := h
    unfold jE at h
    refine yE 1000 (by kernel_rfl) (by kernel_rfl) (by kernel_rfl) (by kernel_rfl) (by kernel_rfl) (y1r _ _ _ _ t at_ e) ?_
    rintro _ rfl
    refine uP beq_iff_eq h (fun _ h => ?_) (fun _ h => ?_)
    ·
      obtain ⟨q1, g, h⟩ := zC h
      refine ⟨_, _, _, _, _, z0O _ _ _ _ g, ?_⟩
      rintro _ rfl
      refine zE beq_iff_eq h (fun _ h => ?_) (fun _ h => ?_)
      ·
        rintro _ rfl
        obtain ⟨q2, g, h⟩ := zC h
        refine ⟨_, _, _, _, _, _, yU _ _ _ _ _ _ g, ?_⟩
        cases h; exact ⟨rfl, rfl⟩
      rintro _ rfl
      refine zE beq_iff_eq h (fun _ h => ?_) (fun _ h => ?_)
      ·
        rintro _ rfl
        obtain ⟨q3, g, h⟩ := zC h
        refine ⟨_, jD _ _ _ _ _ g, ?_⟩
        refine zE Iff.rfl h (fun _ h => ?_) (fun _ h => ?_)
        ·
          obtain ⟨q4, g, h⟩ := zC h
          refine ⟨_, _, _, _, ih_expr_parser_args _ _ _ _ _ g, ?_⟩
          obtain ⟨q5, g, h⟩ := zC h
          refine ⟨_, _, _, _, _, _, yU _ _ _ _ _ _ g, ?_⟩
          cases h; exact ⟨rfl, rfl⟩
        obtain ⟨q6, g, h⟩ := zC h
        refine ⟨_, _, _, _, _, _, yU _ _ _ _ _ _ g, ?_⟩
        cases h; exact ⟨rfl, rfl⟩
      rintro _ rfl
      refine zE beq_iff_eq h (fun _ h => ?_) (fun _ h => ?_)
      ·
        obtain ⟨q7, g, h⟩ := zC h
        refine ⟨_, _, _, _, _, _, _, _, _, ih_expr_parser_word _ _ _ _ _ _ g, ?_⟩
        cases h; exact ⟨rfl, rfl⟩
      rintro _ rfl
      refine zE beq_iff_eq h (fun _ h => ?_) (fun _ h => ?_)
      ·
        obtain ⟨q8, g, h⟩ := zC h
        refine ⟨_, _, _, _, _, _, _, _, _, ih_expr_parser_bracket _ _ _ _ _ _ g, ?_⟩
        cases h; exact ⟨rfl, rfl⟩
      obtain ⟨q9, g, h⟩ := zC h
      refine ⟨_, _, _, gF _ _ _ _ g, ?_⟩
      cases h; exact ⟨rfl, rfl⟩
    cases h; exact ⟨rfl, rfl⟩
  | zV few t at_ e =>
    have ih_expr_parser_list_parser_expr := fun t at_ e r h => ih (.zO t at_ e) r h
    intro r h
    replace h : gI (fun t at_ e => g (zN.zO t at_ e)) few t at_ e = some r := h
    unfold gI at h
    refine yE 1000 (by kernel_rfl) (by kernel_rfl) (by kernel_rfl) (by kernel_rfl) (by kernel_rfl) (y1q _ _ _ _ few t at_ e) ?_
    obtain ⟨q1, g, h⟩ := zC h
    refine ⟨_, _, _, gG _ _ _ _ _ g, ?_⟩
    rintro _ rfl
    refine zE beq_iff_eq h (fun _ h => ?_) (fun _ h => ?_)
    ·
      refine zE Iff.rfl h (fun _ h => ?_) (fun _ h => ?_)
      ·
        obtain ⟨q2, g, h⟩ := zC h
        refine ⟨_, jD _ _ _ _ _ g, ?_⟩
        refine zE Iff.rfl h (fun _ h => ?_) (fun _ h => ?_)
        ·
          rintro _ rfl
          cases h; exact ⟨rfl, rfl⟩
        obtain ⟨q3, g, h⟩ := zC h
        refine ⟨_, _, _, _, ih_expr_parser_list_parser_expr _ _ _ _ g, ?_⟩
        obtain ⟨q4, g, h⟩ := zC h
        refine ⟨_, _, _, gG _ _ _ _ _ g, ?_⟩
        cases h; exact ⟨rfl, rfl⟩
      obtain ⟨q5, g, h⟩ := zC h
      refine ⟨_, _, _, _, ih_expr_parser_list_parser_expr _ _ _ _ g, ?_⟩
      obtain ⟨q6, g, h⟩ := zC h
      refine ⟨_, _, _, gG _ _ _ _ _ g, ?_⟩
      cases h; exact ⟨rfl, rfl⟩
    obtain ⟨q7, g, h⟩ := zC h
    refine ⟨_, _, _, _, ih_expr_parser_list_parser_expr _ _ _ _ g, ?_⟩
    obtain ⟨q8, g, h⟩ := zC h
    refine ⟨_, _, _, gG _ _ _ _ _ g, ?_⟩
    cases h; exact ⟨rfl, rfl⟩
  | vT s from_ t at_ e =>
    have ih_expr_parser_args := fun few t at_ e r h => ih (.zV few t at_ e) r h
    intro r h
    replace h : uN (fun few t at_ e => g (zN.zV few t at_ e)) s from_ t at_ e = some r := h
    unfold uN at h
    refine yE 1000 (by kernel_rfl) (by kernel_rfl) (by kernel_rfl) (by kernel_rfl) (by kernel_rfl) (y1A _ _ _ _ s from_ t at_ e) ?_
    rintro _ rfl
    rintro _ rfl
    refine zE beq_iff_eq h (fun _ h => ?_) (fun _ h => ?_)
    ·
      obtain ⟨q1, g, h⟩ := zC h
      refine ⟨_, _, _, _, _, _, yU _ _ _ _ _ _ g, ?_⟩
      cases h; exact ⟨rfl, rfl⟩
    rintro _ rfl
    refine zE beq_iff_eq h (fun _ h => ?_) (fun _ h => ?_)
    ·
      obtain ⟨q2, g, h⟩ := zC h
      refine ⟨_, _, _, _, _, _, yU _ _ _ _ _ _ g, ?_⟩
      cases h; exact ⟨rfl, rfl⟩
    rintro _ rfl
    refine zE beq_iff_eq h (fun _ h => ?_) (fun _ h => ?_)
    ·
      obtain ⟨q3, g, h⟩ := zC h
      refine ⟨_, _, _, _, _, _, yU _ _ _ _ _ _ g, ?_⟩
      cases h; exact ⟨rfl, rfl⟩
    rintro _ rfl
    refine zE beq_iff_eq h (fun _ h => ?_) (fun _ h => ?_)
    ·
      obtain ⟨q4, g, h⟩ := zC h
      refine ⟨_, _, _, _, z4p _ _ _ _ g, ?_⟩
      obtain ⟨q5, g, h⟩ := zC h
      refine ⟨_, _, _, _, ih_expr_parser_args _ _ _ _ _ g, ?_⟩
      obtain ⟨q6, g, h⟩ := zC h
      refine ⟨_, _, _, _, _, _, yU _ _ _ _ _ _ g, ?_⟩
      cases h; exact ⟨rfl, rfl⟩
    rintro _ rfl
    obtain ⟨q7, g, h⟩ := zC h
    refine ⟨_, _, _, gF _ _ _ _ g, ?_⟩
    cases h; exact ⟨rfl, rfl⟩
  | vG s from_ t at_ e =>
    have ih_expr_parser_expr := fun t at_ e r h => ih (.zM t at_ e) r h
    have ih_expr_parser_args := fun few t at_ e r h => ih (.zV few t at_ e) r h
    have ih_expr_parser_list_parser_expr := fun t at_ e r h => ih (.zO t at_ e) r h
    intro r h
    replace h : vI (fun t at_ e => g (zN.zM t at_ e)) (fun few t at_ e => g (zN.zV few t at_ e)) (fun t at_ e => g (zN.zO t at_ e)) s from_ t at_ e = some r := h
    unfold vI at h
    refine yE 1000 (by kernel_rfl) (by kernel_rfl) (by kernel_rfl) (by kernel_rfl) (by kernel_rfl) (z8g _ _ _ _ s from_ t at_ e) ?_
    rintro _ rfl
    rintro _ rfl
    refine zE beq_iff_eq h (fun _ h => ?_) (fun _ h => ?_)
    ·
      obtain ⟨q1, g, h⟩ := zC h
      refine ⟨_, _, _, _, _, _, _, _, _, ih_expr_parser_expr _ _ _ _ g, ?_⟩
      obtain ⟨q2, g, h⟩ := zC h
      refine ⟨_, _, _, gG _ _ _ _ _ g, ?_⟩
      cases h; exact ⟨rfl, rfl⟩
    rintro _ rfl
    refine zE beq_iff_eq h (fun _ h => ?_) (fun _ h => ?_)
    ·
      obtain ⟨q3, g, h⟩ := zC h
      refine ⟨_, _, _, _, ih_expr_parser_list_parser_expr _ _ _ _ g, ?_⟩
      obtain ⟨q4, g, h⟩ := zC h
      refine ⟨_, _, _, gG _ _ _ _ _ g, ?_⟩
      obtain ⟨q5, g, h⟩ := zC h
      refine ⟨_, _, _, _, _, _, yU _ _ _ _ _ _ g, ?_⟩
      cases h; exact ⟨rfl, rfl⟩
    rintro _ rfl
    refine zE beq_iff_eq h (fun _ h => ?_) (fun _ h => ?_)
    ·
      obtain ⟨q6, g, h⟩ := zC h
      refine ⟨_, _, _, _, z4p _ _ _ _ g, ?_⟩
      obtain ⟨q7, g, h⟩ := zC h
      refine ⟨_, _, _, _, ih_expr_parser_args _ _ _ _ _ g, ?_⟩
      obtain ⟨q8, g, h⟩ := zC h
      refine ⟨_, _, _, _, _, _, yU _ _ _ _ _ _ g, ?_⟩
      cases h; exact ⟨rfl, rfl⟩
    rintro _ rfl
    obtain ⟨q9, g, h⟩ := zC h
    refine ⟨_, _, _, gF _ _ _ _ g, ?_⟩
    cases h; exact ⟨rfl, rfl⟩
  | zO t at_ e =>
    have ih_expr_parser_expr := fun t at_ e r h => ih (.zM t at_ e) r h
    have ih_expr_parser_list_parser_expr_L2 := fun out t at_ e r h => ih (.zJ out t at_ e) r h
    intro r h
    replace h : uI (fun t at_ e => g (zN.zM t at_ e)) (fun out t at_ e => g (zN.zJ out t at_ e)) t at_ e = some r := h
    unfold uI at h
    refine yE 1000 (by kernel_rfl) (by kernel_rfl) (by kernel_rfl) (by kernel_rfl) (by kernel_rfl) (z5h _ _ _ _ t at_ e) ?_
    obtain ⟨q1, g, h⟩ := zC h
    refine ⟨_, _, _, _, _, _, _, _, _, ih_expr_parser_expr _ _ _ _ g, ?_⟩
    have hT := ih_expr_parser_list_parser_expr_L2 _ _ _ _ _ h
    unfold z4m at hT; dsimp only at hT
    simp only [List.map_cons, List.map_nil, List.length_cons, List.length_nil, zD.toD_eq] at hT
    exact hT
  | zJ out t at_ e =>
    have ih_expr_parser_expr := fun t at_ e r h => ih (.zM t at_ e) r h
    have ih_expr_parser_list_parser_expr_L2 := fun out t at_ e r h => ih (.zJ out t at_ e) r h
    intro r h
    replace h : vJ (fun t at_ e => g (zN.zM t at_ e)) (fun out t at_ e => g (zN.zJ out t at_ e)) out t at_ e = some r := h
    unfold vJ at h
    refine z6V 1000 (z4v _ _ _ _ out t at_ e) ?_
    rintro _ rfl
    refine zE beq_iff_eq h (fun _ h => ?_) (fun _ h => ?_)
    ·
      obtain ⟨q1, g, h⟩ := zC h
      refine ⟨_, jD _ _ _ _ _ g, ?_⟩
      refine zE Iff.rfl h (fun _ h => ?_) (fun _ h => ?_)
      ·
        rintro _ rfl
        obtain ⟨q2, g, h⟩ := zC h
        refine ⟨_, _, _, _, _, _, _, _, _, ih_expr_parser_expr _ _ _ _ g, ?_⟩
        refine ⟨by simp [jP, D.cells], ?_⟩
        refine ⟨by first | rfl | decide | simp only [List.length_map, List.length_cons, List.length_nil, List.map_append, List.length_append], ?_⟩
        obtain ⟨hP, h⟩ := gX h
        refine ⟨by first | exact hP | simpa using hP, ?_⟩
        refine z2R (e' := List.map zD.toD (out ++ [q2.1])) (by first | rfl | simp only [List.map_append, List.map_cons, List.map_nil, List.map_take, List.map_drop, List.map_set, List.map_replicate, List.length_map, zD.toD_eq]) ?_
        exact ih_expr_parser_list_parser_expr_L2 _ _ _ _ _ h
      cases h; exact ⟨rfl, rfl⟩
    cases h; exact ⟨rfl, rfl⟩
theorem y0C (t : List zB) (at_ e : Int) (r : zD × List zB × Int × Int) (h : zM t at_ e = some r) : z4m (.zM t at_ e) r := y0A (.zM t at_ e) r h
theorem z6A (t : List zB) (at_ : Int) (r : zD × Int × Int) (h : z0M t at_ = some r) : Trip Tryz.prog 65 [.d (.sl (List.map zB.toD t)), (nI at_), .fn 75 [] []] [] [.d (gT r.1.K r.1.N r.1.S (List.map zD.toD r.1.L) r.1.From r.1.To), (nI r.2.1), (nI r.2.2)] [] := by
  unfold z0M at h
  refine yE 1000 (by kernel_rfl) (by kernel_rfl) (by kernel_rfl) (by kernel_rfl) (by kernel_rfl) (z6K _ _ _ _ t at_) ?_
  rintro _ rfl
  refine zE decide_eq_true_iff h (fun _ h => ?_) (fun _ h => ?_)
  ·
    cases h; exact ⟨rfl, rfl⟩
  refine z2R (e' := (List.length t : Int)) (by first | rfl | rw [List.length_map]) ?_
  rintro _ rfl
  refine zE decide_eq_true_iff h (fun _ h => ?_) (fun _ h => ?_)
  ·
    cases h; exact ⟨rfl, rfl⟩
  obtain ⟨q1, g, h⟩ := zC h
  refine ⟨_, _, _, _, _, _, _, _, _, y0C _ _ _ _ g, ?_⟩
  rintro _ rfl
  refine uP beq_iff_eq h (fun _ h => ?_) (fun _ h => ?_)
  ·
    cases h; exact ⟨rfl, rfl⟩
  cases h; exact ⟨rfl, rfl⟩
theorem z6d (t : List zB) (at_ : Int) (r : zD × Int × Int) (h : z0T t at_ = some r) : Trip Tryz.prog 64 [.d (.sl (List.map zB.toD t)), (nI at_)] [] [.d (gT r.1.K r.1.N r.1.S (List.map zD.toD r.1.L) r.1.From r.1.To), (nI r.2.1), (nI r.2.2)] [] := by
  unfold z0T at h
  refine yE 1000 (by kernel_rfl) (by kernel_rfl) (by kernel_rfl) (by kernel_rfl) (by kernel_rfl) (y7x _ _ _ _ t at_) ?_
  obtain ⟨q1, g, h⟩ := zC h
  refine ⟨_, _, _, _, _, _, _, _, ⟨_, z6A _ _ _ g⟩, ?_⟩
  cases h; exact ⟨rfl, rfl⟩
theorem z0f (k : Int) (s : Str) (t : List zB) (at_ e K N : Int) (S : Str) (L : List zD) (From To : Int) (r : Bool) (h : jV k s t at_ e K N S L From To = some r) : Trip Tryz.prog 21 [.hp 0 0, (nI k), (nS s)] [(hU (List.map zB.toD t) at_ e), (hM K N S (List.map zD.toD L) From To)] [(nB r)] [(hU (List.map zB.toD t) at_ e), (hM K N S (List.map zD.toD L) From To)] := by
  unfold jV at h
  refine yE 1000 (by kernel_rfl) (by kernel_rfl) (by kernel_rfl) (by kernel_rfl) (by kernel_rfl) (y3D _ _ _ _ k s t at_ e K N S L From To) ?_
  obtain ⟨x, hx, h⟩ := zC h
  refine ⟨z2a (l := t) (zB.sz), z9B hx, x.K, x.N, x.S, x.From, x.To, z6a (zB.toD_eq x) hx, ?_⟩
  rintro _ rfl
  refine zE beq_iff_eq h (fun _ h => ?_) (fun _ h => ?_)
  ·
    obtain ⟨x1, hx, h⟩ := zC h
    refine ⟨z2a (l := t) (zB.sz), z9B hx, x1.K, x1.N, x1.S, x1.From, x1.To, z6a (zB.toD_eq x1) hx, ?_⟩
    rintro _ rfl
    cases h; exact ⟨rfl, rfl⟩
  cases h; exact ⟨rfl, rfl⟩
theorem z7R (t : List zB) (at_ e K N : Int) (S : Str) (L : List zD) (From To : Int) (r : zD × List zB × Int × Int × Int × Int × Str × List zD × Int × Int) (h : z0q t at_ e K N S L From To = some r) : Trip Tryz.prog 51 [.hp 0 0] [(hU (List.map zB.toD t) at_ e), (hM K N S (List.map zD.toD L) From To)] [.d (gT r.1.K r.1.N r.1.S (List.map zD.toD r.1.L) r.1.From r.1.To)] [(hU (List.map zB.toD r.2.1) r.2.2.1 r.2.2.2.1), (hM r.2.2.2.2.1 r.2.2.2.2.2.1 r.2.2.2.2.2.2.1 (List.map zD.toD r.2.2.2.2.2.2.2.1) r.2.2.2.2.2.2.2.2.1 r.2.2.2.2.2.2.2.2.2)] := by
  unfold z0q at h
  refine yE 1000 (by kernel_rfl) (by kernel_rfl) (by kernel_rfl) (by kernel_rfl) (by kernel_rfl) (z8m _ _ _ _ t at_ e K N S L From To) ?_
  rintro _ rfl
  refine uP beq_iff_eq h (fun _ h => ?_) (fun _ h => ?_)
  ·
    obtain ⟨x, hx, h⟩ := zC h
    refine ⟨z2a (l := t) (zB.sz), z9B hx, x.K, x.N, x.S, x.From, x.To, z6a (zB.toD_eq x) hx, ?_⟩
    rintro _ rfl
    refine uP beq_iff_eq h (fun _ h => ?_) (fun _ h => ?_)
    ·
      rintro _ rfl
      refine ⟨z2a (l := t) (zB.sz), ?_⟩
      obtain ⟨hP, h⟩ := gX h
      refine ⟨by first | exact hP | simpa using hP, ?_⟩
      obtain ⟨hP, h⟩ := gX h
      refine ⟨by first | exact hP | simpa using hP, ?_⟩
      obtain ⟨hP, h⟩ := gX h
      refine ⟨by first | exact hP | simpa using hP, ?_⟩
      obtain ⟨hP, h⟩ := gX h
      refine ⟨by first | exact hP | simpa using hP, ?_⟩
      refine z2R (e' := List.map zB.toD (List.drop (Int.toNat at_) (List.take (Int.toNat (IntKind.wrap .i64 (at_ + 1))) t))) (by first | rfl | simp only [List.map_append, List.map_cons, List.map_nil, List.map_take, List.map_drop, List.map_set, List.map_replicate, List.length_map, zB.toD_eq]) ?_
      obtain ⟨q5, g, h⟩ := zC h
      refine ⟨_, _, _, _, _, _, _, _, ⟨_, z6d _ _ _ g⟩, ?_⟩
      rintro _ rfl
      cases h; exact ⟨rfl, rfl⟩
    obtain ⟨q1, g, h⟩ := zC h
    refine ⟨_, z0f _ _ _ _ _ _ _ _ _ _ _ _ g, ?_⟩
    refine uP Iff.rfl h (fun _ h => ?_) (fun _ h => ?_)
    ·
      rintro _ rfl
      refine ⟨z2a (l := t) (zB.sz), ?_⟩
      obtain ⟨hP, h⟩ := gX h
      refine ⟨by first | exact hP | simpa using hP, ?_⟩
      obtain ⟨hP, h⟩ := gX h
      refine ⟨by first | exact hP | simpa using hP, ?_⟩
      obtain ⟨hP, h⟩ := gX h
      refine ⟨by first | exact hP | simpa using hP, ?_⟩
      obtain ⟨hP, h⟩ := gX h
      refine ⟨by first | exact hP | simpa using hP, ?_⟩
      refine z2R (e' := List.map zB.toD (List.drop (Int.toNat at_) (List.take (Int.toNat (IntKind.wrap .i64 (at_ + 1))) t))) (by first | rfl | simp only [List.map_append, List.map_cons, List.map_nil, List.map_take, List.map_drop, List.map_set, List.map_replicate, List.length_map, zB.toD_eq]) ?_
      obtain ⟨q4, g, h⟩ := zC h
      refine ⟨_, _, _, _, _, _, _, _, ⟨_, z6d _ _ _ g⟩, ?_⟩
      rintro _ rfl
      cases h; exact ⟨rfl, rfl⟩
    obtain ⟨q2, g, h⟩ := zC h
    refine ⟨_, z0f _ _ _ _ _ _ _ _ _ _ _ _ g, ?_⟩
    refine uP Iff.rfl h (fun _ h => ?_) (fun _ h => ?_)
    ·
      rintro _ rfl
      refine ⟨z2a (l := t) (zB.sz), ?_⟩
      obtain ⟨hP, h⟩ := gX h
      refine ⟨by first | exact hP | simpa using hP, ?_⟩
      obtain ⟨hP, h⟩ := gX h
      refine ⟨by first | exact hP | simpa using hP, ?_⟩
      obtain ⟨hP, h⟩ := gX h
      refine ⟨by first | exact hP | simpa using hP, ?_⟩
      obtain ⟨hP, h⟩ := gX h
      refine ⟨by first | exact hP | simpa using hP, ?_⟩
      refine z2R (e' := List.map zB.toD (List.drop (Int.toNat at_) (List.take (Int.toNat (IntKind.wrap .i64 (at_ + 1))) t))) (by first | rfl | simp only [List.map_append, List.map_cons, List.map_nil, List.map_take, List.map_drop, List.map_set, List.map_replicate, List.length_map, zB.toD_eq]) ?_
      obtain ⟨q3, g, h⟩ := zC h
      refine ⟨_, _, _, _, _, _, _, _, ⟨_, z6d _ _ _ g⟩, ?_⟩
      rintro _ rfl
      cases h; exact ⟨rfl, rfl⟩
    cases h; exact ⟨rfl, rfl⟩
  cases h; exact ⟨rfl, rfl⟩
theorem z0b (k n : Int) (s : Str) (from_ : Int) (parts : List zD) (t : List zB) (at_ e K N : Int) (S : Str) (L : List zD) (From To : Int) (r : zD) (h : wA k n s from_ parts t at_ e K N S L From To = some r) : Trip Tryz.prog 50 [.hp 0 0, (nI k), (nI n), (nS s), (nI from_), .d (.sl (List.map zD.toD parts))] [(hU (List.map zB.toD t) at_ e), (hM K N S (List.map zD.toD L) From To)] [.d (gT r.K r.N r.S (List.map zD.toD r.L) r.From r.To)] [(hU (List.map zB.toD t) at_ e), (hM K N S (List.map zD.toD L) From To)] := by
  unfold wA at h
  refine yE 1000 (by kernel_rfl) (by kernel_rfl) (by kernel_rfl) (by kernel_rfl) (by kernel_rfl) (y1M _ _ _ _ k n s from_ parts t at_ e K N S L From To) ?_
  rintro _ rfl
  refine uP beq_iff_eq h (fun _ h => ?_) (fun _ h => ?_)
  ·
    obtain ⟨x, hx, h⟩ := zC h
    refine ⟨z2a (l := t) (zB.sz), z9B hx, x.K, x.N, x.S, x.From, x.To, z6a (zB.toD_eq x) hx, ?_⟩
    rintro _ rfl
    obtain ⟨x1, hx, h⟩ := zC h
    refine ⟨z2a (l := t) (zB.sz), z9B hx, x1.K, x1.N, x1.S, x1.From, x1.To, z6a (zB.toD_eq x1) hx, ?_⟩
    cases h; exact ⟨rfl, rfl⟩
  cases h; exact ⟨rfl, rfl⟩
theorem z1e (t : List zB) (at_ e K N : Int) (S : Str) (L : List zD) (From To : Int) (r : Str × List zB × Int × Int × Int × Int × Str × List zD × Int × Int) (h : wY t at_ e K N S L From To = some r) : Trip Tryz.prog 45 [.hp 0 0] [(hU (List.map zB.toD t) at_ e), (hM K N S (List.map zD.toD L) From To)] [(nS r.1)] [(hU (List.map zB.toD r.2.1) r.2.2.1 r.2.2.2.1), (hM r.2.2.2.2.1 r.2.2.2.2.2.1 r.2.2.2.2.2.2.1 (List.map zD.toD r.2.2.2.2.2.2.2.1) r.2.2.2.2.2.2.2.2.1 r.2.2.2.2.2.2.2.2.2)] := by
  unfold wY at h
  refine yE 1000 (by kernel_rfl) (by kernel_rfl) (by kernel_rfl) (by kernel_rfl) (by kernel_rfl) (y1N _ _ _ _ t at_ e K N S L From To) ?_
  rintro _ rfl
  refine uP beq_iff_eq h (fun _ h => ?_) (fun _ h => ?_)
  ·
    obtain ⟨x, hx, h⟩ := zC h
    refine ⟨z2a (l := t) (zB.sz), z9B hx, x.K, x.N, x.S, x.From, x.To, z6a (zB.toD_eq x) hx, ?_⟩
    rintro _ rfl
    refine uP beq_iff_eq h (fun _ h => ?_) (fun _ h => ?_)
    ·
      rintro _ rfl
      rintro _ rfl
      obtain ⟨x1, hx, h⟩ := zC h
      refine ⟨z2a (l := t) (zB.sz), z9B hx, x1.K, x1.N, x1.S, x1.From, x1.To, z6a (zB.toD_eq x1) hx, ?_⟩
      cases h; exact ⟨rfl, rfl⟩
    cases h; exact ⟨rfl, rfl⟩
  cases h; exact ⟨rfl, rfl⟩
theorem z2U (k : Int) (s : Str) (t : List zB) (at_ e K N : Int) (S : Str) (L : List zD) (From To : Int) (r : Bool × List zB × Int × Int × Int × Int × Str × List zD × Int × Int) (h : gS k s t at_ e K N S L From To = some r) : Trip Tryz.prog 54 [.hp 0 0, (nI k), (nS s)] [(hU (List.map zB.toD t) at_ e), (hM K N S (List.map zD.toD L) From To)] [(nB r.1)] [(hU (List.map zB.toD r.2.1) r.2.2.1 r.2.2.2.1), (hM r.2.2.2.2.1 r.2.2.2.2.2.1 r.2.2.2.2.2.2.1 (List.map zD.toD r.2.2.2.2.2.2.2.1) r.2.2.2.2.2.2.2.2.1 r.2.2.2.2.2.2.2.2.2)] := by
  unfold gS at h
  refine yE 1000 (by kernel_rfl) (by kernel_rfl) (by kernel_rfl) (by kernel_rfl) (by kernel_rfl) (y1R _ _ _ _ k s t at_ e K N S L From To) ?_
  rintro _ rfl
  refine uP beq_iff_eq h (fun _ h => ?_) (fun _ h => ?_)
  ·
    obtain ⟨q1, g, h⟩ := zC h
    refine ⟨_, z0f _ _ _ _ _ _ _ _ _ _ _ _ g, ?_⟩
    refine uP Iff.rfl h (fun _ h => ?_) (fun _ h => ?_)
    ·
      rintro _ rfl
      cases h; exact ⟨rfl, rfl⟩
    cases h; exact ⟨rfl, rfl⟩
  cases h; exact ⟨rfl, rfl⟩
theorem wF (k : Int) (s : Str) (t : List zB) (at_ e K N : Int) (S : Str) (L : List zD) (From To : Int) (r : List zB × Int × Int × Int × Int × Str × List zD × Int × Int) (h : yM k s t at_ e K N S L From To = some r) : Trip Tryz.prog 46 [.hp 0 0, (nI k), (nS s)] [(hU (List.map zB.toD t) at_ e), (hM K N S (List.map zD.toD L) From To)] [] [(hU (List.map zB.toD r.1) r.2.1 r.2.2.1), (hM r.2.2.2.1 r.2.2.2.2.1 r.2.2.2.2.2.1 (List.map zD.toD r.2.2.2.2.2.2.1) r.2.2.2.2.2.2.2.1 r.2.2.2.2.2.2.2.2)] := by
  unfold yM at h
  refine yE 1000 (by kernel_rfl) (by kernel_rfl) (by kernel_rfl) (by kernel_rfl) (by kernel_rfl) (y1O _ _ _ _ k s t at_ e K N S L From To) ?_
  rintro _ rfl
  refine zE beq_iff_eq h (fun _ h => ?_) (fun _ h => ?_)
  ·
    obtain ⟨q1, g, h⟩ := zC h
    refine ⟨_, _, _, _, _, _, _, _, _, _, z2U _ _ _ _ _ _ _ _ _ _ _ _ g, ?_⟩
    refine uP Iff.rfl h (fun _ h => ?_) (fun _ h => ?_)
    ·
      cases h; exact ⟨rfl, rfl⟩
    cases h; exact ⟨rfl, rfl⟩
  cases h; exact ⟨rfl, rfl⟩
theorem z8W (t : List zB) (at_ e K N : Int) (S : Str) (L : List zD) (From To : Int) (r : zD × List zB × Int × Int × Int × Int × Str × List zD × Int × Int) (h : z1i t at_ e K N S L From To = some r) : Trip Tryz.prog 23 [.hp 0 0] [(hU (List.map zB.toD t) at_ e), (hM K N S (List.map zD.toD L) From To)] [.d (gT r.1.K r.1.N r.1.S (List.map zD.toD r.1.L) r.1.From r.1.To)] [(hU (List.map zB.toD r.2.1) r.2.2.1 r.2.2.2.1), (hM r.2.2.2.2.1 r.2.2.2.2.2.1 r.2.2.2.2.2.2.1 (List.map zD.toD r.2.2.2.2.2.2.2.1) r.2.2.2.2.2.2.2.2.1 r.2.2.2.2.2.2.2.2.2)] := by
  unfold z1i at h
  refine yE 1000 (by kernel_rfl) (by kernel_rfl) (by kernel_rfl) (by kernel_rfl) (by kernel_rfl) (z9l _ _ _ _ t at_ e K N S L From To) ?_
  rintro _ rfl
  obtain ⟨q1, g, h⟩ := zC h
  refine ⟨_, _, _, _, _, _, _, _, _, _, z1e _ _ _ _ _ _ _ _ _ _ g, ?_⟩
  obtain ⟨q2, g, h⟩ := zC h
  refine ⟨_, _, _, _, _, _, _, _, _, wF _ _ _ _ _ _ _ _ _ _ _ _ g, ?_⟩
  obtain ⟨q3, g, h⟩ := zC h
  refine ⟨_, _, _, _, _, _, _, _, _, _, _, _, _, _, _, z7R _ _ _ _ _ _ _ _ _ _ g, ?_⟩
  obtain ⟨q4, g, h⟩ := zC h
  refine ⟨_, _, _, _, _, _, _, _, _, wF _ _ _ _ _ _ _ _ _ _ _ _ g, ?_⟩
  obtain ⟨q5, g, h⟩ := zC h
  have hT := z0b _ _ _ _ _ _ _ _ _ _ _ _ _ _ _ g
  simp only [List.map_cons, List.map_nil, zD.toD_eq] at hT
  refine ⟨_, _, _, _, _, _, hT, ?_⟩
  cases h; exact ⟨rfl, rfl⟩
theorem z4P (t : List zB) (at_ e : Int) (r : zB) (h : z1c t at_ e = some r) : Trip Tryz.prog 88 [.hp 0 0] [(hU (List.map zB.toD t) at_ e)] [.d (gK r.K r.N r.S r.From r.To)] [(hU (List.map zB.toD t) at_ e)] := by
  unfold z1c at h
  refine yE 1000 (by kernel_rfl) (by kernel_rfl) (by kernel_rfl) (by kernel_rfl) (by kernel_rfl) (y2F _ _ _ _ t at_ e) ?_
  refine z2R (e' := (List.length t : Int)) (by first | rfl | rw [List.length_map]) ?_
  rintro _ rfl
  refine zE decide_eq_true_iff h (fun _ h => ?_) (fun _ h => ?_)
  ·
    obtain ⟨x, hx, h⟩ := zC h
    refine ⟨z2a (l := t) (zB.sz), z9B hx, x.K, x.N, x.S, x.From, x.To, z6a (zB.toD_eq x) hx, ?_⟩
    cases h; exact ⟨rfl, rfl⟩
  cases h; exact ⟨rfl, rfl⟩
theorem z3H (k : Int) (s : Str) (t : List zB) (at_ e : Int) (r : Bool) (h : jG k s t at_ e = some r) : Trip Tryz.prog 82 [.hp 0 0, (nI k), (nS s)] [(hU (List.map zB.toD t) at_ e)] [(nB r)] [(hU (List.map zB.toD t) at_ e)] := by
  unfold jG at h
  refine yE 1000 (by kernel_rfl) (by kernel_rfl) (by kernel_rfl) (by kernel_rfl) (by kernel_rfl) (y3B _ _ _ _ k s t at_ e) ?_
  obtain ⟨q1, g, h⟩ := zC h
  refine ⟨_, _, _, _, _, z4P _ _ _ _ g, ?_⟩
  rintro _ rfl
  refine zE beq_iff_eq h (fun _ h => ?_) (fun _ h => ?_)
  ·
    rintro _ rfl
    cases h; exact ⟨rfl, rfl⟩
  cases h; exact ⟨rfl, rfl⟩
theorem uD (k : Int) (s : Str) (from_ : Int) (parts : List zD) (t : List zB) (at_ e : Int) (r : zD) (h : yY k s from_ parts t at_ e = some r) : Trip Tryz.prog 84 [.hp 0 0, (nI k), (nS s), (nI from_), .d (.sl (List.map zD.toD parts))] [(hU (List.map zB.toD t) at_ e)] [.d (gT r.K r.N r.S (List.map zD.toD r.L) r.From r.To)] [(hU (List.map zB.toD t) at_ e)] := by
  unfold yY at h
  refine yE 1000 (by kernel_rfl) (by kernel_rfl) (by kernel_rfl) (by kernel_rfl) (by kernel_rfl) (y1G _ _ _ _ k s from_ parts t at_ e) ?_
  rintro _ rfl
  refine uP beq_iff_eq h (fun _ h => ?_) (fun _ h => ?_)
  ·
    obtain ⟨x, hx, h⟩ := zC h
    refine ⟨z2a (l := t) (zB.sz), z9B hx, x.K, x.N, x.S, x.From, x.To, z6a (zB.toD_eq x) hx, ?_⟩
    rintro _ rfl
    obtain ⟨x1, hx, h⟩ := zC h
    refine ⟨z2a (l := t) (zB.sz), z9B hx, x1.K, x1.N, x1.S, x1.From, x1.To, z6a (zB.toD_eq x1) hx, ?_⟩
    cases h; exact ⟨rfl, rfl⟩
  cases h; exact ⟨rfl, rfl⟩
theorem wR (k : Int) (s : Str) (t : List zB) (at_ e : Int) (r : List zB × Int × Int) (h : yC k s t at_ e = some r) : Trip Tryz.prog 81 [.hp 0 0, (nI k), (nS s)] [(hU (List.map zB.toD t) at_ e)] [] [(hU (List.map zB.toD r.1) r.2.1 r.2.2)] := by
  unfold yC at h
  refine yE 1000 (by kernel_rfl) (by kernel_rfl) (by kernel_rfl) (by kernel_rfl) (by kernel_rfl) (y1I _ _ _ _ k s t at_ e) ?_
  rintro _ rfl
  refine uP beq_iff_eq h (fun _ h => ?_) (fun _ h => ?_)
  ·
    obtain ⟨q1, g, h⟩ := zC h
    refine ⟨_, z3H _ _ _ _ _ _ g, ?_⟩
    refine uP Iff.rfl h (fun _ h => ?_) (fun _ h => ?_)
    ·
      rintro _ rfl
      cases h; exact ⟨rfl, rfl⟩
    cases h; exact ⟨rfl, rfl⟩
  cases h; exact ⟨rfl, rfl⟩
theorem y8s (t : zB) (r : Nat) (h : z1r t = some r) : Trip Tryz.prog 89 [.d (gK t.K t.N t.S t.From t.To)] [] [.fn r [] []] [] := by
  unfold z1r at h
  refine yE 1000 (by kernel_rfl) (by kernel_rfl) (by kernel_rfl) (by kernel_rfl) (by kernel_rfl) (y8G _ _ _ _ t) ?_
  rintro _ rfl
  refine zE beq_iff_eq h (fun hc225 h => ?_) (fun hc225 h => ?_)
  ·
    rintro _ rfl
    refine zE beq_iff_eq h (fun _ h => ?_) (fun _ h => ?_)
    ·
      cases h; exact ⟨rfl, rfl⟩
    rintro _ rfl
    refine v4b beq_iff_eq (fun e => absurd (hc225.symm.trans e) (by decide)) ?_
    cases h; exact ⟨rfl, rfl⟩
  rintro _ rfl
  refine uP beq_iff_eq h (fun _ h => ?_) (fun _ h => ?_)
  ·
    rintro _ rfl
    refine zE beq_iff_eq h (fun _ h => ?_) (fun _ h => ?_)
    ·
      cases h; exact ⟨rfl, rfl⟩
    rintro _ rfl
    refine zE beq_iff_eq h (fun _ h => ?_) (fun _ h => ?_)
    ·
      cases h; exact ⟨rfl, rfl⟩
    rintro _ rfl
    refine zE beq_iff_eq h (fun _ h => ?_) (fun _ h => ?_)
    ·
      cases h; exact ⟨rfl, rfl⟩
    rintro _ rfl
    refine zE beq_iff_eq h (fun _ h => ?_) (fun _ h => ?_)
    ·
      cases h; exact ⟨rfl, rfl⟩
    rintro _ rfl
    refine zE beq_iff_eq h (fun _ h => ?_) (fun _ h => ?_)
    ·
      cases h; exact ⟨rfl, rfl⟩
    rintro _ rfl
    refine zE beq_iff_eq h (fun _ h => ?_) (fun _ h => ?_)
    ·
      cases h; exact ⟨rfl, rfl⟩
    rintro _ rfl
    refine zE beq_iff_eq h (fun _ h => ?_) (fun _ h => ?_)
    ·
      cases h; exact ⟨rfl, rfl⟩
    cases h; exact ⟨rfl, rfl⟩
  cases h; exact ⟨rfl, rfl⟩
theorem z6o (t : List zB) (at_ e : Int) (r : zD × List zB × Int × Int) (h : uO t at_ e = some r) : Trip Tryz.prog 103 [.hp 0 0, .fn 64 [] []] [(hU (List.map zB.toD t) at_ e)] [.d (gT r.1.K r.1.N r.1.S (List.map zD.toD r.1.L) r.1.From r.1.To)] [(hU (List.map zB.toD r.2.1) r.2.2.1 r.2.2.2)] := by
  unfold uO at h
  refine yE 1000 (by kernel_rfl) (by kernel_rfl) (by kernel_rfl) (by kernel_rfl) (by kernel_rfl) (z6u _ _ _ _ t at_ e) ?_
  rintro _ rfl
  refine uP beq_iff_eq h (fun _ h => ?_) (fun _ h => ?_)
  ·
    refine z2R (e' := (List.length t : Int)) (by first | rfl | rw [List.length_map]) ?_
    rintro _ rfl
    refine zE decide_eq_true_iff h (fun _ h => ?_) (fun _ h => ?_)
    ·
      cases h; exact ⟨rfl, rfl⟩
    obtain ⟨q1, g, h⟩ := zC h
    refine ⟨_, _, _, _, _, _, _, _, ⟨_, z6d _ _ _ g⟩, ?_⟩
    cases h; exact ⟨rfl, rfl⟩
  cases h; exact ⟨rfl, rfl⟩
theorem gH (t : List zB) (at_ e : Int) (r : zD × List zB × Int × Int) (h : yX t at_ e = some r) : Trip Tryz.prog 101 [.hp 0 0] [(hU (List.map zB.toD t) at_ e)] [.d (gT r.1.K r.1.N r.1.S (List.map zD.toD r.1.L) r.1.From r.1.To)] [(hU (List.map zB.toD r.2.1) r.2.2.1 r.2.2.2)] := by
  unfold yX at h
  refine yE 1000 (by kernel_rfl) (by kernel_rfl) (by kernel_rfl) (by kernel_rfl) (by kernel_rfl) (y1F _ _ _ _ t at_ e) ?_
  obtain ⟨q1, g, h⟩ := zC h
  refine ⟨_, _, _, _, _, _, _, _, _, z6o _ _ _ _ g, ?_⟩
  cases h; exact ⟨rfl, rfl⟩
theorem z3w (k : Int) (t : List zB) (at_ e : Int) (r : zD × List zB × Int × Int) (h : gJ k t at_ e = some r) : Trip Tryz.prog 104 [.hp 0 0, (nI k)] [(hU (List.map zB.toD t) at_ e)] [.d (gT r.1.K r.1.N r.1.S (List.map zD.toD r.1.L) r.1.From r.1.To)] [(hU (List.map zB.toD r.2.1) r.2.2.1 r.2.2.2)] := by
  unfold gJ at h
  refine yE 1000 (by kernel_rfl) (by kernel_rfl) (by kernel_rfl) (by kernel_rfl) (by kernel_rfl) (z9k _ _ _ _ k t at_ e) ?_
  rintro _ rfl
  obtain ⟨q1, g, h⟩ := zC h
  refine ⟨_, _, _, _, _, _, _, _, _, gH _ _ _ _ g, ?_⟩
  obtain ⟨q2, g, h⟩ := zC h
  refine ⟨_, _, _, wR _ _ _ _ _ _ g, ?_⟩
  obtain ⟨q3, g, h⟩ := zC h
  have hT := uD _ _ _ _ _ _ _ _ g
  simp only [List.map_cons, List.map_nil, zD.toD_eq] at hT
  refine ⟨_, _, _, _, _, _, hT, ?_⟩
  cases h; exact ⟨rfl, rfl⟩
theorem y0E (t : List zB) (at_ e : Int) (r : zD × List zB × Int × Int) (h : z2J t at_ e = some r) : Trip Tryz.prog 98 [.hp 0 0] [(hU (List.map zB.toD t) at_ e)] [.d (gT r.1.K r.1.N r.1.S (List.map zD.toD r.1.L) r.1.From r.1.To)] [(hU (List.map zB.toD r.2.1) r.2.2.1 r.2.2.2)] := by
  unfold z2J at h
  refine yE 1000 (by kernel_rfl) (by kernel_rfl) (by kernel_rfl) (by kernel_rfl) (by kernel_rfl) (y1C _ _ _ _ t at_ e) ?_
  obtain ⟨q1, g, h⟩ := zC h
  refine ⟨_, _, _, _, _, _, _, _, _, z3w _ _ _ _ _ g, ?_⟩
  cases h; exact ⟨rfl, rfl⟩
theorem y0F (t : List zB) (at_ e : Int) (r : zD × List zB × Int × Int) (h : z2K t at_ e = some r) : Trip Tryz.prog 99 [.hp 0 0] [(hU (List.map zB.toD t) at_ e)] [.d (gT r.1.K r.1.N r.1.S (List.map zD.toD r.1.L) r.1.From r.1.To)] [(hU (List.map zB.toD r.2.1) r.2.2.1 r.2.2.2)] := by
  unfold z2K at h
  refine yE 1000 (by kernel_rfl) (by kernel_rfl) (by kernel_rfl) (by kernel_rfl) (by kernel_rfl) (y1D _ _ _ _ t at_ e) ?_
  obtain ⟨q1, g, h⟩ := zC h
  refine ⟨_, _, _, _, _, _, _, _, _, z3w _ _ _ _ _ g, ?_⟩
  cases h; exact ⟨rfl, rfl⟩
theorem z6f (t : List zB) (at_ e : Int) (r : Str × List zB × Int × Int) (h : jR t at_ e = some r) : Trip Tryz.prog 102 [.hp 0 0] [(hU (List.map zB.toD t) at_ e)] [(nS r.1)] [(hU (List.map zB.toD r.2.1) r.2.2.1 r.2.2.2)] := by
  unfold jR at h
  refine yE 1000 (by kernel_rfl) (by kernel_rfl) (by kernel_rfl) (by kernel_rfl) (by kernel_rfl) (y1H _ _ _ _ t at_ e) ?_
  rintro _ rfl
  refine uP beq_iff_eq h (fun _ h => ?_) (fun _ h => ?_)
  ·
    obtain ⟨q1, g, h⟩ := zC h
    refine ⟨_, _, _, _, _, z4P _ _ _ _ g, ?_⟩
    rintro _ rfl
    refine uP beq_iff_eq h (fun _ h => ?_) (fun _ h => ?_)
    ·
      rintro _ rfl
      cases h; exact ⟨rfl, rfl⟩
    cases h; exact ⟨rfl, rfl⟩
  cases h; exact ⟨rfl, rfl⟩
def z6c : (i : z2T) → z4o i → Prop
  | .yW t at_ e, r => Trip Tryz.prog 66 [.hp 0 0] [(hU (List.map zB.toD t) at_ e)] [.d (gT r.1.K r.1.N r.1.S (List.map zD.toD r.1.L) r.1.From r.1.To)] [(hU (List.map zB.toD r.2.1) r.2.2.1 r.2.2.2)]
theorem y0B : ∀ i r, z2Z z2S i = some r → z6c i r := by
  refine uR z6b fun g ih i => ?_
  cases i with
  | yW t at_ e =>
    have ih_expr_parser_kind := fun t at_ e r h => ih (.yW t at_ e) r h
    intro r h
    replace h : z0C (fun t at_ e => g (z2T.yW t at_ e)) t at_ e = some r := h
    unfold z0C at h
    refine yE 1000 (by kernel_rfl) (by kernel_rfl) (by kernel_rfl) (by kernel_rfl) (by kernel_rfl) (y1u _ _ _ _ t at_ e) ?_
    rintro _ rfl
    refine uP beq_iff_eq h (fun _ h => ?_) (fun _ h => ?_)
    ·
      obtain ⟨q1, g, h⟩ := zC h
      refine ⟨_, _, _, _, _, z0O _ _ _ _ g, ?_⟩
      rintro _ rfl
      refine zE beq_iff_eq h (fun hc240 h => ?_) (fun hc240 h => ?_)
      ·
        rintro _ rfl
        refine zE beq_iff_eq h (fun _ h => ?_) (fun _ h => ?_)
        ·
          rintro _ rfl
          obtain ⟨q2, g, h⟩ := zC h
          refine ⟨_, _, _, _, _, _, yU _ _ _ _ _ _ g, ?_⟩
          cases h; exact ⟨rfl, rfl⟩
        rintro _ rfl
        refine jH beq_iff_eq hc240 ?_
        rintro _ rfl
        refine zE beq_iff_eq h (fun _ h => ?_) (fun _ h => ?_)
        ·
          rintro _ rfl
          obtain ⟨q3, g, h⟩ := zC h
          refine ⟨_, _, _, _, _, _, yU _ _ _ _ _ _ g, ?_⟩
          cases h; exact ⟨rfl, rfl⟩
        rintro _ rfl
        refine v2T beq_iff_eq (fun e => absurd (hc240.symm.trans e) (by decide)) ?_
        obtain ⟨q5, g, h⟩ := zC h
        refine ⟨_, jD _ _ _ _ _ g, ?_⟩
        refine zE Iff.rfl h (fun _ h => ?_) (fun _ h => ?_)
        ·
          rintro _ rfl
          obtain ⟨q6, g, h⟩ := zC h
          refine ⟨_, _, _, _, _, z0O _ _ _ _ g, ?_⟩
          rintro _ rfl
          refine uP beq_iff_eq h (fun _ h => ?_) (fun _ h => ?_)
          ·
            rintro _ rfl
            obtain ⟨q8, g, h⟩ := zC h
            refine ⟨_, _, _, gG _ _ _ _ _ g, ?_⟩
            obtain ⟨q9, g, h⟩ := zC h
            refine ⟨_, _, _, _, _, _, _, _, _, ih_expr_parser_kind _ _ _ _ g, ?_⟩
            obtain ⟨q10, g, h⟩ := zC h
            have hT := yU _ _ _ _ _ _ g
            simp only [List.map_cons, List.map_nil, zD.toD_eq] at hT
            refine ⟨_, _, _, _, _, _, hT, ?_⟩
            cases h; exact ⟨rfl, rfl⟩
          obtain ⟨q7, g, h⟩ := zC h
          refine ⟨_, _, _, gF _ _ _ _ g, ?_⟩
          cases h; exact ⟨rfl, rfl⟩
        obtain ⟨q11, g, h⟩ := zC h
        refine ⟨_, _, _, gF _ _ _ _ g, ?_⟩
        cases h; exact ⟨rfl, rfl⟩
      rintro _ rfl
      refine v2T beq_iff_eq hc240 ?_
      rintro _ rfl
      refine zE beq_iff_eq h (fun _ h => ?_) (fun _ h => ?_)
      ·
        rintro _ rfl
        obtain ⟨q29, g, h⟩ := zC h
        refine ⟨_, _, _, _, _, _, yU _ _ _ _ _ _ g, ?_⟩
        cases h; exact ⟨rfl, rfl⟩
      obtain ⟨q30, g, h⟩ := zC h
      refine ⟨_, jD _ _ _ _ _ g, ?_⟩
      refine zE Iff.rfl h (fun _ h => ?_) (fun _ h => ?_)
      ·
        rintro _ rfl
        obtain ⟨q31, g, h⟩ := zC h
        refine ⟨_, _, _, _, _, z0O _ _ _ _ g, ?_⟩
        rintro _ rfl
        refine uP beq_iff_eq h (fun _ h => ?_) (fun _ h => ?_)
        ·
          rintro _ rfl
          obtain ⟨q33, g, h⟩ := zC h
          refine ⟨_, _, _, gG _ _ _ _ _ g, ?_⟩
          obtain ⟨q34, g, h⟩ := zC h
          refine ⟨_, _, _, _, _, _, _, _, _, ih_expr_parser_kind _ _ _ _ g, ?_⟩
          obtain ⟨q35, g, h⟩ := zC h
          have hT := yU _ _ _ _ _ _ g
          simp only [List.map_cons, List.map_nil, zD.toD_eq] at hT
          refine ⟨_, _, _, _, _, _, hT, ?_⟩
          cases h; exact ⟨rfl, rfl⟩
        obtain ⟨q32, g, h⟩ := zC h
        refine ⟨_, _, _, gF _ _ _ _ g, ?_⟩
        cases h; exact ⟨rfl, rfl⟩
      obtain ⟨q36, g, h⟩ := zC h
      refine ⟨_, _, _, gF _ _ _ _ g, ?_⟩
      cases h; exact ⟨rfl, rfl⟩
    cases h; exact ⟨rfl, rfl⟩
theorem y0D (t : List zB) (at_ e : Int) (r : zD × List zB × Int × Int) (h : yW t at_ e = some r) : z6c (.yW t at_ e) r := y0B (.yW t at_ e) r h
theorem z6B (t : List zB) (at_ : Int) (r : zD × Int × Int) (h : z0d t at_ = some r) : Trip Tryz.prog 65 [.d (.sl (List.map zB.toD t)), (nI at_), .fn 66 [] []] [] [.d (gT r.1.K r.1.N r.1.S (List.map zD.toD r.1.L) r.1.From r.1.To), (nI r.2.1), (nI r.2.2)] [] := by
  unfold z0d at h
  refine yE 1000 (by kernel_rfl) (by kernel_rfl) (by kernel_rfl) (by kernel_rfl) (by kernel_rfl) (z6L _ _ _ _ t at_) ?_
  rintro _ rfl
  refine zE decide_eq_true_iff h (fun _ h => ?_) (fun _ h => ?_)
  ·
    cases h; exact ⟨rfl, rfl⟩
  refine z2R (e' := (List.length t : Int)) (by first | rfl | rw [List.length_map]) ?_
  rintro _ rfl
  refine zE decide_eq_true_iff h (fun _ h => ?_) (fun _ h => ?_)
  ·
    cases h; exact ⟨rfl, rfl⟩
  obtain ⟨q1, g, h⟩ := zC h
  refine ⟨_, _, _, _, _, _, _, _, _, y0D _ _ _ _ g, ?_⟩
  rintro _ rfl
  refine uP beq_iff_eq h (fun _ h => ?_) (fun _ h => ?_)
  ·
    cases h; exact ⟨rfl, rfl⟩
  cases h; exact ⟨rfl, rfl⟩
theorem y3W (t : List zB) (at_ : Int) (r : zD × Int × Int) (h : z5l t at_ = some r) : Trip Tryz.prog 53 [.d (.sl (List.map zB.toD t)), (nI at_)] [] [.d (gT r.1.K r.1.N r.1.S (List.map zD.toD r.1.L) r.1.From r.1.To), (nI r.2.1), (nI r.2.2)] [] := by
  unfold z5l at h
  refine yE 1000 (by kernel_rfl) (by kernel_rfl) (by kernel_rfl) (by kernel_rfl) (by kernel_rfl) (y8E _ _ _ _ t at_) ?_
  obtain ⟨q1, g, h⟩ := zC h
  refine ⟨_, _, _, _, _, _, _, _, ⟨_, z6B _ _ _ g⟩, ?_⟩
  cases h; exact ⟨rfl, rfl⟩
theorem z6E (t : List zB) (at_ e : Int) (r : zD × List zB × Int × Int) (h : wC t at_ e = some r) : Trip Tryz.prog 103 [.hp 0 0, .fn 53 [] []] [(hU (List.map zB.toD t) at_ e)] [.d (gT r.1.K r.1.N r.1.S (List.map zD.toD r.1.L) r.1.From r.1.To)] [(hU (List.map zB.toD r.2.1) r.2.2.1 r.2.2.2)] := by
  unfold wC at h
  refine yE 1000 (by kernel_rfl) (by kernel_rfl) (by kernel_rfl) (by kernel_rfl) (by kernel_rfl) (z6M _ _ _ _ t at_ e) ?_
  rintro _ rfl
  refine uP beq_iff_eq h (fun _ h => ?_) (fun _ h => ?_)
  ·
    refine z2R (e' := (List.length t : Int)) (by first | rfl | rw [List.length_map]) ?_
    rintro _ rfl
    refine zE decide_eq_true_iff h (fun _ h => ?_) (fun _ h => ?_)
    ·
      cases h; exact ⟨rfl, rfl⟩
    obtain ⟨q1, g, h⟩ := zC h
    refine ⟨_, _, _, _, _, _, _, _, ⟨_, y3W _ _ _ g⟩, ?_⟩
    cases h; exact ⟨rfl, rfl⟩
  cases h; exact ⟨rfl, rfl⟩
theorem y2p (t : List zB) (at_ e : Int) (r : zD × List zB × Int × Int) (h : z0F t at_ e = some r) : Trip Tryz.prog 93 [.hp 0 0] [(hU (List.map zB.toD t) at_ e)] [.d (gT r.1.K r.1.N r.1.S (List.map zD.toD r.1.L) r.1.From r.1.To)] [(hU (List.map zB.toD r.2.1) r.2.2.1 r.2.2.2)] := by
  unfold z0F at h
  refine yE 1000 (by kernel_rfl) (by kernel_rfl) (by kernel_rfl) (by kernel_rfl) (by kernel_rfl) (y2E _ _ _ _ t at_ e) ?_
  rintro _ rfl
  obtain ⟨q1, g, h⟩ := zC h
  refine ⟨_, _, _, _, z6f _ _ _ _ g, ?_⟩
  rintro _ rfl
  refine zE beq_iff_eq h (fun _ h => ?_) (fun _ h => ?_)
  ·
    obtain ⟨q2, g, h⟩ := zC h
    refine ⟨_, z3H _ _ _ _ _ _ g, ?_⟩
    refine zE Iff.rfl h (fun _ h => ?_) (fun _ h => ?_)
    ·
      rintro _ rfl
      obtain ⟨q3, g, h⟩ := zC h
      refine ⟨_, _, _, _, _, _, _, _, _, z6E _ _ _ _ g, ?_⟩
      obtain ⟨q4, g, h⟩ := zC h
      refine ⟨_, _, _, wR _ _ _ _ _ _ g, ?_⟩
      obtain ⟨q5, g, h⟩ := zC h
      have hT := uD _ _ _ _ _ _ _ _ g
      simp only [List.map_cons, List.map_nil, zD.toD_eq] at hT
      refine ⟨_, _, _, _, _, _, hT, ?_⟩
      cases h; exact ⟨rfl, rfl⟩
    obtain ⟨q6, g, h⟩ := zC h
    refine ⟨_, _, _, wR _ _ _ _ _ _ g, ?_⟩
    obtain ⟨q7, g, h⟩ := zC h
    refine ⟨_, _, _, _, _, _, _, _, _, gH _ _ _ _ g, ?_⟩
    obtain ⟨q8, g, h⟩ := zC h
    refine ⟨_, _, _, wR _ _ _ _ _ _ g, ?_⟩
    obtain ⟨q9, g, h⟩ := zC h
    have hT := uD _ _ _ _ _ _ _ _ g
    simp only [List.map_cons, List.map_nil, zD.toD_eq] at hT
    refine ⟨_, _, _, _, _, _, hT, ?_⟩
    cases h; exact ⟨rfl, rfl⟩
  obtain ⟨q10, g, h⟩ := zC h
  refine ⟨_, _, _, wR _ _ _ _ _ _ g, ?_⟩
  obtain ⟨q11, g, h⟩ := zC h
  refine ⟨_, _, _, _, _, _, _, _, _, gH _ _ _ _ g, ?_⟩
  obtain ⟨q12, g, h⟩ := zC h
  refine ⟨_, _, _, wR _ _ _ _ _ _ g, ?_⟩
  obtain ⟨q13, g, h⟩ := zC h
  have hT := uD _ _ _ _ _ _ _ _ g
  simp only [List.map_cons, List.map_nil, zD.toD_eq] at hT
  refine ⟨_, _, _, _, _, _, hT, ?_⟩
  cases h; exact ⟨rfl, rfl⟩
theorem y2q (t : List zB) (at_ e : Int) (r : zD × List zB × Int × Int) (h : z1I t at_ e = some r) : Trip Tryz.prog 92 [.hp 0 0] [(hU (List.map zB.toD t) at_ e)] [.d (gT r.1.K r.1.N r.1.S (List.map zD.toD r.1.L) r.1.From r.1.To)] [(hU (List.map zB.toD r.2.1) r.2.2.1 r.2.2.2)] := by
  unfold z1I at h
  refine yE 1000 (by kernel_rfl) (by kernel_rfl) (by kernel_rfl) (by kernel_rfl) (by kernel_rfl) (y2G _ _ _ _ t at_ e) ?_
  obtain ⟨q1, g, h⟩ := zC h
  refine ⟨_, _, _, _, _, _, _, _, _, gH _ _ _ _ g, ?_⟩
  obtain ⟨q2, g, h⟩ := zC h
  refine ⟨_, _, _, wR _ _ _ _ _ _ g, ?_⟩
  obtain ⟨q3, g, h⟩ := zC h
  refine ⟨_, _, _, _, _, _, _, _, _, gH _ _ _ _ g, ?_⟩
  obtain ⟨q4, g, h⟩ := zC h
  refine ⟨_, _, _, wR _ _ _ _ _ _ g, ?_⟩
  obtain ⟨q5, g, h⟩ := zC h
  have hT := uD _ _ _ _ _ _ _ _ g
  simp only [List.map_cons, List.map_nil, zD.toD_eq] at hT
  refine ⟨_, _, _, _, _, _, hT, ?_⟩
  cases h; exact ⟨rfl, rfl⟩
theorem y0G (t : List zB) (at_ e : Int) (r : zD × List zB × Int × Int) (h : z2L t at_ e = some r) : Trip Tryz.prog 97 [.hp 0 0] [(hU (List.map zB.toD t) at_ e)] [.d (gT r.1.K r.1.N r.1.S (List.map zD.toD r.1.L) r.1.From r.1.To)] [(hU (List.map zB.toD r.2.1) r.2.2.1 r.2.2.2)] := by
  unfold z2L at h
  refine yE 1000 (by kernel_rfl) (by kernel_rfl) (by kernel_rfl) (by kernel_rfl) (by kernel_rfl) (y1J _ _ _ _ t at_ e) ?_
  obtain ⟨q1, g, h⟩ := zC h
  refine ⟨_, _, _, _, _, _, _, _, _, z3w _ _ _ _ _ g, ?_⟩
  cases h; exact ⟨rfl, rfl⟩
def z5L : (i : yJ) → z3L i → Prop
  | .zF t at_ e, r => Trip Tryz.prog 69 [.hp 0 0] [(hU (List.map zB.toD t) at_ e)] [.d (gT r.1.K r.1.N r.1.S (List.map zD.toD r.1.L) r.1.From r.1.To)] [(hU (List.map zB.toD r.2.1) r.2.2.1 r.2.2.2)]
  | .zU from_ l o2 t at_ e, r => Ok (z3R (Trip Tryz.prog) [.d (gT r.1.K r.1.N r.1.S (List.map zD.toD r.1.L) r.1.From r.1.To)] [(hU (List.map zB.toD r.2.1) r.2.2.1 r.2.2.2)]) (kL Tryz.f69 4) ⟨32, [(0, .hp 0 0), (2, .ref 2 1 0), (3, (nI from_)), (4, .right 4 1 6 (List.map zD.toD l))], [(4, 1, some (.tok 6 (List.length (List.map zD.toD l)))), (2, 1, some (.agg (gT o2.K o2.N o2.S (List.map zD.toD o2.L) o2.From o2.To)))], [(hU (List.map zB.toD t) at_ e)], 0⟩
  | .yQ t at_ e, r => Trip Tryz.prog 83 [.hp 0 0] [(hU (List.map zB.toD t) at_ e)] [.d (gT r.1.K r.1.N r.1.S (List.map zD.toD r.1.L) r.1.From r.1.To)] [(hU (List.map zB.toD r.2.1) r.2.2.1 r.2.2.2)]
  | .vH t at_ e, r => Trip Tryz.prog 94 [.hp 0 0] [(hU (List.map zB.toD t) at_ e)] [.d (gT r.1.K r.1.N r.1.S (List.map zD.toD r.1.L) r.1.From r.1.To)] [(hU (List.map zB.toD r.2.1) r.2.2.1 r.2.2.2)]
  | .vF t at_ e, r => Trip Tryz.prog 95 [.hp 0 0] [(hU (List.map zB.toD t) at_ e)] [.d (gT r.1.K r.1.N r.1.S (List.map zD.toD r.1.L) r.1.From r.1.To)] [(hU (List.map zB.toD r.2.1) r.2.2.1 r.2.2.2)]
  | .vE t at_ e, r => Trip Tryz.prog 96 [.hp 0 0] [(hU (List.map zB.toD t) at_ e)] [.d (gT r.1.K r.1.N r.1.S (List.map zD.toD r.1.L) r.1.From r.1.To)] [(hU (List.map zB.toD r.2.1) r.2.2.1 r.2.2.2)]
theorem z9F : ∀ i r, z2Z vN i = some r → z5L i r := by
  refine uR gM fun g ih i => ?_
  cases i with
  | zF t at_ e =>
    have ih_stmt_reader_block_L4 := fun from_ l o2 t at_ e r h => ih (.zU from_ l o2 t at_ e) r h
    intro r h
    replace h : uT (fun from_ l o2 t at_ e => g (yJ.zU from_ l o2 t at_ e)) t at_ e = some r := h
    unfold uT at h
    refine yE 1000 (by kernel_rfl) (by kernel_rfl) (by kernel_rfl) (by kernel_rfl) (by kernel_rfl) (y0n _ _ _ _ t at_ e) ?_
    obtain ⟨q1, g, h⟩ := zC h
    refine ⟨_, _, _, wR _ _ _ _ _ _ g, ?_⟩
    exact ih_stmt_reader_block_L4 _ _ _ _ _ _ _ h
  | zU from_ l o2 t at_ e =>
    have ih_stmt_reader_block_L4 := fun from_ l o2 t at_ e r h => ih (.zU from_ l o2 t at_ e) r h
    have ih_stmt_reader_stmt := fun t at_ e r h => ih (.yQ t at_ e) r h
    intro r h
    replace h : wB (fun from_ l o2 t at_ e => g (yJ.zU from_ l o2 t at_ e)) (fun t at_ e => g (yJ.yQ t at_ e)) from_ l o2 t at_ e = some r := h
    unfold wB at h
    refine z6V 1000 (z7F _ _ _ _ from_ l o2 t at_ e) ?_
    rintro _ rfl
    refine zE beq_iff_eq h (fun _ h => ?_) (fun _ h => ?_)
    ·
      obtain ⟨q1, g, h⟩ := zC h
      refine ⟨_, z3H _ _ _ _ _ _ g, ?_⟩
      refine uP Iff.rfl h (fun _ h => ?_) (fun _ h => ?_)
      ·
        obtain ⟨q3, g, h⟩ := zC h
        refine ⟨_, _, _, wR _ _ _ _ _ _ g, ?_⟩
        obtain ⟨q4, g, h⟩ := zC h
        refine ⟨_, _, _, _, _, _, uD _ _ _ _ _ _ _ _ g, ?_⟩
        cases h; exact ⟨rfl, rfl⟩
      obtain ⟨q2, g, h⟩ := zC h
      refine ⟨_, _, _, _, _, _, _, _, _, ih_stmt_reader_stmt _ _ _ _ g, ?_⟩
      refine ⟨by simp [jP, D.cells], ?_⟩
      refine ⟨by first | rfl | decide | simp only [List.length_map, List.length_cons, List.length_nil, List.map_append, List.length_append], ?_⟩
      obtain ⟨hP, h⟩ := gX h
      refine ⟨by first | exact hP | simpa using hP, ?_⟩
      refine z2R (e' := List.map zD.toD (l ++ [q2.1])) (by first | rfl | simp only [List.map_append, List.map_cons, List.map_nil, List.map_take, List.map_drop, List.map_set, List.map_replicate, List.length_map, zD.toD_eq]) ?_
      exact ih_stmt_reader_block_L4 _ _ _ _ _ _ _ h
    obtain ⟨q5, g, h⟩ := zC h
    refine ⟨_, _, _, wR _ _ _ _ _ _ g, ?_⟩
    obtain ⟨q6, g, h⟩ := zC h
    refine ⟨_, _, _, _, _, _, uD _ _ _ _ _ _ _ _ g, ?_⟩
    cases h; exact ⟨rfl, rfl⟩
  | yQ t at_ e =>
    have ih_stmt_reader_block := fun t at_ e r h => ih (.zF t at_ e) r h
    have ih_stmt_reader_cond := fun t at_ e r h => ih (.vH t at_ e) r h
    have ih_stmt_reader_while := fun t at_ e r h => ih (.vF t at_ e) r h
    have ih_stmt_reader_count := fun t at_ e r h => ih (.vE t at_ e) r h
    intro r h
    replace h : gL (fun t at_ e => g (yJ.zF t at_ e)) (fun t at_ e => g (yJ.vH t at_ e)) (fun t at_ e => g (yJ.vF t at_ e)) (fun t at_ e => g (yJ.vE t at_ e)) t at_ e = some r := h
    unfold gL at h
    refine yE 1000 (by kernel_rfl) (by kernel_rfl) (by kernel_rfl) (by kernel_rfl) (by kernel_rfl) (y1K _ _ _ _ t at_ e) ?_
    obtain ⟨q1, g, h⟩ := zC h
    refine ⟨_, _, _, _, _, z4P _ _ _ _ g, ?_⟩
    obtain ⟨q2, g, h⟩ := zC h
    have hT := y8s _ _ g
    by_cases hg : q2 = 69
    · rw [if_pos hg] at h; rw [hg] at hT
      refine .inl ⟨⟨_, hT⟩, ?_⟩
      obtain ⟨q3, g, h⟩ := zC h
      refine ⟨_, _, _, _, _, _, _, _, _, ih_stmt_reader_block _ _ _ _ g, ?_⟩
      cases h; exact ⟨rfl, rfl⟩
    rw [if_neg hg] at h; clear hg
    by_cases hg : q2 = 92
    · rw [if_pos hg] at h; rw [hg] at hT
      refine .inr <| .inl ⟨⟨_, hT⟩, ?_⟩
      obtain ⟨q4, g, h⟩ := zC h
      refine ⟨_, _, _, _, _, _, _, _, _, y2q _ _ _ _ g, ?_⟩
      cases h; exact ⟨rfl, rfl⟩
    rw [if_neg hg] at h; clear hg
    by_cases hg : q2 = 93
    · rw [if_pos hg] at h; rw [hg] at hT
      refine .inr <| .inr <| .inl ⟨⟨_, hT⟩, ?_⟩
      obtain ⟨q5, g, h⟩ := zC h
      refine ⟨_, _, _, _, _, _, _, _, _, y2p _ _ _ _ g, ?_⟩
      cases h; exact ⟨rfl, rfl⟩
    rw [if_neg hg] at h; clear hg
    by_cases hg : q2 = 94
    · rw [if_pos hg] at h; rw [hg] at hT
      refine .inr <| .inr <| .inr <| .inl ⟨⟨_, hT⟩, ?_⟩
      obtain ⟨q6, g, h⟩ := zC h
      refine ⟨_, _, _, _, _, _, _, _, _, ih_stmt_reader_cond _ _ _ _ g, ?_⟩
      cases h; exact ⟨rfl, rfl⟩
    rw [if_neg hg] at h; clear hg
    by_cases hg : q2 = 95
    · rw [if_pos hg] at h; rw [hg] at hT
      refine .inr <| .inr <| .inr <| .inr <| .inl ⟨⟨_, hT⟩, ?_⟩
      obtain ⟨q7, g, h⟩ := zC h
      refine ⟨_, _, _, _, _, _, _, _, _, ih_stmt_reader_while _ _ _ _ g, ?_⟩
      cases h; exact ⟨rfl, rfl⟩
    rw [if_neg hg] at h; clear hg
    by_cases hg : q2 = 96
    · rw [if_pos hg] at h; rw [hg] at hT
      refine .inr <| .inr <| .inr <| .inr <| .inr <| .inl ⟨⟨_, hT⟩, ?_⟩
      obtain ⟨q8, g, h⟩ := zC h
      refine ⟨_, _, _, _, _, _, _, _, _, ih_stmt_reader_count _ _ _ _ g, ?_⟩
      cases h; exact ⟨rfl, rfl⟩
    rw [if_neg hg] at h; clear hg
    by_cases hg : q2 = 97
    · rw [if_pos hg] at h; rw [hg] at hT
      refine .inr <| .inr <| .inr <| .inr <| .inr <| .inr <| .inl ⟨⟨_, hT⟩, ?_⟩
      obtain ⟨q9, g, h⟩ := zC h
      refine ⟨_, _, _, _, _, _, _, _, _, y0G _ _ _ _ g, ?_⟩
      cases h; exact ⟨rfl, rfl⟩
    rw [if_neg hg] at h; clear hg
    by_cases hg : q2 = 98
    · rw [if_pos hg] at h; rw [hg] at hT
      refine .inr <| .inr <| .inr <| .inr <| .inr <| .inr <| .inr <| .inl ⟨⟨_, hT⟩, ?_⟩
      obtain ⟨q10, g, h⟩ := zC h
      refine ⟨_, _, _, _, _, _, _, _, _, y0E _ _ _ _ g, ?_⟩
      cases h; exact ⟨rfl, rfl⟩
    rw [if_neg hg] at h; clear hg
    by_cases hg : q2 = 99
    · rw [if_pos hg] at h; rw [hg] at hT
      refine .inr <| .inr <| .inr <| .inr <| .inr <| .inr <| .inr <| .inr <| .inl ⟨⟨_, hT⟩, ?_⟩
      obtain ⟨q11, g, h⟩ := zC h
      refine ⟨_, _, _, _, _, _, _, _, _, y0F _ _ _ _ g, ?_⟩
      cases h; exact ⟨rfl, rfl⟩
    rw [if_neg hg] at h; clear hg
    cases h
  | vH t at_ e =>
    have ih_stmt_reader_block := fun t at_ e r h => ih (.zF t at_ e) r h
    intro r h
    replace h : z0c (fun t at_ e => g (yJ.zF t at_ e)) t at_ e = some r := h
    unfold z0c at h
    refine yE 1000 (by kernel_rfl) (by kernel_rfl) (by kernel_rfl) (by kernel_rfl) (by kernel_rfl) (y1E _ _ _ _ t at_ e) ?_
    rintro _ rfl
    obtain ⟨q1, g, h⟩ := zC h
    refine ⟨_, _, _, _, _, _, _, _, _, gH _ _ _ _ g, ?_⟩
    obtain ⟨q2, g, h⟩ := zC h
    refine ⟨_, _, _, _, _, _, _, _, _, ih_stmt_reader_block _ _ _ _ g, ?_⟩
    rintro _ rfl
    refine zE beq_iff_eq h (fun _ h => ?_) (fun _ h => ?_)
    ·
      obtain ⟨q3, g, h⟩ := zC h
      refine ⟨_, z3H _ _ _ _ _ _ g, ?_⟩
      refine zE Iff.rfl h (fun _ h => ?_) (fun _ h => ?_)
      ·
        rintro _ rfl
        obtain ⟨q4, g, h⟩ := zC h
        refine ⟨_, _, _, _, _, _, _, _, _, ih_stmt_reader_block _ _ _ _ g, ?_⟩
        obtain ⟨q5, g, h⟩ := zC h
        have hT := uD _ _ _ _ _ _ _ _ g
        simp only [List.map_cons, List.map_nil, zD.toD_eq] at hT
        refine ⟨_, _, _, _, _, _, hT, ?_⟩
        cases h; exact ⟨rfl, rfl⟩
      obtain ⟨q6, g, h⟩ := zC h
      have hT := uD _ _ _ _ _ _ _ _ g
      simp only [List.map_cons, List.map_nil, zD.toD_eq] at hT
      refine ⟨_, _, _, _, _, _, hT, ?_⟩
      cases h; exact ⟨rfl, rfl⟩
    obtain ⟨q7, g, h⟩ := zC h
    have hT := uD _ _ _ _ _ _ _ _ g
    simp only [List.map_cons, List.map_nil, zD.toD_eq] at hT
    refine ⟨_, _, _, _, _, _, hT, ?_⟩
    cases h; exact ⟨rfl, rfl⟩
  | vF t at_ e =>
    have ih_stmt_reader_block := fun t at_ e r h => ih (.zF t at_ e) r h
    intro r h
    replace h : gQ (fun t at_ e => g (yJ.zF t at_ e)) t at_ e = some r := h
    unfold gQ at h
    refine yE 1000 (by kernel_rfl) (by kernel_rfl) (by kernel_rfl) (by kernel_rfl) (by kernel_rfl) (y0p _ _ _ _ t at_ e) ?_
    rintro _ rfl
    obtain ⟨q1, g, h⟩ := zC h
    refine ⟨_, _, _, _, _, _, _, _, _, gH _ _ _ _ g, ?_⟩
    obtain ⟨q2, g, h⟩ := zC h
    refine ⟨_, _, _, _, _, _, _, _, _, ih_stmt_reader_block _ _ _ _ g, ?_⟩
    obtain ⟨q3, g, h⟩ := zC h
    have hT := uD _ _ _ _ _ _ _ _ g
    simp only [List.map_cons, List.map_nil, zD.toD_eq] at hT
    refine ⟨_, _, _, _, _, _, hT, ?_⟩
    cases h; exact ⟨rfl, rfl⟩
  | vE t at_ e =>
    have ih_stmt_reader_block := fun t at_ e r h => ih (.zF t at_ e) r h
    intro r h
    replace h : gP (fun t at_ e => g (yJ.zF t at_ e)) t at_ e = some r := h
    unfold gP at h
    refine yE 1000 (by kernel_rfl) (by kernel_rfl) (by kernel_rfl) (by kernel_rfl) (by kernel_rfl) (y0o _ _ _ _ t at_ e) ?_
    rintro _ rfl
    obtain ⟨q1, g, h⟩ := zC h
    refine ⟨_, _, _, _, z6f _ _ _ _ g, ?_⟩
    obtain ⟨q2, g, h⟩ := zC h
    refine ⟨_, _, _, wR _ _ _ _ _ _ g, ?_⟩
    obtain ⟨q3, g, h⟩ := zC h
    refine ⟨_, _, _, _, _, _, _, _, _, gH _ _ _ _ g, ?_⟩
    obtain ⟨q4, g, h⟩ := zC h
    refine ⟨_, _, _, wR _ _ _ _ _ _ g, ?_⟩
    obtain ⟨q5, g, h⟩ := zC h
    refine ⟨_, _, _, _, _, _, _, _, _, gH _ _ _ _ g, ?_⟩
    obtain ⟨q6, g, h⟩ := zC h
    refine ⟨_, _, _, _, _, _, _, _, _, ih_stmt_reader_block _ _ _ _ g, ?_⟩
    obtain ⟨q7, g, h⟩ := zC h
    have hT := uD _ _ _ _ _ _ _ _ g
    simp only [List.map_cons, List.map_nil, zD.toD_eq] at hT
    refine ⟨_, _, _, _, _, _, hT, ?_⟩
    cases h; exact ⟨rfl, rfl⟩
theorem z9L (t : List zB) (at_ e : Int) (r : zD × List zB × Int × Int) (h : zF t at_ e = some r) : z5L (.zF t at_ e) r := z9F (.zF t at_ e) r h
theorem z6p (t : List zB) (at_ : Int) (r : zD × Int × Int) (h : z1v t at_ = some r) : Trip Tryz.prog 68 [.d (.sl (List.map zB.toD t)), (nI at_), .fn 69 [] []] [] [.d (gT r.1.K r.1.N r.1.S (List.map zD.toD r.1.L) r.1.From r.1.To), (nI r.2.1), (nI r.2.2)] [] := by
  unfold z1v at h
  refine yE 1000 (by kernel_rfl) (by kernel_rfl) (by kernel_rfl) (by kernel_rfl) (by kernel_rfl) (z6v _ _ _ _ t at_) ?_
  rintro _ rfl
  refine zE decide_eq_true_iff h (fun _ h => ?_) (fun _ h => ?_)
  ·
    cases h; exact ⟨rfl, rfl⟩
  refine z2R (e' := (List.length t : Int)) (by first | rfl | rw [List.length_map]) ?_
  rintro _ rfl
  refine zE decide_eq_true_iff h (fun _ h => ?_) (fun _ h => ?_)
  ·
    cases h; exact ⟨rfl, rfl⟩
  obtain ⟨q1, g, h⟩ := zC h
  refine ⟨_, _, _, _, _, _, _, _, _, z9L _ _ _ _ g, ?_⟩
  rintro _ rfl
  refine uP beq_iff_eq h (fun _ h => ?_) (fun _ h => ?_)
  ·
    cases h; exact ⟨rfl, rfl⟩
  cases h; exact ⟨rfl, rfl⟩
theorem y6Z (t : List zB) (at_ : Int) (r : zD × Int × Int) (h : z7b t at_ = some r) : Trip Tryz.prog 56 [.d (.sl (List.map zB.toD t)), (nI at_)] [] [.d (gT r.1.K r.1.N r.1.S (List.map zD.toD r.1.L) r.1.From r.1.To), (nI r.2.1), (nI r.2.2)] [] := by
  unfold z7b at h
  refine yE 1000 (by kernel_rfl) (by kernel_rfl) (by kernel_rfl) (by kernel_rfl) (by kernel_rfl) (y7G _ _ _ _ t at_) ?_
  obtain ⟨q1, g, h⟩ := zC h
  refine ⟨_, _, _, _, _, _, _, _, ⟨_, z6p _ _ _ g⟩, ?_⟩
  cases h; exact ⟨rfl, rfl⟩
theorem z3C (t : List zB) (at_ e K N : Int) (S : Str) (L : List zD) (From To : Int) (r : zD × List zB × Int × Int × Int × Int × Str × List zD × Int × Int) (h : vX t at_ e K N S L From To = some r) : Trip Tryz.prog 52 [.hp 0 0, .fn 56 [] []] [(hU (List.map zB.toD t) at_ e), (hM K N S (List.map zD.toD L) From To)] [.d (gT r.1.K r.1.N r.1.S (List.map zD.toD r.1.L) r.1.From r.1.To)] [(hU (List.map zB.toD r.2.1) r.2.2.1 r.2.2.2.1), (hM r.2.2.2.2.1 r.2.2.2.2.2.1 r.2.2.2.2.2.2.1 (List.map zD.toD r.2.2.2.2.2.2.2.1) r.2.2.2.2.2.2.2.2.1 r.2.2.2.2.2.2.2.2.2)] := by
  unfold vX at h
  refine yE 1000 (by kernel_rfl) (by kernel_rfl) (by kernel_rfl) (by kernel_rfl) (by kernel_rfl) (z6w _ _ _ _ t at_ e K N S L From To) ?_
  rintro _ rfl
  refine uP beq_iff_eq h (fun _ h => ?_) (fun _ h => ?_)
  ·
    obtain ⟨q1, g, h⟩ := zC h
    refine ⟨_, _, _, _, _, _, _, _, ⟨_, y6Z _ _ _ g⟩, ?_⟩
    cases h; exact ⟨rfl, rfl⟩
  cases h; exact ⟨rfl, rfl⟩
theorem z1f (t : List zB) (at_ e K N : Int) (S : Str) (L : List zD) (From To : Int) (r : zD × List zB × Int × Int × Int × Int × Str × List zD × Int × Int) (h : vK t at_ e K N S L From To = some r) : Trip Tryz.prog 52 [.hp 0 0, .fn 53 [] []] [(hU (List.map zB.toD t) at_ e), (hM K N S (List.map zD.toD L) From To)] [.d (gT r.1.K r.1.N r.1.S (List.map zD.toD r.1.L) r.1.From r.1.To)] [(hU (List.map zB.toD r.2.1) r.2.2.1 r.2.2.2.1), (hM r.2.2.2.2.1 r.2.2.2.2.2.1 r.2.2.2.2.2.2.1 (List.map zD.toD r.2.2.2.2.2.2.2.1) r.2.2.2.2.2.2.2.2.1 r.2.2.2.2.2.2.2.2.2)] := by
  unfold vK at h
  refine yE 1000 (by kernel_rfl) (by kernel_rfl) (by kernel_rfl) (by kernel_rfl) (by kernel_rfl) (z6O _ _ _ _ t at_ e K N S L From To) ?_
  rintro _ rfl
  refine uP beq_iff_eq h (fun _ h => ?_) (fun _ h => ?_)
  ·
    obtain ⟨q1, g, h⟩ := zC h
    refine ⟨_, _, _, _, _, _, _, _, ⟨_, y3W _ _ _ g⟩, ?_⟩
    cases h; exact ⟨rfl, rfl⟩
  cases h; exact ⟨rfl, rfl⟩
theorem z9M (t : List zB) (at_ e K N : Int) (S : Str) (L : List zD) (From To : Int) (r : Bool × List zB × Int × Int × Int × Int × Str × List zD × Int × Int) (h : z1A t at_ e K N S L From To = some r) : Trip Tryz.prog 67 [.hp 0 0] [(hU (List.map zB.toD t) at_ e), (hM K N S (List.map zD.toD L) From To)] [(nB r.1)] [(hU (List.map zB.toD r.2.1) r.2.2.1 r.2.2.2.1), (hM r.2.2.2.2.1 r.2.2.2.2.2.1 r.2.2.2.2.2.2.1 (List.map zD.toD r.2.2.2.2.2.2.2.1) r.2.2.2.2.2.2.2.2.1 r.2.2.2.2.2.2.2.2.2)] := by
  unfold z1A at h
  refine yE 1000 (by kernel_rfl) (by kernel_rfl) (by kernel_rfl) (by kernel_rfl) (by kernel_rfl) (y0q _ _ _ _ t at_ e K N S L From To) ?_
  obtain ⟨q1, g, h⟩ := zC h
  refine ⟨_, _, _, _, _, _, _, _, _, _, z2U _ _ _ _ _ _ _ _ _ _ _ _ g, ?_⟩
  cases h; exact ⟨rfl, rfl⟩
theorem z4s (t : List zB) (at_ e K N : Int) (S : Str) (L : List zD) (From To : Int) (r : zD × List zB × Int × Int × Int × Int × Str × List zD × Int × Int) (h : gR t at_ e K N S L From To = some r) : Trip Tryz.prog 63 [.hp 0 0] [(hU (List.map zB.toD t) at_ e), (hM K N S (List.map zD.toD L) From To)] [.d (gT r.1.K r.1.N r.1.S (List.map zD.toD r.1.L) r.1.From r.1.To)] [(hU (List.map zB.toD r.2.1) r.2.2.1 r.2.2.2.1), (hM r.2.2.2.2.1 r.2.2.2.2.2.1 r.2.2.2.2.2.2.1 (List.map zD.toD r.2.2.2.2.2.2.2.1) r.2.2.2.2.2.2.2.2.1 r.2.2.2.2.2.2.2.2.2)] := by
  unfold gR at h
  refine yE 1000 (by kernel_rfl) (by kernel_rfl) (by kernel_rfl) (by kernel_rfl) (by kernel_rfl) (y1Q _ _ _ _ t at_ e K N S L From To) ?_
  obtain ⟨q1, g, h⟩ := zC h
  refine ⟨_, _, _, _, _, _, _, _, _, _, z1e _ _ _ _ _ _ _ _ _ _ g, ?_⟩
  obtain ⟨q2, g, h⟩ := zC h
  refine ⟨_, _, _, _, _, _, _, _, _, wF _ _ _ _ _ _ _ _ _ _ _ _ g, ?_⟩
  obtain ⟨q3, g, h⟩ := zC h
  refine ⟨_, _, _, _, _, _, _, _, _, _, _, _, _, _, _, z1f _ _ _ _ _ _ _ _ _ _ g, ?_⟩
  obtain ⟨q4, g, h⟩ := zC h
  have hT := z0b _ _ _ _ _ _ _ _ _ _ _ _ _ _ _ g
  simp only [List.map_cons, List.map_nil, zD.toD_eq] at hT
  refine ⟨_, _, _, _, _, _, hT, ?_⟩
  cases h; exact ⟨rfl, rfl⟩
def uW : (i : wP) → uY i → Prop
  | .zH out t at_ e K N S L From To, r => Ok (jM (Trip Tryz.prog) [.d (.sl (List.map zD.toD r.1))] [(hU (List.map zB.toD r.2.1) r.2.2.1 r.2.2.2.1), (hM r.2.2.2.2.1 r.2.2.2.2.2.1 r.2.2.2.2.2.2.1 (List.map zD.toD r.2.2.2.2.2.2.2.1) r.2.2.2.2.2.2.2.2.1 r.2.2.2.2.2.2.2.2.2)]) (kL Tryz.f47 2) ⟨26, [(0, .hp 0 0), (1, .fn 63 [.hp 0 0] []), (2, .fn 67 [.hp 0 0] []), (7, .right 10 1 6 (List.map zD.toD out))], [(10, 1, some (.tok 6 (List.length (List.map zD.toD out))))], [(hU (List.map zB.toD t) at_ e), (hM K N S (List.map zD.toD L) From To)], 0⟩
theorem z2g : ∀ i r, z2Z wN i = some r → uW i r := by
  refine uR z0l fun g ih i => ?_
  cases i with
  | zH out t at_ e K N S L From To =>
    have ih_unit_reader_list_reader_part_reader_comma_L2 := fun out t at_ e K N S L From To r h => ih (.zH out t at_ e K N S L From To) r h
    intro r h
    replace h : yA (fun out t at_ e K N S L From To => g (wP.zH out t at_ e K N S L From To)) out t at_ e K N S L From To = some r := h
    unfold yA at h
    refine z6V 1000 (z2k _ _ _ _ out t at_ e K N S L From To) ?_
    rintro _ rfl
    refine zE beq_iff_eq h (fun _ h => ?_) (fun _ h => ?_)
    ·
      obtain ⟨q1, g, h⟩ := zC h
      refine ⟨_, _, _, _, _, _, _, _, _, _, z9M _ _ _ _ _ _ _ _ _ _ g, ?_⟩
      refine zE Iff.rfl h (fun _ h => ?_) (fun _ h => ?_)
      ·
        obtain ⟨q2, g, h⟩ := zC h
        refine ⟨_, _, _, _, _, _, _, _, _, _, _, _, _, _, _, z4s _ _ _ _ _ _ _ _ _ _ g, ?_⟩
        refine ⟨by simp [jP, D.cells], ?_⟩
        refine ⟨by first | rfl | decide | simp only [List.length_map, List.length_cons, List.length_nil, List.map_append, List.length_append], ?_⟩
        obtain ⟨hP, h⟩ := gX h
        refine ⟨by first | exact hP | simpa using hP, ?_⟩
        refine z2R (e' := List.map zD.toD (out ++ [q2.1])) (by first | rfl | simp only [List.map_append, List.map_cons, List.map_nil, List.map_take, List.map_drop, List.map_set, List.map_replicate, List.length_map, zD.toD_eq]) ?_
        exact ih_unit_reader_list_reader_part_reader_comma_L2 _ _ _ _ _ _ _ _ _ _ _ h
      cases h; exact ⟨rfl, rfl⟩
    cases h; exact ⟨rfl, rfl⟩
theorem z2i (out : List zD) (t : List zB) (at_ e K N : Int) (S : Str) (L : List zD) (From To : Int) (r : List zD × List zB × Int × Int × Int × Int × Str × List zD × Int × Int) (h : zH out t at_ e K N S L From To = some r) : uW (.zH out t at_ e K N S L From To) r := z2g (.zH out t at_ e K N S L From To) r h
theorem z2B (t : List zB) (at_ e K N : Int) (S : Str) (L : List zD) (From To : Int) (r : List zD × List zB × Int × Int × Int × Int × Str × List zD × Int × Int) (h : wE t at_ e K N S L From To = some r) : Trip Tryz.prog 47 [.hp 0 0, .fn 63 [.hp 0 0] [], .fn 67 [.hp 0 0] []] [(hU (List.map zB.toD t) at_ e), (hM K N S (List.map zD.toD L) From To)] [.d (.sl (List.map zD.toD r.1))] [(hU (List.map zB.toD r.2.1) r.2.2.1 r.2.2.2.1), (hM r.2.2.2.2.1 r.2.2.2.2.2.1 r.2.2.2.2.2.2.1 (List.map zD.toD r.2.2.2.2.2.2.2.1) r.2.2.2.2.2.2.2.2.1 r.2.2.2.2.2.2.2.2.2)] := by
  unfold wE at h
  refine yE 1000 (by kernel_rfl) (by kernel_rfl) (by kernel_rfl) (by kernel_rfl) (by kernel_rfl) (z2E _ _ _ _ t at_ e K N S L From To) ?_
  obtain ⟨q1, g, h⟩ := zC h
  refine ⟨_, _, _, _, _, _, _, _, _, _, _, _, _, _, _, z4s _ _ _ _ _ _ _ _ _ _ g, ?_⟩
  have hT := z2i _ _ _ _ _ _ _ _ _ _ _ h
  unfold uW at hT; dsimp only at hT
  simp only [List.map_cons, List.map_nil, List.length_cons, List.length_nil, zD.toD_eq] at hT
  exact hT
theorem z5z (t : List zB) (at_ e K N : Int) (S : Str) (L : List zD) (From To : Int) (r : zD × List zB × Int × Int × Int × Int × Str × List zD × Int × Int) (h : wG t at_ e K N S L From To = some r) : Trip Tryz.prog 55 [.hp 0 0] [(hU (List.map zB.toD t) at_ e), (hM K N S (List.map zD.toD L) From To)] [.d (gT r.1.K r.1.N r.1.S (List.map zD.toD r.1.L) r.1.From r.1.To)] [(hU (List.map zB.toD r.2.1) r.2.2.1 r.2.2.2.1), (hM r.2.2.2.2.1 r.2.2.2.2.2.1 r.2.2.2.2.2.2.1 (List.map zD.toD r.2.2.2.2.2.2.2.1) r.2.2.2.2.2.2.2.2.1 r.2.2.2.2.2.2.2.2.2)] := by
  unfold wG at h
  refine yE 1000 (by kernel_rfl) (by kernel_rfl) (by kernel_rfl) (by kernel_rfl) (by kernel_rfl) (z9n _ _ _ _ t at_ e K N S L From To) ?_
  obtain ⟨q1, g, h⟩ := zC h
  refine ⟨_, _, _, _, _, _, _, _, _, wF _ _ _ _ _ _ _ _ _ _ _ _ g, ?_⟩
  obtain ⟨q2, g, h⟩ := zC h
  refine ⟨_, _, _, _, _, _, _, _, _, _, z2U _ _ _ _ _ _ _ _ _ _ _ _ g, ?_⟩
  refine zE Iff.rfl h (fun _ h => ?_) (fun _ h => ?_)
  ·
    obtain ⟨q3, g, h⟩ := zC h
    refine ⟨_, _, _, _, _, _, z0b _ _ _ _ _ _ _ _ _ _ _ _ _ _ _ g, ?_⟩
    cases h; exact ⟨rfl, rfl⟩
  obtain ⟨q4, g, h⟩ := zC h
  refine ⟨_, _, _, _, _, _, _, _, _, _, z2B _ _ _ _ _ _ _ _ _ _ g, ?_⟩
  obtain ⟨q5, g, h⟩ := zC h
  refine ⟨_, _, _, _, _, _, _, _, _, wF _ _ _ _ _ _ _ _ _ _ _ _ g, ?_⟩
  obtain ⟨q6, g, h⟩ := zC h
  refine ⟨_, _, _, _, _, _, z0b _ _ _ _ _ _ _ _ _ _ _ _ _ _ _ g, ?_⟩
  cases h; exact ⟨rfl, rfl⟩
theorem z4L (t : List zB) (at_ e K N : Int) (S : Str) (L : List zD) (From To : Int) (r : zD × List zB × Int × Int × Int × Int × Str × List zD × Int × Int) (h : jW t at_ e K N S L From To = some r) : Trip Tryz.prog 25 [.hp 0 0] [(hU (List.map zB.toD t) at_ e), (hM K N S (List.map zD.toD L) From To)] [.d (gT r.1.K r.1.N r.1.S (List.map zD.toD r.1.L) r.1.From r.1.To)] [(hU (List.map zB.toD r.2.1) r.2.2.1 r.2.2.2.1), (hM r.2.2.2.2.1 r.2.2.2.2.2.1 r.2.2.2.2.2.2.1 (List.map zD.toD r.2.2.2.2.2.2.2.1) r.2.2.2.2.2.2.2.2.1 r.2.2.2.2.2.2.2.2.2)] := by
  unfold jW at h
  refine yE 1000 (by kernel_rfl) (by kernel_rfl) (by kernel_rfl) (by kernel_rfl) (by kernel_rfl) (z7G _ _ _ _ t at_ e K N S L From To) ?_
  obtain ⟨q1, g, h⟩ := zC h
  refine ⟨_, _, _, _, _, _, _, _, _, _, z2U _ _ _ _ _ _ _ _ _ _ _ _ g, ?_⟩
  refine zE Iff.rfl h (fun _ h => ?_) (fun _ h => ?_)
  ·
    obtain ⟨q2, g, h⟩ := zC h
    refine ⟨_, _, _, _, _, _, _, _, _, wF _ _ _ _ _ _ _ _ _ _ _ _ g, ?_⟩
    obtain ⟨q3, g, h⟩ := zC h
    refine ⟨_, _, _, _, _, _, _, _, _, _, z1e _ _ _ _ _ _ _ _ _ _ g, ?_⟩
    obtain ⟨q4, g, h⟩ := zC h
    refine ⟨_, _, _, _, _, _, _, _, _, _, _, _, _, _, _, z5z _ _ _ _ _ _ _ _ _ _ g, ?_⟩
    obtain ⟨q5, g, h⟩ := zC h
    refine ⟨_, _, _, _, _, _, _, _, _, wF _ _ _ _ _ _ _ _ _ _ _ _ g, ?_⟩
    obtain ⟨q6, g, h⟩ := zC h
    refine ⟨_, _, _, _, _, _, _, _, _, _, _, _, _, _, _, z1f _ _ _ _ _ _ _ _ _ _ g, ?_⟩
    obtain ⟨q7, g, h⟩ := zC h
    refine ⟨_, _, _, _, _, _, _, _, _, _, _, _, _, _, _, z3C _ _ _ _ _ _ _ _ _ _ g, ?_⟩
    obtain ⟨q8, g, h⟩ := zC h
    have hT := z0b _ _ _ _ _ _ _ _ _ _ _ _ _ _ _ g
    simp only [List.map_cons, List.map_nil, zD.toD_eq] at hT
    refine ⟨_, _, _, _, _, _, hT, ?_⟩
    cases h; exact ⟨rfl, rfl⟩
  obtain ⟨q9, g, h⟩ := zC h
  refine ⟨_, _, _, _, _, _, _, _, _, wF _ _ _ _ _ _ _ _ _ _ _ _ g, ?_⟩
  obtain ⟨q10, g, h⟩ := zC h
  refine ⟨_, _, _, _, _, _, _, _, _, _, z1e _ _ _ _ _ _ _ _ _ _ g, ?_⟩
  obtain ⟨q11, g, h⟩ := zC h
  refine ⟨_, _, _, _, _, _, _, _, _, _, _, _, _, _, _, z5z _ _ _ _ _ _ _ _ _ _ g, ?_⟩
  obtain ⟨q12, g, h⟩ := zC h
  refine ⟨_, _, _, _, _, _, _, _, _, wF _ _ _ _ _ _ _ _ _ _ _ _ g, ?_⟩
  obtain ⟨q13, g, h⟩ := zC h
  refine ⟨_, _, _, _, _, _, _, _, _, _, _, _, _, _, _, z1f _ _ _ _ _ _ _ _ _ _ g, ?_⟩
  obtain ⟨q14, g, h⟩ := zC h
  refine ⟨_, _, _, _, _, _, _, _, _, _, _, _, _, _, _, z3C _ _ _ _ _ _ _ _ _ _ g, ?_⟩
  obtain ⟨q15, g, h⟩ := zC h
  have hT := z0b _ _ _ _ _ _ _ _ _ _ _ _ _ _ _ g
  simp only [List.map_cons, List.map_nil, zD.toD_eq] at hT
  refine ⟨_, _, _, _, _, _, hT, ?_⟩
  cases h; exact ⟨rfl, rfl⟩
theorem z8X (t : List zB) (at_ e K N : Int) (S : Str) (L : List zD) (From To : Int) (r : zD × List zB × Int × Int × Int × Int × Str × List zD × Int × Int) (h : z1j t at_ e K N S L From To = some r) : Trip Tryz.prog 24 [.hp 0 0] [(hU (List.map zB.toD t) at_ e), (hM K N S (List.map zD.toD L) From To)] [.d (gT r.1.K r.1.N r.1.S (List.map zD.toD r.1.L) r.1.From r.1.To)] [(hU (List.map zB.toD r.2.1) r.2.2.1 r.2.2.2.1), (hM r.2.2.2.2.1 r.2.2.2.2.2.1 r.2.2.2.2.2.2.1 (List.map zD.toD r.2.2.2.2.2.2.2.1) r.2.2.2.2.2.2.2.2.1 r.2.2.2.2.2.2.2.2.2)] := by
  unfold z1j at h
  refine yE 1000 (by kernel_rfl) (by kernel_rfl) (by kernel_rfl) (by kernel_rfl) (by kernel_rfl) (z9m _ _ _ _ t at_ e K N S L From To) ?_
  rintro _ rfl
  obtain ⟨q1, g, h⟩ := zC h
  refine ⟨_, _, _, _, _, _, _, _, _, _, z1e _ _ _ _ _ _ _ _ _ _ g, ?_⟩
  obtain ⟨q2, g, h⟩ := zC h
  refine ⟨_, _, _, _, _, _, _, _, _, wF _ _ _ _ _ _ _ _ _ _ _ _ g, ?_⟩
  obtain ⟨q3, g, h⟩ := zC h
  refine ⟨_, _, _, _, _, _, _, _, _, _, _, _, _, _, _, z1f _ _ _ _ _ _ _ _ _ _ g, ?_⟩
  obtain ⟨q4, g, h⟩ := zC h
  refine ⟨_, _, _, _, _, _, _, _, _, wF _ _ _ _ _ _ _ _ _ _ _ _ g, ?_⟩
  obtain ⟨q5, g, h⟩ := zC h
  have hT := z0b _ _ _ _ _ _ _ _ _ _ _ _ _ _ _ g
  simp only [List.map_cons, List.map_nil, zD.toD_eq] at hT
  refine ⟨_, _, _, _, _, _, hT, ?_⟩
  cases h; exact ⟨rfl, rfl⟩
theorem z5Q (t : List zB) (at_ e K N : Int) (S : Str) (L : List zD) (From To : Int) (r : zD × List zB × Int × Int × Int × Int × Str × List zD × Int × Int) (h : z0v t at_ e K N S L From To = some r) : Trip Tryz.prog 48 [.hp 0 0] [(hU (List.map zB.toD t) at_ e), (hM K N S (List.map zD.toD L) From To)] [.d (gT r.1.K r.1.N r.1.S (List.map zD.toD r.1.L) r.1.From r.1.To)] [(hU (List.map zB.toD r.2.1) r.2.2.1 r.2.2.2.1), (hM r.2.2.2.2.1 r.2.2.2.2.2.1 r.2.2.2.2.2.2.1 (List.map zD.toD r.2.2.2.2.2.2.2.1) r.2.2.2.2.2.2.2.2.1 r.2.2.2.2.2.2.2.2.2)] := by
  unfold z0v at h
  refine yE 1000 (by kernel_rfl) (by kernel_rfl) (by kernel_rfl) (by kernel_rfl) (by kernel_rfl) (y0r _ _ _ _ t at_ e K N S L From To) ?_
  obtain ⟨q1, g, h⟩ := zC h
  refine ⟨_, _, _, _, _, _, _, _, _, _, _, _, _, _, _, z4s _ _ _ _ _ _ _ _ _ _ g, ?_⟩
  obtain ⟨q2, g, h⟩ := zC h
  refine ⟨_, _, _, _, _, _, _, _, _, wF _ _ _ _ _ _ _ _ _ _ _ _ g, ?_⟩
  cases h; exact ⟨rfl, rfl⟩
theorem y0I (t : List zB) (at_ e K N : Int) (S : Str) (L : List zD) (From To : Int) (r : Bool) (h : z1S t at_ e K N S L From To = some r) : Trip Tryz.prog 49 [.hp 0 0] [(hU (List.map zB.toD t) at_ e), (hM K N S (List.map zD.toD L) From To)] [(nB r)] [(hU (List.map zB.toD t) at_ e), (hM K N S (List.map zD.toD L) From To)] := by
  unfold z1S at h
  refine yE 1000 (by kernel_rfl) (by kernel_rfl) (by kernel_rfl) (by kernel_rfl) (by kernel_rfl) (y1P _ _ _ _ t at_ e K N S L From To) ?_
  obtain ⟨q1, g, h⟩ := zC h
  refine ⟨_, z0f _ _ _ _ _ _ _ _ _ _ _ _ g, ?_⟩
  cases h; exact ⟨rfl, rfl⟩
def uV : (i : wO) → uX i → Prop
  | .zG out t at_ e K N S L From To, r => Ok (jL (Trip Tryz.prog) [.d (.sl (List.map zD.toD r.1))] [(hU (List.map zB.toD r.2.1) r.2.2.1 r.2.2.2.1), (hM r.2.2.2.2.1 r.2.2.2.2.2.1 r.2.2.2.2.2.2.1 (List.map zD.toD r.2.2.2.2.2.2.2.1) r.2.2.2.2.2.2.2.2.1 r.2.2.2.2.2.2.2.2.2)]) (kL Tryz.f47 2) ⟨26, [(0, .hp 0 0), (1, .fn 48 [.hp 0 0] []), (2, .fn 49 [.hp 0 0] []), (7, .right 10 1 6 (List.map zD.toD out))], [(10, 1, some (.tok 6 (List.length (List.map zD.toD out))))], [(hU (List.map zB.toD t) at_ e), (hM K N S (List.map zD.toD L) From To)], 0⟩
theorem z2f : ∀ i r, z2Z wM i = some r → uV i r := by
  refine uR z0k fun g ih i => ?_
  cases i with
  | zG out t at_ e K N S L From To =>
    have ih_unit_reader_list_reader_field_reader_open_L2 := fun out t at_ e K N S L From To r h => ih (.zG out t at_ e K N S L From To) r h
    intro r h
    replace h : zZ (fun out t at_ e K N S L From To => g (wO.zG out t at_ e K N S L From To)) out t at_ e K N S L From To = some r := h
    unfold zZ at h
    refine z6V 1000 (z2j _ _ _ _ out t at_ e K N S L From To) ?_
    rintro _ rfl
    refine zE beq_iff_eq h (fun _ h => ?_) (fun _ h => ?_)
    ·
      obtain ⟨q1, g, h⟩ := zC h
      refine ⟨_, y0I _ _ _ _ _ _ _ _ _ _ g, ?_⟩
      refine zE Iff.rfl h (fun _ h => ?_) (fun _ h => ?_)
      ·
        obtain ⟨q2, g, h⟩ := zC h
        refine ⟨_, _, _, _, _, _, _, _, _, _, _, _, _, _, _, z5Q _ _ _ _ _ _ _ _ _ _ g, ?_⟩
        refine ⟨by simp [jP, D.cells], ?_⟩
        refine ⟨by first | rfl | decide | simp only [List.length_map, List.length_cons, List.length_nil, List.map_append, List.length_append], ?_⟩
        obtain ⟨hP, h⟩ := gX h
        refine ⟨by first | exact hP | simpa using hP, ?_⟩
        refine z2R (e' := List.map zD.toD (out ++ [q2.1])) (by first | rfl | simp only [List.map_append, List.map_cons, List.map_nil, List.map_take, List.map_drop, List.map_set, List.map_replicate, List.length_map, zD.toD_eq]) ?_
        exact ih_unit_reader_list_reader_field_reader_open_L2 _ _ _ _ _ _ _ _ _ _ _ h
      cases h; exact ⟨rfl, rfl⟩
    cases h; exact ⟨rfl, rfl⟩
theorem z2h (out : List zD) (t : List zB) (at_ e K N : Int) (S : Str) (L : List zD) (From To : Int) (r : List zD × List zB × Int × Int × Int × Int × Str × List zD × Int × Int) (h : zG out t at_ e K N S L From To = some r) : uV (.zG out t at_ e K N S L From To) r := z2f (.zG out t at_ e K N S L From To) r h
theorem z2A (t : List zB) (at_ e K N : Int) (S : Str) (L : List zD) (From To : Int) (r : List zD × List zB × Int × Int × Int × Int × Str × List zD × Int × Int) (h : wD t at_ e K N S L From To = some r) : Trip Tryz.prog 47 [.hp 0 0, .fn 48 [.hp 0 0] [], .fn 49 [.hp 0 0] []] [(hU (List.map zB.toD t) at_ e), (hM K N S (List.map zD.toD L) From To)] [.d (.sl (List.map zD.toD r.1))] [(hU (List.map zB.toD r.2.1) r.2.2.1 r.2.2.2.1), (hM r.2.2.2.2.1 r.2.2.2.2.2.1 r.2.2.2.2.2.2.1 (List.map zD.toD r.2.2.2.2.2.2.2.1) r.2.2.2.2.2.2.2.2.1 r.2.2.2.2.2.2.2.2.2)] := by
  unfold wD at h
  refine yE 1000 (by kernel_rfl) (by kernel_rfl) (by kernel_rfl) (by kernel_rfl) (by kernel_rfl) (z2D _ _ _ _ t at_ e K N S L From To) ?_
  obtain ⟨q1, g, h⟩ := zC h
  refine ⟨_, _, _, _, _, _, _, _, _, _, _, _, _, _, _, z5Q _ _ _ _ _ _ _ _ _ _ g, ?_⟩
  have hT := z2h _ _ _ _ _ _ _ _ _ _ _ h
  unfold uV at hT; dsimp only at hT
  simp only [List.map_cons, List.map_nil, List.length_cons, List.length_nil, zD.toD_eq] at hT
  exact hT
theorem z8Y (t : List zB) (at_ e K N : Int) (S : Str) (L : List zD) (From To : Int) (r : zD × List zB × Int × Int × Int × Int × Str × List zD × Int × Int) (h : z1k t at_ e K N S L From To = some r) : Trip Tryz.prog 22 [.hp 0 0] [(hU (List.map zB.toD t) at_ e), (hM K N S (List.map zD.toD L) From To)] [.d (gT r.1.K r.1.N r.1.S (List.map zD.toD r.1.L) r.1.From r.1.To)] [(hU (List.map zB.toD r.2.1) r.2.2.1 r.2.2.2.1), (hM r.2.2.2.2.1 r.2.2.2.2.2.1 r.2.2.2.2.2.2.1 (List.map zD.toD r.2.2.2.2.2.2.2.1) r.2.2.2.2.2.2.2.2.1 r.2.2.2.2.2.2.2.2.2)] := by
  unfold z1k at h
  refine yE 1000 (by kernel_rfl) (by kernel_rfl) (by kernel_rfl) (by kernel_rfl) (by kernel_rfl) (z9o _ _ _ _ t at_ e K N S L From To) ?_
  rintro _ rfl
  obtain ⟨q1, g, h⟩ := zC h
  refine ⟨_, _, _, _, _, _, _, _, _, _, z1e _ _ _ _ _ _ _ _ _ _ g, ?_⟩
  obtain ⟨q2, g, h⟩ := zC h
  refine ⟨_, _, _, _, _, _, _, _, _, wF _ _ _ _ _ _ _ _ _ _ _ _ g, ?_⟩
  obtain ⟨q3, g, h⟩ := zC h
  refine ⟨_, _, _, _, _, _, _, _, _, _, z2A _ _ _ _ _ _ _ _ _ _ g, ?_⟩
  obtain ⟨q4, g, h⟩ := zC h
  refine ⟨_, _, _, _, _, _, _, _, _, wF _ _ _ _ _ _ _ _ _ _ _ _ g, ?_⟩
  obtain ⟨q5, g, h⟩ := zC h
  refine ⟨_, _, _, _, _, _, z0b _ _ _ _ _ _ _ _ _ _ _ _ _ _ _ g, ?_⟩
  cases h; exact ⟨rfl, rfl⟩
theorem y0H (t : List zB) (at_ e K N : Int) (S : Str) (L : List zD) (From To : Int) (r : zD × List zB × Int × Int × Int × Int × Str × List zD × Int × Int) (h : z1l t at_ e K N S L From To = some r) : Trip Tryz.prog 10 [.hp 0 0] [(hU (List.map zB.toD t) at_ e), (hM K N S (List.map zD.toD L) From To)] [.d (gT r.1.K r.1.N r.1.S (List.map zD.toD r.1.L) r.1.From r.1.To)] [(hU (List.map zB.toD r.2.1) r.2.2.1 r.2.2.2.1), (hM r.2.2.2.2.1 r.2.2.2.2.2.1 r.2.2.2.2.2.2.1 (List.map zD.toD r.2.2.2.2.2.2.2.1) r.2.2.2.2.2.2.2.2.1 r.2.2.2.2.2.2.2.2.2)] := by
  unfold z1l at h
  refine yE 1000 (by kernel_rfl) (by kernel_rfl) (by kernel_rfl) (by kernel_rfl) (by kernel_rfl) (y1L _ _ _ _ t at_ e K N S L From To) ?_
  obtain ⟨q1, g, h⟩ := zC h
  refine ⟨_, z0f _ _ _ _ _ _ _ _ _ _ _ _ g, ?_⟩
  refine zE Iff.rfl h (fun _ h => ?_) (fun _ h => ?_)
  ·
    obtain ⟨q2, g, h⟩ := zC h
    refine ⟨_, _, _, _, _, _, _, _, _, _, _, _, _, _, _, z8Y _ _ _ _ _ _ _ _ _ _ g, ?_⟩
    cases h; exact ⟨rfl, rfl⟩
  obtain ⟨q3, g, h⟩ := zC h
  refine ⟨_, z0f _ _ _ _ _ _ _ _ _ _ _ _ g, ?_⟩
  refine zE Iff.rfl h (fun _ h => ?_) (fun _ h => ?_)
  ·
    obtain ⟨q4, g, h⟩ := zC h
    refine ⟨_, _, _, _, _, _, _, _, _, _, _, _, _, _, _, z8W _ _ _ _ _ _ _ _ _ _ g, ?_⟩
    cases h; exact ⟨rfl, rfl⟩
  obtain ⟨q5, g, h⟩ := zC h
  refine ⟨_, z0f _ _ _ _ _ _ _ _ _ _ _ _ g, ?_⟩
  refine zE Iff.rfl h (fun _ h => ?_) (fun _ h => ?_)
  ·
    obtain ⟨q6, g, h⟩ := zC h
    refine ⟨_, _, _, _, _, _, _, _, _, _, _, _, _, _, _, z8X _ _ _ _ _ _ _ _ _ _ g, ?_⟩
    cases h; exact ⟨rfl, rfl⟩
  obtain ⟨q7, g, h⟩ := zC h
  refine ⟨_, z0f _ _ _ _ _ _ _ _ _ _ _ _ g, ?_⟩
  refine zE Iff.rfl h (fun hc273 h => ?_) (fun hc273 h => ?_)
  ·
    refine jH Iff.rfl hc273 ?_
    obtain ⟨q8, g, h⟩ := zC h
    refine ⟨_, _, _, _, _, _, _, _, _, _, _, _, _, _, _, z4L _ _ _ _ _ _ _ _ _ _ g, ?_⟩
    cases h; exact ⟨rfl, rfl⟩
  obtain ⟨q9, g, h⟩ := zC h
  refine ⟨_, z0f _ _ _ _ _ _ _ _ _ _ _ _ g, ?_⟩
  refine zE Iff.rfl h (fun _ h => ?_) (fun _ h => ?_)
  ·
    obtain ⟨q10, g, h⟩ := zC h
    refine ⟨_, _, _, _, _, _, _, _, _, _, _, _, _, _, _, z4L _ _ _ _ _ _ _ _ _ _ g, ?_⟩
    cases h; exact ⟨rfl, rfl⟩
  cases h; exact ⟨rfl, rfl⟩
def z7O : (i : z4l) → z5O i → Prop
  | .vQ o2 t at_ e K N S L From To, r => Ok (z8c (Trip Tryz.prog) [.d (gT r.1.K r.1.N r.1.S (List.map zD.toD r.1.L) r.1.From r.1.To), (nI r.2.1), (nI r.2.2)] []) (kL Tryz.f5 6) ⟨79, [(2, .ref 2 1 0), (8, .hp 0 0), (9, .hp 1 0)], [(2, 1, some (.agg (gT o2.K o2.N o2.S (List.map zD.toD o2.L) o2.From o2.To)))], [(hU (List.map zB.toD t) at_ e), (hM K N S (List.map zD.toD L) From To)], 0⟩
theorem y3T : ∀ i r, z2Z z4g i = some r → z7O i r := by
  refine uR z7K fun g ih i => ?_
  cases i with
  | vQ o2 t at_ e K N S L From To =>
    have ih_unit_Parse_L6 := fun o2 t at_ e K N S L From To r h => ih (.vQ o2 t at_ e K N S L From To) r h
    intro r h
    replace h : z1d (fun o2 t at_ e K N S L From To => g (z4l.vQ o2 t at_ e K N S L From To)) o2 t at_ e K N S L From To = some r := h
    unfold z1d at h
    refine z6V 1000 (y4y _ _ _ _ o2 t at_ e K N S L From To) ?_
    obtain ⟨x, hx, h⟩ := zC h
    refine ⟨z2a (l := t) (zB.sz), z9B hx, x.K, x.N, x.S, x.From, x.To, z6a (zB.toD_eq x) hx, ?_⟩
    rintro _ rfl
    refine uP beq_iff_eq h (fun _ h => ?_) (fun _ h => ?_)
    ·
      refine z2R (e' := (List.length L : Int)) (by first | rfl | rw [List.length_map]) ?_
      rintro _ rfl
      refine zE decide_eq_true_iff h (fun _ h => ?_) (fun _ h => ?_)
      ·
        cases h; exact ⟨rfl, rfl⟩
      obtain ⟨q2, g, h⟩ := zC h
      refine ⟨_, ⟨_, y7a _ _ g⟩, ?_⟩
      rintro _ rfl
      refine zE decide_eq_true_iff h (fun _ h => ?_) (fun _ h => ?_)
      ·
        cases h; exact ⟨rfl, rfl⟩
      cases h; exact ⟨rfl, rfl⟩
    obtain ⟨q1, g, h⟩ := zC h
    refine ⟨_, _, _, _, _, _, _, _, _, _, _, _, _, _, _, y0H _ _ _ _ _ _ _ _ _ _ g, ?_⟩
    rintro _ rfl
    refine uP beq_iff_eq h (fun _ h => ?_) (fun _ h => ?_)
    ·
      refine ⟨by simp [jP, D.cells], ?_⟩
      refine ⟨by first | rfl | decide | simp only [List.length_map, List.length_cons, List.length_nil, List.map_append, List.length_append], ?_⟩
      obtain ⟨hP, h⟩ := gX h
      refine ⟨by first | exact hP | simpa using hP, ?_⟩
      refine z2R (e' := List.map zD.toD (q1.2.2.2.2.2.2.2.1 ++ [q1.1])) (by first | rfl | simp only [List.map_append, List.map_cons, List.map_nil, List.map_take, List.map_drop, List.map_set, List.map_replicate, List.length_map, zD.toD_eq]) ?_
      refine ⟨by first | rfl | decide | simp only [List.length_map, List.length_cons, List.length_nil, List.map_append, List.length_append], ?_⟩
      exact ih_unit_Parse_L6 _ _ _ _ _ _ _ _ _ _ _ h
    obtain ⟨x1, hx, h⟩ := zC h
    refine ⟨z2a (l := q1.2.1) (zB.sz), z9B hx, x1.K, x1.N, x1.S, x1.From, x1.To, z6a (zB.toD_eq x1) hx, ?_⟩
    cases h; exact ⟨rfl, rfl⟩
theorem y4a (o2 : zD) (t : List zB) (at_ e K N : Int) (S : Str) (L : List zD) (From To : Int) (r : zD × Int × Int) (h : vQ o2 t at_ e K N S L From To = some r) : z7O (.vQ o2 t at_ e K N S L From To) r := y3T (.vQ o2 t at_ e K N S L From To) r h
theorem y3c (text : Str) (r : zD × Int × Int) (h : z3Y text = some r) : Trip Tryz.prog 5 [(nS text)] [] [.d (gT r.1.K r.1.N r.1.S (List.map zD.toD r.1.L) r.1.From r.1.To), (nI r.2.1), (nI r.2.2)] [] := by
  unfold z3Y at h
  refine yE 1000 (by kernel_rfl) (by kernel_rfl) (by kernel_rfl) (by kernel_rfl) (by kernel_rfl) (y7I _ _ _ _ text) ?_
  obtain ⟨q1, g, h⟩ := zC h
  refine ⟨_, _, _, ⟨_, y6V _ _ g⟩, ?_⟩
  rintro _ rfl
  refine uP beq_iff_eq h (fun _ h => ?_) (fun _ h => ?_)
  ·
    rintro _ rfl
    exact y4a _ _ _ _ _ _ _ _ _ _ _ h
  cases h; exact ⟨rfl, rfl⟩
theorem y3l (text : Str) (r : Bool) (h : z4Z text = some r) : Trip Tryz.prog 3 [(nS text)] [] [(nB r)] [] := by
  unfold z4Z at h
  refine yE 1000 (by kernel_rfl) (by kernel_rfl) (by kernel_rfl) (by kernel_rfl) (by kernel_rfl) (y3y _ _ _ _ text) ?_
  rintro _ rfl
  rintro _ rfl
  refine zE decide_eq_true_iff h (fun _ h => ?_) (fun _ h => ?_)
  ·
    obtain ⟨q1, g, h⟩ := zC h
    refine ⟨_, ⟨_, z6e _ g⟩, ?_⟩
    cases h; exact ⟨rfl, rfl⟩
  obtain ⟨q2, g, h⟩ := zC h
  refine ⟨_, _, _, _, _, _, _, _, ⟨_, y3c _ _ g⟩, ?_⟩
  rintro _ rfl
  refine uP beq_iff_eq h (fun _ h => ?_) (fun _ h => ?_)
  ·
    obtain ⟨q4, g, h⟩ := zC h
    refine ⟨_, ⟨_, y3a _ _ g⟩, ?_⟩
    rintro _ rfl
    rintro _ rfl
    refine zE decide_eq_true_iff h (fun _ h => ?_) (fun _ h => ?_)
    ·
      obtain ⟨q5, g, h⟩ := zC h
      refine ⟨_, ⟨_, z6e _ g⟩, ?_⟩
      cases h; exact ⟨rfl, rfl⟩
    obtain ⟨q6, g, h⟩ := zC h
    refine ⟨_, _, _, _, _, _, _, _, ⟨_, y3c _ _ g⟩, ?_⟩
    rintro _ rfl
    refine zE beq_iff_eq h (fun _ h => ?_) (fun _ h => ?_)
    ·
      obtain ⟨q7, g, h⟩ := zC h
      refine ⟨_, ⟨_, y8r _ _ _ g⟩, ?_⟩
      refine zE Iff.rfl h (fun _ h => ?_) (fun _ h => ?_)
      ·
        obtain ⟨q8, g, h⟩ := zC h
        refine ⟨_, ⟨_, y3a _ _ g⟩, ?_⟩
        rintro _ rfl
        refine zE beq_iff_eq h (fun _ h => ?_) (fun _ h => ?_)
        ·
          obtain ⟨q9, g, h⟩ := zC h
          refine ⟨_, ⟨_, z6e _ g⟩, ?_⟩
          cases h; exact ⟨rfl, rfl⟩
        cases h; exact ⟨rfl, rfl⟩
      cases h; exact ⟨rfl, rfl⟩
    cases h; exact ⟨rfl, rfl⟩
  obtain ⟨q3, g, h⟩ := zC h
  refine ⟨_, ⟨_, z6e _ g⟩, ?_⟩
  cases h; exact ⟨rfl, rfl⟩
end Go.Proofs.YthbhgdooeeapjaaGreat.M

