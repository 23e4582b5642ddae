import Derived.Test.YthbhgdooeeapjaaMod
import Derived.Test.YthbhgdooeeapjaaEv
import Derived.Test.YthbhgdooeeapjaaLay
namespace Go.Proofs.Ythbhgdooeeapjaa.M
open Go Nt Go.Proofs
set_option linter.unusedVariables false
set_option linter.unusedSimpArgs false
set_option linter.unnecessarySimpa false
set_option maxRecDepth 100000
def z2Y : (i : z0v) → z1C i → Prop
  | .yK n i u b, r => Ok (z3h (Trip Try.prog) [(nS r)] []) (kL Try.f45 6) ⟨33, [(0, (nI n)), (3, .ref 3 1 0), (4, (nI i)), (5, .d (.int .u64 u))], [(3, 1, some (.row 1 (List.map (D.int .u8) b)))], [], 0⟩
theorem z6C : ∀ i r, z0m z0t i = some r → z2Y i r := by
  refine vS z2W fun g ih i => ?_
  cases i with
  | yK n i u b =>
    have ih_lex_Digits_L6 := fun n i u b r h => ih (.yK n i u b) r h
    intro r h
    replace h : jL (fun n i u b => g (z0v.yK n i u b)) n i u b = some r := h
    unfold jL at h
    refine z2j 1000 (z7j _ _ _ _ n i u b) ?_
    rintro _ rfl
    obtain ⟨hP, h⟩ := vN h
    refine ⟨by first | exact hP | simpa using hP, ?_⟩
    rintro _ rfl
    rintro _ rfl
    rintro _ rfl
    obtain ⟨hP, h⟩ := vN h
    refine ⟨by first | exact hP.1 | (simp only [List.length_map] at hP ⊢; exact hP.1), by first | exact hP.2.1 | (simp only [List.length_map] at hP ⊢; exact hP.2.1), by first | exact hP.2.2 | (simp only [List.length_map] at hP ⊢; exact hP.2.2), ?_⟩
    obtain ⟨hP, h⟩ := vN h
    refine ⟨by first | exact hP | (rw [List.length_map]; exact hP), ?_⟩
    refine z2g (e' := List.map (D.int .u8) (b.set (Int.toNat (IntKind.wrap .i64 (i - 1))) (IntKind.wrap .u8 (IntKind.wrap .u64 (48 + (Int.tmod u 10)))))) (y7F rfl) ?_
    obtain ⟨hP, h⟩ := vN h
    refine ⟨by first | exact hP | simpa using hP, ?_⟩
    rintro _ rfl
    rintro _ rfl
    refine zD beq_iff_eq h (fun _ h => ?_) (fun _ h => ?_)
    ·
      rintro _ rfl
      refine zD decide_eq_true_iff h (fun _ h => ?_) (fun _ h => ?_)
      ·
        rintro _ rfl
        obtain ⟨hP, h⟩ := vN h
        refine ⟨by first | exact hP.1 | (simp only [List.length_map] at hP ⊢; exact hP.1), by first | exact hP.2.1 | (simp only [List.length_map] at hP ⊢; exact hP.2.1), by first | exact hP.2.2 | (simp only [List.length_map] at hP ⊢; exact hP.2.2), ?_⟩
        obtain ⟨hP, h⟩ := vN h
        refine ⟨by first | exact hP | (rw [List.length_map]; exact hP), ?_⟩
        refine z2g (e' := List.map (D.int .u8) ((b.set (IntKind.wrap .i64 (i - 1)).toNat (IntKind.wrap .u8 (IntKind.wrap .u64 (48 + (Int.tmod u 10))))).set (Int.toNat (IntKind.wrap .i64 ((IntKind.wrap .i64 (i - 1)) - 1))) 45)) (y7F rfl) ?_
        obtain ⟨hP, h⟩ := vN h
        refine ⟨by first | exact hP | simpa using hP, ?_⟩
        obtain ⟨hP, h⟩ := vN h
        refine ⟨by first | exact hP | simpa using hP, ?_⟩
        obtain ⟨hP, h⟩ := vN h
        refine ⟨by first | exact hP | simpa using hP, ?_⟩
        refine z2g (e' := List.map (D.int .u8) (List.drop (Int.toNat (IntKind.wrap .i64 ((IntKind.wrap .i64 (i - 1)) - 1))) ((b.set (IntKind.wrap .i64 (i - 1)).toNat (IntKind.wrap .u8 (IntKind.wrap .u64 (48 + (Int.tmod u 10))))).set (IntKind.wrap .i64 ((IntKind.wrap .i64 (i - 1)) - 1)).toNat 45))) (by first | rfl | simp only [List.map_append, List.map_cons, List.map_nil, List.map_take, List.map_drop, List.map_set, List.map_replicate, List.length_map]) ?_
        obtain ⟨s, hx, h⟩ := zB h
        refine ⟨s, z4J hx, ?_⟩
        cases h; exact ⟨rfl, rfl⟩
      obtain ⟨hP, h⟩ := vN h
      refine ⟨by first | exact hP | simpa using hP, ?_⟩
      obtain ⟨hP, h⟩ := vN h
      refine ⟨by first | exact hP | simpa using hP, ?_⟩
      obtain ⟨hP, h⟩ := vN h
      refine ⟨by first | exact hP | simpa using hP, ?_⟩
      refine z2g (e' := List.map (D.int .u8) (List.drop (Int.toNat (IntKind.wrap .i64 (i - 1))) (b.set (IntKind.wrap .i64 (i - 1)).toNat (IntKind.wrap .u8 (IntKind.wrap .u64 (48 + (Int.tmod u 10))))))) (by first | rfl | simp only [List.map_append, List.map_cons, List.map_nil, List.map_take, List.map_drop, List.map_set, List.map_replicate, List.length_map]) ?_
      obtain ⟨s1, hx, h⟩ := zB h
      refine ⟨s1, z4J hx, ?_⟩
      cases h; exact ⟨rfl, rfl⟩
    exact ih_lex_Digits_L6 _ _ _ _ _ h
theorem z3c (n i u : Int) (b : List Int) (r : Str) (h : yK n i u b = some r) : z2Y (.yK n i u b) r := z6C (.yK n i u b) r h
theorem z5T (n : Int) (r : Str) (h : z1t n = some r) : Trip Try.prog 45 [(nI n)] [] [(nS r)] [] := by
  unfold z1t at h
  refine yV 1000 (by kernel_rfl) (by kernel_rfl) (by kernel_rfl) (by kernel_rfl) (by kernel_rfl) (y0x _ _ _ _ n) ?_
  rintro _ rfl
  rintro _ rfl
  refine zD decide_eq_true_iff h (fun _ h => ?_) (fun _ h => ?_)
  ·
    rintro _ rfl
    exact z3c _ _ _ _ _ h
  exact z3c _ _ _ _ _ h
theorem uC (t : zI) (i : Int) (r : zI) (h : vY t i = some r) : Trip Try.prog 48 [.d (gT t.K t.N t.S (List.map zI.toD t.L) t.From t.To), (nI i)] [] [.d (gT r.K r.N r.S (List.map zI.toD r.L) r.From r.To)] [] := by
  unfold vY at h
  refine yV 1000 (by kernel_rfl) (by kernel_rfl) (by kernel_rfl) (by kernel_rfl) (by kernel_rfl) (y0A _ _ _ _ t i) ?_
  refine z2g (e' := (List.length t.L : Int)) (by first | rfl | rw [List.length_map]) ?_
  rintro _ rfl
  refine zD decide_eq_true_iff h (fun _ h => ?_) (fun _ h => ?_)
  ·
    obtain ⟨x, hx, h⟩ := zB h
    refine ⟨jE (l := t.L) (zI.sz), z2V hx, x.K, x.N, x.S, List.map zI.toD x.L, x.From, x.To, z0T (zI.toD_eq x) hx, ?_⟩
    cases h; exact ⟨rfl, rfl⟩
  cases h; exact ⟨rfl, rfl⟩
theorem zF (words out r : List Str) (h : zE words out = some r) : Trip Try.prog 44 [.hp 0 0, .d (.sl (List.map D.str words))] [[.own 1 (List.map D.str out)]] [] [[.own 1 (List.map D.str r)]] := by
  unfold zE at h
  refine yV 1000 (by kernel_rfl) (by kernel_rfl) (by kernel_rfl) (by kernel_rfl) (by kernel_rfl) (z4Y _ _ _ _ words out) ?_
  refine ⟨jE (l := words) (fun _ => rfl), ?_⟩
  refine ⟨by first | rfl | decide | simp only [List.length_map, List.length_cons, List.length_nil, List.map_append, List.length_append], ?_⟩
  obtain ⟨hP, h⟩ := vN h
  refine ⟨by first | exact hP | simpa using hP, ?_⟩
  refine z2g (e' := List.map D.str (out ++ words)) (by first | rfl | simp only [List.map_append, List.map_cons, List.map_nil, List.map_take, List.map_drop, List.map_set, List.map_replicate, List.length_map]) ?_
  refine ⟨by first | rfl | decide | simp only [List.length_map, List.length_cons, List.length_nil, List.map_append, List.length_append], ?_⟩
  cases h; exact ⟨rfl, rfl⟩
def z1B : (i : I_print_writer_kind) → z0f i → Prop
  | .print_writer_kind t out, r => Trip Try.prog 32 [.hp 0 0, .d (gT t.K t.N t.S (List.map zI.toD t.L) t.From t.To)] [[.own 1 (List.map D.str out)]] [] [[.own 1 (List.map D.str r)]]
theorem z4l : ∀ i r, z0m jO i = some r → z1B i r := by
  refine vS z1w fun g ih i => ?_
  cases i with
  | print_writer_kind t out =>
    have ih_print_writer_kind := fun t out r h => ih (.print_writer_kind t out) r h
    intro r h
    replace h : wN (fun t out => g (I_print_writer_kind.print_writer_kind t out)) t out = some r := h
    unfold wN at h
    refine yV 1000 (by kernel_rfl) (by kernel_rfl) (by kernel_rfl) (by kernel_rfl) (by kernel_rfl) (z4C _ _ _ _ t out) ?_
    rintro _ rfl
    refine zD beq_iff_eq h (fun _ h => ?_) (fun _ h => ?_)
    ·
      obtain ⟨q1, g, h⟩ := zB h
      refine ⟨_, zF _ _ _ g, ?_⟩
      cases h; exact ⟨rfl, rfl⟩
    rintro _ rfl
    refine zD beq_iff_eq h (fun _ h => ?_) (fun _ h => ?_)
    ·
      obtain ⟨q2, g, h⟩ := zB h
      refine ⟨_, zF _ _ _ g, ?_⟩
      cases h; exact ⟨rfl, rfl⟩
    rintro _ rfl
    refine zD beq_iff_eq h (fun _ h => ?_) (fun _ h => ?_)
    ·
      obtain ⟨q3, g, h⟩ := zB h
      refine ⟨_, ⟨_, z5T _ _ g⟩, ?_⟩
      obtain ⟨q4, g, h⟩ := zB h
      refine ⟨_, zF _ _ _ g, ?_⟩
      obtain ⟨q5, g, h⟩ := zB h
      refine ⟨_, _, _, _, _, _, ⟨_, uC _ _ _ g⟩, ?_⟩
      obtain ⟨q6, g, h⟩ := zB h
      refine ⟨_, ih_print_writer_kind _ _ _ g, ?_⟩
      cases h; exact ⟨rfl, rfl⟩
    rintro _ rfl
    refine zD beq_iff_eq h (fun _ h => ?_) (fun _ h => ?_)
    ·
      obtain ⟨q7, g, h⟩ := zB h
      refine ⟨_, zF _ _ _ g, ?_⟩
      cases h; exact ⟨rfl, rfl⟩
    cases h; exact ⟨rfl, rfl⟩
theorem z4q (t : zI) (out r : List Str) (h : print_writer_kind t out = some r) : z1B (.print_writer_kind t out) r := z4l (.print_writer_kind t out) r h
theorem z8f (elems : List Str) (sep r : Str) (h : strings_Join elems sep = some r) : Trip Try.prog 50 [.d (.sl (List.map D.str elems)), (nS sep)] [] [(nS r)] [] := by
  unfold strings_Join at h
  obtain ⟨h0, h⟩ := vN h
  cases h
  exact y4o y8b y8a elems sep [] h0.1 h0.2
theorem z1F (out : List Str) (r : Str) (h : uF out = some r) : Trip Try.prog 19 [.hp 0 0] [[.own 1 (List.map D.str out)]] [(nS r)] [[.own 1 (List.map D.str out)]] := by
  unfold uF at h
  refine yV 1000 (by kernel_rfl) (by kernel_rfl) (by kernel_rfl) (by kernel_rfl) (by kernel_rfl) (z4D _ _ _ _ out) ?_
  obtain ⟨q1, g, h⟩ := zB h
  refine ⟨_, ⟨_, z8f _ _ _ g⟩, ?_⟩
  cases h; exact ⟨rfl, rfl⟩
theorem z9X (t : zI) (r : Str) (h : z3L t = some r) : Trip Try.prog 14 [.d (gT t.K t.N t.S (List.map zI.toD t.L) t.From t.To)] [] [(nS r)] [] := by
  unfold z3L at h
  refine yV 1000 (by kernel_rfl) (by kernel_rfl) (by kernel_rfl) (by kernel_rfl) (by kernel_rfl) (y0z _ _ _ _ t) ?_
  obtain ⟨q1, g, h⟩ := zB h
  refine ⟨_, z4q _ _ _ g, ?_⟩
  obtain ⟨q2, g, h⟩ := zB h
  refine ⟨_, z1F _ _ g, ?_⟩
  cases h; exact ⟨rfl, rfl⟩
theorem z1Q  (r : Bool) (h : z0o = some r) : Trip Try.prog 5 [] [] [(nB r)] [] := by
  unfold z0o at h
  refine yV 1000 (by kernel_rfl) (by kernel_rfl) (by kernel_rfl) (by kernel_rfl) (by kernel_rfl) (y0w _ _ _ _ ) ?_
  obtain ⟨q1, g, h⟩ := zB h
  refine ⟨_, ⟨_, z9X _ _ g⟩, ?_⟩
  rintro _ rfl
  cases h; exact ⟨rfl, rfl⟩
theorem z5U (op : Int) (r : Str × Int) (h : z2k op = some r) : Trip Try.prog 46 [(nI op)] [] [(nS r.1), (nI r.2)] [] := by
  unfold z2k at h
  refine yV 1000 (by kernel_rfl) (by kernel_rfl) (by kernel_rfl) (by kernel_rfl) (by kernel_rfl) (y0B _ _ _ _ op) ?_
  rintro _ rfl
  refine zD beq_iff_eq h (fun _ h => ?_) (fun _ h => ?_)
  ·
    cases h; exact ⟨rfl, rfl⟩
  rintro _ rfl
  refine zD beq_iff_eq h (fun _ h => ?_) (fun _ h => ?_)
  ·
    cases h; exact ⟨rfl, rfl⟩
  rintro _ rfl
  refine zD beq_iff_eq h (fun _ h => ?_) (fun _ h => ?_)
  ·
    cases h; exact ⟨rfl, rfl⟩
  rintro _ rfl
  refine zD beq_iff_eq h (fun _ h => ?_) (fun _ h => ?_)
  ·
    cases h; exact ⟨rfl, rfl⟩
  rintro _ rfl
  refine zD beq_iff_eq h (fun _ h => ?_) (fun _ h => ?_)
  ·
    cases h; exact ⟨rfl, rfl⟩
  rintro _ rfl
  refine zD beq_iff_eq h (fun _ h => ?_) (fun _ h => ?_)
  ·
    cases h; exact ⟨rfl, rfl⟩
  rintro _ rfl
  refine zD beq_iff_eq h (fun _ h => ?_) (fun _ h => ?_)
  ·
    cases h; exact ⟨rfl, rfl⟩
  rintro _ rfl
  refine zD beq_iff_eq h (fun _ h => ?_) (fun _ h => ?_)
  ·
    cases h; exact ⟨rfl, rfl⟩
  rintro _ rfl
  refine zD beq_iff_eq h (fun _ h => ?_) (fun _ h => ?_)
  ·
    cases h; exact ⟨rfl, rfl⟩
  rintro _ rfl
  refine zD beq_iff_eq h (fun _ h => ?_) (fun _ h => ?_)
  ·
    cases h; exact ⟨rfl, rfl⟩
  rintro _ rfl
  refine zD beq_iff_eq h (fun _ h => ?_) (fun _ h => ?_)
  ·
    cases h; exact ⟨rfl, rfl⟩
  rintro _ rfl
  refine zD beq_iff_eq h (fun _ h => ?_) (fun _ h => ?_)
  ·
    cases h; exact ⟨rfl, rfl⟩
  cases h; exact ⟨rfl, rfl⟩
theorem z6J (t : zI) (r : Int) (h : jQ t = some r) : Trip Try.prog 67 [.d (gT t.K t.N t.S (List.map zI.toD t.L) t.From t.To)] [] [(nI r)] [] := by
  unfold jQ at h
  refine yV 1000 (by kernel_rfl) (by kernel_rfl) (by kernel_rfl) (by kernel_rfl) (by kernel_rfl) (z7k _ _ _ _ t) ?_
  rintro _ rfl
  refine zD beq_iff_eq h (fun _ h => ?_) (fun _ h => ?_)
  ·
    obtain ⟨q1, g, h⟩ := zB h
    refine ⟨_, _, ⟨_, z5U _ _ g⟩, ?_⟩
    cases h; exact ⟨rfl, rfl⟩
  rintro _ rfl
  refine zD beq_iff_eq h (fun _ h => ?_) (fun _ h => ?_)
  ·
    cases h; exact ⟨rfl, rfl⟩
  cases h; exact ⟨rfl, rfl⟩
def z1A : (i : I_print_writer_expr) → z0e i → Prop
  | .print_writer_expr t out, r => Trip Try.prog 18 [.hp 0 0, .d (gT t.K t.N t.S (List.map zI.toD t.L) t.From t.To)] [[.own 1 (List.map D.str out)]] [] [[.own 1 (List.map D.str r)]]
  | .print_writer_held t least out, r => Trip Try.prog 47 [.hp 0 0, .d (gT t.K t.N t.S (List.map zI.toD t.L) t.From t.To), (nI least)] [[.own 1 (List.map D.str out)]] [] [[.own 1 (List.map D.str r)]]
  | .print_writer_closed t out, r => Trip Try.prog 49 [.hp 0 0, .d (gT t.K t.N t.S (List.map zI.toD t.L) t.From t.To)] [[.own 1 (List.map D.str out)]] [] [[.own 1 (List.map D.str r)]]
  | .print_writer_list_writer_expr l out, r => Trip Try.prog 61 [.hp 0 0, .d (.sl (List.map zI.toD l)), .fn 18 [.hp 0 0] []] [[.own 1 (List.map D.str out)]] [] [[.own 1 (List.map D.str r)]]
  | .print_writer_list_writer_expr_L1 v8 v9 v10 out, r => Ok (wL (Trip Try.prog) [] [[.own 1 (List.map D.str r)]]) (kL Try.f61 1) ⟨24, [(0, .hp 0 0), (2, .fn 18 [.hp 0 0] []), (8, .d (.sl (List.map zI.toD v8))), (9, (nI v9)), (10, (nI v10))], [], [[.own 1 (List.map D.str out)]], 0⟩
theorem z4k : ∀ i r, z0m yN i = some r → z1A i r := by
  refine vS wK fun g ih i => ?_
  cases i with
  | print_writer_expr t out =>
    have ih_print_writer_held := fun t least out r h => ih (.print_writer_held t least out) r h
    have ih_print_writer_closed := fun t out r h => ih (.print_writer_closed t out) r h
    intro r h
    replace h : zO (fun t least out => g (I_print_writer_expr.print_writer_held t least out)) (fun t out => g (I_print_writer_expr.print_writer_closed t out)) t out = some r := h
    unfold zO at h
    refine yV 1000 (by kernel_rfl) (by kernel_rfl) (by kernel_rfl) (by kernel_rfl) (by kernel_rfl) (z4A _ _ _ _ t out) ?_
    rintro _ rfl
    refine zD beq_iff_eq h (fun _ h => ?_) (fun _ h => ?_)
    ·
      obtain ⟨q1, g, h⟩ := zB h
      refine ⟨_, ⟨_, z5T _ _ g⟩, ?_⟩
      obtain ⟨q2, g, h⟩ := zB h
      refine ⟨_, zF _ _ _ g, ?_⟩
      cases h; exact ⟨rfl, rfl⟩
    rintro _ rfl
    refine zD beq_iff_eq h (fun _ h => ?_) (fun _ h => ?_)
    ·
      rintro _ rfl
      refine zD beq_iff_eq h (fun _ h => ?_) (fun _ h => ?_)
      ·
        obtain ⟨q3, g, h⟩ := zB h
        refine ⟨_, zF _ _ _ g, ?_⟩
        cases h; exact ⟨rfl, rfl⟩
      obtain ⟨q4, g, h⟩ := zB h
      refine ⟨_, zF _ _ _ g, ?_⟩
      cases h; exact ⟨rfl, rfl⟩
    rintro _ rfl
    refine zD beq_iff_eq h (fun _ h => ?_) (fun _ h => ?_)
    ·
      obtain ⟨q5, g, h⟩ := zB h
      refine ⟨_, zF _ _ _ g, ?_⟩
      cases h; exact ⟨rfl, rfl⟩
    rintro _ rfl
    refine zD beq_iff_eq h (fun _ h => ?_) (fun _ h => ?_)
    ·
      obtain ⟨q6, g, h⟩ := zB h
      refine ⟨_, zF _ _ _ g, ?_⟩
      cases h; exact ⟨rfl, rfl⟩
    rintro _ rfl
    refine zD beq_iff_eq h (fun _ h => ?_) (fun _ h => ?_)
    ·
      obtain ⟨q7, g, h⟩ := zB h
      refine ⟨_, _, ⟨_, z5U _ _ g⟩, ?_⟩
      rintro _ rfl
      refine zD beq_iff_eq h (fun _ h => ?_) (fun _ h => ?_)
      ·
        obtain ⟨q8, g, h⟩ := zB h
        refine ⟨_, _, _, _, _, _, ⟨_, uC _ _ _ g⟩, ?_⟩
        obtain ⟨q9, g, h⟩ := zB h
        refine ⟨_, ih_print_writer_held _ _ _ _ g, ?_⟩
        obtain ⟨q10, g, h⟩ := zB h
        refine ⟨_, zF _ _ _ g, ?_⟩
        obtain ⟨q11, g, h⟩ := zB h
        refine ⟨_, _, _, _, _, _, ⟨_, uC _ _ _ g⟩, ?_⟩
        rintro _ rfl
        obtain ⟨q12, g, h⟩ := zB h
        refine ⟨_, ih_print_writer_held _ _ _ _ g, ?_⟩
        cases h; exact ⟨rfl, rfl⟩
      obtain ⟨q13, g, h⟩ := zB h
      refine ⟨_, _, _, _, _, _, ⟨_, uC _ _ _ g⟩, ?_⟩
      obtain ⟨q14, g, h⟩ := zB h
      refine ⟨_, ih_print_writer_held _ _ _ _ g, ?_⟩
      obtain ⟨q15, g, h⟩ := zB h
      refine ⟨_, zF _ _ _ g, ?_⟩
      obtain ⟨q16, g, h⟩ := zB h
      refine ⟨_, _, _, _, _, _, ⟨_, uC _ _ _ g⟩, ?_⟩
      rintro _ rfl
      obtain ⟨q17, g, h⟩ := zB h
      refine ⟨_, ih_print_writer_held _ _ _ _ g, ?_⟩
      cases h; exact ⟨rfl, rfl⟩
    rintro _ rfl
    refine zD beq_iff_eq h (fun _ h => ?_) (fun _ h => ?_)
    ·
      rintro _ rfl
      refine zD beq_iff_eq h (fun _ h => ?_) (fun _ h => ?_)
      ·
        obtain ⟨q18, g, h⟩ := zB h
        refine ⟨_, zF _ _ _ g, ?_⟩
        obtain ⟨q19, g, h⟩ := zB h
        refine ⟨_, _, _, _, _, _, ⟨_, uC _ _ _ g⟩, ?_⟩
        obtain ⟨q20, g, h⟩ := zB h
        refine ⟨_, ih_print_writer_held _ _ _ _ g, ?_⟩
        cases h; exact ⟨rfl, rfl⟩
      obtain ⟨q21, g, h⟩ := zB h
      refine ⟨_, zF _ _ _ g, ?_⟩
      obtain ⟨q22, g, h⟩ := zB h
      refine ⟨_, _, _, _, _, _, ⟨_, uC _ _ _ g⟩, ?_⟩
      obtain ⟨q23, g, h⟩ := zB h
      refine ⟨_, ih_print_writer_held _ _ _ _ g, ?_⟩
      cases h; exact ⟨rfl, rfl⟩
    obtain ⟨q24, g, h⟩ := zB h
    refine ⟨_, ih_print_writer_closed _ _ _ g, ?_⟩
    cases h; exact ⟨rfl, rfl⟩
  | print_writer_held t least out =>
    have ih_print_writer_expr := fun t out r h => ih (.print_writer_expr t out) r h
    intro r h
    replace h : wM (fun t out => g (I_print_writer_expr.print_writer_expr t out)) t least out = some r := h
    unfold wM at h
    refine yV 1000 (by kernel_rfl) (by kernel_rfl) (by kernel_rfl) (by kernel_rfl) (by kernel_rfl) (z4B _ _ _ _ t least out) ?_
    obtain ⟨q1, g, h⟩ := zB h
    refine ⟨_, ⟨_, z6J _ _ g⟩, ?_⟩
    rintro _ rfl
    refine zD decide_eq_true_iff h (fun _ h => ?_) (fun _ h => ?_)
    ·
      obtain ⟨q2, g, h⟩ := zB h
      refine ⟨_, ih_print_writer_expr _ _ _ g, ?_⟩
      cases h; exact ⟨rfl, rfl⟩
    obtain ⟨q3, g, h⟩ := zB h
    refine ⟨_, zF _ _ _ g, ?_⟩
    obtain ⟨q4, g, h⟩ := zB h
    refine ⟨_, ih_print_writer_expr _ _ _ g, ?_⟩
    obtain ⟨q5, g, h⟩ := zB h
    refine ⟨_, zF _ _ _ g, ?_⟩
    cases h; exact ⟨rfl, rfl⟩
  | print_writer_closed t out =>
    have ih_print_writer_expr := fun t out r h => ih (.print_writer_expr t out) r h
    have ih_print_writer_held := fun t least out r h => ih (.print_writer_held t least out) r h
    have ih_print_writer_list_writer_expr := fun l out r h => ih (.print_writer_list_writer_expr l out) r h
    intro r h
    replace h : zW (fun t out => g (I_print_writer_expr.print_writer_expr t out)) (fun t least out => g (I_print_writer_expr.print_writer_held t least out)) (fun l out => g (I_print_writer_expr.print_writer_list_writer_expr l out)) t out = some r := h
    unfold zW at h
    refine yV 1000 (by kernel_rfl) (by kernel_rfl) (by kernel_rfl) (by kernel_rfl) (by kernel_rfl) (z3m _ _ _ _ t out) ?_
    rintro _ rfl
    refine zD beq_iff_eq h (fun _ h => ?_) (fun _ h => ?_)
    ·
      obtain ⟨q1, g, h⟩ := zB h
      refine ⟨_, _, _, _, _, _, ⟨_, uC _ _ _ g⟩, ?_⟩
      obtain ⟨q2, g, h⟩ := zB h
      refine ⟨_, ih_print_writer_held _ _ _ _ g, ?_⟩
      obtain ⟨q3, g, h⟩ := zB h
      refine ⟨_, zF _ _ _ g, ?_⟩
      obtain ⟨q4, g, h⟩ := zB h
      refine ⟨_, _, _, _, _, _, ⟨_, uC _ _ _ g⟩, ?_⟩
      obtain ⟨q5, g, h⟩ := zB h
      refine ⟨_, ih_print_writer_expr _ _ _ g, ?_⟩
      obtain ⟨q6, g, h⟩ := zB h
      refine ⟨_, zF _ _ _ g, ?_⟩
      cases h; exact ⟨rfl, rfl⟩
    rintro _ rfl
    refine zD beq_iff_eq h (fun _ h => ?_) (fun _ h => ?_)
    ·
      obtain ⟨q7, g, h⟩ := zB h
      refine ⟨_, _, _, _, _, _, ⟨_, uC _ _ _ g⟩, ?_⟩
      obtain ⟨q8, g, h⟩ := zB h
      refine ⟨_, ih_print_writer_held _ _ _ _ g, ?_⟩
      obtain ⟨q9, g, h⟩ := zB h
      refine ⟨_, zF _ _ _ g, ?_⟩
      cases h; exact ⟨rfl, rfl⟩
    rintro _ rfl
    refine zD beq_iff_eq h (fun _ h => ?_) (fun _ h => ?_)
    ·
      obtain ⟨q10, g, h⟩ := zB h
      refine ⟨_, zF _ _ _ g, ?_⟩
      obtain ⟨q11, g, h⟩ := zB h
      refine ⟨_, ih_print_writer_list_writer_expr _ _ _ g, ?_⟩
      obtain ⟨q12, g, h⟩ := zB h
      refine ⟨_, zF _ _ _ g, ?_⟩
      cases h; exact ⟨rfl, rfl⟩
    rintro _ rfl
    refine zD beq_iff_eq h (fun _ h => ?_) (fun _ h => ?_)
    ·
      obtain ⟨q13, g, h⟩ := zB h
      refine ⟨_, zF _ _ _ g, ?_⟩
      obtain ⟨q14, g, h⟩ := zB h
      refine ⟨_, zF _ _ _ g, ?_⟩
      obtain ⟨q15, g, h⟩ := zB h
      refine ⟨_, ih_print_writer_list_writer_expr _ _ _ g, ?_⟩
      obtain ⟨q16, g, h⟩ := zB h
      refine ⟨_, zF _ _ _ g, ?_⟩
      cases h; exact ⟨rfl, rfl⟩
    rintro _ rfl
    refine zD beq_iff_eq h (fun _ h => ?_) (fun _ h => ?_)
    ·
      obtain ⟨q17, g, h⟩ := zB h
      refine ⟨_, zF _ _ _ g, ?_⟩
      obtain ⟨q18, g, h⟩ := zB h
      refine ⟨_, zF _ _ _ g, ?_⟩
      obtain ⟨q19, g, h⟩ := zB h
      refine ⟨_, ih_print_writer_list_writer_expr _ _ _ g, ?_⟩
      obtain ⟨q20, g, h⟩ := zB h
      refine ⟨_, zF _ _ _ g, ?_⟩
      cases h; exact ⟨rfl, rfl⟩
    rintro _ rfl
    refine zD beq_iff_eq h (fun _ h => ?_) (fun _ h => ?_)
    ·
      obtain ⟨q21, g, h⟩ := zB h
      refine ⟨_, zF _ _ _ g, ?_⟩
      obtain ⟨q22, g, h⟩ := zB h
      refine ⟨_, zF _ _ _ g, ?_⟩
      obtain ⟨q23, g, h⟩ := zB h
      refine ⟨_, ih_print_writer_list_writer_expr _ _ _ g, ?_⟩
      obtain ⟨q24, g, h⟩ := zB h
      refine ⟨_, zF _ _ _ g, ?_⟩
      cases h; exact ⟨rfl, rfl⟩
    cases h; exact ⟨rfl, rfl⟩
  | print_writer_list_writer_expr l out =>
    have ih_print_writer_list_writer_expr_L1 := fun v8 v9 v10 out r h => ih (.print_writer_list_writer_expr_L1 v8 v9 v10 out) r h
    intro r h
    replace h : yJ (fun v8 v9 v10 out => g (I_print_writer_expr.print_writer_list_writer_expr_L1 v8 v9 v10 out)) l out = some r := h
    unfold yJ at h
    refine yV 1000 (by kernel_rfl) (by kernel_rfl) (by kernel_rfl) (by kernel_rfl) (by kernel_rfl) (z0J _ _ _ _ l out) ?_
    refine z2g (e' := (List.length l : Int)) (by first | rfl | rw [List.length_map]) ?_
    exact ih_print_writer_list_writer_expr_L1 _ _ _ _ _ h
  | print_writer_list_writer_expr_L1 v8 v9 v10 out =>
    have ih_print_writer_expr := fun t out r h => ih (.print_writer_expr t out) r h
    have ih_print_writer_list_writer_expr_L1 := fun v8 v9 v10 out r h => ih (.print_writer_list_writer_expr_L1 v8 v9 v10 out) r h
    intro r h
    replace h : yB (fun t out => g (I_print_writer_expr.print_writer_expr t out)) (fun v8 v9 v10 out => g (I_print_writer_expr.print_writer_list_writer_expr_L1 v8 v9 v10 out)) v8 v9 v10 out = some r := h
    unfold yB at h
    refine z2j 1000 (z0s _ _ _ _ v8 v9 v10 out) ?_
    rintro _ rfl
    refine zD decide_eq_true_iff h (fun _ h => ?_) (fun _ h => ?_)
    ·
      obtain ⟨x, hx, h⟩ := zB h
      refine ⟨jE (l := v8) (zI.sz), z2V hx, x.K, x.N, x.S, List.map zI.toD x.L, x.From, x.To, z0T (zI.toD_eq x) hx, ?_⟩
      rintro _ rfl
      refine zD decide_eq_true_iff h (fun _ h => ?_) (fun _ h => ?_)
      ·
        obtain ⟨q1, g, h⟩ := zB h
        refine ⟨_, zF _ _ _ g, ?_⟩
        obtain ⟨q2, g, h⟩ := zB h
        refine ⟨_, ih_print_writer_expr _ _ _ g, ?_⟩
        rintro _ rfl
        exact ih_print_writer_list_writer_expr_L1 _ _ _ _ _ h
      obtain ⟨q3, g, h⟩ := zB h
      refine ⟨_, ih_print_writer_expr _ _ _ g, ?_⟩
      rintro _ rfl
      exact ih_print_writer_list_writer_expr_L1 _ _ _ _ _ h
    cases h; exact ⟨rfl, rfl⟩
theorem z4p (t : zI) (out r : List Str) (h : print_writer_expr t out = some r) : z1A (.print_writer_expr t out) r := z4k (.print_writer_expr t out) r h
theorem z9W (t : zI) (r : Str) (h : z1u t = some r) : Trip Try.prog 8 [.d (gT t.K t.N t.S (List.map zI.toD t.L) t.From t.To)] [] [(nS r)] [] := by
  unfold z1u at h
  refine yV 1000 (by kernel_rfl) (by kernel_rfl) (by kernel_rfl) (by kernel_rfl) (by kernel_rfl) (y0y _ _ _ _ t) ?_
  obtain ⟨q1, g, h⟩ := zB h
  refine ⟨_, z4p _ _ _ g, ?_⟩
  obtain ⟨q2, g, h⟩ := zB h
  refine ⟨_, z1F _ _ g, ?_⟩
  cases h; exact ⟨rfl, rfl⟩
theorem z4P (text : Str) (at_ : Int) (s : Str) (r : Bool) (h : z0M text at_ s = some r) : Trip Try.prog 34 [(nS text), (nI at_), (nS s)] [] [(nB r)] [] := by
  unfold z0M at h
  refine yV 1000 (by kernel_rfl) (by kernel_rfl) (by kernel_rfl) (by kernel_rfl) (by kernel_rfl) (z9f _ _ _ _ text at_ s) ?_
  rintro _ rfl
  rintro _ rfl
  rintro _ rfl
  rintro _ rfl
  refine zD decide_eq_true_iff h (fun _ h => ?_) (fun _ h => ?_)
  ·
    rintro _ rfl
    rintro _ rfl
    obtain ⟨hP, h⟩ := vN h
    refine ⟨by first | exact hP | simpa using hP, ?_⟩
    obtain ⟨hP, h⟩ := vN h
    refine ⟨by first | exact hP | simpa using hP, ?_⟩
    obtain ⟨hP, h⟩ := vN h
    refine ⟨by first | exact hP | simpa using hP, ?_⟩
    obtain ⟨hP, h⟩ := vN h
    refine ⟨by first | exact hP | simpa using hP, ?_⟩
    rintro _ rfl
    rintro _ rfl
    cases h; exact ⟨rfl, rfl⟩
  cases h; exact ⟨rfl, rfl⟩
theorem z9Y (c : Int) (r : Bool) (h : z2l c = some r) : Trip Try.prog 33 [.d (.int .u8 c)] [] [(nB r)] [] := by
  unfold z2l at h
  refine yV 1000 (by kernel_rfl) (by kernel_rfl) (by kernel_rfl) (by kernel_rfl) (by kernel_rfl) (y0D _ _ _ _ c) ?_
  rintro _ rfl
  refine zD beq_iff_eq h (fun _ h => ?_) (fun _ h => ?_)
  ·
    cases h; exact ⟨rfl, rfl⟩
  rintro _ rfl
  refine zD beq_iff_eq h (fun _ h => ?_) (fun _ h => ?_)
  ·
    cases h; exact ⟨rfl, rfl⟩
  rintro _ rfl
  refine zD beq_iff_eq h (fun _ h => ?_) (fun _ h => ?_)
  ·
    cases h; exact ⟨rfl, rfl⟩
  rintro _ rfl
  cases h; exact ⟨rfl, rfl⟩
def z3Y : (i : wE) → z2a i → Prop
  | .zS text at_, r => Ok (z1G (Trip Try.prog) [(nI r)] []) (kL Try.f15 1) ⟨32, [(0, (nS text)), (1, (nI at_))], [], [], 0⟩
  | .yO text at_, r => Ok (z1G (Trip Try.prog) [(nI r)] []) (kL Try.f15 5) ⟨32, [(0, (nS text)), (1, (nI at_))], [], [], 0⟩
theorem z7X : ∀ i r, z0m jT i = some r → z3Y i r := by
  refine vS z1Y fun g ih i => ?_
  cases i with
  | zS text at_ =>
    have ih_ref05Next_L1 := fun text at_ r h => ih (.zS text at_) r h
    have ih_ref05Next_L5 := fun text at_ r h => ih (.yO text at_) r h
    intro r h
    replace h : uV (fun text at_ => g (wE.zS text at_)) (fun text at_ => g (wE.yO text at_)) text at_ = some r := h
    unfold uV at h
    refine z2j 1000 (z8g _ _ _ _ text at_) ?_
    rintro _ rfl
    rintro _ rfl
    refine zD decide_eq_true_iff h (fun _ h => ?_) (fun _ h => ?_)
    ·
      obtain ⟨c, hx, h⟩ := zB h
      refine ⟨z2V hx, c, y6j hx, ?_⟩
      rintro _ rfl
      obtain ⟨q1, g, h⟩ := zB h
      refine ⟨_, ⟨_, z9Y _ _ g⟩, ?_⟩
      refine zD Iff.rfl h (fun _ h => ?_) (fun _ h => ?_)
      ·
        rintro _ rfl
        exact ih_ref05Next_L1 _ _ _ h
      obtain ⟨q2, g, h⟩ := zB h
      refine ⟨_, ⟨_, z4P _ _ _ _ g⟩, ?_⟩
      refine zD Iff.rfl h (fun _ h => ?_) (fun _ h => ?_)
      ·
        exact ih_ref05Next_L5 _ _ _ h
      cases h; exact ⟨rfl, rfl⟩
    cases h; exact ⟨rfl, rfl⟩
  | yO text at_ =>
    have ih_ref05Next_L1 := fun text at_ r h => ih (.zS text at_) r h
    have ih_ref05Next_L5 := fun text at_ r h => ih (.yO text at_) r h
    intro r h
    replace h : uW (fun text at_ => g (wE.zS text at_)) (fun text at_ => g (wE.yO text at_)) text at_ = some r := h
    unfold uW at h
    refine z2j 1000 (z8h _ _ _ _ text at_) ?_
    rintro _ rfl
    rintro _ rfl
    refine zD decide_eq_true_iff h (fun _ h => ?_) (fun _ h => ?_)
    ·
      obtain ⟨c, hx, h⟩ := zB h
      refine ⟨z2V hx, c, y6j hx, ?_⟩
      rintro _ rfl
      rintro _ rfl
      refine vG beq_iff_eq h (fun _ h => ?_) (fun _ h => ?_)
      ·
        exact ih_ref05Next_L1 _ _ _ h
      rintro _ rfl
      exact ih_ref05Next_L5 _ _ _ h
    exact ih_ref05Next_L1 _ _ _ h
theorem z8b (text : Str) (at_ r : Int) (h : zS text at_ = some r) : z3Y (.zS text at_) r := z7X (.zS text at_) r h
theorem z6L (text : Str) (at_ r : Int) (h : z2m text at_ = some r) : Trip Try.prog 15 [(nS text), (nI at_)] [] [(nI r)] [] := by
  unfold z2m at h
  refine yV 1000 (by kernel_rfl) (by kernel_rfl) (by kernel_rfl) (by kernel_rfl) (by kernel_rfl) (y1G _ _ _ _ text at_) ?_
  exact z8b _ _ _ h
theorem z3d (c : Int) (r : Bool) (h : z0N c = some r) : Trip Try.prog 36 [.d (.int .u8 c)] [] [(nB r)] [] := by
  unfold z0N at h
  refine yV 1000 (by kernel_rfl) (by kernel_rfl) (by kernel_rfl) (by kernel_rfl) (by kernel_rfl) (y0E _ _ _ _ c) ?_
  rintro _ rfl
  refine zD decide_eq_true_iff h (fun _ h => ?_) (fun _ h => ?_)
  ·
    rintro _ rfl
    cases h; exact ⟨rfl, rfl⟩
  cases h; exact ⟨rfl, rfl⟩
theorem z4Q (c : Int) (r : Bool) (h : z0O c = some r) : Trip Try.prog 35 [.d (.int .u8 c)] [] [(nB r)] [] := by
  unfold z0O at h
  refine yV 1000 (by kernel_rfl) (by kernel_rfl) (by kernel_rfl) (by kernel_rfl) (by kernel_rfl) (z9h _ _ _ _ c) ?_
  rintro _ rfl
  refine zD decide_eq_true_iff h (fun _ h => ?_) (fun _ h => ?_)
  ·
    rintro _ rfl
    refine zD decide_eq_true_iff h (fun _ h => ?_) (fun _ h => ?_)
    ·
      cases h; exact ⟨rfl, rfl⟩
    rintro _ rfl
    refine zD decide_eq_true_iff h (fun _ h => ?_) (fun _ h => ?_)
    ·
      rintro _ rfl
      refine zD decide_eq_true_iff h (fun _ h => ?_) (fun _ h => ?_)
      ·
        cases h; exact ⟨rfl, rfl⟩
      rintro _ rfl
      cases h; exact ⟨rfl, rfl⟩
    rintro _ rfl
    cases h; exact ⟨rfl, rfl⟩
  rintro _ rfl
  refine zD decide_eq_true_iff h (fun _ h => ?_) (fun _ h => ?_)
  ·
    rintro _ rfl
    refine zD decide_eq_true_iff h (fun _ h => ?_) (fun _ h => ?_)
    ·
      cases h; exact ⟨rfl, rfl⟩
    rintro _ rfl
    cases h; exact ⟨rfl, rfl⟩
  rintro _ rfl
  cases h; exact ⟨rfl, rfl⟩
def z2N : (i : z0b) → z1e i → Prop
  | .zU s v i, r => Ok (z2z (Trip Try.prog) [(nI r.1), (nB r.2)] []) (kL Try.f39 5) ⟨41, [(0, (nS s)), (4, (nI v)), (5, (nI i))], [], [], 0⟩
theorem z6h : ∀ i r, z0m gZ i = some r → z2N i r := by
  refine vS z2L fun g ih i => ?_
  cases i with
  | zU s v i =>
    have ih_ref05Number_L5 := fun s v i r h => ih (.zU s v i) r h
    intro r h
    replace h : wV (fun s v i => g (z0b.zU s v i)) s v i = some r := h
    unfold wV at h
    refine z2j 1000 (z6m _ _ _ _ s v i) ?_
    rintro _ rfl
    rintro _ rfl
    refine zD decide_eq_true_iff h (fun _ h => ?_) (fun _ h => ?_)
    ·
      obtain ⟨c, hx, h⟩ := zB h
      refine ⟨z2V hx, c, y6j hx, ?_⟩
      rintro _ rfl
      rintro _ rfl
      rintro _ rfl
      rintro _ rfl
      obtain ⟨hP, h⟩ := vN h
      refine ⟨by first | exact hP | simpa using hP, ?_⟩
      rintro _ rfl
      rintro _ rfl
      refine zD decide_eq_true_iff h (fun _ h => ?_) (fun _ h => ?_)
      ·
        cases h; exact ⟨rfl, rfl⟩
      rintro _ rfl
      rintro _ rfl
      rintro _ rfl
      exact ih_ref05Number_L5 _ _ _ _ h
    cases h; exact ⟨rfl, rfl⟩
theorem z2P (s : Str) (v i : Int) (r : Int × Bool) (h : zU s v i = some r) : z2N (.zU s v i) r := z6h (.zU s v i) r h
theorem z4R (s : Str) (r : Int × Bool) (h : z0i s = some r) : Trip Try.prog 39 [(nS s)] [] [(nI r.1), (nB r.2)] [] := by
  unfold z0i at h
  refine yV 1000 (by kernel_rfl) (by kernel_rfl) (by kernel_rfl) (by kernel_rfl) (by kernel_rfl) (z9i _ _ _ _ s) ?_
  rintro _ rfl
  rintro _ rfl
  refine zD beq_iff_eq h (fun _ h => ?_) (fun _ h => ?_)
  ·
    cases h; exact ⟨rfl, rfl⟩
  rintro _ rfl
  rintro _ rfl
  refine zD decide_eq_true_iff h (fun _ h => ?_) (fun _ h => ?_)
  ·
    obtain ⟨c, hx, h⟩ := zB h
    refine ⟨z2V hx, c, y6j hx, ?_⟩
    rintro _ rfl
    rintro _ rfl
    refine zD beq_iff_eq h (fun _ h => ?_) (fun _ h => ?_)
    ·
      cases h; exact ⟨rfl, rfl⟩
    exact z2P _ _ _ _ h
  exact z2P _ _ _ _ h
def z3Z : (i : z0W) → z2b i → Prop
  | .yZ text at_ to_ o4, r => Ok (z0I (Trip Try.prog) [.d (gK r.1.K r.1.N r.1.S r.1.From r.1.To), (nI r.2)] []) (kL Try.f16 13) ⟨114, [(0, (nS text)), (1, (nI at_)), (4, .ref 4 1 0), (7, (nI to_))], [(4, 1, some (.agg (gK o4.K o4.N o4.S o4.From o4.To)))], [], 0⟩
theorem z7Y : ∀ i r, z0m z0U i = some r → z3Z i r := by
  refine vS z3W fun g ih i => ?_
  cases i with
  | yZ text at_ to_ o4 =>
    have ih_ref05One_L13 := fun text at_ to_ o4 r h => ih (.yZ text at_ to_ o4) r h
    intro r h
    replace h : uX (fun text at_ to_ o4 => g (z0W.yZ text at_ to_ o4)) text at_ to_ o4 = some r := h
    unfold uX at h
    refine z2j 1000 (z8i _ _ _ _ text at_ to_ o4) ?_
    rintro _ rfl
    rintro _ rfl
    refine zD decide_eq_true_iff h (fun _ h => ?_) (fun _ h => ?_)
    ·
      obtain ⟨c, hx, h⟩ := zB h
      refine ⟨z2V hx, c, y6j hx, ?_⟩
      rintro _ rfl
      obtain ⟨q1, g, h⟩ := zB h
      refine ⟨_, ⟨_, z3d _ _ g⟩, ?_⟩
      refine zD Iff.rfl h (fun _ h => ?_) (fun _ h => ?_)
      ·
        rintro _ rfl
        exact ih_ref05One_L13 _ _ _ _ _ h
      obtain ⟨hP, h⟩ := vN h
      refine ⟨by first | exact hP | simpa using hP, ?_⟩
      obtain ⟨hP, h⟩ := vN h
      refine ⟨by first | exact hP | simpa using hP, ?_⟩
      obtain ⟨hP, h⟩ := vN h
      refine ⟨by first | exact hP | simpa using hP, ?_⟩
      obtain ⟨hP, h⟩ := vN h
      refine ⟨by first | exact hP | simpa using hP, ?_⟩
      rintro _ rfl
      obtain ⟨q2, g, h⟩ := zB h
      refine ⟨_, _, ⟨_, z4R _ _ g⟩, ?_⟩
      refine vG Iff.rfl h (fun _ h => ?_) (fun _ h => ?_)
      ·
        cases h; exact ⟨rfl, rfl⟩
      cases h; exact ⟨rfl, rfl⟩
    obtain ⟨hP, h⟩ := vN h
    refine ⟨by first | exact hP | simpa using hP, ?_⟩
    obtain ⟨hP, h⟩ := vN h
    refine ⟨by first | exact hP | simpa using hP, ?_⟩
    obtain ⟨hP, h⟩ := vN h
    refine ⟨by first | exact hP | simpa using hP, ?_⟩
    obtain ⟨hP, h⟩ := vN h
    refine ⟨by first | exact hP | simpa using hP, ?_⟩
    rintro _ rfl
    obtain ⟨q3, g, h⟩ := zB h
    refine ⟨_, _, ⟨_, z4R _ _ g⟩, ?_⟩
    refine vG Iff.rfl h (fun _ h => ?_) (fun _ h => ?_)
    ·
      cases h; exact ⟨rfl, rfl⟩
    cases h; exact ⟨rfl, rfl⟩
theorem z8c (text : Str) (at_ to_ : Int) (o4 : zC) (r : zC × Int) (h : yZ text at_ to_ o4 = some r) : z3Z (.yZ text at_ to_ o4) r := z7Y (.yZ text at_ to_ o4) r h
def z4a : (i : z0X) → z2c i → Prop
  | .vA text at_ all i o4, r => Ok (z0I (Trip Try.prog) [.d (gK r.1.K r.1.N r.1.S r.1.From r.1.To), (nI r.2)] []) (kL Try.f16 21) ⟨114, [(0, (nS text)), (1, (nI at_)), (4, .ref 4 1 0), (11, .d (.sl (List.map D.str all))), (12, (nI i))], [(4, 1, some (.agg (gK o4.K o4.N o4.S o4.From o4.To)))], [], 0⟩
theorem z7Z : ∀ i r, z0m z0V i = some r → z4a i r := by
  refine vS z3X fun g ih i => ?_
  cases i with
  | vA text at_ all i o4 =>
    have ih_ref05One_L21 := fun text at_ all i o4 r h => ih (.vA text at_ all i o4) r h
    intro r h
    replace h : uY (fun text at_ all i o4 => g (z0X.vA text at_ all i o4)) text at_ all i o4 = some r := h
    unfold uY at h
    refine z2j 1000 (z8j _ _ _ _ text at_ all i o4) ?_
    refine z2g (e' := (List.length all : Int)) (by first | rfl | rw [List.length_map]) ?_
    rintro _ rfl
    refine zD decide_eq_true_iff h (fun _ h => ?_) (fun _ h => ?_)
    ·
      obtain ⟨x, hx, h⟩ := zB h
      refine ⟨jE (l := all) (fun _ => rfl), z2V hx, x, z0T rfl hx, ?_⟩
      obtain ⟨q1, g, h⟩ := zB h
      refine ⟨_, ⟨_, z4P _ _ _ _ g⟩, ?_⟩
      refine zD Iff.rfl h (fun _ h => ?_) (fun _ h => ?_)
      ·
        obtain ⟨x1, hx, h⟩ := zB h
        refine ⟨jE (l := all) (fun _ => rfl), z2V hx, x1, z0T rfl hx, ?_⟩
        obtain ⟨x2, hx, h⟩ := zB h
        refine ⟨jE (l := all) (fun _ => rfl), z2V hx, x2, z0T rfl hx, ?_⟩
        rintro _ rfl
        rintro _ rfl
        cases h; exact ⟨rfl, rfl⟩
      rintro _ rfl
      exact ih_ref05One_L21 _ _ _ _ _ _ h
    cases h; exact ⟨rfl, rfl⟩
theorem z8d (text : Str) (at_ : Int) (all : List Str) (i : Int) (o4 : zC) (r : zC × Int) (h : vA text at_ all i o4 = some r) : z4a (.vA text at_ all i o4) r := z7Z (.vA text at_ all i o4) r h
def z2Z : (i : z0w) → z1D i → Prop
  | .yM s all i, r => Ok (z3j (Trip Try.prog) [(nB r)] []) (kL Try.f37 2) ⟨18, [(0, (nS s)), (1, .d (.sl (List.map D.str all))), (5, (nI i))], [], [], 0⟩
theorem z6D : ∀ i r, z0m z0u i = some r → z2Z i r := by
  refine vS z2X fun g ih i => ?_
  cases i with
  | yM s all i =>
    have ih_ref05Among_L2 := fun s all i r h => ih (.yM s all i) r h
    intro r h
    replace h : uI (fun s all i => g (z0w.yM s all i)) s all i = some r := h
    unfold uI at h
    refine z2j 1000 (z7l _ _ _ _ s all i) ?_
    refine z2g (e' := (List.length all : Int)) (by first | rfl | rw [List.length_map]) ?_
    rintro _ rfl
    refine zD decide_eq_true_iff h (fun _ h => ?_) (fun _ h => ?_)
    ·
      obtain ⟨x, hx, h⟩ := zB h
      refine ⟨jE (l := all) (fun _ => rfl), z2V hx, x, z0T rfl hx, ?_⟩
      rintro _ rfl
      refine zD beq_iff_eq h (fun _ h => ?_) (fun _ h => ?_)
      ·
        cases h; exact ⟨rfl, rfl⟩
      rintro _ rfl
      exact ih_ref05Among_L2 _ _ _ _ h
    cases h; exact ⟨rfl, rfl⟩
theorem z6K (s : Str) (all : List Str) (i : Int) (r : Bool) (h : yM s all i = some r) : z2Z (.yM s all i) r := z6D (.yM s all i) r h
theorem z5V (s : Str) (all : List Str) (r : Bool) (h : z0L s all = some r) : Trip Try.prog 37 [(nS s), .d (.sl (List.map D.str all))] [] [(nB r)] [] := by
  unfold z0L at h
  refine yV 1000 (by kernel_rfl) (by kernel_rfl) (by kernel_rfl) (by kernel_rfl) (by kernel_rfl) (y0C _ _ _ _ s all) ?_
  exact z6K _ _ _ _ h
theorem z5W  (r : List Str) (h : z1v = some r) : Trip Try.prog 38 [] [] [.d (.sl (List.map D.str r))] [] := by
  unfold z1v at h
  refine yV 1000 (by kernel_rfl) (by kernel_rfl) (by kernel_rfl) (by kernel_rfl) (by kernel_rfl) (y0G _ _ _ _ ) ?_
  cases h; exact ⟨rfl, rfl⟩
def z4O : (i : z1o) → z2x i → Prop
  | .vB text at_ to_ o4, r => Ok (z0I (Trip Try.prog) [.d (gK r.1.K r.1.N r.1.S r.1.From r.1.To), (nI r.2)] []) (kL Try.f16 4) ⟨114, [(0, (nS text)), (1, (nI at_)), (4, .ref 4 1 0), (7, (nI to_))], [(4, 1, some (.agg (gK o4.K o4.N o4.S o4.From o4.To)))], [], 0⟩
theorem z8S : ∀ i r, z0m z1m i = some r → z4O i r := by
  refine vS z4M fun g ih i => ?_
  cases i with
  | vB text at_ to_ o4 =>
    have ih_ref05One_L4 := fun text at_ to_ o4 r h => ih (.vB text at_ to_ o4) r h
    intro r h
    replace h : jS (fun text at_ to_ o4 => g (z1o.vB text at_ to_ o4)) text at_ to_ o4 = some r := h
    unfold jS at h
    refine z2j 1000 (z9j _ _ _ _ text at_ to_ o4) ?_
    rintro _ rfl
    rintro _ rfl
    refine zD decide_eq_true_iff h (fun _ h => ?_) (fun _ h => ?_)
    ·
      obtain ⟨c, hx, h⟩ := zB h
      refine ⟨z2V hx, c, y6j hx, ?_⟩
      rintro _ rfl
      obtain ⟨q1, g, h⟩ := zB h
      refine ⟨_, ⟨_, z4Q _ _ g⟩, ?_⟩
      refine zD Iff.rfl h (fun _ h => ?_) (fun _ h => ?_)
      ·
        rintro _ rfl
        exact ih_ref05One_L4 _ _ _ _ _ h
      obtain ⟨c1, hx, h⟩ := zB h
      refine ⟨z2V hx, c1, y6j hx, ?_⟩
      rintro _ rfl
      obtain ⟨q2, g, h⟩ := zB h
      refine ⟨_, ⟨_, z3d _ _ g⟩, ?_⟩
      refine zD Iff.rfl h (fun _ h => ?_) (fun _ h => ?_)
      ·
        rintro _ rfl
        exact ih_ref05One_L4 _ _ _ _ _ h
      rintro _ rfl
      rintro _ rfl
      refine zD decide_eq_true_iff h (fun _ h => ?_) (fun _ h => ?_)
      ·
        cases h; exact ⟨rfl, rfl⟩
      obtain ⟨hP, h⟩ := vN h
      refine ⟨by first | exact hP | simpa using hP, ?_⟩
      obtain ⟨hP, h⟩ := vN h
      refine ⟨by first | exact hP | simpa using hP, ?_⟩
      obtain ⟨hP, h⟩ := vN h
      refine ⟨by first | exact hP | simpa using hP, ?_⟩
      obtain ⟨hP, h⟩ := vN h
      refine ⟨by first | exact hP | simpa using hP, ?_⟩
      rintro _ rfl
      obtain ⟨q3, g, h⟩ := zB h
      refine ⟨_, ⟨_, z5W _ g⟩, ?_⟩
      obtain ⟨q4, g, h⟩ := zB h
      refine ⟨_, ⟨_, z5V _ _ _ g⟩, ?_⟩
      refine zD Iff.rfl h (fun _ h => ?_) (fun _ h => ?_)
      ·
        cases h; exact ⟨rfl, rfl⟩
      cases h; exact ⟨rfl, rfl⟩
    rintro _ rfl
    rintro _ rfl
    refine zD decide_eq_true_iff h (fun _ h => ?_) (fun _ h => ?_)
    ·
      cases h; exact ⟨rfl, rfl⟩
    obtain ⟨hP, h⟩ := vN h
    refine ⟨by first | exact hP | simpa using hP, ?_⟩
    obtain ⟨hP, h⟩ := vN h
    refine ⟨by first | exact hP | simpa using hP, ?_⟩
    obtain ⟨hP, h⟩ := vN h
    refine ⟨by first | exact hP | simpa using hP, ?_⟩
    obtain ⟨hP, h⟩ := vN h
    refine ⟨by first | exact hP | simpa using hP, ?_⟩
    rintro _ rfl
    obtain ⟨q5, g, h⟩ := zB h
    refine ⟨_, ⟨_, z5W _ g⟩, ?_⟩
    obtain ⟨q6, g, h⟩ := zB h
    refine ⟨_, ⟨_, z5V _ _ _ g⟩, ?_⟩
    refine zD Iff.rfl h (fun _ h => ?_) (fun _ h => ?_)
    ·
      cases h; exact ⟨rfl, rfl⟩
    cases h; exact ⟨rfl, rfl⟩
theorem z8U (text : Str) (at_ to_ : Int) (o4 : zC) (r : zC × Int) (h : vB text at_ to_ o4 = some r) : z4O (.vB text at_ to_ o4) r := z8S (.vB text at_ to_ o4) r h
theorem z9Z  (r : List Str) (h : z3N = some r) : Trip Try.prog 40 [] [] [.d (.sl (List.map D.str r))] [] := by
  unfold z3N at h
  refine yV 1000 (by kernel_rfl) (by kernel_rfl) (by kernel_rfl) (by kernel_rfl) (by kernel_rfl) (y0F _ _ _ _ ) ?_
  cases h; exact ⟨rfl, rfl⟩
theorem y2X (text : Str) (at_ : Int) (r : zC × Int) (h : z5l text at_ = some r) : Trip Try.prog 16 [(nS text), (nI at_)] [] [.d (gK r.1.K r.1.N r.1.S r.1.From r.1.To), (nI r.2)] [] := by
  unfold z5l at h
  refine yV 1000 (by kernel_rfl) (by kernel_rfl) (by kernel_rfl) (by kernel_rfl) (by kernel_rfl) (y3g _ _ _ _ text at_) ?_
  obtain ⟨c, hx, h⟩ := zB h
  refine ⟨z2V hx, c, y6j hx, ?_⟩
  rintro _ rfl
  obtain ⟨q1, g, h⟩ := zB h
  refine ⟨_, ⟨_, z4Q _ _ g⟩, ?_⟩
  refine zD Iff.rfl h (fun _ h => ?_) (fun _ h => ?_)
  ·
    exact z8U _ _ _ _ _ h
  obtain ⟨q2, g, h⟩ := zB h
  refine ⟨_, ⟨_, z3d _ _ g⟩, ?_⟩
  refine zD Iff.rfl h (fun _ h => ?_) (fun _ h => ?_)
  ·
    exact z8c _ _ _ _ _ h
  obtain ⟨q3, g, h⟩ := zB h
  refine ⟨_, ⟨_, z9Z _ g⟩, ?_⟩
  exact z8d _ _ _ _ _ _ h
def z2O : (i : z0c) → z1f i → Prop
  | .yI text out at_, r => Ok (z2A (Trip Try.prog) (hU (List.map zC.toD r.1) r.2.1 r.2.2) []) (kL Try.f6 5) ⟨47, [(0, (nS text)), (5, .right 9 1 5 (List.map zC.toD out)), (6, (nI at_))], [(9, 1, some (.tok 5 (List.length (List.map zC.toD out))))], [], 0⟩
theorem z6i : ∀ i r, z0m z0a i = some r → z2O i r := by
  refine vS z2M fun g ih i => ?_
  cases i with
  | yI text out at_ =>
    have ih_ref05Tokens_L5 := fun text out at_ r h => ih (.yI text out at_) r h
    intro r h
    replace h : uN (fun text out at_ => g (z0c.yI text out at_)) text out at_ = some r := h
    unfold uN at h
    refine z2j 1000 (z6n _ _ _ _ text out at_) ?_
    rintro _ rfl
    rintro _ rfl
    refine zD decide_eq_true_iff h (fun _ h => ?_) (fun _ h => ?_)
    ·
      obtain ⟨q1, g, h⟩ := zB h
      refine ⟨_, _, _, _, _, _, ⟨_, y2X _ _ _ g⟩, ?_⟩
      rintro _ rfl
      refine vG beq_iff_eq h (fun _ h => ?_) (fun _ h => ?_)
      ·
        refine ⟨by simp [vE, D.cells], ?_⟩
        refine ⟨by first | rfl | decide | simp only [List.length_map, List.length_cons, List.length_nil, List.map_append, List.length_append], ?_⟩
        obtain ⟨hP, h⟩ := vN h
        refine ⟨by first | exact hP | simpa using hP, ?_⟩
        refine z2g (e' := List.map zC.toD (out ++ [q1.1])) (by first | rfl | simp only [List.map_append, List.map_cons, List.map_nil, List.map_take, List.map_drop, List.map_set, List.map_replicate, List.length_map, zC.toD_eq]) ?_
        obtain ⟨q2, g, h⟩ := zB h
        refine ⟨_, ⟨_, z6L _ _ _ g⟩, ?_⟩
        exact ih_ref05Tokens_L5 _ _ _ _ h
      cases h; exact ⟨rfl, rfl⟩
    rintro _ rfl
    rintro _ rfl
    refine ⟨by simp [vE, D.cells], ?_⟩
    refine ⟨by first | rfl | decide | simp only [List.length_map, List.length_cons, List.length_nil, List.map_append, List.length_append], ?_⟩
    obtain ⟨hP, h⟩ := vN h
    refine ⟨by first | exact hP | simpa using hP, ?_⟩
    refine z2g (e' := List.map zC.toD (out ++ [(zC.mk 5 0 [] (List.length text : Int) (List.length text : Int))])) (by first | rfl | simp only [List.map_append, List.map_cons, List.map_nil, List.map_take, List.map_drop, List.map_set, List.map_replicate, List.length_map, zC.toD_eq]) ?_
    cases h; exact ⟨rfl, rfl⟩
theorem z6j (text : Str) (out : List zC) (at_ : Int) (r : List zC × Int × Int) (h : yI text out at_ = some r) : z2O (.yI text out at_) r := z6i (.yI text out at_) r h
theorem z4S (text : Str) (r : List zC × Int × Int) (h : z0P text = some r) : Trip Try.prog 6 [(nS text)] [] (hU (List.map zC.toD r.1) r.2.1 r.2.2) [] := by
  unfold z0P at h
  refine yV 1000 (by kernel_rfl) (by kernel_rfl) (by kernel_rfl) (by kernel_rfl) (by kernel_rfl) (z9k _ _ _ _ text) ?_
  rintro _ rfl
  rintro _ rfl
  refine zD decide_eq_true_iff h (fun _ h => ?_) (fun _ h => ?_)
  ·
    cases h; exact ⟨rfl, rfl⟩
  obtain ⟨q1, g, h⟩ := zB h
  refine ⟨_, ⟨_, z6L _ _ _ g⟩, ?_⟩
  exact z6j _ _ _ _ h
def z6F : (i : gC) → z4m i → Prop
  | .vZ a b, r => Trip Try.prog 10 [.d (gT a.K a.N a.S (List.map zI.toD a.L) a.From a.To), .d (gT b.K b.N b.S (List.map zI.toD b.L) b.From b.To)] [] [(nB r)] []
  | .yP i a b, r => Ok (z4w (Trip Try.prog) [(nB r)] []) (kL Try.f10 4) ⟨53, [(2, .ref 2 1 0), (3, .ref 3 1 0), (5, (nI i))], [(2, 1, some (.agg (gT a.K a.N a.S (List.map zI.toD a.L) a.From a.To))), (3, 1, some (.agg (gT b.K b.N b.S (List.map zI.toD b.L) b.From b.To)))], [], 0⟩
theorem y1p : ∀ i r, z0m z0D i = some r → z6F i r := by
  refine vS z4j fun g ih i => ?_
  cases i with
  | vZ a b =>
    have ih_ref06Same_L4 := fun i a b r h => ih (.yP i a b) r h
    intro r h
    replace h : z0Q (fun i a b => g (gC.yP i a b)) a b = some r := h
    unfold z0Q at h
    refine yV 1000 (by kernel_rfl) (by kernel_rfl) (by kernel_rfl) (by kernel_rfl) (by kernel_rfl) (y1H _ _ _ _ a b) ?_
    rintro _ rfl
    refine vG beq_iff_eq h (fun _ h => ?_) (fun _ h => ?_)
    ·
      rintro _ rfl
      refine vG beq_iff_eq h (fun _ h => ?_) (fun _ h => ?_)
      ·
        rintro _ rfl
        refine vG beq_iff_eq h (fun _ h => ?_) (fun _ h => ?_)
        ·
          refine z2g (e' := (List.length a.L : Int)) (by first | rfl | rw [List.length_map]) ?_
          refine z2g (e' := (List.length b.L : Int)) (by first | rfl | rw [List.length_map]) ?_
          rintro _ rfl
          refine vG beq_iff_eq h (fun _ h => ?_) (fun _ h => ?_)
          ·
            exact ih_ref06Same_L4 _ _ _ _ h
          cases h; exact ⟨rfl, rfl⟩
        cases h; exact ⟨rfl, rfl⟩
      cases h; exact ⟨rfl, rfl⟩
    cases h; exact ⟨rfl, rfl⟩
  | yP i a b =>
    have ih_ref06Same := fun a b r h => ih (.vZ a b) r h
    have ih_ref06Same_L4 := fun i a b r h => ih (.yP i a b) r h
    intro r h
    replace h : uZ (fun a b => g (gC.vZ a b)) (fun i a b => g (gC.yP i a b)) i a b = some r := h
    unfold uZ at h
    refine z2j 1000 (z8k _ _ _ _ i a b) ?_
    refine z2g (e' := (List.length a.L : Int)) (by first | rfl | rw [List.length_map]) ?_
    rintro _ rfl
    refine zD decide_eq_true_iff h (fun _ h => ?_) (fun _ h => ?_)
    ·
      obtain ⟨x, hx, h⟩ := zB h
      refine ⟨jE (l := a.L) (zI.sz), z2V hx, x.K, x.N, x.S, List.map zI.toD x.L, x.From, x.To, z0T (zI.toD_eq x) hx, ?_⟩
      obtain ⟨x1, hx, h⟩ := zB h
      refine ⟨jE (l := b.L) (zI.sz), z2V hx, x1.K, x1.N, x1.S, List.map zI.toD x1.L, x1.From, x1.To, z0T (zI.toD_eq x1) hx, ?_⟩
      obtain ⟨q1, g, h⟩ := zB h
      refine ⟨_, ⟨_, ih_ref06Same _ _ _ g⟩, ?_⟩
      refine vG Iff.rfl h (fun _ h => ?_) (fun _ h => ?_)
      ·
        rintro _ rfl
        exact ih_ref06Same_L4 _ _ _ _ h
      cases h; exact ⟨rfl, rfl⟩
    cases h; exact ⟨rfl, rfl⟩
theorem y1s (a b : zI) (r : Bool) (h : vZ a b = some r) : z6F (.vZ a b) r := y1p (.vZ a b) r h
theorem vJ (t : List zC) (from_ to_ k n : Int) (s : Str) (parts : List zI) (r : zH) (h : yT t from_ to_ k n s parts = some r) : Trip Try.prog 43 [.d (.sl (List.map zC.toD t)), (nI from_), (nI to_), (nI k), (nI n), (nS s), .d (.sl (List.map zI.toD parts))] [] [.d (.agg [(.int .i64 r.T_.K), (.int .i64 r.T_.N), (.str r.T_.S), (.sl (List.map zI.toD r.T_.L)), (.int .i64 r.T_.From), (.int .i64 r.T_.To), (.int .i64 r.At), (.int .i64 r.E)])] [] := by
  unfold yT at h
  refine yV 1000 (by kernel_rfl) (by kernel_rfl) (by kernel_rfl) (by kernel_rfl) (by kernel_rfl) (y1L _ _ _ _ t from_ to_ k n s parts) ?_
  obtain ⟨x, hx, h⟩ := zB h
  refine ⟨jE (l := t) (zC.sz), z2V hx, x.K, x.N, x.S, x.From, x.To, z0T (zC.toD_eq x) hx, ?_⟩
  rintro _ rfl
  obtain ⟨x1, hx, h⟩ := zB h
  refine ⟨jE (l := t) (zC.sz), z2V hx, x1.K, x1.N, x1.S, x1.From, x1.To, z0T (zC.toD_eq x1) hx, ?_⟩
  cases h; exact ⟨rfl, rfl⟩
theorem uM (t : List zC) (at_ : Int) (r : zC) (h : jH t at_ = some r) : Trip Try.prog 56 [.d (.sl (List.map zC.toD t)), (nI at_)] [] [.d (gK r.K r.N r.S r.From r.To)] [] := by
  unfold jH at h
  refine yV 1000 (by kernel_rfl) (by kernel_rfl) (by kernel_rfl) (by kernel_rfl) (by kernel_rfl) (y3i _ _ _ _ t at_) ?_
  refine z2g (e' := (List.length t : Int)) (by first | rfl | rw [List.length_map]) ?_
  rintro _ rfl
  refine zD decide_eq_true_iff h (fun _ h => ?_) (fun _ h => ?_)
  ·
    obtain ⟨x, hx, h⟩ := zB h
    refine ⟨jE (l := t) (zC.sz), z2V hx, x.K, x.N, x.S, x.From, x.To, z0T (zC.toD_eq x) hx, ?_⟩
    cases h; exact ⟨rfl, rfl⟩
  cases h; exact ⟨rfl, rfl⟩
theorem vK (t : List zC) (at_ : Int) (s : Str) (r : Bool) (h : vI t at_ s = some r) : Trip Try.prog 57 [.d (.sl (List.map zC.toD t)), (nI at_), (nS s)] [] [(nB r)] [] := by
  unfold vI at h
  refine yV 1000 (by kernel_rfl) (by kernel_rfl) (by kernel_rfl) (by kernel_rfl) (by kernel_rfl) (y1N _ _ _ _ t at_ s) ?_
  obtain ⟨q1, g, h⟩ := zB h
  refine ⟨_, _, _, _, _, ⟨_, uM _ _ _ g⟩, ?_⟩
  rintro _ rfl
  refine zD beq_iff_eq h (fun _ h => ?_) (fun _ h => ?_)
  ·
    obtain ⟨q2, g, h⟩ := zB h
    refine ⟨_, _, _, _, _, ⟨_, uM _ _ _ g⟩, ?_⟩
    rintro _ rfl
    cases h; exact ⟨rfl, rfl⟩
  cases h; exact ⟨rfl, rfl⟩
def z5S : (i : z1P) → z3b i → Prop
  | .vP t at_ signs ops i, r => Ok (z7a (Trip Try.prog) [(nI r)] []) (kL Try.f42 3) ⟨32, [(0, .d (.sl (List.map zC.toD t))), (1, (nI at_)), (7, .d (.sl (List.map D.str signs))), (8, .d (.sl (List.map (D.int .i64) ops))), (9, (nI i))], [], [], 0⟩
theorem z9V : ∀ i r, z0m z1O i = some r → z5S i r := by
  refine vS z5R fun g ih i => ?_
  cases i with
  | vP t at_ signs ops i =>
    have ih_ref07Op_L3 := fun t at_ signs ops i r h => ih (.vP t at_ signs ops i) r h
    intro r h
    replace h : gJ (fun t at_ signs ops i => g (z1P.vP t at_ signs ops i)) t at_ signs ops i = some r := h
    unfold gJ at h
    refine z2j 1000 (y0I _ _ _ _ t at_ signs ops i) ?_
    refine z2g (e' := (List.length signs : Int)) (by first | rfl | rw [List.length_map]) ?_
    rintro _ rfl
    refine zD decide_eq_true_iff h (fun _ h => ?_) (fun _ h => ?_)
    ·
      obtain ⟨x, hx, h⟩ := zB h
      refine ⟨jE (l := signs) (fun _ => rfl), z2V hx, x, z0T rfl hx, ?_⟩
      obtain ⟨q1, g, h⟩ := zB h
      refine ⟨_, ⟨_, vK _ _ _ _ g⟩, ?_⟩
      refine zD Iff.rfl h (fun _ h => ?_) (fun _ h => ?_)
      ·
        obtain ⟨x1, hx, h⟩ := zB h
        refine ⟨jE (l := ops) (fun _ => rfl), z2V hx, x1, z0T rfl hx, ?_⟩
        cases h; exact ⟨rfl, rfl⟩
      rintro _ rfl
      exact ih_ref07Op_L3 _ _ _ _ _ _ h
    cases h; exact ⟨rfl, rfl⟩
theorem y0a (t : List zC) (at_ : Int) (signs : List Str) (ops : List Int) (i r : Int) (h : vP t at_ signs ops i = some r) : z5S (.vP t at_ signs ops i) r := z9V (.vP t at_ signs ops i) r h
theorem z5v (level : Int) (r : List Str × List Int) (h : z1W level = some r) : Trip Try.prog 51 [(nI level)] [] [.d (.sl (List.map D.str r.1)), .d (.sl (List.map (D.int .i64) r.2))] [] := by
  unfold z1W at h
  refine yV 1000 (by kernel_rfl) (by kernel_rfl) (by kernel_rfl) (by kernel_rfl) (by kernel_rfl) (y3j _ _ _ _ level) ?_
  rintro _ rfl
  refine zD beq_iff_eq h (fun _ h => ?_) (fun _ h => ?_)
  ·
    cases h; exact ⟨rfl, rfl⟩
  rintro _ rfl
  refine zD beq_iff_eq h (fun _ h => ?_) (fun _ h => ?_)
  ·
    cases h; exact ⟨rfl, rfl⟩
  rintro _ rfl
  refine zD beq_iff_eq h (fun _ h => ?_) (fun _ h => ?_)
  ·
    cases h; exact ⟨rfl, rfl⟩
  rintro _ rfl
  refine zD beq_iff_eq h (fun _ h => ?_) (fun _ h => ?_)
  ·
    cases h; exact ⟨rfl, rfl⟩
  cases h; exact ⟨rfl, rfl⟩
theorem y3P (t : List zC) (at_ level r : Int) (h : z7I t at_ level = some r) : Trip Try.prog 42 (hU (List.map zC.toD t) at_ level) [] [(nI r)] [] := by
  unfold z7I at h
  refine yV 1000 (by kernel_rfl) (by kernel_rfl) (by kernel_rfl) (by kernel_rfl) (by kernel_rfl) (y3Y _ _ _ _ t at_ level) ?_
  obtain ⟨q1, g, h⟩ := zB h
  refine ⟨_, _, ⟨_, z5v _ _ g⟩, ?_⟩
  exact y0a _ _ _ _ _ _ h
theorem z0E (at_ : Int) (r : zH) (h : z0Y at_ = some r) : Trip Try.prog 55 [(nI at_)] [] [.d (.agg [(.int .i64 r.T_.K), (.int .i64 r.T_.N), (.str r.T_.S), (.sl (List.map zI.toD r.T_.L)), (.int .i64 r.T_.From), (.int .i64 r.T_.To), (.int .i64 r.At), (.int .i64 r.E)])] [] := by
  unfold z0Y at h
  refine yV 1000 (by kernel_rfl) (by kernel_rfl) (by kernel_rfl) (by kernel_rfl) (by kernel_rfl) (y3h _ _ _ _ at_) ?_
  cases h; exact ⟨rfl, rfl⟩
theorem z0F (t : List zC) (at_ : Int) (s : Str) (r : Bool) (h : gX t at_ s = some r) : Trip Try.prog 52 [.d (.sl (List.map zC.toD t)), (nI at_), (nS s)] [] [(nB r)] [] := by
  unfold gX at h
  refine yV 1000 (by kernel_rfl) (by kernel_rfl) (by kernel_rfl) (by kernel_rfl) (by kernel_rfl) (y1O _ _ _ _ t at_ s) ?_
  obtain ⟨q1, g, h⟩ := zB h
  refine ⟨_, _, _, _, _, ⟨_, uM _ _ _ g⟩, ?_⟩
  rintro _ rfl
  refine zD beq_iff_eq h (fun _ h => ?_) (fun _ h => ?_)
  ·
    obtain ⟨q2, g, h⟩ := zB h
    refine ⟨_, _, _, _, _, ⟨_, uM _ _ _ g⟩, ?_⟩
    rintro _ rfl
    cases h; exact ⟨rfl, rfl⟩
  cases h; exact ⟨rfl, rfl⟩
def z6G : (i : zJ) → z4n i → Prop
  | .zQ t at_, r => Trip Try.prog 7 [.d (.sl (List.map zC.toD t)), (nI at_)] [] [.d (.agg [(.int .i64 r.T_.K), (.int .i64 r.T_.N), (.str r.T_.S), (.sl (List.map zI.toD r.T_.L)), (.int .i64 r.T_.From), (.int .i64 r.T_.To), (.int .i64 r.At), (.int .i64 r.E)])] []
  | .zR t at_ level, r => Trip Try.prog 17 (hU (List.map zC.toD t) at_ level) [] [.d (.agg [(.int .i64 r.T_.K), (.int .i64 r.T_.N), (.str r.T_.S), (.sl (List.map zI.toD r.T_.L)), (.int .i64 r.T_.From), (.int .i64 r.T_.To), (.int .i64 r.At), (.int .i64 r.E)])] []
  | .zZ t at_ level times o6 left, r => Ok (z3k (Trip Try.prog) [.d (.agg [(.int .i64 r.T_.K), (.int .i64 r.T_.N), (.str r.T_.S), (.sl (List.map zI.toD r.T_.L)), (.int .i64 r.T_.From), (.int .i64 r.T_.To), (.int .i64 r.At), (.int .i64 r.E)])] []) (kL Try.f17 5) ⟨65, [(0, .d (.sl (List.map zC.toD t))), (1, (nI at_)), (2, (nI level)), (6, .ref 6 1 0), (7, .ref 7 1 0), (8, (nI times))], [(6, 1, some (.agg (.agg [(.int .i64 o6.T_.K), (.int .i64 o6.T_.N), (.str o6.T_.S), (.sl (List.map zI.toD o6.T_.L)), (.int .i64 o6.T_.From), (.int .i64 o6.T_.To), (.int .i64 o6.At), (.int .i64 o6.E)]))), (7, 1, some (.agg (.agg [(.int .i64 left.T_.K), (.int .i64 left.T_.N), (.str left.T_.S), (.sl (List.map zI.toD left.T_.L)), (.int .i64 left.T_.From), (.int .i64 left.T_.To), (.int .i64 left.At), (.int .i64 left.E)])))], [], 0⟩
  | .wO t at_, r => Trip Try.prog 41 [.d (.sl (List.map zC.toD t)), (nI at_)] [] [.d (.agg [(.int .i64 r.T_.K), (.int .i64 r.T_.N), (.str r.T_.S), (.sl (List.map zI.toD r.T_.L)), (.int .i64 r.T_.From), (.int .i64 r.T_.To), (.int .i64 r.At), (.int .i64 r.E)])] []
  | .vW t at_, r => Trip Try.prog 66 [.d (.sl (List.map zC.toD t)), (nI at_)] [] [.d (.agg [(.int .i64 r.T_.K), (.int .i64 r.T_.N), (.str r.T_.S), (.sl (List.map zI.toD r.T_.L)), (.int .i64 r.T_.From), (.int .i64 r.T_.To), (.int .i64 r.At), (.int .i64 r.E)])] []
  | .yG t at_ o4 x, r => Ok (z4y (Trip Try.prog) [.d (.agg [(.int .i64 r.T_.K), (.int .i64 r.T_.N), (.str r.T_.S), (.sl (List.map zI.toD r.T_.L)), (.int .i64 r.T_.From), (.int .i64 r.T_.To), (.int .i64 r.At), (.int .i64 r.E)])] []) (kL Try.f66 2) ⟨75, [(0, .d (.sl (List.map zC.toD t))), (1, (nI at_)), (4, .ref 4 1 0), (5, .ref 5 1 0)], [(4, 1, some (.agg (.agg [(.int .i64 o4.T_.K), (.int .i64 o4.T_.N), (.str o4.T_.S), (.sl (List.map zI.toD o4.T_.L)), (.int .i64 o4.T_.From), (.int .i64 o4.T_.To), (.int .i64 o4.At), (.int .i64 o4.E)]))), (5, 1, some (.agg (.agg [(.int .i64 x.T_.K), (.int .i64 x.T_.N), (.str x.T_.S), (.sl (List.map zI.toD x.T_.L)), (.int .i64 x.T_.From), (.int .i64 x.T_.To), (.int .i64 x.At), (.int .i64 x.E)])))], [], 0⟩
  | .yS t at_, r => Trip Try.prog 70 [.d (.sl (List.map zC.toD t)), (nI at_)] [] [.d (.agg [(.int .i64 r.T_.K), (.int .i64 r.T_.N), (.str r.T_.S), (.sl (List.map zI.toD r.T_.L)), (.int .i64 r.T_.From), (.int .i64 r.T_.To), (.int .i64 r.At), (.int .i64 r.E)])] []
  | .yX t at_, r => Trip Try.prog 78 [.d (.sl (List.map zC.toD t)), (nI at_)] [] [.d (.agg [(.int .i64 r.T_.K), (.int .i64 r.T_.N), (.str r.T_.S), (.sl (List.map zI.toD r.T_.L)), (.int .i64 r.T_.From), (.int .i64 r.T_.To), (.int .i64 r.At), (.int .i64 r.E)])] []
  | .yC t open_ few first last, r => Trip Try.prog 82 [.d (.sl (List.map zC.toD t)), (nI open_), (nB few), (nS first), (nS last)] [] (hU (List.map zI.toD r.1) r.2.1 r.2.2) []
  | .wJ t at_, r => Trip Try.prog 85 [.d (.sl (List.map zC.toD t)), (nI at_)] [] (hU (List.map zI.toD r.1) r.2.1 r.2.2) []
  | .yF t at_ out, r => Ok (z4x (Trip Try.prog) (hU (List.map zI.toD r.1) r.2.1 r.2.2) []) (kL Try.f85 2) ⟨37, [(0, .d (.sl (List.map zC.toD t))), (1, (nI at_)), (7, .right 9 1 6 (List.map zI.toD out))], [(9, 1, some (.tok 6 (List.length (List.map zI.toD out))))], [], 0⟩
theorem y1q : ∀ i r, z0m yU i = some r → z6G i r := by
  refine vS wT fun g ih i => ?_
  cases i with
  | zQ t at_ =>
    have ih_ref07Level := fun t at_ level r h => ih (.zR t at_ level) r h
    intro r h
    replace h : z0R (fun t at_ level => g (zJ.zR t at_ level)) t at_ = some r := h
    unfold z0R at h
    refine yV 1000 (by kernel_rfl) (by kernel_rfl) (by kernel_rfl) (by kernel_rfl) (by kernel_rfl) (y1J _ _ _ _ t at_) ?_
    obtain ⟨q1, g, h⟩ := zB h
    refine ⟨_, _, _, _, _, _, _, _, ⟨_, ih_ref07Level _ _ _ _ g⟩, ?_⟩
    cases h; exact ⟨rfl, rfl⟩
  | zR t at_ level =>
    have ih_ref07Level := fun t at_ level r h => ih (.zR t at_ level) r h
    have ih_ref07Level_L5 := fun t at_ level times o6 left r h => ih (.zZ t at_ level times o6 left) r h
    have ih_ref07Un := fun t at_ r h => ih (.wO t at_) r h
    intro r h
    replace h : uP (fun t at_ level => g (zJ.zR t at_ level)) (fun t at_ level times o6 left => g (zJ.zZ t at_ level times o6 left)) (fun t at_ => g (zJ.wO t at_)) t at_ level = some r := h
    unfold uP at h
    refine yV 1000 (by kernel_rfl) (by kernel_rfl) (by kernel_rfl) (by kernel_rfl) (by kernel_rfl) (y0H _ _ _ _ t at_ level) ?_
    rintro _ rfl
    refine zD beq_iff_eq h (fun _ h => ?_) (fun _ h => ?_)
    ·
      obtain ⟨q1, g, h⟩ := zB h
      refine ⟨_, _, _, _, _, _, _, _, ⟨_, ih_ref07Un _ _ _ g⟩, ?_⟩
      cases h; exact ⟨rfl, rfl⟩
    rintro _ rfl
    obtain ⟨q2, g, h⟩ := zB h
    refine ⟨_, _, _, _, _, _, _, _, ⟨_, ih_ref07Level _ _ _ _ g⟩, ?_⟩
    exact ih_ref07Level_L5 _ _ _ _ _ _ _ h
  | zZ t at_ level times o6 left =>
    have ih_ref07Level := fun t at_ level r h => ih (.zR t at_ level) r h
    have ih_ref07Level_L5 := fun t at_ level times o6 left r h => ih (.zZ t at_ level times o6 left) r h
    intro r h
    replace h : wF (fun t at_ level => g (zJ.zR t at_ level)) (fun t at_ level times o6 left => g (zJ.zZ t at_ level times o6 left)) t at_ level times o6 left = some r := h
    unfold wF at h
    refine z2j 1000 (z7m _ _ _ _ t at_ level times o6 left) ?_
    rintro _ rfl
    refine zD beq_iff_eq h (fun _ h => ?_) (fun _ h => ?_)
    ·
      obtain ⟨q1, g, h⟩ := zB h
      refine ⟨_, ⟨_, y3P _ _ _ _ g⟩, ?_⟩
      rintro _ rfl
      refine zD beq_iff_eq h (fun _ h => ?_) (fun _ h => ?_)
      ·
        cases h; exact ⟨rfl, rfl⟩
      rintro _ rfl
      refine zD beq_iff_eq h (fun _ h => ?_) (fun _ h => ?_)
      ·
        rintro _ rfl
        refine zD beq_iff_eq h (fun _ h => ?_) (fun _ h => ?_)
        ·
          cases h; exact ⟨rfl, rfl⟩
        rintro _ rfl
        rintro _ rfl
        obtain ⟨q2, g, h⟩ := zB h
        refine ⟨_, _, _, _, _, _, _, _, ⟨_, ih_ref07Level _ _ _ _ g⟩, ?_⟩
        rintro _ rfl
        refine vG beq_iff_eq h (fun _ h => ?_) (fun _ h => ?_)
        ·
          obtain ⟨q3, g, h⟩ := zB h
          have hT := vJ _ _ _ _ _ _ _ _ g
          simp only [List.map_cons, List.map_nil, zI.toD_eq] at hT
          refine ⟨_, _, _, _, _, _, _, _, ⟨_, hT⟩, ?_⟩
          rintro _ rfl
          exact ih_ref07Level_L5 _ _ _ _ _ _ _ h
        cases h; exact ⟨rfl, rfl⟩
      rintro _ rfl
      rintro _ rfl
      obtain ⟨q4, g, h⟩ := zB h
      refine ⟨_, _, _, _, _, _, _, _, ⟨_, ih_ref07Level _ _ _ _ g⟩, ?_⟩
      rintro _ rfl
      refine vG beq_iff_eq h (fun _ h => ?_) (fun _ h => ?_)
      ·
        obtain ⟨q5, g, h⟩ := zB h
        have hT := vJ _ _ _ _ _ _ _ _ g
        simp only [List.map_cons, List.map_nil, zI.toD_eq] at hT
        refine ⟨_, _, _, _, _, _, _, _, ⟨_, hT⟩, ?_⟩
        rintro _ rfl
        exact ih_ref07Level_L5 _ _ _ _ _ _ _ h
      cases h; exact ⟨rfl, rfl⟩
    cases h; exact ⟨rfl, rfl⟩
  | wO t at_ =>
    have ih_ref07Un := fun t at_ r h => ih (.wO t at_) r h
    have ih_ref07Post := fun t at_ r h => ih (.vW t at_) r h
    intro r h
    replace h : z1d (fun t at_ => g (zJ.wO t at_)) (fun t at_ => g (zJ.vW t at_)) t at_ = some r := h
    unfold z1d at h
    refine yV 1000 (by kernel_rfl) (by kernel_rfl) (by kernel_rfl) (by kernel_rfl) (by kernel_rfl) (y3Z _ _ _ _ t at_) ?_
    obtain ⟨q1, g, h⟩ := zB h
    refine ⟨_, ⟨_, vK _ _ _ _ g⟩, ?_⟩
    refine zD Iff.rfl h (fun _ h => ?_) (fun _ h => ?_)
    ·
      obtain ⟨q2, g, h⟩ := zB h
      refine ⟨_, ⟨_, vK _ _ _ _ g⟩, ?_⟩
      refine zD Iff.rfl h (fun _ h => ?_) (fun _ h => ?_)
      ·
        rintro _ rfl
        refine zD beq_iff_eq h (fun _ h => ?_) (fun _ h => ?_)
        ·
          obtain ⟨q3, g, h⟩ := zB h
          refine ⟨_, _, _, _, _, _, _, _, ⟨_, ih_ref07Post _ _ _ g⟩, ?_⟩
          cases h; exact ⟨rfl, rfl⟩
        rintro _ rfl
        obtain ⟨q4, g, h⟩ := zB h
        refine ⟨_, _, _, _, _, _, _, _, ⟨_, ih_ref07Un _ _ _ g⟩, ?_⟩
        rintro _ rfl
        refine vG beq_iff_eq h (fun _ h => ?_) (fun _ h => ?_)
        ·
          obtain ⟨q5, g, h⟩ := zB h
          have hT := vJ _ _ _ _ _ _ _ _ g
          simp only [List.map_cons, List.map_nil, zI.toD_eq] at hT
          refine ⟨_, _, _, _, _, _, _, _, ⟨_, hT⟩, ?_⟩
          cases h; exact ⟨rfl, rfl⟩
        cases h; exact ⟨rfl, rfl⟩
      rintro _ rfl
      refine zD beq_iff_eq h (fun _ h => ?_) (fun _ h => ?_)
      ·
        obtain ⟨q6, g, h⟩ := zB h
        refine ⟨_, _, _, _, _, _, _, _, ⟨_, ih_ref07Post _ _ _ g⟩, ?_⟩
        cases h; exact ⟨rfl, rfl⟩
      rintro _ rfl
      obtain ⟨q7, g, h⟩ := zB h
      refine ⟨_, _, _, _, _, _, _, _, ⟨_, ih_ref07Un _ _ _ g⟩, ?_⟩
      rintro _ rfl
      refine vG beq_iff_eq h (fun _ h => ?_) (fun _ h => ?_)
      ·
        obtain ⟨q8, g, h⟩ := zB h
        have hT := vJ _ _ _ _ _ _ _ _ g
        simp only [List.map_cons, List.map_nil, zI.toD_eq] at hT
        refine ⟨_, _, _, _, _, _, _, _, ⟨_, hT⟩, ?_⟩
        cases h; exact ⟨rfl, rfl⟩
      cases h; exact ⟨rfl, rfl⟩
    obtain ⟨q9, g, h⟩ := zB h
    refine ⟨_, ⟨_, vK _ _ _ _ g⟩, ?_⟩
    refine zD Iff.rfl h (fun _ h => ?_) (fun _ h => ?_)
    ·
      rintro _ rfl
      refine zD beq_iff_eq h (fun _ h => ?_) (fun _ h => ?_)
      ·
        obtain ⟨q10, g, h⟩ := zB h
        refine ⟨_, _, _, _, _, _, _, _, ⟨_, ih_ref07Post _ _ _ g⟩, ?_⟩
        cases h; exact ⟨rfl, rfl⟩
      rintro _ rfl
      obtain ⟨q11, g, h⟩ := zB h
      refine ⟨_, _, _, _, _, _, _, _, ⟨_, ih_ref07Un _ _ _ g⟩, ?_⟩
      rintro _ rfl
      refine vG beq_iff_eq h (fun _ h => ?_) (fun _ h => ?_)
      ·
        obtain ⟨q12, g, h⟩ := zB h
        have hT := vJ _ _ _ _ _ _ _ _ g
        simp only [List.map_cons, List.map_nil, zI.toD_eq] at hT
        refine ⟨_, _, _, _, _, _, _, _, ⟨_, hT⟩, ?_⟩
        cases h; exact ⟨rfl, rfl⟩
      cases h; exact ⟨rfl, rfl⟩
    rintro _ rfl
    refine zD beq_iff_eq h (fun _ h => ?_) (fun _ h => ?_)
    ·
      obtain ⟨q13, g, h⟩ := zB h
      refine ⟨_, _, _, _, _, _, _, _, ⟨_, ih_ref07Post _ _ _ g⟩, ?_⟩
      cases h; exact ⟨rfl, rfl⟩
    rintro _ rfl
    obtain ⟨q14, g, h⟩ := zB h
    refine ⟨_, _, _, _, _, _, _, _, ⟨_, ih_ref07Un _ _ _ g⟩, ?_⟩
    rintro _ rfl
    refine vG beq_iff_eq h (fun _ h => ?_) (fun _ h => ?_)
    ·
      obtain ⟨q15, g, h⟩ := zB h
      have hT := vJ _ _ _ _ _ _ _ _ g
      simp only [List.map_cons, List.map_nil, zI.toD_eq] at hT
      refine ⟨_, _, _, _, _, _, _, _, ⟨_, hT⟩, ?_⟩
      cases h; exact ⟨rfl, rfl⟩
    cases h; exact ⟨rfl, rfl⟩
  | vW t at_ =>
    have ih_ref07Post_L2 := fun t at_ o4 x r h => ih (.yG t at_ o4 x) r h
    have ih_ref07Atom := fun t at_ r h => ih (.yS t at_) r h
    intro r h
    replace h : z0j (fun t at_ o4 x => g (zJ.yG t at_ o4 x)) (fun t at_ => g (zJ.yS t at_)) t at_ = some r := h
    unfold z0j at h
    refine yV 1000 (by kernel_rfl) (by kernel_rfl) (by kernel_rfl) (by kernel_rfl) (by kernel_rfl) (y1M _ _ _ _ t at_) ?_
    obtain ⟨q1, g, h⟩ := zB h
    refine ⟨_, _, _, _, _, _, _, _, ⟨_, ih_ref07Atom _ _ _ g⟩, ?_⟩
    exact ih_ref07Post_L2 _ _ _ _ _ h
  | yG t at_ o4 x =>
    have ih_ref07Expr := fun t at_ r h => ih (.zQ t at_) r h
    have ih_ref07Post_L2 := fun t at_ o4 x r h => ih (.yG t at_ o4 x) r h
    intro r h
    replace h : vU (fun t at_ => g (zJ.zQ t at_)) (fun t at_ o4 x => g (zJ.yG t at_ o4 x)) t at_ o4 x = some r := h
    unfold vU at h
    refine z2j 1000 (z8m _ _ _ _ t at_ o4 x) ?_
    rintro _ rfl
    refine zD beq_iff_eq h (fun _ h => ?_) (fun _ h => ?_)
    ·
      obtain ⟨q1, g, h⟩ := zB h
      refine ⟨_, ⟨_, vK _ _ _ _ g⟩, ?_⟩
      refine zD Iff.rfl h (fun _ h => ?_) (fun _ h => ?_)
      ·
        rintro _ rfl
        obtain ⟨q2, g, h⟩ := zB h
        refine ⟨_, _, _, _, _, _, _, _, ⟨_, ih_ref07Expr _ _ _ g⟩, ?_⟩
        rintro _ rfl
        refine vG beq_iff_eq h (fun _ h => ?_) (fun _ h => ?_)
        ·
          obtain ⟨q3, g, h⟩ := zB h
          refine ⟨_, ⟨_, vK _ _ _ _ g⟩, ?_⟩
          refine vG Iff.rfl h (fun _ h => ?_) (fun _ h => ?_)
          ·
            rintro _ rfl
            obtain ⟨q5, g, h⟩ := zB h
            have hT := vJ _ _ _ _ _ _ _ _ g
            simp only [List.map_cons, List.map_nil, zI.toD_eq] at hT
            refine ⟨_, _, _, _, _, _, _, _, ⟨_, hT⟩, ?_⟩
            exact ih_ref07Post_L2 _ _ _ _ _ h
          obtain ⟨q4, g, h⟩ := zB h
          refine ⟨_, _, _, _, _, _, _, _, ⟨_, z0E _ _ g⟩, ?_⟩
          cases h; exact ⟨rfl, rfl⟩
        cases h; exact ⟨rfl, rfl⟩
      obtain ⟨q6, g, h⟩ := zB h
      refine ⟨_, ⟨_, vK _ _ _ _ g⟩, ?_⟩
      refine zD Iff.rfl h (fun _ h => ?_) (fun _ h => ?_)
      ·
        rintro _ rfl
        obtain ⟨q7, g, h⟩ := zB h
        refine ⟨_, _, _, _, _, ⟨_, uM _ _ _ g⟩, ?_⟩
        rintro _ rfl
        refine vG beq_iff_eq h (fun _ h => ?_) (fun _ h => ?_)
        ·
          rintro _ rfl
          obtain ⟨q9, g, h⟩ := zB h
          have hT := vJ _ _ _ _ _ _ _ _ g
          simp only [List.map_cons, List.map_nil, zI.toD_eq] at hT
          refine ⟨_, _, _, _, _, _, _, _, ⟨_, hT⟩, ?_⟩
          exact ih_ref07Post_L2 _ _ _ _ _ h
        rintro _ rfl
        obtain ⟨q8, g, h⟩ := zB h
        refine ⟨_, _, _, _, _, _, _, _, ⟨_, z0E _ _ g⟩, ?_⟩
        cases h; exact ⟨rfl, rfl⟩
      cases h; exact ⟨rfl, rfl⟩
    cases h; exact ⟨rfl, rfl⟩
  | yS t at_ =>
    have ih_ref07Expr := fun t at_ r h => ih (.zQ t at_) r h
    have ih_ref07Called := fun t at_ r h => ih (.yX t at_) r h
    intro r h
    replace h : gI (fun t at_ => g (zJ.zQ t at_)) (fun t at_ => g (zJ.yX t at_)) t at_ = some r := h
    unfold gI at h
    refine yV 1000 (by kernel_rfl) (by kernel_rfl) (by kernel_rfl) (by kernel_rfl) (by kernel_rfl) (y1I _ _ _ _ t at_) ?_
    obtain ⟨q1, g, h⟩ := zB h
    refine ⟨_, _, _, _, _, ⟨_, uM _ _ _ g⟩, ?_⟩
    rintro _ rfl
    refine zD beq_iff_eq h (fun _ h => ?_) (fun _ h => ?_)
    ·
      rintro _ rfl
      obtain ⟨q2, g, h⟩ := zB h
      refine ⟨_, _, _, _, _, _, _, _, ⟨_, vJ _ _ _ _ _ _ _ _ g⟩, ?_⟩
      cases h; exact ⟨rfl, rfl⟩
    obtain ⟨q3, g, h⟩ := zB h
    refine ⟨_, ⟨_, z0F _ _ _ _ g⟩, ?_⟩
    refine zD Iff.rfl h (fun _ h => ?_) (fun _ h => ?_)
    ·
      rintro _ rfl
      obtain ⟨q4, g, h⟩ := zB h
      refine ⟨_, _, _, _, _, _, _, _, ⟨_, vJ _ _ _ _ _ _ _ _ g⟩, ?_⟩
      cases h; exact ⟨rfl, rfl⟩
    obtain ⟨q5, g, h⟩ := zB h
    refine ⟨_, ⟨_, z0F _ _ _ _ g⟩, ?_⟩
    refine zD Iff.rfl h (fun _ h => ?_) (fun _ h => ?_)
    ·
      rintro _ rfl
      obtain ⟨q6, g, h⟩ := zB h
      refine ⟨_, _, _, _, _, _, _, _, ⟨_, vJ _ _ _ _ _ _ _ _ g⟩, ?_⟩
      cases h; exact ⟨rfl, rfl⟩
    obtain ⟨q7, g, h⟩ := zB h
    refine ⟨_, ⟨_, z0F _ _ _ _ g⟩, ?_⟩
    refine zD Iff.rfl h (fun _ h => ?_) (fun _ h => ?_)
    ·
      rintro _ rfl
      obtain ⟨q8, g, h⟩ := zB h
      refine ⟨_, _, _, _, _, _, _, _, ⟨_, vJ _ _ _ _ _ _ _ _ g⟩, ?_⟩
      cases h; exact ⟨rfl, rfl⟩
    rintro _ rfl
    refine zD beq_iff_eq h (fun _ h => ?_) (fun _ h => ?_)
    ·
      rintro _ rfl
      obtain ⟨q9, g, h⟩ := zB h
      refine ⟨_, ⟨_, vK _ _ _ _ g⟩, ?_⟩
      refine vG Iff.rfl h (fun _ h => ?_) (fun _ h => ?_)
      ·
        obtain ⟨q11, g, h⟩ := zB h
        refine ⟨_, ⟨_, vK _ _ _ _ g⟩, ?_⟩
        refine zD Iff.rfl h (fun _ h => ?_) (fun _ h => ?_)
        ·
          rintro _ rfl
          obtain ⟨q12, g, h⟩ := zB h
          refine ⟨_, _, _, _, _, _, _, _, ⟨_, ih_ref07Expr _ _ _ g⟩, ?_⟩
          rintro _ rfl
          refine zD beq_iff_eq h (fun hc128 h => ?_) (fun hc128 h => ?_)
          ·
            obtain ⟨q13, g, h⟩ := zB h
            refine ⟨_, ⟨_, vK _ _ _ _ g⟩, ?_⟩
            refine vG Iff.rfl h (fun _ h => ?_) (fun _ h => ?_)
            ·
              rintro _ rfl
              refine z9S beq_iff_eq hc128 ?_
              rintro _ rfl
              cases h; exact ⟨rfl, rfl⟩
            obtain ⟨q14, g, h⟩ := zB h
            refine ⟨_, _, _, _, _, _, _, _, ⟨_, z0E _ _ g⟩, ?_⟩
            cases h; exact ⟨rfl, rfl⟩
          rintro _ rfl
          refine z9R beq_iff_eq hc128 ?_
          cases h; exact ⟨rfl, rfl⟩
        obtain ⟨q15, g, h⟩ := zB h
        refine ⟨_, _, _, _, _, _, _, _, ⟨_, ih_ref07Called _ _ _ g⟩, ?_⟩
        cases h; exact ⟨rfl, rfl⟩
      rintro _ rfl
      obtain ⟨q10, g, h⟩ := zB h
      refine ⟨_, _, _, _, _, _, _, _, ⟨_, vJ _ _ _ _ _ _ _ _ g⟩, ?_⟩
      cases h; exact ⟨rfl, rfl⟩
    obtain ⟨q16, g, h⟩ := zB h
    refine ⟨_, ⟨_, vK _ _ _ _ g⟩, ?_⟩
    refine zD Iff.rfl h (fun _ h => ?_) (fun _ h => ?_)
    ·
      rintro _ rfl
      obtain ⟨q17, g, h⟩ := zB h
      refine ⟨_, _, _, _, _, _, _, _, ⟨_, ih_ref07Expr _ _ _ g⟩, ?_⟩
      rintro _ rfl
      refine zD beq_iff_eq h (fun hc131 h => ?_) (fun hc131 h => ?_)
      ·
        obtain ⟨q18, g, h⟩ := zB h
        refine ⟨_, ⟨_, vK _ _ _ _ g⟩, ?_⟩
        refine vG Iff.rfl h (fun _ h => ?_) (fun _ h => ?_)
        ·
          rintro _ rfl
          refine z9S beq_iff_eq hc131 ?_
          rintro _ rfl
          cases h; exact ⟨rfl, rfl⟩
        obtain ⟨q19, g, h⟩ := zB h
        refine ⟨_, _, _, _, _, _, _, _, ⟨_, z0E _ _ g⟩, ?_⟩
        cases h; exact ⟨rfl, rfl⟩
      rintro _ rfl
      refine z9R beq_iff_eq hc131 ?_
      cases h; exact ⟨rfl, rfl⟩
    obtain ⟨q20, g, h⟩ := zB h
    refine ⟨_, _, _, _, _, _, _, _, ⟨_, ih_ref07Called _ _ _ g⟩, ?_⟩
    cases h; exact ⟨rfl, rfl⟩
  | yX t at_ =>
    have ih_ref07Closed := fun t open_ few first last r h => ih (.yC t open_ few first last) r h
    intro r h
    replace h : wA (fun t open_ few first last => g (zJ.yC t open_ few first last)) t at_ = some r := h
    unfold wA at h
    refine yV 1000 (by kernel_rfl) (by kernel_rfl) (by kernel_rfl) (by kernel_rfl) (by kernel_rfl) (z9l _ _ _ _ t at_) ?_
    rintro _ rfl
    obtain ⟨q1, g, h⟩ := zB h
    refine ⟨_, _, _, _, _, ⟨_, uM _ _ _ g⟩, ?_⟩
    rintro _ rfl
    refine zD beq_iff_eq h (fun _ h => ?_) (fun _ h => ?_)
    ·
      obtain ⟨q2, g, h⟩ := zB h
      refine ⟨_, _, _, _, _, ⟨_, uM _ _ _ g⟩, ?_⟩
      obtain ⟨q3, g, h⟩ := zB h
      refine ⟨_, _, _, ⟨_, ih_ref07Closed _ _ _ _ _ _ g⟩, ?_⟩
      rintro _ rfl
      refine vG beq_iff_eq h (fun _ h => ?_) (fun _ h => ?_)
      ·
        obtain ⟨q4, g, h⟩ := zB h
        refine ⟨_, _, _, _, _, _, _, _, ⟨_, vJ _ _ _ _ _ _ _ _ g⟩, ?_⟩
        cases h; exact ⟨rfl, rfl⟩
      cases h; exact ⟨rfl, rfl⟩
    obtain ⟨q5, g, h⟩ := zB h
    refine ⟨_, ⟨_, vK _ _ _ _ g⟩, ?_⟩
    refine zD Iff.rfl h (fun _ h => ?_) (fun _ h => ?_)
    ·
      obtain ⟨q6, g, h⟩ := zB h
      refine ⟨_, _, _, ⟨_, ih_ref07Closed _ _ _ _ _ _ g⟩, ?_⟩
      rintro _ rfl
      refine vG beq_iff_eq h (fun _ h => ?_) (fun _ h => ?_)
      ·
        obtain ⟨q7, g, h⟩ := zB h
        refine ⟨_, _, _, _, _, _, _, _, ⟨_, vJ _ _ _ _ _ _ _ _ g⟩, ?_⟩
        cases h; exact ⟨rfl, rfl⟩
      cases h; exact ⟨rfl, rfl⟩
    obtain ⟨q8, g, h⟩ := zB h
    refine ⟨_, ⟨_, vK _ _ _ _ g⟩, ?_⟩
    refine zD Iff.rfl h (fun _ h => ?_) (fun _ h => ?_)
    ·
      rintro _ rfl
      obtain ⟨q9, g, h⟩ := zB h
      refine ⟨_, _, _, _, _, ⟨_, uM _ _ _ g⟩, ?_⟩
      rintro _ rfl
      refine vG beq_iff_eq h (fun _ h => ?_) (fun _ h => ?_)
      ·
        rintro _ rfl
        obtain ⟨q11, g, h⟩ := zB h
        refine ⟨_, _, _, _, _, ⟨_, uM _ _ _ g⟩, ?_⟩
        rintro _ rfl
        obtain ⟨q12, g, h⟩ := zB h
        refine ⟨_, ⟨_, z0F _ _ _ _ g⟩, ?_⟩
        refine zD Iff.rfl h (fun _ h => ?_) (fun _ h => ?_)
        ·
          obtain ⟨q13, g, h⟩ := zB h
          refine ⟨_, _, _, ⟨_, ih_ref07Closed _ _ _ _ _ _ g⟩, ?_⟩
          rintro _ rfl
          refine vG beq_iff_eq h (fun _ h => ?_) (fun _ h => ?_)
          ·
            obtain ⟨q14, g, h⟩ := zB h
            refine ⟨_, _, _, _, _, _, _, _, ⟨_, vJ _ _ _ _ _ _ _ _ g⟩, ?_⟩
            cases h; exact ⟨rfl, rfl⟩
          cases h; exact ⟨rfl, rfl⟩
        obtain ⟨q15, g, h⟩ := zB h
        refine ⟨_, _, _, ⟨_, ih_ref07Closed _ _ _ _ _ _ g⟩, ?_⟩
        rintro _ rfl
        refine vG beq_iff_eq h (fun _ h => ?_) (fun _ h => ?_)
        ·
          obtain ⟨q16, g, h⟩ := zB h
          refine ⟨_, _, _, _, _, _, _, _, ⟨_, vJ _ _ _ _ _ _ _ _ g⟩, ?_⟩
          cases h; exact ⟨rfl, rfl⟩
        cases h; exact ⟨rfl, rfl⟩
      rintro _ rfl
      obtain ⟨q10, g, h⟩ := zB h
      refine ⟨_, _, _, _, _, _, _, _, ⟨_, z0E _ _ g⟩, ?_⟩
      cases h; exact ⟨rfl, rfl⟩
    obtain ⟨q17, g, h⟩ := zB h
    refine ⟨_, ⟨_, z0F _ _ _ _ g⟩, ?_⟩
    refine zD Iff.rfl h (fun _ h => ?_) (fun _ h => ?_)
    ·
      rintro _ rfl
      obtain ⟨q18, g, h⟩ := zB h
      refine ⟨_, _, _, _, _, ⟨_, uM _ _ _ g⟩, ?_⟩
      rintro _ rfl
      refine vG beq_iff_eq h (fun _ h => ?_) (fun _ h => ?_)
      ·
        rintro _ rfl
        obtain ⟨q20, g, h⟩ := zB h
        refine ⟨_, _, _, _, _, ⟨_, uM _ _ _ g⟩, ?_⟩
        rintro _ rfl
        obtain ⟨q21, g, h⟩ := zB h
        refine ⟨_, ⟨_, z0F _ _ _ _ g⟩, ?_⟩
        refine zD Iff.rfl h (fun _ h => ?_) (fun _ h => ?_)
        ·
          obtain ⟨q22, g, h⟩ := zB h
          refine ⟨_, _, _, ⟨_, ih_ref07Closed _ _ _ _ _ _ g⟩, ?_⟩
          rintro _ rfl
          refine vG beq_iff_eq h (fun _ h => ?_) (fun _ h => ?_)
          ·
            obtain ⟨q23, g, h⟩ := zB h
            refine ⟨_, _, _, _, _, _, _, _, ⟨_, vJ _ _ _ _ _ _ _ _ g⟩, ?_⟩
            cases h; exact ⟨rfl, rfl⟩
          cases h; exact ⟨rfl, rfl⟩
        obtain ⟨q24, g, h⟩ := zB h
        refine ⟨_, _, _, ⟨_, ih_ref07Closed _ _ _ _ _ _ g⟩, ?_⟩
        rintro _ rfl
        refine vG beq_iff_eq h (fun _ h => ?_) (fun _ h => ?_)
        ·
          obtain ⟨q25, g, h⟩ := zB h
          refine ⟨_, _, _, _, _, _, _, _, ⟨_, vJ _ _ _ _ _ _ _ _ g⟩, ?_⟩
          cases h; exact ⟨rfl, rfl⟩
        cases h; exact ⟨rfl, rfl⟩
      rintro _ rfl
      obtain ⟨q19, g, h⟩ := zB h
      refine ⟨_, _, _, _, _, _, _, _, ⟨_, z0E _ _ g⟩, ?_⟩
      cases h; exact ⟨rfl, rfl⟩
    obtain ⟨q26, g, h⟩ := zB h
    refine ⟨_, _, _, _, _, _, _, _, ⟨_, z0E _ _ g⟩, ?_⟩
    cases h; exact ⟨rfl, rfl⟩
  | yC t open_ few first last =>
    have ih_ref07List := fun t at_ r h => ih (.wJ t at_) r h
    intro r h
    replace h : uO (fun t at_ => g (zJ.wJ t at_)) t open_ few first last = some r := h
    unfold uO at h
    refine yV 1000 (by kernel_rfl) (by kernel_rfl) (by kernel_rfl) (by kernel_rfl) (by kernel_rfl) (z9m _ _ _ _ t open_ few first last) ?_
    obtain ⟨q1, g, h⟩ := zB h
    refine ⟨_, ⟨_, vK _ _ _ _ g⟩, ?_⟩
    refine vG Iff.rfl h (fun _ h => ?_) (fun _ h => ?_)
    ·
      refine zD Iff.rfl h (fun _ h => ?_) (fun _ h => ?_)
      ·
        rintro _ rfl
        obtain ⟨q2, g, h⟩ := zB h
        refine ⟨_, ⟨_, vK _ _ _ _ g⟩, ?_⟩
        refine zD Iff.rfl h (fun _ h => ?_) (fun _ h => ?_)
        ·
          rintro _ rfl
          cases h; exact ⟨rfl, rfl⟩
        rintro _ rfl
        obtain ⟨q3, g, h⟩ := zB h
        refine ⟨_, _, _, ⟨_, ih_ref07List _ _ _ g⟩, ?_⟩
        rintro _ rfl
        refine vG beq_iff_eq h (fun _ h => ?_) (fun _ h => ?_)
        ·
          obtain ⟨q4, g, h⟩ := zB h
          refine ⟨_, ⟨_, vK _ _ _ _ g⟩, ?_⟩
          refine vG Iff.rfl h (fun _ h => ?_) (fun _ h => ?_)
          ·
            rintro _ rfl
            cases h; exact ⟨rfl, rfl⟩
          cases h; exact ⟨rfl, rfl⟩
        cases h; exact ⟨rfl, rfl⟩
      rintro _ rfl
      obtain ⟨q5, g, h⟩ := zB h
      refine ⟨_, _, _, ⟨_, ih_ref07List _ _ _ g⟩, ?_⟩
      rintro _ rfl
      refine vG beq_iff_eq h (fun _ h => ?_) (fun _ h => ?_)
      ·
        obtain ⟨q6, g, h⟩ := zB h
        refine ⟨_, ⟨_, vK _ _ _ _ g⟩, ?_⟩
        refine vG Iff.rfl h (fun _ h => ?_) (fun _ h => ?_)
        ·
          rintro _ rfl
          cases h; exact ⟨rfl, rfl⟩
        cases h; exact ⟨rfl, rfl⟩
      cases h; exact ⟨rfl, rfl⟩
    cases h; exact ⟨rfl, rfl⟩
  | wJ t at_ =>
    have ih_ref07List_L2 := fun t at_ out r h => ih (.yF t at_ out) r h
    intro r h
    replace h : z1M (fun t at_ out => g (zJ.yF t at_ out)) t at_ = some r := h
    unfold z1M at h
    refine yV 1000 (by kernel_rfl) (by kernel_rfl) (by kernel_rfl) (by kernel_rfl) (by kernel_rfl) (y1K _ _ _ _ t at_) ?_
    exact ih_ref07List_L2 _ _ _ _ h
  | yF t at_ out =>
    have ih_ref07Expr := fun t at_ r h => ih (.zQ t at_) r h
    have ih_ref07List_L2 := fun t at_ out r h => ih (.yF t at_ out) r h
    intro r h
    replace h : uE (fun t at_ => g (zJ.zQ t at_)) (fun t at_ out => g (zJ.yF t at_ out)) t at_ out = some r := h
    unfold uE at h
    refine z2j 1000 (z8l _ _ _ _ t at_ out) ?_
    obtain ⟨q1, g, h⟩ := zB h
    refine ⟨_, _, _, _, _, _, _, _, ⟨_, ih_ref07Expr _ _ _ g⟩, ?_⟩
    rintro _ rfl
    refine vG beq_iff_eq h (fun _ h => ?_) (fun _ h => ?_)
    ·
      refine ⟨by simp [vE, D.cells], ?_⟩
      refine ⟨by first | rfl | decide | simp only [List.length_map, List.length_cons, List.length_nil, List.map_append, List.length_append], ?_⟩
      obtain ⟨hP, h⟩ := vN h
      refine ⟨by first | exact hP | simpa using hP, ?_⟩
      refine z2g (e' := List.map zI.toD (out ++ [q1.T_])) (by first | rfl | simp only [List.map_append, List.map_cons, List.map_nil, List.map_take, List.map_drop, List.map_set, List.map_replicate, List.length_map, zI.toD_eq]) ?_
      obtain ⟨q2, g, h⟩ := zB h
      refine ⟨_, ⟨_, vK _ _ _ _ g⟩, ?_⟩
      refine vG Iff.rfl h (fun _ h => ?_) (fun _ h => ?_)
      ·
        rintro _ rfl
        exact ih_ref07List_L2 _ _ _ _ h
      cases h; exact ⟨rfl, rfl⟩
    cases h; exact ⟨rfl, rfl⟩
theorem z6M (t : List zC) (at_ : Int) (r : zH) (h : zQ t at_ = some r) : z6G (.zQ t at_) r := y1q (.zQ t at_) r h
def z4N : (i : z1n) → z2w i → Prop
  | .vD n, r => Trip Try.prog 20 [(nI n)] [] [(nS r)] []
theorem z8R : ∀ i r, z0m z1l i = some r → z4N i r := by
  refine vS z4L fun g ih i => ?_
  cases i with
  | vD n =>
    have ih_ref05Digits := fun n r h => ih (.vD n) r h
    intro r h
    replace h : jR (fun n => g (z1n.vD n)) n = some r := h
    unfold jR at h
    refine yV 1000 (by kernel_rfl) (by kernel_rfl) (by kernel_rfl) (by kernel_rfl) (by kernel_rfl) (z9g _ _ _ _ n) ?_
    rintro _ rfl
    refine zD decide_eq_true_iff h (fun _ h => ?_) (fun _ h => ?_)
    ·
      rintro _ rfl
      refine zD decide_eq_true_iff h (fun _ h => ?_) (fun _ h => ?_)
      ·
        rintro _ rfl
        rintro _ rfl
        obtain ⟨s, hx, h⟩ := zB h
        refine ⟨s, z4J hx, ?_⟩
        obtain ⟨hP, h⟩ := vN h
        refine ⟨by first | exact hP | simpa using hP, ?_⟩
        rintro _ rfl
        cases h; exact ⟨rfl, rfl⟩
      obtain ⟨hP, h⟩ := vN h
      refine ⟨by first | exact hP | simpa using hP, ?_⟩
      rintro _ rfl
      obtain ⟨q1, g, h⟩ := zB h
      refine ⟨_, ⟨_, ih_ref05Digits _ _ g⟩, ?_⟩
      obtain ⟨hP, h⟩ := vN h
      refine ⟨by first | exact hP | simpa using hP, ?_⟩
      rintro _ rfl
      rintro _ rfl
      rintro _ rfl
      obtain ⟨s1, hx, h⟩ := zB h
      refine ⟨s1, z4J hx, ?_⟩
      obtain ⟨hP, h⟩ := vN h
      refine ⟨by first | exact hP | simpa using hP, ?_⟩
      rintro _ rfl
      cases h; exact ⟨rfl, rfl⟩
    rintro _ rfl
    refine zD decide_eq_true_iff h (fun _ h => ?_) (fun _ h => ?_)
    ·
      rintro _ rfl
      rintro _ rfl
      obtain ⟨s2, hx, h⟩ := zB h
      refine ⟨s2, z4J hx, ?_⟩
      cases h; exact ⟨rfl, rfl⟩
    obtain ⟨hP, h⟩ := vN h
    refine ⟨by first | exact hP | simpa using hP, ?_⟩
    rintro _ rfl
    obtain ⟨q2, g, h⟩ := zB h
    refine ⟨_, ⟨_, ih_ref05Digits _ _ g⟩, ?_⟩
    obtain ⟨hP, h⟩ := vN h
    refine ⟨by first | exact hP | simpa using hP, ?_⟩
    rintro _ rfl
    rintro _ rfl
    rintro _ rfl
    obtain ⟨s3, hx, h⟩ := zB h
    refine ⟨s3, z4J hx, ?_⟩
    obtain ⟨hP, h⟩ := vN h
    refine ⟨by first | exact hP | simpa using hP, ?_⟩
    rintro _ rfl
    cases h; exact ⟨rfl, rfl⟩
theorem z8T (n : Int) (r : Str) (h : vD n = some r) : z4N (.vD n) r := z8R (.vD n) r h
def z3a : (i : wP) → z1E i → Prop
  | .yD level t, r => Ok (z1a (Trip Try.prog) [(nI r)] []) (kL Try.f21 6) ⟨36, [(1, .ref 1 1 0), (3, (nI level))], [(1, 1, some (.agg (gT t.K t.N t.S (List.map zI.toD t.L) t.From t.To)))], [], 0⟩
  | .zV level ops i t, r => Ok (z1a (Trip Try.prog) [(nI r)] []) (kL Try.f21 10) ⟨36, [(1, .ref 1 1 0), (3, (nI level)), (5, .d (.sl (List.map (D.int .i64) ops))), (6, (nI i))], [(1, 1, some (.agg (gT t.K t.N t.S (List.map zI.toD t.L) t.From t.To)))], [], 0⟩
theorem z6E : ∀ i r, z0m jJ i = some r → z3a i r := by
  refine vS z1x fun g ih i => ?_
  cases i with
  | yD level t =>
    have ih_ref10Binds_L10 := fun level ops i t r h => ih (.zV level ops i t) r h
    intro r h
    replace h : jM (fun level ops i t => g (wP.zV level ops i t)) level t = some r := h
    unfold jM at h
    refine z2j 1000 (z7n _ _ _ _ level t) ?_
    rintro _ rfl
    refine zD decide_eq_true_iff h (fun _ h => ?_) (fun _ h => ?_)
    ·
      obtain ⟨q1, g, h⟩ := zB h
      refine ⟨_, _, ⟨_, z5v _ _ g⟩, ?_⟩
      exact ih_ref10Binds_L10 _ _ _ _ _ h
    cases h; exact ⟨rfl, rfl⟩
  | zV level ops i t =>
    have ih_ref10Binds_L6 := fun level t r h => ih (.yD level t) r h
    have ih_ref10Binds_L10 := fun level ops i t r h => ih (.zV level ops i t) r h
    intro r h
    replace h : wW (fun level t => g (wP.yD level t)) (fun level ops i t => g (wP.zV level ops i t)) level ops i t = some r := h
    unfold wW at h
    refine z2j 1000 (z6o _ _ _ _ level ops i t) ?_
    refine z2g (e' := (List.length ops : Int)) (by first | rfl | rw [List.length_map]) ?_
    rintro _ rfl
    refine zD decide_eq_true_iff h (fun _ h => ?_) (fun _ h => ?_)
    ·
      obtain ⟨x, hx, h⟩ := zB h
      refine ⟨jE (l := ops) (fun _ => rfl), z2V hx, x, z0T rfl hx, ?_⟩
      rintro _ rfl
      refine zD beq_iff_eq h (fun _ h => ?_) (fun _ h => ?_)
      ·
        cases h; exact ⟨rfl, rfl⟩
      rintro _ rfl
      exact ih_ref10Binds_L10 _ _ _ _ _ h
    rintro _ rfl
    exact ih_ref10Binds_L6 _ _ _ h
theorem z6N (level : Int) (t : zI) (r : Int) (h : yD level t = some r) : z3a (.yD level t) r := z6E (.yD level t) r h
theorem z5X (t : zI) (r : Int) (h : z0q t = some r) : Trip Try.prog 21 [.d (gT t.K t.N t.S (List.map zI.toD t.L) t.From t.To)] [] [(nI r)] [] := by
  unfold z0q at h
  refine yV 1000 (by kernel_rfl) (by kernel_rfl) (by kernel_rfl) (by kernel_rfl) (by kernel_rfl) (y0J _ _ _ _ t) ?_
  rintro _ rfl
  refine zD beq_iff_eq h (fun _ h => ?_) (fun _ h => ?_)
  ·
    cases h; exact ⟨rfl, rfl⟩
  rintro _ rfl
  refine vG beq_iff_eq h (fun _ h => ?_) (fun _ h => ?_)
  ·
    exact z6N _ _ _ h
  cases h; exact ⟨rfl, rfl⟩
def z4b : (i : uB) → z2d i → Prop
  | .yL op level, r => Ok (z1H (Trip Try.prog) [(nS r)] []) (kL Try.f23 2) ⟨32, [(0, (nI op)), (3, (nI level))], [], [], 0⟩
  | .yQ op level signs ops i, r => Ok (z1H (Trip Try.prog) [(nS r)] []) (kL Try.f23 6) ⟨32, [(0, (nI op)), (3, (nI level)), (4, .d (.sl (List.map D.str signs))), (5, .d (.sl (List.map (D.int .i64) ops))), (6, (nI i))], [], [], 0⟩
theorem z8a : ∀ i r, z0m jU i = some r → z4b i r := by
  refine vS z1Z fun g ih i => ?_
  cases i with
  | yL op level =>
    have ih_ref10Sign_L6 := fun op level signs ops i r h => ih (.yQ op level signs ops i) r h
    intro r h
    replace h : jV (fun op level signs ops i => g (uB.yQ op level signs ops i)) op level = some r := h
    unfold jV at h
    refine z2j 1000 (z8o _ _ _ _ op level) ?_
    rintro _ rfl
    refine zD decide_eq_true_iff h (fun _ h => ?_) (fun _ h => ?_)
    ·
      obtain ⟨q1, g, h⟩ := zB h
      refine ⟨_, _, ⟨_, z5v _ _ g⟩, ?_⟩
      exact ih_ref10Sign_L6 _ _ _ _ _ _ h
    cases h; exact ⟨rfl, rfl⟩
  | yQ op level signs ops i =>
    have ih_ref10Sign_L2 := fun op level r h => ih (.yL op level) r h
    have ih_ref10Sign_L6 := fun op level signs ops i r h => ih (.yQ op level signs ops i) r h
    intro r h
    replace h : jC (fun op level => g (uB.yL op level)) (fun op level signs ops i => g (uB.yQ op level signs ops i)) op level signs ops i = some r := h
    unfold jC at h
    refine z2j 1000 (z8p _ _ _ _ op level signs ops i) ?_
    refine z2g (e' := (List.length ops : Int)) (by first | rfl | rw [List.length_map]) ?_
    rintro _ rfl
    refine zD decide_eq_true_iff h (fun _ h => ?_) (fun _ h => ?_)
    ·
      obtain ⟨x, hx, h⟩ := zB h
      refine ⟨jE (l := ops) (fun _ => rfl), z2V hx, x, z0T rfl hx, ?_⟩
      rintro _ rfl
      refine zD beq_iff_eq h (fun _ h => ?_) (fun _ h => ?_)
      ·
        obtain ⟨x1, hx, h⟩ := zB h
        refine ⟨jE (l := signs) (fun _ => rfl), z2V hx, x1, z0T rfl hx, ?_⟩
        cases h; exact ⟨rfl, rfl⟩
      rintro _ rfl
      exact ih_ref10Sign_L6 _ _ _ _ _ _ h
    rintro _ rfl
    exact ih_ref10Sign_L2 _ _ _ h
theorem z8e (op level : Int) (r : Str) (h : yL op level = some r) : z4b (.yL op level) r := z8a (.yL op level) r h
theorem z6O (op : Int) (r : Str) (h : z2p op = some r) : Trip Try.prog 23 [(nI op)] [] [(nS r)] [] := by
  unfold z2p at h
  refine yV 1000 (by kernel_rfl) (by kernel_rfl) (by kernel_rfl) (by kernel_rfl) (by kernel_rfl) (y1R _ _ _ _ op) ?_
  exact z8e _ _ _ h
def z6H : (i : vX) → z4o i → Prop
  | .yH t, r => Trip Try.prog 9 [.d (gT t.K t.N t.S (List.map zI.toD t.L) t.From t.To)] [] [(nS r)] []
  | .vC t least, r => Trip Try.prog 22 [.d (gT t.K t.N t.S (List.map zI.toD t.L) t.From t.To), (nI least)] [] [(nS r)] []
  | .wD l first last, r => Trip Try.prog 24 [.d (.sl (List.map zI.toD l)), (nS first), (nS last)] [] [(nS r)] []
  | .zX l last out i, r => Ok (z4z (Trip Try.prog) [(nS r)] []) (kL Try.f24 3) ⟨32, [(0, .d (.sl (List.map zI.toD l))), (2, (nS last)), (7, (nS out)), (8, (nI i))], [], [], 0⟩
theorem y1r : ∀ i r, z0m uT i = some r → z6H i r := by
  refine vS z1y fun g ih i => ?_
  cases i with
  | yH t =>
    have ih_ref10Expr := fun t r h => ih (.yH t) r h
    have ih_ref10Round := fun t least r h => ih (.vC t least) r h
    have ih_ref10List := fun l first last r h => ih (.wD l first last) r h
    intro r h
    replace h : vR (fun t => g (vX.yH t)) (fun t least => g (vX.vC t least)) (fun l first last => g (vX.wD l first last)) t = some r := h
    unfold vR at h
    refine yV 1000 (by kernel_rfl) (by kernel_rfl) (by kernel_rfl) (by kernel_rfl) (by kernel_rfl) (y1P _ _ _ _ t) ?_
    rintro _ rfl
    refine zD beq_iff_eq h (fun _ h => ?_) (fun _ h => ?_)
    ·
      obtain ⟨q1, g, h⟩ := zB h
      refine ⟨_, ⟨_, z8T _ _ g⟩, ?_⟩
      cases h; exact ⟨rfl, rfl⟩
    rintro _ rfl
    refine zD beq_iff_eq h (fun hc168 h => ?_) (fun hc168 h => ?_)
    ·
      rintro _ rfl
      refine zD beq_iff_eq h (fun _ h => ?_) (fun _ h => ?_)
      ·
        cases h; exact ⟨rfl, rfl⟩
      rintro _ rfl
      refine z9S beq_iff_eq hc168 ?_
      cases h; exact ⟨rfl, rfl⟩
    rintro _ rfl
    refine z9R beq_iff_eq hc168 ?_
    rintro _ rfl
    refine zD beq_iff_eq h (fun _ h => ?_) (fun _ h => ?_)
    ·
      cases h; exact ⟨rfl, rfl⟩
    rintro _ rfl
    refine zD beq_iff_eq h (fun _ h => ?_) (fun _ h => ?_)
    ·
      cases h; exact ⟨rfl, rfl⟩
    rintro _ rfl
    refine zD beq_iff_eq h (fun _ h => ?_) (fun _ h => ?_)
    ·
      obtain ⟨q26, g, h⟩ := zB h
      refine ⟨_, ⟨_, z5X _ _ g⟩, ?_⟩
      rintro _ rfl
      refine zD beq_iff_eq h (fun _ h => ?_) (fun _ h => ?_)
      ·
        obtain ⟨x13, hx, h⟩ := zB h
        refine ⟨jE (l := t.L) (zI.sz), z2V hx, x13.K, x13.N, x13.S, List.map zI.toD x13.L, x13.From, x13.To, z0T (zI.toD_eq x13) hx, ?_⟩
        obtain ⟨q27, g, h⟩ := zB h
        refine ⟨_, ⟨_, ih_ref10Round _ _ _ g⟩, ?_⟩
        obtain ⟨hP, h⟩ := vN h
        refine ⟨by first | exact hP | simpa using hP, ?_⟩
        rintro _ rfl
        obtain ⟨q28, g, h⟩ := zB h
        refine ⟨_, ⟨_, z6O _ _ g⟩, ?_⟩
        obtain ⟨hP, h⟩ := vN h
        refine ⟨by first | exact hP | simpa using hP, ?_⟩
        rintro _ rfl
        obtain ⟨hP, h⟩ := vN h
        refine ⟨by first | exact hP | simpa using hP, ?_⟩
        rintro _ rfl
        obtain ⟨x14, hx, h⟩ := zB h
        refine ⟨jE (l := t.L) (zI.sz), z2V hx, x14.K, x14.N, x14.S, List.map zI.toD x14.L, x14.From, x14.To, z0T (zI.toD_eq x14) hx, ?_⟩
        rintro _ rfl
        obtain ⟨q29, g, h⟩ := zB h
        refine ⟨_, ⟨_, ih_ref10Round _ _ _ g⟩, ?_⟩
        obtain ⟨hP, h⟩ := vN h
        refine ⟨by first | exact hP | simpa using hP, ?_⟩
        rintro _ rfl
        cases h; exact ⟨rfl, rfl⟩
      obtain ⟨x15, hx, h⟩ := zB h
      refine ⟨jE (l := t.L) (zI.sz), z2V hx, x15.K, x15.N, x15.S, List.map zI.toD x15.L, x15.From, x15.To, z0T (zI.toD_eq x15) hx, ?_⟩
      obtain ⟨q30, g, h⟩ := zB h
      refine ⟨_, ⟨_, ih_ref10Round _ _ _ g⟩, ?_⟩
      obtain ⟨hP, h⟩ := vN h
      refine ⟨by first | exact hP | simpa using hP, ?_⟩
      rintro _ rfl
      obtain ⟨q31, g, h⟩ := zB h
      refine ⟨_, ⟨_, z6O _ _ g⟩, ?_⟩
      obtain ⟨hP, h⟩ := vN h
      refine ⟨by first | exact hP | simpa using hP, ?_⟩
      rintro _ rfl
      obtain ⟨hP, h⟩ := vN h
      refine ⟨by first | exact hP | simpa using hP, ?_⟩
      rintro _ rfl
      obtain ⟨x16, hx, h⟩ := zB h
      refine ⟨jE (l := t.L) (zI.sz), z2V hx, x16.K, x16.N, x16.S, List.map zI.toD x16.L, x16.From, x16.To, z0T (zI.toD_eq x16) hx, ?_⟩
      rintro _ rfl
      obtain ⟨q32, g, h⟩ := zB h
      refine ⟨_, ⟨_, ih_ref10Round _ _ _ g⟩, ?_⟩
      obtain ⟨hP, h⟩ := vN h
      refine ⟨by first | exact hP | simpa using hP, ?_⟩
      rintro _ rfl
      cases h; exact ⟨rfl, rfl⟩
    rintro _ rfl
    refine zD beq_iff_eq h (fun hc174 h => ?_) (fun hc174 h => ?_)
    ·
      rintro _ rfl
      refine zD beq_iff_eq h (fun _ h => ?_) (fun _ h => ?_)
      ·
        obtain ⟨x17, hx, h⟩ := zB h
        refine ⟨jE (l := t.L) (zI.sz), z2V hx, x17.K, x17.N, x17.S, List.map zI.toD x17.L, x17.From, x17.To, z0T (zI.toD_eq x17) hx, ?_⟩
        obtain ⟨q33, g, h⟩ := zB h
        refine ⟨_, ⟨_, ih_ref10Round _ _ _ g⟩, ?_⟩
        obtain ⟨hP, h⟩ := vN h
        refine ⟨by first | exact hP | simpa using hP, ?_⟩
        rintro _ rfl
        cases h; exact ⟨rfl, rfl⟩
      rintro _ rfl
      refine z9S beq_iff_eq hc174 ?_
      obtain ⟨x18, hx, h⟩ := zB h
      refine ⟨jE (l := t.L) (zI.sz), z2V hx, x18.K, x18.N, x18.S, List.map zI.toD x18.L, x18.From, x18.To, z0T (zI.toD_eq x18) hx, ?_⟩
      obtain ⟨q34, g, h⟩ := zB h
      refine ⟨_, ⟨_, ih_ref10Round _ _ _ g⟩, ?_⟩
      obtain ⟨hP, h⟩ := vN h
      refine ⟨by first | exact hP | simpa using hP, ?_⟩
      rintro _ rfl
      cases h; exact ⟨rfl, rfl⟩
    rintro _ rfl
    refine z9R beq_iff_eq hc174 ?_
    rintro _ rfl
    refine zD beq_iff_eq h (fun _ h => ?_) (fun _ h => ?_)
    ·
      obtain ⟨x23, hx, h⟩ := zB h
      refine ⟨jE (l := t.L) (zI.sz), z2V hx, x23.K, x23.N, x23.S, List.map zI.toD x23.L, x23.From, x23.To, z0T (zI.toD_eq x23) hx, ?_⟩
      obtain ⟨q43, g, h⟩ := zB h
      refine ⟨_, ⟨_, ih_ref10Round _ _ _ g⟩, ?_⟩
      obtain ⟨hP, h⟩ := vN h
      refine ⟨by first | exact hP | simpa using hP, ?_⟩
      rintro _ rfl
      obtain ⟨x24, hx, h⟩ := zB h
      refine ⟨jE (l := t.L) (zI.sz), z2V hx, x24.K, x24.N, x24.S, List.map zI.toD x24.L, x24.From, x24.To, z0T (zI.toD_eq x24) hx, ?_⟩
      obtain ⟨q44, g, h⟩ := zB h
      refine ⟨_, ⟨_, ih_ref10Expr _ _ g⟩, ?_⟩
      obtain ⟨hP, h⟩ := vN h
      refine ⟨by first | exact hP | simpa using hP, ?_⟩
      rintro _ rfl
      obtain ⟨hP, h⟩ := vN h
      refine ⟨by first | exact hP | simpa using hP, ?_⟩
      rintro _ rfl
      cases h; exact ⟨rfl, rfl⟩
    rintro _ rfl
    refine zD beq_iff_eq h (fun _ h => ?_) (fun _ h => ?_)
    ·
      obtain ⟨x25, hx, h⟩ := zB h
      refine ⟨jE (l := t.L) (zI.sz), z2V hx, x25.K, x25.N, x25.S, List.map zI.toD x25.L, x25.From, x25.To, z0T (zI.toD_eq x25) hx, ?_⟩
      obtain ⟨q45, g, h⟩ := zB h
      refine ⟨_, ⟨_, ih_ref10Round _ _ _ g⟩, ?_⟩
      obtain ⟨hP, h⟩ := vN h
      refine ⟨by first | exact hP | simpa using hP, ?_⟩
      rintro _ rfl
      obtain ⟨hP, h⟩ := vN h
      refine ⟨by first | exact hP | simpa using hP, ?_⟩
      rintro _ rfl
      cases h; exact ⟨rfl, rfl⟩
    rintro _ rfl
    refine zD beq_iff_eq h (fun _ h => ?_) (fun _ h => ?_)
    ·
      obtain ⟨q46, g, h⟩ := zB h
      refine ⟨_, ⟨_, ih_ref10List _ _ _ _ g⟩, ?_⟩
      cases h; exact ⟨rfl, rfl⟩
    rintro _ rfl
    refine zD beq_iff_eq h (fun _ h => ?_) (fun _ h => ?_)
    ·
      obtain ⟨hP, h⟩ := vN h
      refine ⟨by first | exact hP | simpa using hP, ?_⟩
      rintro _ rfl
      obtain ⟨hP, h⟩ := vN h
      refine ⟨by first | exact hP | simpa using hP, ?_⟩
      rintro _ rfl
      obtain ⟨q47, g, h⟩ := zB h
      refine ⟨_, ⟨_, ih_ref10List _ _ _ _ g⟩, ?_⟩
      obtain ⟨hP, h⟩ := vN h
      refine ⟨by first | exact hP | simpa using hP, ?_⟩
      rintro _ rfl
      cases h; exact ⟨rfl, rfl⟩
    rintro _ rfl
    refine zD beq_iff_eq h (fun _ h => ?_) (fun _ h => ?_)
    ·
      obtain ⟨hP, h⟩ := vN h
      refine ⟨by first | exact hP | simpa using hP, ?_⟩
      rintro _ rfl
      obtain ⟨hP, h⟩ := vN h
      refine ⟨by first | exact hP | simpa using hP, ?_⟩
      rintro _ rfl
      obtain ⟨q48, g, h⟩ := zB h
      refine ⟨_, ⟨_, ih_ref10List _ _ _ _ g⟩, ?_⟩
      obtain ⟨hP, h⟩ := vN h
      refine ⟨by first | exact hP | simpa using hP, ?_⟩
      rintro _ rfl
      cases h; exact ⟨rfl, rfl⟩
    obtain ⟨hP, h⟩ := vN h
    refine ⟨by first | exact hP | simpa using hP, ?_⟩
    rintro _ rfl
    obtain ⟨q49, g, h⟩ := zB h
    refine ⟨_, ⟨_, ih_ref10List _ _ _ _ g⟩, ?_⟩
    obtain ⟨hP, h⟩ := vN h
    refine ⟨by first | exact hP | simpa using hP, ?_⟩
    rintro _ rfl
    cases h; exact ⟨rfl, rfl⟩
  | vC t least =>
    have ih_ref10Expr := fun t r h => ih (.yH t) r h
    intro r h
    replace h : z0r (fun t => g (vX.yH t)) t least = some r := h
    unfold z0r at h
    refine yV 1000 (by kernel_rfl) (by kernel_rfl) (by kernel_rfl) (by kernel_rfl) (by kernel_rfl) (y0K _ _ _ _ t least) ?_
    obtain ⟨q1, g, h⟩ := zB h
    refine ⟨_, ⟨_, z5X _ _ g⟩, ?_⟩
    rintro _ rfl
    refine zD decide_eq_true_iff h (fun _ h => ?_) (fun _ h => ?_)
    ·
      obtain ⟨q2, g, h⟩ := zB h
      refine ⟨_, ⟨_, ih_ref10Expr _ _ g⟩, ?_⟩
      obtain ⟨hP, h⟩ := vN h
      refine ⟨by first | exact hP | simpa using hP, ?_⟩
      rintro _ rfl
      obtain ⟨hP, h⟩ := vN h
      refine ⟨by first | exact hP | simpa using hP, ?_⟩
      rintro _ rfl
      cases h; exact ⟨rfl, rfl⟩
    obtain ⟨q3, g, h⟩ := zB h
    refine ⟨_, ⟨_, ih_ref10Expr _ _ g⟩, ?_⟩
    cases h; exact ⟨rfl, rfl⟩
  | wD l first last =>
    have ih_ref10List_L3 := fun l last out i r h => ih (.zX l last out i) r h
    intro r h
    replace h : z0k (fun l last out i => g (vX.zX l last out i)) l first last = some r := h
    unfold z0k at h
    refine yV 1000 (by kernel_rfl) (by kernel_rfl) (by kernel_rfl) (by kernel_rfl) (by kernel_rfl) (y1Q _ _ _ _ l first last) ?_
    exact ih_ref10List_L3 _ _ _ _ _ h
  | zX l last out i =>
    have ih_ref10Expr := fun t r h => ih (.yH t) r h
    have ih_ref10List_L3 := fun l last out i r h => ih (.zX l last out i) r h
    intro r h
    replace h : jB (fun t => g (vX.yH t)) (fun l last out i => g (vX.zX l last out i)) l last out i = some r := h
    unfold jB at h
    refine z2j 1000 (z8n _ _ _ _ l last out i) ?_
    refine z2g (e' := (List.length l : Int)) (by first | rfl | rw [List.length_map]) ?_
    rintro _ rfl
    refine zD decide_eq_true_iff h (fun _ h => ?_) (fun _ h => ?_)
    ·
      rintro _ rfl
      refine zD decide_eq_true_iff h (fun _ h => ?_) (fun _ h => ?_)
      ·
        obtain ⟨hP, h⟩ := vN h
        refine ⟨by first | exact hP | simpa using hP, ?_⟩
        rintro _ rfl
        obtain ⟨hP, h⟩ := vN h
        refine ⟨by first | exact hP | simpa using hP, ?_⟩
        rintro _ rfl
        obtain ⟨x, hx, h⟩ := zB h
        refine ⟨jE (l := l) (zI.sz), z2V hx, x.K, x.N, x.S, List.map zI.toD x.L, x.From, x.To, z0T (zI.toD_eq x) hx, ?_⟩
        obtain ⟨q1, g, h⟩ := zB h
        refine ⟨_, ⟨_, ih_ref10Expr _ _ g⟩, ?_⟩
        obtain ⟨hP, h⟩ := vN h
        refine ⟨by first | exact hP | simpa using hP, ?_⟩
        rintro _ rfl
        rintro _ rfl
        exact ih_ref10List_L3 _ _ _ _ _ h
      obtain ⟨hP, h⟩ := vN h
      refine ⟨by first | exact hP | simpa using hP, ?_⟩
      rintro _ rfl
      obtain ⟨x1, hx, h⟩ := zB h
      refine ⟨jE (l := l) (zI.sz), z2V hx, x1.K, x1.N, x1.S, List.map zI.toD x1.L, x1.From, x1.To, z0T (zI.toD_eq x1) hx, ?_⟩
      obtain ⟨q2, g, h⟩ := zB h
      refine ⟨_, ⟨_, ih_ref10Expr _ _ g⟩, ?_⟩
      obtain ⟨hP, h⟩ := vN h
      refine ⟨by first | exact hP | simpa using hP, ?_⟩
      rintro _ rfl
      rintro _ rfl
      exact ih_ref10List_L3 _ _ _ _ _ h
    obtain ⟨hP, h⟩ := vN h
    refine ⟨by first | exact hP | simpa using hP, ?_⟩
    rintro _ rfl
    obtain ⟨hP, h⟩ := vN h
    refine ⟨by first | exact hP | simpa using hP, ?_⟩
    rintro _ rfl
    cases h; exact ⟨rfl, rfl⟩
theorem y1t (t : zI) (r : Str) (h : yH t = some r) : z6H (.yH t) r := y1r (.yH t) r h
theorem z5u (text : Str) (r : Bool) (h : z0z text = some r) : Trip Try.prog 3 [(nS text)] [] [(nB r)] [] := by
  unfold z0z at h
  refine yV 1000 (by kernel_rfl) (by kernel_rfl) (by kernel_rfl) (by kernel_rfl) (by kernel_rfl) (z5B _ _ _ _ text) ?_
  rintro _ rfl
  rintro _ rfl
  refine zD decide_eq_true_iff h (fun _ h => ?_) (fun _ h => ?_)
  ·
    obtain ⟨q1, g, h⟩ := zB h
    refine ⟨_, ⟨_, z1Q _ g⟩, ?_⟩
    cases h; exact ⟨rfl, rfl⟩
  obtain ⟨q2, g, h⟩ := zB h
  refine ⟨_, _, _, ⟨_, z4S _ _ g⟩, ?_⟩
  rintro _ rfl
  refine vG beq_iff_eq h (fun _ h => ?_) (fun _ h => ?_)
  ·
    obtain ⟨q4, g, h⟩ := zB h
    refine ⟨_, _, _, _, _, _, _, _, ⟨_, z6M _ _ _ g⟩, ?_⟩
    rintro _ rfl
    refine vG beq_iff_eq h (fun _ h => ?_) (fun _ h => ?_)
    ·
      obtain ⟨q6, g, h⟩ := zB h
      refine ⟨_, ⟨_, z9W _ _ g⟩, ?_⟩
      obtain ⟨q7, g, h⟩ := zB h
      refine ⟨_, ⟨_, y1t _ _ g⟩, ?_⟩
      rintro _ rfl
      refine vG beq_iff_eq h (fun _ h => ?_) (fun _ h => ?_)
      ·
        obtain ⟨q8, g, h⟩ := zB h
        refine ⟨_, _, _, ⟨_, z4S _ _ g⟩, ?_⟩
        rintro _ rfl
        refine vG beq_iff_eq h (fun _ h => ?_) (fun _ h => ?_)
        ·
          obtain ⟨q9, g, h⟩ := zB h
          refine ⟨_, _, _, _, _, _, _, _, ⟨_, z6M _ _ _ g⟩, ?_⟩
          rintro _ rfl
          refine zD beq_iff_eq h (fun _ h => ?_) (fun _ h => ?_)
          ·
            refine z2g (e' := (List.length q8.1 : Int)) (by first | rfl | rw [List.length_map]) ?_
            rintro _ rfl
            rintro _ rfl
            refine zD beq_iff_eq h (fun _ h => ?_) (fun _ h => ?_)
            ·
              obtain ⟨q10, g, h⟩ := zB h
              refine ⟨_, ⟨_, y1s _ _ _ g⟩, ?_⟩
              refine zD Iff.rfl h (fun _ h => ?_) (fun _ h => ?_)
              ·
                obtain ⟨q11, g, h⟩ := zB h
                refine ⟨_, ⟨_, z1Q _ g⟩, ?_⟩
                cases h; exact ⟨rfl, rfl⟩
              cases h; exact ⟨rfl, rfl⟩
            cases h; exact ⟨rfl, rfl⟩
          cases h; exact ⟨rfl, rfl⟩
        cases h; exact ⟨rfl, rfl⟩
      cases h; exact ⟨rfl, rfl⟩
    obtain ⟨q5, g, h⟩ := zB h
    refine ⟨_, ⟨_, z1Q _ g⟩, ?_⟩
    cases h; exact ⟨rfl, rfl⟩
  obtain ⟨q3, g, h⟩ := zB h
  refine ⟨_, ⟨_, z1Q _ g⟩, ?_⟩
  cases h; exact ⟨rfl, rfl⟩
end Go.Proofs.Ythbhgdooeeapjaa.M

