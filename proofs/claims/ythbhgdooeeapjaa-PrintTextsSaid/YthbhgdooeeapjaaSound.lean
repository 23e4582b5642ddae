import Derived.Test.YthbhgdooeeapjaaMod
import Derived.Test.YthbhgdooeeapjaaEv
import Derived.Test.YthbhgdooeeapjaaLay
namespace Go.Proofs.Ythbhgdooeeapjaa.M
open Go Nt Go.Proofs
set_option linter.unusedVariables false
set_option linter.unusedSimpArgs false
set_option linter.unnecessarySimpa false
set_option maxRecDepth 100000
def z5N : (i : z2t) → z3Q i → Prop
  | .vN n i u b, r => Ok (z6d (Trip Try.prog) [(nS r)] []) (kL Try.f45 6) ⟨33, [(0, (nI n)), (3, .ref 3 1 0), (4, (nI i)), (5, .d (.int .u64 u))], [(3, 1, some (.row 1 (List.map (D.int .u8) b)))], [], 0⟩
theorem y0H : ∀ i r, gV z2p i = some r → z5N i r := by
  refine yU z5I fun g ih i => ?_
  cases i with
  | vN n i u b =>
    have ih_lex_Digits_L6 := fun n i u b r h => ih (.vN n i u b) r h
    intro r h
    replace h : z0G (fun n i u b => g (z2t.vN n i u b)) n i u b = some r := h
    unfold z0G at h
    refine z1F 1000 (y1p _ _ _ _ n i u b) ?_
    rintro _ rfl
    obtain ⟨hP, h⟩ := zY h
    refine ⟨by first | exact hP | simpa using hP, ?_⟩
    rintro _ rfl
    rintro _ rfl
    rintro _ rfl
    obtain ⟨hP, h⟩ := zY h
    refine ⟨by first | exact hP.1 | (simp only [List.length_map] at hP ⊢; exact hP.1), by first | exact hP.2.1 | (simp only [List.length_map] at hP ⊢; exact hP.2.1), by first | exact hP.2.2 | (simp only [List.length_map] at hP ⊢; exact hP.2.2), ?_⟩
    obtain ⟨hP, h⟩ := zY h
    refine ⟨by first | exact hP | (rw [List.length_map]; exact hP), ?_⟩
    refine z0Z (e' := List.map (D.int .u8) (b.set (Int.toNat (IntKind.wrap .i64 (i - 1))) (IntKind.wrap .u8 (IntKind.wrap .u64 (48 + (Int.tmod u 10)))))) (v3G rfl) ?_
    obtain ⟨hP, h⟩ := zY h
    refine ⟨by first | exact hP | simpa using hP, ?_⟩
    rintro _ rfl
    rintro _ rfl
    refine zE beq_iff_eq h (fun _ h => ?_) (fun _ h => ?_)
    ·
      rintro _ rfl
      refine zE decide_eq_true_iff h (fun _ h => ?_) (fun _ h => ?_)
      ·
        rintro _ rfl
        obtain ⟨hP, h⟩ := zY h
        refine ⟨by first | exact hP.1 | (simp only [List.length_map] at hP ⊢; exact hP.1), by first | exact hP.2.1 | (simp only [List.length_map] at hP ⊢; exact hP.2.1), by first | exact hP.2.2 | (simp only [List.length_map] at hP ⊢; exact hP.2.2), ?_⟩
        obtain ⟨hP, h⟩ := zY h
        refine ⟨by first | exact hP | (rw [List.length_map]; exact hP), ?_⟩
        refine z0Z (e' := List.map (D.int .u8) ((b.set (IntKind.wrap .i64 (i - 1)).toNat (IntKind.wrap .u8 (IntKind.wrap .u64 (48 + (Int.tmod u 10))))).set (Int.toNat (IntKind.wrap .i64 ((IntKind.wrap .i64 (i - 1)) - 1))) 45)) (v3G rfl) ?_
        obtain ⟨hP, h⟩ := zY h
        refine ⟨by first | exact hP | simpa using hP, ?_⟩
        obtain ⟨hP, h⟩ := zY h
        refine ⟨by first | exact hP | simpa using hP, ?_⟩
        obtain ⟨hP, h⟩ := zY h
        refine ⟨by first | exact hP | simpa using hP, ?_⟩
        refine z0Z (e' := List.map (D.int .u8) (List.drop (Int.toNat (IntKind.wrap .i64 ((IntKind.wrap .i64 (i - 1)) - 1))) ((b.set (IntKind.wrap .i64 (i - 1)).toNat (IntKind.wrap .u8 (IntKind.wrap .u64 (48 + (Int.tmod u 10))))).set (IntKind.wrap .i64 ((IntKind.wrap .i64 (i - 1)) - 1)).toNat 45))) (by first | rfl | simp only [List.map_append, List.map_cons, List.map_nil, List.map_take, List.map_drop, List.map_set, List.map_replicate, List.length_map]) ?_
        obtain ⟨s, hx, h⟩ := zB h
        refine ⟨s, z8l hx, ?_⟩
        cases h; exact ⟨rfl, rfl⟩
      obtain ⟨hP, h⟩ := zY h
      refine ⟨by first | exact hP | simpa using hP, ?_⟩
      obtain ⟨hP, h⟩ := zY h
      refine ⟨by first | exact hP | simpa using hP, ?_⟩
      obtain ⟨hP, h⟩ := zY h
      refine ⟨by first | exact hP | simpa using hP, ?_⟩
      refine z0Z (e' := List.map (D.int .u8) (List.drop (Int.toNat (IntKind.wrap .i64 (i - 1))) (b.set (IntKind.wrap .i64 (i - 1)).toNat (IntKind.wrap .u8 (IntKind.wrap .u64 (48 + (Int.tmod u 10))))))) (by first | rfl | simp only [List.map_append, List.map_cons, List.map_nil, List.map_take, List.map_drop, List.map_set, List.map_replicate, List.length_map]) ?_
      obtain ⟨s1, hx, h⟩ := zB h
      refine ⟨s1, z8l hx, ?_⟩
      cases h; exact ⟨rfl, rfl⟩
    exact ih_lex_Digits_L6 _ _ _ _ _ h
theorem z5X (n i u : Int) (b : List Int) (r : Str) (h : vN n i u b = some r) : z5N (.vN n i u b) r := y0H (.vN n i u b) r h
theorem z9K (n : Int) (r : Str) (h : z3H n = some r) : Trip Try.prog 45 [(nI n)] [] [(nS r)] [] := by
  unfold z3H at h
  refine yF 1000 (by kernel_rfl) (by kernel_rfl) (by kernel_rfl) (by kernel_rfl) (by kernel_rfl) (y5i _ _ _ _ n) ?_
  rintro _ rfl
  rintro _ rfl
  refine zE decide_eq_true_iff h (fun _ h => ?_) (fun _ h => ?_)
  ·
    rintro _ rfl
    exact z5X _ _ _ _ _ h
  exact z5X _ _ _ _ _ h
theorem yC (t : zF) (i : Int) (r : zF) (h : zP t i = some r) : Trip Try.prog 48 [.d (gT t.K t.N t.S (List.map zF.toD t.L) t.From t.To), (nI i)] [] [.d (gT r.K r.N r.S (List.map zF.toD r.L) r.From r.To)] [] := by
  unfold zP at h
  refine yF 1000 (by kernel_rfl) (by kernel_rfl) (by kernel_rfl) (by kernel_rfl) (by kernel_rfl) (y5k _ _ _ _ t i) ?_
  refine z0Z (e' := (List.length t.L : Int)) (by first | rfl | rw [List.length_map]) ?_
  rintro _ rfl
  refine zE decide_eq_true_iff h (fun _ h => ?_) (fun _ h => ?_)
  ·
    obtain ⟨x, hx, h⟩ := zB h
    refine ⟨yZ (l := t.L) (zF.sz), z0z hx, x.K, x.N, x.S, List.map zF.toD x.L, x.From, x.To, uC (zF.toD_eq x) hx, ?_⟩
    cases h; exact ⟨rfl, rfl⟩
  cases h; exact ⟨rfl, rfl⟩
theorem zH (words out r : List Str) (h : zI words out = some r) : Trip Try.prog 44 [.hp 0 0, .d (.sl (List.map D.str words))] [[.own 1 (List.map D.str out)]] [] [[.own 1 (List.map D.str r)]] := by
  unfold zI at h
  refine yF 1000 (by kernel_rfl) (by kernel_rfl) (by kernel_rfl) (by kernel_rfl) (by kernel_rfl) (z8D _ _ _ _ words out) ?_
  refine ⟨yZ (l := words) (fun _ => rfl), ?_⟩
  refine ⟨by first | rfl | decide | simp only [List.length_map, List.length_cons, List.length_nil, List.map_append, List.length_append], ?_⟩
  obtain ⟨hP, h⟩ := zY h
  refine ⟨by first | exact hP | simpa using hP, ?_⟩
  refine z0Z (e' := List.map D.str (out ++ words)) (by first | rfl | simp only [List.map_append, List.map_cons, List.map_nil, List.map_take, List.map_drop, List.map_set, List.map_replicate, List.length_map]) ?_
  refine ⟨by first | rfl | decide | simp only [List.length_map, List.length_cons, List.length_nil, List.map_append, List.length_append], ?_⟩
  cases h; exact ⟨rfl, rfl⟩
def z3P : (i : I_print_writer_kind) → z1S i → Prop
  | .print_writer_kind t out, r => Trip Try.prog 32 [.hp 0 0, .d (gT t.K t.N t.S (List.map zF.toD t.L) t.From t.To)] [[.own 1 (List.map D.str out)]] [] [[.own 1 (List.map D.str r)]]
theorem z7C : ∀ i r, gV z0Q i = some r → z3P i r := by
  refine yU z3L fun g ih i => ?_
  cases i with
  | print_writer_kind t out =>
    have ih_print_writer_kind := fun t out r h => ih (.print_writer_kind t out) r h
    intro r h
    replace h : wR (fun t out => g (I_print_writer_kind.print_writer_kind t out)) t out = some r := h
    unfold wR at h
    refine yF 1000 (by kernel_rfl) (by kernel_rfl) (by kernel_rfl) (by kernel_rfl) (by kernel_rfl) (z8a _ _ _ _ t out) ?_
    rintro _ rfl
    refine zE beq_iff_eq h (fun _ h => ?_) (fun _ h => ?_)
    ·
      obtain ⟨q1, g, h⟩ := zB h
      refine ⟨_, zH _ _ _ g, ?_⟩
      cases h; exact ⟨rfl, rfl⟩
    rintro _ rfl
    refine zE beq_iff_eq h (fun _ h => ?_) (fun _ h => ?_)
    ·
      obtain ⟨q2, g, h⟩ := zB h
      refine ⟨_, zH _ _ _ g, ?_⟩
      cases h; exact ⟨rfl, rfl⟩
    rintro _ rfl
    refine zE beq_iff_eq h (fun _ h => ?_) (fun _ h => ?_)
    ·
      obtain ⟨q3, g, h⟩ := zB h
      refine ⟨_, ⟨_, z9K _ _ g⟩, ?_⟩
      obtain ⟨q4, g, h⟩ := zB h
      refine ⟨_, zH _ _ _ g, ?_⟩
      obtain ⟨q5, g, h⟩ := zB h
      refine ⟨_, _, _, _, _, _, ⟨_, yC _ _ _ g⟩, ?_⟩
      obtain ⟨q6, g, h⟩ := zB h
      refine ⟨_, ih_print_writer_kind _ _ _ g, ?_⟩
      cases h; exact ⟨rfl, rfl⟩
    rintro _ rfl
    refine zE beq_iff_eq h (fun _ h => ?_) (fun _ h => ?_)
    ·
      obtain ⟨q7, g, h⟩ := zB h
      refine ⟨_, zH _ _ _ g, ?_⟩
      cases h; exact ⟨rfl, rfl⟩
    cases h; exact ⟨rfl, rfl⟩
theorem z0S (t : zF) (out r : List Str) (h : print_writer_kind t out = some r) : z3P (.print_writer_kind t out) r := z7C (.print_writer_kind t out) r h
theorem y2x (elems : List Str) (sep r : Str) (h : strings_Join elems sep = some r) : Trip Try.prog 50 [.d (.sl (List.map D.str elems)), (nS sep)] [] [(nS r)] [] := by
  unfold strings_Join at h
  obtain ⟨h0, h⟩ := zY h
  cases h
  exact y9P v3S v3K elems sep [] h0.1 h0.2
theorem z3V (out : List Str) (r : Str) (h : gW out = some r) : Trip Try.prog 19 [.hp 0 0] [[.own 1 (List.map D.str out)]] [(nS r)] [[.own 1 (List.map D.str out)]] := by
  unfold gW at h
  refine yF 1000 (by kernel_rfl) (by kernel_rfl) (by kernel_rfl) (by kernel_rfl) (by kernel_rfl) (z8d _ _ _ _ out) ?_
  obtain ⟨q1, g, h⟩ := zB h
  refine ⟨_, ⟨_, y2x _ _ _ g⟩, ?_⟩
  cases h; exact ⟨rfl, rfl⟩
theorem y4D (t : zF) (r : Str) (h : z6V t = some r) : Trip Try.prog 14 [.d (gT t.K t.N t.S (List.map zF.toD t.L) t.From t.To)] [] [(nS r)] [] := by
  unfold z6V at h
  refine yF 1000 (by kernel_rfl) (by kernel_rfl) (by kernel_rfl) (by kernel_rfl) (by kernel_rfl) (y5j _ _ _ _ t) ?_
  obtain ⟨q1, g, h⟩ := zB h
  refine ⟨_, z0S _ _ _ g, ?_⟩
  obtain ⟨q2, g, h⟩ := zB h
  refine ⟨_, z3V _ _ g, ?_⟩
  cases h; exact ⟨rfl, rfl⟩
theorem z5W  (r : Bool) (h : z2N = some r) : Trip Try.prog 5 [] [] [(nB r)] [] := by
  unfold z2N at h
  refine yF 1000 (by kernel_rfl) (by kernel_rfl) (by kernel_rfl) (by kernel_rfl) (by kernel_rfl) (y5h _ _ _ _ ) ?_
  obtain ⟨q1, g, h⟩ := zB h
  refine ⟨_, ⟨_, y4D _ _ g⟩, ?_⟩
  rintro _ rfl
  cases h; exact ⟨rfl, rfl⟩
theorem z9L (op : Int) (r : Str × Int) (h : z4H op = some r) : Trip Try.prog 46 [(nI op)] [] [(nS r.1), (nI r.2)] [] := by
  unfold z4H at h
  refine yF 1000 (by kernel_rfl) (by kernel_rfl) (by kernel_rfl) (by kernel_rfl) (by kernel_rfl) (y5l _ _ _ _ op) ?_
  rintro _ rfl
  refine zE beq_iff_eq h (fun _ h => ?_) (fun _ h => ?_)
  ·
    cases h; exact ⟨rfl, rfl⟩
  rintro _ rfl
  refine zE beq_iff_eq h (fun _ h => ?_) (fun _ h => ?_)
  ·
    cases h; exact ⟨rfl, rfl⟩
  rintro _ rfl
  refine zE beq_iff_eq h (fun _ h => ?_) (fun _ h => ?_)
  ·
    cases h; exact ⟨rfl, rfl⟩
  rintro _ rfl
  refine zE beq_iff_eq h (fun _ h => ?_) (fun _ h => ?_)
  ·
    cases h; exact ⟨rfl, rfl⟩
  rintro _ rfl
  refine zE beq_iff_eq h (fun _ h => ?_) (fun _ h => ?_)
  ·
    cases h; exact ⟨rfl, rfl⟩
  rintro _ rfl
  refine zE beq_iff_eq h (fun _ h => ?_) (fun _ h => ?_)
  ·
    cases h; exact ⟨rfl, rfl⟩
  rintro _ rfl
  refine zE beq_iff_eq h (fun _ h => ?_) (fun _ h => ?_)
  ·
    cases h; exact ⟨rfl, rfl⟩
  rintro _ rfl
  refine zE beq_iff_eq h (fun _ h => ?_) (fun _ h => ?_)
  ·
    cases h; exact ⟨rfl, rfl⟩
  rintro _ rfl
  refine zE beq_iff_eq h (fun _ h => ?_) (fun _ h => ?_)
  ·
    cases h; exact ⟨rfl, rfl⟩
  rintro _ rfl
  refine zE beq_iff_eq h (fun _ h => ?_) (fun _ h => ?_)
  ·
    cases h; exact ⟨rfl, rfl⟩
  rintro _ rfl
  refine zE beq_iff_eq h (fun _ h => ?_) (fun _ h => ?_)
  ·
    cases h; exact ⟨rfl, rfl⟩
  rintro _ rfl
  refine zE beq_iff_eq h (fun _ h => ?_) (fun _ h => ?_)
  ·
    cases h; exact ⟨rfl, rfl⟩
  cases h; exact ⟨rfl, rfl⟩
theorem y0R (t : zF) (r : Int) (h : z0V t = some r) : Trip Try.prog 67 [.d (gT t.K t.N t.S (List.map zF.toD t.L) t.From t.To)] [] [(nI r)] [] := by
  unfold z0V at h
  refine yF 1000 (by kernel_rfl) (by kernel_rfl) (by kernel_rfl) (by kernel_rfl) (by kernel_rfl) (y1q _ _ _ _ t) ?_
  rintro _ rfl
  refine zE beq_iff_eq h (fun _ h => ?_) (fun _ h => ?_)
  ·
    obtain ⟨q1, g, h⟩ := zB h
    refine ⟨_, _, ⟨_, z9L _ _ g⟩, ?_⟩
    cases h; exact ⟨rfl, rfl⟩
  rintro _ rfl
  refine zE beq_iff_eq h (fun _ h => ?_) (fun _ h => ?_)
  ·
    cases h; exact ⟨rfl, rfl⟩
  cases h; exact ⟨rfl, rfl⟩
def z3O : (i : I_print_writer_expr) → z1R i → Prop
  | .print_writer_expr t out, r => Trip Try.prog 18 [.hp 0 0, .d (gT t.K t.N t.S (List.map zF.toD t.L) t.From t.To)] [[.own 1 (List.map D.str out)]] [] [[.own 1 (List.map D.str r)]]
  | .print_writer_held t least out, r => Trip Try.prog 47 [.hp 0 0, .d (gT t.K t.N t.S (List.map zF.toD t.L) t.From t.To), (nI least)] [[.own 1 (List.map D.str out)]] [] [[.own 1 (List.map D.str r)]]
  | .print_writer_closed t out, r => Trip Try.prog 49 [.hp 0 0, .d (gT t.K t.N t.S (List.map zF.toD t.L) t.From t.To)] [[.own 1 (List.map D.str out)]] [] [[.own 1 (List.map D.str r)]]
  | .print_writer_list_writer_expr l out, r => Trip Try.prog 61 [.hp 0 0, .d (.sl (List.map zF.toD l)), .fn 18 [.hp 0 0] []] [[.own 1 (List.map D.str out)]] [] [[.own 1 (List.map D.str r)]]
  | .print_writer_list_writer_expr_L1 v8 v9 v10 out, r => Ok (jV (Trip Try.prog) [] [[.own 1 (List.map D.str r)]]) (kL Try.f61 1) ⟨24, [(0, .hp 0 0), (2, .fn 18 [.hp 0 0] []), (8, .d (.sl (List.map zF.toD v8))), (9, (nI v9)), (10, (nI v10))], [], [[.own 1 (List.map D.str out)]], 0⟩
theorem z7B : ∀ i r, gV vS i = some r → z3O i r := by
  refine yU jS fun g ih i => ?_
  cases i with
  | print_writer_expr t out =>
    have ih_print_writer_held := fun t least out r h => ih (.print_writer_held t least out) r h
    have ih_print_writer_closed := fun t out r h => ih (.print_writer_closed t out) r h
    intro r h
    replace h : yE (fun t least out => g (I_print_writer_expr.print_writer_held t least out)) (fun t out => g (I_print_writer_expr.print_writer_closed t out)) t out = some r := h
    unfold yE at h
    refine yF 1000 (by kernel_rfl) (by kernel_rfl) (by kernel_rfl) (by kernel_rfl) (by kernel_rfl) (z7Y _ _ _ _ t out) ?_
    rintro _ rfl
    refine zE beq_iff_eq h (fun _ h => ?_) (fun _ h => ?_)
    ·
      obtain ⟨q1, g, h⟩ := zB h
      refine ⟨_, ⟨_, z9K _ _ g⟩, ?_⟩
      obtain ⟨q2, g, h⟩ := zB h
      refine ⟨_, zH _ _ _ g, ?_⟩
      cases h; exact ⟨rfl, rfl⟩
    rintro _ rfl
    refine zE beq_iff_eq h (fun _ h => ?_) (fun _ h => ?_)
    ·
      rintro _ rfl
      refine zE beq_iff_eq h (fun _ h => ?_) (fun _ h => ?_)
      ·
        obtain ⟨q3, g, h⟩ := zB h
        refine ⟨_, zH _ _ _ g, ?_⟩
        cases h; exact ⟨rfl, rfl⟩
      obtain ⟨q4, g, h⟩ := zB h
      refine ⟨_, zH _ _ _ g, ?_⟩
      cases h; exact ⟨rfl, rfl⟩
    rintro _ rfl
    refine zE beq_iff_eq h (fun _ h => ?_) (fun _ h => ?_)
    ·
      obtain ⟨q5, g, h⟩ := zB h
      refine ⟨_, zH _ _ _ g, ?_⟩
      cases h; exact ⟨rfl, rfl⟩
    rintro _ rfl
    refine zE beq_iff_eq h (fun _ h => ?_) (fun _ h => ?_)
    ·
      obtain ⟨q6, g, h⟩ := zB h
      refine ⟨_, zH _ _ _ g, ?_⟩
      cases h; exact ⟨rfl, rfl⟩
    rintro _ rfl
    refine zE beq_iff_eq h (fun _ h => ?_) (fun _ h => ?_)
    ·
      obtain ⟨q7, g, h⟩ := zB h
      refine ⟨_, _, ⟨_, z9L _ _ g⟩, ?_⟩
      rintro _ rfl
      refine zE beq_iff_eq h (fun _ h => ?_) (fun _ h => ?_)
      ·
        obtain ⟨q8, g, h⟩ := zB h
        refine ⟨_, _, _, _, _, _, ⟨_, yC _ _ _ g⟩, ?_⟩
        obtain ⟨q9, g, h⟩ := zB h
        refine ⟨_, ih_print_writer_held _ _ _ _ g, ?_⟩
        obtain ⟨q10, g, h⟩ := zB h
        refine ⟨_, zH _ _ _ g, ?_⟩
        obtain ⟨q11, g, h⟩ := zB h
        refine ⟨_, _, _, _, _, _, ⟨_, yC _ _ _ g⟩, ?_⟩
        rintro _ rfl
        obtain ⟨q12, g, h⟩ := zB h
        refine ⟨_, ih_print_writer_held _ _ _ _ g, ?_⟩
        cases h; exact ⟨rfl, rfl⟩
      obtain ⟨q13, g, h⟩ := zB h
      refine ⟨_, _, _, _, _, _, ⟨_, yC _ _ _ g⟩, ?_⟩
      obtain ⟨q14, g, h⟩ := zB h
      refine ⟨_, ih_print_writer_held _ _ _ _ g, ?_⟩
      obtain ⟨q15, g, h⟩ := zB h
      refine ⟨_, zH _ _ _ g, ?_⟩
      obtain ⟨q16, g, h⟩ := zB h
      refine ⟨_, _, _, _, _, _, ⟨_, yC _ _ _ g⟩, ?_⟩
      rintro _ rfl
      obtain ⟨q17, g, h⟩ := zB h
      refine ⟨_, ih_print_writer_held _ _ _ _ g, ?_⟩
      cases h; exact ⟨rfl, rfl⟩
    rintro _ rfl
    refine zE beq_iff_eq h (fun _ h => ?_) (fun _ h => ?_)
    ·
      rintro _ rfl
      refine zE beq_iff_eq h (fun _ h => ?_) (fun _ h => ?_)
      ·
        obtain ⟨q18, g, h⟩ := zB h
        refine ⟨_, zH _ _ _ g, ?_⟩
        obtain ⟨q19, g, h⟩ := zB h
        refine ⟨_, _, _, _, _, _, ⟨_, yC _ _ _ g⟩, ?_⟩
        obtain ⟨q20, g, h⟩ := zB h
        refine ⟨_, ih_print_writer_held _ _ _ _ g, ?_⟩
        cases h; exact ⟨rfl, rfl⟩
      obtain ⟨q21, g, h⟩ := zB h
      refine ⟨_, zH _ _ _ g, ?_⟩
      obtain ⟨q22, g, h⟩ := zB h
      refine ⟨_, _, _, _, _, _, ⟨_, yC _ _ _ g⟩, ?_⟩
      obtain ⟨q23, g, h⟩ := zB h
      refine ⟨_, ih_print_writer_held _ _ _ _ g, ?_⟩
      cases h; exact ⟨rfl, rfl⟩
    obtain ⟨q24, g, h⟩ := zB h
    refine ⟨_, ih_print_writer_closed _ _ _ g, ?_⟩
    cases h; exact ⟨rfl, rfl⟩
  | print_writer_held t least out =>
    have ih_print_writer_expr := fun t out r h => ih (.print_writer_expr t out) r h
    intro r h
    replace h : jW (fun t out => g (I_print_writer_expr.print_writer_expr t out)) t least out = some r := h
    unfold jW at h
    refine yF 1000 (by kernel_rfl) (by kernel_rfl) (by kernel_rfl) (by kernel_rfl) (by kernel_rfl) (z7Z _ _ _ _ t least out) ?_
    obtain ⟨q1, g, h⟩ := zB h
    refine ⟨_, ⟨_, y0R _ _ g⟩, ?_⟩
    rintro _ rfl
    refine zE decide_eq_true_iff h (fun _ h => ?_) (fun _ h => ?_)
    ·
      obtain ⟨q2, g, h⟩ := zB h
      refine ⟨_, ih_print_writer_expr _ _ _ g, ?_⟩
      cases h; exact ⟨rfl, rfl⟩
    obtain ⟨q3, g, h⟩ := zB h
    refine ⟨_, zH _ _ _ g, ?_⟩
    obtain ⟨q4, g, h⟩ := zB h
    refine ⟨_, ih_print_writer_expr _ _ _ g, ?_⟩
    obtain ⟨q5, g, h⟩ := zB h
    refine ⟨_, zH _ _ _ g, ?_⟩
    cases h; exact ⟨rfl, rfl⟩
  | print_writer_closed t out =>
    have ih_print_writer_expr := fun t out r h => ih (.print_writer_expr t out) r h
    have ih_print_writer_held := fun t least out r h => ih (.print_writer_held t least out) r h
    have ih_print_writer_list_writer_expr := fun l out r h => ih (.print_writer_list_writer_expr l out) r h
    intro r h
    replace h : yR (fun t out => g (I_print_writer_expr.print_writer_expr t out)) (fun t least out => g (I_print_writer_expr.print_writer_held t least out)) (fun l out => g (I_print_writer_expr.print_writer_list_writer_expr l out)) t out = some r := h
    unfold yR at h
    refine yF 1000 (by kernel_rfl) (by kernel_rfl) (by kernel_rfl) (by kernel_rfl) (by kernel_rfl) (z6p _ _ _ _ t out) ?_
    rintro _ rfl
    refine zE beq_iff_eq h (fun _ h => ?_) (fun _ h => ?_)
    ·
      obtain ⟨q1, g, h⟩ := zB h
      refine ⟨_, _, _, _, _, _, ⟨_, yC _ _ _ g⟩, ?_⟩
      obtain ⟨q2, g, h⟩ := zB h
      refine ⟨_, ih_print_writer_held _ _ _ _ g, ?_⟩
      obtain ⟨q3, g, h⟩ := zB h
      refine ⟨_, zH _ _ _ g, ?_⟩
      obtain ⟨q4, g, h⟩ := zB h
      refine ⟨_, _, _, _, _, _, ⟨_, yC _ _ _ g⟩, ?_⟩
      obtain ⟨q5, g, h⟩ := zB h
      refine ⟨_, ih_print_writer_expr _ _ _ g, ?_⟩
      obtain ⟨q6, g, h⟩ := zB h
      refine ⟨_, zH _ _ _ g, ?_⟩
      cases h; exact ⟨rfl, rfl⟩
    rintro _ rfl
    refine zE beq_iff_eq h (fun _ h => ?_) (fun _ h => ?_)
    ·
      obtain ⟨q7, g, h⟩ := zB h
      refine ⟨_, _, _, _, _, _, ⟨_, yC _ _ _ g⟩, ?_⟩
      obtain ⟨q8, g, h⟩ := zB h
      refine ⟨_, ih_print_writer_held _ _ _ _ g, ?_⟩
      obtain ⟨q9, g, h⟩ := zB h
      refine ⟨_, zH _ _ _ g, ?_⟩
      cases h; exact ⟨rfl, rfl⟩
    rintro _ rfl
    refine zE beq_iff_eq h (fun _ h => ?_) (fun _ h => ?_)
    ·
      obtain ⟨q10, g, h⟩ := zB h
      refine ⟨_, zH _ _ _ g, ?_⟩
      obtain ⟨q11, g, h⟩ := zB h
      refine ⟨_, ih_print_writer_list_writer_expr _ _ _ g, ?_⟩
      obtain ⟨q12, g, h⟩ := zB h
      refine ⟨_, zH _ _ _ g, ?_⟩
      cases h; exact ⟨rfl, rfl⟩
    rintro _ rfl
    refine zE beq_iff_eq h (fun _ h => ?_) (fun _ h => ?_)
    ·
      obtain ⟨q13, g, h⟩ := zB h
      refine ⟨_, zH _ _ _ g, ?_⟩
      obtain ⟨q14, g, h⟩ := zB h
      refine ⟨_, zH _ _ _ g, ?_⟩
      obtain ⟨q15, g, h⟩ := zB h
      refine ⟨_, ih_print_writer_list_writer_expr _ _ _ g, ?_⟩
      obtain ⟨q16, g, h⟩ := zB h
      refine ⟨_, zH _ _ _ g, ?_⟩
      cases h; exact ⟨rfl, rfl⟩
    rintro _ rfl
    refine zE beq_iff_eq h (fun _ h => ?_) (fun _ h => ?_)
    ·
      obtain ⟨q17, g, h⟩ := zB h
      refine ⟨_, zH _ _ _ g, ?_⟩
      obtain ⟨q18, g, h⟩ := zB h
      refine ⟨_, zH _ _ _ g, ?_⟩
      obtain ⟨q19, g, h⟩ := zB h
      refine ⟨_, ih_print_writer_list_writer_expr _ _ _ g, ?_⟩
      obtain ⟨q20, g, h⟩ := zB h
      refine ⟨_, zH _ _ _ g, ?_⟩
      cases h; exact ⟨rfl, rfl⟩
    rintro _ rfl
    refine zE beq_iff_eq h (fun _ h => ?_) (fun _ h => ?_)
    ·
      obtain ⟨q21, g, h⟩ := zB h
      refine ⟨_, zH _ _ _ g, ?_⟩
      obtain ⟨q22, g, h⟩ := zB h
      refine ⟨_, zH _ _ _ g, ?_⟩
      obtain ⟨q23, g, h⟩ := zB h
      refine ⟨_, ih_print_writer_list_writer_expr _ _ _ g, ?_⟩
      obtain ⟨q24, g, h⟩ := zB h
      refine ⟨_, zH _ _ _ g, ?_⟩
      cases h; exact ⟨rfl, rfl⟩
    cases h; exact ⟨rfl, rfl⟩
  | print_writer_list_writer_expr l out =>
    have ih_print_writer_list_writer_expr_L1 := fun v8 v9 v10 out r h => ih (.print_writer_list_writer_expr_L1 v8 v9 v10 out) r h
    intro r h
    replace h : vM (fun v8 v9 v10 out => g (I_print_writer_expr.print_writer_list_writer_expr_L1 v8 v9 v10 out)) l out = some r := h
    unfold vM at h
    refine yF 1000 (by kernel_rfl) (by kernel_rfl) (by kernel_rfl) (by kernel_rfl) (by kernel_rfl) (z2L _ _ _ _ l out) ?_
    refine z0Z (e' := (List.length l : Int)) (by first | rfl | rw [List.length_map]) ?_
    exact ih_print_writer_list_writer_expr_L1 _ _ _ _ _ h
  | print_writer_list_writer_expr_L1 v8 v9 v10 out =>
    have ih_print_writer_expr := fun t out r h => ih (.print_writer_expr t out) r h
    have ih_print_writer_list_writer_expr_L1 := fun v8 v9 v10 out r h => ih (.print_writer_list_writer_expr_L1 v8 v9 v10 out) r h
    intro r h
    replace h : yV (fun t out => g (I_print_writer_expr.print_writer_expr t out)) (fun v8 v9 v10 out => g (I_print_writer_expr.print_writer_list_writer_expr_L1 v8 v9 v10 out)) v8 v9 v10 out = some r := h
    unfold yV at h
    refine z1F 1000 (z2o _ _ _ _ v8 v9 v10 out) ?_
    rintro _ rfl
    refine zE decide_eq_true_iff h (fun _ h => ?_) (fun _ h => ?_)
    ·
      obtain ⟨x, hx, h⟩ := zB h
      refine ⟨yZ (l := v8) (zF.sz), z0z hx, x.K, x.N, x.S, List.map zF.toD x.L, x.From, x.To, uC (zF.toD_eq x) hx, ?_⟩
      rintro _ rfl
      refine zE decide_eq_true_iff h (fun _ h => ?_) (fun _ h => ?_)
      ·
        obtain ⟨q1, g, h⟩ := zB h
        refine ⟨_, zH _ _ _ g, ?_⟩
        obtain ⟨q2, g, h⟩ := zB h
        refine ⟨_, ih_print_writer_expr _ _ _ g, ?_⟩
        rintro _ rfl
        exact ih_print_writer_list_writer_expr_L1 _ _ _ _ _ h
      obtain ⟨q3, g, h⟩ := zB h
      refine ⟨_, ih_print_writer_expr _ _ _ g, ?_⟩
      rintro _ rfl
      exact ih_print_writer_list_writer_expr_L1 _ _ _ _ _ h
    cases h; exact ⟨rfl, rfl⟩
theorem jT (t : zF) (out r : List Str) (h : print_writer_expr t out = some r) : z3O (.print_writer_expr t out) r := z7B (.print_writer_expr t out) r h
theorem jU (t : zF) (words out r : List Str) (h : uE t words out = some r) : Trip Try.prog 60 [.hp 0 0, .d (gT t.K t.N t.S (List.map zF.toD t.L) t.From t.To), .d (.sl (List.map D.str words))] [[.own 1 (List.map D.str out)]] [] [[.own 1 (List.map D.str r)]] := by
  unfold uE at h
  refine yF 1000 (by kernel_rfl) (by kernel_rfl) (by kernel_rfl) (by kernel_rfl) (by kernel_rfl) (z8b _ _ _ _ t words out) ?_
  obtain ⟨q1, g, h⟩ := zB h
  refine ⟨_, zH _ _ _ g, ?_⟩
  obtain ⟨q2, g, h⟩ := zB h
  refine ⟨_, jT _ _ _ g, ?_⟩
  obtain ⟨q3, g, h⟩ := zB h
  refine ⟨_, zH _ _ _ g, ?_⟩
  cases h; exact ⟨rfl, rfl⟩
theorem gM (t : zF) (out r : List Str) (h : wX t out = some r) : Trip Try.prog 59 [.hp 0 0, .d (gT t.K t.N t.S (List.map zF.toD t.L) t.From t.To)] [[.own 1 (List.map D.str out)]] [] [[.own 1 (List.map D.str r)]] := by
  unfold wX at h
  refine yF 1000 (by kernel_rfl) (by kernel_rfl) (by kernel_rfl) (by kernel_rfl) (by kernel_rfl) (z7g _ _ _ _ t out) ?_
  obtain ⟨q1, g, h⟩ := zB h
  refine ⟨_, zH _ _ _ g, ?_⟩
  obtain ⟨q2, g, h⟩ := zB h
  refine ⟨_, _, _, _, _, _, ⟨_, yC _ _ _ g⟩, ?_⟩
  obtain ⟨q3, g, h⟩ := zB h
  refine ⟨_, z0S _ _ _ g, ?_⟩
  cases h; exact ⟨rfl, rfl⟩
def z3t : (i : I_print_writer_block) → z1B i → Prop
  | .print_writer_block t out, r => Trip Try.prog 62 [.hp 0 0, .d (gT t.K t.N t.S (List.map zF.toD t.L) t.From t.To)] [[.own 1 (List.map D.str out)]] [] [[.own 1 (List.map D.str r)]]
  | .print_writer_block_L3 v10 v11 v12 out, r => Ok (z1C (Trip Try.prog) [] [[.own 1 (List.map D.str r)]]) (kL Try.f62 3) ⟨23, [(0, .hp 0 0), (10, .d (.sl (List.map zF.toD v10))), (11, (nI v11)), (12, (nI v12))], [], [[.own 1 (List.map D.str out)]], 0⟩
  | .print_writer_stmt t out, r => Trip Try.prog 74 [.hp 0 0, .d (gT t.K t.N t.S (List.map zF.toD t.L) t.From t.To)] [[.own 1 (List.map D.str out)]] [] [[.own 1 (List.map D.str r)]]
  | .print_writer_nested t out, r => Trip Try.prog 80 [.hp 0 0, .d (gT t.K t.N t.S (List.map zF.toD t.L) t.From t.To)] [[.own 1 (List.map D.str out)]] [] [[.own 1 (List.map D.str r)]]
theorem z7c : ∀ i r, gV wL i = some r → z3t i r := by
  refine yU gL fun g ih i => ?_
  cases i with
  | print_writer_block t out =>
    have ih_print_writer_block_L3 := fun v10 v11 v12 out r h => ih (.print_writer_block_L3 v10 v11 v12 out) r h
    intro r h
    replace h : jI (fun v10 v11 v12 out => g (I_print_writer_block.print_writer_block_L3 v10 v11 v12 out)) t out = some r := h
    unfold jI at h
    refine yF 1000 (by kernel_rfl) (by kernel_rfl) (by kernel_rfl) (by kernel_rfl) (by kernel_rfl) (z7f _ _ _ _ t out) ?_
    obtain ⟨q1, g, h⟩ := zB h
    refine ⟨_, zH _ _ _ g, ?_⟩
    refine z0Z (e' := (List.length t.L : Int)) (by first | rfl | rw [List.length_map]) ?_
    exact ih_print_writer_block_L3 _ _ _ _ _ h
  | print_writer_block_L3 v10 v11 v12 out =>
    have ih_print_writer_block_L3 := fun v10 v11 v12 out r h => ih (.print_writer_block_L3 v10 v11 v12 out) r h
    have ih_print_writer_stmt := fun t out r h => ih (.print_writer_stmt t out) r h
    intro r h
    replace h : uB (fun v10 v11 v12 out => g (I_print_writer_block.print_writer_block_L3 v10 v11 v12 out)) (fun t out => g (I_print_writer_block.print_writer_stmt t out)) v10 v11 v12 out = some r := h
    unfold uB at h
    refine z1F 1000 (z5h _ _ _ _ v10 v11 v12 out) ?_
    rintro _ rfl
    refine zE decide_eq_true_iff h (fun _ h => ?_) (fun _ h => ?_)
    ·
      obtain ⟨x, hx, h⟩ := zB h
      refine ⟨yZ (l := v10) (zF.sz), z0z hx, x.K, x.N, x.S, List.map zF.toD x.L, x.From, x.To, uC (zF.toD_eq x) hx, ?_⟩
      obtain ⟨q1, g, h⟩ := zB h
      refine ⟨_, ih_print_writer_stmt _ _ _ g, ?_⟩
      rintro _ rfl
      exact ih_print_writer_block_L3 _ _ _ _ _ h
    obtain ⟨q2, g, h⟩ := zB h
    refine ⟨_, zH _ _ _ g, ?_⟩
    cases h; exact ⟨rfl, rfl⟩
  | print_writer_stmt t out =>
    have ih_print_writer_block := fun t out r h => ih (.print_writer_block t out) r h
    have ih_print_writer_nested := fun t out r h => ih (.print_writer_nested t out) r h
    intro r h
    replace h : uY (fun t out => g (I_print_writer_block.print_writer_block t out)) (fun t out => g (I_print_writer_block.print_writer_nested t out)) t out = some r := h
    unfold uY at h
    refine yF 1000 (by kernel_rfl) (by kernel_rfl) (by kernel_rfl) (by kernel_rfl) (by kernel_rfl) (z8c _ _ _ _ t out) ?_
    rintro _ rfl
    refine zE beq_iff_eq h (fun _ h => ?_) (fun _ h => ?_)
    ·
      obtain ⟨q1, g, h⟩ := zB h
      refine ⟨_, ih_print_writer_block _ _ _ g, ?_⟩
      cases h; exact ⟨rfl, rfl⟩
    rintro _ rfl
    refine zE beq_iff_eq h (fun _ h => ?_) (fun _ h => ?_)
    ·
      obtain ⟨q2, g, h⟩ := zB h
      refine ⟨_, _, _, _, _, _, ⟨_, yC _ _ _ g⟩, ?_⟩
      obtain ⟨q3, g, h⟩ := zB h
      refine ⟨_, jU _ _ _ _ g, ?_⟩
      cases h; exact ⟨rfl, rfl⟩
    rintro _ rfl
    refine zE beq_iff_eq h (fun _ h => ?_) (fun _ h => ?_)
    ·
      obtain ⟨q4, g, h⟩ := zB h
      refine ⟨_, zH _ _ _ g, ?_⟩
      obtain ⟨q5, g, h⟩ := zB h
      refine ⟨_, gM _ _ _ g, ?_⟩
      obtain ⟨q6, g, h⟩ := zB h
      refine ⟨_, zH _ _ _ g, ?_⟩
      cases h; exact ⟨rfl, rfl⟩
    rintro _ rfl
    refine zE beq_iff_eq h (fun _ h => ?_) (fun _ h => ?_)
    ·
      obtain ⟨q7, g, h⟩ := zB h
      refine ⟨_, _, _, _, _, _, ⟨_, yC _ _ _ g⟩, ?_⟩
      obtain ⟨q8, g, h⟩ := zB h
      refine ⟨_, jT _ _ _ g, ?_⟩
      obtain ⟨q9, g, h⟩ := zB h
      refine ⟨_, _, _, _, _, _, ⟨_, yC _ _ _ g⟩, ?_⟩
      obtain ⟨q10, g, h⟩ := zB h
      refine ⟨_, jU _ _ _ _ g, ?_⟩
      cases h; exact ⟨rfl, rfl⟩
    rintro _ rfl
    refine zE beq_iff_eq h (fun _ h => ?_) (fun _ h => ?_)
    ·
      obtain ⟨q11, g, h⟩ := zB h
      refine ⟨_, _, _, _, _, _, ⟨_, yC _ _ _ g⟩, ?_⟩
      obtain ⟨q12, g, h⟩ := zB h
      refine ⟨_, jU _ _ _ _ g, ?_⟩
      cases h; exact ⟨rfl, rfl⟩
    rintro _ rfl
    refine zE beq_iff_eq h (fun _ h => ?_) (fun _ h => ?_)
    ·
      obtain ⟨q13, g, h⟩ := zB h
      refine ⟨_, _, _, _, _, _, ⟨_, yC _ _ _ g⟩, ?_⟩
      obtain ⟨q14, g, h⟩ := zB h
      refine ⟨_, jU _ _ _ _ g, ?_⟩
      cases h; exact ⟨rfl, rfl⟩
    rintro _ rfl
    refine zE beq_iff_eq h (fun _ h => ?_) (fun _ h => ?_)
    ·
      obtain ⟨q15, g, h⟩ := zB h
      refine ⟨_, _, _, _, _, _, ⟨_, yC _ _ _ g⟩, ?_⟩
      obtain ⟨q16, g, h⟩ := zB h
      refine ⟨_, jU _ _ _ _ g, ?_⟩
      cases h; exact ⟨rfl, rfl⟩
    obtain ⟨q17, g, h⟩ := zB h
    refine ⟨_, ih_print_writer_nested _ _ _ g, ?_⟩
    cases h; exact ⟨rfl, rfl⟩
  | print_writer_nested t out =>
    have ih_print_writer_block := fun t out r h => ih (.print_writer_block t out) r h
    intro r h
    replace h : wY (fun t out => g (I_print_writer_block.print_writer_block t out)) t out = some r := h
    unfold wY at h
    refine yF 1000 (by kernel_rfl) (by kernel_rfl) (by kernel_rfl) (by kernel_rfl) (by kernel_rfl) (z6q _ _ _ _ t out) ?_
    rintro _ rfl
    refine zE beq_iff_eq h (fun _ h => ?_) (fun _ h => ?_)
    ·
      obtain ⟨q1, g, h⟩ := zB h
      refine ⟨_, zH _ _ _ g, ?_⟩
      obtain ⟨q2, g, h⟩ := zB h
      refine ⟨_, _, _, _, _, _, ⟨_, yC _ _ _ g⟩, ?_⟩
      obtain ⟨q3, g, h⟩ := zB h
      refine ⟨_, jT _ _ _ g, ?_⟩
      obtain ⟨q4, g, h⟩ := zB h
      refine ⟨_, _, _, _, _, _, ⟨_, yC _ _ _ g⟩, ?_⟩
      obtain ⟨q5, g, h⟩ := zB h
      refine ⟨_, ih_print_writer_block _ _ _ g, ?_⟩
      obtain ⟨q6, g, h⟩ := zB h
      refine ⟨_, _, _, _, _, _, ⟨_, yC _ _ _ g⟩, ?_⟩
      refine z0Z (e' := (List.length q6.L : Int)) (by first | rfl | rw [List.length_map]) ?_
      rintro _ rfl
      refine zE decide_eq_true_iff h (fun _ h => ?_) (fun _ h => ?_)
      ·
        obtain ⟨q7, g, h⟩ := zB h
        refine ⟨_, zH _ _ _ g, ?_⟩
        obtain ⟨q8, g, h⟩ := zB h
        refine ⟨_, _, _, _, _, _, ⟨_, yC _ _ _ g⟩, ?_⟩
        obtain ⟨q9, g, h⟩ := zB h
        refine ⟨_, ih_print_writer_block _ _ _ g, ?_⟩
        cases h; exact ⟨rfl, rfl⟩
      cases h; exact ⟨rfl, rfl⟩
    rintro _ rfl
    refine zE beq_iff_eq h (fun _ h => ?_) (fun _ h => ?_)
    ·
      obtain ⟨q10, g, h⟩ := zB h
      refine ⟨_, zH _ _ _ g, ?_⟩
      obtain ⟨q11, g, h⟩ := zB h
      refine ⟨_, _, _, _, _, _, ⟨_, yC _ _ _ g⟩, ?_⟩
      obtain ⟨q12, g, h⟩ := zB h
      refine ⟨_, jT _ _ _ g, ?_⟩
      obtain ⟨q13, g, h⟩ := zB h
      refine ⟨_, _, _, _, _, _, ⟨_, yC _ _ _ g⟩, ?_⟩
      obtain ⟨q14, g, h⟩ := zB h
      refine ⟨_, ih_print_writer_block _ _ _ g, ?_⟩
      cases h; exact ⟨rfl, rfl⟩
    rintro _ rfl
    refine zE beq_iff_eq h (fun _ h => ?_) (fun _ h => ?_)
    ·
      obtain ⟨q15, g, h⟩ := zB h
      refine ⟨_, zH _ _ _ g, ?_⟩
      obtain ⟨q16, g, h⟩ := zB h
      refine ⟨_, _, _, _, _, _, ⟨_, yC _ _ _ g⟩, ?_⟩
      obtain ⟨q17, g, h⟩ := zB h
      refine ⟨_, jT _ _ _ g, ?_⟩
      obtain ⟨q18, g, h⟩ := zB h
      refine ⟨_, zH _ _ _ g, ?_⟩
      obtain ⟨q19, g, h⟩ := zB h
      refine ⟨_, _, _, _, _, _, ⟨_, yC _ _ _ g⟩, ?_⟩
      obtain ⟨q20, g, h⟩ := zB h
      refine ⟨_, jT _ _ _ g, ?_⟩
      obtain ⟨q21, g, h⟩ := zB h
      refine ⟨_, _, _, _, _, _, ⟨_, yC _ _ _ g⟩, ?_⟩
      obtain ⟨q22, g, h⟩ := zB h
      refine ⟨_, ih_print_writer_block _ _ _ g, ?_⟩
      cases h; exact ⟨rfl, rfl⟩
    cases h; exact ⟨rfl, rfl⟩
theorem z3u (t : zF) (out r : List Str) (h : print_writer_block t out = some r) : z3t (.print_writer_block t out) r := z7c (.print_writer_block t out) r h
def z2E : (i : I_print_writer_decl_L5) → z1e i → Prop
  | .print_writer_decl_L5 v16 v17 v18 out, r => Ok (z1V (Trip Try.prog) [] [[.own 1 (List.map D.str r)]]) (kL Try.f27 5) ⟨83, [(0, .hp 0 0), (16, .d (.sl (List.map zF.toD v16))), (17, (nI v17)), (18, (nI v18))], [], [[.own 1 (List.map D.str out)]], 0⟩
theorem z5F : ∀ i r, gV z0f i = some r → z2E i r := by
  refine yU z2D fun g ih i => ?_
  cases i with
  | print_writer_decl_L5 v16 v17 v18 out =>
    have ih_print_writer_decl_L5 := fun v16 v17 v18 out r h => ih (.print_writer_decl_L5 v16 v17 v18 out) r h
    intro r h
    replace h : uH (fun v16 v17 v18 out => g (I_print_writer_decl_L5.print_writer_decl_L5 v16 v17 v18 out)) v16 v17 v18 out = some r := h
    unfold uH at h
    refine z1F 1000 (z5H _ _ _ _ v16 v17 v18 out) ?_
    rintro _ rfl
    refine zE decide_eq_true_iff h (fun _ h => ?_) (fun _ h => ?_)
    ·
      obtain ⟨x, hx, h⟩ := zB h
      refine ⟨yZ (l := v16) (zF.sz), z0z hx, x.K, x.N, x.S, List.map zF.toD x.L, x.From, x.To, uC (zF.toD_eq x) hx, ?_⟩
      obtain ⟨q1, g, h⟩ := zB h
      refine ⟨_, gM _ _ _ g, ?_⟩
      obtain ⟨q2, g, h⟩ := zB h
      refine ⟨_, zH _ _ _ g, ?_⟩
      rintro _ rfl
      exact ih_print_writer_decl_L5 _ _ _ _ _ h
    obtain ⟨q3, g, h⟩ := zB h
    refine ⟨_, zH _ _ _ g, ?_⟩
    cases h; exact ⟨rfl, rfl⟩
theorem z5G (v16 : List zF) (v17 v18 : Int) (out r : List Str) (h : print_writer_decl_L5 v16 v17 v18 out = some r) : z2E (.print_writer_decl_L5 v16 v17 v18 out) r := z5F (.print_writer_decl_L5 v16 v17 v18 out) r h
def gY : (i : I_print_writer_list_writer_named_L1) → uW i → Prop
  | .print_writer_list_writer_named_L1 v8 v9 v10 out, r => Ok (jN (Trip Try.prog) [] [[.own 1 (List.map D.str r)]]) (kL Try.f61 1) ⟨24, [(0, .hp 0 0), (2, .fn 59 [.hp 0 0] []), (8, .d (.sl (List.map zF.toD v8))), (9, (nI v9)), (10, (nI v10))], [], [[.own 1 (List.map D.str out)]], 0⟩
theorem z1Q : ∀ i r, gV wZ i = some r → gY i r := by
  refine yU gX fun g ih i => ?_
  cases i with
  | print_writer_list_writer_named_L1 v8 v9 v10 out =>
    have ih_print_writer_list_writer_named_L1 := fun v8 v9 v10 out r h => ih (.print_writer_list_writer_named_L1 v8 v9 v10 out) r h
    intro r h
    replace h : yN (fun v8 v9 v10 out => g (I_print_writer_list_writer_named_L1.print_writer_list_writer_named_L1 v8 v9 v10 out)) v8 v9 v10 out = some r := h
    unfold yN at h
    refine z1F 1000 (z1W _ _ _ _ v8 v9 v10 out) ?_
    rintro _ rfl
    refine zE decide_eq_true_iff h (fun _ h => ?_) (fun _ h => ?_)
    ·
      obtain ⟨x, hx, h⟩ := zB h
      refine ⟨yZ (l := v8) (zF.sz), z0z hx, x.K, x.N, x.S, List.map zF.toD x.L, x.From, x.To, uC (zF.toD_eq x) hx, ?_⟩
      rintro _ rfl
      refine zE decide_eq_true_iff h (fun _ h => ?_) (fun _ h => ?_)
      ·
        obtain ⟨q1, g, h⟩ := zB h
        refine ⟨_, zH _ _ _ g, ?_⟩
        obtain ⟨q2, g, h⟩ := zB h
        refine ⟨_, gM _ _ _ g, ?_⟩
        rintro _ rfl
        exact ih_print_writer_list_writer_named_L1 _ _ _ _ _ h
      obtain ⟨q3, g, h⟩ := zB h
      refine ⟨_, gM _ _ _ g, ?_⟩
      rintro _ rfl
      exact ih_print_writer_list_writer_named_L1 _ _ _ _ _ h
    cases h; exact ⟨rfl, rfl⟩
theorem z1T (v8 : List zF) (v9 v10 : Int) (out r : List Str) (h : print_writer_list_writer_named_L1 v8 v9 v10 out = some r) : gY (.print_writer_list_writer_named_L1 v8 v9 v10 out) r := z1Q (.print_writer_list_writer_named_L1 v8 v9 v10 out) r h
theorem z0A (l : List zF) (out r : List Str) (h : yY l out = some r) : Trip Try.prog 61 [.hp 0 0, .d (.sl (List.map zF.toD l)), .fn 59 [.hp 0 0] []] [[.own 1 (List.map D.str out)]] [] [[.own 1 (List.map D.str r)]] := by
  unfold yY at h
  refine yF 1000 (by kernel_rfl) (by kernel_rfl) (by kernel_rfl) (by kernel_rfl) (by kernel_rfl) (z2C _ _ _ _ l out) ?_
  refine z0Z (e' := (List.length l : Int)) (by first | rfl | rw [List.length_map]) ?_
  exact z1T _ _ _ _ _ h
theorem z7I (t : zF) (out r : List Str) (h : z0H t out = some r) : Trip Try.prog 27 [.hp 0 0, .d (gT t.K t.N t.S (List.map zF.toD t.L) t.From t.To)] [[.own 1 (List.map D.str out)]] [] [[.own 1 (List.map D.str r)]] := by
  unfold z0H at h
  refine yF 1000 (by kernel_rfl) (by kernel_rfl) (by kernel_rfl) (by kernel_rfl) (by kernel_rfl) (z7X _ _ _ _ t out) ?_
  rintro _ rfl
  refine zE beq_iff_eq h (fun _ h => ?_) (fun _ h => ?_)
  ·
    obtain ⟨q1, g, h⟩ := zB h
    refine ⟨_, zH _ _ _ g, ?_⟩
    refine z0Z (e' := (List.length t.L : Int)) (by first | rfl | rw [List.length_map]) ?_
    exact z5G _ _ _ _ _ h
  rintro _ rfl
  refine zE beq_iff_eq h (fun _ h => ?_) (fun _ h => ?_)
  ·
    obtain ⟨q2, g, h⟩ := zB h
    refine ⟨_, _, _, _, _, _, ⟨_, yC _ _ _ g⟩, ?_⟩
    obtain ⟨q3, g, h⟩ := zB h
    refine ⟨_, jU _ _ _ _ g, ?_⟩
    cases h; exact ⟨rfl, rfl⟩
  rintro _ rfl
  refine zE beq_iff_eq h (fun _ h => ?_) (fun _ h => ?_)
  ·
    obtain ⟨q4, g, h⟩ := zB h
    refine ⟨_, zH _ _ _ g, ?_⟩
    obtain ⟨q5, g, h⟩ := zB h
    refine ⟨_, gM _ _ _ g, ?_⟩
    obtain ⟨q6, g, h⟩ := zB h
    refine ⟨_, zH _ _ _ g, ?_⟩
    cases h; exact ⟨rfl, rfl⟩
  rintro _ rfl
  refine zE beq_iff_eq h (fun _ h => ?_) (fun _ h => ?_)
  ·
    rintro _ rfl
    refine zE beq_iff_eq h (fun _ h => ?_) (fun _ h => ?_)
    ·
      obtain ⟨q7, g, h⟩ := zB h
      refine ⟨_, zH _ _ _ g, ?_⟩
      obtain ⟨q8, g, h⟩ := zB h
      refine ⟨_, zH _ _ _ g, ?_⟩
      obtain ⟨q9, g, h⟩ := zB h
      refine ⟨_, _, _, _, _, _, ⟨_, yC _ _ _ g⟩, ?_⟩
      obtain ⟨q10, g, h⟩ := zB h
      refine ⟨_, z0A _ _ _ g, ?_⟩
      obtain ⟨q11, g, h⟩ := zB h
      refine ⟨_, zH _ _ _ g, ?_⟩
      obtain ⟨q12, g, h⟩ := zB h
      refine ⟨_, _, _, _, _, _, ⟨_, yC _ _ _ g⟩, ?_⟩
      obtain ⟨q13, g, h⟩ := zB h
      refine ⟨_, z0S _ _ _ g, ?_⟩
      obtain ⟨q14, g, h⟩ := zB h
      refine ⟨_, _, _, _, _, _, ⟨_, yC _ _ _ g⟩, ?_⟩
      obtain ⟨q15, g, h⟩ := zB h
      refine ⟨_, z3u _ _ _ g, ?_⟩
      cases h; exact ⟨rfl, rfl⟩
    obtain ⟨q16, g, h⟩ := zB h
    refine ⟨_, zH _ _ _ g, ?_⟩
    obtain ⟨q17, g, h⟩ := zB h
    refine ⟨_, _, _, _, _, _, ⟨_, yC _ _ _ g⟩, ?_⟩
    obtain ⟨q18, g, h⟩ := zB h
    refine ⟨_, z0A _ _ _ g, ?_⟩
    obtain ⟨q19, g, h⟩ := zB h
    refine ⟨_, zH _ _ _ g, ?_⟩
    obtain ⟨q20, g, h⟩ := zB h
    refine ⟨_, _, _, _, _, _, ⟨_, yC _ _ _ g⟩, ?_⟩
    obtain ⟨q21, g, h⟩ := zB h
    refine ⟨_, z0S _ _ _ g, ?_⟩
    obtain ⟨q22, g, h⟩ := zB h
    refine ⟨_, _, _, _, _, _, ⟨_, yC _ _ _ g⟩, ?_⟩
    obtain ⟨q23, g, h⟩ := zB h
    refine ⟨_, z3u _ _ _ g, ?_⟩
    cases h; exact ⟨rfl, rfl⟩
  cases h; exact ⟨rfl, rfl⟩
open Go.RowKit in
theorem y8y {w : World} {M : Nat → Nat → Prop} {b o : Nat} {l : List zF} (hc : RelC w M b o (gR (l.map zF.toD))) {k : Nat} (hk : k < l.length) :
    ∃ v3, w.cell? ⟨b, o + k * 6, none⟩ = some (.int .i64 l[k].K) ∧ w.cell? ⟨b, o + k * 6 + 1, none⟩ = some (.int .i64 l[k].N) ∧ w.cell? ⟨b, o + k * 6 + 2, none⟩ = some (.string ⟨⟨l[k].S⟩⟩) ∧
      w.cell? ⟨b, o + k * 6 + 3, none⟩ = some v3 ∧ w.cell? ⟨b, o + k * 6 + 4, none⟩ = some (.int .i64 l[k].From) ∧ w.cell? ⟨b, o + k * 6 + 5, none⟩ = some (.int .i64 l[k].To) ∧ RelV w M v3 (.sl (l[k].L.map zF.toD)) := by
  have hs : zW 6 (l.map zF.toD) := yZ (fun x => by rw [zF.toD_eq]; rfl)
  have h := hc.elem hs (i := k) (x := l[k].toD) (by rw [List.getElem?_map, List.getElem?_eq_getElem hk]; rfl)
  rw [zF.toD_eq] at h
  cases h with
  | cons _ _ v0 _ _ c0 _ _ r0 h => cases h with
  | cons _ _ v1 _ _ c1 _ _ r1 h => cases h with
  | cons _ _ v2 _ _ c2 _ _ r2 h => cases h with
  | cons _ _ v3 _ _ c3 _ _ r3 h => cases h with
  | cons _ _ v4 _ _ c4 _ _ r4 h => cases h with
  | cons _ _ v5 _ _ c5 _ _ r5 h =>
    cases r0; cases r1; cases r2; cases r4; cases r5
    exact ⟨v3, c0, c1, c2, c3, c4, c5, r3⟩
set_option maxHeartbeats 4000000 in
set_option maxRecDepth 1000000 in
open Go.RowKit Go.Shelf in
theorem y4C (m : zF) (r : Str) (h : z6U m = some r) : Trip Try.prog 12 [.d (gT m.K m.N m.S (List.map zF.toD m.L) m.From m.To)] [] [(nS r)] [] := by
  refine ⟨⟨_, Try.func12, by rfl, by rfl⟩, fun w M0 κ vs B hv => ?_⟩
  cases hv with
  | cons v _ vs _ g1 hv =>
    cases hv
    cases g1 with
    | d _ _ g1 =>
      cases g1 with
      | agg vs _ g1 =>
        cases g1 with
        | cons v0 _ _ _ s0 h0 g1 =>
        cases g1 with
        | cons v1 _ _ _ s1 h1 g1 =>
        cases g1 with
        | cons v2 _ _ _ s2 h2 g1 =>
        cases g1 with
        | cons v3 _ _ _ s3 h3 g1 =>
        cases g1 with
        | cons v4 _ _ _ s4 h4 g1 =>
        cases g1 with
        | cons v5 _ _ _ s5 h5 g1 =>
        cases g1
        cases h0; cases h1; cases h2; cases h4; cases h5
        obtain ⟨ad, cap, rfl, hopen⟩ := v3b h3
        rw [List.length_map] at *
        go_enter Try.func12, Try.ntmps12
        go_wp2
        go_loopw [10] (fun i wr => ∃ (k : Nat) (acc : List UInt8), i = .int .i64 (k : Int) ∧ k ≤ m.L.length ∧ Lib.IsBuilderF 56 5 (w.heap.size + 1) (w.heap.size + 1) (Lib.byteCells acc) wr ∧ Below w.heap.size w wr ∧ z0k (m.L.drop k) acc = some r ∧ k ≤ acc.length) (fun i _ => m.L.length - (intOf i).toNat)
        case atStart =>
          have hf := Lib.fresh_isBuilder 56 5 (w.alloc (.cells #[.int .i64 m.K, .int .i64 m.N, .string ⟨⟨m.S⟩⟩, .slice ad m.L.length cap, .int .i64 m.From, .int .i64 m.To] 29))
          have e1 : (w.alloc (.cells #[.int .i64 m.K, .int .i64 m.N, .string ⟨⟨m.S⟩⟩, .slice ad m.L.length cap, .int .i64 m.From, .int .i64 m.To] 29)).heap.size = w.heap.size + 1 := by simp
          rw [e1] at hf
          refine ⟨0, [], rfl, Nat.zero_le _, Lib.IsBuilderF.of hf, ((Below.refl _ w).alloc (Nat.le_refl _) _).alloc (by simp) _, h, Nat.zero_le _⟩
        case round =>
          obtain ⟨k, acc, rfl, hk, hI, hbw, hgo, hka⟩ := hrel
          by_cases hlt : k < m.L.length
          · obtain ⟨b, o, rfl, hc⟩ := hopen (fun e => by have := congrArg List.length e; simp at this; rw [this] at hlt; simp at hlt)
            obtain ⟨u3, c0, c1, c2, c3, c4, c5, r3⟩ := y8y hc hlt
            have hbs : b < w.heap.size := z6m c0
            have tr : ∀ {p : Nat} {v : Value}, w.cell? ⟨b, p, none⟩ = some v → wr.cell? ⟨b, p, none⟩ = some v := fun {p v} hcv => by
              have := wQ (hbw.block b hbs) p
              exact this.trans hcv
            obtain ⟨ua, un, uc, rfl⟩ := v1V r3
            have d0 := tr c0; have d1 := tr c1; have d2 := tr c2; have d3 := tr c3; have d4 := tr c4; have d5 := tr c5
            rw [List.drop_eq_getElem_cons hlt] at hgo
            rw [z0k] at hgo
            obtain ⟨q, g, hgo⟩ := zB hgo
            obtain ⟨s, hs, hgo⟩ := zB hgo
            obtain ⟨hroom, hgo⟩ := zY hgo
            go_wp2_with fail
            generalize hW1 : ((wr.alloc (Obj.cells #[Value.int IntKind.i64 m.L[k].K, Value.int IntKind.i64 m.L[k].N, Value.string { data := { toList := m.L[k].S } }, Value.slice ua un uc, Value.int IntKind.i64 m.L[k].From, Value.int IntKind.i64 m.L[k].To] 29)).alloc (Obj.cells #[Value.slice none 0 0] 46)) = W1
            have bel1 : Below wr.heap.size wr W1 := by rw [← hW1]; exact ((Below.refl _ wr).alloc (Nat.le_refl _) _).alloc (by simp) _
            have sz1 : W1.heap.size = wr.heap.size + 2 := by rw [← hW1]; simp
            have hp1 : W1.heap[wr.heap.size + 1]? = some (.cells #[.slice none 0 0] 46) := by
              rw [← hW1]
              have := heap_alloc_new (wr.alloc (Obj.cells #[Value.int IntKind.i64 m.L[k].K, Value.int IntKind.i64 m.L[k].N, Value.string { data := { toList := m.L[k].S } }, Value.slice ua un uc, Value.int IntKind.i64 m.L[k].From, Value.int IntKind.i64 m.L[k].To] 29)) (Obj.cells #[Value.slice none 0 0] 46)
              simpa using this
            have cell1 : vX W1 (wr.heap.size + 1) 0 = some (.slice none 0 0) := by simp [vX, World.cell?, hp1]
            have ice1 : icy W1 (wr.heap.size + 1) 0 = false := by simp [icy, World.frozen?, hp1]
            have B1 : Before W1 noM (wK (wr.heap.size + 1)) [[.own 1 []]] := v0V (by omega) cell1 ice1
            have K1 : Keeps w (Mut M0 κ) W1 (Mut noM (wK (wr.heap.size + 1))) := by
              have hb2 : Below w.heap.size w W1 := hbw.trans (bel1.mono hbw.size)
              refine ⟨fun b' o' v hv _ => by rw [wQ (hb2.block b' (z6m hv))]; exact hv, fun b' o' v hv _ hm => ?_⟩
              have h1 := z6m hv
              have h2 := v3F hm
              have h3 := hbw.size
              omega
            refine ((z7I m.L[k] [] q g).2 W1 noM (wK (wr.heap.size + 1)) _ B1 (.cons _ _ _ _ (.hp (wr.heap.size + 1) 0 0 rfl) (.cons _ _ _ _ (.d _ _ (.agg _ _ (.cons _ _ _ _ rfl (.int _ _) (.cons _ _ _ _ rfl (.int _ _) (.cons _ _ _ _ rfl (.str _) (.cons _ _ _ _ rfl (r3.keep K1) (.cons _ _ _ _ rfl (.int _ _) (.cons _ _ _ _ rfl (.int _ _) .nil)))))))) .nil))).mono ?_
            rintro e W2 ⟨v, κ2, rfl, A2, hres⟩
            obtain ⟨vs2, rfl, hv2, -⟩ := hres
            have bel2 : Below wr.heap.size wr W2 := v1Z bel1 (by omega) A2
            have B2 := y4M A2
            go_wp2_with fail
            refine ((z3V q s hs).2 W2 noM (z7h κ2) _ B2 (.cons _ _ _ _ (.hp (wr.heap.size + 1) 0 0 (A2.hp 0 _ rfl)) .nil)).mono ?_
            rintro e W3 ⟨v, κ3, rfl, A3, hres⟩
            have hv3 : v = .string ⟨⟨s⟩⟩ := by
              have := hres.2
              cases this with
              | d _ _ h => cases h; rfl
            subst hv3
            have sz2 := bel2.size
            have bel3 : Below wr.heap.size wr W3 := bel2.trans ⟨A3.kept.os, A3.kept.tape, A3.kept.output, A3.kept.size, fun j hj => A3.kept.block j (by omega) (fun ⟨key, lo, hk⟩ => by
              obtain ⟨-, hk2⟩ := gE hk
              rcases (A2.kb key j lo hk2).2 with h9 | ⟨key', lo', h9⟩
              · omega
              · have := (z8k h9).2; simp at this; omega)⟩
            have hI3 := y9q hI bel3
            have szW3 := bel3.size
            have szw := hbw.size
            have hIlt : w.heap.size + 1 < wr.heap.size := by
              rcases hI with ⟨h1, v, h2, -⟩ | ⟨h1, v, h2, -⟩ <;> exact (Array.getElem?_eq_some_iff.1 h2).1
            go_wp2_with fail
            refine (Any.Builder_WriteString_k (ρ := v3j) { v3S with } v3K (w.heap.size + 1) (w.heap.size + 1) _ ⟨⟨s⟩⟩ W3 hI3 (by rw [Lib.byteCells_length]; show _ + s.length ≤ _; omega) (by omega)).mono ?_
            rintro e W4 ⟨rfl, hI4, bel4, -⟩
            go_wp2_with fail
            refine (Any.Builder_WriteByte_k (ρ := v3j) v2I v3K (w.heap.size + 1) (w.heap.size + 1) _ 10 W4 (Or.inr hI4) (by rw [List.length_append, Lib.byteCells_length, Lib.strCells_length]; show _ + s.length + 1 ≤ _; omega) (by have := bel4.size; omega)).mono ?_
            rintro e W5 ⟨rfl, hI5, bel5, -⟩
            have a1 : k + 1 ≤ m.L.length := hlt
            have a3 : k + 1 ≤ (acc ++ s ++ [10]).length := by simp; omega
            have b5 : Below w.heap.size w W5 := ((hbw.trans (bel3.mono szw)).trans (bel4.mono (Nat.le_succ _))).trans (bel5.mono (Nat.le_succ _))
            have i5 : Lib.IsBuilderF 56 5 (w.heap.size + 1) (w.heap.size + 1) (Lib.byteCells (acc ++ s ++ [10])) W5 := by
              rw [Lib.byteCells_append, Lib.byteCells_append]
              exact Or.inr hI5
            have hm9 : m.L.length - (k + 1) < m.L.length - k := by omega
            have hwr : wrap64 ((k : Int) + 1) = ((k + 1 : Nat) : Int) := (IntWalk.wrap64_in _ ⟨by omega, by omega⟩).trans (by omega)
            clear hroom hka
            go_wp2
            go_roundw
            case rel => exact ⟨k + 1, acc ++ s ++ [10], congrArg _ hwr, a1, i5, b5, hgo, a3⟩
            case measure =>
              rw [y5F, y5F, hwr, Int.toNat_natCast, Int.toNat_natCast]; exact hm9
          · have hke : k = m.L.length := by omega
            subst hke
            rw [List.drop_eq_nil_of_le (Nat.le_refl _)] at hgo
            have hr : acc = r := by simpa [z0k] using hgo
            subst hr
            go_wp2_with fail
            refine (Any.Builder_String_any_k (ρ := v3j) { v3S with } v3K (w.heap.size + 1) (w.heap.size + 1) acc wr hI (by
              rcases hI with ⟨h1, v, h2, -⟩ | ⟨h1, v, h2, -⟩ <;> exact Nat.le_of_lt (Array.getElem?_eq_some_iff.1 h2).1)).mono ?_
            rintro e W1 ⟨rfl, h9, b1, -⟩
            go_wp2
            go_ret
            exact ⟨_, κ, rfl, y1d B (hbw.trans (b1.mono (by omega))), rfl, .d _ _ (.str acc)⟩
theorem z8u (text : Str) (at_ : Int) (s : Str) (r : Bool) (h : z2P text at_ s = some r) : Trip Try.prog 34 [(nS text), (nI at_), (nS s)] [] [(nB r)] [] := by
  unfold z2P at h
  refine yF 1000 (by kernel_rfl) (by kernel_rfl) (by kernel_rfl) (by kernel_rfl) (by kernel_rfl) (y3E _ _ _ _ text at_ s) ?_
  rintro _ rfl
  rintro _ rfl
  rintro _ rfl
  rintro _ rfl
  refine zE decide_eq_true_iff h (fun _ h => ?_) (fun _ h => ?_)
  ·
    rintro _ rfl
    rintro _ rfl
    obtain ⟨hP, h⟩ := zY h
    refine ⟨by first | exact hP | simpa using hP, ?_⟩
    obtain ⟨hP, h⟩ := zY h
    refine ⟨by first | exact hP | simpa using hP, ?_⟩
    obtain ⟨hP, h⟩ := zY h
    refine ⟨by first | exact hP | simpa using hP, ?_⟩
    obtain ⟨hP, h⟩ := zY h
    refine ⟨by first | exact hP | simpa using hP, ?_⟩
    rintro _ rfl
    rintro _ rfl
    cases h; exact ⟨rfl, rfl⟩
  cases h; exact ⟨rfl, rfl⟩
theorem y4E (c : Int) (r : Bool) (h : z4I c = some r) : Trip Try.prog 33 [.d (.int .u8 c)] [] [(nB r)] [] := by
  unfold z4I at h
  refine yF 1000 (by kernel_rfl) (by kernel_rfl) (by kernel_rfl) (by kernel_rfl) (by kernel_rfl) (y5n _ _ _ _ c) ?_
  rintro _ rfl
  refine zE beq_iff_eq h (fun _ h => ?_) (fun _ h => ?_)
  ·
    cases h; exact ⟨rfl, rfl⟩
  rintro _ rfl
  refine zE beq_iff_eq h (fun _ h => ?_) (fun _ h => ?_)
  ·
    cases h; exact ⟨rfl, rfl⟩
  rintro _ rfl
  refine zE beq_iff_eq h (fun _ h => ?_) (fun _ h => ?_)
  ·
    cases h; exact ⟨rfl, rfl⟩
  rintro _ rfl
  cases h; exact ⟨rfl, rfl⟩
def z7o : (i : jF) → z4v i → Prop
  | .yL text at_, r => Ok (z3X (Trip Try.prog) [(nI r)] []) (kL Try.f15 1) ⟨32, [(0, (nS text)), (1, (nI at_))], [], [], 0⟩
  | .vT text at_, r => Ok (z3X (Trip Try.prog) [(nI r)] []) (kL Try.f15 5) ⟨32, [(0, (nS text)), (1, (nI at_))], [], [], 0⟩
theorem y2l : ∀ i r, gV z1b i = some r → z7o i r := by
  refine yU z4t fun g ih i => ?_
  cases i with
  | yL text at_ =>
    have ih_ref05Next_L1 := fun text at_ r h => ih (.yL text at_) r h
    have ih_ref05Next_L5 := fun text at_ r h => ih (.vT text at_) r h
    intro r h
    replace h : z0q (fun text at_ => g (jF.yL text at_)) (fun text at_ => g (jF.vT text at_)) text at_ = some r := h
    unfold z0q at h
    refine z1F 1000 (y2y _ _ _ _ text at_) ?_
    rintro _ rfl
    rintro _ rfl
    refine zE decide_eq_true_iff h (fun _ h => ?_) (fun _ h => ?_)
    ·
      obtain ⟨c, hx, h⟩ := zB h
      refine ⟨z0z hx, c, v2a hx, ?_⟩
      rintro _ rfl
      obtain ⟨q1, g, h⟩ := zB h
      refine ⟨_, ⟨_, y4E _ _ g⟩, ?_⟩
      refine zE Iff.rfl h (fun _ h => ?_) (fun _ h => ?_)
      ·
        rintro _ rfl
        exact ih_ref05Next_L1 _ _ _ h
      obtain ⟨q2, g, h⟩ := zB h
      refine ⟨_, ⟨_, z8u _ _ _ _ g⟩, ?_⟩
      refine zE Iff.rfl h (fun _ h => ?_) (fun _ h => ?_)
      ·
        exact ih_ref05Next_L5 _ _ _ h
      cases h; exact ⟨rfl, rfl⟩
    cases h; exact ⟨rfl, rfl⟩
  | vT text at_ =>
    have ih_ref05Next_L1 := fun text at_ r h => ih (.yL text at_) r h
    have ih_ref05Next_L5 := fun text at_ r h => ih (.vT text at_) r h
    intro r h
    replace h : z0r (fun text at_ => g (jF.yL text at_)) (fun text at_ => g (jF.vT text at_)) text at_ = some r := h
    unfold z0r at h
    refine z1F 1000 (y2z _ _ _ _ text at_) ?_
    rintro _ rfl
    rintro _ rfl
    refine zE decide_eq_true_iff h (fun _ h => ?_) (fun _ h => ?_)
    ·
      obtain ⟨c, hx, h⟩ := zB h
      refine ⟨z0z hx, c, v2a hx, ?_⟩
      rintro _ rfl
      rintro _ rfl
      refine zN beq_iff_eq h (fun _ h => ?_) (fun _ h => ?_)
      ·
        exact ih_ref05Next_L1 _ _ _ h
      rintro _ rfl
      exact ih_ref05Next_L5 _ _ _ h
    exact ih_ref05Next_L1 _ _ _ h
theorem y2r (text : Str) (at_ r : Int) (h : yL text at_ = some r) : z7o (.yL text at_) r := y2l (.yL text at_) r h
theorem y0T (text : Str) (at_ r : Int) (h : z4J text at_ = some r) : Trip Try.prog 15 [(nS text), (nI at_)] [] [(nI r)] [] := by
  unfold z4J at h
  refine yF 1000 (by kernel_rfl) (by kernel_rfl) (by kernel_rfl) (by kernel_rfl) (by kernel_rfl) (y6B _ _ _ _ text at_) ?_
  exact y2r _ _ _ h
theorem z5Y (c : Int) (r : Bool) (h : z2Q c = some r) : Trip Try.prog 36 [.d (.int .u8 c)] [] [(nB r)] [] := by
  unfold z2Q at h
  refine yF 1000 (by kernel_rfl) (by kernel_rfl) (by kernel_rfl) (by kernel_rfl) (by kernel_rfl) (y5o _ _ _ _ c) ?_
  rintro _ rfl
  refine zE decide_eq_true_iff h (fun _ h => ?_) (fun _ h => ?_)
  ·
    rintro _ rfl
    cases h; exact ⟨rfl, rfl⟩
  cases h; exact ⟨rfl, rfl⟩
theorem z8w (c : Int) (r : Bool) (h : z2R c = some r) : Trip Try.prog 35 [.d (.int .u8 c)] [] [(nB r)] [] := by
  unfold z2R at h
  refine yF 1000 (by kernel_rfl) (by kernel_rfl) (by kernel_rfl) (by kernel_rfl) (by kernel_rfl) (y3G _ _ _ _ c) ?_
  rintro _ rfl
  refine zE decide_eq_true_iff h (fun _ h => ?_) (fun _ h => ?_)
  ·
    rintro _ rfl
    refine zE decide_eq_true_iff h (fun _ h => ?_) (fun _ h => ?_)
    ·
      cases h; exact ⟨rfl, rfl⟩
    rintro _ rfl
    refine zE decide_eq_true_iff h (fun _ h => ?_) (fun _ h => ?_)
    ·
      rintro _ rfl
      refine zE decide_eq_true_iff h (fun _ h => ?_) (fun _ h => ?_)
      ·
        cases h; exact ⟨rfl, rfl⟩
      rintro _ rfl
      cases h; exact ⟨rfl, rfl⟩
    rintro _ rfl
    cases h; exact ⟨rfl, rfl⟩
  rintro _ rfl
  refine zE decide_eq_true_iff h (fun _ h => ?_) (fun _ h => ?_)
  ·
    rintro _ rfl
    refine zE decide_eq_true_iff h (fun _ h => ?_) (fun _ h => ?_)
    ·
      cases h; exact ⟨rfl, rfl⟩
    rintro _ rfl
    cases h; exact ⟨rfl, rfl⟩
  rintro _ rfl
  cases h; exact ⟨rfl, rfl⟩
def z5u : (i : z1L) → z3l i → Prop
  | .yO s v i, r => Ok (z5d (Trip Try.prog) [(nI r.1), (nB r.2)] []) (kL Try.f39 5) ⟨41, [(0, (nS s)), (4, (nI v)), (5, (nI i))], [], [], 0⟩
theorem y0e : ∀ i r, gV z1H i = some r → z5u i r := by
  refine yU z5q fun g ih i => ?_
  cases i with
  | yO s v i =>
    have ih_ref05Number_L5 := fun s v i r h => ih (.yO s v i) r h
    intro r h
    replace h : gH (fun s v i => g (z1L.yO s v i)) s v i = some r := h
    unfold gH at h
    refine z1F 1000 (y0n _ _ _ _ s v i) ?_
    rintro _ rfl
    rintro _ rfl
    refine zE decide_eq_true_iff h (fun _ h => ?_) (fun _ h => ?_)
    ·
      obtain ⟨c, hx, h⟩ := zB h
      refine ⟨z0z hx, c, v2a hx, ?_⟩
      rintro _ rfl
      rintro _ rfl
      rintro _ rfl
      rintro _ rfl
      obtain ⟨hP, h⟩ := zY h
      refine ⟨by first | exact hP | simpa using hP, ?_⟩
      rintro _ rfl
      rintro _ rfl
      refine zE decide_eq_true_iff h (fun _ h => ?_) (fun _ h => ?_)
      ·
        cases h; exact ⟨rfl, rfl⟩
      rintro _ rfl
      rintro _ rfl
      rintro _ rfl
      exact ih_ref05Number_L5 _ _ _ _ h
    cases h; exact ⟨rfl, rfl⟩
theorem z5y (s : Str) (v i : Int) (r : Int × Bool) (h : yO s v i = some r) : z5u (.yO s v i) r := y0e (.yO s v i) r h
theorem z8x (s : Str) (r : Int × Bool) (h : z1Z s = some r) : Trip Try.prog 39 [(nS s)] [] [(nI r.1), (nB r.2)] [] := by
  unfold z1Z at h
  refine yF 1000 (by kernel_rfl) (by kernel_rfl) (by kernel_rfl) (by kernel_rfl) (by kernel_rfl) (y3H _ _ _ _ s) ?_
  rintro _ rfl
  rintro _ rfl
  refine zE beq_iff_eq h (fun _ h => ?_) (fun _ h => ?_)
  ·
    cases h; exact ⟨rfl, rfl⟩
  rintro _ rfl
  rintro _ rfl
  refine zE decide_eq_true_iff h (fun _ h => ?_) (fun _ h => ?_)
  ·
    obtain ⟨c, hx, h⟩ := zB h
    refine ⟨z0z hx, c, v2a hx, ?_⟩
    rintro _ rfl
    rintro _ rfl
    refine zE beq_iff_eq h (fun _ h => ?_) (fun _ h => ?_)
    ·
      cases h; exact ⟨rfl, rfl⟩
    exact z5y _ _ _ _ h
  exact z5y _ _ _ _ h
def z7p : (i : z2Y) → z4w i → Prop
  | .wH text at_ to_ o4, r => Ok (z2K (Trip Try.prog) [.d (gK r.1.K r.1.N r.1.S r.1.From r.1.To), (nI r.2)] []) (kL Try.f16 13) ⟨114, [(0, (nS text)), (1, (nI at_)), (4, .ref 4 1 0), (7, (nI to_))], [(4, 1, some (.agg (gK o4.K o4.N o4.S o4.From o4.To)))], [], 0⟩
theorem y2m : ∀ i r, gV z2U i = some r → z7p i r := by
  refine yU z7k fun g ih i => ?_
  cases i with
  | wH text at_ to_ o4 =>
    have ih_ref05One_L13 := fun text at_ to_ o4 r h => ih (.wH text at_ to_ o4) r h
    intro r h
    replace h : z0s (fun text at_ to_ o4 => g (z2Y.wH text at_ to_ o4)) text at_ to_ o4 = some r := h
    unfold z0s at h
    refine z1F 1000 (y2A _ _ _ _ text at_ to_ o4) ?_
    rintro _ rfl
    rintro _ rfl
    refine zE decide_eq_true_iff h (fun _ h => ?_) (fun _ h => ?_)
    ·
      obtain ⟨c, hx, h⟩ := zB h
      refine ⟨z0z hx, c, v2a hx, ?_⟩
      rintro _ rfl
      obtain ⟨q1, g, h⟩ := zB h
      refine ⟨_, ⟨_, z5Y _ _ g⟩, ?_⟩
      refine zE Iff.rfl h (fun _ h => ?_) (fun _ h => ?_)
      ·
        rintro _ rfl
        exact ih_ref05One_L13 _ _ _ _ _ h
      obtain ⟨hP, h⟩ := zY h
      refine ⟨by first | exact hP | simpa using hP, ?_⟩
      obtain ⟨hP, h⟩ := zY h
      refine ⟨by first | exact hP | simpa using hP, ?_⟩
      obtain ⟨hP, h⟩ := zY h
      refine ⟨by first | exact hP | simpa using hP, ?_⟩
      obtain ⟨hP, h⟩ := zY h
      refine ⟨by first | exact hP | simpa using hP, ?_⟩
      rintro _ rfl
      obtain ⟨q2, g, h⟩ := zB h
      refine ⟨_, _, ⟨_, z8x _ _ g⟩, ?_⟩
      refine zN Iff.rfl h (fun _ h => ?_) (fun _ h => ?_)
      ·
        cases h; exact ⟨rfl, rfl⟩
      cases h; exact ⟨rfl, rfl⟩
    obtain ⟨hP, h⟩ := zY h
    refine ⟨by first | exact hP | simpa using hP, ?_⟩
    obtain ⟨hP, h⟩ := zY h
    refine ⟨by first | exact hP | simpa using hP, ?_⟩
    obtain ⟨hP, h⟩ := zY h
    refine ⟨by first | exact hP | simpa using hP, ?_⟩
    obtain ⟨hP, h⟩ := zY h
    refine ⟨by first | exact hP | simpa using hP, ?_⟩
    rintro _ rfl
    obtain ⟨q3, g, h⟩ := zB h
    refine ⟨_, _, ⟨_, z8x _ _ g⟩, ?_⟩
    refine zN Iff.rfl h (fun _ h => ?_) (fun _ h => ?_)
    ·
      cases h; exact ⟨rfl, rfl⟩
    cases h; exact ⟨rfl, rfl⟩
theorem y2s (text : Str) (at_ to_ : Int) (o4 : zC) (r : zC × Int) (h : wH text at_ to_ o4 = some r) : z7p (.wH text at_ to_ o4) r := y2m (.wH text at_ to_ o4) r h
def z7q : (i : z2Z) → z4x i → Prop
  | .wI text at_ all i o4, r => Ok (z2K (Trip Try.prog) [.d (gK r.1.K r.1.N r.1.S r.1.From r.1.To), (nI r.2)] []) (kL Try.f16 21) ⟨114, [(0, (nS text)), (1, (nI at_)), (4, .ref 4 1 0), (11, .d (.sl (List.map D.str all))), (12, (nI i))], [(4, 1, some (.agg (gK o4.K o4.N o4.S o4.From o4.To)))], [], 0⟩
theorem y2n : ∀ i r, gV z2V i = some r → z7q i r := by
  refine yU z7l fun g ih i => ?_
  cases i with
  | wI text at_ all i o4 =>
    have ih_ref05One_L21 := fun text at_ all i o4 r h => ih (.wI text at_ all i o4) r h
    intro r h
    replace h : z0t (fun text at_ all i o4 => g (z2Z.wI text at_ all i o4)) text at_ all i o4 = some r := h
    unfold z0t at h
    refine z1F 1000 (y2B _ _ _ _ text at_ all i o4) ?_
    refine z0Z (e' := (List.length all : Int)) (by first | rfl | rw [List.length_map]) ?_
    rintro _ rfl
    refine zE decide_eq_true_iff h (fun _ h => ?_) (fun _ h => ?_)
    ·
      obtain ⟨x, hx, h⟩ := zB h
      refine ⟨yZ (l := all) (fun _ => rfl), z0z hx, x, uC rfl hx, ?_⟩
      obtain ⟨q1, g, h⟩ := zB h
      refine ⟨_, ⟨_, z8u _ _ _ _ g⟩, ?_⟩
      refine zE Iff.rfl h (fun _ h => ?_) (fun _ h => ?_)
      ·
        obtain ⟨x1, hx, h⟩ := zB h
        refine ⟨yZ (l := all) (fun _ => rfl), z0z hx, x1, uC rfl hx, ?_⟩
        obtain ⟨x2, hx, h⟩ := zB h
        refine ⟨yZ (l := all) (fun _ => rfl), z0z hx, x2, uC rfl hx, ?_⟩
        rintro _ rfl
        rintro _ rfl
        cases h; exact ⟨rfl, rfl⟩
      rintro _ rfl
      exact ih_ref05One_L21 _ _ _ _ _ _ h
    cases h; exact ⟨rfl, rfl⟩
theorem y2t (text : Str) (at_ : Int) (all : List Str) (i : Int) (o4 : zC) (r : zC × Int) (h : wI text at_ all i o4 = some r) : z7q (.wI text at_ all i o4) r := y2n (.wI text at_ all i o4) r h
def z5O : (i : z2u) → z3R i → Prop
  | .vQ s all i, r => Ok (z6g (Trip Try.prog) [(nB r)] []) (kL Try.f37 2) ⟨18, [(0, (nS s)), (1, .d (.sl (List.map D.str all))), (5, (nI i))], [], [], 0⟩
theorem y0I : ∀ i r, gV z2q i = some r → z5O i r := by
  refine yU z5J fun g ih i => ?_
  cases i with
  | vQ s all i =>
    have ih_ref05Among_L2 := fun s all i r h => ih (.vQ s all i) r h
    intro r h
    replace h : z0a (fun s all i => g (z2u.vQ s all i)) s all i = some r := h
    unfold z0a at h
    refine z1F 1000 (y1r _ _ _ _ s all i) ?_
    refine z0Z (e' := (List.length all : Int)) (by first | rfl | rw [List.length_map]) ?_
    rintro _ rfl
    refine zE decide_eq_true_iff h (fun _ h => ?_) (fun _ h => ?_)
    ·
      obtain ⟨x, hx, h⟩ := zB h
      refine ⟨yZ (l := all) (fun _ => rfl), z0z hx, x, uC rfl hx, ?_⟩
      rintro _ rfl
      refine zE beq_iff_eq h (fun _ h => ?_) (fun _ h => ?_)
      ·
        cases h; exact ⟨rfl, rfl⟩
      rintro _ rfl
      exact ih_ref05Among_L2 _ _ _ _ h
    cases h; exact ⟨rfl, rfl⟩
theorem y0S (s : Str) (all : List Str) (i : Int) (r : Bool) (h : vQ s all i = some r) : z5O (.vQ s all i) r := y0I (.vQ s all i) r h
theorem z9M (s : Str) (all : List Str) (r : Bool) (h : z2O s all = some r) : Trip Try.prog 37 [(nS s), .d (.sl (List.map D.str all))] [] [(nB r)] [] := by
  unfold z2O at h
  refine yF 1000 (by kernel_rfl) (by kernel_rfl) (by kernel_rfl) (by kernel_rfl) (by kernel_rfl) (y5m _ _ _ _ s all) ?_
  exact y0S _ _ _ _ h
theorem z9N  (r : List Str) (h : z3I = some r) : Trip Try.prog 38 [] [] [.d (.sl (List.map D.str r))] [] := by
  unfold z3I at h
  refine yF 1000 (by kernel_rfl) (by kernel_rfl) (by kernel_rfl) (by kernel_rfl) (by kernel_rfl) (y5q _ _ _ _ ) ?_
  cases h; exact ⟨rfl, rfl⟩
def z8t : (i : z3B) → z5a i → Prop
  | .wN text at_ to_ o4, r => Ok (z2K (Trip Try.prog) [.d (gK r.1.K r.1.N r.1.S r.1.From r.1.To), (nI r.2)] []) (kL Try.f16 4) ⟨114, [(0, (nS text)), (1, (nI at_)), (4, .ref 4 1 0), (7, (nI to_))], [(4, 1, some (.agg (gK o4.K o4.N o4.S o4.From o4.To)))], [], 0⟩
theorem y3p : ∀ i r, gV z3z i = some r → z8t i r := by
  refine yU z8r fun g ih i => ?_
  cases i with
  | wN text at_ to_ o4 =>
    have ih_ref05One_L4 := fun text at_ to_ o4 r h => ih (.wN text at_ to_ o4) r h
    intro r h
    replace h : z0X (fun text at_ to_ o4 => g (z3B.wN text at_ to_ o4)) text at_ to_ o4 = some r := h
    unfold z0X at h
    refine z1F 1000 (y3I _ _ _ _ text at_ to_ o4) ?_
    rintro _ rfl
    rintro _ rfl
    refine zE decide_eq_true_iff h (fun _ h => ?_) (fun _ h => ?_)
    ·
      obtain ⟨c, hx, h⟩ := zB h
      refine ⟨z0z hx, c, v2a hx, ?_⟩
      rintro _ rfl
      obtain ⟨q1, g, h⟩ := zB h
      refine ⟨_, ⟨_, z8w _ _ g⟩, ?_⟩
      refine zE Iff.rfl h (fun _ h => ?_) (fun _ h => ?_)
      ·
        rintro _ rfl
        exact ih_ref05One_L4 _ _ _ _ _ h
      obtain ⟨c1, hx, h⟩ := zB h
      refine ⟨z0z hx, c1, v2a hx, ?_⟩
      rintro _ rfl
      obtain ⟨q2, g, h⟩ := zB h
      refine ⟨_, ⟨_, z5Y _ _ g⟩, ?_⟩
      refine zE Iff.rfl h (fun _ h => ?_) (fun _ h => ?_)
      ·
        rintro _ rfl
        exact ih_ref05One_L4 _ _ _ _ _ h
      rintro _ rfl
      rintro _ rfl
      refine zE decide_eq_true_iff h (fun _ h => ?_) (fun _ h => ?_)
      ·
        cases h; exact ⟨rfl, rfl⟩
      obtain ⟨hP, h⟩ := zY h
      refine ⟨by first | exact hP | simpa using hP, ?_⟩
      obtain ⟨hP, h⟩ := zY h
      refine ⟨by first | exact hP | simpa using hP, ?_⟩
      obtain ⟨hP, h⟩ := zY h
      refine ⟨by first | exact hP | simpa using hP, ?_⟩
      obtain ⟨hP, h⟩ := zY h
      refine ⟨by first | exact hP | simpa using hP, ?_⟩
      rintro _ rfl
      obtain ⟨q3, g, h⟩ := zB h
      refine ⟨_, ⟨_, z9N _ g⟩, ?_⟩
      obtain ⟨q4, g, h⟩ := zB h
      refine ⟨_, ⟨_, z9M _ _ _ g⟩, ?_⟩
      refine zE Iff.rfl h (fun _ h => ?_) (fun _ h => ?_)
      ·
        cases h; exact ⟨rfl, rfl⟩
      cases h; exact ⟨rfl, rfl⟩
    rintro _ rfl
    rintro _ rfl
    refine zE decide_eq_true_iff h (fun _ h => ?_) (fun _ h => ?_)
    ·
      cases h; exact ⟨rfl, rfl⟩
    obtain ⟨hP, h⟩ := zY h
    refine ⟨by first | exact hP | simpa using hP, ?_⟩
    obtain ⟨hP, h⟩ := zY h
    refine ⟨by first | exact hP | simpa using hP, ?_⟩
    obtain ⟨hP, h⟩ := zY h
    refine ⟨by first | exact hP | simpa using hP, ?_⟩
    obtain ⟨hP, h⟩ := zY h
    refine ⟨by first | exact hP | simpa using hP, ?_⟩
    rintro _ rfl
    obtain ⟨q5, g, h⟩ := zB h
    refine ⟨_, ⟨_, z9N _ g⟩, ?_⟩
    obtain ⟨q6, g, h⟩ := zB h
    refine ⟨_, ⟨_, z9M _ _ _ g⟩, ?_⟩
    refine zE Iff.rfl h (fun _ h => ?_) (fun _ h => ?_)
    ·
      cases h; exact ⟨rfl, rfl⟩
    cases h; exact ⟨rfl, rfl⟩
theorem y3q (text : Str) (at_ to_ : Int) (o4 : zC) (r : zC × Int) (h : wN text at_ to_ o4 = some r) : z8t (.wN text at_ to_ o4) r := y3p (.wN text at_ to_ o4) r h
theorem y4F  (r : List Str) (h : z6Y = some r) : Trip Try.prog 40 [] [] [.d (.sl (List.map D.str r))] [] := by
  unfold z6Y at h
  refine yF 1000 (by kernel_rfl) (by kernel_rfl) (by kernel_rfl) (by kernel_rfl) (by kernel_rfl) (y5p _ _ _ _ ) ?_
  cases h; exact ⟨rfl, rfl⟩
theorem y8l (text : Str) (at_ : Int) (r : zC × Int) (h : z8R text at_ = some r) : Trip Try.prog 16 [(nS text), (nI at_)] [] [.d (gK r.1.K r.1.N r.1.S r.1.From r.1.To), (nI r.2)] [] := by
  unfold z8R at h
  refine yF 1000 (by kernel_rfl) (by kernel_rfl) (by kernel_rfl) (by kernel_rfl) (by kernel_rfl) (y8u _ _ _ _ text at_) ?_
  obtain ⟨c, hx, h⟩ := zB h
  refine ⟨z0z hx, c, v2a hx, ?_⟩
  rintro _ rfl
  obtain ⟨q1, g, h⟩ := zB h
  refine ⟨_, ⟨_, z8w _ _ g⟩, ?_⟩
  refine zE Iff.rfl h (fun _ h => ?_) (fun _ h => ?_)
  ·
    exact y3q _ _ _ _ _ h
  obtain ⟨q2, g, h⟩ := zB h
  refine ⟨_, ⟨_, z5Y _ _ g⟩, ?_⟩
  refine zE Iff.rfl h (fun _ h => ?_) (fun _ h => ?_)
  ·
    exact y2s _ _ _ _ _ h
  obtain ⟨q3, g, h⟩ := zB h
  refine ⟨_, ⟨_, y4F _ g⟩, ?_⟩
  exact y2t _ _ _ _ _ _ h
def z5v : (i : z1M) → z3m i → Prop
  | .vK text out at_, r => Ok (z5e (Trip Try.prog) (hU (List.map zC.toD r.1) r.2.1 r.2.2) []) (kL Try.f6 5) ⟨47, [(0, (nS text)), (5, .right 9 1 5 (List.map zC.toD out)), (6, (nI at_))], [(9, 1, some (.tok 5 (List.length (List.map zC.toD out))))], [], 0⟩
theorem y0f : ∀ i r, gV z1I i = some r → z5v i r := by
  refine yU z5r fun g ih i => ?_
  cases i with
  | vK text out at_ =>
    have ih_ref05Tokens_L5 := fun text out at_ r h => ih (.vK text out at_) r h
    intro r h
    replace h : z0i (fun text out at_ => g (z1M.vK text out at_)) text out at_ = some r := h
    unfold z0i at h
    refine z1F 1000 (y0o _ _ _ _ text out at_) ?_
    rintro _ rfl
    rintro _ rfl
    refine zE decide_eq_true_iff h (fun _ h => ?_) (fun _ h => ?_)
    ·
      obtain ⟨q1, g, h⟩ := zB h
      refine ⟨_, _, _, _, _, _, ⟨_, y8l _ _ _ g⟩, ?_⟩
      rintro _ rfl
      refine zN beq_iff_eq h (fun _ h => ?_) (fun _ h => ?_)
      ·
        refine ⟨by simp [zW, D.cells], ?_⟩
        refine ⟨by first | rfl | decide | simp only [List.length_map, List.length_cons, List.length_nil, List.map_append, List.length_append], ?_⟩
        obtain ⟨hP, h⟩ := zY h
        refine ⟨by first | exact hP | simpa using hP, ?_⟩
        refine z0Z (e' := List.map zC.toD (out ++ [q1.1])) (by first | rfl | simp only [List.map_append, List.map_cons, List.map_nil, List.map_take, List.map_drop, List.map_set, List.map_replicate, List.length_map, zC.toD_eq]) ?_
        obtain ⟨q2, g, h⟩ := zB h
        refine ⟨_, ⟨_, y0T _ _ _ g⟩, ?_⟩
        exact ih_ref05Tokens_L5 _ _ _ _ h
      cases h; exact ⟨rfl, rfl⟩
    rintro _ rfl
    rintro _ rfl
    refine ⟨by simp [zW, D.cells], ?_⟩
    refine ⟨by first | rfl | decide | simp only [List.length_map, List.length_cons, List.length_nil, List.map_append, List.length_append], ?_⟩
    obtain ⟨hP, h⟩ := zY h
    refine ⟨by first | exact hP | simpa using hP, ?_⟩
    refine z0Z (e' := List.map zC.toD (out ++ [(zC.mk 5 0 [] (List.length text : Int) (List.length text : Int))])) (by first | rfl | simp only [List.map_append, List.map_cons, List.map_nil, List.map_take, List.map_drop, List.map_set, List.map_replicate, List.length_map, zC.toD_eq]) ?_
    cases h; exact ⟨rfl, rfl⟩
theorem y0j (text : Str) (out : List zC) (at_ : Int) (r : List zC × Int × Int) (h : vK text out at_ = some r) : z5v (.vK text out at_) r := y0f (.vK text out at_) r h
theorem y3r (text : Str) (r : List zC × Int × Int) (h : z4e text = some r) : Trip Try.prog 6 [(nS text)] [] (hU (List.map zC.toD r.1) r.2.1 r.2.2) [] := by
  unfold z4e at h
  refine yF 1000 (by kernel_rfl) (by kernel_rfl) (by kernel_rfl) (by kernel_rfl) (by kernel_rfl) (y3J _ _ _ _ text) ?_
  rintro _ rfl
  rintro _ rfl
  refine zE decide_eq_true_iff h (fun _ h => ?_) (fun _ h => ?_)
  ·
    cases h; exact ⟨rfl, rfl⟩
  obtain ⟨q1, g, h⟩ := zB h
  refine ⟨_, ⟨_, y0T _ _ _ g⟩, ?_⟩
  exact y0j _ _ _ _ h
def z9G : (i : z0P) → z5S i → Prop
  | .uK t, r => Trip Try.prog 26 [.d (gT t.K t.N t.S (List.map zF.toD t.L) t.From t.To)] [] [(nI r)] []
  | .vB most i t, r => Ok (z6h (Trip Try.prog) [(nI r)] []) (kL Try.f26 3) ⟨25, [(1, .ref 1 1 0), (3, (nI most)), (4, (nI i))], [(1, 1, some (.agg (gT t.K t.N t.S (List.map zF.toD t.L) t.From t.To)))], [], 0⟩
theorem y4y : ∀ i r, gV z2g i = some r → z9G i r := by
  refine yU z5K fun g ih i => ?_
  cases i with
  | uK t =>
    have ih_ref06Depth_L3 := fun most i t r h => ih (.vB most i t) r h
    intro r h
    replace h : z2k (fun most i t => g (z0P.vB most i t)) t = some r := h
    unfold z2k at h
    refine yF 1000 (by kernel_rfl) (by kernel_rfl) (by kernel_rfl) (by kernel_rfl) (by kernel_rfl) (y5r _ _ _ _ t) ?_
    exact ih_ref06Depth_L3 _ _ _ _ h
  | vB most i t =>
    have ih_ref06Depth := fun t r h => ih (.uK t) r h
    have ih_ref06Depth_L3 := fun most i t r h => ih (.vB most i t) r h
    intro r h
    replace h : z0b (fun t => g (z0P.uK t)) (fun most i t => g (z0P.vB most i t)) most i t = some r := h
    unfold z0b at h
    refine z1F 1000 (y1s _ _ _ _ most i t) ?_
    refine z0Z (e' := (List.length t.L : Int)) (by first | rfl | rw [List.length_map]) ?_
    rintro _ rfl
    refine zE decide_eq_true_iff h (fun _ h => ?_) (fun _ h => ?_)
    ·
      obtain ⟨x, hx, h⟩ := zB h
      refine ⟨yZ (l := t.L) (zF.sz), z0z hx, x.K, x.N, x.S, List.map zF.toD x.L, x.From, x.To, uC (zF.toD_eq x) hx, ?_⟩
      obtain ⟨q1, g, h⟩ := zB h
      refine ⟨_, ⟨_, ih_ref06Depth _ _ g⟩, ?_⟩
      rintro _ rfl
      refine zE decide_eq_true_iff h (fun _ h => ?_) (fun _ h => ?_)
      ·
        rintro _ rfl
        exact ih_ref06Depth_L3 _ _ _ _ h
      rintro _ rfl
      exact ih_ref06Depth_L3 _ _ _ _ h
    rintro _ rfl
    cases h; exact ⟨rfl, rfl⟩
theorem y4G (t : zF) (r : Int) (h : uK t = some r) : z9G (.uK t) r := y4y (.uK t) r h
theorem yH (at_ : Int) (r : zG) (h : vO at_ = some r) : Trip Try.prog 55 [(nI at_)] [] [.d (.agg [(.int .i64 r.T_.K), (.int .i64 r.T_.N), (.str r.T_.S), (.sl (List.map zF.toD r.T_.L)), (.int .i64 r.T_.From), (.int .i64 r.T_.To), (.int .i64 r.At), (.int .i64 r.E)])] [] := by
  unfold vO at h
  refine yF 1000 (by kernel_rfl) (by kernel_rfl) (by kernel_rfl) (by kernel_rfl) (by kernel_rfl) (y8v _ _ _ _ at_) ?_
  cases h; exact ⟨rfl, rfl⟩
theorem zU (t : List zC) (from_ to_ k n : Int) (s : Str) (parts : List zF) (r : zG) (h : zR t from_ to_ k n s parts = some r) : Trip Try.prog 43 [.d (.sl (List.map zC.toD t)), (nI from_), (nI to_), (nI k), (nI n), (nS s), .d (.sl (List.map zF.toD parts))] [] [.d (.agg [(.int .i64 r.T_.K), (.int .i64 r.T_.N), (.str r.T_.S), (.sl (List.map zF.toD r.T_.L)), (.int .i64 r.T_.From), (.int .i64 r.T_.To), (.int .i64 r.At), (.int .i64 r.E)])] [] := by
  unfold zR at h
  refine yF 1000 (by kernel_rfl) (by kernel_rfl) (by kernel_rfl) (by kernel_rfl) (by kernel_rfl) (y6F _ _ _ _ t from_ to_ k n s parts) ?_
  obtain ⟨x, hx, h⟩ := zB h
  refine ⟨yZ (l := t) (zC.sz), z0z hx, x.K, x.N, x.S, x.From, x.To, uC (zC.toD_eq x) hx, ?_⟩
  rintro _ rfl
  obtain ⟨x1, hx, h⟩ := zB h
  refine ⟨yZ (l := t) (zC.sz), z0z hx, x1.K, x1.N, x1.S, x1.From, x1.To, uC (zC.toD_eq x1) hx, ?_⟩
  cases h; exact ⟨rfl, rfl⟩
theorem wS (t : List zC) (at_ : Int) (r : zC) (h : uL t at_ = some r) : Trip Try.prog 56 [.d (.sl (List.map zC.toD t)), (nI at_)] [] [.d (gK r.K r.N r.S r.From r.To)] [] := by
  unfold uL at h
  refine yF 1000 (by kernel_rfl) (by kernel_rfl) (by kernel_rfl) (by kernel_rfl) (by kernel_rfl) (y8w _ _ _ _ t at_) ?_
  refine z0Z (e' := (List.length t : Int)) (by first | rfl | rw [List.length_map]) ?_
  rintro _ rfl
  refine zE decide_eq_true_iff h (fun _ h => ?_) (fun _ h => ?_)
  ·
    obtain ⟨x, hx, h⟩ := zB h
    refine ⟨yZ (l := t) (zC.sz), z0z hx, x.K, x.N, x.S, x.From, x.To, uC (zC.toD_eq x) hx, ?_⟩
    cases h; exact ⟨rfl, rfl⟩
  cases h; exact ⟨rfl, rfl⟩
theorem zL (t : List zC) (at_ : Int) (s : Str) (r : Bool) (h : zQ t at_ s = some r) : Trip Try.prog 57 [.d (.sl (List.map zC.toD t)), (nI at_), (nS s)] [] [(nB r)] [] := by
  unfold zQ at h
  refine yF 1000 (by kernel_rfl) (by kernel_rfl) (by kernel_rfl) (by kernel_rfl) (by kernel_rfl) (y6H _ _ _ _ t at_ s) ?_
  obtain ⟨q1, g, h⟩ := zB h
  refine ⟨_, _, _, _, _, ⟨_, wS _ _ _ g⟩, ?_⟩
  rintro _ rfl
  refine zE beq_iff_eq h (fun _ h => ?_) (fun _ h => ?_)
  ·
    obtain ⟨q2, g, h⟩ := zB h
    refine ⟨_, _, _, _, _, ⟨_, wS _ _ _ g⟩, ?_⟩
    rintro _ rfl
    cases h; exact ⟨rfl, rfl⟩
  cases h; exact ⟨rfl, rfl⟩
theorem vI (t : List zC) (at_ : Int) (s : Str) (r : Bool) (h : vZ t at_ s = some r) : Trip Try.prog 52 [.d (.sl (List.map zC.toD t)), (nI at_), (nS s)] [] [(nB r)] [] := by
  unfold vZ at h
  refine yF 1000 (by kernel_rfl) (by kernel_rfl) (by kernel_rfl) (by kernel_rfl) (by kernel_rfl) (y6J _ _ _ _ t at_ s) ?_
  obtain ⟨q1, g, h⟩ := zB h
  refine ⟨_, _, _, _, _, ⟨_, wS _ _ _ g⟩, ?_⟩
  rintro _ rfl
  refine zE beq_iff_eq h (fun _ h => ?_) (fun _ h => ?_)
  ·
    obtain ⟨q2, g, h⟩ := zB h
    refine ⟨_, _, _, _, _, ⟨_, wS _ _ _ g⟩, ?_⟩
    rintro _ rfl
    cases h; exact ⟨rfl, rfl⟩
  cases h; exact ⟨rfl, rfl⟩
def y0N : (i : z4X) → z7F i → Prop
  | .wV t at_, r => Trip Try.prog 69 [.d (.sl (List.map zC.toD t)), (nI at_)] [] [.d (.agg [(.int .i64 r.T_.K), (.int .i64 r.T_.N), (.str r.T_.S), (.sl (List.map zF.toD r.T_.L)), (.int .i64 r.T_.From), (.int .i64 r.T_.To), (.int .i64 r.At), (.int .i64 r.E)])] []
theorem y6b : ∀ i r, gV z4V i = some r → y0N i r := by
  refine yU y0F fun g ih i => ?_
  cases i with
  | wV t at_ =>
    have ih_ref07Type := fun t at_ r h => ih (.wV t at_) r h
    intro r h
    replace h : z2b (fun t at_ => g (z4X.wV t at_)) t at_ = some r := h
    unfold z2b at h
    refine yF 1000 (by kernel_rfl) (by kernel_rfl) (by kernel_rfl) (by kernel_rfl) (by kernel_rfl) (y6I _ _ _ _ t at_) ?_
    obtain ⟨q1, g, h⟩ := zB h
    refine ⟨_, ⟨_, vI _ _ _ _ g⟩, ?_⟩
    refine zE Iff.rfl h (fun _ h => ?_) (fun _ h => ?_)
    ·
      rintro _ rfl
      obtain ⟨q2, g, h⟩ := zB h
      refine ⟨_, _, _, _, _, _, _, _, ⟨_, zU _ _ _ _ _ _ _ _ g⟩, ?_⟩
      cases h; exact ⟨rfl, rfl⟩
    obtain ⟨q3, g, h⟩ := zB h
    refine ⟨_, ⟨_, vI _ _ _ _ g⟩, ?_⟩
    refine zE Iff.rfl h (fun _ h => ?_) (fun _ h => ?_)
    ·
      rintro _ rfl
      obtain ⟨q4, g, h⟩ := zB h
      refine ⟨_, _, _, _, _, _, _, _, ⟨_, zU _ _ _ _ _ _ _ _ g⟩, ?_⟩
      cases h; exact ⟨rfl, rfl⟩
    obtain ⟨q5, g, h⟩ := zB h
    refine ⟨_, _, _, _, _, ⟨_, wS _ _ _ g⟩, ?_⟩
    rintro _ rfl
    refine zE beq_iff_eq h (fun _ h => ?_) (fun _ h => ?_)
    ·
      rintro _ rfl
      obtain ⟨q6, g, h⟩ := zB h
      refine ⟨_, _, _, _, _, ⟨_, wS _ _ _ g⟩, ?_⟩
      obtain ⟨q7, g, h⟩ := zB h
      refine ⟨_, _, _, _, _, _, _, _, ⟨_, zU _ _ _ _ _ _ _ _ g⟩, ?_⟩
      cases h; exact ⟨rfl, rfl⟩
    obtain ⟨q8, g, h⟩ := zB h
    refine ⟨_, ⟨_, zL _ _ _ _ g⟩, ?_⟩
    refine zN Iff.rfl h (fun _ h => ?_) (fun _ h => ?_)
    ·
      rintro _ rfl
      obtain ⟨q10, g, h⟩ := zB h
      refine ⟨_, _, _, _, _, ⟨_, wS _ _ _ g⟩, ?_⟩
      rintro _ rfl
      refine zN beq_iff_eq h (fun _ h => ?_) (fun _ h => ?_)
      ·
        rintro _ rfl
        obtain ⟨q12, g, h⟩ := zB h
        refine ⟨_, ⟨_, zL _ _ _ _ g⟩, ?_⟩
        refine zN Iff.rfl h (fun _ h => ?_) (fun _ h => ?_)
        ·
          rintro _ rfl
          obtain ⟨q14, g, h⟩ := zB h
          refine ⟨_, _, _, _, _, _, _, _, ⟨_, ih_ref07Type _ _ _ g⟩, ?_⟩
          rintro _ rfl
          refine zN beq_iff_eq h (fun _ h => ?_) (fun _ h => ?_)
          ·
            rintro _ rfl
            obtain ⟨q15, g, h⟩ := zB h
            refine ⟨_, _, _, _, _, ⟨_, wS _ _ _ g⟩, ?_⟩
            obtain ⟨q16, g, h⟩ := zB h
            have hT := zU _ _ _ _ _ _ _ _ g
            simp only [List.map_cons, List.map_nil, zF.toD_eq] at hT
            refine ⟨_, _, _, _, _, _, _, _, ⟨_, hT⟩, ?_⟩
            cases h; exact ⟨rfl, rfl⟩
          cases h; exact ⟨rfl, rfl⟩
        rintro _ rfl
        obtain ⟨q13, g, h⟩ := zB h
        refine ⟨_, _, _, _, _, _, _, _, ⟨_, yH _ _ g⟩, ?_⟩
        cases h; exact ⟨rfl, rfl⟩
      rintro _ rfl
      obtain ⟨q11, g, h⟩ := zB h
      refine ⟨_, _, _, _, _, _, _, _, ⟨_, yH _ _ g⟩, ?_⟩
      cases h; exact ⟨rfl, rfl⟩
    obtain ⟨q9, g, h⟩ := zB h
    refine ⟨_, _, _, _, _, _, _, _, ⟨_, yH _ _ g⟩, ?_⟩
    cases h; exact ⟨rfl, rfl⟩
theorem z3W (t : List zC) (at_ : Int) (r : zG) (h : wV t at_ = some r) : y0N (.wV t at_) r := y6b (.wV t at_) r h
theorem z7J (t : List zC) (at_ : Int) (r : zG) (h : z3j t at_ = some r) : Trip Try.prog 73 [.d (.sl (List.map zC.toD t)), (nI at_)] [] [.d (.agg [(.int .i64 r.T_.K), (.int .i64 r.T_.N), (.str r.T_.S), (.sl (List.map zF.toD r.T_.L)), (.int .i64 r.T_.From), (.int .i64 r.T_.To), (.int .i64 r.At), (.int .i64 r.E)])] [] := by
  unfold z3j at h
  refine yF 1000 (by kernel_rfl) (by kernel_rfl) (by kernel_rfl) (by kernel_rfl) (by kernel_rfl) (y6O _ _ _ _ t at_) ?_
  obtain ⟨q1, g, h⟩ := zB h
  refine ⟨_, _, _, _, _, ⟨_, wS _ _ _ g⟩, ?_⟩
  rintro _ rfl
  refine zN beq_iff_eq h (fun _ h => ?_) (fun _ h => ?_)
  ·
    rintro _ rfl
    obtain ⟨q3, g, h⟩ := zB h
    refine ⟨_, ⟨_, zL _ _ _ _ g⟩, ?_⟩
    refine zN Iff.rfl h (fun _ h => ?_) (fun _ h => ?_)
    ·
      rintro _ rfl
      obtain ⟨q5, g, h⟩ := zB h
      refine ⟨_, _, _, _, _, _, _, _, ⟨_, z3W _ _ _ g⟩, ?_⟩
      rintro _ rfl
      refine zN beq_iff_eq h (fun _ h => ?_) (fun _ h => ?_)
      ·
        obtain ⟨x, hx, h⟩ := zB h
        refine ⟨yZ (l := t) (zC.sz), z0z hx, x.K, x.N, x.S, x.From, x.To, uC (zC.toD_eq x) hx, ?_⟩
        obtain ⟨q6, g, h⟩ := zB h
        have hT := zU _ _ _ _ _ _ _ _ g
        simp only [List.map_cons, List.map_nil, zF.toD_eq] at hT
        refine ⟨_, _, _, _, _, _, _, _, ⟨_, hT⟩, ?_⟩
        cases h; exact ⟨rfl, rfl⟩
      cases h; exact ⟨rfl, rfl⟩
    rintro _ rfl
    obtain ⟨q4, g, h⟩ := zB h
    refine ⟨_, _, _, _, _, _, _, _, ⟨_, yH _ _ g⟩, ?_⟩
    cases h; exact ⟨rfl, rfl⟩
  obtain ⟨q2, g, h⟩ := zB h
  refine ⟨_, _, _, _, _, _, _, _, ⟨_, yH _ _ g⟩, ?_⟩
  cases h; exact ⟨rfl, rfl⟩
def z5w : (i : z1N) → z3n i → Prop
  | .yP t at_ out, r => Ok (z5f (Trip Try.prog) (hU (List.map zF.toD r.1) r.2.1 r.2.2) []) (kL Try.f58 2) ⟨49, [(0, .d (.sl (List.map zC.toD t))), (1, (nI at_)), (7, .right 9 1 6 (List.map zF.toD out))], [(9, 1, some (.tok 6 (List.length (List.map zF.toD out))))], [], 0⟩
theorem y0g : ∀ i r, gV z1J i = some r → z5w i r := by
  refine yU z5s fun g ih i => ?_
  cases i with
  | yP t at_ out =>
    have ih_ref09Fields_L2 := fun t at_ out r h => ih (.yP t at_ out) r h
    intro r h
    replace h : z0j (fun t at_ out => g (z1N.yP t at_ out)) t at_ out = some r := h
    unfold z0j at h
    refine z1F 1000 (y0p _ _ _ _ t at_ out) ?_
    refine z0Z (e' := (List.length out : Int)) (by first | rfl | rw [List.length_map]) ?_
    rintro _ rfl
    refine zE beq_iff_eq h (fun _ h => ?_) (fun _ h => ?_)
    ·
      obtain ⟨q1, g, h⟩ := zB h
      refine ⟨_, _, _, _, _, _, _, _, ⟨_, z7J _ _ _ g⟩, ?_⟩
      rintro _ rfl
      refine zN beq_iff_eq h (fun _ h => ?_) (fun _ h => ?_)
      ·
        obtain ⟨q2, g, h⟩ := zB h
        refine ⟨_, ⟨_, zL _ _ _ _ g⟩, ?_⟩
        refine zN Iff.rfl h (fun _ h => ?_) (fun _ h => ?_)
        ·
          refine ⟨by simp [zW, D.cells], ?_⟩
          refine ⟨by first | rfl | decide | simp only [List.length_map, List.length_cons, List.length_nil, List.map_append, List.length_append], ?_⟩
          obtain ⟨hP, h⟩ := zY h
          refine ⟨by first | exact hP | simpa using hP, ?_⟩
          refine z0Z (e' := List.map zF.toD (out ++ [q1.T_])) (by first | rfl | simp only [List.map_append, List.map_cons, List.map_nil, List.map_take, List.map_drop, List.map_set, List.map_replicate, List.length_map, zF.toD_eq]) ?_
          rintro _ rfl
          exact ih_ref09Fields_L2 _ _ _ _ h
        cases h; exact ⟨rfl, rfl⟩
      cases h; exact ⟨rfl, rfl⟩
    obtain ⟨q3, g, h⟩ := zB h
    refine ⟨_, ⟨_, zL _ _ _ _ g⟩, ?_⟩
    refine zN Iff.rfl h (fun _ h => ?_) (fun _ h => ?_)
    ·
      rintro _ rfl
      cases h; exact ⟨rfl, rfl⟩
    obtain ⟨q4, g, h⟩ := zB h
    refine ⟨_, _, _, _, _, _, _, _, ⟨_, z7J _ _ _ g⟩, ?_⟩
    rintro _ rfl
    refine zN beq_iff_eq h (fun _ h => ?_) (fun _ h => ?_)
    ·
      obtain ⟨q5, g, h⟩ := zB h
      refine ⟨_, ⟨_, zL _ _ _ _ g⟩, ?_⟩
      refine zN Iff.rfl h (fun _ h => ?_) (fun _ h => ?_)
      ·
        refine ⟨by simp [zW, D.cells], ?_⟩
        refine ⟨by first | rfl | decide | simp only [List.length_map, List.length_cons, List.length_nil, List.map_append, List.length_append], ?_⟩
        obtain ⟨hP, h⟩ := zY h
        refine ⟨by first | exact hP | simpa using hP, ?_⟩
        refine z0Z (e' := List.map zF.toD (out ++ [q4.T_])) (by first | rfl | simp only [List.map_append, List.map_cons, List.map_nil, List.map_take, List.map_drop, List.map_set, List.map_replicate, List.length_map, zF.toD_eq]) ?_
        rintro _ rfl
        exact ih_ref09Fields_L2 _ _ _ _ h
      cases h; exact ⟨rfl, rfl⟩
    cases h; exact ⟨rfl, rfl⟩
theorem y0k (t : List zC) (at_ : Int) (out : List zF) (r : List zF × Int × Int) (h : yP t at_ out = some r) : z5w (.yP t at_ out) r := y0g (.yP t at_ out) r h
theorem y3s (t : List zC) (at_ : Int) (r : List zF × Int × Int) (h : z5l t at_ = some r) : Trip Try.prog 58 [.d (.sl (List.map zC.toD t)), (nI at_)] [] (hU (List.map zF.toD r.1) r.2.1 r.2.2) [] := by
  unfold z5l at h
  refine yF 1000 (by kernel_rfl) (by kernel_rfl) (by kernel_rfl) (by kernel_rfl) (by kernel_rfl) (y3M _ _ _ _ t at_) ?_
  exact y0k _ _ _ _ h
theorem y6f (t : List zC) (at_ : Int) (r : Int × List zJ) (h : z6E t at_ = some r) : Trip Try.prog 83 [.d (.sl (List.map zC.toD t)), (nI at_)] [] [(nI r.1), .d (.sl (List.map zJ.toD r.2))] [] := by
  unfold z6E at h
  refine yF 1000 (by kernel_rfl) (by kernel_rfl) (by kernel_rfl) (by kernel_rfl) (by kernel_rfl) (y6K _ _ _ _ t at_) ?_
  obtain ⟨q1, g, h⟩ := zB h
  refine ⟨_, ⟨_, vI _ _ _ _ g⟩, ?_⟩
  refine zE Iff.rfl h (fun _ h => ?_) (fun _ h => ?_)
  ·
    rintro _ rfl
    obtain ⟨q2, g, h⟩ := zB h
    refine ⟨_, _, _, _, _, ⟨_, wS _ _ _ g⟩, ?_⟩
    rintro _ rfl
    refine zE beq_iff_eq h (fun _ h => ?_) (fun _ h => ?_)
    ·
      rintro _ rfl
      obtain ⟨q3, g, h⟩ := zB h
      refine ⟨_, ⟨_, zL _ _ _ _ g⟩, ?_⟩
      refine zE Iff.rfl h (fun _ h => ?_) (fun _ h => ?_)
      ·
        cases h; refine ⟨?_, rfl⟩; simp only [List.map_cons, List.map_nil, zF.toD_eq]
      cases h; refine ⟨?_, rfl⟩; simp only [List.map_cons, List.map_nil, zF.toD_eq]
    cases h; refine ⟨?_, rfl⟩; simp only [List.map_cons, List.map_nil, zF.toD_eq]
  obtain ⟨q4, g, h⟩ := zB h
  refine ⟨_, ⟨_, vI _ _ _ _ g⟩, ?_⟩
  refine zE Iff.rfl h (fun _ h => ?_) (fun _ h => ?_)
  ·
    cases h; refine ⟨?_, rfl⟩; simp only [List.map_cons, List.map_nil, zF.toD_eq]
  obtain ⟨q5, g, h⟩ := zB h
  refine ⟨_, ⟨_, vI _ _ _ _ g⟩, ?_⟩
  refine zE Iff.rfl h (fun _ h => ?_) (fun _ h => ?_)
  ·
    cases h; refine ⟨?_, rfl⟩; simp only [List.map_cons, List.map_nil, zF.toD_eq]
  obtain ⟨q6, g, h⟩ := zB h
  refine ⟨_, ⟨_, vI _ _ _ _ g⟩, ?_⟩
  refine zE Iff.rfl h (fun _ h => ?_) (fun _ h => ?_)
  ·
    cases h; refine ⟨?_, rfl⟩; simp only [List.map_cons, List.map_nil, zF.toD_eq]
  obtain ⟨q7, g, h⟩ := zB h
  refine ⟨_, ⟨_, vI _ _ _ _ g⟩, ?_⟩
  refine zE Iff.rfl h (fun _ h => ?_) (fun _ h => ?_)
  ·
    cases h; refine ⟨?_, rfl⟩; simp only [List.map_cons, List.map_nil, zF.toD_eq]
  obtain ⟨q8, g, h⟩ := zB h
  refine ⟨_, ⟨_, vI _ _ _ _ g⟩, ?_⟩
  refine zE Iff.rfl h (fun _ h => ?_) (fun _ h => ?_)
  ·
    cases h; refine ⟨?_, rfl⟩; simp only [List.map_cons, List.map_nil, zF.toD_eq]
  obtain ⟨q9, g, h⟩ := zB h
  refine ⟨_, ⟨_, vI _ _ _ _ g⟩, ?_⟩
  refine zE Iff.rfl h (fun _ h => ?_) (fun _ h => ?_)
  ·
    cases h; refine ⟨?_, rfl⟩; simp only [List.map_cons, List.map_nil, zF.toD_eq]
  cases h; refine ⟨?_, rfl⟩; simp only [List.map_cons, List.map_nil, zF.toD_eq]
def z9H : (i : z4l) → z5T i → Prop
  | .uF t at_ signs ops i, r => Ok (y1j (Trip Try.prog) [(nI r)] []) (kL Try.f42 3) ⟨32, [(0, .d (.sl (List.map zC.toD t))), (1, (nI at_)), (7, .d (.sl (List.map D.str signs))), (8, .d (.sl (List.map (D.int .i64) ops))), (9, (nI i))], [], [], 0⟩
theorem y4z : ∀ i r, gV z4k i = some r → z9H i r := by
  refine yU z9F fun g ih i => ?_
  cases i with
  | uF t at_ signs ops i =>
    have ih_ref07Op_L3 := fun t at_ signs ops i r h => ih (.uF t at_ signs ops i) r h
    intro r h
    replace h : z1q (fun t at_ signs ops i => g (z4l.uF t at_ signs ops i)) t at_ signs ops i = some r := h
    unfold z1q at h
    refine z1F 1000 (y5t _ _ _ _ t at_ signs ops i) ?_
    refine z0Z (e' := (List.length signs : Int)) (by first | rfl | rw [List.length_map]) ?_
    rintro _ rfl
    refine zE decide_eq_true_iff h (fun _ h => ?_) (fun _ h => ?_)
    ·
      obtain ⟨x, hx, h⟩ := zB h
      refine ⟨yZ (l := signs) (fun _ => rfl), z0z hx, x, uC rfl hx, ?_⟩
      obtain ⟨q1, g, h⟩ := zB h
      refine ⟨_, ⟨_, zL _ _ _ _ g⟩, ?_⟩
      refine zE Iff.rfl h (fun _ h => ?_) (fun _ h => ?_)
      ·
        obtain ⟨x1, hx, h⟩ := zB h
        refine ⟨yZ (l := ops) (fun _ => rfl), z0z hx, x1, uC rfl hx, ?_⟩
        cases h; exact ⟨rfl, rfl⟩
      rintro _ rfl
      exact ih_ref07Op_L3 _ _ _ _ _ _ h
    cases h; exact ⟨rfl, rfl⟩
theorem y4H (t : List zC) (at_ : Int) (signs : List Str) (ops : List Int) (i r : Int) (h : uF t at_ signs ops i = some r) : z9H (.uF t at_ signs ops i) r := y4z (.uF t at_ signs ops i) r h
theorem z9d (level : Int) (r : List Str × List Int) (h : z4q level = some r) : Trip Try.prog 51 [(nI level)] [] [.d (.sl (List.map D.str r.1)), .d (.sl (List.map (D.int .i64) r.2))] [] := by
  unfold z4q at h
  refine yF 1000 (by kernel_rfl) (by kernel_rfl) (by kernel_rfl) (by kernel_rfl) (by kernel_rfl) (y8x _ _ _ _ level) ?_
  rintro _ rfl
  refine zE beq_iff_eq h (fun _ h => ?_) (fun _ h => ?_)
  ·
    cases h; exact ⟨rfl, rfl⟩
  rintro _ rfl
  refine zE beq_iff_eq h (fun _ h => ?_) (fun _ h => ?_)
  ·
    cases h; exact ⟨rfl, rfl⟩
  rintro _ rfl
  refine zE beq_iff_eq h (fun _ h => ?_) (fun _ h => ?_)
  ·
    cases h; exact ⟨rfl, rfl⟩
  rintro _ rfl
  refine zE beq_iff_eq h (fun _ h => ?_) (fun _ h => ?_)
  ·
    cases h; exact ⟨rfl, rfl⟩
  cases h; exact ⟨rfl, rfl⟩
theorem y9k (t : List zC) (at_ level r : Int) (h : y1V t at_ level = some r) : Trip Try.prog 42 (hU (List.map zC.toD t) at_ level) [] [(nI r)] [] := by
  unfold y1V at h
  refine yF 1000 (by kernel_rfl) (by kernel_rfl) (by kernel_rfl) (by kernel_rfl) (by kernel_rfl) (y9u _ _ _ _ t at_ level) ?_
  obtain ⟨q1, g, h⟩ := zB h
  refine ⟨_, _, ⟨_, z9d _ _ g⟩, ?_⟩
  exact y4H _ _ _ _ _ _ h
def z7D : (i : zT) → z7E i → Prop
  | .yM t at_, r => Trip Try.prog 70 [.d (.sl (List.map zC.toD t)), (nI at_)] [] [.d (.agg [(.int .i64 r.T_.K), (.int .i64 r.T_.N), (.str r.T_.S), (.sl (List.map zF.toD r.T_.L)), (.int .i64 r.T_.From), (.int .i64 r.T_.To), (.int .i64 r.At), (.int .i64 r.E)])] []
  | .yJ t at_, r => Trip Try.prog 7 [.d (.sl (List.map zC.toD t)), (nI at_)] [] [.d (.agg [(.int .i64 r.T_.K), (.int .i64 r.T_.N), (.str r.T_.S), (.sl (List.map zF.toD r.T_.L)), (.int .i64 r.T_.From), (.int .i64 r.T_.To), (.int .i64 r.At), (.int .i64 r.E)])] []
  | .wF t at_, r => Trip Try.prog 78 [.d (.sl (List.map zC.toD t)), (nI at_)] [] [.d (.agg [(.int .i64 r.T_.K), (.int .i64 r.T_.N), (.str r.T_.S), (.sl (List.map zF.toD r.T_.L)), (.int .i64 r.T_.From), (.int .i64 r.T_.To), (.int .i64 r.At), (.int .i64 r.E)])] []
  | .yK t at_ level, r => Trip Try.prog 17 (hU (List.map zC.toD t) at_ level) [] [.d (.agg [(.int .i64 r.T_.K), (.int .i64 r.T_.N), (.str r.T_.S), (.sl (List.map zF.toD r.T_.L)), (.int .i64 r.T_.From), (.int .i64 r.T_.To), (.int .i64 r.At), (.int .i64 r.E)])] []
  | .yT t at_ level times o6 left, r => Ok (z6i (Trip Try.prog) [.d (.agg [(.int .i64 r.T_.K), (.int .i64 r.T_.N), (.str r.T_.S), (.sl (List.map zF.toD r.T_.L)), (.int .i64 r.T_.From), (.int .i64 r.T_.To), (.int .i64 r.At), (.int .i64 r.E)])] []) (kL Try.f17 5) ⟨65, [(0, .d (.sl (List.map zC.toD t))), (1, (nI at_)), (2, (nI level)), (6, .ref 6 1 0), (7, .ref 7 1 0), (8, (nI times))], [(6, 1, some (.agg (.agg [(.int .i64 o6.T_.K), (.int .i64 o6.T_.N), (.str o6.T_.S), (.sl (List.map zF.toD o6.T_.L)), (.int .i64 o6.T_.From), (.int .i64 o6.T_.To), (.int .i64 o6.At), (.int .i64 o6.E)]))), (7, 1, some (.agg (.agg [(.int .i64 left.T_.K), (.int .i64 left.T_.N), (.str left.T_.S), (.sl (List.map zF.toD left.T_.L)), (.int .i64 left.T_.From), (.int .i64 left.T_.To), (.int .i64 left.At), (.int .i64 left.E)])))], [], 0⟩
  | .yW t open_ few first last, r => Trip Try.prog 82 [.d (.sl (List.map zC.toD t)), (nI open_), (nB few), (nS first), (nS last)] [] (hU (List.map zF.toD r.1) r.2.1 r.2.2) []
  | .jX t at_, r => Trip Try.prog 41 [.d (.sl (List.map zC.toD t)), (nI at_)] [] [.d (.agg [(.int .i64 r.T_.K), (.int .i64 r.T_.N), (.str r.T_.S), (.sl (List.map zF.toD r.T_.L)), (.int .i64 r.T_.From), (.int .i64 r.T_.To), (.int .i64 r.At), (.int .i64 r.E)])] []
  | .jR t at_, r => Trip Try.prog 85 [.d (.sl (List.map zC.toD t)), (nI at_)] [] (hU (List.map zF.toD r.1) r.2.1 r.2.2) []
  | .vG t at_ out, r => Ok (z7R (Trip Try.prog) (hU (List.map zF.toD r.1) r.2.1 r.2.2) []) (kL Try.f85 2) ⟨37, [(0, .d (.sl (List.map zC.toD t))), (1, (nI at_)), (7, .right 9 1 6 (List.map zF.toD out))], [(9, 1, some (.tok 6 (List.length (List.map zF.toD out))))], [], 0⟩
  | .uP t at_, r => Trip Try.prog 66 [.d (.sl (List.map zC.toD t)), (nI at_)] [] [.d (.agg [(.int .i64 r.T_.K), (.int .i64 r.T_.N), (.str r.T_.S), (.sl (List.map zF.toD r.T_.L)), (.int .i64 r.T_.From), (.int .i64 r.T_.To), (.int .i64 r.At), (.int .i64 r.E)])] []
  | .vH t at_ o4 x, r => Ok (z7S (Trip Try.prog) [.d (.agg [(.int .i64 r.T_.K), (.int .i64 r.T_.N), (.str r.T_.S), (.sl (List.map zF.toD r.T_.L)), (.int .i64 r.T_.From), (.int .i64 r.T_.To), (.int .i64 r.At), (.int .i64 r.E)])] []) (kL Try.f66 2) ⟨75, [(0, .d (.sl (List.map zC.toD t))), (1, (nI at_)), (4, .ref 4 1 0), (5, .ref 5 1 0)], [(4, 1, some (.agg (.agg [(.int .i64 o4.T_.K), (.int .i64 o4.T_.N), (.str o4.T_.S), (.sl (List.map zF.toD o4.T_.L)), (.int .i64 o4.T_.From), (.int .i64 o4.T_.To), (.int .i64 o4.At), (.int .i64 o4.E)]))), (5, 1, some (.agg (.agg [(.int .i64 x.T_.K), (.int .i64 x.T_.N), (.str x.T_.S), (.sl (List.map zF.toD x.T_.L)), (.int .i64 x.T_.From), (.int .i64 x.T_.To), (.int .i64 x.At), (.int .i64 x.E)])))], [], 0⟩
theorem y0J : ∀ i r, gV vY i = some r → z7D i r := by
  refine yU gG fun g ih i => ?_
  cases i with
  | yM t at_ =>
    have ih_ref07Expr := fun t at_ r h => ih (.yJ t at_) r h
    have ih_ref07Called := fun t at_ r h => ih (.wF t at_) r h
    intro r h
    replace h : z1p (fun t at_ => g (zT.yJ t at_)) (fun t at_ => g (zT.wF t at_)) t at_ = some r := h
    unfold z1p at h
    refine yF 1000 (by kernel_rfl) (by kernel_rfl) (by kernel_rfl) (by kernel_rfl) (by kernel_rfl) (y6C _ _ _ _ t at_) ?_
    obtain ⟨q1, g, h⟩ := zB h
    refine ⟨_, _, _, _, _, ⟨_, wS _ _ _ g⟩, ?_⟩
    rintro _ rfl
    refine zE beq_iff_eq h (fun _ h => ?_) (fun _ h => ?_)
    ·
      rintro _ rfl
      obtain ⟨q2, g, h⟩ := zB h
      refine ⟨_, _, _, _, _, _, _, _, ⟨_, zU _ _ _ _ _ _ _ _ g⟩, ?_⟩
      cases h; exact ⟨rfl, rfl⟩
    obtain ⟨q3, g, h⟩ := zB h
    refine ⟨_, ⟨_, vI _ _ _ _ g⟩, ?_⟩
    refine zE Iff.rfl h (fun _ h => ?_) (fun _ h => ?_)
    ·
      rintro _ rfl
      obtain ⟨q4, g, h⟩ := zB h
      refine ⟨_, _, _, _, _, _, _, _, ⟨_, zU _ _ _ _ _ _ _ _ g⟩, ?_⟩
      cases h; exact ⟨rfl, rfl⟩
    obtain ⟨q5, g, h⟩ := zB h
    refine ⟨_, ⟨_, vI _ _ _ _ g⟩, ?_⟩
    refine zE Iff.rfl h (fun _ h => ?_) (fun _ h => ?_)
    ·
      rintro _ rfl
      obtain ⟨q6, g, h⟩ := zB h
      refine ⟨_, _, _, _, _, _, _, _, ⟨_, zU _ _ _ _ _ _ _ _ g⟩, ?_⟩
      cases h; exact ⟨rfl, rfl⟩
    obtain ⟨q7, g, h⟩ := zB h
    refine ⟨_, ⟨_, vI _ _ _ _ g⟩, ?_⟩
    refine zE Iff.rfl h (fun _ h => ?_) (fun _ h => ?_)
    ·
      rintro _ rfl
      obtain ⟨q8, g, h⟩ := zB h
      refine ⟨_, _, _, _, _, _, _, _, ⟨_, zU _ _ _ _ _ _ _ _ g⟩, ?_⟩
      cases h; exact ⟨rfl, rfl⟩
    rintro _ rfl
    refine zE beq_iff_eq h (fun _ h => ?_) (fun _ h => ?_)
    ·
      rintro _ rfl
      obtain ⟨q9, g, h⟩ := zB h
      refine ⟨_, ⟨_, zL _ _ _ _ g⟩, ?_⟩
      refine zN Iff.rfl h (fun _ h => ?_) (fun _ h => ?_)
      ·
        obtain ⟨q11, g, h⟩ := zB h
        refine ⟨_, ⟨_, zL _ _ _ _ g⟩, ?_⟩
        refine zE Iff.rfl h (fun _ h => ?_) (fun _ h => ?_)
        ·
          rintro _ rfl
          obtain ⟨q12, g, h⟩ := zB h
          refine ⟨_, _, _, _, _, _, _, _, ⟨_, ih_ref07Expr _ _ _ g⟩, ?_⟩
          rintro _ rfl
          refine zE beq_iff_eq h (fun hc145 h => ?_) (fun hc145 h => ?_)
          ·
            obtain ⟨q13, g, h⟩ := zB h
            refine ⟨_, ⟨_, zL _ _ _ _ g⟩, ?_⟩
            refine zN Iff.rfl h (fun _ h => ?_) (fun _ h => ?_)
            ·
              rintro _ rfl
              refine z8n beq_iff_eq hc145 ?_
              rintro _ rfl
              cases h; exact ⟨rfl, rfl⟩
            obtain ⟨q14, g, h⟩ := zB h
            refine ⟨_, _, _, _, _, _, _, _, ⟨_, yH _ _ g⟩, ?_⟩
            cases h; exact ⟨rfl, rfl⟩
          rintro _ rfl
          refine z8m beq_iff_eq hc145 ?_
          cases h; exact ⟨rfl, rfl⟩
        obtain ⟨q15, g, h⟩ := zB h
        refine ⟨_, _, _, _, _, _, _, _, ⟨_, ih_ref07Called _ _ _ g⟩, ?_⟩
        cases h; exact ⟨rfl, rfl⟩
      rintro _ rfl
      obtain ⟨q10, g, h⟩ := zB h
      refine ⟨_, _, _, _, _, _, _, _, ⟨_, zU _ _ _ _ _ _ _ _ g⟩, ?_⟩
      cases h; exact ⟨rfl, rfl⟩
    obtain ⟨q16, g, h⟩ := zB h
    refine ⟨_, ⟨_, zL _ _ _ _ g⟩, ?_⟩
    refine zE Iff.rfl h (fun _ h => ?_) (fun _ h => ?_)
    ·
      rintro _ rfl
      obtain ⟨q17, g, h⟩ := zB h
      refine ⟨_, _, _, _, _, _, _, _, ⟨_, ih_ref07Expr _ _ _ g⟩, ?_⟩
      rintro _ rfl
      refine zE beq_iff_eq h (fun hc148 h => ?_) (fun hc148 h => ?_)
      ·
        obtain ⟨q18, g, h⟩ := zB h
        refine ⟨_, ⟨_, zL _ _ _ _ g⟩, ?_⟩
        refine zN Iff.rfl h (fun _ h => ?_) (fun _ h => ?_)
        ·
          rintro _ rfl
          refine z8n beq_iff_eq hc148 ?_
          rintro _ rfl
          cases h; exact ⟨rfl, rfl⟩
        obtain ⟨q19, g, h⟩ := zB h
        refine ⟨_, _, _, _, _, _, _, _, ⟨_, yH _ _ g⟩, ?_⟩
        cases h; exact ⟨rfl, rfl⟩
      rintro _ rfl
      refine z8m beq_iff_eq hc148 ?_
      cases h; exact ⟨rfl, rfl⟩
    obtain ⟨q20, g, h⟩ := zB h
    refine ⟨_, _, _, _, _, _, _, _, ⟨_, ih_ref07Called _ _ _ g⟩, ?_⟩
    cases h; exact ⟨rfl, rfl⟩
  | yJ t at_ =>
    have ih_ref07Level := fun t at_ level r h => ih (.yK t at_ level) r h
    intro r h
    replace h : z2S (fun t at_ level => g (zT.yK t at_ level)) t at_ = some r := h
    unfold z2S at h
    refine yF 1000 (by kernel_rfl) (by kernel_rfl) (by kernel_rfl) (by kernel_rfl) (by kernel_rfl) (y6D _ _ _ _ t at_) ?_
    obtain ⟨q1, g, h⟩ := zB h
    refine ⟨_, _, _, _, _, _, _, _, ⟨_, ih_ref07Level _ _ _ _ g⟩, ?_⟩
    cases h; exact ⟨rfl, rfl⟩
  | wF t at_ =>
    have ih_ref07Closed := fun t open_ few first last r h => ih (.yW t open_ few first last) r h
    intro r h
    replace h : uV (fun t open_ few first last => g (zT.yW t open_ few first last)) t at_ = some r := h
    unfold uV at h
    refine yF 1000 (by kernel_rfl) (by kernel_rfl) (by kernel_rfl) (by kernel_rfl) (by kernel_rfl) (y3K _ _ _ _ t at_) ?_
    rintro _ rfl
    obtain ⟨q1, g, h⟩ := zB h
    refine ⟨_, _, _, _, _, ⟨_, wS _ _ _ g⟩, ?_⟩
    rintro _ rfl
    refine zE beq_iff_eq h (fun _ h => ?_) (fun _ h => ?_)
    ·
      obtain ⟨q2, g, h⟩ := zB h
      refine ⟨_, _, _, _, _, ⟨_, wS _ _ _ g⟩, ?_⟩
      obtain ⟨q3, g, h⟩ := zB h
      refine ⟨_, _, _, ⟨_, ih_ref07Closed _ _ _ _ _ _ g⟩, ?_⟩
      rintro _ rfl
      refine zN beq_iff_eq h (fun _ h => ?_) (fun _ h => ?_)
      ·
        obtain ⟨q4, g, h⟩ := zB h
        refine ⟨_, _, _, _, _, _, _, _, ⟨_, zU _ _ _ _ _ _ _ _ g⟩, ?_⟩
        cases h; exact ⟨rfl, rfl⟩
      cases h; exact ⟨rfl, rfl⟩
    obtain ⟨q5, g, h⟩ := zB h
    refine ⟨_, ⟨_, zL _ _ _ _ g⟩, ?_⟩
    refine zE Iff.rfl h (fun _ h => ?_) (fun _ h => ?_)
    ·
      obtain ⟨q6, g, h⟩ := zB h
      refine ⟨_, _, _, ⟨_, ih_ref07Closed _ _ _ _ _ _ g⟩, ?_⟩
      rintro _ rfl
      refine zN beq_iff_eq h (fun _ h => ?_) (fun _ h => ?_)
      ·
        obtain ⟨q7, g, h⟩ := zB h
        refine ⟨_, _, _, _, _, _, _, _, ⟨_, zU _ _ _ _ _ _ _ _ g⟩, ?_⟩
        cases h; exact ⟨rfl, rfl⟩
      cases h; exact ⟨rfl, rfl⟩
    obtain ⟨q8, g, h⟩ := zB h
    refine ⟨_, ⟨_, zL _ _ _ _ g⟩, ?_⟩
    refine zE Iff.rfl h (fun _ h => ?_) (fun _ h => ?_)
    ·
      rintro _ rfl
      obtain ⟨q9, g, h⟩ := zB h
      refine ⟨_, _, _, _, _, ⟨_, wS _ _ _ g⟩, ?_⟩
      rintro _ rfl
      refine zN beq_iff_eq h (fun _ h => ?_) (fun _ h => ?_)
      ·
        rintro _ rfl
        obtain ⟨q11, g, h⟩ := zB h
        refine ⟨_, _, _, _, _, ⟨_, wS _ _ _ g⟩, ?_⟩
        rintro _ rfl
        obtain ⟨q12, g, h⟩ := zB h
        refine ⟨_, ⟨_, vI _ _ _ _ g⟩, ?_⟩
        refine zE Iff.rfl h (fun _ h => ?_) (fun _ h => ?_)
        ·
          obtain ⟨q13, g, h⟩ := zB h
          refine ⟨_, _, _, ⟨_, ih_ref07Closed _ _ _ _ _ _ g⟩, ?_⟩
          rintro _ rfl
          refine zN beq_iff_eq h (fun _ h => ?_) (fun _ h => ?_)
          ·
            obtain ⟨q14, g, h⟩ := zB h
            refine ⟨_, _, _, _, _, _, _, _, ⟨_, zU _ _ _ _ _ _ _ _ g⟩, ?_⟩
            cases h; exact ⟨rfl, rfl⟩
          cases h; exact ⟨rfl, rfl⟩
        obtain ⟨q15, g, h⟩ := zB h
        refine ⟨_, _, _, ⟨_, ih_ref07Closed _ _ _ _ _ _ g⟩, ?_⟩
        rintro _ rfl
        refine zN beq_iff_eq h (fun _ h => ?_) (fun _ h => ?_)
        ·
          obtain ⟨q16, g, h⟩ := zB h
          refine ⟨_, _, _, _, _, _, _, _, ⟨_, zU _ _ _ _ _ _ _ _ g⟩, ?_⟩
          cases h; exact ⟨rfl, rfl⟩
        cases h; exact ⟨rfl, rfl⟩
      rintro _ rfl
      obtain ⟨q10, g, h⟩ := zB h
      refine ⟨_, _, _, _, _, _, _, _, ⟨_, yH _ _ g⟩, ?_⟩
      cases h; exact ⟨rfl, rfl⟩
    obtain ⟨q17, g, h⟩ := zB h
    refine ⟨_, ⟨_, vI _ _ _ _ g⟩, ?_⟩
    refine zE Iff.rfl h (fun _ h => ?_) (fun _ h => ?_)
    ·
      rintro _ rfl
      obtain ⟨q18, g, h⟩ := zB h
      refine ⟨_, _, _, _, _, ⟨_, wS _ _ _ g⟩, ?_⟩
      rintro _ rfl
      refine zN beq_iff_eq h (fun _ h => ?_) (fun _ h => ?_)
      ·
        rintro _ rfl
        obtain ⟨q20, g, h⟩ := zB h
        refine ⟨_, _, _, _, _, ⟨_, wS _ _ _ g⟩, ?_⟩
        rintro _ rfl
        obtain ⟨q21, g, h⟩ := zB h
        refine ⟨_, ⟨_, vI _ _ _ _ g⟩, ?_⟩
        refine zE Iff.rfl h (fun _ h => ?_) (fun _ h => ?_)
        ·
          obtain ⟨q22, g, h⟩ := zB h
          refine ⟨_, _, _, ⟨_, ih_ref07Closed _ _ _ _ _ _ g⟩, ?_⟩
          rintro _ rfl
          refine zN beq_iff_eq h (fun _ h => ?_) (fun _ h => ?_)
          ·
            obtain ⟨q23, g, h⟩ := zB h
            refine ⟨_, _, _, _, _, _, _, _, ⟨_, zU _ _ _ _ _ _ _ _ g⟩, ?_⟩
            cases h; exact ⟨rfl, rfl⟩
          cases h; exact ⟨rfl, rfl⟩
        obtain ⟨q24, g, h⟩ := zB h
        refine ⟨_, _, _, ⟨_, ih_ref07Closed _ _ _ _ _ _ g⟩, ?_⟩
        rintro _ rfl
        refine zN beq_iff_eq h (fun _ h => ?_) (fun _ h => ?_)
        ·
          obtain ⟨q25, g, h⟩ := zB h
          refine ⟨_, _, _, _, _, _, _, _, ⟨_, zU _ _ _ _ _ _ _ _ g⟩, ?_⟩
          cases h; exact ⟨rfl, rfl⟩
        cases h; exact ⟨rfl, rfl⟩
      rintro _ rfl
      obtain ⟨q19, g, h⟩ := zB h
      refine ⟨_, _, _, _, _, _, _, _, ⟨_, yH _ _ g⟩, ?_⟩
      cases h; exact ⟨rfl, rfl⟩
    obtain ⟨q26, g, h⟩ := zB h
    refine ⟨_, _, _, _, _, _, _, _, ⟨_, yH _ _ g⟩, ?_⟩
    cases h; exact ⟨rfl, rfl⟩
  | yK t at_ level =>
    have ih_ref07Level := fun t at_ level r h => ih (.yK t at_ level) r h
    have ih_ref07Level_L5 := fun t at_ level times o6 left r h => ih (.yT t at_ level times o6 left) r h
    have ih_ref07Un := fun t at_ r h => ih (.jX t at_) r h
    intro r h
    replace h : z0m (fun t at_ level => g (zT.yK t at_ level)) (fun t at_ level times o6 left => g (zT.yT t at_ level times o6 left)) (fun t at_ => g (zT.jX t at_)) t at_ level = some r := h
    unfold z0m at h
    refine yF 1000 (by kernel_rfl) (by kernel_rfl) (by kernel_rfl) (by kernel_rfl) (by kernel_rfl) (y5s _ _ _ _ t at_ level) ?_
    rintro _ rfl
    refine zE beq_iff_eq h (fun _ h => ?_) (fun _ h => ?_)
    ·
      obtain ⟨q1, g, h⟩ := zB h
      refine ⟨_, _, _, _, _, _, _, _, ⟨_, ih_ref07Un _ _ _ g⟩, ?_⟩
      cases h; exact ⟨rfl, rfl⟩
    rintro _ rfl
    obtain ⟨q2, g, h⟩ := zB h
    refine ⟨_, _, _, _, _, _, _, _, ⟨_, ih_ref07Level _ _ _ _ g⟩, ?_⟩
    exact ih_ref07Level_L5 _ _ _ _ _ _ _ h
  | yT t at_ level times o6 left =>
    have ih_ref07Level := fun t at_ level r h => ih (.yK t at_ level) r h
    have ih_ref07Level_L5 := fun t at_ level times o6 left r h => ih (.yT t at_ level times o6 left) r h
    intro r h
    replace h : jH (fun t at_ level => g (zT.yK t at_ level)) (fun t at_ level times o6 left => g (zT.yT t at_ level times o6 left)) t at_ level times o6 left = some r := h
    unfold jH at h
    refine z1F 1000 (y1t _ _ _ _ t at_ level times o6 left) ?_
    rintro _ rfl
    refine zE beq_iff_eq h (fun _ h => ?_) (fun _ h => ?_)
    ·
      obtain ⟨q1, g, h⟩ := zB h
      refine ⟨_, ⟨_, y9k _ _ _ _ g⟩, ?_⟩
      rintro _ rfl
      refine zE beq_iff_eq h (fun _ h => ?_) (fun _ h => ?_)
      ·
        cases h; exact ⟨rfl, rfl⟩
      rintro _ rfl
      refine zE beq_iff_eq h (fun _ h => ?_) (fun _ h => ?_)
      ·
        rintro _ rfl
        refine zE beq_iff_eq h (fun _ h => ?_) (fun _ h => ?_)
        ·
          cases h; exact ⟨rfl, rfl⟩
        rintro _ rfl
        rintro _ rfl
        obtain ⟨q2, g, h⟩ := zB h
        refine ⟨_, _, _, _, _, _, _, _, ⟨_, ih_ref07Level _ _ _ _ g⟩, ?_⟩
        rintro _ rfl
        refine zN beq_iff_eq h (fun _ h => ?_) (fun _ h => ?_)
        ·
          obtain ⟨q3, g, h⟩ := zB h
          have hT := zU _ _ _ _ _ _ _ _ g
          simp only [List.map_cons, List.map_nil, zF.toD_eq] at hT
          refine ⟨_, _, _, _, _, _, _, _, ⟨_, hT⟩, ?_⟩
          rintro _ rfl
          exact ih_ref07Level_L5 _ _ _ _ _ _ _ h
        cases h; exact ⟨rfl, rfl⟩
      rintro _ rfl
      rintro _ rfl
      obtain ⟨q4, g, h⟩ := zB h
      refine ⟨_, _, _, _, _, _, _, _, ⟨_, ih_ref07Level _ _ _ _ g⟩, ?_⟩
      rintro _ rfl
      refine zN beq_iff_eq h (fun _ h => ?_) (fun _ h => ?_)
      ·
        obtain ⟨q5, g, h⟩ := zB h
        have hT := zU _ _ _ _ _ _ _ _ g
        simp only [List.map_cons, List.map_nil, zF.toD_eq] at hT
        refine ⟨_, _, _, _, _, _, _, _, ⟨_, hT⟩, ?_⟩
        rintro _ rfl
        exact ih_ref07Level_L5 _ _ _ _ _ _ _ h
      cases h; exact ⟨rfl, rfl⟩
    cases h; exact ⟨rfl, rfl⟩
  | yW t open_ few first last =>
    have ih_ref07List := fun t at_ r h => ih (.jR t at_) r h
    intro r h
    replace h : z0l (fun t at_ => g (zT.jR t at_)) t open_ few first last = some r := h
    unfold z0l at h
    refine yF 1000 (by kernel_rfl) (by kernel_rfl) (by kernel_rfl) (by kernel_rfl) (by kernel_rfl) (y3L _ _ _ _ t open_ few first last) ?_
    obtain ⟨q1, g, h⟩ := zB h
    refine ⟨_, ⟨_, zL _ _ _ _ g⟩, ?_⟩
    refine zN Iff.rfl h (fun _ h => ?_) (fun _ h => ?_)
    ·
      refine zE Iff.rfl h (fun _ h => ?_) (fun _ h => ?_)
      ·
        rintro _ rfl
        obtain ⟨q2, g, h⟩ := zB h
        refine ⟨_, ⟨_, zL _ _ _ _ g⟩, ?_⟩
        refine zE Iff.rfl h (fun _ h => ?_) (fun _ h => ?_)
        ·
          rintro _ rfl
          cases h; exact ⟨rfl, rfl⟩
        rintro _ rfl
        obtain ⟨q3, g, h⟩ := zB h
        refine ⟨_, _, _, ⟨_, ih_ref07List _ _ _ g⟩, ?_⟩
        rintro _ rfl
        refine zN beq_iff_eq h (fun _ h => ?_) (fun _ h => ?_)
        ·
          obtain ⟨q4, g, h⟩ := zB h
          refine ⟨_, ⟨_, zL _ _ _ _ g⟩, ?_⟩
          refine zN Iff.rfl h (fun _ h => ?_) (fun _ h => ?_)
          ·
            rintro _ rfl
            cases h; exact ⟨rfl, rfl⟩
          cases h; exact ⟨rfl, rfl⟩
        cases h; exact ⟨rfl, rfl⟩
      rintro _ rfl
      obtain ⟨q5, g, h⟩ := zB h
      refine ⟨_, _, _, ⟨_, ih_ref07List _ _ _ g⟩, ?_⟩
      rintro _ rfl
      refine zN beq_iff_eq h (fun _ h => ?_) (fun _ h => ?_)
      ·
        obtain ⟨q6, g, h⟩ := zB h
        refine ⟨_, ⟨_, zL _ _ _ _ g⟩, ?_⟩
        refine zN Iff.rfl h (fun _ h => ?_) (fun _ h => ?_)
        ·
          rintro _ rfl
          cases h; exact ⟨rfl, rfl⟩
        cases h; exact ⟨rfl, rfl⟩
      cases h; exact ⟨rfl, rfl⟩
    cases h; exact ⟨rfl, rfl⟩
  | jX t at_ =>
    have ih_ref07Un := fun t at_ r h => ih (.jX t at_) r h
    have ih_ref07Post := fun t at_ r h => ih (.uP t at_) r h
    intro r h
    replace h : z3i (fun t at_ => g (zT.jX t at_)) (fun t at_ => g (zT.uP t at_)) t at_ = some r := h
    unfold z3i at h
    refine yF 1000 (by kernel_rfl) (by kernel_rfl) (by kernel_rfl) (by kernel_rfl) (by kernel_rfl) (y9v _ _ _ _ t at_) ?_
    obtain ⟨q1, g, h⟩ := zB h
    refine ⟨_, ⟨_, zL _ _ _ _ g⟩, ?_⟩
    refine zE Iff.rfl h (fun _ h => ?_) (fun _ h => ?_)
    ·
      obtain ⟨q2, g, h⟩ := zB h
      refine ⟨_, ⟨_, zL _ _ _ _ g⟩, ?_⟩
      refine zE Iff.rfl h (fun _ h => ?_) (fun _ h => ?_)
      ·
        rintro _ rfl
        refine zE beq_iff_eq h (fun _ h => ?_) (fun _ h => ?_)
        ·
          obtain ⟨q3, g, h⟩ := zB h
          refine ⟨_, _, _, _, _, _, _, _, ⟨_, ih_ref07Post _ _ _ g⟩, ?_⟩
          cases h; exact ⟨rfl, rfl⟩
        rintro _ rfl
        obtain ⟨q4, g, h⟩ := zB h
        refine ⟨_, _, _, _, _, _, _, _, ⟨_, ih_ref07Un _ _ _ g⟩, ?_⟩
        rintro _ rfl
        refine zN beq_iff_eq h (fun _ h => ?_) (fun _ h => ?_)
        ·
          obtain ⟨q5, g, h⟩ := zB h
          have hT := zU _ _ _ _ _ _ _ _ g
          simp only [List.map_cons, List.map_nil, zF.toD_eq] at hT
          refine ⟨_, _, _, _, _, _, _, _, ⟨_, hT⟩, ?_⟩
          cases h; exact ⟨rfl, rfl⟩
        cases h; exact ⟨rfl, rfl⟩
      rintro _ rfl
      refine zE beq_iff_eq h (fun _ h => ?_) (fun _ h => ?_)
      ·
        obtain ⟨q6, g, h⟩ := zB h
        refine ⟨_, _, _, _, _, _, _, _, ⟨_, ih_ref07Post _ _ _ g⟩, ?_⟩
        cases h; exact ⟨rfl, rfl⟩
      rintro _ rfl
      obtain ⟨q7, g, h⟩ := zB h
      refine ⟨_, _, _, _, _, _, _, _, ⟨_, ih_ref07Un _ _ _ g⟩, ?_⟩
      rintro _ rfl
      refine zN beq_iff_eq h (fun _ h => ?_) (fun _ h => ?_)
      ·
        obtain ⟨q8, g, h⟩ := zB h
        have hT := zU _ _ _ _ _ _ _ _ g
        simp only [List.map_cons, List.map_nil, zF.toD_eq] at hT
        refine ⟨_, _, _, _, _, _, _, _, ⟨_, hT⟩, ?_⟩
        cases h; exact ⟨rfl, rfl⟩
      cases h; exact ⟨rfl, rfl⟩
    obtain ⟨q9, g, h⟩ := zB h
    refine ⟨_, ⟨_, zL _ _ _ _ g⟩, ?_⟩
    refine zE Iff.rfl h (fun _ h => ?_) (fun _ h => ?_)
    ·
      rintro _ rfl
      refine zE beq_iff_eq h (fun _ h => ?_) (fun _ h => ?_)
      ·
        obtain ⟨q10, g, h⟩ := zB h
        refine ⟨_, _, _, _, _, _, _, _, ⟨_, ih_ref07Post _ _ _ g⟩, ?_⟩
        cases h; exact ⟨rfl, rfl⟩
      rintro _ rfl
      obtain ⟨q11, g, h⟩ := zB h
      refine ⟨_, _, _, _, _, _, _, _, ⟨_, ih_ref07Un _ _ _ g⟩, ?_⟩
      rintro _ rfl
      refine zN beq_iff_eq h (fun _ h => ?_) (fun _ h => ?_)
      ·
        obtain ⟨q12, g, h⟩ := zB h
        have hT := zU _ _ _ _ _ _ _ _ g
        simp only [List.map_cons, List.map_nil, zF.toD_eq] at hT
        refine ⟨_, _, _, _, _, _, _, _, ⟨_, hT⟩, ?_⟩
        cases h; exact ⟨rfl, rfl⟩
      cases h; exact ⟨rfl, rfl⟩
    rintro _ rfl
    refine zE beq_iff_eq h (fun _ h => ?_) (fun _ h => ?_)
    ·
      obtain ⟨q13, g, h⟩ := zB h
      refine ⟨_, _, _, _, _, _, _, _, ⟨_, ih_ref07Post _ _ _ g⟩, ?_⟩
      cases h; exact ⟨rfl, rfl⟩
    rintro _ rfl
    obtain ⟨q14, g, h⟩ := zB h
    refine ⟨_, _, _, _, _, _, _, _, ⟨_, ih_ref07Un _ _ _ g⟩, ?_⟩
    rintro _ rfl
    refine zN beq_iff_eq h (fun _ h => ?_) (fun _ h => ?_)
    ·
      obtain ⟨q15, g, h⟩ := zB h
      have hT := zU _ _ _ _ _ _ _ _ g
      simp only [List.map_cons, List.map_nil, zF.toD_eq] at hT
      refine ⟨_, _, _, _, _, _, _, _, ⟨_, hT⟩, ?_⟩
      cases h; exact ⟨rfl, rfl⟩
    cases h; exact ⟨rfl, rfl⟩
  | jR t at_ =>
    have ih_ref07List_L2 := fun t at_ out r h => ih (.vG t at_ out) r h
    intro r h
    replace h : z4f (fun t at_ out => g (zT.vG t at_ out)) t at_ = some r := h
    unfold z4f at h
    refine yF 1000 (by kernel_rfl) (by kernel_rfl) (by kernel_rfl) (by kernel_rfl) (by kernel_rfl) (y6E _ _ _ _ t at_) ?_
    exact ih_ref07List_L2 _ _ _ _ h
  | vG t at_ out =>
    have ih_ref07Expr := fun t at_ r h => ih (.yJ t at_) r h
    have ih_ref07List_L2 := fun t at_ out r h => ih (.vG t at_ out) r h
    intro r h
    replace h : gU (fun t at_ => g (zT.yJ t at_)) (fun t at_ out => g (zT.vG t at_ out)) t at_ out = some r := h
    unfold gU at h
    refine z1F 1000 (y2C _ _ _ _ t at_ out) ?_
    obtain ⟨q1, g, h⟩ := zB h
    refine ⟨_, _, _, _, _, _, _, _, ⟨_, ih_ref07Expr _ _ _ g⟩, ?_⟩
    rintro _ rfl
    refine zN beq_iff_eq h (fun _ h => ?_) (fun _ h => ?_)
    ·
      refine ⟨by simp [zW, D.cells], ?_⟩
      refine ⟨by first | rfl | decide | simp only [List.length_map, List.length_cons, List.length_nil, List.map_append, List.length_append], ?_⟩
      obtain ⟨hP, h⟩ := zY h
      refine ⟨by first | exact hP | simpa using hP, ?_⟩
      refine z0Z (e' := List.map zF.toD (out ++ [q1.T_])) (by first | rfl | simp only [List.map_append, List.map_cons, List.map_nil, List.map_take, List.map_drop, List.map_set, List.map_replicate, List.length_map, zF.toD_eq]) ?_
      obtain ⟨q2, g, h⟩ := zB h
      refine ⟨_, ⟨_, zL _ _ _ _ g⟩, ?_⟩
      refine zN Iff.rfl h (fun _ h => ?_) (fun _ h => ?_)
      ·
        rintro _ rfl
        exact ih_ref07List_L2 _ _ _ _ h
      cases h; exact ⟨rfl, rfl⟩
    cases h; exact ⟨rfl, rfl⟩
  | uP t at_ =>
    have ih_ref07Atom := fun t at_ r h => ih (.yM t at_) r h
    have ih_ref07Post_L2 := fun t at_ o4 x r h => ih (.vH t at_ o4 x) r h
    intro r h
    replace h : z2a (fun t at_ => g (zT.yM t at_)) (fun t at_ o4 x => g (zT.vH t at_ o4 x)) t at_ = some r := h
    unfold z2a at h
    refine yF 1000 (by kernel_rfl) (by kernel_rfl) (by kernel_rfl) (by kernel_rfl) (by kernel_rfl) (y6G _ _ _ _ t at_) ?_
    obtain ⟨q1, g, h⟩ := zB h
    refine ⟨_, _, _, _, _, _, _, _, ⟨_, ih_ref07Atom _ _ _ g⟩, ?_⟩
    exact ih_ref07Post_L2 _ _ _ _ _ h
  | vH t at_ o4 x =>
    have ih_ref07Expr := fun t at_ r h => ih (.yJ t at_) r h
    have ih_ref07Post_L2 := fun t at_ o4 x r h => ih (.vH t at_ o4 x) r h
    intro r h
    replace h : uN (fun t at_ => g (zT.yJ t at_)) (fun t at_ o4 x => g (zT.vH t at_ o4 x)) t at_ o4 x = some r := h
    unfold uN at h
    refine z1F 1000 (y2D _ _ _ _ t at_ o4 x) ?_
    rintro _ rfl
    refine zE beq_iff_eq h (fun _ h => ?_) (fun _ h => ?_)
    ·
      obtain ⟨q1, g, h⟩ := zB h
      refine ⟨_, ⟨_, zL _ _ _ _ g⟩, ?_⟩
      refine zE Iff.rfl h (fun _ h => ?_) (fun _ h => ?_)
      ·
        rintro _ rfl
        obtain ⟨q2, g, h⟩ := zB h
        refine ⟨_, _, _, _, _, _, _, _, ⟨_, ih_ref07Expr _ _ _ g⟩, ?_⟩
        rintro _ rfl
        refine zN beq_iff_eq h (fun _ h => ?_) (fun _ h => ?_)
        ·
          obtain ⟨q3, g, h⟩ := zB h
          refine ⟨_, ⟨_, zL _ _ _ _ g⟩, ?_⟩
          refine zN Iff.rfl h (fun _ h => ?_) (fun _ h => ?_)
          ·
            rintro _ rfl
            obtain ⟨q5, g, h⟩ := zB h
            have hT := zU _ _ _ _ _ _ _ _ g
            simp only [List.map_cons, List.map_nil, zF.toD_eq] at hT
            refine ⟨_, _, _, _, _, _, _, _, ⟨_, hT⟩, ?_⟩
            exact ih_ref07Post_L2 _ _ _ _ _ h
          obtain ⟨q4, g, h⟩ := zB h
          refine ⟨_, _, _, _, _, _, _, _, ⟨_, yH _ _ g⟩, ?_⟩
          cases h; exact ⟨rfl, rfl⟩
        cases h; exact ⟨rfl, rfl⟩
      obtain ⟨q6, g, h⟩ := zB h
      refine ⟨_, ⟨_, zL _ _ _ _ g⟩, ?_⟩
      refine zE Iff.rfl h (fun _ h => ?_) (fun _ h => ?_)
      ·
        rintro _ rfl
        obtain ⟨q7, g, h⟩ := zB h
        refine ⟨_, _, _, _, _, ⟨_, wS _ _ _ g⟩, ?_⟩
        rintro _ rfl
        refine zN beq_iff_eq h (fun _ h => ?_) (fun _ h => ?_)
        ·
          rintro _ rfl
          obtain ⟨q9, g, h⟩ := zB h
          have hT := zU _ _ _ _ _ _ _ _ g
          simp only [List.map_cons, List.map_nil, zF.toD_eq] at hT
          refine ⟨_, _, _, _, _, _, _, _, ⟨_, hT⟩, ?_⟩
          exact ih_ref07Post_L2 _ _ _ _ _ h
        rintro _ rfl
        obtain ⟨q8, g, h⟩ := zB h
        refine ⟨_, _, _, _, _, _, _, _, ⟨_, yH _ _ g⟩, ?_⟩
        cases h; exact ⟨rfl, rfl⟩
      cases h; exact ⟨rfl, rfl⟩
    cases h; exact ⟨rfl, rfl⟩
theorem z2G (t : List zC) (at_ : Int) (r : zG) (h : yM t at_ = some r) : z7D (.yM t at_) r := y0J (.yM t at_) r h
theorem y6e (t : List zC) (at_ : Int) (r : zG) (h : yJ t at_ = some r) : z7D (.yJ t at_) r := y0J (.yJ t at_) r h
def z9I : (i : wT) → z5U i → Prop
  | .yG t at_, r => Trip Try.prog 72 [.d (.sl (List.map zC.toD t)), (nI at_)] [] [.d (.agg [(.int .i64 r.T_.K), (.int .i64 r.T_.N), (.str r.T_.S), (.sl (List.map zF.toD r.T_.L)), (.int .i64 r.T_.From), (.int .i64 r.T_.To), (.int .i64 r.At), (.int .i64 r.E)])] []
  | .vL t at_ parts to_ o4, r => Ok (z6j (Trip Try.prog) [.d (.agg [(.int .i64 r.T_.K), (.int .i64 r.T_.N), (.str r.T_.S), (.sl (List.map zF.toD r.T_.L)), (.int .i64 r.T_.From), (.int .i64 r.T_.To), (.int .i64 r.At), (.int .i64 r.E)])] []) (kL Try.f72 5) ⟨41, [(0, .d (.sl (List.map zC.toD t))), (1, (nI at_)), (4, .ref 4 1 0), (5, .right 14 1 6 (List.map zF.toD parts)), (6, (nI to_))], [(4, 1, some (.agg (.agg [(.int .i64 o4.T_.K), (.int .i64 o4.T_.N), (.str o4.T_.S), (.sl (List.map zF.toD o4.T_.L)), (.int .i64 o4.T_.From), (.int .i64 o4.T_.To), (.int .i64 o4.At), (.int .i64 o4.E)]))), (14, 1, some (.tok 6 (List.length (List.map zF.toD parts))))], [], 0⟩
  | .jB t at_, r => Trip Try.prog 79 [.d (.sl (List.map zC.toD t)), (nI at_)] [] [.d (.agg [(.int .i64 r.T_.K), (.int .i64 r.T_.N), (.str r.T_.S), (.sl (List.map zF.toD r.T_.L)), (.int .i64 r.T_.From), (.int .i64 r.T_.To), (.int .i64 r.At), (.int .i64 r.E)])] []
  | .zM t at_ kind form parts name to_ i o4, r => Ok (z7T (Trip Try.prog) [.d (.agg [(.int .i64 r.T_.K), (.int .i64 r.T_.N), (.str r.T_.S), (.sl (List.map zF.toD r.T_.L)), (.int .i64 r.T_.From), (.int .i64 r.T_.To), (.int .i64 r.At), (.int .i64 r.E)])] []) (kL Try.f79 8) ⟨139, [(0, .d (.sl (List.map zC.toD t))), (1, (nI at_)), (4, .ref 4 1 0), (5, (nI kind)), (6, .d (.sl (List.map zJ.toD form))), (7, .right 26 1 6 (List.map zF.toD parts)), (8, (nS name)), (9, (nI to_)), (10, (nI i))], [(4, 1, some (.agg (.agg [(.int .i64 o4.T_.K), (.int .i64 o4.T_.N), (.str o4.T_.S), (.sl (List.map zF.toD o4.T_.L)), (.int .i64 o4.T_.From), (.int .i64 o4.T_.To), (.int .i64 o4.At), (.int .i64 o4.E)]))), (26, 1, some (.tok 6 (List.length (List.map zF.toD parts))))], [], 0⟩
  | .uS t at_ what, r => Trip Try.prog 84 [.d (.sl (List.map zC.toD t)), (nI at_), (nS what)] [] [.d (.agg [(.int .i64 r.T_.K), (.int .i64 r.T_.N), (.str r.T_.S), (.sl (List.map zF.toD r.T_.L)), (.int .i64 r.T_.From), (.int .i64 r.T_.To), (.int .i64 r.At), (.int .i64 r.E)])] []
theorem y4A : ∀ i r, gV jJ i = some r → z9I i r := by
  refine yU z2f fun g ih i => ?_
  cases i with
  | yG t at_ =>
    have ih_ref08Block_L5 := fun t at_ parts to_ o4 r h => ih (.vL t at_ parts to_ o4) r h
    intro r h
    replace h : z1r (fun t at_ parts to_ o4 => g (wT.vL t at_ parts to_ o4)) t at_ = some r := h
    unfold z1r at h
    refine yF 1000 (by kernel_rfl) (by kernel_rfl) (by kernel_rfl) (by kernel_rfl) (by kernel_rfl) (y5u _ _ _ _ t at_) ?_
    obtain ⟨q1, g, h⟩ := zB h
    refine ⟨_, ⟨_, zL _ _ _ _ g⟩, ?_⟩
    refine zN Iff.rfl h (fun _ h => ?_) (fun _ h => ?_)
    ·
      rintro _ rfl
      exact ih_ref08Block_L5 _ _ _ _ _ _ h
    obtain ⟨q2, g, h⟩ := zB h
    refine ⟨_, _, _, _, _, _, _, _, ⟨_, yH _ _ g⟩, ?_⟩
    cases h; exact ⟨rfl, rfl⟩
  | vL t at_ parts to_ o4 =>
    have ih_ref08Block_L5 := fun t at_ parts to_ o4 r h => ih (.vL t at_ parts to_ o4) r h
    have ih_ref08Stmt := fun t at_ r h => ih (.jB t at_) r h
    intro r h
    replace h : gC (fun t at_ parts to_ o4 => g (wT.vL t at_ parts to_ o4)) (fun t at_ => g (wT.jB t at_)) t at_ parts to_ o4 = some r := h
    unfold gC at h
    refine z1F 1000 (y1u _ _ _ _ t at_ parts to_ o4) ?_
    obtain ⟨q1, g, h⟩ := zB h
    refine ⟨_, ⟨_, zL _ _ _ _ g⟩, ?_⟩
    refine zN Iff.rfl h (fun _ h => ?_) (fun _ h => ?_)
    ·
      rintro _ rfl
      obtain ⟨q3, g, h⟩ := zB h
      refine ⟨_, _, _, _, _, _, _, _, ⟨_, zU _ _ _ _ _ _ _ _ g⟩, ?_⟩
      cases h; exact ⟨rfl, rfl⟩
    obtain ⟨q2, g, h⟩ := zB h
    refine ⟨_, _, _, _, _, _, _, _, ⟨_, ih_ref08Stmt _ _ _ g⟩, ?_⟩
    rintro _ rfl
    refine zN beq_iff_eq h (fun _ h => ?_) (fun _ h => ?_)
    ·
      refine ⟨by simp [zW, D.cells], ?_⟩
      refine ⟨by first | rfl | decide | simp only [List.length_map, List.length_cons, List.length_nil, List.map_append, List.length_append], ?_⟩
      obtain ⟨hP, h⟩ := zY h
      refine ⟨by first | exact hP | simpa using hP, ?_⟩
      refine z0Z (e' := List.map zF.toD (parts ++ [q2.T_])) (by first | rfl | simp only [List.map_append, List.map_cons, List.map_nil, List.map_take, List.map_drop, List.map_set, List.map_replicate, List.length_map, zF.toD_eq]) ?_
      exact ih_ref08Block_L5 _ _ _ _ _ _ h
    cases h; exact ⟨rfl, rfl⟩
  | jB t at_ =>
    have ih_ref08Block := fun t at_ r h => ih (.yG t at_) r h
    have ih_ref08Stmt_L8 := fun t at_ kind form parts name to_ i o4 r h => ih (.zM t at_ kind form parts name to_ i o4) r h
    intro r h
    replace h : z2c (fun t at_ => g (wT.yG t at_)) (fun t at_ kind form parts name to_ i o4 => g (wT.zM t at_ kind form parts name to_ i o4)) t at_ = some r := h
    unfold z2c at h
    refine yF 1000 (by kernel_rfl) (by kernel_rfl) (by kernel_rfl) (by kernel_rfl) (by kernel_rfl) (y6M _ _ _ _ t at_) ?_
    obtain ⟨q1, g, h⟩ := zB h
    refine ⟨_, ⟨_, zL _ _ _ _ g⟩, ?_⟩
    refine zE Iff.rfl h (fun _ h => ?_) (fun _ h => ?_)
    ·
      obtain ⟨q2, g, h⟩ := zB h
      refine ⟨_, _, _, _, _, _, _, _, ⟨_, ih_ref08Block _ _ _ g⟩, ?_⟩
      cases h; exact ⟨rfl, rfl⟩
    obtain ⟨q3, g, h⟩ := zB h
    refine ⟨_, _, ⟨_, y6f _ _ _ g⟩, ?_⟩
    exact ih_ref08Stmt_L8 _ _ _ _ _ _ _ _ _ _ h
  | zM t at_ kind form parts name to_ i o4 =>
    have ih_ref08Stmt_L8 := fun t at_ kind form parts name to_ i o4 r h => ih (.zM t at_ kind form parts name to_ i o4) r h
    have ih_ref08Part := fun t at_ what r h => ih (.uS t at_ what) r h
    intro r h
    replace h : uT (fun t at_ kind form parts name to_ i o4 => g (wT.zM t at_ kind form parts name to_ i o4)) (fun t at_ what => g (wT.uS t at_ what)) t at_ kind form parts name to_ i o4 = some r := h
    unfold uT at h
    refine z1F 1000 (y2E _ _ _ _ t at_ kind form parts name to_ i o4) ?_
    refine z0Z (e' := (List.length form : Int)) (by first | rfl | rw [List.length_map]) ?_
    rintro _ rfl
    refine zE decide_eq_true_iff h (fun _ h => ?_) (fun _ h => ?_)
    ·
      obtain ⟨x, hx, h⟩ := zB h
      refine ⟨yZ (l := form) (zJ.sz), z0z hx, x.What, x.S, uC (zJ.toD_eq x) hx, ?_⟩
      rintro _ rfl
      refine zE beq_iff_eq h (fun hc202 h => ?_) (fun hc202 h => ?_)
      ·
        rintro _ rfl
        refine z8n beq_iff_eq hc202 ?_
        obtain ⟨x1, hx, h⟩ := zB h
        refine ⟨yZ (l := form) (zJ.sz), z0z hx, x1.What, x1.S, uC (zJ.toD_eq x1) hx, ?_⟩
        obtain ⟨q1, g, h⟩ := zB h
        refine ⟨_, ⟨_, vI _ _ _ _ g⟩, ?_⟩
        refine zN Iff.rfl h (fun _ h => ?_) (fun _ h => ?_)
        ·
          rintro _ rfl
          refine z8m beq_iff_eq (fun e => absurd (hc202.symm.trans e) (by decide)) ?_
          rintro _ rfl
          rintro _ rfl
          exact ih_ref08Stmt_L8 _ _ _ _ _ _ _ _ _ _ h
        obtain ⟨q2, g, h⟩ := zB h
        refine ⟨_, _, _, _, _, _, _, _, ⟨_, yH _ _ g⟩, ?_⟩
        cases h; exact ⟨rfl, rfl⟩
      rintro _ rfl
      refine zE beq_iff_eq h (fun hc204 h => ?_) (fun hc204 h => ?_)
      ·
        rintro _ rfl
        refine z8m beq_iff_eq hc202 ?_
        rintro _ rfl
        refine z8n beq_iff_eq hc204 ?_
        obtain ⟨x6, hx, h⟩ := zB h
        refine ⟨yZ (l := form) (zJ.sz), z0z hx, x6.What, x6.S, uC (zJ.toD_eq x6) hx, ?_⟩
        obtain ⟨q11, g, h⟩ := zB h
        refine ⟨_, ⟨_, zL _ _ _ _ g⟩, ?_⟩
        refine zN Iff.rfl h (fun _ h => ?_) (fun _ h => ?_)
        ·
          rintro _ rfl
          rintro _ rfl
          exact ih_ref08Stmt_L8 _ _ _ _ _ _ _ _ _ _ h
        obtain ⟨q12, g, h⟩ := zB h
        refine ⟨_, _, _, _, _, _, _, _, ⟨_, yH _ _ g⟩, ?_⟩
        cases h; exact ⟨rfl, rfl⟩
      rintro _ rfl
      refine zE beq_iff_eq h (fun _ h => ?_) (fun _ h => ?_)
      ·
        obtain ⟨q13, g, h⟩ := zB h
        refine ⟨_, _, _, _, _, ⟨_, wS _ _ _ g⟩, ?_⟩
        rintro _ rfl
        refine zN beq_iff_eq h (fun _ h => ?_) (fun _ h => ?_)
        ·
          obtain ⟨x7, hx, h⟩ := zB h
          refine ⟨yZ (l := t) (zC.sz), z0z hx, x7.K, x7.N, x7.S, x7.From, x7.To, uC (zC.toD_eq x7) hx, ?_⟩
          rintro _ rfl
          rintro _ rfl
          exact ih_ref08Stmt_L8 _ _ _ _ _ _ _ _ _ _ h
        obtain ⟨q14, g, h⟩ := zB h
        refine ⟨_, _, _, _, _, _, _, _, ⟨_, yH _ _ g⟩, ?_⟩
        cases h; exact ⟨rfl, rfl⟩
      rintro _ rfl
      refine zE beq_iff_eq h (fun hc208 h => ?_) (fun hc208 h => ?_)
      ·
        obtain ⟨q15, g, h⟩ := zB h
        refine ⟨_, ⟨_, vI _ _ _ _ g⟩, ?_⟩
        refine zN Iff.rfl h (fun _ h => ?_) (fun _ h => ?_)
        ·
          rintro _ rfl
          refine z8n beq_iff_eq hc208 ?_
          rintro _ rfl
          obtain ⟨q16, g, h⟩ := zB h
          refine ⟨_, _, _, _, _, _, _, _, ⟨_, ih_ref08Part _ _ _ _ g⟩, ?_⟩
          rintro _ rfl
          refine zN beq_iff_eq h (fun _ h => ?_) (fun _ h => ?_)
          ·
            refine ⟨by simp [zW, D.cells], ?_⟩
            refine ⟨by first | rfl | decide | simp only [List.length_map, List.length_cons, List.length_nil, List.map_append, List.length_append], ?_⟩
            obtain ⟨hP, h⟩ := zY h
            refine ⟨by first | exact hP | simpa using hP, ?_⟩
            refine z0Z (e' := List.map zF.toD (parts ++ [q16.T_])) (by first | rfl | simp only [List.map_append, List.map_cons, List.map_nil, List.map_take, List.map_drop, List.map_set, List.map_replicate, List.length_map, zF.toD_eq]) ?_
            rintro _ rfl
            exact ih_ref08Stmt_L8 _ _ _ _ _ _ _ _ _ _ h
          cases h; exact ⟨rfl, rfl⟩
        rintro _ rfl
        obtain ⟨x8, hx, h⟩ := zB h
        refine ⟨yZ (l := t) (zC.sz), z0z hx, x8.K, x8.N, x8.S, x8.From, x8.To, uC (zC.toD_eq x8) hx, ?_⟩
        refine ⟨by simp [zW, D.cells], ?_⟩
        refine ⟨by first | rfl | decide | simp only [List.length_map, List.length_cons, List.length_nil, List.map_append, List.length_append], ?_⟩
        obtain ⟨hP, h⟩ := zY h
        refine ⟨by first | exact hP | simpa using hP, ?_⟩
        refine z0Z (e' := List.map zF.toD (parts ++ [(zF.mk 29 0 [] [] x8.To x8.To)])) (by first | rfl | simp only [List.map_append, List.map_cons, List.map_nil, List.map_take, List.map_drop, List.map_set, List.map_replicate, List.length_map, zF.toD_eq]) ?_
        rintro _ rfl
        exact ih_ref08Stmt_L8 _ _ _ _ _ _ _ _ _ _ h
      rintro _ rfl
      refine z8m beq_iff_eq hc208 ?_
      obtain ⟨q19, g, h⟩ := zB h
      refine ⟨_, _, _, _, _, _, _, _, ⟨_, ih_ref08Part _ _ _ _ g⟩, ?_⟩
      rintro _ rfl
      refine zN beq_iff_eq h (fun _ h => ?_) (fun _ h => ?_)
      ·
        refine ⟨by simp [zW, D.cells], ?_⟩
        refine ⟨by first | rfl | decide | simp only [List.length_map, List.length_cons, List.length_nil, List.map_append, List.length_append], ?_⟩
        obtain ⟨hP, h⟩ := zY h
        refine ⟨by first | exact hP | simpa using hP, ?_⟩
        refine z0Z (e' := List.map zF.toD (parts ++ [q19.T_])) (by first | rfl | simp only [List.map_append, List.map_cons, List.map_nil, List.map_take, List.map_drop, List.map_set, List.map_replicate, List.length_map, zF.toD_eq]) ?_
        rintro _ rfl
        exact ih_ref08Stmt_L8 _ _ _ _ _ _ _ _ _ _ h
      cases h; exact ⟨rfl, rfl⟩
    obtain ⟨q20, g, h⟩ := zB h
    refine ⟨_, _, _, _, _, _, _, _, ⟨_, zU _ _ _ _ _ _ _ _ g⟩, ?_⟩
    cases h; exact ⟨rfl, rfl⟩
  | uS t at_ what =>
    have ih_ref08Block := fun t at_ r h => ih (.yG t at_) r h
    intro r h
    replace h : z1s (fun t at_ => g (wT.yG t at_)) t at_ what = some r := h
    unfold z1s at h
    refine yF 1000 (by kernel_rfl) (by kernel_rfl) (by kernel_rfl) (by kernel_rfl) (by kernel_rfl) (y6L _ _ _ _ t at_ what) ?_
    rintro _ rfl
    refine zE beq_iff_eq h (fun _ h => ?_) (fun _ h => ?_)
    ·
      obtain ⟨q1, g, h⟩ := zB h
      refine ⟨_, _, _, _, _, _, _, _, ⟨_, y6e _ _ _ g⟩, ?_⟩
      cases h; exact ⟨rfl, rfl⟩
    rintro _ rfl
    refine zE beq_iff_eq h (fun _ h => ?_) (fun _ h => ?_)
    ·
      obtain ⟨q2, g, h⟩ := zB h
      refine ⟨_, _, _, _, _, _, _, _, ⟨_, z3W _ _ _ g⟩, ?_⟩
      cases h; exact ⟨rfl, rfl⟩
    obtain ⟨q3, g, h⟩ := zB h
    refine ⟨_, _, _, _, _, _, _, _, ⟨_, ih_ref08Block _ _ _ g⟩, ?_⟩
    cases h; exact ⟨rfl, rfl⟩
theorem y4I (t : List zC) (at_ : Int) (r : zG) (h : yG t at_ = some r) : z9I (.yG t at_) r := y4A (.yG t at_) r h
def z5x : (i : z1O) → z3o i → Prop
  | .vA t at_ out to_ more o4, r => Ok (z5g (Trip Try.prog) [.d (.agg [(.int .i64 r.T_.K), (.int .i64 r.T_.N), (.str r.T_.S), (.sl (List.map zF.toD r.T_.L)), (.int .i64 r.T_.From), (.int .i64 r.T_.To), (.int .i64 r.At), (.int .i64 r.E)])] []) (kL Try.f71 7) ⟨55, [(0, .d (.sl (List.map zC.toD t))), (1, (nI at_)), (4, .ref 4 1 0), (5, .right 9 1 6 (List.map zF.toD out)), (6, (nI to_)), (7, (nB more))], [(4, 1, some (.agg (.agg [(.int .i64 o4.T_.K), (.int .i64 o4.T_.N), (.str o4.T_.S), (.sl (List.map zF.toD o4.T_.L)), (.int .i64 o4.T_.From), (.int .i64 o4.T_.To), (.int .i64 o4.At), (.int .i64 o4.E)]))), (9, 1, some (.tok 6 (List.length (List.map zF.toD out))))], [], 0⟩
theorem y0h : ∀ i r, gV z1K i = some r → z5x i r := by
  refine yU z5t fun g ih i => ?_
  cases i with
  | vA t at_ out to_ more o4 =>
    have ih_ref09Params_L7 := fun t at_ out to_ more o4 r h => ih (.vA t at_ out to_ more o4) r h
    intro r h
    replace h : gI (fun t at_ out to_ more o4 => g (z1O.vA t at_ out to_ more o4)) t at_ out to_ more o4 = some r := h
    unfold gI at h
    refine z1F 1000 (y0q _ _ _ _ t at_ out to_ more o4) ?_
    refine zE Iff.rfl h (fun _ h => ?_) (fun _ h => ?_)
    ·
      obtain ⟨q1, g, h⟩ := zB h
      refine ⟨_, _, _, _, _, _, _, _, ⟨_, z7J _ _ _ g⟩, ?_⟩
      rintro _ rfl
      refine zN beq_iff_eq h (fun _ h => ?_) (fun _ h => ?_)
      ·
        refine ⟨by simp [zW, D.cells], ?_⟩
        refine ⟨by first | rfl | decide | simp only [List.length_map, List.length_cons, List.length_nil, List.map_append, List.length_append], ?_⟩
        obtain ⟨hP, h⟩ := zY h
        refine ⟨by first | exact hP | simpa using hP, ?_⟩
        refine z0Z (e' := List.map zF.toD (out ++ [q1.T_])) (by first | rfl | simp only [List.map_append, List.map_cons, List.map_nil, List.map_take, List.map_drop, List.map_set, List.map_replicate, List.length_map, zF.toD_eq]) ?_
        obtain ⟨q2, g, h⟩ := zB h
        refine ⟨_, ⟨_, zL _ _ _ _ g⟩, ?_⟩
        refine zE Iff.rfl h (fun _ h => ?_) (fun _ h => ?_)
        ·
          rintro _ rfl
          exact ih_ref09Params_L7 _ _ _ _ _ _ _ h
        exact ih_ref09Params_L7 _ _ _ _ _ _ _ h
      cases h; exact ⟨rfl, rfl⟩
    obtain ⟨q3, g, h⟩ := zB h
    refine ⟨_, ⟨_, zL _ _ _ _ g⟩, ?_⟩
    refine zN Iff.rfl h (fun _ h => ?_) (fun _ h => ?_)
    ·
      rintro _ rfl
      obtain ⟨q5, g, h⟩ := zB h
      refine ⟨_, _, _, _, _, _, _, _, ⟨_, zU _ _ _ _ _ _ _ _ g⟩, ?_⟩
      cases h; exact ⟨rfl, rfl⟩
    obtain ⟨q4, g, h⟩ := zB h
    refine ⟨_, _, _, _, _, _, _, _, ⟨_, yH _ _ g⟩, ?_⟩
    cases h; exact ⟨rfl, rfl⟩
theorem y0l (t : List zC) (at_ : Int) (out : List zF) (to_ : Int) (more : Bool) (o4 r : zG) (h : vA t at_ out to_ more o4 = some r) : z5x (.vA t at_ out to_ more o4) r := y0h (.vA t at_ out to_ more o4) r h
theorem y3t (t : List zC) (at_ : Int) (r : zG) (h : z4h t at_ = some r) : Trip Try.prog 71 [.d (.sl (List.map zC.toD t)), (nI at_)] [] [.d (.agg [(.int .i64 r.T_.K), (.int .i64 r.T_.N), (.str r.T_.S), (.sl (List.map zF.toD r.T_.L)), (.int .i64 r.T_.From), (.int .i64 r.T_.To), (.int .i64 r.At), (.int .i64 r.E)])] [] := by
  unfold z4h at h
  refine yF 1000 (by kernel_rfl) (by kernel_rfl) (by kernel_rfl) (by kernel_rfl) (by kernel_rfl) (y3N _ _ _ _ t at_) ?_
  obtain ⟨q1, g, h⟩ := zB h
  refine ⟨_, ⟨_, zL _ _ _ _ g⟩, ?_⟩
  refine zN Iff.rfl h (fun _ h => ?_) (fun _ h => ?_)
  ·
    rintro _ rfl
    obtain ⟨q3, g, h⟩ := zB h
    refine ⟨_, ⟨_, zL _ _ _ _ g⟩, ?_⟩
    refine zN Iff.rfl h (fun _ h => ?_) (fun _ h => ?_)
    ·
      rintro _ rfl
      obtain ⟨q4, g, h⟩ := zB h
      refine ⟨_, _, _, _, _, _, _, _, ⟨_, zU _ _ _ _ _ _ _ _ g⟩, ?_⟩
      cases h; exact ⟨rfl, rfl⟩
    exact y0l _ _ _ _ _ _ _ h
  obtain ⟨q2, g, h⟩ := zB h
  refine ⟨_, _, _, _, _, _, _, _, ⟨_, yH _ _ g⟩, ?_⟩
  cases h; exact ⟨rfl, rfl⟩
theorem y4J (t : List zC) (first at_ pub : Int) (r : zG) (h : z9v t first at_ pub = some r) : Trip Try.prog 54 [.d (.sl (List.map zC.toD t)), (nI first), (nI at_), (nI pub)] [] [.d (.agg [(.int .i64 r.T_.K), (.int .i64 r.T_.N), (.str r.T_.S), (.sl (List.map zF.toD r.T_.L)), (.int .i64 r.T_.From), (.int .i64 r.T_.To), (.int .i64 r.At), (.int .i64 r.E)])] [] := by
  unfold z9v at h
  refine yF 1000 (by kernel_rfl) (by kernel_rfl) (by kernel_rfl) (by kernel_rfl) (by kernel_rfl) (y9w _ _ _ _ t first at_ pub) ?_
  obtain ⟨q1, g, h⟩ := zB h
  refine ⟨_, ⟨_, vI _ _ _ _ g⟩, ?_⟩
  refine zN Iff.rfl h (fun _ h => ?_) (fun _ h => ?_)
  ·
    rintro _ rfl
    obtain ⟨q3, g, h⟩ := zB h
    refine ⟨_, _, _, _, _, ⟨_, wS _ _ _ g⟩, ?_⟩
    rintro _ rfl
    refine zN beq_iff_eq h (fun _ h => ?_) (fun _ h => ?_)
    ·
      rintro _ rfl
      obtain ⟨q5, g, h⟩ := zB h
      refine ⟨_, _, _, _, _, _, _, _, ⟨_, y3t _ _ _ g⟩, ?_⟩
      rintro _ rfl
      refine zN beq_iff_eq h (fun _ h => ?_) (fun _ h => ?_)
      ·
        obtain ⟨q6, g, h⟩ := zB h
        refine ⟨_, ⟨_, zL _ _ _ _ g⟩, ?_⟩
        refine zN Iff.rfl h (fun _ h => ?_) (fun _ h => ?_)
        ·
          rintro _ rfl
          obtain ⟨q8, g, h⟩ := zB h
          refine ⟨_, _, _, _, _, _, _, _, ⟨_, z3W _ _ _ g⟩, ?_⟩
          rintro _ rfl
          refine zN beq_iff_eq h (fun _ h => ?_) (fun _ h => ?_)
          ·
            obtain ⟨q9, g, h⟩ := zB h
            refine ⟨_, _, _, _, _, _, _, _, ⟨_, y4I _ _ _ g⟩, ?_⟩
            rintro _ rfl
            refine zN beq_iff_eq h (fun _ h => ?_) (fun _ h => ?_)
            ·
              rintro _ rfl
              obtain ⟨x, hx, h⟩ := zB h
              refine ⟨yZ (l := t) (zC.sz), z0z hx, x.K, x.N, x.S, x.From, x.To, uC (zC.toD_eq x) hx, ?_⟩
              obtain ⟨q10, g, h⟩ := zB h
              have hT := zU _ _ _ _ _ _ _ _ g
              simp only [List.map_cons, List.map_nil, zF.toD_eq] at hT
              refine ⟨_, _, _, _, _, _, _, _, ⟨_, hT⟩, ?_⟩
              cases h; exact ⟨rfl, rfl⟩
            cases h; exact ⟨rfl, rfl⟩
          cases h; exact ⟨rfl, rfl⟩
        obtain ⟨q7, g, h⟩ := zB h
        refine ⟨_, _, _, _, _, _, _, _, ⟨_, yH _ _ g⟩, ?_⟩
        cases h; exact ⟨rfl, rfl⟩
      cases h; exact ⟨rfl, rfl⟩
    rintro _ rfl
    obtain ⟨q4, g, h⟩ := zB h
    refine ⟨_, _, _, _, _, _, _, _, ⟨_, yH _ _ g⟩, ?_⟩
    cases h; exact ⟨rfl, rfl⟩
  obtain ⟨q2, g, h⟩ := zB h
  refine ⟨_, _, _, _, _, _, _, _, ⟨_, yH _ _ g⟩, ?_⟩
  cases h; exact ⟨rfl, rfl⟩
theorem z9O (t : List zC) (at_ : Int) (r : zG) (h : z3J t at_ = some r) : Trip Try.prog 53 [.d (.sl (List.map zC.toD t)), (nI at_)] [] [.d (.agg [(.int .i64 r.T_.K), (.int .i64 r.T_.N), (.str r.T_.S), (.sl (List.map zF.toD r.T_.L)), (.int .i64 r.T_.From), (.int .i64 r.T_.To), (.int .i64 r.At), (.int .i64 r.E)])] [] := by
  unfold z3J at h
  refine yF 1000 (by kernel_rfl) (by kernel_rfl) (by kernel_rfl) (by kernel_rfl) (by kernel_rfl) (y5w _ _ _ _ t at_) ?_
  rintro _ rfl
  obtain ⟨q1, g, h⟩ := zB h
  refine ⟨_, _, _, _, _, ⟨_, wS _ _ _ g⟩, ?_⟩
  rintro _ rfl
  refine zN beq_iff_eq h (fun _ h => ?_) (fun _ h => ?_)
  ·
    obtain ⟨q3, g, h⟩ := zB h
    refine ⟨_, ⟨_, vI _ _ _ _ g⟩, ?_⟩
    refine zE Iff.rfl h (fun _ h => ?_) (fun _ h => ?_)
    ·
      rintro _ rfl
      obtain ⟨q4, g, h⟩ := zB h
      refine ⟨_, ⟨_, zL _ _ _ _ g⟩, ?_⟩
      refine zN Iff.rfl h (fun _ h => ?_) (fun _ h => ?_)
      ·
        rintro _ rfl
        refine zE beq_iff_eq h (fun _ h => ?_) (fun _ h => ?_)
        ·
          rintro _ rfl
          obtain ⟨q6, g, h⟩ := zB h
          refine ⟨_, _, _, _, _, _, _, _, ⟨_, z3W _ _ _ g⟩, ?_⟩
          rintro _ rfl
          refine zN beq_iff_eq h (fun _ h => ?_) (fun _ h => ?_)
          ·
            obtain ⟨q7, g, h⟩ := zB h
            refine ⟨_, ⟨_, zL _ _ _ _ g⟩, ?_⟩
            refine zN Iff.rfl h (fun _ h => ?_) (fun _ h => ?_)
            ·
              rintro _ rfl
              rintro _ rfl
              obtain ⟨x, hx, h⟩ := zB h
              refine ⟨yZ (l := t) (zC.sz), z0z hx, x.K, x.N, x.S, x.From, x.To, uC (zC.toD_eq x) hx, ?_⟩
              obtain ⟨q9, g, h⟩ := zB h
              have hT := zU _ _ _ _ _ _ _ _ g
              simp only [List.map_cons, List.map_nil, zF.toD_eq] at hT
              refine ⟨_, _, _, _, _, _, _, _, ⟨_, hT⟩, ?_⟩
              cases h; exact ⟨rfl, rfl⟩
            obtain ⟨q8, g, h⟩ := zB h
            refine ⟨_, _, _, _, _, _, _, _, ⟨_, yH _ _ g⟩, ?_⟩
            cases h; exact ⟨rfl, rfl⟩
          cases h; exact ⟨rfl, rfl⟩
        rintro _ rfl
        obtain ⟨q10, g, h⟩ := zB h
        refine ⟨_, _, _, _, _, ⟨_, wS _ _ _ g⟩, ?_⟩
        rintro _ rfl
        refine zE beq_iff_eq h (fun _ h => ?_) (fun _ h => ?_)
        ·
          rintro _ rfl
          obtain ⟨q11, g, h⟩ := zB h
          refine ⟨_, _, _, _, _, _, _, _, ⟨_, z2G _ _ _ g⟩, ?_⟩
          rintro _ rfl
          refine zN beq_iff_eq h (fun _ h => ?_) (fun _ h => ?_)
          ·
            obtain ⟨q12, g, h⟩ := zB h
            refine ⟨_, ⟨_, zL _ _ _ _ g⟩, ?_⟩
            refine zN Iff.rfl h (fun _ h => ?_) (fun _ h => ?_)
            ·
              rintro _ rfl
              rintro _ rfl
              obtain ⟨x1, hx, h⟩ := zB h
              refine ⟨yZ (l := t) (zC.sz), z0z hx, x1.K, x1.N, x1.S, x1.From, x1.To, uC (zC.toD_eq x1) hx, ?_⟩
              obtain ⟨q14, g, h⟩ := zB h
              have hT := zU _ _ _ _ _ _ _ _ g
              simp only [List.map_cons, List.map_nil, zF.toD_eq] at hT
              refine ⟨_, _, _, _, _, _, _, _, ⟨_, hT⟩, ?_⟩
              cases h; exact ⟨rfl, rfl⟩
            obtain ⟨q13, g, h⟩ := zB h
            refine ⟨_, _, _, _, _, _, _, _, ⟨_, yH _ _ g⟩, ?_⟩
            cases h; exact ⟨rfl, rfl⟩
          cases h; exact ⟨rfl, rfl⟩
        rintro _ rfl
        obtain ⟨q15, g, h⟩ := zB h
        refine ⟨_, ⟨_, vI _ _ _ _ g⟩, ?_⟩
        refine zE Iff.rfl h (fun _ h => ?_) (fun _ h => ?_)
        ·
          rintro _ rfl
          obtain ⟨q16, g, h⟩ := zB h
          refine ⟨_, _, _, _, _, _, _, _, ⟨_, z2G _ _ _ g⟩, ?_⟩
          rintro _ rfl
          refine zN beq_iff_eq h (fun _ h => ?_) (fun _ h => ?_)
          ·
            obtain ⟨q17, g, h⟩ := zB h
            refine ⟨_, ⟨_, zL _ _ _ _ g⟩, ?_⟩
            refine zN Iff.rfl h (fun _ h => ?_) (fun _ h => ?_)
            ·
              rintro _ rfl
              rintro _ rfl
              obtain ⟨x2, hx, h⟩ := zB h
              refine ⟨yZ (l := t) (zC.sz), z0z hx, x2.K, x2.N, x2.S, x2.From, x2.To, uC (zC.toD_eq x2) hx, ?_⟩
              obtain ⟨q19, g, h⟩ := zB h
              have hT := zU _ _ _ _ _ _ _ _ g
              simp only [List.map_cons, List.map_nil, zF.toD_eq] at hT
              refine ⟨_, _, _, _, _, _, _, _, ⟨_, hT⟩, ?_⟩
              cases h; exact ⟨rfl, rfl⟩
            obtain ⟨q18, g, h⟩ := zB h
            refine ⟨_, _, _, _, _, _, _, _, ⟨_, yH _ _ g⟩, ?_⟩
            cases h; exact ⟨rfl, rfl⟩
          cases h; exact ⟨rfl, rfl⟩
        rintro _ rfl
        obtain ⟨q20, g, h⟩ := zB h
        refine ⟨_, ⟨_, vI _ _ _ _ g⟩, ?_⟩
        refine zE Iff.rfl h (fun _ h => ?_) (fun _ h => ?_)
        ·
          rintro _ rfl
          obtain ⟨q21, g, h⟩ := zB h
          refine ⟨_, _, _, _, _, _, _, _, ⟨_, z2G _ _ _ g⟩, ?_⟩
          rintro _ rfl
          refine zN beq_iff_eq h (fun _ h => ?_) (fun _ h => ?_)
          ·
            obtain ⟨q22, g, h⟩ := zB h
            refine ⟨_, ⟨_, zL _ _ _ _ g⟩, ?_⟩
            refine zN Iff.rfl h (fun _ h => ?_) (fun _ h => ?_)
            ·
              rintro _ rfl
              rintro _ rfl
              obtain ⟨x3, hx, h⟩ := zB h
              refine ⟨yZ (l := t) (zC.sz), z0z hx, x3.K, x3.N, x3.S, x3.From, x3.To, uC (zC.toD_eq x3) hx, ?_⟩
              obtain ⟨q24, g, h⟩ := zB h
              have hT := zU _ _ _ _ _ _ _ _ g
              simp only [List.map_cons, List.map_nil, zF.toD_eq] at hT
              refine ⟨_, _, _, _, _, _, _, _, ⟨_, hT⟩, ?_⟩
              cases h; exact ⟨rfl, rfl⟩
            obtain ⟨q23, g, h⟩ := zB h
            refine ⟨_, _, _, _, _, _, _, _, ⟨_, yH _ _ g⟩, ?_⟩
            cases h; exact ⟨rfl, rfl⟩
          cases h; exact ⟨rfl, rfl⟩
        rintro _ rfl
        obtain ⟨q25, g, h⟩ := zB h
        refine ⟨_, _, _, _, _, _, _, _, ⟨_, yH _ _ g⟩, ?_⟩
        rintro _ rfl
        refine zN beq_iff_eq h (fun _ h => ?_) (fun _ h => ?_)
        ·
          obtain ⟨q26, g, h⟩ := zB h
          refine ⟨_, ⟨_, zL _ _ _ _ g⟩, ?_⟩
          refine zN Iff.rfl h (fun _ h => ?_) (fun _ h => ?_)
          ·
            rintro _ rfl
            rintro _ rfl
            obtain ⟨x4, hx, h⟩ := zB h
            refine ⟨yZ (l := t) (zC.sz), z0z hx, x4.K, x4.N, x4.S, x4.From, x4.To, uC (zC.toD_eq x4) hx, ?_⟩
            obtain ⟨q28, g, h⟩ := zB h
            have hT := zU _ _ _ _ _ _ _ _ g
            simp only [List.map_cons, List.map_nil, zF.toD_eq] at hT
            refine ⟨_, _, _, _, _, _, _, _, ⟨_, hT⟩, ?_⟩
            cases h; exact ⟨rfl, rfl⟩
          obtain ⟨q27, g, h⟩ := zB h
          refine ⟨_, _, _, _, _, _, _, _, ⟨_, yH _ _ g⟩, ?_⟩
          cases h; exact ⟨rfl, rfl⟩
        cases h; exact ⟨rfl, rfl⟩
      rintro _ rfl
      obtain ⟨q5, g, h⟩ := zB h
      refine ⟨_, _, _, _, _, _, _, _, ⟨_, yH _ _ g⟩, ?_⟩
      cases h; exact ⟨rfl, rfl⟩
    rintro _ rfl
    obtain ⟨q29, g, h⟩ := zB h
    refine ⟨_, ⟨_, zL _ _ _ _ g⟩, ?_⟩
    refine zN Iff.rfl h (fun _ h => ?_) (fun _ h => ?_)
    ·
      rintro _ rfl
      refine zE beq_iff_eq h (fun _ h => ?_) (fun _ h => ?_)
      ·
        rintro _ rfl
        obtain ⟨q31, g, h⟩ := zB h
        refine ⟨_, _, _, _, _, _, _, _, ⟨_, z3W _ _ _ g⟩, ?_⟩
        rintro _ rfl
        refine zN beq_iff_eq h (fun _ h => ?_) (fun _ h => ?_)
        ·
          obtain ⟨q32, g, h⟩ := zB h
          refine ⟨_, ⟨_, zL _ _ _ _ g⟩, ?_⟩
          refine zN Iff.rfl h (fun _ h => ?_) (fun _ h => ?_)
          ·
            rintro _ rfl
            rintro _ rfl
            obtain ⟨x5, hx, h⟩ := zB h
            refine ⟨yZ (l := t) (zC.sz), z0z hx, x5.K, x5.N, x5.S, x5.From, x5.To, uC (zC.toD_eq x5) hx, ?_⟩
            obtain ⟨q34, g, h⟩ := zB h
            have hT := zU _ _ _ _ _ _ _ _ g
            simp only [List.map_cons, List.map_nil, zF.toD_eq] at hT
            refine ⟨_, _, _, _, _, _, _, _, ⟨_, hT⟩, ?_⟩
            cases h; exact ⟨rfl, rfl⟩
          obtain ⟨q33, g, h⟩ := zB h
          refine ⟨_, _, _, _, _, _, _, _, ⟨_, yH _ _ g⟩, ?_⟩
          cases h; exact ⟨rfl, rfl⟩
        cases h; exact ⟨rfl, rfl⟩
      rintro _ rfl
      obtain ⟨q35, g, h⟩ := zB h
      refine ⟨_, _, _, _, _, ⟨_, wS _ _ _ g⟩, ?_⟩
      rintro _ rfl
      refine zE beq_iff_eq h (fun _ h => ?_) (fun _ h => ?_)
      ·
        rintro _ rfl
        obtain ⟨q36, g, h⟩ := zB h
        refine ⟨_, _, _, _, _, _, _, _, ⟨_, z2G _ _ _ g⟩, ?_⟩
        rintro _ rfl
        refine zN beq_iff_eq h (fun _ h => ?_) (fun _ h => ?_)
        ·
          obtain ⟨q37, g, h⟩ := zB h
          refine ⟨_, ⟨_, zL _ _ _ _ g⟩, ?_⟩
          refine zN Iff.rfl h (fun _ h => ?_) (fun _ h => ?_)
          ·
            rintro _ rfl
            rintro _ rfl
            obtain ⟨x6, hx, h⟩ := zB h
            refine ⟨yZ (l := t) (zC.sz), z0z hx, x6.K, x6.N, x6.S, x6.From, x6.To, uC (zC.toD_eq x6) hx, ?_⟩
            obtain ⟨q39, g, h⟩ := zB h
            have hT := zU _ _ _ _ _ _ _ _ g
            simp only [List.map_cons, List.map_nil, zF.toD_eq] at hT
            refine ⟨_, _, _, _, _, _, _, _, ⟨_, hT⟩, ?_⟩
            cases h; exact ⟨rfl, rfl⟩
          obtain ⟨q38, g, h⟩ := zB h
          refine ⟨_, _, _, _, _, _, _, _, ⟨_, yH _ _ g⟩, ?_⟩
          cases h; exact ⟨rfl, rfl⟩
        cases h; exact ⟨rfl, rfl⟩
      rintro _ rfl
      obtain ⟨q40, g, h⟩ := zB h
      refine ⟨_, ⟨_, vI _ _ _ _ g⟩, ?_⟩
      refine zE Iff.rfl h (fun _ h => ?_) (fun _ h => ?_)
      ·
        rintro _ rfl
        obtain ⟨q41, g, h⟩ := zB h
        refine ⟨_, _, _, _, _, _, _, _, ⟨_, z2G _ _ _ g⟩, ?_⟩
        rintro _ rfl
        refine zN beq_iff_eq h (fun _ h => ?_) (fun _ h => ?_)
        ·
          obtain ⟨q42, g, h⟩ := zB h
          refine ⟨_, ⟨_, zL _ _ _ _ g⟩, ?_⟩
          refine zN Iff.rfl h (fun _ h => ?_) (fun _ h => ?_)
          ·
            rintro _ rfl
            rintro _ rfl
            obtain ⟨x7, hx, h⟩ := zB h
            refine ⟨yZ (l := t) (zC.sz), z0z hx, x7.K, x7.N, x7.S, x7.From, x7.To, uC (zC.toD_eq x7) hx, ?_⟩
            obtain ⟨q44, g, h⟩ := zB h
            have hT := zU _ _ _ _ _ _ _ _ g
            simp only [List.map_cons, List.map_nil, zF.toD_eq] at hT
            refine ⟨_, _, _, _, _, _, _, _, ⟨_, hT⟩, ?_⟩
            cases h; exact ⟨rfl, rfl⟩
          obtain ⟨q43, g, h⟩ := zB h
          refine ⟨_, _, _, _, _, _, _, _, ⟨_, yH _ _ g⟩, ?_⟩
          cases h; exact ⟨rfl, rfl⟩
        cases h; exact ⟨rfl, rfl⟩
      rintro _ rfl
      obtain ⟨q45, g, h⟩ := zB h
      refine ⟨_, ⟨_, vI _ _ _ _ g⟩, ?_⟩
      refine zE Iff.rfl h (fun _ h => ?_) (fun _ h => ?_)
      ·
        rintro _ rfl
        obtain ⟨q46, g, h⟩ := zB h
        refine ⟨_, _, _, _, _, _, _, _, ⟨_, z2G _ _ _ g⟩, ?_⟩
        rintro _ rfl
        refine zN beq_iff_eq h (fun _ h => ?_) (fun _ h => ?_)
        ·
          obtain ⟨q47, g, h⟩ := zB h
          refine ⟨_, ⟨_, zL _ _ _ _ g⟩, ?_⟩
          refine zN Iff.rfl h (fun _ h => ?_) (fun _ h => ?_)
          ·
            rintro _ rfl
            rintro _ rfl
            obtain ⟨x8, hx, h⟩ := zB h
            refine ⟨yZ (l := t) (zC.sz), z0z hx, x8.K, x8.N, x8.S, x8.From, x8.To, uC (zC.toD_eq x8) hx, ?_⟩
            obtain ⟨q49, g, h⟩ := zB h
            have hT := zU _ _ _ _ _ _ _ _ g
            simp only [List.map_cons, List.map_nil, zF.toD_eq] at hT
            refine ⟨_, _, _, _, _, _, _, _, ⟨_, hT⟩, ?_⟩
            cases h; exact ⟨rfl, rfl⟩
          obtain ⟨q48, g, h⟩ := zB h
          refine ⟨_, _, _, _, _, _, _, _, ⟨_, yH _ _ g⟩, ?_⟩
          cases h; exact ⟨rfl, rfl⟩
        cases h; exact ⟨rfl, rfl⟩
      rintro _ rfl
      obtain ⟨q50, g, h⟩ := zB h
      refine ⟨_, _, _, _, _, _, _, _, ⟨_, yH _ _ g⟩, ?_⟩
      rintro _ rfl
      refine zN beq_iff_eq h (fun _ h => ?_) (fun _ h => ?_)
      ·
        obtain ⟨q51, g, h⟩ := zB h
        refine ⟨_, ⟨_, zL _ _ _ _ g⟩, ?_⟩
        refine zN Iff.rfl h (fun _ h => ?_) (fun _ h => ?_)
        ·
          rintro _ rfl
          rintro _ rfl
          obtain ⟨x9, hx, h⟩ := zB h
          refine ⟨yZ (l := t) (zC.sz), z0z hx, x9.K, x9.N, x9.S, x9.From, x9.To, uC (zC.toD_eq x9) hx, ?_⟩
          obtain ⟨q53, g, h⟩ := zB h
          have hT := zU _ _ _ _ _ _ _ _ g
          simp only [List.map_cons, List.map_nil, zF.toD_eq] at hT
          refine ⟨_, _, _, _, _, _, _, _, ⟨_, hT⟩, ?_⟩
          cases h; exact ⟨rfl, rfl⟩
        obtain ⟨q52, g, h⟩ := zB h
        refine ⟨_, _, _, _, _, _, _, _, ⟨_, yH _ _ g⟩, ?_⟩
        cases h; exact ⟨rfl, rfl⟩
      cases h; exact ⟨rfl, rfl⟩
    rintro _ rfl
    obtain ⟨q30, g, h⟩ := zB h
    refine ⟨_, _, _, _, _, _, _, _, ⟨_, yH _ _ g⟩, ?_⟩
    cases h; exact ⟨rfl, rfl⟩
  rintro _ rfl
  obtain ⟨q2, g, h⟩ := zB h
  refine ⟨_, _, _, _, _, _, _, _, ⟨_, yH _ _ g⟩, ?_⟩
  cases h; exact ⟨rfl, rfl⟩
theorem y6g (t : List zC) (at_ : Int) (r : zG) (h : z6G t at_ = some r) : Trip Try.prog 25 [.d (.sl (List.map zC.toD t)), (nI at_)] [] [.d (.agg [(.int .i64 r.T_.K), (.int .i64 r.T_.N), (.str r.T_.S), (.sl (List.map zF.toD r.T_.L)), (.int .i64 r.T_.From), (.int .i64 r.T_.To), (.int .i64 r.At), (.int .i64 r.E)])] [] := by
  unfold z6G at h
  refine yF 1000 (by kernel_rfl) (by kernel_rfl) (by kernel_rfl) (by kernel_rfl) (by kernel_rfl) (y6N _ _ _ _ t at_) ?_
  obtain ⟨q1, g, h⟩ := zB h
  refine ⟨_, ⟨_, vI _ _ _ _ g⟩, ?_⟩
  refine zE Iff.rfl h (fun _ h => ?_) (fun _ h => ?_)
  ·
    obtain ⟨q2, g, h⟩ := zB h
    refine ⟨_, _, _, _, _, _, _, _, ⟨_, z9O _ _ _ g⟩, ?_⟩
    cases h; exact ⟨rfl, rfl⟩
  obtain ⟨q3, g, h⟩ := zB h
  refine ⟨_, ⟨_, vI _ _ _ _ g⟩, ?_⟩
  refine zE Iff.rfl h (fun _ h => ?_) (fun _ h => ?_)
  ·
    obtain ⟨q4, g, h⟩ := zB h
    refine ⟨_, _, _, _, _, _, _, _, ⟨_, z9O _ _ _ g⟩, ?_⟩
    cases h; exact ⟨rfl, rfl⟩
  obtain ⟨q5, g, h⟩ := zB h
  refine ⟨_, ⟨_, vI _ _ _ _ g⟩, ?_⟩
  refine zE Iff.rfl h (fun _ h => ?_) (fun _ h => ?_)
  ·
    rintro _ rfl
    obtain ⟨q6, g, h⟩ := zB h
    refine ⟨_, _, _, _, _, _, _, _, ⟨_, y4J _ _ _ _ _ g⟩, ?_⟩
    cases h; exact ⟨rfl, rfl⟩
  obtain ⟨q7, g, h⟩ := zB h
  refine ⟨_, ⟨_, vI _ _ _ _ g⟩, ?_⟩
  refine zE Iff.rfl h (fun _ h => ?_) (fun _ h => ?_)
  ·
    obtain ⟨q8, g, h⟩ := zB h
    refine ⟨_, _, _, _, _, _, _, _, ⟨_, y4J _ _ _ _ _ g⟩, ?_⟩
    cases h; exact ⟨rfl, rfl⟩
  obtain ⟨q9, g, h⟩ := zB h
  refine ⟨_, ⟨_, vI _ _ _ _ g⟩, ?_⟩
  refine zN Iff.rfl h (fun _ h => ?_) (fun _ h => ?_)
  ·
    rintro _ rfl
    obtain ⟨q11, g, h⟩ := zB h
    refine ⟨_, _, _, _, _, ⟨_, wS _ _ _ g⟩, ?_⟩
    rintro _ rfl
    refine zN beq_iff_eq h (fun _ h => ?_) (fun _ h => ?_)
    ·
      rintro _ rfl
      obtain ⟨q13, g, h⟩ := zB h
      refine ⟨_, ⟨_, zL _ _ _ _ g⟩, ?_⟩
      refine zN Iff.rfl h (fun _ h => ?_) (fun _ h => ?_)
      ·
        rintro _ rfl
        obtain ⟨q15, g, h⟩ := zB h
        refine ⟨_, _, _, ⟨_, y3s _ _ _ g⟩, ?_⟩
        rintro _ rfl
        refine zN beq_iff_eq h (fun _ h => ?_) (fun _ h => ?_)
        ·
          rintro _ rfl
          obtain ⟨x, hx, h⟩ := zB h
          refine ⟨yZ (l := t) (zC.sz), z0z hx, x.K, x.N, x.S, x.From, x.To, uC (zC.toD_eq x) hx, ?_⟩
          obtain ⟨q16, g, h⟩ := zB h
          refine ⟨_, _, _, _, _, _, _, _, ⟨_, zU _ _ _ _ _ _ _ _ g⟩, ?_⟩
          cases h; exact ⟨rfl, rfl⟩
        cases h; exact ⟨rfl, rfl⟩
      rintro _ rfl
      obtain ⟨q14, g, h⟩ := zB h
      refine ⟨_, _, _, _, _, _, _, _, ⟨_, yH _ _ g⟩, ?_⟩
      cases h; exact ⟨rfl, rfl⟩
    rintro _ rfl
    obtain ⟨q12, g, h⟩ := zB h
    refine ⟨_, _, _, _, _, _, _, _, ⟨_, yH _ _ g⟩, ?_⟩
    cases h; exact ⟨rfl, rfl⟩
  obtain ⟨q10, g, h⟩ := zB h
  refine ⟨_, _, _, _, _, _, _, _, ⟨_, yH _ _ g⟩, ?_⟩
  cases h; exact ⟨rfl, rfl⟩
def z5P : (i : z2v) → z3S i → Prop
  | .vR text t out i o2, r => Ok (z6k (Trip Try.prog) [.d (gT r.1.K r.1.N r.1.S (List.map zF.toD r.1.L) r.1.From r.1.To), (nI r.2.1), (nI r.2.2)] []) (kL Try.f11 6) ⟨64, [(0, (nS text)), (2, .ref 2 1 0), (5, .d (.sl (List.map zC.toD t))), (8, .right 23 1 6 (List.map zF.toD out)), (9, (nI i))], [(2, 1, some (.agg (gT o2.K o2.N o2.S (List.map zF.toD o2.L) o2.From o2.To))), (23, 1, some (.tok 6 (List.length (List.map zF.toD out))))], [], 0⟩
theorem y0K : ∀ i r, gV z2r i = some r → z5P i r := by
  refine yU z5L fun g ih i => ?_
  cases i with
  | vR text t out i o2 =>
    have ih_ref09Parse_L6 := fun text t out i o2 r h => ih (.vR text t out i o2) r h
    intro r h
    replace h : z0J (fun text t out i o2 => g (z2v.vR text t out i o2)) text t out i o2 = some r := h
    unfold z0J at h
    refine z1F 1000 (y1v _ _ _ _ text t out i o2) ?_
    refine z0Z (e' := (List.length t : Int)) (by first | rfl | rw [List.length_map]) ?_
    rintro _ rfl
    rintro _ rfl
    refine zE decide_eq_true_iff h (fun _ h => ?_) (fun _ h => ?_)
    ·
      obtain ⟨q1, g, h⟩ := zB h
      refine ⟨_, _, _, _, _, _, _, _, ⟨_, y6g _ _ _ g⟩, ?_⟩
      rintro _ rfl
      refine zN beq_iff_eq h (fun _ h => ?_) (fun _ h => ?_)
      ·
        refine ⟨by simp [zW, D.cells], ?_⟩
        refine ⟨by first | rfl | decide | simp only [List.length_map, List.length_cons, List.length_nil, List.map_append, List.length_append], ?_⟩
        obtain ⟨hP, h⟩ := zY h
        refine ⟨by first | exact hP | simpa using hP, ?_⟩
        refine z0Z (e' := List.map zF.toD (out ++ [q1.T_])) (by first | rfl | simp only [List.map_append, List.map_cons, List.map_nil, List.map_take, List.map_drop, List.map_set, List.map_replicate, List.length_map, zF.toD_eq]) ?_
        exact ih_ref09Parse_L6 _ _ _ _ _ _ h
      obtain ⟨x, hx, h⟩ := zB h
      refine ⟨yZ (l := t) (zC.sz), z0z hx, x.K, x.N, x.S, x.From, x.To, uC (zC.toD_eq x) hx, ?_⟩
      cases h; exact ⟨rfl, rfl⟩
    rintro _ rfl
    refine z0Z (e' := (List.length out : Int)) (by first | rfl | rw [List.length_map]) ?_
    rintro _ rfl
    refine zE decide_eq_true_iff h (fun _ h => ?_) (fun _ h => ?_)
    ·
      cases h; exact ⟨rfl, rfl⟩
    obtain ⟨q2, g, h⟩ := zB h
    refine ⟨_, ⟨_, y4G _ _ g⟩, ?_⟩
    rintro _ rfl
    refine zE decide_eq_true_iff h (fun _ h => ?_) (fun _ h => ?_)
    ·
      cases h; exact ⟨rfl, rfl⟩
    cases h; exact ⟨rfl, rfl⟩
theorem y0U (text : Str) (t : List zC) (out : List zF) (i : Int) (o2 : zF) (r : zF × Int × Int) (h : vR text t out i o2 = some r) : z5P (.vR text t out i o2) r := y0K (.vR text t out i o2) r h
theorem y4K (text : Str) (r : zF × Int × Int) (h : z4M text = some r) : Trip Try.prog 11 [(nS text)] [] [.d (gT r.1.K r.1.N r.1.S (List.map zF.toD r.1.L) r.1.From r.1.To), (nI r.2.1), (nI r.2.2)] [] := by
  unfold z4M at h
  refine yF 1000 (by kernel_rfl) (by kernel_rfl) (by kernel_rfl) (by kernel_rfl) (by kernel_rfl) (y5v _ _ _ _ text) ?_
  obtain ⟨q1, g, h⟩ := zB h
  refine ⟨_, _, _, ⟨_, y3r _ _ g⟩, ?_⟩
  rintro _ rfl
  refine zN beq_iff_eq h (fun _ h => ?_) (fun _ h => ?_)
  ·
    exact y0U _ _ _ _ _ _ h
  cases h; exact ⟨rfl, rfl⟩
def z8s : (i : z3A) → z4Z i → Prop
  | .wM n, r => Trip Try.prog 20 [(nI n)] [] [(nS r)] []
theorem y3o : ∀ i r, gV z3y i = some r → z8s i r := by
  refine yU z8q fun g ih i => ?_
  cases i with
  | wM n =>
    have ih_ref05Digits := fun n r h => ih (.wM n) r h
    intro r h
    replace h : z0W (fun n => g (z3A.wM n)) n = some r := h
    unfold z0W at h
    refine yF 1000 (by kernel_rfl) (by kernel_rfl) (by kernel_rfl) (by kernel_rfl) (by kernel_rfl) (y3F _ _ _ _ n) ?_
    rintro _ rfl
    refine zE decide_eq_true_iff h (fun _ h => ?_) (fun _ h => ?_)
    ·
      rintro _ rfl
      refine zE decide_eq_true_iff h (fun _ h => ?_) (fun _ h => ?_)
      ·
        rintro _ rfl
        rintro _ rfl
        obtain ⟨s, hx, h⟩ := zB h
        refine ⟨s, z8l hx, ?_⟩
        obtain ⟨hP, h⟩ := zY h
        refine ⟨by first | exact hP | simpa using hP, ?_⟩
        rintro _ rfl
        cases h; exact ⟨rfl, rfl⟩
      obtain ⟨hP, h⟩ := zY h
      refine ⟨by first | exact hP | simpa using hP, ?_⟩
      rintro _ rfl
      obtain ⟨q1, g, h⟩ := zB h
      refine ⟨_, ⟨_, ih_ref05Digits _ _ g⟩, ?_⟩
      obtain ⟨hP, h⟩ := zY h
      refine ⟨by first | exact hP | simpa using hP, ?_⟩
      rintro _ rfl
      rintro _ rfl
      rintro _ rfl
      obtain ⟨s1, hx, h⟩ := zB h
      refine ⟨s1, z8l hx, ?_⟩
      obtain ⟨hP, h⟩ := zY h
      refine ⟨by first | exact hP | simpa using hP, ?_⟩
      rintro _ rfl
      cases h; exact ⟨rfl, rfl⟩
    rintro _ rfl
    refine zE decide_eq_true_iff h (fun _ h => ?_) (fun _ h => ?_)
    ·
      rintro _ rfl
      rintro _ rfl
      obtain ⟨s2, hx, h⟩ := zB h
      refine ⟨s2, z8l hx, ?_⟩
      cases h; exact ⟨rfl, rfl⟩
    obtain ⟨hP, h⟩ := zY h
    refine ⟨by first | exact hP | simpa using hP, ?_⟩
    rintro _ rfl
    obtain ⟨q2, g, h⟩ := zB h
    refine ⟨_, ⟨_, ih_ref05Digits _ _ g⟩, ?_⟩
    obtain ⟨hP, h⟩ := zY h
    refine ⟨by first | exact hP | simpa using hP, ?_⟩
    rintro _ rfl
    rintro _ rfl
    rintro _ rfl
    obtain ⟨s3, hx, h⟩ := zB h
    refine ⟨s3, z8l hx, ?_⟩
    obtain ⟨hP, h⟩ := zY h
    refine ⟨by first | exact hP | simpa using hP, ?_⟩
    rintro _ rfl
    cases h; exact ⟨rfl, rfl⟩
theorem z8v (n : Int) (r : Str) (h : wM n = some r) : z8s (.wM n) r := y3o (.wM n) r h
def z5Q : (i : gA) → z3T i → Prop
  | .vC level t, r => Ok (z3f (Trip Try.prog) [(nI r)] []) (kL Try.f21 6) ⟨36, [(1, .ref 1 1 0), (3, (nI level))], [(1, 1, some (.agg (gT t.K t.N t.S (List.map zF.toD t.L) t.From t.To)))], [], 0⟩
  | .yQ level ops i t, r => Ok (z3f (Trip Try.prog) [(nI r)] []) (kL Try.f21 10) ⟨36, [(1, .ref 1 1 0), (3, (nI level)), (5, .d (.sl (List.map (D.int .i64) ops))), (6, (nI i))], [(1, 1, some (.agg (gT t.K t.N t.S (List.map zF.toD t.L) t.From t.To)))], [], 0⟩
theorem y0L : ∀ i r, gV z0E i = some r → z5Q i r := by
  refine yU z3M fun g ih i => ?_
  cases i with
  | vC level t =>
    have ih_ref10Binds_L10 := fun level ops i t r h => ih (.yQ level ops i t) r h
    intro r h
    replace h : z0K (fun level ops i t => g (gA.yQ level ops i t)) level t = some r := h
    unfold z0K at h
    refine z1F 1000 (y1w _ _ _ _ level t) ?_
    rintro _ rfl
    refine zE decide_eq_true_iff h (fun _ h => ?_) (fun _ h => ?_)
    ·
      obtain ⟨q1, g, h⟩ := zB h
      refine ⟨_, _, ⟨_, z9d _ _ g⟩, ?_⟩
      exact ih_ref10Binds_L10 _ _ _ _ _ h
    cases h; exact ⟨rfl, rfl⟩
  | yQ level ops i t =>
    have ih_ref10Binds_L6 := fun level t r h => ih (.vC level t) r h
    have ih_ref10Binds_L10 := fun level ops i t r h => ih (.yQ level ops i t) r h
    intro r h
    replace h : gJ (fun level t => g (gA.vC level t)) (fun level ops i t => g (gA.yQ level ops i t)) level ops i t = some r := h
    unfold gJ at h
    refine z1F 1000 (y0r _ _ _ _ level ops i t) ?_
    refine z0Z (e' := (List.length ops : Int)) (by first | rfl | rw [List.length_map]) ?_
    rintro _ rfl
    refine zE decide_eq_true_iff h (fun _ h => ?_) (fun _ h => ?_)
    ·
      obtain ⟨x, hx, h⟩ := zB h
      refine ⟨yZ (l := ops) (fun _ => rfl), z0z hx, x, uC rfl hx, ?_⟩
      rintro _ rfl
      refine zE beq_iff_eq h (fun _ h => ?_) (fun _ h => ?_)
      ·
        cases h; exact ⟨rfl, rfl⟩
      rintro _ rfl
      exact ih_ref10Binds_L10 _ _ _ _ _ h
    rintro _ rfl
    exact ih_ref10Binds_L6 _ _ _ h
theorem y0V (level : Int) (t : zF) (r : Int) (h : vC level t = some r) : z5Q (.vC level t) r := y0L (.vC level t) r h
theorem z9P (t : zF) (r : Int) (h : z2l t = some r) : Trip Try.prog 21 [.d (gT t.K t.N t.S (List.map zF.toD t.L) t.From t.To)] [] [(nI r)] [] := by
  unfold z2l at h
  refine yF 1000 (by kernel_rfl) (by kernel_rfl) (by kernel_rfl) (by kernel_rfl) (by kernel_rfl) (y5x _ _ _ _ t) ?_
  rintro _ rfl
  refine zE beq_iff_eq h (fun _ h => ?_) (fun _ h => ?_)
  ·
    cases h; exact ⟨rfl, rfl⟩
  rintro _ rfl
  refine zN beq_iff_eq h (fun _ h => ?_) (fun _ h => ?_)
  ·
    exact y0V _ _ _ h
  cases h; exact ⟨rfl, rfl⟩
def z7s : (i : gQ) → z4z i → Prop
  | .vP op level, r => Ok (z3Z (Trip Try.prog) [(nS r)] []) (kL Try.f23 2) ⟨32, [(0, (nI op)), (3, (nI level))], [], [], 0⟩
  | .vU op level signs ops i, r => Ok (z3Z (Trip Try.prog) [(nS r)] []) (kL Try.f23 6) ⟨32, [(0, (nI op)), (3, (nI level)), (4, .d (.sl (List.map D.str signs))), (5, .d (.sl (List.map (D.int .i64) ops))), (6, (nI i))], [], [], 0⟩
theorem y2p : ∀ i r, gV z1c i = some r → z7s i r := by
  refine yU z4u fun g ih i => ?_
  cases i with
  | vP op level =>
    have ih_ref10Sign_L6 := fun op level signs ops i r h => ih (.vU op level signs ops i) r h
    intro r h
    replace h : z1d (fun op level signs ops i => g (gQ.vU op level signs ops i)) op level = some r := h
    unfold z1d at h
    refine z1F 1000 (y2H _ _ _ _ op level) ?_
    rintro _ rfl
    refine zE decide_eq_true_iff h (fun _ h => ?_) (fun _ h => ?_)
    ·
      obtain ⟨q1, g, h⟩ := zB h
      refine ⟨_, _, ⟨_, z9d _ _ g⟩, ?_⟩
      exact ih_ref10Sign_L6 _ _ _ _ _ _ h
    cases h; exact ⟨rfl, rfl⟩
  | vU op level signs ops i =>
    have ih_ref10Sign_L2 := fun op level r h => ih (.vP op level) r h
    have ih_ref10Sign_L6 := fun op level signs ops i r h => ih (.vU op level signs ops i) r h
    intro r h
    replace h : z0x (fun op level => g (gQ.vP op level)) (fun op level signs ops i => g (gQ.vU op level signs ops i)) op level signs ops i = some r := h
    unfold z0x at h
    refine z1F 1000 (y2I _ _ _ _ op level signs ops i) ?_
    refine z0Z (e' := (List.length ops : Int)) (by first | rfl | rw [List.length_map]) ?_
    rintro _ rfl
    refine zE decide_eq_true_iff h (fun _ h => ?_) (fun _ h => ?_)
    ·
      obtain ⟨x, hx, h⟩ := zB h
      refine ⟨yZ (l := ops) (fun _ => rfl), z0z hx, x, uC rfl hx, ?_⟩
      rintro _ rfl
      refine zE beq_iff_eq h (fun _ h => ?_) (fun _ h => ?_)
      ·
        obtain ⟨x1, hx, h⟩ := zB h
        refine ⟨yZ (l := signs) (fun _ => rfl), z0z hx, x1, uC rfl hx, ?_⟩
        cases h; exact ⟨rfl, rfl⟩
      rintro _ rfl
      exact ih_ref10Sign_L6 _ _ _ _ _ _ h
    rintro _ rfl
    exact ih_ref10Sign_L2 _ _ _ h
theorem y2v (op level : Int) (r : Str) (h : vP op level = some r) : z7s (.vP op level) r := y2p (.vP op level) r h
theorem y0W (op : Int) (r : Str) (h : z4O op = some r) : Trip Try.prog 23 [(nI op)] [] [(nS r)] [] := by
  unfold z4O at h
  refine yF 1000 (by kernel_rfl) (by kernel_rfl) (by kernel_rfl) (by kernel_rfl) (by kernel_rfl) (y6S _ _ _ _ op) ?_
  exact y2v _ _ _ h
def y0O : (i : uQ) → z7G i → Prop
  | .vE t, r => Trip Try.prog 9 [.d (gT t.K t.N t.S (List.map zF.toD t.L) t.From t.To)] [] [(nS r)] []
  | .wP t least, r => Trip Try.prog 22 [.d (gT t.K t.N t.S (List.map zF.toD t.L) t.From t.To), (nI least)] [] [(nS r)] []
  | .jE l first last, r => Trip Try.prog 24 [.d (.sl (List.map zF.toD l)), (nS first), (nS last)] [] [(nS r)] []
  | .yS l last out i, r => Ok (z7U (Trip Try.prog) [(nS r)] []) (kL Try.f24 3) ⟨32, [(0, .d (.sl (List.map zF.toD l))), (2, (nS last)), (7, (nS out)), (8, (nI i))], [], [], 0⟩
theorem y6c : ∀ i r, gV z0o i = some r → y0O i r := by
  refine yU z3N fun g ih i => ?_
  cases i with
  | vE t =>
    have ih_ref10Expr := fun t r h => ih (.vE t) r h
    have ih_ref10Round := fun t least r h => ih (.wP t least) r h
    have ih_ref10List := fun l first last r h => ih (.jE l first last) r h
    intro r h
    replace h : uI (fun t => g (uQ.vE t)) (fun t least => g (uQ.wP t least)) (fun l first last => g (uQ.jE l first last)) t = some r := h
    unfold uI at h
    refine yF 1000 (by kernel_rfl) (by kernel_rfl) (by kernel_rfl) (by kernel_rfl) (by kernel_rfl) (y6Q _ _ _ _ t) ?_
    rintro _ rfl
    refine zE beq_iff_eq h (fun _ h => ?_) (fun _ h => ?_)
    ·
      obtain ⟨q1, g, h⟩ := zB h
      refine ⟨_, ⟨_, z8v _ _ g⟩, ?_⟩
      cases h; exact ⟨rfl, rfl⟩
    rintro _ rfl
    refine zE beq_iff_eq h (fun hc283 h => ?_) (fun hc283 h => ?_)
    ·
      rintro _ rfl
      refine zE beq_iff_eq h (fun _ h => ?_) (fun _ h => ?_)
      ·
        cases h; exact ⟨rfl, rfl⟩
      rintro _ rfl
      refine z8n beq_iff_eq hc283 ?_
      cases h; exact ⟨rfl, rfl⟩
    rintro _ rfl
    refine z8m beq_iff_eq hc283 ?_
    rintro _ rfl
    refine zE beq_iff_eq h (fun _ h => ?_) (fun _ h => ?_)
    ·
      cases h; exact ⟨rfl, rfl⟩
    rintro _ rfl
    refine zE beq_iff_eq h (fun _ h => ?_) (fun _ h => ?_)
    ·
      cases h; exact ⟨rfl, rfl⟩
    rintro _ rfl
    refine zE beq_iff_eq h (fun _ h => ?_) (fun _ h => ?_)
    ·
      obtain ⟨q26, g, h⟩ := zB h
      refine ⟨_, ⟨_, z9P _ _ g⟩, ?_⟩
      rintro _ rfl
      refine zE beq_iff_eq h (fun _ h => ?_) (fun _ h => ?_)
      ·
        obtain ⟨x13, hx, h⟩ := zB h
        refine ⟨yZ (l := t.L) (zF.sz), z0z hx, x13.K, x13.N, x13.S, List.map zF.toD x13.L, x13.From, x13.To, uC (zF.toD_eq x13) hx, ?_⟩
        obtain ⟨q27, g, h⟩ := zB h
        refine ⟨_, ⟨_, ih_ref10Round _ _ _ g⟩, ?_⟩
        obtain ⟨hP, h⟩ := zY h
        refine ⟨by first | exact hP | simpa using hP, ?_⟩
        rintro _ rfl
        obtain ⟨q28, g, h⟩ := zB h
        refine ⟨_, ⟨_, y0W _ _ g⟩, ?_⟩
        obtain ⟨hP, h⟩ := zY h
        refine ⟨by first | exact hP | simpa using hP, ?_⟩
        rintro _ rfl
        obtain ⟨hP, h⟩ := zY h
        refine ⟨by first | exact hP | simpa using hP, ?_⟩
        rintro _ rfl
        obtain ⟨x14, hx, h⟩ := zB h
        refine ⟨yZ (l := t.L) (zF.sz), z0z hx, x14.K, x14.N, x14.S, List.map zF.toD x14.L, x14.From, x14.To, uC (zF.toD_eq x14) hx, ?_⟩
        rintro _ rfl
        obtain ⟨q29, g, h⟩ := zB h
        refine ⟨_, ⟨_, ih_ref10Round _ _ _ g⟩, ?_⟩
        obtain ⟨hP, h⟩ := zY h
        refine ⟨by first | exact hP | simpa using hP, ?_⟩
        rintro _ rfl
        cases h; exact ⟨rfl, rfl⟩
      obtain ⟨x15, hx, h⟩ := zB h
      refine ⟨yZ (l := t.L) (zF.sz), z0z hx, x15.K, x15.N, x15.S, List.map zF.toD x15.L, x15.From, x15.To, uC (zF.toD_eq x15) hx, ?_⟩
      obtain ⟨q30, g, h⟩ := zB h
      refine ⟨_, ⟨_, ih_ref10Round _ _ _ g⟩, ?_⟩
      obtain ⟨hP, h⟩ := zY h
      refine ⟨by first | exact hP | simpa using hP, ?_⟩
      rintro _ rfl
      obtain ⟨q31, g, h⟩ := zB h
      refine ⟨_, ⟨_, y0W _ _ g⟩, ?_⟩
      obtain ⟨hP, h⟩ := zY h
      refine ⟨by first | exact hP | simpa using hP, ?_⟩
      rintro _ rfl
      obtain ⟨hP, h⟩ := zY h
      refine ⟨by first | exact hP | simpa using hP, ?_⟩
      rintro _ rfl
      obtain ⟨x16, hx, h⟩ := zB h
      refine ⟨yZ (l := t.L) (zF.sz), z0z hx, x16.K, x16.N, x16.S, List.map zF.toD x16.L, x16.From, x16.To, uC (zF.toD_eq x16) hx, ?_⟩
      rintro _ rfl
      obtain ⟨q32, g, h⟩ := zB h
      refine ⟨_, ⟨_, ih_ref10Round _ _ _ g⟩, ?_⟩
      obtain ⟨hP, h⟩ := zY h
      refine ⟨by first | exact hP | simpa using hP, ?_⟩
      rintro _ rfl
      cases h; exact ⟨rfl, rfl⟩
    rintro _ rfl
    refine zE beq_iff_eq h (fun hc289 h => ?_) (fun hc289 h => ?_)
    ·
      rintro _ rfl
      refine zE beq_iff_eq h (fun _ h => ?_) (fun _ h => ?_)
      ·
        obtain ⟨x17, hx, h⟩ := zB h
        refine ⟨yZ (l := t.L) (zF.sz), z0z hx, x17.K, x17.N, x17.S, List.map zF.toD x17.L, x17.From, x17.To, uC (zF.toD_eq x17) hx, ?_⟩
        obtain ⟨q33, g, h⟩ := zB h
        refine ⟨_, ⟨_, ih_ref10Round _ _ _ g⟩, ?_⟩
        obtain ⟨hP, h⟩ := zY h
        refine ⟨by first | exact hP | simpa using hP, ?_⟩
        rintro _ rfl
        cases h; exact ⟨rfl, rfl⟩
      rintro _ rfl
      refine z8n beq_iff_eq hc289 ?_
      obtain ⟨x18, hx, h⟩ := zB h
      refine ⟨yZ (l := t.L) (zF.sz), z0z hx, x18.K, x18.N, x18.S, List.map zF.toD x18.L, x18.From, x18.To, uC (zF.toD_eq x18) hx, ?_⟩
      obtain ⟨q34, g, h⟩ := zB h
      refine ⟨_, ⟨_, ih_ref10Round _ _ _ g⟩, ?_⟩
      obtain ⟨hP, h⟩ := zY h
      refine ⟨by first | exact hP | simpa using hP, ?_⟩
      rintro _ rfl
      cases h; exact ⟨rfl, rfl⟩
    rintro _ rfl
    refine z8m beq_iff_eq hc289 ?_
    rintro _ rfl
    refine zE beq_iff_eq h (fun _ h => ?_) (fun _ h => ?_)
    ·
      obtain ⟨x23, hx, h⟩ := zB h
      refine ⟨yZ (l := t.L) (zF.sz), z0z hx, x23.K, x23.N, x23.S, List.map zF.toD x23.L, x23.From, x23.To, uC (zF.toD_eq x23) hx, ?_⟩
      obtain ⟨q43, g, h⟩ := zB h
      refine ⟨_, ⟨_, ih_ref10Round _ _ _ g⟩, ?_⟩
      obtain ⟨hP, h⟩ := zY h
      refine ⟨by first | exact hP | simpa using hP, ?_⟩
      rintro _ rfl
      obtain ⟨x24, hx, h⟩ := zB h
      refine ⟨yZ (l := t.L) (zF.sz), z0z hx, x24.K, x24.N, x24.S, List.map zF.toD x24.L, x24.From, x24.To, uC (zF.toD_eq x24) hx, ?_⟩
      obtain ⟨q44, g, h⟩ := zB h
      refine ⟨_, ⟨_, ih_ref10Expr _ _ g⟩, ?_⟩
      obtain ⟨hP, h⟩ := zY h
      refine ⟨by first | exact hP | simpa using hP, ?_⟩
      rintro _ rfl
      obtain ⟨hP, h⟩ := zY h
      refine ⟨by first | exact hP | simpa using hP, ?_⟩
      rintro _ rfl
      cases h; exact ⟨rfl, rfl⟩
    rintro _ rfl
    refine zE beq_iff_eq h (fun _ h => ?_) (fun _ h => ?_)
    ·
      obtain ⟨x25, hx, h⟩ := zB h
      refine ⟨yZ (l := t.L) (zF.sz), z0z hx, x25.K, x25.N, x25.S, List.map zF.toD x25.L, x25.From, x25.To, uC (zF.toD_eq x25) hx, ?_⟩
      obtain ⟨q45, g, h⟩ := zB h
      refine ⟨_, ⟨_, ih_ref10Round _ _ _ g⟩, ?_⟩
      obtain ⟨hP, h⟩ := zY h
      refine ⟨by first | exact hP | simpa using hP, ?_⟩
      rintro _ rfl
      obtain ⟨hP, h⟩ := zY h
      refine ⟨by first | exact hP | simpa using hP, ?_⟩
      rintro _ rfl
      cases h; exact ⟨rfl, rfl⟩
    rintro _ rfl
    refine zE beq_iff_eq h (fun _ h => ?_) (fun _ h => ?_)
    ·
      obtain ⟨q46, g, h⟩ := zB h
      refine ⟨_, ⟨_, ih_ref10List _ _ _ _ g⟩, ?_⟩
      cases h; exact ⟨rfl, rfl⟩
    rintro _ rfl
    refine zE beq_iff_eq h (fun _ h => ?_) (fun _ h => ?_)
    ·
      obtain ⟨hP, h⟩ := zY h
      refine ⟨by first | exact hP | simpa using hP, ?_⟩
      rintro _ rfl
      obtain ⟨hP, h⟩ := zY h
      refine ⟨by first | exact hP | simpa using hP, ?_⟩
      rintro _ rfl
      obtain ⟨q47, g, h⟩ := zB h
      refine ⟨_, ⟨_, ih_ref10List _ _ _ _ g⟩, ?_⟩
      obtain ⟨hP, h⟩ := zY h
      refine ⟨by first | exact hP | simpa using hP, ?_⟩
      rintro _ rfl
      cases h; exact ⟨rfl, rfl⟩
    rintro _ rfl
    refine zE beq_iff_eq h (fun _ h => ?_) (fun _ h => ?_)
    ·
      obtain ⟨hP, h⟩ := zY h
      refine ⟨by first | exact hP | simpa using hP, ?_⟩
      rintro _ rfl
      obtain ⟨hP, h⟩ := zY h
      refine ⟨by first | exact hP | simpa using hP, ?_⟩
      rintro _ rfl
      obtain ⟨q48, g, h⟩ := zB h
      refine ⟨_, ⟨_, ih_ref10List _ _ _ _ g⟩, ?_⟩
      obtain ⟨hP, h⟩ := zY h
      refine ⟨by first | exact hP | simpa using hP, ?_⟩
      rintro _ rfl
      cases h; exact ⟨rfl, rfl⟩
    obtain ⟨hP, h⟩ := zY h
    refine ⟨by first | exact hP | simpa using hP, ?_⟩
    rintro _ rfl
    obtain ⟨q49, g, h⟩ := zB h
    refine ⟨_, ⟨_, ih_ref10List _ _ _ _ g⟩, ?_⟩
    obtain ⟨hP, h⟩ := zY h
    refine ⟨by first | exact hP | simpa using hP, ?_⟩
    rintro _ rfl
    cases h; exact ⟨rfl, rfl⟩
  | wP t least =>
    have ih_ref10Expr := fun t r h => ih (.vE t) r h
    intro r h
    replace h : z2n (fun t => g (uQ.vE t)) t least = some r := h
    unfold z2n at h
    refine yF 1000 (by kernel_rfl) (by kernel_rfl) (by kernel_rfl) (by kernel_rfl) (by kernel_rfl) (y5z _ _ _ _ t least) ?_
    obtain ⟨q1, g, h⟩ := zB h
    refine ⟨_, ⟨_, z9P _ _ g⟩, ?_⟩
    rintro _ rfl
    refine zE decide_eq_true_iff h (fun _ h => ?_) (fun _ h => ?_)
    ·
      obtain ⟨q2, g, h⟩ := zB h
      refine ⟨_, ⟨_, ih_ref10Expr _ _ g⟩, ?_⟩
      obtain ⟨hP, h⟩ := zY h
      refine ⟨by first | exact hP | simpa using hP, ?_⟩
      rintro _ rfl
      obtain ⟨hP, h⟩ := zY h
      refine ⟨by first | exact hP | simpa using hP, ?_⟩
      rintro _ rfl
      cases h; exact ⟨rfl, rfl⟩
    obtain ⟨q3, g, h⟩ := zB h
    refine ⟨_, ⟨_, ih_ref10Expr _ _ g⟩, ?_⟩
    cases h; exact ⟨rfl, rfl⟩
  | jE l first last =>
    have ih_ref10List_L3 := fun l last out i r h => ih (.yS l last out i) r h
    intro r h
    replace h : z2d (fun l last out i => g (uQ.yS l last out i)) l first last = some r := h
    unfold z2d at h
    refine yF 1000 (by kernel_rfl) (by kernel_rfl) (by kernel_rfl) (by kernel_rfl) (by kernel_rfl) (y6R _ _ _ _ l first last) ?_
    exact ih_ref10List_L3 _ _ _ _ _ h
  | yS l last out i =>
    have ih_ref10Expr := fun t r h => ih (.vE t) r h
    have ih_ref10List_L3 := fun l last out i r h => ih (.yS l last out i) r h
    intro r h
    replace h : z0w (fun t => g (uQ.vE t)) (fun l last out i => g (uQ.yS l last out i)) l last out i = some r := h
    unfold z0w at h
    refine z1F 1000 (y2G _ _ _ _ l last out i) ?_
    refine z0Z (e' := (List.length l : Int)) (by first | rfl | rw [List.length_map]) ?_
    rintro _ rfl
    refine zE decide_eq_true_iff h (fun _ h => ?_) (fun _ h => ?_)
    ·
      rintro _ rfl
      refine zE decide_eq_true_iff h (fun _ h => ?_) (fun _ h => ?_)
      ·
        obtain ⟨hP, h⟩ := zY h
        refine ⟨by first | exact hP | simpa using hP, ?_⟩
        rintro _ rfl
        obtain ⟨hP, h⟩ := zY h
        refine ⟨by first | exact hP | simpa using hP, ?_⟩
        rintro _ rfl
        obtain ⟨x, hx, h⟩ := zB h
        refine ⟨yZ (l := l) (zF.sz), z0z hx, x.K, x.N, x.S, List.map zF.toD x.L, x.From, x.To, uC (zF.toD_eq x) hx, ?_⟩
        obtain ⟨q1, g, h⟩ := zB h
        refine ⟨_, ⟨_, ih_ref10Expr _ _ g⟩, ?_⟩
        obtain ⟨hP, h⟩ := zY h
        refine ⟨by first | exact hP | simpa using hP, ?_⟩
        rintro _ rfl
        rintro _ rfl
        exact ih_ref10List_L3 _ _ _ _ _ h
      obtain ⟨hP, h⟩ := zY h
      refine ⟨by first | exact hP | simpa using hP, ?_⟩
      rintro _ rfl
      obtain ⟨x1, hx, h⟩ := zB h
      refine ⟨yZ (l := l) (zF.sz), z0z hx, x1.K, x1.N, x1.S, List.map zF.toD x1.L, x1.From, x1.To, uC (zF.toD_eq x1) hx, ?_⟩
      obtain ⟨q2, g, h⟩ := zB h
      refine ⟨_, ⟨_, ih_ref10Expr _ _ g⟩, ?_⟩
      obtain ⟨hP, h⟩ := zY h
      refine ⟨by first | exact hP | simpa using hP, ?_⟩
      rintro _ rfl
      rintro _ rfl
      exact ih_ref10List_L3 _ _ _ _ _ h
    obtain ⟨hP, h⟩ := zY h
    refine ⟨by first | exact hP | simpa using hP, ?_⟩
    rintro _ rfl
    obtain ⟨hP, h⟩ := zY h
    refine ⟨by first | exact hP | simpa using hP, ?_⟩
    rintro _ rfl
    cases h; exact ⟨rfl, rfl⟩
theorem z5b (t : zF) (r : Str) (h : vE t = some r) : y0O (.vE t) r := y6c (.vE t) r h
def y0P : (i : z4Y) → z7H i → Prop
  | .uD t, r => Trip Try.prog 64 [.d (gT t.K t.N t.S (List.map zF.toD t.L) t.From t.To)] [] [(nS r)] []
theorem y6d : ∀ i r, gV z4W i = some r → y0P i r := by
  refine yU y0G fun g ih i => ?_
  cases i with
  | uD t =>
    have ih_ref10Type := fun t r h => ih (.uD t) r h
    intro r h
    replace h : z0Y (fun t => g (z4Y.uD t)) t = some r := h
    unfold z0Y at h
    refine yF 1000 (by kernel_rfl) (by kernel_rfl) (by kernel_rfl) (by kernel_rfl) (by kernel_rfl) (y6V _ _ _ _ t) ?_
    rintro _ rfl
    refine zE beq_iff_eq h (fun _ h => ?_) (fun _ h => ?_)
    ·
      cases h; exact ⟨rfl, rfl⟩
    rintro _ rfl
    refine zE beq_iff_eq h (fun _ h => ?_) (fun _ h => ?_)
    ·
      cases h; exact ⟨rfl, rfl⟩
    rintro _ rfl
    refine zE beq_iff_eq h (fun _ h => ?_) (fun _ h => ?_)
    ·
      obtain ⟨q1, g, h⟩ := zB h
      refine ⟨_, ⟨_, z8v _ _ g⟩, ?_⟩
      obtain ⟨hP, h⟩ := zY h
      refine ⟨by first | exact hP | simpa using hP, ?_⟩
      rintro _ rfl
      obtain ⟨hP, h⟩ := zY h
      refine ⟨by first | exact hP | simpa using hP, ?_⟩
      rintro _ rfl
      obtain ⟨x, hx, h⟩ := zB h
      refine ⟨yZ (l := t.L) (zF.sz), z0z hx, x.K, x.N, x.S, List.map zF.toD x.L, x.From, x.To, uC (zF.toD_eq x) hx, ?_⟩
      obtain ⟨q2, g, h⟩ := zB h
      refine ⟨_, ⟨_, ih_ref10Type _ _ g⟩, ?_⟩
      obtain ⟨hP, h⟩ := zY h
      refine ⟨by first | exact hP | simpa using hP, ?_⟩
      rintro _ rfl
      cases h; exact ⟨rfl, rfl⟩
    cases h; exact ⟨rfl, rfl⟩
theorem z2H (t : zF) (r : Str) (h : uD t = some r) : y0P (.uD t) r := y6d (.uD t) r h
def z9J : (i : gP) → z5V i → Prop
  | .wO t, r => Trip Try.prog 65 [.d (gT t.K t.N t.S (List.map zF.toD t.L) t.From t.To)] [] [(nS r)] []
  | .vD out i t, r => Ok (z6l (Trip Try.prog) [(nS r)] []) (kL Try.f65 3) ⟨23, [(1, .ref 1 1 0), (3, (nS out)), (4, (nI i))], [(1, 1, some (.agg (gT t.K t.N t.S (List.map zF.toD t.L) t.From t.To)))], [], 0⟩
  | .gD t, r => Trip Try.prog 76 [.d (gT t.K t.N t.S (List.map zF.toD t.L) t.From t.To)] [] [(nS r)] []
theorem y4B : ∀ i r, gV z0O i = some r → z9J i r := by
  refine yU z4j fun g ih i => ?_
  cases i with
  | wO t =>
    have ih_ref10Block_L3 := fun out i t r h => ih (.vD out i t) r h
    intro r h
    replace h : z2m (fun out i t => g (gP.vD out i t)) t = some r := h
    unfold z2m at h
    refine yF 1000 (by kernel_rfl) (by kernel_rfl) (by kernel_rfl) (by kernel_rfl) (by kernel_rfl) (y5y _ _ _ _ t) ?_
    exact ih_ref10Block_L3 _ _ _ _ h
  | vD out i t =>
    have ih_ref10Block_L3 := fun out i t r h => ih (.vD out i t) r h
    have ih_ref10Stmt := fun t r h => ih (.gD t) r h
    intro r h
    replace h : z0d (fun out i t => g (gP.vD out i t)) (fun t => g (gP.gD t)) out i t = some r := h
    unfold z0d at h
    refine z1F 1000 (y1x _ _ _ _ out i t) ?_
    refine z0Z (e' := (List.length t.L : Int)) (by first | rfl | rw [List.length_map]) ?_
    rintro _ rfl
    refine zE decide_eq_true_iff h (fun _ h => ?_) (fun _ h => ?_)
    ·
      obtain ⟨x, hx, h⟩ := zB h
      refine ⟨yZ (l := t.L) (zF.sz), z0z hx, x.K, x.N, x.S, List.map zF.toD x.L, x.From, x.To, uC (zF.toD_eq x) hx, ?_⟩
      obtain ⟨q1, g, h⟩ := zB h
      refine ⟨_, ⟨_, ih_ref10Stmt _ _ g⟩, ?_⟩
      obtain ⟨hP, h⟩ := zY h
      refine ⟨by first | exact hP | simpa using hP, ?_⟩
      rintro _ rfl
      obtain ⟨hP, h⟩ := zY h
      refine ⟨by first | exact hP | simpa using hP, ?_⟩
      rintro _ rfl
      rintro _ rfl
      exact ih_ref10Block_L3 _ _ _ _ h
    obtain ⟨hP, h⟩ := zY h
    refine ⟨by first | exact hP | simpa using hP, ?_⟩
    rintro _ rfl
    cases h; exact ⟨rfl, rfl⟩
  | gD t =>
    have ih_ref10Block := fun t r h => ih (.wO t) r h
    intro r h
    replace h : z2e (fun t => g (gP.wO t)) t = some r := h
    unfold z2e at h
    refine yF 1000 (by kernel_rfl) (by kernel_rfl) (by kernel_rfl) (by kernel_rfl) (by kernel_rfl) (y6T _ _ _ _ t) ?_
    rintro _ rfl
    refine zE beq_iff_eq h (fun _ h => ?_) (fun _ h => ?_)
    ·
      obtain ⟨q1, g, h⟩ := zB h
      refine ⟨_, ⟨_, ih_ref10Block _ _ g⟩, ?_⟩
      cases h; exact ⟨rfl, rfl⟩
    rintro _ rfl
    refine zE beq_iff_eq h (fun _ h => ?_) (fun _ h => ?_)
    ·
      obtain ⟨hP, h⟩ := zY h
      refine ⟨by first | exact hP | simpa using hP, ?_⟩
      rintro _ rfl
      obtain ⟨hP, h⟩ := zY h
      refine ⟨by first | exact hP | simpa using hP, ?_⟩
      rintro _ rfl
      obtain ⟨x, hx, h⟩ := zB h
      refine ⟨yZ (l := t.L) (zF.sz), z0z hx, x.K, x.N, x.S, List.map zF.toD x.L, x.From, x.To, uC (zF.toD_eq x) hx, ?_⟩
      obtain ⟨q2, g, h⟩ := zB h
      refine ⟨_, ⟨_, z2H _ _ g⟩, ?_⟩
      obtain ⟨hP, h⟩ := zY h
      refine ⟨by first | exact hP | simpa using hP, ?_⟩
      rintro _ rfl
      obtain ⟨hP, h⟩ := zY h
      refine ⟨by first | exact hP | simpa using hP, ?_⟩
      rintro _ rfl
      cases h; exact ⟨rfl, rfl⟩
    obtain ⟨x1, hx, h⟩ := zB h
    refine ⟨yZ (l := t.L) (zF.sz), z0z hx, x1.K, x1.N, x1.S, List.map zF.toD x1.L, x1.From, x1.To, uC (zF.toD_eq x1) hx, ?_⟩
    obtain ⟨q3, g, h⟩ := zB h
    refine ⟨_, ⟨_, z5b _ _ g⟩, ?_⟩
    rintro _ rfl
    refine zE beq_iff_eq h (fun _ h => ?_) (fun _ h => ?_)
    ·
      obtain ⟨hP, h⟩ := zY h
      refine ⟨by first | exact hP | simpa using hP, ?_⟩
      rintro _ rfl
      obtain ⟨hP, h⟩ := zY h
      refine ⟨by first | exact hP | simpa using hP, ?_⟩
      rintro _ rfl
      obtain ⟨hP, h⟩ := zY h
      refine ⟨by first | exact hP | simpa using hP, ?_⟩
      rintro _ rfl
      obtain ⟨hP, h⟩ := zY h
      refine ⟨by first | exact hP | simpa using hP, ?_⟩
      rintro _ rfl
      cases h; exact ⟨rfl, rfl⟩
    rintro _ rfl
    refine zE beq_iff_eq h (fun _ h => ?_) (fun _ h => ?_)
    ·
      obtain ⟨hP, h⟩ := zY h
      refine ⟨by first | exact hP | simpa using hP, ?_⟩
      rintro _ rfl
      obtain ⟨x2, hx, h⟩ := zB h
      refine ⟨yZ (l := t.L) (zF.sz), z0z hx, x2.K, x2.N, x2.S, List.map zF.toD x2.L, x2.From, x2.To, uC (zF.toD_eq x2) hx, ?_⟩
      obtain ⟨q4, g, h⟩ := zB h
      refine ⟨_, ⟨_, z5b _ _ g⟩, ?_⟩
      obtain ⟨hP, h⟩ := zY h
      refine ⟨by first | exact hP | simpa using hP, ?_⟩
      rintro _ rfl
      obtain ⟨hP, h⟩ := zY h
      refine ⟨by first | exact hP | simpa using hP, ?_⟩
      rintro _ rfl
      cases h; exact ⟨rfl, rfl⟩
    rintro _ rfl
    refine zE beq_iff_eq h (fun _ h => ?_) (fun _ h => ?_)
    ·
      obtain ⟨hP, h⟩ := zY h
      refine ⟨by first | exact hP | simpa using hP, ?_⟩
      rintro _ rfl
      obtain ⟨hP, h⟩ := zY h
      refine ⟨by first | exact hP | simpa using hP, ?_⟩
      rintro _ rfl
      cases h; exact ⟨rfl, rfl⟩
    rintro _ rfl
    refine zE beq_iff_eq h (fun _ h => ?_) (fun _ h => ?_)
    ·
      obtain ⟨hP, h⟩ := zY h
      refine ⟨by first | exact hP | simpa using hP, ?_⟩
      rintro _ rfl
      obtain ⟨hP, h⟩ := zY h
      refine ⟨by first | exact hP | simpa using hP, ?_⟩
      rintro _ rfl
      cases h; exact ⟨rfl, rfl⟩
    rintro _ rfl
    refine zE beq_iff_eq h (fun _ h => ?_) (fun _ h => ?_)
    ·
      obtain ⟨hP, h⟩ := zY h
      refine ⟨by first | exact hP | simpa using hP, ?_⟩
      rintro _ rfl
      obtain ⟨hP, h⟩ := zY h
      refine ⟨by first | exact hP | simpa using hP, ?_⟩
      rintro _ rfl
      cases h; exact ⟨rfl, rfl⟩
    rintro _ rfl
    refine zE beq_iff_eq h (fun _ h => ?_) (fun _ h => ?_)
    ·
      obtain ⟨hP, h⟩ := zY h
      refine ⟨by first | exact hP | simpa using hP, ?_⟩
      rintro _ rfl
      obtain ⟨hP, h⟩ := zY h
      refine ⟨by first | exact hP | simpa using hP, ?_⟩
      rintro _ rfl
      obtain ⟨x3, hx, h⟩ := zB h
      refine ⟨yZ (l := t.L) (zF.sz), z0z hx, x3.K, x3.N, x3.S, List.map zF.toD x3.L, x3.From, x3.To, uC (zF.toD_eq x3) hx, ?_⟩
      obtain ⟨q5, g, h⟩ := zB h
      refine ⟨_, ⟨_, ih_ref10Block _ _ g⟩, ?_⟩
      obtain ⟨hP, h⟩ := zY h
      refine ⟨by first | exact hP | simpa using hP, ?_⟩
      rintro _ rfl
      cases h; exact ⟨rfl, rfl⟩
    rintro _ rfl
    refine zE beq_iff_eq h (fun _ h => ?_) (fun _ h => ?_)
    ·
      obtain ⟨hP, h⟩ := zY h
      refine ⟨by first | exact hP | simpa using hP, ?_⟩
      rintro _ rfl
      obtain ⟨hP, h⟩ := zY h
      refine ⟨by first | exact hP | simpa using hP, ?_⟩
      rintro _ rfl
      obtain ⟨hP, h⟩ := zY h
      refine ⟨by first | exact hP | simpa using hP, ?_⟩
      rintro _ rfl
      obtain ⟨hP, h⟩ := zY h
      refine ⟨by first | exact hP | simpa using hP, ?_⟩
      rintro _ rfl
      obtain ⟨x4, hx, h⟩ := zB h
      refine ⟨yZ (l := t.L) (zF.sz), z0z hx, x4.K, x4.N, x4.S, List.map zF.toD x4.L, x4.From, x4.To, uC (zF.toD_eq x4) hx, ?_⟩
      obtain ⟨q6, g, h⟩ := zB h
      refine ⟨_, ⟨_, z5b _ _ g⟩, ?_⟩
      obtain ⟨hP, h⟩ := zY h
      refine ⟨by first | exact hP | simpa using hP, ?_⟩
      rintro _ rfl
      obtain ⟨hP, h⟩ := zY h
      refine ⟨by first | exact hP | simpa using hP, ?_⟩
      rintro _ rfl
      obtain ⟨x5, hx, h⟩ := zB h
      refine ⟨yZ (l := t.L) (zF.sz), z0z hx, x5.K, x5.N, x5.S, List.map zF.toD x5.L, x5.From, x5.To, uC (zF.toD_eq x5) hx, ?_⟩
      obtain ⟨q7, g, h⟩ := zB h
      refine ⟨_, ⟨_, ih_ref10Block _ _ g⟩, ?_⟩
      obtain ⟨hP, h⟩ := zY h
      refine ⟨by first | exact hP | simpa using hP, ?_⟩
      rintro _ rfl
      cases h; exact ⟨rfl, rfl⟩
    obtain ⟨hP, h⟩ := zY h
    refine ⟨by first | exact hP | simpa using hP, ?_⟩
    rintro _ rfl
    obtain ⟨hP, h⟩ := zY h
    refine ⟨by first | exact hP | simpa using hP, ?_⟩
    rintro _ rfl
    obtain ⟨x6, hx, h⟩ := zB h
    refine ⟨yZ (l := t.L) (zF.sz), z0z hx, x6.K, x6.N, x6.S, List.map zF.toD x6.L, x6.From, x6.To, uC (zF.toD_eq x6) hx, ?_⟩
    obtain ⟨q8, g, h⟩ := zB h
    refine ⟨_, ⟨_, ih_ref10Block _ _ g⟩, ?_⟩
    obtain ⟨hP, h⟩ := zY h
    refine ⟨by first | exact hP | simpa using hP, ?_⟩
    rintro _ rfl
    obtain ⟨x7, hx, h⟩ := zB h
    refine ⟨yZ (l := t.L) (zF.sz), z0z hx, x7.K, x7.N, x7.S, List.map zF.toD x7.L, x7.From, x7.To, uC (zF.toD_eq x7) hx, ?_⟩
    refine z0Z (e' := (List.length x7.L : Int)) (by first | rfl | rw [List.length_map]) ?_
    rintro _ rfl
    refine zE decide_eq_true_iff h (fun _ h => ?_) (fun _ h => ?_)
    ·
      obtain ⟨hP, h⟩ := zY h
      refine ⟨by first | exact hP | simpa using hP, ?_⟩
      rintro _ rfl
      obtain ⟨x8, hx, h⟩ := zB h
      refine ⟨yZ (l := t.L) (zF.sz), z0z hx, x8.K, x8.N, x8.S, List.map zF.toD x8.L, x8.From, x8.To, uC (zF.toD_eq x8) hx, ?_⟩
      obtain ⟨q9, g, h⟩ := zB h
      refine ⟨_, ⟨_, ih_ref10Block _ _ g⟩, ?_⟩
      obtain ⟨hP, h⟩ := zY h
      refine ⟨by first | exact hP | simpa using hP, ?_⟩
      rintro _ rfl
      cases h; exact ⟨rfl, rfl⟩
    cases h; exact ⟨rfl, rfl⟩
theorem y4L (t : zF) (r : Str) (h : wO t = some r) : z9J (.wO t) r := y4B (.wO t) r h
def z5R : (i : z2w) → z3U i → Prop
  | .yI out i t, r => Ok (z3Y (Trip Try.prog) [(nS r)] []) (kL Try.f31 16) ⟨135, [(1, .ref 1 1 0), (5, (nS out)), (6, (nI i))], [(1, 1, some (.agg (gT t.K t.N t.S (List.map zF.toD t.L) t.From t.To)))], [], 0⟩
theorem y0M : ∀ i r, gV z2s i = some r → z5R i r := by
  refine yU z5M fun g ih i => ?_
  cases i with
  | yI out i t =>
    have ih_ref10Decl_L16 := fun out i t r h => ih (.yI out i t) r h
    intro r h
    replace h : z0e (fun out i t => g (z2w.yI out i t)) out i t = some r := h
    unfold z0e at h
    refine z1F 1000 (y1y _ _ _ _ out i t) ?_
    obtain ⟨x, hx, h⟩ := zB h
    refine ⟨yZ (l := t.L) (zF.sz), z0z hx, x.K, x.N, x.S, List.map zF.toD x.L, x.From, x.To, uC (zF.toD_eq x) hx, ?_⟩
    refine z0Z (e' := (List.length x.L : Int)) (by first | rfl | rw [List.length_map]) ?_
    rintro _ rfl
    refine zE decide_eq_true_iff h (fun _ h => ?_) (fun _ h => ?_)
    ·
      rintro _ rfl
      refine zE decide_eq_true_iff h (fun _ h => ?_) (fun _ h => ?_)
      ·
        obtain ⟨hP, h⟩ := zY h
        refine ⟨by first | exact hP | simpa using hP, ?_⟩
        rintro _ rfl
        obtain ⟨hP, h⟩ := zY h
        refine ⟨by first | exact hP | simpa using hP, ?_⟩
        rintro _ rfl
        obtain ⟨x1, hx, h⟩ := zB h
        refine ⟨yZ (l := t.L) (zF.sz), z0z hx, x1.K, x1.N, x1.S, List.map zF.toD x1.L, x1.From, x1.To, uC (zF.toD_eq x1) hx, ?_⟩
        obtain ⟨x2, hx, h⟩ := zB h
        refine ⟨yZ (l := x1.L) (zF.sz), z0z hx, x2.K, x2.N, x2.S, List.map zF.toD x2.L, x2.From, x2.To, uC (zF.toD_eq x2) hx, ?_⟩
        obtain ⟨hP, h⟩ := zY h
        refine ⟨by first | exact hP | simpa using hP, ?_⟩
        rintro _ rfl
        obtain ⟨hP, h⟩ := zY h
        refine ⟨by first | exact hP | simpa using hP, ?_⟩
        rintro _ rfl
        obtain ⟨x3, hx, h⟩ := zB h
        refine ⟨yZ (l := t.L) (zF.sz), z0z hx, x3.K, x3.N, x3.S, List.map zF.toD x3.L, x3.From, x3.To, uC (zF.toD_eq x3) hx, ?_⟩
        obtain ⟨x4, hx, h⟩ := zB h
        refine ⟨yZ (l := x3.L) (zF.sz), z0z hx, x4.K, x4.N, x4.S, List.map zF.toD x4.L, x4.From, x4.To, uC (zF.toD_eq x4) hx, ?_⟩
        obtain ⟨x5, hx, h⟩ := zB h
        refine ⟨yZ (l := x4.L) (zF.sz), z0z hx, x5.K, x5.N, x5.S, List.map zF.toD x5.L, x5.From, x5.To, uC (zF.toD_eq x5) hx, ?_⟩
        obtain ⟨q1, g, h⟩ := zB h
        refine ⟨_, ⟨_, z2H _ _ g⟩, ?_⟩
        obtain ⟨hP, h⟩ := zY h
        refine ⟨by first | exact hP | simpa using hP, ?_⟩
        rintro _ rfl
        rintro _ rfl
        exact ih_ref10Decl_L16 _ _ _ _ h
      obtain ⟨hP, h⟩ := zY h
      refine ⟨by first | exact hP | simpa using hP, ?_⟩
      rintro _ rfl
      obtain ⟨x6, hx, h⟩ := zB h
      refine ⟨yZ (l := t.L) (zF.sz), z0z hx, x6.K, x6.N, x6.S, List.map zF.toD x6.L, x6.From, x6.To, uC (zF.toD_eq x6) hx, ?_⟩
      obtain ⟨x7, hx, h⟩ := zB h
      refine ⟨yZ (l := x6.L) (zF.sz), z0z hx, x7.K, x7.N, x7.S, List.map zF.toD x7.L, x7.From, x7.To, uC (zF.toD_eq x7) hx, ?_⟩
      obtain ⟨hP, h⟩ := zY h
      refine ⟨by first | exact hP | simpa using hP, ?_⟩
      rintro _ rfl
      obtain ⟨hP, h⟩ := zY h
      refine ⟨by first | exact hP | simpa using hP, ?_⟩
      rintro _ rfl
      obtain ⟨x8, hx, h⟩ := zB h
      refine ⟨yZ (l := t.L) (zF.sz), z0z hx, x8.K, x8.N, x8.S, List.map zF.toD x8.L, x8.From, x8.To, uC (zF.toD_eq x8) hx, ?_⟩
      obtain ⟨x9, hx, h⟩ := zB h
      refine ⟨yZ (l := x8.L) (zF.sz), z0z hx, x9.K, x9.N, x9.S, List.map zF.toD x9.L, x9.From, x9.To, uC (zF.toD_eq x9) hx, ?_⟩
      obtain ⟨x10, hx, h⟩ := zB h
      refine ⟨yZ (l := x9.L) (zF.sz), z0z hx, x10.K, x10.N, x10.S, List.map zF.toD x10.L, x10.From, x10.To, uC (zF.toD_eq x10) hx, ?_⟩
      obtain ⟨q2, g, h⟩ := zB h
      refine ⟨_, ⟨_, z2H _ _ g⟩, ?_⟩
      obtain ⟨hP, h⟩ := zY h
      refine ⟨by first | exact hP | simpa using hP, ?_⟩
      rintro _ rfl
      rintro _ rfl
      exact ih_ref10Decl_L16 _ _ _ _ h
    obtain ⟨hP, h⟩ := zY h
    refine ⟨by first | exact hP | simpa using hP, ?_⟩
    rintro _ rfl
    obtain ⟨x11, hx, h⟩ := zB h
    refine ⟨yZ (l := t.L) (zF.sz), z0z hx, x11.K, x11.N, x11.S, List.map zF.toD x11.L, x11.From, x11.To, uC (zF.toD_eq x11) hx, ?_⟩
    obtain ⟨q3, g, h⟩ := zB h
    refine ⟨_, ⟨_, z2H _ _ g⟩, ?_⟩
    obtain ⟨hP, h⟩ := zY h
    refine ⟨by first | exact hP | simpa using hP, ?_⟩
    rintro _ rfl
    obtain ⟨hP, h⟩ := zY h
    refine ⟨by first | exact hP | simpa using hP, ?_⟩
    rintro _ rfl
    obtain ⟨x12, hx, h⟩ := zB h
    refine ⟨yZ (l := t.L) (zF.sz), z0z hx, x12.K, x12.N, x12.S, List.map zF.toD x12.L, x12.From, x12.To, uC (zF.toD_eq x12) hx, ?_⟩
    obtain ⟨q4, g, h⟩ := zB h
    refine ⟨_, ⟨_, y4L _ _ g⟩, ?_⟩
    obtain ⟨hP, h⟩ := zY h
    refine ⟨by first | exact hP | simpa using hP, ?_⟩
    rintro _ rfl
    cases h; exact ⟨rfl, rfl⟩
theorem z5Z (out : Str) (i : Int) (t : zF) (r : Str) (h : yI out i t = some r) : z5R (.yI out i t) r := y0M (.yI out i t) r h
def z7r : (i : z3a) → z4y i → Prop
  | .wA out i t, r => Ok (z3Y (Trip Try.prog) [(nS r)] []) (kL Try.f31 8) ⟨135, [(1, .ref 1 1 0), (3, (nS out)), (4, (nI i))], [(1, 1, some (.agg (gT t.K t.N t.S (List.map zF.toD t.L) t.From t.To)))], [], 0⟩
theorem y2o : ∀ i r, gV z2W i = some r → z7r i r := by
  refine yU z7m fun g ih i => ?_
  cases i with
  | wA out i t =>
    have ih_ref10Decl_L8 := fun out i t r h => ih (.wA out i t) r h
    intro r h
    replace h : z0v (fun out i t => g (z3a.wA out i t)) out i t = some r := h
    unfold z0v at h
    refine z1F 1000 (y2F _ _ _ _ out i t) ?_
    refine z0Z (e' := (List.length t.L : Int)) (by first | rfl | rw [List.length_map]) ?_
    rintro _ rfl
    refine zE decide_eq_true_iff h (fun _ h => ?_) (fun _ h => ?_)
    ·
      obtain ⟨x, hx, h⟩ := zB h
      refine ⟨yZ (l := t.L) (zF.sz), z0z hx, x.K, x.N, x.S, List.map zF.toD x.L, x.From, x.To, uC (zF.toD_eq x) hx, ?_⟩
      obtain ⟨hP, h⟩ := zY h
      refine ⟨by first | exact hP | simpa using hP, ?_⟩
      rintro _ rfl
      obtain ⟨hP, h⟩ := zY h
      refine ⟨by first | exact hP | simpa using hP, ?_⟩
      rintro _ rfl
      obtain ⟨x1, hx, h⟩ := zB h
      refine ⟨yZ (l := t.L) (zF.sz), z0z hx, x1.K, x1.N, x1.S, List.map zF.toD x1.L, x1.From, x1.To, uC (zF.toD_eq x1) hx, ?_⟩
      obtain ⟨x2, hx, h⟩ := zB h
      refine ⟨yZ (l := x1.L) (zF.sz), z0z hx, x2.K, x2.N, x2.S, List.map zF.toD x2.L, x2.From, x2.To, uC (zF.toD_eq x2) hx, ?_⟩
      obtain ⟨q1, g, h⟩ := zB h
      refine ⟨_, ⟨_, z2H _ _ g⟩, ?_⟩
      obtain ⟨hP, h⟩ := zY h
      refine ⟨by first | exact hP | simpa using hP, ?_⟩
      rintro _ rfl
      obtain ⟨hP, h⟩ := zY h
      refine ⟨by first | exact hP | simpa using hP, ?_⟩
      rintro _ rfl
      rintro _ rfl
      exact ih_ref10Decl_L8 _ _ _ _ h
    obtain ⟨hP, h⟩ := zY h
    refine ⟨by first | exact hP | simpa using hP, ?_⟩
    rintro _ rfl
    cases h; exact ⟨rfl, rfl⟩
theorem y2u (out : Str) (i : Int) (t : zF) (r : Str) (h : wA out i t = some r) : z7r (.wA out i t) r := y2o (.wA out i t) r h
theorem y6h (t : zF) (r : Str) (h : z6H t = some r) : Trip Try.prog 31 [.d (gT t.K t.N t.S (List.map zF.toD t.L) t.From t.To)] [] [(nS r)] [] := by
  unfold z6H at h
  refine yF 1000 (by kernel_rfl) (by kernel_rfl) (by kernel_rfl) (by kernel_rfl) (by kernel_rfl) (y6P _ _ _ _ t) ?_
  rintro _ rfl
  refine zE beq_iff_eq h (fun _ h => ?_) (fun _ h => ?_)
  ·
    obtain ⟨hP, h⟩ := zY h
    refine ⟨by first | exact hP | simpa using hP, ?_⟩
    rintro _ rfl
    obtain ⟨hP, h⟩ := zY h
    refine ⟨by first | exact hP | simpa using hP, ?_⟩
    rintro _ rfl
    obtain ⟨x, hx, h⟩ := zB h
    refine ⟨yZ (l := t.L) (zF.sz), z0z hx, x.K, x.N, x.S, List.map zF.toD x.L, x.From, x.To, uC (zF.toD_eq x) hx, ?_⟩
    obtain ⟨q1, g, h⟩ := zB h
    refine ⟨_, ⟨_, z5b _ _ g⟩, ?_⟩
    obtain ⟨hP, h⟩ := zY h
    refine ⟨by first | exact hP | simpa using hP, ?_⟩
    rintro _ rfl
    obtain ⟨hP, h⟩ := zY h
    refine ⟨by first | exact hP | simpa using hP, ?_⟩
    rintro _ rfl
    cases h; exact ⟨rfl, rfl⟩
  rintro _ rfl
  refine zE beq_iff_eq h (fun _ h => ?_) (fun _ h => ?_)
  ·
    obtain ⟨hP, h⟩ := zY h
    refine ⟨by first | exact hP | simpa using hP, ?_⟩
    rintro _ rfl
    obtain ⟨hP, h⟩ := zY h
    refine ⟨by first | exact hP | simpa using hP, ?_⟩
    rintro _ rfl
    obtain ⟨x1, hx, h⟩ := zB h
    refine ⟨yZ (l := t.L) (zF.sz), z0z hx, x1.K, x1.N, x1.S, List.map zF.toD x1.L, x1.From, x1.To, uC (zF.toD_eq x1) hx, ?_⟩
    obtain ⟨q2, g, h⟩ := zB h
    refine ⟨_, ⟨_, z2H _ _ g⟩, ?_⟩
    obtain ⟨hP, h⟩ := zY h
    refine ⟨by first | exact hP | simpa using hP, ?_⟩
    rintro _ rfl
    obtain ⟨hP, h⟩ := zY h
    refine ⟨by first | exact hP | simpa using hP, ?_⟩
    rintro _ rfl
    cases h; exact ⟨rfl, rfl⟩
  rintro _ rfl
  refine zE beq_iff_eq h (fun _ h => ?_) (fun _ h => ?_)
  ·
    obtain ⟨hP, h⟩ := zY h
    refine ⟨by first | exact hP | simpa using hP, ?_⟩
    rintro _ rfl
    obtain ⟨hP, h⟩ := zY h
    refine ⟨by first | exact hP | simpa using hP, ?_⟩
    rintro _ rfl
    exact y2u _ _ _ _ h
  obtain ⟨hP, h⟩ := zY h
  refine ⟨by first | exact hP | simpa using hP, ?_⟩
  rintro _ rfl
  obtain ⟨hP, h⟩ := zY h
  refine ⟨by first | exact hP | simpa using hP, ?_⟩
  rintro _ rfl
  rintro _ rfl
  refine zE beq_iff_eq h (fun _ h => ?_) (fun _ h => ?_)
  ·
    obtain ⟨hP, h⟩ := zY h
    refine ⟨by first | exact hP | simpa using hP, ?_⟩
    rintro _ rfl
    exact z5Z _ _ _ _ h
  exact z5Z _ _ _ _ h
def z7t : (i : z3b) → z4A i → Prop
  | .wJ out i m, r => Ok (z7V (Trip Try.prog) [(nS r)] []) (kL Try.f13 3) ⟨22, [(1, .ref 1 1 0), (3, (nS out)), (4, (nI i))], [(1, 1, some (.agg (gT m.K m.N m.S (List.map zF.toD m.L) m.From m.To)))], [], 0⟩
theorem y2q : ∀ i r, gV z2X i = some r → z7t i r := by
  refine yU z7n fun g ih i => ?_
  cases i with
  | wJ out i m =>
    have ih_ref10Text_L3 := fun out i m r h => ih (.wJ out i m) r h
    intro r h
    replace h : z0y (fun out i m => g (z3b.wJ out i m)) out i m = some r := h
    unfold z0y at h
    refine z1F 1000 (y2J _ _ _ _ out i m) ?_
    refine z0Z (e' := (List.length m.L : Int)) (by first | rfl | rw [List.length_map]) ?_
    rintro _ rfl
    refine zE decide_eq_true_iff h (fun _ h => ?_) (fun _ h => ?_)
    ·
      obtain ⟨x, hx, h⟩ := zB h
      refine ⟨yZ (l := m.L) (zF.sz), z0z hx, x.K, x.N, x.S, List.map zF.toD x.L, x.From, x.To, uC (zF.toD_eq x) hx, ?_⟩
      obtain ⟨q1, g, h⟩ := zB h
      refine ⟨_, ⟨_, y6h _ _ g⟩, ?_⟩
      obtain ⟨hP, h⟩ := zY h
      refine ⟨by first | exact hP | simpa using hP, ?_⟩
      rintro _ rfl
      obtain ⟨hP, h⟩ := zY h
      refine ⟨by first | exact hP | simpa using hP, ?_⟩
      rintro _ rfl
      rintro _ rfl
      exact ih_ref10Text_L3 _ _ _ _ h
    cases h; exact ⟨rfl, rfl⟩
theorem y2w (out : Str) (i : Int) (m : zF) (r : Str) (h : wJ out i m = some r) : z7t (.wJ out i m) r := y2q (.wJ out i m) r h
theorem y6i (m : zF) (r : Str) (h : z6L m = some r) : Trip Try.prog 13 [.d (gT m.K m.N m.S (List.map zF.toD m.L) m.From m.To)] [] [(nS r)] [] := by
  unfold z6L at h
  refine yF 1000 (by kernel_rfl) (by kernel_rfl) (by kernel_rfl) (by kernel_rfl) (by kernel_rfl) (y6U _ _ _ _ m) ?_
  exact y2w _ _ _ _ h
theorem z9c (text : Str) (r : Bool) (h : z2y text = some r) : Trip Try.prog 4 [(nS text)] [] [(nB r)] [] := by
  unfold z2y at h
  refine yF 1000 (by kernel_rfl) (by kernel_rfl) (by kernel_rfl) (by kernel_rfl) (by kernel_rfl) (z9k _ _ _ _ text) ?_
  rintro _ rfl
  rintro _ rfl
  refine zE decide_eq_true_iff h (fun _ h => ?_) (fun _ h => ?_)
  ·
    obtain ⟨q1, g, h⟩ := zB h
    refine ⟨_, ⟨_, z5W _ g⟩, ?_⟩
    cases h; exact ⟨rfl, rfl⟩
  obtain ⟨q2, g, h⟩ := zB h
  refine ⟨_, _, _, _, _, _, _, _, ⟨_, y4K _ _ g⟩, ?_⟩
  rintro _ rfl
  refine zN beq_iff_eq h (fun _ h => ?_) (fun _ h => ?_)
  ·
    obtain ⟨q4, g, h⟩ := zB h
    refine ⟨_, ⟨_, y4C _ _ g⟩, ?_⟩
    obtain ⟨q5, g, h⟩ := zB h
    refine ⟨_, ⟨_, y6i _ _ g⟩, ?_⟩
    rintro _ rfl
    refine zE beq_iff_eq h (fun _ h => ?_) (fun _ h => ?_)
    ·
      obtain ⟨q6, g, h⟩ := zB h
      refine ⟨_, ⟨_, z5W _ g⟩, ?_⟩
      cases h; exact ⟨rfl, rfl⟩
    cases h; exact ⟨rfl, rfl⟩
  obtain ⟨q3, g, h⟩ := zB h
  refine ⟨_, ⟨_, z5W _ g⟩, ?_⟩
  cases h; exact ⟨rfl, rfl⟩
end Go.Proofs.Ythbhgdooeeapjaa.M

