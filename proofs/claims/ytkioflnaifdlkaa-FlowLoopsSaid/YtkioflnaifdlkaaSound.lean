/- The plain functions' answers are the program's. -/
import Derived.Test.YtkioflnaifdlkaaMod
import Derived.Test.YtkioflnaifdlkaaEv
namespace Go.Proofs.Ytkioflnaifdlkaa.M
open Go Nt Go.Proofs
set_option linter.unusedVariables false
set_option linter.unusedSimpArgs false
set_option maxRecDepth 100000
theorem T_flow_block (l : List Term) (r : Term) (h : flow_block l = some r) : Trip Try.prog 41 [.d (.sl (List.map Term.toD l))] [] [.d (.agg [(.int .i64 r.K), (.int .i64 r.N), (.str r.S), (.sl (List.map Term.toD r.L)), (.int .i64 r.From), (.int .i64 r.To)])] [] := by
  unfold flow_block at h
  refine trip_ev 1000 (by kernel_rfl) (by kernel_rfl) (by kernel_rfl) (by kernel_rfl) (e_flow_block _ _ l _ _) ?_
  cases h; exact ⟨rfl, rfl⟩
def M_flow_is_L4 : (i : I_flow_is_L4) → R_flow_is_L4 i → Prop
  | .flow_is_L4 v37 v38 v39, r => Ok (c_flow_is (Trip Try.prog) [.d (.bool r)] []) (kL Try.f38 4) ⟨47, [(37, .d (.sl (List.map Term.toD v37))), (38, .d (.int .i64 v38)), (39, .d (.int .i64 v39))], [], [], 0⟩
theorem G_flow_is_L4 : ∀ i r, fixF F_flow_is_L4 i = some r → M_flow_is_L4 i r := by
  refine fixF_induct D_flow_is_L4 fun g ih i => ?_
  cases i with
  | flow_is_L4 v37 v38 v39 =>
    have ih_flow_is_L4 : ∀ (v37 : List Term) (v38 : Int) (v39 : Int) (r : Bool), g (I_flow_is_L4.flow_is_L4 v37 v38 v39) = some r → Ok (c_flow_is (Trip Try.prog) [.d (.bool r)] []) (kL Try.f38 4) ⟨47, [(37, .d (.sl (List.map Term.toD v37))), (38, .d (.int .i64 v38)), (39, .d (.int .i64 v39))], [], [], 0⟩ := fun v37 v38 v39 r h => ih (.flow_is_L4 v37 v38 v39) r h
    intro r h
    show Ok (c_flow_is (Trip Try.prog) [.d (.bool r)] []) (kL Try.f38 4) ⟨47, [(37, .d (.sl (List.map Term.toD v37))), (38, .d (.int .i64 v38)), (39, .d (.int .i64 v39))], [], [], 0⟩
    replace h : flow_is_L4_B (fun v37 v38 v39 => g (I_flow_is_L4.flow_is_L4 v37 v38 v39)) v37 v38 v39 = some r := h
    unfold flow_is_L4_B at h
    refine ok_ev 1000 (e_flow_is_L4 _ _ v37 v38 v39 _ _) ?_
    rintro _ rfl
    refine w_condH decide_eq_true_iff h (fun hc1 h => ?_) (fun hc1 h => ?_)
    ·
      obtain ⟨x, hx, h⟩ := w_bind h
      refine ⟨sizedL (l := v37) (Term.sz), w_ge hx, x.K, x.N, x.S, List.map Term.toD x.L, x.From, x.To, w_get (Term.toD_eq x) hx, ?_⟩
      rintro _ rfl
      refine w_condN beq_iff_eq h (fun hc2 h => ?_) (fun hc2 h => ?_)
      ·
        rintro _ rfl
        exact ih_flow_is_L4 _ _ _ _ h
      ·
        cases h; exact ⟨rfl, rfl⟩
    ·
      cases h; exact ⟨rfl, rfl⟩
theorem T_flow_is_L4 (v37 : List Term) (v38 : Int) (v39 : Int) (r : Bool) (h : flow_is_L4 v37 v38 v39 = some r) : Ok (c_flow_is (Trip Try.prog) [.d (.bool r)] []) (kL Try.f38 4) ⟨47, [(37, .d (.sl (List.map Term.toD v37))), (38, .d (.int .i64 v38)), (39, .d (.int .i64 v39))], [], [], 0⟩ := G_flow_is_L4 (.flow_is_L4 v37 v38 v39) r h
theorem T_flow_is (t : Term) (kind : Int) (parts : Int) (blocks : Int) (r : Bool) (h : flow_is t kind parts blocks = some r) : Trip Try.prog 38 [.d (.agg [(.int .i64 t.K), (.int .i64 t.N), (.str t.S), (.sl (List.map Term.toD t.L)), (.int .i64 t.From), (.int .i64 t.To)]), .d (.int .i64 kind), .d (.int .i64 parts), .d (.int .i64 blocks)] [] [.d (.bool r)] [] := by
  unfold flow_is at h
  refine trip_ev 1000 (by kernel_rfl) (by kernel_rfl) (by kernel_rfl) (by kernel_rfl) (e_flow_is _ _ t kind parts blocks _ _) ?_
  rintro _ rfl
  refine w_condN beq_iff_eq h (fun hc3 h => ?_) (fun hc3 h => ?_)
  ·
    rintro _ rfl
    refine w_condN beq_iff_eq h (fun hc4 h => ?_) (fun hc4 h => ?_)
    ·
      rintro _ rfl
      refine w_condN beq_iff_eq h (fun hc5 h => ?_) (fun hc5 h => ?_)
      ·
        refine w_nam (e' := (List.length t.L : Int)) (by first | rfl | rw [List.length_map]) ?_
        rintro _ rfl
        refine w_condN beq_iff_eq h (fun hc6 h => ?_) (fun hc6 h => ?_)
        ·
          rintro _ rfl
          refine ⟨sizedL (l := t.L) (Term.sz), ?_⟩
          obtain ⟨hP, h⟩ := w_chk h
          refine ⟨by first | exact hP | (simp only [List.length_map, List.length_cons, List.length_nil] at hP ⊢; exact hP), ?_⟩
          obtain ⟨hP, h⟩ := w_chk h
          refine ⟨by first | exact hP | (simp only [List.length_map, List.length_cons, List.length_nil] at hP ⊢; exact hP), ?_⟩
          obtain ⟨hP, h⟩ := w_chk h
          refine ⟨by first | exact hP | (simp only [List.length_map, List.length_cons, List.length_nil] at hP ⊢; exact hP), ?_⟩
          refine w_nam (e' := List.map Term.toD (List.drop (Int.toNat (IntKind.wrap .i64 (parts - blocks))) (List.take (List.length t.L) t.L))) (by first | rfl | simp only [List.map_append, List.map_cons, List.map_nil, List.map_take, List.map_drop, List.map_set, List.map_replicate, List.length_map, Term.toD_eq]) ?_
          refine w_nam (e' := (List.length (List.drop (Int.toNat (IntKind.wrap .i64 (parts - blocks))) (List.take (List.length t.L) t.L)) : Int)) (by first | rfl | rw [List.length_map]) ?_
          exact T_flow_is_L4 _ _ _ _ h
        ·
          cases h; exact ⟨rfl, rfl⟩
      ·
        cases h; exact ⟨rfl, rfl⟩
    ·
      cases h; exact ⟨rfl, rfl⟩
  ·
    cases h; exact ⟨rfl, rfl⟩
theorem T_flow_local (n : Int) (r : Term) (h : flow_local n = some r) : Trip Try.prog 40 [.d (.int .i64 n)] [] [.d (.agg [(.int .i64 r.K), (.int .i64 r.N), (.str r.S), (.sl (List.map Term.toD r.L)), (.int .i64 r.From), (.int .i64 r.To)])] [] := by
  unfold flow_local at h
  refine trip_ev 1000 (by kernel_rfl) (by kernel_rfl) (by kernel_rfl) (by kernel_rfl) (e_flow_local _ _ n _ _) ?_
  cases h; exact ⟨rfl, rfl⟩
theorem T_shift_mover_turn (t : Term) (depth : Int) (by_ : Int) (from_ : Int) (lost : Bool) (r : Term × Int × Int × Bool) (h : shift_mover_turn t depth by_ from_ lost = some r) : Trip Try.prog 74 [.hp 0 0, .d (.agg [(.int .i64 t.K), (.int .i64 t.N), (.str t.S), (.sl (List.map Term.toD t.L)), (.int .i64 t.From), (.int .i64 t.To)]), .d (.int .i64 depth)] [[.d (.int .i64 by_), .d (.int .i64 from_), .d (.bool lost)]] [.d (.agg [(.int .i64 r.1.K), (.int .i64 r.1.N), (.str r.1.S), (.sl (List.map Term.toD r.1.L)), (.int .i64 r.1.From), (.int .i64 r.1.To)])] [[.d (.int .i64 r.2.1), .d (.int .i64 r.2.2.1), .d (.bool r.2.2.2)]] := by
  unfold shift_mover_turn at h
  refine trip_ev 1000 (by kernel_rfl) (by kernel_rfl) (by kernel_rfl) (by kernel_rfl) (e_shift_mover_turn _ _ t depth by_ from_ lost _ _) ?_
  rintro _ rfl
  refine w_condH decide_eq_true_iff h (fun hc7 h => ?_) (fun hc7 h => ?_)
  ·
    cases h; exact ⟨rfl, rfl⟩
  ·
    rintro _ rfl
    rintro _ rfl
    refine w_condH decide_eq_true_iff h (fun hc8 h => ?_) (fun hc8 h => ?_)
    ·
      cases h; exact ⟨rfl, rfl⟩
    ·
      rintro _ rfl
      refine w_condH decide_eq_true_iff h (fun hc9 h => ?_) (fun hc9 h => ?_)
      ·
        rintro _ rfl
        rintro _ rfl
        rintro _ rfl
        refine w_condH decide_eq_true_iff h (fun hc10 h => ?_) (fun hc10 h => ?_)
        ·
          rintro _ rfl
          cases h; exact ⟨rfl, rfl⟩
        ·
          rintro _ rfl
          cases h; exact ⟨rfl, rfl⟩
      ·
        rintro _ rfl
        cases h; exact ⟨rfl, rfl⟩
theorem T_shift_binds (t : Term) (r : Bool) (h : shift_binds t = some r) : Trip Try.prog 81 [.d (.agg [(.int .i64 t.K), (.int .i64 t.N), (.str t.S), (.sl (List.map Term.toD t.L)), (.int .i64 t.From), (.int .i64 t.To)])] [] [.d (.bool r)] [] := by
  unfold shift_binds at h
  refine trip_ev 1000 (by kernel_rfl) (by kernel_rfl) (by kernel_rfl) (by kernel_rfl) (e_shift_binds _ _ t _ _) ?_
  rintro _ rfl
  refine w_condH beq_iff_eq h (fun hc11 h => ?_) (fun hc11 h => ?_)
  ·
    cases h; exact ⟨rfl, rfl⟩
  ·
    rintro _ rfl
    cases h; exact ⟨rfl, rfl⟩
def M_shift_In_L7 : (i : I_shift_In_L7) → R_shift_In_L7 i → Prop
  | .shift_In_L7 n v24 v25 v26, r => Ok (c_shift_In (Trip Try.prog) [.d (.int .i64 r)] []) (kL Try.f48 7) ⟨50, [(5, .d (.int .i64 n)), (24, .d (.sl (List.map Term.toD v24))), (25, .d (.int .i64 v25)), (26, .d (.int .i64 v26))], [], [], 0⟩
theorem G_shift_In_L7 : ∀ i r, fixF F_shift_In_L7 i = some r → M_shift_In_L7 i r := by
  refine fixF_induct D_shift_In_L7 fun g ih i => ?_
  cases i with
  | shift_In_L7 n v24 v25 v26 =>
    have ih_shift_In_L7 : ∀ (n : Int) (v24 : List Term) (v25 : Int) (v26 : Int) (r : Int), g (I_shift_In_L7.shift_In_L7 n v24 v25 v26) = some r → Ok (c_shift_In (Trip Try.prog) [.d (.int .i64 r)] []) (kL Try.f48 7) ⟨50, [(5, .d (.int .i64 n)), (24, .d (.sl (List.map Term.toD v24))), (25, .d (.int .i64 v25)), (26, .d (.int .i64 v26))], [], [], 0⟩ := fun n v24 v25 v26 r h => ih (.shift_In_L7 n v24 v25 v26) r h
    intro r h
    show Ok (c_shift_In (Trip Try.prog) [.d (.int .i64 r)] []) (kL Try.f48 7) ⟨50, [(5, .d (.int .i64 n)), (24, .d (.sl (List.map Term.toD v24))), (25, .d (.int .i64 v25)), (26, .d (.int .i64 v26))], [], [], 0⟩
    replace h : shift_In_L7_B (fun n v24 v25 v26 => g (I_shift_In_L7.shift_In_L7 n v24 v25 v26)) n v24 v25 v26 = some r := h
    unfold shift_In_L7_B at h
    refine ok_ev 1000 (e_shift_In_L7 _ _ n v24 v25 v26 _ _) ?_
    rintro _ rfl
    refine w_condH decide_eq_true_iff h (fun hc12 h => ?_) (fun hc12 h => ?_)
    ·
      obtain ⟨x, hx, h⟩ := w_bind h
      refine ⟨sizedL (l := v24) (Term.sz), w_ge hx, x.K, x.N, x.S, List.map Term.toD x.L, x.From, x.To, w_get (Term.toD_eq x) hx, ?_⟩
      obtain ⟨q1, hq, h⟩ := w_bind h
      refine ⟨q1, ⟨_, T_shift_binds _ _ hq⟩, ?_⟩
      refine w_condH Iff.rfl h (fun hc13 h => ?_) (fun hc13 h => ?_)
      ·
        rintro _ rfl
        rintro _ rfl
        exact ih_shift_In_L7 _ _ _ _ _ h
      ·
        rintro _ rfl
        exact ih_shift_In_L7 _ _ _ _ _ h
    ·
      cases h; exact ⟨rfl, rfl⟩
theorem T_shift_In_L7 (n : Int) (v24 : List Term) (v25 : Int) (v26 : Int) (r : Int) (h : shift_In_L7 n v24 v25 v26 = some r) : Ok (c_shift_In (Trip Try.prog) [.d (.int .i64 r)] []) (kL Try.f48 7) ⟨50, [(5, .d (.int .i64 n)), (24, .d (.sl (List.map Term.toD v24))), (25, .d (.int .i64 v25)), (26, .d (.int .i64 v26))], [], [], 0⟩ := G_shift_In_L7 (.shift_In_L7 n v24 v25 v26) r h
theorem T_shift_In (t : Term) (i : Int) (r : Int) (h : shift_In t i = some r) : Trip Try.prog 48 [.d (.agg [(.int .i64 t.K), (.int .i64 t.N), (.str t.S), (.sl (List.map Term.toD t.L)), (.int .i64 t.From), (.int .i64 t.To)]), .d (.int .i64 i)] [] [.d (.int .i64 r)] [] := by
  unfold shift_In at h
  refine trip_ev 1000 (by kernel_rfl) (by kernel_rfl) (by kernel_rfl) (by kernel_rfl) (e_shift_In _ _ t i _ _) ?_
  rintro _ rfl
  refine w_condH decide_eq_true_iff h (fun hc14 h => ?_) (fun hc14 h => ?_)
  ·
    cases h; exact ⟨rfl, rfl⟩
  ·
    refine w_nam (e' := (List.length t.L : Int)) (by first | rfl | rw [List.length_map]) ?_
    rintro _ rfl
    refine w_condH decide_eq_true_iff h (fun hc15 h => ?_) (fun hc15 h => ?_)
    ·
      cases h; exact ⟨rfl, rfl⟩
    ·
      rintro _ rfl
      refine w_condH beq_iff_eq h (fun hc16 h => ?_) (fun hc16 h => ?_)
      ·
        refine ⟨sizedL (l := t.L) (Term.sz), ?_⟩
        obtain ⟨hP, h⟩ := w_chk h
        refine ⟨by first | exact hP | (simp only [List.length_map, List.length_cons, List.length_nil] at hP ⊢; exact hP), ?_⟩
        obtain ⟨hP, h⟩ := w_chk h
        refine ⟨by first | exact hP | (simp only [List.length_map, List.length_cons, List.length_nil] at hP ⊢; exact hP), ?_⟩
        obtain ⟨hP, h⟩ := w_chk h
        refine ⟨by first | exact hP | (simp only [List.length_map, List.length_cons, List.length_nil] at hP ⊢; exact hP), ?_⟩
        refine w_nam (e' := List.map Term.toD (List.drop 0 (List.take (Int.toNat i) t.L))) (by first | rfl | simp only [List.map_append, List.map_cons, List.map_nil, List.map_take, List.map_drop, List.map_set, List.map_replicate, List.length_map, Term.toD_eq]) ?_
        refine w_nam (e' := (List.length (List.drop 0 (List.take (Int.toNat i) t.L)) : Int)) (by first | rfl | rw [List.length_map]) ?_
        exact T_shift_In_L7 _ _ _ _ _ h
      ·
        rintro _ rfl
        refine w_condH beq_iff_eq h (fun hc17 h => ?_) (fun hc17 h => ?_)
        ·
          rintro _ rfl
          refine w_condH beq_iff_eq h (fun hc18 h => ?_) (fun hc18 h => ?_)
          ·
            cases h; exact ⟨rfl, rfl⟩
          ·
            cases h; exact ⟨rfl, rfl⟩
        ·
          rintro _ rfl
          refine w_condH beq_iff_eq h (fun hc19 h => ?_) (fun hc19 h => ?_)
          ·
            rintro _ rfl
            refine w_condH beq_iff_eq h (fun hc20 h => ?_) (fun hc20 h => ?_)
            ·
              obtain ⟨x, hx, h⟩ := w_bind h
              refine ⟨sizedL (l := t.L) (Term.sz), w_ge hx, x.K, x.N, x.S, List.map Term.toD x.L, x.From, x.To, w_get (Term.toD_eq x) hx, ?_⟩
              refine w_nam (e' := (List.length x.L : Int)) (by first | rfl | rw [List.length_map]) ?_
              cases h; exact ⟨rfl, rfl⟩
            ·
              cases h; exact ⟨rfl, rfl⟩
          ·
            cases h; exact ⟨rfl, rfl⟩
def M_shift_walk_mover_turn : (i : I_shift_walk_mover_turn) → R_shift_walk_mover_turn i → Prop
  | .shift_walk_mover_turn t depth by_ from_ lost, r => Trip Try.prog 73 [.d (.agg [(.int .i64 t.K), (.int .i64 t.N), (.str t.S), (.sl (List.map Term.toD t.L)), (.int .i64 t.From), (.int .i64 t.To)]), .d (.int .i64 depth), .fn 74 [.hp 0 0] []] [[.d (.int .i64 by_), .d (.int .i64 from_), .d (.bool lost)]] [.d (.agg [(.int .i64 r.1.K), (.int .i64 r.1.N), (.str r.1.S), (.sl (List.map Term.toD r.1.L)), (.int .i64 r.1.From), (.int .i64 r.1.To)])] [[.d (.int .i64 r.2.1), .d (.int .i64 r.2.2.1), .d (.bool r.2.2.2)]]
  | .shift_walk_mover_turn_L8 depth more v28 v29 v30 t o6 o26 by_ from_ lost, r => Ok (c_shift_walk_mover_turn (Trip Try.prog) [.d (.agg [(.int .i64 r.1.K), (.int .i64 r.1.N), (.str r.1.S), (.sl (List.map Term.toD r.1.L)), (.int .i64 r.1.From), (.int .i64 r.1.To)])] [[.d (.int .i64 r.2.1), .d (.int .i64 r.2.2.1), .d (.bool r.2.2.2)]]) (kL Try.f73 8) ⟨63, [(1, .d (.int .i64 depth)), (2, .fn 74 [.hp 0 0] []), (3, .ref 3 1 0), (6, .ref 6 1 0), (7, .row 26 1), (8, .d (.int .i64 more)), (28, .d (.sl (List.map Term.toD v28))), (29, .d (.int .i64 v29)), (30, .d (.int .i64 v30))], [(3, 1, some (.agg (.agg [(.int .i64 t.K), (.int .i64 t.N), (.str t.S), (.sl (List.map Term.toD t.L)), (.int .i64 t.From), (.int .i64 t.To)]))), (6, 1, some (.agg (.agg [(.int .i64 o6.K), (.int .i64 o6.N), (.str o6.S), (.sl (List.map Term.toD o6.L)), (.int .i64 o6.From), (.int .i64 o6.To)]))), (26, 1, some (.row 6 (List.map Term.toD o26)))], [[.d (.int .i64 by_), .d (.int .i64 from_), .d (.bool lost)]], 0⟩
theorem G_shift_walk_mover_turn : ∀ i r, fixF F_shift_walk_mover_turn i = some r → M_shift_walk_mover_turn i r := by
  refine fixF_induct D_shift_walk_mover_turn fun g ih i => ?_
  cases i with
  | shift_walk_mover_turn t depth by_ from_ lost =>
    have ih_shift_walk_mover_turn_L8 : ∀ (depth : Int) (more : Int) (v28 : List Term) (v29 : Int) (v30 : Int) (t : Term) (o6 : Term) (o26 : List Term) (by_ : Int) (from_ : Int) (lost : Bool) (r : Term × Int × Int × Bool), g (I_shift_walk_mover_turn.shift_walk_mover_turn_L8 depth more v28 v29 v30 t o6 o26 by_ from_ lost) = some r → Ok (c_shift_walk_mover_turn (Trip Try.prog) [.d (.agg [(.int .i64 r.1.K), (.int .i64 r.1.N), (.str r.1.S), (.sl (List.map Term.toD r.1.L)), (.int .i64 r.1.From), (.int .i64 r.1.To)])] [[.d (.int .i64 r.2.1), .d (.int .i64 r.2.2.1), .d (.bool r.2.2.2)]]) (kL Try.f73 8) ⟨63, [(1, .d (.int .i64 depth)), (2, .fn 74 [.hp 0 0] []), (3, .ref 3 1 0), (6, .ref 6 1 0), (7, .row 26 1), (8, .d (.int .i64 more)), (28, .d (.sl (List.map Term.toD v28))), (29, .d (.int .i64 v29)), (30, .d (.int .i64 v30))], [(3, 1, some (.agg (.agg [(.int .i64 t.K), (.int .i64 t.N), (.str t.S), (.sl (List.map Term.toD t.L)), (.int .i64 t.From), (.int .i64 t.To)]))), (6, 1, some (.agg (.agg [(.int .i64 o6.K), (.int .i64 o6.N), (.str o6.S), (.sl (List.map Term.toD o6.L)), (.int .i64 o6.From), (.int .i64 o6.To)]))), (26, 1, some (.row 6 (List.map Term.toD o26)))], [[.d (.int .i64 by_), .d (.int .i64 from_), .d (.bool lost)]], 0⟩ := fun depth more v28 v29 v30 t o6 o26 by_ from_ lost r h => ih (.shift_walk_mover_turn_L8 depth more v28 v29 v30 t o6 o26 by_ from_ lost) r h
    intro r h
    show Trip Try.prog 73 [.d (.agg [(.int .i64 t.K), (.int .i64 t.N), (.str t.S), (.sl (List.map Term.toD t.L)), (.int .i64 t.From), (.int .i64 t.To)]), .d (.int .i64 depth), .fn 74 [.hp 0 0] []] [[.d (.int .i64 by_), .d (.int .i64 from_), .d (.bool lost)]] [.d (.agg [(.int .i64 r.1.K), (.int .i64 r.1.N), (.str r.1.S), (.sl (List.map Term.toD r.1.L)), (.int .i64 r.1.From), (.int .i64 r.1.To)])] [[.d (.int .i64 r.2.1), .d (.int .i64 r.2.2.1), .d (.bool r.2.2.2)]]
    replace h : shift_walk_mover_turn_B (fun depth more v28 v29 v30 t o6 o26 by_ from_ lost => g (I_shift_walk_mover_turn.shift_walk_mover_turn_L8 depth more v28 v29 v30 t o6 o26 by_ from_ lost)) t depth by_ from_ lost = some r := h
    unfold shift_walk_mover_turn_B at h
    refine trip_ev 1000 (by kernel_rfl) (by kernel_rfl) (by kernel_rfl) (by kernel_rfl) (e_shift_walk_mover_turn _ _ t depth by_ from_ lost _ _) ?_
    rintro _ rfl
    refine w_condH beq_iff_eq h (fun hc21 h => ?_) (fun hc21 h => ?_)
    ·
      obtain ⟨q1, hq, h⟩ := w_bind h
      refine ⟨q1.1.K, q1.1.N, q1.1.S, List.map Term.toD q1.1.L, q1.1.From, q1.1.To, q1.2.1, q1.2.2.1, q1.2.2.2, T_shift_mover_turn _ _ _ _ _ _ hq, ?_⟩
      cases h; exact ⟨rfl, rfl⟩
    ·
      refine w_nam (e' := (List.length t.L : Int)) (by first | rfl | rw [List.length_map]) ?_
      rintro _ rfl
      refine w_condH beq_iff_eq h (fun hc22 h => ?_) (fun hc22 h => ?_)
      ·
        cases h; exact ⟨rfl, rfl⟩
      ·
        refine w_nam (e' := (List.length t.L : Int)) (by first | rfl | rw [List.length_map]) ?_
        obtain ⟨hP, h⟩ := w_chk h
        refine ⟨by first | exact hP | (simp only [List.length_map, List.length_cons, List.length_nil] at hP ⊢; exact hP), ?_⟩
        refine w_nam (e' := List.map Term.toD (List.replicate (List.length t.L : Int).toNat (Term.mk 0 0 ([] : List UInt8) [] 0 0))) (by first | rfl | simp only [List.map_append, List.map_cons, List.map_nil, List.map_take, List.map_drop, List.map_set, List.map_replicate, List.length_map, Term.toD_eq]) ?_
        refine w_nam (e' := (List.length t.L : Int)) (by first | rfl | rw [List.length_map]) ?_
        exact ih_shift_walk_mover_turn_L8 _ _ _ _ _ _ _ _ _ _ _ _ h
  | shift_walk_mover_turn_L8 depth more v28 v29 v30 t o6 o26 by_ from_ lost =>
    have ih_shift_walk_mover_turn : ∀ (t : Term) (depth : Int) (by_ : Int) (from_ : Int) (lost : Bool) (r : Term × Int × Int × Bool), g (I_shift_walk_mover_turn.shift_walk_mover_turn t depth by_ from_ lost) = some r → Trip Try.prog 73 [.d (.agg [(.int .i64 t.K), (.int .i64 t.N), (.str t.S), (.sl (List.map Term.toD t.L)), (.int .i64 t.From), (.int .i64 t.To)]), .d (.int .i64 depth), .fn 74 [.hp 0 0] []] [[.d (.int .i64 by_), .d (.int .i64 from_), .d (.bool lost)]] [.d (.agg [(.int .i64 r.1.K), (.int .i64 r.1.N), (.str r.1.S), (.sl (List.map Term.toD r.1.L)), (.int .i64 r.1.From), (.int .i64 r.1.To)])] [[.d (.int .i64 r.2.1), .d (.int .i64 r.2.2.1), .d (.bool r.2.2.2)]] := fun t depth by_ from_ lost r h => ih (.shift_walk_mover_turn t depth by_ from_ lost) r h
    have ih_shift_walk_mover_turn_L8 : ∀ (depth : Int) (more : Int) (v28 : List Term) (v29 : Int) (v30 : Int) (t : Term) (o6 : Term) (o26 : List Term) (by_ : Int) (from_ : Int) (lost : Bool) (r : Term × Int × Int × Bool), g (I_shift_walk_mover_turn.shift_walk_mover_turn_L8 depth more v28 v29 v30 t o6 o26 by_ from_ lost) = some r → Ok (c_shift_walk_mover_turn (Trip Try.prog) [.d (.agg [(.int .i64 r.1.K), (.int .i64 r.1.N), (.str r.1.S), (.sl (List.map Term.toD r.1.L)), (.int .i64 r.1.From), (.int .i64 r.1.To)])] [[.d (.int .i64 r.2.1), .d (.int .i64 r.2.2.1), .d (.bool r.2.2.2)]]) (kL Try.f73 8) ⟨63, [(1, .d (.int .i64 depth)), (2, .fn 74 [.hp 0 0] []), (3, .ref 3 1 0), (6, .ref 6 1 0), (7, .row 26 1), (8, .d (.int .i64 more)), (28, .d (.sl (List.map Term.toD v28))), (29, .d (.int .i64 v29)), (30, .d (.int .i64 v30))], [(3, 1, some (.agg (.agg [(.int .i64 t.K), (.int .i64 t.N), (.str t.S), (.sl (List.map Term.toD t.L)), (.int .i64 t.From), (.int .i64 t.To)]))), (6, 1, some (.agg (.agg [(.int .i64 o6.K), (.int .i64 o6.N), (.str o6.S), (.sl (List.map Term.toD o6.L)), (.int .i64 o6.From), (.int .i64 o6.To)]))), (26, 1, some (.row 6 (List.map Term.toD o26)))], [[.d (.int .i64 by_), .d (.int .i64 from_), .d (.bool lost)]], 0⟩ := fun depth more v28 v29 v30 t o6 o26 by_ from_ lost r h => ih (.shift_walk_mover_turn_L8 depth more v28 v29 v30 t o6 o26 by_ from_ lost) r h
    intro r h
    show Ok (c_shift_walk_mover_turn (Trip Try.prog) [.d (.agg [(.int .i64 r.1.K), (.int .i64 r.1.N), (.str r.1.S), (.sl (List.map Term.toD r.1.L)), (.int .i64 r.1.From), (.int .i64 r.1.To)])] [[.d (.int .i64 r.2.1), .d (.int .i64 r.2.2.1), .d (.bool r.2.2.2)]]) (kL Try.f73 8) ⟨63, [(1, .d (.int .i64 depth)), (2, .fn 74 [.hp 0 0] []), (3, .ref 3 1 0), (6, .ref 6 1 0), (7, .row 26 1), (8, .d (.int .i64 more)), (28, .d (.sl (List.map Term.toD v28))), (29, .d (.int .i64 v29)), (30, .d (.int .i64 v30))], [(3, 1, some (.agg (.agg [(.int .i64 t.K), (.int .i64 t.N), (.str t.S), (.sl (List.map Term.toD t.L)), (.int .i64 t.From), (.int .i64 t.To)]))), (6, 1, some (.agg (.agg [(.int .i64 o6.K), (.int .i64 o6.N), (.str o6.S), (.sl (List.map Term.toD o6.L)), (.int .i64 o6.From), (.int .i64 o6.To)]))), (26, 1, some (.row 6 (List.map Term.toD o26)))], [[.d (.int .i64 by_), .d (.int .i64 from_), .d (.bool lost)]], 0⟩
    replace h : shift_walk_mover_turn_L8_B (fun t depth by_ from_ lost => g (I_shift_walk_mover_turn.shift_walk_mover_turn t depth by_ from_ lost)) (fun depth more v28 v29 v30 t o6 o26 by_ from_ lost => g (I_shift_walk_mover_turn.shift_walk_mover_turn_L8 depth more v28 v29 v30 t o6 o26 by_ from_ lost)) depth more v28 v29 v30 t o6 o26 by_ from_ lost = some r := h
    unfold shift_walk_mover_turn_L8_B at h
    refine ok_ev 1000 (e_shift_walk_mover_turn_L8 _ _ depth more v28 v29 v30 t o6 o26 by_ from_ lost _ _) ?_
    rintro _ rfl
    refine w_condH decide_eq_true_iff h (fun hc23 h => ?_) (fun hc23 h => ?_)
    ·
      obtain ⟨x, hx, h⟩ := w_bind h
      refine ⟨sizedL (l := v28) (Term.sz), w_ge hx, x.K, x.N, x.S, List.map Term.toD x.L, x.From, x.To, w_get (Term.toD_eq x) hx, ?_⟩
      rintro _ rfl
      refine w_condN beq_iff_eq h (fun hc24 h => ?_) (fun hc24 h => ?_)
      ·
        rintro _ rfl
        obtain ⟨q4, hq, h⟩ := w_bind h
        refine ⟨q4.1.K, q4.1.N, q4.1.S, List.map Term.toD q4.1.L, q4.1.From, q4.1.To, q4.2.1, q4.2.2.1, q4.2.2.2, ih_shift_walk_mover_turn _ _ _ _ _ _ hq, ?_⟩
        obtain ⟨hP, h⟩ := w_chk h
        refine ⟨hP.1, by first | exact hP.2 | (simp only [List.length_map] at hP ⊢; exact hP.2), ?_⟩
        obtain ⟨hP, h⟩ := w_chk h
        refine ⟨by first | exact hP | (rw [List.length_map]; exact hP), ?_⟩
        refine w_nam (e' := List.map Term.toD (o26.set (Int.toNat v30) q4.1)) (w_set (Term.toD_eq q4.1)) ?_
        rintro _ rfl
        refine w_condT beq_iff_eq hc24 ?_
        obtain ⟨q5, hq, h⟩ := w_bind h
        refine ⟨q5, ⟨_, T_shift_binds _ _ hq⟩, ?_⟩
        refine w_condH Iff.rfl h (fun hc25 h => ?_) (fun hc25 h => ?_)
        ·
          rintro _ rfl
          rintro _ rfl
          exact ih_shift_walk_mover_turn_L8 _ _ _ _ _ _ _ _ _ _ _ _ h
        ·
          rintro _ rfl
          exact ih_shift_walk_mover_turn_L8 _ _ _ _ _ _ _ _ _ _ _ _ h
      ·
        obtain ⟨q1, hq, h⟩ := w_bind h
        refine ⟨q1, ⟨_, T_shift_In _ _ _ hq⟩, ?_⟩
        rintro _ rfl
        obtain ⟨q2, hq, h⟩ := w_bind h
        refine ⟨q2.1.K, q2.1.N, q2.1.S, List.map Term.toD q2.1.L, q2.1.From, q2.1.To, q2.2.1, q2.2.2.1, q2.2.2.2, ih_shift_walk_mover_turn _ _ _ _ _ _ hq, ?_⟩
        obtain ⟨hP, h⟩ := w_chk h
        refine ⟨hP.1, by first | exact hP.2 | (simp only [List.length_map] at hP ⊢; exact hP.2), ?_⟩
        obtain ⟨hP, h⟩ := w_chk h
        refine ⟨by first | exact hP | (rw [List.length_map]; exact hP), ?_⟩
        refine w_nam (e' := List.map Term.toD (o26.set (Int.toNat v30) q2.1)) (w_set (Term.toD_eq q2.1)) ?_
        rintro _ rfl
        refine w_condF beq_iff_eq hc24 ?_
        rintro _ rfl
        exact ih_shift_walk_mover_turn_L8 _ _ _ _ _ _ _ _ _ _ _ _ h
    ·
      cases h; exact ⟨rfl, rfl⟩
theorem T_shift_walk_mover_turn (t : Term) (depth : Int) (by_ : Int) (from_ : Int) (lost : Bool) (r : Term × Int × Int × Bool) (h : shift_walk_mover_turn t depth by_ from_ lost = some r) : Trip Try.prog 73 [.d (.agg [(.int .i64 t.K), (.int .i64 t.N), (.str t.S), (.sl (List.map Term.toD t.L)), (.int .i64 t.From), (.int .i64 t.To)]), .d (.int .i64 depth), .fn 74 [.hp 0 0] []] [[.d (.int .i64 by_), .d (.int .i64 from_), .d (.bool lost)]] [.d (.agg [(.int .i64 r.1.K), (.int .i64 r.1.N), (.str r.1.S), (.sl (List.map Term.toD r.1.L)), (.int .i64 r.1.From), (.int .i64 r.1.To)])] [[.d (.int .i64 r.2.1), .d (.int .i64 r.2.2.1), .d (.bool r.2.2.2)]] := G_shift_walk_mover_turn (.shift_walk_mover_turn t depth by_ from_ lost) r h
theorem T_shift_walk_mover_turn_L8 (depth : Int) (more : Int) (v28 : List Term) (v29 : Int) (v30 : Int) (t : Term) (o6 : Term) (o26 : List Term) (by_ : Int) (from_ : Int) (lost : Bool) (r : Term × Int × Int × Bool) (h : shift_walk_mover_turn_L8 depth more v28 v29 v30 t o6 o26 by_ from_ lost = some r) : Ok (c_shift_walk_mover_turn (Trip Try.prog) [.d (.agg [(.int .i64 r.1.K), (.int .i64 r.1.N), (.str r.1.S), (.sl (List.map Term.toD r.1.L)), (.int .i64 r.1.From), (.int .i64 r.1.To)])] [[.d (.int .i64 r.2.1), .d (.int .i64 r.2.2.1), .d (.bool r.2.2.2)]]) (kL Try.f73 8) ⟨63, [(1, .d (.int .i64 depth)), (2, .fn 74 [.hp 0 0] []), (3, .ref 3 1 0), (6, .ref 6 1 0), (7, .row 26 1), (8, .d (.int .i64 more)), (28, .d (.sl (List.map Term.toD v28))), (29, .d (.int .i64 v29)), (30, .d (.int .i64 v30))], [(3, 1, some (.agg (.agg [(.int .i64 t.K), (.int .i64 t.N), (.str t.S), (.sl (List.map Term.toD t.L)), (.int .i64 t.From), (.int .i64 t.To)]))), (6, 1, some (.agg (.agg [(.int .i64 o6.K), (.int .i64 o6.N), (.str o6.S), (.sl (List.map Term.toD o6.L)), (.int .i64 o6.From), (.int .i64 o6.To)]))), (26, 1, some (.row 6 (List.map Term.toD o26)))], [[.d (.int .i64 by_), .d (.int .i64 from_), .d (.bool lost)]], 0⟩ := G_shift_walk_mover_turn (.shift_walk_mover_turn_L8 depth more v28 v29 v30 t o6 o26 by_ from_ lost) r h
theorem T_shift_Shift (t : Term) (by_ : Int) (from_ : Int) (r : Term × Bool × H) (h : shift_Shift t by_ from_ = some r) : Trip Try.prog 39 [.d (.agg [(.int .i64 t.K), (.int .i64 t.N), (.str t.S), (.sl (List.map Term.toD t.L)), (.int .i64 t.From), (.int .i64 t.To)]), .d (.int .i64 by_), .d (.int .i64 from_)] [] [.d (.agg [(.int .i64 r.1.K), (.int .i64 r.1.N), (.str r.1.S), (.sl (List.map Term.toD r.1.L)), (.int .i64 r.1.From), (.int .i64 r.1.To)]), .d (.bool r.2.1)] r.2.2 := by
  unfold shift_Shift at h
  refine trip_ev 1000 (by kernel_rfl) (by kernel_rfl) (by kernel_rfl) (by kernel_rfl) (e_shift_Shift _ _ t by_ from_ _ _) ?_
  rintro _ rfl
  refine w_condH decide_eq_true_iff h (fun hc26 h => ?_) (fun hc26 h => ?_)
  ·
    cases h; exact ⟨rfl, rfl⟩
  ·
    rintro _ rfl
    refine w_condH decide_eq_true_iff h (fun hc27 h => ?_) (fun hc27 h => ?_)
    ·
      cases h; exact ⟨rfl, rfl⟩
    ·
      rintro _ rfl
      refine w_condH decide_eq_true_iff h (fun hc28 h => ?_) (fun hc28 h => ?_)
      ·
        cases h; exact ⟨rfl, rfl⟩
      ·
        rintro _ rfl
        refine w_condH decide_eq_true_iff h (fun hc29 h => ?_) (fun hc29 h => ?_)
        ·
          cases h; exact ⟨rfl, rfl⟩
        ·
          obtain ⟨q1, hq, h⟩ := w_bind h
          refine ⟨q1.1.K, q1.1.N, q1.1.S, List.map Term.toD q1.1.L, q1.1.From, q1.1.To, q1.2.1, q1.2.2.1, q1.2.2.2, T_shift_walk_mover_turn _ _ _ _ _ _ hq, ?_⟩
          refine w_condH Iff.rfl h (fun hc30 h => ?_) (fun hc30 h => ?_)
          ·
            cases h; exact ⟨rfl, rfl⟩
          ·
            cases h; exact ⟨rfl, rfl⟩
theorem T_flow_Loop (t : Term) (r : Term × Bool) (h : flow_Loop t = some r) : Trip Try.prog 13 [.d (.agg [(.int .i64 t.K), (.int .i64 t.N), (.str t.S), (.sl (List.map Term.toD t.L)), (.int .i64 t.From), (.int .i64 t.To)])] [] [.d (.agg [(.int .i64 r.1.K), (.int .i64 r.1.N), (.str r.1.S), (.sl (List.map Term.toD r.1.L)), (.int .i64 r.1.From), (.int .i64 r.1.To)]), .d (.bool r.2)] [] := by
  unfold flow_Loop at h
  refine trip_ev 1000 (by kernel_rfl) (by kernel_rfl) (by kernel_rfl) (by kernel_rfl) (e_flow_Loop _ _ t _ _) ?_
  obtain ⟨q1, hq, h⟩ := w_bind h
  refine ⟨q1, ⟨_, T_flow_is _ _ _ _ _ hq⟩, ?_⟩
  refine w_condN Iff.rfl h (fun hc31 h => ?_) (fun hc31 h => ?_)
  ·
    obtain ⟨x, hx, h⟩ := w_bind h
    refine ⟨sizedL (l := t.L) (Term.sz), w_ge hx, x.K, x.N, x.S, List.map Term.toD x.L, x.From, x.To, w_get (Term.toD_eq x) hx, ?_⟩
    obtain ⟨q2, hq, h⟩ := w_bind h
    refine ⟨q2.1.K, q2.1.N, q2.1.S, List.map Term.toD q2.1.L, q2.1.From, q2.1.To, q2.2.1, ⟨_, T_shift_Shift _ _ _ _ hq⟩, ?_⟩
    obtain ⟨x1, hx, h⟩ := w_bind h
    refine ⟨sizedL (l := t.L) (Term.sz), w_ge hx, x1.K, x1.N, x1.S, List.map Term.toD x1.L, x1.From, x1.To, w_get (Term.toD_eq x1) hx, ?_⟩
    obtain ⟨q3, hq, h⟩ := w_bind h
    refine ⟨q3.1.K, q3.1.N, q3.1.S, List.map Term.toD q3.1.L, q3.1.From, q3.1.To, q3.2.1, ⟨_, T_shift_Shift _ _ _ _ hq⟩, ?_⟩
    obtain ⟨q4, hq, h⟩ := w_bind h
    refine ⟨q4.K, q4.N, q4.S, List.map Term.toD q4.L, q4.From, q4.To, ⟨_, T_flow_local _ _ hq⟩, ?_⟩
    obtain ⟨q5, hq, h⟩ := w_bind h
    refine ⟨q5.K, q5.N, q5.S, List.map Term.toD q5.L, q5.From, q5.To, ⟨_, T_flow_local _ _ hq⟩, ?_⟩
    obtain ⟨q6, hq, h⟩ := w_bind h
    refine ⟨q6.K, q6.N, q6.S, List.map Term.toD q6.L, q6.From, q6.To, ⟨_, T_flow_local _ _ hq⟩, ?_⟩
    obtain ⟨q7, hq, h⟩ := w_bind h
    have hT := T_flow_block _ _ hq
    simp only [List.map_cons, List.map_nil, Term.toD_eq] at hT
    refine ⟨q7.K, q7.N, q7.S, List.map Term.toD q7.L, q7.From, q7.To, ⟨_, hT⟩, ?_⟩
    obtain ⟨q8, hq, h⟩ := w_bind h
    refine ⟨q8.K, q8.N, q8.S, List.map Term.toD q8.L, q8.From, q8.To, ⟨_, T_flow_local _ _ hq⟩, ?_⟩
    obtain ⟨q9, hq, h⟩ := w_bind h
    refine ⟨q9.K, q9.N, q9.S, List.map Term.toD q9.L, q9.From, q9.To, ⟨_, T_flow_local _ _ hq⟩, ?_⟩
    refine ⟨sizedL (l := t.L) (Term.sz), ?_⟩
    obtain ⟨hP, h⟩ := w_chk h
    refine ⟨by first | exact hP | (simp only [List.length_map, List.length_cons, List.length_nil] at hP ⊢; exact hP), ?_⟩
    obtain ⟨hP, h⟩ := w_chk h
    refine ⟨by first | exact hP | (simp only [List.length_map, List.length_cons, List.length_nil] at hP ⊢; exact hP), ?_⟩
    obtain ⟨hP, h⟩ := w_chk h
    refine ⟨by first | exact hP | (simp only [List.length_map, List.length_cons, List.length_nil] at hP ⊢; exact hP), ?_⟩
    obtain ⟨hP, h⟩ := w_chk h
    refine ⟨by first | exact hP | (simp only [List.length_map, List.length_cons, List.length_nil] at hP ⊢; exact hP), ?_⟩
    obtain ⟨hP, h⟩ := w_chk h
    refine ⟨by first | exact hP | (simp only [List.length_map, List.length_cons, List.length_nil] at hP ⊢; exact hP), ?_⟩
    refine w_nam (e' := List.map Term.toD (List.drop 0 (List.take (Int.toNat 1) t.L))) (by first | rfl | simp only [List.map_append, List.map_cons, List.map_nil, List.map_take, List.map_drop, List.map_set, List.map_replicate, List.length_map, Term.toD_eq]) ?_
    obtain ⟨q10, hq, h⟩ := w_bind h
    have hT := T_flow_block _ _ hq
    simp only [List.map_cons, List.map_nil, Term.toD_eq] at hT
    refine ⟨q10.K, q10.N, q10.S, List.map Term.toD q10.L, q10.From, q10.To, ⟨_, hT⟩, ?_⟩
    cases h; exact ⟨rfl, rfl⟩
  ·
    cases h; exact ⟨rfl, rfl⟩
def M_term_Same : (i : I_term_Same) → R_term_Same i → Prop
  | .term_Same a b, r => Trip Try.prog 78 [.d (.agg [(.int .i64 a.K), (.int .i64 a.N), (.str a.S), (.sl (List.map Term.toD a.L)), (.int .i64 a.From), (.int .i64 a.To)]), .d (.agg [(.int .i64 b.K), (.int .i64 b.N), (.str b.S), (.sl (List.map Term.toD b.L)), (.int .i64 b.From), (.int .i64 b.To)])] [] [.d (.bool r)] []
  | .slices_EqualFunc_G89Same s1 s2, r => Trip Try.prog 89 [.d (.sl (List.map Term.toD s1)), .d (.sl (List.map Term.toD s2)), .fn 78 [] []] [] [.d (.bool r)] []
  | .slices_EqualFunc_G89Same_L4 s2 v15 v16 v17, r => Ok (c_slices_EqualFunc_G89Same (Trip Try.prog) [.d (.bool r)] []) (kL Try.f89 4) ⟨32, [(1, .d (.sl (List.map Term.toD s2))), (2, .fn 78 [] []), (15, .d (.sl (List.map Term.toD v15))), (16, .d (.int .i64 v16)), (17, .d (.int .i64 v17))], [], [], 0⟩
theorem G_term_Same : ∀ i r, fixF F_term_Same i = some r → M_term_Same i r := by
  refine fixF_induct D_term_Same fun g ih i => ?_
  cases i with
  | term_Same a b =>
    have ih_slices_EqualFunc_G89Same : ∀ (s1 : List Term) (s2 : List Term) (r : Bool), g (I_term_Same.slices_EqualFunc_G89Same s1 s2) = some r → Trip Try.prog 89 [.d (.sl (List.map Term.toD s1)), .d (.sl (List.map Term.toD s2)), .fn 78 [] []] [] [.d (.bool r)] [] := fun s1 s2 r h => ih (.slices_EqualFunc_G89Same s1 s2) r h
    intro r h
    show Trip Try.prog 78 [.d (.agg [(.int .i64 a.K), (.int .i64 a.N), (.str a.S), (.sl (List.map Term.toD a.L)), (.int .i64 a.From), (.int .i64 a.To)]), .d (.agg [(.int .i64 b.K), (.int .i64 b.N), (.str b.S), (.sl (List.map Term.toD b.L)), (.int .i64 b.From), (.int .i64 b.To)])] [] [.d (.bool r)] []
    replace h : term_Same_B (fun s1 s2 => g (I_term_Same.slices_EqualFunc_G89Same s1 s2)) a b = some r := h
    unfold term_Same_B at h
    refine trip_ev 1000 (by kernel_rfl) (by kernel_rfl) (by kernel_rfl) (by kernel_rfl) (e_term_Same _ _ a b _ _) ?_
    rintro _ rfl
    refine w_condH beq_iff_eq h (fun hc32 h => ?_) (fun hc32 h => ?_)
    ·
      rintro _ rfl
      refine w_condH beq_iff_eq h (fun hc33 h => ?_) (fun hc33 h => ?_)
      ·
        rintro _ rfl
        refine w_condH beq_iff_eq h (fun hc34 h => ?_) (fun hc34 h => ?_)
        ·
          obtain ⟨q1, hq, h⟩ := w_bind h
          refine ⟨q1, ih_slices_EqualFunc_G89Same _ _ _ hq, ?_⟩
          cases h; exact ⟨rfl, rfl⟩
        ·
          cases h; exact ⟨rfl, rfl⟩
      ·
        cases h; exact ⟨rfl, rfl⟩
    ·
      cases h; exact ⟨rfl, rfl⟩
  | slices_EqualFunc_G89Same s1 s2 =>
    have ih_slices_EqualFunc_G89Same_L4 : ∀ (s2 : List Term) (v15 : List Term) (v16 : Int) (v17 : Int) (r : Bool), g (I_term_Same.slices_EqualFunc_G89Same_L4 s2 v15 v16 v17) = some r → Ok (c_slices_EqualFunc_G89Same (Trip Try.prog) [.d (.bool r)] []) (kL Try.f89 4) ⟨32, [(1, .d (.sl (List.map Term.toD s2))), (2, .fn 78 [] []), (15, .d (.sl (List.map Term.toD v15))), (16, .d (.int .i64 v16)), (17, .d (.int .i64 v17))], [], [], 0⟩ := fun s2 v15 v16 v17 r h => ih (.slices_EqualFunc_G89Same_L4 s2 v15 v16 v17) r h
    intro r h
    show Trip Try.prog 89 [.d (.sl (List.map Term.toD s1)), .d (.sl (List.map Term.toD s2)), .fn 78 [] []] [] [.d (.bool r)] []
    replace h : slices_EqualFunc_G89Same_B (fun s2 v15 v16 v17 => g (I_term_Same.slices_EqualFunc_G89Same_L4 s2 v15 v16 v17)) s1 s2 = some r := h
    unfold slices_EqualFunc_G89Same_B at h
    refine trip_ev 1000 (by kernel_rfl) (by kernel_rfl) (by kernel_rfl) (by kernel_rfl) (e_slices_EqualFunc_G89Same _ _ s1 s2 _ _) ?_
    refine w_nam (e' := (List.length s1 : Int)) (by first | rfl | rw [List.length_map]) ?_
    refine w_nam (e' := (List.length s2 : Int)) (by first | rfl | rw [List.length_map]) ?_
    rintro _ rfl
    refine w_condN beq_iff_eq h (fun hc35 h => ?_) (fun hc35 h => ?_)
    ·
      refine w_nam (e' := (List.length s1 : Int)) (by first | rfl | rw [List.length_map]) ?_
      exact ih_slices_EqualFunc_G89Same_L4 _ _ _ _ _ h
    ·
      cases h; exact ⟨rfl, rfl⟩
  | slices_EqualFunc_G89Same_L4 s2 v15 v16 v17 =>
    have ih_term_Same : ∀ (a : Term) (b : Term) (r : Bool), g (I_term_Same.term_Same a b) = some r → Trip Try.prog 78 [.d (.agg [(.int .i64 a.K), (.int .i64 a.N), (.str a.S), (.sl (List.map Term.toD a.L)), (.int .i64 a.From), (.int .i64 a.To)]), .d (.agg [(.int .i64 b.K), (.int .i64 b.N), (.str b.S), (.sl (List.map Term.toD b.L)), (.int .i64 b.From), (.int .i64 b.To)])] [] [.d (.bool r)] [] := fun a b r h => ih (.term_Same a b) r h
    have ih_slices_EqualFunc_G89Same_L4 : ∀ (s2 : List Term) (v15 : List Term) (v16 : Int) (v17 : Int) (r : Bool), g (I_term_Same.slices_EqualFunc_G89Same_L4 s2 v15 v16 v17) = some r → Ok (c_slices_EqualFunc_G89Same (Trip Try.prog) [.d (.bool r)] []) (kL Try.f89 4) ⟨32, [(1, .d (.sl (List.map Term.toD s2))), (2, .fn 78 [] []), (15, .d (.sl (List.map Term.toD v15))), (16, .d (.int .i64 v16)), (17, .d (.int .i64 v17))], [], [], 0⟩ := fun s2 v15 v16 v17 r h => ih (.slices_EqualFunc_G89Same_L4 s2 v15 v16 v17) r h
    intro r h
    show Ok (c_slices_EqualFunc_G89Same (Trip Try.prog) [.d (.bool r)] []) (kL Try.f89 4) ⟨32, [(1, .d (.sl (List.map Term.toD s2))), (2, .fn 78 [] []), (15, .d (.sl (List.map Term.toD v15))), (16, .d (.int .i64 v16)), (17, .d (.int .i64 v17))], [], [], 0⟩
    replace h : slices_EqualFunc_G89Same_L4_B (fun a b => g (I_term_Same.term_Same a b)) (fun s2 v15 v16 v17 => g (I_term_Same.slices_EqualFunc_G89Same_L4 s2 v15 v16 v17)) s2 v15 v16 v17 = some r := h
    unfold slices_EqualFunc_G89Same_L4_B at h
    refine ok_ev 1000 (e_slices_EqualFunc_G89Same_L4 _ _ s2 v15 v16 v17 _ _) ?_
    rintro _ rfl
    refine w_condH decide_eq_true_iff h (fun hc36 h => ?_) (fun hc36 h => ?_)
    ·
      obtain ⟨x, hx, h⟩ := w_bind h
      refine ⟨sizedL (l := v15) (Term.sz), w_ge hx, x.K, x.N, x.S, List.map Term.toD x.L, x.From, x.To, w_get (Term.toD_eq x) hx, ?_⟩
      obtain ⟨x1, hx, h⟩ := w_bind h
      refine ⟨sizedL (l := s2) (Term.sz), w_ge hx, x1.K, x1.N, x1.S, List.map Term.toD x1.L, x1.From, x1.To, w_get (Term.toD_eq x1) hx, ?_⟩
      obtain ⟨q1, hq, h⟩ := w_bind h
      refine ⟨q1, ⟨_, ih_term_Same _ _ _ hq⟩, ?_⟩
      refine w_condN Iff.rfl h (fun hc37 h => ?_) (fun hc37 h => ?_)
      ·
        rintro _ rfl
        exact ih_slices_EqualFunc_G89Same_L4 _ _ _ _ _ h
      ·
        cases h; exact ⟨rfl, rfl⟩
    ·
      cases h; exact ⟨rfl, rfl⟩
theorem T_term_Same (a : Term) (b : Term) (r : Bool) (h : term_Same a b = some r) : Trip Try.prog 78 [.d (.agg [(.int .i64 a.K), (.int .i64 a.N), (.str a.S), (.sl (List.map Term.toD a.L)), (.int .i64 a.From), (.int .i64 a.To)]), .d (.agg [(.int .i64 b.K), (.int .i64 b.N), (.str b.S), (.sl (List.map Term.toD b.L)), (.int .i64 b.From), (.int .i64 b.To)])] [] [.d (.bool r)] [] := G_term_Same (.term_Same a b) r h
theorem T_slices_EqualFunc_G89Same (s1 : List Term) (s2 : List Term) (r : Bool) (h : slices_EqualFunc_G89Same s1 s2 = some r) : Trip Try.prog 89 [.d (.sl (List.map Term.toD s1)), .d (.sl (List.map Term.toD s2)), .fn 78 [] []] [] [.d (.bool r)] [] := G_term_Same (.slices_EqualFunc_G89Same s1 s2) r h
theorem T_slices_EqualFunc_G89Same_L4 (s2 : List Term) (v15 : List Term) (v16 : Int) (v17 : Int) (r : Bool) (h : slices_EqualFunc_G89Same_L4 s2 v15 v16 v17 = some r) : Ok (c_slices_EqualFunc_G89Same (Trip Try.prog) [.d (.bool r)] []) (kL Try.f89 4) ⟨32, [(1, .d (.sl (List.map Term.toD s2))), (2, .fn 78 [] []), (15, .d (.sl (List.map Term.toD v15))), (16, .d (.int .i64 v16)), (17, .d (.int .i64 v17))], [], [], 0⟩ := G_term_Same (.slices_EqualFunc_G89Same_L4 s2 v15 v16 v17) r h
theorem T_flow_use_count (u : FlowUse) (r : Bool) (h : flow_use_count u = some r) : Trip Try.prog 72 [.d (.agg [(.int .i64 u.l.K), (.int .i64 u.l.N), (.str u.l.S), (.sl (List.map Term.toD u.l.L)), (.int .i64 u.l.From), (.int .i64 u.l.To), (.int .i64 u.r_.K), (.int .i64 u.r_.N), (.str u.r_.S), (.sl (List.map Term.toD u.r_.L)), (.int .i64 u.r_.From), (.int .i64 u.r_.To)])] [] [.d (.bool r)] [] := by
  unfold flow_use_count at h
  refine trip_ev 1000 (by kernel_rfl) (by kernel_rfl) (by kernel_rfl) (by kernel_rfl) (e_flow_use_count _ _ u _ _) ?_
  obtain ⟨q1, hq, h⟩ := w_bind h
  refine ⟨q1.1.K, q1.1.N, q1.1.S, List.map Term.toD q1.1.L, q1.1.From, q1.1.To, q1.2, ⟨_, T_flow_Loop _ _ hq⟩, ?_⟩
  refine w_condH Iff.rfl h (fun hc38 h => ?_) (fun hc38 h => ?_)
  ·
    obtain ⟨q2, hq, h⟩ := w_bind h
    refine ⟨q2, ⟨_, T_term_Same _ _ _ hq⟩, ?_⟩
    cases h; exact ⟨rfl, rfl⟩
  ·
    cases h; exact ⟨rfl, rfl⟩
theorem T_flow_use_invert (u : FlowUse) (r : Bool) (h : flow_use_invert u = some r) : Trip Try.prog 66 [.d (.agg [(.int .i64 u.l.K), (.int .i64 u.l.N), (.str u.l.S), (.sl (List.map Term.toD u.l.L)), (.int .i64 u.l.From), (.int .i64 u.l.To), (.int .i64 u.r_.K), (.int .i64 u.r_.N), (.str u.r_.S), (.sl (List.map Term.toD u.r_.L)), (.int .i64 u.r_.From), (.int .i64 u.r_.To)])] [] [.d (.bool r)] [] := by
  unfold flow_use_invert at h
  refine trip_ev 1000 (by kernel_rfl) (by kernel_rfl) (by kernel_rfl) (by kernel_rfl) (e_flow_use_invert _ _ u _ _) ?_
  refine ⟨sizedL (l := u.l.L) (Term.sz), ?_⟩
  obtain ⟨hP, h⟩ := w_chk h
  refine ⟨by first | exact hP | (simp only [List.length_map, List.length_cons, List.length_nil] at hP ⊢; exact hP), ?_⟩
  obtain ⟨hP, h⟩ := w_chk h
  refine ⟨by first | exact hP | (simp only [List.length_map, List.length_cons, List.length_nil] at hP ⊢; exact hP), ?_⟩
  obtain ⟨hP, h⟩ := w_chk h
  refine ⟨by first | exact hP | (simp only [List.length_map, List.length_cons, List.length_nil] at hP ⊢; exact hP), ?_⟩
  refine w_nam (e' := List.map Term.toD (List.drop 0 (List.take (Int.toNat 1) u.l.L))) (by first | rfl | simp only [List.map_append, List.map_cons, List.map_nil, List.map_take, List.map_drop, List.map_set, List.map_replicate, List.length_map, Term.toD_eq]) ?_
  obtain ⟨x, hx, h⟩ := w_bind h
  refine ⟨sizedL (l := u.l.L) (Term.sz), w_ge hx, x.K, x.N, x.S, List.map Term.toD x.L, x.From, x.To, w_get (Term.toD_eq x) hx, ?_⟩
  obtain ⟨x1, hx, h⟩ := w_bind h
  refine ⟨sizedL (l := u.l.L) (Term.sz), w_ge hx, x1.K, x1.N, x1.S, List.map Term.toD x1.L, x1.From, x1.To, w_get (Term.toD_eq x1) hx, ?_⟩
  obtain ⟨q1, hq, h⟩ := w_bind h
  have hT := T_term_Same _ _ _ hq
  simp only [List.map_cons, List.map_nil, Term.toD_eq] at hT
  refine ⟨q1, ⟨_, hT⟩, ?_⟩
  cases h; exact ⟨rfl, rfl⟩
theorem T_flow_truth (t : Term) (n : Int) (r : Bool) (h : flow_truth t n = some r) : Trip Try.prog 87 [.d (.agg [(.int .i64 t.K), (.int .i64 t.N), (.str t.S), (.sl (List.map Term.toD t.L)), (.int .i64 t.From), (.int .i64 t.To)]), .d (.int .i64 n)] [] [.d (.bool r)] [] := by
  unfold flow_truth at h
  refine trip_ev 1000 (by kernel_rfl) (by kernel_rfl) (by kernel_rfl) (by kernel_rfl) (e_flow_truth _ _ t n _ _) ?_
  obtain ⟨q1, hq, h⟩ := w_bind h
  refine ⟨q1, ⟨_, T_term_Same _ _ _ hq⟩, ?_⟩
  cases h; exact ⟨rfl, rfl⟩
theorem T_flow_use_never (u : FlowUse) (r : Bool) (h : flow_use_never u = some r) : Trip Try.prog 70 [.d (.agg [(.int .i64 u.l.K), (.int .i64 u.l.N), (.str u.l.S), (.sl (List.map Term.toD u.l.L)), (.int .i64 u.l.From), (.int .i64 u.l.To), (.int .i64 u.r_.K), (.int .i64 u.r_.N), (.str u.r_.S), (.sl (List.map Term.toD u.r_.L)), (.int .i64 u.r_.From), (.int .i64 u.r_.To)])] [] [.d (.bool r)] [] := by
  unfold flow_use_never at h
  refine trip_ev 1000 (by kernel_rfl) (by kernel_rfl) (by kernel_rfl) (by kernel_rfl) (e_flow_use_never _ _ u _ _) ?_
  obtain ⟨x, hx, h⟩ := w_bind h
  refine ⟨sizedL (l := u.l.L) (Term.sz), w_ge hx, x.K, x.N, x.S, List.map Term.toD x.L, x.From, x.To, w_get (Term.toD_eq x) hx, ?_⟩
  obtain ⟨q1, hq, h⟩ := w_bind h
  refine ⟨q1, ⟨_, T_flow_truth _ _ _ hq⟩, ?_⟩
  refine w_condH Iff.rfl h (fun hc39 h => ?_) (fun hc39 h => ?_)
  ·
    obtain ⟨q2, hq, h⟩ := w_bind h
    refine ⟨q2.K, q2.N, q2.S, List.map Term.toD q2.L, q2.From, q2.To, ⟨_, T_flow_block _ _ hq⟩, ?_⟩
    obtain ⟨q3, hq, h⟩ := w_bind h
    refine ⟨q3, ⟨_, T_term_Same _ _ _ hq⟩, ?_⟩
    cases h; exact ⟨rfl, rfl⟩
  ·
    cases h; exact ⟨rfl, rfl⟩
theorem T_flow_use_no (u : FlowUse) (r : Bool) (h : flow_use_no u = some r) : Trip Try.prog 68 [.d (.agg [(.int .i64 u.l.K), (.int .i64 u.l.N), (.str u.l.S), (.sl (List.map Term.toD u.l.L)), (.int .i64 u.l.From), (.int .i64 u.l.To), (.int .i64 u.r_.K), (.int .i64 u.r_.N), (.str u.r_.S), (.sl (List.map Term.toD u.r_.L)), (.int .i64 u.r_.From), (.int .i64 u.r_.To)])] [] [.d (.bool r)] [] := by
  unfold flow_use_no at h
  refine trip_ev 1000 (by kernel_rfl) (by kernel_rfl) (by kernel_rfl) (by kernel_rfl) (e_flow_use_no _ _ u _ _) ?_
  obtain ⟨x, hx, h⟩ := w_bind h
  refine ⟨sizedL (l := u.l.L) (Term.sz), w_ge hx, x.K, x.N, x.S, List.map Term.toD x.L, x.From, x.To, w_get (Term.toD_eq x) hx, ?_⟩
  obtain ⟨q1, hq, h⟩ := w_bind h
  refine ⟨q1, ⟨_, T_flow_truth _ _ _ hq⟩, ?_⟩
  refine w_condH Iff.rfl h (fun hc40 h => ?_) (fun hc40 h => ?_)
  ·
    obtain ⟨x1, hx, h⟩ := w_bind h
    refine ⟨sizedL (l := u.l.L) (Term.sz), w_ge hx, x1.K, x1.N, x1.S, List.map Term.toD x1.L, x1.From, x1.To, w_get (Term.toD_eq x1) hx, ?_⟩
    obtain ⟨q2, hq, h⟩ := w_bind h
    refine ⟨q2, ⟨_, T_term_Same _ _ _ hq⟩, ?_⟩
    cases h; exact ⟨rfl, rfl⟩
  ·
    cases h; exact ⟨rfl, rfl⟩
theorem T_flow_use_once (u : FlowUse) (r : Bool) (h : flow_use_once u = some r) : Trip Try.prog 71 [.d (.agg [(.int .i64 u.l.K), (.int .i64 u.l.N), (.str u.l.S), (.sl (List.map Term.toD u.l.L)), (.int .i64 u.l.From), (.int .i64 u.l.To), (.int .i64 u.r_.K), (.int .i64 u.r_.N), (.str u.r_.S), (.sl (List.map Term.toD u.r_.L)), (.int .i64 u.r_.From), (.int .i64 u.r_.To)])] [] [.d (.bool r)] [] := by
  unfold flow_use_once at h
  refine trip_ev 1000 (by kernel_rfl) (by kernel_rfl) (by kernel_rfl) (by kernel_rfl) (e_flow_use_once _ _ u _ _) ?_
  obtain ⟨x, hx, h⟩ := w_bind h
  refine ⟨sizedL (l := u.l.L) (Term.sz), w_ge hx, x.K, x.N, x.S, List.map Term.toD x.L, x.From, x.To, w_get (Term.toD_eq x) hx, ?_⟩
  obtain ⟨q1, hq, h⟩ := w_bind h
  have hT := T_flow_block _ _ hq
  simp only [List.map_cons, List.map_nil, Term.toD_eq] at hT
  refine ⟨q1.K, q1.N, q1.S, List.map Term.toD q1.L, q1.From, q1.To, ⟨_, hT⟩, ?_⟩
  obtain ⟨x1, hx, h⟩ := w_bind h
  refine ⟨sizedL (l := u.l.L) (Term.sz), w_ge hx, x1.K, x1.N, x1.S, List.map Term.toD x1.L, x1.From, x1.To, w_get (Term.toD_eq x1) hx, ?_⟩
  obtain ⟨q2, hq, h⟩ := w_bind h
  refine ⟨q2.K, q2.N, q2.S, List.map Term.toD q2.L, q2.From, q2.To, ⟨_, T_flow_block _ _ hq⟩, ?_⟩
  obtain ⟨q3, hq, h⟩ := w_bind h
  have hT := T_term_Same _ _ _ hq
  simp only [List.map_cons, List.map_nil, Term.toD_eq] at hT
  refine ⟨q3, ⟨_, hT⟩, ?_⟩
  cases h; exact ⟨rfl, rfl⟩
theorem T_flow_use_either (u : FlowUse) (r : Bool) (h : flow_use_either u = some r) : Trip Try.prog 88 [.d (.agg [(.int .i64 u.l.K), (.int .i64 u.l.N), (.str u.l.S), (.sl (List.map Term.toD u.l.L)), (.int .i64 u.l.From), (.int .i64 u.l.To), (.int .i64 u.r_.K), (.int .i64 u.r_.N), (.str u.r_.S), (.sl (List.map Term.toD u.r_.L)), (.int .i64 u.r_.From), (.int .i64 u.r_.To)])] [] [.d (.bool r)] [] := by
  unfold flow_use_either at h
  refine trip_ev 1000 (by kernel_rfl) (by kernel_rfl) (by kernel_rfl) (by kernel_rfl) (e_flow_use_either _ _ u _ _) ?_
  obtain ⟨x, hx, h⟩ := w_bind h
  refine ⟨sizedL (l := u.l.L) (Term.sz), w_ge hx, x.K, x.N, x.S, List.map Term.toD x.L, x.From, x.To, w_get (Term.toD_eq x) hx, ?_⟩
  obtain ⟨x1, hx, h⟩ := w_bind h
  refine ⟨sizedL (l := u.l.L) (Term.sz), w_ge hx, x1.K, x1.N, x1.S, List.map Term.toD x1.L, x1.From, x1.To, w_get (Term.toD_eq x1) hx, ?_⟩
  obtain ⟨q1, hq, h⟩ := w_bind h
  refine ⟨q1, ⟨_, T_term_Same _ _ _ hq⟩, ?_⟩
  refine w_condH Iff.rfl h (fun hc41 h => ?_) (fun hc41 h => ?_)
  ·
    obtain ⟨x2, hx, h⟩ := w_bind h
    refine ⟨sizedL (l := u.l.L) (Term.sz), w_ge hx, x2.K, x2.N, x2.S, List.map Term.toD x2.L, x2.From, x2.To, w_get (Term.toD_eq x2) hx, ?_⟩
    obtain ⟨q2, hq, h⟩ := w_bind h
    refine ⟨q2, ⟨_, T_term_Same _ _ _ hq⟩, ?_⟩
    cases h; exact ⟨rfl, rfl⟩
  ·
    cases h; exact ⟨rfl, rfl⟩
def M_quiet_Quiet_L3 : (i : I_quiet_Quiet_L3) → R_quiet_Quiet_L3 i → Prop
  | .quiet_Quiet_L3 quiet v7 v8 v9, r => Ok (c_quiet_Quiet (Trip Try.prog) [.d (.bool r)] []) (kL Try.f19 3) ⟨57, [(3, .d (.bool quiet)), (7, .d (.sl (List.map Term.toD v7))), (8, .d (.int .i64 v8)), (9, .d (.int .i64 v9))], [], [], 0⟩
theorem G_quiet_Quiet_L3 : ∀ i r, fixF F_quiet_Quiet_L3 i = some r → M_quiet_Quiet_L3 i r := by
  refine fixF_induct D_quiet_Quiet_L3 fun g ih i => ?_
  cases i with
  | quiet_Quiet_L3 quiet v7 v8 v9 =>
    have ih_quiet_Quiet_L3 : ∀ (quiet : Bool) (v7 : List Term) (v8 : Int) (v9 : Int) (r : Bool), g (I_quiet_Quiet_L3.quiet_Quiet_L3 quiet v7 v8 v9) = some r → Ok (c_quiet_Quiet (Trip Try.prog) [.d (.bool r)] []) (kL Try.f19 3) ⟨57, [(3, .d (.bool quiet)), (7, .d (.sl (List.map Term.toD v7))), (8, .d (.int .i64 v8)), (9, .d (.int .i64 v9))], [], [], 0⟩ := fun quiet v7 v8 v9 r h => ih (.quiet_Quiet_L3 quiet v7 v8 v9) r h
    intro r h
    show Ok (c_quiet_Quiet (Trip Try.prog) [.d (.bool r)] []) (kL Try.f19 3) ⟨57, [(3, .d (.bool quiet)), (7, .d (.sl (List.map Term.toD v7))), (8, .d (.int .i64 v8)), (9, .d (.int .i64 v9))], [], [], 0⟩
    replace h : quiet_Quiet_L3_B (fun quiet v7 v8 v9 => g (I_quiet_Quiet_L3.quiet_Quiet_L3 quiet v7 v8 v9)) quiet v7 v8 v9 = some r := h
    unfold quiet_Quiet_L3_B at h
    refine ok_ev 1000 (e_quiet_Quiet_L3 _ _ quiet v7 v8 v9 _ _) ?_
    rintro _ rfl
    refine w_condH decide_eq_true_iff h (fun hc42 h => ?_) (fun hc42 h => ?_)
    ·
      obtain ⟨x, hx, h⟩ := w_bind h
      refine ⟨sizedL (l := v7) (Term.sz), w_ge hx, x.K, x.N, x.S, List.map Term.toD x.L, x.From, x.To, w_get (Term.toD_eq x) hx, ?_⟩
      rintro _ rfl
      refine w_condH beq_iff_eq h (fun hc43 h => ?_) (fun hc43 h => ?_)
      ·
        refine w_condT beq_iff_eq hc43 ?_
        rintro _ rfl
        exact ih_quiet_Quiet_L3 _ _ _ _ _ h
      ·
        rintro _ rfl
        refine w_condH beq_iff_eq h (fun hc44 h => ?_) (fun hc44 h => ?_)
        ·
          refine w_condT beq_iff_eq hc44 ?_
          rintro _ rfl
          exact ih_quiet_Quiet_L3 _ _ _ _ _ h
        ·
          rintro _ rfl
          refine w_condH beq_iff_eq h (fun hc45 h => ?_) (fun hc45 h => ?_)
          ·
            refine w_condT beq_iff_eq hc45 ?_
            rintro _ rfl
            exact ih_quiet_Quiet_L3 _ _ _ _ _ h
          ·
            rintro _ rfl
            refine w_condH beq_iff_eq h (fun hc46 h => ?_) (fun hc46 h => ?_)
            ·
              refine w_condT beq_iff_eq hc46 ?_
              rintro _ rfl
              exact ih_quiet_Quiet_L3 _ _ _ _ _ h
            ·
              rintro _ rfl
              refine w_condH beq_iff_eq h (fun hc47 h => ?_) (fun hc47 h => ?_)
              ·
                refine w_condT beq_iff_eq hc47 ?_
                rintro _ rfl
                exact ih_quiet_Quiet_L3 _ _ _ _ _ h
              ·
                rintro _ rfl
                refine w_condH beq_iff_eq h (fun hc48 h => ?_) (fun hc48 h => ?_)
                ·
                  refine w_condT beq_iff_eq hc48 ?_
                  rintro _ rfl
                  exact ih_quiet_Quiet_L3 _ _ _ _ _ h
                ·
                  rintro _ rfl
                  refine w_condH beq_iff_eq h (fun hc49 h => ?_) (fun hc49 h => ?_)
                  ·
                    refine w_condT beq_iff_eq hc49 ?_
                    rintro _ rfl
                    exact ih_quiet_Quiet_L3 _ _ _ _ _ h
                  ·
                    rintro _ rfl
                    refine w_condH beq_iff_eq h (fun hc50 h => ?_) (fun hc50 h => ?_)
                    ·
                      refine w_condT beq_iff_eq hc50 ?_
                      rintro _ rfl
                      exact ih_quiet_Quiet_L3 _ _ _ _ _ h
                    ·
                      rintro _ rfl
                      refine w_condH beq_iff_eq h (fun hc51 h => ?_) (fun hc51 h => ?_)
                      ·
                        rintro _ rfl
                        exact ih_quiet_Quiet_L3 _ _ _ _ _ h
                      ·
                        rintro _ rfl
                        refine w_condH beq_iff_eq h (fun hc52 h => ?_) (fun hc52 h => ?_)
                        ·
                          rintro _ rfl
                          refine w_condH beq_iff_eq h (fun hc53 h => ?_) (fun hc53 h => ?_)
                          ·
                            refine w_nam (e' := (List.length x.L : Int)) (by first | rfl | rw [List.length_map]) ?_
                            rintro _ rfl
                            refine w_condH decide_eq_true_iff h (fun hc54 h => ?_) (fun hc54 h => ?_)
                            ·
                              cases h; exact ⟨rfl, rfl⟩
                            ·
                              obtain ⟨x33, hx, h⟩ := w_bind h
                              refine ⟨sizedL (l := x.L) (Term.sz), w_ge hx, x33.K, x33.N, x33.S, List.map Term.toD x33.L, x33.From, x33.To, w_get (Term.toD_eq x33) hx, ?_⟩
                              rintro _ rfl
                              refine w_condN beq_iff_eq h (fun hc55 h => ?_) (fun hc55 h => ?_)
                              ·
                                obtain ⟨x34, hx, h⟩ := w_bind h
                                refine ⟨sizedL (l := x.L) (Term.sz), w_ge hx, x34.K, x34.N, x34.S, List.map Term.toD x34.L, x34.From, x34.To, w_get (Term.toD_eq x34) hx, ?_⟩
                                rintro _ rfl
                                refine w_condH beq_iff_eq h (fun hc56 h => ?_) (fun hc56 h => ?_)
                                ·
                                  cases h; exact ⟨rfl, rfl⟩
                                ·
                                  rintro _ rfl
                                  exact ih_quiet_Quiet_L3 _ _ _ _ _ h
                              ·
                                cases h; exact ⟨rfl, rfl⟩
                          ·
                            rintro _ rfl
                            refine w_condH beq_iff_eq h (fun hc57 h => ?_) (fun hc57 h => ?_)
                            ·
                              refine w_nam (e' := (List.length x.L : Int)) (by first | rfl | rw [List.length_map]) ?_
                              rintro _ rfl
                              refine w_condH decide_eq_true_iff h (fun hc58 h => ?_) (fun hc58 h => ?_)
                              ·
                                cases h; exact ⟨rfl, rfl⟩
                              ·
                                obtain ⟨x35, hx, h⟩ := w_bind h
                                refine ⟨sizedL (l := x.L) (Term.sz), w_ge hx, x35.K, x35.N, x35.S, List.map Term.toD x35.L, x35.From, x35.To, w_get (Term.toD_eq x35) hx, ?_⟩
                                rintro _ rfl
                                refine w_condN beq_iff_eq h (fun hc59 h => ?_) (fun hc59 h => ?_)
                                ·
                                  obtain ⟨x36, hx, h⟩ := w_bind h
                                  refine ⟨sizedL (l := x.L) (Term.sz), w_ge hx, x36.K, x36.N, x36.S, List.map Term.toD x36.L, x36.From, x36.To, w_get (Term.toD_eq x36) hx, ?_⟩
                                  rintro _ rfl
                                  refine w_condH beq_iff_eq h (fun hc60 h => ?_) (fun hc60 h => ?_)
                                  ·
                                    cases h; exact ⟨rfl, rfl⟩
                                  ·
                                    rintro _ rfl
                                    exact ih_quiet_Quiet_L3 _ _ _ _ _ h
                                ·
                                  cases h; exact ⟨rfl, rfl⟩
                            ·
                              rintro _ rfl
                              exact ih_quiet_Quiet_L3 _ _ _ _ _ h
                        ·
                          cases h; exact ⟨rfl, rfl⟩
    ·
      cases h; exact ⟨rfl, rfl⟩
theorem T_quiet_Quiet_L3 (quiet : Bool) (v7 : List Term) (v8 : Int) (v9 : Int) (r : Bool) (h : quiet_Quiet_L3 quiet v7 v8 v9 = some r) : Ok (c_quiet_Quiet (Trip Try.prog) [.d (.bool r)] []) (kL Try.f19 3) ⟨57, [(3, .d (.bool quiet)), (7, .d (.sl (List.map Term.toD v7))), (8, .d (.int .i64 v8)), (9, .d (.int .i64 v9))], [], [], 0⟩ := G_quiet_Quiet_L3 (.quiet_Quiet_L3 quiet v7 v8 v9) r h
def M_quiet_all_L3 : (i : I_quiet_all_L3) → R_quiet_all_L3 i → Prop
  | .quiet_all_L3 out i, r => Ok (c_quiet_all (Trip Try.prog) [.d (.sl (List.map Term.toD r))] []) (kL Try.f52 3) ⟨21, [(3, .right 6 1 6 (List.map Term.toD out)), (4, .d (.int .i64 i))], [(6, 1, some (.tok 6 (List.length (List.map Term.toD out))))], [], 0⟩
theorem G_quiet_all_L3 : ∀ i r, fixF F_quiet_all_L3 i = some r → M_quiet_all_L3 i r := by
  refine fixF_induct D_quiet_all_L3 fun g ih i => ?_
  cases i with
  | quiet_all_L3 out i =>
    have ih_quiet_all_L3 : ∀ (out : List Term) (i : Int) (r : List Term), g (I_quiet_all_L3.quiet_all_L3 out i) = some r → Ok (c_quiet_all (Trip Try.prog) [.d (.sl (List.map Term.toD r))] []) (kL Try.f52 3) ⟨21, [(3, .right 6 1 6 (List.map Term.toD out)), (4, .d (.int .i64 i))], [(6, 1, some (.tok 6 (List.length (List.map Term.toD out))))], [], 0⟩ := fun out i r h => ih (.quiet_all_L3 out i) r h
    intro r h
    show Ok (c_quiet_all (Trip Try.prog) [.d (.sl (List.map Term.toD r))] []) (kL Try.f52 3) ⟨21, [(3, .right 6 1 6 (List.map Term.toD out)), (4, .d (.int .i64 i))], [(6, 1, some (.tok 6 (List.length (List.map Term.toD out))))], [], 0⟩
    replace h : quiet_all_L3_B (fun out i => g (I_quiet_all_L3.quiet_all_L3 out i)) out i = some r := h
    unfold quiet_all_L3_B at h
    refine ok_ev 1000 (e_quiet_all_L3 _ _ out i _ _) ?_
    refine w_nam (e' := (List.length out : Int)) (by first | rfl | rw [List.length_map]) ?_
    rintro _ rfl
    refine w_condH decide_eq_true_iff h (fun hc61 h => ?_) (fun hc61 h => ?_)
    ·
      obtain ⟨x, hx, h⟩ := w_bind h
      refine ⟨sizedL (l := out) (Term.sz), w_ge hx, x.K, x.N, x.S, List.map Term.toD x.L, x.From, x.To, w_get (Term.toD_eq x) hx, ?_⟩
      refine ⟨sizedL (l := x.L) (Term.sz), ?_⟩
      refine ⟨by first | rfl | decide | simp only [List.length_map, List.length_cons, List.length_nil, List.map_append, List.length_append], ?_⟩
      obtain ⟨hP, h⟩ := w_chk h
      refine ⟨by first | exact hP | (simp only [List.length_map, List.length_cons, List.length_nil] at hP ⊢; exact hP), ?_⟩
      refine w_nam (e' := List.map Term.toD (out ++ x.L)) (by first | rfl | simp only [List.map_append, List.map_cons, List.map_nil, List.map_take, List.map_drop, List.map_set, List.map_replicate, List.length_map, Term.toD_eq]) ?_
      rintro _ rfl
      exact ih_quiet_all_L3 _ _ _ h
    ·
      cases h; exact ⟨rfl, rfl⟩
theorem T_quiet_all_L3 (out : List Term) (i : Int) (r : List Term) (h : quiet_all_L3 out i = some r) : Ok (c_quiet_all (Trip Try.prog) [.d (.sl (List.map Term.toD r))] []) (kL Try.f52 3) ⟨21, [(3, .right 6 1 6 (List.map Term.toD out)), (4, .d (.int .i64 i))], [(6, 1, some (.tok 6 (List.length (List.map Term.toD out))))], [], 0⟩ := G_quiet_all_L3 (.quiet_all_L3 out i) r h
theorem T_quiet_all (t : Term) (r : List Term) (h : quiet_all t = some r) : Trip Try.prog 52 [.d (.agg [(.int .i64 t.K), (.int .i64 t.N), (.str t.S), (.sl (List.map Term.toD t.L)), (.int .i64 t.From), (.int .i64 t.To)])] [] [.d (.sl (List.map Term.toD r))] [] := by
  unfold quiet_all at h
  refine trip_ev 1000 (by kernel_rfl) (by kernel_rfl) (by kernel_rfl) (by kernel_rfl) (e_quiet_all _ _ t _ _) ?_
  have hT := T_quiet_all_L3 _ _ _ h
  simp only [List.map_cons, List.map_nil, List.length_cons, List.length_nil, Term.toD_eq] at hT
  exact hT
theorem T_quiet_Quiet (t : Term) (r : Bool) (h : quiet_Quiet t = some r) : Trip Try.prog 19 [.d (.agg [(.int .i64 t.K), (.int .i64 t.N), (.str t.S), (.sl (List.map Term.toD t.L)), (.int .i64 t.From), (.int .i64 t.To)])] [] [.d (.bool r)] [] := by
  unfold quiet_Quiet at h
  refine trip_ev 1000 (by kernel_rfl) (by kernel_rfl) (by kernel_rfl) (by kernel_rfl) (e_quiet_Quiet _ _ t _ _) ?_
  obtain ⟨q1, hq, h⟩ := w_bind h
  refine ⟨List.map Term.toD q1, ⟨_, T_quiet_all _ _ hq⟩, ?_⟩
  refine w_nam (e' := (List.length q1 : Int)) (by first | rfl | rw [List.length_map]) ?_
  exact T_quiet_Quiet_L3 _ _ _ _ _ h
theorem T_flow_use_same (u : FlowUse) (r : Bool) (h : flow_use_same u = some r) : Trip Try.prog 69 [.d (.agg [(.int .i64 u.l.K), (.int .i64 u.l.N), (.str u.l.S), (.sl (List.map Term.toD u.l.L)), (.int .i64 u.l.From), (.int .i64 u.l.To), (.int .i64 u.r_.K), (.int .i64 u.r_.N), (.str u.r_.S), (.sl (List.map Term.toD u.r_.L)), (.int .i64 u.r_.From), (.int .i64 u.r_.To)])] [] [.d (.bool r)] [] := by
  unfold flow_use_same at h
  refine trip_ev 1000 (by kernel_rfl) (by kernel_rfl) (by kernel_rfl) (by kernel_rfl) (e_flow_use_same _ _ u _ _) ?_
  obtain ⟨x, hx, h⟩ := w_bind h
  refine ⟨sizedL (l := u.l.L) (Term.sz), w_ge hx, x.K, x.N, x.S, List.map Term.toD x.L, x.From, x.To, w_get (Term.toD_eq x) hx, ?_⟩
  obtain ⟨q1, hq, h⟩ := w_bind h
  refine ⟨q1, ⟨_, T_quiet_Quiet _ _ hq⟩, ?_⟩
  refine w_condH Iff.rfl h (fun hc62 h => ?_) (fun hc62 h => ?_)
  ·
    obtain ⟨q2, hq, h⟩ := w_bind h
    refine ⟨q2, ⟨_, T_flow_use_either _ _ hq⟩, ?_⟩
    cases h; exact ⟨rfl, rfl⟩
  ·
    cases h; exact ⟨rfl, rfl⟩
theorem T_flow_use_yes (u : FlowUse) (r : Bool) (h : flow_use_yes u = some r) : Trip Try.prog 67 [.d (.agg [(.int .i64 u.l.K), (.int .i64 u.l.N), (.str u.l.S), (.sl (List.map Term.toD u.l.L)), (.int .i64 u.l.From), (.int .i64 u.l.To), (.int .i64 u.r_.K), (.int .i64 u.r_.N), (.str u.r_.S), (.sl (List.map Term.toD u.r_.L)), (.int .i64 u.r_.From), (.int .i64 u.r_.To)])] [] [.d (.bool r)] [] := by
  unfold flow_use_yes at h
  refine trip_ev 1000 (by kernel_rfl) (by kernel_rfl) (by kernel_rfl) (by kernel_rfl) (e_flow_use_yes _ _ u _ _) ?_
  obtain ⟨x, hx, h⟩ := w_bind h
  refine ⟨sizedL (l := u.l.L) (Term.sz), w_ge hx, x.K, x.N, x.S, List.map Term.toD x.L, x.From, x.To, w_get (Term.toD_eq x) hx, ?_⟩
  obtain ⟨q1, hq, h⟩ := w_bind h
  refine ⟨q1, ⟨_, T_flow_truth _ _ _ hq⟩, ?_⟩
  refine w_condH Iff.rfl h (fun hc63 h => ?_) (fun hc63 h => ?_)
  ·
    obtain ⟨x1, hx, h⟩ := w_bind h
    refine ⟨sizedL (l := u.l.L) (Term.sz), w_ge hx, x1.K, x1.N, x1.S, List.map Term.toD x1.L, x1.From, x1.To, w_get (Term.toD_eq x1) hx, ?_⟩
    obtain ⟨q2, hq, h⟩ := w_bind h
    refine ⟨q2, ⟨_, T_term_Same _ _ _ hq⟩, ?_⟩
    cases h; exact ⟨rfl, rfl⟩
  ·
    cases h; exact ⟨rfl, rfl⟩
theorem T_flow_Holds (rule : Int) (l : Term) (r_ : Term) (r : Bool) (h : flow_Holds rule l r_ = some r) : Trip Try.prog 35 [.d (.int .i64 rule), .d (.agg [(.int .i64 l.K), (.int .i64 l.N), (.str l.S), (.sl (List.map Term.toD l.L)), (.int .i64 l.From), (.int .i64 l.To)]), .d (.agg [(.int .i64 r_.K), (.int .i64 r_.N), (.str r_.S), (.sl (List.map Term.toD r_.L)), (.int .i64 r_.From), (.int .i64 r_.To)])] [] [.d (.bool r)] [] := by
  unfold flow_Holds at h
  refine trip_ev 1000 (by kernel_rfl) (by kernel_rfl) (by kernel_rfl) (by kernel_rfl) (e_flow_Holds _ _ rule l r_ _ _) ?_
  obtain ⟨q1, hq, h⟩ := w_bind h
  refine ⟨q1, ⟨_, T_flow_is _ _ _ _ _ hq⟩, ?_⟩
  rintro _ rfl
  refine w_condH beq_iff_eq h (fun hc64 h => ?_) (fun hc64 h => ?_)
  ·
    refine w_condH Iff.rfl h (fun hc65 h => ?_) (fun hc65 h => ?_)
    ·
      obtain ⟨q2, hq, h⟩ := w_bind h
      refine ⟨q2, ⟨_, T_flow_use_invert _ _ hq⟩, ?_⟩
      cases h; exact ⟨rfl, rfl⟩
    ·
      cases h; exact ⟨rfl, rfl⟩
  ·
    rintro _ rfl
    refine w_condH beq_iff_eq h (fun hc66 h => ?_) (fun hc66 h => ?_)
    ·
      refine w_condH Iff.rfl h (fun hc67 h => ?_) (fun hc67 h => ?_)
      ·
        obtain ⟨q3, hq, h⟩ := w_bind h
        refine ⟨q3, ⟨_, T_flow_use_yes _ _ hq⟩, ?_⟩
        cases h; exact ⟨rfl, rfl⟩
      ·
        cases h; exact ⟨rfl, rfl⟩
    ·
      rintro _ rfl
      refine w_condH beq_iff_eq h (fun hc68 h => ?_) (fun hc68 h => ?_)
      ·
        refine w_condH Iff.rfl h (fun hc69 h => ?_) (fun hc69 h => ?_)
        ·
          obtain ⟨q4, hq, h⟩ := w_bind h
          refine ⟨q4, ⟨_, T_flow_use_no _ _ hq⟩, ?_⟩
          cases h; exact ⟨rfl, rfl⟩
        ·
          cases h; exact ⟨rfl, rfl⟩
      ·
        rintro _ rfl
        refine w_condH beq_iff_eq h (fun hc70 h => ?_) (fun hc70 h => ?_)
        ·
          refine w_condH Iff.rfl h (fun hc71 h => ?_) (fun hc71 h => ?_)
          ·
            obtain ⟨q5, hq, h⟩ := w_bind h
            refine ⟨q5, ⟨_, T_flow_use_same _ _ hq⟩, ?_⟩
            cases h; exact ⟨rfl, rfl⟩
          ·
            cases h; exact ⟨rfl, rfl⟩
        ·
          rintro _ rfl
          refine w_condH beq_iff_eq h (fun hc72 h => ?_) (fun hc72 h => ?_)
          ·
            obtain ⟨q6, hq, h⟩ := w_bind h
            refine ⟨q6, ⟨_, T_flow_is _ _ _ _ _ hq⟩, ?_⟩
            refine w_condH Iff.rfl h (fun hc73 h => ?_) (fun hc73 h => ?_)
            ·
              obtain ⟨q7, hq, h⟩ := w_bind h
              refine ⟨q7, ⟨_, T_flow_use_never _ _ hq⟩, ?_⟩
              cases h; exact ⟨rfl, rfl⟩
            ·
              cases h; exact ⟨rfl, rfl⟩
          ·
            rintro _ rfl
            refine w_condH beq_iff_eq h (fun hc74 h => ?_) (fun hc74 h => ?_)
            ·
              obtain ⟨q8, hq, h⟩ := w_bind h
              refine ⟨q8, ⟨_, T_flow_is _ _ _ _ _ hq⟩, ?_⟩
              refine w_condH Iff.rfl h (fun hc75 h => ?_) (fun hc75 h => ?_)
              ·
                obtain ⟨q9, hq, h⟩ := w_bind h
                refine ⟨q9, ⟨_, T_flow_use_once _ _ hq⟩, ?_⟩
                cases h; exact ⟨rfl, rfl⟩
              ·
                cases h; exact ⟨rfl, rfl⟩
            ·
              rintro _ rfl
              refine w_condH beq_iff_eq h (fun hc76 h => ?_) (fun hc76 h => ?_)
              ·
                obtain ⟨q10, hq, h⟩ := w_bind h
                refine ⟨q10, ⟨_, T_flow_is _ _ _ _ _ hq⟩, ?_⟩
                refine w_condH Iff.rfl h (fun hc77 h => ?_) (fun hc77 h => ?_)
                ·
                  obtain ⟨q11, hq, h⟩ := w_bind h
                  refine ⟨q11, ⟨_, T_flow_use_count _ _ hq⟩, ?_⟩
                  cases h; exact ⟨rfl, rfl⟩
                ·
                  cases h; exact ⟨rfl, rfl⟩
              ·
                cases h; exact ⟨rfl, rfl⟩
theorem T_ref28Make (kind : Int) (l : List Term) (r : Term) (h : ref28Make kind l = some r) : Trip Try.prog 36 [.d (.int .i64 kind), .d (.sl (List.map Term.toD l))] [] [.d (.agg [(.int .i64 r.K), (.int .i64 r.N), (.str r.S), (.sl (List.map Term.toD r.L)), (.int .i64 r.From), (.int .i64 r.To)])] [] := by
  unfold ref28Make at h
  refine trip_ev 1000 (by kernel_rfl) (by kernel_rfl) (by kernel_rfl) (by kernel_rfl) (e_ref28Make _ _ kind l _ _) ?_
  cases h; exact ⟨rfl, rfl⟩
theorem T_ref28Block (l : List Term) (r : Term) (h : ref28Block l = some r) : Trip Try.prog 37 [.d (.sl (List.map Term.toD l))] [] [.d (.agg [(.int .i64 r.K), (.int .i64 r.N), (.str r.S), (.sl (List.map Term.toD r.L)), (.int .i64 r.From), (.int .i64 r.To)])] [] := by
  unfold ref28Block at h
  refine trip_ev 1000 (by kernel_rfl) (by kernel_rfl) (by kernel_rfl) (by kernel_rfl) (e_ref28Block _ _ l _ _) ?_
  obtain ⟨q1, hq, h⟩ := w_bind h
  refine ⟨q1.K, q1.N, q1.S, List.map Term.toD q1.L, q1.From, q1.To, ⟨_, T_ref28Make _ _ _ hq⟩, ?_⟩
  cases h; exact ⟨rfl, rfl⟩
theorem T_law28awake  (r : Bool) (h : law28awake = some r) : Trip Try.prog 12 [] [] [.d (.bool r)] [] := by
  unfold law28awake at h
  refine trip_ev 1000 (by kernel_rfl) (by kernel_rfl) (by kernel_rfl) (by kernel_rfl) (e_law28awake _ _  _ _) ?_
  obtain ⟨q1, hq, h⟩ := w_bind h
  refine ⟨q1.K, q1.N, q1.S, List.map Term.toD q1.L, q1.From, q1.To, ⟨_, T_ref28Block _ _ hq⟩, ?_⟩
  obtain ⟨q2, hq, h⟩ := w_bind h
  have hT := T_ref28Make _ _ _ hq
  simp only [List.map_cons, List.map_nil, Term.toD_eq] at hT
  refine ⟨q2.K, q2.N, q2.S, List.map Term.toD q2.L, q2.From, q2.To, ⟨_, hT⟩, ?_⟩
  obtain ⟨q3, hq, h⟩ := w_bind h
  refine ⟨q3.K, q3.N, q3.S, List.map Term.toD q3.L, q3.From, q3.To, ⟨_, T_ref28Block _ _ hq⟩, ?_⟩
  obtain ⟨q4, hq, h⟩ := w_bind h
  refine ⟨q4, ⟨_, T_flow_Holds _ _ _ _ hq⟩, ?_⟩
  cases h; exact ⟨rfl, rfl⟩
def M_ref06Count : (i : I_ref06Count) → R_ref06Count i → Prop
  | .ref06Count t left levels, r => Trip Try.prog 24 [.d (.agg [(.int .i64 t.K), (.int .i64 t.N), (.str t.S), (.sl (List.map Term.toD t.L)), (.int .i64 t.From), (.int .i64 t.To)]), .d (.int .i64 left), .d (.int .i64 levels)] [] [.d (.int .i64 r)] []
  | .ref06Count_L5 left levels i t, r => Ok (c_ref06Count (Trip Try.prog) [.d (.int .i64 r)] []) (kL Try.f24 5) ⟨33, [(1, .d (.int .i64 left)), (2, .d (.int .i64 levels)), (3, .ref 3 1 0), (7, .d (.int .i64 i))], [(3, 1, some (.agg (.agg [(.int .i64 t.K), (.int .i64 t.N), (.str t.S), (.sl (List.map Term.toD t.L)), (.int .i64 t.From), (.int .i64 t.To)])))], [], 0⟩
theorem G_ref06Count : ∀ i r, fixF F_ref06Count i = some r → M_ref06Count i r := by
  refine fixF_induct D_ref06Count fun g ih i => ?_
  cases i with
  | ref06Count t left levels =>
    have ih_ref06Count_L5 : ∀ (left : Int) (levels : Int) (i : Int) (t : Term) (r : Int), g (I_ref06Count.ref06Count_L5 left levels i t) = some r → Ok (c_ref06Count (Trip Try.prog) [.d (.int .i64 r)] []) (kL Try.f24 5) ⟨33, [(1, .d (.int .i64 left)), (2, .d (.int .i64 levels)), (3, .ref 3 1 0), (7, .d (.int .i64 i))], [(3, 1, some (.agg (.agg [(.int .i64 t.K), (.int .i64 t.N), (.str t.S), (.sl (List.map Term.toD t.L)), (.int .i64 t.From), (.int .i64 t.To)])))], [], 0⟩ := fun left levels i t r h => ih (.ref06Count_L5 left levels i t) r h
    intro r h
    show Trip Try.prog 24 [.d (.agg [(.int .i64 t.K), (.int .i64 t.N), (.str t.S), (.sl (List.map Term.toD t.L)), (.int .i64 t.From), (.int .i64 t.To)]), .d (.int .i64 left), .d (.int .i64 levels)] [] [.d (.int .i64 r)] []
    replace h : ref06Count_B (fun left levels i t => g (I_ref06Count.ref06Count_L5 left levels i t)) t left levels = some r := h
    unfold ref06Count_B at h
    refine trip_ev 1000 (by kernel_rfl) (by kernel_rfl) (by kernel_rfl) (by kernel_rfl) (e_ref06Count _ _ t left levels _ _) ?_
    rintro _ rfl
    refine w_condH decide_eq_true_iff h (fun hc78 h => ?_) (fun hc78 h => ?_)
    ·
      cases h; exact ⟨rfl, rfl⟩
    ·
      rintro _ rfl
      exact ih_ref06Count_L5 _ _ _ _ _ h
  | ref06Count_L5 left levels i t =>
    have ih_ref06Count : ∀ (t : Term) (left : Int) (levels : Int) (r : Int), g (I_ref06Count.ref06Count t left levels) = some r → Trip Try.prog 24 [.d (.agg [(.int .i64 t.K), (.int .i64 t.N), (.str t.S), (.sl (List.map Term.toD t.L)), (.int .i64 t.From), (.int .i64 t.To)]), .d (.int .i64 left), .d (.int .i64 levels)] [] [.d (.int .i64 r)] [] := fun t left levels r h => ih (.ref06Count t left levels) r h
    have ih_ref06Count_L5 : ∀ (left : Int) (levels : Int) (i : Int) (t : Term) (r : Int), g (I_ref06Count.ref06Count_L5 left levels i t) = some r → Ok (c_ref06Count (Trip Try.prog) [.d (.int .i64 r)] []) (kL Try.f24 5) ⟨33, [(1, .d (.int .i64 left)), (2, .d (.int .i64 levels)), (3, .ref 3 1 0), (7, .d (.int .i64 i))], [(3, 1, some (.agg (.agg [(.int .i64 t.K), (.int .i64 t.N), (.str t.S), (.sl (List.map Term.toD t.L)), (.int .i64 t.From), (.int .i64 t.To)])))], [], 0⟩ := fun left levels i t r h => ih (.ref06Count_L5 left levels i t) r h
    intro r h
    show Ok (c_ref06Count (Trip Try.prog) [.d (.int .i64 r)] []) (kL Try.f24 5) ⟨33, [(1, .d (.int .i64 left)), (2, .d (.int .i64 levels)), (3, .ref 3 1 0), (7, .d (.int .i64 i))], [(3, 1, some (.agg (.agg [(.int .i64 t.K), (.int .i64 t.N), (.str t.S), (.sl (List.map Term.toD t.L)), (.int .i64 t.From), (.int .i64 t.To)])))], [], 0⟩
    replace h : ref06Count_L5_B (fun t left levels => g (I_ref06Count.ref06Count t left levels)) (fun left levels i t => g (I_ref06Count.ref06Count_L5 left levels i t)) left levels i t = some r := h
    unfold ref06Count_L5_B at h
    refine ok_ev 1000 (e_ref06Count_L5 _ _ left levels i t _ _) ?_
    refine w_nam (e' := (List.length t.L : Int)) (by first | rfl | rw [List.length_map]) ?_
    rintro _ rfl
    refine w_condH decide_eq_true_iff h (fun hc79 h => ?_) (fun hc79 h => ?_)
    ·
      rintro _ rfl
      refine w_condH decide_eq_true_iff h (fun hc80 h => ?_) (fun hc80 h => ?_)
      ·
        obtain ⟨x, hx, h⟩ := w_bind h
        refine ⟨sizedL (l := t.L) (Term.sz), w_ge hx, x.K, x.N, x.S, List.map Term.toD x.L, x.From, x.To, w_get (Term.toD_eq x) hx, ?_⟩
        rintro _ rfl
        obtain ⟨q1, hq, h⟩ := w_bind h
        refine ⟨q1, ⟨_, ih_ref06Count _ _ _ _ hq⟩, ?_⟩
        rintro _ rfl
        exact ih_ref06Count_L5 _ _ _ _ _ h
      ·
        cases h; exact ⟨rfl, rfl⟩
    ·
      cases h; exact ⟨rfl, rfl⟩
theorem T_ref06Count (t : Term) (left : Int) (levels : Int) (r : Int) (h : ref06Count t left levels = some r) : Trip Try.prog 24 [.d (.agg [(.int .i64 t.K), (.int .i64 t.N), (.str t.S), (.sl (List.map Term.toD t.L)), (.int .i64 t.From), (.int .i64 t.To)]), .d (.int .i64 left), .d (.int .i64 levels)] [] [.d (.int .i64 r)] [] := G_ref06Count (.ref06Count t left levels) r h
theorem T_ref06Count_L5 (left : Int) (levels : Int) (i : Int) (t : Term) (r : Int) (h : ref06Count_L5 left levels i t = some r) : Ok (c_ref06Count (Trip Try.prog) [.d (.int .i64 r)] []) (kL Try.f24 5) ⟨33, [(1, .d (.int .i64 left)), (2, .d (.int .i64 levels)), (3, .ref 3 1 0), (7, .d (.int .i64 i))], [(3, 1, some (.agg (.agg [(.int .i64 t.K), (.int .i64 t.N), (.str t.S), (.sl (List.map Term.toD t.L)), (.int .i64 t.From), (.int .i64 t.To)])))], [], 0⟩ := G_ref06Count (.ref06Count_L5 left levels i t) r h
def M_ref06Named : (i : I_ref06Named) → R_ref06Named i → Prop
  | .ref06Named t, r => Trip Try.prog 25 [.d (.agg [(.int .i64 t.K), (.int .i64 t.N), (.str t.S), (.sl (List.map Term.toD t.L)), (.int .i64 t.From), (.int .i64 t.To)])] [] [.d (.bool r)] []
  | .ref06Named_L4 i t, r => Ok (c_ref06Named (Trip Try.prog) [.d (.bool r)] []) (kL Try.f25 4) ⟨21, [(1, .ref 1 1 0), (3, .d (.int .i64 i))], [(1, 1, some (.agg (.agg [(.int .i64 t.K), (.int .i64 t.N), (.str t.S), (.sl (List.map Term.toD t.L)), (.int .i64 t.From), (.int .i64 t.To)])))], [], 0⟩
theorem G_ref06Named : ∀ i r, fixF F_ref06Named i = some r → M_ref06Named i r := by
  refine fixF_induct D_ref06Named fun g ih i => ?_
  cases i with
  | ref06Named t =>
    have ih_ref06Named_L4 : ∀ (i : Int) (t : Term) (r : Bool), g (I_ref06Named.ref06Named_L4 i t) = some r → Ok (c_ref06Named (Trip Try.prog) [.d (.bool r)] []) (kL Try.f25 4) ⟨21, [(1, .ref 1 1 0), (3, .d (.int .i64 i))], [(1, 1, some (.agg (.agg [(.int .i64 t.K), (.int .i64 t.N), (.str t.S), (.sl (List.map Term.toD t.L)), (.int .i64 t.From), (.int .i64 t.To)])))], [], 0⟩ := fun i t r h => ih (.ref06Named_L4 i t) r h
    intro r h
    show Trip Try.prog 25 [.d (.agg [(.int .i64 t.K), (.int .i64 t.N), (.str t.S), (.sl (List.map Term.toD t.L)), (.int .i64 t.From), (.int .i64 t.To)])] [] [.d (.bool r)] []
    replace h : ref06Named_B (fun i t => g (I_ref06Named.ref06Named_L4 i t)) t = some r := h
    unfold ref06Named_B at h
    refine trip_ev 1000 (by kernel_rfl) (by kernel_rfl) (by kernel_rfl) (by kernel_rfl) (e_ref06Named _ _ t _ _) ?_
    rintro _ rfl
    rintro _ rfl
    refine w_condH decide_eq_true_iff h (fun hc81 h => ?_) (fun hc81 h => ?_)
    ·
      cases h; exact ⟨rfl, rfl⟩
    ·
      exact ih_ref06Named_L4 _ _ _ h
  | ref06Named_L4 i t =>
    have ih_ref06Named : ∀ (t : Term) (r : Bool), g (I_ref06Named.ref06Named t) = some r → Trip Try.prog 25 [.d (.agg [(.int .i64 t.K), (.int .i64 t.N), (.str t.S), (.sl (List.map Term.toD t.L)), (.int .i64 t.From), (.int .i64 t.To)])] [] [.d (.bool r)] [] := fun t r h => ih (.ref06Named t) r h
    have ih_ref06Named_L4 : ∀ (i : Int) (t : Term) (r : Bool), g (I_ref06Named.ref06Named_L4 i t) = some r → Ok (c_ref06Named (Trip Try.prog) [.d (.bool r)] []) (kL Try.f25 4) ⟨21, [(1, .ref 1 1 0), (3, .d (.int .i64 i))], [(1, 1, some (.agg (.agg [(.int .i64 t.K), (.int .i64 t.N), (.str t.S), (.sl (List.map Term.toD t.L)), (.int .i64 t.From), (.int .i64 t.To)])))], [], 0⟩ := fun i t r h => ih (.ref06Named_L4 i t) r h
    intro r h
    show Ok (c_ref06Named (Trip Try.prog) [.d (.bool r)] []) (kL Try.f25 4) ⟨21, [(1, .ref 1 1 0), (3, .d (.int .i64 i))], [(1, 1, some (.agg (.agg [(.int .i64 t.K), (.int .i64 t.N), (.str t.S), (.sl (List.map Term.toD t.L)), (.int .i64 t.From), (.int .i64 t.To)])))], [], 0⟩
    replace h : ref06Named_L4_B (fun t => g (I_ref06Named.ref06Named t)) (fun i t => g (I_ref06Named.ref06Named_L4 i t)) i t = some r := h
    unfold ref06Named_L4_B at h
    refine ok_ev 1000 (e_ref06Named_L4 _ _ i t _ _) ?_
    refine w_nam (e' := (List.length t.L : Int)) (by first | rfl | rw [List.length_map]) ?_
    rintro _ rfl
    refine w_condH decide_eq_true_iff h (fun hc82 h => ?_) (fun hc82 h => ?_)
    ·
      obtain ⟨x, hx, h⟩ := w_bind h
      refine ⟨sizedL (l := t.L) (Term.sz), w_ge hx, x.K, x.N, x.S, List.map Term.toD x.L, x.From, x.To, w_get (Term.toD_eq x) hx, ?_⟩
      obtain ⟨q1, hq, h⟩ := w_bind h
      refine ⟨q1, ⟨_, ih_ref06Named _ _ hq⟩, ?_⟩
      refine w_condH Iff.rfl h (fun hc83 h => ?_) (fun hc83 h => ?_)
      ·
        cases h; exact ⟨rfl, rfl⟩
      ·
        rintro _ rfl
        exact ih_ref06Named_L4 _ _ _ h
    ·
      cases h; exact ⟨rfl, rfl⟩
theorem T_ref06Named (t : Term) (r : Bool) (h : ref06Named t = some r) : Trip Try.prog 25 [.d (.agg [(.int .i64 t.K), (.int .i64 t.N), (.str t.S), (.sl (List.map Term.toD t.L)), (.int .i64 t.From), (.int .i64 t.To)])] [] [.d (.bool r)] [] := G_ref06Named (.ref06Named t) r h
theorem T_ref06Named_L4 (i : Int) (t : Term) (r : Bool) (h : ref06Named_L4 i t = some r) : Ok (c_ref06Named (Trip Try.prog) [.d (.bool r)] []) (kL Try.f25 4) ⟨21, [(1, .ref 1 1 0), (3, .d (.int .i64 i))], [(1, 1, some (.agg (.agg [(.int .i64 t.K), (.int .i64 t.N), (.str t.S), (.sl (List.map Term.toD t.L)), (.int .i64 t.From), (.int .i64 t.To)])))], [], 0⟩ := G_ref06Named (.ref06Named_L4 i t) r h
theorem T_ref06Large (t : Term) (r : Bool) (h : ref06Large t = some r) : Trip Try.prog 7 [.d (.agg [(.int .i64 t.K), (.int .i64 t.N), (.str t.S), (.sl (List.map Term.toD t.L)), (.int .i64 t.From), (.int .i64 t.To)])] [] [.d (.bool r)] [] := by
  unfold ref06Large at h
  refine trip_ev 1000 (by kernel_rfl) (by kernel_rfl) (by kernel_rfl) (by kernel_rfl) (e_ref06Large _ _ t _ _) ?_
  obtain ⟨q1, hq, h⟩ := w_bind h
  refine ⟨q1, ⟨_, T_ref06Count _ _ _ _ hq⟩, ?_⟩
  rintro _ rfl
  refine w_condH decide_eq_true_iff h (fun hc84 h => ?_) (fun hc84 h => ?_)
  ·
    cases h; exact ⟨rfl, rfl⟩
  ·
    obtain ⟨q2, hq, h⟩ := w_bind h
    refine ⟨q2, ⟨_, T_ref06Named _ _ hq⟩, ?_⟩
    cases h; exact ⟨rfl, rfl⟩
def M_ref06Placed : (i : I_ref06Placed) → R_ref06Placed i → Prop
  | .ref06Placed a b, r => Trip Try.prog 11 [.d (.agg [(.int .i64 a.K), (.int .i64 a.N), (.str a.S), (.sl (List.map Term.toD a.L)), (.int .i64 a.From), (.int .i64 a.To)]), .d (.agg [(.int .i64 b.K), (.int .i64 b.N), (.str b.S), (.sl (List.map Term.toD b.L)), (.int .i64 b.From), (.int .i64 b.To)])] [] [.d (.bool r)] []
  | .ref06Placed_L4 i a b, r => Ok (c_ref06Placed (Trip Try.prog) [.d (.bool r)] []) (kL Try.f11 4) ⟨67, [(2, .ref 2 1 0), (3, .ref 3 1 0), (5, .d (.int .i64 i))], [(2, 1, some (.agg (.agg [(.int .i64 a.K), (.int .i64 a.N), (.str a.S), (.sl (List.map Term.toD a.L)), (.int .i64 a.From), (.int .i64 a.To)]))), (3, 1, some (.agg (.agg [(.int .i64 b.K), (.int .i64 b.N), (.str b.S), (.sl (List.map Term.toD b.L)), (.int .i64 b.From), (.int .i64 b.To)])))], [], 0⟩
theorem G_ref06Placed : ∀ i r, fixF F_ref06Placed i = some r → M_ref06Placed i r := by
  refine fixF_induct D_ref06Placed fun g ih i => ?_
  cases i with
  | ref06Placed a b =>
    have ih_ref06Placed_L4 : ∀ (i : Int) (a : Term) (b : Term) (r : Bool), g (I_ref06Placed.ref06Placed_L4 i a b) = some r → Ok (c_ref06Placed (Trip Try.prog) [.d (.bool r)] []) (kL Try.f11 4) ⟨67, [(2, .ref 2 1 0), (3, .ref 3 1 0), (5, .d (.int .i64 i))], [(2, 1, some (.agg (.agg [(.int .i64 a.K), (.int .i64 a.N), (.str a.S), (.sl (List.map Term.toD a.L)), (.int .i64 a.From), (.int .i64 a.To)]))), (3, 1, some (.agg (.agg [(.int .i64 b.K), (.int .i64 b.N), (.str b.S), (.sl (List.map Term.toD b.L)), (.int .i64 b.From), (.int .i64 b.To)])))], [], 0⟩ := fun i a b r h => ih (.ref06Placed_L4 i a b) r h
    intro r h
    show Trip Try.prog 11 [.d (.agg [(.int .i64 a.K), (.int .i64 a.N), (.str a.S), (.sl (List.map Term.toD a.L)), (.int .i64 a.From), (.int .i64 a.To)]), .d (.agg [(.int .i64 b.K), (.int .i64 b.N), (.str b.S), (.sl (List.map Term.toD b.L)), (.int .i64 b.From), (.int .i64 b.To)])] [] [.d (.bool r)] []
    replace h : ref06Placed_B (fun i a b => g (I_ref06Placed.ref06Placed_L4 i a b)) a b = some r := h
    unfold ref06Placed_B at h
    refine trip_ev 1000 (by kernel_rfl) (by kernel_rfl) (by kernel_rfl) (by kernel_rfl) (e_ref06Placed _ _ a b _ _) ?_
    rintro _ rfl
    refine w_condN beq_iff_eq h (fun hc85 h => ?_) (fun hc85 h => ?_)
    ·
      rintro _ rfl
      refine w_condN beq_iff_eq h (fun hc86 h => ?_) (fun hc86 h => ?_)
      ·
        rintro _ rfl
        refine w_condN beq_iff_eq h (fun hc87 h => ?_) (fun hc87 h => ?_)
        ·
          rintro _ rfl
          refine w_condN beq_iff_eq h (fun hc88 h => ?_) (fun hc88 h => ?_)
          ·
            rintro _ rfl
            refine w_condN beq_iff_eq h (fun hc89 h => ?_) (fun hc89 h => ?_)
            ·
              refine w_nam (e' := (List.length a.L : Int)) (by first | rfl | rw [List.length_map]) ?_
              refine w_nam (e' := (List.length b.L : Int)) (by first | rfl | rw [List.length_map]) ?_
              rintro _ rfl
              refine w_condN beq_iff_eq h (fun hc90 h => ?_) (fun hc90 h => ?_)
              ·
                exact ih_ref06Placed_L4 _ _ _ _ h
              ·
                cases h; exact ⟨rfl, rfl⟩
            ·
              cases h; exact ⟨rfl, rfl⟩
          ·
            cases h; exact ⟨rfl, rfl⟩
        ·
          cases h; exact ⟨rfl, rfl⟩
      ·
        cases h; exact ⟨rfl, rfl⟩
    ·
      cases h; exact ⟨rfl, rfl⟩
  | ref06Placed_L4 i a b =>
    have ih_ref06Placed : ∀ (a : Term) (b : Term) (r : Bool), g (I_ref06Placed.ref06Placed a b) = some r → Trip Try.prog 11 [.d (.agg [(.int .i64 a.K), (.int .i64 a.N), (.str a.S), (.sl (List.map Term.toD a.L)), (.int .i64 a.From), (.int .i64 a.To)]), .d (.agg [(.int .i64 b.K), (.int .i64 b.N), (.str b.S), (.sl (List.map Term.toD b.L)), (.int .i64 b.From), (.int .i64 b.To)])] [] [.d (.bool r)] [] := fun a b r h => ih (.ref06Placed a b) r h
    have ih_ref06Placed_L4 : ∀ (i : Int) (a : Term) (b : Term) (r : Bool), g (I_ref06Placed.ref06Placed_L4 i a b) = some r → Ok (c_ref06Placed (Trip Try.prog) [.d (.bool r)] []) (kL Try.f11 4) ⟨67, [(2, .ref 2 1 0), (3, .ref 3 1 0), (5, .d (.int .i64 i))], [(2, 1, some (.agg (.agg [(.int .i64 a.K), (.int .i64 a.N), (.str a.S), (.sl (List.map Term.toD a.L)), (.int .i64 a.From), (.int .i64 a.To)]))), (3, 1, some (.agg (.agg [(.int .i64 b.K), (.int .i64 b.N), (.str b.S), (.sl (List.map Term.toD b.L)), (.int .i64 b.From), (.int .i64 b.To)])))], [], 0⟩ := fun i a b r h => ih (.ref06Placed_L4 i a b) r h
    intro r h
    show Ok (c_ref06Placed (Trip Try.prog) [.d (.bool r)] []) (kL Try.f11 4) ⟨67, [(2, .ref 2 1 0), (3, .ref 3 1 0), (5, .d (.int .i64 i))], [(2, 1, some (.agg (.agg [(.int .i64 a.K), (.int .i64 a.N), (.str a.S), (.sl (List.map Term.toD a.L)), (.int .i64 a.From), (.int .i64 a.To)]))), (3, 1, some (.agg (.agg [(.int .i64 b.K), (.int .i64 b.N), (.str b.S), (.sl (List.map Term.toD b.L)), (.int .i64 b.From), (.int .i64 b.To)])))], [], 0⟩
    replace h : ref06Placed_L4_B (fun a b => g (I_ref06Placed.ref06Placed a b)) (fun i a b => g (I_ref06Placed.ref06Placed_L4 i a b)) i a b = some r := h
    unfold ref06Placed_L4_B at h
    refine ok_ev 1000 (e_ref06Placed_L4 _ _ i a b _ _) ?_
    refine w_nam (e' := (List.length a.L : Int)) (by first | rfl | rw [List.length_map]) ?_
    rintro _ rfl
    refine w_condH decide_eq_true_iff h (fun hc91 h => ?_) (fun hc91 h => ?_)
    ·
      obtain ⟨x, hx, h⟩ := w_bind h
      refine ⟨sizedL (l := a.L) (Term.sz), w_ge hx, x.K, x.N, x.S, List.map Term.toD x.L, x.From, x.To, w_get (Term.toD_eq x) hx, ?_⟩
      obtain ⟨x1, hx, h⟩ := w_bind h
      refine ⟨sizedL (l := b.L) (Term.sz), w_ge hx, x1.K, x1.N, x1.S, List.map Term.toD x1.L, x1.From, x1.To, w_get (Term.toD_eq x1) hx, ?_⟩
      obtain ⟨q1, hq, h⟩ := w_bind h
      refine ⟨q1, ⟨_, ih_ref06Placed _ _ _ hq⟩, ?_⟩
      refine w_condN Iff.rfl h (fun hc92 h => ?_) (fun hc92 h => ?_)
      ·
        rintro _ rfl
        exact ih_ref06Placed_L4 _ _ _ _ h
      ·
        cases h; exact ⟨rfl, rfl⟩
    ·
      cases h; exact ⟨rfl, rfl⟩
theorem T_ref06Placed (a : Term) (b : Term) (r : Bool) (h : ref06Placed a b = some r) : Trip Try.prog 11 [.d (.agg [(.int .i64 a.K), (.int .i64 a.N), (.str a.S), (.sl (List.map Term.toD a.L)), (.int .i64 a.From), (.int .i64 a.To)]), .d (.agg [(.int .i64 b.K), (.int .i64 b.N), (.str b.S), (.sl (List.map Term.toD b.L)), (.int .i64 b.From), (.int .i64 b.To)])] [] [.d (.bool r)] [] := G_ref06Placed (.ref06Placed a b) r h
theorem T_ref06Placed_L4 (i : Int) (a : Term) (b : Term) (r : Bool) (h : ref06Placed_L4 i a b = some r) : Ok (c_ref06Placed (Trip Try.prog) [.d (.bool r)] []) (kL Try.f11 4) ⟨67, [(2, .ref 2 1 0), (3, .ref 3 1 0), (5, .d (.int .i64 i))], [(2, 1, some (.agg (.agg [(.int .i64 a.K), (.int .i64 a.N), (.str a.S), (.sl (List.map Term.toD a.L)), (.int .i64 a.From), (.int .i64 a.To)]))), (3, 1, some (.agg (.agg [(.int .i64 b.K), (.int .i64 b.N), (.str b.S), (.sl (List.map Term.toD b.L)), (.int .i64 b.From), (.int .i64 b.To)])))], [], 0⟩ := G_ref06Placed (.ref06Placed_L4 i a b) r h
theorem T_ref14Outer (t : Term) (depth : Int) (r : Int) (h : ref14Outer t depth = some r) : Trip Try.prog 75 [.d (.agg [(.int .i64 t.K), (.int .i64 t.N), (.str t.S), (.sl (List.map Term.toD t.L)), (.int .i64 t.From), (.int .i64 t.To)]), .d (.int .i64 depth)] [] [.d (.int .i64 r)] [] := by
  unfold ref14Outer at h
  refine trip_ev 1000 (by kernel_rfl) (by kernel_rfl) (by kernel_rfl) (by kernel_rfl) (e_ref14Outer _ _ t depth _ _) ?_
  rintro _ rfl
  refine w_condH decide_eq_true_iff h (fun hc93 h => ?_) (fun hc93 h => ?_)
  ·
    cases h; exact ⟨rfl, rfl⟩
  ·
    rintro _ rfl
    cases h; exact ⟨rfl, rfl⟩
def M_ref14In_L6 : (i : I_ref14In_L6) → R_ref14In_L6 i → Prop
  | .ref14In_L6 i n k t, r => Ok (c_ref14In (Trip Try.prog) [.d (.int .i64 r)] []) (kL Try.f51 6) ⟨63, [(1, .d (.int .i64 i)), (2, .ref 2 1 0), (5, .d (.int .i64 n)), (6, .d (.int .i64 k))], [(2, 1, some (.agg (.agg [(.int .i64 t.K), (.int .i64 t.N), (.str t.S), (.sl (List.map Term.toD t.L)), (.int .i64 t.From), (.int .i64 t.To)])))], [], 0⟩
theorem G_ref14In_L6 : ∀ i r, fixF F_ref14In_L6 i = some r → M_ref14In_L6 i r := by
  refine fixF_induct D_ref14In_L6 fun g ih i => ?_
  cases i with
  | ref14In_L6 i n k t =>
    have ih_ref14In_L6 : ∀ (i : Int) (n : Int) (k : Int) (t : Term) (r : Int), g (I_ref14In_L6.ref14In_L6 i n k t) = some r → Ok (c_ref14In (Trip Try.prog) [.d (.int .i64 r)] []) (kL Try.f51 6) ⟨63, [(1, .d (.int .i64 i)), (2, .ref 2 1 0), (5, .d (.int .i64 n)), (6, .d (.int .i64 k))], [(2, 1, some (.agg (.agg [(.int .i64 t.K), (.int .i64 t.N), (.str t.S), (.sl (List.map Term.toD t.L)), (.int .i64 t.From), (.int .i64 t.To)])))], [], 0⟩ := fun i n k t r h => ih (.ref14In_L6 i n k t) r h
    intro r h
    show Ok (c_ref14In (Trip Try.prog) [.d (.int .i64 r)] []) (kL Try.f51 6) ⟨63, [(1, .d (.int .i64 i)), (2, .ref 2 1 0), (5, .d (.int .i64 n)), (6, .d (.int .i64 k))], [(2, 1, some (.agg (.agg [(.int .i64 t.K), (.int .i64 t.N), (.str t.S), (.sl (List.map Term.toD t.L)), (.int .i64 t.From), (.int .i64 t.To)])))], [], 0⟩
    replace h : ref14In_L6_B (fun i n k t => g (I_ref14In_L6.ref14In_L6 i n k t)) i n k t = some r := h
    unfold ref14In_L6_B at h
    refine ok_ev 1000 (e_ref14In_L6 _ _ i n k t _ _) ?_
    rintro _ rfl
    refine w_condH decide_eq_true_iff h (fun hc94 h => ?_) (fun hc94 h => ?_)
    ·
      obtain ⟨x, hx, h⟩ := w_bind h
      refine ⟨sizedL (l := t.L) (Term.sz), w_ge hx, x.K, x.N, x.S, List.map Term.toD x.L, x.From, x.To, w_get (Term.toD_eq x) hx, ?_⟩
      rintro _ rfl
      refine w_condH beq_iff_eq h (fun hc95 h => ?_) (fun hc95 h => ?_)
      ·
        rintro _ rfl
        rintro _ rfl
        exact ih_ref14In_L6 _ _ _ _ _ h
      ·
        obtain ⟨x1, hx, h⟩ := w_bind h
        refine ⟨sizedL (l := t.L) (Term.sz), w_ge hx, x1.K, x1.N, x1.S, List.map Term.toD x1.L, x1.From, x1.To, w_get (Term.toD_eq x1) hx, ?_⟩
        rintro _ rfl
        refine w_condH beq_iff_eq h (fun hc96 h => ?_) (fun hc96 h => ?_)
        ·
          rintro _ rfl
          rintro _ rfl
          exact ih_ref14In_L6 _ _ _ _ _ h
        ·
          rintro _ rfl
          exact ih_ref14In_L6 _ _ _ _ _ h
    ·
      cases h; exact ⟨rfl, rfl⟩
theorem T_ref14In_L6 (i : Int) (n : Int) (k : Int) (t : Term) (r : Int) (h : ref14In_L6 i n k t = some r) : Ok (c_ref14In (Trip Try.prog) [.d (.int .i64 r)] []) (kL Try.f51 6) ⟨63, [(1, .d (.int .i64 i)), (2, .ref 2 1 0), (5, .d (.int .i64 n)), (6, .d (.int .i64 k))], [(2, 1, some (.agg (.agg [(.int .i64 t.K), (.int .i64 t.N), (.str t.S), (.sl (List.map Term.toD t.L)), (.int .i64 t.From), (.int .i64 t.To)])))], [], 0⟩ := G_ref14In_L6 (.ref14In_L6 i n k t) r h
theorem T_ref14In (t : Term) (i : Int) (r : Int) (h : ref14In t i = some r) : Trip Try.prog 51 [.d (.agg [(.int .i64 t.K), (.int .i64 t.N), (.str t.S), (.sl (List.map Term.toD t.L)), (.int .i64 t.From), (.int .i64 t.To)]), .d (.int .i64 i)] [] [.d (.int .i64 r)] [] := by
  unfold ref14In at h
  refine trip_ev 1000 (by kernel_rfl) (by kernel_rfl) (by kernel_rfl) (by kernel_rfl) (e_ref14In _ _ t i _ _) ?_
  rintro _ rfl
  refine w_condH decide_eq_true_iff h (fun hc97 h => ?_) (fun hc97 h => ?_)
  ·
    cases h; exact ⟨rfl, rfl⟩
  ·
    refine w_nam (e' := (List.length t.L : Int)) (by first | rfl | rw [List.length_map]) ?_
    rintro _ rfl
    refine w_condH decide_eq_true_iff h (fun hc98 h => ?_) (fun hc98 h => ?_)
    ·
      cases h; exact ⟨rfl, rfl⟩
    ·
      rintro _ rfl
      refine w_condH beq_iff_eq h (fun hc99 h => ?_) (fun hc99 h => ?_)
      ·
        exact T_ref14In_L6 _ _ _ _ _ h
      ·
        rintro _ rfl
        refine w_condH beq_iff_eq h (fun hc100 h => ?_) (fun hc100 h => ?_)
        ·
          rintro _ rfl
          refine w_condH beq_iff_eq h (fun hc101 h => ?_) (fun hc101 h => ?_)
          ·
            cases h; exact ⟨rfl, rfl⟩
          ·
            rintro _ rfl
            refine w_condF beq_iff_eq (fun e => absurd (hc100.symm.trans e) (by decide)) ?_
            cases h; exact ⟨rfl, rfl⟩
        ·
          rintro _ rfl
          refine w_condH beq_iff_eq h (fun hc102 h => ?_) (fun hc102 h => ?_)
          ·
            rintro _ rfl
            refine w_condH beq_iff_eq h (fun hc103 h => ?_) (fun hc103 h => ?_)
            ·
              obtain ⟨x1, hx, h⟩ := w_bind h
              refine ⟨sizedL (l := t.L) (Term.sz), w_ge hx, x1.K, x1.N, x1.S, List.map Term.toD x1.L, x1.From, x1.To, w_get (Term.toD_eq x1) hx, ?_⟩
              refine w_nam (e' := (List.length x1.L : Int)) (by first | rfl | rw [List.length_map]) ?_
              cases h; exact ⟨rfl, rfl⟩
            ·
              cases h; exact ⟨rfl, rfl⟩
          ·
            cases h; exact ⟨rfl, rfl⟩
def M_ref14Raise : (i : I_ref14Raise) → R_ref14Raise i → Prop
  | .ref14Raise t by_ from_ depth, r => Trip Try.prog 44 [.d (.agg [(.int .i64 t.K), (.int .i64 t.N), (.str t.S), (.sl (List.map Term.toD t.L)), (.int .i64 t.From), (.int .i64 t.To)]), .d (.int .i64 by_), .d (.int .i64 from_), .d (.int .i64 depth)] [] [.d (.agg [(.int .i64 r.K), (.int .i64 r.N), (.str r.S), (.sl (List.map Term.toD r.L)), (.int .i64 r.From), (.int .i64 r.To)])] []
  | .ref14Raise_L7 by_ from_ depth out i t o8, r => Ok (c_ref14Raise (Trip Try.prog) [.d (.agg [(.int .i64 r.K), (.int .i64 r.N), (.str r.S), (.sl (List.map Term.toD r.L)), (.int .i64 r.From), (.int .i64 r.To)])] []) (kL Try.f44 7) ⟨61, [(1, .d (.int .i64 by_)), (2, .d (.int .i64 from_)), (3, .d (.int .i64 depth)), (4, .ref 4 1 0), (8, .ref 8 1 0), (9, .right 25 1 6 (List.map Term.toD out)), (10, .d (.int .i64 i))], [(4, 1, some (.agg (.agg [(.int .i64 t.K), (.int .i64 t.N), (.str t.S), (.sl (List.map Term.toD t.L)), (.int .i64 t.From), (.int .i64 t.To)]))), (8, 1, some (.agg (.agg [(.int .i64 o8.K), (.int .i64 o8.N), (.str o8.S), (.sl (List.map Term.toD o8.L)), (.int .i64 o8.From), (.int .i64 o8.To)]))), (25, 1, some (.tok 6 (List.length (List.map Term.toD out))))], [], 0⟩
theorem G_ref14Raise : ∀ i r, fixF F_ref14Raise i = some r → M_ref14Raise i r := by
  refine fixF_induct D_ref14Raise fun g ih i => ?_
  cases i with
  | ref14Raise t by_ from_ depth =>
    have ih_ref14Raise_L7 : ∀ (by_ : Int) (from_ : Int) (depth : Int) (out : List Term) (i : Int) (t : Term) (o8 : Term) (r : Term), g (I_ref14Raise.ref14Raise_L7 by_ from_ depth out i t o8) = some r → Ok (c_ref14Raise (Trip Try.prog) [.d (.agg [(.int .i64 r.K), (.int .i64 r.N), (.str r.S), (.sl (List.map Term.toD r.L)), (.int .i64 r.From), (.int .i64 r.To)])] []) (kL Try.f44 7) ⟨61, [(1, .d (.int .i64 by_)), (2, .d (.int .i64 from_)), (3, .d (.int .i64 depth)), (4, .ref 4 1 0), (8, .ref 8 1 0), (9, .right 25 1 6 (List.map Term.toD out)), (10, .d (.int .i64 i))], [(4, 1, some (.agg (.agg [(.int .i64 t.K), (.int .i64 t.N), (.str t.S), (.sl (List.map Term.toD t.L)), (.int .i64 t.From), (.int .i64 t.To)]))), (8, 1, some (.agg (.agg [(.int .i64 o8.K), (.int .i64 o8.N), (.str o8.S), (.sl (List.map Term.toD o8.L)), (.int .i64 o8.From), (.int .i64 o8.To)]))), (25, 1, some (.tok 6 (List.length (List.map Term.toD out))))], [], 0⟩ := fun by_ from_ depth out i t o8 r h => ih (.ref14Raise_L7 by_ from_ depth out i t o8) r h
    intro r h
    show Trip Try.prog 44 [.d (.agg [(.int .i64 t.K), (.int .i64 t.N), (.str t.S), (.sl (List.map Term.toD t.L)), (.int .i64 t.From), (.int .i64 t.To)]), .d (.int .i64 by_), .d (.int .i64 from_), .d (.int .i64 depth)] [] [.d (.agg [(.int .i64 r.K), (.int .i64 r.N), (.str r.S), (.sl (List.map Term.toD r.L)), (.int .i64 r.From), (.int .i64 r.To)])] []
    replace h : ref14Raise_B (fun by_ from_ depth out i t o8 => g (I_ref14Raise.ref14Raise_L7 by_ from_ depth out i t o8)) t by_ from_ depth = some r := h
    unfold ref14Raise_B at h
    refine trip_ev 1000 (by kernel_rfl) (by kernel_rfl) (by kernel_rfl) (by kernel_rfl) (e_ref14Raise _ _ t by_ from_ depth _ _) ?_
    rintro _ rfl
    refine w_condH beq_iff_eq h (fun hc104 h => ?_) (fun hc104 h => ?_)
    ·
      obtain ⟨q1, hq, h⟩ := w_bind h
      refine ⟨q1, ⟨_, T_ref14Outer _ _ _ hq⟩, ?_⟩
      rintro _ rfl
      refine w_condH decide_eq_true_iff h (fun hc105 h => ?_) (fun hc105 h => ?_)
      ·
        rintro _ rfl
        cases h; exact ⟨rfl, rfl⟩
      ·
        cases h; exact ⟨rfl, rfl⟩
    ·
      exact ih_ref14Raise_L7 _ _ _ _ _ _ _ _ h
  | ref14Raise_L7 by_ from_ depth out i t o8 =>
    have ih_ref14Raise : ∀ (t : Term) (by_ : Int) (from_ : Int) (depth : Int) (r : Term), g (I_ref14Raise.ref14Raise t by_ from_ depth) = some r → Trip Try.prog 44 [.d (.agg [(.int .i64 t.K), (.int .i64 t.N), (.str t.S), (.sl (List.map Term.toD t.L)), (.int .i64 t.From), (.int .i64 t.To)]), .d (.int .i64 by_), .d (.int .i64 from_), .d (.int .i64 depth)] [] [.d (.agg [(.int .i64 r.K), (.int .i64 r.N), (.str r.S), (.sl (List.map Term.toD r.L)), (.int .i64 r.From), (.int .i64 r.To)])] [] := fun t by_ from_ depth r h => ih (.ref14Raise t by_ from_ depth) r h
    have ih_ref14Raise_L7 : ∀ (by_ : Int) (from_ : Int) (depth : Int) (out : List Term) (i : Int) (t : Term) (o8 : Term) (r : Term), g (I_ref14Raise.ref14Raise_L7 by_ from_ depth out i t o8) = some r → Ok (c_ref14Raise (Trip Try.prog) [.d (.agg [(.int .i64 r.K), (.int .i64 r.N), (.str r.S), (.sl (List.map Term.toD r.L)), (.int .i64 r.From), (.int .i64 r.To)])] []) (kL Try.f44 7) ⟨61, [(1, .d (.int .i64 by_)), (2, .d (.int .i64 from_)), (3, .d (.int .i64 depth)), (4, .ref 4 1 0), (8, .ref 8 1 0), (9, .right 25 1 6 (List.map Term.toD out)), (10, .d (.int .i64 i))], [(4, 1, some (.agg (.agg [(.int .i64 t.K), (.int .i64 t.N), (.str t.S), (.sl (List.map Term.toD t.L)), (.int .i64 t.From), (.int .i64 t.To)]))), (8, 1, some (.agg (.agg [(.int .i64 o8.K), (.int .i64 o8.N), (.str o8.S), (.sl (List.map Term.toD o8.L)), (.int .i64 o8.From), (.int .i64 o8.To)]))), (25, 1, some (.tok 6 (List.length (List.map Term.toD out))))], [], 0⟩ := fun by_ from_ depth out i t o8 r h => ih (.ref14Raise_L7 by_ from_ depth out i t o8) r h
    intro r h
    show Ok (c_ref14Raise (Trip Try.prog) [.d (.agg [(.int .i64 r.K), (.int .i64 r.N), (.str r.S), (.sl (List.map Term.toD r.L)), (.int .i64 r.From), (.int .i64 r.To)])] []) (kL Try.f44 7) ⟨61, [(1, .d (.int .i64 by_)), (2, .d (.int .i64 from_)), (3, .d (.int .i64 depth)), (4, .ref 4 1 0), (8, .ref 8 1 0), (9, .right 25 1 6 (List.map Term.toD out)), (10, .d (.int .i64 i))], [(4, 1, some (.agg (.agg [(.int .i64 t.K), (.int .i64 t.N), (.str t.S), (.sl (List.map Term.toD t.L)), (.int .i64 t.From), (.int .i64 t.To)]))), (8, 1, some (.agg (.agg [(.int .i64 o8.K), (.int .i64 o8.N), (.str o8.S), (.sl (List.map Term.toD o8.L)), (.int .i64 o8.From), (.int .i64 o8.To)]))), (25, 1, some (.tok 6 (List.length (List.map Term.toD out))))], [], 0⟩
    replace h : ref14Raise_L7_B (fun t by_ from_ depth => g (I_ref14Raise.ref14Raise t by_ from_ depth)) (fun by_ from_ depth out i t o8 => g (I_ref14Raise.ref14Raise_L7 by_ from_ depth out i t o8)) by_ from_ depth out i t o8 = some r := h
    unfold ref14Raise_L7_B at h
    refine ok_ev 1000 (e_ref14Raise_L7 _ _ by_ from_ depth out i t o8 _ _) ?_
    refine w_nam (e' := (List.length t.L : Int)) (by first | rfl | rw [List.length_map]) ?_
    rintro _ rfl
    refine w_condH decide_eq_true_iff h (fun hc106 h => ?_) (fun hc106 h => ?_)
    ·
      obtain ⟨x, hx, h⟩ := w_bind h
      refine ⟨sizedL (l := t.L) (Term.sz), w_ge hx, x.K, x.N, x.S, List.map Term.toD x.L, x.From, x.To, w_get (Term.toD_eq x) hx, ?_⟩
      obtain ⟨q1, hq, h⟩ := w_bind h
      refine ⟨q1, ⟨_, T_ref14In _ _ _ hq⟩, ?_⟩
      rintro _ rfl
      obtain ⟨q2, hq, h⟩ := w_bind h
      refine ⟨q2.K, q2.N, q2.S, List.map Term.toD q2.L, q2.From, q2.To, ⟨_, ih_ref14Raise _ _ _ _ _ hq⟩, ?_⟩
      refine ⟨by simp [sized, D.cells], ?_⟩
      refine ⟨by first | rfl | decide | simp only [List.length_map, List.length_cons, List.length_nil, List.map_append, List.length_append], ?_⟩
      obtain ⟨hP, h⟩ := w_chk h
      refine ⟨by first | exact hP | (simp only [List.length_map, List.length_cons, List.length_nil] at hP ⊢; exact hP), ?_⟩
      refine w_nam (e' := List.map Term.toD (out ++ [q2])) (by first | rfl | simp only [List.map_append, List.map_cons, List.map_nil, List.map_take, List.map_drop, List.map_set, List.map_replicate, List.length_map, Term.toD_eq]) ?_
      rintro _ rfl
      exact ih_ref14Raise_L7 _ _ _ _ _ _ _ _ h
    ·
      cases h; exact ⟨rfl, rfl⟩
theorem T_ref14Raise (t : Term) (by_ : Int) (from_ : Int) (depth : Int) (r : Term) (h : ref14Raise t by_ from_ depth = some r) : Trip Try.prog 44 [.d (.agg [(.int .i64 t.K), (.int .i64 t.N), (.str t.S), (.sl (List.map Term.toD t.L)), (.int .i64 t.From), (.int .i64 t.To)]), .d (.int .i64 by_), .d (.int .i64 from_), .d (.int .i64 depth)] [] [.d (.agg [(.int .i64 r.K), (.int .i64 r.N), (.str r.S), (.sl (List.map Term.toD r.L)), (.int .i64 r.From), (.int .i64 r.To)])] [] := G_ref14Raise (.ref14Raise t by_ from_ depth) r h
theorem T_ref14Raise_L7 (by_ : Int) (from_ : Int) (depth : Int) (out : List Term) (i : Int) (t : Term) (o8 : Term) (r : Term) (h : ref14Raise_L7 by_ from_ depth out i t o8 = some r) : Ok (c_ref14Raise (Trip Try.prog) [.d (.agg [(.int .i64 r.K), (.int .i64 r.N), (.str r.S), (.sl (List.map Term.toD r.L)), (.int .i64 r.From), (.int .i64 r.To)])] []) (kL Try.f44 7) ⟨61, [(1, .d (.int .i64 by_)), (2, .d (.int .i64 from_)), (3, .d (.int .i64 depth)), (4, .ref 4 1 0), (8, .ref 8 1 0), (9, .right 25 1 6 (List.map Term.toD out)), (10, .d (.int .i64 i))], [(4, 1, some (.agg (.agg [(.int .i64 t.K), (.int .i64 t.N), (.str t.S), (.sl (List.map Term.toD t.L)), (.int .i64 t.From), (.int .i64 t.To)]))), (8, 1, some (.agg (.agg [(.int .i64 o8.K), (.int .i64 o8.N), (.str o8.S), (.sl (List.map Term.toD o8.L)), (.int .i64 o8.From), (.int .i64 o8.To)]))), (25, 1, some (.tok 6 (List.length (List.map Term.toD out))))], [], 0⟩ := G_ref14Raise (.ref14Raise_L7 by_ from_ depth out i t o8) r h
theorem T_ref25Bin (op : Int) (a : Term) (b : Term) (r : Term) (h : ref25Bin op a b = some r) : Trip Try.prog 26 [.d (.int .i64 op), .d (.agg [(.int .i64 a.K), (.int .i64 a.N), (.str a.S), (.sl (List.map Term.toD a.L)), (.int .i64 a.From), (.int .i64 a.To)]), .d (.agg [(.int .i64 b.K), (.int .i64 b.N), (.str b.S), (.sl (List.map Term.toD b.L)), (.int .i64 b.From), (.int .i64 b.To)])] [] [.d (.agg [(.int .i64 r.K), (.int .i64 r.N), (.str r.S), (.sl (List.map Term.toD r.L)), (.int .i64 r.From), (.int .i64 r.To)])] [] := by
  unfold ref25Bin at h
  refine trip_ev 1000 (by kernel_rfl) (by kernel_rfl) (by kernel_rfl) (by kernel_rfl) (e_ref25Bin _ _ op a b _ _) ?_
  cases h; refine ⟨?_, rfl⟩; simp only [List.map_cons, List.map_nil, Term.toD_eq]
theorem T_ref25Num (n : Int) (r : Term) (h : ref25Num n = some r) : Trip Try.prog 27 [.d (.int .i64 n)] [] [.d (.agg [(.int .i64 r.K), (.int .i64 r.N), (.str r.S), (.sl (List.map Term.toD r.L)), (.int .i64 r.From), (.int .i64 r.To)])] [] := by
  unfold ref25Num at h
  refine trip_ev 1000 (by kernel_rfl) (by kernel_rfl) (by kernel_rfl) (by kernel_rfl) (e_ref25Num _ _ n _ _) ?_
  cases h; exact ⟨rfl, rfl⟩
theorem T_ref28Local (n : Int) (r : Term) (h : ref28Local n = some r) : Trip Try.prog 43 [.d (.int .i64 n)] [] [.d (.agg [(.int .i64 r.K), (.int .i64 r.N), (.str r.S), (.sl (List.map Term.toD r.L)), (.int .i64 r.From), (.int .i64 r.To)])] [] := by
  unfold ref28Local at h
  refine trip_ev 1000 (by kernel_rfl) (by kernel_rfl) (by kernel_rfl) (by kernel_rfl) (e_ref28Local _ _ n _ _) ?_
  cases h; exact ⟨rfl, rfl⟩
def M_ref28Shaped_L4 : (i : I_ref28Shaped_L4) → R_ref28Shaped_L4 i → Prop
  | .ref28Shaped_L4 parts i t, r => Ok (c_ref28Shaped (Trip Try.prog) [.d (.bool r)] []) (kL Try.f42 4) ⟨46, [(2, .d (.int .i64 parts)), (4, .ref 4 1 0), (9, .d (.int .i64 i))], [(4, 1, some (.agg (.agg [(.int .i64 t.K), (.int .i64 t.N), (.str t.S), (.sl (List.map Term.toD t.L)), (.int .i64 t.From), (.int .i64 t.To)])))], [], 0⟩
theorem G_ref28Shaped_L4 : ∀ i r, fixF F_ref28Shaped_L4 i = some r → M_ref28Shaped_L4 i r := by
  refine fixF_induct D_ref28Shaped_L4 fun g ih i => ?_
  cases i with
  | ref28Shaped_L4 parts i t =>
    have ih_ref28Shaped_L4 : ∀ (parts : Int) (i : Int) (t : Term) (r : Bool), g (I_ref28Shaped_L4.ref28Shaped_L4 parts i t) = some r → Ok (c_ref28Shaped (Trip Try.prog) [.d (.bool r)] []) (kL Try.f42 4) ⟨46, [(2, .d (.int .i64 parts)), (4, .ref 4 1 0), (9, .d (.int .i64 i))], [(4, 1, some (.agg (.agg [(.int .i64 t.K), (.int .i64 t.N), (.str t.S), (.sl (List.map Term.toD t.L)), (.int .i64 t.From), (.int .i64 t.To)])))], [], 0⟩ := fun parts i t r h => ih (.ref28Shaped_L4 parts i t) r h
    intro r h
    show Ok (c_ref28Shaped (Trip Try.prog) [.d (.bool r)] []) (kL Try.f42 4) ⟨46, [(2, .d (.int .i64 parts)), (4, .ref 4 1 0), (9, .d (.int .i64 i))], [(4, 1, some (.agg (.agg [(.int .i64 t.K), (.int .i64 t.N), (.str t.S), (.sl (List.map Term.toD t.L)), (.int .i64 t.From), (.int .i64 t.To)])))], [], 0⟩
    replace h : ref28Shaped_L4_B (fun parts i t => g (I_ref28Shaped_L4.ref28Shaped_L4 parts i t)) parts i t = some r := h
    unfold ref28Shaped_L4_B at h
    refine ok_ev 1000 (e_ref28Shaped_L4 _ _ parts i t _ _) ?_
    rintro _ rfl
    refine w_condH decide_eq_true_iff h (fun hc107 h => ?_) (fun hc107 h => ?_)
    ·
      obtain ⟨x, hx, h⟩ := w_bind h
      refine ⟨sizedL (l := t.L) (Term.sz), w_ge hx, x.K, x.N, x.S, List.map Term.toD x.L, x.From, x.To, w_get (Term.toD_eq x) hx, ?_⟩
      rintro _ rfl
      refine w_condN beq_iff_eq h (fun hc108 h => ?_) (fun hc108 h => ?_)
      ·
        rintro _ rfl
        exact ih_ref28Shaped_L4 _ _ _ _ h
      ·
        cases h; exact ⟨rfl, rfl⟩
    ·
      cases h; exact ⟨rfl, rfl⟩
theorem T_ref28Shaped_L4 (parts : Int) (i : Int) (t : Term) (r : Bool) (h : ref28Shaped_L4 parts i t = some r) : Ok (c_ref28Shaped (Trip Try.prog) [.d (.bool r)] []) (kL Try.f42 4) ⟨46, [(2, .d (.int .i64 parts)), (4, .ref 4 1 0), (9, .d (.int .i64 i))], [(4, 1, some (.agg (.agg [(.int .i64 t.K), (.int .i64 t.N), (.str t.S), (.sl (List.map Term.toD t.L)), (.int .i64 t.From), (.int .i64 t.To)])))], [], 0⟩ := G_ref28Shaped_L4 (.ref28Shaped_L4 parts i t) r h
theorem T_ref28Shaped (t : Term) (kind : Int) (parts : Int) (blocks : Int) (r : Bool) (h : ref28Shaped t kind parts blocks = some r) : Trip Try.prog 42 [.d (.agg [(.int .i64 t.K), (.int .i64 t.N), (.str t.S), (.sl (List.map Term.toD t.L)), (.int .i64 t.From), (.int .i64 t.To)]), .d (.int .i64 kind), .d (.int .i64 parts), .d (.int .i64 blocks)] [] [.d (.bool r)] [] := by
  unfold ref28Shaped at h
  refine trip_ev 1000 (by kernel_rfl) (by kernel_rfl) (by kernel_rfl) (by kernel_rfl) (e_ref28Shaped _ _ t kind parts blocks _ _) ?_
  rintro _ rfl
  refine w_condN beq_iff_eq h (fun hc109 h => ?_) (fun hc109 h => ?_)
  ·
    rintro _ rfl
    refine w_condN beq_iff_eq h (fun hc110 h => ?_) (fun hc110 h => ?_)
    ·
      rintro _ rfl
      refine w_condN beq_iff_eq h (fun hc111 h => ?_) (fun hc111 h => ?_)
      ·
        refine w_nam (e' := (List.length t.L : Int)) (by first | rfl | rw [List.length_map]) ?_
        rintro _ rfl
        refine w_condN beq_iff_eq h (fun hc112 h => ?_) (fun hc112 h => ?_)
        ·
          rintro _ rfl
          exact T_ref28Shaped_L4 _ _ _ _ h
        ·
          cases h; exact ⟨rfl, rfl⟩
      ·
        cases h; exact ⟨rfl, rfl⟩
    ·
      cases h; exact ⟨rfl, rfl⟩
  ·
    cases h; exact ⟨rfl, rfl⟩
theorem T_ref28Loop (t : Term) (r : Term × Bool) (h : ref28Loop t = some r) : Trip Try.prog 14 [.d (.agg [(.int .i64 t.K), (.int .i64 t.N), (.str t.S), (.sl (List.map Term.toD t.L)), (.int .i64 t.From), (.int .i64 t.To)])] [] [.d (.agg [(.int .i64 r.1.K), (.int .i64 r.1.N), (.str r.1.S), (.sl (List.map Term.toD r.1.L)), (.int .i64 r.1.From), (.int .i64 r.1.To)]), .d (.bool r.2)] [] := by
  unfold ref28Loop at h
  refine trip_ev 1000 (by kernel_rfl) (by kernel_rfl) (by kernel_rfl) (by kernel_rfl) (e_ref28Loop _ _ t _ _) ?_
  obtain ⟨q1, hq, h⟩ := w_bind h
  refine ⟨q1, ⟨_, T_ref28Shaped _ _ _ _ _ hq⟩, ?_⟩
  refine w_condN Iff.rfl h (fun hc113 h => ?_) (fun hc113 h => ?_)
  ·
    obtain ⟨q2, hq, h⟩ := w_bind h
    refine ⟨q2.K, q2.N, q2.S, List.map Term.toD q2.L, q2.From, q2.To, ⟨_, T_ref28Local _ _ hq⟩, ?_⟩
    obtain ⟨q3, hq, h⟩ := w_bind h
    refine ⟨q3.K, q3.N, q3.S, List.map Term.toD q3.L, q3.From, q3.To, ⟨_, T_ref25Num _ _ hq⟩, ?_⟩
    obtain ⟨q4, hq, h⟩ := w_bind h
    refine ⟨q4.K, q4.N, q4.S, List.map Term.toD q4.L, q4.From, q4.To, ⟨_, T_ref25Bin _ _ _ _ hq⟩, ?_⟩
    obtain ⟨q5, hq, h⟩ := w_bind h
    refine ⟨q5.K, q5.N, q5.S, List.map Term.toD q5.L, q5.From, q5.To, ⟨_, T_ref28Local _ _ hq⟩, ?_⟩
    obtain ⟨q6, hq, h⟩ := w_bind h
    have hT := T_ref28Make _ _ _ hq
    simp only [List.map_cons, List.map_nil, Term.toD_eq] at hT
    refine ⟨q6.K, q6.N, q6.S, List.map Term.toD q6.L, q6.From, q6.To, ⟨_, hT⟩, ?_⟩
    obtain ⟨x, hx, h⟩ := w_bind h
    refine ⟨sizedL (l := t.L) (Term.sz), w_ge hx, x.K, x.N, x.S, List.map Term.toD x.L, x.From, x.To, w_get (Term.toD_eq x) hx, ?_⟩
    obtain ⟨q7, hq, h⟩ := w_bind h
    refine ⟨q7.K, q7.N, q7.S, List.map Term.toD q7.L, q7.From, q7.To, ⟨_, T_ref14Raise _ _ _ _ _ hq⟩, ?_⟩
    obtain ⟨q8, hq, h⟩ := w_bind h
    refine ⟨q8.K, q8.N, q8.S, List.map Term.toD q8.L, q8.From, q8.To, ⟨_, T_ref28Local _ _ hq⟩, ?_⟩
    obtain ⟨q9, hq, h⟩ := w_bind h
    have hT := T_ref28Make _ _ _ hq
    simp only [List.map_cons, List.map_nil, Term.toD_eq] at hT
    refine ⟨q9.K, q9.N, q9.S, List.map Term.toD q9.L, q9.From, q9.To, ⟨_, hT⟩, ?_⟩
    obtain ⟨q10, hq, h⟩ := w_bind h
    have hT := T_ref28Block _ _ hq
    simp only [List.map_cons, List.map_nil, Term.toD_eq] at hT
    refine ⟨q10.K, q10.N, q10.S, List.map Term.toD q10.L, q10.From, q10.To, ⟨_, hT⟩, ?_⟩
    obtain ⟨q11, hq, h⟩ := w_bind h
    refine ⟨q11.K, q11.N, q11.S, List.map Term.toD q11.L, q11.From, q11.To, ⟨_, T_ref28Local _ _ hq⟩, ?_⟩
    obtain ⟨q12, hq, h⟩ := w_bind h
    refine ⟨q12.K, q12.N, q12.S, List.map Term.toD q12.L, q12.From, q12.To, ⟨_, T_ref28Local _ _ hq⟩, ?_⟩
    obtain ⟨q13, hq, h⟩ := w_bind h
    refine ⟨q13.K, q13.N, q13.S, List.map Term.toD q13.L, q13.From, q13.To, ⟨_, T_ref25Bin _ _ _ _ hq⟩, ?_⟩
    obtain ⟨q14, hq, h⟩ := w_bind h
    have hT := T_ref28Make _ _ _ hq
    simp only [List.map_cons, List.map_nil, Term.toD_eq] at hT
    refine ⟨q14.K, q14.N, q14.S, List.map Term.toD q14.L, q14.From, q14.To, ⟨_, hT⟩, ?_⟩
    obtain ⟨x1, hx, h⟩ := w_bind h
    refine ⟨sizedL (l := t.L) (Term.sz), w_ge hx, x1.K, x1.N, x1.S, List.map Term.toD x1.L, x1.From, x1.To, w_get (Term.toD_eq x1) hx, ?_⟩
    obtain ⟨q15, hq, h⟩ := w_bind h
    have hT := T_ref28Make _ _ _ hq
    simp only [List.map_cons, List.map_nil, Term.toD_eq] at hT
    refine ⟨q15.K, q15.N, q15.S, List.map Term.toD q15.L, q15.From, q15.To, ⟨_, hT⟩, ?_⟩
    obtain ⟨x2, hx, h⟩ := w_bind h
    refine ⟨sizedL (l := t.L) (Term.sz), w_ge hx, x2.K, x2.N, x2.S, List.map Term.toD x2.L, x2.From, x2.To, w_get (Term.toD_eq x2) hx, ?_⟩
    obtain ⟨q16, hq, h⟩ := w_bind h
    refine ⟨q16.K, q16.N, q16.S, List.map Term.toD q16.L, q16.From, q16.To, ⟨_, T_ref14Raise _ _ _ _ _ hq⟩, ?_⟩
    obtain ⟨q17, hq, h⟩ := w_bind h
    have hT := T_ref28Make _ _ _ hq
    simp only [List.map_cons, List.map_nil, Term.toD_eq] at hT
    refine ⟨q17.K, q17.N, q17.S, List.map Term.toD q17.L, q17.From, q17.To, ⟨_, hT⟩, ?_⟩
    obtain ⟨q18, hq, h⟩ := w_bind h
    have hT := T_ref28Block _ _ hq
    simp only [List.map_cons, List.map_nil, Term.toD_eq] at hT
    refine ⟨q18.K, q18.N, q18.S, List.map Term.toD q18.L, q18.From, q18.To, ⟨_, hT⟩, ?_⟩
    cases h; exact ⟨rfl, rfl⟩
  ·
    cases h; exact ⟨rfl, rfl⟩
theorem T_law28FlowLoops (t : Term) (r : Bool) (h : law28FlowLoops t = some r) : Trip Try.prog 4 [.d (.agg [(.int .i64 t.K), (.int .i64 t.N), (.str t.S), (.sl (List.map Term.toD t.L)), (.int .i64 t.From), (.int .i64 t.To)])] [] [.d (.bool r)] [] := by
  unfold law28FlowLoops at h
  refine trip_ev 1000 (by kernel_rfl) (by kernel_rfl) (by kernel_rfl) (by kernel_rfl) (e_law28FlowLoops _ _ t _ _) ?_
  obtain ⟨q1, hq, h⟩ := w_bind h
  refine ⟨q1, ⟨_, T_ref06Large _ _ hq⟩, ?_⟩
  refine w_condH Iff.rfl h (fun hc114 h => ?_) (fun hc114 h => ?_)
  ·
    obtain ⟨q2, hq, h⟩ := w_bind h
    refine ⟨q2, ⟨_, T_law28awake _ hq⟩, ?_⟩
    cases h; exact ⟨rfl, rfl⟩
  ·
    obtain ⟨q3, hq, h⟩ := w_bind h
    refine ⟨q3.1.K, q3.1.N, q3.1.S, List.map Term.toD q3.1.L, q3.1.From, q3.1.To, q3.2, ⟨_, T_flow_Loop _ _ hq⟩, ?_⟩
    obtain ⟨q4, hq, h⟩ := w_bind h
    refine ⟨q4.1.K, q4.1.N, q4.1.S, List.map Term.toD q4.1.L, q4.1.From, q4.1.To, q4.2, ⟨_, T_ref28Loop _ _ hq⟩, ?_⟩
    rintro _ rfl
    refine w_condH beq_iff_eq h (fun hc115 h => ?_) (fun hc115 h => ?_)
    ·
      obtain ⟨q5, hq, h⟩ := w_bind h
      refine ⟨q5, ⟨_, T_ref06Placed _ _ _ hq⟩, ?_⟩
      refine w_condH Iff.rfl h (fun hc116 h => ?_) (fun hc116 h => ?_)
      ·
        obtain ⟨q6, hq, h⟩ := w_bind h
        refine ⟨q6, ⟨_, T_law28awake _ hq⟩, ?_⟩
        cases h; exact ⟨rfl, rfl⟩
      ·
        cases h; exact ⟨rfl, rfl⟩
    ·
      cases h; exact ⟨rfl, rfl⟩
end Go.Proofs.Ytkioflnaifdlkaa.M
