/- The plain functions' answers are the program's. -/
import Derived.Test.YtccabbnpnpfnfaaMod
import Derived.Test.YtccabbnpnpfnfaaEv
namespace Go.Proofs.Ytccabbnpnpfnfaa.M
open Go Nt Go.Proofs
set_option linter.unusedVariables false
set_option linter.unusedSimpArgs false
set_option maxRecDepth 100000
theorem T_shift_mover_turn (t : Term) (depth : Int) (by_ : Int) (from_ : Int) (lost : Bool) (r : Term × Int × Int × Bool) (h : shift_mover_turn t depth by_ from_ lost = some r) : Trip Try.prog 21 [.hp 0 0, .d (.agg [(.int .i64 t.K), (.int .i64 t.N), (.str t.S), (.sl (List.map Term.toD t.L)), (.int .i64 t.From), (.int .i64 t.To)]), .d (.int .i64 depth)] [[.d (.int .i64 by_), .d (.int .i64 from_), .d (.bool lost)]] [.d (.agg [(.int .i64 r.1.K), (.int .i64 r.1.N), (.str r.1.S), (.sl (List.map Term.toD r.1.L)), (.int .i64 r.1.From), (.int .i64 r.1.To)])] [[.d (.int .i64 r.2.1), .d (.int .i64 r.2.2.1), .d (.bool r.2.2.2)]] := by
  unfold shift_mover_turn at h
  refine trip_ev 1000 (by kernel_rfl) (by kernel_rfl) (by kernel_rfl) (by kernel_rfl) (e_shift_mover_turn _ _ t depth by_ from_ lost _ _) ?_
  rintro _ rfl
  refine w_cond decide_eq_true_iff h (fun h => ?_) (fun h => ?_)
  ·
    cases h; exact ⟨rfl, rfl⟩
  ·
    rintro _ rfl
    rintro _ rfl
    refine w_cond decide_eq_true_iff h (fun h => ?_) (fun h => ?_)
    ·
      cases h; exact ⟨rfl, rfl⟩
    ·
      rintro _ rfl
      refine w_cond decide_eq_true_iff h (fun h => ?_) (fun h => ?_)
      ·
        rintro _ rfl
        rintro _ rfl
        rintro _ rfl
        refine w_cond decide_eq_true_iff h (fun h => ?_) (fun h => ?_)
        ·
          rintro _ rfl
          cases h; exact ⟨rfl, rfl⟩
        ·
          rintro _ rfl
          cases h; exact ⟨rfl, rfl⟩
      ·
        rintro _ rfl
        cases h; exact ⟨rfl, rfl⟩
theorem T_shift_binds (t : Term) (r : Bool) (h : shift_binds t = some r) : Trip Try.prog 24 [.d (.agg [(.int .i64 t.K), (.int .i64 t.N), (.str t.S), (.sl (List.map Term.toD t.L)), (.int .i64 t.From), (.int .i64 t.To)])] [] [.d (.bool r)] [] := by
  unfold shift_binds at h
  refine trip_ev 1000 (by kernel_rfl) (by kernel_rfl) (by kernel_rfl) (by kernel_rfl) (e_shift_binds _ _ t _ _) ?_
  rintro _ rfl
  refine w_cond beq_iff_eq h (fun h => ?_) (fun h => ?_)
  ·
    cases h; exact ⟨rfl, rfl⟩
  ·
    rintro _ rfl
    cases h; exact ⟨rfl, rfl⟩
def M_shift_In_L7 : (i : I_shift_In_L7) → R_shift_In_L7 i → Prop
  | .shift_In_L7 n v24 v25 v26, r => Ok (c_shift_In (Trip Try.prog) [.d (.int .i64 r)] []) (kL Try.f11 7) ⟨50, [(5, .d (.int .i64 n)), (24, .d (.sl (List.map Term.toD v24))), (25, .d (.int .i64 v25)), (26, .d (.int .i64 v26))], [], [], 0⟩
theorem G_shift_In_L7 : ∀ i r, fixF F_shift_In_L7 i = some r → M_shift_In_L7 i r := by
  refine fixF_induct D_shift_In_L7 fun g ih i => ?_
  cases i with
  | shift_In_L7 n v24 v25 v26 =>
    have ih_shift_In_L7 : ∀ (n : Int) (v24 : List Term) (v25 : Int) (v26 : Int) (r : Int), g (I_shift_In_L7.shift_In_L7 n v24 v25 v26) = some r → Ok (c_shift_In (Trip Try.prog) [.d (.int .i64 r)] []) (kL Try.f11 7) ⟨50, [(5, .d (.int .i64 n)), (24, .d (.sl (List.map Term.toD v24))), (25, .d (.int .i64 v25)), (26, .d (.int .i64 v26))], [], [], 0⟩ := fun n v24 v25 v26 r h => ih (.shift_In_L7 n v24 v25 v26) r h
    intro r h
    show Ok (c_shift_In (Trip Try.prog) [.d (.int .i64 r)] []) (kL Try.f11 7) ⟨50, [(5, .d (.int .i64 n)), (24, .d (.sl (List.map Term.toD v24))), (25, .d (.int .i64 v25)), (26, .d (.int .i64 v26))], [], [], 0⟩
    replace h : shift_In_L7_B (fun n v24 v25 v26 => g (I_shift_In_L7.shift_In_L7 n v24 v25 v26)) n v24 v25 v26 = some r := h
    unfold shift_In_L7_B at h
    refine ok_ev 1000 (e_shift_In_L7 _ _ n v24 v25 v26 _ _) ?_
    rintro _ rfl
    refine w_cond decide_eq_true_iff h (fun h => ?_) (fun h => ?_)
    ·
      obtain ⟨x, hx, h⟩ := w_bind h
      refine ⟨sizedL (l := v24) (Term.sz), w_ge hx, x.K, x.N, x.S, List.map Term.toD x.L, x.From, x.To, w_get (Term.toD_eq x) hx, ?_⟩
      obtain ⟨q1, hq, h⟩ := w_bind h
      refine ⟨q1, ⟨_, T_shift_binds _ _ hq⟩, ?_⟩
      refine w_cond Iff.rfl h (fun h => ?_) (fun h => ?_)
      ·
        rintro _ rfl
        rintro _ rfl
        exact ih_shift_In_L7 _ _ _ _ _ h
      ·
        rintro _ rfl
        exact ih_shift_In_L7 _ _ _ _ _ h
    ·
      cases h; exact ⟨rfl, rfl⟩
theorem T_shift_In_L7 (n : Int) (v24 : List Term) (v25 : Int) (v26 : Int) (r : Int) (h : shift_In_L7 n v24 v25 v26 = some r) : Ok (c_shift_In (Trip Try.prog) [.d (.int .i64 r)] []) (kL Try.f11 7) ⟨50, [(5, .d (.int .i64 n)), (24, .d (.sl (List.map Term.toD v24))), (25, .d (.int .i64 v25)), (26, .d (.int .i64 v26))], [], [], 0⟩ := G_shift_In_L7 (.shift_In_L7 n v24 v25 v26) r h
theorem T_shift_In (t : Term) (i : Int) (r : Int) (h : shift_In t i = some r) : Trip Try.prog 11 [.d (.agg [(.int .i64 t.K), (.int .i64 t.N), (.str t.S), (.sl (List.map Term.toD t.L)), (.int .i64 t.From), (.int .i64 t.To)]), .d (.int .i64 i)] [] [.d (.int .i64 r)] [] := by
  unfold shift_In at h
  refine trip_ev 1000 (by kernel_rfl) (by kernel_rfl) (by kernel_rfl) (by kernel_rfl) (e_shift_In _ _ t i _ _) ?_
  rintro _ rfl
  refine w_cond decide_eq_true_iff h (fun h => ?_) (fun h => ?_)
  ·
    cases h; exact ⟨rfl, rfl⟩
  ·
    refine w_nam (e' := (List.length t.L : Int)) (by first | rfl | rw [List.length_map]) ?_
    rintro _ rfl
    refine w_cond decide_eq_true_iff h (fun h => ?_) (fun h => ?_)
    ·
      cases h; exact ⟨rfl, rfl⟩
    ·
      rintro _ rfl
      refine w_cond beq_iff_eq h (fun h => ?_) (fun h => ?_)
      ·
        refine ⟨sizedL (l := t.L) (Term.sz), ?_⟩
        obtain ⟨hP, h⟩ := w_chk h
        refine ⟨by first | exact hP | (simp only [List.length_map, List.length_cons, List.length_nil] at hP ⊢; exact hP), ?_⟩
        obtain ⟨hP, h⟩ := w_chk h
        refine ⟨by first | exact hP | (simp only [List.length_map, List.length_cons, List.length_nil] at hP ⊢; exact hP), ?_⟩
        obtain ⟨hP, h⟩ := w_chk h
        refine ⟨by first | exact hP | (simp only [List.length_map, List.length_cons, List.length_nil] at hP ⊢; exact hP), ?_⟩
        refine w_nam (e' := List.map Term.toD (List.drop 0 (List.take (Int.toNat i) t.L))) (by first | rfl | simp only [List.map_append, List.map_cons, List.map_nil, List.map_take, List.map_drop, List.map_set, List.map_replicate, List.length_map, Term.toD_eq]) ?_
        refine w_nam (e' := (List.length (List.drop 0 (List.take (Int.toNat i) t.L)) : Int)) (by first | rfl | rw [List.length_map]) ?_
        exact T_shift_In_L7 _ _ _ _ _ h
      ·
        rintro _ rfl
        refine w_cond beq_iff_eq h (fun h => ?_) (fun h => ?_)
        ·
          rintro _ rfl
          refine w_cond beq_iff_eq h (fun h => ?_) (fun h => ?_)
          ·
            cases h; exact ⟨rfl, rfl⟩
          ·
            cases h; exact ⟨rfl, rfl⟩
        ·
          rintro _ rfl
          refine w_cond beq_iff_eq h (fun h => ?_) (fun h => ?_)
          ·
            rintro _ rfl
            refine w_cond beq_iff_eq h (fun h => ?_) (fun h => ?_)
            ·
              obtain ⟨x, hx, h⟩ := w_bind h
              refine ⟨sizedL (l := t.L) (Term.sz), w_ge hx, x.K, x.N, x.S, List.map Term.toD x.L, x.From, x.To, w_get (Term.toD_eq x) hx, ?_⟩
              refine w_nam (e' := (List.length x.L : Int)) (by first | rfl | rw [List.length_map]) ?_
              cases h; exact ⟨rfl, rfl⟩
            ·
              cases h; exact ⟨rfl, rfl⟩
          ·
            cases h; exact ⟨rfl, rfl⟩
def M_shift_walk_mover_turn : (i : I_shift_walk_mover_turn) → R_shift_walk_mover_turn i → Prop
  | .shift_walk_mover_turn t depth by_ from_ lost, r => Trip Try.prog 20 [.d (.agg [(.int .i64 t.K), (.int .i64 t.N), (.str t.S), (.sl (List.map Term.toD t.L)), (.int .i64 t.From), (.int .i64 t.To)]), .d (.int .i64 depth), .fn 21 [.hp 0 0] []] [[.d (.int .i64 by_), .d (.int .i64 from_), .d (.bool lost)]] [.d (.agg [(.int .i64 r.1.K), (.int .i64 r.1.N), (.str r.1.S), (.sl (List.map Term.toD r.1.L)), (.int .i64 r.1.From), (.int .i64 r.1.To)])] [[.d (.int .i64 r.2.1), .d (.int .i64 r.2.2.1), .d (.bool r.2.2.2)]]
  | .shift_walk_mover_turn_L8 depth more v28 v29 v30 t o6 o26 by_ from_ lost, r => Ok (c_shift_walk_mover_turn (Trip Try.prog) [.d (.agg [(.int .i64 r.1.K), (.int .i64 r.1.N), (.str r.1.S), (.sl (List.map Term.toD r.1.L)), (.int .i64 r.1.From), (.int .i64 r.1.To)])] [[.d (.int .i64 r.2.1), .d (.int .i64 r.2.2.1), .d (.bool r.2.2.2)]]) (kL Try.f20 8) ⟨63, [(1, .d (.int .i64 depth)), (2, .fn 21 [.hp 0 0] []), (3, .ref 3 1 0), (6, .ref 6 1 0), (7, .row 26 1), (8, .d (.int .i64 more)), (28, .d (.sl (List.map Term.toD v28))), (29, .d (.int .i64 v29)), (30, .d (.int .i64 v30))], [(3, 1, some (.agg (.agg [(.int .i64 t.K), (.int .i64 t.N), (.str t.S), (.sl (List.map Term.toD t.L)), (.int .i64 t.From), (.int .i64 t.To)]))), (6, 1, some (.agg (.agg [(.int .i64 o6.K), (.int .i64 o6.N), (.str o6.S), (.sl (List.map Term.toD o6.L)), (.int .i64 o6.From), (.int .i64 o6.To)]))), (26, 1, some (.row 6 (List.map Term.toD o26)))], [[.d (.int .i64 by_), .d (.int .i64 from_), .d (.bool lost)]], 0⟩
theorem G_shift_walk_mover_turn : ∀ i r, fixF F_shift_walk_mover_turn i = some r → M_shift_walk_mover_turn i r := by
  refine fixF_induct D_shift_walk_mover_turn fun g ih i => ?_
  cases i with
  | shift_walk_mover_turn t depth by_ from_ lost =>
    have ih_shift_walk_mover_turn_L8 : ∀ (depth : Int) (more : Int) (v28 : List Term) (v29 : Int) (v30 : Int) (t : Term) (o6 : Term) (o26 : List Term) (by_ : Int) (from_ : Int) (lost : Bool) (r : Term × Int × Int × Bool), g (I_shift_walk_mover_turn.shift_walk_mover_turn_L8 depth more v28 v29 v30 t o6 o26 by_ from_ lost) = some r → Ok (c_shift_walk_mover_turn (Trip Try.prog) [.d (.agg [(.int .i64 r.1.K), (.int .i64 r.1.N), (.str r.1.S), (.sl (List.map Term.toD r.1.L)), (.int .i64 r.1.From), (.int .i64 r.1.To)])] [[.d (.int .i64 r.2.1), .d (.int .i64 r.2.2.1), .d (.bool r.2.2.2)]]) (kL Try.f20 8) ⟨63, [(1, .d (.int .i64 depth)), (2, .fn 21 [.hp 0 0] []), (3, .ref 3 1 0), (6, .ref 6 1 0), (7, .row 26 1), (8, .d (.int .i64 more)), (28, .d (.sl (List.map Term.toD v28))), (29, .d (.int .i64 v29)), (30, .d (.int .i64 v30))], [(3, 1, some (.agg (.agg [(.int .i64 t.K), (.int .i64 t.N), (.str t.S), (.sl (List.map Term.toD t.L)), (.int .i64 t.From), (.int .i64 t.To)]))), (6, 1, some (.agg (.agg [(.int .i64 o6.K), (.int .i64 o6.N), (.str o6.S), (.sl (List.map Term.toD o6.L)), (.int .i64 o6.From), (.int .i64 o6.To)]))), (26, 1, some (.row 6 (List.map Term.toD o26)))], [[.d (.int .i64 by_), .d (.int .i64 from_), .d (.bool lost)]], 0⟩ := fun depth more v28 v29 v30 t o6 o26 by_ from_ lost r h => ih (.shift_walk_mover_turn_L8 depth more v28 v29 v30 t o6 o26 by_ from_ lost) r h
    intro r h
    show Trip Try.prog 20 [.d (.agg [(.int .i64 t.K), (.int .i64 t.N), (.str t.S), (.sl (List.map Term.toD t.L)), (.int .i64 t.From), (.int .i64 t.To)]), .d (.int .i64 depth), .fn 21 [.hp 0 0] []] [[.d (.int .i64 by_), .d (.int .i64 from_), .d (.bool lost)]] [.d (.agg [(.int .i64 r.1.K), (.int .i64 r.1.N), (.str r.1.S), (.sl (List.map Term.toD r.1.L)), (.int .i64 r.1.From), (.int .i64 r.1.To)])] [[.d (.int .i64 r.2.1), .d (.int .i64 r.2.2.1), .d (.bool r.2.2.2)]]
    replace h : shift_walk_mover_turn_B (fun depth more v28 v29 v30 t o6 o26 by_ from_ lost => g (I_shift_walk_mover_turn.shift_walk_mover_turn_L8 depth more v28 v29 v30 t o6 o26 by_ from_ lost)) t depth by_ from_ lost = some r := h
    unfold shift_walk_mover_turn_B at h
    refine trip_ev 1000 (by kernel_rfl) (by kernel_rfl) (by kernel_rfl) (by kernel_rfl) (e_shift_walk_mover_turn _ _ t depth by_ from_ lost _ _) ?_
    rintro _ rfl
    refine w_cond beq_iff_eq h (fun h => ?_) (fun h => ?_)
    ·
      obtain ⟨q1, hq, h⟩ := w_bind h
      refine ⟨q1.1.K, q1.1.N, q1.1.S, List.map Term.toD q1.1.L, q1.1.From, q1.1.To, q1.2.1, q1.2.2.1, q1.2.2.2, T_shift_mover_turn _ _ _ _ _ _ hq, ?_⟩
      cases h; exact ⟨rfl, rfl⟩
    ·
      refine w_nam (e' := (List.length t.L : Int)) (by first | rfl | rw [List.length_map]) ?_
      rintro _ rfl
      refine w_cond beq_iff_eq h (fun h => ?_) (fun h => ?_)
      ·
        cases h; exact ⟨rfl, rfl⟩
      ·
        refine w_nam (e' := (List.length t.L : Int)) (by first | rfl | rw [List.length_map]) ?_
        obtain ⟨hP, h⟩ := w_chk h
        refine ⟨by first | exact hP | (simp only [List.length_map, List.length_cons, List.length_nil] at hP ⊢; exact hP), ?_⟩
        refine w_nam (e' := List.map Term.toD (List.replicate (List.length t.L : Int).toNat (Term.mk 0 0 ([] : List UInt8) [] 0 0))) (by first | rfl | simp only [List.map_append, List.map_cons, List.map_nil, List.map_take, List.map_drop, List.map_set, List.map_replicate, List.length_map, Term.toD_eq]) ?_
        refine w_nam (e' := (List.length t.L : Int)) (by first | rfl | rw [List.length_map]) ?_
        exact ih_shift_walk_mover_turn_L8 _ _ _ _ _ _ _ _ _ _ _ _ h
  | shift_walk_mover_turn_L8 depth more v28 v29 v30 t o6 o26 by_ from_ lost =>
    have ih_shift_walk_mover_turn : ∀ (t : Term) (depth : Int) (by_ : Int) (from_ : Int) (lost : Bool) (r : Term × Int × Int × Bool), g (I_shift_walk_mover_turn.shift_walk_mover_turn t depth by_ from_ lost) = some r → Trip Try.prog 20 [.d (.agg [(.int .i64 t.K), (.int .i64 t.N), (.str t.S), (.sl (List.map Term.toD t.L)), (.int .i64 t.From), (.int .i64 t.To)]), .d (.int .i64 depth), .fn 21 [.hp 0 0] []] [[.d (.int .i64 by_), .d (.int .i64 from_), .d (.bool lost)]] [.d (.agg [(.int .i64 r.1.K), (.int .i64 r.1.N), (.str r.1.S), (.sl (List.map Term.toD r.1.L)), (.int .i64 r.1.From), (.int .i64 r.1.To)])] [[.d (.int .i64 r.2.1), .d (.int .i64 r.2.2.1), .d (.bool r.2.2.2)]] := fun t depth by_ from_ lost r h => ih (.shift_walk_mover_turn t depth by_ from_ lost) r h
    have ih_shift_walk_mover_turn_L8 : ∀ (depth : Int) (more : Int) (v28 : List Term) (v29 : Int) (v30 : Int) (t : Term) (o6 : Term) (o26 : List Term) (by_ : Int) (from_ : Int) (lost : Bool) (r : Term × Int × Int × Bool), g (I_shift_walk_mover_turn.shift_walk_mover_turn_L8 depth more v28 v29 v30 t o6 o26 by_ from_ lost) = some r → Ok (c_shift_walk_mover_turn (Trip Try.prog) [.d (.agg [(.int .i64 r.1.K), (.int .i64 r.1.N), (.str r.1.S), (.sl (List.map Term.toD r.1.L)), (.int .i64 r.1.From), (.int .i64 r.1.To)])] [[.d (.int .i64 r.2.1), .d (.int .i64 r.2.2.1), .d (.bool r.2.2.2)]]) (kL Try.f20 8) ⟨63, [(1, .d (.int .i64 depth)), (2, .fn 21 [.hp 0 0] []), (3, .ref 3 1 0), (6, .ref 6 1 0), (7, .row 26 1), (8, .d (.int .i64 more)), (28, .d (.sl (List.map Term.toD v28))), (29, .d (.int .i64 v29)), (30, .d (.int .i64 v30))], [(3, 1, some (.agg (.agg [(.int .i64 t.K), (.int .i64 t.N), (.str t.S), (.sl (List.map Term.toD t.L)), (.int .i64 t.From), (.int .i64 t.To)]))), (6, 1, some (.agg (.agg [(.int .i64 o6.K), (.int .i64 o6.N), (.str o6.S), (.sl (List.map Term.toD o6.L)), (.int .i64 o6.From), (.int .i64 o6.To)]))), (26, 1, some (.row 6 (List.map Term.toD o26)))], [[.d (.int .i64 by_), .d (.int .i64 from_), .d (.bool lost)]], 0⟩ := fun depth more v28 v29 v30 t o6 o26 by_ from_ lost r h => ih (.shift_walk_mover_turn_L8 depth more v28 v29 v30 t o6 o26 by_ from_ lost) r h
    intro r h
    show Ok (c_shift_walk_mover_turn (Trip Try.prog) [.d (.agg [(.int .i64 r.1.K), (.int .i64 r.1.N), (.str r.1.S), (.sl (List.map Term.toD r.1.L)), (.int .i64 r.1.From), (.int .i64 r.1.To)])] [[.d (.int .i64 r.2.1), .d (.int .i64 r.2.2.1), .d (.bool r.2.2.2)]]) (kL Try.f20 8) ⟨63, [(1, .d (.int .i64 depth)), (2, .fn 21 [.hp 0 0] []), (3, .ref 3 1 0), (6, .ref 6 1 0), (7, .row 26 1), (8, .d (.int .i64 more)), (28, .d (.sl (List.map Term.toD v28))), (29, .d (.int .i64 v29)), (30, .d (.int .i64 v30))], [(3, 1, some (.agg (.agg [(.int .i64 t.K), (.int .i64 t.N), (.str t.S), (.sl (List.map Term.toD t.L)), (.int .i64 t.From), (.int .i64 t.To)]))), (6, 1, some (.agg (.agg [(.int .i64 o6.K), (.int .i64 o6.N), (.str o6.S), (.sl (List.map Term.toD o6.L)), (.int .i64 o6.From), (.int .i64 o6.To)]))), (26, 1, some (.row 6 (List.map Term.toD o26)))], [[.d (.int .i64 by_), .d (.int .i64 from_), .d (.bool lost)]], 0⟩
    replace h : shift_walk_mover_turn_L8_B (fun t depth by_ from_ lost => g (I_shift_walk_mover_turn.shift_walk_mover_turn t depth by_ from_ lost)) (fun depth more v28 v29 v30 t o6 o26 by_ from_ lost => g (I_shift_walk_mover_turn.shift_walk_mover_turn_L8 depth more v28 v29 v30 t o6 o26 by_ from_ lost)) depth more v28 v29 v30 t o6 o26 by_ from_ lost = some r := h
    unfold shift_walk_mover_turn_L8_B at h
    refine ok_ev 1000 (e_shift_walk_mover_turn_L8 _ _ depth more v28 v29 v30 t o6 o26 by_ from_ lost _ _) ?_
    rintro _ rfl
    refine w_cond decide_eq_true_iff h (fun h => ?_) (fun h => ?_)
    ·
      obtain ⟨x, hx, h⟩ := w_bind h
      refine ⟨sizedL (l := v28) (Term.sz), w_ge hx, x.K, x.N, x.S, List.map Term.toD x.L, x.From, x.To, w_get (Term.toD_eq x) hx, ?_⟩
      rintro _ rfl
      refine w_cond (w_not beq_iff_eq) h (fun h => ?_) (fun h => ?_)
      ·
        obtain ⟨q1, hq, h⟩ := w_bind h
        refine ⟨q1, ⟨_, T_shift_In _ _ _ hq⟩, ?_⟩
        rintro _ rfl
        obtain ⟨q2, hq, h⟩ := w_bind h
        refine ⟨q2.1.K, q2.1.N, q2.1.S, List.map Term.toD q2.1.L, q2.1.From, q2.1.To, q2.2.1, q2.2.2.1, q2.2.2.2, ih_shift_walk_mover_turn _ _ _ _ _ _ hq, ?_⟩
        obtain ⟨hP, h⟩ := w_chk h
        refine ⟨hP.1, by first | exact hP.2 | (simp only [List.length_map] at hP ⊢; exact hP.2), ?_⟩
        obtain ⟨hP, h⟩ := w_chk h
        refine ⟨by first | exact hP | (rw [List.length_map]; exact hP), ?_⟩
        refine w_nam (e' := List.map Term.toD (o26.set (Int.toNat v30) q2.1)) (w_set (Term.toD_eq q2.1)) ?_
        rintro _ rfl
        refine w_cond beq_iff_eq h (fun h => ?_) (fun h => ?_)
        ·
          obtain ⟨q3, hq, h⟩ := w_bind h
          refine ⟨q3, ⟨_, T_shift_binds _ _ hq⟩, ?_⟩
          refine w_cond Iff.rfl h (fun h => ?_) (fun h => ?_)
          ·
            rintro _ rfl
            rintro _ rfl
            exact ih_shift_walk_mover_turn_L8 _ _ _ _ _ _ _ _ _ _ _ _ h
          ·
            rintro _ rfl
            exact ih_shift_walk_mover_turn_L8 _ _ _ _ _ _ _ _ _ _ _ _ h
        ·
          rintro _ rfl
          exact ih_shift_walk_mover_turn_L8 _ _ _ _ _ _ _ _ _ _ _ _ h
      ·
        rintro _ rfl
        obtain ⟨q4, hq, h⟩ := w_bind h
        refine ⟨q4.1.K, q4.1.N, q4.1.S, List.map Term.toD q4.1.L, q4.1.From, q4.1.To, q4.2.1, q4.2.2.1, q4.2.2.2, ih_shift_walk_mover_turn _ _ _ _ _ _ hq, ?_⟩
        obtain ⟨hP, h⟩ := w_chk h
        refine ⟨hP.1, by first | exact hP.2 | (simp only [List.length_map] at hP ⊢; exact hP.2), ?_⟩
        obtain ⟨hP, h⟩ := w_chk h
        refine ⟨by first | exact hP | (rw [List.length_map]; exact hP), ?_⟩
        refine w_nam (e' := List.map Term.toD (o26.set (Int.toNat v30) q4.1)) (w_set (Term.toD_eq q4.1)) ?_
        rintro _ rfl
        refine w_cond beq_iff_eq h (fun h => ?_) (fun h => ?_)
        ·
          obtain ⟨q5, hq, h⟩ := w_bind h
          refine ⟨q5, ⟨_, T_shift_binds _ _ hq⟩, ?_⟩
          refine w_cond Iff.rfl h (fun h => ?_) (fun h => ?_)
          ·
            rintro _ rfl
            rintro _ rfl
            exact ih_shift_walk_mover_turn_L8 _ _ _ _ _ _ _ _ _ _ _ _ h
          ·
            rintro _ rfl
            exact ih_shift_walk_mover_turn_L8 _ _ _ _ _ _ _ _ _ _ _ _ h
        ·
          rintro _ rfl
          exact ih_shift_walk_mover_turn_L8 _ _ _ _ _ _ _ _ _ _ _ _ h
    ·
      cases h; exact ⟨rfl, rfl⟩
theorem T_shift_walk_mover_turn (t : Term) (depth : Int) (by_ : Int) (from_ : Int) (lost : Bool) (r : Term × Int × Int × Bool) (h : shift_walk_mover_turn t depth by_ from_ lost = some r) : Trip Try.prog 20 [.d (.agg [(.int .i64 t.K), (.int .i64 t.N), (.str t.S), (.sl (List.map Term.toD t.L)), (.int .i64 t.From), (.int .i64 t.To)]), .d (.int .i64 depth), .fn 21 [.hp 0 0] []] [[.d (.int .i64 by_), .d (.int .i64 from_), .d (.bool lost)]] [.d (.agg [(.int .i64 r.1.K), (.int .i64 r.1.N), (.str r.1.S), (.sl (List.map Term.toD r.1.L)), (.int .i64 r.1.From), (.int .i64 r.1.To)])] [[.d (.int .i64 r.2.1), .d (.int .i64 r.2.2.1), .d (.bool r.2.2.2)]] := G_shift_walk_mover_turn (.shift_walk_mover_turn t depth by_ from_ lost) r h
theorem T_shift_walk_mover_turn_L8 (depth : Int) (more : Int) (v28 : List Term) (v29 : Int) (v30 : Int) (t : Term) (o6 : Term) (o26 : List Term) (by_ : Int) (from_ : Int) (lost : Bool) (r : Term × Int × Int × Bool) (h : shift_walk_mover_turn_L8 depth more v28 v29 v30 t o6 o26 by_ from_ lost = some r) : Ok (c_shift_walk_mover_turn (Trip Try.prog) [.d (.agg [(.int .i64 r.1.K), (.int .i64 r.1.N), (.str r.1.S), (.sl (List.map Term.toD r.1.L)), (.int .i64 r.1.From), (.int .i64 r.1.To)])] [[.d (.int .i64 r.2.1), .d (.int .i64 r.2.2.1), .d (.bool r.2.2.2)]]) (kL Try.f20 8) ⟨63, [(1, .d (.int .i64 depth)), (2, .fn 21 [.hp 0 0] []), (3, .ref 3 1 0), (6, .ref 6 1 0), (7, .row 26 1), (8, .d (.int .i64 more)), (28, .d (.sl (List.map Term.toD v28))), (29, .d (.int .i64 v29)), (30, .d (.int .i64 v30))], [(3, 1, some (.agg (.agg [(.int .i64 t.K), (.int .i64 t.N), (.str t.S), (.sl (List.map Term.toD t.L)), (.int .i64 t.From), (.int .i64 t.To)]))), (6, 1, some (.agg (.agg [(.int .i64 o6.K), (.int .i64 o6.N), (.str o6.S), (.sl (List.map Term.toD o6.L)), (.int .i64 o6.From), (.int .i64 o6.To)]))), (26, 1, some (.row 6 (List.map Term.toD o26)))], [[.d (.int .i64 by_), .d (.int .i64 from_), .d (.bool lost)]], 0⟩ := G_shift_walk_mover_turn (.shift_walk_mover_turn_L8 depth more v28 v29 v30 t o6 o26 by_ from_ lost) r h
theorem T_shift_Shift (t : Term) (by_ : Int) (from_ : Int) (r : Term × Bool × H) (h : shift_Shift t by_ from_ = some r) : Trip Try.prog 8 [.d (.agg [(.int .i64 t.K), (.int .i64 t.N), (.str t.S), (.sl (List.map Term.toD t.L)), (.int .i64 t.From), (.int .i64 t.To)]), .d (.int .i64 by_), .d (.int .i64 from_)] [] [.d (.agg [(.int .i64 r.1.K), (.int .i64 r.1.N), (.str r.1.S), (.sl (List.map Term.toD r.1.L)), (.int .i64 r.1.From), (.int .i64 r.1.To)]), .d (.bool r.2.1)] r.2.2 := by
  unfold shift_Shift at h
  refine trip_ev 1000 (by kernel_rfl) (by kernel_rfl) (by kernel_rfl) (by kernel_rfl) (e_shift_Shift _ _ t by_ from_ _ _) ?_
  rintro _ rfl
  refine w_cond decide_eq_true_iff h (fun h => ?_) (fun h => ?_)
  ·
    cases h; exact ⟨rfl, rfl⟩
  ·
    rintro _ rfl
    refine w_cond decide_eq_true_iff h (fun h => ?_) (fun h => ?_)
    ·
      cases h; exact ⟨rfl, rfl⟩
    ·
      rintro _ rfl
      refine w_cond decide_eq_true_iff h (fun h => ?_) (fun h => ?_)
      ·
        cases h; exact ⟨rfl, rfl⟩
      ·
        rintro _ rfl
        refine w_cond decide_eq_true_iff h (fun h => ?_) (fun h => ?_)
        ·
          cases h; exact ⟨rfl, rfl⟩
        ·
          obtain ⟨q1, hq, h⟩ := w_bind h
          refine ⟨q1.1.K, q1.1.N, q1.1.S, List.map Term.toD q1.1.L, q1.1.From, q1.1.To, q1.2.1, q1.2.2.1, q1.2.2.2, T_shift_walk_mover_turn _ _ _ _ _ _ hq, ?_⟩
          refine w_cond Iff.rfl h (fun h => ?_) (fun h => ?_)
          ·
            cases h; exact ⟨rfl, rfl⟩
          ·
            cases h; exact ⟨rfl, rfl⟩
theorem T_law14awake  (r : Bool) (h : law14awake = some r) : Trip Try.prog 7 [] [] [.d (.bool r)] [] := by
  unfold law14awake at h
  refine trip_ev 1000 (by kernel_rfl) (by kernel_rfl) (by kernel_rfl) (by kernel_rfl) (e_law14awake _ _  _ _) ?_
  obtain ⟨q1, hq, h⟩ := w_bind h
  refine ⟨q1.1.K, q1.1.N, q1.1.S, List.map Term.toD q1.1.L, q1.1.From, q1.1.To, q1.2.1, ⟨_, T_shift_Shift _ _ _ _ hq⟩, ?_⟩
  refine w_cond Iff.rfl h (fun h => ?_) (fun h => ?_)
  ·
    rintro _ rfl
    refine w_cond beq_iff_eq h (fun h => ?_) (fun h => ?_)
    ·
      rintro _ rfl
      cases h; exact ⟨rfl, rfl⟩
    ·
      cases h; exact ⟨rfl, rfl⟩
  ·
    cases h; exact ⟨rfl, rfl⟩
def M_ref06Count : (i : I_ref06Count) → R_ref06Count i → Prop
  | .ref06Count t left levels, r => Trip Try.prog 18 [.d (.agg [(.int .i64 t.K), (.int .i64 t.N), (.str t.S), (.sl (List.map Term.toD t.L)), (.int .i64 t.From), (.int .i64 t.To)]), .d (.int .i64 left), .d (.int .i64 levels)] [] [.d (.int .i64 r)] []
  | .ref06Count_L5 left levels i t, r => Ok (c_ref06Count (Trip Try.prog) [.d (.int .i64 r)] []) (kL Try.f18 5) ⟨33, [(1, .d (.int .i64 left)), (2, .d (.int .i64 levels)), (3, .ref 3 1 0), (7, .d (.int .i64 i))], [(3, 1, some (.agg (.agg [(.int .i64 t.K), (.int .i64 t.N), (.str t.S), (.sl (List.map Term.toD t.L)), (.int .i64 t.From), (.int .i64 t.To)])))], [], 0⟩
theorem G_ref06Count : ∀ i r, fixF F_ref06Count i = some r → M_ref06Count i r := by
  refine fixF_induct D_ref06Count fun g ih i => ?_
  cases i with
  | ref06Count t left levels =>
    have ih_ref06Count_L5 : ∀ (left : Int) (levels : Int) (i : Int) (t : Term) (r : Int), g (I_ref06Count.ref06Count_L5 left levels i t) = some r → Ok (c_ref06Count (Trip Try.prog) [.d (.int .i64 r)] []) (kL Try.f18 5) ⟨33, [(1, .d (.int .i64 left)), (2, .d (.int .i64 levels)), (3, .ref 3 1 0), (7, .d (.int .i64 i))], [(3, 1, some (.agg (.agg [(.int .i64 t.K), (.int .i64 t.N), (.str t.S), (.sl (List.map Term.toD t.L)), (.int .i64 t.From), (.int .i64 t.To)])))], [], 0⟩ := fun left levels i t r h => ih (.ref06Count_L5 left levels i t) r h
    intro r h
    show Trip Try.prog 18 [.d (.agg [(.int .i64 t.K), (.int .i64 t.N), (.str t.S), (.sl (List.map Term.toD t.L)), (.int .i64 t.From), (.int .i64 t.To)]), .d (.int .i64 left), .d (.int .i64 levels)] [] [.d (.int .i64 r)] []
    replace h : ref06Count_B (fun left levels i t => g (I_ref06Count.ref06Count_L5 left levels i t)) t left levels = some r := h
    unfold ref06Count_B at h
    refine trip_ev 1000 (by kernel_rfl) (by kernel_rfl) (by kernel_rfl) (by kernel_rfl) (e_ref06Count _ _ t left levels _ _) ?_
    rintro _ rfl
    refine w_cond decide_eq_true_iff h (fun h => ?_) (fun h => ?_)
    ·
      cases h; exact ⟨rfl, rfl⟩
    ·
      rintro _ rfl
      exact ih_ref06Count_L5 _ _ _ _ _ h
  | ref06Count_L5 left levels i t =>
    have ih_ref06Count : ∀ (t : Term) (left : Int) (levels : Int) (r : Int), g (I_ref06Count.ref06Count t left levels) = some r → Trip Try.prog 18 [.d (.agg [(.int .i64 t.K), (.int .i64 t.N), (.str t.S), (.sl (List.map Term.toD t.L)), (.int .i64 t.From), (.int .i64 t.To)]), .d (.int .i64 left), .d (.int .i64 levels)] [] [.d (.int .i64 r)] [] := fun t left levels r h => ih (.ref06Count t left levels) r h
    have ih_ref06Count_L5 : ∀ (left : Int) (levels : Int) (i : Int) (t : Term) (r : Int), g (I_ref06Count.ref06Count_L5 left levels i t) = some r → Ok (c_ref06Count (Trip Try.prog) [.d (.int .i64 r)] []) (kL Try.f18 5) ⟨33, [(1, .d (.int .i64 left)), (2, .d (.int .i64 levels)), (3, .ref 3 1 0), (7, .d (.int .i64 i))], [(3, 1, some (.agg (.agg [(.int .i64 t.K), (.int .i64 t.N), (.str t.S), (.sl (List.map Term.toD t.L)), (.int .i64 t.From), (.int .i64 t.To)])))], [], 0⟩ := fun left levels i t r h => ih (.ref06Count_L5 left levels i t) r h
    intro r h
    show Ok (c_ref06Count (Trip Try.prog) [.d (.int .i64 r)] []) (kL Try.f18 5) ⟨33, [(1, .d (.int .i64 left)), (2, .d (.int .i64 levels)), (3, .ref 3 1 0), (7, .d (.int .i64 i))], [(3, 1, some (.agg (.agg [(.int .i64 t.K), (.int .i64 t.N), (.str t.S), (.sl (List.map Term.toD t.L)), (.int .i64 t.From), (.int .i64 t.To)])))], [], 0⟩
    replace h : ref06Count_L5_B (fun t left levels => g (I_ref06Count.ref06Count t left levels)) (fun left levels i t => g (I_ref06Count.ref06Count_L5 left levels i t)) left levels i t = some r := h
    unfold ref06Count_L5_B at h
    refine ok_ev 1000 (e_ref06Count_L5 _ _ left levels i t _ _) ?_
    refine w_nam (e' := (List.length t.L : Int)) (by first | rfl | rw [List.length_map]) ?_
    rintro _ rfl
    refine w_cond decide_eq_true_iff h (fun h => ?_) (fun h => ?_)
    ·
      rintro _ rfl
      refine w_cond decide_eq_true_iff h (fun h => ?_) (fun h => ?_)
      ·
        obtain ⟨x, hx, h⟩ := w_bind h
        refine ⟨sizedL (l := t.L) (Term.sz), w_ge hx, x.K, x.N, x.S, List.map Term.toD x.L, x.From, x.To, w_get (Term.toD_eq x) hx, ?_⟩
        rintro _ rfl
        obtain ⟨q1, hq, h⟩ := w_bind h
        refine ⟨q1, ⟨_, ih_ref06Count _ _ _ _ hq⟩, ?_⟩
        rintro _ rfl
        exact ih_ref06Count_L5 _ _ _ _ _ h
      ·
        cases h; exact ⟨rfl, rfl⟩
    ·
      cases h; exact ⟨rfl, rfl⟩
theorem T_ref06Count (t : Term) (left : Int) (levels : Int) (r : Int) (h : ref06Count t left levels = some r) : Trip Try.prog 18 [.d (.agg [(.int .i64 t.K), (.int .i64 t.N), (.str t.S), (.sl (List.map Term.toD t.L)), (.int .i64 t.From), (.int .i64 t.To)]), .d (.int .i64 left), .d (.int .i64 levels)] [] [.d (.int .i64 r)] [] := G_ref06Count (.ref06Count t left levels) r h
theorem T_ref06Count_L5 (left : Int) (levels : Int) (i : Int) (t : Term) (r : Int) (h : ref06Count_L5 left levels i t = some r) : Ok (c_ref06Count (Trip Try.prog) [.d (.int .i64 r)] []) (kL Try.f18 5) ⟨33, [(1, .d (.int .i64 left)), (2, .d (.int .i64 levels)), (3, .ref 3 1 0), (7, .d (.int .i64 i))], [(3, 1, some (.agg (.agg [(.int .i64 t.K), (.int .i64 t.N), (.str t.S), (.sl (List.map Term.toD t.L)), (.int .i64 t.From), (.int .i64 t.To)])))], [], 0⟩ := G_ref06Count (.ref06Count_L5 left levels i t) r h
def M_ref06Named : (i : I_ref06Named) → R_ref06Named i → Prop
  | .ref06Named t, r => Trip Try.prog 19 [.d (.agg [(.int .i64 t.K), (.int .i64 t.N), (.str t.S), (.sl (List.map Term.toD t.L)), (.int .i64 t.From), (.int .i64 t.To)])] [] [.d (.bool r)] []
  | .ref06Named_L4 i t, r => Ok (c_ref06Named (Trip Try.prog) [.d (.bool r)] []) (kL Try.f19 4) ⟨21, [(1, .ref 1 1 0), (3, .d (.int .i64 i))], [(1, 1, some (.agg (.agg [(.int .i64 t.K), (.int .i64 t.N), (.str t.S), (.sl (List.map Term.toD t.L)), (.int .i64 t.From), (.int .i64 t.To)])))], [], 0⟩
theorem G_ref06Named : ∀ i r, fixF F_ref06Named i = some r → M_ref06Named i r := by
  refine fixF_induct D_ref06Named fun g ih i => ?_
  cases i with
  | ref06Named t =>
    have ih_ref06Named_L4 : ∀ (i : Int) (t : Term) (r : Bool), g (I_ref06Named.ref06Named_L4 i t) = some r → Ok (c_ref06Named (Trip Try.prog) [.d (.bool r)] []) (kL Try.f19 4) ⟨21, [(1, .ref 1 1 0), (3, .d (.int .i64 i))], [(1, 1, some (.agg (.agg [(.int .i64 t.K), (.int .i64 t.N), (.str t.S), (.sl (List.map Term.toD t.L)), (.int .i64 t.From), (.int .i64 t.To)])))], [], 0⟩ := fun i t r h => ih (.ref06Named_L4 i t) r h
    intro r h
    show Trip Try.prog 19 [.d (.agg [(.int .i64 t.K), (.int .i64 t.N), (.str t.S), (.sl (List.map Term.toD t.L)), (.int .i64 t.From), (.int .i64 t.To)])] [] [.d (.bool r)] []
    replace h : ref06Named_B (fun i t => g (I_ref06Named.ref06Named_L4 i t)) t = some r := h
    unfold ref06Named_B at h
    refine trip_ev 1000 (by kernel_rfl) (by kernel_rfl) (by kernel_rfl) (by kernel_rfl) (e_ref06Named _ _ t _ _) ?_
    rintro _ rfl
    rintro _ rfl
    refine w_cond decide_eq_true_iff h (fun h => ?_) (fun h => ?_)
    ·
      cases h; exact ⟨rfl, rfl⟩
    ·
      exact ih_ref06Named_L4 _ _ _ h
  | ref06Named_L4 i t =>
    have ih_ref06Named : ∀ (t : Term) (r : Bool), g (I_ref06Named.ref06Named t) = some r → Trip Try.prog 19 [.d (.agg [(.int .i64 t.K), (.int .i64 t.N), (.str t.S), (.sl (List.map Term.toD t.L)), (.int .i64 t.From), (.int .i64 t.To)])] [] [.d (.bool r)] [] := fun t r h => ih (.ref06Named t) r h
    have ih_ref06Named_L4 : ∀ (i : Int) (t : Term) (r : Bool), g (I_ref06Named.ref06Named_L4 i t) = some r → Ok (c_ref06Named (Trip Try.prog) [.d (.bool r)] []) (kL Try.f19 4) ⟨21, [(1, .ref 1 1 0), (3, .d (.int .i64 i))], [(1, 1, some (.agg (.agg [(.int .i64 t.K), (.int .i64 t.N), (.str t.S), (.sl (List.map Term.toD t.L)), (.int .i64 t.From), (.int .i64 t.To)])))], [], 0⟩ := fun i t r h => ih (.ref06Named_L4 i t) r h
    intro r h
    show Ok (c_ref06Named (Trip Try.prog) [.d (.bool r)] []) (kL Try.f19 4) ⟨21, [(1, .ref 1 1 0), (3, .d (.int .i64 i))], [(1, 1, some (.agg (.agg [(.int .i64 t.K), (.int .i64 t.N), (.str t.S), (.sl (List.map Term.toD t.L)), (.int .i64 t.From), (.int .i64 t.To)])))], [], 0⟩
    replace h : ref06Named_L4_B (fun t => g (I_ref06Named.ref06Named t)) (fun i t => g (I_ref06Named.ref06Named_L4 i t)) i t = some r := h
    unfold ref06Named_L4_B at h
    refine ok_ev 1000 (e_ref06Named_L4 _ _ i t _ _) ?_
    refine w_nam (e' := (List.length t.L : Int)) (by first | rfl | rw [List.length_map]) ?_
    rintro _ rfl
    refine w_cond decide_eq_true_iff h (fun h => ?_) (fun h => ?_)
    ·
      obtain ⟨x, hx, h⟩ := w_bind h
      refine ⟨sizedL (l := t.L) (Term.sz), w_ge hx, x.K, x.N, x.S, List.map Term.toD x.L, x.From, x.To, w_get (Term.toD_eq x) hx, ?_⟩
      obtain ⟨q1, hq, h⟩ := w_bind h
      refine ⟨q1, ⟨_, ih_ref06Named _ _ hq⟩, ?_⟩
      refine w_cond Iff.rfl h (fun h => ?_) (fun h => ?_)
      ·
        cases h; exact ⟨rfl, rfl⟩
      ·
        rintro _ rfl
        exact ih_ref06Named_L4 _ _ _ h
    ·
      cases h; exact ⟨rfl, rfl⟩
theorem T_ref06Named (t : Term) (r : Bool) (h : ref06Named t = some r) : Trip Try.prog 19 [.d (.agg [(.int .i64 t.K), (.int .i64 t.N), (.str t.S), (.sl (List.map Term.toD t.L)), (.int .i64 t.From), (.int .i64 t.To)])] [] [.d (.bool r)] [] := G_ref06Named (.ref06Named t) r h
theorem T_ref06Named_L4 (i : Int) (t : Term) (r : Bool) (h : ref06Named_L4 i t = some r) : Ok (c_ref06Named (Trip Try.prog) [.d (.bool r)] []) (kL Try.f19 4) ⟨21, [(1, .ref 1 1 0), (3, .d (.int .i64 i))], [(1, 1, some (.agg (.agg [(.int .i64 t.K), (.int .i64 t.N), (.str t.S), (.sl (List.map Term.toD t.L)), (.int .i64 t.From), (.int .i64 t.To)])))], [], 0⟩ := G_ref06Named (.ref06Named_L4 i t) r h
theorem T_ref06Large (t : Term) (r : Bool) (h : ref06Large t = some r) : Trip Try.prog 6 [.d (.agg [(.int .i64 t.K), (.int .i64 t.N), (.str t.S), (.sl (List.map Term.toD t.L)), (.int .i64 t.From), (.int .i64 t.To)])] [] [.d (.bool r)] [] := by
  unfold ref06Large at h
  refine trip_ev 1000 (by kernel_rfl) (by kernel_rfl) (by kernel_rfl) (by kernel_rfl) (e_ref06Large _ _ t _ _) ?_
  obtain ⟨q1, hq, h⟩ := w_bind h
  refine ⟨q1, ⟨_, T_ref06Count _ _ _ _ hq⟩, ?_⟩
  rintro _ rfl
  refine w_cond decide_eq_true_iff h (fun h => ?_) (fun h => ?_)
  ·
    cases h; exact ⟨rfl, rfl⟩
  ·
    obtain ⟨q2, hq, h⟩ := w_bind h
    refine ⟨q2, ⟨_, T_ref06Named _ _ hq⟩, ?_⟩
    cases h; exact ⟨rfl, rfl⟩
def M_ref06Placed : (i : I_ref06Placed) → R_ref06Placed i → Prop
  | .ref06Placed a b, r => Trip Try.prog 10 [.d (.agg [(.int .i64 a.K), (.int .i64 a.N), (.str a.S), (.sl (List.map Term.toD a.L)), (.int .i64 a.From), (.int .i64 a.To)]), .d (.agg [(.int .i64 b.K), (.int .i64 b.N), (.str b.S), (.sl (List.map Term.toD b.L)), (.int .i64 b.From), (.int .i64 b.To)])] [] [.d (.bool r)] []
  | .ref06Placed_L4 i a b, r => Ok (c_ref06Placed (Trip Try.prog) [.d (.bool r)] []) (kL Try.f10 4) ⟨67, [(2, .ref 2 1 0), (3, .ref 3 1 0), (5, .d (.int .i64 i))], [(2, 1, some (.agg (.agg [(.int .i64 a.K), (.int .i64 a.N), (.str a.S), (.sl (List.map Term.toD a.L)), (.int .i64 a.From), (.int .i64 a.To)]))), (3, 1, some (.agg (.agg [(.int .i64 b.K), (.int .i64 b.N), (.str b.S), (.sl (List.map Term.toD b.L)), (.int .i64 b.From), (.int .i64 b.To)])))], [], 0⟩
theorem G_ref06Placed : ∀ i r, fixF F_ref06Placed i = some r → M_ref06Placed i r := by
  refine fixF_induct D_ref06Placed fun g ih i => ?_
  cases i with
  | ref06Placed a b =>
    have ih_ref06Placed_L4 : ∀ (i : Int) (a : Term) (b : Term) (r : Bool), g (I_ref06Placed.ref06Placed_L4 i a b) = some r → Ok (c_ref06Placed (Trip Try.prog) [.d (.bool r)] []) (kL Try.f10 4) ⟨67, [(2, .ref 2 1 0), (3, .ref 3 1 0), (5, .d (.int .i64 i))], [(2, 1, some (.agg (.agg [(.int .i64 a.K), (.int .i64 a.N), (.str a.S), (.sl (List.map Term.toD a.L)), (.int .i64 a.From), (.int .i64 a.To)]))), (3, 1, some (.agg (.agg [(.int .i64 b.K), (.int .i64 b.N), (.str b.S), (.sl (List.map Term.toD b.L)), (.int .i64 b.From), (.int .i64 b.To)])))], [], 0⟩ := fun i a b r h => ih (.ref06Placed_L4 i a b) r h
    intro r h
    show Trip Try.prog 10 [.d (.agg [(.int .i64 a.K), (.int .i64 a.N), (.str a.S), (.sl (List.map Term.toD a.L)), (.int .i64 a.From), (.int .i64 a.To)]), .d (.agg [(.int .i64 b.K), (.int .i64 b.N), (.str b.S), (.sl (List.map Term.toD b.L)), (.int .i64 b.From), (.int .i64 b.To)])] [] [.d (.bool r)] []
    replace h : ref06Placed_B (fun i a b => g (I_ref06Placed.ref06Placed_L4 i a b)) a b = some r := h
    unfold ref06Placed_B at h
    refine trip_ev 1000 (by kernel_rfl) (by kernel_rfl) (by kernel_rfl) (by kernel_rfl) (e_ref06Placed _ _ a b _ _) ?_
    rintro _ rfl
    refine w_cond (w_not beq_iff_eq) h (fun h => ?_) (fun h => ?_)
    ·
      cases h; exact ⟨rfl, rfl⟩
    ·
      rintro _ rfl
      refine w_cond (w_not beq_iff_eq) h (fun h => ?_) (fun h => ?_)
      ·
        cases h; exact ⟨rfl, rfl⟩
      ·
        rintro _ rfl
        refine w_cond (w_not beq_iff_eq) h (fun h => ?_) (fun h => ?_)
        ·
          cases h; exact ⟨rfl, rfl⟩
        ·
          rintro _ rfl
          refine w_cond (w_not beq_iff_eq) h (fun h => ?_) (fun h => ?_)
          ·
            cases h; exact ⟨rfl, rfl⟩
          ·
            rintro _ rfl
            refine w_cond (w_not beq_iff_eq) h (fun h => ?_) (fun h => ?_)
            ·
              cases h; exact ⟨rfl, rfl⟩
            ·
              refine w_nam (e' := (List.length a.L : Int)) (by first | rfl | rw [List.length_map]) ?_
              refine w_nam (e' := (List.length b.L : Int)) (by first | rfl | rw [List.length_map]) ?_
              rintro _ rfl
              refine w_cond (w_not beq_iff_eq) h (fun h => ?_) (fun h => ?_)
              ·
                cases h; exact ⟨rfl, rfl⟩
              ·
                exact ih_ref06Placed_L4 _ _ _ _ h
  | ref06Placed_L4 i a b =>
    have ih_ref06Placed : ∀ (a : Term) (b : Term) (r : Bool), g (I_ref06Placed.ref06Placed a b) = some r → Trip Try.prog 10 [.d (.agg [(.int .i64 a.K), (.int .i64 a.N), (.str a.S), (.sl (List.map Term.toD a.L)), (.int .i64 a.From), (.int .i64 a.To)]), .d (.agg [(.int .i64 b.K), (.int .i64 b.N), (.str b.S), (.sl (List.map Term.toD b.L)), (.int .i64 b.From), (.int .i64 b.To)])] [] [.d (.bool r)] [] := fun a b r h => ih (.ref06Placed a b) r h
    have ih_ref06Placed_L4 : ∀ (i : Int) (a : Term) (b : Term) (r : Bool), g (I_ref06Placed.ref06Placed_L4 i a b) = some r → Ok (c_ref06Placed (Trip Try.prog) [.d (.bool r)] []) (kL Try.f10 4) ⟨67, [(2, .ref 2 1 0), (3, .ref 3 1 0), (5, .d (.int .i64 i))], [(2, 1, some (.agg (.agg [(.int .i64 a.K), (.int .i64 a.N), (.str a.S), (.sl (List.map Term.toD a.L)), (.int .i64 a.From), (.int .i64 a.To)]))), (3, 1, some (.agg (.agg [(.int .i64 b.K), (.int .i64 b.N), (.str b.S), (.sl (List.map Term.toD b.L)), (.int .i64 b.From), (.int .i64 b.To)])))], [], 0⟩ := fun i a b r h => ih (.ref06Placed_L4 i a b) r h
    intro r h
    show Ok (c_ref06Placed (Trip Try.prog) [.d (.bool r)] []) (kL Try.f10 4) ⟨67, [(2, .ref 2 1 0), (3, .ref 3 1 0), (5, .d (.int .i64 i))], [(2, 1, some (.agg (.agg [(.int .i64 a.K), (.int .i64 a.N), (.str a.S), (.sl (List.map Term.toD a.L)), (.int .i64 a.From), (.int .i64 a.To)]))), (3, 1, some (.agg (.agg [(.int .i64 b.K), (.int .i64 b.N), (.str b.S), (.sl (List.map Term.toD b.L)), (.int .i64 b.From), (.int .i64 b.To)])))], [], 0⟩
    replace h : ref06Placed_L4_B (fun a b => g (I_ref06Placed.ref06Placed a b)) (fun i a b => g (I_ref06Placed.ref06Placed_L4 i a b)) i a b = some r := h
    unfold ref06Placed_L4_B at h
    refine ok_ev 1000 (e_ref06Placed_L4 _ _ i a b _ _) ?_
    refine w_nam (e' := (List.length a.L : Int)) (by first | rfl | rw [List.length_map]) ?_
    rintro _ rfl
    refine w_cond decide_eq_true_iff h (fun h => ?_) (fun h => ?_)
    ·
      obtain ⟨x, hx, h⟩ := w_bind h
      refine ⟨sizedL (l := a.L) (Term.sz), w_ge hx, x.K, x.N, x.S, List.map Term.toD x.L, x.From, x.To, w_get (Term.toD_eq x) hx, ?_⟩
      obtain ⟨x1, hx, h⟩ := w_bind h
      refine ⟨sizedL (l := b.L) (Term.sz), w_ge hx, x1.K, x1.N, x1.S, List.map Term.toD x1.L, x1.From, x1.To, w_get (Term.toD_eq x1) hx, ?_⟩
      obtain ⟨q1, hq, h⟩ := w_bind h
      refine ⟨q1, ⟨_, ih_ref06Placed _ _ _ hq⟩, ?_⟩
      refine w_cond (w_not Iff.rfl) h (fun h => ?_) (fun h => ?_)
      ·
        cases h; exact ⟨rfl, rfl⟩
      ·
        rintro _ rfl
        exact ih_ref06Placed_L4 _ _ _ _ h
    ·
      cases h; exact ⟨rfl, rfl⟩
theorem T_ref06Placed (a : Term) (b : Term) (r : Bool) (h : ref06Placed a b = some r) : Trip Try.prog 10 [.d (.agg [(.int .i64 a.K), (.int .i64 a.N), (.str a.S), (.sl (List.map Term.toD a.L)), (.int .i64 a.From), (.int .i64 a.To)]), .d (.agg [(.int .i64 b.K), (.int .i64 b.N), (.str b.S), (.sl (List.map Term.toD b.L)), (.int .i64 b.From), (.int .i64 b.To)])] [] [.d (.bool r)] [] := G_ref06Placed (.ref06Placed a b) r h
theorem T_ref06Placed_L4 (i : Int) (a : Term) (b : Term) (r : Bool) (h : ref06Placed_L4 i a b = some r) : Ok (c_ref06Placed (Trip Try.prog) [.d (.bool r)] []) (kL Try.f10 4) ⟨67, [(2, .ref 2 1 0), (3, .ref 3 1 0), (5, .d (.int .i64 i))], [(2, 1, some (.agg (.agg [(.int .i64 a.K), (.int .i64 a.N), (.str a.S), (.sl (List.map Term.toD a.L)), (.int .i64 a.From), (.int .i64 a.To)]))), (3, 1, some (.agg (.agg [(.int .i64 b.K), (.int .i64 b.N), (.str b.S), (.sl (List.map Term.toD b.L)), (.int .i64 b.From), (.int .i64 b.To)])))], [], 0⟩ := G_ref06Placed (.ref06Placed_L4 i a b) r h
def M_ref14In_L6 : (i : I_ref14In_L6) → R_ref14In_L6 i → Prop
  | .ref14In_L6 i n k t, r => Ok (c_ref14In (Trip Try.prog) [.d (.int .i64 r)] []) (kL Try.f12 6) ⟨63, [(1, .d (.int .i64 i)), (2, .ref 2 1 0), (5, .d (.int .i64 n)), (6, .d (.int .i64 k))], [(2, 1, some (.agg (.agg [(.int .i64 t.K), (.int .i64 t.N), (.str t.S), (.sl (List.map Term.toD t.L)), (.int .i64 t.From), (.int .i64 t.To)])))], [], 0⟩
theorem G_ref14In_L6 : ∀ i r, fixF F_ref14In_L6 i = some r → M_ref14In_L6 i r := by
  refine fixF_induct D_ref14In_L6 fun g ih i => ?_
  cases i with
  | ref14In_L6 i n k t =>
    have ih_ref14In_L6 : ∀ (i : Int) (n : Int) (k : Int) (t : Term) (r : Int), g (I_ref14In_L6.ref14In_L6 i n k t) = some r → Ok (c_ref14In (Trip Try.prog) [.d (.int .i64 r)] []) (kL Try.f12 6) ⟨63, [(1, .d (.int .i64 i)), (2, .ref 2 1 0), (5, .d (.int .i64 n)), (6, .d (.int .i64 k))], [(2, 1, some (.agg (.agg [(.int .i64 t.K), (.int .i64 t.N), (.str t.S), (.sl (List.map Term.toD t.L)), (.int .i64 t.From), (.int .i64 t.To)])))], [], 0⟩ := fun i n k t r h => ih (.ref14In_L6 i n k t) r h
    intro r h
    show Ok (c_ref14In (Trip Try.prog) [.d (.int .i64 r)] []) (kL Try.f12 6) ⟨63, [(1, .d (.int .i64 i)), (2, .ref 2 1 0), (5, .d (.int .i64 n)), (6, .d (.int .i64 k))], [(2, 1, some (.agg (.agg [(.int .i64 t.K), (.int .i64 t.N), (.str t.S), (.sl (List.map Term.toD t.L)), (.int .i64 t.From), (.int .i64 t.To)])))], [], 0⟩
    replace h : ref14In_L6_B (fun i n k t => g (I_ref14In_L6.ref14In_L6 i n k t)) i n k t = some r := h
    unfold ref14In_L6_B at h
    refine ok_ev 1000 (e_ref14In_L6 _ _ i n k t _ _) ?_
    rintro _ rfl
    refine w_cond decide_eq_true_iff h (fun h => ?_) (fun h => ?_)
    ·
      obtain ⟨x, hx, h⟩ := w_bind h
      refine ⟨sizedL (l := t.L) (Term.sz), w_ge hx, x.K, x.N, x.S, List.map Term.toD x.L, x.From, x.To, w_get (Term.toD_eq x) hx, ?_⟩
      rintro _ rfl
      refine w_cond beq_iff_eq h (fun h => ?_) (fun h => ?_)
      ·
        rintro _ rfl
        rintro _ rfl
        exact ih_ref14In_L6 _ _ _ _ _ h
      ·
        obtain ⟨x1, hx, h⟩ := w_bind h
        refine ⟨sizedL (l := t.L) (Term.sz), w_ge hx, x1.K, x1.N, x1.S, List.map Term.toD x1.L, x1.From, x1.To, w_get (Term.toD_eq x1) hx, ?_⟩
        rintro _ rfl
        refine w_cond beq_iff_eq h (fun h => ?_) (fun h => ?_)
        ·
          rintro _ rfl
          rintro _ rfl
          exact ih_ref14In_L6 _ _ _ _ _ h
        ·
          rintro _ rfl
          exact ih_ref14In_L6 _ _ _ _ _ h
    ·
      cases h; exact ⟨rfl, rfl⟩
theorem T_ref14In_L6 (i : Int) (n : Int) (k : Int) (t : Term) (r : Int) (h : ref14In_L6 i n k t = some r) : Ok (c_ref14In (Trip Try.prog) [.d (.int .i64 r)] []) (kL Try.f12 6) ⟨63, [(1, .d (.int .i64 i)), (2, .ref 2 1 0), (5, .d (.int .i64 n)), (6, .d (.int .i64 k))], [(2, 1, some (.agg (.agg [(.int .i64 t.K), (.int .i64 t.N), (.str t.S), (.sl (List.map Term.toD t.L)), (.int .i64 t.From), (.int .i64 t.To)])))], [], 0⟩ := G_ref14In_L6 (.ref14In_L6 i n k t) r h
theorem T_ref14In (t : Term) (i : Int) (r : Int) (h : ref14In t i = some r) : Trip Try.prog 12 [.d (.agg [(.int .i64 t.K), (.int .i64 t.N), (.str t.S), (.sl (List.map Term.toD t.L)), (.int .i64 t.From), (.int .i64 t.To)]), .d (.int .i64 i)] [] [.d (.int .i64 r)] [] := by
  unfold ref14In at h
  refine trip_ev 1000 (by kernel_rfl) (by kernel_rfl) (by kernel_rfl) (by kernel_rfl) (e_ref14In _ _ t i _ _) ?_
  rintro _ rfl
  refine w_cond decide_eq_true_iff h (fun h => ?_) (fun h => ?_)
  ·
    cases h; exact ⟨rfl, rfl⟩
  ·
    refine w_nam (e' := (List.length t.L : Int)) (by first | rfl | rw [List.length_map]) ?_
    rintro _ rfl
    refine w_cond decide_eq_true_iff h (fun h => ?_) (fun h => ?_)
    ·
      cases h; exact ⟨rfl, rfl⟩
    ·
      rintro _ rfl
      refine w_cond beq_iff_eq h (fun h => ?_) (fun h => ?_)
      ·
        exact T_ref14In_L6 _ _ _ _ _ h
      ·
        rintro _ rfl
        refine w_cond beq_iff_eq h (fun h => ?_) (fun h => ?_)
        ·
          rintro _ rfl
          refine w_cond beq_iff_eq h (fun h => ?_) (fun h => ?_)
          ·
            cases h; exact ⟨rfl, rfl⟩
          ·
            rintro _ rfl
            refine w_cond beq_iff_eq h (fun h => ?_) (fun h => ?_)
            ·
              rintro _ rfl
              refine w_cond beq_iff_eq h (fun h => ?_) (fun h => ?_)
              ·
                obtain ⟨x, hx, h⟩ := w_bind h
                refine ⟨sizedL (l := t.L) (Term.sz), w_ge hx, x.K, x.N, x.S, List.map Term.toD x.L, x.From, x.To, w_get (Term.toD_eq x) hx, ?_⟩
                refine w_nam (e' := (List.length x.L : Int)) (by first | rfl | rw [List.length_map]) ?_
                cases h; exact ⟨rfl, rfl⟩
              ·
                cases h; exact ⟨rfl, rfl⟩
            ·
              cases h; exact ⟨rfl, rfl⟩
        ·
          rintro _ rfl
          refine w_cond beq_iff_eq h (fun h => ?_) (fun h => ?_)
          ·
            rintro _ rfl
            refine w_cond beq_iff_eq h (fun h => ?_) (fun h => ?_)
            ·
              obtain ⟨x1, hx, h⟩ := w_bind h
              refine ⟨sizedL (l := t.L) (Term.sz), w_ge hx, x1.K, x1.N, x1.S, List.map Term.toD x1.L, x1.From, x1.To, w_get (Term.toD_eq x1) hx, ?_⟩
              refine w_nam (e' := (List.length x1.L : Int)) (by first | rfl | rw [List.length_map]) ?_
              cases h; exact ⟨rfl, rfl⟩
            ·
              cases h; exact ⟨rfl, rfl⟩
          ·
            cases h; exact ⟨rfl, rfl⟩
theorem T_ref14Outer (t : Term) (depth : Int) (r : Int) (h : ref14Outer t depth = some r) : Trip Try.prog 28 [.d (.agg [(.int .i64 t.K), (.int .i64 t.N), (.str t.S), (.sl (List.map Term.toD t.L)), (.int .i64 t.From), (.int .i64 t.To)]), .d (.int .i64 depth)] [] [.d (.int .i64 r)] [] := by
  unfold ref14Outer at h
  refine trip_ev 1000 (by kernel_rfl) (by kernel_rfl) (by kernel_rfl) (by kernel_rfl) (e_ref14Outer _ _ t depth _ _) ?_
  rintro _ rfl
  refine w_cond decide_eq_true_iff h (fun h => ?_) (fun h => ?_)
  ·
    cases h; exact ⟨rfl, rfl⟩
  ·
    rintro _ rfl
    cases h; exact ⟨rfl, rfl⟩
def M_ref14Meant : (i : I_ref14Meant) → R_ref14Meant i → Prop
  | .ref14Meant t lo hi depth, r => Trip Try.prog 22 [.d (.agg [(.int .i64 t.K), (.int .i64 t.N), (.str t.S), (.sl (List.map Term.toD t.L)), (.int .i64 t.From), (.int .i64 t.To)]), .d (.int .i64 lo), .d (.int .i64 hi), .d (.int .i64 depth)] [] [.d (.bool r)] []
  | .ref14Meant_L5 lo hi depth i t, r => Ok (c_ref14Meant (Trip Try.prog) [.d (.bool r)] []) (kL Try.f22 5) ⟨49, [(1, .d (.int .i64 lo)), (2, .d (.int .i64 hi)), (3, .d (.int .i64 depth)), (4, .ref 4 1 0), (10, .d (.int .i64 i))], [(4, 1, some (.agg (.agg [(.int .i64 t.K), (.int .i64 t.N), (.str t.S), (.sl (List.map Term.toD t.L)), (.int .i64 t.From), (.int .i64 t.To)])))], [], 0⟩
theorem G_ref14Meant : ∀ i r, fixF F_ref14Meant i = some r → M_ref14Meant i r := by
  refine fixF_induct D_ref14Meant fun g ih i => ?_
  cases i with
  | ref14Meant t lo hi depth =>
    have ih_ref14Meant_L5 : ∀ (lo : Int) (hi : Int) (depth : Int) (i : Int) (t : Term) (r : Bool), g (I_ref14Meant.ref14Meant_L5 lo hi depth i t) = some r → Ok (c_ref14Meant (Trip Try.prog) [.d (.bool r)] []) (kL Try.f22 5) ⟨49, [(1, .d (.int .i64 lo)), (2, .d (.int .i64 hi)), (3, .d (.int .i64 depth)), (4, .ref 4 1 0), (10, .d (.int .i64 i))], [(4, 1, some (.agg (.agg [(.int .i64 t.K), (.int .i64 t.N), (.str t.S), (.sl (List.map Term.toD t.L)), (.int .i64 t.From), (.int .i64 t.To)])))], [], 0⟩ := fun lo hi depth i t r h => ih (.ref14Meant_L5 lo hi depth i t) r h
    intro r h
    show Trip Try.prog 22 [.d (.agg [(.int .i64 t.K), (.int .i64 t.N), (.str t.S), (.sl (List.map Term.toD t.L)), (.int .i64 t.From), (.int .i64 t.To)]), .d (.int .i64 lo), .d (.int .i64 hi), .d (.int .i64 depth)] [] [.d (.bool r)] []
    replace h : ref14Meant_B (fun lo hi depth i t => g (I_ref14Meant.ref14Meant_L5 lo hi depth i t)) t lo hi depth = some r := h
    unfold ref14Meant_B at h
    refine trip_ev 1000 (by kernel_rfl) (by kernel_rfl) (by kernel_rfl) (by kernel_rfl) (e_ref14Meant _ _ t lo hi depth _ _) ?_
    rintro _ rfl
    refine w_cond beq_iff_eq h (fun h => ?_) (fun h => ?_)
    ·
      obtain ⟨q1, hq, h⟩ := w_bind h
      refine ⟨q1, ⟨_, T_ref14Outer _ _ _ hq⟩, ?_⟩
      rintro _ rfl
      refine w_cond decide_eq_true_iff h (fun h => ?_) (fun h => ?_)
      ·
        rintro _ rfl
        refine w_cond decide_eq_true_iff h (fun h => ?_) (fun h => ?_)
        ·
          rintro _ rfl
          cases h; exact ⟨rfl, rfl⟩
        ·
          cases h; exact ⟨rfl, rfl⟩
      ·
        cases h; exact ⟨rfl, rfl⟩
    ·
      exact ih_ref14Meant_L5 _ _ _ _ _ _ h
  | ref14Meant_L5 lo hi depth i t =>
    have ih_ref14Meant : ∀ (t : Term) (lo : Int) (hi : Int) (depth : Int) (r : Bool), g (I_ref14Meant.ref14Meant t lo hi depth) = some r → Trip Try.prog 22 [.d (.agg [(.int .i64 t.K), (.int .i64 t.N), (.str t.S), (.sl (List.map Term.toD t.L)), (.int .i64 t.From), (.int .i64 t.To)]), .d (.int .i64 lo), .d (.int .i64 hi), .d (.int .i64 depth)] [] [.d (.bool r)] [] := fun t lo hi depth r h => ih (.ref14Meant t lo hi depth) r h
    have ih_ref14Meant_L5 : ∀ (lo : Int) (hi : Int) (depth : Int) (i : Int) (t : Term) (r : Bool), g (I_ref14Meant.ref14Meant_L5 lo hi depth i t) = some r → Ok (c_ref14Meant (Trip Try.prog) [.d (.bool r)] []) (kL Try.f22 5) ⟨49, [(1, .d (.int .i64 lo)), (2, .d (.int .i64 hi)), (3, .d (.int .i64 depth)), (4, .ref 4 1 0), (10, .d (.int .i64 i))], [(4, 1, some (.agg (.agg [(.int .i64 t.K), (.int .i64 t.N), (.str t.S), (.sl (List.map Term.toD t.L)), (.int .i64 t.From), (.int .i64 t.To)])))], [], 0⟩ := fun lo hi depth i t r h => ih (.ref14Meant_L5 lo hi depth i t) r h
    intro r h
    show Ok (c_ref14Meant (Trip Try.prog) [.d (.bool r)] []) (kL Try.f22 5) ⟨49, [(1, .d (.int .i64 lo)), (2, .d (.int .i64 hi)), (3, .d (.int .i64 depth)), (4, .ref 4 1 0), (10, .d (.int .i64 i))], [(4, 1, some (.agg (.agg [(.int .i64 t.K), (.int .i64 t.N), (.str t.S), (.sl (List.map Term.toD t.L)), (.int .i64 t.From), (.int .i64 t.To)])))], [], 0⟩
    replace h : ref14Meant_L5_B (fun t lo hi depth => g (I_ref14Meant.ref14Meant t lo hi depth)) (fun lo hi depth i t => g (I_ref14Meant.ref14Meant_L5 lo hi depth i t)) lo hi depth i t = some r := h
    unfold ref14Meant_L5_B at h
    refine ok_ev 1000 (e_ref14Meant_L5 _ _ lo hi depth i t _ _) ?_
    refine w_nam (e' := (List.length t.L : Int)) (by first | rfl | rw [List.length_map]) ?_
    rintro _ rfl
    refine w_cond decide_eq_true_iff h (fun h => ?_) (fun h => ?_)
    ·
      obtain ⟨x, hx, h⟩ := w_bind h
      refine ⟨sizedL (l := t.L) (Term.sz), w_ge hx, x.K, x.N, x.S, List.map Term.toD x.L, x.From, x.To, w_get (Term.toD_eq x) hx, ?_⟩
      obtain ⟨q1, hq, h⟩ := w_bind h
      refine ⟨q1, ⟨_, T_ref14In _ _ _ hq⟩, ?_⟩
      rintro _ rfl
      obtain ⟨q2, hq, h⟩ := w_bind h
      refine ⟨q2, ⟨_, ih_ref14Meant _ _ _ _ _ hq⟩, ?_⟩
      refine w_cond Iff.rfl h (fun h => ?_) (fun h => ?_)
      ·
        cases h; exact ⟨rfl, rfl⟩
      ·
        rintro _ rfl
        exact ih_ref14Meant_L5 _ _ _ _ _ _ h
    ·
      cases h; exact ⟨rfl, rfl⟩
theorem T_ref14Meant (t : Term) (lo : Int) (hi : Int) (depth : Int) (r : Bool) (h : ref14Meant t lo hi depth = some r) : Trip Try.prog 22 [.d (.agg [(.int .i64 t.K), (.int .i64 t.N), (.str t.S), (.sl (List.map Term.toD t.L)), (.int .i64 t.From), (.int .i64 t.To)]), .d (.int .i64 lo), .d (.int .i64 hi), .d (.int .i64 depth)] [] [.d (.bool r)] [] := G_ref14Meant (.ref14Meant t lo hi depth) r h
theorem T_ref14Meant_L5 (lo : Int) (hi : Int) (depth : Int) (i : Int) (t : Term) (r : Bool) (h : ref14Meant_L5 lo hi depth i t = some r) : Ok (c_ref14Meant (Trip Try.prog) [.d (.bool r)] []) (kL Try.f22 5) ⟨49, [(1, .d (.int .i64 lo)), (2, .d (.int .i64 hi)), (3, .d (.int .i64 depth)), (4, .ref 4 1 0), (10, .d (.int .i64 i))], [(4, 1, some (.agg (.agg [(.int .i64 t.K), (.int .i64 t.N), (.str t.S), (.sl (List.map Term.toD t.L)), (.int .i64 t.From), (.int .i64 t.To)])))], [], 0⟩ := G_ref14Meant (.ref14Meant_L5 lo hi depth i t) r h
def M_ref14Raise : (i : I_ref14Raise) → R_ref14Raise i → Prop
  | .ref14Raise t by_ from_ depth, r => Trip Try.prog 23 [.d (.agg [(.int .i64 t.K), (.int .i64 t.N), (.str t.S), (.sl (List.map Term.toD t.L)), (.int .i64 t.From), (.int .i64 t.To)]), .d (.int .i64 by_), .d (.int .i64 from_), .d (.int .i64 depth)] [] [.d (.agg [(.int .i64 r.K), (.int .i64 r.N), (.str r.S), (.sl (List.map Term.toD r.L)), (.int .i64 r.From), (.int .i64 r.To)])] []
  | .ref14Raise_L7 by_ from_ depth out i t o8, r => Ok (c_ref14Raise (Trip Try.prog) [.d (.agg [(.int .i64 r.K), (.int .i64 r.N), (.str r.S), (.sl (List.map Term.toD r.L)), (.int .i64 r.From), (.int .i64 r.To)])] []) (kL Try.f23 7) ⟨61, [(1, .d (.int .i64 by_)), (2, .d (.int .i64 from_)), (3, .d (.int .i64 depth)), (4, .ref 4 1 0), (8, .ref 8 1 0), (9, .right 25 1 6 (List.map Term.toD out)), (10, .d (.int .i64 i))], [(4, 1, some (.agg (.agg [(.int .i64 t.K), (.int .i64 t.N), (.str t.S), (.sl (List.map Term.toD t.L)), (.int .i64 t.From), (.int .i64 t.To)]))), (8, 1, some (.agg (.agg [(.int .i64 o8.K), (.int .i64 o8.N), (.str o8.S), (.sl (List.map Term.toD o8.L)), (.int .i64 o8.From), (.int .i64 o8.To)]))), (25, 1, some (.tok 6 (List.length (List.map Term.toD out))))], [], 0⟩
theorem G_ref14Raise : ∀ i r, fixF F_ref14Raise i = some r → M_ref14Raise i r := by
  refine fixF_induct D_ref14Raise fun g ih i => ?_
  cases i with
  | ref14Raise t by_ from_ depth =>
    have ih_ref14Raise_L7 : ∀ (by_ : Int) (from_ : Int) (depth : Int) (out : List Term) (i : Int) (t : Term) (o8 : Term) (r : Term), g (I_ref14Raise.ref14Raise_L7 by_ from_ depth out i t o8) = some r → Ok (c_ref14Raise (Trip Try.prog) [.d (.agg [(.int .i64 r.K), (.int .i64 r.N), (.str r.S), (.sl (List.map Term.toD r.L)), (.int .i64 r.From), (.int .i64 r.To)])] []) (kL Try.f23 7) ⟨61, [(1, .d (.int .i64 by_)), (2, .d (.int .i64 from_)), (3, .d (.int .i64 depth)), (4, .ref 4 1 0), (8, .ref 8 1 0), (9, .right 25 1 6 (List.map Term.toD out)), (10, .d (.int .i64 i))], [(4, 1, some (.agg (.agg [(.int .i64 t.K), (.int .i64 t.N), (.str t.S), (.sl (List.map Term.toD t.L)), (.int .i64 t.From), (.int .i64 t.To)]))), (8, 1, some (.agg (.agg [(.int .i64 o8.K), (.int .i64 o8.N), (.str o8.S), (.sl (List.map Term.toD o8.L)), (.int .i64 o8.From), (.int .i64 o8.To)]))), (25, 1, some (.tok 6 (List.length (List.map Term.toD out))))], [], 0⟩ := fun by_ from_ depth out i t o8 r h => ih (.ref14Raise_L7 by_ from_ depth out i t o8) r h
    intro r h
    show Trip Try.prog 23 [.d (.agg [(.int .i64 t.K), (.int .i64 t.N), (.str t.S), (.sl (List.map Term.toD t.L)), (.int .i64 t.From), (.int .i64 t.To)]), .d (.int .i64 by_), .d (.int .i64 from_), .d (.int .i64 depth)] [] [.d (.agg [(.int .i64 r.K), (.int .i64 r.N), (.str r.S), (.sl (List.map Term.toD r.L)), (.int .i64 r.From), (.int .i64 r.To)])] []
    replace h : ref14Raise_B (fun by_ from_ depth out i t o8 => g (I_ref14Raise.ref14Raise_L7 by_ from_ depth out i t o8)) t by_ from_ depth = some r := h
    unfold ref14Raise_B at h
    refine trip_ev 1000 (by kernel_rfl) (by kernel_rfl) (by kernel_rfl) (by kernel_rfl) (e_ref14Raise _ _ t by_ from_ depth _ _) ?_
    rintro _ rfl
    refine w_cond beq_iff_eq h (fun h => ?_) (fun h => ?_)
    ·
      obtain ⟨q1, hq, h⟩ := w_bind h
      refine ⟨q1, ⟨_, T_ref14Outer _ _ _ hq⟩, ?_⟩
      rintro _ rfl
      refine w_cond decide_eq_true_iff h (fun h => ?_) (fun h => ?_)
      ·
        rintro _ rfl
        cases h; exact ⟨rfl, rfl⟩
      ·
        cases h; exact ⟨rfl, rfl⟩
    ·
      exact ih_ref14Raise_L7 _ _ _ _ _ _ _ _ h
  | ref14Raise_L7 by_ from_ depth out i t o8 =>
    have ih_ref14Raise : ∀ (t : Term) (by_ : Int) (from_ : Int) (depth : Int) (r : Term), g (I_ref14Raise.ref14Raise t by_ from_ depth) = some r → Trip Try.prog 23 [.d (.agg [(.int .i64 t.K), (.int .i64 t.N), (.str t.S), (.sl (List.map Term.toD t.L)), (.int .i64 t.From), (.int .i64 t.To)]), .d (.int .i64 by_), .d (.int .i64 from_), .d (.int .i64 depth)] [] [.d (.agg [(.int .i64 r.K), (.int .i64 r.N), (.str r.S), (.sl (List.map Term.toD r.L)), (.int .i64 r.From), (.int .i64 r.To)])] [] := fun t by_ from_ depth r h => ih (.ref14Raise t by_ from_ depth) r h
    have ih_ref14Raise_L7 : ∀ (by_ : Int) (from_ : Int) (depth : Int) (out : List Term) (i : Int) (t : Term) (o8 : Term) (r : Term), g (I_ref14Raise.ref14Raise_L7 by_ from_ depth out i t o8) = some r → Ok (c_ref14Raise (Trip Try.prog) [.d (.agg [(.int .i64 r.K), (.int .i64 r.N), (.str r.S), (.sl (List.map Term.toD r.L)), (.int .i64 r.From), (.int .i64 r.To)])] []) (kL Try.f23 7) ⟨61, [(1, .d (.int .i64 by_)), (2, .d (.int .i64 from_)), (3, .d (.int .i64 depth)), (4, .ref 4 1 0), (8, .ref 8 1 0), (9, .right 25 1 6 (List.map Term.toD out)), (10, .d (.int .i64 i))], [(4, 1, some (.agg (.agg [(.int .i64 t.K), (.int .i64 t.N), (.str t.S), (.sl (List.map Term.toD t.L)), (.int .i64 t.From), (.int .i64 t.To)]))), (8, 1, some (.agg (.agg [(.int .i64 o8.K), (.int .i64 o8.N), (.str o8.S), (.sl (List.map Term.toD o8.L)), (.int .i64 o8.From), (.int .i64 o8.To)]))), (25, 1, some (.tok 6 (List.length (List.map Term.toD out))))], [], 0⟩ := fun by_ from_ depth out i t o8 r h => ih (.ref14Raise_L7 by_ from_ depth out i t o8) r h
    intro r h
    show Ok (c_ref14Raise (Trip Try.prog) [.d (.agg [(.int .i64 r.K), (.int .i64 r.N), (.str r.S), (.sl (List.map Term.toD r.L)), (.int .i64 r.From), (.int .i64 r.To)])] []) (kL Try.f23 7) ⟨61, [(1, .d (.int .i64 by_)), (2, .d (.int .i64 from_)), (3, .d (.int .i64 depth)), (4, .ref 4 1 0), (8, .ref 8 1 0), (9, .right 25 1 6 (List.map Term.toD out)), (10, .d (.int .i64 i))], [(4, 1, some (.agg (.agg [(.int .i64 t.K), (.int .i64 t.N), (.str t.S), (.sl (List.map Term.toD t.L)), (.int .i64 t.From), (.int .i64 t.To)]))), (8, 1, some (.agg (.agg [(.int .i64 o8.K), (.int .i64 o8.N), (.str o8.S), (.sl (List.map Term.toD o8.L)), (.int .i64 o8.From), (.int .i64 o8.To)]))), (25, 1, some (.tok 6 (List.length (List.map Term.toD out))))], [], 0⟩
    replace h : ref14Raise_L7_B (fun t by_ from_ depth => g (I_ref14Raise.ref14Raise t by_ from_ depth)) (fun by_ from_ depth out i t o8 => g (I_ref14Raise.ref14Raise_L7 by_ from_ depth out i t o8)) by_ from_ depth out i t o8 = some r := h
    unfold ref14Raise_L7_B at h
    refine ok_ev 1000 (e_ref14Raise_L7 _ _ by_ from_ depth out i t o8 _ _) ?_
    refine w_nam (e' := (List.length t.L : Int)) (by first | rfl | rw [List.length_map]) ?_
    rintro _ rfl
    refine w_cond decide_eq_true_iff h (fun h => ?_) (fun h => ?_)
    ·
      obtain ⟨x, hx, h⟩ := w_bind h
      refine ⟨sizedL (l := t.L) (Term.sz), w_ge hx, x.K, x.N, x.S, List.map Term.toD x.L, x.From, x.To, w_get (Term.toD_eq x) hx, ?_⟩
      obtain ⟨q1, hq, h⟩ := w_bind h
      refine ⟨q1, ⟨_, T_ref14In _ _ _ hq⟩, ?_⟩
      rintro _ rfl
      obtain ⟨q2, hq, h⟩ := w_bind h
      refine ⟨q2.K, q2.N, q2.S, List.map Term.toD q2.L, q2.From, q2.To, ⟨_, ih_ref14Raise _ _ _ _ _ hq⟩, ?_⟩
      refine ⟨by simp [sized, D.cells], ?_⟩
      refine ⟨by first | rfl | decide | simp only [List.length_map, List.length_cons, List.length_nil, List.map_append, List.length_append], ?_⟩
      obtain ⟨hP, h⟩ := w_chk h
      refine ⟨by first | exact hP | (simp only [List.length_map, List.length_cons, List.length_nil] at hP ⊢; exact hP), ?_⟩
      refine w_nam (e' := List.map Term.toD (out ++ [q2])) (by first | rfl | simp only [List.map_append, List.map_cons, List.map_nil, List.map_take, List.map_drop, List.map_set, List.map_replicate, List.length_map, Term.toD_eq]) ?_
      rintro _ rfl
      exact ih_ref14Raise_L7 _ _ _ _ _ _ _ _ h
    ·
      cases h; exact ⟨rfl, rfl⟩
theorem T_ref14Raise (t : Term) (by_ : Int) (from_ : Int) (depth : Int) (r : Term) (h : ref14Raise t by_ from_ depth = some r) : Trip Try.prog 23 [.d (.agg [(.int .i64 t.K), (.int .i64 t.N), (.str t.S), (.sl (List.map Term.toD t.L)), (.int .i64 t.From), (.int .i64 t.To)]), .d (.int .i64 by_), .d (.int .i64 from_), .d (.int .i64 depth)] [] [.d (.agg [(.int .i64 r.K), (.int .i64 r.N), (.str r.S), (.sl (List.map Term.toD r.L)), (.int .i64 r.From), (.int .i64 r.To)])] [] := G_ref14Raise (.ref14Raise t by_ from_ depth) r h
theorem T_ref14Raise_L7 (by_ : Int) (from_ : Int) (depth : Int) (out : List Term) (i : Int) (t : Term) (o8 : Term) (r : Term) (h : ref14Raise_L7 by_ from_ depth out i t o8 = some r) : Ok (c_ref14Raise (Trip Try.prog) [.d (.agg [(.int .i64 r.K), (.int .i64 r.N), (.str r.S), (.sl (List.map Term.toD r.L)), (.int .i64 r.From), (.int .i64 r.To)])] []) (kL Try.f23 7) ⟨61, [(1, .d (.int .i64 by_)), (2, .d (.int .i64 from_)), (3, .d (.int .i64 depth)), (4, .ref 4 1 0), (8, .ref 8 1 0), (9, .right 25 1 6 (List.map Term.toD out)), (10, .d (.int .i64 i))], [(4, 1, some (.agg (.agg [(.int .i64 t.K), (.int .i64 t.N), (.str t.S), (.sl (List.map Term.toD t.L)), (.int .i64 t.From), (.int .i64 t.To)]))), (8, 1, some (.agg (.agg [(.int .i64 o8.K), (.int .i64 o8.N), (.str o8.S), (.sl (List.map Term.toD o8.L)), (.int .i64 o8.From), (.int .i64 o8.To)]))), (25, 1, some (.tok 6 (List.length (List.map Term.toD out))))], [], 0⟩ := G_ref14Raise (.ref14Raise_L7 by_ from_ depth out i t o8) r h
theorem T_ref14Shift (t : Term) (by_ : Int) (from_ : Int) (r : Term × Bool) (h : ref14Shift t by_ from_ = some r) : Trip Try.prog 9 [.d (.agg [(.int .i64 t.K), (.int .i64 t.N), (.str t.S), (.sl (List.map Term.toD t.L)), (.int .i64 t.From), (.int .i64 t.To)]), .d (.int .i64 by_), .d (.int .i64 from_)] [] [.d (.agg [(.int .i64 r.1.K), (.int .i64 r.1.N), (.str r.1.S), (.sl (List.map Term.toD r.1.L)), (.int .i64 r.1.From), (.int .i64 r.1.To)]), .d (.bool r.2)] [] := by
  unfold ref14Shift at h
  refine trip_ev 1000 (by kernel_rfl) (by kernel_rfl) (by kernel_rfl) (by kernel_rfl) (e_ref14Shift _ _ t by_ from_ _ _) ?_
  rintro _ rfl
  refine w_cond decide_eq_true_iff h (fun h => ?_) (fun h => ?_)
  ·
    cases h; exact ⟨rfl, rfl⟩
  ·
    rintro _ rfl
    refine w_cond decide_eq_true_iff h (fun h => ?_) (fun h => ?_)
    ·
      cases h; exact ⟨rfl, rfl⟩
    ·
      rintro _ rfl
      refine w_cond decide_eq_true_iff h (fun h => ?_) (fun h => ?_)
      ·
        cases h; exact ⟨rfl, rfl⟩
      ·
        rintro _ rfl
        refine w_cond decide_eq_true_iff h (fun h => ?_) (fun h => ?_)
        ·
          cases h; exact ⟨rfl, rfl⟩
        ·
          rintro _ rfl
          refine w_cond decide_eq_true_iff h (fun h => ?_) (fun h => ?_)
          ·
            rintro _ rfl
            obtain ⟨q1, hq, h⟩ := w_bind h
            refine ⟨q1, ⟨_, T_ref14Meant _ _ _ _ _ hq⟩, ?_⟩
            refine w_cond Iff.rfl h (fun h => ?_) (fun h => ?_)
            ·
              cases h; exact ⟨rfl, rfl⟩
            ·
              obtain ⟨q2, hq, h⟩ := w_bind h
              refine ⟨q2.K, q2.N, q2.S, List.map Term.toD q2.L, q2.From, q2.To, ⟨_, T_ref14Raise _ _ _ _ _ hq⟩, ?_⟩
              cases h; exact ⟨rfl, rfl⟩
          ·
            obtain ⟨q3, hq, h⟩ := w_bind h
            refine ⟨q3.K, q3.N, q3.S, List.map Term.toD q3.L, q3.From, q3.To, ⟨_, T_ref14Raise _ _ _ _ _ hq⟩, ?_⟩
            cases h; exact ⟨rfl, rfl⟩
theorem T_law14ShiftMoves (t : Term) (by_ : Int) (from_ : Int) (r : Bool) (h : law14ShiftMoves t by_ from_ = some r) : Trip Try.prog 3 [.d (.agg [(.int .i64 t.K), (.int .i64 t.N), (.str t.S), (.sl (List.map Term.toD t.L)), (.int .i64 t.From), (.int .i64 t.To)]), .d (.int .i64 by_), .d (.int .i64 from_)] [] [.d (.bool r)] [] := by
  unfold law14ShiftMoves at h
  refine trip_ev 1000 (by kernel_rfl) (by kernel_rfl) (by kernel_rfl) (by kernel_rfl) (e_law14ShiftMoves _ _ t by_ from_ _ _) ?_
  obtain ⟨q1, hq, h⟩ := w_bind h
  refine ⟨q1, ⟨_, T_ref06Large _ _ hq⟩, ?_⟩
  refine w_cond Iff.rfl h (fun h => ?_) (fun h => ?_)
  ·
    obtain ⟨q2, hq, h⟩ := w_bind h
    refine ⟨q2, ⟨_, T_law14awake _ hq⟩, ?_⟩
    cases h; exact ⟨rfl, rfl⟩
  ·
    obtain ⟨q3, hq, h⟩ := w_bind h
    refine ⟨q3.1.K, q3.1.N, q3.1.S, List.map Term.toD q3.1.L, q3.1.From, q3.1.To, q3.2.1, ⟨_, T_shift_Shift _ _ _ _ hq⟩, ?_⟩
    obtain ⟨q4, hq, h⟩ := w_bind h
    refine ⟨q4.1.K, q4.1.N, q4.1.S, List.map Term.toD q4.1.L, q4.1.From, q4.1.To, q4.2, ⟨_, T_ref14Shift _ _ _ _ hq⟩, ?_⟩
    rintro _ rfl
    refine w_cond beq_iff_eq h (fun h => ?_) (fun h => ?_)
    ·
      obtain ⟨q5, hq, h⟩ := w_bind h
      refine ⟨q5, ⟨_, T_ref06Placed _ _ _ hq⟩, ?_⟩
      refine w_cond Iff.rfl h (fun h => ?_) (fun h => ?_)
      ·
        obtain ⟨q6, hq, h⟩ := w_bind h
        refine ⟨q6, ⟨_, T_shift_In _ _ _ hq⟩, ?_⟩
        obtain ⟨q7, hq, h⟩ := w_bind h
        refine ⟨q7, ⟨_, T_ref14In _ _ _ hq⟩, ?_⟩
        rintro _ rfl
        refine w_cond beq_iff_eq h (fun h => ?_) (fun h => ?_)
        ·
          obtain ⟨q8, hq, h⟩ := w_bind h
          refine ⟨q8, ⟨_, T_law14awake _ hq⟩, ?_⟩
          cases h; exact ⟨rfl, rfl⟩
        ·
          cases h; exact ⟨rfl, rfl⟩
      ·
        cases h; exact ⟨rfl, rfl⟩
    ·
      cases h; exact ⟨rfl, rfl⟩
def M_ref14Wild : (i : I_ref14Wild) → R_ref14Wild i → Prop
  | .ref14Wild t, r => Trip Try.prog 13 [.d (.agg [(.int .i64 t.K), (.int .i64 t.N), (.str t.S), (.sl (List.map Term.toD t.L)), (.int .i64 t.From), (.int .i64 t.To)])] [] [.d (.bool r)] []
  | .ref14Wild_L4 i t, r => Ok (c_ref14Wild (Trip Try.prog) [.d (.bool r)] []) (kL Try.f13 4) ⟨25, [(1, .ref 1 1 0), (3, .d (.int .i64 i))], [(1, 1, some (.agg (.agg [(.int .i64 t.K), (.int .i64 t.N), (.str t.S), (.sl (List.map Term.toD t.L)), (.int .i64 t.From), (.int .i64 t.To)])))], [], 0⟩
theorem G_ref14Wild : ∀ i r, fixF F_ref14Wild i = some r → M_ref14Wild i r := by
  refine fixF_induct D_ref14Wild fun g ih i => ?_
  cases i with
  | ref14Wild t =>
    have ih_ref14Wild_L4 : ∀ (i : Int) (t : Term) (r : Bool), g (I_ref14Wild.ref14Wild_L4 i t) = some r → Ok (c_ref14Wild (Trip Try.prog) [.d (.bool r)] []) (kL Try.f13 4) ⟨25, [(1, .ref 1 1 0), (3, .d (.int .i64 i))], [(1, 1, some (.agg (.agg [(.int .i64 t.K), (.int .i64 t.N), (.str t.S), (.sl (List.map Term.toD t.L)), (.int .i64 t.From), (.int .i64 t.To)])))], [], 0⟩ := fun i t r h => ih (.ref14Wild_L4 i t) r h
    intro r h
    show Trip Try.prog 13 [.d (.agg [(.int .i64 t.K), (.int .i64 t.N), (.str t.S), (.sl (List.map Term.toD t.L)), (.int .i64 t.From), (.int .i64 t.To)])] [] [.d (.bool r)] []
    replace h : ref14Wild_B (fun i t => g (I_ref14Wild.ref14Wild_L4 i t)) t = some r := h
    unfold ref14Wild_B at h
    refine trip_ev 1000 (by kernel_rfl) (by kernel_rfl) (by kernel_rfl) (by kernel_rfl) (e_ref14Wild _ _ t _ _) ?_
    rintro _ rfl
    refine w_cond beq_iff_eq h (fun h => ?_) (fun h => ?_)
    ·
      rintro _ rfl
      refine w_cond decide_eq_true_iff h (fun h => ?_) (fun h => ?_)
      ·
        cases h; exact ⟨rfl, rfl⟩
      ·
        exact ih_ref14Wild_L4 _ _ _ h
    ·
      exact ih_ref14Wild_L4 _ _ _ h
  | ref14Wild_L4 i t =>
    have ih_ref14Wild : ∀ (t : Term) (r : Bool), g (I_ref14Wild.ref14Wild t) = some r → Trip Try.prog 13 [.d (.agg [(.int .i64 t.K), (.int .i64 t.N), (.str t.S), (.sl (List.map Term.toD t.L)), (.int .i64 t.From), (.int .i64 t.To)])] [] [.d (.bool r)] [] := fun t r h => ih (.ref14Wild t) r h
    have ih_ref14Wild_L4 : ∀ (i : Int) (t : Term) (r : Bool), g (I_ref14Wild.ref14Wild_L4 i t) = some r → Ok (c_ref14Wild (Trip Try.prog) [.d (.bool r)] []) (kL Try.f13 4) ⟨25, [(1, .ref 1 1 0), (3, .d (.int .i64 i))], [(1, 1, some (.agg (.agg [(.int .i64 t.K), (.int .i64 t.N), (.str t.S), (.sl (List.map Term.toD t.L)), (.int .i64 t.From), (.int .i64 t.To)])))], [], 0⟩ := fun i t r h => ih (.ref14Wild_L4 i t) r h
    intro r h
    show Ok (c_ref14Wild (Trip Try.prog) [.d (.bool r)] []) (kL Try.f13 4) ⟨25, [(1, .ref 1 1 0), (3, .d (.int .i64 i))], [(1, 1, some (.agg (.agg [(.int .i64 t.K), (.int .i64 t.N), (.str t.S), (.sl (List.map Term.toD t.L)), (.int .i64 t.From), (.int .i64 t.To)])))], [], 0⟩
    replace h : ref14Wild_L4_B (fun t => g (I_ref14Wild.ref14Wild t)) (fun i t => g (I_ref14Wild.ref14Wild_L4 i t)) i t = some r := h
    unfold ref14Wild_L4_B at h
    refine ok_ev 1000 (e_ref14Wild_L4 _ _ i t _ _) ?_
    refine w_nam (e' := (List.length t.L : Int)) (by first | rfl | rw [List.length_map]) ?_
    rintro _ rfl
    refine w_cond decide_eq_true_iff h (fun h => ?_) (fun h => ?_)
    ·
      obtain ⟨x, hx, h⟩ := w_bind h
      refine ⟨sizedL (l := t.L) (Term.sz), w_ge hx, x.K, x.N, x.S, List.map Term.toD x.L, x.From, x.To, w_get (Term.toD_eq x) hx, ?_⟩
      obtain ⟨q1, hq, h⟩ := w_bind h
      refine ⟨q1, ⟨_, ih_ref14Wild _ _ hq⟩, ?_⟩
      refine w_cond Iff.rfl h (fun h => ?_) (fun h => ?_)
      ·
        cases h; exact ⟨rfl, rfl⟩
      ·
        rintro _ rfl
        exact ih_ref14Wild_L4 _ _ _ h
    ·
      cases h; exact ⟨rfl, rfl⟩
theorem T_ref14Wild (t : Term) (r : Bool) (h : ref14Wild t = some r) : Trip Try.prog 13 [.d (.agg [(.int .i64 t.K), (.int .i64 t.N), (.str t.S), (.sl (List.map Term.toD t.L)), (.int .i64 t.From), (.int .i64 t.To)])] [] [.d (.bool r)] [] := G_ref14Wild (.ref14Wild t) r h
theorem T_ref14Wild_L4 (i : Int) (t : Term) (r : Bool) (h : ref14Wild_L4 i t = some r) : Ok (c_ref14Wild (Trip Try.prog) [.d (.bool r)] []) (kL Try.f13 4) ⟨25, [(1, .ref 1 1 0), (3, .d (.int .i64 i))], [(1, 1, some (.agg (.agg [(.int .i64 t.K), (.int .i64 t.N), (.str t.S), (.sl (List.map Term.toD t.L)), (.int .i64 t.From), (.int .i64 t.To)])))], [], 0⟩ := G_ref14Wild (.ref14Wild_L4 i t) r h
theorem T_shift_finder_turn (t : Term) (depth : Int) (at_ : Int) (found : Bool) (r : Term × Int × Bool) (h : shift_finder_turn t depth at_ found = some r) : Trip Try.prog 25 [.hp 0 0, .d (.agg [(.int .i64 t.K), (.int .i64 t.N), (.str t.S), (.sl (List.map Term.toD t.L)), (.int .i64 t.From), (.int .i64 t.To)]), .d (.int .i64 depth)] [[.d (.int .i64 at_), .d (.bool found)]] [.d (.agg [(.int .i64 r.1.K), (.int .i64 r.1.N), (.str r.1.S), (.sl (List.map Term.toD r.1.L)), (.int .i64 r.1.From), (.int .i64 r.1.To)])] [[.d (.int .i64 r.2.1), .d (.bool r.2.2)]] := by
  unfold shift_finder_turn at h
  refine trip_ev 1000 (by kernel_rfl) (by kernel_rfl) (by kernel_rfl) (by kernel_rfl) (e_shift_finder_turn _ _ t depth at_ found _ _) ?_
  rintro _ rfl
  refine w_cond decide_eq_true_iff h (fun h => ?_) (fun h => ?_)
  ·
    rintro _ rfl
    rintro _ rfl
    refine w_cond beq_iff_eq h (fun h => ?_) (fun h => ?_)
    ·
      cases h; exact ⟨rfl, rfl⟩
    ·
      cases h; exact ⟨rfl, rfl⟩
  ·
    cases h; exact ⟨rfl, rfl⟩
def M_shift_walk_finder_turn : (i : I_shift_walk_finder_turn) → R_shift_walk_finder_turn i → Prop
  | .shift_walk_finder_turn t depth at_ found, r => Trip Try.prog 20 [.d (.agg [(.int .i64 t.K), (.int .i64 t.N), (.str t.S), (.sl (List.map Term.toD t.L)), (.int .i64 t.From), (.int .i64 t.To)]), .d (.int .i64 depth), .fn 25 [.hp 0 0] []] [[.d (.int .i64 at_), .d (.bool found)]] [.d (.agg [(.int .i64 r.1.K), (.int .i64 r.1.N), (.str r.1.S), (.sl (List.map Term.toD r.1.L)), (.int .i64 r.1.From), (.int .i64 r.1.To)])] [[.d (.int .i64 r.2.1), .d (.bool r.2.2)]]
  | .shift_walk_finder_turn_L8 depth more v28 v29 v30 t o6 o26 at_ found, r => Ok (c_shift_walk_finder_turn (Trip Try.prog) [.d (.agg [(.int .i64 r.1.K), (.int .i64 r.1.N), (.str r.1.S), (.sl (List.map Term.toD r.1.L)), (.int .i64 r.1.From), (.int .i64 r.1.To)])] [[.d (.int .i64 r.2.1), .d (.bool r.2.2)]]) (kL Try.f20 8) ⟨63, [(1, .d (.int .i64 depth)), (2, .fn 25 [.hp 0 0] []), (3, .ref 3 1 0), (6, .ref 6 1 0), (7, .row 26 1), (8, .d (.int .i64 more)), (28, .d (.sl (List.map Term.toD v28))), (29, .d (.int .i64 v29)), (30, .d (.int .i64 v30))], [(3, 1, some (.agg (.agg [(.int .i64 t.K), (.int .i64 t.N), (.str t.S), (.sl (List.map Term.toD t.L)), (.int .i64 t.From), (.int .i64 t.To)]))), (6, 1, some (.agg (.agg [(.int .i64 o6.K), (.int .i64 o6.N), (.str o6.S), (.sl (List.map Term.toD o6.L)), (.int .i64 o6.From), (.int .i64 o6.To)]))), (26, 1, some (.row 6 (List.map Term.toD o26)))], [[.d (.int .i64 at_), .d (.bool found)]], 0⟩
theorem G_shift_walk_finder_turn : ∀ i r, fixF F_shift_walk_finder_turn i = some r → M_shift_walk_finder_turn i r := by
  refine fixF_induct D_shift_walk_finder_turn fun g ih i => ?_
  cases i with
  | shift_walk_finder_turn t depth at_ found =>
    have ih_shift_walk_finder_turn_L8 : ∀ (depth : Int) (more : Int) (v28 : List Term) (v29 : Int) (v30 : Int) (t : Term) (o6 : Term) (o26 : List Term) (at_ : Int) (found : Bool) (r : Term × Int × Bool), g (I_shift_walk_finder_turn.shift_walk_finder_turn_L8 depth more v28 v29 v30 t o6 o26 at_ found) = some r → Ok (c_shift_walk_finder_turn (Trip Try.prog) [.d (.agg [(.int .i64 r.1.K), (.int .i64 r.1.N), (.str r.1.S), (.sl (List.map Term.toD r.1.L)), (.int .i64 r.1.From), (.int .i64 r.1.To)])] [[.d (.int .i64 r.2.1), .d (.bool r.2.2)]]) (kL Try.f20 8) ⟨63, [(1, .d (.int .i64 depth)), (2, .fn 25 [.hp 0 0] []), (3, .ref 3 1 0), (6, .ref 6 1 0), (7, .row 26 1), (8, .d (.int .i64 more)), (28, .d (.sl (List.map Term.toD v28))), (29, .d (.int .i64 v29)), (30, .d (.int .i64 v30))], [(3, 1, some (.agg (.agg [(.int .i64 t.K), (.int .i64 t.N), (.str t.S), (.sl (List.map Term.toD t.L)), (.int .i64 t.From), (.int .i64 t.To)]))), (6, 1, some (.agg (.agg [(.int .i64 o6.K), (.int .i64 o6.N), (.str o6.S), (.sl (List.map Term.toD o6.L)), (.int .i64 o6.From), (.int .i64 o6.To)]))), (26, 1, some (.row 6 (List.map Term.toD o26)))], [[.d (.int .i64 at_), .d (.bool found)]], 0⟩ := fun depth more v28 v29 v30 t o6 o26 at_ found r h => ih (.shift_walk_finder_turn_L8 depth more v28 v29 v30 t o6 o26 at_ found) r h
    intro r h
    show Trip Try.prog 20 [.d (.agg [(.int .i64 t.K), (.int .i64 t.N), (.str t.S), (.sl (List.map Term.toD t.L)), (.int .i64 t.From), (.int .i64 t.To)]), .d (.int .i64 depth), .fn 25 [.hp 0 0] []] [[.d (.int .i64 at_), .d (.bool found)]] [.d (.agg [(.int .i64 r.1.K), (.int .i64 r.1.N), (.str r.1.S), (.sl (List.map Term.toD r.1.L)), (.int .i64 r.1.From), (.int .i64 r.1.To)])] [[.d (.int .i64 r.2.1), .d (.bool r.2.2)]]
    replace h : shift_walk_finder_turn_B (fun depth more v28 v29 v30 t o6 o26 at_ found => g (I_shift_walk_finder_turn.shift_walk_finder_turn_L8 depth more v28 v29 v30 t o6 o26 at_ found)) t depth at_ found = some r := h
    unfold shift_walk_finder_turn_B at h
    refine trip_ev 1000 (by kernel_rfl) (by kernel_rfl) (by kernel_rfl) (by kernel_rfl) (e_shift_walk_finder_turn _ _ t depth at_ found _ _) ?_
    rintro _ rfl
    refine w_cond beq_iff_eq h (fun h => ?_) (fun h => ?_)
    ·
      obtain ⟨q1, hq, h⟩ := w_bind h
      refine ⟨q1.1.K, q1.1.N, q1.1.S, List.map Term.toD q1.1.L, q1.1.From, q1.1.To, q1.2.1, q1.2.2, T_shift_finder_turn _ _ _ _ _ hq, ?_⟩
      cases h; exact ⟨rfl, rfl⟩
    ·
      refine w_nam (e' := (List.length t.L : Int)) (by first | rfl | rw [List.length_map]) ?_
      rintro _ rfl
      refine w_cond beq_iff_eq h (fun h => ?_) (fun h => ?_)
      ·
        cases h; exact ⟨rfl, rfl⟩
      ·
        refine w_nam (e' := (List.length t.L : Int)) (by first | rfl | rw [List.length_map]) ?_
        obtain ⟨hP, h⟩ := w_chk h
        refine ⟨by first | exact hP | (simp only [List.length_map, List.length_cons, List.length_nil] at hP ⊢; exact hP), ?_⟩
        refine w_nam (e' := List.map Term.toD (List.replicate (List.length t.L : Int).toNat (Term.mk 0 0 ([] : List UInt8) [] 0 0))) (by first | rfl | simp only [List.map_append, List.map_cons, List.map_nil, List.map_take, List.map_drop, List.map_set, List.map_replicate, List.length_map, Term.toD_eq]) ?_
        refine w_nam (e' := (List.length t.L : Int)) (by first | rfl | rw [List.length_map]) ?_
        exact ih_shift_walk_finder_turn_L8 _ _ _ _ _ _ _ _ _ _ _ h
  | shift_walk_finder_turn_L8 depth more v28 v29 v30 t o6 o26 at_ found =>
    have ih_shift_walk_finder_turn : ∀ (t : Term) (depth : Int) (at_ : Int) (found : Bool) (r : Term × Int × Bool), g (I_shift_walk_finder_turn.shift_walk_finder_turn t depth at_ found) = some r → Trip Try.prog 20 [.d (.agg [(.int .i64 t.K), (.int .i64 t.N), (.str t.S), (.sl (List.map Term.toD t.L)), (.int .i64 t.From), (.int .i64 t.To)]), .d (.int .i64 depth), .fn 25 [.hp 0 0] []] [[.d (.int .i64 at_), .d (.bool found)]] [.d (.agg [(.int .i64 r.1.K), (.int .i64 r.1.N), (.str r.1.S), (.sl (List.map Term.toD r.1.L)), (.int .i64 r.1.From), (.int .i64 r.1.To)])] [[.d (.int .i64 r.2.1), .d (.bool r.2.2)]] := fun t depth at_ found r h => ih (.shift_walk_finder_turn t depth at_ found) r h
    have ih_shift_walk_finder_turn_L8 : ∀ (depth : Int) (more : Int) (v28 : List Term) (v29 : Int) (v30 : Int) (t : Term) (o6 : Term) (o26 : List Term) (at_ : Int) (found : Bool) (r : Term × Int × Bool), g (I_shift_walk_finder_turn.shift_walk_finder_turn_L8 depth more v28 v29 v30 t o6 o26 at_ found) = some r → Ok (c_shift_walk_finder_turn (Trip Try.prog) [.d (.agg [(.int .i64 r.1.K), (.int .i64 r.1.N), (.str r.1.S), (.sl (List.map Term.toD r.1.L)), (.int .i64 r.1.From), (.int .i64 r.1.To)])] [[.d (.int .i64 r.2.1), .d (.bool r.2.2)]]) (kL Try.f20 8) ⟨63, [(1, .d (.int .i64 depth)), (2, .fn 25 [.hp 0 0] []), (3, .ref 3 1 0), (6, .ref 6 1 0), (7, .row 26 1), (8, .d (.int .i64 more)), (28, .d (.sl (List.map Term.toD v28))), (29, .d (.int .i64 v29)), (30, .d (.int .i64 v30))], [(3, 1, some (.agg (.agg [(.int .i64 t.K), (.int .i64 t.N), (.str t.S), (.sl (List.map Term.toD t.L)), (.int .i64 t.From), (.int .i64 t.To)]))), (6, 1, some (.agg (.agg [(.int .i64 o6.K), (.int .i64 o6.N), (.str o6.S), (.sl (List.map Term.toD o6.L)), (.int .i64 o6.From), (.int .i64 o6.To)]))), (26, 1, some (.row 6 (List.map Term.toD o26)))], [[.d (.int .i64 at_), .d (.bool found)]], 0⟩ := fun depth more v28 v29 v30 t o6 o26 at_ found r h => ih (.shift_walk_finder_turn_L8 depth more v28 v29 v30 t o6 o26 at_ found) r h
    intro r h
    show Ok (c_shift_walk_finder_turn (Trip Try.prog) [.d (.agg [(.int .i64 r.1.K), (.int .i64 r.1.N), (.str r.1.S), (.sl (List.map Term.toD r.1.L)), (.int .i64 r.1.From), (.int .i64 r.1.To)])] [[.d (.int .i64 r.2.1), .d (.bool r.2.2)]]) (kL Try.f20 8) ⟨63, [(1, .d (.int .i64 depth)), (2, .fn 25 [.hp 0 0] []), (3, .ref 3 1 0), (6, .ref 6 1 0), (7, .row 26 1), (8, .d (.int .i64 more)), (28, .d (.sl (List.map Term.toD v28))), (29, .d (.int .i64 v29)), (30, .d (.int .i64 v30))], [(3, 1, some (.agg (.agg [(.int .i64 t.K), (.int .i64 t.N), (.str t.S), (.sl (List.map Term.toD t.L)), (.int .i64 t.From), (.int .i64 t.To)]))), (6, 1, some (.agg (.agg [(.int .i64 o6.K), (.int .i64 o6.N), (.str o6.S), (.sl (List.map Term.toD o6.L)), (.int .i64 o6.From), (.int .i64 o6.To)]))), (26, 1, some (.row 6 (List.map Term.toD o26)))], [[.d (.int .i64 at_), .d (.bool found)]], 0⟩
    replace h : shift_walk_finder_turn_L8_B (fun t depth at_ found => g (I_shift_walk_finder_turn.shift_walk_finder_turn t depth at_ found)) (fun depth more v28 v29 v30 t o6 o26 at_ found => g (I_shift_walk_finder_turn.shift_walk_finder_turn_L8 depth more v28 v29 v30 t o6 o26 at_ found)) depth more v28 v29 v30 t o6 o26 at_ found = some r := h
    unfold shift_walk_finder_turn_L8_B at h
    refine ok_ev 1000 (e_shift_walk_finder_turn_L8 _ _ depth more v28 v29 v30 t o6 o26 at_ found _ _) ?_
    rintro _ rfl
    refine w_cond decide_eq_true_iff h (fun h => ?_) (fun h => ?_)
    ·
      obtain ⟨x, hx, h⟩ := w_bind h
      refine ⟨sizedL (l := v28) (Term.sz), w_ge hx, x.K, x.N, x.S, List.map Term.toD x.L, x.From, x.To, w_get (Term.toD_eq x) hx, ?_⟩
      rintro _ rfl
      refine w_cond (w_not beq_iff_eq) h (fun h => ?_) (fun h => ?_)
      ·
        obtain ⟨q1, hq, h⟩ := w_bind h
        refine ⟨q1, ⟨_, T_shift_In _ _ _ hq⟩, ?_⟩
        rintro _ rfl
        obtain ⟨q2, hq, h⟩ := w_bind h
        refine ⟨q2.1.K, q2.1.N, q2.1.S, List.map Term.toD q2.1.L, q2.1.From, q2.1.To, q2.2.1, q2.2.2, ih_shift_walk_finder_turn _ _ _ _ _ hq, ?_⟩
        obtain ⟨hP, h⟩ := w_chk h
        refine ⟨hP.1, by first | exact hP.2 | (simp only [List.length_map] at hP ⊢; exact hP.2), ?_⟩
        obtain ⟨hP, h⟩ := w_chk h
        refine ⟨by first | exact hP | (rw [List.length_map]; exact hP), ?_⟩
        refine w_nam (e' := List.map Term.toD (o26.set (Int.toNat v30) q2.1)) (w_set (Term.toD_eq q2.1)) ?_
        rintro _ rfl
        refine w_cond beq_iff_eq h (fun h => ?_) (fun h => ?_)
        ·
          obtain ⟨q3, hq, h⟩ := w_bind h
          refine ⟨q3, ⟨_, T_shift_binds _ _ hq⟩, ?_⟩
          refine w_cond Iff.rfl h (fun h => ?_) (fun h => ?_)
          ·
            rintro _ rfl
            rintro _ rfl
            exact ih_shift_walk_finder_turn_L8 _ _ _ _ _ _ _ _ _ _ _ h
          ·
            rintro _ rfl
            exact ih_shift_walk_finder_turn_L8 _ _ _ _ _ _ _ _ _ _ _ h
        ·
          rintro _ rfl
          exact ih_shift_walk_finder_turn_L8 _ _ _ _ _ _ _ _ _ _ _ h
      ·
        rintro _ rfl
        obtain ⟨q4, hq, h⟩ := w_bind h
        refine ⟨q4.1.K, q4.1.N, q4.1.S, List.map Term.toD q4.1.L, q4.1.From, q4.1.To, q4.2.1, q4.2.2, ih_shift_walk_finder_turn _ _ _ _ _ hq, ?_⟩
        obtain ⟨hP, h⟩ := w_chk h
        refine ⟨hP.1, by first | exact hP.2 | (simp only [List.length_map] at hP ⊢; exact hP.2), ?_⟩
        obtain ⟨hP, h⟩ := w_chk h
        refine ⟨by first | exact hP | (rw [List.length_map]; exact hP), ?_⟩
        refine w_nam (e' := List.map Term.toD (o26.set (Int.toNat v30) q4.1)) (w_set (Term.toD_eq q4.1)) ?_
        rintro _ rfl
        refine w_cond beq_iff_eq h (fun h => ?_) (fun h => ?_)
        ·
          obtain ⟨q5, hq, h⟩ := w_bind h
          refine ⟨q5, ⟨_, T_shift_binds _ _ hq⟩, ?_⟩
          refine w_cond Iff.rfl h (fun h => ?_) (fun h => ?_)
          ·
            rintro _ rfl
            rintro _ rfl
            exact ih_shift_walk_finder_turn_L8 _ _ _ _ _ _ _ _ _ _ _ h
          ·
            rintro _ rfl
            exact ih_shift_walk_finder_turn_L8 _ _ _ _ _ _ _ _ _ _ _ h
        ·
          rintro _ rfl
          exact ih_shift_walk_finder_turn_L8 _ _ _ _ _ _ _ _ _ _ _ h
    ·
      cases h; exact ⟨rfl, rfl⟩
theorem T_shift_walk_finder_turn (t : Term) (depth : Int) (at_ : Int) (found : Bool) (r : Term × Int × Bool) (h : shift_walk_finder_turn t depth at_ found = some r) : Trip Try.prog 20 [.d (.agg [(.int .i64 t.K), (.int .i64 t.N), (.str t.S), (.sl (List.map Term.toD t.L)), (.int .i64 t.From), (.int .i64 t.To)]), .d (.int .i64 depth), .fn 25 [.hp 0 0] []] [[.d (.int .i64 at_), .d (.bool found)]] [.d (.agg [(.int .i64 r.1.K), (.int .i64 r.1.N), (.str r.1.S), (.sl (List.map Term.toD r.1.L)), (.int .i64 r.1.From), (.int .i64 r.1.To)])] [[.d (.int .i64 r.2.1), .d (.bool r.2.2)]] := G_shift_walk_finder_turn (.shift_walk_finder_turn t depth at_ found) r h
theorem T_shift_walk_finder_turn_L8 (depth : Int) (more : Int) (v28 : List Term) (v29 : Int) (v30 : Int) (t : Term) (o6 : Term) (o26 : List Term) (at_ : Int) (found : Bool) (r : Term × Int × Bool) (h : shift_walk_finder_turn_L8 depth more v28 v29 v30 t o6 o26 at_ found = some r) : Ok (c_shift_walk_finder_turn (Trip Try.prog) [.d (.agg [(.int .i64 r.1.K), (.int .i64 r.1.N), (.str r.1.S), (.sl (List.map Term.toD r.1.L)), (.int .i64 r.1.From), (.int .i64 r.1.To)])] [[.d (.int .i64 r.2.1), .d (.bool r.2.2)]]) (kL Try.f20 8) ⟨63, [(1, .d (.int .i64 depth)), (2, .fn 25 [.hp 0 0] []), (3, .ref 3 1 0), (6, .ref 6 1 0), (7, .row 26 1), (8, .d (.int .i64 more)), (28, .d (.sl (List.map Term.toD v28))), (29, .d (.int .i64 v29)), (30, .d (.int .i64 v30))], [(3, 1, some (.agg (.agg [(.int .i64 t.K), (.int .i64 t.N), (.str t.S), (.sl (List.map Term.toD t.L)), (.int .i64 t.From), (.int .i64 t.To)]))), (6, 1, some (.agg (.agg [(.int .i64 o6.K), (.int .i64 o6.N), (.str o6.S), (.sl (List.map Term.toD o6.L)), (.int .i64 o6.From), (.int .i64 o6.To)]))), (26, 1, some (.row 6 (List.map Term.toD o26)))], [[.d (.int .i64 at_), .d (.bool found)]], 0⟩ := G_shift_walk_finder_turn (.shift_walk_finder_turn_L8 depth more v28 v29 v30 t o6 o26 at_ found) r h
theorem T_shift_Mentions (t : Term) (at_ : Int) (r : Bool × H) (h : shift_Mentions t at_ = some r) : Trip Try.prog 14 [.d (.agg [(.int .i64 t.K), (.int .i64 t.N), (.str t.S), (.sl (List.map Term.toD t.L)), (.int .i64 t.From), (.int .i64 t.To)]), .d (.int .i64 at_)] [] [.d (.bool r.1)] r.2 := by
  unfold shift_Mentions at h
  refine trip_ev 1000 (by kernel_rfl) (by kernel_rfl) (by kernel_rfl) (by kernel_rfl) (e_shift_Mentions _ _ t at_ _ _) ?_
  obtain ⟨q1, hq, h⟩ := w_bind h
  refine ⟨q1.1.K, q1.1.N, q1.1.S, List.map Term.toD q1.1.L, q1.1.From, q1.1.To, q1.2.1, q1.2.2, T_shift_walk_finder_turn _ _ _ _ _ hq, ?_⟩
  cases h; exact ⟨rfl, rfl⟩
theorem T_law14ShiftBack (t : Term) (by_ : Int) (from_ : Int) (r : Bool) (h : law14ShiftBack t by_ from_ = some r) : Trip Try.prog 4 [.d (.agg [(.int .i64 t.K), (.int .i64 t.N), (.str t.S), (.sl (List.map Term.toD t.L)), (.int .i64 t.From), (.int .i64 t.To)]), .d (.int .i64 by_), .d (.int .i64 from_)] [] [.d (.bool r)] [] := by
  unfold law14ShiftBack at h
  refine trip_ev 1000 (by kernel_rfl) (by kernel_rfl) (by kernel_rfl) (by kernel_rfl) (e_law14ShiftBack _ _ t by_ from_ _ _) ?_
  obtain ⟨q1, hq, h⟩ := w_bind h
  refine ⟨q1, ⟨_, T_ref06Large _ _ hq⟩, ?_⟩
  refine w_cond Iff.rfl h (fun h => ?_) (fun h => ?_)
  ·
    obtain ⟨q2, hq, h⟩ := w_bind h
    refine ⟨q2, ⟨_, T_law14awake _ hq⟩, ?_⟩
    cases h; exact ⟨rfl, rfl⟩
  ·
    obtain ⟨q3, hq, h⟩ := w_bind h
    refine ⟨q3, ⟨_, T_ref14Wild _ _ hq⟩, ?_⟩
    refine w_cond Iff.rfl h (fun h => ?_) (fun h => ?_)
    ·
      obtain ⟨q4, hq, h⟩ := w_bind h
      refine ⟨q4, ⟨_, T_law14awake _ hq⟩, ?_⟩
      cases h; exact ⟨rfl, rfl⟩
    ·
      rintro _ rfl
      refine w_cond decide_eq_true_iff h (fun h => ?_) (fun h => ?_)
      ·
        obtain ⟨q5, hq, h⟩ := w_bind h
        refine ⟨q5, ⟨_, T_law14awake _ hq⟩, ?_⟩
        cases h; exact ⟨rfl, rfl⟩
      ·
        rintro _ rfl
        refine w_cond decide_eq_true_iff h (fun h => ?_) (fun h => ?_)
        ·
          obtain ⟨q6, hq, h⟩ := w_bind h
          refine ⟨q6, ⟨_, T_law14awake _ hq⟩, ?_⟩
          cases h; exact ⟨rfl, rfl⟩
        ·
          rintro _ rfl
          refine w_cond decide_eq_true_iff h (fun h => ?_) (fun h => ?_)
          ·
            obtain ⟨q7, hq, h⟩ := w_bind h
            refine ⟨q7, ⟨_, T_law14awake _ hq⟩, ?_⟩
            cases h; exact ⟨rfl, rfl⟩
          ·
            rintro _ rfl
            refine w_cond decide_eq_true_iff h (fun h => ?_) (fun h => ?_)
            ·
              obtain ⟨q8, hq, h⟩ := w_bind h
              refine ⟨q8, ⟨_, T_law14awake _ hq⟩, ?_⟩
              cases h; exact ⟨rfl, rfl⟩
            ·
              obtain ⟨q9, hq, h⟩ := w_bind h
              refine ⟨q9.1.K, q9.1.N, q9.1.S, List.map Term.toD q9.1.L, q9.1.From, q9.1.To, q9.2.1, ⟨_, T_shift_Shift _ _ _ _ hq⟩, ?_⟩
              rintro _ rfl
              obtain ⟨q10, hq, h⟩ := w_bind h
              refine ⟨q10.1.K, q10.1.N, q10.1.S, List.map Term.toD q10.1.L, q10.1.From, q10.1.To, q10.2.1, ⟨_, T_shift_Shift _ _ _ _ hq⟩, ?_⟩
              refine w_cond Iff.rfl h (fun h => ?_) (fun h => ?_)
              ·
                refine w_cond Iff.rfl h (fun h => ?_) (fun h => ?_)
                ·
                  obtain ⟨q11, hq, h⟩ := w_bind h
                  refine ⟨q11, ⟨_, T_ref06Placed _ _ _ hq⟩, ?_⟩
                  refine w_cond Iff.rfl h (fun h => ?_) (fun h => ?_)
                  ·
                    rintro _ rfl
                    refine w_cond beq_iff_eq h (fun h => ?_) (fun h => ?_)
                    ·
                      obtain ⟨q12, hq, h⟩ := w_bind h
                      refine ⟨q12, ⟨_, T_law14awake _ hq⟩, ?_⟩
                      cases h; exact ⟨rfl, rfl⟩
                    ·
                      obtain ⟨q13, hq, h⟩ := w_bind h
                      refine ⟨q13.1, ⟨_, T_shift_Mentions _ _ _ hq⟩, ?_⟩
                      refine w_cond (w_not Iff.rfl) h (fun h => ?_) (fun h => ?_)
                      ·
                        obtain ⟨q14, hq, h⟩ := w_bind h
                        refine ⟨q14, ⟨_, T_law14awake _ hq⟩, ?_⟩
                        cases h; exact ⟨rfl, rfl⟩
                      ·
                        cases h; exact ⟨rfl, rfl⟩
                  ·
                    cases h; exact ⟨rfl, rfl⟩
                ·
                  cases h; exact ⟨rfl, rfl⟩
              ·
                cases h; exact ⟨rfl, rfl⟩
def M_ref06Size : (i : I_ref06Size) → R_ref06Size i → Prop
  | .ref06Size t, r => Trip Try.prog 15 [.d (.agg [(.int .i64 t.K), (.int .i64 t.N), (.str t.S), (.sl (List.map Term.toD t.L)), (.int .i64 t.From), (.int .i64 t.To)])] [] [.d (.int .i64 r)] []
  | .ref06Size_L3 n i t, r => Ok (c_ref06Size (Trip Try.prog) [.d (.int .i64 r)] []) (kL Try.f15 3) ⟨21, [(1, .ref 1 1 0), (3, .d (.int .i64 n)), (4, .d (.int .i64 i))], [(1, 1, some (.agg (.agg [(.int .i64 t.K), (.int .i64 t.N), (.str t.S), (.sl (List.map Term.toD t.L)), (.int .i64 t.From), (.int .i64 t.To)])))], [], 0⟩
theorem G_ref06Size : ∀ i r, fixF F_ref06Size i = some r → M_ref06Size i r := by
  refine fixF_induct D_ref06Size fun g ih i => ?_
  cases i with
  | ref06Size t =>
    have ih_ref06Size_L3 : ∀ (n : Int) (i : Int) (t : Term) (r : Int), g (I_ref06Size.ref06Size_L3 n i t) = some r → Ok (c_ref06Size (Trip Try.prog) [.d (.int .i64 r)] []) (kL Try.f15 3) ⟨21, [(1, .ref 1 1 0), (3, .d (.int .i64 n)), (4, .d (.int .i64 i))], [(1, 1, some (.agg (.agg [(.int .i64 t.K), (.int .i64 t.N), (.str t.S), (.sl (List.map Term.toD t.L)), (.int .i64 t.From), (.int .i64 t.To)])))], [], 0⟩ := fun n i t r h => ih (.ref06Size_L3 n i t) r h
    intro r h
    show Trip Try.prog 15 [.d (.agg [(.int .i64 t.K), (.int .i64 t.N), (.str t.S), (.sl (List.map Term.toD t.L)), (.int .i64 t.From), (.int .i64 t.To)])] [] [.d (.int .i64 r)] []
    replace h : ref06Size_B (fun n i t => g (I_ref06Size.ref06Size_L3 n i t)) t = some r := h
    unfold ref06Size_B at h
    refine trip_ev 1000 (by kernel_rfl) (by kernel_rfl) (by kernel_rfl) (by kernel_rfl) (e_ref06Size _ _ t _ _) ?_
    exact ih_ref06Size_L3 _ _ _ _ h
  | ref06Size_L3 n i t =>
    have ih_ref06Size : ∀ (t : Term) (r : Int), g (I_ref06Size.ref06Size t) = some r → Trip Try.prog 15 [.d (.agg [(.int .i64 t.K), (.int .i64 t.N), (.str t.S), (.sl (List.map Term.toD t.L)), (.int .i64 t.From), (.int .i64 t.To)])] [] [.d (.int .i64 r)] [] := fun t r h => ih (.ref06Size t) r h
    have ih_ref06Size_L3 : ∀ (n : Int) (i : Int) (t : Term) (r : Int), g (I_ref06Size.ref06Size_L3 n i t) = some r → Ok (c_ref06Size (Trip Try.prog) [.d (.int .i64 r)] []) (kL Try.f15 3) ⟨21, [(1, .ref 1 1 0), (3, .d (.int .i64 n)), (4, .d (.int .i64 i))], [(1, 1, some (.agg (.agg [(.int .i64 t.K), (.int .i64 t.N), (.str t.S), (.sl (List.map Term.toD t.L)), (.int .i64 t.From), (.int .i64 t.To)])))], [], 0⟩ := fun n i t r h => ih (.ref06Size_L3 n i t) r h
    intro r h
    show Ok (c_ref06Size (Trip Try.prog) [.d (.int .i64 r)] []) (kL Try.f15 3) ⟨21, [(1, .ref 1 1 0), (3, .d (.int .i64 n)), (4, .d (.int .i64 i))], [(1, 1, some (.agg (.agg [(.int .i64 t.K), (.int .i64 t.N), (.str t.S), (.sl (List.map Term.toD t.L)), (.int .i64 t.From), (.int .i64 t.To)])))], [], 0⟩
    replace h : ref06Size_L3_B (fun t => g (I_ref06Size.ref06Size t)) (fun n i t => g (I_ref06Size.ref06Size_L3 n i t)) n i t = some r := h
    unfold ref06Size_L3_B at h
    refine ok_ev 1000 (e_ref06Size_L3 _ _ n i t _ _) ?_
    refine w_nam (e' := (List.length t.L : Int)) (by first | rfl | rw [List.length_map]) ?_
    rintro _ rfl
    refine w_cond decide_eq_true_iff h (fun h => ?_) (fun h => ?_)
    ·
      obtain ⟨x, hx, h⟩ := w_bind h
      refine ⟨sizedL (l := t.L) (Term.sz), w_ge hx, x.K, x.N, x.S, List.map Term.toD x.L, x.From, x.To, w_get (Term.toD_eq x) hx, ?_⟩
      obtain ⟨q1, hq, h⟩ := w_bind h
      refine ⟨q1, ⟨_, ih_ref06Size _ _ hq⟩, ?_⟩
      rintro _ rfl
      rintro _ rfl
      exact ih_ref06Size_L3 _ _ _ _ h
    ·
      cases h; exact ⟨rfl, rfl⟩
theorem T_ref06Size (t : Term) (r : Int) (h : ref06Size t = some r) : Trip Try.prog 15 [.d (.agg [(.int .i64 t.K), (.int .i64 t.N), (.str t.S), (.sl (List.map Term.toD t.L)), (.int .i64 t.From), (.int .i64 t.To)])] [] [.d (.int .i64 r)] [] := G_ref06Size (.ref06Size t) r h
theorem T_ref06Size_L3 (n : Int) (i : Int) (t : Term) (r : Int) (h : ref06Size_L3 n i t = some r) : Ok (c_ref06Size (Trip Try.prog) [.d (.int .i64 r)] []) (kL Try.f15 3) ⟨21, [(1, .ref 1 1 0), (3, .d (.int .i64 n)), (4, .d (.int .i64 i))], [(1, 1, some (.agg (.agg [(.int .i64 t.K), (.int .i64 t.N), (.str t.S), (.sl (List.map Term.toD t.L)), (.int .i64 t.From), (.int .i64 t.To)])))], [], 0⟩ := G_ref06Size (.ref06Size_L3 n i t) r h
def M_ref14Put : (i : I_ref14Put) → R_ref14Put i → Prop
  | .ref14Put t e at_ depth, r => Trip Try.prog 27 [.d (.agg [(.int .i64 t.K), (.int .i64 t.N), (.str t.S), (.sl (List.map Term.toD t.L)), (.int .i64 t.From), (.int .i64 t.To)]), .d (.agg [(.int .i64 e.K), (.int .i64 e.N), (.str e.S), (.sl (List.map Term.toD e.L)), (.int .i64 e.From), (.int .i64 e.To)]), .d (.int .i64 at_), .d (.int .i64 depth)] [] [.d (.agg [(.int .i64 r.K), (.int .i64 r.N), (.str r.S), (.sl (List.map Term.toD r.L)), (.int .i64 r.From), (.int .i64 r.To)])] []
  | .ref14Put_L7 at_ depth out i t e o8, r => Ok (c_ref14Put (Trip Try.prog) [.d (.agg [(.int .i64 r.K), (.int .i64 r.N), (.str r.S), (.sl (List.map Term.toD r.L)), (.int .i64 r.From), (.int .i64 r.To)])] []) (kL Try.f27 7) ⟨63, [(2, .d (.int .i64 at_)), (3, .d (.int .i64 depth)), (4, .ref 4 1 0), (5, .ref 5 1 0), (8, .ref 8 1 0), (9, .right 27 1 6 (List.map Term.toD out)), (10, .d (.int .i64 i))], [(4, 1, some (.agg (.agg [(.int .i64 t.K), (.int .i64 t.N), (.str t.S), (.sl (List.map Term.toD t.L)), (.int .i64 t.From), (.int .i64 t.To)]))), (5, 1, some (.agg (.agg [(.int .i64 e.K), (.int .i64 e.N), (.str e.S), (.sl (List.map Term.toD e.L)), (.int .i64 e.From), (.int .i64 e.To)]))), (8, 1, some (.agg (.agg [(.int .i64 o8.K), (.int .i64 o8.N), (.str o8.S), (.sl (List.map Term.toD o8.L)), (.int .i64 o8.From), (.int .i64 o8.To)]))), (27, 1, some (.tok 6 (List.length (List.map Term.toD out))))], [], 0⟩
theorem G_ref14Put : ∀ i r, fixF F_ref14Put i = some r → M_ref14Put i r := by
  refine fixF_induct D_ref14Put fun g ih i => ?_
  cases i with
  | ref14Put t e at_ depth =>
    have ih_ref14Put_L7 : ∀ (at_ : Int) (depth : Int) (out : List Term) (i : Int) (t : Term) (e : Term) (o8 : Term) (r : Term), g (I_ref14Put.ref14Put_L7 at_ depth out i t e o8) = some r → Ok (c_ref14Put (Trip Try.prog) [.d (.agg [(.int .i64 r.K), (.int .i64 r.N), (.str r.S), (.sl (List.map Term.toD r.L)), (.int .i64 r.From), (.int .i64 r.To)])] []) (kL Try.f27 7) ⟨63, [(2, .d (.int .i64 at_)), (3, .d (.int .i64 depth)), (4, .ref 4 1 0), (5, .ref 5 1 0), (8, .ref 8 1 0), (9, .right 27 1 6 (List.map Term.toD out)), (10, .d (.int .i64 i))], [(4, 1, some (.agg (.agg [(.int .i64 t.K), (.int .i64 t.N), (.str t.S), (.sl (List.map Term.toD t.L)), (.int .i64 t.From), (.int .i64 t.To)]))), (5, 1, some (.agg (.agg [(.int .i64 e.K), (.int .i64 e.N), (.str e.S), (.sl (List.map Term.toD e.L)), (.int .i64 e.From), (.int .i64 e.To)]))), (8, 1, some (.agg (.agg [(.int .i64 o8.K), (.int .i64 o8.N), (.str o8.S), (.sl (List.map Term.toD o8.L)), (.int .i64 o8.From), (.int .i64 o8.To)]))), (27, 1, some (.tok 6 (List.length (List.map Term.toD out))))], [], 0⟩ := fun at_ depth out i t e o8 r h => ih (.ref14Put_L7 at_ depth out i t e o8) r h
    intro r h
    show Trip Try.prog 27 [.d (.agg [(.int .i64 t.K), (.int .i64 t.N), (.str t.S), (.sl (List.map Term.toD t.L)), (.int .i64 t.From), (.int .i64 t.To)]), .d (.agg [(.int .i64 e.K), (.int .i64 e.N), (.str e.S), (.sl (List.map Term.toD e.L)), (.int .i64 e.From), (.int .i64 e.To)]), .d (.int .i64 at_), .d (.int .i64 depth)] [] [.d (.agg [(.int .i64 r.K), (.int .i64 r.N), (.str r.S), (.sl (List.map Term.toD r.L)), (.int .i64 r.From), (.int .i64 r.To)])] []
    replace h : ref14Put_B (fun at_ depth out i t e o8 => g (I_ref14Put.ref14Put_L7 at_ depth out i t e o8)) t e at_ depth = some r := h
    unfold ref14Put_B at h
    refine trip_ev 1000 (by kernel_rfl) (by kernel_rfl) (by kernel_rfl) (by kernel_rfl) (e_ref14Put _ _ t e at_ depth _ _) ?_
    rintro _ rfl
    refine w_cond beq_iff_eq h (fun h => ?_) (fun h => ?_)
    ·
      rintro _ rfl
      refine w_cond decide_eq_true_iff h (fun h => ?_) (fun h => ?_)
      ·
        obtain ⟨q1, hq, h⟩ := w_bind h
        refine ⟨q1, ⟨_, T_ref14Outer _ _ _ hq⟩, ?_⟩
        rintro _ rfl
        refine w_cond beq_iff_eq h (fun h => ?_) (fun h => ?_)
        ·
          obtain ⟨q2, hq, h⟩ := w_bind h
          refine ⟨q2.K, q2.N, q2.S, List.map Term.toD q2.L, q2.From, q2.To, ⟨_, T_ref14Raise _ _ _ _ _ hq⟩, ?_⟩
          cases h; exact ⟨rfl, rfl⟩
        ·
          cases h; exact ⟨rfl, rfl⟩
      ·
        cases h; exact ⟨rfl, rfl⟩
    ·
      exact ih_ref14Put_L7 _ _ _ _ _ _ _ _ h
  | ref14Put_L7 at_ depth out i t e o8 =>
    have ih_ref14Put : ∀ (t : Term) (e : Term) (at_ : Int) (depth : Int) (r : Term), g (I_ref14Put.ref14Put t e at_ depth) = some r → Trip Try.prog 27 [.d (.agg [(.int .i64 t.K), (.int .i64 t.N), (.str t.S), (.sl (List.map Term.toD t.L)), (.int .i64 t.From), (.int .i64 t.To)]), .d (.agg [(.int .i64 e.K), (.int .i64 e.N), (.str e.S), (.sl (List.map Term.toD e.L)), (.int .i64 e.From), (.int .i64 e.To)]), .d (.int .i64 at_), .d (.int .i64 depth)] [] [.d (.agg [(.int .i64 r.K), (.int .i64 r.N), (.str r.S), (.sl (List.map Term.toD r.L)), (.int .i64 r.From), (.int .i64 r.To)])] [] := fun t e at_ depth r h => ih (.ref14Put t e at_ depth) r h
    have ih_ref14Put_L7 : ∀ (at_ : Int) (depth : Int) (out : List Term) (i : Int) (t : Term) (e : Term) (o8 : Term) (r : Term), g (I_ref14Put.ref14Put_L7 at_ depth out i t e o8) = some r → Ok (c_ref14Put (Trip Try.prog) [.d (.agg [(.int .i64 r.K), (.int .i64 r.N), (.str r.S), (.sl (List.map Term.toD r.L)), (.int .i64 r.From), (.int .i64 r.To)])] []) (kL Try.f27 7) ⟨63, [(2, .d (.int .i64 at_)), (3, .d (.int .i64 depth)), (4, .ref 4 1 0), (5, .ref 5 1 0), (8, .ref 8 1 0), (9, .right 27 1 6 (List.map Term.toD out)), (10, .d (.int .i64 i))], [(4, 1, some (.agg (.agg [(.int .i64 t.K), (.int .i64 t.N), (.str t.S), (.sl (List.map Term.toD t.L)), (.int .i64 t.From), (.int .i64 t.To)]))), (5, 1, some (.agg (.agg [(.int .i64 e.K), (.int .i64 e.N), (.str e.S), (.sl (List.map Term.toD e.L)), (.int .i64 e.From), (.int .i64 e.To)]))), (8, 1, some (.agg (.agg [(.int .i64 o8.K), (.int .i64 o8.N), (.str o8.S), (.sl (List.map Term.toD o8.L)), (.int .i64 o8.From), (.int .i64 o8.To)]))), (27, 1, some (.tok 6 (List.length (List.map Term.toD out))))], [], 0⟩ := fun at_ depth out i t e o8 r h => ih (.ref14Put_L7 at_ depth out i t e o8) r h
    intro r h
    show Ok (c_ref14Put (Trip Try.prog) [.d (.agg [(.int .i64 r.K), (.int .i64 r.N), (.str r.S), (.sl (List.map Term.toD r.L)), (.int .i64 r.From), (.int .i64 r.To)])] []) (kL Try.f27 7) ⟨63, [(2, .d (.int .i64 at_)), (3, .d (.int .i64 depth)), (4, .ref 4 1 0), (5, .ref 5 1 0), (8, .ref 8 1 0), (9, .right 27 1 6 (List.map Term.toD out)), (10, .d (.int .i64 i))], [(4, 1, some (.agg (.agg [(.int .i64 t.K), (.int .i64 t.N), (.str t.S), (.sl (List.map Term.toD t.L)), (.int .i64 t.From), (.int .i64 t.To)]))), (5, 1, some (.agg (.agg [(.int .i64 e.K), (.int .i64 e.N), (.str e.S), (.sl (List.map Term.toD e.L)), (.int .i64 e.From), (.int .i64 e.To)]))), (8, 1, some (.agg (.agg [(.int .i64 o8.K), (.int .i64 o8.N), (.str o8.S), (.sl (List.map Term.toD o8.L)), (.int .i64 o8.From), (.int .i64 o8.To)]))), (27, 1, some (.tok 6 (List.length (List.map Term.toD out))))], [], 0⟩
    replace h : ref14Put_L7_B (fun t e at_ depth => g (I_ref14Put.ref14Put t e at_ depth)) (fun at_ depth out i t e o8 => g (I_ref14Put.ref14Put_L7 at_ depth out i t e o8)) at_ depth out i t e o8 = some r := h
    unfold ref14Put_L7_B at h
    refine ok_ev 1000 (e_ref14Put_L7 _ _ at_ depth out i t e o8 _ _) ?_
    refine w_nam (e' := (List.length t.L : Int)) (by first | rfl | rw [List.length_map]) ?_
    rintro _ rfl
    refine w_cond decide_eq_true_iff h (fun h => ?_) (fun h => ?_)
    ·
      obtain ⟨x, hx, h⟩ := w_bind h
      refine ⟨sizedL (l := t.L) (Term.sz), w_ge hx, x.K, x.N, x.S, List.map Term.toD x.L, x.From, x.To, w_get (Term.toD_eq x) hx, ?_⟩
      obtain ⟨q1, hq, h⟩ := w_bind h
      refine ⟨q1, ⟨_, T_ref14In _ _ _ hq⟩, ?_⟩
      rintro _ rfl
      obtain ⟨q2, hq, h⟩ := w_bind h
      refine ⟨q2.K, q2.N, q2.S, List.map Term.toD q2.L, q2.From, q2.To, ⟨_, ih_ref14Put _ _ _ _ _ hq⟩, ?_⟩
      refine ⟨by simp [sized, D.cells], ?_⟩
      refine ⟨by first | rfl | decide | simp only [List.length_map, List.length_cons, List.length_nil, List.map_append, List.length_append], ?_⟩
      obtain ⟨hP, h⟩ := w_chk h
      refine ⟨by first | exact hP | (simp only [List.length_map, List.length_cons, List.length_nil] at hP ⊢; exact hP), ?_⟩
      refine w_nam (e' := List.map Term.toD (out ++ [q2])) (by first | rfl | simp only [List.map_append, List.map_cons, List.map_nil, List.map_take, List.map_drop, List.map_set, List.map_replicate, List.length_map, Term.toD_eq]) ?_
      rintro _ rfl
      exact ih_ref14Put_L7 _ _ _ _ _ _ _ _ h
    ·
      cases h; exact ⟨rfl, rfl⟩
theorem T_ref14Put (t : Term) (e : Term) (at_ : Int) (depth : Int) (r : Term) (h : ref14Put t e at_ depth = some r) : Trip Try.prog 27 [.d (.agg [(.int .i64 t.K), (.int .i64 t.N), (.str t.S), (.sl (List.map Term.toD t.L)), (.int .i64 t.From), (.int .i64 t.To)]), .d (.agg [(.int .i64 e.K), (.int .i64 e.N), (.str e.S), (.sl (List.map Term.toD e.L)), (.int .i64 e.From), (.int .i64 e.To)]), .d (.int .i64 at_), .d (.int .i64 depth)] [] [.d (.agg [(.int .i64 r.K), (.int .i64 r.N), (.str r.S), (.sl (List.map Term.toD r.L)), (.int .i64 r.From), (.int .i64 r.To)])] [] := G_ref14Put (.ref14Put t e at_ depth) r h
theorem T_ref14Put_L7 (at_ : Int) (depth : Int) (out : List Term) (i : Int) (t : Term) (e : Term) (o8 : Term) (r : Term) (h : ref14Put_L7 at_ depth out i t e o8 = some r) : Ok (c_ref14Put (Trip Try.prog) [.d (.agg [(.int .i64 r.K), (.int .i64 r.N), (.str r.S), (.sl (List.map Term.toD r.L)), (.int .i64 r.From), (.int .i64 r.To)])] []) (kL Try.f27 7) ⟨63, [(2, .d (.int .i64 at_)), (3, .d (.int .i64 depth)), (4, .ref 4 1 0), (5, .ref 5 1 0), (8, .ref 8 1 0), (9, .right 27 1 6 (List.map Term.toD out)), (10, .d (.int .i64 i))], [(4, 1, some (.agg (.agg [(.int .i64 t.K), (.int .i64 t.N), (.str t.S), (.sl (List.map Term.toD t.L)), (.int .i64 t.From), (.int .i64 t.To)]))), (5, 1, some (.agg (.agg [(.int .i64 e.K), (.int .i64 e.N), (.str e.S), (.sl (List.map Term.toD e.L)), (.int .i64 e.From), (.int .i64 e.To)]))), (8, 1, some (.agg (.agg [(.int .i64 o8.K), (.int .i64 o8.N), (.str o8.S), (.sl (List.map Term.toD o8.L)), (.int .i64 o8.From), (.int .i64 o8.To)]))), (27, 1, some (.tok 6 (List.length (List.map Term.toD out))))], [], 0⟩ := G_ref14Put (.ref14Put_L7 at_ depth out i t e o8) r h
theorem T_ref14Subst (t : Term) (e : Term) (at_ : Int) (r : Term) (h : ref14Subst t e at_ = some r) : Trip Try.prog 17 [.d (.agg [(.int .i64 t.K), (.int .i64 t.N), (.str t.S), (.sl (List.map Term.toD t.L)), (.int .i64 t.From), (.int .i64 t.To)]), .d (.agg [(.int .i64 e.K), (.int .i64 e.N), (.str e.S), (.sl (List.map Term.toD e.L)), (.int .i64 e.From), (.int .i64 e.To)]), .d (.int .i64 at_)] [] [.d (.agg [(.int .i64 r.K), (.int .i64 r.N), (.str r.S), (.sl (List.map Term.toD r.L)), (.int .i64 r.From), (.int .i64 r.To)])] [] := by
  unfold ref14Subst at h
  refine trip_ev 1000 (by kernel_rfl) (by kernel_rfl) (by kernel_rfl) (by kernel_rfl) (e_ref14Subst _ _ t e at_ _ _) ?_
  obtain ⟨q1, hq, h⟩ := w_bind h
  refine ⟨q1.K, q1.N, q1.S, List.map Term.toD q1.L, q1.From, q1.To, ⟨_, T_ref14Put _ _ _ _ _ hq⟩, ?_⟩
  cases h; exact ⟨rfl, rfl⟩
theorem T_shift_putter_turn (p : ShiftPutter) (t : Term) (depth : Int) (r : Term × H) (h : shift_putter_turn p t depth = some r) : Trip Try.prog 26 [.d (.agg [(.int .i64 p.e.K), (.int .i64 p.e.N), (.str p.e.S), (.sl (List.map Term.toD p.e.L)), (.int .i64 p.e.From), (.int .i64 p.e.To), (.int .i64 p.at_)]), .d (.agg [(.int .i64 t.K), (.int .i64 t.N), (.str t.S), (.sl (List.map Term.toD t.L)), (.int .i64 t.From), (.int .i64 t.To)]), .d (.int .i64 depth)] [] [.d (.agg [(.int .i64 r.1.K), (.int .i64 r.1.N), (.str r.1.S), (.sl (List.map Term.toD r.1.L)), (.int .i64 r.1.From), (.int .i64 r.1.To)])] r.2 := by
  unfold shift_putter_turn at h
  refine trip_ev 1000 (by kernel_rfl) (by kernel_rfl) (by kernel_rfl) (by kernel_rfl) (e_shift_putter_turn _ _ p t depth _ _) ?_
  rintro _ rfl
  refine w_cond decide_eq_true_iff h (fun h => ?_) (fun h => ?_)
  ·
    cases h; exact ⟨rfl, rfl⟩
  ·
    rintro _ rfl
    rintro _ rfl
    refine w_cond (w_not beq_iff_eq) h (fun h => ?_) (fun h => ?_)
    ·
      cases h; exact ⟨rfl, rfl⟩
    ·
      obtain ⟨q1, hq, h⟩ := w_bind h
      refine ⟨q1.1.K, q1.1.N, q1.1.S, List.map Term.toD q1.1.L, q1.1.From, q1.1.To, q1.2.1, q1.2.2.1, q1.2.2.2, T_shift_walk_mover_turn _ _ _ _ _ _ hq, ?_⟩
      cases h; exact ⟨rfl, rfl⟩
def M_shift_walk_putter_turn : (i : I_shift_walk_putter_turn) → R_shift_walk_putter_turn i → Prop
  | .shift_walk_putter_turn t depth w, r => Trip Try.prog 20 [.d (.agg [(.int .i64 t.K), (.int .i64 t.N), (.str t.S), (.sl (List.map Term.toD t.L)), (.int .i64 t.From), (.int .i64 t.To)]), .d (.int .i64 depth), .fn 26 [.d (.agg [(.int .i64 w.e.K), (.int .i64 w.e.N), (.str w.e.S), (.sl (List.map Term.toD w.e.L)), (.int .i64 w.e.From), (.int .i64 w.e.To), (.int .i64 w.at_)])] []] [] [.d (.agg [(.int .i64 r.K), (.int .i64 r.N), (.str r.S), (.sl (List.map Term.toD r.L)), (.int .i64 r.From), (.int .i64 r.To)])] []
  | .shift_walk_putter_turn_L8 depth w more v28 v29 v30 t o6 o26, r => Ok (c_shift_walk_putter_turn (Trip Try.prog) [.d (.agg [(.int .i64 r.K), (.int .i64 r.N), (.str r.S), (.sl (List.map Term.toD r.L)), (.int .i64 r.From), (.int .i64 r.To)])] []) (kL Try.f20 8) ⟨63, [(1, .d (.int .i64 depth)), (2, .fn 26 [.d (.agg [(.int .i64 w.e.K), (.int .i64 w.e.N), (.str w.e.S), (.sl (List.map Term.toD w.e.L)), (.int .i64 w.e.From), (.int .i64 w.e.To), (.int .i64 w.at_)])] []), (3, .ref 3 1 0), (6, .ref 6 1 0), (7, .row 26 1), (8, .d (.int .i64 more)), (28, .d (.sl (List.map Term.toD v28))), (29, .d (.int .i64 v29)), (30, .d (.int .i64 v30))], [(3, 1, some (.agg (.agg [(.int .i64 t.K), (.int .i64 t.N), (.str t.S), (.sl (List.map Term.toD t.L)), (.int .i64 t.From), (.int .i64 t.To)]))), (6, 1, some (.agg (.agg [(.int .i64 o6.K), (.int .i64 o6.N), (.str o6.S), (.sl (List.map Term.toD o6.L)), (.int .i64 o6.From), (.int .i64 o6.To)]))), (26, 1, some (.row 6 (List.map Term.toD o26)))], [], 0⟩
theorem G_shift_walk_putter_turn : ∀ i r, fixF F_shift_walk_putter_turn i = some r → M_shift_walk_putter_turn i r := by
  refine fixF_induct D_shift_walk_putter_turn fun g ih i => ?_
  cases i with
  | shift_walk_putter_turn t depth w =>
    have ih_shift_walk_putter_turn_L8 : ∀ (depth : Int) (w : ShiftPutter) (more : Int) (v28 : List Term) (v29 : Int) (v30 : Int) (t : Term) (o6 : Term) (o26 : List Term) (r : Term), g (I_shift_walk_putter_turn.shift_walk_putter_turn_L8 depth w more v28 v29 v30 t o6 o26) = some r → Ok (c_shift_walk_putter_turn (Trip Try.prog) [.d (.agg [(.int .i64 r.K), (.int .i64 r.N), (.str r.S), (.sl (List.map Term.toD r.L)), (.int .i64 r.From), (.int .i64 r.To)])] []) (kL Try.f20 8) ⟨63, [(1, .d (.int .i64 depth)), (2, .fn 26 [.d (.agg [(.int .i64 w.e.K), (.int .i64 w.e.N), (.str w.e.S), (.sl (List.map Term.toD w.e.L)), (.int .i64 w.e.From), (.int .i64 w.e.To), (.int .i64 w.at_)])] []), (3, .ref 3 1 0), (6, .ref 6 1 0), (7, .row 26 1), (8, .d (.int .i64 more)), (28, .d (.sl (List.map Term.toD v28))), (29, .d (.int .i64 v29)), (30, .d (.int .i64 v30))], [(3, 1, some (.agg (.agg [(.int .i64 t.K), (.int .i64 t.N), (.str t.S), (.sl (List.map Term.toD t.L)), (.int .i64 t.From), (.int .i64 t.To)]))), (6, 1, some (.agg (.agg [(.int .i64 o6.K), (.int .i64 o6.N), (.str o6.S), (.sl (List.map Term.toD o6.L)), (.int .i64 o6.From), (.int .i64 o6.To)]))), (26, 1, some (.row 6 (List.map Term.toD o26)))], [], 0⟩ := fun depth w more v28 v29 v30 t o6 o26 r h => ih (.shift_walk_putter_turn_L8 depth w more v28 v29 v30 t o6 o26) r h
    intro r h
    show Trip Try.prog 20 [.d (.agg [(.int .i64 t.K), (.int .i64 t.N), (.str t.S), (.sl (List.map Term.toD t.L)), (.int .i64 t.From), (.int .i64 t.To)]), .d (.int .i64 depth), .fn 26 [.d (.agg [(.int .i64 w.e.K), (.int .i64 w.e.N), (.str w.e.S), (.sl (List.map Term.toD w.e.L)), (.int .i64 w.e.From), (.int .i64 w.e.To), (.int .i64 w.at_)])] []] [] [.d (.agg [(.int .i64 r.K), (.int .i64 r.N), (.str r.S), (.sl (List.map Term.toD r.L)), (.int .i64 r.From), (.int .i64 r.To)])] []
    replace h : shift_walk_putter_turn_B (fun depth w more v28 v29 v30 t o6 o26 => g (I_shift_walk_putter_turn.shift_walk_putter_turn_L8 depth w more v28 v29 v30 t o6 o26)) t depth w = some r := h
    unfold shift_walk_putter_turn_B at h
    refine trip_ev 1000 (by kernel_rfl) (by kernel_rfl) (by kernel_rfl) (by kernel_rfl) (e_shift_walk_putter_turn _ _ t depth w _ _) ?_
    rintro _ rfl
    refine w_cond beq_iff_eq h (fun h => ?_) (fun h => ?_)
    ·
      obtain ⟨q1, hq, h⟩ := w_bind h
      refine ⟨q1.1.K, q1.1.N, q1.1.S, List.map Term.toD q1.1.L, q1.1.From, q1.1.To, ⟨_, T_shift_putter_turn _ _ _ _ hq⟩, ?_⟩
      cases h; exact ⟨rfl, rfl⟩
    ·
      refine w_nam (e' := (List.length t.L : Int)) (by first | rfl | rw [List.length_map]) ?_
      rintro _ rfl
      refine w_cond beq_iff_eq h (fun h => ?_) (fun h => ?_)
      ·
        cases h; exact ⟨rfl, rfl⟩
      ·
        refine w_nam (e' := (List.length t.L : Int)) (by first | rfl | rw [List.length_map]) ?_
        obtain ⟨hP, h⟩ := w_chk h
        refine ⟨by first | exact hP | (simp only [List.length_map, List.length_cons, List.length_nil] at hP ⊢; exact hP), ?_⟩
        refine w_nam (e' := List.map Term.toD (List.replicate (List.length t.L : Int).toNat (Term.mk 0 0 ([] : List UInt8) [] 0 0))) (by first | rfl | simp only [List.map_append, List.map_cons, List.map_nil, List.map_take, List.map_drop, List.map_set, List.map_replicate, List.length_map, Term.toD_eq]) ?_
        refine w_nam (e' := (List.length t.L : Int)) (by first | rfl | rw [List.length_map]) ?_
        exact ih_shift_walk_putter_turn_L8 _ _ _ _ _ _ _ _ _ _ h
  | shift_walk_putter_turn_L8 depth w more v28 v29 v30 t o6 o26 =>
    have ih_shift_walk_putter_turn : ∀ (t : Term) (depth : Int) (w : ShiftPutter) (r : Term), g (I_shift_walk_putter_turn.shift_walk_putter_turn t depth w) = some r → Trip Try.prog 20 [.d (.agg [(.int .i64 t.K), (.int .i64 t.N), (.str t.S), (.sl (List.map Term.toD t.L)), (.int .i64 t.From), (.int .i64 t.To)]), .d (.int .i64 depth), .fn 26 [.d (.agg [(.int .i64 w.e.K), (.int .i64 w.e.N), (.str w.e.S), (.sl (List.map Term.toD w.e.L)), (.int .i64 w.e.From), (.int .i64 w.e.To), (.int .i64 w.at_)])] []] [] [.d (.agg [(.int .i64 r.K), (.int .i64 r.N), (.str r.S), (.sl (List.map Term.toD r.L)), (.int .i64 r.From), (.int .i64 r.To)])] [] := fun t depth w r h => ih (.shift_walk_putter_turn t depth w) r h
    have ih_shift_walk_putter_turn_L8 : ∀ (depth : Int) (w : ShiftPutter) (more : Int) (v28 : List Term) (v29 : Int) (v30 : Int) (t : Term) (o6 : Term) (o26 : List Term) (r : Term), g (I_shift_walk_putter_turn.shift_walk_putter_turn_L8 depth w more v28 v29 v30 t o6 o26) = some r → Ok (c_shift_walk_putter_turn (Trip Try.prog) [.d (.agg [(.int .i64 r.K), (.int .i64 r.N), (.str r.S), (.sl (List.map Term.toD r.L)), (.int .i64 r.From), (.int .i64 r.To)])] []) (kL Try.f20 8) ⟨63, [(1, .d (.int .i64 depth)), (2, .fn 26 [.d (.agg [(.int .i64 w.e.K), (.int .i64 w.e.N), (.str w.e.S), (.sl (List.map Term.toD w.e.L)), (.int .i64 w.e.From), (.int .i64 w.e.To), (.int .i64 w.at_)])] []), (3, .ref 3 1 0), (6, .ref 6 1 0), (7, .row 26 1), (8, .d (.int .i64 more)), (28, .d (.sl (List.map Term.toD v28))), (29, .d (.int .i64 v29)), (30, .d (.int .i64 v30))], [(3, 1, some (.agg (.agg [(.int .i64 t.K), (.int .i64 t.N), (.str t.S), (.sl (List.map Term.toD t.L)), (.int .i64 t.From), (.int .i64 t.To)]))), (6, 1, some (.agg (.agg [(.int .i64 o6.K), (.int .i64 o6.N), (.str o6.S), (.sl (List.map Term.toD o6.L)), (.int .i64 o6.From), (.int .i64 o6.To)]))), (26, 1, some (.row 6 (List.map Term.toD o26)))], [], 0⟩ := fun depth w more v28 v29 v30 t o6 o26 r h => ih (.shift_walk_putter_turn_L8 depth w more v28 v29 v30 t o6 o26) r h
    intro r h
    show Ok (c_shift_walk_putter_turn (Trip Try.prog) [.d (.agg [(.int .i64 r.K), (.int .i64 r.N), (.str r.S), (.sl (List.map Term.toD r.L)), (.int .i64 r.From), (.int .i64 r.To)])] []) (kL Try.f20 8) ⟨63, [(1, .d (.int .i64 depth)), (2, .fn 26 [.d (.agg [(.int .i64 w.e.K), (.int .i64 w.e.N), (.str w.e.S), (.sl (List.map Term.toD w.e.L)), (.int .i64 w.e.From), (.int .i64 w.e.To), (.int .i64 w.at_)])] []), (3, .ref 3 1 0), (6, .ref 6 1 0), (7, .row 26 1), (8, .d (.int .i64 more)), (28, .d (.sl (List.map Term.toD v28))), (29, .d (.int .i64 v29)), (30, .d (.int .i64 v30))], [(3, 1, some (.agg (.agg [(.int .i64 t.K), (.int .i64 t.N), (.str t.S), (.sl (List.map Term.toD t.L)), (.int .i64 t.From), (.int .i64 t.To)]))), (6, 1, some (.agg (.agg [(.int .i64 o6.K), (.int .i64 o6.N), (.str o6.S), (.sl (List.map Term.toD o6.L)), (.int .i64 o6.From), (.int .i64 o6.To)]))), (26, 1, some (.row 6 (List.map Term.toD o26)))], [], 0⟩
    replace h : shift_walk_putter_turn_L8_B (fun t depth w => g (I_shift_walk_putter_turn.shift_walk_putter_turn t depth w)) (fun depth w more v28 v29 v30 t o6 o26 => g (I_shift_walk_putter_turn.shift_walk_putter_turn_L8 depth w more v28 v29 v30 t o6 o26)) depth w more v28 v29 v30 t o6 o26 = some r := h
    unfold shift_walk_putter_turn_L8_B at h
    refine ok_ev 1000 (e_shift_walk_putter_turn_L8 _ _ depth w more v28 v29 v30 t o6 o26 _ _) ?_
    rintro _ rfl
    refine w_cond decide_eq_true_iff h (fun h => ?_) (fun h => ?_)
    ·
      obtain ⟨x, hx, h⟩ := w_bind h
      refine ⟨sizedL (l := v28) (Term.sz), w_ge hx, x.K, x.N, x.S, List.map Term.toD x.L, x.From, x.To, w_get (Term.toD_eq x) hx, ?_⟩
      rintro _ rfl
      refine w_cond (w_not beq_iff_eq) h (fun h => ?_) (fun h => ?_)
      ·
        obtain ⟨q1, hq, h⟩ := w_bind h
        refine ⟨q1, ⟨_, T_shift_In _ _ _ hq⟩, ?_⟩
        rintro _ rfl
        obtain ⟨q2, hq, h⟩ := w_bind h
        refine ⟨q2.K, q2.N, q2.S, List.map Term.toD q2.L, q2.From, q2.To, ih_shift_walk_putter_turn _ _ _ _ hq, ?_⟩
        obtain ⟨hP, h⟩ := w_chk h
        refine ⟨hP.1, by first | exact hP.2 | (simp only [List.length_map] at hP ⊢; exact hP.2), ?_⟩
        obtain ⟨hP, h⟩ := w_chk h
        refine ⟨by first | exact hP | (rw [List.length_map]; exact hP), ?_⟩
        refine w_nam (e' := List.map Term.toD (o26.set (Int.toNat v30) q2)) (w_set (Term.toD_eq q2)) ?_
        rintro _ rfl
        refine w_cond beq_iff_eq h (fun h => ?_) (fun h => ?_)
        ·
          obtain ⟨q3, hq, h⟩ := w_bind h
          refine ⟨q3, ⟨_, T_shift_binds _ _ hq⟩, ?_⟩
          refine w_cond Iff.rfl h (fun h => ?_) (fun h => ?_)
          ·
            rintro _ rfl
            rintro _ rfl
            exact ih_shift_walk_putter_turn_L8 _ _ _ _ _ _ _ _ _ _ h
          ·
            rintro _ rfl
            exact ih_shift_walk_putter_turn_L8 _ _ _ _ _ _ _ _ _ _ h
        ·
          rintro _ rfl
          exact ih_shift_walk_putter_turn_L8 _ _ _ _ _ _ _ _ _ _ h
      ·
        rintro _ rfl
        obtain ⟨q4, hq, h⟩ := w_bind h
        refine ⟨q4.K, q4.N, q4.S, List.map Term.toD q4.L, q4.From, q4.To, ih_shift_walk_putter_turn _ _ _ _ hq, ?_⟩
        obtain ⟨hP, h⟩ := w_chk h
        refine ⟨hP.1, by first | exact hP.2 | (simp only [List.length_map] at hP ⊢; exact hP.2), ?_⟩
        obtain ⟨hP, h⟩ := w_chk h
        refine ⟨by first | exact hP | (rw [List.length_map]; exact hP), ?_⟩
        refine w_nam (e' := List.map Term.toD (o26.set (Int.toNat v30) q4)) (w_set (Term.toD_eq q4)) ?_
        rintro _ rfl
        refine w_cond beq_iff_eq h (fun h => ?_) (fun h => ?_)
        ·
          obtain ⟨q5, hq, h⟩ := w_bind h
          refine ⟨q5, ⟨_, T_shift_binds _ _ hq⟩, ?_⟩
          refine w_cond Iff.rfl h (fun h => ?_) (fun h => ?_)
          ·
            rintro _ rfl
            rintro _ rfl
            exact ih_shift_walk_putter_turn_L8 _ _ _ _ _ _ _ _ _ _ h
          ·
            rintro _ rfl
            exact ih_shift_walk_putter_turn_L8 _ _ _ _ _ _ _ _ _ _ h
        ·
          rintro _ rfl
          exact ih_shift_walk_putter_turn_L8 _ _ _ _ _ _ _ _ _ _ h
    ·
      cases h; exact ⟨rfl, rfl⟩
theorem T_shift_walk_putter_turn (t : Term) (depth : Int) (w : ShiftPutter) (r : Term) (h : shift_walk_putter_turn t depth w = some r) : Trip Try.prog 20 [.d (.agg [(.int .i64 t.K), (.int .i64 t.N), (.str t.S), (.sl (List.map Term.toD t.L)), (.int .i64 t.From), (.int .i64 t.To)]), .d (.int .i64 depth), .fn 26 [.d (.agg [(.int .i64 w.e.K), (.int .i64 w.e.N), (.str w.e.S), (.sl (List.map Term.toD w.e.L)), (.int .i64 w.e.From), (.int .i64 w.e.To), (.int .i64 w.at_)])] []] [] [.d (.agg [(.int .i64 r.K), (.int .i64 r.N), (.str r.S), (.sl (List.map Term.toD r.L)), (.int .i64 r.From), (.int .i64 r.To)])] [] := G_shift_walk_putter_turn (.shift_walk_putter_turn t depth w) r h
theorem T_shift_walk_putter_turn_L8 (depth : Int) (w : ShiftPutter) (more : Int) (v28 : List Term) (v29 : Int) (v30 : Int) (t : Term) (o6 : Term) (o26 : List Term) (r : Term) (h : shift_walk_putter_turn_L8 depth w more v28 v29 v30 t o6 o26 = some r) : Ok (c_shift_walk_putter_turn (Trip Try.prog) [.d (.agg [(.int .i64 r.K), (.int .i64 r.N), (.str r.S), (.sl (List.map Term.toD r.L)), (.int .i64 r.From), (.int .i64 r.To)])] []) (kL Try.f20 8) ⟨63, [(1, .d (.int .i64 depth)), (2, .fn 26 [.d (.agg [(.int .i64 w.e.K), (.int .i64 w.e.N), (.str w.e.S), (.sl (List.map Term.toD w.e.L)), (.int .i64 w.e.From), (.int .i64 w.e.To), (.int .i64 w.at_)])] []), (3, .ref 3 1 0), (6, .ref 6 1 0), (7, .row 26 1), (8, .d (.int .i64 more)), (28, .d (.sl (List.map Term.toD v28))), (29, .d (.int .i64 v29)), (30, .d (.int .i64 v30))], [(3, 1, some (.agg (.agg [(.int .i64 t.K), (.int .i64 t.N), (.str t.S), (.sl (List.map Term.toD t.L)), (.int .i64 t.From), (.int .i64 t.To)]))), (6, 1, some (.agg (.agg [(.int .i64 o6.K), (.int .i64 o6.N), (.str o6.S), (.sl (List.map Term.toD o6.L)), (.int .i64 o6.From), (.int .i64 o6.To)]))), (26, 1, some (.row 6 (List.map Term.toD o26)))], [], 0⟩ := G_shift_walk_putter_turn (.shift_walk_putter_turn_L8 depth w more v28 v29 v30 t o6 o26) r h
theorem T_shift_Subst (t : Term) (e : Term) (at_ : Int) (r : Term) (h : shift_Subst t e at_ = some r) : Trip Try.prog 16 [.d (.agg [(.int .i64 t.K), (.int .i64 t.N), (.str t.S), (.sl (List.map Term.toD t.L)), (.int .i64 t.From), (.int .i64 t.To)]), .d (.agg [(.int .i64 e.K), (.int .i64 e.N), (.str e.S), (.sl (List.map Term.toD e.L)), (.int .i64 e.From), (.int .i64 e.To)]), .d (.int .i64 at_)] [] [.d (.agg [(.int .i64 r.K), (.int .i64 r.N), (.str r.S), (.sl (List.map Term.toD r.L)), (.int .i64 r.From), (.int .i64 r.To)])] [] := by
  unfold shift_Subst at h
  refine trip_ev 1000 (by kernel_rfl) (by kernel_rfl) (by kernel_rfl) (by kernel_rfl) (e_shift_Subst _ _ t e at_ _ _) ?_
  obtain ⟨q1, hq, h⟩ := w_bind h
  refine ⟨q1.K, q1.N, q1.S, List.map Term.toD q1.L, q1.From, q1.To, T_shift_walk_putter_turn _ _ _ _ hq, ?_⟩
  cases h; exact ⟨rfl, rfl⟩
theorem T_law14ShiftPuts (t : Term) (e : Term) (at_ : Int) (r : Bool) (h : law14ShiftPuts t e at_ = some r) : Trip Try.prog 5 [.d (.agg [(.int .i64 t.K), (.int .i64 t.N), (.str t.S), (.sl (List.map Term.toD t.L)), (.int .i64 t.From), (.int .i64 t.To)]), .d (.agg [(.int .i64 e.K), (.int .i64 e.N), (.str e.S), (.sl (List.map Term.toD e.L)), (.int .i64 e.From), (.int .i64 e.To)]), .d (.int .i64 at_)] [] [.d (.bool r)] [] := by
  unfold law14ShiftPuts at h
  refine trip_ev 1000 (by kernel_rfl) (by kernel_rfl) (by kernel_rfl) (by kernel_rfl) (e_law14ShiftPuts _ _ t e at_ _ _) ?_
  obtain ⟨q1, hq, h⟩ := w_bind h
  refine ⟨q1, ⟨_, T_ref06Large _ _ hq⟩, ?_⟩
  refine w_cond Iff.rfl h (fun h => ?_) (fun h => ?_)
  ·
    obtain ⟨q2, hq, h⟩ := w_bind h
    refine ⟨q2, ⟨_, T_law14awake _ hq⟩, ?_⟩
    cases h; exact ⟨rfl, rfl⟩
  ·
    obtain ⟨q3, hq, h⟩ := w_bind h
    refine ⟨q3, ⟨_, T_ref06Size _ _ hq⟩, ?_⟩
    rintro _ rfl
    refine w_cond decide_eq_true_iff h (fun h => ?_) (fun h => ?_)
    ·
      obtain ⟨q4, hq, h⟩ := w_bind h
      refine ⟨q4, ⟨_, T_law14awake _ hq⟩, ?_⟩
      cases h; exact ⟨rfl, rfl⟩
    ·
      obtain ⟨q5, hq, h⟩ := w_bind h
      refine ⟨q5, ⟨_, T_ref06Large _ _ hq⟩, ?_⟩
      refine w_cond Iff.rfl h (fun h => ?_) (fun h => ?_)
      ·
        obtain ⟨q6, hq, h⟩ := w_bind h
        refine ⟨q6, ⟨_, T_law14awake _ hq⟩, ?_⟩
        cases h; exact ⟨rfl, rfl⟩
      ·
        obtain ⟨q7, hq, h⟩ := w_bind h
        refine ⟨q7, ⟨_, T_ref06Size _ _ hq⟩, ?_⟩
        rintro _ rfl
        refine w_cond decide_eq_true_iff h (fun h => ?_) (fun h => ?_)
        ·
          obtain ⟨q8, hq, h⟩ := w_bind h
          refine ⟨q8, ⟨_, T_law14awake _ hq⟩, ?_⟩
          cases h; exact ⟨rfl, rfl⟩
        ·
          obtain ⟨q9, hq, h⟩ := w_bind h
          refine ⟨q9.K, q9.N, q9.S, List.map Term.toD q9.L, q9.From, q9.To, ⟨_, T_shift_Subst _ _ _ _ hq⟩, ?_⟩
          obtain ⟨q10, hq, h⟩ := w_bind h
          refine ⟨q10.K, q10.N, q10.S, List.map Term.toD q10.L, q10.From, q10.To, ⟨_, T_ref14Subst _ _ _ _ hq⟩, ?_⟩
          obtain ⟨q11, hq, h⟩ := w_bind h
          refine ⟨q11, ⟨_, T_ref06Placed _ _ _ hq⟩, ?_⟩
          refine w_cond (w_not Iff.rfl) h (fun h => ?_) (fun h => ?_)
          ·
            cases h; exact ⟨rfl, rfl⟩
          ·
            obtain ⟨q12, hq, h⟩ := w_bind h
            refine ⟨q12.1, ⟨_, T_shift_Mentions _ _ _ hq⟩, ?_⟩
            refine w_cond Iff.rfl h (fun h => ?_) (fun h => ?_)
            ·
              obtain ⟨q13, hq, h⟩ := w_bind h
              refine ⟨q13, ⟨_, T_law14awake _ hq⟩, ?_⟩
              cases h; exact ⟨rfl, rfl⟩
            ·
              obtain ⟨q14, hq, h⟩ := w_bind h
              refine ⟨q14, ⟨_, T_ref06Placed _ _ _ hq⟩, ?_⟩
              refine w_cond Iff.rfl h (fun h => ?_) (fun h => ?_)
              ·
                obtain ⟨q15, hq, h⟩ := w_bind h
                refine ⟨q15, ⟨_, T_law14awake _ hq⟩, ?_⟩
                cases h; exact ⟨rfl, rfl⟩
              ·
                cases h; exact ⟨rfl, rfl⟩
end Go.Proofs.Ytccabbnpnpfnfaa.M
