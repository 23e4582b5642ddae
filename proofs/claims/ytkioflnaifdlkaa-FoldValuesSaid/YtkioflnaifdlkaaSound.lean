/- The plain functions' answers are the program's. -/
import Derived.Test.YtkioflnaifdlkaaMod
import Derived.Test.YtkioflnaifdlkaaEv
namespace Go.Proofs.Ytkioflnaifdlkaa.M
open Go Nt Go.Proofs
set_option linter.unusedVariables false
set_option linter.unusedSimpArgs false
set_option maxRecDepth 100000
theorem T_arith_truth (b : Bool) (r : Int) (h : arith_truth b = some r) : Trip Try.prog 60 [.d (.bool b)] [] [.d (.int .i64 r)] [] := by
  unfold arith_truth at h
  refine trip_ev 1000 (by kernel_rfl) (by kernel_rfl) (by kernel_rfl) (by kernel_rfl) (e_arith_truth _ _ b _ _) ?_
  refine w_condH Iff.rfl h (fun hc1 h => ?_) (fun hc1 h => ?_)
  ·
    cases h; first | exact ⟨rfl, rfl⟩ | (refine ⟨?_, rfl⟩; simp only [List.map_cons, List.map_nil, Term.toD_eq])
  ·
    cases h; first | exact ⟨rfl, rfl⟩ | (refine ⟨?_, rfl⟩; simp only [List.map_cons, List.map_nil, Term.toD_eq])
theorem T_arith_One (op : Int) (a : Int) (r : Int × Int) (h : arith_One op a = some r) : Trip Try.prog 31 [.d (.int .i64 op), .d (.int .i64 a)] [] [.d (.int .i64 r.1), .d (.int .i64 r.2)] [] := by
  unfold arith_One at h
  refine trip_ev 1000 (by kernel_rfl) (by kernel_rfl) (by kernel_rfl) (by kernel_rfl) (e_arith_One _ _ op a _ _) ?_
  rintro _ rfl
  refine w_condH beq_iff_eq h (fun hc2 h => ?_) (fun hc2 h => ?_)
  ·
    rintro _ rfl
    cases h; first | exact ⟨rfl, rfl⟩ | (refine ⟨?_, rfl⟩; simp only [List.map_cons, List.map_nil, Term.toD_eq])
  ·
    rintro _ rfl
    refine w_condH beq_iff_eq h (fun hc3 h => ?_) (fun hc3 h => ?_)
    ·
      rintro _ rfl
      obtain ⟨q1, hq, h⟩ := w_bind h
      refine ⟨q1, ⟨_, T_arith_truth _ _ hq⟩, ?_⟩
      cases h; first | exact ⟨rfl, rfl⟩ | (refine ⟨?_, rfl⟩; simp only [List.map_cons, List.map_nil, Term.toD_eq])
    ·
      cases h; first | exact ⟨rfl, rfl⟩ | (refine ⟨?_, rfl⟩; simp only [List.map_cons, List.map_nil, Term.toD_eq])
theorem T_arith_class (op : Int) (r : Int) (h : arith_class op = some r) : Trip Try.prog 59 [.d (.int .i64 op)] [] [.d (.int .i64 r)] [] := by
  unfold arith_class at h
  refine trip_ev 1000 (by kernel_rfl) (by kernel_rfl) (by kernel_rfl) (by kernel_rfl) (e_arith_class _ _ op _ _) ?_
  rintro _ rfl
  refine w_condH beq_iff_eq h (fun hc4 h => ?_) (fun hc4 h => ?_)
  ·
    cases h; first | exact ⟨rfl, rfl⟩ | (refine ⟨?_, rfl⟩; simp only [List.map_cons, List.map_nil, Term.toD_eq])
  ·
    rintro _ rfl
    refine w_condH beq_iff_eq h (fun hc5 h => ?_) (fun hc5 h => ?_)
    ·
      cases h; first | exact ⟨rfl, rfl⟩ | (refine ⟨?_, rfl⟩; simp only [List.map_cons, List.map_nil, Term.toD_eq])
    ·
      rintro _ rfl
      refine w_condH decide_eq_true_iff h (fun hc6 h => ?_) (fun hc6 h => ?_)
      ·
        rintro _ rfl
        refine w_condH decide_eq_true_iff h (fun hc7 h => ?_) (fun hc7 h => ?_)
        ·
          cases h; first | exact ⟨rfl, rfl⟩ | (refine ⟨?_, rfl⟩; simp only [List.map_cons, List.map_nil, Term.toD_eq])
        ·
          rintro _ rfl
          refine w_condH decide_eq_true_iff h (fun hc8 h => ?_) (fun hc8 h => ?_)
          ·
            rintro _ rfl
            refine w_condH decide_eq_true_iff h (fun hc9 h => ?_) (fun hc9 h => ?_)
            ·
              cases h; first | exact ⟨rfl, rfl⟩ | (refine ⟨?_, rfl⟩; simp only [List.map_cons, List.map_nil, Term.toD_eq])
            ·
              cases h; first | exact ⟨rfl, rfl⟩ | (refine ⟨?_, rfl⟩; simp only [List.map_cons, List.map_nil, Term.toD_eq])
          ·
            cases h; first | exact ⟨rfl, rfl⟩ | (refine ⟨?_, rfl⟩; simp only [List.map_cons, List.map_nil, Term.toD_eq])
      ·
        rintro _ rfl
        refine w_condH decide_eq_true_iff h (fun hc10 h => ?_) (fun hc10 h => ?_)
        ·
          rintro _ rfl
          refine w_condH decide_eq_true_iff h (fun hc11 h => ?_) (fun hc11 h => ?_)
          ·
            cases h; first | exact ⟨rfl, rfl⟩ | (refine ⟨?_, rfl⟩; simp only [List.map_cons, List.map_nil, Term.toD_eq])
          ·
            cases h; first | exact ⟨rfl, rfl⟩ | (refine ⟨?_, rfl⟩; simp only [List.map_cons, List.map_nil, Term.toD_eq])
        ·
          cases h; first | exact ⟨rfl, rfl⟩ | (refine ⟨?_, rfl⟩; simp only [List.map_cons, List.map_nil, Term.toD_eq])
theorem T_arith_compare (op : Int) (a : Int) (b : Int) (r : Bool) (h : arith_compare op a b = some r) : Trip Try.prog 61 [.d (.int .i64 op), .d (.int .i64 a), .d (.int .i64 b)] [] [.d (.bool r)] [] := by
  unfold arith_compare at h
  refine trip_ev 1000 (by kernel_rfl) (by kernel_rfl) (by kernel_rfl) (by kernel_rfl) (e_arith_compare _ _ op a b _ _) ?_
  rintro _ rfl
  refine w_condH beq_iff_eq h (fun hc12 h => ?_) (fun hc12 h => ?_)
  ·
    rintro _ rfl
    cases h; first | exact ⟨rfl, rfl⟩ | (refine ⟨?_, rfl⟩; simp only [List.map_cons, List.map_nil, Term.toD_eq])
  ·
    rintro _ rfl
    refine w_condH beq_iff_eq h (fun hc13 h => ?_) (fun hc13 h => ?_)
    ·
      rintro _ rfl
      cases h; first | exact ⟨rfl, rfl⟩ | (refine ⟨?_, rfl⟩; simp only [List.map_cons, List.map_nil, Term.toD_eq])
    ·
      rintro _ rfl
      refine w_condH beq_iff_eq h (fun hc14 h => ?_) (fun hc14 h => ?_)
      ·
        rintro _ rfl
        cases h; first | exact ⟨rfl, rfl⟩ | (refine ⟨?_, rfl⟩; simp only [List.map_cons, List.map_nil, Term.toD_eq])
      ·
        rintro _ rfl
        refine w_condH beq_iff_eq h (fun hc15 h => ?_) (fun hc15 h => ?_)
        ·
          rintro _ rfl
          cases h; first | exact ⟨rfl, rfl⟩ | (refine ⟨?_, rfl⟩; simp only [List.map_cons, List.map_nil, Term.toD_eq])
        ·
          rintro _ rfl
          refine w_condH beq_iff_eq h (fun hc16 h => ?_) (fun hc16 h => ?_)
          ·
            rintro _ rfl
            cases h; first | exact ⟨rfl, rfl⟩ | (refine ⟨?_, rfl⟩; simp only [List.map_cons, List.map_nil, Term.toD_eq])
          ·
            rintro _ rfl
            cases h; first | exact ⟨rfl, rfl⟩ | (refine ⟨?_, rfl⟩; simp only [List.map_cons, List.map_nil, Term.toD_eq])
theorem T_arith_reckon (op : Int) (a : Int) (b : Int) (r : Int × Int) (h : arith_reckon op a b = some r) : Trip Try.prog 62 [.d (.int .i64 op), .d (.int .i64 a), .d (.int .i64 b)] [] [.d (.int .i64 r.1), .d (.int .i64 r.2)] [] := by
  unfold arith_reckon at h
  refine trip_ev 1000 (by kernel_rfl) (by kernel_rfl) (by kernel_rfl) (by kernel_rfl) (e_arith_reckon _ _ op a b _ _) ?_
  rintro _ rfl
  refine w_condH beq_iff_eq h (fun hc17 h => ?_) (fun hc17 h => ?_)
  ·
    rintro _ rfl
    cases h; first | exact ⟨rfl, rfl⟩ | (refine ⟨?_, rfl⟩; simp only [List.map_cons, List.map_nil, Term.toD_eq])
  ·
    rintro _ rfl
    refine w_condH beq_iff_eq h (fun hc18 h => ?_) (fun hc18 h => ?_)
    ·
      rintro _ rfl
      cases h; first | exact ⟨rfl, rfl⟩ | (refine ⟨?_, rfl⟩; simp only [List.map_cons, List.map_nil, Term.toD_eq])
    ·
      rintro _ rfl
      refine w_condH beq_iff_eq h (fun hc19 h => ?_) (fun hc19 h => ?_)
      ·
        rintro _ rfl
        cases h; first | exact ⟨rfl, rfl⟩ | (refine ⟨?_, rfl⟩; simp only [List.map_cons, List.map_nil, Term.toD_eq])
      ·
        rintro _ rfl
        refine w_condH beq_iff_eq h (fun hc20 h => ?_) (fun hc20 h => ?_)
        ·
          cases h; first | exact ⟨rfl, rfl⟩ | (refine ⟨?_, rfl⟩; simp only [List.map_cons, List.map_nil, Term.toD_eq])
        ·
          rintro _ rfl
          refine w_condH beq_iff_eq h (fun hc21 h => ?_) (fun hc21 h => ?_)
          ·
            obtain ⟨hP, h⟩ := w_chk h
            refine ⟨by first | exact hP | (simp only [List.length_map, List.length_cons, List.length_nil] at hP ⊢; exact hP), ?_⟩
            rintro _ rfl
            cases h; first | exact ⟨rfl, rfl⟩ | (refine ⟨?_, rfl⟩; simp only [List.map_cons, List.map_nil, Term.toD_eq])
          ·
            obtain ⟨hP, h⟩ := w_chk h
            refine ⟨by first | exact hP | (simp only [List.length_map, List.length_cons, List.length_nil] at hP ⊢; exact hP), ?_⟩
            rintro _ rfl
            cases h; first | exact ⟨rfl, rfl⟩ | (refine ⟨?_, rfl⟩; simp only [List.map_cons, List.map_nil, Term.toD_eq])
theorem T_arith_Two (op : Int) (a : Int) (b : Int) (r : Int × Int) (h : arith_Two op a b = some r) : Trip Try.prog 29 [.d (.int .i64 op), .d (.int .i64 a), .d (.int .i64 b)] [] [.d (.int .i64 r.1), .d (.int .i64 r.2)] [] := by
  unfold arith_Two at h
  refine trip_ev 1000 (by kernel_rfl) (by kernel_rfl) (by kernel_rfl) (by kernel_rfl) (e_arith_Two _ _ op a b _ _) ?_
  obtain ⟨q1, hq, h⟩ := w_bind h
  refine ⟨q1, ⟨_, T_arith_class _ _ hq⟩, ?_⟩
  rintro _ rfl
  refine w_condH beq_iff_eq h (fun hc22 h => ?_) (fun hc22 h => ?_)
  ·
    rintro _ rfl
    refine w_condH beq_iff_eq h (fun hc23 h => ?_) (fun hc23 h => ?_)
    ·
      rintro _ rfl
      refine w_condN beq_iff_eq h (fun hc24 h => ?_) (fun hc24 h => ?_)
      ·
        rintro _ rfl
        obtain ⟨q3, hq, h⟩ := w_bind h
        refine ⟨q3, ⟨_, T_arith_truth _ _ hq⟩, ?_⟩
        cases h; first | exact ⟨rfl, rfl⟩ | (refine ⟨?_, rfl⟩; simp only [List.map_cons, List.map_nil, Term.toD_eq])
      ·
        obtain ⟨q2, hq, h⟩ := w_bind h
        refine ⟨q2, ⟨_, T_arith_truth _ _ hq⟩, ?_⟩
        cases h; first | exact ⟨rfl, rfl⟩ | (refine ⟨?_, rfl⟩; simp only [List.map_cons, List.map_nil, Term.toD_eq])
    ·
      rintro _ rfl
      refine w_condN beq_iff_eq h (fun hc25 h => ?_) (fun hc25 h => ?_)
      ·
        obtain ⟨q5, hq, h⟩ := w_bind h
        refine ⟨q5, ⟨_, T_arith_truth _ _ hq⟩, ?_⟩
        cases h; first | exact ⟨rfl, rfl⟩ | (refine ⟨?_, rfl⟩; simp only [List.map_cons, List.map_nil, Term.toD_eq])
      ·
        rintro _ rfl
        obtain ⟨q4, hq, h⟩ := w_bind h
        refine ⟨q4, ⟨_, T_arith_truth _ _ hq⟩, ?_⟩
        cases h; first | exact ⟨rfl, rfl⟩ | (refine ⟨?_, rfl⟩; simp only [List.map_cons, List.map_nil, Term.toD_eq])
  ·
    rintro _ rfl
    refine w_condH beq_iff_eq h (fun hc26 h => ?_) (fun hc26 h => ?_)
    ·
      obtain ⟨q6, hq, h⟩ := w_bind h
      refine ⟨q6, ⟨_, T_arith_compare _ _ _ _ hq⟩, ?_⟩
      obtain ⟨q7, hq, h⟩ := w_bind h
      refine ⟨q7, ⟨_, T_arith_truth _ _ hq⟩, ?_⟩
      cases h; first | exact ⟨rfl, rfl⟩ | (refine ⟨?_, rfl⟩; simp only [List.map_cons, List.map_nil, Term.toD_eq])
    ·
      rintro _ rfl
      refine w_condH beq_iff_eq h (fun hc27 h => ?_) (fun hc27 h => ?_)
      ·
        obtain ⟨q8, hq, h⟩ := w_bind h
        refine ⟨q8.1, q8.2, ⟨_, T_arith_reckon _ _ _ _ hq⟩, ?_⟩
        cases h; first | exact ⟨rfl, rfl⟩ | (refine ⟨?_, rfl⟩; simp only [List.map_cons, List.map_nil, Term.toD_eq])
      ·
        cases h; first | exact ⟨rfl, rfl⟩ | (refine ⟨?_, rfl⟩; simp only [List.map_cons, List.map_nil, Term.toD_eq])
theorem T_fold_literal (t : Term) (kind : Int) (r : Bool) (h : fold_literal t kind = some r) : Trip Try.prog 30 [.d (.agg [(.int .i64 t.K), (.int .i64 t.N), (.str t.S), (.sl (List.map Term.toD t.L)), (.int .i64 t.From), (.int .i64 t.To)]), .d (.int .i64 kind)] [] [.d (.bool r)] [] := by
  unfold fold_literal at h
  refine trip_ev 1000 (by kernel_rfl) (by kernel_rfl) (by kernel_rfl) (by kernel_rfl) (e_fold_literal _ _ t kind _ _) ?_
  rintro _ rfl
  refine w_condH beq_iff_eq h (fun hc28 h => ?_) (fun hc28 h => ?_)
  ·
    rintro _ rfl
    refine w_condH beq_iff_eq h (fun hc29 h => ?_) (fun hc29 h => ?_)
    ·
      refine w_nam (e' := (List.length t.L : Int)) (by first | rfl | rw [List.length_map]) ?_
      rintro _ rfl
      refine w_condH beq_iff_eq h (fun hc30 h => ?_) (fun hc30 h => ?_)
      ·
        rintro _ rfl
        refine w_condH beq_iff_eq h (fun hc31 h => ?_) (fun hc31 h => ?_)
        ·
          cases h; first | exact ⟨rfl, rfl⟩ | (refine ⟨?_, rfl⟩; simp only [List.map_cons, List.map_nil, Term.toD_eq])
        ·
          rintro _ rfl
          refine w_condH beq_iff_eq h (fun hc32 h => ?_) (fun hc32 h => ?_)
          ·
            cases h; first | exact ⟨rfl, rfl⟩ | (refine ⟨?_, rfl⟩; simp only [List.map_cons, List.map_nil, Term.toD_eq])
          ·
            rintro _ rfl
            cases h; first | exact ⟨rfl, rfl⟩ | (refine ⟨?_, rfl⟩; simp only [List.map_cons, List.map_nil, Term.toD_eq])
      ·
        cases h; first | exact ⟨rfl, rfl⟩ | (refine ⟨?_, rfl⟩; simp only [List.map_cons, List.map_nil, Term.toD_eq])
    ·
      cases h; first | exact ⟨rfl, rfl⟩ | (refine ⟨?_, rfl⟩; simp only [List.map_cons, List.map_nil, Term.toD_eq])
  ·
    cases h; first | exact ⟨rfl, rfl⟩ | (refine ⟨?_, rfl⟩; simp only [List.map_cons, List.map_nil, Term.toD_eq])
theorem T_fold_both (t : Term) (kind : Int) (r : Bool) (h : fold_both t kind = some r) : Trip Try.prog 58 [.d (.agg [(.int .i64 t.K), (.int .i64 t.N), (.str t.S), (.sl (List.map Term.toD t.L)), (.int .i64 t.From), (.int .i64 t.To)]), .d (.int .i64 kind)] [] [.d (.bool r)] [] := by
  unfold fold_both at h
  refine trip_ev 1000 (by kernel_rfl) (by kernel_rfl) (by kernel_rfl) (by kernel_rfl) (e_fold_both _ _ t kind _ _) ?_
  refine w_nam (e' := (List.length t.L : Int)) (by first | rfl | rw [List.length_map]) ?_
  rintro _ rfl
  refine w_condH beq_iff_eq h (fun hc33 h => ?_) (fun hc33 h => ?_)
  ·
    obtain ⟨x, hx, h⟩ := w_bind h
    refine ⟨sizedL (l := t.L) (Term.sz), w_ge hx, x.K, x.N, x.S, List.map Term.toD x.L, x.From, x.To, w_get (Term.toD_eq x) hx, ?_⟩
    obtain ⟨q1, hq, h⟩ := w_bind h
    refine ⟨q1, ⟨_, T_fold_literal _ _ _ hq⟩, ?_⟩
    refine w_condH Iff.rfl h (fun hc34 h => ?_) (fun hc34 h => ?_)
    ·
      obtain ⟨x1, hx, h⟩ := w_bind h
      refine ⟨sizedL (l := t.L) (Term.sz), w_ge hx, x1.K, x1.N, x1.S, List.map Term.toD x1.L, x1.From, x1.To, w_get (Term.toD_eq x1) hx, ?_⟩
      obtain ⟨q2, hq, h⟩ := w_bind h
      refine ⟨q2, ⟨_, T_fold_literal _ _ _ hq⟩, ?_⟩
      cases h; first | exact ⟨rfl, rfl⟩ | (refine ⟨?_, rfl⟩; simp only [List.map_cons, List.map_nil, Term.toD_eq])
    ·
      cases h; first | exact ⟨rfl, rfl⟩ | (refine ⟨?_, rfl⟩; simp only [List.map_cons, List.map_nil, Term.toD_eq])
  ·
    cases h; first | exact ⟨rfl, rfl⟩ | (refine ⟨?_, rfl⟩; simp only [List.map_cons, List.map_nil, Term.toD_eq])
theorem T_fold_result (t : Term) (r : Int) (h : fold_result t = some r) : Trip Try.prog 28 [.d (.agg [(.int .i64 t.K), (.int .i64 t.N), (.str t.S), (.sl (List.map Term.toD t.L)), (.int .i64 t.From), (.int .i64 t.To)])] [] [.d (.int .i64 r)] [] := by
  unfold fold_result at h
  refine trip_ev 1000 (by kernel_rfl) (by kernel_rfl) (by kernel_rfl) (by kernel_rfl) (e_fold_result _ _ t _ _) ?_
  rintro _ rfl
  refine w_condH beq_iff_eq h (fun hc35 h => ?_) (fun hc35 h => ?_)
  ·
    refine w_condT beq_iff_eq hc35 ?_
    obtain ⟨q1, hq, h⟩ := w_bind h
    refine ⟨q1, ⟨_, T_fold_both _ _ _ hq⟩, ?_⟩
    refine w_condH Iff.rfl h (fun hc36 h => ?_) (fun hc36 h => ?_)
    ·
      cases h; first | exact ⟨rfl, rfl⟩ | (refine ⟨?_, rfl⟩; simp only [List.map_cons, List.map_nil, Term.toD_eq])
    ·
      obtain ⟨q2, hq, h⟩ := w_bind h
      refine ⟨q2, ⟨_, T_fold_both _ _ _ hq⟩, ?_⟩
      refine w_condH Iff.rfl h (fun hc37 h => ?_) (fun hc37 h => ?_)
      ·
        cases h; first | exact ⟨rfl, rfl⟩ | (refine ⟨?_, rfl⟩; simp only [List.map_cons, List.map_nil, Term.toD_eq])
      ·
        cases h; first | exact ⟨rfl, rfl⟩ | (refine ⟨?_, rfl⟩; simp only [List.map_cons, List.map_nil, Term.toD_eq])
  ·
    rintro _ rfl
    refine w_condH beq_iff_eq h (fun hc38 h => ?_) (fun hc38 h => ?_)
    ·
      obtain ⟨q53, hq, h⟩ := w_bind h
      refine ⟨q53, ⟨_, T_fold_both _ _ _ hq⟩, ?_⟩
      refine w_condH Iff.rfl h (fun hc39 h => ?_) (fun hc39 h => ?_)
      ·
        cases h; first | exact ⟨rfl, rfl⟩ | (refine ⟨?_, rfl⟩; simp only [List.map_cons, List.map_nil, Term.toD_eq])
      ·
        obtain ⟨q54, hq, h⟩ := w_bind h
        refine ⟨q54, ⟨_, T_fold_both _ _ _ hq⟩, ?_⟩
        refine w_condH Iff.rfl h (fun hc40 h => ?_) (fun hc40 h => ?_)
        ·
          cases h; first | exact ⟨rfl, rfl⟩ | (refine ⟨?_, rfl⟩; simp only [List.map_cons, List.map_nil, Term.toD_eq])
        ·
          cases h; first | exact ⟨rfl, rfl⟩ | (refine ⟨?_, rfl⟩; simp only [List.map_cons, List.map_nil, Term.toD_eq])
    ·
      rintro _ rfl
      refine w_condH beq_iff_eq h (fun hc41 h => ?_) (fun hc41 h => ?_)
      ·
        refine w_condT beq_iff_eq hc41 ?_
        obtain ⟨q55, hq, h⟩ := w_bind h
        refine ⟨q55, ⟨_, T_fold_both _ _ _ hq⟩, ?_⟩
        refine w_condH Iff.rfl h (fun hc42 h => ?_) (fun hc42 h => ?_)
        ·
          cases h; first | exact ⟨rfl, rfl⟩ | (refine ⟨?_, rfl⟩; simp only [List.map_cons, List.map_nil, Term.toD_eq])
        ·
          cases h; first | exact ⟨rfl, rfl⟩ | (refine ⟨?_, rfl⟩; simp only [List.map_cons, List.map_nil, Term.toD_eq])
      ·
        rintro _ rfl
        refine w_condH beq_iff_eq h (fun hc43 h => ?_) (fun hc43 h => ?_)
        ·
          obtain ⟨q80, hq, h⟩ := w_bind h
          refine ⟨q80, ⟨_, T_fold_both _ _ _ hq⟩, ?_⟩
          refine w_condH Iff.rfl h (fun hc44 h => ?_) (fun hc44 h => ?_)
          ·
            cases h; first | exact ⟨rfl, rfl⟩ | (refine ⟨?_, rfl⟩; simp only [List.map_cons, List.map_nil, Term.toD_eq])
          ·
            cases h; first | exact ⟨rfl, rfl⟩ | (refine ⟨?_, rfl⟩; simp only [List.map_cons, List.map_nil, Term.toD_eq])
        ·
          rintro _ rfl
          refine w_condH beq_iff_eq h (fun hc45 h => ?_) (fun hc45 h => ?_)
          ·
            refine w_condT beq_iff_eq hc45 ?_
            obtain ⟨q81, hq, h⟩ := w_bind h
            refine ⟨q81, ⟨_, T_fold_both _ _ _ hq⟩, ?_⟩
            refine w_condH Iff.rfl h (fun hc46 h => ?_) (fun hc46 h => ?_)
            ·
              cases h; first | exact ⟨rfl, rfl⟩ | (refine ⟨?_, rfl⟩; simp only [List.map_cons, List.map_nil, Term.toD_eq])
            ·
              cases h; first | exact ⟨rfl, rfl⟩ | (refine ⟨?_, rfl⟩; simp only [List.map_cons, List.map_nil, Term.toD_eq])
          ·
            rintro _ rfl
            refine w_condH beq_iff_eq h (fun hc47 h => ?_) (fun hc47 h => ?_)
            ·
              refine w_condT beq_iff_eq hc47 ?_
              obtain ⟨q87, hq, h⟩ := w_bind h
              refine ⟨q87, ⟨_, T_fold_both _ _ _ hq⟩, ?_⟩
              refine w_condH Iff.rfl h (fun hc48 h => ?_) (fun hc48 h => ?_)
              ·
                cases h; first | exact ⟨rfl, rfl⟩ | (refine ⟨?_, rfl⟩; simp only [List.map_cons, List.map_nil, Term.toD_eq])
              ·
                cases h; first | exact ⟨rfl, rfl⟩ | (refine ⟨?_, rfl⟩; simp only [List.map_cons, List.map_nil, Term.toD_eq])
            ·
              rintro _ rfl
              refine w_condH beq_iff_eq h (fun hc49 h => ?_) (fun hc49 h => ?_)
              ·
                refine w_condT beq_iff_eq hc49 ?_
                obtain ⟨q93, hq, h⟩ := w_bind h
                refine ⟨q93, ⟨_, T_fold_both _ _ _ hq⟩, ?_⟩
                refine w_condH Iff.rfl h (fun hc50 h => ?_) (fun hc50 h => ?_)
                ·
                  cases h; first | exact ⟨rfl, rfl⟩ | (refine ⟨?_, rfl⟩; simp only [List.map_cons, List.map_nil, Term.toD_eq])
                ·
                  cases h; first | exact ⟨rfl, rfl⟩ | (refine ⟨?_, rfl⟩; simp only [List.map_cons, List.map_nil, Term.toD_eq])
              ·
                rintro _ rfl
                refine w_condH beq_iff_eq h (fun hc51 h => ?_) (fun hc51 h => ?_)
                ·
                  obtain ⟨q99, hq, h⟩ := w_bind h
                  refine ⟨q99, ⟨_, T_fold_both _ _ _ hq⟩, ?_⟩
                  refine w_condH Iff.rfl h (fun hc52 h => ?_) (fun hc52 h => ?_)
                  ·
                    cases h; first | exact ⟨rfl, rfl⟩ | (refine ⟨?_, rfl⟩; simp only [List.map_cons, List.map_nil, Term.toD_eq])
                  ·
                    cases h; first | exact ⟨rfl, rfl⟩ | (refine ⟨?_, rfl⟩; simp only [List.map_cons, List.map_nil, Term.toD_eq])
                ·
                  rintro _ rfl
                  refine w_condH beq_iff_eq h (fun hc53 h => ?_) (fun hc53 h => ?_)
                  ·
                    refine w_condT beq_iff_eq hc53 ?_
                    obtain ⟨q100, hq, h⟩ := w_bind h
                    refine ⟨q100, ⟨_, T_fold_both _ _ _ hq⟩, ?_⟩
                    refine w_condH Iff.rfl h (fun hc54 h => ?_) (fun hc54 h => ?_)
                    ·
                      cases h; first | exact ⟨rfl, rfl⟩ | (refine ⟨?_, rfl⟩; simp only [List.map_cons, List.map_nil, Term.toD_eq])
                    ·
                      cases h; first | exact ⟨rfl, rfl⟩ | (refine ⟨?_, rfl⟩; simp only [List.map_cons, List.map_nil, Term.toD_eq])
                  ·
                    rintro _ rfl
                    refine w_condH beq_iff_eq h (fun hc55 h => ?_) (fun hc55 h => ?_)
                    ·
                      refine w_condT beq_iff_eq hc55 ?_
                      obtain ⟨q101, hq, h⟩ := w_bind h
                      refine ⟨q101, ⟨_, T_fold_both _ _ _ hq⟩, ?_⟩
                      refine w_condH Iff.rfl h (fun hc56 h => ?_) (fun hc56 h => ?_)
                      ·
                        cases h; first | exact ⟨rfl, rfl⟩ | (refine ⟨?_, rfl⟩; simp only [List.map_cons, List.map_nil, Term.toD_eq])
                      ·
                        cases h; first | exact ⟨rfl, rfl⟩ | (refine ⟨?_, rfl⟩; simp only [List.map_cons, List.map_nil, Term.toD_eq])
                    ·
                      rintro _ rfl
                      refine w_condH beq_iff_eq h (fun hc57 h => ?_) (fun hc57 h => ?_)
                      ·
                        refine w_condT beq_iff_eq hc57 ?_
                        obtain ⟨q102, hq, h⟩ := w_bind h
                        refine ⟨q102, ⟨_, T_fold_both _ _ _ hq⟩, ?_⟩
                        refine w_condH Iff.rfl h (fun hc58 h => ?_) (fun hc58 h => ?_)
                        ·
                          cases h; first | exact ⟨rfl, rfl⟩ | (refine ⟨?_, rfl⟩; simp only [List.map_cons, List.map_nil, Term.toD_eq])
                        ·
                          cases h; first | exact ⟨rfl, rfl⟩ | (refine ⟨?_, rfl⟩; simp only [List.map_cons, List.map_nil, Term.toD_eq])
                      ·
                        rintro _ rfl
                        refine w_condH beq_iff_eq h (fun hc59 h => ?_) (fun hc59 h => ?_)
                        ·
                          refine w_condT beq_iff_eq hc59 ?_
                          obtain ⟨q103, hq, h⟩ := w_bind h
                          refine ⟨q103, ⟨_, T_fold_both _ _ _ hq⟩, ?_⟩
                          refine w_condH Iff.rfl h (fun hc60 h => ?_) (fun hc60 h => ?_)
                          ·
                            cases h; first | exact ⟨rfl, rfl⟩ | (refine ⟨?_, rfl⟩; simp only [List.map_cons, List.map_nil, Term.toD_eq])
                          ·
                            cases h; first | exact ⟨rfl, rfl⟩ | (refine ⟨?_, rfl⟩; simp only [List.map_cons, List.map_nil, Term.toD_eq])
                        ·
                          rintro _ rfl
                          refine w_condH beq_iff_eq h (fun hc61 h => ?_) (fun hc61 h => ?_)
                          ·
                            obtain ⟨q104, hq, h⟩ := w_bind h
                            refine ⟨q104, ⟨_, T_fold_both _ _ _ hq⟩, ?_⟩
                            refine w_condH Iff.rfl h (fun hc62 h => ?_) (fun hc62 h => ?_)
                            ·
                              cases h; first | exact ⟨rfl, rfl⟩ | (refine ⟨?_, rfl⟩; simp only [List.map_cons, List.map_nil, Term.toD_eq])
                            ·
                              cases h; first | exact ⟨rfl, rfl⟩ | (refine ⟨?_, rfl⟩; simp only [List.map_cons, List.map_nil, Term.toD_eq])
                          ·
                            cases h; first | exact ⟨rfl, rfl⟩ | (refine ⟨?_, rfl⟩; simp only [List.map_cons, List.map_nil, Term.toD_eq])
theorem T_fold_Value (t : Term) (r : Term × Bool) (h : fold_Value t = some r) : Trip Try.prog 9 [.d (.agg [(.int .i64 t.K), (.int .i64 t.N), (.str t.S), (.sl (List.map Term.toD t.L)), (.int .i64 t.From), (.int .i64 t.To)])] [] [.d (.agg [(.int .i64 r.1.K), (.int .i64 r.1.N), (.str r.1.S), (.sl (List.map Term.toD r.1.L)), (.int .i64 r.1.From), (.int .i64 r.1.To)]), .d (.bool r.2)] [] := by
  unfold fold_Value at h
  refine trip_ev 1000 (by kernel_rfl) (by kernel_rfl) (by kernel_rfl) (by kernel_rfl) (e_fold_Value _ _ t _ _) ?_
  rintro _ rfl
  refine w_condN beq_iff_eq h (fun hc63 h => ?_) (fun hc63 h => ?_)
  ·
    rintro _ rfl
    refine w_condH beq_iff_eq h (fun hc64 h => ?_) (fun hc64 h => ?_)
    ·
      obtain ⟨q1, hq, h⟩ := w_bind h
      refine ⟨q1, ⟨_, T_fold_result _ _ hq⟩, ?_⟩
      rintro _ rfl
      refine w_condH beq_iff_eq h (fun hc65 h => ?_) (fun hc65 h => ?_)
      ·
        cases h; first | exact ⟨rfl, rfl⟩ | (refine ⟨?_, rfl⟩; simp only [List.map_cons, List.map_nil, Term.toD_eq])
      ·
        obtain ⟨x, hx, h⟩ := w_bind h
        refine ⟨sizedL (l := t.L) (Term.sz), w_ge hx, x.K, x.N, x.S, List.map Term.toD x.L, x.From, x.To, w_get (Term.toD_eq x) hx, ?_⟩
        obtain ⟨x1, hx, h⟩ := w_bind h
        refine ⟨sizedL (l := t.L) (Term.sz), w_ge hx, x1.K, x1.N, x1.S, List.map Term.toD x1.L, x1.From, x1.To, w_get (Term.toD_eq x1) hx, ?_⟩
        obtain ⟨q2, hq, h⟩ := w_bind h
        refine ⟨q2.1, q2.2, ⟨_, T_arith_Two _ _ _ _ hq⟩, ?_⟩
        rintro _ rfl
        refine w_condN beq_iff_eq h (fun hc66 h => ?_) (fun hc66 h => ?_)
        ·
          cases h; first | exact ⟨rfl, rfl⟩ | (refine ⟨?_, rfl⟩; simp only [List.map_cons, List.map_nil, Term.toD_eq])
        ·
          cases h; first | exact ⟨rfl, rfl⟩ | (refine ⟨?_, rfl⟩; simp only [List.map_cons, List.map_nil, Term.toD_eq])
    ·
      rintro _ rfl
      refine w_condH beq_iff_eq h (fun hc67 h => ?_) (fun hc67 h => ?_)
      ·
        refine w_nam (e' := (List.length t.L : Int)) (by first | rfl | rw [List.length_map]) ?_
        rintro _ rfl
        refine w_condH beq_iff_eq h (fun hc68 h => ?_) (fun hc68 h => ?_)
        ·
          rintro _ rfl
          refine w_condH beq_iff_eq h (fun hc69 h => ?_) (fun hc69 h => ?_)
          ·
            obtain ⟨x2, hx, h⟩ := w_bind h
            refine ⟨sizedL (l := t.L) (Term.sz), w_ge hx, x2.K, x2.N, x2.S, List.map Term.toD x2.L, x2.From, x2.To, w_get (Term.toD_eq x2) hx, ?_⟩
            obtain ⟨q3, hq, h⟩ := w_bind h
            refine ⟨q3, ⟨_, T_fold_literal _ _ _ hq⟩, ?_⟩
            refine w_condH Iff.rfl h (fun hc70 h => ?_) (fun hc70 h => ?_)
            ·
              obtain ⟨x3, hx, h⟩ := w_bind h
              refine ⟨sizedL (l := t.L) (Term.sz), w_ge hx, x3.K, x3.N, x3.S, List.map Term.toD x3.L, x3.From, x3.To, w_get (Term.toD_eq x3) hx, ?_⟩
              obtain ⟨q4, hq, h⟩ := w_bind h
              refine ⟨q4.1, q4.2, ⟨_, T_arith_One _ _ _ hq⟩, ?_⟩
              obtain ⟨x4, hx, h⟩ := w_bind h
              refine ⟨sizedL (l := t.L) (Term.sz), w_ge hx, x4.K, x4.N, x4.S, List.map Term.toD x4.L, x4.From, x4.To, w_get (Term.toD_eq x4) hx, ?_⟩
              cases h; first | exact ⟨rfl, rfl⟩ | (refine ⟨?_, rfl⟩; simp only [List.map_cons, List.map_nil, Term.toD_eq])
            ·
              rintro _ rfl
              refine w_condF beq_iff_eq (fun e => absurd (hc69.symm.trans e) (by decide)) ?_
              cases h; first | exact ⟨rfl, rfl⟩ | (refine ⟨?_, rfl⟩; simp only [List.map_cons, List.map_nil, Term.toD_eq])
          ·
            rintro _ rfl
            refine w_condH beq_iff_eq h (fun hc71 h => ?_) (fun hc71 h => ?_)
            ·
              obtain ⟨x8, hx, h⟩ := w_bind h
              refine ⟨sizedL (l := t.L) (Term.sz), w_ge hx, x8.K, x8.N, x8.S, List.map Term.toD x8.L, x8.From, x8.To, w_get (Term.toD_eq x8) hx, ?_⟩
              obtain ⟨q7, hq, h⟩ := w_bind h
              refine ⟨q7, ⟨_, T_fold_literal _ _ _ hq⟩, ?_⟩
              refine w_condH Iff.rfl h (fun hc72 h => ?_) (fun hc72 h => ?_)
              ·
                obtain ⟨x9, hx, h⟩ := w_bind h
                refine ⟨sizedL (l := t.L) (Term.sz), w_ge hx, x9.K, x9.N, x9.S, List.map Term.toD x9.L, x9.From, x9.To, w_get (Term.toD_eq x9) hx, ?_⟩
                obtain ⟨q8, hq, h⟩ := w_bind h
                refine ⟨q8.1, q8.2, ⟨_, T_arith_One _ _ _ hq⟩, ?_⟩
                obtain ⟨x10, hx, h⟩ := w_bind h
                refine ⟨sizedL (l := t.L) (Term.sz), w_ge hx, x10.K, x10.N, x10.S, List.map Term.toD x10.L, x10.From, x10.To, w_get (Term.toD_eq x10) hx, ?_⟩
                cases h; first | exact ⟨rfl, rfl⟩ | (refine ⟨?_, rfl⟩; simp only [List.map_cons, List.map_nil, Term.toD_eq])
              ·
                cases h; first | exact ⟨rfl, rfl⟩ | (refine ⟨?_, rfl⟩; simp only [List.map_cons, List.map_nil, Term.toD_eq])
            ·
              cases h; first | exact ⟨rfl, rfl⟩ | (refine ⟨?_, rfl⟩; simp only [List.map_cons, List.map_nil, Term.toD_eq])
        ·
          cases h; first | exact ⟨rfl, rfl⟩ | (refine ⟨?_, rfl⟩; simp only [List.map_cons, List.map_nil, Term.toD_eq])
      ·
        cases h; first | exact ⟨rfl, rfl⟩ | (refine ⟨?_, rfl⟩; simp only [List.map_cons, List.map_nil, Term.toD_eq])
  ·
    cases h; first | exact ⟨rfl, rfl⟩ | (refine ⟨?_, rfl⟩; simp only [List.map_cons, List.map_nil, Term.toD_eq])
theorem T_ref25Bin (op : Int) (a : Term) (b : Term) (r : Term) (h : ref25Bin op a b = some r) : Trip Try.prog 26 [.d (.int .i64 op), .d (.agg [(.int .i64 a.K), (.int .i64 a.N), (.str a.S), (.sl (List.map Term.toD a.L)), (.int .i64 a.From), (.int .i64 a.To)]), .d (.agg [(.int .i64 b.K), (.int .i64 b.N), (.str b.S), (.sl (List.map Term.toD b.L)), (.int .i64 b.From), (.int .i64 b.To)])] [] [.d (.agg [(.int .i64 r.K), (.int .i64 r.N), (.str r.S), (.sl (List.map Term.toD r.L)), (.int .i64 r.From), (.int .i64 r.To)])] [] := by
  unfold ref25Bin at h
  refine trip_ev 1000 (by kernel_rfl) (by kernel_rfl) (by kernel_rfl) (by kernel_rfl) (e_ref25Bin _ _ op a b _ _) ?_
  cases h; first | exact ⟨rfl, rfl⟩ | (refine ⟨?_, rfl⟩; simp only [List.map_cons, List.map_nil, Term.toD_eq])
theorem T_ref25Num (n : Int) (r : Term) (h : ref25Num n = some r) : Trip Try.prog 27 [.d (.int .i64 n)] [] [.d (.agg [(.int .i64 r.K), (.int .i64 r.N), (.str r.S), (.sl (List.map Term.toD r.L)), (.int .i64 r.From), (.int .i64 r.To)])] [] := by
  unfold ref25Num at h
  refine trip_ev 1000 (by kernel_rfl) (by kernel_rfl) (by kernel_rfl) (by kernel_rfl) (e_ref25Num _ _ n _ _) ?_
  cases h; first | exact ⟨rfl, rfl⟩ | (refine ⟨?_, rfl⟩; simp only [List.map_cons, List.map_nil, Term.toD_eq])
theorem T_law27awake  (r : Bool) (h : law27awake = some r) : Trip Try.prog 8 [] [] [.d (.bool r)] [] := by
  unfold law27awake at h
  refine trip_ev 1000 (by kernel_rfl) (by kernel_rfl) (by kernel_rfl) (by kernel_rfl) (e_law27awake _ _  _ _) ?_
  obtain ⟨q1, hq, h⟩ := w_bind h
  refine ⟨q1.K, q1.N, q1.S, List.map Term.toD q1.L, q1.From, q1.To, ⟨_, T_ref25Num _ _ hq⟩, ?_⟩
  obtain ⟨q2, hq, h⟩ := w_bind h
  refine ⟨q2.K, q2.N, q2.S, List.map Term.toD q2.L, q2.From, q2.To, ⟨_, T_ref25Num _ _ hq⟩, ?_⟩
  obtain ⟨q3, hq, h⟩ := w_bind h
  refine ⟨q3.K, q3.N, q3.S, List.map Term.toD q3.L, q3.From, q3.To, ⟨_, T_ref25Bin _ _ _ _ hq⟩, ?_⟩
  obtain ⟨q4, hq, h⟩ := w_bind h
  refine ⟨q4.1.K, q4.1.N, q4.1.S, List.map Term.toD q4.1.L, q4.1.From, q4.1.To, q4.2, ⟨_, T_fold_Value _ _ hq⟩, ?_⟩
  refine w_condH Iff.rfl h (fun hc73 h => ?_) (fun hc73 h => ?_)
  ·
    rintro _ rfl
    refine w_condH beq_iff_eq h (fun hc74 h => ?_) (fun hc74 h => ?_)
    ·
      rintro _ rfl
      cases h; first | exact ⟨rfl, rfl⟩ | (refine ⟨?_, rfl⟩; simp only [List.map_cons, List.map_nil, Term.toD_eq])
    ·
      cases h; first | exact ⟨rfl, rfl⟩ | (refine ⟨?_, rfl⟩; simp only [List.map_cons, List.map_nil, Term.toD_eq])
  ·
    cases h; first | exact ⟨rfl, rfl⟩ | (refine ⟨?_, rfl⟩; simp only [List.map_cons, List.map_nil, Term.toD_eq])
def M_ref06Count : (i : I_ref06Count) → R_ref06Count i → Prop
  | .ref06Count t left levels, r => Trip Try.prog 24 [.d (.agg [(.int .i64 t.K), (.int .i64 t.N), (.str t.S), (.sl (List.map Term.toD t.L)), (.int .i64 t.From), (.int .i64 t.To)]), .d (.int .i64 left), .d (.int .i64 levels)] [] [.d (.int .i64 r)] []
  | .ref06Count_L5 left levels i t, r => Ok (c_ref06Count (Trip Try.prog) [.d (.int .i64 r)] []) (kL Try.f24 5) ⟨33, [(1, .d (.int .i64 left)), (2, .d (.int .i64 levels)), (3, .ref 3 1 0), (7, .d (.int .i64 i))], [(3, 1, some (.agg (.agg [(.int .i64 t.K), (.int .i64 t.N), (.str t.S), (.sl (List.map Term.toD t.L)), (.int .i64 t.From), (.int .i64 t.To)])))], [], 0⟩
theorem G_ref06Count : ∀ i r, fixF F_ref06Count i = some r → M_ref06Count i r := by
  refine fixF_induct D_ref06Count fun g ih i => ?_
  cases i with
  | ref06Count t left levels =>
    have ih_ref06Count_L5 : ∀ (left : Int) (levels : Int) (i : Int) (t : Term) (r : Int), g (I_ref06Count.ref06Count_L5 left levels i t) = some r → Ok (c_ref06Count (Trip Try.prog) [.d (.int .i64 r)] []) (kL Try.f24 5) ⟨33, [(1, .d (.int .i64 left)), (2, .d (.int .i64 levels)), (3, .ref 3 1 0), (7, .d (.int .i64 i))], [(3, 1, some (.agg (.agg [(.int .i64 t.K), (.int .i64 t.N), (.str t.S), (.sl (List.map Term.toD t.L)), (.int .i64 t.From), (.int .i64 t.To)])))], [], 0⟩ := fun left levels i t r h => ih (.ref06Count_L5 left levels i t) r h
    intro r h
    show Trip Try.prog 24 [.d (.agg [(.int .i64 t.K), (.int .i64 t.N), (.str t.S), (.sl (List.map Term.toD t.L)), (.int .i64 t.From), (.int .i64 t.To)]), .d (.int .i64 left), .d (.int .i64 levels)] [] [.d (.int .i64 r)] []
    replace h : ref06Count_B (fun left levels i t => g (I_ref06Count.ref06Count_L5 left levels i t)) t left levels = some r := h
    unfold ref06Count_B at h
    refine trip_ev 1000 (by kernel_rfl) (by kernel_rfl) (by kernel_rfl) (by kernel_rfl) (e_ref06Count _ _ t left levels _ _) ?_
    rintro _ rfl
    refine w_condH decide_eq_true_iff h (fun hc75 h => ?_) (fun hc75 h => ?_)
    ·
      cases h; first | exact ⟨rfl, rfl⟩ | (refine ⟨?_, rfl⟩; simp only [List.map_cons, List.map_nil, Term.toD_eq])
    ·
      rintro _ rfl
      exact ih_ref06Count_L5 _ _ _ _ _ h
  | ref06Count_L5 left levels i t =>
    have ih_ref06Count : ∀ (t : Term) (left : Int) (levels : Int) (r : Int), g (I_ref06Count.ref06Count t left levels) = some r → Trip Try.prog 24 [.d (.agg [(.int .i64 t.K), (.int .i64 t.N), (.str t.S), (.sl (List.map Term.toD t.L)), (.int .i64 t.From), (.int .i64 t.To)]), .d (.int .i64 left), .d (.int .i64 levels)] [] [.d (.int .i64 r)] [] := fun t left levels r h => ih (.ref06Count t left levels) r h
    have ih_ref06Count_L5 : ∀ (left : Int) (levels : Int) (i : Int) (t : Term) (r : Int), g (I_ref06Count.ref06Count_L5 left levels i t) = some r → Ok (c_ref06Count (Trip Try.prog) [.d (.int .i64 r)] []) (kL Try.f24 5) ⟨33, [(1, .d (.int .i64 left)), (2, .d (.int .i64 levels)), (3, .ref 3 1 0), (7, .d (.int .i64 i))], [(3, 1, some (.agg (.agg [(.int .i64 t.K), (.int .i64 t.N), (.str t.S), (.sl (List.map Term.toD t.L)), (.int .i64 t.From), (.int .i64 t.To)])))], [], 0⟩ := fun left levels i t r h => ih (.ref06Count_L5 left levels i t) r h
    intro r h
    show Ok (c_ref06Count (Trip Try.prog) [.d (.int .i64 r)] []) (kL Try.f24 5) ⟨33, [(1, .d (.int .i64 left)), (2, .d (.int .i64 levels)), (3, .ref 3 1 0), (7, .d (.int .i64 i))], [(3, 1, some (.agg (.agg [(.int .i64 t.K), (.int .i64 t.N), (.str t.S), (.sl (List.map Term.toD t.L)), (.int .i64 t.From), (.int .i64 t.To)])))], [], 0⟩
    replace h : ref06Count_L5_B (fun t left levels => g (I_ref06Count.ref06Count t left levels)) (fun left levels i t => g (I_ref06Count.ref06Count_L5 left levels i t)) left levels i t = some r := h
    unfold ref06Count_L5_B at h
    refine ok_ev 1000 (e_ref06Count_L5 _ _ left levels i t _ _) ?_
    refine w_nam (e' := (List.length t.L : Int)) (by first | rfl | rw [List.length_map]) ?_
    rintro _ rfl
    refine w_condH decide_eq_true_iff h (fun hc76 h => ?_) (fun hc76 h => ?_)
    ·
      rintro _ rfl
      refine w_condH decide_eq_true_iff h (fun hc77 h => ?_) (fun hc77 h => ?_)
      ·
        obtain ⟨x, hx, h⟩ := w_bind h
        refine ⟨sizedL (l := t.L) (Term.sz), w_ge hx, x.K, x.N, x.S, List.map Term.toD x.L, x.From, x.To, w_get (Term.toD_eq x) hx, ?_⟩
        rintro _ rfl
        obtain ⟨q1, hq, h⟩ := w_bind h
        refine ⟨q1, ⟨_, ih_ref06Count _ _ _ _ hq⟩, ?_⟩
        rintro _ rfl
        exact ih_ref06Count_L5 _ _ _ _ _ h
      ·
        cases h; first | exact ⟨rfl, rfl⟩ | (refine ⟨?_, rfl⟩; simp only [List.map_cons, List.map_nil, Term.toD_eq])
    ·
      cases h; first | exact ⟨rfl, rfl⟩ | (refine ⟨?_, rfl⟩; simp only [List.map_cons, List.map_nil, Term.toD_eq])
theorem T_ref06Count (t : Term) (left : Int) (levels : Int) (r : Int) (h : ref06Count t left levels = some r) : Trip Try.prog 24 [.d (.agg [(.int .i64 t.K), (.int .i64 t.N), (.str t.S), (.sl (List.map Term.toD t.L)), (.int .i64 t.From), (.int .i64 t.To)]), .d (.int .i64 left), .d (.int .i64 levels)] [] [.d (.int .i64 r)] [] := G_ref06Count (.ref06Count t left levels) r h
theorem T_ref06Count_L5 (left : Int) (levels : Int) (i : Int) (t : Term) (r : Int) (h : ref06Count_L5 left levels i t = some r) : Ok (c_ref06Count (Trip Try.prog) [.d (.int .i64 r)] []) (kL Try.f24 5) ⟨33, [(1, .d (.int .i64 left)), (2, .d (.int .i64 levels)), (3, .ref 3 1 0), (7, .d (.int .i64 i))], [(3, 1, some (.agg (.agg [(.int .i64 t.K), (.int .i64 t.N), (.str t.S), (.sl (List.map Term.toD t.L)), (.int .i64 t.From), (.int .i64 t.To)])))], [], 0⟩ := G_ref06Count (.ref06Count_L5 left levels i t) r h
def M_ref06Named : (i : I_ref06Named) → R_ref06Named i → Prop
  | .ref06Named t, r => Trip Try.prog 25 [.d (.agg [(.int .i64 t.K), (.int .i64 t.N), (.str t.S), (.sl (List.map Term.toD t.L)), (.int .i64 t.From), (.int .i64 t.To)])] [] [.d (.bool r)] []
  | .ref06Named_L4 i t, r => Ok (c_ref06Named (Trip Try.prog) [.d (.bool r)] []) (kL Try.f25 4) ⟨21, [(1, .ref 1 1 0), (3, .d (.int .i64 i))], [(1, 1, some (.agg (.agg [(.int .i64 t.K), (.int .i64 t.N), (.str t.S), (.sl (List.map Term.toD t.L)), (.int .i64 t.From), (.int .i64 t.To)])))], [], 0⟩
theorem G_ref06Named : ∀ i r, fixF F_ref06Named i = some r → M_ref06Named i r := by
  refine fixF_induct D_ref06Named fun g ih i => ?_
  cases i with
  | ref06Named t =>
    have ih_ref06Named_L4 : ∀ (i : Int) (t : Term) (r : Bool), g (I_ref06Named.ref06Named_L4 i t) = some r → Ok (c_ref06Named (Trip Try.prog) [.d (.bool r)] []) (kL Try.f25 4) ⟨21, [(1, .ref 1 1 0), (3, .d (.int .i64 i))], [(1, 1, some (.agg (.agg [(.int .i64 t.K), (.int .i64 t.N), (.str t.S), (.sl (List.map Term.toD t.L)), (.int .i64 t.From), (.int .i64 t.To)])))], [], 0⟩ := fun i t r h => ih (.ref06Named_L4 i t) r h
    intro r h
    show Trip Try.prog 25 [.d (.agg [(.int .i64 t.K), (.int .i64 t.N), (.str t.S), (.sl (List.map Term.toD t.L)), (.int .i64 t.From), (.int .i64 t.To)])] [] [.d (.bool r)] []
    replace h : ref06Named_B (fun i t => g (I_ref06Named.ref06Named_L4 i t)) t = some r := h
    unfold ref06Named_B at h
    refine trip_ev 1000 (by kernel_rfl) (by kernel_rfl) (by kernel_rfl) (by kernel_rfl) (e_ref06Named _ _ t _ _) ?_
    rintro _ rfl
    rintro _ rfl
    refine w_condH decide_eq_true_iff h (fun hc78 h => ?_) (fun hc78 h => ?_)
    ·
      cases h; first | exact ⟨rfl, rfl⟩ | (refine ⟨?_, rfl⟩; simp only [List.map_cons, List.map_nil, Term.toD_eq])
    ·
      exact ih_ref06Named_L4 _ _ _ h
  | ref06Named_L4 i t =>
    have ih_ref06Named : ∀ (t : Term) (r : Bool), g (I_ref06Named.ref06Named t) = some r → Trip Try.prog 25 [.d (.agg [(.int .i64 t.K), (.int .i64 t.N), (.str t.S), (.sl (List.map Term.toD t.L)), (.int .i64 t.From), (.int .i64 t.To)])] [] [.d (.bool r)] [] := fun t r h => ih (.ref06Named t) r h
    have ih_ref06Named_L4 : ∀ (i : Int) (t : Term) (r : Bool), g (I_ref06Named.ref06Named_L4 i t) = some r → Ok (c_ref06Named (Trip Try.prog) [.d (.bool r)] []) (kL Try.f25 4) ⟨21, [(1, .ref 1 1 0), (3, .d (.int .i64 i))], [(1, 1, some (.agg (.agg [(.int .i64 t.K), (.int .i64 t.N), (.str t.S), (.sl (List.map Term.toD t.L)), (.int .i64 t.From), (.int .i64 t.To)])))], [], 0⟩ := fun i t r h => ih (.ref06Named_L4 i t) r h
    intro r h
    show Ok (c_ref06Named (Trip Try.prog) [.d (.bool r)] []) (kL Try.f25 4) ⟨21, [(1, .ref 1 1 0), (3, .d (.int .i64 i))], [(1, 1, some (.agg (.agg [(.int .i64 t.K), (.int .i64 t.N), (.str t.S), (.sl (List.map Term.toD t.L)), (.int .i64 t.From), (.int .i64 t.To)])))], [], 0⟩
    replace h : ref06Named_L4_B (fun t => g (I_ref06Named.ref06Named t)) (fun i t => g (I_ref06Named.ref06Named_L4 i t)) i t = some r := h
    unfold ref06Named_L4_B at h
    refine ok_ev 1000 (e_ref06Named_L4 _ _ i t _ _) ?_
    refine w_nam (e' := (List.length t.L : Int)) (by first | rfl | rw [List.length_map]) ?_
    rintro _ rfl
    refine w_condH decide_eq_true_iff h (fun hc79 h => ?_) (fun hc79 h => ?_)
    ·
      obtain ⟨x, hx, h⟩ := w_bind h
      refine ⟨sizedL (l := t.L) (Term.sz), w_ge hx, x.K, x.N, x.S, List.map Term.toD x.L, x.From, x.To, w_get (Term.toD_eq x) hx, ?_⟩
      obtain ⟨q1, hq, h⟩ := w_bind h
      refine ⟨q1, ⟨_, ih_ref06Named _ _ hq⟩, ?_⟩
      refine w_condH Iff.rfl h (fun hc80 h => ?_) (fun hc80 h => ?_)
      ·
        cases h; first | exact ⟨rfl, rfl⟩ | (refine ⟨?_, rfl⟩; simp only [List.map_cons, List.map_nil, Term.toD_eq])
      ·
        rintro _ rfl
        exact ih_ref06Named_L4 _ _ _ h
    ·
      cases h; first | exact ⟨rfl, rfl⟩ | (refine ⟨?_, rfl⟩; simp only [List.map_cons, List.map_nil, Term.toD_eq])
theorem T_ref06Named (t : Term) (r : Bool) (h : ref06Named t = some r) : Trip Try.prog 25 [.d (.agg [(.int .i64 t.K), (.int .i64 t.N), (.str t.S), (.sl (List.map Term.toD t.L)), (.int .i64 t.From), (.int .i64 t.To)])] [] [.d (.bool r)] [] := G_ref06Named (.ref06Named t) r h
theorem T_ref06Named_L4 (i : Int) (t : Term) (r : Bool) (h : ref06Named_L4 i t = some r) : Ok (c_ref06Named (Trip Try.prog) [.d (.bool r)] []) (kL Try.f25 4) ⟨21, [(1, .ref 1 1 0), (3, .d (.int .i64 i))], [(1, 1, some (.agg (.agg [(.int .i64 t.K), (.int .i64 t.N), (.str t.S), (.sl (List.map Term.toD t.L)), (.int .i64 t.From), (.int .i64 t.To)])))], [], 0⟩ := G_ref06Named (.ref06Named_L4 i t) r h
theorem T_ref06Large (t : Term) (r : Bool) (h : ref06Large t = some r) : Trip Try.prog 7 [.d (.agg [(.int .i64 t.K), (.int .i64 t.N), (.str t.S), (.sl (List.map Term.toD t.L)), (.int .i64 t.From), (.int .i64 t.To)])] [] [.d (.bool r)] [] := by
  unfold ref06Large at h
  refine trip_ev 1000 (by kernel_rfl) (by kernel_rfl) (by kernel_rfl) (by kernel_rfl) (e_ref06Large _ _ t _ _) ?_
  obtain ⟨q1, hq, h⟩ := w_bind h
  refine ⟨q1, ⟨_, T_ref06Count _ _ _ _ hq⟩, ?_⟩
  rintro _ rfl
  refine w_condH decide_eq_true_iff h (fun hc81 h => ?_) (fun hc81 h => ?_)
  ·
    cases h; first | exact ⟨rfl, rfl⟩ | (refine ⟨?_, rfl⟩; simp only [List.map_cons, List.map_nil, Term.toD_eq])
  ·
    obtain ⟨q2, hq, h⟩ := w_bind h
    refine ⟨q2, ⟨_, T_ref06Named _ _ hq⟩, ?_⟩
    cases h; first | exact ⟨rfl, rfl⟩ | (refine ⟨?_, rfl⟩; simp only [List.map_cons, List.map_nil, Term.toD_eq])
def M_ref06Placed : (i : I_ref06Placed) → R_ref06Placed i → Prop
  | .ref06Placed a b, r => Trip Try.prog 11 [.d (.agg [(.int .i64 a.K), (.int .i64 a.N), (.str a.S), (.sl (List.map Term.toD a.L)), (.int .i64 a.From), (.int .i64 a.To)]), .d (.agg [(.int .i64 b.K), (.int .i64 b.N), (.str b.S), (.sl (List.map Term.toD b.L)), (.int .i64 b.From), (.int .i64 b.To)])] [] [.d (.bool r)] []
  | .ref06Placed_L4 i a b, r => Ok (c_ref06Placed (Trip Try.prog) [.d (.bool r)] []) (kL Try.f11 4) ⟨67, [(2, .ref 2 1 0), (3, .ref 3 1 0), (5, .d (.int .i64 i))], [(2, 1, some (.agg (.agg [(.int .i64 a.K), (.int .i64 a.N), (.str a.S), (.sl (List.map Term.toD a.L)), (.int .i64 a.From), (.int .i64 a.To)]))), (3, 1, some (.agg (.agg [(.int .i64 b.K), (.int .i64 b.N), (.str b.S), (.sl (List.map Term.toD b.L)), (.int .i64 b.From), (.int .i64 b.To)])))], [], 0⟩
theorem G_ref06Placed : ∀ i r, fixF F_ref06Placed i = some r → M_ref06Placed i r := by
  refine fixF_induct D_ref06Placed fun g ih i => ?_
  cases i with
  | ref06Placed a b =>
    have ih_ref06Placed_L4 : ∀ (i : Int) (a : Term) (b : Term) (r : Bool), g (I_ref06Placed.ref06Placed_L4 i a b) = some r → Ok (c_ref06Placed (Trip Try.prog) [.d (.bool r)] []) (kL Try.f11 4) ⟨67, [(2, .ref 2 1 0), (3, .ref 3 1 0), (5, .d (.int .i64 i))], [(2, 1, some (.agg (.agg [(.int .i64 a.K), (.int .i64 a.N), (.str a.S), (.sl (List.map Term.toD a.L)), (.int .i64 a.From), (.int .i64 a.To)]))), (3, 1, some (.agg (.agg [(.int .i64 b.K), (.int .i64 b.N), (.str b.S), (.sl (List.map Term.toD b.L)), (.int .i64 b.From), (.int .i64 b.To)])))], [], 0⟩ := fun i a b r h => ih (.ref06Placed_L4 i a b) r h
    intro r h
    show Trip Try.prog 11 [.d (.agg [(.int .i64 a.K), (.int .i64 a.N), (.str a.S), (.sl (List.map Term.toD a.L)), (.int .i64 a.From), (.int .i64 a.To)]), .d (.agg [(.int .i64 b.K), (.int .i64 b.N), (.str b.S), (.sl (List.map Term.toD b.L)), (.int .i64 b.From), (.int .i64 b.To)])] [] [.d (.bool r)] []
    replace h : ref06Placed_B (fun i a b => g (I_ref06Placed.ref06Placed_L4 i a b)) a b = some r := h
    unfold ref06Placed_B at h
    refine trip_ev 1000 (by kernel_rfl) (by kernel_rfl) (by kernel_rfl) (by kernel_rfl) (e_ref06Placed _ _ a b _ _) ?_
    rintro _ rfl
    refine w_condN beq_iff_eq h (fun hc82 h => ?_) (fun hc82 h => ?_)
    ·
      rintro _ rfl
      refine w_condN beq_iff_eq h (fun hc83 h => ?_) (fun hc83 h => ?_)
      ·
        rintro _ rfl
        refine w_condN beq_iff_eq h (fun hc84 h => ?_) (fun hc84 h => ?_)
        ·
          rintro _ rfl
          refine w_condN beq_iff_eq h (fun hc85 h => ?_) (fun hc85 h => ?_)
          ·
            rintro _ rfl
            refine w_condN beq_iff_eq h (fun hc86 h => ?_) (fun hc86 h => ?_)
            ·
              refine w_nam (e' := (List.length a.L : Int)) (by first | rfl | rw [List.length_map]) ?_
              refine w_nam (e' := (List.length b.L : Int)) (by first | rfl | rw [List.length_map]) ?_
              rintro _ rfl
              refine w_condN beq_iff_eq h (fun hc87 h => ?_) (fun hc87 h => ?_)
              ·
                exact ih_ref06Placed_L4 _ _ _ _ h
              ·
                cases h; first | exact ⟨rfl, rfl⟩ | (refine ⟨?_, rfl⟩; simp only [List.map_cons, List.map_nil, Term.toD_eq])
            ·
              cases h; first | exact ⟨rfl, rfl⟩ | (refine ⟨?_, rfl⟩; simp only [List.map_cons, List.map_nil, Term.toD_eq])
          ·
            cases h; first | exact ⟨rfl, rfl⟩ | (refine ⟨?_, rfl⟩; simp only [List.map_cons, List.map_nil, Term.toD_eq])
        ·
          cases h; first | exact ⟨rfl, rfl⟩ | (refine ⟨?_, rfl⟩; simp only [List.map_cons, List.map_nil, Term.toD_eq])
      ·
        cases h; first | exact ⟨rfl, rfl⟩ | (refine ⟨?_, rfl⟩; simp only [List.map_cons, List.map_nil, Term.toD_eq])
    ·
      cases h; first | exact ⟨rfl, rfl⟩ | (refine ⟨?_, rfl⟩; simp only [List.map_cons, List.map_nil, Term.toD_eq])
  | ref06Placed_L4 i a b =>
    have ih_ref06Placed : ∀ (a : Term) (b : Term) (r : Bool), g (I_ref06Placed.ref06Placed a b) = some r → Trip Try.prog 11 [.d (.agg [(.int .i64 a.K), (.int .i64 a.N), (.str a.S), (.sl (List.map Term.toD a.L)), (.int .i64 a.From), (.int .i64 a.To)]), .d (.agg [(.int .i64 b.K), (.int .i64 b.N), (.str b.S), (.sl (List.map Term.toD b.L)), (.int .i64 b.From), (.int .i64 b.To)])] [] [.d (.bool r)] [] := fun a b r h => ih (.ref06Placed a b) r h
    have ih_ref06Placed_L4 : ∀ (i : Int) (a : Term) (b : Term) (r : Bool), g (I_ref06Placed.ref06Placed_L4 i a b) = some r → Ok (c_ref06Placed (Trip Try.prog) [.d (.bool r)] []) (kL Try.f11 4) ⟨67, [(2, .ref 2 1 0), (3, .ref 3 1 0), (5, .d (.int .i64 i))], [(2, 1, some (.agg (.agg [(.int .i64 a.K), (.int .i64 a.N), (.str a.S), (.sl (List.map Term.toD a.L)), (.int .i64 a.From), (.int .i64 a.To)]))), (3, 1, some (.agg (.agg [(.int .i64 b.K), (.int .i64 b.N), (.str b.S), (.sl (List.map Term.toD b.L)), (.int .i64 b.From), (.int .i64 b.To)])))], [], 0⟩ := fun i a b r h => ih (.ref06Placed_L4 i a b) r h
    intro r h
    show Ok (c_ref06Placed (Trip Try.prog) [.d (.bool r)] []) (kL Try.f11 4) ⟨67, [(2, .ref 2 1 0), (3, .ref 3 1 0), (5, .d (.int .i64 i))], [(2, 1, some (.agg (.agg [(.int .i64 a.K), (.int .i64 a.N), (.str a.S), (.sl (List.map Term.toD a.L)), (.int .i64 a.From), (.int .i64 a.To)]))), (3, 1, some (.agg (.agg [(.int .i64 b.K), (.int .i64 b.N), (.str b.S), (.sl (List.map Term.toD b.L)), (.int .i64 b.From), (.int .i64 b.To)])))], [], 0⟩
    replace h : ref06Placed_L4_B (fun a b => g (I_ref06Placed.ref06Placed a b)) (fun i a b => g (I_ref06Placed.ref06Placed_L4 i a b)) i a b = some r := h
    unfold ref06Placed_L4_B at h
    refine ok_ev 1000 (e_ref06Placed_L4 _ _ i a b _ _) ?_
    refine w_nam (e' := (List.length a.L : Int)) (by first | rfl | rw [List.length_map]) ?_
    rintro _ rfl
    refine w_condH decide_eq_true_iff h (fun hc88 h => ?_) (fun hc88 h => ?_)
    ·
      obtain ⟨x, hx, h⟩ := w_bind h
      refine ⟨sizedL (l := a.L) (Term.sz), w_ge hx, x.K, x.N, x.S, List.map Term.toD x.L, x.From, x.To, w_get (Term.toD_eq x) hx, ?_⟩
      obtain ⟨x1, hx, h⟩ := w_bind h
      refine ⟨sizedL (l := b.L) (Term.sz), w_ge hx, x1.K, x1.N, x1.S, List.map Term.toD x1.L, x1.From, x1.To, w_get (Term.toD_eq x1) hx, ?_⟩
      obtain ⟨q1, hq, h⟩ := w_bind h
      refine ⟨q1, ⟨_, ih_ref06Placed _ _ _ hq⟩, ?_⟩
      refine w_condN Iff.rfl h (fun hc89 h => ?_) (fun hc89 h => ?_)
      ·
        rintro _ rfl
        exact ih_ref06Placed_L4 _ _ _ _ h
      ·
        cases h; first | exact ⟨rfl, rfl⟩ | (refine ⟨?_, rfl⟩; simp only [List.map_cons, List.map_nil, Term.toD_eq])
    ·
      cases h; first | exact ⟨rfl, rfl⟩ | (refine ⟨?_, rfl⟩; simp only [List.map_cons, List.map_nil, Term.toD_eq])
theorem T_ref06Placed (a : Term) (b : Term) (r : Bool) (h : ref06Placed a b = some r) : Trip Try.prog 11 [.d (.agg [(.int .i64 a.K), (.int .i64 a.N), (.str a.S), (.sl (List.map Term.toD a.L)), (.int .i64 a.From), (.int .i64 a.To)]), .d (.agg [(.int .i64 b.K), (.int .i64 b.N), (.str b.S), (.sl (List.map Term.toD b.L)), (.int .i64 b.From), (.int .i64 b.To)])] [] [.d (.bool r)] [] := G_ref06Placed (.ref06Placed a b) r h
theorem T_ref06Placed_L4 (i : Int) (a : Term) (b : Term) (r : Bool) (h : ref06Placed_L4 i a b = some r) : Ok (c_ref06Placed (Trip Try.prog) [.d (.bool r)] []) (kL Try.f11 4) ⟨67, [(2, .ref 2 1 0), (3, .ref 3 1 0), (5, .d (.int .i64 i))], [(2, 1, some (.agg (.agg [(.int .i64 a.K), (.int .i64 a.N), (.str a.S), (.sl (List.map Term.toD a.L)), (.int .i64 a.From), (.int .i64 a.To)]))), (3, 1, some (.agg (.agg [(.int .i64 b.K), (.int .i64 b.N), (.str b.S), (.sl (List.map Term.toD b.L)), (.int .i64 b.From), (.int .i64 b.To)])))], [], 0⟩ := G_ref06Placed (.ref06Placed_L4 i a b) r h
theorem T_ref20Bool (b : Bool) (r : Int) (h : ref20Bool b = some r) : Trip Try.prog 63 [.d (.bool b)] [] [.d (.int .i64 r)] [] := by
  unfold ref20Bool at h
  refine trip_ev 1000 (by kernel_rfl) (by kernel_rfl) (by kernel_rfl) (by kernel_rfl) (e_ref20Bool _ _ b _ _) ?_
  refine w_condH Iff.rfl h (fun hc90 h => ?_) (fun hc90 h => ?_)
  ·
    cases h; first | exact ⟨rfl, rfl⟩ | (refine ⟨?_, rfl⟩; simp only [List.map_cons, List.map_nil, Term.toD_eq])
  ·
    cases h; first | exact ⟨rfl, rfl⟩ | (refine ⟨?_, rfl⟩; simp only [List.map_cons, List.map_nil, Term.toD_eq])
theorem T_ref20One (op : Int) (a : Int) (r : Int) (h : ref20One op a = some r) : Trip Try.prog 33 [.d (.int .i64 op), .d (.int .i64 a)] [] [.d (.int .i64 r)] [] := by
  unfold ref20One at h
  refine trip_ev 1000 (by kernel_rfl) (by kernel_rfl) (by kernel_rfl) (by kernel_rfl) (e_ref20One _ _ op a _ _) ?_
  rintro _ rfl
  refine w_condH beq_iff_eq h (fun hc91 h => ?_) (fun hc91 h => ?_)
  ·
    rintro _ rfl
    rintro _ rfl
    rintro _ rfl
    cases h; first | exact ⟨rfl, rfl⟩ | (refine ⟨?_, rfl⟩; simp only [List.map_cons, List.map_nil, Term.toD_eq])
  ·
    rintro _ rfl
    refine w_condH beq_iff_eq h (fun hc92 h => ?_) (fun hc92 h => ?_)
    ·
      rintro _ rfl
      obtain ⟨q1, hq, h⟩ := w_bind h
      refine ⟨q1, ⟨_, T_ref20Bool _ _ hq⟩, ?_⟩
      cases h; first | exact ⟨rfl, rfl⟩ | (refine ⟨?_, rfl⟩; simp only [List.map_cons, List.map_nil, Term.toD_eq])
    ·
      cases h; first | exact ⟨rfl, rfl⟩ | (refine ⟨?_, rfl⟩; simp only [List.map_cons, List.map_nil, Term.toD_eq])
def M_ref20Divide_L4 : (i : I_ref20Divide_L4) → R_ref20Divide_L4 i → Prop
  | .ref20Divide_L4 a b q left i, r => Ok (c_ref20Divide (Trip Try.prog) [.d (.int .u64 r.1), .d (.int .u64 r.2)] []) (kL Try.f85 4) ⟨39, [(0, .d (.int .u64 a)), (1, .d (.int .u64 b)), (6, .d (.int .u64 q)), (7, .d (.int .u64 left)), (8, .d (.int .i64 i))], [], [], 0⟩
theorem G_ref20Divide_L4 : ∀ i r, fixF F_ref20Divide_L4 i = some r → M_ref20Divide_L4 i r := by
  refine fixF_induct D_ref20Divide_L4 fun g ih i => ?_
  cases i with
  | ref20Divide_L4 a b q left i =>
    have ih_ref20Divide_L4 : ∀ (a : Int) (b : Int) (q : Int) (left : Int) (i : Int) (r : Int × Int), g (I_ref20Divide_L4.ref20Divide_L4 a b q left i) = some r → Ok (c_ref20Divide (Trip Try.prog) [.d (.int .u64 r.1), .d (.int .u64 r.2)] []) (kL Try.f85 4) ⟨39, [(0, .d (.int .u64 a)), (1, .d (.int .u64 b)), (6, .d (.int .u64 q)), (7, .d (.int .u64 left)), (8, .d (.int .i64 i))], [], [], 0⟩ := fun a b q left i r h => ih (.ref20Divide_L4 a b q left i) r h
    intro r h
    show Ok (c_ref20Divide (Trip Try.prog) [.d (.int .u64 r.1), .d (.int .u64 r.2)] []) (kL Try.f85 4) ⟨39, [(0, .d (.int .u64 a)), (1, .d (.int .u64 b)), (6, .d (.int .u64 q)), (7, .d (.int .u64 left)), (8, .d (.int .i64 i))], [], [], 0⟩
    replace h : ref20Divide_L4_B (fun a b q left i => g (I_ref20Divide_L4.ref20Divide_L4 a b q left i)) a b q left i = some r := h
    unfold ref20Divide_L4_B at h
    refine ok_ev 1000 (e_ref20Divide_L4 _ _ a b q left i _ _) ?_
    rintro _ rfl
    refine w_condH decide_eq_true_iff h (fun hc93 h => ?_) (fun hc93 h => ?_)
    ·
      rintro _ rfl
      rintro _ rfl
      rintro _ rfl
      obtain ⟨hP, h⟩ := w_chk h
      refine ⟨by first | exact hP | (simp only [List.length_map, List.length_cons, List.length_nil] at hP ⊢; exact hP), ?_⟩
      rintro _ rfl
      obtain ⟨hP, h⟩ := w_chk h
      refine ⟨by first | exact hP | (simp only [List.length_map, List.length_cons, List.length_nil] at hP ⊢; exact hP), ?_⟩
      rintro _ rfl
      rintro _ rfl
      rintro _ rfl
      refine w_condH decide_eq_true_iff h (fun hc94 h => ?_) (fun hc94 h => ?_)
      ·
        rintro _ rfl
        rintro _ rfl
        rintro _ rfl
        exact ih_ref20Divide_L4 _ _ _ _ _ _ h
      ·
        rintro _ rfl
        refine w_condH decide_eq_true_iff h (fun hc95 h => ?_) (fun hc95 h => ?_)
        ·
          rintro _ rfl
          rintro _ rfl
          rintro _ rfl
          exact ih_ref20Divide_L4 _ _ _ _ _ _ h
        ·
          rintro _ rfl
          exact ih_ref20Divide_L4 _ _ _ _ _ _ h
    ·
      cases h; first | exact ⟨rfl, rfl⟩ | (refine ⟨?_, rfl⟩; simp only [List.map_cons, List.map_nil, Term.toD_eq])
theorem T_ref20Divide_L4 (a : Int) (b : Int) (q : Int) (left : Int) (i : Int) (r : Int × Int) (h : ref20Divide_L4 a b q left i = some r) : Ok (c_ref20Divide (Trip Try.prog) [.d (.int .u64 r.1), .d (.int .u64 r.2)] []) (kL Try.f85 4) ⟨39, [(0, .d (.int .u64 a)), (1, .d (.int .u64 b)), (6, .d (.int .u64 q)), (7, .d (.int .u64 left)), (8, .d (.int .i64 i))], [], [], 0⟩ := G_ref20Divide_L4 (.ref20Divide_L4 a b q left i) r h
theorem T_ref20Divide (a : Int) (b : Int) (r : Int × Int) (h : ref20Divide a b = some r) : Trip Try.prog 85 [.d (.int .u64 a), .d (.int .u64 b)] [] [.d (.int .u64 r.1), .d (.int .u64 r.2)] [] := by
  unfold ref20Divide at h
  refine trip_ev 1000 (by kernel_rfl) (by kernel_rfl) (by kernel_rfl) (by kernel_rfl) (e_ref20Divide _ _ a b _ _) ?_
  exact T_ref20Divide_L4 _ _ _ _ _ _ h
theorem T_ref20Size (a : Int) (r : Int) (h : ref20Size a = some r) : Trip Try.prog 86 [.d (.int .i64 a)] [] [.d (.int .u64 r)] [] := by
  unfold ref20Size at h
  refine trip_ev 1000 (by kernel_rfl) (by kernel_rfl) (by kernel_rfl) (by kernel_rfl) (e_ref20Size _ _ a _ _) ?_
  rintro _ rfl
  refine w_condH decide_eq_true_iff h (fun hc96 h => ?_) (fun hc96 h => ?_)
  ·
    rintro _ rfl
    rintro _ rfl
    rintro _ rfl
    rintro _ rfl
    cases h; first | exact ⟨rfl, rfl⟩ | (refine ⟨?_, rfl⟩; simp only [List.map_cons, List.map_nil, Term.toD_eq])
  ·
    rintro _ rfl
    cases h; first | exact ⟨rfl, rfl⟩ | (refine ⟨?_, rfl⟩; simp only [List.map_cons, List.map_nil, Term.toD_eq])
theorem T_ref20Quotient (a : Int) (b : Int) (r : Int × Int) (h : ref20Quotient a b = some r) : Trip Try.prog 65 [.d (.int .i64 a), .d (.int .i64 b)] [] [.d (.int .i64 r.1), .d (.int .i64 r.2)] [] := by
  unfold ref20Quotient at h
  refine trip_ev 1000 (by kernel_rfl) (by kernel_rfl) (by kernel_rfl) (by kernel_rfl) (e_ref20Quotient _ _ a b _ _) ?_
  obtain ⟨q1, hq, h⟩ := w_bind h
  refine ⟨q1, ⟨_, T_ref20Size _ _ hq⟩, ?_⟩
  obtain ⟨q2, hq, h⟩ := w_bind h
  refine ⟨q2, ⟨_, T_ref20Size _ _ hq⟩, ?_⟩
  obtain ⟨q3, hq, h⟩ := w_bind h
  refine ⟨q3.1, q3.2, ⟨_, T_ref20Divide _ _ _ hq⟩, ?_⟩
  rintro _ rfl
  rintro _ rfl
  rintro _ rfl
  rintro _ rfl
  rintro _ rfl
  refine w_condN beq_iff_eq h (fun hc97 h => ?_) (fun hc97 h => ?_)
  ·
    rintro _ rfl
    refine w_condH decide_eq_true_iff h (fun hc98 h => ?_) (fun hc98 h => ?_)
    ·
      rintro _ rfl
      rintro _ rfl
      cases h; first | exact ⟨rfl, rfl⟩ | (refine ⟨?_, rfl⟩; simp only [List.map_cons, List.map_nil, Term.toD_eq])
    ·
      cases h; first | exact ⟨rfl, rfl⟩ | (refine ⟨?_, rfl⟩; simp only [List.map_cons, List.map_nil, Term.toD_eq])
  ·
    rintro _ rfl
    rintro _ rfl
    rintro _ rfl
    refine w_condH decide_eq_true_iff h (fun hc99 h => ?_) (fun hc99 h => ?_)
    ·
      rintro _ rfl
      rintro _ rfl
      cases h; first | exact ⟨rfl, rfl⟩ | (refine ⟨?_, rfl⟩; simp only [List.map_cons, List.map_nil, Term.toD_eq])
    ·
      cases h; first | exact ⟨rfl, rfl⟩ | (refine ⟨?_, rfl⟩; simp only [List.map_cons, List.map_nil, Term.toD_eq])
def M_ref20Times_L4 : (i : I_ref20Times_L4) → R_ref20Times_L4 i → Prop
  | .ref20Times_L4 x y out, r => Ok (c_ref20Times (Trip Try.prog) [.d (.int .i64 r)] []) (kL Try.f64 4) ⟨27, [(5, .d (.int .u64 x)), (6, .d (.int .u64 y)), (7, .d (.int .u64 out))], [], [], 0⟩
theorem G_ref20Times_L4 : ∀ i r, fixF F_ref20Times_L4 i = some r → M_ref20Times_L4 i r := by
  refine fixF_induct D_ref20Times_L4 fun g ih i => ?_
  cases i with
  | ref20Times_L4 x y out =>
    have ih_ref20Times_L4 : ∀ (x : Int) (y : Int) (out : Int) (r : Int), g (I_ref20Times_L4.ref20Times_L4 x y out) = some r → Ok (c_ref20Times (Trip Try.prog) [.d (.int .i64 r)] []) (kL Try.f64 4) ⟨27, [(5, .d (.int .u64 x)), (6, .d (.int .u64 y)), (7, .d (.int .u64 out))], [], [], 0⟩ := fun x y out r h => ih (.ref20Times_L4 x y out) r h
    intro r h
    show Ok (c_ref20Times (Trip Try.prog) [.d (.int .i64 r)] []) (kL Try.f64 4) ⟨27, [(5, .d (.int .u64 x)), (6, .d (.int .u64 y)), (7, .d (.int .u64 out))], [], [], 0⟩
    replace h : ref20Times_L4_B (fun x y out => g (I_ref20Times_L4.ref20Times_L4 x y out)) x y out = some r := h
    unfold ref20Times_L4_B at h
    refine ok_ev 1000 (e_ref20Times_L4 _ _ x y out _ _) ?_
    rintro _ rfl
    refine w_condH decide_eq_true_iff h (fun hc100 h => ?_) (fun hc100 h => ?_)
    ·
      obtain ⟨hP, h⟩ := w_chk h
      refine ⟨by first | exact hP | (simp only [List.length_map, List.length_cons, List.length_nil] at hP ⊢; exact hP), ?_⟩
      rintro _ rfl
      rintro _ rfl
      refine w_condH beq_iff_eq h (fun hc101 h => ?_) (fun hc101 h => ?_)
      ·
        rintro _ rfl
        rintro _ rfl
        obtain ⟨hP, h⟩ := w_chk h
        refine ⟨by first | exact hP | (simp only [List.length_map, List.length_cons, List.length_nil] at hP ⊢; exact hP), ?_⟩
        rintro _ rfl
        exact ih_ref20Times_L4 _ _ _ _ h
      ·
        rintro _ rfl
        obtain ⟨hP, h⟩ := w_chk h
        refine ⟨by first | exact hP | (simp only [List.length_map, List.length_cons, List.length_nil] at hP ⊢; exact hP), ?_⟩
        rintro _ rfl
        exact ih_ref20Times_L4 _ _ _ _ h
    ·
      rintro _ rfl
      cases h; first | exact ⟨rfl, rfl⟩ | (refine ⟨?_, rfl⟩; simp only [List.map_cons, List.map_nil, Term.toD_eq])
theorem T_ref20Times_L4 (x : Int) (y : Int) (out : Int) (r : Int) (h : ref20Times_L4 x y out = some r) : Ok (c_ref20Times (Trip Try.prog) [.d (.int .i64 r)] []) (kL Try.f64 4) ⟨27, [(5, .d (.int .u64 x)), (6, .d (.int .u64 y)), (7, .d (.int .u64 out))], [], [], 0⟩ := G_ref20Times_L4 (.ref20Times_L4 x y out) r h
theorem T_ref20Times (a : Int) (b : Int) (r : Int) (h : ref20Times a b = some r) : Trip Try.prog 64 [.d (.int .i64 a), .d (.int .i64 b)] [] [.d (.int .i64 r)] [] := by
  unfold ref20Times at h
  refine trip_ev 1000 (by kernel_rfl) (by kernel_rfl) (by kernel_rfl) (by kernel_rfl) (e_ref20Times _ _ a b _ _) ?_
  rintro _ rfl
  rintro _ rfl
  exact T_ref20Times_L4 _ _ _ _ h
theorem T_ref20Two (op : Int) (a : Int) (b : Int) (r : Int × Int) (h : ref20Two op a b = some r) : Trip Try.prog 34 [.d (.int .i64 op), .d (.int .i64 a), .d (.int .i64 b)] [] [.d (.int .i64 r.1), .d (.int .i64 r.2)] [] := by
  unfold ref20Two at h
  refine trip_ev 1000 (by kernel_rfl) (by kernel_rfl) (by kernel_rfl) (by kernel_rfl) (e_ref20Two _ _ op a b _ _) ?_
  rintro _ rfl
  refine w_condH beq_iff_eq h (fun hc102 h => ?_) (fun hc102 h => ?_)
  ·
    rintro _ rfl
    refine w_condH beq_iff_eq h (fun hc103 h => ?_) (fun hc103 h => ?_)
    ·
      rintro _ rfl
      obtain ⟨q1, hq, h⟩ := w_bind h
      refine ⟨q1, ⟨_, T_ref20Bool _ _ hq⟩, ?_⟩
      cases h; first | exact ⟨rfl, rfl⟩ | (refine ⟨?_, rfl⟩; simp only [List.map_cons, List.map_nil, Term.toD_eq])
    ·
      obtain ⟨q2, hq, h⟩ := w_bind h
      refine ⟨q2, ⟨_, T_ref20Bool _ _ hq⟩, ?_⟩
      cases h; first | exact ⟨rfl, rfl⟩ | (refine ⟨?_, rfl⟩; simp only [List.map_cons, List.map_nil, Term.toD_eq])
  ·
    rintro _ rfl
    refine w_condH beq_iff_eq h (fun hc104 h => ?_) (fun hc104 h => ?_)
    ·
      rintro _ rfl
      refine w_condH beq_iff_eq h (fun hc105 h => ?_) (fun hc105 h => ?_)
      ·
        obtain ⟨q3, hq, h⟩ := w_bind h
        refine ⟨q3, ⟨_, T_ref20Bool _ _ hq⟩, ?_⟩
        cases h; first | exact ⟨rfl, rfl⟩ | (refine ⟨?_, rfl⟩; simp only [List.map_cons, List.map_nil, Term.toD_eq])
      ·
        rintro _ rfl
        obtain ⟨q4, hq, h⟩ := w_bind h
        refine ⟨q4, ⟨_, T_ref20Bool _ _ hq⟩, ?_⟩
        cases h; first | exact ⟨rfl, rfl⟩ | (refine ⟨?_, rfl⟩; simp only [List.map_cons, List.map_nil, Term.toD_eq])
    ·
      rintro _ rfl
      refine w_condH beq_iff_eq h (fun hc106 h => ?_) (fun hc106 h => ?_)
      ·
        rintro _ rfl
        rintro _ rfl
        rintro _ rfl
        obtain ⟨q5, hq, h⟩ := w_bind h
        refine ⟨q5, ⟨_, T_ref20Bool _ _ hq⟩, ?_⟩
        cases h; first | exact ⟨rfl, rfl⟩ | (refine ⟨?_, rfl⟩; simp only [List.map_cons, List.map_nil, Term.toD_eq])
      ·
        rintro _ rfl
        refine w_condH beq_iff_eq h (fun hc107 h => ?_) (fun hc107 h => ?_)
        ·
          rintro _ rfl
          rintro _ rfl
          rintro _ rfl
          obtain ⟨q6, hq, h⟩ := w_bind h
          refine ⟨q6, ⟨_, T_ref20Bool _ _ hq⟩, ?_⟩
          cases h; first | exact ⟨rfl, rfl⟩ | (refine ⟨?_, rfl⟩; simp only [List.map_cons, List.map_nil, Term.toD_eq])
        ·
          rintro _ rfl
          refine w_condH beq_iff_eq h (fun hc108 h => ?_) (fun hc108 h => ?_)
          ·
            rintro _ rfl
            rintro _ rfl
            rintro _ rfl
            obtain ⟨q7, hq, h⟩ := w_bind h
            refine ⟨q7, ⟨_, T_ref20Bool _ _ hq⟩, ?_⟩
            cases h; first | exact ⟨rfl, rfl⟩ | (refine ⟨?_, rfl⟩; simp only [List.map_cons, List.map_nil, Term.toD_eq])
          ·
            rintro _ rfl
            refine w_condH beq_iff_eq h (fun hc109 h => ?_) (fun hc109 h => ?_)
            ·
              rintro _ rfl
              rintro _ rfl
              rintro _ rfl
              obtain ⟨q8, hq, h⟩ := w_bind h
              refine ⟨q8, ⟨_, T_ref20Bool _ _ hq⟩, ?_⟩
              cases h; first | exact ⟨rfl, rfl⟩ | (refine ⟨?_, rfl⟩; simp only [List.map_cons, List.map_nil, Term.toD_eq])
            ·
              rintro _ rfl
              refine w_condH beq_iff_eq h (fun hc110 h => ?_) (fun hc110 h => ?_)
              ·
                rintro _ rfl
                rintro _ rfl
                rintro _ rfl
                obtain ⟨q9, hq, h⟩ := w_bind h
                refine ⟨q9, ⟨_, T_ref20Bool _ _ hq⟩, ?_⟩
                cases h; first | exact ⟨rfl, rfl⟩ | (refine ⟨?_, rfl⟩; simp only [List.map_cons, List.map_nil, Term.toD_eq])
              ·
                rintro _ rfl
                refine w_condH beq_iff_eq h (fun hc111 h => ?_) (fun hc111 h => ?_)
                ·
                  rintro _ rfl
                  rintro _ rfl
                  rintro _ rfl
                  obtain ⟨q10, hq, h⟩ := w_bind h
                  refine ⟨q10, ⟨_, T_ref20Bool _ _ hq⟩, ?_⟩
                  cases h; first | exact ⟨rfl, rfl⟩ | (refine ⟨?_, rfl⟩; simp only [List.map_cons, List.map_nil, Term.toD_eq])
                ·
                  rintro _ rfl
                  refine w_condH beq_iff_eq h (fun hc112 h => ?_) (fun hc112 h => ?_)
                  ·
                    rintro _ rfl
                    rintro _ rfl
                    rintro _ rfl
                    rintro _ rfl
                    cases h; first | exact ⟨rfl, rfl⟩ | (refine ⟨?_, rfl⟩; simp only [List.map_cons, List.map_nil, Term.toD_eq])
                  ·
                    rintro _ rfl
                    refine w_condH beq_iff_eq h (fun hc113 h => ?_) (fun hc113 h => ?_)
                    ·
                      rintro _ rfl
                      rintro _ rfl
                      rintro _ rfl
                      rintro _ rfl
                      cases h; first | exact ⟨rfl, rfl⟩ | (refine ⟨?_, rfl⟩; simp only [List.map_cons, List.map_nil, Term.toD_eq])
                    ·
                      rintro _ rfl
                      refine w_condH beq_iff_eq h (fun hc114 h => ?_) (fun hc114 h => ?_)
                      ·
                        obtain ⟨q11, hq, h⟩ := w_bind h
                        refine ⟨q11, ⟨_, T_ref20Times _ _ _ hq⟩, ?_⟩
                        cases h; first | exact ⟨rfl, rfl⟩ | (refine ⟨?_, rfl⟩; simp only [List.map_cons, List.map_nil, Term.toD_eq])
                      ·
                        rintro _ rfl
                        refine w_condN beq_iff_eq h (fun hc115 h => ?_) (fun hc115 h => ?_)
                        ·
                          rintro _ rfl
                          refine w_condH beq_iff_eq h (fun hc116 h => ?_) (fun hc116 h => ?_)
                          ·
                            cases h; first | exact ⟨rfl, rfl⟩ | (refine ⟨?_, rfl⟩; simp only [List.map_cons, List.map_nil, Term.toD_eq])
                          ·
                            obtain ⟨q13, hq, h⟩ := w_bind h
                            refine ⟨q13.1, q13.2, ⟨_, T_ref20Quotient _ _ _ hq⟩, ?_⟩
                            rintro _ rfl
                            refine w_condT beq_iff_eq hc115 ?_
                            cases h; first | exact ⟨rfl, rfl⟩ | (refine ⟨?_, rfl⟩; simp only [List.map_cons, List.map_nil, Term.toD_eq])
                        ·
                          rintro _ rfl
                          refine w_condN beq_iff_eq h (fun hc117 h => ?_) (fun hc117 h => ?_)
                          ·
                            rintro _ rfl
                            refine w_condH beq_iff_eq h (fun hc118 h => ?_) (fun hc118 h => ?_)
                            ·
                              cases h; first | exact ⟨rfl, rfl⟩ | (refine ⟨?_, rfl⟩; simp only [List.map_cons, List.map_nil, Term.toD_eq])
                            ·
                              obtain ⟨q12, hq, h⟩ := w_bind h
                              refine ⟨q12.1, q12.2, ⟨_, T_ref20Quotient _ _ _ hq⟩, ?_⟩
                              rintro _ rfl
                              refine w_condF beq_iff_eq hc115 ?_
                              cases h; first | exact ⟨rfl, rfl⟩ | (refine ⟨?_, rfl⟩; simp only [List.map_cons, List.map_nil, Term.toD_eq])
                          ·
                            cases h; first | exact ⟨rfl, rfl⟩ | (refine ⟨?_, rfl⟩; simp only [List.map_cons, List.map_nil, Term.toD_eq])
theorem T_ref27Literal (t : Term) (r : Bool) (h : ref27Literal t = some r) : Trip Try.prog 32 [.d (.agg [(.int .i64 t.K), (.int .i64 t.N), (.str t.S), (.sl (List.map Term.toD t.L)), (.int .i64 t.From), (.int .i64 t.To)])] [] [.d (.bool r)] [] := by
  unfold ref27Literal at h
  refine trip_ev 1000 (by kernel_rfl) (by kernel_rfl) (by kernel_rfl) (by kernel_rfl) (e_ref27Literal _ _ t _ _) ?_
  rintro _ rfl
  refine w_condH beq_iff_eq h (fun hc119 h => ?_) (fun hc119 h => ?_)
  ·
    refine w_nam (e' := (List.length t.L : Int)) (by first | rfl | rw [List.length_map]) ?_
    rintro _ rfl
    refine w_condH beq_iff_eq h (fun hc120 h => ?_) (fun hc120 h => ?_)
    ·
      rintro _ rfl
      refine w_condH beq_iff_eq h (fun hc121 h => ?_) (fun hc121 h => ?_)
      ·
        cases h; first | exact ⟨rfl, rfl⟩ | (refine ⟨?_, rfl⟩; simp only [List.map_cons, List.map_nil, Term.toD_eq])
      ·
        rintro _ rfl
        refine w_condH beq_iff_eq h (fun hc122 h => ?_) (fun hc122 h => ?_)
        ·
          rintro _ rfl
          refine w_condH beq_iff_eq h (fun hc123 h => ?_) (fun hc123 h => ?_)
          ·
            cases h; first | exact ⟨rfl, rfl⟩ | (refine ⟨?_, rfl⟩; simp only [List.map_cons, List.map_nil, Term.toD_eq])
          ·
            rintro _ rfl
            cases h; first | exact ⟨rfl, rfl⟩ | (refine ⟨?_, rfl⟩; simp only [List.map_cons, List.map_nil, Term.toD_eq])
        ·
          cases h; first | exact ⟨rfl, rfl⟩ | (refine ⟨?_, rfl⟩; simp only [List.map_cons, List.map_nil, Term.toD_eq])
    ·
      cases h; first | exact ⟨rfl, rfl⟩ | (refine ⟨?_, rfl⟩; simp only [List.map_cons, List.map_nil, Term.toD_eq])
  ·
    cases h; first | exact ⟨rfl, rfl⟩ | (refine ⟨?_, rfl⟩; simp only [List.map_cons, List.map_nil, Term.toD_eq])
def M_ref27Value_L5 : (i : I_ref27Value_L5) → R_ref27Value_L5 i → Prop
  | .ref27Value_L5 i t o2 none_, r => Ok (c_ref27Value (Trip Try.prog) [.d (.agg [(.int .i64 r.1.K), (.int .i64 r.1.N), (.str r.1.S), (.sl (List.map Term.toD r.1.L)), (.int .i64 r.1.From), (.int .i64 r.1.To)]), .d (.bool r.2)] []) (kL Try.f10 5) ⟨163, [(1, .ref 1 1 0), (2, .ref 2 1 0), (4, .ref 4 1 0), (5, .d (.int .i64 i))], [(1, 1, some (.agg (.agg [(.int .i64 t.K), (.int .i64 t.N), (.str t.S), (.sl (List.map Term.toD t.L)), (.int .i64 t.From), (.int .i64 t.To)]))), (2, 1, some (.agg (.agg [(.int .i64 o2.K), (.int .i64 o2.N), (.str o2.S), (.sl (List.map Term.toD o2.L)), (.int .i64 o2.From), (.int .i64 o2.To)]))), (4, 1, some (.agg (.agg [(.int .i64 none_.K), (.int .i64 none_.N), (.str none_.S), (.sl (List.map Term.toD none_.L)), (.int .i64 none_.From), (.int .i64 none_.To)])))], [], 0⟩
theorem G_ref27Value_L5 : ∀ i r, fixF F_ref27Value_L5 i = some r → M_ref27Value_L5 i r := by
  refine fixF_induct D_ref27Value_L5 fun g ih i => ?_
  cases i with
  | ref27Value_L5 i t o2 none_ =>
    have ih_ref27Value_L5 : ∀ (i : Int) (t : Term) (o2 : Term) (none_ : Term) (r : Term × Bool), g (I_ref27Value_L5.ref27Value_L5 i t o2 none_) = some r → Ok (c_ref27Value (Trip Try.prog) [.d (.agg [(.int .i64 r.1.K), (.int .i64 r.1.N), (.str r.1.S), (.sl (List.map Term.toD r.1.L)), (.int .i64 r.1.From), (.int .i64 r.1.To)]), .d (.bool r.2)] []) (kL Try.f10 5) ⟨163, [(1, .ref 1 1 0), (2, .ref 2 1 0), (4, .ref 4 1 0), (5, .d (.int .i64 i))], [(1, 1, some (.agg (.agg [(.int .i64 t.K), (.int .i64 t.N), (.str t.S), (.sl (List.map Term.toD t.L)), (.int .i64 t.From), (.int .i64 t.To)]))), (2, 1, some (.agg (.agg [(.int .i64 o2.K), (.int .i64 o2.N), (.str o2.S), (.sl (List.map Term.toD o2.L)), (.int .i64 o2.From), (.int .i64 o2.To)]))), (4, 1, some (.agg (.agg [(.int .i64 none_.K), (.int .i64 none_.N), (.str none_.S), (.sl (List.map Term.toD none_.L)), (.int .i64 none_.From), (.int .i64 none_.To)])))], [], 0⟩ := fun i t o2 none_ r h => ih (.ref27Value_L5 i t o2 none_) r h
    intro r h
    show Ok (c_ref27Value (Trip Try.prog) [.d (.agg [(.int .i64 r.1.K), (.int .i64 r.1.N), (.str r.1.S), (.sl (List.map Term.toD r.1.L)), (.int .i64 r.1.From), (.int .i64 r.1.To)]), .d (.bool r.2)] []) (kL Try.f10 5) ⟨163, [(1, .ref 1 1 0), (2, .ref 2 1 0), (4, .ref 4 1 0), (5, .d (.int .i64 i))], [(1, 1, some (.agg (.agg [(.int .i64 t.K), (.int .i64 t.N), (.str t.S), (.sl (List.map Term.toD t.L)), (.int .i64 t.From), (.int .i64 t.To)]))), (2, 1, some (.agg (.agg [(.int .i64 o2.K), (.int .i64 o2.N), (.str o2.S), (.sl (List.map Term.toD o2.L)), (.int .i64 o2.From), (.int .i64 o2.To)]))), (4, 1, some (.agg (.agg [(.int .i64 none_.K), (.int .i64 none_.N), (.str none_.S), (.sl (List.map Term.toD none_.L)), (.int .i64 none_.From), (.int .i64 none_.To)])))], [], 0⟩
    replace h : ref27Value_L5_B (fun i t o2 none_ => g (I_ref27Value_L5.ref27Value_L5 i t o2 none_)) i t o2 none_ = some r := h
    unfold ref27Value_L5_B at h
    refine ok_ev 1000 (e_ref27Value_L5 _ _ i t o2 none_ _ _) ?_
    refine w_nam (e' := (List.length t.L : Int)) (by first | rfl | rw [List.length_map]) ?_
    rintro _ rfl
    refine w_condH decide_eq_true_iff h (fun hc124 h => ?_) (fun hc124 h => ?_)
    ·
      obtain ⟨x, hx, h⟩ := w_bind h
      refine ⟨sizedL (l := t.L) (Term.sz), w_ge hx, x.K, x.N, x.S, List.map Term.toD x.L, x.From, x.To, w_get (Term.toD_eq x) hx, ?_⟩
      obtain ⟨q1, hq, h⟩ := w_bind h
      refine ⟨q1, ⟨_, T_ref27Literal _ _ hq⟩, ?_⟩
      refine w_condN Iff.rfl h (fun hc125 h => ?_) (fun hc125 h => ?_)
      ·
        obtain ⟨x1, hx, h⟩ := w_bind h
        refine ⟨sizedL (l := t.L) (Term.sz), w_ge hx, x1.K, x1.N, x1.S, List.map Term.toD x1.L, x1.From, x1.To, w_get (Term.toD_eq x1) hx, ?_⟩
        obtain ⟨x2, hx, h⟩ := w_bind h
        refine ⟨sizedL (l := t.L) (Term.sz), w_ge hx, x2.K, x2.N, x2.S, List.map Term.toD x2.L, x2.From, x2.To, w_get (Term.toD_eq x2) hx, ?_⟩
        rintro _ rfl
        refine w_condN beq_iff_eq h (fun hc126 h => ?_) (fun hc126 h => ?_)
        ·
          rintro _ rfl
          exact ih_ref27Value_L5 _ _ _ _ _ h
        ·
          cases h; first | exact ⟨rfl, rfl⟩ | (refine ⟨?_, rfl⟩; simp only [List.map_cons, List.map_nil, Term.toD_eq])
      ·
        cases h; first | exact ⟨rfl, rfl⟩ | (refine ⟨?_, rfl⟩; simp only [List.map_cons, List.map_nil, Term.toD_eq])
    ·
      obtain ⟨x3, hx, h⟩ := w_bind h
      refine ⟨sizedL (l := t.L) (Term.sz), w_ge hx, x3.K, x3.N, x3.S, List.map Term.toD x3.L, x3.From, x3.To, w_get (Term.toD_eq x3) hx, ?_⟩
      rintro _ rfl
      rintro _ rfl
      refine w_condH beq_iff_eq h (fun hc127 h => ?_) (fun hc127 h => ?_)
      ·
        refine w_nam (e' := (List.length t.L : Int)) (by first | rfl | rw [List.length_map]) ?_
        rintro _ rfl
        refine w_condH beq_iff_eq h (fun hc128 h => ?_) (fun hc128 h => ?_)
        ·
          rintro _ rfl
          refine w_condH beq_iff_eq h (fun hc129 h => ?_) (fun hc129 h => ?_)
          ·
            refine w_condH beq_iff_eq h (fun hc130 h => ?_) (fun hc130 h => ?_)
            ·
              obtain ⟨x4, hx, h⟩ := w_bind h
              refine ⟨sizedL (l := t.L) (Term.sz), w_ge hx, x4.K, x4.N, x4.S, List.map Term.toD x4.L, x4.From, x4.To, w_get (Term.toD_eq x4) hx, ?_⟩
              obtain ⟨x5, hx, h⟩ := w_bind h
              refine ⟨sizedL (l := t.L) (Term.sz), w_ge hx, x5.K, x5.N, x5.S, List.map Term.toD x5.L, x5.From, x5.To, w_get (Term.toD_eq x5) hx, ?_⟩
              obtain ⟨q2, hq, h⟩ := w_bind h
              refine ⟨q2, ⟨_, T_ref20One _ _ _ hq⟩, ?_⟩
              cases h; first | exact ⟨rfl, rfl⟩ | (refine ⟨?_, rfl⟩; simp only [List.map_cons, List.map_nil, Term.toD_eq])
            ·
              rintro _ rfl
              refine w_condF beq_iff_eq (fun e => absurd (hc129.symm.trans e) (by decide)) ?_
              rintro _ rfl
              refine w_condFN beq_iff_eq (fun e => absurd (hc127.symm.trans e) (by decide)) ?_
              cases h; first | exact ⟨rfl, rfl⟩ | (refine ⟨?_, rfl⟩; simp only [List.map_cons, List.map_nil, Term.toD_eq])
          ·
            rintro _ rfl
            refine w_condH beq_iff_eq h (fun hc131 h => ?_) (fun hc131 h => ?_)
            ·
              refine w_condN beq_iff_eq h (fun hc132 h => ?_) (fun hc132 h => ?_)
              ·
                rintro _ rfl
                refine w_condFN beq_iff_eq (fun e => absurd (hc127.symm.trans e) (by decide)) ?_
                cases h; first | exact ⟨rfl, rfl⟩ | (refine ⟨?_, rfl⟩; simp only [List.map_cons, List.map_nil, Term.toD_eq])
              ·
                obtain ⟨x24, hx, h⟩ := w_bind h
                refine ⟨sizedL (l := t.L) (Term.sz), w_ge hx, x24.K, x24.N, x24.S, List.map Term.toD x24.L, x24.From, x24.To, w_get (Term.toD_eq x24) hx, ?_⟩
                obtain ⟨x25, hx, h⟩ := w_bind h
                refine ⟨sizedL (l := t.L) (Term.sz), w_ge hx, x25.K, x25.N, x25.S, List.map Term.toD x25.L, x25.From, x25.To, w_get (Term.toD_eq x25) hx, ?_⟩
                obtain ⟨q12, hq, h⟩ := w_bind h
                refine ⟨q12, ⟨_, T_ref20One _ _ _ hq⟩, ?_⟩
                cases h; first | exact ⟨rfl, rfl⟩ | (refine ⟨?_, rfl⟩; simp only [List.map_cons, List.map_nil, Term.toD_eq])
            ·
              rintro _ rfl
              refine w_condFN beq_iff_eq (fun e => absurd (hc127.symm.trans e) (by decide)) ?_
              cases h; first | exact ⟨rfl, rfl⟩ | (refine ⟨?_, rfl⟩; simp only [List.map_cons, List.map_nil, Term.toD_eq])
        ·
          rintro _ rfl
          refine w_condFN beq_iff_eq (fun e => absurd (hc127.symm.trans e) (by decide)) ?_
          cases h; first | exact ⟨rfl, rfl⟩ | (refine ⟨?_, rfl⟩; simp only [List.map_cons, List.map_nil, Term.toD_eq])
      ·
        rintro _ rfl
        refine w_condN beq_iff_eq h (fun hc133 h => ?_) (fun hc133 h => ?_)
        ·
          refine w_nam (e' := (List.length t.L : Int)) (by first | rfl | rw [List.length_map]) ?_
          rintro _ rfl
          refine w_condN beq_iff_eq h (fun hc134 h => ?_) (fun hc134 h => ?_)
          ·
            rintro _ rfl
            refine w_condH decide_eq_true_iff h (fun hc135 h => ?_) (fun hc135 h => ?_)
            ·
              cases h; first | exact ⟨rfl, rfl⟩ | (refine ⟨?_, rfl⟩; simp only [List.map_cons, List.map_nil, Term.toD_eq])
            ·
              rintro _ rfl
              refine w_condH decide_eq_true_iff h (fun hc136 h => ?_) (fun hc136 h => ?_)
              ·
                cases h; first | exact ⟨rfl, rfl⟩ | (refine ⟨?_, rfl⟩; simp only [List.map_cons, List.map_nil, Term.toD_eq])
              ·
                refine w_condN beq_iff_eq h (fun hc137 h => ?_) (fun hc137 h => ?_)
                ·
                  refine w_condT beq_iff_eq hc137 ?_
                  rintro _ rfl
                  refine w_condH decide_eq_true_iff h (fun hc138 h => ?_) (fun hc138 h => ?_)
                  ·
                    cases h; first | exact ⟨rfl, rfl⟩ | (refine ⟨?_, rfl⟩; simp only [List.map_cons, List.map_nil, Term.toD_eq])
                  ·
                    obtain ⟨x54, hx, h⟩ := w_bind h
                    refine ⟨sizedL (l := t.L) (Term.sz), w_ge hx, x54.K, x54.N, x54.S, List.map Term.toD x54.L, x54.From, x54.To, w_get (Term.toD_eq x54) hx, ?_⟩
                    obtain ⟨x55, hx, h⟩ := w_bind h
                    refine ⟨sizedL (l := t.L) (Term.sz), w_ge hx, x55.K, x55.N, x55.S, List.map Term.toD x55.L, x55.From, x55.To, w_get (Term.toD_eq x55) hx, ?_⟩
                    obtain ⟨q27, hq, h⟩ := w_bind h
                    refine ⟨q27.1, q27.2, ⟨_, T_ref20Two _ _ _ _ hq⟩, ?_⟩
                    rintro _ rfl
                    refine w_condN beq_iff_eq h (fun hc139 h => ?_) (fun hc139 h => ?_)
                    ·
                      rintro _ rfl
                      refine w_condH decide_eq_true_iff h (fun hc140 h => ?_) (fun hc140 h => ?_)
                      ·
                        cases h; first | exact ⟨rfl, rfl⟩ | (refine ⟨?_, rfl⟩; simp only [List.map_cons, List.map_nil, Term.toD_eq])
                      ·
                        cases h; first | exact ⟨rfl, rfl⟩ | (refine ⟨?_, rfl⟩; simp only [List.map_cons, List.map_nil, Term.toD_eq])
                    ·
                      cases h; first | exact ⟨rfl, rfl⟩ | (refine ⟨?_, rfl⟩; simp only [List.map_cons, List.map_nil, Term.toD_eq])
                ·
                  rintro _ rfl
                  refine w_condH decide_eq_true_iff h (fun hc141 h => ?_) (fun hc141 h => ?_)
                  ·
                    cases h; first | exact ⟨rfl, rfl⟩ | (refine ⟨?_, rfl⟩; simp only [List.map_cons, List.map_nil, Term.toD_eq])
                  ·
                    refine w_condF beq_iff_eq hc137 ?_
                    obtain ⟨x52, hx, h⟩ := w_bind h
                    refine ⟨sizedL (l := t.L) (Term.sz), w_ge hx, x52.K, x52.N, x52.S, List.map Term.toD x52.L, x52.From, x52.To, w_get (Term.toD_eq x52) hx, ?_⟩
                    obtain ⟨x53, hx, h⟩ := w_bind h
                    refine ⟨sizedL (l := t.L) (Term.sz), w_ge hx, x53.K, x53.N, x53.S, List.map Term.toD x53.L, x53.From, x53.To, w_get (Term.toD_eq x53) hx, ?_⟩
                    obtain ⟨q26, hq, h⟩ := w_bind h
                    refine ⟨q26.1, q26.2, ⟨_, T_ref20Two _ _ _ _ hq⟩, ?_⟩
                    rintro _ rfl
                    refine w_condN beq_iff_eq h (fun hc142 h => ?_) (fun hc142 h => ?_)
                    ·
                      rintro _ rfl
                      refine w_condH decide_eq_true_iff h (fun hc143 h => ?_) (fun hc143 h => ?_)
                      ·
                        cases h; first | exact ⟨rfl, rfl⟩ | (refine ⟨?_, rfl⟩; simp only [List.map_cons, List.map_nil, Term.toD_eq])
                      ·
                        cases h; first | exact ⟨rfl, rfl⟩ | (refine ⟨?_, rfl⟩; simp only [List.map_cons, List.map_nil, Term.toD_eq])
                    ·
                      cases h; first | exact ⟨rfl, rfl⟩ | (refine ⟨?_, rfl⟩; simp only [List.map_cons, List.map_nil, Term.toD_eq])
          ·
            cases h; first | exact ⟨rfl, rfl⟩ | (refine ⟨?_, rfl⟩; simp only [List.map_cons, List.map_nil, Term.toD_eq])
        ·
          cases h; first | exact ⟨rfl, rfl⟩ | (refine ⟨?_, rfl⟩; simp only [List.map_cons, List.map_nil, Term.toD_eq])
theorem T_ref27Value_L5 (i : Int) (t : Term) (o2 : Term) (none_ : Term) (r : Term × Bool) (h : ref27Value_L5 i t o2 none_ = some r) : Ok (c_ref27Value (Trip Try.prog) [.d (.agg [(.int .i64 r.1.K), (.int .i64 r.1.N), (.str r.1.S), (.sl (List.map Term.toD r.1.L)), (.int .i64 r.1.From), (.int .i64 r.1.To)]), .d (.bool r.2)] []) (kL Try.f10 5) ⟨163, [(1, .ref 1 1 0), (2, .ref 2 1 0), (4, .ref 4 1 0), (5, .d (.int .i64 i))], [(1, 1, some (.agg (.agg [(.int .i64 t.K), (.int .i64 t.N), (.str t.S), (.sl (List.map Term.toD t.L)), (.int .i64 t.From), (.int .i64 t.To)]))), (2, 1, some (.agg (.agg [(.int .i64 o2.K), (.int .i64 o2.N), (.str o2.S), (.sl (List.map Term.toD o2.L)), (.int .i64 o2.From), (.int .i64 o2.To)]))), (4, 1, some (.agg (.agg [(.int .i64 none_.K), (.int .i64 none_.N), (.str none_.S), (.sl (List.map Term.toD none_.L)), (.int .i64 none_.From), (.int .i64 none_.To)])))], [], 0⟩ := G_ref27Value_L5 (.ref27Value_L5 i t o2 none_) r h
theorem T_ref27Value (t : Term) (r : Term × Bool) (h : ref27Value t = some r) : Trip Try.prog 10 [.d (.agg [(.int .i64 t.K), (.int .i64 t.N), (.str t.S), (.sl (List.map Term.toD t.L)), (.int .i64 t.From), (.int .i64 t.To)])] [] [.d (.agg [(.int .i64 r.1.K), (.int .i64 r.1.N), (.str r.1.S), (.sl (List.map Term.toD r.1.L)), (.int .i64 r.1.From), (.int .i64 r.1.To)]), .d (.bool r.2)] [] := by
  unfold ref27Value at h
  refine trip_ev 1000 (by kernel_rfl) (by kernel_rfl) (by kernel_rfl) (by kernel_rfl) (e_ref27Value _ _ t _ _) ?_
  rintro _ rfl
  refine w_condN beq_iff_eq h (fun hc144 h => ?_) (fun hc144 h => ?_)
  ·
    refine w_nam (e' := (List.length t.L : Int)) (by first | rfl | rw [List.length_map]) ?_
    rintro _ rfl
    refine w_condH beq_iff_eq h (fun hc145 h => ?_) (fun hc145 h => ?_)
    ·
      cases h; first | exact ⟨rfl, rfl⟩ | (refine ⟨?_, rfl⟩; simp only [List.map_cons, List.map_nil, Term.toD_eq])
    ·
      refine w_nam (e' := (List.length t.L : Int)) (by first | rfl | rw [List.length_map]) ?_
      rintro _ rfl
      refine w_condH decide_eq_true_iff h (fun hc146 h => ?_) (fun hc146 h => ?_)
      ·
        cases h; first | exact ⟨rfl, rfl⟩ | (refine ⟨?_, rfl⟩; simp only [List.map_cons, List.map_nil, Term.toD_eq])
      ·
        exact T_ref27Value_L5 _ _ _ _ _ h
  ·
    cases h; first | exact ⟨rfl, rfl⟩ | (refine ⟨?_, rfl⟩; simp only [List.map_cons, List.map_nil, Term.toD_eq])
theorem T_law27FoldValues (t : Term) (r : Bool) (h : law27FoldValues t = some r) : Trip Try.prog 3 [.d (.agg [(.int .i64 t.K), (.int .i64 t.N), (.str t.S), (.sl (List.map Term.toD t.L)), (.int .i64 t.From), (.int .i64 t.To)])] [] [.d (.bool r)] [] := by
  unfold law27FoldValues at h
  refine trip_ev 1000 (by kernel_rfl) (by kernel_rfl) (by kernel_rfl) (by kernel_rfl) (e_law27FoldValues _ _ t _ _) ?_
  obtain ⟨q1, hq, h⟩ := w_bind h
  refine ⟨q1, ⟨_, T_ref06Large _ _ hq⟩, ?_⟩
  refine w_condH Iff.rfl h (fun hc147 h => ?_) (fun hc147 h => ?_)
  ·
    obtain ⟨q2, hq, h⟩ := w_bind h
    refine ⟨q2, ⟨_, T_law27awake _ hq⟩, ?_⟩
    cases h; first | exact ⟨rfl, rfl⟩ | (refine ⟨?_, rfl⟩; simp only [List.map_cons, List.map_nil, Term.toD_eq])
  ·
    obtain ⟨q3, hq, h⟩ := w_bind h
    refine ⟨q3.1.K, q3.1.N, q3.1.S, List.map Term.toD q3.1.L, q3.1.From, q3.1.To, q3.2, ⟨_, T_fold_Value _ _ hq⟩, ?_⟩
    obtain ⟨q4, hq, h⟩ := w_bind h
    refine ⟨q4.1.K, q4.1.N, q4.1.S, List.map Term.toD q4.1.L, q4.1.From, q4.1.To, q4.2, ⟨_, T_ref27Value _ _ hq⟩, ?_⟩
    rintro _ rfl
    refine w_condH beq_iff_eq h (fun hc148 h => ?_) (fun hc148 h => ?_)
    ·
      obtain ⟨q5, hq, h⟩ := w_bind h
      refine ⟨q5, ⟨_, T_ref06Placed _ _ _ hq⟩, ?_⟩
      refine w_condH Iff.rfl h (fun hc149 h => ?_) (fun hc149 h => ?_)
      ·
        obtain ⟨q6, hq, h⟩ := w_bind h
        refine ⟨q6, ⟨_, T_law27awake _ hq⟩, ?_⟩
        cases h; first | exact ⟨rfl, rfl⟩ | (refine ⟨?_, rfl⟩; simp only [List.map_cons, List.map_nil, Term.toD_eq])
      ·
        cases h; first | exact ⟨rfl, rfl⟩ | (refine ⟨?_, rfl⟩; simp only [List.map_cons, List.map_nil, Term.toD_eq])
    ·
      cases h; first | exact ⟨rfl, rfl⟩ | (refine ⟨?_, rfl⟩; simp only [List.map_cons, List.map_nil, Term.toD_eq])
end Go.Proofs.Ytkioflnaifdlkaa.M
