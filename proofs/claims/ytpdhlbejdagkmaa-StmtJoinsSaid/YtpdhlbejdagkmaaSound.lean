/- The plain functions' answers are the program's. -/
import Derived.Test.YtpdhlbejdagkmaaMod
import Derived.Test.YtpdhlbejdagkmaaEv
namespace Go.Proofs.Ytpdhlbejdagkmaa.M
open Go Nt Go.Proofs
set_option linter.unusedVariables false
set_option linter.unusedSimpArgs false
set_option maxRecDepth 100000
theorem T_stmt_reader_now (t : List Token) (at_ : Int) (e : Int) (r : Token) (h : stmt_reader_now t at_ e = some r) : Trip Try.prog 31 [.hp 0 0] [[.d (.sl (List.map Token.toD t)), .d (.int .i64 at_), .d (.int .i64 e)]] [.d (.agg [(.int .i64 r.K), (.int .i64 r.N), (.str r.S), (.int .i64 r.From), (.int .i64 r.To)])] [[.d (.sl (List.map Token.toD t)), .d (.int .i64 at_), .d (.int .i64 e)]] := by
  unfold stmt_reader_now at h
  refine trip_ev 1000 (by kernel_rfl) (by kernel_rfl) (by kernel_rfl) (by kernel_rfl) (by kernel_rfl) (e_stmt_reader_now _ _ t at_ e _ _) ?_
  refine w_nam (e' := (List.length t : Int)) (by first | rfl | rw [List.length_map]) ?_
  rintro _ rfl
  refine w_condH decide_eq_true_iff h (fun hc1 h => ?_) (fun hc1 h => ?_)
  ·
    obtain ⟨x, hx, h⟩ := w_bind h
    refine ⟨sizedL (l := t) (Token.sz), w_ge hx, x.K, x.N, x.S, x.From, x.To, w_get (Token.toD_eq x) hx, ?_⟩
    cases h; exact ⟨rfl, rfl⟩
  ·
    cases h; exact ⟨rfl, rfl⟩
theorem T_stmt_reader_is (k : Int) (s : Str) (t : List Token) (at_ : Int) (e : Int) (r : Bool) (h : stmt_reader_is k s t at_ e = some r) : Trip Try.prog 28 [.hp 0 0, .d (.int .i64 k), .d (.str s)] [[.d (.sl (List.map Token.toD t)), .d (.int .i64 at_), .d (.int .i64 e)]] [.d (.bool r)] [[.d (.sl (List.map Token.toD t)), .d (.int .i64 at_), .d (.int .i64 e)]] := by
  unfold stmt_reader_is at h
  refine trip_ev 1000 (by kernel_rfl) (by kernel_rfl) (by kernel_rfl) (by kernel_rfl) (by kernel_rfl) (e_stmt_reader_is _ _ k s t at_ e _ _) ?_
  obtain ⟨q1, hq, h⟩ := w_bind h
  refine ⟨q1.K, q1.N, q1.S, q1.From, q1.To, T_stmt_reader_now _ _ _ _ hq, ?_⟩
  rintro _ rfl
  refine w_condH beq_iff_eq h (fun hc2 h => ?_) (fun hc2 h => ?_)
  ·
    rintro _ rfl
    cases h; exact ⟨rfl, rfl⟩
  ·
    cases h; exact ⟨rfl, rfl⟩
theorem T_stmt_reader_made (k : Int) (s : Str) (from_ : Int) (parts : List Term) (t : List Token) (at_ : Int) (e : Int) (r : Term) (h : stmt_reader_made k s from_ parts t at_ e = some r) : Trip Try.prog 29 [.hp 0 0, .d (.int .i64 k), .d (.str s), .d (.int .i64 from_), .d (.sl (List.map Term.toD parts))] [[.d (.sl (List.map Token.toD t)), .d (.int .i64 at_), .d (.int .i64 e)]] [.d (.agg [(.int .i64 r.K), (.int .i64 r.N), (.str r.S), (.sl (List.map Term.toD r.L)), (.int .i64 r.From), (.int .i64 r.To)])] [[.d (.sl (List.map Token.toD t)), .d (.int .i64 at_), .d (.int .i64 e)]] := by
  unfold stmt_reader_made at h
  refine trip_ev 1000 (by kernel_rfl) (by kernel_rfl) (by kernel_rfl) (by kernel_rfl) (by kernel_rfl) (e_stmt_reader_made _ _ k s from_ parts t at_ e _ _) ?_
  rintro _ rfl
  refine w_condN beq_iff_eq h (fun hc3 h => ?_) (fun hc3 h => ?_)
  ·
    obtain ⟨x, hx, h⟩ := w_bind h
    refine ⟨sizedL (l := t) (Token.sz), w_ge hx, x.K, x.N, x.S, x.From, x.To, w_get (Token.toD_eq x) hx, ?_⟩
    rintro _ rfl
    obtain ⟨x1, hx, h⟩ := w_bind h
    refine ⟨sizedL (l := t) (Token.sz), w_ge hx, x1.K, x1.N, x1.S, x1.From, x1.To, w_get (Token.toD_eq x1) hx, ?_⟩
    cases h; exact ⟨rfl, rfl⟩
  ·
    cases h; exact ⟨rfl, rfl⟩
theorem T_stmt_reader_need (k : Int) (s : Str) (t : List Token) (at_ : Int) (e : Int) (r : List Token × Int × Int) (h : stmt_reader_need k s t at_ e = some r) : Trip Try.prog 27 [.hp 0 0, .d (.int .i64 k), .d (.str s)] [[.d (.sl (List.map Token.toD t)), .d (.int .i64 at_), .d (.int .i64 e)]] [] [[.d (.sl (List.map Token.toD r.1)), .d (.int .i64 r.2.1), .d (.int .i64 r.2.2)]] := by
  unfold stmt_reader_need at h
  refine trip_ev 1000 (by kernel_rfl) (by kernel_rfl) (by kernel_rfl) (by kernel_rfl) (by kernel_rfl) (e_stmt_reader_need _ _ k s t at_ e _ _) ?_
  rintro _ rfl
  refine w_condN beq_iff_eq h (fun hc4 h => ?_) (fun hc4 h => ?_)
  ·
    obtain ⟨q1, hq, h⟩ := w_bind h
    refine ⟨q1, T_stmt_reader_is _ _ _ _ _ _ hq, ?_⟩
    refine w_condN Iff.rfl h (fun hc5 h => ?_) (fun hc5 h => ?_)
    ·
      rintro _ rfl
      cases h; exact ⟨rfl, rfl⟩
    ·
      cases h; exact ⟨rfl, rfl⟩
  ·
    cases h; exact ⟨rfl, rfl⟩
theorem T_stmt_kind (t : Token) (r : Nat) (h : stmt_kind t = some r) : Trip Try.prog 30 [.d (.agg [(.int .i64 t.K), (.int .i64 t.N), (.str t.S), (.int .i64 t.From), (.int .i64 t.To)])] [] [.fn r [] []] [] := by
  unfold stmt_kind at h
  refine trip_ev 1000 (by kernel_rfl) (by kernel_rfl) (by kernel_rfl) (by kernel_rfl) (by kernel_rfl) (e_stmt_kind _ _ t _ _) ?_
  rintro _ rfl
  refine w_condH beq_iff_eq h (fun hc6 h => ?_) (fun hc6 h => ?_)
  ·
    rintro _ rfl
    refine w_condH beq_iff_eq h (fun hc7 h => ?_) (fun hc7 h => ?_)
    ·
      cases h; exact ⟨rfl, rfl⟩
    ·
      rintro _ rfl
      refine w_condFN beq_iff_eq (fun e => absurd (hc6.symm.trans e) (by decide)) ?_
      cases h; exact ⟨rfl, rfl⟩
  ·
    rintro _ rfl
    refine w_condN beq_iff_eq h (fun hc8 h => ?_) (fun hc8 h => ?_)
    ·
      rintro _ rfl
      refine w_condH beq_iff_eq h (fun hc9 h => ?_) (fun hc9 h => ?_)
      ·
        cases h; exact ⟨rfl, rfl⟩
      ·
        rintro _ rfl
        refine w_condH beq_iff_eq h (fun hc10 h => ?_) (fun hc10 h => ?_)
        ·
          cases h; exact ⟨rfl, rfl⟩
        ·
          rintro _ rfl
          refine w_condH beq_iff_eq h (fun hc11 h => ?_) (fun hc11 h => ?_)
          ·
            cases h; exact ⟨rfl, rfl⟩
          ·
            rintro _ rfl
            refine w_condH beq_iff_eq h (fun hc12 h => ?_) (fun hc12 h => ?_)
            ·
              cases h; exact ⟨rfl, rfl⟩
            ·
              rintro _ rfl
              refine w_condH beq_iff_eq h (fun hc13 h => ?_) (fun hc13 h => ?_)
              ·
                cases h; exact ⟨rfl, rfl⟩
              ·
                rintro _ rfl
                refine w_condH beq_iff_eq h (fun hc14 h => ?_) (fun hc14 h => ?_)
                ·
                  cases h; exact ⟨rfl, rfl⟩
                ·
                  rintro _ rfl
                  refine w_condH beq_iff_eq h (fun hc15 h => ?_) (fun hc15 h => ?_)
                  ·
                    cases h; exact ⟨rfl, rfl⟩
                  ·
                    cases h; exact ⟨rfl, rfl⟩
    ·
      cases h; exact ⟨rfl, rfl⟩
theorem T_expr_operator (t : Token) (r : Int × Int) (h : expr_operator t = some r) : Trip Try.prog 73 [.d (.agg [(.int .i64 t.K), (.int .i64 t.N), (.str t.S), (.int .i64 t.From), (.int .i64 t.To)])] [] [.d (.int .i64 r.1), .d (.int .i64 r.2)] [] := by
  unfold expr_operator at h
  refine trip_ev 1000 (by kernel_rfl) (by kernel_rfl) (by kernel_rfl) (by kernel_rfl) (by kernel_rfl) (e_expr_operator _ _ t _ _) ?_
  rintro _ rfl
  refine w_condN beq_iff_eq h (fun hc16 h => ?_) (fun hc16 h => ?_)
  ·
    rintro _ rfl
    refine w_condH beq_iff_eq h (fun hc17 h => ?_) (fun hc17 h => ?_)
    ·
      cases h; exact ⟨rfl, rfl⟩
    ·
      rintro _ rfl
      refine w_condH beq_iff_eq h (fun hc18 h => ?_) (fun hc18 h => ?_)
      ·
        cases h; exact ⟨rfl, rfl⟩
      ·
        rintro _ rfl
        refine w_condH beq_iff_eq h (fun hc19 h => ?_) (fun hc19 h => ?_)
        ·
          cases h; exact ⟨rfl, rfl⟩
        ·
          rintro _ rfl
          refine w_condH beq_iff_eq h (fun hc20 h => ?_) (fun hc20 h => ?_)
          ·
            cases h; exact ⟨rfl, rfl⟩
          ·
            rintro _ rfl
            refine w_condH beq_iff_eq h (fun hc21 h => ?_) (fun hc21 h => ?_)
            ·
              cases h; exact ⟨rfl, rfl⟩
            ·
              rintro _ rfl
              refine w_condH beq_iff_eq h (fun hc22 h => ?_) (fun hc22 h => ?_)
              ·
                cases h; exact ⟨rfl, rfl⟩
              ·
                rintro _ rfl
                refine w_condH beq_iff_eq h (fun hc23 h => ?_) (fun hc23 h => ?_)
                ·
                  cases h; exact ⟨rfl, rfl⟩
                ·
                  rintro _ rfl
                  refine w_condH beq_iff_eq h (fun hc24 h => ?_) (fun hc24 h => ?_)
                  ·
                    cases h; exact ⟨rfl, rfl⟩
                  ·
                    rintro _ rfl
                    refine w_condH beq_iff_eq h (fun hc25 h => ?_) (fun hc25 h => ?_)
                    ·
                      cases h; exact ⟨rfl, rfl⟩
                    ·
                      rintro _ rfl
                      refine w_condH beq_iff_eq h (fun hc26 h => ?_) (fun hc26 h => ?_)
                      ·
                        cases h; exact ⟨rfl, rfl⟩
                      ·
                        rintro _ rfl
                        refine w_condH beq_iff_eq h (fun hc27 h => ?_) (fun hc27 h => ?_)
                        ·
                          cases h; exact ⟨rfl, rfl⟩
                        ·
                          rintro _ rfl
                          refine w_condH beq_iff_eq h (fun hc28 h => ?_) (fun hc28 h => ?_)
                          ·
                            cases h; exact ⟨rfl, rfl⟩
                          ·
                            rintro _ rfl
                            refine w_condH beq_iff_eq h (fun hc29 h => ?_) (fun hc29 h => ?_)
                            ·
                              cases h; exact ⟨rfl, rfl⟩
                            ·
                              cases h; exact ⟨rfl, rfl⟩
  ·
    cases h; exact ⟨rfl, rfl⟩
theorem T_expr_parser_made (t : Term) (from_ : Int) (t1 : List Token) (at_ : Int) (e : Int) (r : Term) (h : expr_parser_made t from_ t1 at_ e = some r) : Trip Try.prog 65 [.hp 0 0, .d (.agg [(.int .i64 t.K), (.int .i64 t.N), (.str t.S), (.sl (List.map Term.toD t.L)), (.int .i64 t.From), (.int .i64 t.To)]), .d (.int .i64 from_)] [[.d (.sl (List.map Token.toD t1)), .d (.int .i64 at_), .d (.int .i64 e)]] [.d (.agg [(.int .i64 r.K), (.int .i64 r.N), (.str r.S), (.sl (List.map Term.toD r.L)), (.int .i64 r.From), (.int .i64 r.To)])] [[.d (.sl (List.map Token.toD t1)), .d (.int .i64 at_), .d (.int .i64 e)]] := by
  unfold expr_parser_made at h
  refine trip_ev 1000 (by kernel_rfl) (by kernel_rfl) (by kernel_rfl) (by kernel_rfl) (by kernel_rfl) (e_expr_parser_made _ _ t from_ t1 at_ e _ _) ?_
  rintro _ rfl
  refine w_condH beq_iff_eq h (fun hc30 h => ?_) (fun hc30 h => ?_)
  ·
    obtain ⟨x, hx, h⟩ := w_bind h
    refine ⟨sizedL (l := t1) (Token.sz), w_ge hx, x.K, x.N, x.S, x.From, x.To, w_get (Token.toD_eq x) hx, ?_⟩
    rintro _ rfl
    obtain ⟨x1, hx, h⟩ := w_bind h
    refine ⟨sizedL (l := t1) (Token.sz), w_ge hx, x1.K, x1.N, x1.S, x1.From, x1.To, w_get (Token.toD_eq x1) hx, ?_⟩
    cases h; exact ⟨rfl, rfl⟩
  ·
    cases h; exact ⟨rfl, rfl⟩
theorem T_expr_parser_now (t : List Token) (at_ : Int) (e : Int) (r : Token) (h : expr_parser_now t at_ e = some r) : Trip Try.prog 64 [.hp 0 0] [[.d (.sl (List.map Token.toD t)), .d (.int .i64 at_), .d (.int .i64 e)]] [.d (.agg [(.int .i64 r.K), (.int .i64 r.N), (.str r.S), (.int .i64 r.From), (.int .i64 r.To)])] [[.d (.sl (List.map Token.toD t)), .d (.int .i64 at_), .d (.int .i64 e)]] := by
  unfold expr_parser_now at h
  refine trip_ev 1000 (by kernel_rfl) (by kernel_rfl) (by kernel_rfl) (by kernel_rfl) (by kernel_rfl) (e_expr_parser_now _ _ t at_ e _ _) ?_
  refine w_nam (e' := (List.length t : Int)) (by first | rfl | rw [List.length_map]) ?_
  rintro _ rfl
  refine w_condH decide_eq_true_iff h (fun hc31 h => ?_) (fun hc31 h => ?_)
  ·
    obtain ⟨x, hx, h⟩ := w_bind h
    refine ⟨sizedL (l := t) (Token.sz), w_ge hx, x.K, x.N, x.S, x.From, x.To, w_get (Token.toD_eq x) hx, ?_⟩
    cases h; exact ⟨rfl, rfl⟩
  ·
    cases h; exact ⟨rfl, rfl⟩
theorem T_expr_parser_sign (s : Str) (t : List Token) (at_ : Int) (e : Int) (r : Bool) (h : expr_parser_sign s t at_ e = some r) : Trip Try.prog 66 [.hp 0 0, .d (.str s)] [[.d (.sl (List.map Token.toD t)), .d (.int .i64 at_), .d (.int .i64 e)]] [.d (.bool r)] [[.d (.sl (List.map Token.toD t)), .d (.int .i64 at_), .d (.int .i64 e)]] := by
  unfold expr_parser_sign at h
  refine trip_ev 1000 (by kernel_rfl) (by kernel_rfl) (by kernel_rfl) (by kernel_rfl) (by kernel_rfl) (e_expr_parser_sign _ _ s t at_ e _ _) ?_
  obtain ⟨q1, hq, h⟩ := w_bind h
  refine ⟨q1.K, q1.N, q1.S, q1.From, q1.To, T_expr_parser_now _ _ _ _ hq, ?_⟩
  rintro _ rfl
  refine w_condH beq_iff_eq h (fun hc32 h => ?_) (fun hc32 h => ?_)
  ·
    rintro _ rfl
    cases h; exact ⟨rfl, rfl⟩
  ·
    cases h; exact ⟨rfl, rfl⟩
theorem T_expr_parser_fail (t : List Token) (at_ : Int) (e : Int) (r : List Token × Int × Int) (h : expr_parser_fail t at_ e = some r) : Trip Try.prog 67 [.hp 0 0] [[.d (.sl (List.map Token.toD t)), .d (.int .i64 at_), .d (.int .i64 e)]] [] [[.d (.sl (List.map Token.toD r.1)), .d (.int .i64 r.2.1), .d (.int .i64 r.2.2)]] := by
  unfold expr_parser_fail at h
  refine trip_ev 1000 (by kernel_rfl) (by kernel_rfl) (by kernel_rfl) (by kernel_rfl) (by kernel_rfl) (e_expr_parser_fail _ _ t at_ e _ _) ?_
  rintro _ rfl
  refine w_condH beq_iff_eq h (fun hc33 h => ?_) (fun hc33 h => ?_)
  ·
    cases h; exact ⟨rfl, rfl⟩
  ·
    cases h; exact ⟨rfl, rfl⟩
theorem T_expr_parser_need (s : Str) (t : List Token) (at_ : Int) (e : Int) (r : List Token × Int × Int) (h : expr_parser_need s t at_ e = some r) : Trip Try.prog 68 [.hp 0 0, .d (.str s)] [[.d (.sl (List.map Token.toD t)), .d (.int .i64 at_), .d (.int .i64 e)]] [] [[.d (.sl (List.map Token.toD r.1)), .d (.int .i64 r.2.1), .d (.int .i64 r.2.2)]] := by
  unfold expr_parser_need at h
  refine trip_ev 1000 (by kernel_rfl) (by kernel_rfl) (by kernel_rfl) (by kernel_rfl) (by kernel_rfl) (e_expr_parser_need _ _ s t at_ e _ _) ?_
  rintro _ rfl
  refine w_condN beq_iff_eq h (fun hc34 h => ?_) (fun hc34 h => ?_)
  ·
    obtain ⟨q1, hq, h⟩ := w_bind h
    refine ⟨q1, T_expr_parser_sign _ _ _ _ _ hq, ?_⟩
    refine w_condN Iff.rfl h (fun hc35 h => ?_) (fun hc35 h => ?_)
    ·
      rintro _ rfl
      cases h; exact ⟨rfl, rfl⟩
    ·
      obtain ⟨q2, hq, h⟩ := w_bind h
      refine ⟨List.map Token.toD q2.1, q2.2.1, q2.2.2, T_expr_parser_fail _ _ _ _ hq, ?_⟩
      cases h; exact ⟨rfl, rfl⟩
  ·
    cases h; exact ⟨rfl, rfl⟩
theorem T_expr_parser_name (t : List Token) (at_ : Int) (e : Int) (r : Str × List Token × Int × Int) (h : expr_parser_name t at_ e = some r) : Trip Try.prog 78 [.hp 0 0] [[.d (.sl (List.map Token.toD t)), .d (.int .i64 at_), .d (.int .i64 e)]] [.d (.str r.1)] [[.d (.sl (List.map Token.toD r.2.1)), .d (.int .i64 r.2.2.1), .d (.int .i64 r.2.2.2)]] := by
  unfold expr_parser_name at h
  refine trip_ev 1000 (by kernel_rfl) (by kernel_rfl) (by kernel_rfl) (by kernel_rfl) (by kernel_rfl) (e_expr_parser_name _ _ t at_ e _ _) ?_
  rintro _ rfl
  refine w_condN beq_iff_eq h (fun hc36 h => ?_) (fun hc36 h => ?_)
  ·
    obtain ⟨q1, hq, h⟩ := w_bind h
    refine ⟨q1.K, q1.N, q1.S, q1.From, q1.To, T_expr_parser_now _ _ _ _ hq, ?_⟩
    rintro _ rfl
    refine w_condN beq_iff_eq h (fun hc37 h => ?_) (fun hc37 h => ?_)
    ·
      rintro _ rfl
      cases h; exact ⟨rfl, rfl⟩
    ·
      obtain ⟨q2, hq, h⟩ := w_bind h
      refine ⟨List.map Token.toD q2.1, q2.2.1, q2.2.2, T_expr_parser_fail _ _ _ _ hq, ?_⟩
      cases h; exact ⟨rfl, rfl⟩
  ·
    cases h; exact ⟨rfl, rfl⟩
def M_expr_parser_expr : (i : I_expr_parser_expr) → R_expr_parser_expr i → Prop
  | .expr_parser_expr t at_ e, r => Trip Try.prog 63 [.hp 0 0] [[.d (.sl (List.map Token.toD t)), .d (.int .i64 at_), .d (.int .i64 e)]] [.d (.agg [(.int .i64 r.1.K), (.int .i64 r.1.N), (.str r.1.S), (.sl (List.map Term.toD r.1.L)), (.int .i64 r.1.From), (.int .i64 r.1.To)])] [[.d (.sl (List.map Token.toD r.2.1)), .d (.int .i64 r.2.2.1), .d (.int .i64 r.2.2.2)]]
  | .expr_parser_level least t at_ e, r => Trip Try.prog 70 [.hp 0 0, .d (.int .i64 least)] [[.d (.sl (List.map Token.toD t)), .d (.int .i64 at_), .d (.int .i64 e)]] [.d (.agg [(.int .i64 r.1.K), (.int .i64 r.1.N), (.str r.1.S), (.sl (List.map Term.toD r.1.L)), (.int .i64 r.1.From), (.int .i64 r.1.To)])] [[.d (.sl (List.map Token.toD r.2.1)), .d (.int .i64 r.2.2.1), .d (.int .i64 r.2.2.2)]]
  | .expr_parser_level_L4 least from_ most o4 left t at_ e, r => Ok (c_expr_parser_level (Trip Try.prog) [.d (.agg [(.int .i64 r.1.K), (.int .i64 r.1.N), (.str r.1.S), (.sl (List.map Term.toD r.1.L)), (.int .i64 r.1.From), (.int .i64 r.1.To)])] [[.d (.sl (List.map Token.toD r.2.1)), .d (.int .i64 r.2.2.1), .d (.int .i64 r.2.2.2)]]) (kL Try.f70 4) ⟨63, [(0, .hp 0 0), (1, .d (.int .i64 least)), (4, .ref 4 1 0), (5, .d (.int .i64 from_)), (6, .ref 6 1 0), (7, .d (.int .i64 most))], [(4, 1, some (.agg (.agg [(.int .i64 o4.K), (.int .i64 o4.N), (.str o4.S), (.sl (List.map Term.toD o4.L)), (.int .i64 o4.From), (.int .i64 o4.To)]))), (6, 1, some (.agg (.agg [(.int .i64 left.K), (.int .i64 left.N), (.str left.S), (.sl (List.map Term.toD left.L)), (.int .i64 left.From), (.int .i64 left.To)])))], [[.d (.sl (List.map Token.toD t)), .d (.int .i64 at_), .d (.int .i64 e)]], 0⟩
  | .expr_parser_un t at_ e, r => Trip Try.prog 72 [.hp 0 0] [[.d (.sl (List.map Token.toD t)), .d (.int .i64 at_), .d (.int .i64 e)]] [.d (.agg [(.int .i64 r.1.K), (.int .i64 r.1.N), (.str r.1.S), (.sl (List.map Term.toD r.1.L)), (.int .i64 r.1.From), (.int .i64 r.1.To)])] [[.d (.sl (List.map Token.toD r.2.1)), .d (.int .i64 r.2.2.1), .d (.int .i64 r.2.2.2)]]
  | .expr_parser_post t at_ e, r => Trip Try.prog 75 [.hp 0 0] [[.d (.sl (List.map Token.toD t)), .d (.int .i64 at_), .d (.int .i64 e)]] [.d (.agg [(.int .i64 r.1.K), (.int .i64 r.1.N), (.str r.1.S), (.sl (List.map Term.toD r.1.L)), (.int .i64 r.1.From), (.int .i64 r.1.To)])] [[.d (.sl (List.map Token.toD r.2.1)), .d (.int .i64 r.2.2.1), .d (.int .i64 r.2.2.2)]]
  | .expr_parser_post_L3 from_ o2 x t at_ e, r => Ok (c_expr_parser_post (Trip Try.prog) [.d (.agg [(.int .i64 r.1.K), (.int .i64 r.1.N), (.str r.1.S), (.sl (List.map Term.toD r.1.L)), (.int .i64 r.1.From), (.int .i64 r.1.To)])] [[.d (.sl (List.map Token.toD r.2.1)), .d (.int .i64 r.2.2.1), .d (.int .i64 r.2.2.2)]]) (kL Try.f75 3) ⟨57, [(0, .hp 0 0), (2, .ref 2 1 0), (3, .d (.int .i64 from_)), (4, .ref 4 1 0)], [(2, 1, some (.agg (.agg [(.int .i64 o2.K), (.int .i64 o2.N), (.str o2.S), (.sl (List.map Term.toD o2.L)), (.int .i64 o2.From), (.int .i64 o2.To)]))), (4, 1, some (.agg (.agg [(.int .i64 x.K), (.int .i64 x.N), (.str x.S), (.sl (List.map Term.toD x.L)), (.int .i64 x.From), (.int .i64 x.To)])))], [[.d (.sl (List.map Token.toD t)), .d (.int .i64 at_), .d (.int .i64 e)]], 0⟩
  | .expr_parser_atom t at_ e, r => Trip Try.prog 77 [.hp 0 0] [[.d (.sl (List.map Token.toD t)), .d (.int .i64 at_), .d (.int .i64 e)]] [.d (.agg [(.int .i64 r.1.K), (.int .i64 r.1.N), (.str r.1.S), (.sl (List.map Term.toD r.1.L)), (.int .i64 r.1.From), (.int .i64 r.1.To)])] [[.d (.sl (List.map Token.toD r.2.1)), .d (.int .i64 r.2.2.1), .d (.int .i64 r.2.2.2)]]
  | .expr_parser_args few t at_ e, r => Trip Try.prog 79 [.hp 0 0, .d (.bool few)] [[.d (.sl (List.map Token.toD t)), .d (.int .i64 at_), .d (.int .i64 e)]] [.d (.sl (List.map Term.toD r.1))] [[.d (.sl (List.map Token.toD r.2.1)), .d (.int .i64 r.2.2.1), .d (.int .i64 r.2.2.2)]]
  | .expr_parser_word s from_ t at_ e, r => Trip Try.prog 80 [.hp 0 0, .d (.str s), .d (.int .i64 from_)] [[.d (.sl (List.map Token.toD t)), .d (.int .i64 at_), .d (.int .i64 e)]] [.d (.agg [(.int .i64 r.1.K), (.int .i64 r.1.N), (.str r.1.S), (.sl (List.map Term.toD r.1.L)), (.int .i64 r.1.From), (.int .i64 r.1.To)])] [[.d (.sl (List.map Token.toD r.2.1)), .d (.int .i64 r.2.2.1), .d (.int .i64 r.2.2.2)]]
  | .expr_parser_bracket s from_ t at_ e, r => Trip Try.prog 81 [.hp 0 0, .d (.str s), .d (.int .i64 from_)] [[.d (.sl (List.map Token.toD t)), .d (.int .i64 at_), .d (.int .i64 e)]] [.d (.agg [(.int .i64 r.1.K), (.int .i64 r.1.N), (.str r.1.S), (.sl (List.map Term.toD r.1.L)), (.int .i64 r.1.From), (.int .i64 r.1.To)])] [[.d (.sl (List.map Token.toD r.2.1)), .d (.int .i64 r.2.2.1), .d (.int .i64 r.2.2.2)]]
  | .expr_parser_list_parser_expr t at_ e, r => Trip Try.prog 82 [.hp 0 0, .fn 63 [.hp 0 0] []] [[.d (.sl (List.map Token.toD t)), .d (.int .i64 at_), .d (.int .i64 e)]] [.d (.sl (List.map Term.toD r.1))] [[.d (.sl (List.map Token.toD r.2.1)), .d (.int .i64 r.2.2.1), .d (.int .i64 r.2.2.2)]]
  | .expr_parser_list_parser_expr_L2 out t at_ e, r => Ok (c_expr_parser_list_parser_expr (Trip Try.prog) [.d (.sl (List.map Term.toD r.1))] [[.d (.sl (List.map Token.toD r.2.1)), .d (.int .i64 r.2.2.1), .d (.int .i64 r.2.2.2)]]) (kL Try.f82 2) ⟨31, [(0, .hp 0 0), (1, .fn 63 [.hp 0 0] []), (5, .right 8 1 6 (List.map Term.toD out))], [(8, 1, some (.tok 6 (List.length (List.map Term.toD out))))], [[.d (.sl (List.map Token.toD t)), .d (.int .i64 at_), .d (.int .i64 e)]], 0⟩
theorem G_expr_parser_expr : ∀ i r, fixF F_expr_parser_expr i = some r → M_expr_parser_expr i r := by
  refine fixF_induct D_expr_parser_expr fun g ih i => ?_
  cases i with
  | expr_parser_expr t at_ e =>
    have ih_expr_parser_level : ∀ (least : Int) (t : List Token) (at_ : Int) (e : Int) (r : Term × List Token × Int × Int), g (I_expr_parser_expr.expr_parser_level least t at_ e) = some r → Trip Try.prog 70 [.hp 0 0, .d (.int .i64 least)] [[.d (.sl (List.map Token.toD t)), .d (.int .i64 at_), .d (.int .i64 e)]] [.d (.agg [(.int .i64 r.1.K), (.int .i64 r.1.N), (.str r.1.S), (.sl (List.map Term.toD r.1.L)), (.int .i64 r.1.From), (.int .i64 r.1.To)])] [[.d (.sl (List.map Token.toD r.2.1)), .d (.int .i64 r.2.2.1), .d (.int .i64 r.2.2.2)]] := fun least t at_ e r h => ih (.expr_parser_level least t at_ e) r h
    intro r h
    show Trip Try.prog 63 [.hp 0 0] [[.d (.sl (List.map Token.toD t)), .d (.int .i64 at_), .d (.int .i64 e)]] [.d (.agg [(.int .i64 r.1.K), (.int .i64 r.1.N), (.str r.1.S), (.sl (List.map Term.toD r.1.L)), (.int .i64 r.1.From), (.int .i64 r.1.To)])] [[.d (.sl (List.map Token.toD r.2.1)), .d (.int .i64 r.2.2.1), .d (.int .i64 r.2.2.2)]]
    replace h : expr_parser_expr_B (fun least t at_ e => g (I_expr_parser_expr.expr_parser_level least t at_ e)) t at_ e = some r := h
    unfold expr_parser_expr_B at h
    refine trip_ev 1000 (by kernel_rfl) (by kernel_rfl) (by kernel_rfl) (by kernel_rfl) (by kernel_rfl) (e_expr_parser_expr _ _ t at_ e _ _) ?_
    obtain ⟨q1, hq, h⟩ := w_bind h
    refine ⟨q1.1.K, q1.1.N, q1.1.S, List.map Term.toD q1.1.L, q1.1.From, q1.1.To, List.map Token.toD q1.2.1, q1.2.2.1, q1.2.2.2, ih_expr_parser_level _ _ _ _ _ hq, ?_⟩
    cases h; exact ⟨rfl, rfl⟩
  | expr_parser_level least t at_ e =>
    have ih_expr_parser_level_L4 : ∀ (least : Int) (from_ : Int) (most : Int) (o4 : Term) (left : Term) (t : List Token) (at_ : Int) (e : Int) (r : Term × List Token × Int × Int), g (I_expr_parser_expr.expr_parser_level_L4 least from_ most o4 left t at_ e) = some r → Ok (c_expr_parser_level (Trip Try.prog) [.d (.agg [(.int .i64 r.1.K), (.int .i64 r.1.N), (.str r.1.S), (.sl (List.map Term.toD r.1.L)), (.int .i64 r.1.From), (.int .i64 r.1.To)])] [[.d (.sl (List.map Token.toD r.2.1)), .d (.int .i64 r.2.2.1), .d (.int .i64 r.2.2.2)]]) (kL Try.f70 4) ⟨63, [(0, .hp 0 0), (1, .d (.int .i64 least)), (4, .ref 4 1 0), (5, .d (.int .i64 from_)), (6, .ref 6 1 0), (7, .d (.int .i64 most))], [(4, 1, some (.agg (.agg [(.int .i64 o4.K), (.int .i64 o4.N), (.str o4.S), (.sl (List.map Term.toD o4.L)), (.int .i64 o4.From), (.int .i64 o4.To)]))), (6, 1, some (.agg (.agg [(.int .i64 left.K), (.int .i64 left.N), (.str left.S), (.sl (List.map Term.toD left.L)), (.int .i64 left.From), (.int .i64 left.To)])))], [[.d (.sl (List.map Token.toD t)), .d (.int .i64 at_), .d (.int .i64 e)]], 0⟩ := fun least from_ most o4 left t at_ e r h => ih (.expr_parser_level_L4 least from_ most o4 left t at_ e) r h
    have ih_expr_parser_un : ∀ (t : List Token) (at_ : Int) (e : Int) (r : Term × List Token × Int × Int), g (I_expr_parser_expr.expr_parser_un t at_ e) = some r → Trip Try.prog 72 [.hp 0 0] [[.d (.sl (List.map Token.toD t)), .d (.int .i64 at_), .d (.int .i64 e)]] [.d (.agg [(.int .i64 r.1.K), (.int .i64 r.1.N), (.str r.1.S), (.sl (List.map Term.toD r.1.L)), (.int .i64 r.1.From), (.int .i64 r.1.To)])] [[.d (.sl (List.map Token.toD r.2.1)), .d (.int .i64 r.2.2.1), .d (.int .i64 r.2.2.2)]] := fun t at_ e r h => ih (.expr_parser_un t at_ e) r h
    intro r h
    show Trip Try.prog 70 [.hp 0 0, .d (.int .i64 least)] [[.d (.sl (List.map Token.toD t)), .d (.int .i64 at_), .d (.int .i64 e)]] [.d (.agg [(.int .i64 r.1.K), (.int .i64 r.1.N), (.str r.1.S), (.sl (List.map Term.toD r.1.L)), (.int .i64 r.1.From), (.int .i64 r.1.To)])] [[.d (.sl (List.map Token.toD r.2.1)), .d (.int .i64 r.2.2.1), .d (.int .i64 r.2.2.2)]]
    replace h : expr_parser_level_B (fun least from_ most o4 left t at_ e => g (I_expr_parser_expr.expr_parser_level_L4 least from_ most o4 left t at_ e)) (fun t at_ e => g (I_expr_parser_expr.expr_parser_un t at_ e)) least t at_ e = some r := h
    unfold expr_parser_level_B at h
    refine trip_ev 1000 (by kernel_rfl) (by kernel_rfl) (by kernel_rfl) (by kernel_rfl) (by kernel_rfl) (e_expr_parser_level _ _ least t at_ e _ _) ?_
    obtain ⟨q1, hq, h⟩ := w_bind h
    refine ⟨q1.1.K, q1.1.N, q1.1.S, List.map Term.toD q1.1.L, q1.1.From, q1.1.To, List.map Token.toD q1.2.1, q1.2.2.1, q1.2.2.2, ih_expr_parser_un _ _ _ _ hq, ?_⟩
    exact ih_expr_parser_level_L4 _ _ _ _ _ _ _ _ _ h
  | expr_parser_level_L4 least from_ most o4 left t at_ e =>
    have ih_expr_parser_level : ∀ (least : Int) (t : List Token) (at_ : Int) (e : Int) (r : Term × List Token × Int × Int), g (I_expr_parser_expr.expr_parser_level least t at_ e) = some r → Trip Try.prog 70 [.hp 0 0, .d (.int .i64 least)] [[.d (.sl (List.map Token.toD t)), .d (.int .i64 at_), .d (.int .i64 e)]] [.d (.agg [(.int .i64 r.1.K), (.int .i64 r.1.N), (.str r.1.S), (.sl (List.map Term.toD r.1.L)), (.int .i64 r.1.From), (.int .i64 r.1.To)])] [[.d (.sl (List.map Token.toD r.2.1)), .d (.int .i64 r.2.2.1), .d (.int .i64 r.2.2.2)]] := fun least t at_ e r h => ih (.expr_parser_level least t at_ e) r h
    have ih_expr_parser_level_L4 : ∀ (least : Int) (from_ : Int) (most : Int) (o4 : Term) (left : Term) (t : List Token) (at_ : Int) (e : Int) (r : Term × List Token × Int × Int), g (I_expr_parser_expr.expr_parser_level_L4 least from_ most o4 left t at_ e) = some r → Ok (c_expr_parser_level (Trip Try.prog) [.d (.agg [(.int .i64 r.1.K), (.int .i64 r.1.N), (.str r.1.S), (.sl (List.map Term.toD r.1.L)), (.int .i64 r.1.From), (.int .i64 r.1.To)])] [[.d (.sl (List.map Token.toD r.2.1)), .d (.int .i64 r.2.2.1), .d (.int .i64 r.2.2.2)]]) (kL Try.f70 4) ⟨63, [(0, .hp 0 0), (1, .d (.int .i64 least)), (4, .ref 4 1 0), (5, .d (.int .i64 from_)), (6, .ref 6 1 0), (7, .d (.int .i64 most))], [(4, 1, some (.agg (.agg [(.int .i64 o4.K), (.int .i64 o4.N), (.str o4.S), (.sl (List.map Term.toD o4.L)), (.int .i64 o4.From), (.int .i64 o4.To)]))), (6, 1, some (.agg (.agg [(.int .i64 left.K), (.int .i64 left.N), (.str left.S), (.sl (List.map Term.toD left.L)), (.int .i64 left.From), (.int .i64 left.To)])))], [[.d (.sl (List.map Token.toD t)), .d (.int .i64 at_), .d (.int .i64 e)]], 0⟩ := fun least from_ most o4 left t at_ e r h => ih (.expr_parser_level_L4 least from_ most o4 left t at_ e) r h
    intro r h
    show Ok (c_expr_parser_level (Trip Try.prog) [.d (.agg [(.int .i64 r.1.K), (.int .i64 r.1.N), (.str r.1.S), (.sl (List.map Term.toD r.1.L)), (.int .i64 r.1.From), (.int .i64 r.1.To)])] [[.d (.sl (List.map Token.toD r.2.1)), .d (.int .i64 r.2.2.1), .d (.int .i64 r.2.2.2)]]) (kL Try.f70 4) ⟨63, [(0, .hp 0 0), (1, .d (.int .i64 least)), (4, .ref 4 1 0), (5, .d (.int .i64 from_)), (6, .ref 6 1 0), (7, .d (.int .i64 most))], [(4, 1, some (.agg (.agg [(.int .i64 o4.K), (.int .i64 o4.N), (.str o4.S), (.sl (List.map Term.toD o4.L)), (.int .i64 o4.From), (.int .i64 o4.To)]))), (6, 1, some (.agg (.agg [(.int .i64 left.K), (.int .i64 left.N), (.str left.S), (.sl (List.map Term.toD left.L)), (.int .i64 left.From), (.int .i64 left.To)])))], [[.d (.sl (List.map Token.toD t)), .d (.int .i64 at_), .d (.int .i64 e)]], 0⟩
    replace h : expr_parser_level_L4_B (fun least t at_ e => g (I_expr_parser_expr.expr_parser_level least t at_ e)) (fun least from_ most o4 left t at_ e => g (I_expr_parser_expr.expr_parser_level_L4 least from_ most o4 left t at_ e)) least from_ most o4 left t at_ e = some r := h
    unfold expr_parser_level_L4_B at h
    refine ok_ev 1000 (e_expr_parser_level_L4 _ _ least from_ most o4 left t at_ e _ _) ?_
    rintro _ rfl
    refine w_condH beq_iff_eq h (fun hc38 h => ?_) (fun hc38 h => ?_)
    ·
      obtain ⟨q1, hq, h⟩ := w_bind h
      refine ⟨q1.K, q1.N, q1.S, q1.From, q1.To, T_expr_parser_now _ _ _ _ hq, ?_⟩
      obtain ⟨q2, hq, h⟩ := w_bind h
      refine ⟨q2.1, q2.2, ⟨_, T_expr_operator _ _ hq⟩, ?_⟩
      rintro _ rfl
      refine w_condH decide_eq_true_iff h (fun hc39 h => ?_) (fun hc39 h => ?_)
      ·
        cases h; exact ⟨rfl, rfl⟩
      ·
        rintro _ rfl
        refine w_condH beq_iff_eq h (fun hc40 h => ?_) (fun hc40 h => ?_)
        ·
          cases h; exact ⟨rfl, rfl⟩
        ·
          rintro _ rfl
          refine w_condH decide_eq_true_iff h (fun hc41 h => ?_) (fun hc41 h => ?_)
          ·
            cases h; exact ⟨rfl, rfl⟩
          ·
            rintro _ rfl
            rintro _ rfl
            obtain ⟨q3, hq, h⟩ := w_bind h
            refine ⟨q3.1.K, q3.1.N, q3.1.S, List.map Term.toD q3.1.L, q3.1.From, q3.1.To, List.map Token.toD q3.2.1, q3.2.2.1, q3.2.2.2, ih_expr_parser_level _ _ _ _ _ hq, ?_⟩
            obtain ⟨q4, hq, h⟩ := w_bind h
            have hT := T_expr_parser_made _ _ _ _ _ _ hq
            simp only [List.map_cons, List.map_nil, Term.toD_eq] at hT
            refine ⟨q4.K, q4.N, q4.S, List.map Term.toD q4.L, q4.From, q4.To, hT, ?_⟩
            rintro _ rfl
            refine w_condH beq_iff_eq h (fun hc42 h => ?_) (fun hc42 h => ?_)
            ·
              exact ih_expr_parser_level_L4 _ _ _ _ _ _ _ _ _ h
            ·
              exact ih_expr_parser_level_L4 _ _ _ _ _ _ _ _ _ h
    ·
      cases h; exact ⟨rfl, rfl⟩
  | expr_parser_un t at_ e =>
    have ih_expr_parser_un : ∀ (t : List Token) (at_ : Int) (e : Int) (r : Term × List Token × Int × Int), g (I_expr_parser_expr.expr_parser_un t at_ e) = some r → Trip Try.prog 72 [.hp 0 0] [[.d (.sl (List.map Token.toD t)), .d (.int .i64 at_), .d (.int .i64 e)]] [.d (.agg [(.int .i64 r.1.K), (.int .i64 r.1.N), (.str r.1.S), (.sl (List.map Term.toD r.1.L)), (.int .i64 r.1.From), (.int .i64 r.1.To)])] [[.d (.sl (List.map Token.toD r.2.1)), .d (.int .i64 r.2.2.1), .d (.int .i64 r.2.2.2)]] := fun t at_ e r h => ih (.expr_parser_un t at_ e) r h
    have ih_expr_parser_post : ∀ (t : List Token) (at_ : Int) (e : Int) (r : Term × List Token × Int × Int), g (I_expr_parser_expr.expr_parser_post t at_ e) = some r → Trip Try.prog 75 [.hp 0 0] [[.d (.sl (List.map Token.toD t)), .d (.int .i64 at_), .d (.int .i64 e)]] [.d (.agg [(.int .i64 r.1.K), (.int .i64 r.1.N), (.str r.1.S), (.sl (List.map Term.toD r.1.L)), (.int .i64 r.1.From), (.int .i64 r.1.To)])] [[.d (.sl (List.map Token.toD r.2.1)), .d (.int .i64 r.2.2.1), .d (.int .i64 r.2.2.2)]] := fun t at_ e r h => ih (.expr_parser_post t at_ e) r h
    intro r h
    show Trip Try.prog 72 [.hp 0 0] [[.d (.sl (List.map Token.toD t)), .d (.int .i64 at_), .d (.int .i64 e)]] [.d (.agg [(.int .i64 r.1.K), (.int .i64 r.1.N), (.str r.1.S), (.sl (List.map Term.toD r.1.L)), (.int .i64 r.1.From), (.int .i64 r.1.To)])] [[.d (.sl (List.map Token.toD r.2.1)), .d (.int .i64 r.2.2.1), .d (.int .i64 r.2.2.2)]]
    replace h : expr_parser_un_B (fun t at_ e => g (I_expr_parser_expr.expr_parser_un t at_ e)) (fun t at_ e => g (I_expr_parser_expr.expr_parser_post t at_ e)) t at_ e = some r := h
    unfold expr_parser_un_B at h
    refine trip_ev 1000 (by kernel_rfl) (by kernel_rfl) (by kernel_rfl) (by kernel_rfl) (by kernel_rfl) (e_expr_parser_un _ _ t at_ e _ _) ?_
    rintro _ rfl
    refine w_condN beq_iff_eq h (fun hc43 h => ?_) (fun hc43 h => ?_)
    ·
      obtain ⟨q1, hq, h⟩ := w_bind h
      refine ⟨q1, T_expr_parser_sign _ _ _ _ _ hq, ?_⟩
      refine w_condH Iff.rfl h (fun hc44 h => ?_) (fun hc44 h => ?_)
      ·
        rintro _ rfl
        refine w_condH beq_iff_eq h (fun hc45 h => ?_) (fun hc45 h => ?_)
        ·
          obtain ⟨q2, hq, h⟩ := w_bind h
          refine ⟨q2.1.K, q2.1.N, q2.1.S, List.map Term.toD q2.1.L, q2.1.From, q2.1.To, List.map Token.toD q2.2.1, q2.2.2.1, q2.2.2.2, ih_expr_parser_post _ _ _ _ hq, ?_⟩
          cases h; exact ⟨rfl, rfl⟩
        ·
          rintro _ rfl
          obtain ⟨q3, hq, h⟩ := w_bind h
          refine ⟨q3.1.K, q3.1.N, q3.1.S, List.map Term.toD q3.1.L, q3.1.From, q3.1.To, List.map Token.toD q3.2.1, q3.2.2.1, q3.2.2.2, ih_expr_parser_un _ _ _ _ hq, ?_⟩
          obtain ⟨q4, hq, h⟩ := w_bind h
          have hT := T_expr_parser_made _ _ _ _ _ _ hq
          simp only [List.map_cons, List.map_nil, Term.toD_eq] at hT
          refine ⟨q4.K, q4.N, q4.S, List.map Term.toD q4.L, q4.From, q4.To, hT, ?_⟩
          cases h; exact ⟨rfl, rfl⟩
      ·
        obtain ⟨q5, hq, h⟩ := w_bind h
        refine ⟨q5, T_expr_parser_sign _ _ _ _ _ hq, ?_⟩
        refine w_condH Iff.rfl h (fun hc46 h => ?_) (fun hc46 h => ?_)
        ·
          rintro _ rfl
          refine w_condH beq_iff_eq h (fun hc47 h => ?_) (fun hc47 h => ?_)
          ·
            obtain ⟨q6, hq, h⟩ := w_bind h
            refine ⟨q6.1.K, q6.1.N, q6.1.S, List.map Term.toD q6.1.L, q6.1.From, q6.1.To, List.map Token.toD q6.2.1, q6.2.2.1, q6.2.2.2, ih_expr_parser_post _ _ _ _ hq, ?_⟩
            cases h; exact ⟨rfl, rfl⟩
          ·
            rintro _ rfl
            obtain ⟨q7, hq, h⟩ := w_bind h
            refine ⟨q7.1.K, q7.1.N, q7.1.S, List.map Term.toD q7.1.L, q7.1.From, q7.1.To, List.map Token.toD q7.2.1, q7.2.2.1, q7.2.2.2, ih_expr_parser_un _ _ _ _ hq, ?_⟩
            obtain ⟨q8, hq, h⟩ := w_bind h
            have hT := T_expr_parser_made _ _ _ _ _ _ hq
            simp only [List.map_cons, List.map_nil, Term.toD_eq] at hT
            refine ⟨q8.K, q8.N, q8.S, List.map Term.toD q8.L, q8.From, q8.To, hT, ?_⟩
            cases h; exact ⟨rfl, rfl⟩
        ·
          rintro _ rfl
          refine w_condH beq_iff_eq h (fun hc48 h => ?_) (fun hc48 h => ?_)
          ·
            obtain ⟨q9, hq, h⟩ := w_bind h
            refine ⟨q9.1.K, q9.1.N, q9.1.S, List.map Term.toD q9.1.L, q9.1.From, q9.1.To, List.map Token.toD q9.2.1, q9.2.2.1, q9.2.2.2, ih_expr_parser_post _ _ _ _ hq, ?_⟩
            cases h; exact ⟨rfl, rfl⟩
          ·
            rintro _ rfl
            obtain ⟨q10, hq, h⟩ := w_bind h
            refine ⟨q10.1.K, q10.1.N, q10.1.S, List.map Term.toD q10.1.L, q10.1.From, q10.1.To, List.map Token.toD q10.2.1, q10.2.2.1, q10.2.2.2, ih_expr_parser_un _ _ _ _ hq, ?_⟩
            obtain ⟨q11, hq, h⟩ := w_bind h
            have hT := T_expr_parser_made _ _ _ _ _ _ hq
            simp only [List.map_cons, List.map_nil, Term.toD_eq] at hT
            refine ⟨q11.K, q11.N, q11.S, List.map Term.toD q11.L, q11.From, q11.To, hT, ?_⟩
            cases h; exact ⟨rfl, rfl⟩
    ·
      cases h; exact ⟨rfl, rfl⟩
  | expr_parser_post t at_ e =>
    have ih_expr_parser_post_L3 : ∀ (from_ : Int) (o2 : Term) (x : Term) (t : List Token) (at_ : Int) (e : Int) (r : Term × List Token × Int × Int), g (I_expr_parser_expr.expr_parser_post_L3 from_ o2 x t at_ e) = some r → Ok (c_expr_parser_post (Trip Try.prog) [.d (.agg [(.int .i64 r.1.K), (.int .i64 r.1.N), (.str r.1.S), (.sl (List.map Term.toD r.1.L)), (.int .i64 r.1.From), (.int .i64 r.1.To)])] [[.d (.sl (List.map Token.toD r.2.1)), .d (.int .i64 r.2.2.1), .d (.int .i64 r.2.2.2)]]) (kL Try.f75 3) ⟨57, [(0, .hp 0 0), (2, .ref 2 1 0), (3, .d (.int .i64 from_)), (4, .ref 4 1 0)], [(2, 1, some (.agg (.agg [(.int .i64 o2.K), (.int .i64 o2.N), (.str o2.S), (.sl (List.map Term.toD o2.L)), (.int .i64 o2.From), (.int .i64 o2.To)]))), (4, 1, some (.agg (.agg [(.int .i64 x.K), (.int .i64 x.N), (.str x.S), (.sl (List.map Term.toD x.L)), (.int .i64 x.From), (.int .i64 x.To)])))], [[.d (.sl (List.map Token.toD t)), .d (.int .i64 at_), .d (.int .i64 e)]], 0⟩ := fun from_ o2 x t at_ e r h => ih (.expr_parser_post_L3 from_ o2 x t at_ e) r h
    have ih_expr_parser_atom : ∀ (t : List Token) (at_ : Int) (e : Int) (r : Term × List Token × Int × Int), g (I_expr_parser_expr.expr_parser_atom t at_ e) = some r → Trip Try.prog 77 [.hp 0 0] [[.d (.sl (List.map Token.toD t)), .d (.int .i64 at_), .d (.int .i64 e)]] [.d (.agg [(.int .i64 r.1.K), (.int .i64 r.1.N), (.str r.1.S), (.sl (List.map Term.toD r.1.L)), (.int .i64 r.1.From), (.int .i64 r.1.To)])] [[.d (.sl (List.map Token.toD r.2.1)), .d (.int .i64 r.2.2.1), .d (.int .i64 r.2.2.2)]] := fun t at_ e r h => ih (.expr_parser_atom t at_ e) r h
    intro r h
    show Trip Try.prog 75 [.hp 0 0] [[.d (.sl (List.map Token.toD t)), .d (.int .i64 at_), .d (.int .i64 e)]] [.d (.agg [(.int .i64 r.1.K), (.int .i64 r.1.N), (.str r.1.S), (.sl (List.map Term.toD r.1.L)), (.int .i64 r.1.From), (.int .i64 r.1.To)])] [[.d (.sl (List.map Token.toD r.2.1)), .d (.int .i64 r.2.2.1), .d (.int .i64 r.2.2.2)]]
    replace h : expr_parser_post_B (fun from_ o2 x t at_ e => g (I_expr_parser_expr.expr_parser_post_L3 from_ o2 x t at_ e)) (fun t at_ e => g (I_expr_parser_expr.expr_parser_atom t at_ e)) t at_ e = some r := h
    unfold expr_parser_post_B at h
    refine trip_ev 1000 (by kernel_rfl) (by kernel_rfl) (by kernel_rfl) (by kernel_rfl) (by kernel_rfl) (e_expr_parser_post _ _ t at_ e _ _) ?_
    obtain ⟨q1, hq, h⟩ := w_bind h
    refine ⟨q1.1.K, q1.1.N, q1.1.S, List.map Term.toD q1.1.L, q1.1.From, q1.1.To, List.map Token.toD q1.2.1, q1.2.2.1, q1.2.2.2, ih_expr_parser_atom _ _ _ _ hq, ?_⟩
    exact ih_expr_parser_post_L3 _ _ _ _ _ _ _ h
  | expr_parser_post_L3 from_ o2 x t at_ e =>
    have ih_expr_parser_expr : ∀ (t : List Token) (at_ : Int) (e : Int) (r : Term × List Token × Int × Int), g (I_expr_parser_expr.expr_parser_expr t at_ e) = some r → Trip Try.prog 63 [.hp 0 0] [[.d (.sl (List.map Token.toD t)), .d (.int .i64 at_), .d (.int .i64 e)]] [.d (.agg [(.int .i64 r.1.K), (.int .i64 r.1.N), (.str r.1.S), (.sl (List.map Term.toD r.1.L)), (.int .i64 r.1.From), (.int .i64 r.1.To)])] [[.d (.sl (List.map Token.toD r.2.1)), .d (.int .i64 r.2.2.1), .d (.int .i64 r.2.2.2)]] := fun t at_ e r h => ih (.expr_parser_expr t at_ e) r h
    have ih_expr_parser_post_L3 : ∀ (from_ : Int) (o2 : Term) (x : Term) (t : List Token) (at_ : Int) (e : Int) (r : Term × List Token × Int × Int), g (I_expr_parser_expr.expr_parser_post_L3 from_ o2 x t at_ e) = some r → Ok (c_expr_parser_post (Trip Try.prog) [.d (.agg [(.int .i64 r.1.K), (.int .i64 r.1.N), (.str r.1.S), (.sl (List.map Term.toD r.1.L)), (.int .i64 r.1.From), (.int .i64 r.1.To)])] [[.d (.sl (List.map Token.toD r.2.1)), .d (.int .i64 r.2.2.1), .d (.int .i64 r.2.2.2)]]) (kL Try.f75 3) ⟨57, [(0, .hp 0 0), (2, .ref 2 1 0), (3, .d (.int .i64 from_)), (4, .ref 4 1 0)], [(2, 1, some (.agg (.agg [(.int .i64 o2.K), (.int .i64 o2.N), (.str o2.S), (.sl (List.map Term.toD o2.L)), (.int .i64 o2.From), (.int .i64 o2.To)]))), (4, 1, some (.agg (.agg [(.int .i64 x.K), (.int .i64 x.N), (.str x.S), (.sl (List.map Term.toD x.L)), (.int .i64 x.From), (.int .i64 x.To)])))], [[.d (.sl (List.map Token.toD t)), .d (.int .i64 at_), .d (.int .i64 e)]], 0⟩ := fun from_ o2 x t at_ e r h => ih (.expr_parser_post_L3 from_ o2 x t at_ e) r h
    intro r h
    show Ok (c_expr_parser_post (Trip Try.prog) [.d (.agg [(.int .i64 r.1.K), (.int .i64 r.1.N), (.str r.1.S), (.sl (List.map Term.toD r.1.L)), (.int .i64 r.1.From), (.int .i64 r.1.To)])] [[.d (.sl (List.map Token.toD r.2.1)), .d (.int .i64 r.2.2.1), .d (.int .i64 r.2.2.2)]]) (kL Try.f75 3) ⟨57, [(0, .hp 0 0), (2, .ref 2 1 0), (3, .d (.int .i64 from_)), (4, .ref 4 1 0)], [(2, 1, some (.agg (.agg [(.int .i64 o2.K), (.int .i64 o2.N), (.str o2.S), (.sl (List.map Term.toD o2.L)), (.int .i64 o2.From), (.int .i64 o2.To)]))), (4, 1, some (.agg (.agg [(.int .i64 x.K), (.int .i64 x.N), (.str x.S), (.sl (List.map Term.toD x.L)), (.int .i64 x.From), (.int .i64 x.To)])))], [[.d (.sl (List.map Token.toD t)), .d (.int .i64 at_), .d (.int .i64 e)]], 0⟩
    replace h : expr_parser_post_L3_B (fun t at_ e => g (I_expr_parser_expr.expr_parser_expr t at_ e)) (fun from_ o2 x t at_ e => g (I_expr_parser_expr.expr_parser_post_L3 from_ o2 x t at_ e)) from_ o2 x t at_ e = some r := h
    unfold expr_parser_post_L3_B at h
    refine ok_ev 1000 (e_expr_parser_post_L3 _ _ from_ o2 x t at_ e _ _) ?_
    rintro _ rfl
    refine w_condH beq_iff_eq h (fun hc49 h => ?_) (fun hc49 h => ?_)
    ·
      obtain ⟨q1, hq, h⟩ := w_bind h
      refine ⟨q1, T_expr_parser_sign _ _ _ _ _ hq, ?_⟩
      refine w_condH Iff.rfl h (fun hc50 h => ?_) (fun hc50 h => ?_)
      ·
        rintro _ rfl
        obtain ⟨q2, hq, h⟩ := w_bind h
        refine ⟨q2.1.K, q2.1.N, q2.1.S, List.map Term.toD q2.1.L, q2.1.From, q2.1.To, List.map Token.toD q2.2.1, q2.2.2.1, q2.2.2.2, ih_expr_parser_expr _ _ _ _ hq, ?_⟩
        obtain ⟨q3, hq, h⟩ := w_bind h
        refine ⟨List.map Token.toD q3.1, q3.2.1, q3.2.2, T_expr_parser_need _ _ _ _ _ hq, ?_⟩
        obtain ⟨q4, hq, h⟩ := w_bind h
        have hT := T_expr_parser_made _ _ _ _ _ _ hq
        simp only [List.map_cons, List.map_nil, Term.toD_eq] at hT
        refine ⟨q4.K, q4.N, q4.S, List.map Term.toD q4.L, q4.From, q4.To, hT, ?_⟩
        exact ih_expr_parser_post_L3 _ _ _ _ _ _ _ h
      ·
        obtain ⟨q5, hq, h⟩ := w_bind h
        refine ⟨q5, T_expr_parser_sign _ _ _ _ _ hq, ?_⟩
        refine w_condH Iff.rfl h (fun hc51 h => ?_) (fun hc51 h => ?_)
        ·
          rintro _ rfl
          obtain ⟨q6, hq, h⟩ := w_bind h
          refine ⟨q6.1, List.map Token.toD q6.2.1, q6.2.2.1, q6.2.2.2, T_expr_parser_name _ _ _ _ hq, ?_⟩
          obtain ⟨q7, hq, h⟩ := w_bind h
          have hT := T_expr_parser_made _ _ _ _ _ _ hq
          simp only [List.map_cons, List.map_nil, Term.toD_eq] at hT
          refine ⟨q7.K, q7.N, q7.S, List.map Term.toD q7.L, q7.From, q7.To, hT, ?_⟩
          exact ih_expr_parser_post_L3 _ _ _ _ _ _ _ h
        ·
          cases h; exact ⟨rfl, rfl⟩
    ·
      cases h; exact ⟨rfl, rfl⟩
  | expr_parser_atom t at_ e =>
    have ih_expr_parser_args : ∀ (few : Bool) (t : List Token) (at_ : Int) (e : Int) (r : List Term × List Token × Int × Int), g (I_expr_parser_expr.expr_parser_args few t at_ e) = some r → Trip Try.prog 79 [.hp 0 0, .d (.bool few)] [[.d (.sl (List.map Token.toD t)), .d (.int .i64 at_), .d (.int .i64 e)]] [.d (.sl (List.map Term.toD r.1))] [[.d (.sl (List.map Token.toD r.2.1)), .d (.int .i64 r.2.2.1), .d (.int .i64 r.2.2.2)]] := fun few t at_ e r h => ih (.expr_parser_args few t at_ e) r h
    have ih_expr_parser_word : ∀ (s : Str) (from_ : Int) (t : List Token) (at_ : Int) (e : Int) (r : Term × List Token × Int × Int), g (I_expr_parser_expr.expr_parser_word s from_ t at_ e) = some r → Trip Try.prog 80 [.hp 0 0, .d (.str s), .d (.int .i64 from_)] [[.d (.sl (List.map Token.toD t)), .d (.int .i64 at_), .d (.int .i64 e)]] [.d (.agg [(.int .i64 r.1.K), (.int .i64 r.1.N), (.str r.1.S), (.sl (List.map Term.toD r.1.L)), (.int .i64 r.1.From), (.int .i64 r.1.To)])] [[.d (.sl (List.map Token.toD r.2.1)), .d (.int .i64 r.2.2.1), .d (.int .i64 r.2.2.2)]] := fun s from_ t at_ e r h => ih (.expr_parser_word s from_ t at_ e) r h
    have ih_expr_parser_bracket : ∀ (s : Str) (from_ : Int) (t : List Token) (at_ : Int) (e : Int) (r : Term × List Token × Int × Int), g (I_expr_parser_expr.expr_parser_bracket s from_ t at_ e) = some r → Trip Try.prog 81 [.hp 0 0, .d (.str s), .d (.int .i64 from_)] [[.d (.sl (List.map Token.toD t)), .d (.int .i64 at_), .d (.int .i64 e)]] [.d (.agg [(.int .i64 r.1.K), (.int .i64 r.1.N), (.str r.1.S), (.sl (List.map Term.toD r.1.L)), (.int .i64 r.1.From), (.int .i64 r.1.To)])] [[.d (.sl (List.map Token.toD r.2.1)), .d (.int .i64 r.2.2.1), .d (.int .i64 r.2.2.2)]] := fun s from_ t at_ e r h => ih (.expr_parser_bracket s from_ t at_ e) r h
    intro r h
    show Trip Try.prog 77 [.hp 0 0] [[.d (.sl (List.map Token.toD t)), .d (.int .i64 at_), .d (.int .i64 e)]] [.d (.agg [(.int .i64 r.1.K), (.int .i64 r.1.N), (.str r.1.S), (.sl (List.map Term.toD r.1.L)), (.int .i64 r.1.From), (.int .i64 r.1.To)])] [[.d (.sl (List.map Token.toD r.2.1)), .d (.int .i64 r.2.2.1), .d (.int .i64 r.2.2.2)]]
    replace h : expr_parser_atom_B (fun few t at_ e => g (I_expr_parser_expr.expr_parser_args few t at_ e)) (fun s from_ t at_ e => g (I_expr_parser_expr.expr_parser_word s from_ t at_ e)) (fun s from_ t at_ e => g (I_expr_parser_expr.expr_parser_bracket s from_ t at_ e)) t at_ e = some r := h
    unfold expr_parser_atom_B at h
    refine trip_ev 1000 (by kernel_rfl) (by kernel_rfl) (by kernel_rfl) (by kernel_rfl) (by kernel_rfl) (e_expr_parser_atom _ _ t at_ e _ _) ?_
    rintro _ rfl
    refine w_condN beq_iff_eq h (fun hc52 h => ?_) (fun hc52 h => ?_)
    ·
      obtain ⟨q1, hq, h⟩ := w_bind h
      refine ⟨q1.K, q1.N, q1.S, q1.From, q1.To, T_expr_parser_now _ _ _ _ hq, ?_⟩
      rintro _ rfl
      refine w_condH beq_iff_eq h (fun hc53 h => ?_) (fun hc53 h => ?_)
      ·
        rintro _ rfl
        obtain ⟨q2, hq, h⟩ := w_bind h
        refine ⟨q2.K, q2.N, q2.S, List.map Term.toD q2.L, q2.From, q2.To, T_expr_parser_made _ _ _ _ _ _ hq, ?_⟩
        cases h; exact ⟨rfl, rfl⟩
      ·
        rintro _ rfl
        refine w_condH beq_iff_eq h (fun hc54 h => ?_) (fun hc54 h => ?_)
        ·
          rintro _ rfl
          obtain ⟨q3, hq, h⟩ := w_bind h
          refine ⟨q3, T_expr_parser_sign _ _ _ _ _ hq, ?_⟩
          refine w_condH Iff.rfl h (fun hc55 h => ?_) (fun hc55 h => ?_)
          ·
            obtain ⟨q4, hq, h⟩ := w_bind h
            refine ⟨List.map Term.toD q4.1, List.map Token.toD q4.2.1, q4.2.2.1, q4.2.2.2, ih_expr_parser_args _ _ _ _ _ hq, ?_⟩
            obtain ⟨q5, hq, h⟩ := w_bind h
            refine ⟨q5.K, q5.N, q5.S, List.map Term.toD q5.L, q5.From, q5.To, T_expr_parser_made _ _ _ _ _ _ hq, ?_⟩
            cases h; exact ⟨rfl, rfl⟩
          ·
            obtain ⟨q6, hq, h⟩ := w_bind h
            refine ⟨q6.K, q6.N, q6.S, List.map Term.toD q6.L, q6.From, q6.To, T_expr_parser_made _ _ _ _ _ _ hq, ?_⟩
            cases h; exact ⟨rfl, rfl⟩
        ·
          rintro _ rfl
          refine w_condH beq_iff_eq h (fun hc56 h => ?_) (fun hc56 h => ?_)
          ·
            obtain ⟨q7, hq, h⟩ := w_bind h
            refine ⟨q7.1.K, q7.1.N, q7.1.S, List.map Term.toD q7.1.L, q7.1.From, q7.1.To, List.map Token.toD q7.2.1, q7.2.2.1, q7.2.2.2, ih_expr_parser_word _ _ _ _ _ _ hq, ?_⟩
            cases h; exact ⟨rfl, rfl⟩
          ·
            rintro _ rfl
            refine w_condH beq_iff_eq h (fun hc57 h => ?_) (fun hc57 h => ?_)
            ·
              obtain ⟨q8, hq, h⟩ := w_bind h
              refine ⟨q8.1.K, q8.1.N, q8.1.S, List.map Term.toD q8.1.L, q8.1.From, q8.1.To, List.map Token.toD q8.2.1, q8.2.2.1, q8.2.2.2, ih_expr_parser_bracket _ _ _ _ _ _ hq, ?_⟩
              cases h; exact ⟨rfl, rfl⟩
            ·
              obtain ⟨q9, hq, h⟩ := w_bind h
              refine ⟨List.map Token.toD q9.1, q9.2.1, q9.2.2, T_expr_parser_fail _ _ _ _ hq, ?_⟩
              cases h; exact ⟨rfl, rfl⟩
    ·
      cases h; exact ⟨rfl, rfl⟩
  | expr_parser_args few t at_ e =>
    have ih_expr_parser_list_parser_expr : ∀ (t : List Token) (at_ : Int) (e : Int) (r : List Term × List Token × Int × Int), g (I_expr_parser_expr.expr_parser_list_parser_expr t at_ e) = some r → Trip Try.prog 82 [.hp 0 0, .fn 63 [.hp 0 0] []] [[.d (.sl (List.map Token.toD t)), .d (.int .i64 at_), .d (.int .i64 e)]] [.d (.sl (List.map Term.toD r.1))] [[.d (.sl (List.map Token.toD r.2.1)), .d (.int .i64 r.2.2.1), .d (.int .i64 r.2.2.2)]] := fun t at_ e r h => ih (.expr_parser_list_parser_expr t at_ e) r h
    intro r h
    show Trip Try.prog 79 [.hp 0 0, .d (.bool few)] [[.d (.sl (List.map Token.toD t)), .d (.int .i64 at_), .d (.int .i64 e)]] [.d (.sl (List.map Term.toD r.1))] [[.d (.sl (List.map Token.toD r.2.1)), .d (.int .i64 r.2.2.1), .d (.int .i64 r.2.2.2)]]
    replace h : expr_parser_args_B (fun t at_ e => g (I_expr_parser_expr.expr_parser_list_parser_expr t at_ e)) few t at_ e = some r := h
    unfold expr_parser_args_B at h
    refine trip_ev 1000 (by kernel_rfl) (by kernel_rfl) (by kernel_rfl) (by kernel_rfl) (by kernel_rfl) (e_expr_parser_args _ _ few t at_ e _ _) ?_
    obtain ⟨q1, hq, h⟩ := w_bind h
    refine ⟨List.map Token.toD q1.1, q1.2.1, q1.2.2, T_expr_parser_need _ _ _ _ _ hq, ?_⟩
    rintro _ rfl
    refine w_condH beq_iff_eq h (fun hc58 h => ?_) (fun hc58 h => ?_)
    ·
      refine w_condH Iff.rfl h (fun hc59 h => ?_) (fun hc59 h => ?_)
      ·
        obtain ⟨q2, hq, h⟩ := w_bind h
        refine ⟨q2, T_expr_parser_sign _ _ _ _ _ hq, ?_⟩
        refine w_condH Iff.rfl h (fun hc60 h => ?_) (fun hc60 h => ?_)
        ·
          rintro _ rfl
          cases h; exact ⟨rfl, rfl⟩
        ·
          obtain ⟨q3, hq, h⟩ := w_bind h
          refine ⟨List.map Term.toD q3.1, List.map Token.toD q3.2.1, q3.2.2.1, q3.2.2.2, ih_expr_parser_list_parser_expr _ _ _ _ hq, ?_⟩
          obtain ⟨q4, hq, h⟩ := w_bind h
          refine ⟨List.map Token.toD q4.1, q4.2.1, q4.2.2, T_expr_parser_need _ _ _ _ _ hq, ?_⟩
          cases h; exact ⟨rfl, rfl⟩
      ·
        obtain ⟨q5, hq, h⟩ := w_bind h
        refine ⟨List.map Term.toD q5.1, List.map Token.toD q5.2.1, q5.2.2.1, q5.2.2.2, ih_expr_parser_list_parser_expr _ _ _ _ hq, ?_⟩
        obtain ⟨q6, hq, h⟩ := w_bind h
        refine ⟨List.map Token.toD q6.1, q6.2.1, q6.2.2, T_expr_parser_need _ _ _ _ _ hq, ?_⟩
        cases h; exact ⟨rfl, rfl⟩
    ·
      obtain ⟨q7, hq, h⟩ := w_bind h
      refine ⟨List.map Term.toD q7.1, List.map Token.toD q7.2.1, q7.2.2.1, q7.2.2.2, ih_expr_parser_list_parser_expr _ _ _ _ hq, ?_⟩
      obtain ⟨q8, hq, h⟩ := w_bind h
      refine ⟨List.map Token.toD q8.1, q8.2.1, q8.2.2, T_expr_parser_need _ _ _ _ _ hq, ?_⟩
      cases h; exact ⟨rfl, rfl⟩
  | expr_parser_word s from_ t at_ e =>
    have ih_expr_parser_args : ∀ (few : Bool) (t : List Token) (at_ : Int) (e : Int) (r : List Term × List Token × Int × Int), g (I_expr_parser_expr.expr_parser_args few t at_ e) = some r → Trip Try.prog 79 [.hp 0 0, .d (.bool few)] [[.d (.sl (List.map Token.toD t)), .d (.int .i64 at_), .d (.int .i64 e)]] [.d (.sl (List.map Term.toD r.1))] [[.d (.sl (List.map Token.toD r.2.1)), .d (.int .i64 r.2.2.1), .d (.int .i64 r.2.2.2)]] := fun few t at_ e r h => ih (.expr_parser_args few t at_ e) r h
    intro r h
    show Trip Try.prog 80 [.hp 0 0, .d (.str s), .d (.int .i64 from_)] [[.d (.sl (List.map Token.toD t)), .d (.int .i64 at_), .d (.int .i64 e)]] [.d (.agg [(.int .i64 r.1.K), (.int .i64 r.1.N), (.str r.1.S), (.sl (List.map Term.toD r.1.L)), (.int .i64 r.1.From), (.int .i64 r.1.To)])] [[.d (.sl (List.map Token.toD r.2.1)), .d (.int .i64 r.2.2.1), .d (.int .i64 r.2.2.2)]]
    replace h : expr_parser_word_B (fun few t at_ e => g (I_expr_parser_expr.expr_parser_args few t at_ e)) s from_ t at_ e = some r := h
    unfold expr_parser_word_B at h
    refine trip_ev 1000 (by kernel_rfl) (by kernel_rfl) (by kernel_rfl) (by kernel_rfl) (by kernel_rfl) (e_expr_parser_word _ _ s from_ t at_ e _ _) ?_
    rintro _ rfl
    rintro _ rfl
    refine w_condH beq_iff_eq h (fun hc61 h => ?_) (fun hc61 h => ?_)
    ·
      obtain ⟨q1, hq, h⟩ := w_bind h
      refine ⟨q1.K, q1.N, q1.S, List.map Term.toD q1.L, q1.From, q1.To, T_expr_parser_made _ _ _ _ _ _ hq, ?_⟩
      cases h; exact ⟨rfl, rfl⟩
    ·
      rintro _ rfl
      refine w_condH beq_iff_eq h (fun hc62 h => ?_) (fun hc62 h => ?_)
      ·
        obtain ⟨q2, hq, h⟩ := w_bind h
        refine ⟨q2.K, q2.N, q2.S, List.map Term.toD q2.L, q2.From, q2.To, T_expr_parser_made _ _ _ _ _ _ hq, ?_⟩
        cases h; exact ⟨rfl, rfl⟩
      ·
        rintro _ rfl
        refine w_condH beq_iff_eq h (fun hc63 h => ?_) (fun hc63 h => ?_)
        ·
          obtain ⟨q3, hq, h⟩ := w_bind h
          refine ⟨q3.K, q3.N, q3.S, List.map Term.toD q3.L, q3.From, q3.To, T_expr_parser_made _ _ _ _ _ _ hq, ?_⟩
          cases h; exact ⟨rfl, rfl⟩
        ·
          rintro _ rfl
          refine w_condH beq_iff_eq h (fun hc64 h => ?_) (fun hc64 h => ?_)
          ·
            obtain ⟨q4, hq, h⟩ := w_bind h
            refine ⟨q4.1, List.map Token.toD q4.2.1, q4.2.2.1, q4.2.2.2, T_expr_parser_name _ _ _ _ hq, ?_⟩
            obtain ⟨q5, hq, h⟩ := w_bind h
            refine ⟨List.map Term.toD q5.1, List.map Token.toD q5.2.1, q5.2.2.1, q5.2.2.2, ih_expr_parser_args _ _ _ _ _ hq, ?_⟩
            obtain ⟨q6, hq, h⟩ := w_bind h
            refine ⟨q6.K, q6.N, q6.S, List.map Term.toD q6.L, q6.From, q6.To, T_expr_parser_made _ _ _ _ _ _ hq, ?_⟩
            cases h; exact ⟨rfl, rfl⟩
          ·
            rintro _ rfl
            obtain ⟨q7, hq, h⟩ := w_bind h
            refine ⟨List.map Token.toD q7.1, q7.2.1, q7.2.2, T_expr_parser_fail _ _ _ _ hq, ?_⟩
            cases h; exact ⟨rfl, rfl⟩
  | expr_parser_bracket s from_ t at_ e =>
    have ih_expr_parser_expr : ∀ (t : List Token) (at_ : Int) (e : Int) (r : Term × List Token × Int × Int), g (I_expr_parser_expr.expr_parser_expr t at_ e) = some r → Trip Try.prog 63 [.hp 0 0] [[.d (.sl (List.map Token.toD t)), .d (.int .i64 at_), .d (.int .i64 e)]] [.d (.agg [(.int .i64 r.1.K), (.int .i64 r.1.N), (.str r.1.S), (.sl (List.map Term.toD r.1.L)), (.int .i64 r.1.From), (.int .i64 r.1.To)])] [[.d (.sl (List.map Token.toD r.2.1)), .d (.int .i64 r.2.2.1), .d (.int .i64 r.2.2.2)]] := fun t at_ e r h => ih (.expr_parser_expr t at_ e) r h
    have ih_expr_parser_args : ∀ (few : Bool) (t : List Token) (at_ : Int) (e : Int) (r : List Term × List Token × Int × Int), g (I_expr_parser_expr.expr_parser_args few t at_ e) = some r → Trip Try.prog 79 [.hp 0 0, .d (.bool few)] [[.d (.sl (List.map Token.toD t)), .d (.int .i64 at_), .d (.int .i64 e)]] [.d (.sl (List.map Term.toD r.1))] [[.d (.sl (List.map Token.toD r.2.1)), .d (.int .i64 r.2.2.1), .d (.int .i64 r.2.2.2)]] := fun few t at_ e r h => ih (.expr_parser_args few t at_ e) r h
    have ih_expr_parser_list_parser_expr : ∀ (t : List Token) (at_ : Int) (e : Int) (r : List Term × List Token × Int × Int), g (I_expr_parser_expr.expr_parser_list_parser_expr t at_ e) = some r → Trip Try.prog 82 [.hp 0 0, .fn 63 [.hp 0 0] []] [[.d (.sl (List.map Token.toD t)), .d (.int .i64 at_), .d (.int .i64 e)]] [.d (.sl (List.map Term.toD r.1))] [[.d (.sl (List.map Token.toD r.2.1)), .d (.int .i64 r.2.2.1), .d (.int .i64 r.2.2.2)]] := fun t at_ e r h => ih (.expr_parser_list_parser_expr t at_ e) r h
    intro r h
    show Trip Try.prog 81 [.hp 0 0, .d (.str s), .d (.int .i64 from_)] [[.d (.sl (List.map Token.toD t)), .d (.int .i64 at_), .d (.int .i64 e)]] [.d (.agg [(.int .i64 r.1.K), (.int .i64 r.1.N), (.str r.1.S), (.sl (List.map Term.toD r.1.L)), (.int .i64 r.1.From), (.int .i64 r.1.To)])] [[.d (.sl (List.map Token.toD r.2.1)), .d (.int .i64 r.2.2.1), .d (.int .i64 r.2.2.2)]]
    replace h : expr_parser_bracket_B (fun t at_ e => g (I_expr_parser_expr.expr_parser_expr t at_ e)) (fun few t at_ e => g (I_expr_parser_expr.expr_parser_args few t at_ e)) (fun t at_ e => g (I_expr_parser_expr.expr_parser_list_parser_expr t at_ e)) s from_ t at_ e = some r := h
    unfold expr_parser_bracket_B at h
    refine trip_ev 1000 (by kernel_rfl) (by kernel_rfl) (by kernel_rfl) (by kernel_rfl) (by kernel_rfl) (e_expr_parser_bracket _ _ s from_ t at_ e _ _) ?_
    rintro _ rfl
    rintro _ rfl
    refine w_condH beq_iff_eq h (fun hc65 h => ?_) (fun hc65 h => ?_)
    ·
      obtain ⟨q1, hq, h⟩ := w_bind h
      refine ⟨q1.1.K, q1.1.N, q1.1.S, List.map Term.toD q1.1.L, q1.1.From, q1.1.To, List.map Token.toD q1.2.1, q1.2.2.1, q1.2.2.2, ih_expr_parser_expr _ _ _ _ hq, ?_⟩
      obtain ⟨q2, hq, h⟩ := w_bind h
      refine ⟨List.map Token.toD q2.1, q2.2.1, q2.2.2, T_expr_parser_need _ _ _ _ _ hq, ?_⟩
      cases h; exact ⟨rfl, rfl⟩
    ·
      rintro _ rfl
      refine w_condH beq_iff_eq h (fun hc66 h => ?_) (fun hc66 h => ?_)
      ·
        obtain ⟨q3, hq, h⟩ := w_bind h
        refine ⟨List.map Term.toD q3.1, List.map Token.toD q3.2.1, q3.2.2.1, q3.2.2.2, ih_expr_parser_list_parser_expr _ _ _ _ hq, ?_⟩
        obtain ⟨q4, hq, h⟩ := w_bind h
        refine ⟨List.map Token.toD q4.1, q4.2.1, q4.2.2, T_expr_parser_need _ _ _ _ _ hq, ?_⟩
        obtain ⟨q5, hq, h⟩ := w_bind h
        refine ⟨q5.K, q5.N, q5.S, List.map Term.toD q5.L, q5.From, q5.To, T_expr_parser_made _ _ _ _ _ _ hq, ?_⟩
        cases h; exact ⟨rfl, rfl⟩
      ·
        rintro _ rfl
        refine w_condH beq_iff_eq h (fun hc67 h => ?_) (fun hc67 h => ?_)
        ·
          obtain ⟨q6, hq, h⟩ := w_bind h
          refine ⟨q6.1, List.map Token.toD q6.2.1, q6.2.2.1, q6.2.2.2, T_expr_parser_name _ _ _ _ hq, ?_⟩
          obtain ⟨q7, hq, h⟩ := w_bind h
          refine ⟨List.map Term.toD q7.1, List.map Token.toD q7.2.1, q7.2.2.1, q7.2.2.2, ih_expr_parser_args _ _ _ _ _ hq, ?_⟩
          obtain ⟨q8, hq, h⟩ := w_bind h
          refine ⟨q8.K, q8.N, q8.S, List.map Term.toD q8.L, q8.From, q8.To, T_expr_parser_made _ _ _ _ _ _ hq, ?_⟩
          cases h; exact ⟨rfl, rfl⟩
        ·
          rintro _ rfl
          obtain ⟨q9, hq, h⟩ := w_bind h
          refine ⟨List.map Token.toD q9.1, q9.2.1, q9.2.2, T_expr_parser_fail _ _ _ _ hq, ?_⟩
          cases h; exact ⟨rfl, rfl⟩
  | expr_parser_list_parser_expr t at_ e =>
    have ih_expr_parser_expr : ∀ (t : List Token) (at_ : Int) (e : Int) (r : Term × List Token × Int × Int), g (I_expr_parser_expr.expr_parser_expr t at_ e) = some r → Trip Try.prog 63 [.hp 0 0] [[.d (.sl (List.map Token.toD t)), .d (.int .i64 at_), .d (.int .i64 e)]] [.d (.agg [(.int .i64 r.1.K), (.int .i64 r.1.N), (.str r.1.S), (.sl (List.map Term.toD r.1.L)), (.int .i64 r.1.From), (.int .i64 r.1.To)])] [[.d (.sl (List.map Token.toD r.2.1)), .d (.int .i64 r.2.2.1), .d (.int .i64 r.2.2.2)]] := fun t at_ e r h => ih (.expr_parser_expr t at_ e) r h
    have ih_expr_parser_list_parser_expr_L2 : ∀ (out : List Term) (t : List Token) (at_ : Int) (e : Int) (r : List Term × List Token × Int × Int), g (I_expr_parser_expr.expr_parser_list_parser_expr_L2 out t at_ e) = some r → Ok (c_expr_parser_list_parser_expr (Trip Try.prog) [.d (.sl (List.map Term.toD r.1))] [[.d (.sl (List.map Token.toD r.2.1)), .d (.int .i64 r.2.2.1), .d (.int .i64 r.2.2.2)]]) (kL Try.f82 2) ⟨31, [(0, .hp 0 0), (1, .fn 63 [.hp 0 0] []), (5, .right 8 1 6 (List.map Term.toD out))], [(8, 1, some (.tok 6 (List.length (List.map Term.toD out))))], [[.d (.sl (List.map Token.toD t)), .d (.int .i64 at_), .d (.int .i64 e)]], 0⟩ := fun out t at_ e r h => ih (.expr_parser_list_parser_expr_L2 out t at_ e) r h
    intro r h
    show Trip Try.prog 82 [.hp 0 0, .fn 63 [.hp 0 0] []] [[.d (.sl (List.map Token.toD t)), .d (.int .i64 at_), .d (.int .i64 e)]] [.d (.sl (List.map Term.toD r.1))] [[.d (.sl (List.map Token.toD r.2.1)), .d (.int .i64 r.2.2.1), .d (.int .i64 r.2.2.2)]]
    replace h : expr_parser_list_parser_expr_B (fun t at_ e => g (I_expr_parser_expr.expr_parser_expr t at_ e)) (fun out t at_ e => g (I_expr_parser_expr.expr_parser_list_parser_expr_L2 out t at_ e)) t at_ e = some r := h
    unfold expr_parser_list_parser_expr_B at h
    refine trip_ev 1000 (by kernel_rfl) (by kernel_rfl) (by kernel_rfl) (by kernel_rfl) (by kernel_rfl) (e_expr_parser_list_parser_expr _ _ t at_ e _ _) ?_
    obtain ⟨q1, hq, h⟩ := w_bind h
    refine ⟨q1.1.K, q1.1.N, q1.1.S, List.map Term.toD q1.1.L, q1.1.From, q1.1.To, List.map Token.toD q1.2.1, q1.2.2.1, q1.2.2.2, ih_expr_parser_expr _ _ _ _ hq, ?_⟩
    have hT := ih_expr_parser_list_parser_expr_L2 _ _ _ _ _ h
    simp only [List.map_cons, List.map_nil, List.length_cons, List.length_nil, Term.toD_eq] at hT
    exact hT
  | expr_parser_list_parser_expr_L2 out t at_ e =>
    have ih_expr_parser_expr : ∀ (t : List Token) (at_ : Int) (e : Int) (r : Term × List Token × Int × Int), g (I_expr_parser_expr.expr_parser_expr t at_ e) = some r → Trip Try.prog 63 [.hp 0 0] [[.d (.sl (List.map Token.toD t)), .d (.int .i64 at_), .d (.int .i64 e)]] [.d (.agg [(.int .i64 r.1.K), (.int .i64 r.1.N), (.str r.1.S), (.sl (List.map Term.toD r.1.L)), (.int .i64 r.1.From), (.int .i64 r.1.To)])] [[.d (.sl (List.map Token.toD r.2.1)), .d (.int .i64 r.2.2.1), .d (.int .i64 r.2.2.2)]] := fun t at_ e r h => ih (.expr_parser_expr t at_ e) r h
    have ih_expr_parser_list_parser_expr_L2 : ∀ (out : List Term) (t : List Token) (at_ : Int) (e : Int) (r : List Term × List Token × Int × Int), g (I_expr_parser_expr.expr_parser_list_parser_expr_L2 out t at_ e) = some r → Ok (c_expr_parser_list_parser_expr (Trip Try.prog) [.d (.sl (List.map Term.toD r.1))] [[.d (.sl (List.map Token.toD r.2.1)), .d (.int .i64 r.2.2.1), .d (.int .i64 r.2.2.2)]]) (kL Try.f82 2) ⟨31, [(0, .hp 0 0), (1, .fn 63 [.hp 0 0] []), (5, .right 8 1 6 (List.map Term.toD out))], [(8, 1, some (.tok 6 (List.length (List.map Term.toD out))))], [[.d (.sl (List.map Token.toD t)), .d (.int .i64 at_), .d (.int .i64 e)]], 0⟩ := fun out t at_ e r h => ih (.expr_parser_list_parser_expr_L2 out t at_ e) r h
    intro r h
    show Ok (c_expr_parser_list_parser_expr (Trip Try.prog) [.d (.sl (List.map Term.toD r.1))] [[.d (.sl (List.map Token.toD r.2.1)), .d (.int .i64 r.2.2.1), .d (.int .i64 r.2.2.2)]]) (kL Try.f82 2) ⟨31, [(0, .hp 0 0), (1, .fn 63 [.hp 0 0] []), (5, .right 8 1 6 (List.map Term.toD out))], [(8, 1, some (.tok 6 (List.length (List.map Term.toD out))))], [[.d (.sl (List.map Token.toD t)), .d (.int .i64 at_), .d (.int .i64 e)]], 0⟩
    replace h : expr_parser_list_parser_expr_L2_B (fun t at_ e => g (I_expr_parser_expr.expr_parser_expr t at_ e)) (fun out t at_ e => g (I_expr_parser_expr.expr_parser_list_parser_expr_L2 out t at_ e)) out t at_ e = some r := h
    unfold expr_parser_list_parser_expr_L2_B at h
    refine ok_ev 1000 (e_expr_parser_list_parser_expr_L2 _ _ out t at_ e _ _) ?_
    rintro _ rfl
    refine w_condH beq_iff_eq h (fun hc68 h => ?_) (fun hc68 h => ?_)
    ·
      obtain ⟨q1, hq, h⟩ := w_bind h
      refine ⟨q1, T_expr_parser_sign _ _ _ _ _ hq, ?_⟩
      refine w_condH Iff.rfl h (fun hc69 h => ?_) (fun hc69 h => ?_)
      ·
        rintro _ rfl
        obtain ⟨q2, hq, h⟩ := w_bind h
        refine ⟨q2.1.K, q2.1.N, q2.1.S, List.map Term.toD q2.1.L, q2.1.From, q2.1.To, List.map Token.toD q2.2.1, q2.2.2.1, q2.2.2.2, ih_expr_parser_expr _ _ _ _ hq, ?_⟩
        refine ⟨by simp [sized, D.cells], ?_⟩
        refine ⟨by first | rfl | decide | simp only [List.length_map, List.length_cons, List.length_nil, List.map_append, List.length_append], ?_⟩
        obtain ⟨hP, h⟩ := w_chk h
        refine ⟨by first | exact hP | (simp only [List.length_map, List.length_cons, List.length_nil] at hP ⊢; exact hP), ?_⟩
        refine w_nam (e' := List.map Term.toD (out ++ [q2.1])) (by first | rfl | simp only [List.map_append, List.map_cons, List.map_nil, List.map_take, List.map_drop, List.map_set, List.map_replicate, List.length_map, Term.toD_eq]) ?_
        exact ih_expr_parser_list_parser_expr_L2 _ _ _ _ _ h
      ·
        cases h; exact ⟨rfl, rfl⟩
    ·
      cases h; exact ⟨rfl, rfl⟩
theorem T_expr_parser_expr (t : List Token) (at_ : Int) (e : Int) (r : Term × List Token × Int × Int) (h : expr_parser_expr t at_ e = some r) : Trip Try.prog 63 [.hp 0 0] [[.d (.sl (List.map Token.toD t)), .d (.int .i64 at_), .d (.int .i64 e)]] [.d (.agg [(.int .i64 r.1.K), (.int .i64 r.1.N), (.str r.1.S), (.sl (List.map Term.toD r.1.L)), (.int .i64 r.1.From), (.int .i64 r.1.To)])] [[.d (.sl (List.map Token.toD r.2.1)), .d (.int .i64 r.2.2.1), .d (.int .i64 r.2.2.2)]] := G_expr_parser_expr (.expr_parser_expr t at_ e) r h
theorem T_expr_parser_level (least : Int) (t : List Token) (at_ : Int) (e : Int) (r : Term × List Token × Int × Int) (h : expr_parser_level least t at_ e = some r) : Trip Try.prog 70 [.hp 0 0, .d (.int .i64 least)] [[.d (.sl (List.map Token.toD t)), .d (.int .i64 at_), .d (.int .i64 e)]] [.d (.agg [(.int .i64 r.1.K), (.int .i64 r.1.N), (.str r.1.S), (.sl (List.map Term.toD r.1.L)), (.int .i64 r.1.From), (.int .i64 r.1.To)])] [[.d (.sl (List.map Token.toD r.2.1)), .d (.int .i64 r.2.2.1), .d (.int .i64 r.2.2.2)]] := G_expr_parser_expr (.expr_parser_level least t at_ e) r h
theorem T_expr_parser_level_L4 (least : Int) (from_ : Int) (most : Int) (o4 : Term) (left : Term) (t : List Token) (at_ : Int) (e : Int) (r : Term × List Token × Int × Int) (h : expr_parser_level_L4 least from_ most o4 left t at_ e = some r) : Ok (c_expr_parser_level (Trip Try.prog) [.d (.agg [(.int .i64 r.1.K), (.int .i64 r.1.N), (.str r.1.S), (.sl (List.map Term.toD r.1.L)), (.int .i64 r.1.From), (.int .i64 r.1.To)])] [[.d (.sl (List.map Token.toD r.2.1)), .d (.int .i64 r.2.2.1), .d (.int .i64 r.2.2.2)]]) (kL Try.f70 4) ⟨63, [(0, .hp 0 0), (1, .d (.int .i64 least)), (4, .ref 4 1 0), (5, .d (.int .i64 from_)), (6, .ref 6 1 0), (7, .d (.int .i64 most))], [(4, 1, some (.agg (.agg [(.int .i64 o4.K), (.int .i64 o4.N), (.str o4.S), (.sl (List.map Term.toD o4.L)), (.int .i64 o4.From), (.int .i64 o4.To)]))), (6, 1, some (.agg (.agg [(.int .i64 left.K), (.int .i64 left.N), (.str left.S), (.sl (List.map Term.toD left.L)), (.int .i64 left.From), (.int .i64 left.To)])))], [[.d (.sl (List.map Token.toD t)), .d (.int .i64 at_), .d (.int .i64 e)]], 0⟩ := G_expr_parser_expr (.expr_parser_level_L4 least from_ most o4 left t at_ e) r h
theorem T_expr_parser_un (t : List Token) (at_ : Int) (e : Int) (r : Term × List Token × Int × Int) (h : expr_parser_un t at_ e = some r) : Trip Try.prog 72 [.hp 0 0] [[.d (.sl (List.map Token.toD t)), .d (.int .i64 at_), .d (.int .i64 e)]] [.d (.agg [(.int .i64 r.1.K), (.int .i64 r.1.N), (.str r.1.S), (.sl (List.map Term.toD r.1.L)), (.int .i64 r.1.From), (.int .i64 r.1.To)])] [[.d (.sl (List.map Token.toD r.2.1)), .d (.int .i64 r.2.2.1), .d (.int .i64 r.2.2.2)]] := G_expr_parser_expr (.expr_parser_un t at_ e) r h
theorem T_expr_parser_post (t : List Token) (at_ : Int) (e : Int) (r : Term × List Token × Int × Int) (h : expr_parser_post t at_ e = some r) : Trip Try.prog 75 [.hp 0 0] [[.d (.sl (List.map Token.toD t)), .d (.int .i64 at_), .d (.int .i64 e)]] [.d (.agg [(.int .i64 r.1.K), (.int .i64 r.1.N), (.str r.1.S), (.sl (List.map Term.toD r.1.L)), (.int .i64 r.1.From), (.int .i64 r.1.To)])] [[.d (.sl (List.map Token.toD r.2.1)), .d (.int .i64 r.2.2.1), .d (.int .i64 r.2.2.2)]] := G_expr_parser_expr (.expr_parser_post t at_ e) r h
theorem T_expr_parser_post_L3 (from_ : Int) (o2 : Term) (x : Term) (t : List Token) (at_ : Int) (e : Int) (r : Term × List Token × Int × Int) (h : expr_parser_post_L3 from_ o2 x t at_ e = some r) : Ok (c_expr_parser_post (Trip Try.prog) [.d (.agg [(.int .i64 r.1.K), (.int .i64 r.1.N), (.str r.1.S), (.sl (List.map Term.toD r.1.L)), (.int .i64 r.1.From), (.int .i64 r.1.To)])] [[.d (.sl (List.map Token.toD r.2.1)), .d (.int .i64 r.2.2.1), .d (.int .i64 r.2.2.2)]]) (kL Try.f75 3) ⟨57, [(0, .hp 0 0), (2, .ref 2 1 0), (3, .d (.int .i64 from_)), (4, .ref 4 1 0)], [(2, 1, some (.agg (.agg [(.int .i64 o2.K), (.int .i64 o2.N), (.str o2.S), (.sl (List.map Term.toD o2.L)), (.int .i64 o2.From), (.int .i64 o2.To)]))), (4, 1, some (.agg (.agg [(.int .i64 x.K), (.int .i64 x.N), (.str x.S), (.sl (List.map Term.toD x.L)), (.int .i64 x.From), (.int .i64 x.To)])))], [[.d (.sl (List.map Token.toD t)), .d (.int .i64 at_), .d (.int .i64 e)]], 0⟩ := G_expr_parser_expr (.expr_parser_post_L3 from_ o2 x t at_ e) r h
theorem T_expr_parser_atom (t : List Token) (at_ : Int) (e : Int) (r : Term × List Token × Int × Int) (h : expr_parser_atom t at_ e = some r) : Trip Try.prog 77 [.hp 0 0] [[.d (.sl (List.map Token.toD t)), .d (.int .i64 at_), .d (.int .i64 e)]] [.d (.agg [(.int .i64 r.1.K), (.int .i64 r.1.N), (.str r.1.S), (.sl (List.map Term.toD r.1.L)), (.int .i64 r.1.From), (.int .i64 r.1.To)])] [[.d (.sl (List.map Token.toD r.2.1)), .d (.int .i64 r.2.2.1), .d (.int .i64 r.2.2.2)]] := G_expr_parser_expr (.expr_parser_atom t at_ e) r h
theorem T_expr_parser_args (few : Bool) (t : List Token) (at_ : Int) (e : Int) (r : List Term × List Token × Int × Int) (h : expr_parser_args few t at_ e = some r) : Trip Try.prog 79 [.hp 0 0, .d (.bool few)] [[.d (.sl (List.map Token.toD t)), .d (.int .i64 at_), .d (.int .i64 e)]] [.d (.sl (List.map Term.toD r.1))] [[.d (.sl (List.map Token.toD r.2.1)), .d (.int .i64 r.2.2.1), .d (.int .i64 r.2.2.2)]] := G_expr_parser_expr (.expr_parser_args few t at_ e) r h
theorem T_expr_parser_word (s : Str) (from_ : Int) (t : List Token) (at_ : Int) (e : Int) (r : Term × List Token × Int × Int) (h : expr_parser_word s from_ t at_ e = some r) : Trip Try.prog 80 [.hp 0 0, .d (.str s), .d (.int .i64 from_)] [[.d (.sl (List.map Token.toD t)), .d (.int .i64 at_), .d (.int .i64 e)]] [.d (.agg [(.int .i64 r.1.K), (.int .i64 r.1.N), (.str r.1.S), (.sl (List.map Term.toD r.1.L)), (.int .i64 r.1.From), (.int .i64 r.1.To)])] [[.d (.sl (List.map Token.toD r.2.1)), .d (.int .i64 r.2.2.1), .d (.int .i64 r.2.2.2)]] := G_expr_parser_expr (.expr_parser_word s from_ t at_ e) r h
theorem T_expr_parser_bracket (s : Str) (from_ : Int) (t : List Token) (at_ : Int) (e : Int) (r : Term × List Token × Int × Int) (h : expr_parser_bracket s from_ t at_ e = some r) : Trip Try.prog 81 [.hp 0 0, .d (.str s), .d (.int .i64 from_)] [[.d (.sl (List.map Token.toD t)), .d (.int .i64 at_), .d (.int .i64 e)]] [.d (.agg [(.int .i64 r.1.K), (.int .i64 r.1.N), (.str r.1.S), (.sl (List.map Term.toD r.1.L)), (.int .i64 r.1.From), (.int .i64 r.1.To)])] [[.d (.sl (List.map Token.toD r.2.1)), .d (.int .i64 r.2.2.1), .d (.int .i64 r.2.2.2)]] := G_expr_parser_expr (.expr_parser_bracket s from_ t at_ e) r h
theorem T_expr_parser_list_parser_expr (t : List Token) (at_ : Int) (e : Int) (r : List Term × List Token × Int × Int) (h : expr_parser_list_parser_expr t at_ e = some r) : Trip Try.prog 82 [.hp 0 0, .fn 63 [.hp 0 0] []] [[.d (.sl (List.map Token.toD t)), .d (.int .i64 at_), .d (.int .i64 e)]] [.d (.sl (List.map Term.toD r.1))] [[.d (.sl (List.map Token.toD r.2.1)), .d (.int .i64 r.2.2.1), .d (.int .i64 r.2.2.2)]] := G_expr_parser_expr (.expr_parser_list_parser_expr t at_ e) r h
theorem T_expr_parser_list_parser_expr_L2 (out : List Term) (t : List Token) (at_ : Int) (e : Int) (r : List Term × List Token × Int × Int) (h : expr_parser_list_parser_expr_L2 out t at_ e = some r) : Ok (c_expr_parser_list_parser_expr (Trip Try.prog) [.d (.sl (List.map Term.toD r.1))] [[.d (.sl (List.map Token.toD r.2.1)), .d (.int .i64 r.2.2.1), .d (.int .i64 r.2.2.2)]]) (kL Try.f82 2) ⟨31, [(0, .hp 0 0), (1, .fn 63 [.hp 0 0] []), (5, .right 8 1 6 (List.map Term.toD out))], [(8, 1, some (.tok 6 (List.length (List.map Term.toD out))))], [[.d (.sl (List.map Token.toD t)), .d (.int .i64 at_), .d (.int .i64 e)]], 0⟩ := G_expr_parser_expr (.expr_parser_list_parser_expr_L2 out t at_ e) r h
theorem T_expr_start_parser_expr (t : List Token) (at_ : Int) (r : Term × Int × Int) (h : expr_start_parser_expr t at_ = some r) : Trip Try.prog 59 [.d (.sl (List.map Token.toD t)), .d (.int .i64 at_), .fn 63 [] []] [] [.d (.agg [(.int .i64 r.1.K), (.int .i64 r.1.N), (.str r.1.S), (.sl (List.map Term.toD r.1.L)), (.int .i64 r.1.From), (.int .i64 r.1.To)]), .d (.int .i64 r.2.1), .d (.int .i64 r.2.2)] [] := by
  unfold expr_start_parser_expr at h
  refine trip_ev 1000 (by kernel_rfl) (by kernel_rfl) (by kernel_rfl) (by kernel_rfl) (by kernel_rfl) (e_expr_start_parser_expr _ _ t at_ _ _) ?_
  rintro _ rfl
  refine w_condH decide_eq_true_iff h (fun hc70 h => ?_) (fun hc70 h => ?_)
  ·
    cases h; exact ⟨rfl, rfl⟩
  ·
    refine w_nam (e' := (List.length t : Int)) (by first | rfl | rw [List.length_map]) ?_
    rintro _ rfl
    refine w_condH decide_eq_true_iff h (fun hc71 h => ?_) (fun hc71 h => ?_)
    ·
      cases h; exact ⟨rfl, rfl⟩
    ·
      obtain ⟨q1, hq, h⟩ := w_bind h
      refine ⟨q1.1.K, q1.1.N, q1.1.S, List.map Term.toD q1.1.L, q1.1.From, q1.1.To, List.map Token.toD q1.2.1, q1.2.2.1, q1.2.2.2, T_expr_parser_expr _ _ _ _ hq, ?_⟩
      rintro _ rfl
      refine w_condN beq_iff_eq h (fun hc72 h => ?_) (fun hc72 h => ?_)
      ·
        cases h; exact ⟨rfl, rfl⟩
      ·
        cases h; exact ⟨rfl, rfl⟩
theorem T_expr_Parse (t : List Token) (at_ : Int) (r : Term × Int × Int) (h : expr_Parse t at_ = some r) : Trip Try.prog 58 [.d (.sl (List.map Token.toD t)), .d (.int .i64 at_)] [] [.d (.agg [(.int .i64 r.1.K), (.int .i64 r.1.N), (.str r.1.S), (.sl (List.map Term.toD r.1.L)), (.int .i64 r.1.From), (.int .i64 r.1.To)]), .d (.int .i64 r.2.1), .d (.int .i64 r.2.2)] [] := by
  unfold expr_Parse at h
  refine trip_ev 1000 (by kernel_rfl) (by kernel_rfl) (by kernel_rfl) (by kernel_rfl) (by kernel_rfl) (e_expr_Parse _ _ t at_ _ _) ?_
  obtain ⟨q1, hq, h⟩ := w_bind h
  refine ⟨q1.1.K, q1.1.N, q1.1.S, List.map Term.toD q1.1.L, q1.1.From, q1.1.To, q1.2.1, q1.2.2, ⟨_, T_expr_start_parser_expr _ _ _ hq⟩, ?_⟩
  cases h; exact ⟨rfl, rfl⟩
theorem T_stmt_reader_other_Parse (t : List Token) (at_ : Int) (e : Int) (r : Term × List Token × Int × Int) (h : stmt_reader_other_Parse t at_ e = some r) : Trip Try.prog 53 [.hp 0 0, .fn 58 [] []] [[.d (.sl (List.map Token.toD t)), .d (.int .i64 at_), .d (.int .i64 e)]] [.d (.agg [(.int .i64 r.1.K), (.int .i64 r.1.N), (.str r.1.S), (.sl (List.map Term.toD r.1.L)), (.int .i64 r.1.From), (.int .i64 r.1.To)])] [[.d (.sl (List.map Token.toD r.2.1)), .d (.int .i64 r.2.2.1), .d (.int .i64 r.2.2.2)]] := by
  unfold stmt_reader_other_Parse at h
  refine trip_ev 1000 (by kernel_rfl) (by kernel_rfl) (by kernel_rfl) (by kernel_rfl) (by kernel_rfl) (e_stmt_reader_other_Parse _ _ t at_ e _ _) ?_
  rintro _ rfl
  refine w_condN beq_iff_eq h (fun hc73 h => ?_) (fun hc73 h => ?_)
  ·
    refine w_nam (e' := (List.length t : Int)) (by first | rfl | rw [List.length_map]) ?_
    rintro _ rfl
    refine w_condH decide_eq_true_iff h (fun hc74 h => ?_) (fun hc74 h => ?_)
    ·
      cases h; exact ⟨rfl, rfl⟩
    ·
      obtain ⟨q1, hq, h⟩ := w_bind h
      refine ⟨q1.1.K, q1.1.N, q1.1.S, List.map Term.toD q1.1.L, q1.1.From, q1.1.To, q1.2.1, q1.2.2, ⟨_, T_expr_Parse _ _ _ hq⟩, ?_⟩
      cases h; exact ⟨rfl, rfl⟩
  ·
    cases h; exact ⟨rfl, rfl⟩
theorem T_stmt_reader_expr (t : List Token) (at_ : Int) (e : Int) (r : Term × List Token × Int × Int) (h : stmt_reader_expr t at_ e = some r) : Trip Try.prog 51 [.hp 0 0] [[.d (.sl (List.map Token.toD t)), .d (.int .i64 at_), .d (.int .i64 e)]] [.d (.agg [(.int .i64 r.1.K), (.int .i64 r.1.N), (.str r.1.S), (.sl (List.map Term.toD r.1.L)), (.int .i64 r.1.From), (.int .i64 r.1.To)])] [[.d (.sl (List.map Token.toD r.2.1)), .d (.int .i64 r.2.2.1), .d (.int .i64 r.2.2.2)]] := by
  unfold stmt_reader_expr at h
  refine trip_ev 1000 (by kernel_rfl) (by kernel_rfl) (by kernel_rfl) (by kernel_rfl) (by kernel_rfl) (e_stmt_reader_expr _ _ t at_ e _ _) ?_
  obtain ⟨q1, hq, h⟩ := w_bind h
  refine ⟨q1.1.K, q1.1.N, q1.1.S, List.map Term.toD q1.1.L, q1.1.From, q1.1.To, List.map Token.toD q1.2.1, q1.2.2.1, q1.2.2.2, T_stmt_reader_other_Parse _ _ _ _ hq, ?_⟩
  cases h; exact ⟨rfl, rfl⟩
theorem T_stmt_reader_single (k : Int) (t : List Token) (at_ : Int) (e : Int) (r : Term × List Token × Int × Int) (h : stmt_reader_single k t at_ e = some r) : Trip Try.prog 55 [.hp 0 0, .d (.int .i64 k)] [[.d (.sl (List.map Token.toD t)), .d (.int .i64 at_), .d (.int .i64 e)]] [.d (.agg [(.int .i64 r.1.K), (.int .i64 r.1.N), (.str r.1.S), (.sl (List.map Term.toD r.1.L)), (.int .i64 r.1.From), (.int .i64 r.1.To)])] [[.d (.sl (List.map Token.toD r.2.1)), .d (.int .i64 r.2.2.1), .d (.int .i64 r.2.2.2)]] := by
  unfold stmt_reader_single at h
  refine trip_ev 1000 (by kernel_rfl) (by kernel_rfl) (by kernel_rfl) (by kernel_rfl) (by kernel_rfl) (e_stmt_reader_single _ _ k t at_ e _ _) ?_
  rintro _ rfl
  obtain ⟨q1, hq, h⟩ := w_bind h
  refine ⟨q1.1.K, q1.1.N, q1.1.S, List.map Term.toD q1.1.L, q1.1.From, q1.1.To, List.map Token.toD q1.2.1, q1.2.2.1, q1.2.2.2, T_stmt_reader_expr _ _ _ _ hq, ?_⟩
  obtain ⟨q2, hq, h⟩ := w_bind h
  refine ⟨List.map Token.toD q2.1, q2.2.1, q2.2.2, T_stmt_reader_need _ _ _ _ _ _ hq, ?_⟩
  obtain ⟨q3, hq, h⟩ := w_bind h
  have hT := T_stmt_reader_made _ _ _ _ _ _ _ _ hq
  simp only [List.map_cons, List.map_nil, Term.toD_eq] at hT
  refine ⟨q3.K, q3.N, q3.S, List.map Term.toD q3.L, q3.From, q3.To, hT, ?_⟩
  cases h; exact ⟨rfl, rfl⟩
theorem T_stmt_reader_back (t : List Token) (at_ : Int) (e : Int) (r : Term × List Token × Int × Int) (h : stmt_reader_back t at_ e = some r) : Trip Try.prog 48 [.hp 0 0] [[.d (.sl (List.map Token.toD t)), .d (.int .i64 at_), .d (.int .i64 e)]] [.d (.agg [(.int .i64 r.1.K), (.int .i64 r.1.N), (.str r.1.S), (.sl (List.map Term.toD r.1.L)), (.int .i64 r.1.From), (.int .i64 r.1.To)])] [[.d (.sl (List.map Token.toD r.2.1)), .d (.int .i64 r.2.2.1), .d (.int .i64 r.2.2.2)]] := by
  unfold stmt_reader_back at h
  refine trip_ev 1000 (by kernel_rfl) (by kernel_rfl) (by kernel_rfl) (by kernel_rfl) (by kernel_rfl) (e_stmt_reader_back _ _ t at_ e _ _) ?_
  obtain ⟨q1, hq, h⟩ := w_bind h
  refine ⟨q1.1.K, q1.1.N, q1.1.S, List.map Term.toD q1.1.L, q1.1.From, q1.1.To, List.map Token.toD q1.2.1, q1.2.2.1, q1.2.2.2, T_stmt_reader_single _ _ _ _ _ hq, ?_⟩
  cases h; exact ⟨rfl, rfl⟩
theorem T_stmt_reader_call (t : List Token) (at_ : Int) (e : Int) (r : Term × List Token × Int × Int) (h : stmt_reader_call t at_ e = some r) : Trip Try.prog 49 [.hp 0 0] [[.d (.sl (List.map Token.toD t)), .d (.int .i64 at_), .d (.int .i64 e)]] [.d (.agg [(.int .i64 r.1.K), (.int .i64 r.1.N), (.str r.1.S), (.sl (List.map Term.toD r.1.L)), (.int .i64 r.1.From), (.int .i64 r.1.To)])] [[.d (.sl (List.map Token.toD r.2.1)), .d (.int .i64 r.2.2.1), .d (.int .i64 r.2.2.2)]] := by
  unfold stmt_reader_call at h
  refine trip_ev 1000 (by kernel_rfl) (by kernel_rfl) (by kernel_rfl) (by kernel_rfl) (by kernel_rfl) (e_stmt_reader_call _ _ t at_ e _ _) ?_
  obtain ⟨q1, hq, h⟩ := w_bind h
  refine ⟨q1.1.K, q1.1.N, q1.1.S, List.map Term.toD q1.1.L, q1.1.From, q1.1.To, List.map Token.toD q1.2.1, q1.2.2.1, q1.2.2.2, T_stmt_reader_single _ _ _ _ _ hq, ?_⟩
  cases h; exact ⟨rfl, rfl⟩
theorem T_stmt_reader_name (t : List Token) (at_ : Int) (e : Int) (r : Str × List Token × Int × Int) (h : stmt_reader_name t at_ e = some r) : Trip Try.prog 52 [.hp 0 0] [[.d (.sl (List.map Token.toD t)), .d (.int .i64 at_), .d (.int .i64 e)]] [.d (.str r.1)] [[.d (.sl (List.map Token.toD r.2.1)), .d (.int .i64 r.2.2.1), .d (.int .i64 r.2.2.2)]] := by
  unfold stmt_reader_name at h
  refine trip_ev 1000 (by kernel_rfl) (by kernel_rfl) (by kernel_rfl) (by kernel_rfl) (by kernel_rfl) (e_stmt_reader_name _ _ t at_ e _ _) ?_
  rintro _ rfl
  refine w_condN beq_iff_eq h (fun hc75 h => ?_) (fun hc75 h => ?_)
  ·
    obtain ⟨q1, hq, h⟩ := w_bind h
    refine ⟨q1.K, q1.N, q1.S, q1.From, q1.To, T_stmt_reader_now _ _ _ _ hq, ?_⟩
    rintro _ rfl
    refine w_condN beq_iff_eq h (fun hc76 h => ?_) (fun hc76 h => ?_)
    ·
      rintro _ rfl
      cases h; exact ⟨rfl, rfl⟩
    ·
      cases h; exact ⟨rfl, rfl⟩
  ·
    cases h; exact ⟨rfl, rfl⟩
def M_expr_parser_kind : (i : I_expr_parser_kind) → R_expr_parser_kind i → Prop
  | .expr_parser_kind t at_ e, r => Trip Try.prog 60 [.hp 0 0] [[.d (.sl (List.map Token.toD t)), .d (.int .i64 at_), .d (.int .i64 e)]] [.d (.agg [(.int .i64 r.1.K), (.int .i64 r.1.N), (.str r.1.S), (.sl (List.map Term.toD r.1.L)), (.int .i64 r.1.From), (.int .i64 r.1.To)])] [[.d (.sl (List.map Token.toD r.2.1)), .d (.int .i64 r.2.2.1), .d (.int .i64 r.2.2.2)]]
theorem G_expr_parser_kind : ∀ i r, fixF F_expr_parser_kind i = some r → M_expr_parser_kind i r := by
  refine fixF_induct D_expr_parser_kind fun g ih i => ?_
  cases i with
  | expr_parser_kind t at_ e =>
    have ih_expr_parser_kind : ∀ (t : List Token) (at_ : Int) (e : Int) (r : Term × List Token × Int × Int), g (I_expr_parser_kind.expr_parser_kind t at_ e) = some r → Trip Try.prog 60 [.hp 0 0] [[.d (.sl (List.map Token.toD t)), .d (.int .i64 at_), .d (.int .i64 e)]] [.d (.agg [(.int .i64 r.1.K), (.int .i64 r.1.N), (.str r.1.S), (.sl (List.map Term.toD r.1.L)), (.int .i64 r.1.From), (.int .i64 r.1.To)])] [[.d (.sl (List.map Token.toD r.2.1)), .d (.int .i64 r.2.2.1), .d (.int .i64 r.2.2.2)]] := fun t at_ e r h => ih (.expr_parser_kind t at_ e) r h
    intro r h
    show Trip Try.prog 60 [.hp 0 0] [[.d (.sl (List.map Token.toD t)), .d (.int .i64 at_), .d (.int .i64 e)]] [.d (.agg [(.int .i64 r.1.K), (.int .i64 r.1.N), (.str r.1.S), (.sl (List.map Term.toD r.1.L)), (.int .i64 r.1.From), (.int .i64 r.1.To)])] [[.d (.sl (List.map Token.toD r.2.1)), .d (.int .i64 r.2.2.1), .d (.int .i64 r.2.2.2)]]
    replace h : expr_parser_kind_B (fun t at_ e => g (I_expr_parser_kind.expr_parser_kind t at_ e)) t at_ e = some r := h
    unfold expr_parser_kind_B at h
    refine trip_ev 1000 (by kernel_rfl) (by kernel_rfl) (by kernel_rfl) (by kernel_rfl) (by kernel_rfl) (e_expr_parser_kind _ _ t at_ e _ _) ?_
    rintro _ rfl
    refine w_condN beq_iff_eq h (fun hc77 h => ?_) (fun hc77 h => ?_)
    ·
      obtain ⟨q1, hq, h⟩ := w_bind h
      refine ⟨q1.K, q1.N, q1.S, q1.From, q1.To, T_expr_parser_now _ _ _ _ hq, ?_⟩
      rintro _ rfl
      refine w_condH beq_iff_eq h (fun hc78 h => ?_) (fun hc78 h => ?_)
      ·
        rintro _ rfl
        refine w_condH beq_iff_eq h (fun hc79 h => ?_) (fun hc79 h => ?_)
        ·
          rintro _ rfl
          obtain ⟨q2, hq, h⟩ := w_bind h
          refine ⟨q2.K, q2.N, q2.S, List.map Term.toD q2.L, q2.From, q2.To, T_expr_parser_made _ _ _ _ _ _ hq, ?_⟩
          cases h; exact ⟨rfl, rfl⟩
        ·
          rintro _ rfl
          refine w_condT beq_iff_eq hc78 ?_
          rintro _ rfl
          refine w_condH beq_iff_eq h (fun hc80 h => ?_) (fun hc80 h => ?_)
          ·
            rintro _ rfl
            obtain ⟨q3, hq, h⟩ := w_bind h
            refine ⟨q3.K, q3.N, q3.S, List.map Term.toD q3.L, q3.From, q3.To, T_expr_parser_made _ _ _ _ _ _ hq, ?_⟩
            cases h; exact ⟨rfl, rfl⟩
          ·
            rintro _ rfl
            refine w_condF beq_iff_eq (fun e => absurd (hc78.symm.trans e) (by decide)) ?_
            obtain ⟨q5, hq, h⟩ := w_bind h
            refine ⟨q5, T_expr_parser_sign _ _ _ _ _ hq, ?_⟩
            refine w_condH Iff.rfl h (fun hc81 h => ?_) (fun hc81 h => ?_)
            ·
              rintro _ rfl
              obtain ⟨q6, hq, h⟩ := w_bind h
              refine ⟨q6.K, q6.N, q6.S, q6.From, q6.To, T_expr_parser_now _ _ _ _ hq, ?_⟩
              rintro _ rfl
              refine w_condN beq_iff_eq h (fun hc82 h => ?_) (fun hc82 h => ?_)
              ·
                rintro _ rfl
                obtain ⟨q8, hq, h⟩ := w_bind h
                refine ⟨List.map Token.toD q8.1, q8.2.1, q8.2.2, T_expr_parser_need _ _ _ _ _ hq, ?_⟩
                obtain ⟨q9, hq, h⟩ := w_bind h
                refine ⟨q9.1.K, q9.1.N, q9.1.S, List.map Term.toD q9.1.L, q9.1.From, q9.1.To, List.map Token.toD q9.2.1, q9.2.2.1, q9.2.2.2, ih_expr_parser_kind _ _ _ _ hq, ?_⟩
                obtain ⟨q10, hq, h⟩ := w_bind h
                have hT := T_expr_parser_made _ _ _ _ _ _ hq
                simp only [List.map_cons, List.map_nil, Term.toD_eq] at hT
                refine ⟨q10.K, q10.N, q10.S, List.map Term.toD q10.L, q10.From, q10.To, hT, ?_⟩
                cases h; exact ⟨rfl, rfl⟩
              ·
                obtain ⟨q7, hq, h⟩ := w_bind h
                refine ⟨List.map Token.toD q7.1, q7.2.1, q7.2.2, T_expr_parser_fail _ _ _ _ hq, ?_⟩
                cases h; exact ⟨rfl, rfl⟩
            ·
              obtain ⟨q11, hq, h⟩ := w_bind h
              refine ⟨List.map Token.toD q11.1, q11.2.1, q11.2.2, T_expr_parser_fail _ _ _ _ hq, ?_⟩
              cases h; exact ⟨rfl, rfl⟩
      ·
        rintro _ rfl
        refine w_condF beq_iff_eq hc78 ?_
        rintro _ rfl
        refine w_condH beq_iff_eq h (fun hc83 h => ?_) (fun hc83 h => ?_)
        ·
          rintro _ rfl
          obtain ⟨q29, hq, h⟩ := w_bind h
          refine ⟨q29.K, q29.N, q29.S, List.map Term.toD q29.L, q29.From, q29.To, T_expr_parser_made _ _ _ _ _ _ hq, ?_⟩
          cases h; exact ⟨rfl, rfl⟩
        ·
          obtain ⟨q30, hq, h⟩ := w_bind h
          refine ⟨q30, T_expr_parser_sign _ _ _ _ _ hq, ?_⟩
          refine w_condH Iff.rfl h (fun hc84 h => ?_) (fun hc84 h => ?_)
          ·
            rintro _ rfl
            obtain ⟨q31, hq, h⟩ := w_bind h
            refine ⟨q31.K, q31.N, q31.S, q31.From, q31.To, T_expr_parser_now _ _ _ _ hq, ?_⟩
            rintro _ rfl
            refine w_condN beq_iff_eq h (fun hc85 h => ?_) (fun hc85 h => ?_)
            ·
              rintro _ rfl
              obtain ⟨q33, hq, h⟩ := w_bind h
              refine ⟨List.map Token.toD q33.1, q33.2.1, q33.2.2, T_expr_parser_need _ _ _ _ _ hq, ?_⟩
              obtain ⟨q34, hq, h⟩ := w_bind h
              refine ⟨q34.1.K, q34.1.N, q34.1.S, List.map Term.toD q34.1.L, q34.1.From, q34.1.To, List.map Token.toD q34.2.1, q34.2.2.1, q34.2.2.2, ih_expr_parser_kind _ _ _ _ hq, ?_⟩
              obtain ⟨q35, hq, h⟩ := w_bind h
              have hT := T_expr_parser_made _ _ _ _ _ _ hq
              simp only [List.map_cons, List.map_nil, Term.toD_eq] at hT
              refine ⟨q35.K, q35.N, q35.S, List.map Term.toD q35.L, q35.From, q35.To, hT, ?_⟩
              cases h; exact ⟨rfl, rfl⟩
            ·
              obtain ⟨q32, hq, h⟩ := w_bind h
              refine ⟨List.map Token.toD q32.1, q32.2.1, q32.2.2, T_expr_parser_fail _ _ _ _ hq, ?_⟩
              cases h; exact ⟨rfl, rfl⟩
          ·
            obtain ⟨q36, hq, h⟩ := w_bind h
            refine ⟨List.map Token.toD q36.1, q36.2.1, q36.2.2, T_expr_parser_fail _ _ _ _ hq, ?_⟩
            cases h; exact ⟨rfl, rfl⟩
    ·
      cases h; exact ⟨rfl, rfl⟩
theorem T_expr_parser_kind (t : List Token) (at_ : Int) (e : Int) (r : Term × List Token × Int × Int) (h : expr_parser_kind t at_ e = some r) : Trip Try.prog 60 [.hp 0 0] [[.d (.sl (List.map Token.toD t)), .d (.int .i64 at_), .d (.int .i64 e)]] [.d (.agg [(.int .i64 r.1.K), (.int .i64 r.1.N), (.str r.1.S), (.sl (List.map Term.toD r.1.L)), (.int .i64 r.1.From), (.int .i64 r.1.To)])] [[.d (.sl (List.map Token.toD r.2.1)), .d (.int .i64 r.2.2.1), .d (.int .i64 r.2.2.2)]] := G_expr_parser_kind (.expr_parser_kind t at_ e) r h
theorem T_expr_start_parser_kind (t : List Token) (at_ : Int) (r : Term × Int × Int) (h : expr_start_parser_kind t at_ = some r) : Trip Try.prog 59 [.d (.sl (List.map Token.toD t)), .d (.int .i64 at_), .fn 60 [] []] [] [.d (.agg [(.int .i64 r.1.K), (.int .i64 r.1.N), (.str r.1.S), (.sl (List.map Term.toD r.1.L)), (.int .i64 r.1.From), (.int .i64 r.1.To)]), .d (.int .i64 r.2.1), .d (.int .i64 r.2.2)] [] := by
  unfold expr_start_parser_kind at h
  refine trip_ev 1000 (by kernel_rfl) (by kernel_rfl) (by kernel_rfl) (by kernel_rfl) (by kernel_rfl) (e_expr_start_parser_kind _ _ t at_ _ _) ?_
  rintro _ rfl
  refine w_condH decide_eq_true_iff h (fun hc86 h => ?_) (fun hc86 h => ?_)
  ·
    cases h; exact ⟨rfl, rfl⟩
  ·
    refine w_nam (e' := (List.length t : Int)) (by first | rfl | rw [List.length_map]) ?_
    rintro _ rfl
    refine w_condH decide_eq_true_iff h (fun hc87 h => ?_) (fun hc87 h => ?_)
    ·
      cases h; exact ⟨rfl, rfl⟩
    ·
      obtain ⟨q1, hq, h⟩ := w_bind h
      refine ⟨q1.1.K, q1.1.N, q1.1.S, List.map Term.toD q1.1.L, q1.1.From, q1.1.To, List.map Token.toD q1.2.1, q1.2.2.1, q1.2.2.2, T_expr_parser_kind _ _ _ _ hq, ?_⟩
      rintro _ rfl
      refine w_condN beq_iff_eq h (fun hc88 h => ?_) (fun hc88 h => ?_)
      ·
        cases h; exact ⟨rfl, rfl⟩
      ·
        cases h; exact ⟨rfl, rfl⟩
theorem T_expr_Type (t : List Token) (at_ : Int) (r : Term × Int × Int) (h : expr_Type t at_ = some r) : Trip Try.prog 54 [.d (.sl (List.map Token.toD t)), .d (.int .i64 at_)] [] [.d (.agg [(.int .i64 r.1.K), (.int .i64 r.1.N), (.str r.1.S), (.sl (List.map Term.toD r.1.L)), (.int .i64 r.1.From), (.int .i64 r.1.To)]), .d (.int .i64 r.2.1), .d (.int .i64 r.2.2)] [] := by
  unfold expr_Type at h
  refine trip_ev 1000 (by kernel_rfl) (by kernel_rfl) (by kernel_rfl) (by kernel_rfl) (by kernel_rfl) (e_expr_Type _ _ t at_ _ _) ?_
  obtain ⟨q1, hq, h⟩ := w_bind h
  refine ⟨q1.1.K, q1.1.N, q1.1.S, List.map Term.toD q1.1.L, q1.1.From, q1.1.To, q1.2.1, q1.2.2, ⟨_, T_expr_start_parser_kind _ _ _ hq⟩, ?_⟩
  cases h; exact ⟨rfl, rfl⟩
theorem T_stmt_reader_other_Type (t : List Token) (at_ : Int) (e : Int) (r : Term × List Token × Int × Int) (h : stmt_reader_other_Type t at_ e = some r) : Trip Try.prog 53 [.hp 0 0, .fn 54 [] []] [[.d (.sl (List.map Token.toD t)), .d (.int .i64 at_), .d (.int .i64 e)]] [.d (.agg [(.int .i64 r.1.K), (.int .i64 r.1.N), (.str r.1.S), (.sl (List.map Term.toD r.1.L)), (.int .i64 r.1.From), (.int .i64 r.1.To)])] [[.d (.sl (List.map Token.toD r.2.1)), .d (.int .i64 r.2.2.1), .d (.int .i64 r.2.2.2)]] := by
  unfold stmt_reader_other_Type at h
  refine trip_ev 1000 (by kernel_rfl) (by kernel_rfl) (by kernel_rfl) (by kernel_rfl) (by kernel_rfl) (e_stmt_reader_other_Type _ _ t at_ e _ _) ?_
  rintro _ rfl
  refine w_condN beq_iff_eq h (fun hc89 h => ?_) (fun hc89 h => ?_)
  ·
    refine w_nam (e' := (List.length t : Int)) (by first | rfl | rw [List.length_map]) ?_
    rintro _ rfl
    refine w_condH decide_eq_true_iff h (fun hc90 h => ?_) (fun hc90 h => ?_)
    ·
      cases h; exact ⟨rfl, rfl⟩
    ·
      obtain ⟨q1, hq, h⟩ := w_bind h
      refine ⟨q1.1.K, q1.1.N, q1.1.S, List.map Term.toD q1.1.L, q1.1.From, q1.1.To, q1.2.1, q1.2.2, ⟨_, T_expr_Type _ _ _ hq⟩, ?_⟩
      cases h; exact ⟨rfl, rfl⟩
  ·
    cases h; exact ⟨rfl, rfl⟩
theorem T_stmt_reader_let (t : List Token) (at_ : Int) (e : Int) (r : Term × List Token × Int × Int) (h : stmt_reader_let t at_ e = some r) : Trip Try.prog 43 [.hp 0 0] [[.d (.sl (List.map Token.toD t)), .d (.int .i64 at_), .d (.int .i64 e)]] [.d (.agg [(.int .i64 r.1.K), (.int .i64 r.1.N), (.str r.1.S), (.sl (List.map Term.toD r.1.L)), (.int .i64 r.1.From), (.int .i64 r.1.To)])] [[.d (.sl (List.map Token.toD r.2.1)), .d (.int .i64 r.2.2.1), .d (.int .i64 r.2.2.2)]] := by
  unfold stmt_reader_let at h
  refine trip_ev 1000 (by kernel_rfl) (by kernel_rfl) (by kernel_rfl) (by kernel_rfl) (by kernel_rfl) (e_stmt_reader_let _ _ t at_ e _ _) ?_
  rintro _ rfl
  obtain ⟨q1, hq, h⟩ := w_bind h
  refine ⟨q1.1, List.map Token.toD q1.2.1, q1.2.2.1, q1.2.2.2, T_stmt_reader_name _ _ _ _ hq, ?_⟩
  rintro _ rfl
  refine w_condH beq_iff_eq h (fun hc91 h => ?_) (fun hc91 h => ?_)
  ·
    obtain ⟨q2, hq, h⟩ := w_bind h
    refine ⟨q2, T_stmt_reader_is _ _ _ _ _ _ hq, ?_⟩
    refine w_condH Iff.rfl h (fun hc92 h => ?_) (fun hc92 h => ?_)
    ·
      rintro _ rfl
      obtain ⟨q3, hq, h⟩ := w_bind h
      refine ⟨q3.1.K, q3.1.N, q3.1.S, List.map Term.toD q3.1.L, q3.1.From, q3.1.To, List.map Token.toD q3.2.1, q3.2.2.1, q3.2.2.2, T_stmt_reader_other_Type _ _ _ _ hq, ?_⟩
      obtain ⟨q4, hq, h⟩ := w_bind h
      refine ⟨List.map Token.toD q4.1, q4.2.1, q4.2.2, T_stmt_reader_need _ _ _ _ _ _ hq, ?_⟩
      obtain ⟨q5, hq, h⟩ := w_bind h
      have hT := T_stmt_reader_made _ _ _ _ _ _ _ _ hq
      simp only [List.map_cons, List.map_nil, Term.toD_eq] at hT
      refine ⟨q5.K, q5.N, q5.S, List.map Term.toD q5.L, q5.From, q5.To, hT, ?_⟩
      cases h; exact ⟨rfl, rfl⟩
    ·
      obtain ⟨q6, hq, h⟩ := w_bind h
      refine ⟨List.map Token.toD q6.1, q6.2.1, q6.2.2, T_stmt_reader_need _ _ _ _ _ _ hq, ?_⟩
      obtain ⟨q7, hq, h⟩ := w_bind h
      refine ⟨q7.1.K, q7.1.N, q7.1.S, List.map Term.toD q7.1.L, q7.1.From, q7.1.To, List.map Token.toD q7.2.1, q7.2.2.1, q7.2.2.2, T_stmt_reader_expr _ _ _ _ hq, ?_⟩
      obtain ⟨q8, hq, h⟩ := w_bind h
      refine ⟨List.map Token.toD q8.1, q8.2.1, q8.2.2, T_stmt_reader_need _ _ _ _ _ _ hq, ?_⟩
      obtain ⟨q9, hq, h⟩ := w_bind h
      have hT := T_stmt_reader_made _ _ _ _ _ _ _ _ hq
      simp only [List.map_cons, List.map_nil, Term.toD_eq] at hT
      refine ⟨q9.K, q9.N, q9.S, List.map Term.toD q9.L, q9.From, q9.To, hT, ?_⟩
      cases h; exact ⟨rfl, rfl⟩
  ·
    obtain ⟨q10, hq, h⟩ := w_bind h
    refine ⟨List.map Token.toD q10.1, q10.2.1, q10.2.2, T_stmt_reader_need _ _ _ _ _ _ hq, ?_⟩
    obtain ⟨q11, hq, h⟩ := w_bind h
    refine ⟨q11.1.K, q11.1.N, q11.1.S, List.map Term.toD q11.1.L, q11.1.From, q11.1.To, List.map Token.toD q11.2.1, q11.2.2.1, q11.2.2.2, T_stmt_reader_expr _ _ _ _ hq, ?_⟩
    obtain ⟨q12, hq, h⟩ := w_bind h
    refine ⟨List.map Token.toD q12.1, q12.2.1, q12.2.2, T_stmt_reader_need _ _ _ _ _ _ hq, ?_⟩
    obtain ⟨q13, hq, h⟩ := w_bind h
    have hT := T_stmt_reader_made _ _ _ _ _ _ _ _ hq
    simp only [List.map_cons, List.map_nil, Term.toD_eq] at hT
    refine ⟨q13.K, q13.N, q13.S, List.map Term.toD q13.L, q13.From, q13.To, hT, ?_⟩
    cases h; exact ⟨rfl, rfl⟩
theorem T_stmt_reader_set (t : List Token) (at_ : Int) (e : Int) (r : Term × List Token × Int × Int) (h : stmt_reader_set t at_ e = some r) : Trip Try.prog 42 [.hp 0 0] [[.d (.sl (List.map Token.toD t)), .d (.int .i64 at_), .d (.int .i64 e)]] [.d (.agg [(.int .i64 r.1.K), (.int .i64 r.1.N), (.str r.1.S), (.sl (List.map Term.toD r.1.L)), (.int .i64 r.1.From), (.int .i64 r.1.To)])] [[.d (.sl (List.map Token.toD r.2.1)), .d (.int .i64 r.2.2.1), .d (.int .i64 r.2.2.2)]] := by
  unfold stmt_reader_set at h
  refine trip_ev 1000 (by kernel_rfl) (by kernel_rfl) (by kernel_rfl) (by kernel_rfl) (by kernel_rfl) (e_stmt_reader_set _ _ t at_ e _ _) ?_
  obtain ⟨q1, hq, h⟩ := w_bind h
  refine ⟨q1.1.K, q1.1.N, q1.1.S, List.map Term.toD q1.1.L, q1.1.From, q1.1.To, List.map Token.toD q1.2.1, q1.2.2.1, q1.2.2.2, T_stmt_reader_expr _ _ _ _ hq, ?_⟩
  obtain ⟨q2, hq, h⟩ := w_bind h
  refine ⟨List.map Token.toD q2.1, q2.2.1, q2.2.2, T_stmt_reader_need _ _ _ _ _ _ hq, ?_⟩
  obtain ⟨q3, hq, h⟩ := w_bind h
  refine ⟨q3.1.K, q3.1.N, q3.1.S, List.map Term.toD q3.1.L, q3.1.From, q3.1.To, List.map Token.toD q3.2.1, q3.2.2.1, q3.2.2.2, T_stmt_reader_expr _ _ _ _ hq, ?_⟩
  obtain ⟨q4, hq, h⟩ := w_bind h
  refine ⟨List.map Token.toD q4.1, q4.2.1, q4.2.2, T_stmt_reader_need _ _ _ _ _ _ hq, ?_⟩
  obtain ⟨q5, hq, h⟩ := w_bind h
  have hT := T_stmt_reader_made _ _ _ _ _ _ _ _ hq
  simp only [List.map_cons, List.map_nil, Term.toD_eq] at hT
  refine ⟨q5.K, q5.N, q5.S, List.map Term.toD q5.L, q5.From, q5.To, hT, ?_⟩
  cases h; exact ⟨rfl, rfl⟩
theorem T_stmt_reader_show (t : List Token) (at_ : Int) (e : Int) (r : Term × List Token × Int × Int) (h : stmt_reader_show t at_ e = some r) : Trip Try.prog 47 [.hp 0 0] [[.d (.sl (List.map Token.toD t)), .d (.int .i64 at_), .d (.int .i64 e)]] [.d (.agg [(.int .i64 r.1.K), (.int .i64 r.1.N), (.str r.1.S), (.sl (List.map Term.toD r.1.L)), (.int .i64 r.1.From), (.int .i64 r.1.To)])] [[.d (.sl (List.map Token.toD r.2.1)), .d (.int .i64 r.2.2.1), .d (.int .i64 r.2.2.2)]] := by
  unfold stmt_reader_show at h
  refine trip_ev 1000 (by kernel_rfl) (by kernel_rfl) (by kernel_rfl) (by kernel_rfl) (by kernel_rfl) (e_stmt_reader_show _ _ t at_ e _ _) ?_
  obtain ⟨q1, hq, h⟩ := w_bind h
  refine ⟨q1.1.K, q1.1.N, q1.1.S, List.map Term.toD q1.1.L, q1.1.From, q1.1.To, List.map Token.toD q1.2.1, q1.2.2.1, q1.2.2.2, T_stmt_reader_single _ _ _ _ _ hq, ?_⟩
  cases h; exact ⟨rfl, rfl⟩
def M_stmt_reader_stmt : (i : I_stmt_reader_stmt) → R_stmt_reader_stmt i → Prop
  | .stmt_reader_stmt t at_ e, r => Trip Try.prog 20 [.hp 0 0] [[.d (.sl (List.map Token.toD t)), .d (.int .i64 at_), .d (.int .i64 e)]] [.d (.agg [(.int .i64 r.1.K), (.int .i64 r.1.N), (.str r.1.S), (.sl (List.map Term.toD r.1.L)), (.int .i64 r.1.From), (.int .i64 r.1.To)])] [[.d (.sl (List.map Token.toD r.2.1)), .d (.int .i64 r.2.2.1), .d (.int .i64 r.2.2.2)]]
  | .stmt_reader_block t at_ e, r => Trip Try.prog 15 [.hp 0 0] [[.d (.sl (List.map Token.toD t)), .d (.int .i64 at_), .d (.int .i64 e)]] [.d (.agg [(.int .i64 r.1.K), (.int .i64 r.1.N), (.str r.1.S), (.sl (List.map Term.toD r.1.L)), (.int .i64 r.1.From), (.int .i64 r.1.To)])] [[.d (.sl (List.map Token.toD r.2.1)), .d (.int .i64 r.2.2.1), .d (.int .i64 r.2.2.2)]]
  | .stmt_reader_block_L4 from_ l o2 t at_ e, r => Ok (c_stmt_reader_block (Trip Try.prog) [.d (.agg [(.int .i64 r.1.K), (.int .i64 r.1.N), (.str r.1.S), (.sl (List.map Term.toD r.1.L)), (.int .i64 r.1.From), (.int .i64 r.1.To)])] [[.d (.sl (List.map Token.toD r.2.1)), .d (.int .i64 r.2.2.1), .d (.int .i64 r.2.2.2)]]) (kL Try.f15 4) ⟨32, [(0, .hp 0 0), (2, .ref 2 1 0), (3, .d (.int .i64 from_)), (4, .right 4 1 6 (List.map Term.toD l))], [(4, 1, some (.tok 6 (List.length (List.map Term.toD l)))), (2, 1, some (.agg (.agg [(.int .i64 o2.K), (.int .i64 o2.N), (.str o2.S), (.sl (List.map Term.toD o2.L)), (.int .i64 o2.From), (.int .i64 o2.To)])))], [[.d (.sl (List.map Token.toD t)), .d (.int .i64 at_), .d (.int .i64 e)]], 0⟩
  | .stmt_reader_cond t at_ e, r => Trip Try.prog 44 [.hp 0 0] [[.d (.sl (List.map Token.toD t)), .d (.int .i64 at_), .d (.int .i64 e)]] [.d (.agg [(.int .i64 r.1.K), (.int .i64 r.1.N), (.str r.1.S), (.sl (List.map Term.toD r.1.L)), (.int .i64 r.1.From), (.int .i64 r.1.To)])] [[.d (.sl (List.map Token.toD r.2.1)), .d (.int .i64 r.2.2.1), .d (.int .i64 r.2.2.2)]]
  | .stmt_reader_while t at_ e, r => Trip Try.prog 45 [.hp 0 0] [[.d (.sl (List.map Token.toD t)), .d (.int .i64 at_), .d (.int .i64 e)]] [.d (.agg [(.int .i64 r.1.K), (.int .i64 r.1.N), (.str r.1.S), (.sl (List.map Term.toD r.1.L)), (.int .i64 r.1.From), (.int .i64 r.1.To)])] [[.d (.sl (List.map Token.toD r.2.1)), .d (.int .i64 r.2.2.1), .d (.int .i64 r.2.2.2)]]
  | .stmt_reader_count t at_ e, r => Trip Try.prog 46 [.hp 0 0] [[.d (.sl (List.map Token.toD t)), .d (.int .i64 at_), .d (.int .i64 e)]] [.d (.agg [(.int .i64 r.1.K), (.int .i64 r.1.N), (.str r.1.S), (.sl (List.map Term.toD r.1.L)), (.int .i64 r.1.From), (.int .i64 r.1.To)])] [[.d (.sl (List.map Token.toD r.2.1)), .d (.int .i64 r.2.2.1), .d (.int .i64 r.2.2.2)]]
theorem G_stmt_reader_stmt : ∀ i r, fixF F_stmt_reader_stmt i = some r → M_stmt_reader_stmt i r := by
  refine fixF_induct D_stmt_reader_stmt fun g ih i => ?_
  cases i with
  | stmt_reader_stmt t at_ e =>
    have ih_stmt_reader_block : ∀ (t : List Token) (at_ : Int) (e : Int) (r : Term × List Token × Int × Int), g (I_stmt_reader_stmt.stmt_reader_block t at_ e) = some r → Trip Try.prog 15 [.hp 0 0] [[.d (.sl (List.map Token.toD t)), .d (.int .i64 at_), .d (.int .i64 e)]] [.d (.agg [(.int .i64 r.1.K), (.int .i64 r.1.N), (.str r.1.S), (.sl (List.map Term.toD r.1.L)), (.int .i64 r.1.From), (.int .i64 r.1.To)])] [[.d (.sl (List.map Token.toD r.2.1)), .d (.int .i64 r.2.2.1), .d (.int .i64 r.2.2.2)]] := fun t at_ e r h => ih (.stmt_reader_block t at_ e) r h
    have ih_stmt_reader_cond : ∀ (t : List Token) (at_ : Int) (e : Int) (r : Term × List Token × Int × Int), g (I_stmt_reader_stmt.stmt_reader_cond t at_ e) = some r → Trip Try.prog 44 [.hp 0 0] [[.d (.sl (List.map Token.toD t)), .d (.int .i64 at_), .d (.int .i64 e)]] [.d (.agg [(.int .i64 r.1.K), (.int .i64 r.1.N), (.str r.1.S), (.sl (List.map Term.toD r.1.L)), (.int .i64 r.1.From), (.int .i64 r.1.To)])] [[.d (.sl (List.map Token.toD r.2.1)), .d (.int .i64 r.2.2.1), .d (.int .i64 r.2.2.2)]] := fun t at_ e r h => ih (.stmt_reader_cond t at_ e) r h
    have ih_stmt_reader_while : ∀ (t : List Token) (at_ : Int) (e : Int) (r : Term × List Token × Int × Int), g (I_stmt_reader_stmt.stmt_reader_while t at_ e) = some r → Trip Try.prog 45 [.hp 0 0] [[.d (.sl (List.map Token.toD t)), .d (.int .i64 at_), .d (.int .i64 e)]] [.d (.agg [(.int .i64 r.1.K), (.int .i64 r.1.N), (.str r.1.S), (.sl (List.map Term.toD r.1.L)), (.int .i64 r.1.From), (.int .i64 r.1.To)])] [[.d (.sl (List.map Token.toD r.2.1)), .d (.int .i64 r.2.2.1), .d (.int .i64 r.2.2.2)]] := fun t at_ e r h => ih (.stmt_reader_while t at_ e) r h
    have ih_stmt_reader_count : ∀ (t : List Token) (at_ : Int) (e : Int) (r : Term × List Token × Int × Int), g (I_stmt_reader_stmt.stmt_reader_count t at_ e) = some r → Trip Try.prog 46 [.hp 0 0] [[.d (.sl (List.map Token.toD t)), .d (.int .i64 at_), .d (.int .i64 e)]] [.d (.agg [(.int .i64 r.1.K), (.int .i64 r.1.N), (.str r.1.S), (.sl (List.map Term.toD r.1.L)), (.int .i64 r.1.From), (.int .i64 r.1.To)])] [[.d (.sl (List.map Token.toD r.2.1)), .d (.int .i64 r.2.2.1), .d (.int .i64 r.2.2.2)]] := fun t at_ e r h => ih (.stmt_reader_count t at_ e) r h
    intro r h
    show Trip Try.prog 20 [.hp 0 0] [[.d (.sl (List.map Token.toD t)), .d (.int .i64 at_), .d (.int .i64 e)]] [.d (.agg [(.int .i64 r.1.K), (.int .i64 r.1.N), (.str r.1.S), (.sl (List.map Term.toD r.1.L)), (.int .i64 r.1.From), (.int .i64 r.1.To)])] [[.d (.sl (List.map Token.toD r.2.1)), .d (.int .i64 r.2.2.1), .d (.int .i64 r.2.2.2)]]
    replace h : stmt_reader_stmt_B (fun t at_ e => g (I_stmt_reader_stmt.stmt_reader_block t at_ e)) (fun t at_ e => g (I_stmt_reader_stmt.stmt_reader_cond t at_ e)) (fun t at_ e => g (I_stmt_reader_stmt.stmt_reader_while t at_ e)) (fun t at_ e => g (I_stmt_reader_stmt.stmt_reader_count t at_ e)) t at_ e = some r := h
    unfold stmt_reader_stmt_B at h
    refine trip_ev 1000 (by kernel_rfl) (by kernel_rfl) (by kernel_rfl) (by kernel_rfl) (by kernel_rfl) (e_stmt_reader_stmt _ _ t at_ e _ _) ?_
    obtain ⟨q1, hq, h⟩ := w_bind h
    refine ⟨q1.K, q1.N, q1.S, q1.From, q1.To, T_stmt_reader_now _ _ _ _ hq, ?_⟩
    obtain ⟨q2, hq, h⟩ := w_bind h
    have hT := T_stmt_kind _ _ hq
    by_cases hg : q2 = 15
    · rw [if_pos hg] at h; rw [hg] at hT
      refine .inl ⟨⟨_, hT⟩, ?_⟩
      obtain ⟨q3, hq, h⟩ := w_bind h
      refine ⟨q3.1.K, q3.1.N, q3.1.S, List.map Term.toD q3.1.L, q3.1.From, q3.1.To, List.map Token.toD q3.2.1, q3.2.2.1, q3.2.2.2, ih_stmt_reader_block _ _ _ _ hq, ?_⟩
      cases h; exact ⟨rfl, rfl⟩
    rw [if_neg hg] at h; clear hg
    by_cases hg : q2 = 42
    · rw [if_pos hg] at h; rw [hg] at hT
      refine .inr <| .inl ⟨⟨_, hT⟩, ?_⟩
      obtain ⟨q4, hq, h⟩ := w_bind h
      refine ⟨q4.1.K, q4.1.N, q4.1.S, List.map Term.toD q4.1.L, q4.1.From, q4.1.To, List.map Token.toD q4.2.1, q4.2.2.1, q4.2.2.2, T_stmt_reader_set _ _ _ _ hq, ?_⟩
      cases h; exact ⟨rfl, rfl⟩
    rw [if_neg hg] at h; clear hg
    by_cases hg : q2 = 43
    · rw [if_pos hg] at h; rw [hg] at hT
      refine .inr <| .inr <| .inl ⟨⟨_, hT⟩, ?_⟩
      obtain ⟨q5, hq, h⟩ := w_bind h
      refine ⟨q5.1.K, q5.1.N, q5.1.S, List.map Term.toD q5.1.L, q5.1.From, q5.1.To, List.map Token.toD q5.2.1, q5.2.2.1, q5.2.2.2, T_stmt_reader_let _ _ _ _ hq, ?_⟩
      cases h; exact ⟨rfl, rfl⟩
    rw [if_neg hg] at h; clear hg
    by_cases hg : q2 = 44
    · rw [if_pos hg] at h; rw [hg] at hT
      refine .inr <| .inr <| .inr <| .inl ⟨⟨_, hT⟩, ?_⟩
      obtain ⟨q6, hq, h⟩ := w_bind h
      refine ⟨q6.1.K, q6.1.N, q6.1.S, List.map Term.toD q6.1.L, q6.1.From, q6.1.To, List.map Token.toD q6.2.1, q6.2.2.1, q6.2.2.2, ih_stmt_reader_cond _ _ _ _ hq, ?_⟩
      cases h; exact ⟨rfl, rfl⟩
    rw [if_neg hg] at h; clear hg
    by_cases hg : q2 = 45
    · rw [if_pos hg] at h; rw [hg] at hT
      refine .inr <| .inr <| .inr <| .inr <| .inl ⟨⟨_, hT⟩, ?_⟩
      obtain ⟨q7, hq, h⟩ := w_bind h
      refine ⟨q7.1.K, q7.1.N, q7.1.S, List.map Term.toD q7.1.L, q7.1.From, q7.1.To, List.map Token.toD q7.2.1, q7.2.2.1, q7.2.2.2, ih_stmt_reader_while _ _ _ _ hq, ?_⟩
      cases h; exact ⟨rfl, rfl⟩
    rw [if_neg hg] at h; clear hg
    by_cases hg : q2 = 46
    · rw [if_pos hg] at h; rw [hg] at hT
      refine .inr <| .inr <| .inr <| .inr <| .inr <| .inl ⟨⟨_, hT⟩, ?_⟩
      obtain ⟨q8, hq, h⟩ := w_bind h
      refine ⟨q8.1.K, q8.1.N, q8.1.S, List.map Term.toD q8.1.L, q8.1.From, q8.1.To, List.map Token.toD q8.2.1, q8.2.2.1, q8.2.2.2, ih_stmt_reader_count _ _ _ _ hq, ?_⟩
      cases h; exact ⟨rfl, rfl⟩
    rw [if_neg hg] at h; clear hg
    by_cases hg : q2 = 47
    · rw [if_pos hg] at h; rw [hg] at hT
      refine .inr <| .inr <| .inr <| .inr <| .inr <| .inr <| .inl ⟨⟨_, hT⟩, ?_⟩
      obtain ⟨q9, hq, h⟩ := w_bind h
      refine ⟨q9.1.K, q9.1.N, q9.1.S, List.map Term.toD q9.1.L, q9.1.From, q9.1.To, List.map Token.toD q9.2.1, q9.2.2.1, q9.2.2.2, T_stmt_reader_show _ _ _ _ hq, ?_⟩
      cases h; exact ⟨rfl, rfl⟩
    rw [if_neg hg] at h; clear hg
    by_cases hg : q2 = 48
    · rw [if_pos hg] at h; rw [hg] at hT
      refine .inr <| .inr <| .inr <| .inr <| .inr <| .inr <| .inr <| .inl ⟨⟨_, hT⟩, ?_⟩
      obtain ⟨q10, hq, h⟩ := w_bind h
      refine ⟨q10.1.K, q10.1.N, q10.1.S, List.map Term.toD q10.1.L, q10.1.From, q10.1.To, List.map Token.toD q10.2.1, q10.2.2.1, q10.2.2.2, T_stmt_reader_back _ _ _ _ hq, ?_⟩
      cases h; exact ⟨rfl, rfl⟩
    rw [if_neg hg] at h; clear hg
    by_cases hg : q2 = 49
    · rw [if_pos hg] at h; rw [hg] at hT
      refine .inr <| .inr <| .inr <| .inr <| .inr <| .inr <| .inr <| .inr <| .inl ⟨⟨_, hT⟩, ?_⟩
      obtain ⟨q11, hq, h⟩ := w_bind h
      refine ⟨q11.1.K, q11.1.N, q11.1.S, List.map Term.toD q11.1.L, q11.1.From, q11.1.To, List.map Token.toD q11.2.1, q11.2.2.1, q11.2.2.2, T_stmt_reader_call _ _ _ _ hq, ?_⟩
      cases h; exact ⟨rfl, rfl⟩
    rw [if_neg hg] at h; clear hg
    cases h
  | stmt_reader_block t at_ e =>
    have ih_stmt_reader_block_L4 : ∀ (from_ : Int) (l : List Term) (o2 : Term) (t : List Token) (at_ : Int) (e : Int) (r : Term × List Token × Int × Int), g (I_stmt_reader_stmt.stmt_reader_block_L4 from_ l o2 t at_ e) = some r → Ok (c_stmt_reader_block (Trip Try.prog) [.d (.agg [(.int .i64 r.1.K), (.int .i64 r.1.N), (.str r.1.S), (.sl (List.map Term.toD r.1.L)), (.int .i64 r.1.From), (.int .i64 r.1.To)])] [[.d (.sl (List.map Token.toD r.2.1)), .d (.int .i64 r.2.2.1), .d (.int .i64 r.2.2.2)]]) (kL Try.f15 4) ⟨32, [(0, .hp 0 0), (2, .ref 2 1 0), (3, .d (.int .i64 from_)), (4, .right 4 1 6 (List.map Term.toD l))], [(4, 1, some (.tok 6 (List.length (List.map Term.toD l)))), (2, 1, some (.agg (.agg [(.int .i64 o2.K), (.int .i64 o2.N), (.str o2.S), (.sl (List.map Term.toD o2.L)), (.int .i64 o2.From), (.int .i64 o2.To)])))], [[.d (.sl (List.map Token.toD t)), .d (.int .i64 at_), .d (.int .i64 e)]], 0⟩ := fun from_ l o2 t at_ e r h => ih (.stmt_reader_block_L4 from_ l o2 t at_ e) r h
    intro r h
    show Trip Try.prog 15 [.hp 0 0] [[.d (.sl (List.map Token.toD t)), .d (.int .i64 at_), .d (.int .i64 e)]] [.d (.agg [(.int .i64 r.1.K), (.int .i64 r.1.N), (.str r.1.S), (.sl (List.map Term.toD r.1.L)), (.int .i64 r.1.From), (.int .i64 r.1.To)])] [[.d (.sl (List.map Token.toD r.2.1)), .d (.int .i64 r.2.2.1), .d (.int .i64 r.2.2.2)]]
    replace h : stmt_reader_block_B (fun from_ l o2 t at_ e => g (I_stmt_reader_stmt.stmt_reader_block_L4 from_ l o2 t at_ e)) t at_ e = some r := h
    unfold stmt_reader_block_B at h
    refine trip_ev 1000 (by kernel_rfl) (by kernel_rfl) (by kernel_rfl) (by kernel_rfl) (by kernel_rfl) (e_stmt_reader_block _ _ t at_ e _ _) ?_
    obtain ⟨q1, hq, h⟩ := w_bind h
    refine ⟨List.map Token.toD q1.1, q1.2.1, q1.2.2, T_stmt_reader_need _ _ _ _ _ _ hq, ?_⟩
    exact ih_stmt_reader_block_L4 _ _ _ _ _ _ _ h
  | stmt_reader_block_L4 from_ l o2 t at_ e =>
    have ih_stmt_reader_stmt : ∀ (t : List Token) (at_ : Int) (e : Int) (r : Term × List Token × Int × Int), g (I_stmt_reader_stmt.stmt_reader_stmt t at_ e) = some r → Trip Try.prog 20 [.hp 0 0] [[.d (.sl (List.map Token.toD t)), .d (.int .i64 at_), .d (.int .i64 e)]] [.d (.agg [(.int .i64 r.1.K), (.int .i64 r.1.N), (.str r.1.S), (.sl (List.map Term.toD r.1.L)), (.int .i64 r.1.From), (.int .i64 r.1.To)])] [[.d (.sl (List.map Token.toD r.2.1)), .d (.int .i64 r.2.2.1), .d (.int .i64 r.2.2.2)]] := fun t at_ e r h => ih (.stmt_reader_stmt t at_ e) r h
    have ih_stmt_reader_block_L4 : ∀ (from_ : Int) (l : List Term) (o2 : Term) (t : List Token) (at_ : Int) (e : Int) (r : Term × List Token × Int × Int), g (I_stmt_reader_stmt.stmt_reader_block_L4 from_ l o2 t at_ e) = some r → Ok (c_stmt_reader_block (Trip Try.prog) [.d (.agg [(.int .i64 r.1.K), (.int .i64 r.1.N), (.str r.1.S), (.sl (List.map Term.toD r.1.L)), (.int .i64 r.1.From), (.int .i64 r.1.To)])] [[.d (.sl (List.map Token.toD r.2.1)), .d (.int .i64 r.2.2.1), .d (.int .i64 r.2.2.2)]]) (kL Try.f15 4) ⟨32, [(0, .hp 0 0), (2, .ref 2 1 0), (3, .d (.int .i64 from_)), (4, .right 4 1 6 (List.map Term.toD l))], [(4, 1, some (.tok 6 (List.length (List.map Term.toD l)))), (2, 1, some (.agg (.agg [(.int .i64 o2.K), (.int .i64 o2.N), (.str o2.S), (.sl (List.map Term.toD o2.L)), (.int .i64 o2.From), (.int .i64 o2.To)])))], [[.d (.sl (List.map Token.toD t)), .d (.int .i64 at_), .d (.int .i64 e)]], 0⟩ := fun from_ l o2 t at_ e r h => ih (.stmt_reader_block_L4 from_ l o2 t at_ e) r h
    intro r h
    show Ok (c_stmt_reader_block (Trip Try.prog) [.d (.agg [(.int .i64 r.1.K), (.int .i64 r.1.N), (.str r.1.S), (.sl (List.map Term.toD r.1.L)), (.int .i64 r.1.From), (.int .i64 r.1.To)])] [[.d (.sl (List.map Token.toD r.2.1)), .d (.int .i64 r.2.2.1), .d (.int .i64 r.2.2.2)]]) (kL Try.f15 4) ⟨32, [(0, .hp 0 0), (2, .ref 2 1 0), (3, .d (.int .i64 from_)), (4, .right 4 1 6 (List.map Term.toD l))], [(4, 1, some (.tok 6 (List.length (List.map Term.toD l)))), (2, 1, some (.agg (.agg [(.int .i64 o2.K), (.int .i64 o2.N), (.str o2.S), (.sl (List.map Term.toD o2.L)), (.int .i64 o2.From), (.int .i64 o2.To)])))], [[.d (.sl (List.map Token.toD t)), .d (.int .i64 at_), .d (.int .i64 e)]], 0⟩
    replace h : stmt_reader_block_L4_B (fun t at_ e => g (I_stmt_reader_stmt.stmt_reader_stmt t at_ e)) (fun from_ l o2 t at_ e => g (I_stmt_reader_stmt.stmt_reader_block_L4 from_ l o2 t at_ e)) from_ l o2 t at_ e = some r := h
    unfold stmt_reader_block_L4_B at h
    refine ok_ev 1000 (e_stmt_reader_block_L4 _ _ from_ l o2 t at_ e _ _) ?_
    rintro _ rfl
    refine w_condH beq_iff_eq h (fun hc93 h => ?_) (fun hc93 h => ?_)
    ·
      obtain ⟨q1, hq, h⟩ := w_bind h
      refine ⟨q1, T_stmt_reader_is _ _ _ _ _ _ hq, ?_⟩
      refine w_condN Iff.rfl h (fun hc94 h => ?_) (fun hc94 h => ?_)
      ·
        obtain ⟨q3, hq, h⟩ := w_bind h
        refine ⟨List.map Token.toD q3.1, q3.2.1, q3.2.2, T_stmt_reader_need _ _ _ _ _ _ hq, ?_⟩
        obtain ⟨q4, hq, h⟩ := w_bind h
        refine ⟨q4.K, q4.N, q4.S, List.map Term.toD q4.L, q4.From, q4.To, T_stmt_reader_made _ _ _ _ _ _ _ _ hq, ?_⟩
        cases h; exact ⟨rfl, rfl⟩
      ·
        obtain ⟨q2, hq, h⟩ := w_bind h
        refine ⟨q2.1.K, q2.1.N, q2.1.S, List.map Term.toD q2.1.L, q2.1.From, q2.1.To, List.map Token.toD q2.2.1, q2.2.2.1, q2.2.2.2, ih_stmt_reader_stmt _ _ _ _ hq, ?_⟩
        refine ⟨by simp [sized, D.cells], ?_⟩
        refine ⟨by first | rfl | decide | simp only [List.length_map, List.length_cons, List.length_nil, List.map_append, List.length_append], ?_⟩
        obtain ⟨hP, h⟩ := w_chk h
        refine ⟨by first | exact hP | (simp only [List.length_map, List.length_cons, List.length_nil] at hP ⊢; exact hP), ?_⟩
        refine w_nam (e' := List.map Term.toD (l ++ [q2.1])) (by first | rfl | simp only [List.map_append, List.map_cons, List.map_nil, List.map_take, List.map_drop, List.map_set, List.map_replicate, List.length_map, Term.toD_eq]) ?_
        exact ih_stmt_reader_block_L4 _ _ _ _ _ _ _ h
    ·
      obtain ⟨q5, hq, h⟩ := w_bind h
      refine ⟨List.map Token.toD q5.1, q5.2.1, q5.2.2, T_stmt_reader_need _ _ _ _ _ _ hq, ?_⟩
      obtain ⟨q6, hq, h⟩ := w_bind h
      refine ⟨q6.K, q6.N, q6.S, List.map Term.toD q6.L, q6.From, q6.To, T_stmt_reader_made _ _ _ _ _ _ _ _ hq, ?_⟩
      cases h; exact ⟨rfl, rfl⟩
  | stmt_reader_cond t at_ e =>
    have ih_stmt_reader_block : ∀ (t : List Token) (at_ : Int) (e : Int) (r : Term × List Token × Int × Int), g (I_stmt_reader_stmt.stmt_reader_block t at_ e) = some r → Trip Try.prog 15 [.hp 0 0] [[.d (.sl (List.map Token.toD t)), .d (.int .i64 at_), .d (.int .i64 e)]] [.d (.agg [(.int .i64 r.1.K), (.int .i64 r.1.N), (.str r.1.S), (.sl (List.map Term.toD r.1.L)), (.int .i64 r.1.From), (.int .i64 r.1.To)])] [[.d (.sl (List.map Token.toD r.2.1)), .d (.int .i64 r.2.2.1), .d (.int .i64 r.2.2.2)]] := fun t at_ e r h => ih (.stmt_reader_block t at_ e) r h
    intro r h
    show Trip Try.prog 44 [.hp 0 0] [[.d (.sl (List.map Token.toD t)), .d (.int .i64 at_), .d (.int .i64 e)]] [.d (.agg [(.int .i64 r.1.K), (.int .i64 r.1.N), (.str r.1.S), (.sl (List.map Term.toD r.1.L)), (.int .i64 r.1.From), (.int .i64 r.1.To)])] [[.d (.sl (List.map Token.toD r.2.1)), .d (.int .i64 r.2.2.1), .d (.int .i64 r.2.2.2)]]
    replace h : stmt_reader_cond_B (fun t at_ e => g (I_stmt_reader_stmt.stmt_reader_block t at_ e)) t at_ e = some r := h
    unfold stmt_reader_cond_B at h
    refine trip_ev 1000 (by kernel_rfl) (by kernel_rfl) (by kernel_rfl) (by kernel_rfl) (by kernel_rfl) (e_stmt_reader_cond _ _ t at_ e _ _) ?_
    rintro _ rfl
    obtain ⟨q1, hq, h⟩ := w_bind h
    refine ⟨q1.1.K, q1.1.N, q1.1.S, List.map Term.toD q1.1.L, q1.1.From, q1.1.To, List.map Token.toD q1.2.1, q1.2.2.1, q1.2.2.2, T_stmt_reader_expr _ _ _ _ hq, ?_⟩
    obtain ⟨q2, hq, h⟩ := w_bind h
    refine ⟨q2.1.K, q2.1.N, q2.1.S, List.map Term.toD q2.1.L, q2.1.From, q2.1.To, List.map Token.toD q2.2.1, q2.2.2.1, q2.2.2.2, ih_stmt_reader_block _ _ _ _ hq, ?_⟩
    rintro _ rfl
    refine w_condH beq_iff_eq h (fun hc95 h => ?_) (fun hc95 h => ?_)
    ·
      obtain ⟨q3, hq, h⟩ := w_bind h
      refine ⟨q3, T_stmt_reader_is _ _ _ _ _ _ hq, ?_⟩
      refine w_condH Iff.rfl h (fun hc96 h => ?_) (fun hc96 h => ?_)
      ·
        rintro _ rfl
        obtain ⟨q4, hq, h⟩ := w_bind h
        refine ⟨q4.1.K, q4.1.N, q4.1.S, List.map Term.toD q4.1.L, q4.1.From, q4.1.To, List.map Token.toD q4.2.1, q4.2.2.1, q4.2.2.2, ih_stmt_reader_block _ _ _ _ hq, ?_⟩
        obtain ⟨q5, hq, h⟩ := w_bind h
        have hT := T_stmt_reader_made _ _ _ _ _ _ _ _ hq
        simp only [List.map_cons, List.map_nil, Term.toD_eq] at hT
        refine ⟨q5.K, q5.N, q5.S, List.map Term.toD q5.L, q5.From, q5.To, hT, ?_⟩
        cases h; exact ⟨rfl, rfl⟩
      ·
        obtain ⟨q6, hq, h⟩ := w_bind h
        have hT := T_stmt_reader_made _ _ _ _ _ _ _ _ hq
        simp only [List.map_cons, List.map_nil, Term.toD_eq] at hT
        refine ⟨q6.K, q6.N, q6.S, List.map Term.toD q6.L, q6.From, q6.To, hT, ?_⟩
        cases h; exact ⟨rfl, rfl⟩
    ·
      obtain ⟨q7, hq, h⟩ := w_bind h
      have hT := T_stmt_reader_made _ _ _ _ _ _ _ _ hq
      simp only [List.map_cons, List.map_nil, Term.toD_eq] at hT
      refine ⟨q7.K, q7.N, q7.S, List.map Term.toD q7.L, q7.From, q7.To, hT, ?_⟩
      cases h; exact ⟨rfl, rfl⟩
  | stmt_reader_while t at_ e =>
    have ih_stmt_reader_block : ∀ (t : List Token) (at_ : Int) (e : Int) (r : Term × List Token × Int × Int), g (I_stmt_reader_stmt.stmt_reader_block t at_ e) = some r → Trip Try.prog 15 [.hp 0 0] [[.d (.sl (List.map Token.toD t)), .d (.int .i64 at_), .d (.int .i64 e)]] [.d (.agg [(.int .i64 r.1.K), (.int .i64 r.1.N), (.str r.1.S), (.sl (List.map Term.toD r.1.L)), (.int .i64 r.1.From), (.int .i64 r.1.To)])] [[.d (.sl (List.map Token.toD r.2.1)), .d (.int .i64 r.2.2.1), .d (.int .i64 r.2.2.2)]] := fun t at_ e r h => ih (.stmt_reader_block t at_ e) r h
    intro r h
    show Trip Try.prog 45 [.hp 0 0] [[.d (.sl (List.map Token.toD t)), .d (.int .i64 at_), .d (.int .i64 e)]] [.d (.agg [(.int .i64 r.1.K), (.int .i64 r.1.N), (.str r.1.S), (.sl (List.map Term.toD r.1.L)), (.int .i64 r.1.From), (.int .i64 r.1.To)])] [[.d (.sl (List.map Token.toD r.2.1)), .d (.int .i64 r.2.2.1), .d (.int .i64 r.2.2.2)]]
    replace h : stmt_reader_while_B (fun t at_ e => g (I_stmt_reader_stmt.stmt_reader_block t at_ e)) t at_ e = some r := h
    unfold stmt_reader_while_B at h
    refine trip_ev 1000 (by kernel_rfl) (by kernel_rfl) (by kernel_rfl) (by kernel_rfl) (by kernel_rfl) (e_stmt_reader_while _ _ t at_ e _ _) ?_
    rintro _ rfl
    obtain ⟨q1, hq, h⟩ := w_bind h
    refine ⟨q1.1.K, q1.1.N, q1.1.S, List.map Term.toD q1.1.L, q1.1.From, q1.1.To, List.map Token.toD q1.2.1, q1.2.2.1, q1.2.2.2, T_stmt_reader_expr _ _ _ _ hq, ?_⟩
    obtain ⟨q2, hq, h⟩ := w_bind h
    refine ⟨q2.1.K, q2.1.N, q2.1.S, List.map Term.toD q2.1.L, q2.1.From, q2.1.To, List.map Token.toD q2.2.1, q2.2.2.1, q2.2.2.2, ih_stmt_reader_block _ _ _ _ hq, ?_⟩
    obtain ⟨q3, hq, h⟩ := w_bind h
    have hT := T_stmt_reader_made _ _ _ _ _ _ _ _ hq
    simp only [List.map_cons, List.map_nil, Term.toD_eq] at hT
    refine ⟨q3.K, q3.N, q3.S, List.map Term.toD q3.L, q3.From, q3.To, hT, ?_⟩
    cases h; exact ⟨rfl, rfl⟩
  | stmt_reader_count t at_ e =>
    have ih_stmt_reader_block : ∀ (t : List Token) (at_ : Int) (e : Int) (r : Term × List Token × Int × Int), g (I_stmt_reader_stmt.stmt_reader_block t at_ e) = some r → Trip Try.prog 15 [.hp 0 0] [[.d (.sl (List.map Token.toD t)), .d (.int .i64 at_), .d (.int .i64 e)]] [.d (.agg [(.int .i64 r.1.K), (.int .i64 r.1.N), (.str r.1.S), (.sl (List.map Term.toD r.1.L)), (.int .i64 r.1.From), (.int .i64 r.1.To)])] [[.d (.sl (List.map Token.toD r.2.1)), .d (.int .i64 r.2.2.1), .d (.int .i64 r.2.2.2)]] := fun t at_ e r h => ih (.stmt_reader_block t at_ e) r h
    intro r h
    show Trip Try.prog 46 [.hp 0 0] [[.d (.sl (List.map Token.toD t)), .d (.int .i64 at_), .d (.int .i64 e)]] [.d (.agg [(.int .i64 r.1.K), (.int .i64 r.1.N), (.str r.1.S), (.sl (List.map Term.toD r.1.L)), (.int .i64 r.1.From), (.int .i64 r.1.To)])] [[.d (.sl (List.map Token.toD r.2.1)), .d (.int .i64 r.2.2.1), .d (.int .i64 r.2.2.2)]]
    replace h : stmt_reader_count_B (fun t at_ e => g (I_stmt_reader_stmt.stmt_reader_block t at_ e)) t at_ e = some r := h
    unfold stmt_reader_count_B at h
    refine trip_ev 1000 (by kernel_rfl) (by kernel_rfl) (by kernel_rfl) (by kernel_rfl) (by kernel_rfl) (e_stmt_reader_count _ _ t at_ e _ _) ?_
    rintro _ rfl
    obtain ⟨q1, hq, h⟩ := w_bind h
    refine ⟨q1.1, List.map Token.toD q1.2.1, q1.2.2.1, q1.2.2.2, T_stmt_reader_name _ _ _ _ hq, ?_⟩
    obtain ⟨q2, hq, h⟩ := w_bind h
    refine ⟨List.map Token.toD q2.1, q2.2.1, q2.2.2, T_stmt_reader_need _ _ _ _ _ _ hq, ?_⟩
    obtain ⟨q3, hq, h⟩ := w_bind h
    refine ⟨q3.1.K, q3.1.N, q3.1.S, List.map Term.toD q3.1.L, q3.1.From, q3.1.To, List.map Token.toD q3.2.1, q3.2.2.1, q3.2.2.2, T_stmt_reader_expr _ _ _ _ hq, ?_⟩
    obtain ⟨q4, hq, h⟩ := w_bind h
    refine ⟨List.map Token.toD q4.1, q4.2.1, q4.2.2, T_stmt_reader_need _ _ _ _ _ _ hq, ?_⟩
    obtain ⟨q5, hq, h⟩ := w_bind h
    refine ⟨q5.1.K, q5.1.N, q5.1.S, List.map Term.toD q5.1.L, q5.1.From, q5.1.To, List.map Token.toD q5.2.1, q5.2.2.1, q5.2.2.2, T_stmt_reader_expr _ _ _ _ hq, ?_⟩
    obtain ⟨q6, hq, h⟩ := w_bind h
    refine ⟨q6.1.K, q6.1.N, q6.1.S, List.map Term.toD q6.1.L, q6.1.From, q6.1.To, List.map Token.toD q6.2.1, q6.2.2.1, q6.2.2.2, ih_stmt_reader_block _ _ _ _ hq, ?_⟩
    obtain ⟨q7, hq, h⟩ := w_bind h
    have hT := T_stmt_reader_made _ _ _ _ _ _ _ _ hq
    simp only [List.map_cons, List.map_nil, Term.toD_eq] at hT
    refine ⟨q7.K, q7.N, q7.S, List.map Term.toD q7.L, q7.From, q7.To, hT, ?_⟩
    cases h; exact ⟨rfl, rfl⟩
theorem T_stmt_reader_stmt (t : List Token) (at_ : Int) (e : Int) (r : Term × List Token × Int × Int) (h : stmt_reader_stmt t at_ e = some r) : Trip Try.prog 20 [.hp 0 0] [[.d (.sl (List.map Token.toD t)), .d (.int .i64 at_), .d (.int .i64 e)]] [.d (.agg [(.int .i64 r.1.K), (.int .i64 r.1.N), (.str r.1.S), (.sl (List.map Term.toD r.1.L)), (.int .i64 r.1.From), (.int .i64 r.1.To)])] [[.d (.sl (List.map Token.toD r.2.1)), .d (.int .i64 r.2.2.1), .d (.int .i64 r.2.2.2)]] := G_stmt_reader_stmt (.stmt_reader_stmt t at_ e) r h
theorem T_stmt_reader_block (t : List Token) (at_ : Int) (e : Int) (r : Term × List Token × Int × Int) (h : stmt_reader_block t at_ e = some r) : Trip Try.prog 15 [.hp 0 0] [[.d (.sl (List.map Token.toD t)), .d (.int .i64 at_), .d (.int .i64 e)]] [.d (.agg [(.int .i64 r.1.K), (.int .i64 r.1.N), (.str r.1.S), (.sl (List.map Term.toD r.1.L)), (.int .i64 r.1.From), (.int .i64 r.1.To)])] [[.d (.sl (List.map Token.toD r.2.1)), .d (.int .i64 r.2.2.1), .d (.int .i64 r.2.2.2)]] := G_stmt_reader_stmt (.stmt_reader_block t at_ e) r h
theorem T_stmt_reader_block_L4 (from_ : Int) (l : List Term) (o2 : Term) (t : List Token) (at_ : Int) (e : Int) (r : Term × List Token × Int × Int) (h : stmt_reader_block_L4 from_ l o2 t at_ e = some r) : Ok (c_stmt_reader_block (Trip Try.prog) [.d (.agg [(.int .i64 r.1.K), (.int .i64 r.1.N), (.str r.1.S), (.sl (List.map Term.toD r.1.L)), (.int .i64 r.1.From), (.int .i64 r.1.To)])] [[.d (.sl (List.map Token.toD r.2.1)), .d (.int .i64 r.2.2.1), .d (.int .i64 r.2.2.2)]]) (kL Try.f15 4) ⟨32, [(0, .hp 0 0), (2, .ref 2 1 0), (3, .d (.int .i64 from_)), (4, .right 4 1 6 (List.map Term.toD l))], [(4, 1, some (.tok 6 (List.length (List.map Term.toD l)))), (2, 1, some (.agg (.agg [(.int .i64 o2.K), (.int .i64 o2.N), (.str o2.S), (.sl (List.map Term.toD o2.L)), (.int .i64 o2.From), (.int .i64 o2.To)])))], [[.d (.sl (List.map Token.toD t)), .d (.int .i64 at_), .d (.int .i64 e)]], 0⟩ := G_stmt_reader_stmt (.stmt_reader_block_L4 from_ l o2 t at_ e) r h
theorem T_stmt_reader_cond (t : List Token) (at_ : Int) (e : Int) (r : Term × List Token × Int × Int) (h : stmt_reader_cond t at_ e = some r) : Trip Try.prog 44 [.hp 0 0] [[.d (.sl (List.map Token.toD t)), .d (.int .i64 at_), .d (.int .i64 e)]] [.d (.agg [(.int .i64 r.1.K), (.int .i64 r.1.N), (.str r.1.S), (.sl (List.map Term.toD r.1.L)), (.int .i64 r.1.From), (.int .i64 r.1.To)])] [[.d (.sl (List.map Token.toD r.2.1)), .d (.int .i64 r.2.2.1), .d (.int .i64 r.2.2.2)]] := G_stmt_reader_stmt (.stmt_reader_cond t at_ e) r h
theorem T_stmt_reader_while (t : List Token) (at_ : Int) (e : Int) (r : Term × List Token × Int × Int) (h : stmt_reader_while t at_ e = some r) : Trip Try.prog 45 [.hp 0 0] [[.d (.sl (List.map Token.toD t)), .d (.int .i64 at_), .d (.int .i64 e)]] [.d (.agg [(.int .i64 r.1.K), (.int .i64 r.1.N), (.str r.1.S), (.sl (List.map Term.toD r.1.L)), (.int .i64 r.1.From), (.int .i64 r.1.To)])] [[.d (.sl (List.map Token.toD r.2.1)), .d (.int .i64 r.2.2.1), .d (.int .i64 r.2.2.2)]] := G_stmt_reader_stmt (.stmt_reader_while t at_ e) r h
theorem T_stmt_reader_count (t : List Token) (at_ : Int) (e : Int) (r : Term × List Token × Int × Int) (h : stmt_reader_count t at_ e = some r) : Trip Try.prog 46 [.hp 0 0] [[.d (.sl (List.map Token.toD t)), .d (.int .i64 at_), .d (.int .i64 e)]] [.d (.agg [(.int .i64 r.1.K), (.int .i64 r.1.N), (.str r.1.S), (.sl (List.map Term.toD r.1.L)), (.int .i64 r.1.From), (.int .i64 r.1.To)])] [[.d (.sl (List.map Token.toD r.2.1)), .d (.int .i64 r.2.2.1), .d (.int .i64 r.2.2.2)]] := G_stmt_reader_stmt (.stmt_reader_count t at_ e) r h
theorem T_stmt_start_reader_block (t : List Token) (at_ : Int) (r : Term × Int × Int) (h : stmt_start_reader_block t at_ = some r) : Trip Try.prog 14 [.d (.sl (List.map Token.toD t)), .d (.int .i64 at_), .fn 15 [] []] [] [.d (.agg [(.int .i64 r.1.K), (.int .i64 r.1.N), (.str r.1.S), (.sl (List.map Term.toD r.1.L)), (.int .i64 r.1.From), (.int .i64 r.1.To)]), .d (.int .i64 r.2.1), .d (.int .i64 r.2.2)] [] := by
  unfold stmt_start_reader_block at h
  refine trip_ev 1000 (by kernel_rfl) (by kernel_rfl) (by kernel_rfl) (by kernel_rfl) (by kernel_rfl) (e_stmt_start_reader_block _ _ t at_ _ _) ?_
  rintro _ rfl
  refine w_condH decide_eq_true_iff h (fun hc97 h => ?_) (fun hc97 h => ?_)
  ·
    cases h; exact ⟨rfl, rfl⟩
  ·
    refine w_nam (e' := (List.length t : Int)) (by first | rfl | rw [List.length_map]) ?_
    rintro _ rfl
    refine w_condH decide_eq_true_iff h (fun hc98 h => ?_) (fun hc98 h => ?_)
    ·
      cases h; exact ⟨rfl, rfl⟩
    ·
      obtain ⟨q1, hq, h⟩ := w_bind h
      refine ⟨q1.1.K, q1.1.N, q1.1.S, List.map Term.toD q1.1.L, q1.1.From, q1.1.To, List.map Token.toD q1.2.1, q1.2.2.1, q1.2.2.2, T_stmt_reader_block _ _ _ _ hq, ?_⟩
      rintro _ rfl
      refine w_condN beq_iff_eq h (fun hc99 h => ?_) (fun hc99 h => ?_)
      ·
        cases h; exact ⟨rfl, rfl⟩
      ·
        cases h; exact ⟨rfl, rfl⟩
theorem T_stmt_Block (t : List Token) (at_ : Int) (r : Term × Int × Int) (h : stmt_Block t at_ = some r) : Trip Try.prog 7 [.d (.sl (List.map Token.toD t)), .d (.int .i64 at_)] [] [.d (.agg [(.int .i64 r.1.K), (.int .i64 r.1.N), (.str r.1.S), (.sl (List.map Term.toD r.1.L)), (.int .i64 r.1.From), (.int .i64 r.1.To)]), .d (.int .i64 r.2.1), .d (.int .i64 r.2.2)] [] := by
  unfold stmt_Block at h
  refine trip_ev 1000 (by kernel_rfl) (by kernel_rfl) (by kernel_rfl) (by kernel_rfl) (by kernel_rfl) (e_stmt_Block _ _ t at_ _ _) ?_
  obtain ⟨q1, hq, h⟩ := w_bind h
  refine ⟨q1.1.K, q1.1.N, q1.1.S, List.map Term.toD q1.1.L, q1.1.From, q1.1.To, q1.2.1, q1.2.2, ⟨_, T_stmt_start_reader_block _ _ _ hq⟩, ?_⟩
  cases h; exact ⟨rfl, rfl⟩
theorem T_law08awake  (r : Bool) (h : law08awake = some r) : Trip Try.prog 6 [] [] [.d (.bool r)] [] := by
  unfold law08awake at h
  refine trip_ev 1000 (by kernel_rfl) (by kernel_rfl) (by kernel_rfl) (by kernel_rfl) (by kernel_rfl) (e_law08awake _ _  _ _) ?_
  obtain ⟨q1, hq, h⟩ := w_bind h
  have hT := T_stmt_Block _ _ _ hq
  simp only [List.map_cons, List.map_nil, Term.toD_eq] at hT
  refine ⟨q1.1.K, q1.1.N, q1.1.S, List.map Term.toD q1.1.L, q1.1.From, q1.1.To, q1.2.1, q1.2.2, ⟨_, hT⟩, ?_⟩
  rintro _ rfl
  refine w_condH beq_iff_eq h (fun hc100 h => ?_) (fun hc100 h => ?_)
  ·
    rintro _ rfl
    refine w_condH beq_iff_eq h (fun hc101 h => ?_) (fun hc101 h => ?_)
    ·
      rintro _ rfl
      refine w_condH beq_iff_eq h (fun hc102 h => ?_) (fun hc102 h => ?_)
      ·
        rintro _ rfl
        cases h; exact ⟨rfl, rfl⟩
      ·
        cases h; exact ⟨rfl, rfl⟩
    ·
      cases h; exact ⟨rfl, rfl⟩
  ·
    cases h; exact ⟨rfl, rfl⟩
theorem T_ref05Begins (text : Str) (at_ : Int) (s : Str) (r : Bool) (h : ref05Begins text at_ s = some r) : Trip Try.prog 35 [.d (.str text), .d (.int .i64 at_), .d (.str s)] [] [.d (.bool r)] [] := by
  unfold ref05Begins at h
  refine trip_ev 1000 (by kernel_rfl) (by kernel_rfl) (by kernel_rfl) (by kernel_rfl) (by kernel_rfl) (e_ref05Begins _ _ text at_ s _ _) ?_
  rintro _ rfl
  rintro _ rfl
  rintro _ rfl
  rintro _ rfl
  refine w_condH decide_eq_true_iff h (fun hc103 h => ?_) (fun hc103 h => ?_)
  ·
    rintro _ rfl
    rintro _ rfl
    obtain ⟨hP, h⟩ := w_chk h
    refine ⟨by first | exact hP | (simp only [List.length_map, List.length_cons, List.length_nil] at hP ⊢; exact hP), ?_⟩
    obtain ⟨hP, h⟩ := w_chk h
    refine ⟨by first | exact hP | (simp only [List.length_map, List.length_cons, List.length_nil] at hP ⊢; exact hP), ?_⟩
    obtain ⟨hP, h⟩ := w_chk h
    refine ⟨by first | exact hP | (simp only [List.length_map, List.length_cons, List.length_nil] at hP ⊢; exact hP), ?_⟩
    obtain ⟨hP, h⟩ := w_chk h
    refine ⟨by first | exact hP | (simp only [List.length_map, List.length_cons, List.length_nil] at hP ⊢; exact hP), ?_⟩
    rintro _ rfl
    rintro _ rfl
    cases h; exact ⟨rfl, rfl⟩
  ·
    cases h; exact ⟨rfl, rfl⟩
theorem T_ref05Blank (c : Int) (r : Bool) (h : ref05Blank c = some r) : Trip Try.prog 34 [.d (.int .u8 c)] [] [.d (.bool r)] [] := by
  unfold ref05Blank at h
  refine trip_ev 1000 (by kernel_rfl) (by kernel_rfl) (by kernel_rfl) (by kernel_rfl) (by kernel_rfl) (e_ref05Blank _ _ c _ _) ?_
  rintro _ rfl
  refine w_condH beq_iff_eq h (fun hc104 h => ?_) (fun hc104 h => ?_)
  ·
    cases h; exact ⟨rfl, rfl⟩
  ·
    rintro _ rfl
    refine w_condH beq_iff_eq h (fun hc105 h => ?_) (fun hc105 h => ?_)
    ·
      cases h; exact ⟨rfl, rfl⟩
    ·
      rintro _ rfl
      refine w_condH beq_iff_eq h (fun hc106 h => ?_) (fun hc106 h => ?_)
      ·
        cases h; exact ⟨rfl, rfl⟩
      ·
        rintro _ rfl
        cases h; exact ⟨rfl, rfl⟩
def M_ref05Next_L1 : (i : I_ref05Next_L1) → R_ref05Next_L1 i → Prop
  | .ref05Next_L1 text at_, r => Ok (c_ref05Next (Trip Try.prog) [.d (.int .i64 r)] []) (kL Try.f25 1) ⟨32, [(0, .d (.str text)), (1, .d (.int .i64 at_))], [], [], 0⟩
  | .ref05Next_L5 text at_, r => Ok (c_ref05Next (Trip Try.prog) [.d (.int .i64 r)] []) (kL Try.f25 5) ⟨32, [(0, .d (.str text)), (1, .d (.int .i64 at_))], [], [], 0⟩
theorem G_ref05Next_L1 : ∀ i r, fixF F_ref05Next_L1 i = some r → M_ref05Next_L1 i r := by
  refine fixF_induct D_ref05Next_L1 fun g ih i => ?_
  cases i with
  | ref05Next_L1 text at_ =>
    have ih_ref05Next_L1 : ∀ (text : Str) (at_ : Int) (r : Int), g (I_ref05Next_L1.ref05Next_L1 text at_) = some r → Ok (c_ref05Next (Trip Try.prog) [.d (.int .i64 r)] []) (kL Try.f25 1) ⟨32, [(0, .d (.str text)), (1, .d (.int .i64 at_))], [], [], 0⟩ := fun text at_ r h => ih (.ref05Next_L1 text at_) r h
    have ih_ref05Next_L5 : ∀ (text : Str) (at_ : Int) (r : Int), g (I_ref05Next_L1.ref05Next_L5 text at_) = some r → Ok (c_ref05Next (Trip Try.prog) [.d (.int .i64 r)] []) (kL Try.f25 5) ⟨32, [(0, .d (.str text)), (1, .d (.int .i64 at_))], [], [], 0⟩ := fun text at_ r h => ih (.ref05Next_L5 text at_) r h
    intro r h
    show Ok (c_ref05Next (Trip Try.prog) [.d (.int .i64 r)] []) (kL Try.f25 1) ⟨32, [(0, .d (.str text)), (1, .d (.int .i64 at_))], [], [], 0⟩
    replace h : ref05Next_L1_B (fun text at_ => g (I_ref05Next_L1.ref05Next_L1 text at_)) (fun text at_ => g (I_ref05Next_L1.ref05Next_L5 text at_)) text at_ = some r := h
    unfold ref05Next_L1_B at h
    refine ok_ev 1000 (e_ref05Next_L1 _ _ text at_ _ _) ?_
    rintro _ rfl
    rintro _ rfl
    refine w_condH decide_eq_true_iff h (fun hc107 h => ?_) (fun hc107 h => ?_)
    ·
      obtain ⟨c, hx, h⟩ := w_bind h
      refine ⟨w_ge hx, c, w_at hx, ?_⟩
      rintro _ rfl
      obtain ⟨q1, hq, h⟩ := w_bind h
      refine ⟨q1, ⟨_, T_ref05Blank _ _ hq⟩, ?_⟩
      refine w_condH Iff.rfl h (fun hc108 h => ?_) (fun hc108 h => ?_)
      ·
        rintro _ rfl
        exact ih_ref05Next_L1 _ _ _ h
      ·
        obtain ⟨q2, hq, h⟩ := w_bind h
        refine ⟨q2, ⟨_, T_ref05Begins _ _ _ _ hq⟩, ?_⟩
        refine w_condH Iff.rfl h (fun hc109 h => ?_) (fun hc109 h => ?_)
        ·
          exact ih_ref05Next_L5 _ _ _ h
        ·
          cases h; exact ⟨rfl, rfl⟩
    ·
      cases h; exact ⟨rfl, rfl⟩
  | ref05Next_L5 text at_ =>
    have ih_ref05Next_L1 : ∀ (text : Str) (at_ : Int) (r : Int), g (I_ref05Next_L1.ref05Next_L1 text at_) = some r → Ok (c_ref05Next (Trip Try.prog) [.d (.int .i64 r)] []) (kL Try.f25 1) ⟨32, [(0, .d (.str text)), (1, .d (.int .i64 at_))], [], [], 0⟩ := fun text at_ r h => ih (.ref05Next_L1 text at_) r h
    have ih_ref05Next_L5 : ∀ (text : Str) (at_ : Int) (r : Int), g (I_ref05Next_L1.ref05Next_L5 text at_) = some r → Ok (c_ref05Next (Trip Try.prog) [.d (.int .i64 r)] []) (kL Try.f25 5) ⟨32, [(0, .d (.str text)), (1, .d (.int .i64 at_))], [], [], 0⟩ := fun text at_ r h => ih (.ref05Next_L5 text at_) r h
    intro r h
    show Ok (c_ref05Next (Trip Try.prog) [.d (.int .i64 r)] []) (kL Try.f25 5) ⟨32, [(0, .d (.str text)), (1, .d (.int .i64 at_))], [], [], 0⟩
    replace h : ref05Next_L5_B (fun text at_ => g (I_ref05Next_L1.ref05Next_L1 text at_)) (fun text at_ => g (I_ref05Next_L1.ref05Next_L5 text at_)) text at_ = some r := h
    unfold ref05Next_L5_B at h
    refine ok_ev 1000 (e_ref05Next_L5 _ _ text at_ _ _) ?_
    rintro _ rfl
    rintro _ rfl
    refine w_condH decide_eq_true_iff h (fun hc110 h => ?_) (fun hc110 h => ?_)
    ·
      obtain ⟨c, hx, h⟩ := w_bind h
      refine ⟨w_ge hx, c, w_at hx, ?_⟩
      rintro _ rfl
      rintro _ rfl
      refine w_condN beq_iff_eq h (fun hc111 h => ?_) (fun hc111 h => ?_)
      ·
        exact ih_ref05Next_L1 _ _ _ h
      ·
        rintro _ rfl
        exact ih_ref05Next_L5 _ _ _ h
    ·
      exact ih_ref05Next_L1 _ _ _ h
theorem T_ref05Next_L1 (text : Str) (at_ : Int) (r : Int) (h : ref05Next_L1 text at_ = some r) : Ok (c_ref05Next (Trip Try.prog) [.d (.int .i64 r)] []) (kL Try.f25 1) ⟨32, [(0, .d (.str text)), (1, .d (.int .i64 at_))], [], [], 0⟩ := G_ref05Next_L1 (.ref05Next_L1 text at_) r h
theorem T_ref05Next_L5 (text : Str) (at_ : Int) (r : Int) (h : ref05Next_L5 text at_ = some r) : Ok (c_ref05Next (Trip Try.prog) [.d (.int .i64 r)] []) (kL Try.f25 5) ⟨32, [(0, .d (.str text)), (1, .d (.int .i64 at_))], [], [], 0⟩ := G_ref05Next_L1 (.ref05Next_L5 text at_) r h
theorem T_ref05Next (text : Str) (at_ : Int) (r : Int) (h : ref05Next text at_ = some r) : Trip Try.prog 25 [.d (.str text), .d (.int .i64 at_)] [] [.d (.int .i64 r)] [] := by
  unfold ref05Next at h
  refine trip_ev 1000 (by kernel_rfl) (by kernel_rfl) (by kernel_rfl) (by kernel_rfl) (by kernel_rfl) (e_ref05Next _ _ text at_ _ _) ?_
  exact T_ref05Next_L1 _ _ _ h
theorem T_ref05Digit (c : Int) (r : Bool) (h : ref05Digit c = some r) : Trip Try.prog 37 [.d (.int .u8 c)] [] [.d (.bool r)] [] := by
  unfold ref05Digit at h
  refine trip_ev 1000 (by kernel_rfl) (by kernel_rfl) (by kernel_rfl) (by kernel_rfl) (by kernel_rfl) (e_ref05Digit _ _ c _ _) ?_
  rintro _ rfl
  refine w_condH decide_eq_true_iff h (fun hc112 h => ?_) (fun hc112 h => ?_)
  ·
    rintro _ rfl
    cases h; exact ⟨rfl, rfl⟩
  ·
    cases h; exact ⟨rfl, rfl⟩
theorem T_ref05Letter (c : Int) (r : Bool) (h : ref05Letter c = some r) : Trip Try.prog 36 [.d (.int .u8 c)] [] [.d (.bool r)] [] := by
  unfold ref05Letter at h
  refine trip_ev 1000 (by kernel_rfl) (by kernel_rfl) (by kernel_rfl) (by kernel_rfl) (by kernel_rfl) (e_ref05Letter _ _ c _ _) ?_
  rintro _ rfl
  refine w_condH decide_eq_true_iff h (fun hc113 h => ?_) (fun hc113 h => ?_)
  ·
    rintro _ rfl
    refine w_condH decide_eq_true_iff h (fun hc114 h => ?_) (fun hc114 h => ?_)
    ·
      cases h; exact ⟨rfl, rfl⟩
    ·
      rintro _ rfl
      refine w_condH decide_eq_true_iff h (fun hc115 h => ?_) (fun hc115 h => ?_)
      ·
        rintro _ rfl
        refine w_condH decide_eq_true_iff h (fun hc116 h => ?_) (fun hc116 h => ?_)
        ·
          cases h; exact ⟨rfl, rfl⟩
        ·
          rintro _ rfl
          cases h; exact ⟨rfl, rfl⟩
      ·
        rintro _ rfl
        cases h; exact ⟨rfl, rfl⟩
  ·
    rintro _ rfl
    refine w_condH decide_eq_true_iff h (fun hc117 h => ?_) (fun hc117 h => ?_)
    ·
      rintro _ rfl
      refine w_condH decide_eq_true_iff h (fun hc118 h => ?_) (fun hc118 h => ?_)
      ·
        cases h; exact ⟨rfl, rfl⟩
      ·
        rintro _ rfl
        cases h; exact ⟨rfl, rfl⟩
    ·
      rintro _ rfl
      cases h; exact ⟨rfl, rfl⟩
def M_ref05Number_L5 : (i : I_ref05Number_L5) → R_ref05Number_L5 i → Prop
  | .ref05Number_L5 s v i, r => Ok (c_ref05Number (Trip Try.prog) [.d (.int .i64 r.1), .d (.bool r.2)] []) (kL Try.f40 5) ⟨41, [(0, .d (.str s)), (4, .d (.int .i64 v)), (5, .d (.int .i64 i))], [], [], 0⟩
theorem G_ref05Number_L5 : ∀ i r, fixF F_ref05Number_L5 i = some r → M_ref05Number_L5 i r := by
  refine fixF_induct D_ref05Number_L5 fun g ih i => ?_
  cases i with
  | ref05Number_L5 s v i =>
    have ih_ref05Number_L5 : ∀ (s : Str) (v : Int) (i : Int) (r : Int × Bool), g (I_ref05Number_L5.ref05Number_L5 s v i) = some r → Ok (c_ref05Number (Trip Try.prog) [.d (.int .i64 r.1), .d (.bool r.2)] []) (kL Try.f40 5) ⟨41, [(0, .d (.str s)), (4, .d (.int .i64 v)), (5, .d (.int .i64 i))], [], [], 0⟩ := fun s v i r h => ih (.ref05Number_L5 s v i) r h
    intro r h
    show Ok (c_ref05Number (Trip Try.prog) [.d (.int .i64 r.1), .d (.bool r.2)] []) (kL Try.f40 5) ⟨41, [(0, .d (.str s)), (4, .d (.int .i64 v)), (5, .d (.int .i64 i))], [], [], 0⟩
    replace h : ref05Number_L5_B (fun s v i => g (I_ref05Number_L5.ref05Number_L5 s v i)) s v i = some r := h
    unfold ref05Number_L5_B at h
    refine ok_ev 1000 (e_ref05Number_L5 _ _ s v i _ _) ?_
    rintro _ rfl
    rintro _ rfl
    refine w_condH decide_eq_true_iff h (fun hc119 h => ?_) (fun hc119 h => ?_)
    ·
      obtain ⟨c, hx, h⟩ := w_bind h
      refine ⟨w_ge hx, c, w_at hx, ?_⟩
      rintro _ rfl
      rintro _ rfl
      rintro _ rfl
      rintro _ rfl
      obtain ⟨hP, h⟩ := w_chk h
      refine ⟨by first | exact hP | (simp only [List.length_map, List.length_cons, List.length_nil] at hP ⊢; exact hP), ?_⟩
      rintro _ rfl
      rintro _ rfl
      refine w_condH decide_eq_true_iff h (fun hc120 h => ?_) (fun hc120 h => ?_)
      ·
        cases h; exact ⟨rfl, rfl⟩
      ·
        rintro _ rfl
        rintro _ rfl
        rintro _ rfl
        exact ih_ref05Number_L5 _ _ _ _ h
    ·
      cases h; exact ⟨rfl, rfl⟩
theorem T_ref05Number_L5 (s : Str) (v : Int) (i : Int) (r : Int × Bool) (h : ref05Number_L5 s v i = some r) : Ok (c_ref05Number (Trip Try.prog) [.d (.int .i64 r.1), .d (.bool r.2)] []) (kL Try.f40 5) ⟨41, [(0, .d (.str s)), (4, .d (.int .i64 v)), (5, .d (.int .i64 i))], [], [], 0⟩ := G_ref05Number_L5 (.ref05Number_L5 s v i) r h
theorem T_ref05Number (s : Str) (r : Int × Bool) (h : ref05Number s = some r) : Trip Try.prog 40 [.d (.str s)] [] [.d (.int .i64 r.1), .d (.bool r.2)] [] := by
  unfold ref05Number at h
  refine trip_ev 1000 (by kernel_rfl) (by kernel_rfl) (by kernel_rfl) (by kernel_rfl) (by kernel_rfl) (e_ref05Number _ _ s _ _) ?_
  rintro _ rfl
  rintro _ rfl
  refine w_condH beq_iff_eq h (fun hc121 h => ?_) (fun hc121 h => ?_)
  ·
    cases h; exact ⟨rfl, rfl⟩
  ·
    rintro _ rfl
    rintro _ rfl
    refine w_condH decide_eq_true_iff h (fun hc122 h => ?_) (fun hc122 h => ?_)
    ·
      obtain ⟨c, hx, h⟩ := w_bind h
      refine ⟨w_ge hx, c, w_at hx, ?_⟩
      rintro _ rfl
      rintro _ rfl
      refine w_condH beq_iff_eq h (fun hc123 h => ?_) (fun hc123 h => ?_)
      ·
        cases h; exact ⟨rfl, rfl⟩
      ·
        exact T_ref05Number_L5 _ _ _ _ h
    ·
      exact T_ref05Number_L5 _ _ _ _ h
def M_ref05One_L13 : (i : I_ref05One_L13) → R_ref05One_L13 i → Prop
  | .ref05One_L13 text at_ to_ o4, r => Ok (c_ref05One (Trip Try.prog) [.d (.agg [(.int .i64 r.1.K), (.int .i64 r.1.N), (.str r.1.S), (.int .i64 r.1.From), (.int .i64 r.1.To)]), .d (.int .i64 r.2)] []) (kL Try.f26 13) ⟨114, [(0, .d (.str text)), (1, .d (.int .i64 at_)), (4, .ref 4 1 0), (7, .d (.int .i64 to_))], [(4, 1, some (.agg (.agg [(.int .i64 o4.K), (.int .i64 o4.N), (.str o4.S), (.int .i64 o4.From), (.int .i64 o4.To)])))], [], 0⟩
theorem G_ref05One_L13 : ∀ i r, fixF F_ref05One_L13 i = some r → M_ref05One_L13 i r := by
  refine fixF_induct D_ref05One_L13 fun g ih i => ?_
  cases i with
  | ref05One_L13 text at_ to_ o4 =>
    have ih_ref05One_L13 : ∀ (text : Str) (at_ : Int) (to_ : Int) (o4 : Token) (r : Token × Int), g (I_ref05One_L13.ref05One_L13 text at_ to_ o4) = some r → Ok (c_ref05One (Trip Try.prog) [.d (.agg [(.int .i64 r.1.K), (.int .i64 r.1.N), (.str r.1.S), (.int .i64 r.1.From), (.int .i64 r.1.To)]), .d (.int .i64 r.2)] []) (kL Try.f26 13) ⟨114, [(0, .d (.str text)), (1, .d (.int .i64 at_)), (4, .ref 4 1 0), (7, .d (.int .i64 to_))], [(4, 1, some (.agg (.agg [(.int .i64 o4.K), (.int .i64 o4.N), (.str o4.S), (.int .i64 o4.From), (.int .i64 o4.To)])))], [], 0⟩ := fun text at_ to_ o4 r h => ih (.ref05One_L13 text at_ to_ o4) r h
    intro r h
    show Ok (c_ref05One (Trip Try.prog) [.d (.agg [(.int .i64 r.1.K), (.int .i64 r.1.N), (.str r.1.S), (.int .i64 r.1.From), (.int .i64 r.1.To)]), .d (.int .i64 r.2)] []) (kL Try.f26 13) ⟨114, [(0, .d (.str text)), (1, .d (.int .i64 at_)), (4, .ref 4 1 0), (7, .d (.int .i64 to_))], [(4, 1, some (.agg (.agg [(.int .i64 o4.K), (.int .i64 o4.N), (.str o4.S), (.int .i64 o4.From), (.int .i64 o4.To)])))], [], 0⟩
    replace h : ref05One_L13_B (fun text at_ to_ o4 => g (I_ref05One_L13.ref05One_L13 text at_ to_ o4)) text at_ to_ o4 = some r := h
    unfold ref05One_L13_B at h
    refine ok_ev 1000 (e_ref05One_L13 _ _ text at_ to_ o4 _ _) ?_
    rintro _ rfl
    rintro _ rfl
    refine w_condH decide_eq_true_iff h (fun hc124 h => ?_) (fun hc124 h => ?_)
    ·
      obtain ⟨c, hx, h⟩ := w_bind h
      refine ⟨w_ge hx, c, w_at hx, ?_⟩
      rintro _ rfl
      obtain ⟨q1, hq, h⟩ := w_bind h
      refine ⟨q1, ⟨_, T_ref05Digit _ _ hq⟩, ?_⟩
      refine w_condH Iff.rfl h (fun hc125 h => ?_) (fun hc125 h => ?_)
      ·
        rintro _ rfl
        exact ih_ref05One_L13 _ _ _ _ _ h
      ·
        obtain ⟨hP, h⟩ := w_chk h
        refine ⟨by first | exact hP | (simp only [List.length_map, List.length_cons, List.length_nil] at hP ⊢; exact hP), ?_⟩
        obtain ⟨hP, h⟩ := w_chk h
        refine ⟨by first | exact hP | (simp only [List.length_map, List.length_cons, List.length_nil] at hP ⊢; exact hP), ?_⟩
        obtain ⟨hP, h⟩ := w_chk h
        refine ⟨by first | exact hP | (simp only [List.length_map, List.length_cons, List.length_nil] at hP ⊢; exact hP), ?_⟩
        obtain ⟨hP, h⟩ := w_chk h
        refine ⟨by first | exact hP | (simp only [List.length_map, List.length_cons, List.length_nil] at hP ⊢; exact hP), ?_⟩
        rintro _ rfl
        obtain ⟨q2, hq, h⟩ := w_bind h
        refine ⟨q2.1, q2.2, ⟨_, T_ref05Number _ _ hq⟩, ?_⟩
        refine w_condN Iff.rfl h (fun hc126 h => ?_) (fun hc126 h => ?_)
        ·
          cases h; exact ⟨rfl, rfl⟩
        ·
          cases h; exact ⟨rfl, rfl⟩
    ·
      obtain ⟨hP, h⟩ := w_chk h
      refine ⟨by first | exact hP | (simp only [List.length_map, List.length_cons, List.length_nil] at hP ⊢; exact hP), ?_⟩
      obtain ⟨hP, h⟩ := w_chk h
      refine ⟨by first | exact hP | (simp only [List.length_map, List.length_cons, List.length_nil] at hP ⊢; exact hP), ?_⟩
      obtain ⟨hP, h⟩ := w_chk h
      refine ⟨by first | exact hP | (simp only [List.length_map, List.length_cons, List.length_nil] at hP ⊢; exact hP), ?_⟩
      obtain ⟨hP, h⟩ := w_chk h
      refine ⟨by first | exact hP | (simp only [List.length_map, List.length_cons, List.length_nil] at hP ⊢; exact hP), ?_⟩
      rintro _ rfl
      obtain ⟨q3, hq, h⟩ := w_bind h
      refine ⟨q3.1, q3.2, ⟨_, T_ref05Number _ _ hq⟩, ?_⟩
      refine w_condN Iff.rfl h (fun hc127 h => ?_) (fun hc127 h => ?_)
      ·
        cases h; exact ⟨rfl, rfl⟩
      ·
        cases h; exact ⟨rfl, rfl⟩
theorem T_ref05One_L13 (text : Str) (at_ : Int) (to_ : Int) (o4 : Token) (r : Token × Int) (h : ref05One_L13 text at_ to_ o4 = some r) : Ok (c_ref05One (Trip Try.prog) [.d (.agg [(.int .i64 r.1.K), (.int .i64 r.1.N), (.str r.1.S), (.int .i64 r.1.From), (.int .i64 r.1.To)]), .d (.int .i64 r.2)] []) (kL Try.f26 13) ⟨114, [(0, .d (.str text)), (1, .d (.int .i64 at_)), (4, .ref 4 1 0), (7, .d (.int .i64 to_))], [(4, 1, some (.agg (.agg [(.int .i64 o4.K), (.int .i64 o4.N), (.str o4.S), (.int .i64 o4.From), (.int .i64 o4.To)])))], [], 0⟩ := G_ref05One_L13 (.ref05One_L13 text at_ to_ o4) r h
def M_ref05One_L21 : (i : I_ref05One_L21) → R_ref05One_L21 i → Prop
  | .ref05One_L21 text at_ all i o4, r => Ok (c_ref05One (Trip Try.prog) [.d (.agg [(.int .i64 r.1.K), (.int .i64 r.1.N), (.str r.1.S), (.int .i64 r.1.From), (.int .i64 r.1.To)]), .d (.int .i64 r.2)] []) (kL Try.f26 21) ⟨114, [(0, .d (.str text)), (1, .d (.int .i64 at_)), (4, .ref 4 1 0), (11, .d (.sl (List.map D.str all))), (12, .d (.int .i64 i))], [(4, 1, some (.agg (.agg [(.int .i64 o4.K), (.int .i64 o4.N), (.str o4.S), (.int .i64 o4.From), (.int .i64 o4.To)])))], [], 0⟩
theorem G_ref05One_L21 : ∀ i r, fixF F_ref05One_L21 i = some r → M_ref05One_L21 i r := by
  refine fixF_induct D_ref05One_L21 fun g ih i => ?_
  cases i with
  | ref05One_L21 text at_ all i o4 =>
    have ih_ref05One_L21 : ∀ (text : Str) (at_ : Int) (all : List Str) (i : Int) (o4 : Token) (r : Token × Int), g (I_ref05One_L21.ref05One_L21 text at_ all i o4) = some r → Ok (c_ref05One (Trip Try.prog) [.d (.agg [(.int .i64 r.1.K), (.int .i64 r.1.N), (.str r.1.S), (.int .i64 r.1.From), (.int .i64 r.1.To)]), .d (.int .i64 r.2)] []) (kL Try.f26 21) ⟨114, [(0, .d (.str text)), (1, .d (.int .i64 at_)), (4, .ref 4 1 0), (11, .d (.sl (List.map D.str all))), (12, .d (.int .i64 i))], [(4, 1, some (.agg (.agg [(.int .i64 o4.K), (.int .i64 o4.N), (.str o4.S), (.int .i64 o4.From), (.int .i64 o4.To)])))], [], 0⟩ := fun text at_ all i o4 r h => ih (.ref05One_L21 text at_ all i o4) r h
    intro r h
    show Ok (c_ref05One (Trip Try.prog) [.d (.agg [(.int .i64 r.1.K), (.int .i64 r.1.N), (.str r.1.S), (.int .i64 r.1.From), (.int .i64 r.1.To)]), .d (.int .i64 r.2)] []) (kL Try.f26 21) ⟨114, [(0, .d (.str text)), (1, .d (.int .i64 at_)), (4, .ref 4 1 0), (11, .d (.sl (List.map D.str all))), (12, .d (.int .i64 i))], [(4, 1, some (.agg (.agg [(.int .i64 o4.K), (.int .i64 o4.N), (.str o4.S), (.int .i64 o4.From), (.int .i64 o4.To)])))], [], 0⟩
    replace h : ref05One_L21_B (fun text at_ all i o4 => g (I_ref05One_L21.ref05One_L21 text at_ all i o4)) text at_ all i o4 = some r := h
    unfold ref05One_L21_B at h
    refine ok_ev 1000 (e_ref05One_L21 _ _ text at_ all i o4 _ _) ?_
    refine w_nam (e' := (List.length all : Int)) (by first | rfl | rw [List.length_map]) ?_
    rintro _ rfl
    refine w_condH decide_eq_true_iff h (fun hc128 h => ?_) (fun hc128 h => ?_)
    ·
      obtain ⟨x, hx, h⟩ := w_bind h
      refine ⟨sizedL (l := all) (fun _ => rfl), w_ge hx, x, w_get rfl hx, ?_⟩
      obtain ⟨q1, hq, h⟩ := w_bind h
      refine ⟨q1, ⟨_, T_ref05Begins _ _ _ _ hq⟩, ?_⟩
      refine w_condH Iff.rfl h (fun hc129 h => ?_) (fun hc129 h => ?_)
      ·
        obtain ⟨x1, hx, h⟩ := w_bind h
        refine ⟨sizedL (l := all) (fun _ => rfl), w_ge hx, x1, w_get rfl hx, ?_⟩
        obtain ⟨x2, hx, h⟩ := w_bind h
        refine ⟨sizedL (l := all) (fun _ => rfl), w_ge hx, x2, w_get rfl hx, ?_⟩
        rintro _ rfl
        rintro _ rfl
        cases h; exact ⟨rfl, rfl⟩
      ·
        rintro _ rfl
        exact ih_ref05One_L21 _ _ _ _ _ _ h
    ·
      cases h; exact ⟨rfl, rfl⟩
theorem T_ref05One_L21 (text : Str) (at_ : Int) (all : List Str) (i : Int) (o4 : Token) (r : Token × Int) (h : ref05One_L21 text at_ all i o4 = some r) : Ok (c_ref05One (Trip Try.prog) [.d (.agg [(.int .i64 r.1.K), (.int .i64 r.1.N), (.str r.1.S), (.int .i64 r.1.From), (.int .i64 r.1.To)]), .d (.int .i64 r.2)] []) (kL Try.f26 21) ⟨114, [(0, .d (.str text)), (1, .d (.int .i64 at_)), (4, .ref 4 1 0), (11, .d (.sl (List.map D.str all))), (12, .d (.int .i64 i))], [(4, 1, some (.agg (.agg [(.int .i64 o4.K), (.int .i64 o4.N), (.str o4.S), (.int .i64 o4.From), (.int .i64 o4.To)])))], [], 0⟩ := G_ref05One_L21 (.ref05One_L21 text at_ all i o4) r h
def M_ref05Among_L2 : (i : I_ref05Among_L2) → R_ref05Among_L2 i → Prop
  | .ref05Among_L2 s all i, r => Ok (c_ref05Among (Trip Try.prog) [.d (.bool r)] []) (kL Try.f38 2) ⟨18, [(0, .d (.str s)), (1, .d (.sl (List.map D.str all))), (5, .d (.int .i64 i))], [], [], 0⟩
theorem G_ref05Among_L2 : ∀ i r, fixF F_ref05Among_L2 i = some r → M_ref05Among_L2 i r := by
  refine fixF_induct D_ref05Among_L2 fun g ih i => ?_
  cases i with
  | ref05Among_L2 s all i =>
    have ih_ref05Among_L2 : ∀ (s : Str) (all : List Str) (i : Int) (r : Bool), g (I_ref05Among_L2.ref05Among_L2 s all i) = some r → Ok (c_ref05Among (Trip Try.prog) [.d (.bool r)] []) (kL Try.f38 2) ⟨18, [(0, .d (.str s)), (1, .d (.sl (List.map D.str all))), (5, .d (.int .i64 i))], [], [], 0⟩ := fun s all i r h => ih (.ref05Among_L2 s all i) r h
    intro r h
    show Ok (c_ref05Among (Trip Try.prog) [.d (.bool r)] []) (kL Try.f38 2) ⟨18, [(0, .d (.str s)), (1, .d (.sl (List.map D.str all))), (5, .d (.int .i64 i))], [], [], 0⟩
    replace h : ref05Among_L2_B (fun s all i => g (I_ref05Among_L2.ref05Among_L2 s all i)) s all i = some r := h
    unfold ref05Among_L2_B at h
    refine ok_ev 1000 (e_ref05Among_L2 _ _ s all i _ _) ?_
    refine w_nam (e' := (List.length all : Int)) (by first | rfl | rw [List.length_map]) ?_
    rintro _ rfl
    refine w_condH decide_eq_true_iff h (fun hc130 h => ?_) (fun hc130 h => ?_)
    ·
      obtain ⟨x, hx, h⟩ := w_bind h
      refine ⟨sizedL (l := all) (fun _ => rfl), w_ge hx, x, w_get rfl hx, ?_⟩
      rintro _ rfl
      refine w_condH beq_iff_eq h (fun hc131 h => ?_) (fun hc131 h => ?_)
      ·
        cases h; exact ⟨rfl, rfl⟩
      ·
        rintro _ rfl
        exact ih_ref05Among_L2 _ _ _ _ h
    ·
      cases h; exact ⟨rfl, rfl⟩
theorem T_ref05Among_L2 (s : Str) (all : List Str) (i : Int) (r : Bool) (h : ref05Among_L2 s all i = some r) : Ok (c_ref05Among (Trip Try.prog) [.d (.bool r)] []) (kL Try.f38 2) ⟨18, [(0, .d (.str s)), (1, .d (.sl (List.map D.str all))), (5, .d (.int .i64 i))], [], [], 0⟩ := G_ref05Among_L2 (.ref05Among_L2 s all i) r h
theorem T_ref05Among (s : Str) (all : List Str) (r : Bool) (h : ref05Among s all = some r) : Trip Try.prog 38 [.d (.str s), .d (.sl (List.map D.str all))] [] [.d (.bool r)] [] := by
  unfold ref05Among at h
  refine trip_ev 1000 (by kernel_rfl) (by kernel_rfl) (by kernel_rfl) (by kernel_rfl) (by kernel_rfl) (e_ref05Among _ _ s all _ _) ?_
  exact T_ref05Among_L2 _ _ _ _ h
theorem T_ref05Words  (r : List Str) (h : ref05Words = some r) : Trip Try.prog 39 [] [] [.d (.sl (List.map D.str r))] [] := by
  unfold ref05Words at h
  refine trip_ev 1000 (by kernel_rfl) (by kernel_rfl) (by kernel_rfl) (by kernel_rfl) (by kernel_rfl) (e_ref05Words _ _  _ _) ?_
  cases h; exact ⟨rfl, rfl⟩
def M_ref05One_L4 : (i : I_ref05One_L4) → R_ref05One_L4 i → Prop
  | .ref05One_L4 text at_ to_ o4, r => Ok (c_ref05One (Trip Try.prog) [.d (.agg [(.int .i64 r.1.K), (.int .i64 r.1.N), (.str r.1.S), (.int .i64 r.1.From), (.int .i64 r.1.To)]), .d (.int .i64 r.2)] []) (kL Try.f26 4) ⟨114, [(0, .d (.str text)), (1, .d (.int .i64 at_)), (4, .ref 4 1 0), (7, .d (.int .i64 to_))], [(4, 1, some (.agg (.agg [(.int .i64 o4.K), (.int .i64 o4.N), (.str o4.S), (.int .i64 o4.From), (.int .i64 o4.To)])))], [], 0⟩
theorem G_ref05One_L4 : ∀ i r, fixF F_ref05One_L4 i = some r → M_ref05One_L4 i r := by
  refine fixF_induct D_ref05One_L4 fun g ih i => ?_
  cases i with
  | ref05One_L4 text at_ to_ o4 =>
    have ih_ref05One_L4 : ∀ (text : Str) (at_ : Int) (to_ : Int) (o4 : Token) (r : Token × Int), g (I_ref05One_L4.ref05One_L4 text at_ to_ o4) = some r → Ok (c_ref05One (Trip Try.prog) [.d (.agg [(.int .i64 r.1.K), (.int .i64 r.1.N), (.str r.1.S), (.int .i64 r.1.From), (.int .i64 r.1.To)]), .d (.int .i64 r.2)] []) (kL Try.f26 4) ⟨114, [(0, .d (.str text)), (1, .d (.int .i64 at_)), (4, .ref 4 1 0), (7, .d (.int .i64 to_))], [(4, 1, some (.agg (.agg [(.int .i64 o4.K), (.int .i64 o4.N), (.str o4.S), (.int .i64 o4.From), (.int .i64 o4.To)])))], [], 0⟩ := fun text at_ to_ o4 r h => ih (.ref05One_L4 text at_ to_ o4) r h
    intro r h
    show Ok (c_ref05One (Trip Try.prog) [.d (.agg [(.int .i64 r.1.K), (.int .i64 r.1.N), (.str r.1.S), (.int .i64 r.1.From), (.int .i64 r.1.To)]), .d (.int .i64 r.2)] []) (kL Try.f26 4) ⟨114, [(0, .d (.str text)), (1, .d (.int .i64 at_)), (4, .ref 4 1 0), (7, .d (.int .i64 to_))], [(4, 1, some (.agg (.agg [(.int .i64 o4.K), (.int .i64 o4.N), (.str o4.S), (.int .i64 o4.From), (.int .i64 o4.To)])))], [], 0⟩
    replace h : ref05One_L4_B (fun text at_ to_ o4 => g (I_ref05One_L4.ref05One_L4 text at_ to_ o4)) text at_ to_ o4 = some r := h
    unfold ref05One_L4_B at h
    refine ok_ev 1000 (e_ref05One_L4 _ _ text at_ to_ o4 _ _) ?_
    rintro _ rfl
    rintro _ rfl
    refine w_condH decide_eq_true_iff h (fun hc132 h => ?_) (fun hc132 h => ?_)
    ·
      obtain ⟨c, hx, h⟩ := w_bind h
      refine ⟨w_ge hx, c, w_at hx, ?_⟩
      rintro _ rfl
      obtain ⟨q1, hq, h⟩ := w_bind h
      refine ⟨q1, ⟨_, T_ref05Letter _ _ hq⟩, ?_⟩
      refine w_condH Iff.rfl h (fun hc133 h => ?_) (fun hc133 h => ?_)
      ·
        rintro _ rfl
        exact ih_ref05One_L4 _ _ _ _ _ h
      ·
        obtain ⟨c1, hx, h⟩ := w_bind h
        refine ⟨w_ge hx, c1, w_at hx, ?_⟩
        rintro _ rfl
        obtain ⟨q2, hq, h⟩ := w_bind h
        refine ⟨q2, ⟨_, T_ref05Digit _ _ hq⟩, ?_⟩
        refine w_condH Iff.rfl h (fun hc134 h => ?_) (fun hc134 h => ?_)
        ·
          rintro _ rfl
          exact ih_ref05One_L4 _ _ _ _ _ h
        ·
          rintro _ rfl
          rintro _ rfl
          refine w_condH decide_eq_true_iff h (fun hc135 h => ?_) (fun hc135 h => ?_)
          ·
            cases h; exact ⟨rfl, rfl⟩
          ·
            obtain ⟨hP, h⟩ := w_chk h
            refine ⟨by first | exact hP | (simp only [List.length_map, List.length_cons, List.length_nil] at hP ⊢; exact hP), ?_⟩
            obtain ⟨hP, h⟩ := w_chk h
            refine ⟨by first | exact hP | (simp only [List.length_map, List.length_cons, List.length_nil] at hP ⊢; exact hP), ?_⟩
            obtain ⟨hP, h⟩ := w_chk h
            refine ⟨by first | exact hP | (simp only [List.length_map, List.length_cons, List.length_nil] at hP ⊢; exact hP), ?_⟩
            obtain ⟨hP, h⟩ := w_chk h
            refine ⟨by first | exact hP | (simp only [List.length_map, List.length_cons, List.length_nil] at hP ⊢; exact hP), ?_⟩
            rintro _ rfl
            obtain ⟨q3, hq, h⟩ := w_bind h
            refine ⟨List.map D.str q3, ⟨_, T_ref05Words _ hq⟩, ?_⟩
            obtain ⟨q4, hq, h⟩ := w_bind h
            refine ⟨q4, ⟨_, T_ref05Among _ _ _ hq⟩, ?_⟩
            refine w_condH Iff.rfl h (fun hc136 h => ?_) (fun hc136 h => ?_)
            ·
              cases h; exact ⟨rfl, rfl⟩
            ·
              cases h; exact ⟨rfl, rfl⟩
    ·
      rintro _ rfl
      rintro _ rfl
      refine w_condH decide_eq_true_iff h (fun hc137 h => ?_) (fun hc137 h => ?_)
      ·
        cases h; exact ⟨rfl, rfl⟩
      ·
        obtain ⟨hP, h⟩ := w_chk h
        refine ⟨by first | exact hP | (simp only [List.length_map, List.length_cons, List.length_nil] at hP ⊢; exact hP), ?_⟩
        obtain ⟨hP, h⟩ := w_chk h
        refine ⟨by first | exact hP | (simp only [List.length_map, List.length_cons, List.length_nil] at hP ⊢; exact hP), ?_⟩
        obtain ⟨hP, h⟩ := w_chk h
        refine ⟨by first | exact hP | (simp only [List.length_map, List.length_cons, List.length_nil] at hP ⊢; exact hP), ?_⟩
        obtain ⟨hP, h⟩ := w_chk h
        refine ⟨by first | exact hP | (simp only [List.length_map, List.length_cons, List.length_nil] at hP ⊢; exact hP), ?_⟩
        rintro _ rfl
        obtain ⟨q5, hq, h⟩ := w_bind h
        refine ⟨List.map D.str q5, ⟨_, T_ref05Words _ hq⟩, ?_⟩
        obtain ⟨q6, hq, h⟩ := w_bind h
        refine ⟨q6, ⟨_, T_ref05Among _ _ _ hq⟩, ?_⟩
        refine w_condH Iff.rfl h (fun hc138 h => ?_) (fun hc138 h => ?_)
        ·
          cases h; exact ⟨rfl, rfl⟩
        ·
          cases h; exact ⟨rfl, rfl⟩
theorem T_ref05One_L4 (text : Str) (at_ : Int) (to_ : Int) (o4 : Token) (r : Token × Int) (h : ref05One_L4 text at_ to_ o4 = some r) : Ok (c_ref05One (Trip Try.prog) [.d (.agg [(.int .i64 r.1.K), (.int .i64 r.1.N), (.str r.1.S), (.int .i64 r.1.From), (.int .i64 r.1.To)]), .d (.int .i64 r.2)] []) (kL Try.f26 4) ⟨114, [(0, .d (.str text)), (1, .d (.int .i64 at_)), (4, .ref 4 1 0), (7, .d (.int .i64 to_))], [(4, 1, some (.agg (.agg [(.int .i64 o4.K), (.int .i64 o4.N), (.str o4.S), (.int .i64 o4.From), (.int .i64 o4.To)])))], [], 0⟩ := G_ref05One_L4 (.ref05One_L4 text at_ to_ o4) r h
theorem T_ref05Signs  (r : List Str) (h : ref05Signs = some r) : Trip Try.prog 41 [] [] [.d (.sl (List.map D.str r))] [] := by
  unfold ref05Signs at h
  refine trip_ev 1000 (by kernel_rfl) (by kernel_rfl) (by kernel_rfl) (by kernel_rfl) (by kernel_rfl) (e_ref05Signs _ _  _ _) ?_
  cases h; exact ⟨rfl, rfl⟩
theorem T_ref05One (text : Str) (at_ : Int) (r : Token × Int) (h : ref05One text at_ = some r) : Trip Try.prog 26 [.d (.str text), .d (.int .i64 at_)] [] [.d (.agg [(.int .i64 r.1.K), (.int .i64 r.1.N), (.str r.1.S), (.int .i64 r.1.From), (.int .i64 r.1.To)]), .d (.int .i64 r.2)] [] := by
  unfold ref05One at h
  refine trip_ev 1000 (by kernel_rfl) (by kernel_rfl) (by kernel_rfl) (by kernel_rfl) (by kernel_rfl) (e_ref05One _ _ text at_ _ _) ?_
  obtain ⟨c, hx, h⟩ := w_bind h
  refine ⟨w_ge hx, c, w_at hx, ?_⟩
  rintro _ rfl
  obtain ⟨q1, hq, h⟩ := w_bind h
  refine ⟨q1, ⟨_, T_ref05Letter _ _ hq⟩, ?_⟩
  refine w_condH Iff.rfl h (fun hc139 h => ?_) (fun hc139 h => ?_)
  ·
    exact T_ref05One_L4 _ _ _ _ _ h
  ·
    obtain ⟨q2, hq, h⟩ := w_bind h
    refine ⟨q2, ⟨_, T_ref05Digit _ _ hq⟩, ?_⟩
    refine w_condH Iff.rfl h (fun hc140 h => ?_) (fun hc140 h => ?_)
    ·
      exact T_ref05One_L13 _ _ _ _ _ h
    ·
      obtain ⟨q3, hq, h⟩ := w_bind h
      refine ⟨List.map D.str q3, ⟨_, T_ref05Signs _ hq⟩, ?_⟩
      exact T_ref05One_L21 _ _ _ _ _ _ h
def M_ref05Tokens_L5 : (i : I_ref05Tokens_L5) → R_ref05Tokens_L5 i → Prop
  | .ref05Tokens_L5 text out at_, r => Ok (c_ref05Tokens (Trip Try.prog) [.d (.sl (List.map Token.toD r.1)), .d (.int .i64 r.2.1), .d (.int .i64 r.2.2)] []) (kL Try.f12 5) ⟨47, [(0, .d (.str text)), (5, .right 9 1 5 (List.map Token.toD out)), (6, .d (.int .i64 at_))], [(9, 1, some (.tok 5 (List.length (List.map Token.toD out))))], [], 0⟩
theorem G_ref05Tokens_L5 : ∀ i r, fixF F_ref05Tokens_L5 i = some r → M_ref05Tokens_L5 i r := by
  refine fixF_induct D_ref05Tokens_L5 fun g ih i => ?_
  cases i with
  | ref05Tokens_L5 text out at_ =>
    have ih_ref05Tokens_L5 : ∀ (text : Str) (out : List Token) (at_ : Int) (r : List Token × Int × Int), g (I_ref05Tokens_L5.ref05Tokens_L5 text out at_) = some r → Ok (c_ref05Tokens (Trip Try.prog) [.d (.sl (List.map Token.toD r.1)), .d (.int .i64 r.2.1), .d (.int .i64 r.2.2)] []) (kL Try.f12 5) ⟨47, [(0, .d (.str text)), (5, .right 9 1 5 (List.map Token.toD out)), (6, .d (.int .i64 at_))], [(9, 1, some (.tok 5 (List.length (List.map Token.toD out))))], [], 0⟩ := fun text out at_ r h => ih (.ref05Tokens_L5 text out at_) r h
    intro r h
    show Ok (c_ref05Tokens (Trip Try.prog) [.d (.sl (List.map Token.toD r.1)), .d (.int .i64 r.2.1), .d (.int .i64 r.2.2)] []) (kL Try.f12 5) ⟨47, [(0, .d (.str text)), (5, .right 9 1 5 (List.map Token.toD out)), (6, .d (.int .i64 at_))], [(9, 1, some (.tok 5 (List.length (List.map Token.toD out))))], [], 0⟩
    replace h : ref05Tokens_L5_B (fun text out at_ => g (I_ref05Tokens_L5.ref05Tokens_L5 text out at_)) text out at_ = some r := h
    unfold ref05Tokens_L5_B at h
    refine ok_ev 1000 (e_ref05Tokens_L5 _ _ text out at_ _ _) ?_
    rintro _ rfl
    rintro _ rfl
    refine w_condH decide_eq_true_iff h (fun hc141 h => ?_) (fun hc141 h => ?_)
    ·
      obtain ⟨q1, hq, h⟩ := w_bind h
      refine ⟨q1.1.K, q1.1.N, q1.1.S, q1.1.From, q1.1.To, q1.2, ⟨_, T_ref05One _ _ _ hq⟩, ?_⟩
      rintro _ rfl
      refine w_condN beq_iff_eq h (fun hc142 h => ?_) (fun hc142 h => ?_)
      ·
        refine ⟨by simp [sized, D.cells], ?_⟩
        refine ⟨by first | rfl | decide | simp only [List.length_map, List.length_cons, List.length_nil, List.map_append, List.length_append], ?_⟩
        obtain ⟨hP, h⟩ := w_chk h
        refine ⟨by first | exact hP | (simp only [List.length_map, List.length_cons, List.length_nil] at hP ⊢; exact hP), ?_⟩
        refine w_nam (e' := List.map Token.toD (out ++ [q1.1])) (by first | rfl | simp only [List.map_append, List.map_cons, List.map_nil, List.map_take, List.map_drop, List.map_set, List.map_replicate, List.length_map, Token.toD_eq]) ?_
        obtain ⟨q2, hq, h⟩ := w_bind h
        refine ⟨q2, ⟨_, T_ref05Next _ _ _ hq⟩, ?_⟩
        exact ih_ref05Tokens_L5 _ _ _ _ h
      ·
        cases h; exact ⟨rfl, rfl⟩
    ·
      rintro _ rfl
      rintro _ rfl
      refine ⟨by simp [sized, D.cells], ?_⟩
      refine ⟨by first | rfl | decide | simp only [List.length_map, List.length_cons, List.length_nil, List.map_append, List.length_append], ?_⟩
      obtain ⟨hP, h⟩ := w_chk h
      refine ⟨by first | exact hP | (simp only [List.length_map, List.length_cons, List.length_nil] at hP ⊢; exact hP), ?_⟩
      refine w_nam (e' := List.map Token.toD (out ++ [(Token.mk 5 0 ([] : List UInt8) (List.length text : Int) (List.length text : Int))])) (by first | rfl | simp only [List.map_append, List.map_cons, List.map_nil, List.map_take, List.map_drop, List.map_set, List.map_replicate, List.length_map, Token.toD_eq]) ?_
      cases h; exact ⟨rfl, rfl⟩
theorem T_ref05Tokens_L5 (text : Str) (out : List Token) (at_ : Int) (r : List Token × Int × Int) (h : ref05Tokens_L5 text out at_ = some r) : Ok (c_ref05Tokens (Trip Try.prog) [.d (.sl (List.map Token.toD r.1)), .d (.int .i64 r.2.1), .d (.int .i64 r.2.2)] []) (kL Try.f12 5) ⟨47, [(0, .d (.str text)), (5, .right 9 1 5 (List.map Token.toD out)), (6, .d (.int .i64 at_))], [(9, 1, some (.tok 5 (List.length (List.map Token.toD out))))], [], 0⟩ := G_ref05Tokens_L5 (.ref05Tokens_L5 text out at_) r h
theorem T_ref05Tokens (text : Str) (r : List Token × Int × Int) (h : ref05Tokens text = some r) : Trip Try.prog 12 [.d (.str text)] [] [.d (.sl (List.map Token.toD r.1)), .d (.int .i64 r.2.1), .d (.int .i64 r.2.2)] [] := by
  unfold ref05Tokens at h
  refine trip_ev 1000 (by kernel_rfl) (by kernel_rfl) (by kernel_rfl) (by kernel_rfl) (by kernel_rfl) (e_ref05Tokens _ _ text _ _) ?_
  rintro _ rfl
  rintro _ rfl
  refine w_condH decide_eq_true_iff h (fun hc143 h => ?_) (fun hc143 h => ?_)
  ·
    cases h; exact ⟨rfl, rfl⟩
  ·
    obtain ⟨q1, hq, h⟩ := w_bind h
    refine ⟨q1, ⟨_, T_ref05Next _ _ _ hq⟩, ?_⟩
    exact T_ref05Tokens_L5 _ _ _ _ h
def M_ref06Same : (i : I_ref06Same) → R_ref06Same i → Prop
  | .ref06Same a b, r => Trip Try.prog 13 [.d (.agg [(.int .i64 a.K), (.int .i64 a.N), (.str a.S), (.sl (List.map Term.toD a.L)), (.int .i64 a.From), (.int .i64 a.To)]), .d (.agg [(.int .i64 b.K), (.int .i64 b.N), (.str b.S), (.sl (List.map Term.toD b.L)), (.int .i64 b.From), (.int .i64 b.To)])] [] [.d (.bool r)] []
  | .ref06Same_L4 i a b, r => Ok (c_ref06Same (Trip Try.prog) [.d (.bool r)] []) (kL Try.f13 4) ⟨53, [(2, .ref 2 1 0), (3, .ref 3 1 0), (5, .d (.int .i64 i))], [(2, 1, some (.agg (.agg [(.int .i64 a.K), (.int .i64 a.N), (.str a.S), (.sl (List.map Term.toD a.L)), (.int .i64 a.From), (.int .i64 a.To)]))), (3, 1, some (.agg (.agg [(.int .i64 b.K), (.int .i64 b.N), (.str b.S), (.sl (List.map Term.toD b.L)), (.int .i64 b.From), (.int .i64 b.To)])))], [], 0⟩
theorem G_ref06Same : ∀ i r, fixF F_ref06Same i = some r → M_ref06Same i r := by
  refine fixF_induct D_ref06Same fun g ih i => ?_
  cases i with
  | ref06Same a b =>
    have ih_ref06Same_L4 : ∀ (i : Int) (a : Term) (b : Term) (r : Bool), g (I_ref06Same.ref06Same_L4 i a b) = some r → Ok (c_ref06Same (Trip Try.prog) [.d (.bool r)] []) (kL Try.f13 4) ⟨53, [(2, .ref 2 1 0), (3, .ref 3 1 0), (5, .d (.int .i64 i))], [(2, 1, some (.agg (.agg [(.int .i64 a.K), (.int .i64 a.N), (.str a.S), (.sl (List.map Term.toD a.L)), (.int .i64 a.From), (.int .i64 a.To)]))), (3, 1, some (.agg (.agg [(.int .i64 b.K), (.int .i64 b.N), (.str b.S), (.sl (List.map Term.toD b.L)), (.int .i64 b.From), (.int .i64 b.To)])))], [], 0⟩ := fun i a b r h => ih (.ref06Same_L4 i a b) r h
    intro r h
    show Trip Try.prog 13 [.d (.agg [(.int .i64 a.K), (.int .i64 a.N), (.str a.S), (.sl (List.map Term.toD a.L)), (.int .i64 a.From), (.int .i64 a.To)]), .d (.agg [(.int .i64 b.K), (.int .i64 b.N), (.str b.S), (.sl (List.map Term.toD b.L)), (.int .i64 b.From), (.int .i64 b.To)])] [] [.d (.bool r)] []
    replace h : ref06Same_B (fun i a b => g (I_ref06Same.ref06Same_L4 i a b)) a b = some r := h
    unfold ref06Same_B at h
    refine trip_ev 1000 (by kernel_rfl) (by kernel_rfl) (by kernel_rfl) (by kernel_rfl) (by kernel_rfl) (e_ref06Same _ _ a b _ _) ?_
    rintro _ rfl
    refine w_condN beq_iff_eq h (fun hc144 h => ?_) (fun hc144 h => ?_)
    ·
      rintro _ rfl
      refine w_condN beq_iff_eq h (fun hc145 h => ?_) (fun hc145 h => ?_)
      ·
        rintro _ rfl
        refine w_condN beq_iff_eq h (fun hc146 h => ?_) (fun hc146 h => ?_)
        ·
          refine w_nam (e' := (List.length a.L : Int)) (by first | rfl | rw [List.length_map]) ?_
          refine w_nam (e' := (List.length b.L : Int)) (by first | rfl | rw [List.length_map]) ?_
          rintro _ rfl
          refine w_condN beq_iff_eq h (fun hc147 h => ?_) (fun hc147 h => ?_)
          ·
            exact ih_ref06Same_L4 _ _ _ _ h
          ·
            cases h; exact ⟨rfl, rfl⟩
        ·
          cases h; exact ⟨rfl, rfl⟩
      ·
        cases h; exact ⟨rfl, rfl⟩
    ·
      cases h; exact ⟨rfl, rfl⟩
  | ref06Same_L4 i a b =>
    have ih_ref06Same : ∀ (a : Term) (b : Term) (r : Bool), g (I_ref06Same.ref06Same a b) = some r → Trip Try.prog 13 [.d (.agg [(.int .i64 a.K), (.int .i64 a.N), (.str a.S), (.sl (List.map Term.toD a.L)), (.int .i64 a.From), (.int .i64 a.To)]), .d (.agg [(.int .i64 b.K), (.int .i64 b.N), (.str b.S), (.sl (List.map Term.toD b.L)), (.int .i64 b.From), (.int .i64 b.To)])] [] [.d (.bool r)] [] := fun a b r h => ih (.ref06Same a b) r h
    have ih_ref06Same_L4 : ∀ (i : Int) (a : Term) (b : Term) (r : Bool), g (I_ref06Same.ref06Same_L4 i a b) = some r → Ok (c_ref06Same (Trip Try.prog) [.d (.bool r)] []) (kL Try.f13 4) ⟨53, [(2, .ref 2 1 0), (3, .ref 3 1 0), (5, .d (.int .i64 i))], [(2, 1, some (.agg (.agg [(.int .i64 a.K), (.int .i64 a.N), (.str a.S), (.sl (List.map Term.toD a.L)), (.int .i64 a.From), (.int .i64 a.To)]))), (3, 1, some (.agg (.agg [(.int .i64 b.K), (.int .i64 b.N), (.str b.S), (.sl (List.map Term.toD b.L)), (.int .i64 b.From), (.int .i64 b.To)])))], [], 0⟩ := fun i a b r h => ih (.ref06Same_L4 i a b) r h
    intro r h
    show Ok (c_ref06Same (Trip Try.prog) [.d (.bool r)] []) (kL Try.f13 4) ⟨53, [(2, .ref 2 1 0), (3, .ref 3 1 0), (5, .d (.int .i64 i))], [(2, 1, some (.agg (.agg [(.int .i64 a.K), (.int .i64 a.N), (.str a.S), (.sl (List.map Term.toD a.L)), (.int .i64 a.From), (.int .i64 a.To)]))), (3, 1, some (.agg (.agg [(.int .i64 b.K), (.int .i64 b.N), (.str b.S), (.sl (List.map Term.toD b.L)), (.int .i64 b.From), (.int .i64 b.To)])))], [], 0⟩
    replace h : ref06Same_L4_B (fun a b => g (I_ref06Same.ref06Same a b)) (fun i a b => g (I_ref06Same.ref06Same_L4 i a b)) i a b = some r := h
    unfold ref06Same_L4_B at h
    refine ok_ev 1000 (e_ref06Same_L4 _ _ i a b _ _) ?_
    refine w_nam (e' := (List.length a.L : Int)) (by first | rfl | rw [List.length_map]) ?_
    rintro _ rfl
    refine w_condH decide_eq_true_iff h (fun hc148 h => ?_) (fun hc148 h => ?_)
    ·
      obtain ⟨x, hx, h⟩ := w_bind h
      refine ⟨sizedL (l := a.L) (Term.sz), w_ge hx, x.K, x.N, x.S, List.map Term.toD x.L, x.From, x.To, w_get (Term.toD_eq x) hx, ?_⟩
      obtain ⟨x1, hx, h⟩ := w_bind h
      refine ⟨sizedL (l := b.L) (Term.sz), w_ge hx, x1.K, x1.N, x1.S, List.map Term.toD x1.L, x1.From, x1.To, w_get (Term.toD_eq x1) hx, ?_⟩
      obtain ⟨q1, hq, h⟩ := w_bind h
      refine ⟨q1, ⟨_, ih_ref06Same _ _ _ hq⟩, ?_⟩
      refine w_condN Iff.rfl h (fun hc149 h => ?_) (fun hc149 h => ?_)
      ·
        rintro _ rfl
        exact ih_ref06Same_L4 _ _ _ _ h
      ·
        cases h; exact ⟨rfl, rfl⟩
    ·
      cases h; exact ⟨rfl, rfl⟩
theorem T_ref06Same (a : Term) (b : Term) (r : Bool) (h : ref06Same a b = some r) : Trip Try.prog 13 [.d (.agg [(.int .i64 a.K), (.int .i64 a.N), (.str a.S), (.sl (List.map Term.toD a.L)), (.int .i64 a.From), (.int .i64 a.To)]), .d (.agg [(.int .i64 b.K), (.int .i64 b.N), (.str b.S), (.sl (List.map Term.toD b.L)), (.int .i64 b.From), (.int .i64 b.To)])] [] [.d (.bool r)] [] := G_ref06Same (.ref06Same a b) r h
theorem T_ref06Same_L4 (i : Int) (a : Term) (b : Term) (r : Bool) (h : ref06Same_L4 i a b = some r) : Ok (c_ref06Same (Trip Try.prog) [.d (.bool r)] []) (kL Try.f13 4) ⟨53, [(2, .ref 2 1 0), (3, .ref 3 1 0), (5, .d (.int .i64 i))], [(2, 1, some (.agg (.agg [(.int .i64 a.K), (.int .i64 a.N), (.str a.S), (.sl (List.map Term.toD a.L)), (.int .i64 a.From), (.int .i64 a.To)]))), (3, 1, some (.agg (.agg [(.int .i64 b.K), (.int .i64 b.N), (.str b.S), (.sl (List.map Term.toD b.L)), (.int .i64 b.From), (.int .i64 b.To)])))], [], 0⟩ := G_ref06Same (.ref06Same_L4 i a b) r h
theorem T_stmt_start_reader_stmt (t : List Token) (at_ : Int) (r : Term × Int × Int) (h : stmt_start_reader_stmt t at_ = some r) : Trip Try.prog 14 [.d (.sl (List.map Token.toD t)), .d (.int .i64 at_), .fn 20 [] []] [] [.d (.agg [(.int .i64 r.1.K), (.int .i64 r.1.N), (.str r.1.S), (.sl (List.map Term.toD r.1.L)), (.int .i64 r.1.From), (.int .i64 r.1.To)]), .d (.int .i64 r.2.1), .d (.int .i64 r.2.2)] [] := by
  unfold stmt_start_reader_stmt at h
  refine trip_ev 1000 (by kernel_rfl) (by kernel_rfl) (by kernel_rfl) (by kernel_rfl) (by kernel_rfl) (e_stmt_start_reader_stmt _ _ t at_ _ _) ?_
  rintro _ rfl
  refine w_condH decide_eq_true_iff h (fun hc150 h => ?_) (fun hc150 h => ?_)
  ·
    cases h; exact ⟨rfl, rfl⟩
  ·
    refine w_nam (e' := (List.length t : Int)) (by first | rfl | rw [List.length_map]) ?_
    rintro _ rfl
    refine w_condH decide_eq_true_iff h (fun hc151 h => ?_) (fun hc151 h => ?_)
    ·
      cases h; exact ⟨rfl, rfl⟩
    ·
      obtain ⟨q1, hq, h⟩ := w_bind h
      refine ⟨q1.1.K, q1.1.N, q1.1.S, List.map Term.toD q1.1.L, q1.1.From, q1.1.To, List.map Token.toD q1.2.1, q1.2.2.1, q1.2.2.2, T_stmt_reader_stmt _ _ _ _ hq, ?_⟩
      rintro _ rfl
      refine w_condN beq_iff_eq h (fun hc152 h => ?_) (fun hc152 h => ?_)
      ·
        cases h; exact ⟨rfl, rfl⟩
      ·
        cases h; exact ⟨rfl, rfl⟩
theorem T_stmt_Parse (t : List Token) (at_ : Int) (r : Term × Int × Int) (h : stmt_Parse t at_ = some r) : Trip Try.prog 10 [.d (.sl (List.map Token.toD t)), .d (.int .i64 at_)] [] [.d (.agg [(.int .i64 r.1.K), (.int .i64 r.1.N), (.str r.1.S), (.sl (List.map Term.toD r.1.L)), (.int .i64 r.1.From), (.int .i64 r.1.To)]), .d (.int .i64 r.2.1), .d (.int .i64 r.2.2)] [] := by
  unfold stmt_Parse at h
  refine trip_ev 1000 (by kernel_rfl) (by kernel_rfl) (by kernel_rfl) (by kernel_rfl) (by kernel_rfl) (e_stmt_Parse _ _ t at_ _ _) ?_
  obtain ⟨q1, hq, h⟩ := w_bind h
  refine ⟨q1.1.K, q1.1.N, q1.1.S, List.map Term.toD q1.1.L, q1.1.From, q1.1.To, q1.2.1, q1.2.2, ⟨_, T_stmt_start_reader_stmt _ _ _ hq⟩, ?_⟩
  cases h; exact ⟨rfl, rfl⟩
theorem T_law08StmtJoins (a : Str) (b : Str) (r : Bool) (h : law08StmtJoins a b = some r) : Trip Try.prog 5 [.d (.str a), .d (.str b)] [] [.d (.bool r)] [] := by
  unfold law08StmtJoins at h
  refine trip_ev 1000 (by kernel_rfl) (by kernel_rfl) (by kernel_rfl) (by kernel_rfl) (by kernel_rfl) (e_law08StmtJoins _ _ a b _ _) ?_
  rintro _ rfl
  rintro _ rfl
  refine w_condH decide_eq_true_iff h (fun hc153 h => ?_) (fun hc153 h => ?_)
  ·
    obtain ⟨q1, hq, h⟩ := w_bind h
    refine ⟨q1, ⟨_, T_law08awake _ hq⟩, ?_⟩
    cases h; exact ⟨rfl, rfl⟩
  ·
    rintro _ rfl
    rintro _ rfl
    refine w_condH decide_eq_true_iff h (fun hc154 h => ?_) (fun hc154 h => ?_)
    ·
      obtain ⟨q2, hq, h⟩ := w_bind h
      refine ⟨q2, ⟨_, T_law08awake _ hq⟩, ?_⟩
      cases h; exact ⟨rfl, rfl⟩
    ·
      obtain ⟨q3, hq, h⟩ := w_bind h
      refine ⟨List.map Token.toD q3.1, q3.2.1, q3.2.2, ⟨_, T_ref05Tokens _ _ hq⟩, ?_⟩
      obtain ⟨q4, hq, h⟩ := w_bind h
      refine ⟨List.map Token.toD q4.1, q4.2.1, q4.2.2, ⟨_, T_ref05Tokens _ _ hq⟩, ?_⟩
      rintro _ rfl
      refine w_condN beq_iff_eq h (fun hc155 h => ?_) (fun hc155 h => ?_)
      ·
        rintro _ rfl
        refine w_condN beq_iff_eq h (fun hc156 h => ?_) (fun hc156 h => ?_)
        ·
          refine w_nam (e' := (List.length q3.1 : Int)) (by first | rfl | rw [List.length_map]) ?_
          rintro _ rfl
          refine w_condH decide_eq_true_iff h (fun hc157 h => ?_) (fun hc157 h => ?_)
          ·
            obtain ⟨q7, hq, h⟩ := w_bind h
            refine ⟨q7, ⟨_, T_law08awake _ hq⟩, ?_⟩
            cases h; exact ⟨rfl, rfl⟩
          ·
            refine w_nam (e' := (List.length q4.1 : Int)) (by first | rfl | rw [List.length_map]) ?_
            rintro _ rfl
            refine w_condH decide_eq_true_iff h (fun hc158 h => ?_) (fun hc158 h => ?_)
            ·
              obtain ⟨q8, hq, h⟩ := w_bind h
              refine ⟨q8, ⟨_, T_law08awake _ hq⟩, ?_⟩
              cases h; exact ⟨rfl, rfl⟩
            ·
              obtain ⟨q9, hq, h⟩ := w_bind h
              refine ⟨q9.1.K, q9.1.N, q9.1.S, List.map Term.toD q9.1.L, q9.1.From, q9.1.To, q9.2.1, q9.2.2, ⟨_, T_stmt_Parse _ _ _ hq⟩, ?_⟩
              obtain ⟨q10, hq, h⟩ := w_bind h
              refine ⟨q10.1.K, q10.1.N, q10.1.S, List.map Term.toD q10.1.L, q10.1.From, q10.1.To, q10.2.1, q10.2.2, ⟨_, T_stmt_Parse _ _ _ hq⟩, ?_⟩
              rintro _ rfl
              refine w_condN beq_iff_eq h (fun hc159 h => ?_) (fun hc159 h => ?_)
              ·
                rintro _ rfl
                refine w_condN beq_iff_eq h (fun hc160 h => ?_) (fun hc160 h => ?_)
                ·
                  refine w_nam (e' := (List.length q3.1 : Int)) (by first | rfl | rw [List.length_map]) ?_
                  rintro _ rfl
                  rintro _ rfl
                  refine w_condN beq_iff_eq h (fun hc161 h => ?_) (fun hc161 h => ?_)
                  ·
                    refine w_nam (e' := (List.length q4.1 : Int)) (by first | rfl | rw [List.length_map]) ?_
                    rintro _ rfl
                    rintro _ rfl
                    refine w_condN beq_iff_eq h (fun hc162 h => ?_) (fun hc162 h => ?_)
                    ·
                      refine ⟨sizedL (l := q3.1) (Token.sz), ?_⟩
                      obtain ⟨hP, h⟩ := w_chk h
                      refine ⟨by first | exact hP | (simp only [List.length_map, List.length_cons, List.length_nil] at hP ⊢; exact hP), ?_⟩
                      obtain ⟨hP, h⟩ := w_chk h
                      refine ⟨by first | exact hP | (simp only [List.length_map, List.length_cons, List.length_nil] at hP ⊢; exact hP), ?_⟩
                      obtain ⟨hP, h⟩ := w_chk h
                      refine ⟨by first | exact hP | (simp only [List.length_map, List.length_cons, List.length_nil] at hP ⊢; exact hP), ?_⟩
                      refine w_nam (e' := List.map Token.toD (List.drop 0 (List.take (Int.toNat q9.2.1) q3.1))) (by first | rfl | simp only [List.map_append, List.map_cons, List.map_nil, List.map_take, List.map_drop, List.map_set, List.map_replicate, List.length_map, Token.toD_eq]) ?_
                      refine ⟨sizedL (l := List.drop 0 (List.take (Int.toNat q9.2.1) q3.1)) (Token.sz), ?_⟩
                      refine ⟨by first | rfl | decide | simp only [List.length_map, List.length_cons, List.length_nil, List.map_append, List.length_append], ?_⟩
                      obtain ⟨hP, h⟩ := w_chk h
                      refine ⟨by first | exact hP | (simp only [List.length_map, List.length_cons, List.length_nil] at hP ⊢; exact hP), ?_⟩
                      refine w_nam (e' := List.map Token.toD ([(Token.mk 4 0 ([123] : List UInt8) 0 0)] ++ (List.drop 0 (List.take (Int.toNat q9.2.1) q3.1)))) (by first | rfl | simp only [List.map_append, List.map_cons, List.map_nil, List.map_take, List.map_drop, List.map_set, List.map_replicate, List.length_map, Token.toD_eq]) ?_
                      refine ⟨sizedL (l := q4.1) (Token.sz), ?_⟩
                      obtain ⟨hP, h⟩ := w_chk h
                      refine ⟨by first | exact hP | (simp only [List.length_map, List.length_cons, List.length_nil] at hP ⊢; exact hP), ?_⟩
                      obtain ⟨hP, h⟩ := w_chk h
                      refine ⟨by first | exact hP | (simp only [List.length_map, List.length_cons, List.length_nil] at hP ⊢; exact hP), ?_⟩
                      obtain ⟨hP, h⟩ := w_chk h
                      refine ⟨by first | exact hP | (simp only [List.length_map, List.length_cons, List.length_nil] at hP ⊢; exact hP), ?_⟩
                      refine w_nam (e' := List.map Token.toD (List.drop 0 (List.take (Int.toNat q10.2.1) q4.1))) (by first | rfl | simp only [List.map_append, List.map_cons, List.map_nil, List.map_take, List.map_drop, List.map_set, List.map_replicate, List.length_map, Token.toD_eq]) ?_
                      refine ⟨sizedL (l := List.drop 0 (List.take (Int.toNat q10.2.1) q4.1)) (Token.sz), ?_⟩
                      refine ⟨by first | rfl | decide | simp only [List.length_map, List.length_cons, List.length_nil, List.map_append, List.length_append], ?_⟩
                      obtain ⟨hP, h⟩ := w_chk h
                      refine ⟨by first | exact hP | (simp only [List.length_map, List.length_cons, List.length_nil] at hP ⊢; exact hP), ?_⟩
                      refine w_nam (e' := List.map Token.toD (([(Token.mk 4 0 ([123] : List UInt8) 0 0)] ++ (List.drop 0 (List.take (Int.toNat q9.2.1) q3.1))) ++ (List.drop 0 (List.take (Int.toNat q10.2.1) q4.1)))) (by first | rfl | simp only [List.map_append, List.map_cons, List.map_nil, List.map_take, List.map_drop, List.map_set, List.map_replicate, List.length_map, Token.toD_eq]) ?_
                      refine ⟨by simp [sized, D.cells], ?_⟩
                      refine ⟨by first | rfl | decide | simp only [List.length_map, List.length_cons, List.length_nil, List.map_append, List.length_append], ?_⟩
                      obtain ⟨hP, h⟩ := w_chk h
                      refine ⟨by first | exact hP | (simp only [List.length_map, List.length_cons, List.length_nil] at hP ⊢; exact hP), ?_⟩
                      refine w_nam (e' := List.map Token.toD ((([(Token.mk 4 0 ([123] : List UInt8) 0 0)] ++ (List.drop 0 (List.take (Int.toNat q9.2.1) q3.1))) ++ (List.drop 0 (List.take (Int.toNat q10.2.1) q4.1))) ++ [(Token.mk 4 0 ([125] : List UInt8) 0 0)])) (by first | rfl | simp only [List.map_append, List.map_cons, List.map_nil, List.map_take, List.map_drop, List.map_set, List.map_replicate, List.length_map, Token.toD_eq]) ?_
                      obtain ⟨q15, hq, h⟩ := w_bind h
                      refine ⟨q15.1.K, q15.1.N, q15.1.S, List.map Term.toD q15.1.L, q15.1.From, q15.1.To, q15.2.1, q15.2.2, ⟨_, T_stmt_Block _ _ _ hq⟩, ?_⟩
                      rintro _ rfl
                      refine w_condH beq_iff_eq h (fun hc163 h => ?_) (fun hc163 h => ?_)
                      ·
                        refine w_nam (e' := (List.length ((([(Token.mk 4 0 ([123] : List UInt8) 0 0)] ++ (List.drop 0 (List.take (Int.toNat q9.2.1) q3.1))) ++ (List.drop 0 (List.take (Int.toNat q10.2.1) q4.1))) ++ [(Token.mk 4 0 ([125] : List UInt8) 0 0)]) : Int)) (by first | rfl | rw [List.length_map]) ?_
                        rintro _ rfl
                        refine w_condH beq_iff_eq h (fun hc164 h => ?_) (fun hc164 h => ?_)
                        ·
                          refine w_nam (e' := (List.length q15.1.L : Int)) (by first | rfl | rw [List.length_map]) ?_
                          rintro _ rfl
                          refine w_condH beq_iff_eq h (fun hc165 h => ?_) (fun hc165 h => ?_)
                          ·
                            obtain ⟨x, hx, h⟩ := w_bind h
                            refine ⟨sizedL (l := q15.1.L) (Term.sz), w_ge hx, x.K, x.N, x.S, List.map Term.toD x.L, x.From, x.To, w_get (Term.toD_eq x) hx, ?_⟩
                            obtain ⟨q16, hq, h⟩ := w_bind h
                            refine ⟨q16, ⟨_, T_ref06Same _ _ _ hq⟩, ?_⟩
                            refine w_condH Iff.rfl h (fun hc166 h => ?_) (fun hc166 h => ?_)
                            ·
                              obtain ⟨x1, hx, h⟩ := w_bind h
                              refine ⟨sizedL (l := q15.1.L) (Term.sz), w_ge hx, x1.K, x1.N, x1.S, List.map Term.toD x1.L, x1.From, x1.To, w_get (Term.toD_eq x1) hx, ?_⟩
                              obtain ⟨q17, hq, h⟩ := w_bind h
                              refine ⟨q17, ⟨_, T_ref06Same _ _ _ hq⟩, ?_⟩
                              refine w_condH Iff.rfl h (fun hc167 h => ?_) (fun hc167 h => ?_)
                              ·
                                obtain ⟨q18, hq, h⟩ := w_bind h
                                refine ⟨q18, ⟨_, T_law08awake _ hq⟩, ?_⟩
                                cases h; exact ⟨rfl, rfl⟩
                              ·
                                cases h; exact ⟨rfl, rfl⟩
                            ·
                              cases h; exact ⟨rfl, rfl⟩
                          ·
                            cases h; exact ⟨rfl, rfl⟩
                        ·
                          cases h; exact ⟨rfl, rfl⟩
                      ·
                        cases h; exact ⟨rfl, rfl⟩
                    ·
                      obtain ⟨q14, hq, h⟩ := w_bind h
                      refine ⟨q14, ⟨_, T_law08awake _ hq⟩, ?_⟩
                      cases h; exact ⟨rfl, rfl⟩
                  ·
                    obtain ⟨q13, hq, h⟩ := w_bind h
                    refine ⟨q13, ⟨_, T_law08awake _ hq⟩, ?_⟩
                    cases h; exact ⟨rfl, rfl⟩
                ·
                  obtain ⟨q12, hq, h⟩ := w_bind h
                  refine ⟨q12, ⟨_, T_law08awake _ hq⟩, ?_⟩
                  cases h; exact ⟨rfl, rfl⟩
              ·
                obtain ⟨q11, hq, h⟩ := w_bind h
                refine ⟨q11, ⟨_, T_law08awake _ hq⟩, ?_⟩
                cases h; exact ⟨rfl, rfl⟩
        ·
          obtain ⟨q6, hq, h⟩ := w_bind h
          refine ⟨q6, ⟨_, T_law08awake _ hq⟩, ?_⟩
          cases h; exact ⟨rfl, rfl⟩
      ·
        obtain ⟨q5, hq, h⟩ := w_bind h
        refine ⟨q5, ⟨_, T_law08awake _ hq⟩, ?_⟩
        cases h; exact ⟨rfl, rfl⟩
end Go.Proofs.Ytpdhlbejdagkmaa.M
