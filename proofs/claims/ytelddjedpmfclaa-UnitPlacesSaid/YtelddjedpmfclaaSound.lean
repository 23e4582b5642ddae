/- The plain functions' answers are the program's. -/
import Derived.Test.YtelddjedpmfclaaMod
import Derived.Test.YtelddjedpmfclaaEv
namespace Go.Proofs.Ytelddjedpmfclaa.M
open Go Nt Go.Proofs
set_option linter.unusedVariables false
set_option linter.unusedSimpArgs false
set_option maxRecDepth 100000
theorem T_lex_reader_isDigit (c : Int) (text : Str) (at_ : Int) (out : List Token) (r : Bool) (h : lex_reader_isDigit c text at_ out = some r) : Trip Try.prog 28 [.hp 0 0, .d (.int .u8 c)] [[.d (.str text), .d (.int .i64 at_), .own 5 (List.map Token.toD out)]] [.d (.bool r)] [[.d (.str text), .d (.int .i64 at_), .own 5 (List.map Token.toD out)]] := by
  unfold lex_reader_isDigit at h
  refine trip_ev 1000 (by kernel_rfl) (by kernel_rfl) (by kernel_rfl) (by kernel_rfl) (by kernel_rfl) (e_lex_reader_isDigit _ _ c text at_ out _ _) ?_
  rintro _ rfl
  refine w_condH decide_eq_true_iff h (fun hc1 h => ?_) (fun hc1 h => ?_)
  ·
    rintro _ rfl
    cases h; exact ⟨rfl, rfl⟩
  ·
    cases h; exact ⟨rfl, rfl⟩
theorem T_lex_reader_isLetter (c : Int) (text : Str) (at_ : Int) (out : List Token) (r : Bool) (h : lex_reader_isLetter c text at_ out = some r) : Trip Try.prog 26 [.hp 0 0, .d (.int .u8 c)] [[.d (.str text), .d (.int .i64 at_), .own 5 (List.map Token.toD out)]] [.d (.bool r)] [[.d (.str text), .d (.int .i64 at_), .own 5 (List.map Token.toD out)]] := by
  unfold lex_reader_isLetter at h
  refine trip_ev 1000 (by kernel_rfl) (by kernel_rfl) (by kernel_rfl) (by kernel_rfl) (by kernel_rfl) (e_lex_reader_isLetter _ _ c text at_ out _ _) ?_
  rintro _ rfl
  refine w_condH decide_eq_true_iff h (fun hc2 h => ?_) (fun hc2 h => ?_)
  ·
    rintro _ rfl
    refine w_condH decide_eq_true_iff h (fun hc3 h => ?_) (fun hc3 h => ?_)
    ·
      cases h; exact ⟨rfl, rfl⟩
    ·
      rintro _ rfl
      refine w_condH decide_eq_true_iff h (fun hc4 h => ?_) (fun hc4 h => ?_)
      ·
        rintro _ rfl
        refine w_condH decide_eq_true_iff h (fun hc5 h => ?_) (fun hc5 h => ?_)
        ·
          cases h; exact ⟨rfl, rfl⟩
        ·
          rintro _ rfl
          cases h; exact ⟨rfl, rfl⟩
      ·
        rintro _ rfl
        cases h; exact ⟨rfl, rfl⟩
  ·
    rintro _ rfl
    refine w_condH decide_eq_true_iff h (fun hc6 h => ?_) (fun hc6 h => ?_)
    ·
      rintro _ rfl
      refine w_condH decide_eq_true_iff h (fun hc7 h => ?_) (fun hc7 h => ?_)
      ·
        cases h; exact ⟨rfl, rfl⟩
      ·
        rintro _ rfl
        cases h; exact ⟨rfl, rfl⟩
    ·
      rintro _ rfl
      cases h; exact ⟨rfl, rfl⟩
theorem T_lex_reader_put (k : Int) (n : Int) (s : Str) (from_ : Int) (text : Str) (at_ : Int) (out : List Token) (r : Str × Int × List Token) (h : lex_reader_put k n s from_ text at_ out = some r) : Trip Try.prog 15 [.hp 0 0, .d (.int .i64 k), .d (.int .i64 n), .d (.str s), .d (.int .i64 from_)] [[.d (.str text), .d (.int .i64 at_), .own 5 (List.map Token.toD out)]] [] [[.d (.str r.1), .d (.int .i64 r.2.1), .own 5 (List.map Token.toD r.2.2)]] := by
  unfold lex_reader_put at h
  refine trip_ev 1000 (by kernel_rfl) (by kernel_rfl) (by kernel_rfl) (by kernel_rfl) (by kernel_rfl) (e_lex_reader_put _ _ k n s from_ text at_ out _ _) ?_
  refine ⟨by simp [sized, D.cells], ?_⟩
  refine ⟨by first | rfl | decide | simp only [List.length_map, List.length_cons, List.length_nil, List.map_append, List.length_append], ?_⟩
  obtain ⟨hP, h⟩ := w_chk h
  refine ⟨by first | exact hP | (simp only [List.length_map, List.length_cons, List.length_nil] at hP ⊢; exact hP), ?_⟩
  refine w_nam (e' := List.map Token.toD (out ++ [(Token.mk k n s from_ at_)])) (by first | rfl | simp only [List.map_append, List.map_cons, List.map_nil, List.map_take, List.map_drop, List.map_set, List.map_replicate, List.length_map, Token.toD_eq]) ?_
  refine ⟨by first | rfl | decide | simp only [List.length_map, List.length_cons, List.length_nil, List.map_append, List.length_append], ?_⟩
  cases h; exact ⟨rfl, rfl⟩
def M_lex_reader_number_L7 : (i : I_lex_reader_number_L7) → R_lex_reader_number_L7 i → Prop
  | .lex_reader_number_L7 from_ s v v29 v30 text at_ out, r => Ok (c_lex_reader_number (Trip Try.prog) [.d (.int .i64 r.1)] [[.d (.str r.2.1), .d (.int .i64 r.2.2.1), .own 5 (List.map Token.toD r.2.2.2)]]) (kL Try.f29 7) ⟨49, [(0, .hp 0 0), (3, .d (.int .i64 from_)), (4, .d (.str s)), (5, .d (.int .u64 v)), (29, .d (.int .i64 v29)), (30, .d (.int .i64 v30))], [], [[.d (.str text), .d (.int .i64 at_), .own 5 (List.map Token.toD out)]], 0⟩
theorem G_lex_reader_number_L7 : ∀ i r, fixF F_lex_reader_number_L7 i = some r → M_lex_reader_number_L7 i r := by
  refine fixF_induct D_lex_reader_number_L7 fun g ih i => ?_
  cases i with
  | lex_reader_number_L7 from_ s v v29 v30 text at_ out =>
    have ih_lex_reader_number_L7 : ∀ (from_ : Int) (s : Str) (v : Int) (v29 : Int) (v30 : Int) (text : Str) (at_ : Int) (out : List Token) (r : Int × Str × Int × List Token), g (I_lex_reader_number_L7.lex_reader_number_L7 from_ s v v29 v30 text at_ out) = some r → Ok (c_lex_reader_number (Trip Try.prog) [.d (.int .i64 r.1)] [[.d (.str r.2.1), .d (.int .i64 r.2.2.1), .own 5 (List.map Token.toD r.2.2.2)]]) (kL Try.f29 7) ⟨49, [(0, .hp 0 0), (3, .d (.int .i64 from_)), (4, .d (.str s)), (5, .d (.int .u64 v)), (29, .d (.int .i64 v29)), (30, .d (.int .i64 v30))], [], [[.d (.str text), .d (.int .i64 at_), .own 5 (List.map Token.toD out)]], 0⟩ := fun from_ s v v29 v30 text at_ out r h => ih (.lex_reader_number_L7 from_ s v v29 v30 text at_ out) r h
    intro r h
    show Ok (c_lex_reader_number (Trip Try.prog) [.d (.int .i64 r.1)] [[.d (.str r.2.1), .d (.int .i64 r.2.2.1), .own 5 (List.map Token.toD r.2.2.2)]]) (kL Try.f29 7) ⟨49, [(0, .hp 0 0), (3, .d (.int .i64 from_)), (4, .d (.str s)), (5, .d (.int .u64 v)), (29, .d (.int .i64 v29)), (30, .d (.int .i64 v30))], [], [[.d (.str text), .d (.int .i64 at_), .own 5 (List.map Token.toD out)]], 0⟩
    replace h : lex_reader_number_L7_B (fun from_ s v v29 v30 text at_ out => g (I_lex_reader_number_L7.lex_reader_number_L7 from_ s v v29 v30 text at_ out)) from_ s v v29 v30 text at_ out = some r := h
    unfold lex_reader_number_L7_B at h
    refine ok_ev 1000 (e_lex_reader_number_L7 _ _ from_ s v v29 v30 text at_ out _ _) ?_
    rintro _ rfl
    refine w_condH decide_eq_true_iff h (fun hc8 h => ?_) (fun hc8 h => ?_)
    ·
      rintro _ rfl
      obtain ⟨c, hx, h⟩ := w_bind h
      refine ⟨w_ge hx, c, w_at hx, ?_⟩
      rintro _ rfl
      rintro _ rfl
      rintro _ rfl
      rintro _ rfl
      rintro _ rfl
      exact ih_lex_reader_number_L7 _ _ _ _ _ _ _ _ _ h
    ·
      rintro _ rfl
      refine w_condH decide_eq_true_iff h (fun hc9 h => ?_) (fun hc9 h => ?_)
      ·
        cases h; exact ⟨rfl, rfl⟩
      ·
        rintro _ rfl
        obtain ⟨q1, hq, h⟩ := w_bind h
        refine ⟨q1.1, q1.2.1, List.map Token.toD q1.2.2, T_lex_reader_put _ _ _ _ _ _ _ _ hq, ?_⟩
        cases h; exact ⟨rfl, rfl⟩
theorem T_lex_reader_number_L7 (from_ : Int) (s : Str) (v : Int) (v29 : Int) (v30 : Int) (text : Str) (at_ : Int) (out : List Token) (r : Int × Str × Int × List Token) (h : lex_reader_number_L7 from_ s v v29 v30 text at_ out = some r) : Ok (c_lex_reader_number (Trip Try.prog) [.d (.int .i64 r.1)] [[.d (.str r.2.1), .d (.int .i64 r.2.2.1), .own 5 (List.map Token.toD r.2.2.2)]]) (kL Try.f29 7) ⟨49, [(0, .hp 0 0), (3, .d (.int .i64 from_)), (4, .d (.str s)), (5, .d (.int .u64 v)), (29, .d (.int .i64 v29)), (30, .d (.int .i64 v30))], [], [[.d (.str text), .d (.int .i64 at_), .own 5 (List.map Token.toD out)]], 0⟩ := G_lex_reader_number_L7 (.lex_reader_number_L7 from_ s v v29 v30 text at_ out) r h
def M_lex_reader_run_reader_isDigit_L2 : (i : I_lex_reader_run_reader_isDigit_L2) → R_lex_reader_run_reader_isDigit_L2 i → Prop
  | .lex_reader_run_reader_isDigit_L2 from_ text at_ out, r => Ok (c_lex_reader_run_reader_isDigit (Trip Try.prog) [.d (.str r.1)] [[.d (.str r.2.1), .d (.int .i64 r.2.2.1), .own 5 (List.map Token.toD r.2.2.2)]]) (kL Try.f24 2) ⟨50, [(0, .hp 0 0), (1, .fn 28 [.hp 0 0] []), (5, .d (.int .i64 from_))], [], [[.d (.str text), .d (.int .i64 at_), .own 5 (List.map Token.toD out)]], 0⟩
theorem G_lex_reader_run_reader_isDigit_L2 : ∀ i r, fixF F_lex_reader_run_reader_isDigit_L2 i = some r → M_lex_reader_run_reader_isDigit_L2 i r := by
  refine fixF_induct D_lex_reader_run_reader_isDigit_L2 fun g ih i => ?_
  cases i with
  | lex_reader_run_reader_isDigit_L2 from_ text at_ out =>
    have ih_lex_reader_run_reader_isDigit_L2 : ∀ (from_ : Int) (text : Str) (at_ : Int) (out : List Token) (r : Str × Str × Int × List Token), g (I_lex_reader_run_reader_isDigit_L2.lex_reader_run_reader_isDigit_L2 from_ text at_ out) = some r → Ok (c_lex_reader_run_reader_isDigit (Trip Try.prog) [.d (.str r.1)] [[.d (.str r.2.1), .d (.int .i64 r.2.2.1), .own 5 (List.map Token.toD r.2.2.2)]]) (kL Try.f24 2) ⟨50, [(0, .hp 0 0), (1, .fn 28 [.hp 0 0] []), (5, .d (.int .i64 from_))], [], [[.d (.str text), .d (.int .i64 at_), .own 5 (List.map Token.toD out)]], 0⟩ := fun from_ text at_ out r h => ih (.lex_reader_run_reader_isDigit_L2 from_ text at_ out) r h
    intro r h
    show Ok (c_lex_reader_run_reader_isDigit (Trip Try.prog) [.d (.str r.1)] [[.d (.str r.2.1), .d (.int .i64 r.2.2.1), .own 5 (List.map Token.toD r.2.2.2)]]) (kL Try.f24 2) ⟨50, [(0, .hp 0 0), (1, .fn 28 [.hp 0 0] []), (5, .d (.int .i64 from_))], [], [[.d (.str text), .d (.int .i64 at_), .own 5 (List.map Token.toD out)]], 0⟩
    replace h : lex_reader_run_reader_isDigit_L2_B (fun from_ text at_ out => g (I_lex_reader_run_reader_isDigit_L2.lex_reader_run_reader_isDigit_L2 from_ text at_ out)) from_ text at_ out = some r := h
    unfold lex_reader_run_reader_isDigit_L2_B at h
    refine ok_ev 1000 (e_lex_reader_run_reader_isDigit_L2 _ _ from_ text at_ out _ _) ?_
    rintro _ rfl
    rintro _ rfl
    refine w_condH decide_eq_true_iff h (fun hc10 h => ?_) (fun hc10 h => ?_)
    ·
      obtain ⟨c, hx, h⟩ := w_bind h
      refine ⟨w_ge hx, c, w_at hx, ?_⟩
      rintro _ rfl
      obtain ⟨q1, hq, h⟩ := w_bind h
      refine ⟨q1, T_lex_reader_isDigit _ _ _ _ _ hq, ?_⟩
      refine w_condH Iff.rfl h (fun hc11 h => ?_) (fun hc11 h => ?_)
      ·
        rintro _ rfl
        exact ih_lex_reader_run_reader_isDigit_L2 _ _ _ _ _ h
      ·
        obtain ⟨hP, h⟩ := w_chk h
        refine ⟨by first | exact hP | (simp only [List.length_map, List.length_cons, List.length_nil] at hP ⊢; exact hP), ?_⟩
        obtain ⟨hP, h⟩ := w_chk h
        refine ⟨by first | exact hP | (simp only [List.length_map, List.length_cons, List.length_nil] at hP ⊢; exact hP), ?_⟩
        obtain ⟨hP, h⟩ := w_chk h
        refine ⟨by first | exact hP | (simp only [List.length_map, List.length_cons, List.length_nil] at hP ⊢; exact hP), ?_⟩
        obtain ⟨hP, h⟩ := w_chk h
        refine ⟨by first | exact hP | (simp only [List.length_map, List.length_cons, List.length_nil] at hP ⊢; exact hP), ?_⟩
        rintro _ rfl
        cases h; exact ⟨rfl, rfl⟩
    ·
      obtain ⟨hP, h⟩ := w_chk h
      refine ⟨by first | exact hP | (simp only [List.length_map, List.length_cons, List.length_nil] at hP ⊢; exact hP), ?_⟩
      obtain ⟨hP, h⟩ := w_chk h
      refine ⟨by first | exact hP | (simp only [List.length_map, List.length_cons, List.length_nil] at hP ⊢; exact hP), ?_⟩
      obtain ⟨hP, h⟩ := w_chk h
      refine ⟨by first | exact hP | (simp only [List.length_map, List.length_cons, List.length_nil] at hP ⊢; exact hP), ?_⟩
      obtain ⟨hP, h⟩ := w_chk h
      refine ⟨by first | exact hP | (simp only [List.length_map, List.length_cons, List.length_nil] at hP ⊢; exact hP), ?_⟩
      rintro _ rfl
      cases h; exact ⟨rfl, rfl⟩
theorem T_lex_reader_run_reader_isDigit_L2 (from_ : Int) (text : Str) (at_ : Int) (out : List Token) (r : Str × Str × Int × List Token) (h : lex_reader_run_reader_isDigit_L2 from_ text at_ out = some r) : Ok (c_lex_reader_run_reader_isDigit (Trip Try.prog) [.d (.str r.1)] [[.d (.str r.2.1), .d (.int .i64 r.2.2.1), .own 5 (List.map Token.toD r.2.2.2)]]) (kL Try.f24 2) ⟨50, [(0, .hp 0 0), (1, .fn 28 [.hp 0 0] []), (5, .d (.int .i64 from_))], [], [[.d (.str text), .d (.int .i64 at_), .own 5 (List.map Token.toD out)]], 0⟩ := G_lex_reader_run_reader_isDigit_L2 (.lex_reader_run_reader_isDigit_L2 from_ text at_ out) r h
theorem T_lex_reader_run_reader_isDigit (text : Str) (at_ : Int) (out : List Token) (r : Str × Str × Int × List Token) (h : lex_reader_run_reader_isDigit text at_ out = some r) : Trip Try.prog 24 [.hp 0 0, .fn 28 [.hp 0 0] []] [[.d (.str text), .d (.int .i64 at_), .own 5 (List.map Token.toD out)]] [.d (.str r.1)] [[.d (.str r.2.1), .d (.int .i64 r.2.2.1), .own 5 (List.map Token.toD r.2.2.2)]] := by
  unfold lex_reader_run_reader_isDigit at h
  refine trip_ev 1000 (by kernel_rfl) (by kernel_rfl) (by kernel_rfl) (by kernel_rfl) (by kernel_rfl) (e_lex_reader_run_reader_isDigit _ _ text at_ out _ _) ?_
  exact T_lex_reader_run_reader_isDigit_L2 _ _ _ _ _ h
theorem T_lex_reader_number (text : Str) (at_ : Int) (out : List Token) (r : Int × Str × Int × List Token) (h : lex_reader_number text at_ out = some r) : Trip Try.prog 29 [.hp 0 0] [[.d (.str text), .d (.int .i64 at_), .own 5 (List.map Token.toD out)]] [.d (.int .i64 r.1)] [[.d (.str r.2.1), .d (.int .i64 r.2.2.1), .own 5 (List.map Token.toD r.2.2.2)]] := by
  unfold lex_reader_number at h
  refine trip_ev 1000 (by kernel_rfl) (by kernel_rfl) (by kernel_rfl) (by kernel_rfl) (by kernel_rfl) (e_lex_reader_number _ _ text at_ out _ _) ?_
  obtain ⟨q1, hq, h⟩ := w_bind h
  refine ⟨q1.1, q1.2.1, q1.2.2.1, List.map Token.toD q1.2.2.2, T_lex_reader_run_reader_isDigit _ _ _ _ hq, ?_⟩
  rintro _ rfl
  rintro _ rfl
  refine w_condH decide_eq_true_iff h (fun hc12 h => ?_) (fun hc12 h => ?_)
  ·
    cases h; exact ⟨rfl, rfl⟩
  ·
    rintro _ rfl
    rintro _ rfl
    refine w_condH decide_eq_true_iff h (fun hc13 h => ?_) (fun hc13 h => ?_)
    ·
      obtain ⟨c, hx, h⟩ := w_bind h
      refine ⟨w_ge hx, c, w_at hx, ?_⟩
      rintro _ rfl
      rintro _ rfl
      refine w_condH beq_iff_eq h (fun hc14 h => ?_) (fun hc14 h => ?_)
      ·
        cases h; exact ⟨rfl, rfl⟩
      ·
        rintro _ rfl
        exact T_lex_reader_number_L7 _ _ _ _ _ _ _ _ _ h
    ·
      rintro _ rfl
      exact T_lex_reader_number_L7 _ _ _ _ _ _ _ _ _ h
theorem T_lex_reader_peek (k : Int) (text : Str) (at_ : Int) (out : List Token) (r : Int) (h : lex_reader_peek k text at_ out = some r) : Trip Try.prog 23 [.hp 0 0, .d (.int .i64 k)] [[.d (.str text), .d (.int .i64 at_), .own 5 (List.map Token.toD out)]] [.d (.int .u8 r)] [[.d (.str text), .d (.int .i64 at_), .own 5 (List.map Token.toD out)]] := by
  unfold lex_reader_peek at h
  refine trip_ev 1000 (by kernel_rfl) (by kernel_rfl) (by kernel_rfl) (by kernel_rfl) (by kernel_rfl) (e_lex_reader_peek _ _ k text at_ out _ _) ?_
  rintro _ rfl
  rintro _ rfl
  rintro _ rfl
  refine w_condH decide_eq_true_iff h (fun hc15 h => ?_) (fun hc15 h => ?_)
  ·
    rintro _ rfl
    obtain ⟨c, hx, h⟩ := w_bind h
    refine ⟨w_ge hx, c, w_at hx, ?_⟩
    rintro _ rfl
    cases h; exact ⟨rfl, rfl⟩
  ·
    cases h; exact ⟨rfl, rfl⟩
theorem T_lex_isWord (s : Str) (r : Bool) (h : lex_isWord s = some r) : Trip Try.prog 44 [.d (.str s)] [] [.d (.bool r)] [] := by
  unfold lex_isWord at h
  refine trip_ev 1000 (by kernel_rfl) (by kernel_rfl) (by kernel_rfl) (by kernel_rfl) (by kernel_rfl) (e_lex_isWord _ _ s _ _) ?_
  rintro _ rfl
  refine w_condH beq_iff_eq h (fun hc16 h => ?_) (fun hc16 h => ?_)
  ·
    refine w_condT beq_iff_eq hc16 ?_
    cases h; exact ⟨rfl, rfl⟩
  ·
    rintro _ rfl
    refine w_condH beq_iff_eq h (fun hc17 h => ?_) (fun hc17 h => ?_)
    ·
      refine w_condT beq_iff_eq hc17 ?_
      cases h; exact ⟨rfl, rfl⟩
    ·
      rintro _ rfl
      refine w_condH beq_iff_eq h (fun hc18 h => ?_) (fun hc18 h => ?_)
      ·
        refine w_condT beq_iff_eq hc18 ?_
        cases h; exact ⟨rfl, rfl⟩
      ·
        rintro _ rfl
        refine w_condH beq_iff_eq h (fun hc19 h => ?_) (fun hc19 h => ?_)
        ·
          refine w_condT beq_iff_eq hc19 ?_
          cases h; exact ⟨rfl, rfl⟩
        ·
          rintro _ rfl
          refine w_condH beq_iff_eq h (fun hc20 h => ?_) (fun hc20 h => ?_)
          ·
            refine w_condT beq_iff_eq hc20 ?_
            cases h; exact ⟨rfl, rfl⟩
          ·
            rintro _ rfl
            refine w_condH beq_iff_eq h (fun hc21 h => ?_) (fun hc21 h => ?_)
            ·
              refine w_condT beq_iff_eq hc21 ?_
              cases h; exact ⟨rfl, rfl⟩
            ·
              rintro _ rfl
              refine w_condH beq_iff_eq h (fun hc22 h => ?_) (fun hc22 h => ?_)
              ·
                refine w_condT beq_iff_eq hc22 ?_
                cases h; exact ⟨rfl, rfl⟩
              ·
                rintro _ rfl
                refine w_condH beq_iff_eq h (fun hc23 h => ?_) (fun hc23 h => ?_)
                ·
                  refine w_condT beq_iff_eq hc23 ?_
                  cases h; exact ⟨rfl, rfl⟩
                ·
                  rintro _ rfl
                  refine w_condH beq_iff_eq h (fun hc24 h => ?_) (fun hc24 h => ?_)
                  ·
                    refine w_condT beq_iff_eq hc24 ?_
                    cases h; exact ⟨rfl, rfl⟩
                  ·
                    rintro _ rfl
                    refine w_condH beq_iff_eq h (fun hc25 h => ?_) (fun hc25 h => ?_)
                    ·
                      refine w_condT beq_iff_eq hc25 ?_
                      cases h; exact ⟨rfl, rfl⟩
                    ·
                      rintro _ rfl
                      refine w_condH beq_iff_eq h (fun hc26 h => ?_) (fun hc26 h => ?_)
                      ·
                        refine w_condT beq_iff_eq hc26 ?_
                        cases h; exact ⟨rfl, rfl⟩
                      ·
                        rintro _ rfl
                        refine w_condH beq_iff_eq h (fun hc27 h => ?_) (fun hc27 h => ?_)
                        ·
                          refine w_condT beq_iff_eq hc27 ?_
                          cases h; exact ⟨rfl, rfl⟩
                        ·
                          rintro _ rfl
                          refine w_condH beq_iff_eq h (fun hc28 h => ?_) (fun hc28 h => ?_)
                          ·
                            refine w_condT beq_iff_eq hc28 ?_
                            cases h; exact ⟨rfl, rfl⟩
                          ·
                            rintro _ rfl
                            refine w_condH beq_iff_eq h (fun hc29 h => ?_) (fun hc29 h => ?_)
                            ·
                              refine w_condT beq_iff_eq hc29 ?_
                              cases h; exact ⟨rfl, rfl⟩
                            ·
                              rintro _ rfl
                              refine w_condH beq_iff_eq h (fun hc30 h => ?_) (fun hc30 h => ?_)
                              ·
                                refine w_condT beq_iff_eq hc30 ?_
                                cases h; exact ⟨rfl, rfl⟩
                              ·
                                rintro _ rfl
                                refine w_condH beq_iff_eq h (fun hc31 h => ?_) (fun hc31 h => ?_)
                                ·
                                  refine w_condT beq_iff_eq hc31 ?_
                                  cases h; exact ⟨rfl, rfl⟩
                                ·
                                  rintro _ rfl
                                  refine w_condH beq_iff_eq h (fun hc32 h => ?_) (fun hc32 h => ?_)
                                  ·
                                    refine w_condT beq_iff_eq hc32 ?_
                                    cases h; exact ⟨rfl, rfl⟩
                                  ·
                                    rintro _ rfl
                                    refine w_condH beq_iff_eq h (fun hc33 h => ?_) (fun hc33 h => ?_)
                                    ·
                                      refine w_condT beq_iff_eq hc33 ?_
                                      cases h; exact ⟨rfl, rfl⟩
                                    ·
                                      rintro _ rfl
                                      refine w_condH beq_iff_eq h (fun hc34 h => ?_) (fun hc34 h => ?_)
                                      ·
                                        refine w_condT beq_iff_eq hc34 ?_
                                        cases h; exact ⟨rfl, rfl⟩
                                      ·
                                        rintro _ rfl
                                        refine w_condH beq_iff_eq h (fun hc35 h => ?_) (fun hc35 h => ?_)
                                        ·
                                          cases h; exact ⟨rfl, rfl⟩
                                        ·
                                          cases h; exact ⟨rfl, rfl⟩
theorem T_lex_reader_isMore (c : Int) (text : Str) (at_ : Int) (out : List Token) (r : Bool) (h : lex_reader_isMore c text at_ out = some r) : Trip Try.prog 43 [.hp 0 0, .d (.int .u8 c)] [[.d (.str text), .d (.int .i64 at_), .own 5 (List.map Token.toD out)]] [.d (.bool r)] [[.d (.str text), .d (.int .i64 at_), .own 5 (List.map Token.toD out)]] := by
  unfold lex_reader_isMore at h
  refine trip_ev 1000 (by kernel_rfl) (by kernel_rfl) (by kernel_rfl) (by kernel_rfl) (by kernel_rfl) (e_lex_reader_isMore _ _ c text at_ out _ _) ?_
  obtain ⟨q1, hq, h⟩ := w_bind h
  refine ⟨q1, T_lex_reader_isLetter _ _ _ _ _ hq, ?_⟩
  refine w_condH Iff.rfl h (fun hc36 h => ?_) (fun hc36 h => ?_)
  ·
    cases h; exact ⟨rfl, rfl⟩
  ·
    obtain ⟨q2, hq, h⟩ := w_bind h
    refine ⟨q2, T_lex_reader_isDigit _ _ _ _ _ hq, ?_⟩
    cases h; exact ⟨rfl, rfl⟩
def M_lex_reader_run_reader_isMore_L2 : (i : I_lex_reader_run_reader_isMore_L2) → R_lex_reader_run_reader_isMore_L2 i → Prop
  | .lex_reader_run_reader_isMore_L2 from_ text at_ out, r => Ok (c_lex_reader_run_reader_isMore (Trip Try.prog) [.d (.str r.1)] [[.d (.str r.2.1), .d (.int .i64 r.2.2.1), .own 5 (List.map Token.toD r.2.2.2)]]) (kL Try.f24 2) ⟨50, [(0, .hp 0 0), (1, .fn 43 [.hp 0 0] []), (5, .d (.int .i64 from_))], [], [[.d (.str text), .d (.int .i64 at_), .own 5 (List.map Token.toD out)]], 0⟩
theorem G_lex_reader_run_reader_isMore_L2 : ∀ i r, fixF F_lex_reader_run_reader_isMore_L2 i = some r → M_lex_reader_run_reader_isMore_L2 i r := by
  refine fixF_induct D_lex_reader_run_reader_isMore_L2 fun g ih i => ?_
  cases i with
  | lex_reader_run_reader_isMore_L2 from_ text at_ out =>
    have ih_lex_reader_run_reader_isMore_L2 : ∀ (from_ : Int) (text : Str) (at_ : Int) (out : List Token) (r : Str × Str × Int × List Token), g (I_lex_reader_run_reader_isMore_L2.lex_reader_run_reader_isMore_L2 from_ text at_ out) = some r → Ok (c_lex_reader_run_reader_isMore (Trip Try.prog) [.d (.str r.1)] [[.d (.str r.2.1), .d (.int .i64 r.2.2.1), .own 5 (List.map Token.toD r.2.2.2)]]) (kL Try.f24 2) ⟨50, [(0, .hp 0 0), (1, .fn 43 [.hp 0 0] []), (5, .d (.int .i64 from_))], [], [[.d (.str text), .d (.int .i64 at_), .own 5 (List.map Token.toD out)]], 0⟩ := fun from_ text at_ out r h => ih (.lex_reader_run_reader_isMore_L2 from_ text at_ out) r h
    intro r h
    show Ok (c_lex_reader_run_reader_isMore (Trip Try.prog) [.d (.str r.1)] [[.d (.str r.2.1), .d (.int .i64 r.2.2.1), .own 5 (List.map Token.toD r.2.2.2)]]) (kL Try.f24 2) ⟨50, [(0, .hp 0 0), (1, .fn 43 [.hp 0 0] []), (5, .d (.int .i64 from_))], [], [[.d (.str text), .d (.int .i64 at_), .own 5 (List.map Token.toD out)]], 0⟩
    replace h : lex_reader_run_reader_isMore_L2_B (fun from_ text at_ out => g (I_lex_reader_run_reader_isMore_L2.lex_reader_run_reader_isMore_L2 from_ text at_ out)) from_ text at_ out = some r := h
    unfold lex_reader_run_reader_isMore_L2_B at h
    refine ok_ev 1000 (e_lex_reader_run_reader_isMore_L2 _ _ from_ text at_ out _ _) ?_
    rintro _ rfl
    rintro _ rfl
    refine w_condH decide_eq_true_iff h (fun hc37 h => ?_) (fun hc37 h => ?_)
    ·
      obtain ⟨c, hx, h⟩ := w_bind h
      refine ⟨w_ge hx, c, w_at hx, ?_⟩
      rintro _ rfl
      obtain ⟨q1, hq, h⟩ := w_bind h
      refine ⟨q1, T_lex_reader_isMore _ _ _ _ _ hq, ?_⟩
      refine w_condH Iff.rfl h (fun hc38 h => ?_) (fun hc38 h => ?_)
      ·
        rintro _ rfl
        exact ih_lex_reader_run_reader_isMore_L2 _ _ _ _ _ h
      ·
        obtain ⟨hP, h⟩ := w_chk h
        refine ⟨by first | exact hP | (simp only [List.length_map, List.length_cons, List.length_nil] at hP ⊢; exact hP), ?_⟩
        obtain ⟨hP, h⟩ := w_chk h
        refine ⟨by first | exact hP | (simp only [List.length_map, List.length_cons, List.length_nil] at hP ⊢; exact hP), ?_⟩
        obtain ⟨hP, h⟩ := w_chk h
        refine ⟨by first | exact hP | (simp only [List.length_map, List.length_cons, List.length_nil] at hP ⊢; exact hP), ?_⟩
        obtain ⟨hP, h⟩ := w_chk h
        refine ⟨by first | exact hP | (simp only [List.length_map, List.length_cons, List.length_nil] at hP ⊢; exact hP), ?_⟩
        rintro _ rfl
        cases h; exact ⟨rfl, rfl⟩
    ·
      obtain ⟨hP, h⟩ := w_chk h
      refine ⟨by first | exact hP | (simp only [List.length_map, List.length_cons, List.length_nil] at hP ⊢; exact hP), ?_⟩
      obtain ⟨hP, h⟩ := w_chk h
      refine ⟨by first | exact hP | (simp only [List.length_map, List.length_cons, List.length_nil] at hP ⊢; exact hP), ?_⟩
      obtain ⟨hP, h⟩ := w_chk h
      refine ⟨by first | exact hP | (simp only [List.length_map, List.length_cons, List.length_nil] at hP ⊢; exact hP), ?_⟩
      obtain ⟨hP, h⟩ := w_chk h
      refine ⟨by first | exact hP | (simp only [List.length_map, List.length_cons, List.length_nil] at hP ⊢; exact hP), ?_⟩
      rintro _ rfl
      cases h; exact ⟨rfl, rfl⟩
theorem T_lex_reader_run_reader_isMore_L2 (from_ : Int) (text : Str) (at_ : Int) (out : List Token) (r : Str × Str × Int × List Token) (h : lex_reader_run_reader_isMore_L2 from_ text at_ out = some r) : Ok (c_lex_reader_run_reader_isMore (Trip Try.prog) [.d (.str r.1)] [[.d (.str r.2.1), .d (.int .i64 r.2.2.1), .own 5 (List.map Token.toD r.2.2.2)]]) (kL Try.f24 2) ⟨50, [(0, .hp 0 0), (1, .fn 43 [.hp 0 0] []), (5, .d (.int .i64 from_))], [], [[.d (.str text), .d (.int .i64 at_), .own 5 (List.map Token.toD out)]], 0⟩ := G_lex_reader_run_reader_isMore_L2 (.lex_reader_run_reader_isMore_L2 from_ text at_ out) r h
theorem T_lex_reader_run_reader_isMore (text : Str) (at_ : Int) (out : List Token) (r : Str × Str × Int × List Token) (h : lex_reader_run_reader_isMore text at_ out = some r) : Trip Try.prog 24 [.hp 0 0, .fn 43 [.hp 0 0] []] [[.d (.str text), .d (.int .i64 at_), .own 5 (List.map Token.toD out)]] [.d (.str r.1)] [[.d (.str r.2.1), .d (.int .i64 r.2.2.1), .own 5 (List.map Token.toD r.2.2.2)]] := by
  unfold lex_reader_run_reader_isMore at h
  refine trip_ev 1000 (by kernel_rfl) (by kernel_rfl) (by kernel_rfl) (by kernel_rfl) (by kernel_rfl) (e_lex_reader_run_reader_isMore _ _ text at_ out _ _) ?_
  exact T_lex_reader_run_reader_isMore_L2 _ _ _ _ _ h
theorem T_lex_reader_word (text : Str) (at_ : Int) (out : List Token) (r : Int × Str × Int × List Token) (h : lex_reader_word text at_ out = some r) : Trip Try.prog 27 [.hp 0 0] [[.d (.str text), .d (.int .i64 at_), .own 5 (List.map Token.toD out)]] [.d (.int .i64 r.1)] [[.d (.str r.2.1), .d (.int .i64 r.2.2.1), .own 5 (List.map Token.toD r.2.2.2)]] := by
  unfold lex_reader_word at h
  refine trip_ev 1000 (by kernel_rfl) (by kernel_rfl) (by kernel_rfl) (by kernel_rfl) (by kernel_rfl) (e_lex_reader_word _ _ text at_ out _ _) ?_
  obtain ⟨q1, hq, h⟩ := w_bind h
  refine ⟨q1.1, q1.2.1, q1.2.2.1, List.map Token.toD q1.2.2.2, T_lex_reader_run_reader_isMore _ _ _ _ hq, ?_⟩
  rintro _ rfl
  rintro _ rfl
  refine w_condH decide_eq_true_iff h (fun hc39 h => ?_) (fun hc39 h => ?_)
  ·
    cases h; exact ⟨rfl, rfl⟩
  ·
    obtain ⟨q2, hq, h⟩ := w_bind h
    refine ⟨q2, ⟨_, T_lex_isWord _ _ hq⟩, ?_⟩
    refine w_condH Iff.rfl h (fun hc40 h => ?_) (fun hc40 h => ?_)
    ·
      obtain ⟨q3, hq, h⟩ := w_bind h
      refine ⟨q3.1, q3.2.1, List.map Token.toD q3.2.2, T_lex_reader_put _ _ _ _ _ _ _ _ hq, ?_⟩
      cases h; exact ⟨rfl, rfl⟩
    ·
      obtain ⟨q4, hq, h⟩ := w_bind h
      refine ⟨q4.1, q4.2.1, List.map Token.toD q4.2.2, T_lex_reader_put _ _ _ _ _ _ _ _ hq, ?_⟩
      cases h; exact ⟨rfl, rfl⟩
theorem T_lex_signAt (c : Int) (d : Int) (r : Int) (h : lex_signAt c d = some r) : Trip Try.prog 30 [.d (.int .u8 c), .d (.int .u8 d)] [] [.d (.int .i64 r)] [] := by
  unfold lex_signAt at h
  refine trip_ev 1000 (by kernel_rfl) (by kernel_rfl) (by kernel_rfl) (by kernel_rfl) (by kernel_rfl) (e_lex_signAt _ _ c d _ _) ?_
  rintro _ rfl
  refine w_condH beq_iff_eq h (fun hc41 h => ?_) (fun hc41 h => ?_)
  ·
    refine w_condT beq_iff_eq hc41 ?_
    rintro _ rfl
    refine w_condH beq_iff_eq h (fun hc42 h => ?_) (fun hc42 h => ?_)
    ·
      cases h; exact ⟨rfl, rfl⟩
    ·
      cases h; exact ⟨rfl, rfl⟩
  ·
    rintro _ rfl
    refine w_condH beq_iff_eq h (fun hc43 h => ?_) (fun hc43 h => ?_)
    ·
      refine w_condT beq_iff_eq hc43 ?_
      rintro _ rfl
      refine w_condH beq_iff_eq h (fun hc44 h => ?_) (fun hc44 h => ?_)
      ·
        cases h; exact ⟨rfl, rfl⟩
      ·
        cases h; exact ⟨rfl, rfl⟩
    ·
      rintro _ rfl
      refine w_condH beq_iff_eq h (fun hc45 h => ?_) (fun hc45 h => ?_)
      ·
        refine w_condT beq_iff_eq hc45 ?_
        rintro _ rfl
        refine w_condH beq_iff_eq h (fun hc46 h => ?_) (fun hc46 h => ?_)
        ·
          cases h; exact ⟨rfl, rfl⟩
        ·
          cases h; exact ⟨rfl, rfl⟩
      ·
        rintro _ rfl
        refine w_condH beq_iff_eq h (fun hc47 h => ?_) (fun hc47 h => ?_)
        ·
          rintro _ rfl
          refine w_condH beq_iff_eq h (fun hc48 h => ?_) (fun hc48 h => ?_)
          ·
            cases h; exact ⟨rfl, rfl⟩
          ·
            cases h; exact ⟨rfl, rfl⟩
        ·
          rintro _ rfl
          refine w_condH beq_iff_eq h (fun hc49 h => ?_) (fun hc49 h => ?_)
          ·
            refine w_condT beq_iff_eq hc49 ?_
            rintro _ rfl
            refine w_condH beq_iff_eq h (fun hc50 h => ?_) (fun hc50 h => ?_)
            ·
              cases h; exact ⟨rfl, rfl⟩
            ·
              cases h; exact ⟨rfl, rfl⟩
          ·
            rintro _ rfl
            refine w_condH beq_iff_eq h (fun hc51 h => ?_) (fun hc51 h => ?_)
            ·
              rintro _ rfl
              refine w_condH beq_iff_eq h (fun hc52 h => ?_) (fun hc52 h => ?_)
              ·
                cases h; exact ⟨rfl, rfl⟩
              ·
                cases h; exact ⟨rfl, rfl⟩
            ·
              rintro _ rfl
              refine w_condH beq_iff_eq h (fun hc53 h => ?_) (fun hc53 h => ?_)
              ·
                refine w_condT beq_iff_eq hc53 ?_
                cases h; exact ⟨rfl, rfl⟩
              ·
                rintro _ rfl
                refine w_condH beq_iff_eq h (fun hc54 h => ?_) (fun hc54 h => ?_)
                ·
                  refine w_condT beq_iff_eq hc54 ?_
                  cases h; exact ⟨rfl, rfl⟩
                ·
                  rintro _ rfl
                  refine w_condH beq_iff_eq h (fun hc55 h => ?_) (fun hc55 h => ?_)
                  ·
                    refine w_condT beq_iff_eq hc55 ?_
                    cases h; exact ⟨rfl, rfl⟩
                  ·
                    rintro _ rfl
                    refine w_condH beq_iff_eq h (fun hc56 h => ?_) (fun hc56 h => ?_)
                    ·
                      refine w_condT beq_iff_eq hc56 ?_
                      cases h; exact ⟨rfl, rfl⟩
                    ·
                      rintro _ rfl
                      refine w_condH beq_iff_eq h (fun hc57 h => ?_) (fun hc57 h => ?_)
                      ·
                        refine w_condT beq_iff_eq hc57 ?_
                        cases h; exact ⟨rfl, rfl⟩
                      ·
                        rintro _ rfl
                        refine w_condH beq_iff_eq h (fun hc58 h => ?_) (fun hc58 h => ?_)
                        ·
                          refine w_condT beq_iff_eq hc58 ?_
                          cases h; exact ⟨rfl, rfl⟩
                        ·
                          rintro _ rfl
                          refine w_condH beq_iff_eq h (fun hc59 h => ?_) (fun hc59 h => ?_)
                          ·
                            refine w_condT beq_iff_eq hc59 ?_
                            cases h; exact ⟨rfl, rfl⟩
                          ·
                            rintro _ rfl
                            refine w_condH beq_iff_eq h (fun hc60 h => ?_) (fun hc60 h => ?_)
                            ·
                              refine w_condT beq_iff_eq hc60 ?_
                              cases h; exact ⟨rfl, rfl⟩
                            ·
                              rintro _ rfl
                              refine w_condH beq_iff_eq h (fun hc61 h => ?_) (fun hc61 h => ?_)
                              ·
                                refine w_condT beq_iff_eq hc61 ?_
                                cases h; exact ⟨rfl, rfl⟩
                              ·
                                rintro _ rfl
                                refine w_condH beq_iff_eq h (fun hc62 h => ?_) (fun hc62 h => ?_)
                                ·
                                  refine w_condT beq_iff_eq hc62 ?_
                                  cases h; exact ⟨rfl, rfl⟩
                                ·
                                  rintro _ rfl
                                  refine w_condH beq_iff_eq h (fun hc63 h => ?_) (fun hc63 h => ?_)
                                  ·
                                    refine w_condT beq_iff_eq hc63 ?_
                                    cases h; exact ⟨rfl, rfl⟩
                                  ·
                                    rintro _ rfl
                                    refine w_condH beq_iff_eq h (fun hc64 h => ?_) (fun hc64 h => ?_)
                                    ·
                                      refine w_condT beq_iff_eq hc64 ?_
                                      cases h; exact ⟨rfl, rfl⟩
                                    ·
                                      rintro _ rfl
                                      refine w_condH beq_iff_eq h (fun hc65 h => ?_) (fun hc65 h => ?_)
                                      ·
                                        refine w_condT beq_iff_eq hc65 ?_
                                        cases h; exact ⟨rfl, rfl⟩
                                      ·
                                        rintro _ rfl
                                        refine w_condH beq_iff_eq h (fun hc66 h => ?_) (fun hc66 h => ?_)
                                        ·
                                          refine w_condT beq_iff_eq hc66 ?_
                                          cases h; exact ⟨rfl, rfl⟩
                                        ·
                                          rintro _ rfl
                                          refine w_condH beq_iff_eq h (fun hc67 h => ?_) (fun hc67 h => ?_)
                                          ·
                                            refine w_condT beq_iff_eq hc67 ?_
                                            cases h; exact ⟨rfl, rfl⟩
                                          ·
                                            rintro _ rfl
                                            refine w_condH beq_iff_eq h (fun hc68 h => ?_) (fun hc68 h => ?_)
                                            ·
                                              cases h; exact ⟨rfl, rfl⟩
                                            ·
                                              cases h; exact ⟨rfl, rfl⟩
theorem T_lex_reader_one (text : Str) (at_ : Int) (out : List Token) (r : Int × Str × Int × List Token) (h : lex_reader_one text at_ out = some r) : Trip Try.prog 14 [.hp 0 0] [[.d (.str text), .d (.int .i64 at_), .own 5 (List.map Token.toD out)]] [.d (.int .i64 r.1)] [[.d (.str r.2.1), .d (.int .i64 r.2.2.1), .own 5 (List.map Token.toD r.2.2.2)]] := by
  unfold lex_reader_one at h
  refine trip_ev 1000 (by kernel_rfl) (by kernel_rfl) (by kernel_rfl) (by kernel_rfl) (by kernel_rfl) (e_lex_reader_one _ _ text at_ out _ _) ?_
  obtain ⟨c, hx, h⟩ := w_bind h
  refine ⟨w_ge hx, c, w_at hx, ?_⟩
  rintro _ rfl
  obtain ⟨q1, hq, h⟩ := w_bind h
  refine ⟨q1, T_lex_reader_isLetter _ _ _ _ _ hq, ?_⟩
  refine w_condH Iff.rfl h (fun hc69 h => ?_) (fun hc69 h => ?_)
  ·
    obtain ⟨q2, hq, h⟩ := w_bind h
    refine ⟨q2.1, q2.2.1, q2.2.2.1, List.map Token.toD q2.2.2.2, T_lex_reader_word _ _ _ _ hq, ?_⟩
    cases h; exact ⟨rfl, rfl⟩
  ·
    obtain ⟨q3, hq, h⟩ := w_bind h
    refine ⟨q3, T_lex_reader_isDigit _ _ _ _ _ hq, ?_⟩
    refine w_condH Iff.rfl h (fun hc70 h => ?_) (fun hc70 h => ?_)
    ·
      obtain ⟨q4, hq, h⟩ := w_bind h
      refine ⟨q4.1, q4.2.1, q4.2.2.1, List.map Token.toD q4.2.2.2, T_lex_reader_number _ _ _ _ hq, ?_⟩
      cases h; exact ⟨rfl, rfl⟩
    ·
      obtain ⟨q5, hq, h⟩ := w_bind h
      refine ⟨q5, T_lex_reader_peek _ _ _ _ _ hq, ?_⟩
      obtain ⟨q6, hq, h⟩ := w_bind h
      refine ⟨q6, ⟨_, T_lex_signAt _ _ _ hq⟩, ?_⟩
      rintro _ rfl
      refine w_condH beq_iff_eq h (fun hc71 h => ?_) (fun hc71 h => ?_)
      ·
        cases h; exact ⟨rfl, rfl⟩
      ·
        rintro _ rfl
        obtain ⟨hP, h⟩ := w_chk h
        refine ⟨by first | exact hP | (simp only [List.length_map, List.length_cons, List.length_nil] at hP ⊢; exact hP), ?_⟩
        obtain ⟨hP, h⟩ := w_chk h
        refine ⟨by first | exact hP | (simp only [List.length_map, List.length_cons, List.length_nil] at hP ⊢; exact hP), ?_⟩
        obtain ⟨hP, h⟩ := w_chk h
        refine ⟨by first | exact hP | (simp only [List.length_map, List.length_cons, List.length_nil] at hP ⊢; exact hP), ?_⟩
        obtain ⟨hP, h⟩ := w_chk h
        refine ⟨by first | exact hP | (simp only [List.length_map, List.length_cons, List.length_nil] at hP ⊢; exact hP), ?_⟩
        rintro _ rfl
        obtain ⟨q7, hq, h⟩ := w_bind h
        refine ⟨q7.1, q7.2.1, List.map Token.toD q7.2.2, T_lex_reader_put _ _ _ _ _ _ _ _ hq, ?_⟩
        cases h; exact ⟨rfl, rfl⟩
theorem T_lex_reader_isLine (c : Int) (text : Str) (at_ : Int) (out : List Token) (r : Bool) (h : lex_reader_isLine c text at_ out = some r) : Trip Try.prog 25 [.hp 0 0, .d (.int .u8 c)] [[.d (.str text), .d (.int .i64 at_), .own 5 (List.map Token.toD out)]] [.d (.bool r)] [[.d (.str text), .d (.int .i64 at_), .own 5 (List.map Token.toD out)]] := by
  unfold lex_reader_isLine at h
  refine trip_ev 1000 (by kernel_rfl) (by kernel_rfl) (by kernel_rfl) (by kernel_rfl) (by kernel_rfl) (e_lex_reader_isLine _ _ c text at_ out _ _) ?_
  rintro _ rfl
  cases h; exact ⟨rfl, rfl⟩
def M_lex_reader_run_reader_isLine_L2 : (i : I_lex_reader_run_reader_isLine_L2) → R_lex_reader_run_reader_isLine_L2 i → Prop
  | .lex_reader_run_reader_isLine_L2 from_ text at_ out, r => Ok (c_lex_reader_run_reader_isLine (Trip Try.prog) [.d (.str r.1)] [[.d (.str r.2.1), .d (.int .i64 r.2.2.1), .own 5 (List.map Token.toD r.2.2.2)]]) (kL Try.f24 2) ⟨50, [(0, .hp 0 0), (1, .fn 25 [.hp 0 0] []), (5, .d (.int .i64 from_))], [], [[.d (.str text), .d (.int .i64 at_), .own 5 (List.map Token.toD out)]], 0⟩
theorem G_lex_reader_run_reader_isLine_L2 : ∀ i r, fixF F_lex_reader_run_reader_isLine_L2 i = some r → M_lex_reader_run_reader_isLine_L2 i r := by
  refine fixF_induct D_lex_reader_run_reader_isLine_L2 fun g ih i => ?_
  cases i with
  | lex_reader_run_reader_isLine_L2 from_ text at_ out =>
    have ih_lex_reader_run_reader_isLine_L2 : ∀ (from_ : Int) (text : Str) (at_ : Int) (out : List Token) (r : Str × Str × Int × List Token), g (I_lex_reader_run_reader_isLine_L2.lex_reader_run_reader_isLine_L2 from_ text at_ out) = some r → Ok (c_lex_reader_run_reader_isLine (Trip Try.prog) [.d (.str r.1)] [[.d (.str r.2.1), .d (.int .i64 r.2.2.1), .own 5 (List.map Token.toD r.2.2.2)]]) (kL Try.f24 2) ⟨50, [(0, .hp 0 0), (1, .fn 25 [.hp 0 0] []), (5, .d (.int .i64 from_))], [], [[.d (.str text), .d (.int .i64 at_), .own 5 (List.map Token.toD out)]], 0⟩ := fun from_ text at_ out r h => ih (.lex_reader_run_reader_isLine_L2 from_ text at_ out) r h
    intro r h
    show Ok (c_lex_reader_run_reader_isLine (Trip Try.prog) [.d (.str r.1)] [[.d (.str r.2.1), .d (.int .i64 r.2.2.1), .own 5 (List.map Token.toD r.2.2.2)]]) (kL Try.f24 2) ⟨50, [(0, .hp 0 0), (1, .fn 25 [.hp 0 0] []), (5, .d (.int .i64 from_))], [], [[.d (.str text), .d (.int .i64 at_), .own 5 (List.map Token.toD out)]], 0⟩
    replace h : lex_reader_run_reader_isLine_L2_B (fun from_ text at_ out => g (I_lex_reader_run_reader_isLine_L2.lex_reader_run_reader_isLine_L2 from_ text at_ out)) from_ text at_ out = some r := h
    unfold lex_reader_run_reader_isLine_L2_B at h
    refine ok_ev 1000 (e_lex_reader_run_reader_isLine_L2 _ _ from_ text at_ out _ _) ?_
    rintro _ rfl
    rintro _ rfl
    refine w_condH decide_eq_true_iff h (fun hc72 h => ?_) (fun hc72 h => ?_)
    ·
      obtain ⟨c, hx, h⟩ := w_bind h
      refine ⟨w_ge hx, c, w_at hx, ?_⟩
      rintro _ rfl
      obtain ⟨q1, hq, h⟩ := w_bind h
      refine ⟨q1, T_lex_reader_isLine _ _ _ _ _ hq, ?_⟩
      refine w_condH Iff.rfl h (fun hc73 h => ?_) (fun hc73 h => ?_)
      ·
        rintro _ rfl
        exact ih_lex_reader_run_reader_isLine_L2 _ _ _ _ _ h
      ·
        obtain ⟨hP, h⟩ := w_chk h
        refine ⟨by first | exact hP | (simp only [List.length_map, List.length_cons, List.length_nil] at hP ⊢; exact hP), ?_⟩
        obtain ⟨hP, h⟩ := w_chk h
        refine ⟨by first | exact hP | (simp only [List.length_map, List.length_cons, List.length_nil] at hP ⊢; exact hP), ?_⟩
        obtain ⟨hP, h⟩ := w_chk h
        refine ⟨by first | exact hP | (simp only [List.length_map, List.length_cons, List.length_nil] at hP ⊢; exact hP), ?_⟩
        obtain ⟨hP, h⟩ := w_chk h
        refine ⟨by first | exact hP | (simp only [List.length_map, List.length_cons, List.length_nil] at hP ⊢; exact hP), ?_⟩
        rintro _ rfl
        cases h; exact ⟨rfl, rfl⟩
    ·
      obtain ⟨hP, h⟩ := w_chk h
      refine ⟨by first | exact hP | (simp only [List.length_map, List.length_cons, List.length_nil] at hP ⊢; exact hP), ?_⟩
      obtain ⟨hP, h⟩ := w_chk h
      refine ⟨by first | exact hP | (simp only [List.length_map, List.length_cons, List.length_nil] at hP ⊢; exact hP), ?_⟩
      obtain ⟨hP, h⟩ := w_chk h
      refine ⟨by first | exact hP | (simp only [List.length_map, List.length_cons, List.length_nil] at hP ⊢; exact hP), ?_⟩
      obtain ⟨hP, h⟩ := w_chk h
      refine ⟨by first | exact hP | (simp only [List.length_map, List.length_cons, List.length_nil] at hP ⊢; exact hP), ?_⟩
      rintro _ rfl
      cases h; exact ⟨rfl, rfl⟩
theorem T_lex_reader_run_reader_isLine_L2 (from_ : Int) (text : Str) (at_ : Int) (out : List Token) (r : Str × Str × Int × List Token) (h : lex_reader_run_reader_isLine_L2 from_ text at_ out = some r) : Ok (c_lex_reader_run_reader_isLine (Trip Try.prog) [.d (.str r.1)] [[.d (.str r.2.1), .d (.int .i64 r.2.2.1), .own 5 (List.map Token.toD r.2.2.2)]]) (kL Try.f24 2) ⟨50, [(0, .hp 0 0), (1, .fn 25 [.hp 0 0] []), (5, .d (.int .i64 from_))], [], [[.d (.str text), .d (.int .i64 at_), .own 5 (List.map Token.toD out)]], 0⟩ := G_lex_reader_run_reader_isLine_L2 (.lex_reader_run_reader_isLine_L2 from_ text at_ out) r h
theorem T_lex_reader_run_reader_isLine (text : Str) (at_ : Int) (out : List Token) (r : Str × Str × Int × List Token) (h : lex_reader_run_reader_isLine text at_ out = some r) : Trip Try.prog 24 [.hp 0 0, .fn 25 [.hp 0 0] []] [[.d (.str text), .d (.int .i64 at_), .own 5 (List.map Token.toD out)]] [.d (.str r.1)] [[.d (.str r.2.1), .d (.int .i64 r.2.2.1), .own 5 (List.map Token.toD r.2.2.2)]] := by
  unfold lex_reader_run_reader_isLine at h
  refine trip_ev 1000 (by kernel_rfl) (by kernel_rfl) (by kernel_rfl) (by kernel_rfl) (by kernel_rfl) (e_lex_reader_run_reader_isLine _ _ text at_ out _ _) ?_
  exact T_lex_reader_run_reader_isLine_L2 _ _ _ _ _ h
def M_lex_reader_skip_L0 : (i : I_lex_reader_skip_L0) → R_lex_reader_skip_L0 i → Prop
  | .lex_reader_skip_L0 text at_ out, r => Ok (c_lex_reader_skip (Trip Try.prog) [] [[.d (.str r.1), .d (.int .i64 r.2.1), .own 5 (List.map Token.toD r.2.2)]]) (kL Try.f13 0) ⟨56, [(0, .hp 0 0)], [], [[.d (.str text), .d (.int .i64 at_), .own 5 (List.map Token.toD out)]], 0⟩
theorem G_lex_reader_skip_L0 : ∀ i r, fixF F_lex_reader_skip_L0 i = some r → M_lex_reader_skip_L0 i r := by
  refine fixF_induct D_lex_reader_skip_L0 fun g ih i => ?_
  cases i with
  | lex_reader_skip_L0 text at_ out =>
    have ih_lex_reader_skip_L0 : ∀ (text : Str) (at_ : Int) (out : List Token) (r : Str × Int × List Token), g (I_lex_reader_skip_L0.lex_reader_skip_L0 text at_ out) = some r → Ok (c_lex_reader_skip (Trip Try.prog) [] [[.d (.str r.1), .d (.int .i64 r.2.1), .own 5 (List.map Token.toD r.2.2)]]) (kL Try.f13 0) ⟨56, [(0, .hp 0 0)], [], [[.d (.str text), .d (.int .i64 at_), .own 5 (List.map Token.toD out)]], 0⟩ := fun text at_ out r h => ih (.lex_reader_skip_L0 text at_ out) r h
    intro r h
    show Ok (c_lex_reader_skip (Trip Try.prog) [] [[.d (.str r.1), .d (.int .i64 r.2.1), .own 5 (List.map Token.toD r.2.2)]]) (kL Try.f13 0) ⟨56, [(0, .hp 0 0)], [], [[.d (.str text), .d (.int .i64 at_), .own 5 (List.map Token.toD out)]], 0⟩
    replace h : lex_reader_skip_L0_B (fun text at_ out => g (I_lex_reader_skip_L0.lex_reader_skip_L0 text at_ out)) text at_ out = some r := h
    unfold lex_reader_skip_L0_B at h
    refine ok_ev 1000 (e_lex_reader_skip_L0 _ _ text at_ out _ _) ?_
    rintro _ rfl
    rintro _ rfl
    refine w_condH decide_eq_true_iff h (fun hc74 h => ?_) (fun hc74 h => ?_)
    ·
      obtain ⟨c, hx, h⟩ := w_bind h
      refine ⟨w_ge hx, c, w_at hx, ?_⟩
      rintro _ rfl
      rintro _ rfl
      refine w_condH beq_iff_eq h (fun hc75 h => ?_) (fun hc75 h => ?_)
      ·
        rintro _ rfl
        exact ih_lex_reader_skip_L0 _ _ _ _ h
      ·
        rintro _ rfl
        refine w_condH beq_iff_eq h (fun hc76 h => ?_) (fun hc76 h => ?_)
        ·
          rintro _ rfl
          exact ih_lex_reader_skip_L0 _ _ _ _ h
        ·
          rintro _ rfl
          refine w_condH beq_iff_eq h (fun hc77 h => ?_) (fun hc77 h => ?_)
          ·
            rintro _ rfl
            exact ih_lex_reader_skip_L0 _ _ _ _ h
          ·
            rintro _ rfl
            refine w_condH beq_iff_eq h (fun hc78 h => ?_) (fun hc78 h => ?_)
            ·
              rintro _ rfl
              exact ih_lex_reader_skip_L0 _ _ _ _ h
            ·
              rintro _ rfl
              refine w_condH beq_iff_eq h (fun hc79 h => ?_) (fun hc79 h => ?_)
              ·
                obtain ⟨q1, hq, h⟩ := w_bind h
                refine ⟨q1, T_lex_reader_peek _ _ _ _ _ hq, ?_⟩
                rintro _ rfl
                refine w_condH beq_iff_eq h (fun hc80 h => ?_) (fun hc80 h => ?_)
                ·
                  obtain ⟨q2, hq, h⟩ := w_bind h
                  refine ⟨q2.1, q2.2.1, q2.2.2.1, List.map Token.toD q2.2.2.2, T_lex_reader_run_reader_isLine _ _ _ _ hq, ?_⟩
                  exact ih_lex_reader_skip_L0 _ _ _ _ h
                ·
                  cases h; exact ⟨rfl, rfl⟩
              ·
                cases h; exact ⟨rfl, rfl⟩
    ·
      cases h; exact ⟨rfl, rfl⟩
theorem T_lex_reader_skip_L0 (text : Str) (at_ : Int) (out : List Token) (r : Str × Int × List Token) (h : lex_reader_skip_L0 text at_ out = some r) : Ok (c_lex_reader_skip (Trip Try.prog) [] [[.d (.str r.1), .d (.int .i64 r.2.1), .own 5 (List.map Token.toD r.2.2)]]) (kL Try.f13 0) ⟨56, [(0, .hp 0 0)], [], [[.d (.str text), .d (.int .i64 at_), .own 5 (List.map Token.toD out)]], 0⟩ := G_lex_reader_skip_L0 (.lex_reader_skip_L0 text at_ out) r h
theorem T_lex_reader_skip (text : Str) (at_ : Int) (out : List Token) (r : Str × Int × List Token) (h : lex_reader_skip text at_ out = some r) : Trip Try.prog 13 [.hp 0 0] [[.d (.str text), .d (.int .i64 at_), .own 5 (List.map Token.toD out)]] [] [[.d (.str r.1), .d (.int .i64 r.2.1), .own 5 (List.map Token.toD r.2.2)]] := by
  unfold lex_reader_skip at h
  refine trip_ev 1000 (by kernel_rfl) (by kernel_rfl) (by kernel_rfl) (by kernel_rfl) (by kernel_rfl) (e_lex_reader_skip _ _ text at_ out _ _) ?_
  exact T_lex_reader_skip_L0 _ _ _ _ h
def M_lex_Tokens_L5 : (i : I_lex_Tokens_L5) → R_lex_Tokens_L5 i → Prop
  | .lex_Tokens_L5 text text1 at_ out, r => Ok (c_lex_Tokens (Trip Try.prog) [.d (.sl (List.map Token.toD r.1)), .d (.int .i64 r.2.1), .d (.int .i64 r.2.2)] []) (kL Try.f10 5) ⟨45, [(0, .d (.str text)), (5, .hp 0 0)], [], [[.d (.str text1), .d (.int .i64 at_), .own 5 (List.map Token.toD out)]], 0⟩
theorem G_lex_Tokens_L5 : ∀ i r, fixF F_lex_Tokens_L5 i = some r → M_lex_Tokens_L5 i r := by
  refine fixF_induct D_lex_Tokens_L5 fun g ih i => ?_
  cases i with
  | lex_Tokens_L5 text text1 at_ out =>
    have ih_lex_Tokens_L5 : ∀ (text : Str) (text1 : Str) (at_ : Int) (out : List Token) (r : List Token × Int × Int), g (I_lex_Tokens_L5.lex_Tokens_L5 text text1 at_ out) = some r → Ok (c_lex_Tokens (Trip Try.prog) [.d (.sl (List.map Token.toD r.1)), .d (.int .i64 r.2.1), .d (.int .i64 r.2.2)] []) (kL Try.f10 5) ⟨45, [(0, .d (.str text)), (5, .hp 0 0)], [], [[.d (.str text1), .d (.int .i64 at_), .own 5 (List.map Token.toD out)]], 0⟩ := fun text text1 at_ out r h => ih (.lex_Tokens_L5 text text1 at_ out) r h
    intro r h
    show Ok (c_lex_Tokens (Trip Try.prog) [.d (.sl (List.map Token.toD r.1)), .d (.int .i64 r.2.1), .d (.int .i64 r.2.2)] []) (kL Try.f10 5) ⟨45, [(0, .d (.str text)), (5, .hp 0 0)], [], [[.d (.str text1), .d (.int .i64 at_), .own 5 (List.map Token.toD out)]], 0⟩
    replace h : lex_Tokens_L5_B (fun text text1 at_ out => g (I_lex_Tokens_L5.lex_Tokens_L5 text text1 at_ out)) text text1 at_ out = some r := h
    unfold lex_Tokens_L5_B at h
    refine ok_ev 1000 (e_lex_Tokens_L5 _ _ text text1 at_ out _ _) ?_
    rintro _ rfl
    rintro _ rfl
    refine w_condH decide_eq_true_iff h (fun hc81 h => ?_) (fun hc81 h => ?_)
    ·
      obtain ⟨q1, hq, h⟩ := w_bind h
      refine ⟨q1.1, q1.2.1, q1.2.2.1, List.map Token.toD q1.2.2.2, T_lex_reader_one _ _ _ _ hq, ?_⟩
      rintro _ rfl
      refine w_condN beq_iff_eq h (fun hc82 h => ?_) (fun hc82 h => ?_)
      ·
        obtain ⟨q2, hq, h⟩ := w_bind h
        refine ⟨q2.1, q2.2.1, List.map Token.toD q2.2.2, T_lex_reader_skip _ _ _ _ hq, ?_⟩
        exact ih_lex_Tokens_L5 _ _ _ _ _ h
      ·
        cases h; exact ⟨rfl, rfl⟩
    ·
      obtain ⟨q3, hq, h⟩ := w_bind h
      refine ⟨q3.1, q3.2.1, List.map Token.toD q3.2.2, T_lex_reader_put _ _ _ _ _ _ _ _ hq, ?_⟩
      cases h; exact ⟨rfl, rfl⟩
theorem T_lex_Tokens_L5 (text : Str) (text1 : Str) (at_ : Int) (out : List Token) (r : List Token × Int × Int) (h : lex_Tokens_L5 text text1 at_ out = some r) : Ok (c_lex_Tokens (Trip Try.prog) [.d (.sl (List.map Token.toD r.1)), .d (.int .i64 r.2.1), .d (.int .i64 r.2.2)] []) (kL Try.f10 5) ⟨45, [(0, .d (.str text)), (5, .hp 0 0)], [], [[.d (.str text1), .d (.int .i64 at_), .own 5 (List.map Token.toD out)]], 0⟩ := G_lex_Tokens_L5 (.lex_Tokens_L5 text text1 at_ out) r h
theorem T_lex_Tokens (text : Str) (r : List Token × Int × Int) (h : lex_Tokens text = some r) : Trip Try.prog 10 [.d (.str text)] [] [.d (.sl (List.map Token.toD r.1)), .d (.int .i64 r.2.1), .d (.int .i64 r.2.2)] [] := by
  unfold lex_Tokens at h
  refine trip_ev 1000 (by kernel_rfl) (by kernel_rfl) (by kernel_rfl) (by kernel_rfl) (by kernel_rfl) (e_lex_Tokens _ _ text _ _) ?_
  rintro _ rfl
  rintro _ rfl
  refine w_condH decide_eq_true_iff h (fun hc83 h => ?_) (fun hc83 h => ?_)
  ·
    cases h; exact ⟨rfl, rfl⟩
  ·
    obtain ⟨q1, hq, h⟩ := w_bind h
    refine ⟨q1.1, q1.2.1, List.map Token.toD q1.2.2, T_lex_reader_skip _ _ _ _ hq, ?_⟩
    exact T_lex_Tokens_L5 _ _ _ _ _ h
theorem T_term_meter_see (path : List Int) (v : Term) (size : Int) (depth : Int) (r : Int × Int) (h : term_meter_see path v size depth = some r) : Trip Try.prog 22 [.hp 0 0, .d (.sl (List.map (D.int .i64) path)), .d (.agg [(.int .i64 v.K), (.int .i64 v.N), (.str v.S), (.sl (List.map Term.toD v.L)), (.int .i64 v.From), (.int .i64 v.To)])] [[.d (.int .i64 size), .d (.int .i64 depth)]] [] [[.d (.int .i64 r.1), .d (.int .i64 r.2)]] := by
  unfold term_meter_see at h
  refine trip_ev 1000 (by kernel_rfl) (by kernel_rfl) (by kernel_rfl) (by kernel_rfl) (by kernel_rfl) (e_term_meter_see _ _ path v size depth _ _) ?_
  rintro _ rfl
  refine w_nam (e' := (List.length path : Int)) (by first | rfl | rw [List.length_map]) ?_
  rintro _ rfl
  rintro _ rfl
  cases h; exact ⟨rfl, rfl⟩
def M_term_walk_meter_see : (i : I_term_walk_meter_see) → R_term_walk_meter_see i → Prop
  | .term_walk_meter_see t path size depth, r => Trip Try.prog 21 [.d (.agg [(.int .i64 t.K), (.int .i64 t.N), (.str t.S), (.sl (List.map Term.toD t.L)), (.int .i64 t.From), (.int .i64 t.To)]), .d (.sl (List.map (D.int .i64) path)), .fn 22 [.hp 0 0] []] [[.d (.int .i64 size), .d (.int .i64 depth)]] [] [[.d (.int .i64 r.1), .d (.int .i64 r.2)]]
  | .term_walk_meter_see_L3 path v13 v14 v15 size depth, r => Ok (c_term_walk_meter_see (Trip Try.prog) [] [[.d (.int .i64 r.1), .d (.int .i64 r.2)]]) (kL Try.f21 3) ⟨33, [(1, .d (.sl (List.map (D.int .i64) path))), (2, .fn 22 [.hp 0 0] []), (13, .d (.sl (List.map Term.toD v13))), (14, .d (.int .i64 v14)), (15, .d (.int .i64 v15))], [], [[.d (.int .i64 size), .d (.int .i64 depth)]], 0⟩
theorem G_term_walk_meter_see : ∀ i r, fixF F_term_walk_meter_see i = some r → M_term_walk_meter_see i r := by
  refine fixF_induct D_term_walk_meter_see fun g ih i => ?_
  cases i with
  | term_walk_meter_see t path size depth =>
    have ih_term_walk_meter_see_L3 : ∀ (path : List Int) (v13 : List Term) (v14 : Int) (v15 : Int) (size : Int) (depth : Int) (r : Int × Int), g (I_term_walk_meter_see.term_walk_meter_see_L3 path v13 v14 v15 size depth) = some r → Ok (c_term_walk_meter_see (Trip Try.prog) [] [[.d (.int .i64 r.1), .d (.int .i64 r.2)]]) (kL Try.f21 3) ⟨33, [(1, .d (.sl (List.map (D.int .i64) path))), (2, .fn 22 [.hp 0 0] []), (13, .d (.sl (List.map Term.toD v13))), (14, .d (.int .i64 v14)), (15, .d (.int .i64 v15))], [], [[.d (.int .i64 size), .d (.int .i64 depth)]], 0⟩ := fun path v13 v14 v15 size depth r h => ih (.term_walk_meter_see_L3 path v13 v14 v15 size depth) r h
    intro r h
    show Trip Try.prog 21 [.d (.agg [(.int .i64 t.K), (.int .i64 t.N), (.str t.S), (.sl (List.map Term.toD t.L)), (.int .i64 t.From), (.int .i64 t.To)]), .d (.sl (List.map (D.int .i64) path)), .fn 22 [.hp 0 0] []] [[.d (.int .i64 size), .d (.int .i64 depth)]] [] [[.d (.int .i64 r.1), .d (.int .i64 r.2)]]
    replace h : term_walk_meter_see_B (fun path v13 v14 v15 size depth => g (I_term_walk_meter_see.term_walk_meter_see_L3 path v13 v14 v15 size depth)) t path size depth = some r := h
    unfold term_walk_meter_see_B at h
    refine trip_ev 1000 (by kernel_rfl) (by kernel_rfl) (by kernel_rfl) (by kernel_rfl) (by kernel_rfl) (e_term_walk_meter_see _ _ t path size depth _ _) ?_
    obtain ⟨q1, hq, h⟩ := w_bind h
    refine ⟨q1.1, q1.2, T_term_meter_see _ _ _ _ _ hq, ?_⟩
    refine w_nam (e' := (List.length t.L : Int)) (by first | rfl | rw [List.length_map]) ?_
    exact ih_term_walk_meter_see_L3 _ _ _ _ _ _ _ h
  | term_walk_meter_see_L3 path v13 v14 v15 size depth =>
    have ih_term_walk_meter_see : ∀ (t : Term) (path : List Int) (size : Int) (depth : Int) (r : Int × Int), g (I_term_walk_meter_see.term_walk_meter_see t path size depth) = some r → Trip Try.prog 21 [.d (.agg [(.int .i64 t.K), (.int .i64 t.N), (.str t.S), (.sl (List.map Term.toD t.L)), (.int .i64 t.From), (.int .i64 t.To)]), .d (.sl (List.map (D.int .i64) path)), .fn 22 [.hp 0 0] []] [[.d (.int .i64 size), .d (.int .i64 depth)]] [] [[.d (.int .i64 r.1), .d (.int .i64 r.2)]] := fun t path size depth r h => ih (.term_walk_meter_see t path size depth) r h
    have ih_term_walk_meter_see_L3 : ∀ (path : List Int) (v13 : List Term) (v14 : Int) (v15 : Int) (size : Int) (depth : Int) (r : Int × Int), g (I_term_walk_meter_see.term_walk_meter_see_L3 path v13 v14 v15 size depth) = some r → Ok (c_term_walk_meter_see (Trip Try.prog) [] [[.d (.int .i64 r.1), .d (.int .i64 r.2)]]) (kL Try.f21 3) ⟨33, [(1, .d (.sl (List.map (D.int .i64) path))), (2, .fn 22 [.hp 0 0] []), (13, .d (.sl (List.map Term.toD v13))), (14, .d (.int .i64 v14)), (15, .d (.int .i64 v15))], [], [[.d (.int .i64 size), .d (.int .i64 depth)]], 0⟩ := fun path v13 v14 v15 size depth r h => ih (.term_walk_meter_see_L3 path v13 v14 v15 size depth) r h
    intro r h
    show Ok (c_term_walk_meter_see (Trip Try.prog) [] [[.d (.int .i64 r.1), .d (.int .i64 r.2)]]) (kL Try.f21 3) ⟨33, [(1, .d (.sl (List.map (D.int .i64) path))), (2, .fn 22 [.hp 0 0] []), (13, .d (.sl (List.map Term.toD v13))), (14, .d (.int .i64 v14)), (15, .d (.int .i64 v15))], [], [[.d (.int .i64 size), .d (.int .i64 depth)]], 0⟩
    replace h : term_walk_meter_see_L3_B (fun t path size depth => g (I_term_walk_meter_see.term_walk_meter_see t path size depth)) (fun path v13 v14 v15 size depth => g (I_term_walk_meter_see.term_walk_meter_see_L3 path v13 v14 v15 size depth)) path v13 v14 v15 size depth = some r := h
    unfold term_walk_meter_see_L3_B at h
    refine ok_ev 1000 (e_term_walk_meter_see_L3 _ _ path v13 v14 v15 size depth _ _) ?_
    rintro _ rfl
    refine w_condH decide_eq_true_iff h (fun hc84 h => ?_) (fun hc84 h => ?_)
    ·
      obtain ⟨x, hx, h⟩ := w_bind h
      refine ⟨sizedL (l := v13) (Term.sz), w_ge hx, x.K, x.N, x.S, List.map Term.toD x.L, x.From, x.To, w_get (Term.toD_eq x) hx, ?_⟩
      refine w_nam (e' := (List.length path : Int)) (by first | rfl | rw [List.length_map]) ?_
      refine w_nam (e' := (List.length path : Int)) (by first | rfl | rw [List.length_map]) ?_
      refine ⟨sizedL (l := path) (fun _ => rfl), ?_⟩
      obtain ⟨hP, h⟩ := w_chk h
      refine ⟨by first | exact hP | (simp only [List.length_map, List.length_cons, List.length_nil] at hP ⊢; exact hP), ?_⟩
      obtain ⟨hP, h⟩ := w_chk h
      refine ⟨by first | exact hP | (simp only [List.length_map, List.length_cons, List.length_nil] at hP ⊢; exact hP), ?_⟩
      obtain ⟨hP, h⟩ := w_chk h
      refine ⟨by first | exact hP | (simp only [List.length_map, List.length_cons, List.length_nil] at hP ⊢; exact hP), ?_⟩
      obtain ⟨hP, h⟩ := w_chk h
      refine ⟨by first | exact hP | (simp only [List.length_map, List.length_cons, List.length_nil] at hP ⊢; exact hP), ?_⟩
      obtain ⟨hP, h⟩ := w_chk h
      refine ⟨by first | exact hP | (simp only [List.length_map, List.length_cons, List.length_nil] at hP ⊢; exact hP), ?_⟩
      refine w_nam (e' := List.map (D.int .i64) (List.drop 0 (List.take (Int.toNat (List.length path : Int)) path))) (by first | rfl | simp only [List.map_append, List.map_cons, List.map_nil, List.map_take, List.map_drop, List.map_set, List.map_replicate, List.length_map]) ?_
      refine ⟨by simp [sized, D.cells], ?_⟩
      refine ⟨by first | rfl | decide | simp only [List.length_map, List.length_cons, List.length_nil, List.map_append, List.length_append], ?_⟩
      obtain ⟨hP, h⟩ := w_chk h
      refine ⟨by first | exact hP | (simp only [List.length_map, List.length_cons, List.length_nil] at hP ⊢; exact hP), ?_⟩
      refine w_nam (e' := List.map (D.int .i64) ((List.drop 0 (List.take (Int.toNat (List.length path : Int)) path)) ++ [v15])) (by first | rfl | simp only [List.map_append, List.map_cons, List.map_nil, List.map_take, List.map_drop, List.map_set, List.map_replicate, List.length_map]) ?_
      obtain ⟨q1, hq, h⟩ := w_bind h
      refine ⟨q1.1, q1.2, ih_term_walk_meter_see _ _ _ _ _ hq, ?_⟩
      rintro _ rfl
      exact ih_term_walk_meter_see_L3 _ _ _ _ _ _ _ h
    ·
      cases h; exact ⟨rfl, rfl⟩
theorem T_term_walk_meter_see (t : Term) (path : List Int) (size : Int) (depth : Int) (r : Int × Int) (h : term_walk_meter_see t path size depth = some r) : Trip Try.prog 21 [.d (.agg [(.int .i64 t.K), (.int .i64 t.N), (.str t.S), (.sl (List.map Term.toD t.L)), (.int .i64 t.From), (.int .i64 t.To)]), .d (.sl (List.map (D.int .i64) path)), .fn 22 [.hp 0 0] []] [[.d (.int .i64 size), .d (.int .i64 depth)]] [] [[.d (.int .i64 r.1), .d (.int .i64 r.2)]] := G_term_walk_meter_see (.term_walk_meter_see t path size depth) r h
theorem T_term_walk_meter_see_L3 (path : List Int) (v13 : List Term) (v14 : Int) (v15 : Int) (size : Int) (depth : Int) (r : Int × Int) (h : term_walk_meter_see_L3 path v13 v14 v15 size depth = some r) : Ok (c_term_walk_meter_see (Trip Try.prog) [] [[.d (.int .i64 r.1), .d (.int .i64 r.2)]]) (kL Try.f21 3) ⟨33, [(1, .d (.sl (List.map (D.int .i64) path))), (2, .fn 22 [.hp 0 0] []), (13, .d (.sl (List.map Term.toD v13))), (14, .d (.int .i64 v14)), (15, .d (.int .i64 v15))], [], [[.d (.int .i64 size), .d (.int .i64 depth)]], 0⟩ := G_term_walk_meter_see (.term_walk_meter_see_L3 path v13 v14 v15 size depth) r h
theorem T_term_Depth (t : Term) (r : Int) (h : term_Depth t = some r) : Trip Try.prog 12 [.d (.agg [(.int .i64 t.K), (.int .i64 t.N), (.str t.S), (.sl (List.map Term.toD t.L)), (.int .i64 t.From), (.int .i64 t.To)])] [] [.d (.int .i64 r)] [] := by
  unfold term_Depth at h
  refine trip_ev 1000 (by kernel_rfl) (by kernel_rfl) (by kernel_rfl) (by kernel_rfl) (by kernel_rfl) (e_term_Depth _ _ t _ _) ?_
  obtain ⟨q1, hq, h⟩ := w_bind h
  refine ⟨q1.1, q1.2, T_term_walk_meter_see _ _ _ _ _ hq, ?_⟩
  cases h; exact ⟨rfl, rfl⟩
theorem T_expr_operator (t : Token) (r : Int × Int) (h : expr_operator t = some r) : Trip Try.prog 66 [.d (.agg [(.int .i64 t.K), (.int .i64 t.N), (.str t.S), (.int .i64 t.From), (.int .i64 t.To)])] [] [.d (.int .i64 r.1), .d (.int .i64 r.2)] [] := by
  unfold expr_operator at h
  refine trip_ev 1000 (by kernel_rfl) (by kernel_rfl) (by kernel_rfl) (by kernel_rfl) (by kernel_rfl) (e_expr_operator _ _ t _ _) ?_
  rintro _ rfl
  refine w_condN beq_iff_eq h (fun hc85 h => ?_) (fun hc85 h => ?_)
  ·
    rintro _ rfl
    refine w_condH beq_iff_eq h (fun hc86 h => ?_) (fun hc86 h => ?_)
    ·
      cases h; exact ⟨rfl, rfl⟩
    ·
      rintro _ rfl
      refine w_condH beq_iff_eq h (fun hc87 h => ?_) (fun hc87 h => ?_)
      ·
        cases h; exact ⟨rfl, rfl⟩
      ·
        rintro _ rfl
        refine w_condH beq_iff_eq h (fun hc88 h => ?_) (fun hc88 h => ?_)
        ·
          cases h; exact ⟨rfl, rfl⟩
        ·
          rintro _ rfl
          refine w_condH beq_iff_eq h (fun hc89 h => ?_) (fun hc89 h => ?_)
          ·
            cases h; exact ⟨rfl, rfl⟩
          ·
            rintro _ rfl
            refine w_condH beq_iff_eq h (fun hc90 h => ?_) (fun hc90 h => ?_)
            ·
              cases h; exact ⟨rfl, rfl⟩
            ·
              rintro _ rfl
              refine w_condH beq_iff_eq h (fun hc91 h => ?_) (fun hc91 h => ?_)
              ·
                cases h; exact ⟨rfl, rfl⟩
              ·
                rintro _ rfl
                refine w_condH beq_iff_eq h (fun hc92 h => ?_) (fun hc92 h => ?_)
                ·
                  cases h; exact ⟨rfl, rfl⟩
                ·
                  rintro _ rfl
                  refine w_condH beq_iff_eq h (fun hc93 h => ?_) (fun hc93 h => ?_)
                  ·
                    cases h; exact ⟨rfl, rfl⟩
                  ·
                    rintro _ rfl
                    refine w_condH beq_iff_eq h (fun hc94 h => ?_) (fun hc94 h => ?_)
                    ·
                      cases h; exact ⟨rfl, rfl⟩
                    ·
                      rintro _ rfl
                      refine w_condH beq_iff_eq h (fun hc95 h => ?_) (fun hc95 h => ?_)
                      ·
                        cases h; exact ⟨rfl, rfl⟩
                      ·
                        rintro _ rfl
                        refine w_condH beq_iff_eq h (fun hc96 h => ?_) (fun hc96 h => ?_)
                        ·
                          cases h; exact ⟨rfl, rfl⟩
                        ·
                          rintro _ rfl
                          refine w_condH beq_iff_eq h (fun hc97 h => ?_) (fun hc97 h => ?_)
                          ·
                            cases h; exact ⟨rfl, rfl⟩
                          ·
                            rintro _ rfl
                            refine w_condH beq_iff_eq h (fun hc98 h => ?_) (fun hc98 h => ?_)
                            ·
                              cases h; exact ⟨rfl, rfl⟩
                            ·
                              cases h; exact ⟨rfl, rfl⟩
  ·
    cases h; exact ⟨rfl, rfl⟩
theorem T_expr_parser_made (t : Term) (from_ : Int) (t1 : List Token) (at_ : Int) (e : Int) (r : Term) (h : expr_parser_made t from_ t1 at_ e = some r) : Trip Try.prog 54 [.hp 0 0, .d (.agg [(.int .i64 t.K), (.int .i64 t.N), (.str t.S), (.sl (List.map Term.toD t.L)), (.int .i64 t.From), (.int .i64 t.To)]), .d (.int .i64 from_)] [[.d (.sl (List.map Token.toD t1)), .d (.int .i64 at_), .d (.int .i64 e)]] [.d (.agg [(.int .i64 r.K), (.int .i64 r.N), (.str r.S), (.sl (List.map Term.toD r.L)), (.int .i64 r.From), (.int .i64 r.To)])] [[.d (.sl (List.map Token.toD t1)), .d (.int .i64 at_), .d (.int .i64 e)]] := by
  unfold expr_parser_made at h
  refine trip_ev 1000 (by kernel_rfl) (by kernel_rfl) (by kernel_rfl) (by kernel_rfl) (by kernel_rfl) (e_expr_parser_made _ _ t from_ t1 at_ e _ _) ?_
  rintro _ rfl
  refine w_condH beq_iff_eq h (fun hc99 h => ?_) (fun hc99 h => ?_)
  ·
    obtain ⟨x, hx, h⟩ := w_bind h
    refine ⟨sizedL (l := t1) (Token.sz), w_ge hx, x.K, x.N, x.S, x.From, x.To, w_get (Token.toD_eq x) hx, ?_⟩
    rintro _ rfl
    obtain ⟨x1, hx, h⟩ := w_bind h
    refine ⟨sizedL (l := t1) (Token.sz), w_ge hx, x1.K, x1.N, x1.S, x1.From, x1.To, w_get (Token.toD_eq x1) hx, ?_⟩
    cases h; exact ⟨rfl, rfl⟩
  ·
    cases h; exact ⟨rfl, rfl⟩
theorem T_expr_parser_now (t : List Token) (at_ : Int) (e : Int) (r : Token) (h : expr_parser_now t at_ e = some r) : Trip Try.prog 53 [.hp 0 0] [[.d (.sl (List.map Token.toD t)), .d (.int .i64 at_), .d (.int .i64 e)]] [.d (.agg [(.int .i64 r.K), (.int .i64 r.N), (.str r.S), (.int .i64 r.From), (.int .i64 r.To)])] [[.d (.sl (List.map Token.toD t)), .d (.int .i64 at_), .d (.int .i64 e)]] := by
  unfold expr_parser_now at h
  refine trip_ev 1000 (by kernel_rfl) (by kernel_rfl) (by kernel_rfl) (by kernel_rfl) (by kernel_rfl) (e_expr_parser_now _ _ t at_ e _ _) ?_
  refine w_nam (e' := (List.length t : Int)) (by first | rfl | rw [List.length_map]) ?_
  rintro _ rfl
  refine w_condH decide_eq_true_iff h (fun hc100 h => ?_) (fun hc100 h => ?_)
  ·
    obtain ⟨x, hx, h⟩ := w_bind h
    refine ⟨sizedL (l := t) (Token.sz), w_ge hx, x.K, x.N, x.S, x.From, x.To, w_get (Token.toD_eq x) hx, ?_⟩
    cases h; exact ⟨rfl, rfl⟩
  ·
    cases h; exact ⟨rfl, rfl⟩
theorem T_expr_parser_sign (s : Str) (t : List Token) (at_ : Int) (e : Int) (r : Bool) (h : expr_parser_sign s t at_ e = some r) : Trip Try.prog 55 [.hp 0 0, .d (.str s)] [[.d (.sl (List.map Token.toD t)), .d (.int .i64 at_), .d (.int .i64 e)]] [.d (.bool r)] [[.d (.sl (List.map Token.toD t)), .d (.int .i64 at_), .d (.int .i64 e)]] := by
  unfold expr_parser_sign at h
  refine trip_ev 1000 (by kernel_rfl) (by kernel_rfl) (by kernel_rfl) (by kernel_rfl) (by kernel_rfl) (e_expr_parser_sign _ _ s t at_ e _ _) ?_
  obtain ⟨q1, hq, h⟩ := w_bind h
  refine ⟨q1.K, q1.N, q1.S, q1.From, q1.To, T_expr_parser_now _ _ _ _ hq, ?_⟩
  rintro _ rfl
  refine w_condH beq_iff_eq h (fun hc101 h => ?_) (fun hc101 h => ?_)
  ·
    rintro _ rfl
    cases h; exact ⟨rfl, rfl⟩
  ·
    cases h; exact ⟨rfl, rfl⟩
theorem T_expr_parser_fail (t : List Token) (at_ : Int) (e : Int) (r : List Token × Int × Int) (h : expr_parser_fail t at_ e = some r) : Trip Try.prog 56 [.hp 0 0] [[.d (.sl (List.map Token.toD t)), .d (.int .i64 at_), .d (.int .i64 e)]] [] [[.d (.sl (List.map Token.toD r.1)), .d (.int .i64 r.2.1), .d (.int .i64 r.2.2)]] := by
  unfold expr_parser_fail at h
  refine trip_ev 1000 (by kernel_rfl) (by kernel_rfl) (by kernel_rfl) (by kernel_rfl) (by kernel_rfl) (e_expr_parser_fail _ _ t at_ e _ _) ?_
  rintro _ rfl
  refine w_condH beq_iff_eq h (fun hc102 h => ?_) (fun hc102 h => ?_)
  ·
    cases h; exact ⟨rfl, rfl⟩
  ·
    cases h; exact ⟨rfl, rfl⟩
theorem T_expr_parser_need (s : Str) (t : List Token) (at_ : Int) (e : Int) (r : List Token × Int × Int) (h : expr_parser_need s t at_ e = some r) : Trip Try.prog 57 [.hp 0 0, .d (.str s)] [[.d (.sl (List.map Token.toD t)), .d (.int .i64 at_), .d (.int .i64 e)]] [] [[.d (.sl (List.map Token.toD r.1)), .d (.int .i64 r.2.1), .d (.int .i64 r.2.2)]] := by
  unfold expr_parser_need at h
  refine trip_ev 1000 (by kernel_rfl) (by kernel_rfl) (by kernel_rfl) (by kernel_rfl) (by kernel_rfl) (e_expr_parser_need _ _ s t at_ e _ _) ?_
  rintro _ rfl
  refine w_condN beq_iff_eq h (fun hc103 h => ?_) (fun hc103 h => ?_)
  ·
    obtain ⟨q1, hq, h⟩ := w_bind h
    refine ⟨q1, T_expr_parser_sign _ _ _ _ _ hq, ?_⟩
    refine w_condN Iff.rfl h (fun hc104 h => ?_) (fun hc104 h => ?_)
    ·
      rintro _ rfl
      cases h; exact ⟨rfl, rfl⟩
    ·
      obtain ⟨q2, hq, h⟩ := w_bind h
      refine ⟨List.map Token.toD q2.1, q2.2.1, q2.2.2, T_expr_parser_fail _ _ _ _ hq, ?_⟩
      cases h; exact ⟨rfl, rfl⟩
  ·
    cases h; exact ⟨rfl, rfl⟩
theorem T_expr_parser_name (t : List Token) (at_ : Int) (e : Int) (r : Str × List Token × Int × Int) (h : expr_parser_name t at_ e = some r) : Trip Try.prog 81 [.hp 0 0] [[.d (.sl (List.map Token.toD t)), .d (.int .i64 at_), .d (.int .i64 e)]] [.d (.str r.1)] [[.d (.sl (List.map Token.toD r.2.1)), .d (.int .i64 r.2.2.1), .d (.int .i64 r.2.2.2)]] := by
  unfold expr_parser_name at h
  refine trip_ev 1000 (by kernel_rfl) (by kernel_rfl) (by kernel_rfl) (by kernel_rfl) (by kernel_rfl) (e_expr_parser_name _ _ t at_ e _ _) ?_
  rintro _ rfl
  refine w_condN beq_iff_eq h (fun hc105 h => ?_) (fun hc105 h => ?_)
  ·
    obtain ⟨q1, hq, h⟩ := w_bind h
    refine ⟨q1.K, q1.N, q1.S, q1.From, q1.To, T_expr_parser_now _ _ _ _ hq, ?_⟩
    rintro _ rfl
    refine w_condN beq_iff_eq h (fun hc106 h => ?_) (fun hc106 h => ?_)
    ·
      rintro _ rfl
      cases h; exact ⟨rfl, rfl⟩
    ·
      obtain ⟨q2, hq, h⟩ := w_bind h
      refine ⟨List.map Token.toD q2.1, q2.2.1, q2.2.2, T_expr_parser_fail _ _ _ _ hq, ?_⟩
      cases h; exact ⟨rfl, rfl⟩
  ·
    cases h; exact ⟨rfl, rfl⟩
def M_expr_parser_expr : (i : I_expr_parser_expr) → R_expr_parser_expr i → Prop
  | .expr_parser_expr t at_ e, r => Trip Try.prog 52 [.hp 0 0] [[.d (.sl (List.map Token.toD t)), .d (.int .i64 at_), .d (.int .i64 e)]] [.d (.agg [(.int .i64 r.1.K), (.int .i64 r.1.N), (.str r.1.S), (.sl (List.map Term.toD r.1.L)), (.int .i64 r.1.From), (.int .i64 r.1.To)])] [[.d (.sl (List.map Token.toD r.2.1)), .d (.int .i64 r.2.2.1), .d (.int .i64 r.2.2.2)]]
  | .expr_parser_level least t at_ e, r => Trip Try.prog 62 [.hp 0 0, .d (.int .i64 least)] [[.d (.sl (List.map Token.toD t)), .d (.int .i64 at_), .d (.int .i64 e)]] [.d (.agg [(.int .i64 r.1.K), (.int .i64 r.1.N), (.str r.1.S), (.sl (List.map Term.toD r.1.L)), (.int .i64 r.1.From), (.int .i64 r.1.To)])] [[.d (.sl (List.map Token.toD r.2.1)), .d (.int .i64 r.2.2.1), .d (.int .i64 r.2.2.2)]]
  | .expr_parser_level_L4 least from_ most o4 left t at_ e, r => Ok (c_expr_parser_level (Trip Try.prog) [.d (.agg [(.int .i64 r.1.K), (.int .i64 r.1.N), (.str r.1.S), (.sl (List.map Term.toD r.1.L)), (.int .i64 r.1.From), (.int .i64 r.1.To)])] [[.d (.sl (List.map Token.toD r.2.1)), .d (.int .i64 r.2.2.1), .d (.int .i64 r.2.2.2)]]) (kL Try.f62 4) ⟨63, [(0, .hp 0 0), (1, .d (.int .i64 least)), (4, .ref 4 1 0), (5, .d (.int .i64 from_)), (6, .ref 6 1 0), (7, .d (.int .i64 most))], [(4, 1, some (.agg (.agg [(.int .i64 o4.K), (.int .i64 o4.N), (.str o4.S), (.sl (List.map Term.toD o4.L)), (.int .i64 o4.From), (.int .i64 o4.To)]))), (6, 1, some (.agg (.agg [(.int .i64 left.K), (.int .i64 left.N), (.str left.S), (.sl (List.map Term.toD left.L)), (.int .i64 left.From), (.int .i64 left.To)])))], [[.d (.sl (List.map Token.toD t)), .d (.int .i64 at_), .d (.int .i64 e)]], 0⟩
  | .expr_parser_un t at_ e, r => Trip Try.prog 65 [.hp 0 0] [[.d (.sl (List.map Token.toD t)), .d (.int .i64 at_), .d (.int .i64 e)]] [.d (.agg [(.int .i64 r.1.K), (.int .i64 r.1.N), (.str r.1.S), (.sl (List.map Term.toD r.1.L)), (.int .i64 r.1.From), (.int .i64 r.1.To)])] [[.d (.sl (List.map Token.toD r.2.1)), .d (.int .i64 r.2.2.1), .d (.int .i64 r.2.2.2)]]
  | .expr_parser_post t at_ e, r => Trip Try.prog 75 [.hp 0 0] [[.d (.sl (List.map Token.toD t)), .d (.int .i64 at_), .d (.int .i64 e)]] [.d (.agg [(.int .i64 r.1.K), (.int .i64 r.1.N), (.str r.1.S), (.sl (List.map Term.toD r.1.L)), (.int .i64 r.1.From), (.int .i64 r.1.To)])] [[.d (.sl (List.map Token.toD r.2.1)), .d (.int .i64 r.2.2.1), .d (.int .i64 r.2.2.2)]]
  | .expr_parser_post_L3 from_ o2 x t at_ e, r => Ok (c_expr_parser_post (Trip Try.prog) [.d (.agg [(.int .i64 r.1.K), (.int .i64 r.1.N), (.str r.1.S), (.sl (List.map Term.toD r.1.L)), (.int .i64 r.1.From), (.int .i64 r.1.To)])] [[.d (.sl (List.map Token.toD r.2.1)), .d (.int .i64 r.2.2.1), .d (.int .i64 r.2.2.2)]]) (kL Try.f75 3) ⟨57, [(0, .hp 0 0), (2, .ref 2 1 0), (3, .d (.int .i64 from_)), (4, .ref 4 1 0)], [(2, 1, some (.agg (.agg [(.int .i64 o2.K), (.int .i64 o2.N), (.str o2.S), (.sl (List.map Term.toD o2.L)), (.int .i64 o2.From), (.int .i64 o2.To)]))), (4, 1, some (.agg (.agg [(.int .i64 x.K), (.int .i64 x.N), (.str x.S), (.sl (List.map Term.toD x.L)), (.int .i64 x.From), (.int .i64 x.To)])))], [[.d (.sl (List.map Token.toD t)), .d (.int .i64 at_), .d (.int .i64 e)]], 0⟩
  | .expr_parser_atom t at_ e, r => Trip Try.prog 80 [.hp 0 0] [[.d (.sl (List.map Token.toD t)), .d (.int .i64 at_), .d (.int .i64 e)]] [.d (.agg [(.int .i64 r.1.K), (.int .i64 r.1.N), (.str r.1.S), (.sl (List.map Term.toD r.1.L)), (.int .i64 r.1.From), (.int .i64 r.1.To)])] [[.d (.sl (List.map Token.toD r.2.1)), .d (.int .i64 r.2.2.1), .d (.int .i64 r.2.2.2)]]
  | .expr_parser_args few t at_ e, r => Trip Try.prog 82 [.hp 0 0, .d (.bool few)] [[.d (.sl (List.map Token.toD t)), .d (.int .i64 at_), .d (.int .i64 e)]] [.d (.sl (List.map Term.toD r.1))] [[.d (.sl (List.map Token.toD r.2.1)), .d (.int .i64 r.2.2.1), .d (.int .i64 r.2.2.2)]]
  | .expr_parser_word s from_ t at_ e, r => Trip Try.prog 83 [.hp 0 0, .d (.str s), .d (.int .i64 from_)] [[.d (.sl (List.map Token.toD t)), .d (.int .i64 at_), .d (.int .i64 e)]] [.d (.agg [(.int .i64 r.1.K), (.int .i64 r.1.N), (.str r.1.S), (.sl (List.map Term.toD r.1.L)), (.int .i64 r.1.From), (.int .i64 r.1.To)])] [[.d (.sl (List.map Token.toD r.2.1)), .d (.int .i64 r.2.2.1), .d (.int .i64 r.2.2.2)]]
  | .expr_parser_bracket s from_ t at_ e, r => Trip Try.prog 84 [.hp 0 0, .d (.str s), .d (.int .i64 from_)] [[.d (.sl (List.map Token.toD t)), .d (.int .i64 at_), .d (.int .i64 e)]] [.d (.agg [(.int .i64 r.1.K), (.int .i64 r.1.N), (.str r.1.S), (.sl (List.map Term.toD r.1.L)), (.int .i64 r.1.From), (.int .i64 r.1.To)])] [[.d (.sl (List.map Token.toD r.2.1)), .d (.int .i64 r.2.2.1), .d (.int .i64 r.2.2.2)]]
  | .expr_parser_list_parser_expr t at_ e, r => Trip Try.prog 85 [.hp 0 0, .fn 52 [.hp 0 0] []] [[.d (.sl (List.map Token.toD t)), .d (.int .i64 at_), .d (.int .i64 e)]] [.d (.sl (List.map Term.toD r.1))] [[.d (.sl (List.map Token.toD r.2.1)), .d (.int .i64 r.2.2.1), .d (.int .i64 r.2.2.2)]]
  | .expr_parser_list_parser_expr_L2 out t at_ e, r => Ok (c_expr_parser_list_parser_expr (Trip Try.prog) [.d (.sl (List.map Term.toD r.1))] [[.d (.sl (List.map Token.toD r.2.1)), .d (.int .i64 r.2.2.1), .d (.int .i64 r.2.2.2)]]) (kL Try.f85 2) ⟨31, [(0, .hp 0 0), (1, .fn 52 [.hp 0 0] []), (5, .right 8 1 6 (List.map Term.toD out))], [(8, 1, some (.tok 6 (List.length (List.map Term.toD out))))], [[.d (.sl (List.map Token.toD t)), .d (.int .i64 at_), .d (.int .i64 e)]], 0⟩
theorem G_expr_parser_expr : ∀ i r, fixF F_expr_parser_expr i = some r → M_expr_parser_expr i r := by
  refine fixF_induct D_expr_parser_expr fun g ih i => ?_
  cases i with
  | expr_parser_expr t at_ e =>
    have ih_expr_parser_level : ∀ (least : Int) (t : List Token) (at_ : Int) (e : Int) (r : Term × List Token × Int × Int), g (I_expr_parser_expr.expr_parser_level least t at_ e) = some r → Trip Try.prog 62 [.hp 0 0, .d (.int .i64 least)] [[.d (.sl (List.map Token.toD t)), .d (.int .i64 at_), .d (.int .i64 e)]] [.d (.agg [(.int .i64 r.1.K), (.int .i64 r.1.N), (.str r.1.S), (.sl (List.map Term.toD r.1.L)), (.int .i64 r.1.From), (.int .i64 r.1.To)])] [[.d (.sl (List.map Token.toD r.2.1)), .d (.int .i64 r.2.2.1), .d (.int .i64 r.2.2.2)]] := fun least t at_ e r h => ih (.expr_parser_level least t at_ e) r h
    intro r h
    show Trip Try.prog 52 [.hp 0 0] [[.d (.sl (List.map Token.toD t)), .d (.int .i64 at_), .d (.int .i64 e)]] [.d (.agg [(.int .i64 r.1.K), (.int .i64 r.1.N), (.str r.1.S), (.sl (List.map Term.toD r.1.L)), (.int .i64 r.1.From), (.int .i64 r.1.To)])] [[.d (.sl (List.map Token.toD r.2.1)), .d (.int .i64 r.2.2.1), .d (.int .i64 r.2.2.2)]]
    replace h : expr_parser_expr_B (fun least t at_ e => g (I_expr_parser_expr.expr_parser_level least t at_ e)) t at_ e = some r := h
    unfold expr_parser_expr_B at h
    refine trip_ev 1000 (by kernel_rfl) (by kernel_rfl) (by kernel_rfl) (by kernel_rfl) (by kernel_rfl) (e_expr_parser_expr _ _ t at_ e _ _) ?_
    obtain ⟨q1, hq, h⟩ := w_bind h
    refine ⟨q1.1.K, q1.1.N, q1.1.S, List.map Term.toD q1.1.L, q1.1.From, q1.1.To, List.map Token.toD q1.2.1, q1.2.2.1, q1.2.2.2, ih_expr_parser_level _ _ _ _ _ hq, ?_⟩
    cases h; exact ⟨rfl, rfl⟩
  | expr_parser_level least t at_ e =>
    have ih_expr_parser_level_L4 : ∀ (least : Int) (from_ : Int) (most : Int) (o4 : Term) (left : Term) (t : List Token) (at_ : Int) (e : Int) (r : Term × List Token × Int × Int), g (I_expr_parser_expr.expr_parser_level_L4 least from_ most o4 left t at_ e) = some r → Ok (c_expr_parser_level (Trip Try.prog) [.d (.agg [(.int .i64 r.1.K), (.int .i64 r.1.N), (.str r.1.S), (.sl (List.map Term.toD r.1.L)), (.int .i64 r.1.From), (.int .i64 r.1.To)])] [[.d (.sl (List.map Token.toD r.2.1)), .d (.int .i64 r.2.2.1), .d (.int .i64 r.2.2.2)]]) (kL Try.f62 4) ⟨63, [(0, .hp 0 0), (1, .d (.int .i64 least)), (4, .ref 4 1 0), (5, .d (.int .i64 from_)), (6, .ref 6 1 0), (7, .d (.int .i64 most))], [(4, 1, some (.agg (.agg [(.int .i64 o4.K), (.int .i64 o4.N), (.str o4.S), (.sl (List.map Term.toD o4.L)), (.int .i64 o4.From), (.int .i64 o4.To)]))), (6, 1, some (.agg (.agg [(.int .i64 left.K), (.int .i64 left.N), (.str left.S), (.sl (List.map Term.toD left.L)), (.int .i64 left.From), (.int .i64 left.To)])))], [[.d (.sl (List.map Token.toD t)), .d (.int .i64 at_), .d (.int .i64 e)]], 0⟩ := fun least from_ most o4 left t at_ e r h => ih (.expr_parser_level_L4 least from_ most o4 left t at_ e) r h
    have ih_expr_parser_un : ∀ (t : List Token) (at_ : Int) (e : Int) (r : Term × List Token × Int × Int), g (I_expr_parser_expr.expr_parser_un t at_ e) = some r → Trip Try.prog 65 [.hp 0 0] [[.d (.sl (List.map Token.toD t)), .d (.int .i64 at_), .d (.int .i64 e)]] [.d (.agg [(.int .i64 r.1.K), (.int .i64 r.1.N), (.str r.1.S), (.sl (List.map Term.toD r.1.L)), (.int .i64 r.1.From), (.int .i64 r.1.To)])] [[.d (.sl (List.map Token.toD r.2.1)), .d (.int .i64 r.2.2.1), .d (.int .i64 r.2.2.2)]] := fun t at_ e r h => ih (.expr_parser_un t at_ e) r h
    intro r h
    show Trip Try.prog 62 [.hp 0 0, .d (.int .i64 least)] [[.d (.sl (List.map Token.toD t)), .d (.int .i64 at_), .d (.int .i64 e)]] [.d (.agg [(.int .i64 r.1.K), (.int .i64 r.1.N), (.str r.1.S), (.sl (List.map Term.toD r.1.L)), (.int .i64 r.1.From), (.int .i64 r.1.To)])] [[.d (.sl (List.map Token.toD r.2.1)), .d (.int .i64 r.2.2.1), .d (.int .i64 r.2.2.2)]]
    replace h : expr_parser_level_B (fun least from_ most o4 left t at_ e => g (I_expr_parser_expr.expr_parser_level_L4 least from_ most o4 left t at_ e)) (fun t at_ e => g (I_expr_parser_expr.expr_parser_un t at_ e)) least t at_ e = some r := h
    unfold expr_parser_level_B at h
    refine trip_ev 1000 (by kernel_rfl) (by kernel_rfl) (by kernel_rfl) (by kernel_rfl) (by kernel_rfl) (e_expr_parser_level _ _ least t at_ e _ _) ?_
    obtain ⟨q1, hq, h⟩ := w_bind h
    refine ⟨q1.1.K, q1.1.N, q1.1.S, List.map Term.toD q1.1.L, q1.1.From, q1.1.To, List.map Token.toD q1.2.1, q1.2.2.1, q1.2.2.2, ih_expr_parser_un _ _ _ _ hq, ?_⟩
    exact ih_expr_parser_level_L4 _ _ _ _ _ _ _ _ _ h
  | expr_parser_level_L4 least from_ most o4 left t at_ e =>
    have ih_expr_parser_level : ∀ (least : Int) (t : List Token) (at_ : Int) (e : Int) (r : Term × List Token × Int × Int), g (I_expr_parser_expr.expr_parser_level least t at_ e) = some r → Trip Try.prog 62 [.hp 0 0, .d (.int .i64 least)] [[.d (.sl (List.map Token.toD t)), .d (.int .i64 at_), .d (.int .i64 e)]] [.d (.agg [(.int .i64 r.1.K), (.int .i64 r.1.N), (.str r.1.S), (.sl (List.map Term.toD r.1.L)), (.int .i64 r.1.From), (.int .i64 r.1.To)])] [[.d (.sl (List.map Token.toD r.2.1)), .d (.int .i64 r.2.2.1), .d (.int .i64 r.2.2.2)]] := fun least t at_ e r h => ih (.expr_parser_level least t at_ e) r h
    have ih_expr_parser_level_L4 : ∀ (least : Int) (from_ : Int) (most : Int) (o4 : Term) (left : Term) (t : List Token) (at_ : Int) (e : Int) (r : Term × List Token × Int × Int), g (I_expr_parser_expr.expr_parser_level_L4 least from_ most o4 left t at_ e) = some r → Ok (c_expr_parser_level (Trip Try.prog) [.d (.agg [(.int .i64 r.1.K), (.int .i64 r.1.N), (.str r.1.S), (.sl (List.map Term.toD r.1.L)), (.int .i64 r.1.From), (.int .i64 r.1.To)])] [[.d (.sl (List.map Token.toD r.2.1)), .d (.int .i64 r.2.2.1), .d (.int .i64 r.2.2.2)]]) (kL Try.f62 4) ⟨63, [(0, .hp 0 0), (1, .d (.int .i64 least)), (4, .ref 4 1 0), (5, .d (.int .i64 from_)), (6, .ref 6 1 0), (7, .d (.int .i64 most))], [(4, 1, some (.agg (.agg [(.int .i64 o4.K), (.int .i64 o4.N), (.str o4.S), (.sl (List.map Term.toD o4.L)), (.int .i64 o4.From), (.int .i64 o4.To)]))), (6, 1, some (.agg (.agg [(.int .i64 left.K), (.int .i64 left.N), (.str left.S), (.sl (List.map Term.toD left.L)), (.int .i64 left.From), (.int .i64 left.To)])))], [[.d (.sl (List.map Token.toD t)), .d (.int .i64 at_), .d (.int .i64 e)]], 0⟩ := fun least from_ most o4 left t at_ e r h => ih (.expr_parser_level_L4 least from_ most o4 left t at_ e) r h
    intro r h
    show Ok (c_expr_parser_level (Trip Try.prog) [.d (.agg [(.int .i64 r.1.K), (.int .i64 r.1.N), (.str r.1.S), (.sl (List.map Term.toD r.1.L)), (.int .i64 r.1.From), (.int .i64 r.1.To)])] [[.d (.sl (List.map Token.toD r.2.1)), .d (.int .i64 r.2.2.1), .d (.int .i64 r.2.2.2)]]) (kL Try.f62 4) ⟨63, [(0, .hp 0 0), (1, .d (.int .i64 least)), (4, .ref 4 1 0), (5, .d (.int .i64 from_)), (6, .ref 6 1 0), (7, .d (.int .i64 most))], [(4, 1, some (.agg (.agg [(.int .i64 o4.K), (.int .i64 o4.N), (.str o4.S), (.sl (List.map Term.toD o4.L)), (.int .i64 o4.From), (.int .i64 o4.To)]))), (6, 1, some (.agg (.agg [(.int .i64 left.K), (.int .i64 left.N), (.str left.S), (.sl (List.map Term.toD left.L)), (.int .i64 left.From), (.int .i64 left.To)])))], [[.d (.sl (List.map Token.toD t)), .d (.int .i64 at_), .d (.int .i64 e)]], 0⟩
    replace h : expr_parser_level_L4_B (fun least t at_ e => g (I_expr_parser_expr.expr_parser_level least t at_ e)) (fun least from_ most o4 left t at_ e => g (I_expr_parser_expr.expr_parser_level_L4 least from_ most o4 left t at_ e)) least from_ most o4 left t at_ e = some r := h
    unfold expr_parser_level_L4_B at h
    refine ok_ev 1000 (e_expr_parser_level_L4 _ _ least from_ most o4 left t at_ e _ _) ?_
    rintro _ rfl
    refine w_condH beq_iff_eq h (fun hc107 h => ?_) (fun hc107 h => ?_)
    ·
      obtain ⟨q1, hq, h⟩ := w_bind h
      refine ⟨q1.K, q1.N, q1.S, q1.From, q1.To, T_expr_parser_now _ _ _ _ hq, ?_⟩
      obtain ⟨q2, hq, h⟩ := w_bind h
      refine ⟨q2.1, q2.2, ⟨_, T_expr_operator _ _ hq⟩, ?_⟩
      rintro _ rfl
      refine w_condH decide_eq_true_iff h (fun hc108 h => ?_) (fun hc108 h => ?_)
      ·
        cases h; exact ⟨rfl, rfl⟩
      ·
        rintro _ rfl
        refine w_condH beq_iff_eq h (fun hc109 h => ?_) (fun hc109 h => ?_)
        ·
          cases h; exact ⟨rfl, rfl⟩
        ·
          rintro _ rfl
          refine w_condH decide_eq_true_iff h (fun hc110 h => ?_) (fun hc110 h => ?_)
          ·
            cases h; exact ⟨rfl, rfl⟩
          ·
            rintro _ rfl
            rintro _ rfl
            obtain ⟨q3, hq, h⟩ := w_bind h
            refine ⟨q3.1.K, q3.1.N, q3.1.S, List.map Term.toD q3.1.L, q3.1.From, q3.1.To, List.map Token.toD q3.2.1, q3.2.2.1, q3.2.2.2, ih_expr_parser_level _ _ _ _ _ hq, ?_⟩
            obtain ⟨q4, hq, h⟩ := w_bind h
            have hT := T_expr_parser_made _ _ _ _ _ _ hq
            simp only [List.map_cons, List.map_nil, Term.toD_eq] at hT
            refine ⟨q4.K, q4.N, q4.S, List.map Term.toD q4.L, q4.From, q4.To, hT, ?_⟩
            rintro _ rfl
            refine w_condH beq_iff_eq h (fun hc111 h => ?_) (fun hc111 h => ?_)
            ·
              exact ih_expr_parser_level_L4 _ _ _ _ _ _ _ _ _ h
            ·
              exact ih_expr_parser_level_L4 _ _ _ _ _ _ _ _ _ h
    ·
      cases h; exact ⟨rfl, rfl⟩
  | expr_parser_un t at_ e =>
    have ih_expr_parser_un : ∀ (t : List Token) (at_ : Int) (e : Int) (r : Term × List Token × Int × Int), g (I_expr_parser_expr.expr_parser_un t at_ e) = some r → Trip Try.prog 65 [.hp 0 0] [[.d (.sl (List.map Token.toD t)), .d (.int .i64 at_), .d (.int .i64 e)]] [.d (.agg [(.int .i64 r.1.K), (.int .i64 r.1.N), (.str r.1.S), (.sl (List.map Term.toD r.1.L)), (.int .i64 r.1.From), (.int .i64 r.1.To)])] [[.d (.sl (List.map Token.toD r.2.1)), .d (.int .i64 r.2.2.1), .d (.int .i64 r.2.2.2)]] := fun t at_ e r h => ih (.expr_parser_un t at_ e) r h
    have ih_expr_parser_post : ∀ (t : List Token) (at_ : Int) (e : Int) (r : Term × List Token × Int × Int), g (I_expr_parser_expr.expr_parser_post t at_ e) = some r → Trip Try.prog 75 [.hp 0 0] [[.d (.sl (List.map Token.toD t)), .d (.int .i64 at_), .d (.int .i64 e)]] [.d (.agg [(.int .i64 r.1.K), (.int .i64 r.1.N), (.str r.1.S), (.sl (List.map Term.toD r.1.L)), (.int .i64 r.1.From), (.int .i64 r.1.To)])] [[.d (.sl (List.map Token.toD r.2.1)), .d (.int .i64 r.2.2.1), .d (.int .i64 r.2.2.2)]] := fun t at_ e r h => ih (.expr_parser_post t at_ e) r h
    intro r h
    show Trip Try.prog 65 [.hp 0 0] [[.d (.sl (List.map Token.toD t)), .d (.int .i64 at_), .d (.int .i64 e)]] [.d (.agg [(.int .i64 r.1.K), (.int .i64 r.1.N), (.str r.1.S), (.sl (List.map Term.toD r.1.L)), (.int .i64 r.1.From), (.int .i64 r.1.To)])] [[.d (.sl (List.map Token.toD r.2.1)), .d (.int .i64 r.2.2.1), .d (.int .i64 r.2.2.2)]]
    replace h : expr_parser_un_B (fun t at_ e => g (I_expr_parser_expr.expr_parser_un t at_ e)) (fun t at_ e => g (I_expr_parser_expr.expr_parser_post t at_ e)) t at_ e = some r := h
    unfold expr_parser_un_B at h
    refine trip_ev 1000 (by kernel_rfl) (by kernel_rfl) (by kernel_rfl) (by kernel_rfl) (by kernel_rfl) (e_expr_parser_un _ _ t at_ e _ _) ?_
    rintro _ rfl
    refine w_condN beq_iff_eq h (fun hc112 h => ?_) (fun hc112 h => ?_)
    ·
      obtain ⟨q1, hq, h⟩ := w_bind h
      refine ⟨q1, T_expr_parser_sign _ _ _ _ _ hq, ?_⟩
      refine w_condH Iff.rfl h (fun hc113 h => ?_) (fun hc113 h => ?_)
      ·
        rintro _ rfl
        refine w_condH beq_iff_eq h (fun hc114 h => ?_) (fun hc114 h => ?_)
        ·
          obtain ⟨q2, hq, h⟩ := w_bind h
          refine ⟨q2.1.K, q2.1.N, q2.1.S, List.map Term.toD q2.1.L, q2.1.From, q2.1.To, List.map Token.toD q2.2.1, q2.2.2.1, q2.2.2.2, ih_expr_parser_post _ _ _ _ hq, ?_⟩
          cases h; exact ⟨rfl, rfl⟩
        ·
          rintro _ rfl
          obtain ⟨q3, hq, h⟩ := w_bind h
          refine ⟨q3.1.K, q3.1.N, q3.1.S, List.map Term.toD q3.1.L, q3.1.From, q3.1.To, List.map Token.toD q3.2.1, q3.2.2.1, q3.2.2.2, ih_expr_parser_un _ _ _ _ hq, ?_⟩
          obtain ⟨q4, hq, h⟩ := w_bind h
          have hT := T_expr_parser_made _ _ _ _ _ _ hq
          simp only [List.map_cons, List.map_nil, Term.toD_eq] at hT
          refine ⟨q4.K, q4.N, q4.S, List.map Term.toD q4.L, q4.From, q4.To, hT, ?_⟩
          cases h; exact ⟨rfl, rfl⟩
      ·
        obtain ⟨q5, hq, h⟩ := w_bind h
        refine ⟨q5, T_expr_parser_sign _ _ _ _ _ hq, ?_⟩
        refine w_condH Iff.rfl h (fun hc115 h => ?_) (fun hc115 h => ?_)
        ·
          rintro _ rfl
          refine w_condH beq_iff_eq h (fun hc116 h => ?_) (fun hc116 h => ?_)
          ·
            obtain ⟨q6, hq, h⟩ := w_bind h
            refine ⟨q6.1.K, q6.1.N, q6.1.S, List.map Term.toD q6.1.L, q6.1.From, q6.1.To, List.map Token.toD q6.2.1, q6.2.2.1, q6.2.2.2, ih_expr_parser_post _ _ _ _ hq, ?_⟩
            cases h; exact ⟨rfl, rfl⟩
          ·
            rintro _ rfl
            obtain ⟨q7, hq, h⟩ := w_bind h
            refine ⟨q7.1.K, q7.1.N, q7.1.S, List.map Term.toD q7.1.L, q7.1.From, q7.1.To, List.map Token.toD q7.2.1, q7.2.2.1, q7.2.2.2, ih_expr_parser_un _ _ _ _ hq, ?_⟩
            obtain ⟨q8, hq, h⟩ := w_bind h
            have hT := T_expr_parser_made _ _ _ _ _ _ hq
            simp only [List.map_cons, List.map_nil, Term.toD_eq] at hT
            refine ⟨q8.K, q8.N, q8.S, List.map Term.toD q8.L, q8.From, q8.To, hT, ?_⟩
            cases h; exact ⟨rfl, rfl⟩
        ·
          rintro _ rfl
          refine w_condH beq_iff_eq h (fun hc117 h => ?_) (fun hc117 h => ?_)
          ·
            obtain ⟨q9, hq, h⟩ := w_bind h
            refine ⟨q9.1.K, q9.1.N, q9.1.S, List.map Term.toD q9.1.L, q9.1.From, q9.1.To, List.map Token.toD q9.2.1, q9.2.2.1, q9.2.2.2, ih_expr_parser_post _ _ _ _ hq, ?_⟩
            cases h; exact ⟨rfl, rfl⟩
          ·
            rintro _ rfl
            obtain ⟨q10, hq, h⟩ := w_bind h
            refine ⟨q10.1.K, q10.1.N, q10.1.S, List.map Term.toD q10.1.L, q10.1.From, q10.1.To, List.map Token.toD q10.2.1, q10.2.2.1, q10.2.2.2, ih_expr_parser_un _ _ _ _ hq, ?_⟩
            obtain ⟨q11, hq, h⟩ := w_bind h
            have hT := T_expr_parser_made _ _ _ _ _ _ hq
            simp only [List.map_cons, List.map_nil, Term.toD_eq] at hT
            refine ⟨q11.K, q11.N, q11.S, List.map Term.toD q11.L, q11.From, q11.To, hT, ?_⟩
            cases h; exact ⟨rfl, rfl⟩
    ·
      cases h; exact ⟨rfl, rfl⟩
  | expr_parser_post t at_ e =>
    have ih_expr_parser_post_L3 : ∀ (from_ : Int) (o2 : Term) (x : Term) (t : List Token) (at_ : Int) (e : Int) (r : Term × List Token × Int × Int), g (I_expr_parser_expr.expr_parser_post_L3 from_ o2 x t at_ e) = some r → Ok (c_expr_parser_post (Trip Try.prog) [.d (.agg [(.int .i64 r.1.K), (.int .i64 r.1.N), (.str r.1.S), (.sl (List.map Term.toD r.1.L)), (.int .i64 r.1.From), (.int .i64 r.1.To)])] [[.d (.sl (List.map Token.toD r.2.1)), .d (.int .i64 r.2.2.1), .d (.int .i64 r.2.2.2)]]) (kL Try.f75 3) ⟨57, [(0, .hp 0 0), (2, .ref 2 1 0), (3, .d (.int .i64 from_)), (4, .ref 4 1 0)], [(2, 1, some (.agg (.agg [(.int .i64 o2.K), (.int .i64 o2.N), (.str o2.S), (.sl (List.map Term.toD o2.L)), (.int .i64 o2.From), (.int .i64 o2.To)]))), (4, 1, some (.agg (.agg [(.int .i64 x.K), (.int .i64 x.N), (.str x.S), (.sl (List.map Term.toD x.L)), (.int .i64 x.From), (.int .i64 x.To)])))], [[.d (.sl (List.map Token.toD t)), .d (.int .i64 at_), .d (.int .i64 e)]], 0⟩ := fun from_ o2 x t at_ e r h => ih (.expr_parser_post_L3 from_ o2 x t at_ e) r h
    have ih_expr_parser_atom : ∀ (t : List Token) (at_ : Int) (e : Int) (r : Term × List Token × Int × Int), g (I_expr_parser_expr.expr_parser_atom t at_ e) = some r → Trip Try.prog 80 [.hp 0 0] [[.d (.sl (List.map Token.toD t)), .d (.int .i64 at_), .d (.int .i64 e)]] [.d (.agg [(.int .i64 r.1.K), (.int .i64 r.1.N), (.str r.1.S), (.sl (List.map Term.toD r.1.L)), (.int .i64 r.1.From), (.int .i64 r.1.To)])] [[.d (.sl (List.map Token.toD r.2.1)), .d (.int .i64 r.2.2.1), .d (.int .i64 r.2.2.2)]] := fun t at_ e r h => ih (.expr_parser_atom t at_ e) r h
    intro r h
    show Trip Try.prog 75 [.hp 0 0] [[.d (.sl (List.map Token.toD t)), .d (.int .i64 at_), .d (.int .i64 e)]] [.d (.agg [(.int .i64 r.1.K), (.int .i64 r.1.N), (.str r.1.S), (.sl (List.map Term.toD r.1.L)), (.int .i64 r.1.From), (.int .i64 r.1.To)])] [[.d (.sl (List.map Token.toD r.2.1)), .d (.int .i64 r.2.2.1), .d (.int .i64 r.2.2.2)]]
    replace h : expr_parser_post_B (fun from_ o2 x t at_ e => g (I_expr_parser_expr.expr_parser_post_L3 from_ o2 x t at_ e)) (fun t at_ e => g (I_expr_parser_expr.expr_parser_atom t at_ e)) t at_ e = some r := h
    unfold expr_parser_post_B at h
    refine trip_ev 1000 (by kernel_rfl) (by kernel_rfl) (by kernel_rfl) (by kernel_rfl) (by kernel_rfl) (e_expr_parser_post _ _ t at_ e _ _) ?_
    obtain ⟨q1, hq, h⟩ := w_bind h
    refine ⟨q1.1.K, q1.1.N, q1.1.S, List.map Term.toD q1.1.L, q1.1.From, q1.1.To, List.map Token.toD q1.2.1, q1.2.2.1, q1.2.2.2, ih_expr_parser_atom _ _ _ _ hq, ?_⟩
    exact ih_expr_parser_post_L3 _ _ _ _ _ _ _ h
  | expr_parser_post_L3 from_ o2 x t at_ e =>
    have ih_expr_parser_expr : ∀ (t : List Token) (at_ : Int) (e : Int) (r : Term × List Token × Int × Int), g (I_expr_parser_expr.expr_parser_expr t at_ e) = some r → Trip Try.prog 52 [.hp 0 0] [[.d (.sl (List.map Token.toD t)), .d (.int .i64 at_), .d (.int .i64 e)]] [.d (.agg [(.int .i64 r.1.K), (.int .i64 r.1.N), (.str r.1.S), (.sl (List.map Term.toD r.1.L)), (.int .i64 r.1.From), (.int .i64 r.1.To)])] [[.d (.sl (List.map Token.toD r.2.1)), .d (.int .i64 r.2.2.1), .d (.int .i64 r.2.2.2)]] := fun t at_ e r h => ih (.expr_parser_expr t at_ e) r h
    have ih_expr_parser_post_L3 : ∀ (from_ : Int) (o2 : Term) (x : Term) (t : List Token) (at_ : Int) (e : Int) (r : Term × List Token × Int × Int), g (I_expr_parser_expr.expr_parser_post_L3 from_ o2 x t at_ e) = some r → Ok (c_expr_parser_post (Trip Try.prog) [.d (.agg [(.int .i64 r.1.K), (.int .i64 r.1.N), (.str r.1.S), (.sl (List.map Term.toD r.1.L)), (.int .i64 r.1.From), (.int .i64 r.1.To)])] [[.d (.sl (List.map Token.toD r.2.1)), .d (.int .i64 r.2.2.1), .d (.int .i64 r.2.2.2)]]) (kL Try.f75 3) ⟨57, [(0, .hp 0 0), (2, .ref 2 1 0), (3, .d (.int .i64 from_)), (4, .ref 4 1 0)], [(2, 1, some (.agg (.agg [(.int .i64 o2.K), (.int .i64 o2.N), (.str o2.S), (.sl (List.map Term.toD o2.L)), (.int .i64 o2.From), (.int .i64 o2.To)]))), (4, 1, some (.agg (.agg [(.int .i64 x.K), (.int .i64 x.N), (.str x.S), (.sl (List.map Term.toD x.L)), (.int .i64 x.From), (.int .i64 x.To)])))], [[.d (.sl (List.map Token.toD t)), .d (.int .i64 at_), .d (.int .i64 e)]], 0⟩ := fun from_ o2 x t at_ e r h => ih (.expr_parser_post_L3 from_ o2 x t at_ e) r h
    intro r h
    show Ok (c_expr_parser_post (Trip Try.prog) [.d (.agg [(.int .i64 r.1.K), (.int .i64 r.1.N), (.str r.1.S), (.sl (List.map Term.toD r.1.L)), (.int .i64 r.1.From), (.int .i64 r.1.To)])] [[.d (.sl (List.map Token.toD r.2.1)), .d (.int .i64 r.2.2.1), .d (.int .i64 r.2.2.2)]]) (kL Try.f75 3) ⟨57, [(0, .hp 0 0), (2, .ref 2 1 0), (3, .d (.int .i64 from_)), (4, .ref 4 1 0)], [(2, 1, some (.agg (.agg [(.int .i64 o2.K), (.int .i64 o2.N), (.str o2.S), (.sl (List.map Term.toD o2.L)), (.int .i64 o2.From), (.int .i64 o2.To)]))), (4, 1, some (.agg (.agg [(.int .i64 x.K), (.int .i64 x.N), (.str x.S), (.sl (List.map Term.toD x.L)), (.int .i64 x.From), (.int .i64 x.To)])))], [[.d (.sl (List.map Token.toD t)), .d (.int .i64 at_), .d (.int .i64 e)]], 0⟩
    replace h : expr_parser_post_L3_B (fun t at_ e => g (I_expr_parser_expr.expr_parser_expr t at_ e)) (fun from_ o2 x t at_ e => g (I_expr_parser_expr.expr_parser_post_L3 from_ o2 x t at_ e)) from_ o2 x t at_ e = some r := h
    unfold expr_parser_post_L3_B at h
    refine ok_ev 1000 (e_expr_parser_post_L3 _ _ from_ o2 x t at_ e _ _) ?_
    rintro _ rfl
    refine w_condH beq_iff_eq h (fun hc118 h => ?_) (fun hc118 h => ?_)
    ·
      obtain ⟨q1, hq, h⟩ := w_bind h
      refine ⟨q1, T_expr_parser_sign _ _ _ _ _ hq, ?_⟩
      refine w_condH Iff.rfl h (fun hc119 h => ?_) (fun hc119 h => ?_)
      ·
        rintro _ rfl
        obtain ⟨q2, hq, h⟩ := w_bind h
        refine ⟨q2.1.K, q2.1.N, q2.1.S, List.map Term.toD q2.1.L, q2.1.From, q2.1.To, List.map Token.toD q2.2.1, q2.2.2.1, q2.2.2.2, ih_expr_parser_expr _ _ _ _ hq, ?_⟩
        obtain ⟨q3, hq, h⟩ := w_bind h
        refine ⟨List.map Token.toD q3.1, q3.2.1, q3.2.2, T_expr_parser_need _ _ _ _ _ hq, ?_⟩
        obtain ⟨q4, hq, h⟩ := w_bind h
        have hT := T_expr_parser_made _ _ _ _ _ _ hq
        simp only [List.map_cons, List.map_nil, Term.toD_eq] at hT
        refine ⟨q4.K, q4.N, q4.S, List.map Term.toD q4.L, q4.From, q4.To, hT, ?_⟩
        exact ih_expr_parser_post_L3 _ _ _ _ _ _ _ h
      ·
        obtain ⟨q5, hq, h⟩ := w_bind h
        refine ⟨q5, T_expr_parser_sign _ _ _ _ _ hq, ?_⟩
        refine w_condH Iff.rfl h (fun hc120 h => ?_) (fun hc120 h => ?_)
        ·
          rintro _ rfl
          obtain ⟨q6, hq, h⟩ := w_bind h
          refine ⟨q6.1, List.map Token.toD q6.2.1, q6.2.2.1, q6.2.2.2, T_expr_parser_name _ _ _ _ hq, ?_⟩
          obtain ⟨q7, hq, h⟩ := w_bind h
          have hT := T_expr_parser_made _ _ _ _ _ _ hq
          simp only [List.map_cons, List.map_nil, Term.toD_eq] at hT
          refine ⟨q7.K, q7.N, q7.S, List.map Term.toD q7.L, q7.From, q7.To, hT, ?_⟩
          exact ih_expr_parser_post_L3 _ _ _ _ _ _ _ h
        ·
          cases h; exact ⟨rfl, rfl⟩
    ·
      cases h; exact ⟨rfl, rfl⟩
  | expr_parser_atom t at_ e =>
    have ih_expr_parser_args : ∀ (few : Bool) (t : List Token) (at_ : Int) (e : Int) (r : List Term × List Token × Int × Int), g (I_expr_parser_expr.expr_parser_args few t at_ e) = some r → Trip Try.prog 82 [.hp 0 0, .d (.bool few)] [[.d (.sl (List.map Token.toD t)), .d (.int .i64 at_), .d (.int .i64 e)]] [.d (.sl (List.map Term.toD r.1))] [[.d (.sl (List.map Token.toD r.2.1)), .d (.int .i64 r.2.2.1), .d (.int .i64 r.2.2.2)]] := fun few t at_ e r h => ih (.expr_parser_args few t at_ e) r h
    have ih_expr_parser_word : ∀ (s : Str) (from_ : Int) (t : List Token) (at_ : Int) (e : Int) (r : Term × List Token × Int × Int), g (I_expr_parser_expr.expr_parser_word s from_ t at_ e) = some r → Trip Try.prog 83 [.hp 0 0, .d (.str s), .d (.int .i64 from_)] [[.d (.sl (List.map Token.toD t)), .d (.int .i64 at_), .d (.int .i64 e)]] [.d (.agg [(.int .i64 r.1.K), (.int .i64 r.1.N), (.str r.1.S), (.sl (List.map Term.toD r.1.L)), (.int .i64 r.1.From), (.int .i64 r.1.To)])] [[.d (.sl (List.map Token.toD r.2.1)), .d (.int .i64 r.2.2.1), .d (.int .i64 r.2.2.2)]] := fun s from_ t at_ e r h => ih (.expr_parser_word s from_ t at_ e) r h
    have ih_expr_parser_bracket : ∀ (s : Str) (from_ : Int) (t : List Token) (at_ : Int) (e : Int) (r : Term × List Token × Int × Int), g (I_expr_parser_expr.expr_parser_bracket s from_ t at_ e) = some r → Trip Try.prog 84 [.hp 0 0, .d (.str s), .d (.int .i64 from_)] [[.d (.sl (List.map Token.toD t)), .d (.int .i64 at_), .d (.int .i64 e)]] [.d (.agg [(.int .i64 r.1.K), (.int .i64 r.1.N), (.str r.1.S), (.sl (List.map Term.toD r.1.L)), (.int .i64 r.1.From), (.int .i64 r.1.To)])] [[.d (.sl (List.map Token.toD r.2.1)), .d (.int .i64 r.2.2.1), .d (.int .i64 r.2.2.2)]] := fun s from_ t at_ e r h => ih (.expr_parser_bracket s from_ t at_ e) r h
    intro r h
    show Trip Try.prog 80 [.hp 0 0] [[.d (.sl (List.map Token.toD t)), .d (.int .i64 at_), .d (.int .i64 e)]] [.d (.agg [(.int .i64 r.1.K), (.int .i64 r.1.N), (.str r.1.S), (.sl (List.map Term.toD r.1.L)), (.int .i64 r.1.From), (.int .i64 r.1.To)])] [[.d (.sl (List.map Token.toD r.2.1)), .d (.int .i64 r.2.2.1), .d (.int .i64 r.2.2.2)]]
    replace h : expr_parser_atom_B (fun few t at_ e => g (I_expr_parser_expr.expr_parser_args few t at_ e)) (fun s from_ t at_ e => g (I_expr_parser_expr.expr_parser_word s from_ t at_ e)) (fun s from_ t at_ e => g (I_expr_parser_expr.expr_parser_bracket s from_ t at_ e)) t at_ e = some r := h
    unfold expr_parser_atom_B at h
    refine trip_ev 1000 (by kernel_rfl) (by kernel_rfl) (by kernel_rfl) (by kernel_rfl) (by kernel_rfl) (e_expr_parser_atom _ _ t at_ e _ _) ?_
    rintro _ rfl
    refine w_condN beq_iff_eq h (fun hc121 h => ?_) (fun hc121 h => ?_)
    ·
      obtain ⟨q1, hq, h⟩ := w_bind h
      refine ⟨q1.K, q1.N, q1.S, q1.From, q1.To, T_expr_parser_now _ _ _ _ hq, ?_⟩
      rintro _ rfl
      refine w_condH beq_iff_eq h (fun hc122 h => ?_) (fun hc122 h => ?_)
      ·
        rintro _ rfl
        obtain ⟨q2, hq, h⟩ := w_bind h
        refine ⟨q2.K, q2.N, q2.S, List.map Term.toD q2.L, q2.From, q2.To, T_expr_parser_made _ _ _ _ _ _ hq, ?_⟩
        cases h; exact ⟨rfl, rfl⟩
      ·
        rintro _ rfl
        refine w_condH beq_iff_eq h (fun hc123 h => ?_) (fun hc123 h => ?_)
        ·
          rintro _ rfl
          obtain ⟨q3, hq, h⟩ := w_bind h
          refine ⟨q3, T_expr_parser_sign _ _ _ _ _ hq, ?_⟩
          refine w_condH Iff.rfl h (fun hc124 h => ?_) (fun hc124 h => ?_)
          ·
            obtain ⟨q4, hq, h⟩ := w_bind h
            refine ⟨List.map Term.toD q4.1, List.map Token.toD q4.2.1, q4.2.2.1, q4.2.2.2, ih_expr_parser_args _ _ _ _ _ hq, ?_⟩
            obtain ⟨q5, hq, h⟩ := w_bind h
            refine ⟨q5.K, q5.N, q5.S, List.map Term.toD q5.L, q5.From, q5.To, T_expr_parser_made _ _ _ _ _ _ hq, ?_⟩
            cases h; exact ⟨rfl, rfl⟩
          ·
            obtain ⟨q6, hq, h⟩ := w_bind h
            refine ⟨q6.K, q6.N, q6.S, List.map Term.toD q6.L, q6.From, q6.To, T_expr_parser_made _ _ _ _ _ _ hq, ?_⟩
            cases h; exact ⟨rfl, rfl⟩
        ·
          rintro _ rfl
          refine w_condH beq_iff_eq h (fun hc125 h => ?_) (fun hc125 h => ?_)
          ·
            obtain ⟨q7, hq, h⟩ := w_bind h
            refine ⟨q7.1.K, q7.1.N, q7.1.S, List.map Term.toD q7.1.L, q7.1.From, q7.1.To, List.map Token.toD q7.2.1, q7.2.2.1, q7.2.2.2, ih_expr_parser_word _ _ _ _ _ _ hq, ?_⟩
            cases h; exact ⟨rfl, rfl⟩
          ·
            rintro _ rfl
            refine w_condH beq_iff_eq h (fun hc126 h => ?_) (fun hc126 h => ?_)
            ·
              obtain ⟨q8, hq, h⟩ := w_bind h
              refine ⟨q8.1.K, q8.1.N, q8.1.S, List.map Term.toD q8.1.L, q8.1.From, q8.1.To, List.map Token.toD q8.2.1, q8.2.2.1, q8.2.2.2, ih_expr_parser_bracket _ _ _ _ _ _ hq, ?_⟩
              cases h; exact ⟨rfl, rfl⟩
            ·
              obtain ⟨q9, hq, h⟩ := w_bind h
              refine ⟨List.map Token.toD q9.1, q9.2.1, q9.2.2, T_expr_parser_fail _ _ _ _ hq, ?_⟩
              cases h; exact ⟨rfl, rfl⟩
    ·
      cases h; exact ⟨rfl, rfl⟩
  | expr_parser_args few t at_ e =>
    have ih_expr_parser_list_parser_expr : ∀ (t : List Token) (at_ : Int) (e : Int) (r : List Term × List Token × Int × Int), g (I_expr_parser_expr.expr_parser_list_parser_expr t at_ e) = some r → Trip Try.prog 85 [.hp 0 0, .fn 52 [.hp 0 0] []] [[.d (.sl (List.map Token.toD t)), .d (.int .i64 at_), .d (.int .i64 e)]] [.d (.sl (List.map Term.toD r.1))] [[.d (.sl (List.map Token.toD r.2.1)), .d (.int .i64 r.2.2.1), .d (.int .i64 r.2.2.2)]] := fun t at_ e r h => ih (.expr_parser_list_parser_expr t at_ e) r h
    intro r h
    show Trip Try.prog 82 [.hp 0 0, .d (.bool few)] [[.d (.sl (List.map Token.toD t)), .d (.int .i64 at_), .d (.int .i64 e)]] [.d (.sl (List.map Term.toD r.1))] [[.d (.sl (List.map Token.toD r.2.1)), .d (.int .i64 r.2.2.1), .d (.int .i64 r.2.2.2)]]
    replace h : expr_parser_args_B (fun t at_ e => g (I_expr_parser_expr.expr_parser_list_parser_expr t at_ e)) few t at_ e = some r := h
    unfold expr_parser_args_B at h
    refine trip_ev 1000 (by kernel_rfl) (by kernel_rfl) (by kernel_rfl) (by kernel_rfl) (by kernel_rfl) (e_expr_parser_args _ _ few t at_ e _ _) ?_
    obtain ⟨q1, hq, h⟩ := w_bind h
    refine ⟨List.map Token.toD q1.1, q1.2.1, q1.2.2, T_expr_parser_need _ _ _ _ _ hq, ?_⟩
    rintro _ rfl
    refine w_condH beq_iff_eq h (fun hc127 h => ?_) (fun hc127 h => ?_)
    ·
      refine w_condH Iff.rfl h (fun hc128 h => ?_) (fun hc128 h => ?_)
      ·
        obtain ⟨q2, hq, h⟩ := w_bind h
        refine ⟨q2, T_expr_parser_sign _ _ _ _ _ hq, ?_⟩
        refine w_condH Iff.rfl h (fun hc129 h => ?_) (fun hc129 h => ?_)
        ·
          rintro _ rfl
          cases h; exact ⟨rfl, rfl⟩
        ·
          obtain ⟨q3, hq, h⟩ := w_bind h
          refine ⟨List.map Term.toD q3.1, List.map Token.toD q3.2.1, q3.2.2.1, q3.2.2.2, ih_expr_parser_list_parser_expr _ _ _ _ hq, ?_⟩
          obtain ⟨q4, hq, h⟩ := w_bind h
          refine ⟨List.map Token.toD q4.1, q4.2.1, q4.2.2, T_expr_parser_need _ _ _ _ _ hq, ?_⟩
          cases h; exact ⟨rfl, rfl⟩
      ·
        obtain ⟨q5, hq, h⟩ := w_bind h
        refine ⟨List.map Term.toD q5.1, List.map Token.toD q5.2.1, q5.2.2.1, q5.2.2.2, ih_expr_parser_list_parser_expr _ _ _ _ hq, ?_⟩
        obtain ⟨q6, hq, h⟩ := w_bind h
        refine ⟨List.map Token.toD q6.1, q6.2.1, q6.2.2, T_expr_parser_need _ _ _ _ _ hq, ?_⟩
        cases h; exact ⟨rfl, rfl⟩
    ·
      obtain ⟨q7, hq, h⟩ := w_bind h
      refine ⟨List.map Term.toD q7.1, List.map Token.toD q7.2.1, q7.2.2.1, q7.2.2.2, ih_expr_parser_list_parser_expr _ _ _ _ hq, ?_⟩
      obtain ⟨q8, hq, h⟩ := w_bind h
      refine ⟨List.map Token.toD q8.1, q8.2.1, q8.2.2, T_expr_parser_need _ _ _ _ _ hq, ?_⟩
      cases h; exact ⟨rfl, rfl⟩
  | expr_parser_word s from_ t at_ e =>
    have ih_expr_parser_args : ∀ (few : Bool) (t : List Token) (at_ : Int) (e : Int) (r : List Term × List Token × Int × Int), g (I_expr_parser_expr.expr_parser_args few t at_ e) = some r → Trip Try.prog 82 [.hp 0 0, .d (.bool few)] [[.d (.sl (List.map Token.toD t)), .d (.int .i64 at_), .d (.int .i64 e)]] [.d (.sl (List.map Term.toD r.1))] [[.d (.sl (List.map Token.toD r.2.1)), .d (.int .i64 r.2.2.1), .d (.int .i64 r.2.2.2)]] := fun few t at_ e r h => ih (.expr_parser_args few t at_ e) r h
    intro r h
    show Trip Try.prog 83 [.hp 0 0, .d (.str s), .d (.int .i64 from_)] [[.d (.sl (List.map Token.toD t)), .d (.int .i64 at_), .d (.int .i64 e)]] [.d (.agg [(.int .i64 r.1.K), (.int .i64 r.1.N), (.str r.1.S), (.sl (List.map Term.toD r.1.L)), (.int .i64 r.1.From), (.int .i64 r.1.To)])] [[.d (.sl (List.map Token.toD r.2.1)), .d (.int .i64 r.2.2.1), .d (.int .i64 r.2.2.2)]]
    replace h : expr_parser_word_B (fun few t at_ e => g (I_expr_parser_expr.expr_parser_args few t at_ e)) s from_ t at_ e = some r := h
    unfold expr_parser_word_B at h
    refine trip_ev 1000 (by kernel_rfl) (by kernel_rfl) (by kernel_rfl) (by kernel_rfl) (by kernel_rfl) (e_expr_parser_word _ _ s from_ t at_ e _ _) ?_
    rintro _ rfl
    rintro _ rfl
    refine w_condH beq_iff_eq h (fun hc130 h => ?_) (fun hc130 h => ?_)
    ·
      obtain ⟨q1, hq, h⟩ := w_bind h
      refine ⟨q1.K, q1.N, q1.S, List.map Term.toD q1.L, q1.From, q1.To, T_expr_parser_made _ _ _ _ _ _ hq, ?_⟩
      cases h; exact ⟨rfl, rfl⟩
    ·
      rintro _ rfl
      refine w_condH beq_iff_eq h (fun hc131 h => ?_) (fun hc131 h => ?_)
      ·
        obtain ⟨q2, hq, h⟩ := w_bind h
        refine ⟨q2.K, q2.N, q2.S, List.map Term.toD q2.L, q2.From, q2.To, T_expr_parser_made _ _ _ _ _ _ hq, ?_⟩
        cases h; exact ⟨rfl, rfl⟩
      ·
        rintro _ rfl
        refine w_condH beq_iff_eq h (fun hc132 h => ?_) (fun hc132 h => ?_)
        ·
          obtain ⟨q3, hq, h⟩ := w_bind h
          refine ⟨q3.K, q3.N, q3.S, List.map Term.toD q3.L, q3.From, q3.To, T_expr_parser_made _ _ _ _ _ _ hq, ?_⟩
          cases h; exact ⟨rfl, rfl⟩
        ·
          rintro _ rfl
          refine w_condH beq_iff_eq h (fun hc133 h => ?_) (fun hc133 h => ?_)
          ·
            obtain ⟨q4, hq, h⟩ := w_bind h
            refine ⟨q4.1, List.map Token.toD q4.2.1, q4.2.2.1, q4.2.2.2, T_expr_parser_name _ _ _ _ hq, ?_⟩
            obtain ⟨q5, hq, h⟩ := w_bind h
            refine ⟨List.map Term.toD q5.1, List.map Token.toD q5.2.1, q5.2.2.1, q5.2.2.2, ih_expr_parser_args _ _ _ _ _ hq, ?_⟩
            obtain ⟨q6, hq, h⟩ := w_bind h
            refine ⟨q6.K, q6.N, q6.S, List.map Term.toD q6.L, q6.From, q6.To, T_expr_parser_made _ _ _ _ _ _ hq, ?_⟩
            cases h; exact ⟨rfl, rfl⟩
          ·
            rintro _ rfl
            obtain ⟨q7, hq, h⟩ := w_bind h
            refine ⟨List.map Token.toD q7.1, q7.2.1, q7.2.2, T_expr_parser_fail _ _ _ _ hq, ?_⟩
            cases h; exact ⟨rfl, rfl⟩
  | expr_parser_bracket s from_ t at_ e =>
    have ih_expr_parser_expr : ∀ (t : List Token) (at_ : Int) (e : Int) (r : Term × List Token × Int × Int), g (I_expr_parser_expr.expr_parser_expr t at_ e) = some r → Trip Try.prog 52 [.hp 0 0] [[.d (.sl (List.map Token.toD t)), .d (.int .i64 at_), .d (.int .i64 e)]] [.d (.agg [(.int .i64 r.1.K), (.int .i64 r.1.N), (.str r.1.S), (.sl (List.map Term.toD r.1.L)), (.int .i64 r.1.From), (.int .i64 r.1.To)])] [[.d (.sl (List.map Token.toD r.2.1)), .d (.int .i64 r.2.2.1), .d (.int .i64 r.2.2.2)]] := fun t at_ e r h => ih (.expr_parser_expr t at_ e) r h
    have ih_expr_parser_args : ∀ (few : Bool) (t : List Token) (at_ : Int) (e : Int) (r : List Term × List Token × Int × Int), g (I_expr_parser_expr.expr_parser_args few t at_ e) = some r → Trip Try.prog 82 [.hp 0 0, .d (.bool few)] [[.d (.sl (List.map Token.toD t)), .d (.int .i64 at_), .d (.int .i64 e)]] [.d (.sl (List.map Term.toD r.1))] [[.d (.sl (List.map Token.toD r.2.1)), .d (.int .i64 r.2.2.1), .d (.int .i64 r.2.2.2)]] := fun few t at_ e r h => ih (.expr_parser_args few t at_ e) r h
    have ih_expr_parser_list_parser_expr : ∀ (t : List Token) (at_ : Int) (e : Int) (r : List Term × List Token × Int × Int), g (I_expr_parser_expr.expr_parser_list_parser_expr t at_ e) = some r → Trip Try.prog 85 [.hp 0 0, .fn 52 [.hp 0 0] []] [[.d (.sl (List.map Token.toD t)), .d (.int .i64 at_), .d (.int .i64 e)]] [.d (.sl (List.map Term.toD r.1))] [[.d (.sl (List.map Token.toD r.2.1)), .d (.int .i64 r.2.2.1), .d (.int .i64 r.2.2.2)]] := fun t at_ e r h => ih (.expr_parser_list_parser_expr t at_ e) r h
    intro r h
    show Trip Try.prog 84 [.hp 0 0, .d (.str s), .d (.int .i64 from_)] [[.d (.sl (List.map Token.toD t)), .d (.int .i64 at_), .d (.int .i64 e)]] [.d (.agg [(.int .i64 r.1.K), (.int .i64 r.1.N), (.str r.1.S), (.sl (List.map Term.toD r.1.L)), (.int .i64 r.1.From), (.int .i64 r.1.To)])] [[.d (.sl (List.map Token.toD r.2.1)), .d (.int .i64 r.2.2.1), .d (.int .i64 r.2.2.2)]]
    replace h : expr_parser_bracket_B (fun t at_ e => g (I_expr_parser_expr.expr_parser_expr t at_ e)) (fun few t at_ e => g (I_expr_parser_expr.expr_parser_args few t at_ e)) (fun t at_ e => g (I_expr_parser_expr.expr_parser_list_parser_expr t at_ e)) s from_ t at_ e = some r := h
    unfold expr_parser_bracket_B at h
    refine trip_ev 1000 (by kernel_rfl) (by kernel_rfl) (by kernel_rfl) (by kernel_rfl) (by kernel_rfl) (e_expr_parser_bracket _ _ s from_ t at_ e _ _) ?_
    rintro _ rfl
    rintro _ rfl
    refine w_condH beq_iff_eq h (fun hc134 h => ?_) (fun hc134 h => ?_)
    ·
      obtain ⟨q1, hq, h⟩ := w_bind h
      refine ⟨q1.1.K, q1.1.N, q1.1.S, List.map Term.toD q1.1.L, q1.1.From, q1.1.To, List.map Token.toD q1.2.1, q1.2.2.1, q1.2.2.2, ih_expr_parser_expr _ _ _ _ hq, ?_⟩
      obtain ⟨q2, hq, h⟩ := w_bind h
      refine ⟨List.map Token.toD q2.1, q2.2.1, q2.2.2, T_expr_parser_need _ _ _ _ _ hq, ?_⟩
      cases h; exact ⟨rfl, rfl⟩
    ·
      rintro _ rfl
      refine w_condH beq_iff_eq h (fun hc135 h => ?_) (fun hc135 h => ?_)
      ·
        obtain ⟨q3, hq, h⟩ := w_bind h
        refine ⟨List.map Term.toD q3.1, List.map Token.toD q3.2.1, q3.2.2.1, q3.2.2.2, ih_expr_parser_list_parser_expr _ _ _ _ hq, ?_⟩
        obtain ⟨q4, hq, h⟩ := w_bind h
        refine ⟨List.map Token.toD q4.1, q4.2.1, q4.2.2, T_expr_parser_need _ _ _ _ _ hq, ?_⟩
        obtain ⟨q5, hq, h⟩ := w_bind h
        refine ⟨q5.K, q5.N, q5.S, List.map Term.toD q5.L, q5.From, q5.To, T_expr_parser_made _ _ _ _ _ _ hq, ?_⟩
        cases h; exact ⟨rfl, rfl⟩
      ·
        rintro _ rfl
        refine w_condH beq_iff_eq h (fun hc136 h => ?_) (fun hc136 h => ?_)
        ·
          obtain ⟨q6, hq, h⟩ := w_bind h
          refine ⟨q6.1, List.map Token.toD q6.2.1, q6.2.2.1, q6.2.2.2, T_expr_parser_name _ _ _ _ hq, ?_⟩
          obtain ⟨q7, hq, h⟩ := w_bind h
          refine ⟨List.map Term.toD q7.1, List.map Token.toD q7.2.1, q7.2.2.1, q7.2.2.2, ih_expr_parser_args _ _ _ _ _ hq, ?_⟩
          obtain ⟨q8, hq, h⟩ := w_bind h
          refine ⟨q8.K, q8.N, q8.S, List.map Term.toD q8.L, q8.From, q8.To, T_expr_parser_made _ _ _ _ _ _ hq, ?_⟩
          cases h; exact ⟨rfl, rfl⟩
        ·
          rintro _ rfl
          obtain ⟨q9, hq, h⟩ := w_bind h
          refine ⟨List.map Token.toD q9.1, q9.2.1, q9.2.2, T_expr_parser_fail _ _ _ _ hq, ?_⟩
          cases h; exact ⟨rfl, rfl⟩
  | expr_parser_list_parser_expr t at_ e =>
    have ih_expr_parser_expr : ∀ (t : List Token) (at_ : Int) (e : Int) (r : Term × List Token × Int × Int), g (I_expr_parser_expr.expr_parser_expr t at_ e) = some r → Trip Try.prog 52 [.hp 0 0] [[.d (.sl (List.map Token.toD t)), .d (.int .i64 at_), .d (.int .i64 e)]] [.d (.agg [(.int .i64 r.1.K), (.int .i64 r.1.N), (.str r.1.S), (.sl (List.map Term.toD r.1.L)), (.int .i64 r.1.From), (.int .i64 r.1.To)])] [[.d (.sl (List.map Token.toD r.2.1)), .d (.int .i64 r.2.2.1), .d (.int .i64 r.2.2.2)]] := fun t at_ e r h => ih (.expr_parser_expr t at_ e) r h
    have ih_expr_parser_list_parser_expr_L2 : ∀ (out : List Term) (t : List Token) (at_ : Int) (e : Int) (r : List Term × List Token × Int × Int), g (I_expr_parser_expr.expr_parser_list_parser_expr_L2 out t at_ e) = some r → Ok (c_expr_parser_list_parser_expr (Trip Try.prog) [.d (.sl (List.map Term.toD r.1))] [[.d (.sl (List.map Token.toD r.2.1)), .d (.int .i64 r.2.2.1), .d (.int .i64 r.2.2.2)]]) (kL Try.f85 2) ⟨31, [(0, .hp 0 0), (1, .fn 52 [.hp 0 0] []), (5, .right 8 1 6 (List.map Term.toD out))], [(8, 1, some (.tok 6 (List.length (List.map Term.toD out))))], [[.d (.sl (List.map Token.toD t)), .d (.int .i64 at_), .d (.int .i64 e)]], 0⟩ := fun out t at_ e r h => ih (.expr_parser_list_parser_expr_L2 out t at_ e) r h
    intro r h
    show Trip Try.prog 85 [.hp 0 0, .fn 52 [.hp 0 0] []] [[.d (.sl (List.map Token.toD t)), .d (.int .i64 at_), .d (.int .i64 e)]] [.d (.sl (List.map Term.toD r.1))] [[.d (.sl (List.map Token.toD r.2.1)), .d (.int .i64 r.2.2.1), .d (.int .i64 r.2.2.2)]]
    replace h : expr_parser_list_parser_expr_B (fun t at_ e => g (I_expr_parser_expr.expr_parser_expr t at_ e)) (fun out t at_ e => g (I_expr_parser_expr.expr_parser_list_parser_expr_L2 out t at_ e)) t at_ e = some r := h
    unfold expr_parser_list_parser_expr_B at h
    refine trip_ev 1000 (by kernel_rfl) (by kernel_rfl) (by kernel_rfl) (by kernel_rfl) (by kernel_rfl) (e_expr_parser_list_parser_expr _ _ t at_ e _ _) ?_
    obtain ⟨q1, hq, h⟩ := w_bind h
    refine ⟨q1.1.K, q1.1.N, q1.1.S, List.map Term.toD q1.1.L, q1.1.From, q1.1.To, List.map Token.toD q1.2.1, q1.2.2.1, q1.2.2.2, ih_expr_parser_expr _ _ _ _ hq, ?_⟩
    have hT := ih_expr_parser_list_parser_expr_L2 _ _ _ _ _ h
    simp only [List.map_cons, List.map_nil, List.length_cons, List.length_nil, Term.toD_eq] at hT
    exact hT
  | expr_parser_list_parser_expr_L2 out t at_ e =>
    have ih_expr_parser_expr : ∀ (t : List Token) (at_ : Int) (e : Int) (r : Term × List Token × Int × Int), g (I_expr_parser_expr.expr_parser_expr t at_ e) = some r → Trip Try.prog 52 [.hp 0 0] [[.d (.sl (List.map Token.toD t)), .d (.int .i64 at_), .d (.int .i64 e)]] [.d (.agg [(.int .i64 r.1.K), (.int .i64 r.1.N), (.str r.1.S), (.sl (List.map Term.toD r.1.L)), (.int .i64 r.1.From), (.int .i64 r.1.To)])] [[.d (.sl (List.map Token.toD r.2.1)), .d (.int .i64 r.2.2.1), .d (.int .i64 r.2.2.2)]] := fun t at_ e r h => ih (.expr_parser_expr t at_ e) r h
    have ih_expr_parser_list_parser_expr_L2 : ∀ (out : List Term) (t : List Token) (at_ : Int) (e : Int) (r : List Term × List Token × Int × Int), g (I_expr_parser_expr.expr_parser_list_parser_expr_L2 out t at_ e) = some r → Ok (c_expr_parser_list_parser_expr (Trip Try.prog) [.d (.sl (List.map Term.toD r.1))] [[.d (.sl (List.map Token.toD r.2.1)), .d (.int .i64 r.2.2.1), .d (.int .i64 r.2.2.2)]]) (kL Try.f85 2) ⟨31, [(0, .hp 0 0), (1, .fn 52 [.hp 0 0] []), (5, .right 8 1 6 (List.map Term.toD out))], [(8, 1, some (.tok 6 (List.length (List.map Term.toD out))))], [[.d (.sl (List.map Token.toD t)), .d (.int .i64 at_), .d (.int .i64 e)]], 0⟩ := fun out t at_ e r h => ih (.expr_parser_list_parser_expr_L2 out t at_ e) r h
    intro r h
    show Ok (c_expr_parser_list_parser_expr (Trip Try.prog) [.d (.sl (List.map Term.toD r.1))] [[.d (.sl (List.map Token.toD r.2.1)), .d (.int .i64 r.2.2.1), .d (.int .i64 r.2.2.2)]]) (kL Try.f85 2) ⟨31, [(0, .hp 0 0), (1, .fn 52 [.hp 0 0] []), (5, .right 8 1 6 (List.map Term.toD out))], [(8, 1, some (.tok 6 (List.length (List.map Term.toD out))))], [[.d (.sl (List.map Token.toD t)), .d (.int .i64 at_), .d (.int .i64 e)]], 0⟩
    replace h : expr_parser_list_parser_expr_L2_B (fun t at_ e => g (I_expr_parser_expr.expr_parser_expr t at_ e)) (fun out t at_ e => g (I_expr_parser_expr.expr_parser_list_parser_expr_L2 out t at_ e)) out t at_ e = some r := h
    unfold expr_parser_list_parser_expr_L2_B at h
    refine ok_ev 1000 (e_expr_parser_list_parser_expr_L2 _ _ out t at_ e _ _) ?_
    rintro _ rfl
    refine w_condH beq_iff_eq h (fun hc137 h => ?_) (fun hc137 h => ?_)
    ·
      obtain ⟨q1, hq, h⟩ := w_bind h
      refine ⟨q1, T_expr_parser_sign _ _ _ _ _ hq, ?_⟩
      refine w_condH Iff.rfl h (fun hc138 h => ?_) (fun hc138 h => ?_)
      ·
        rintro _ rfl
        obtain ⟨q2, hq, h⟩ := w_bind h
        refine ⟨q2.1.K, q2.1.N, q2.1.S, List.map Term.toD q2.1.L, q2.1.From, q2.1.To, List.map Token.toD q2.2.1, q2.2.2.1, q2.2.2.2, ih_expr_parser_expr _ _ _ _ hq, ?_⟩
        refine ⟨by simp [sized, D.cells], ?_⟩
        refine ⟨by first | rfl | decide | simp only [List.length_map, List.length_cons, List.length_nil, List.map_append, List.length_append], ?_⟩
        obtain ⟨hP, h⟩ := w_chk h
        refine ⟨by first | exact hP | (simp only [List.length_map, List.length_cons, List.length_nil] at hP ⊢; exact hP), ?_⟩
        refine w_nam (e' := List.map Term.toD (out ++ [q2.1])) (by first | rfl | simp only [List.map_append, List.map_cons, List.map_nil, List.map_take, List.map_drop, List.map_set, List.map_replicate, List.length_map, Term.toD_eq]) ?_
        exact ih_expr_parser_list_parser_expr_L2 _ _ _ _ _ h
      ·
        cases h; exact ⟨rfl, rfl⟩
    ·
      cases h; exact ⟨rfl, rfl⟩
theorem T_expr_parser_expr (t : List Token) (at_ : Int) (e : Int) (r : Term × List Token × Int × Int) (h : expr_parser_expr t at_ e = some r) : Trip Try.prog 52 [.hp 0 0] [[.d (.sl (List.map Token.toD t)), .d (.int .i64 at_), .d (.int .i64 e)]] [.d (.agg [(.int .i64 r.1.K), (.int .i64 r.1.N), (.str r.1.S), (.sl (List.map Term.toD r.1.L)), (.int .i64 r.1.From), (.int .i64 r.1.To)])] [[.d (.sl (List.map Token.toD r.2.1)), .d (.int .i64 r.2.2.1), .d (.int .i64 r.2.2.2)]] := G_expr_parser_expr (.expr_parser_expr t at_ e) r h
theorem T_expr_parser_level (least : Int) (t : List Token) (at_ : Int) (e : Int) (r : Term × List Token × Int × Int) (h : expr_parser_level least t at_ e = some r) : Trip Try.prog 62 [.hp 0 0, .d (.int .i64 least)] [[.d (.sl (List.map Token.toD t)), .d (.int .i64 at_), .d (.int .i64 e)]] [.d (.agg [(.int .i64 r.1.K), (.int .i64 r.1.N), (.str r.1.S), (.sl (List.map Term.toD r.1.L)), (.int .i64 r.1.From), (.int .i64 r.1.To)])] [[.d (.sl (List.map Token.toD r.2.1)), .d (.int .i64 r.2.2.1), .d (.int .i64 r.2.2.2)]] := G_expr_parser_expr (.expr_parser_level least t at_ e) r h
theorem T_expr_parser_level_L4 (least : Int) (from_ : Int) (most : Int) (o4 : Term) (left : Term) (t : List Token) (at_ : Int) (e : Int) (r : Term × List Token × Int × Int) (h : expr_parser_level_L4 least from_ most o4 left t at_ e = some r) : Ok (c_expr_parser_level (Trip Try.prog) [.d (.agg [(.int .i64 r.1.K), (.int .i64 r.1.N), (.str r.1.S), (.sl (List.map Term.toD r.1.L)), (.int .i64 r.1.From), (.int .i64 r.1.To)])] [[.d (.sl (List.map Token.toD r.2.1)), .d (.int .i64 r.2.2.1), .d (.int .i64 r.2.2.2)]]) (kL Try.f62 4) ⟨63, [(0, .hp 0 0), (1, .d (.int .i64 least)), (4, .ref 4 1 0), (5, .d (.int .i64 from_)), (6, .ref 6 1 0), (7, .d (.int .i64 most))], [(4, 1, some (.agg (.agg [(.int .i64 o4.K), (.int .i64 o4.N), (.str o4.S), (.sl (List.map Term.toD o4.L)), (.int .i64 o4.From), (.int .i64 o4.To)]))), (6, 1, some (.agg (.agg [(.int .i64 left.K), (.int .i64 left.N), (.str left.S), (.sl (List.map Term.toD left.L)), (.int .i64 left.From), (.int .i64 left.To)])))], [[.d (.sl (List.map Token.toD t)), .d (.int .i64 at_), .d (.int .i64 e)]], 0⟩ := G_expr_parser_expr (.expr_parser_level_L4 least from_ most o4 left t at_ e) r h
theorem T_expr_parser_un (t : List Token) (at_ : Int) (e : Int) (r : Term × List Token × Int × Int) (h : expr_parser_un t at_ e = some r) : Trip Try.prog 65 [.hp 0 0] [[.d (.sl (List.map Token.toD t)), .d (.int .i64 at_), .d (.int .i64 e)]] [.d (.agg [(.int .i64 r.1.K), (.int .i64 r.1.N), (.str r.1.S), (.sl (List.map Term.toD r.1.L)), (.int .i64 r.1.From), (.int .i64 r.1.To)])] [[.d (.sl (List.map Token.toD r.2.1)), .d (.int .i64 r.2.2.1), .d (.int .i64 r.2.2.2)]] := G_expr_parser_expr (.expr_parser_un t at_ e) r h
theorem T_expr_parser_post (t : List Token) (at_ : Int) (e : Int) (r : Term × List Token × Int × Int) (h : expr_parser_post t at_ e = some r) : Trip Try.prog 75 [.hp 0 0] [[.d (.sl (List.map Token.toD t)), .d (.int .i64 at_), .d (.int .i64 e)]] [.d (.agg [(.int .i64 r.1.K), (.int .i64 r.1.N), (.str r.1.S), (.sl (List.map Term.toD r.1.L)), (.int .i64 r.1.From), (.int .i64 r.1.To)])] [[.d (.sl (List.map Token.toD r.2.1)), .d (.int .i64 r.2.2.1), .d (.int .i64 r.2.2.2)]] := G_expr_parser_expr (.expr_parser_post t at_ e) r h
theorem T_expr_parser_post_L3 (from_ : Int) (o2 : Term) (x : Term) (t : List Token) (at_ : Int) (e : Int) (r : Term × List Token × Int × Int) (h : expr_parser_post_L3 from_ o2 x t at_ e = some r) : Ok (c_expr_parser_post (Trip Try.prog) [.d (.agg [(.int .i64 r.1.K), (.int .i64 r.1.N), (.str r.1.S), (.sl (List.map Term.toD r.1.L)), (.int .i64 r.1.From), (.int .i64 r.1.To)])] [[.d (.sl (List.map Token.toD r.2.1)), .d (.int .i64 r.2.2.1), .d (.int .i64 r.2.2.2)]]) (kL Try.f75 3) ⟨57, [(0, .hp 0 0), (2, .ref 2 1 0), (3, .d (.int .i64 from_)), (4, .ref 4 1 0)], [(2, 1, some (.agg (.agg [(.int .i64 o2.K), (.int .i64 o2.N), (.str o2.S), (.sl (List.map Term.toD o2.L)), (.int .i64 o2.From), (.int .i64 o2.To)]))), (4, 1, some (.agg (.agg [(.int .i64 x.K), (.int .i64 x.N), (.str x.S), (.sl (List.map Term.toD x.L)), (.int .i64 x.From), (.int .i64 x.To)])))], [[.d (.sl (List.map Token.toD t)), .d (.int .i64 at_), .d (.int .i64 e)]], 0⟩ := G_expr_parser_expr (.expr_parser_post_L3 from_ o2 x t at_ e) r h
theorem T_expr_parser_atom (t : List Token) (at_ : Int) (e : Int) (r : Term × List Token × Int × Int) (h : expr_parser_atom t at_ e = some r) : Trip Try.prog 80 [.hp 0 0] [[.d (.sl (List.map Token.toD t)), .d (.int .i64 at_), .d (.int .i64 e)]] [.d (.agg [(.int .i64 r.1.K), (.int .i64 r.1.N), (.str r.1.S), (.sl (List.map Term.toD r.1.L)), (.int .i64 r.1.From), (.int .i64 r.1.To)])] [[.d (.sl (List.map Token.toD r.2.1)), .d (.int .i64 r.2.2.1), .d (.int .i64 r.2.2.2)]] := G_expr_parser_expr (.expr_parser_atom t at_ e) r h
theorem T_expr_parser_args (few : Bool) (t : List Token) (at_ : Int) (e : Int) (r : List Term × List Token × Int × Int) (h : expr_parser_args few t at_ e = some r) : Trip Try.prog 82 [.hp 0 0, .d (.bool few)] [[.d (.sl (List.map Token.toD t)), .d (.int .i64 at_), .d (.int .i64 e)]] [.d (.sl (List.map Term.toD r.1))] [[.d (.sl (List.map Token.toD r.2.1)), .d (.int .i64 r.2.2.1), .d (.int .i64 r.2.2.2)]] := G_expr_parser_expr (.expr_parser_args few t at_ e) r h
theorem T_expr_parser_word (s : Str) (from_ : Int) (t : List Token) (at_ : Int) (e : Int) (r : Term × List Token × Int × Int) (h : expr_parser_word s from_ t at_ e = some r) : Trip Try.prog 83 [.hp 0 0, .d (.str s), .d (.int .i64 from_)] [[.d (.sl (List.map Token.toD t)), .d (.int .i64 at_), .d (.int .i64 e)]] [.d (.agg [(.int .i64 r.1.K), (.int .i64 r.1.N), (.str r.1.S), (.sl (List.map Term.toD r.1.L)), (.int .i64 r.1.From), (.int .i64 r.1.To)])] [[.d (.sl (List.map Token.toD r.2.1)), .d (.int .i64 r.2.2.1), .d (.int .i64 r.2.2.2)]] := G_expr_parser_expr (.expr_parser_word s from_ t at_ e) r h
theorem T_expr_parser_bracket (s : Str) (from_ : Int) (t : List Token) (at_ : Int) (e : Int) (r : Term × List Token × Int × Int) (h : expr_parser_bracket s from_ t at_ e = some r) : Trip Try.prog 84 [.hp 0 0, .d (.str s), .d (.int .i64 from_)] [[.d (.sl (List.map Token.toD t)), .d (.int .i64 at_), .d (.int .i64 e)]] [.d (.agg [(.int .i64 r.1.K), (.int .i64 r.1.N), (.str r.1.S), (.sl (List.map Term.toD r.1.L)), (.int .i64 r.1.From), (.int .i64 r.1.To)])] [[.d (.sl (List.map Token.toD r.2.1)), .d (.int .i64 r.2.2.1), .d (.int .i64 r.2.2.2)]] := G_expr_parser_expr (.expr_parser_bracket s from_ t at_ e) r h
theorem T_expr_parser_list_parser_expr (t : List Token) (at_ : Int) (e : Int) (r : List Term × List Token × Int × Int) (h : expr_parser_list_parser_expr t at_ e = some r) : Trip Try.prog 85 [.hp 0 0, .fn 52 [.hp 0 0] []] [[.d (.sl (List.map Token.toD t)), .d (.int .i64 at_), .d (.int .i64 e)]] [.d (.sl (List.map Term.toD r.1))] [[.d (.sl (List.map Token.toD r.2.1)), .d (.int .i64 r.2.2.1), .d (.int .i64 r.2.2.2)]] := G_expr_parser_expr (.expr_parser_list_parser_expr t at_ e) r h
theorem T_expr_parser_list_parser_expr_L2 (out : List Term) (t : List Token) (at_ : Int) (e : Int) (r : List Term × List Token × Int × Int) (h : expr_parser_list_parser_expr_L2 out t at_ e = some r) : Ok (c_expr_parser_list_parser_expr (Trip Try.prog) [.d (.sl (List.map Term.toD r.1))] [[.d (.sl (List.map Token.toD r.2.1)), .d (.int .i64 r.2.2.1), .d (.int .i64 r.2.2.2)]]) (kL Try.f85 2) ⟨31, [(0, .hp 0 0), (1, .fn 52 [.hp 0 0] []), (5, .right 8 1 6 (List.map Term.toD out))], [(8, 1, some (.tok 6 (List.length (List.map Term.toD out))))], [[.d (.sl (List.map Token.toD t)), .d (.int .i64 at_), .d (.int .i64 e)]], 0⟩ := G_expr_parser_expr (.expr_parser_list_parser_expr_L2 out t at_ e) r h
theorem T_expr_start_parser_expr (t : List Token) (at_ : Int) (r : Term × Int × Int) (h : expr_start_parser_expr t at_ = some r) : Trip Try.prog 47 [.d (.sl (List.map Token.toD t)), .d (.int .i64 at_), .fn 52 [] []] [] [.d (.agg [(.int .i64 r.1.K), (.int .i64 r.1.N), (.str r.1.S), (.sl (List.map Term.toD r.1.L)), (.int .i64 r.1.From), (.int .i64 r.1.To)]), .d (.int .i64 r.2.1), .d (.int .i64 r.2.2)] [] := by
  unfold expr_start_parser_expr at h
  refine trip_ev 1000 (by kernel_rfl) (by kernel_rfl) (by kernel_rfl) (by kernel_rfl) (by kernel_rfl) (e_expr_start_parser_expr _ _ t at_ _ _) ?_
  rintro _ rfl
  refine w_condH decide_eq_true_iff h (fun hc139 h => ?_) (fun hc139 h => ?_)
  ·
    cases h; exact ⟨rfl, rfl⟩
  ·
    refine w_nam (e' := (List.length t : Int)) (by first | rfl | rw [List.length_map]) ?_
    rintro _ rfl
    refine w_condH decide_eq_true_iff h (fun hc140 h => ?_) (fun hc140 h => ?_)
    ·
      cases h; exact ⟨rfl, rfl⟩
    ·
      obtain ⟨q1, hq, h⟩ := w_bind h
      refine ⟨q1.1.K, q1.1.N, q1.1.S, List.map Term.toD q1.1.L, q1.1.From, q1.1.To, List.map Token.toD q1.2.1, q1.2.2.1, q1.2.2.2, T_expr_parser_expr _ _ _ _ hq, ?_⟩
      rintro _ rfl
      refine w_condN beq_iff_eq h (fun hc141 h => ?_) (fun hc141 h => ?_)
      ·
        cases h; exact ⟨rfl, rfl⟩
      ·
        cases h; exact ⟨rfl, rfl⟩
theorem T_expr_Parse (t : List Token) (at_ : Int) (r : Term × Int × Int) (h : expr_Parse t at_ = some r) : Trip Try.prog 46 [.d (.sl (List.map Token.toD t)), .d (.int .i64 at_)] [] [.d (.agg [(.int .i64 r.1.K), (.int .i64 r.1.N), (.str r.1.S), (.sl (List.map Term.toD r.1.L)), (.int .i64 r.1.From), (.int .i64 r.1.To)]), .d (.int .i64 r.2.1), .d (.int .i64 r.2.2)] [] := by
  unfold expr_Parse at h
  refine trip_ev 1000 (by kernel_rfl) (by kernel_rfl) (by kernel_rfl) (by kernel_rfl) (by kernel_rfl) (e_expr_Parse _ _ t at_ _ _) ?_
  obtain ⟨q1, hq, h⟩ := w_bind h
  refine ⟨q1.1.K, q1.1.N, q1.1.S, List.map Term.toD q1.1.L, q1.1.From, q1.1.To, q1.2.1, q1.2.2, ⟨_, T_expr_start_parser_expr _ _ _ hq⟩, ?_⟩
  cases h; exact ⟨rfl, rfl⟩
theorem T_unit_reader_is (k : Int) (s : Str) (t : List Token) (at_ : Int) (e : Int) (K : Int) (N : Int) (S : Str) (L : List Term) (From : Int) (To : Int) (r : Bool) (h : unit_reader_is k s t at_ e K N S L From To = some r) : Trip Try.prog 16 [.hp 0 0, .d (.int .i64 k), .d (.str s)] [[.d (.sl (List.map Token.toD t)), .d (.int .i64 at_), .d (.int .i64 e)], [.d (.int .i64 K), .d (.int .i64 N), .d (.str S), .own 6 (List.map Term.toD L), .d (.int .i64 From), .d (.int .i64 To)]] [.d (.bool r)] [[.d (.sl (List.map Token.toD t)), .d (.int .i64 at_), .d (.int .i64 e)], [.d (.int .i64 K), .d (.int .i64 N), .d (.str S), .own 6 (List.map Term.toD L), .d (.int .i64 From), .d (.int .i64 To)]] := by
  unfold unit_reader_is at h
  refine trip_ev 1000 (by kernel_rfl) (by kernel_rfl) (by kernel_rfl) (by kernel_rfl) (by kernel_rfl) (e_unit_reader_is _ _ k s t at_ e K N S L From To _ _) ?_
  obtain ⟨x, hx, h⟩ := w_bind h
  refine ⟨sizedL (l := t) (Token.sz), w_ge hx, x.K, x.N, x.S, x.From, x.To, w_get (Token.toD_eq x) hx, ?_⟩
  rintro _ rfl
  refine w_condH beq_iff_eq h (fun hc142 h => ?_) (fun hc142 h => ?_)
  ·
    obtain ⟨x1, hx, h⟩ := w_bind h
    refine ⟨sizedL (l := t) (Token.sz), w_ge hx, x1.K, x1.N, x1.S, x1.From, x1.To, w_get (Token.toD_eq x1) hx, ?_⟩
    rintro _ rfl
    cases h; exact ⟨rfl, rfl⟩
  ·
    cases h; exact ⟨rfl, rfl⟩
theorem T_unit_reader_literal (t : List Token) (at_ : Int) (e : Int) (K : Int) (N : Int) (S : Str) (L : List Term) (From : Int) (To : Int) (r : Term × List Token × Int × Int × Int × Int × Str × List Term × Int × Int) (h : unit_reader_literal t at_ e K N S L From To = some r) : Trip Try.prog 37 [.hp 0 0] [[.d (.sl (List.map Token.toD t)), .d (.int .i64 at_), .d (.int .i64 e)], [.d (.int .i64 K), .d (.int .i64 N), .d (.str S), .own 6 (List.map Term.toD L), .d (.int .i64 From), .d (.int .i64 To)]] [.d (.agg [(.int .i64 r.1.K), (.int .i64 r.1.N), (.str r.1.S), (.sl (List.map Term.toD r.1.L)), (.int .i64 r.1.From), (.int .i64 r.1.To)])] [[.d (.sl (List.map Token.toD r.2.1)), .d (.int .i64 r.2.2.1), .d (.int .i64 r.2.2.2.1)], [.d (.int .i64 r.2.2.2.2.1), .d (.int .i64 r.2.2.2.2.2.1), .d (.str r.2.2.2.2.2.2.1), .own 6 (List.map Term.toD r.2.2.2.2.2.2.2.1), .d (.int .i64 r.2.2.2.2.2.2.2.2.1), .d (.int .i64 r.2.2.2.2.2.2.2.2.2)]] := by
  unfold unit_reader_literal at h
  refine trip_ev 1000 (by kernel_rfl) (by kernel_rfl) (by kernel_rfl) (by kernel_rfl) (by kernel_rfl) (e_unit_reader_literal _ _ t at_ e K N S L From To _ _) ?_
  rintro _ rfl
  refine w_condN beq_iff_eq h (fun hc143 h => ?_) (fun hc143 h => ?_)
  ·
    obtain ⟨x, hx, h⟩ := w_bind h
    refine ⟨sizedL (l := t) (Token.sz), w_ge hx, x.K, x.N, x.S, x.From, x.To, w_get (Token.toD_eq x) hx, ?_⟩
    rintro _ rfl
    refine w_condN beq_iff_eq h (fun hc144 h => ?_) (fun hc144 h => ?_)
    ·
      rintro _ rfl
      refine ⟨sizedL (l := t) (Token.sz), ?_⟩
      obtain ⟨hP, h⟩ := w_chk h
      refine ⟨by first | exact hP | (simp only [List.length_map, List.length_cons, List.length_nil] at hP ⊢; exact hP), ?_⟩
      obtain ⟨hP, h⟩ := w_chk h
      refine ⟨by first | exact hP | (simp only [List.length_map, List.length_cons, List.length_nil] at hP ⊢; exact hP), ?_⟩
      obtain ⟨hP, h⟩ := w_chk h
      refine ⟨by first | exact hP | (simp only [List.length_map, List.length_cons, List.length_nil] at hP ⊢; exact hP), ?_⟩
      obtain ⟨hP, h⟩ := w_chk h
      refine ⟨by first | exact hP | (simp only [List.length_map, List.length_cons, List.length_nil] at hP ⊢; exact hP), ?_⟩
      refine w_nam (e' := List.map Token.toD (List.drop (Int.toNat at_) (List.take (Int.toNat (IntKind.wrap .i64 (at_ + 1))) t))) (by first | rfl | simp only [List.map_append, List.map_cons, List.map_nil, List.map_take, List.map_drop, List.map_set, List.map_replicate, List.length_map, Token.toD_eq]) ?_
      obtain ⟨q5, hq, h⟩ := w_bind h
      refine ⟨q5.1.K, q5.1.N, q5.1.S, List.map Term.toD q5.1.L, q5.1.From, q5.1.To, q5.2.1, q5.2.2, ⟨_, T_expr_Parse _ _ _ hq⟩, ?_⟩
      rintro _ rfl
      cases h; exact ⟨rfl, rfl⟩
    ·
      obtain ⟨q1, hq, h⟩ := w_bind h
      refine ⟨q1, T_unit_reader_is _ _ _ _ _ _ _ _ _ _ _ _ hq, ?_⟩
      refine w_condN Iff.rfl h (fun hc145 h => ?_) (fun hc145 h => ?_)
      ·
        rintro _ rfl
        refine ⟨sizedL (l := t) (Token.sz), ?_⟩
        obtain ⟨hP, h⟩ := w_chk h
        refine ⟨by first | exact hP | (simp only [List.length_map, List.length_cons, List.length_nil] at hP ⊢; exact hP), ?_⟩
        obtain ⟨hP, h⟩ := w_chk h
        refine ⟨by first | exact hP | (simp only [List.length_map, List.length_cons, List.length_nil] at hP ⊢; exact hP), ?_⟩
        obtain ⟨hP, h⟩ := w_chk h
        refine ⟨by first | exact hP | (simp only [List.length_map, List.length_cons, List.length_nil] at hP ⊢; exact hP), ?_⟩
        obtain ⟨hP, h⟩ := w_chk h
        refine ⟨by first | exact hP | (simp only [List.length_map, List.length_cons, List.length_nil] at hP ⊢; exact hP), ?_⟩
        refine w_nam (e' := List.map Token.toD (List.drop (Int.toNat at_) (List.take (Int.toNat (IntKind.wrap .i64 (at_ + 1))) t))) (by first | rfl | simp only [List.map_append, List.map_cons, List.map_nil, List.map_take, List.map_drop, List.map_set, List.map_replicate, List.length_map, Token.toD_eq]) ?_
        obtain ⟨q4, hq, h⟩ := w_bind h
        refine ⟨q4.1.K, q4.1.N, q4.1.S, List.map Term.toD q4.1.L, q4.1.From, q4.1.To, q4.2.1, q4.2.2, ⟨_, T_expr_Parse _ _ _ hq⟩, ?_⟩
        rintro _ rfl
        cases h; exact ⟨rfl, rfl⟩
      ·
        obtain ⟨q2, hq, h⟩ := w_bind h
        refine ⟨q2, T_unit_reader_is _ _ _ _ _ _ _ _ _ _ _ _ hq, ?_⟩
        refine w_condN Iff.rfl h (fun hc146 h => ?_) (fun hc146 h => ?_)
        ·
          rintro _ rfl
          refine ⟨sizedL (l := t) (Token.sz), ?_⟩
          obtain ⟨hP, h⟩ := w_chk h
          refine ⟨by first | exact hP | (simp only [List.length_map, List.length_cons, List.length_nil] at hP ⊢; exact hP), ?_⟩
          obtain ⟨hP, h⟩ := w_chk h
          refine ⟨by first | exact hP | (simp only [List.length_map, List.length_cons, List.length_nil] at hP ⊢; exact hP), ?_⟩
          obtain ⟨hP, h⟩ := w_chk h
          refine ⟨by first | exact hP | (simp only [List.length_map, List.length_cons, List.length_nil] at hP ⊢; exact hP), ?_⟩
          obtain ⟨hP, h⟩ := w_chk h
          refine ⟨by first | exact hP | (simp only [List.length_map, List.length_cons, List.length_nil] at hP ⊢; exact hP), ?_⟩
          refine w_nam (e' := List.map Token.toD (List.drop (Int.toNat at_) (List.take (Int.toNat (IntKind.wrap .i64 (at_ + 1))) t))) (by first | rfl | simp only [List.map_append, List.map_cons, List.map_nil, List.map_take, List.map_drop, List.map_set, List.map_replicate, List.length_map, Token.toD_eq]) ?_
          obtain ⟨q3, hq, h⟩ := w_bind h
          refine ⟨q3.1.K, q3.1.N, q3.1.S, List.map Term.toD q3.1.L, q3.1.From, q3.1.To, q3.2.1, q3.2.2, ⟨_, T_expr_Parse _ _ _ hq⟩, ?_⟩
          rintro _ rfl
          cases h; exact ⟨rfl, rfl⟩
        ·
          cases h; exact ⟨rfl, rfl⟩
  ·
    cases h; exact ⟨rfl, rfl⟩
theorem T_unit_reader_made (k : Int) (n : Int) (s : Str) (from_ : Int) (parts : List Term) (t : List Token) (at_ : Int) (e : Int) (K : Int) (N : Int) (S : Str) (L : List Term) (From : Int) (To : Int) (r : Term) (h : unit_reader_made k n s from_ parts t at_ e K N S L From To = some r) : Trip Try.prog 36 [.hp 0 0, .d (.int .i64 k), .d (.int .i64 n), .d (.str s), .d (.int .i64 from_), .d (.sl (List.map Term.toD parts))] [[.d (.sl (List.map Token.toD t)), .d (.int .i64 at_), .d (.int .i64 e)], [.d (.int .i64 K), .d (.int .i64 N), .d (.str S), .own 6 (List.map Term.toD L), .d (.int .i64 From), .d (.int .i64 To)]] [.d (.agg [(.int .i64 r.K), (.int .i64 r.N), (.str r.S), (.sl (List.map Term.toD r.L)), (.int .i64 r.From), (.int .i64 r.To)])] [[.d (.sl (List.map Token.toD t)), .d (.int .i64 at_), .d (.int .i64 e)], [.d (.int .i64 K), .d (.int .i64 N), .d (.str S), .own 6 (List.map Term.toD L), .d (.int .i64 From), .d (.int .i64 To)]] := by
  unfold unit_reader_made at h
  refine trip_ev 1000 (by kernel_rfl) (by kernel_rfl) (by kernel_rfl) (by kernel_rfl) (by kernel_rfl) (e_unit_reader_made _ _ k n s from_ parts t at_ e K N S L From To _ _) ?_
  rintro _ rfl
  refine w_condN beq_iff_eq h (fun hc147 h => ?_) (fun hc147 h => ?_)
  ·
    obtain ⟨x, hx, h⟩ := w_bind h
    refine ⟨sizedL (l := t) (Token.sz), w_ge hx, x.K, x.N, x.S, x.From, x.To, w_get (Token.toD_eq x) hx, ?_⟩
    rintro _ rfl
    obtain ⟨x1, hx, h⟩ := w_bind h
    refine ⟨sizedL (l := t) (Token.sz), w_ge hx, x1.K, x1.N, x1.S, x1.From, x1.To, w_get (Token.toD_eq x1) hx, ?_⟩
    cases h; exact ⟨rfl, rfl⟩
  ·
    cases h; exact ⟨rfl, rfl⟩
theorem T_unit_reader_name (t : List Token) (at_ : Int) (e : Int) (K : Int) (N : Int) (S : Str) (L : List Term) (From : Int) (To : Int) (r : Str × List Token × Int × Int × Int × Int × Str × List Term × Int × Int) (h : unit_reader_name t at_ e K N S L From To = some r) : Trip Try.prog 31 [.hp 0 0] [[.d (.sl (List.map Token.toD t)), .d (.int .i64 at_), .d (.int .i64 e)], [.d (.int .i64 K), .d (.int .i64 N), .d (.str S), .own 6 (List.map Term.toD L), .d (.int .i64 From), .d (.int .i64 To)]] [.d (.str r.1)] [[.d (.sl (List.map Token.toD r.2.1)), .d (.int .i64 r.2.2.1), .d (.int .i64 r.2.2.2.1)], [.d (.int .i64 r.2.2.2.2.1), .d (.int .i64 r.2.2.2.2.2.1), .d (.str r.2.2.2.2.2.2.1), .own 6 (List.map Term.toD r.2.2.2.2.2.2.2.1), .d (.int .i64 r.2.2.2.2.2.2.2.2.1), .d (.int .i64 r.2.2.2.2.2.2.2.2.2)]] := by
  unfold unit_reader_name at h
  refine trip_ev 1000 (by kernel_rfl) (by kernel_rfl) (by kernel_rfl) (by kernel_rfl) (by kernel_rfl) (e_unit_reader_name _ _ t at_ e K N S L From To _ _) ?_
  rintro _ rfl
  refine w_condN beq_iff_eq h (fun hc148 h => ?_) (fun hc148 h => ?_)
  ·
    obtain ⟨x, hx, h⟩ := w_bind h
    refine ⟨sizedL (l := t) (Token.sz), w_ge hx, x.K, x.N, x.S, x.From, x.To, w_get (Token.toD_eq x) hx, ?_⟩
    rintro _ rfl
    refine w_condN beq_iff_eq h (fun hc149 h => ?_) (fun hc149 h => ?_)
    ·
      rintro _ rfl
      rintro _ rfl
      obtain ⟨x1, hx, h⟩ := w_bind h
      refine ⟨sizedL (l := t) (Token.sz), w_ge hx, x1.K, x1.N, x1.S, x1.From, x1.To, w_get (Token.toD_eq x1) hx, ?_⟩
      cases h; exact ⟨rfl, rfl⟩
    ·
      cases h; exact ⟨rfl, rfl⟩
  ·
    cases h; exact ⟨rfl, rfl⟩
theorem T_unit_reader_take (k : Int) (s : Str) (t : List Token) (at_ : Int) (e : Int) (K : Int) (N : Int) (S : Str) (L : List Term) (From : Int) (To : Int) (r : Bool × List Token × Int × Int × Int × Int × Str × List Term × Int × Int) (h : unit_reader_take k s t at_ e K N S L From To = some r) : Trip Try.prog 40 [.hp 0 0, .d (.int .i64 k), .d (.str s)] [[.d (.sl (List.map Token.toD t)), .d (.int .i64 at_), .d (.int .i64 e)], [.d (.int .i64 K), .d (.int .i64 N), .d (.str S), .own 6 (List.map Term.toD L), .d (.int .i64 From), .d (.int .i64 To)]] [.d (.bool r.1)] [[.d (.sl (List.map Token.toD r.2.1)), .d (.int .i64 r.2.2.1), .d (.int .i64 r.2.2.2.1)], [.d (.int .i64 r.2.2.2.2.1), .d (.int .i64 r.2.2.2.2.2.1), .d (.str r.2.2.2.2.2.2.1), .own 6 (List.map Term.toD r.2.2.2.2.2.2.2.1), .d (.int .i64 r.2.2.2.2.2.2.2.2.1), .d (.int .i64 r.2.2.2.2.2.2.2.2.2)]] := by
  unfold unit_reader_take at h
  refine trip_ev 1000 (by kernel_rfl) (by kernel_rfl) (by kernel_rfl) (by kernel_rfl) (by kernel_rfl) (e_unit_reader_take _ _ k s t at_ e K N S L From To _ _) ?_
  rintro _ rfl
  refine w_condN beq_iff_eq h (fun hc150 h => ?_) (fun hc150 h => ?_)
  ·
    obtain ⟨q1, hq, h⟩ := w_bind h
    refine ⟨q1, T_unit_reader_is _ _ _ _ _ _ _ _ _ _ _ _ hq, ?_⟩
    refine w_condN Iff.rfl h (fun hc151 h => ?_) (fun hc151 h => ?_)
    ·
      rintro _ rfl
      cases h; exact ⟨rfl, rfl⟩
    ·
      cases h; exact ⟨rfl, rfl⟩
  ·
    cases h; exact ⟨rfl, rfl⟩
theorem T_unit_reader_need (k : Int) (s : Str) (t : List Token) (at_ : Int) (e : Int) (K : Int) (N : Int) (S : Str) (L : List Term) (From : Int) (To : Int) (r : List Token × Int × Int × Int × Int × Str × List Term × Int × Int) (h : unit_reader_need k s t at_ e K N S L From To = some r) : Trip Try.prog 32 [.hp 0 0, .d (.int .i64 k), .d (.str s)] [[.d (.sl (List.map Token.toD t)), .d (.int .i64 at_), .d (.int .i64 e)], [.d (.int .i64 K), .d (.int .i64 N), .d (.str S), .own 6 (List.map Term.toD L), .d (.int .i64 From), .d (.int .i64 To)]] [] [[.d (.sl (List.map Token.toD r.1)), .d (.int .i64 r.2.1), .d (.int .i64 r.2.2.1)], [.d (.int .i64 r.2.2.2.1), .d (.int .i64 r.2.2.2.2.1), .d (.str r.2.2.2.2.2.1), .own 6 (List.map Term.toD r.2.2.2.2.2.2.1), .d (.int .i64 r.2.2.2.2.2.2.2.1), .d (.int .i64 r.2.2.2.2.2.2.2.2)]] := by
  unfold unit_reader_need at h
  refine trip_ev 1000 (by kernel_rfl) (by kernel_rfl) (by kernel_rfl) (by kernel_rfl) (by kernel_rfl) (e_unit_reader_need _ _ k s t at_ e K N S L From To _ _) ?_
  rintro _ rfl
  refine w_condH beq_iff_eq h (fun hc152 h => ?_) (fun hc152 h => ?_)
  ·
    obtain ⟨q1, hq, h⟩ := w_bind h
    refine ⟨q1.1, List.map Token.toD q1.2.1, q1.2.2.1, q1.2.2.2.1, q1.2.2.2.2.1, q1.2.2.2.2.2.1, q1.2.2.2.2.2.2.1, List.map Term.toD q1.2.2.2.2.2.2.2.1, q1.2.2.2.2.2.2.2.2.1, q1.2.2.2.2.2.2.2.2.2, T_unit_reader_take _ _ _ _ _ _ _ _ _ _ _ _ hq, ?_⟩
    refine w_condN Iff.rfl h (fun hc153 h => ?_) (fun hc153 h => ?_)
    ·
      cases h; exact ⟨rfl, rfl⟩
    ·
      cases h; exact ⟨rfl, rfl⟩
  ·
    cases h; exact ⟨rfl, rfl⟩
theorem T_unit_reader_define (t : List Token) (at_ : Int) (e : Int) (K : Int) (N : Int) (S : Str) (L : List Term) (From : Int) (To : Int) (r : Term × List Token × Int × Int × Int × Int × Str × List Term × Int × Int) (h : unit_reader_define t at_ e K N S L From To = some r) : Trip Try.prog 18 [.hp 0 0] [[.d (.sl (List.map Token.toD t)), .d (.int .i64 at_), .d (.int .i64 e)], [.d (.int .i64 K), .d (.int .i64 N), .d (.str S), .own 6 (List.map Term.toD L), .d (.int .i64 From), .d (.int .i64 To)]] [.d (.agg [(.int .i64 r.1.K), (.int .i64 r.1.N), (.str r.1.S), (.sl (List.map Term.toD r.1.L)), (.int .i64 r.1.From), (.int .i64 r.1.To)])] [[.d (.sl (List.map Token.toD r.2.1)), .d (.int .i64 r.2.2.1), .d (.int .i64 r.2.2.2.1)], [.d (.int .i64 r.2.2.2.2.1), .d (.int .i64 r.2.2.2.2.2.1), .d (.str r.2.2.2.2.2.2.1), .own 6 (List.map Term.toD r.2.2.2.2.2.2.2.1), .d (.int .i64 r.2.2.2.2.2.2.2.2.1), .d (.int .i64 r.2.2.2.2.2.2.2.2.2)]] := by
  unfold unit_reader_define at h
  refine trip_ev 1000 (by kernel_rfl) (by kernel_rfl) (by kernel_rfl) (by kernel_rfl) (by kernel_rfl) (e_unit_reader_define _ _ t at_ e K N S L From To _ _) ?_
  rintro _ rfl
  obtain ⟨q1, hq, h⟩ := w_bind h
  refine ⟨q1.1, List.map Token.toD q1.2.1, q1.2.2.1, q1.2.2.2.1, q1.2.2.2.2.1, q1.2.2.2.2.2.1, q1.2.2.2.2.2.2.1, List.map Term.toD q1.2.2.2.2.2.2.2.1, q1.2.2.2.2.2.2.2.2.1, q1.2.2.2.2.2.2.2.2.2, T_unit_reader_name _ _ _ _ _ _ _ _ _ _ hq, ?_⟩
  obtain ⟨q2, hq, h⟩ := w_bind h
  refine ⟨List.map Token.toD q2.1, q2.2.1, q2.2.2.1, q2.2.2.2.1, q2.2.2.2.2.1, q2.2.2.2.2.2.1, List.map Term.toD q2.2.2.2.2.2.2.1, q2.2.2.2.2.2.2.2.1, q2.2.2.2.2.2.2.2.2, T_unit_reader_need _ _ _ _ _ _ _ _ _ _ _ _ hq, ?_⟩
  obtain ⟨q3, hq, h⟩ := w_bind h
  refine ⟨q3.1.K, q3.1.N, q3.1.S, List.map Term.toD q3.1.L, q3.1.From, q3.1.To, List.map Token.toD q3.2.1, q3.2.2.1, q3.2.2.2.1, q3.2.2.2.2.1, q3.2.2.2.2.2.1, q3.2.2.2.2.2.2.1, List.map Term.toD q3.2.2.2.2.2.2.2.1, q3.2.2.2.2.2.2.2.2.1, q3.2.2.2.2.2.2.2.2.2, T_unit_reader_literal _ _ _ _ _ _ _ _ _ _ hq, ?_⟩
  obtain ⟨q4, hq, h⟩ := w_bind h
  refine ⟨List.map Token.toD q4.1, q4.2.1, q4.2.2.1, q4.2.2.2.1, q4.2.2.2.2.1, q4.2.2.2.2.2.1, List.map Term.toD q4.2.2.2.2.2.2.1, q4.2.2.2.2.2.2.2.1, q4.2.2.2.2.2.2.2.2, T_unit_reader_need _ _ _ _ _ _ _ _ _ _ _ _ hq, ?_⟩
  obtain ⟨q5, hq, h⟩ := w_bind h
  have hT := T_unit_reader_made _ _ _ _ _ _ _ _ _ _ _ _ _ _ _ hq
  simp only [List.map_cons, List.map_nil, Term.toD_eq] at hT
  refine ⟨q5.K, q5.N, q5.S, List.map Term.toD q5.L, q5.From, q5.To, hT, ?_⟩
  cases h; exact ⟨rfl, rfl⟩
theorem T_stmt_reader_now (t : List Token) (at_ : Int) (e : Int) (r : Token) (h : stmt_reader_now t at_ e = some r) : Trip Try.prog 63 [.hp 0 0] [[.d (.sl (List.map Token.toD t)), .d (.int .i64 at_), .d (.int .i64 e)]] [.d (.agg [(.int .i64 r.K), (.int .i64 r.N), (.str r.S), (.int .i64 r.From), (.int .i64 r.To)])] [[.d (.sl (List.map Token.toD t)), .d (.int .i64 at_), .d (.int .i64 e)]] := by
  unfold stmt_reader_now at h
  refine trip_ev 1000 (by kernel_rfl) (by kernel_rfl) (by kernel_rfl) (by kernel_rfl) (by kernel_rfl) (e_stmt_reader_now _ _ t at_ e _ _) ?_
  refine w_nam (e' := (List.length t : Int)) (by first | rfl | rw [List.length_map]) ?_
  rintro _ rfl
  refine w_condH decide_eq_true_iff h (fun hc154 h => ?_) (fun hc154 h => ?_)
  ·
    obtain ⟨x, hx, h⟩ := w_bind h
    refine ⟨sizedL (l := t) (Token.sz), w_ge hx, x.K, x.N, x.S, x.From, x.To, w_get (Token.toD_eq x) hx, ?_⟩
    cases h; exact ⟨rfl, rfl⟩
  ·
    cases h; exact ⟨rfl, rfl⟩
theorem T_stmt_reader_is (k : Int) (s : Str) (t : List Token) (at_ : Int) (e : Int) (r : Bool) (h : stmt_reader_is k s t at_ e = some r) : Trip Try.prog 59 [.hp 0 0, .d (.int .i64 k), .d (.str s)] [[.d (.sl (List.map Token.toD t)), .d (.int .i64 at_), .d (.int .i64 e)]] [.d (.bool r)] [[.d (.sl (List.map Token.toD t)), .d (.int .i64 at_), .d (.int .i64 e)]] := by
  unfold stmt_reader_is at h
  refine trip_ev 1000 (by kernel_rfl) (by kernel_rfl) (by kernel_rfl) (by kernel_rfl) (by kernel_rfl) (e_stmt_reader_is _ _ k s t at_ e _ _) ?_
  obtain ⟨q1, hq, h⟩ := w_bind h
  refine ⟨q1.K, q1.N, q1.S, q1.From, q1.To, T_stmt_reader_now _ _ _ _ hq, ?_⟩
  rintro _ rfl
  refine w_condH beq_iff_eq h (fun hc155 h => ?_) (fun hc155 h => ?_)
  ·
    rintro _ rfl
    cases h; exact ⟨rfl, rfl⟩
  ·
    cases h; exact ⟨rfl, rfl⟩
theorem T_stmt_reader_made (k : Int) (s : Str) (from_ : Int) (parts : List Term) (t : List Token) (at_ : Int) (e : Int) (r : Term) (h : stmt_reader_made k s from_ parts t at_ e = some r) : Trip Try.prog 61 [.hp 0 0, .d (.int .i64 k), .d (.str s), .d (.int .i64 from_), .d (.sl (List.map Term.toD parts))] [[.d (.sl (List.map Token.toD t)), .d (.int .i64 at_), .d (.int .i64 e)]] [.d (.agg [(.int .i64 r.K), (.int .i64 r.N), (.str r.S), (.sl (List.map Term.toD r.L)), (.int .i64 r.From), (.int .i64 r.To)])] [[.d (.sl (List.map Token.toD t)), .d (.int .i64 at_), .d (.int .i64 e)]] := by
  unfold stmt_reader_made at h
  refine trip_ev 1000 (by kernel_rfl) (by kernel_rfl) (by kernel_rfl) (by kernel_rfl) (by kernel_rfl) (e_stmt_reader_made _ _ k s from_ parts t at_ e _ _) ?_
  rintro _ rfl
  refine w_condN beq_iff_eq h (fun hc156 h => ?_) (fun hc156 h => ?_)
  ·
    obtain ⟨x, hx, h⟩ := w_bind h
    refine ⟨sizedL (l := t) (Token.sz), w_ge hx, x.K, x.N, x.S, x.From, x.To, w_get (Token.toD_eq x) hx, ?_⟩
    rintro _ rfl
    obtain ⟨x1, hx, h⟩ := w_bind h
    refine ⟨sizedL (l := t) (Token.sz), w_ge hx, x1.K, x1.N, x1.S, x1.From, x1.To, w_get (Token.toD_eq x1) hx, ?_⟩
    cases h; exact ⟨rfl, rfl⟩
  ·
    cases h; exact ⟨rfl, rfl⟩
theorem T_stmt_reader_need (k : Int) (s : Str) (t : List Token) (at_ : Int) (e : Int) (r : List Token × Int × Int) (h : stmt_reader_need k s t at_ e = some r) : Trip Try.prog 58 [.hp 0 0, .d (.int .i64 k), .d (.str s)] [[.d (.sl (List.map Token.toD t)), .d (.int .i64 at_), .d (.int .i64 e)]] [] [[.d (.sl (List.map Token.toD r.1)), .d (.int .i64 r.2.1), .d (.int .i64 r.2.2)]] := by
  unfold stmt_reader_need at h
  refine trip_ev 1000 (by kernel_rfl) (by kernel_rfl) (by kernel_rfl) (by kernel_rfl) (by kernel_rfl) (e_stmt_reader_need _ _ k s t at_ e _ _) ?_
  rintro _ rfl
  refine w_condN beq_iff_eq h (fun hc157 h => ?_) (fun hc157 h => ?_)
  ·
    obtain ⟨q1, hq, h⟩ := w_bind h
    refine ⟨q1, T_stmt_reader_is _ _ _ _ _ _ hq, ?_⟩
    refine w_condN Iff.rfl h (fun hc158 h => ?_) (fun hc158 h => ?_)
    ·
      rintro _ rfl
      cases h; exact ⟨rfl, rfl⟩
    ·
      cases h; exact ⟨rfl, rfl⟩
  ·
    cases h; exact ⟨rfl, rfl⟩
theorem T_stmt_kind (t : Token) (r : Nat) (h : stmt_kind t = some r) : Trip Try.prog 64 [.d (.agg [(.int .i64 t.K), (.int .i64 t.N), (.str t.S), (.int .i64 t.From), (.int .i64 t.To)])] [] [.fn r [] []] [] := by
  unfold stmt_kind at h
  refine trip_ev 1000 (by kernel_rfl) (by kernel_rfl) (by kernel_rfl) (by kernel_rfl) (by kernel_rfl) (e_stmt_kind _ _ t _ _) ?_
  rintro _ rfl
  refine w_condH beq_iff_eq h (fun hc159 h => ?_) (fun hc159 h => ?_)
  ·
    rintro _ rfl
    refine w_condH beq_iff_eq h (fun hc160 h => ?_) (fun hc160 h => ?_)
    ·
      cases h; exact ⟨rfl, rfl⟩
    ·
      rintro _ rfl
      refine w_condFN beq_iff_eq (fun e => absurd (hc159.symm.trans e) (by decide)) ?_
      cases h; exact ⟨rfl, rfl⟩
  ·
    rintro _ rfl
    refine w_condN beq_iff_eq h (fun hc161 h => ?_) (fun hc161 h => ?_)
    ·
      rintro _ rfl
      refine w_condH beq_iff_eq h (fun hc162 h => ?_) (fun hc162 h => ?_)
      ·
        cases h; exact ⟨rfl, rfl⟩
      ·
        rintro _ rfl
        refine w_condH beq_iff_eq h (fun hc163 h => ?_) (fun hc163 h => ?_)
        ·
          cases h; exact ⟨rfl, rfl⟩
        ·
          rintro _ rfl
          refine w_condH beq_iff_eq h (fun hc164 h => ?_) (fun hc164 h => ?_)
          ·
            cases h; exact ⟨rfl, rfl⟩
          ·
            rintro _ rfl
            refine w_condH beq_iff_eq h (fun hc165 h => ?_) (fun hc165 h => ?_)
            ·
              cases h; exact ⟨rfl, rfl⟩
            ·
              rintro _ rfl
              refine w_condH beq_iff_eq h (fun hc166 h => ?_) (fun hc166 h => ?_)
              ·
                cases h; exact ⟨rfl, rfl⟩
              ·
                rintro _ rfl
                refine w_condH beq_iff_eq h (fun hc167 h => ?_) (fun hc167 h => ?_)
                ·
                  cases h; exact ⟨rfl, rfl⟩
                ·
                  rintro _ rfl
                  refine w_condH beq_iff_eq h (fun hc168 h => ?_) (fun hc168 h => ?_)
                  ·
                    cases h; exact ⟨rfl, rfl⟩
                  ·
                    cases h; exact ⟨rfl, rfl⟩
    ·
      cases h; exact ⟨rfl, rfl⟩
theorem T_stmt_reader_other_Parse (t : List Token) (at_ : Int) (e : Int) (r : Term × List Token × Int × Int) (h : stmt_reader_other_Parse t at_ e = some r) : Trip Try.prog 78 [.hp 0 0, .fn 46 [] []] [[.d (.sl (List.map Token.toD t)), .d (.int .i64 at_), .d (.int .i64 e)]] [.d (.agg [(.int .i64 r.1.K), (.int .i64 r.1.N), (.str r.1.S), (.sl (List.map Term.toD r.1.L)), (.int .i64 r.1.From), (.int .i64 r.1.To)])] [[.d (.sl (List.map Token.toD r.2.1)), .d (.int .i64 r.2.2.1), .d (.int .i64 r.2.2.2)]] := by
  unfold stmt_reader_other_Parse at h
  refine trip_ev 1000 (by kernel_rfl) (by kernel_rfl) (by kernel_rfl) (by kernel_rfl) (by kernel_rfl) (e_stmt_reader_other_Parse _ _ t at_ e _ _) ?_
  rintro _ rfl
  refine w_condN beq_iff_eq h (fun hc169 h => ?_) (fun hc169 h => ?_)
  ·
    refine w_nam (e' := (List.length t : Int)) (by first | rfl | rw [List.length_map]) ?_
    rintro _ rfl
    refine w_condH decide_eq_true_iff h (fun hc170 h => ?_) (fun hc170 h => ?_)
    ·
      cases h; exact ⟨rfl, rfl⟩
    ·
      obtain ⟨q1, hq, h⟩ := w_bind h
      refine ⟨q1.1.K, q1.1.N, q1.1.S, List.map Term.toD q1.1.L, q1.1.From, q1.1.To, q1.2.1, q1.2.2, ⟨_, T_expr_Parse _ _ _ hq⟩, ?_⟩
      cases h; exact ⟨rfl, rfl⟩
  ·
    cases h; exact ⟨rfl, rfl⟩
theorem T_stmt_reader_expr (t : List Token) (at_ : Int) (e : Int) (r : Term × List Token × Int × Int) (h : stmt_reader_expr t at_ e = some r) : Trip Try.prog 76 [.hp 0 0] [[.d (.sl (List.map Token.toD t)), .d (.int .i64 at_), .d (.int .i64 e)]] [.d (.agg [(.int .i64 r.1.K), (.int .i64 r.1.N), (.str r.1.S), (.sl (List.map Term.toD r.1.L)), (.int .i64 r.1.From), (.int .i64 r.1.To)])] [[.d (.sl (List.map Token.toD r.2.1)), .d (.int .i64 r.2.2.1), .d (.int .i64 r.2.2.2)]] := by
  unfold stmt_reader_expr at h
  refine trip_ev 1000 (by kernel_rfl) (by kernel_rfl) (by kernel_rfl) (by kernel_rfl) (by kernel_rfl) (e_stmt_reader_expr _ _ t at_ e _ _) ?_
  obtain ⟨q1, hq, h⟩ := w_bind h
  refine ⟨q1.1.K, q1.1.N, q1.1.S, List.map Term.toD q1.1.L, q1.1.From, q1.1.To, List.map Token.toD q1.2.1, q1.2.2.1, q1.2.2.2, T_stmt_reader_other_Parse _ _ _ _ hq, ?_⟩
  cases h; exact ⟨rfl, rfl⟩
theorem T_stmt_reader_single (k : Int) (t : List Token) (at_ : Int) (e : Int) (r : Term × List Token × Int × Int) (h : stmt_reader_single k t at_ e = some r) : Trip Try.prog 79 [.hp 0 0, .d (.int .i64 k)] [[.d (.sl (List.map Token.toD t)), .d (.int .i64 at_), .d (.int .i64 e)]] [.d (.agg [(.int .i64 r.1.K), (.int .i64 r.1.N), (.str r.1.S), (.sl (List.map Term.toD r.1.L)), (.int .i64 r.1.From), (.int .i64 r.1.To)])] [[.d (.sl (List.map Token.toD r.2.1)), .d (.int .i64 r.2.2.1), .d (.int .i64 r.2.2.2)]] := by
  unfold stmt_reader_single at h
  refine trip_ev 1000 (by kernel_rfl) (by kernel_rfl) (by kernel_rfl) (by kernel_rfl) (by kernel_rfl) (e_stmt_reader_single _ _ k t at_ e _ _) ?_
  rintro _ rfl
  obtain ⟨q1, hq, h⟩ := w_bind h
  refine ⟨q1.1.K, q1.1.N, q1.1.S, List.map Term.toD q1.1.L, q1.1.From, q1.1.To, List.map Token.toD q1.2.1, q1.2.2.1, q1.2.2.2, T_stmt_reader_expr _ _ _ _ hq, ?_⟩
  obtain ⟨q2, hq, h⟩ := w_bind h
  refine ⟨List.map Token.toD q2.1, q2.2.1, q2.2.2, T_stmt_reader_need _ _ _ _ _ _ hq, ?_⟩
  obtain ⟨q3, hq, h⟩ := w_bind h
  have hT := T_stmt_reader_made _ _ _ _ _ _ _ _ hq
  simp only [List.map_cons, List.map_nil, Term.toD_eq] at hT
  refine ⟨q3.K, q3.N, q3.S, List.map Term.toD q3.L, q3.From, q3.To, hT, ?_⟩
  cases h; exact ⟨rfl, rfl⟩
theorem T_stmt_reader_back (t : List Token) (at_ : Int) (e : Int) (r : Term × List Token × Int × Int) (h : stmt_reader_back t at_ e = some r) : Trip Try.prog 73 [.hp 0 0] [[.d (.sl (List.map Token.toD t)), .d (.int .i64 at_), .d (.int .i64 e)]] [.d (.agg [(.int .i64 r.1.K), (.int .i64 r.1.N), (.str r.1.S), (.sl (List.map Term.toD r.1.L)), (.int .i64 r.1.From), (.int .i64 r.1.To)])] [[.d (.sl (List.map Token.toD r.2.1)), .d (.int .i64 r.2.2.1), .d (.int .i64 r.2.2.2)]] := by
  unfold stmt_reader_back at h
  refine trip_ev 1000 (by kernel_rfl) (by kernel_rfl) (by kernel_rfl) (by kernel_rfl) (by kernel_rfl) (e_stmt_reader_back _ _ t at_ e _ _) ?_
  obtain ⟨q1, hq, h⟩ := w_bind h
  refine ⟨q1.1.K, q1.1.N, q1.1.S, List.map Term.toD q1.1.L, q1.1.From, q1.1.To, List.map Token.toD q1.2.1, q1.2.2.1, q1.2.2.2, T_stmt_reader_single _ _ _ _ _ hq, ?_⟩
  cases h; exact ⟨rfl, rfl⟩
theorem T_stmt_reader_call (t : List Token) (at_ : Int) (e : Int) (r : Term × List Token × Int × Int) (h : stmt_reader_call t at_ e = some r) : Trip Try.prog 74 [.hp 0 0] [[.d (.sl (List.map Token.toD t)), .d (.int .i64 at_), .d (.int .i64 e)]] [.d (.agg [(.int .i64 r.1.K), (.int .i64 r.1.N), (.str r.1.S), (.sl (List.map Term.toD r.1.L)), (.int .i64 r.1.From), (.int .i64 r.1.To)])] [[.d (.sl (List.map Token.toD r.2.1)), .d (.int .i64 r.2.2.1), .d (.int .i64 r.2.2.2)]] := by
  unfold stmt_reader_call at h
  refine trip_ev 1000 (by kernel_rfl) (by kernel_rfl) (by kernel_rfl) (by kernel_rfl) (by kernel_rfl) (e_stmt_reader_call _ _ t at_ e _ _) ?_
  obtain ⟨q1, hq, h⟩ := w_bind h
  refine ⟨q1.1.K, q1.1.N, q1.1.S, List.map Term.toD q1.1.L, q1.1.From, q1.1.To, List.map Token.toD q1.2.1, q1.2.2.1, q1.2.2.2, T_stmt_reader_single _ _ _ _ _ hq, ?_⟩
  cases h; exact ⟨rfl, rfl⟩
theorem T_stmt_reader_name (t : List Token) (at_ : Int) (e : Int) (r : Str × List Token × Int × Int) (h : stmt_reader_name t at_ e = some r) : Trip Try.prog 77 [.hp 0 0] [[.d (.sl (List.map Token.toD t)), .d (.int .i64 at_), .d (.int .i64 e)]] [.d (.str r.1)] [[.d (.sl (List.map Token.toD r.2.1)), .d (.int .i64 r.2.2.1), .d (.int .i64 r.2.2.2)]] := by
  unfold stmt_reader_name at h
  refine trip_ev 1000 (by kernel_rfl) (by kernel_rfl) (by kernel_rfl) (by kernel_rfl) (by kernel_rfl) (e_stmt_reader_name _ _ t at_ e _ _) ?_
  rintro _ rfl
  refine w_condN beq_iff_eq h (fun hc171 h => ?_) (fun hc171 h => ?_)
  ·
    obtain ⟨q1, hq, h⟩ := w_bind h
    refine ⟨q1.K, q1.N, q1.S, q1.From, q1.To, T_stmt_reader_now _ _ _ _ hq, ?_⟩
    rintro _ rfl
    refine w_condN beq_iff_eq h (fun hc172 h => ?_) (fun hc172 h => ?_)
    ·
      rintro _ rfl
      cases h; exact ⟨rfl, rfl⟩
    ·
      cases h; exact ⟨rfl, rfl⟩
  ·
    cases h; exact ⟨rfl, rfl⟩
def M_expr_parser_kind : (i : I_expr_parser_kind) → R_expr_parser_kind i → Prop
  | .expr_parser_kind t at_ e, r => Trip Try.prog 48 [.hp 0 0] [[.d (.sl (List.map Token.toD t)), .d (.int .i64 at_), .d (.int .i64 e)]] [.d (.agg [(.int .i64 r.1.K), (.int .i64 r.1.N), (.str r.1.S), (.sl (List.map Term.toD r.1.L)), (.int .i64 r.1.From), (.int .i64 r.1.To)])] [[.d (.sl (List.map Token.toD r.2.1)), .d (.int .i64 r.2.2.1), .d (.int .i64 r.2.2.2)]]
theorem G_expr_parser_kind : ∀ i r, fixF F_expr_parser_kind i = some r → M_expr_parser_kind i r := by
  refine fixF_induct D_expr_parser_kind fun g ih i => ?_
  cases i with
  | expr_parser_kind t at_ e =>
    have ih_expr_parser_kind : ∀ (t : List Token) (at_ : Int) (e : Int) (r : Term × List Token × Int × Int), g (I_expr_parser_kind.expr_parser_kind t at_ e) = some r → Trip Try.prog 48 [.hp 0 0] [[.d (.sl (List.map Token.toD t)), .d (.int .i64 at_), .d (.int .i64 e)]] [.d (.agg [(.int .i64 r.1.K), (.int .i64 r.1.N), (.str r.1.S), (.sl (List.map Term.toD r.1.L)), (.int .i64 r.1.From), (.int .i64 r.1.To)])] [[.d (.sl (List.map Token.toD r.2.1)), .d (.int .i64 r.2.2.1), .d (.int .i64 r.2.2.2)]] := fun t at_ e r h => ih (.expr_parser_kind t at_ e) r h
    intro r h
    show Trip Try.prog 48 [.hp 0 0] [[.d (.sl (List.map Token.toD t)), .d (.int .i64 at_), .d (.int .i64 e)]] [.d (.agg [(.int .i64 r.1.K), (.int .i64 r.1.N), (.str r.1.S), (.sl (List.map Term.toD r.1.L)), (.int .i64 r.1.From), (.int .i64 r.1.To)])] [[.d (.sl (List.map Token.toD r.2.1)), .d (.int .i64 r.2.2.1), .d (.int .i64 r.2.2.2)]]
    replace h : expr_parser_kind_B (fun t at_ e => g (I_expr_parser_kind.expr_parser_kind t at_ e)) t at_ e = some r := h
    unfold expr_parser_kind_B at h
    refine trip_ev 1000 (by kernel_rfl) (by kernel_rfl) (by kernel_rfl) (by kernel_rfl) (by kernel_rfl) (e_expr_parser_kind _ _ t at_ e _ _) ?_
    rintro _ rfl
    refine w_condN beq_iff_eq h (fun hc173 h => ?_) (fun hc173 h => ?_)
    ·
      obtain ⟨q1, hq, h⟩ := w_bind h
      refine ⟨q1.K, q1.N, q1.S, q1.From, q1.To, T_expr_parser_now _ _ _ _ hq, ?_⟩
      rintro _ rfl
      refine w_condH beq_iff_eq h (fun hc174 h => ?_) (fun hc174 h => ?_)
      ·
        rintro _ rfl
        refine w_condH beq_iff_eq h (fun hc175 h => ?_) (fun hc175 h => ?_)
        ·
          rintro _ rfl
          obtain ⟨q2, hq, h⟩ := w_bind h
          refine ⟨q2.K, q2.N, q2.S, List.map Term.toD q2.L, q2.From, q2.To, T_expr_parser_made _ _ _ _ _ _ hq, ?_⟩
          cases h; exact ⟨rfl, rfl⟩
        ·
          rintro _ rfl
          refine w_condT beq_iff_eq hc174 ?_
          rintro _ rfl
          refine w_condH beq_iff_eq h (fun hc176 h => ?_) (fun hc176 h => ?_)
          ·
            rintro _ rfl
            obtain ⟨q3, hq, h⟩ := w_bind h
            refine ⟨q3.K, q3.N, q3.S, List.map Term.toD q3.L, q3.From, q3.To, T_expr_parser_made _ _ _ _ _ _ hq, ?_⟩
            cases h; exact ⟨rfl, rfl⟩
          ·
            rintro _ rfl
            refine w_condF beq_iff_eq (fun e => absurd (hc174.symm.trans e) (by decide)) ?_
            obtain ⟨q5, hq, h⟩ := w_bind h
            refine ⟨q5, T_expr_parser_sign _ _ _ _ _ hq, ?_⟩
            refine w_condH Iff.rfl h (fun hc177 h => ?_) (fun hc177 h => ?_)
            ·
              rintro _ rfl
              obtain ⟨q6, hq, h⟩ := w_bind h
              refine ⟨q6.K, q6.N, q6.S, q6.From, q6.To, T_expr_parser_now _ _ _ _ hq, ?_⟩
              rintro _ rfl
              refine w_condN beq_iff_eq h (fun hc178 h => ?_) (fun hc178 h => ?_)
              ·
                rintro _ rfl
                obtain ⟨q8, hq, h⟩ := w_bind h
                refine ⟨List.map Token.toD q8.1, q8.2.1, q8.2.2, T_expr_parser_need _ _ _ _ _ hq, ?_⟩
                obtain ⟨q9, hq, h⟩ := w_bind h
                refine ⟨q9.1.K, q9.1.N, q9.1.S, List.map Term.toD q9.1.L, q9.1.From, q9.1.To, List.map Token.toD q9.2.1, q9.2.2.1, q9.2.2.2, ih_expr_parser_kind _ _ _ _ hq, ?_⟩
                obtain ⟨q10, hq, h⟩ := w_bind h
                have hT := T_expr_parser_made _ _ _ _ _ _ hq
                simp only [List.map_cons, List.map_nil, Term.toD_eq] at hT
                refine ⟨q10.K, q10.N, q10.S, List.map Term.toD q10.L, q10.From, q10.To, hT, ?_⟩
                cases h; exact ⟨rfl, rfl⟩
              ·
                obtain ⟨q7, hq, h⟩ := w_bind h
                refine ⟨List.map Token.toD q7.1, q7.2.1, q7.2.2, T_expr_parser_fail _ _ _ _ hq, ?_⟩
                cases h; exact ⟨rfl, rfl⟩
            ·
              obtain ⟨q11, hq, h⟩ := w_bind h
              refine ⟨List.map Token.toD q11.1, q11.2.1, q11.2.2, T_expr_parser_fail _ _ _ _ hq, ?_⟩
              cases h; exact ⟨rfl, rfl⟩
      ·
        rintro _ rfl
        refine w_condF beq_iff_eq hc174 ?_
        rintro _ rfl
        refine w_condH beq_iff_eq h (fun hc179 h => ?_) (fun hc179 h => ?_)
        ·
          rintro _ rfl
          obtain ⟨q29, hq, h⟩ := w_bind h
          refine ⟨q29.K, q29.N, q29.S, List.map Term.toD q29.L, q29.From, q29.To, T_expr_parser_made _ _ _ _ _ _ hq, ?_⟩
          cases h; exact ⟨rfl, rfl⟩
        ·
          obtain ⟨q30, hq, h⟩ := w_bind h
          refine ⟨q30, T_expr_parser_sign _ _ _ _ _ hq, ?_⟩
          refine w_condH Iff.rfl h (fun hc180 h => ?_) (fun hc180 h => ?_)
          ·
            rintro _ rfl
            obtain ⟨q31, hq, h⟩ := w_bind h
            refine ⟨q31.K, q31.N, q31.S, q31.From, q31.To, T_expr_parser_now _ _ _ _ hq, ?_⟩
            rintro _ rfl
            refine w_condN beq_iff_eq h (fun hc181 h => ?_) (fun hc181 h => ?_)
            ·
              rintro _ rfl
              obtain ⟨q33, hq, h⟩ := w_bind h
              refine ⟨List.map Token.toD q33.1, q33.2.1, q33.2.2, T_expr_parser_need _ _ _ _ _ hq, ?_⟩
              obtain ⟨q34, hq, h⟩ := w_bind h
              refine ⟨q34.1.K, q34.1.N, q34.1.S, List.map Term.toD q34.1.L, q34.1.From, q34.1.To, List.map Token.toD q34.2.1, q34.2.2.1, q34.2.2.2, ih_expr_parser_kind _ _ _ _ hq, ?_⟩
              obtain ⟨q35, hq, h⟩ := w_bind h
              have hT := T_expr_parser_made _ _ _ _ _ _ hq
              simp only [List.map_cons, List.map_nil, Term.toD_eq] at hT
              refine ⟨q35.K, q35.N, q35.S, List.map Term.toD q35.L, q35.From, q35.To, hT, ?_⟩
              cases h; exact ⟨rfl, rfl⟩
            ·
              obtain ⟨q32, hq, h⟩ := w_bind h
              refine ⟨List.map Token.toD q32.1, q32.2.1, q32.2.2, T_expr_parser_fail _ _ _ _ hq, ?_⟩
              cases h; exact ⟨rfl, rfl⟩
          ·
            obtain ⟨q36, hq, h⟩ := w_bind h
            refine ⟨List.map Token.toD q36.1, q36.2.1, q36.2.2, T_expr_parser_fail _ _ _ _ hq, ?_⟩
            cases h; exact ⟨rfl, rfl⟩
    ·
      cases h; exact ⟨rfl, rfl⟩
theorem T_expr_parser_kind (t : List Token) (at_ : Int) (e : Int) (r : Term × List Token × Int × Int) (h : expr_parser_kind t at_ e = some r) : Trip Try.prog 48 [.hp 0 0] [[.d (.sl (List.map Token.toD t)), .d (.int .i64 at_), .d (.int .i64 e)]] [.d (.agg [(.int .i64 r.1.K), (.int .i64 r.1.N), (.str r.1.S), (.sl (List.map Term.toD r.1.L)), (.int .i64 r.1.From), (.int .i64 r.1.To)])] [[.d (.sl (List.map Token.toD r.2.1)), .d (.int .i64 r.2.2.1), .d (.int .i64 r.2.2.2)]] := G_expr_parser_kind (.expr_parser_kind t at_ e) r h
theorem T_expr_start_parser_kind (t : List Token) (at_ : Int) (r : Term × Int × Int) (h : expr_start_parser_kind t at_ = some r) : Trip Try.prog 47 [.d (.sl (List.map Token.toD t)), .d (.int .i64 at_), .fn 48 [] []] [] [.d (.agg [(.int .i64 r.1.K), (.int .i64 r.1.N), (.str r.1.S), (.sl (List.map Term.toD r.1.L)), (.int .i64 r.1.From), (.int .i64 r.1.To)]), .d (.int .i64 r.2.1), .d (.int .i64 r.2.2)] [] := by
  unfold expr_start_parser_kind at h
  refine trip_ev 1000 (by kernel_rfl) (by kernel_rfl) (by kernel_rfl) (by kernel_rfl) (by kernel_rfl) (e_expr_start_parser_kind _ _ t at_ _ _) ?_
  rintro _ rfl
  refine w_condH decide_eq_true_iff h (fun hc182 h => ?_) (fun hc182 h => ?_)
  ·
    cases h; exact ⟨rfl, rfl⟩
  ·
    refine w_nam (e' := (List.length t : Int)) (by first | rfl | rw [List.length_map]) ?_
    rintro _ rfl
    refine w_condH decide_eq_true_iff h (fun hc183 h => ?_) (fun hc183 h => ?_)
    ·
      cases h; exact ⟨rfl, rfl⟩
    ·
      obtain ⟨q1, hq, h⟩ := w_bind h
      refine ⟨q1.1.K, q1.1.N, q1.1.S, List.map Term.toD q1.1.L, q1.1.From, q1.1.To, List.map Token.toD q1.2.1, q1.2.2.1, q1.2.2.2, T_expr_parser_kind _ _ _ _ hq, ?_⟩
      rintro _ rfl
      refine w_condN beq_iff_eq h (fun hc184 h => ?_) (fun hc184 h => ?_)
      ·
        cases h; exact ⟨rfl, rfl⟩
      ·
        cases h; exact ⟨rfl, rfl⟩
theorem T_expr_Type (t : List Token) (at_ : Int) (r : Term × Int × Int) (h : expr_Type t at_ = some r) : Trip Try.prog 39 [.d (.sl (List.map Token.toD t)), .d (.int .i64 at_)] [] [.d (.agg [(.int .i64 r.1.K), (.int .i64 r.1.N), (.str r.1.S), (.sl (List.map Term.toD r.1.L)), (.int .i64 r.1.From), (.int .i64 r.1.To)]), .d (.int .i64 r.2.1), .d (.int .i64 r.2.2)] [] := by
  unfold expr_Type at h
  refine trip_ev 1000 (by kernel_rfl) (by kernel_rfl) (by kernel_rfl) (by kernel_rfl) (by kernel_rfl) (e_expr_Type _ _ t at_ _ _) ?_
  obtain ⟨q1, hq, h⟩ := w_bind h
  refine ⟨q1.1.K, q1.1.N, q1.1.S, List.map Term.toD q1.1.L, q1.1.From, q1.1.To, q1.2.1, q1.2.2, ⟨_, T_expr_start_parser_kind _ _ _ hq⟩, ?_⟩
  cases h; exact ⟨rfl, rfl⟩
theorem T_stmt_reader_other_Type (t : List Token) (at_ : Int) (e : Int) (r : Term × List Token × Int × Int) (h : stmt_reader_other_Type t at_ e = some r) : Trip Try.prog 78 [.hp 0 0, .fn 39 [] []] [[.d (.sl (List.map Token.toD t)), .d (.int .i64 at_), .d (.int .i64 e)]] [.d (.agg [(.int .i64 r.1.K), (.int .i64 r.1.N), (.str r.1.S), (.sl (List.map Term.toD r.1.L)), (.int .i64 r.1.From), (.int .i64 r.1.To)])] [[.d (.sl (List.map Token.toD r.2.1)), .d (.int .i64 r.2.2.1), .d (.int .i64 r.2.2.2)]] := by
  unfold stmt_reader_other_Type at h
  refine trip_ev 1000 (by kernel_rfl) (by kernel_rfl) (by kernel_rfl) (by kernel_rfl) (by kernel_rfl) (e_stmt_reader_other_Type _ _ t at_ e _ _) ?_
  rintro _ rfl
  refine w_condN beq_iff_eq h (fun hc185 h => ?_) (fun hc185 h => ?_)
  ·
    refine w_nam (e' := (List.length t : Int)) (by first | rfl | rw [List.length_map]) ?_
    rintro _ rfl
    refine w_condH decide_eq_true_iff h (fun hc186 h => ?_) (fun hc186 h => ?_)
    ·
      cases h; exact ⟨rfl, rfl⟩
    ·
      obtain ⟨q1, hq, h⟩ := w_bind h
      refine ⟨q1.1.K, q1.1.N, q1.1.S, List.map Term.toD q1.1.L, q1.1.From, q1.1.To, q1.2.1, q1.2.2, ⟨_, T_expr_Type _ _ _ hq⟩, ?_⟩
      cases h; exact ⟨rfl, rfl⟩
  ·
    cases h; exact ⟨rfl, rfl⟩
theorem T_stmt_reader_let (t : List Token) (at_ : Int) (e : Int) (r : Term × List Token × Int × Int) (h : stmt_reader_let t at_ e = some r) : Trip Try.prog 68 [.hp 0 0] [[.d (.sl (List.map Token.toD t)), .d (.int .i64 at_), .d (.int .i64 e)]] [.d (.agg [(.int .i64 r.1.K), (.int .i64 r.1.N), (.str r.1.S), (.sl (List.map Term.toD r.1.L)), (.int .i64 r.1.From), (.int .i64 r.1.To)])] [[.d (.sl (List.map Token.toD r.2.1)), .d (.int .i64 r.2.2.1), .d (.int .i64 r.2.2.2)]] := by
  unfold stmt_reader_let at h
  refine trip_ev 1000 (by kernel_rfl) (by kernel_rfl) (by kernel_rfl) (by kernel_rfl) (by kernel_rfl) (e_stmt_reader_let _ _ t at_ e _ _) ?_
  rintro _ rfl
  obtain ⟨q1, hq, h⟩ := w_bind h
  refine ⟨q1.1, List.map Token.toD q1.2.1, q1.2.2.1, q1.2.2.2, T_stmt_reader_name _ _ _ _ hq, ?_⟩
  rintro _ rfl
  refine w_condH beq_iff_eq h (fun hc187 h => ?_) (fun hc187 h => ?_)
  ·
    obtain ⟨q2, hq, h⟩ := w_bind h
    refine ⟨q2, T_stmt_reader_is _ _ _ _ _ _ hq, ?_⟩
    refine w_condH Iff.rfl h (fun hc188 h => ?_) (fun hc188 h => ?_)
    ·
      rintro _ rfl
      obtain ⟨q3, hq, h⟩ := w_bind h
      refine ⟨q3.1.K, q3.1.N, q3.1.S, List.map Term.toD q3.1.L, q3.1.From, q3.1.To, List.map Token.toD q3.2.1, q3.2.2.1, q3.2.2.2, T_stmt_reader_other_Type _ _ _ _ hq, ?_⟩
      obtain ⟨q4, hq, h⟩ := w_bind h
      refine ⟨List.map Token.toD q4.1, q4.2.1, q4.2.2, T_stmt_reader_need _ _ _ _ _ _ hq, ?_⟩
      obtain ⟨q5, hq, h⟩ := w_bind h
      have hT := T_stmt_reader_made _ _ _ _ _ _ _ _ hq
      simp only [List.map_cons, List.map_nil, Term.toD_eq] at hT
      refine ⟨q5.K, q5.N, q5.S, List.map Term.toD q5.L, q5.From, q5.To, hT, ?_⟩
      cases h; exact ⟨rfl, rfl⟩
    ·
      obtain ⟨q6, hq, h⟩ := w_bind h
      refine ⟨List.map Token.toD q6.1, q6.2.1, q6.2.2, T_stmt_reader_need _ _ _ _ _ _ hq, ?_⟩
      obtain ⟨q7, hq, h⟩ := w_bind h
      refine ⟨q7.1.K, q7.1.N, q7.1.S, List.map Term.toD q7.1.L, q7.1.From, q7.1.To, List.map Token.toD q7.2.1, q7.2.2.1, q7.2.2.2, T_stmt_reader_expr _ _ _ _ hq, ?_⟩
      obtain ⟨q8, hq, h⟩ := w_bind h
      refine ⟨List.map Token.toD q8.1, q8.2.1, q8.2.2, T_stmt_reader_need _ _ _ _ _ _ hq, ?_⟩
      obtain ⟨q9, hq, h⟩ := w_bind h
      have hT := T_stmt_reader_made _ _ _ _ _ _ _ _ hq
      simp only [List.map_cons, List.map_nil, Term.toD_eq] at hT
      refine ⟨q9.K, q9.N, q9.S, List.map Term.toD q9.L, q9.From, q9.To, hT, ?_⟩
      cases h; exact ⟨rfl, rfl⟩
  ·
    obtain ⟨q10, hq, h⟩ := w_bind h
    refine ⟨List.map Token.toD q10.1, q10.2.1, q10.2.2, T_stmt_reader_need _ _ _ _ _ _ hq, ?_⟩
    obtain ⟨q11, hq, h⟩ := w_bind h
    refine ⟨q11.1.K, q11.1.N, q11.1.S, List.map Term.toD q11.1.L, q11.1.From, q11.1.To, List.map Token.toD q11.2.1, q11.2.2.1, q11.2.2.2, T_stmt_reader_expr _ _ _ _ hq, ?_⟩
    obtain ⟨q12, hq, h⟩ := w_bind h
    refine ⟨List.map Token.toD q12.1, q12.2.1, q12.2.2, T_stmt_reader_need _ _ _ _ _ _ hq, ?_⟩
    obtain ⟨q13, hq, h⟩ := w_bind h
    have hT := T_stmt_reader_made _ _ _ _ _ _ _ _ hq
    simp only [List.map_cons, List.map_nil, Term.toD_eq] at hT
    refine ⟨q13.K, q13.N, q13.S, List.map Term.toD q13.L, q13.From, q13.To, hT, ?_⟩
    cases h; exact ⟨rfl, rfl⟩
theorem T_stmt_reader_set (t : List Token) (at_ : Int) (e : Int) (r : Term × List Token × Int × Int) (h : stmt_reader_set t at_ e = some r) : Trip Try.prog 67 [.hp 0 0] [[.d (.sl (List.map Token.toD t)), .d (.int .i64 at_), .d (.int .i64 e)]] [.d (.agg [(.int .i64 r.1.K), (.int .i64 r.1.N), (.str r.1.S), (.sl (List.map Term.toD r.1.L)), (.int .i64 r.1.From), (.int .i64 r.1.To)])] [[.d (.sl (List.map Token.toD r.2.1)), .d (.int .i64 r.2.2.1), .d (.int .i64 r.2.2.2)]] := by
  unfold stmt_reader_set at h
  refine trip_ev 1000 (by kernel_rfl) (by kernel_rfl) (by kernel_rfl) (by kernel_rfl) (by kernel_rfl) (e_stmt_reader_set _ _ t at_ e _ _) ?_
  obtain ⟨q1, hq, h⟩ := w_bind h
  refine ⟨q1.1.K, q1.1.N, q1.1.S, List.map Term.toD q1.1.L, q1.1.From, q1.1.To, List.map Token.toD q1.2.1, q1.2.2.1, q1.2.2.2, T_stmt_reader_expr _ _ _ _ hq, ?_⟩
  obtain ⟨q2, hq, h⟩ := w_bind h
  refine ⟨List.map Token.toD q2.1, q2.2.1, q2.2.2, T_stmt_reader_need _ _ _ _ _ _ hq, ?_⟩
  obtain ⟨q3, hq, h⟩ := w_bind h
  refine ⟨q3.1.K, q3.1.N, q3.1.S, List.map Term.toD q3.1.L, q3.1.From, q3.1.To, List.map Token.toD q3.2.1, q3.2.2.1, q3.2.2.2, T_stmt_reader_expr _ _ _ _ hq, ?_⟩
  obtain ⟨q4, hq, h⟩ := w_bind h
  refine ⟨List.map Token.toD q4.1, q4.2.1, q4.2.2, T_stmt_reader_need _ _ _ _ _ _ hq, ?_⟩
  obtain ⟨q5, hq, h⟩ := w_bind h
  have hT := T_stmt_reader_made _ _ _ _ _ _ _ _ hq
  simp only [List.map_cons, List.map_nil, Term.toD_eq] at hT
  refine ⟨q5.K, q5.N, q5.S, List.map Term.toD q5.L, q5.From, q5.To, hT, ?_⟩
  cases h; exact ⟨rfl, rfl⟩
theorem T_stmt_reader_show (t : List Token) (at_ : Int) (e : Int) (r : Term × List Token × Int × Int) (h : stmt_reader_show t at_ e = some r) : Trip Try.prog 72 [.hp 0 0] [[.d (.sl (List.map Token.toD t)), .d (.int .i64 at_), .d (.int .i64 e)]] [.d (.agg [(.int .i64 r.1.K), (.int .i64 r.1.N), (.str r.1.S), (.sl (List.map Term.toD r.1.L)), (.int .i64 r.1.From), (.int .i64 r.1.To)])] [[.d (.sl (List.map Token.toD r.2.1)), .d (.int .i64 r.2.2.1), .d (.int .i64 r.2.2.2)]] := by
  unfold stmt_reader_show at h
  refine trip_ev 1000 (by kernel_rfl) (by kernel_rfl) (by kernel_rfl) (by kernel_rfl) (by kernel_rfl) (e_stmt_reader_show _ _ t at_ e _ _) ?_
  obtain ⟨q1, hq, h⟩ := w_bind h
  refine ⟨q1.1.K, q1.1.N, q1.1.S, List.map Term.toD q1.1.L, q1.1.From, q1.1.To, List.map Token.toD q1.2.1, q1.2.2.1, q1.2.2.2, T_stmt_reader_single _ _ _ _ _ hq, ?_⟩
  cases h; exact ⟨rfl, rfl⟩
def M_stmt_reader_block : (i : I_stmt_reader_block) → R_stmt_reader_block i → Prop
  | .stmt_reader_block t at_ e, r => Trip Try.prog 51 [.hp 0 0] [[.d (.sl (List.map Token.toD t)), .d (.int .i64 at_), .d (.int .i64 e)]] [.d (.agg [(.int .i64 r.1.K), (.int .i64 r.1.N), (.str r.1.S), (.sl (List.map Term.toD r.1.L)), (.int .i64 r.1.From), (.int .i64 r.1.To)])] [[.d (.sl (List.map Token.toD r.2.1)), .d (.int .i64 r.2.2.1), .d (.int .i64 r.2.2.2)]]
  | .stmt_reader_block_L4 from_ l o2 t at_ e, r => Ok (c_stmt_reader_block (Trip Try.prog) [.d (.agg [(.int .i64 r.1.K), (.int .i64 r.1.N), (.str r.1.S), (.sl (List.map Term.toD r.1.L)), (.int .i64 r.1.From), (.int .i64 r.1.To)])] [[.d (.sl (List.map Token.toD r.2.1)), .d (.int .i64 r.2.2.1), .d (.int .i64 r.2.2.2)]]) (kL Try.f51 4) ⟨32, [(0, .hp 0 0), (2, .ref 2 1 0), (3, .d (.int .i64 from_)), (4, .right 4 1 6 (List.map Term.toD l))], [(4, 1, some (.tok 6 (List.length (List.map Term.toD l)))), (2, 1, some (.agg (.agg [(.int .i64 o2.K), (.int .i64 o2.N), (.str o2.S), (.sl (List.map Term.toD o2.L)), (.int .i64 o2.From), (.int .i64 o2.To)])))], [[.d (.sl (List.map Token.toD t)), .d (.int .i64 at_), .d (.int .i64 e)]], 0⟩
  | .stmt_reader_stmt t at_ e, r => Trip Try.prog 60 [.hp 0 0] [[.d (.sl (List.map Token.toD t)), .d (.int .i64 at_), .d (.int .i64 e)]] [.d (.agg [(.int .i64 r.1.K), (.int .i64 r.1.N), (.str r.1.S), (.sl (List.map Term.toD r.1.L)), (.int .i64 r.1.From), (.int .i64 r.1.To)])] [[.d (.sl (List.map Token.toD r.2.1)), .d (.int .i64 r.2.2.1), .d (.int .i64 r.2.2.2)]]
  | .stmt_reader_cond t at_ e, r => Trip Try.prog 69 [.hp 0 0] [[.d (.sl (List.map Token.toD t)), .d (.int .i64 at_), .d (.int .i64 e)]] [.d (.agg [(.int .i64 r.1.K), (.int .i64 r.1.N), (.str r.1.S), (.sl (List.map Term.toD r.1.L)), (.int .i64 r.1.From), (.int .i64 r.1.To)])] [[.d (.sl (List.map Token.toD r.2.1)), .d (.int .i64 r.2.2.1), .d (.int .i64 r.2.2.2)]]
  | .stmt_reader_while t at_ e, r => Trip Try.prog 70 [.hp 0 0] [[.d (.sl (List.map Token.toD t)), .d (.int .i64 at_), .d (.int .i64 e)]] [.d (.agg [(.int .i64 r.1.K), (.int .i64 r.1.N), (.str r.1.S), (.sl (List.map Term.toD r.1.L)), (.int .i64 r.1.From), (.int .i64 r.1.To)])] [[.d (.sl (List.map Token.toD r.2.1)), .d (.int .i64 r.2.2.1), .d (.int .i64 r.2.2.2)]]
  | .stmt_reader_count t at_ e, r => Trip Try.prog 71 [.hp 0 0] [[.d (.sl (List.map Token.toD t)), .d (.int .i64 at_), .d (.int .i64 e)]] [.d (.agg [(.int .i64 r.1.K), (.int .i64 r.1.N), (.str r.1.S), (.sl (List.map Term.toD r.1.L)), (.int .i64 r.1.From), (.int .i64 r.1.To)])] [[.d (.sl (List.map Token.toD r.2.1)), .d (.int .i64 r.2.2.1), .d (.int .i64 r.2.2.2)]]
theorem G_stmt_reader_block : ∀ i r, fixF F_stmt_reader_block i = some r → M_stmt_reader_block i r := by
  refine fixF_induct D_stmt_reader_block fun g ih i => ?_
  cases i with
  | stmt_reader_block t at_ e =>
    have ih_stmt_reader_block_L4 : ∀ (from_ : Int) (l : List Term) (o2 : Term) (t : List Token) (at_ : Int) (e : Int) (r : Term × List Token × Int × Int), g (I_stmt_reader_block.stmt_reader_block_L4 from_ l o2 t at_ e) = some r → Ok (c_stmt_reader_block (Trip Try.prog) [.d (.agg [(.int .i64 r.1.K), (.int .i64 r.1.N), (.str r.1.S), (.sl (List.map Term.toD r.1.L)), (.int .i64 r.1.From), (.int .i64 r.1.To)])] [[.d (.sl (List.map Token.toD r.2.1)), .d (.int .i64 r.2.2.1), .d (.int .i64 r.2.2.2)]]) (kL Try.f51 4) ⟨32, [(0, .hp 0 0), (2, .ref 2 1 0), (3, .d (.int .i64 from_)), (4, .right 4 1 6 (List.map Term.toD l))], [(4, 1, some (.tok 6 (List.length (List.map Term.toD l)))), (2, 1, some (.agg (.agg [(.int .i64 o2.K), (.int .i64 o2.N), (.str o2.S), (.sl (List.map Term.toD o2.L)), (.int .i64 o2.From), (.int .i64 o2.To)])))], [[.d (.sl (List.map Token.toD t)), .d (.int .i64 at_), .d (.int .i64 e)]], 0⟩ := fun from_ l o2 t at_ e r h => ih (.stmt_reader_block_L4 from_ l o2 t at_ e) r h
    intro r h
    show Trip Try.prog 51 [.hp 0 0] [[.d (.sl (List.map Token.toD t)), .d (.int .i64 at_), .d (.int .i64 e)]] [.d (.agg [(.int .i64 r.1.K), (.int .i64 r.1.N), (.str r.1.S), (.sl (List.map Term.toD r.1.L)), (.int .i64 r.1.From), (.int .i64 r.1.To)])] [[.d (.sl (List.map Token.toD r.2.1)), .d (.int .i64 r.2.2.1), .d (.int .i64 r.2.2.2)]]
    replace h : stmt_reader_block_B (fun from_ l o2 t at_ e => g (I_stmt_reader_block.stmt_reader_block_L4 from_ l o2 t at_ e)) t at_ e = some r := h
    unfold stmt_reader_block_B at h
    refine trip_ev 1000 (by kernel_rfl) (by kernel_rfl) (by kernel_rfl) (by kernel_rfl) (by kernel_rfl) (e_stmt_reader_block _ _ t at_ e _ _) ?_
    obtain ⟨q1, hq, h⟩ := w_bind h
    refine ⟨List.map Token.toD q1.1, q1.2.1, q1.2.2, T_stmt_reader_need _ _ _ _ _ _ hq, ?_⟩
    exact ih_stmt_reader_block_L4 _ _ _ _ _ _ _ h
  | stmt_reader_block_L4 from_ l o2 t at_ e =>
    have ih_stmt_reader_block_L4 : ∀ (from_ : Int) (l : List Term) (o2 : Term) (t : List Token) (at_ : Int) (e : Int) (r : Term × List Token × Int × Int), g (I_stmt_reader_block.stmt_reader_block_L4 from_ l o2 t at_ e) = some r → Ok (c_stmt_reader_block (Trip Try.prog) [.d (.agg [(.int .i64 r.1.K), (.int .i64 r.1.N), (.str r.1.S), (.sl (List.map Term.toD r.1.L)), (.int .i64 r.1.From), (.int .i64 r.1.To)])] [[.d (.sl (List.map Token.toD r.2.1)), .d (.int .i64 r.2.2.1), .d (.int .i64 r.2.2.2)]]) (kL Try.f51 4) ⟨32, [(0, .hp 0 0), (2, .ref 2 1 0), (3, .d (.int .i64 from_)), (4, .right 4 1 6 (List.map Term.toD l))], [(4, 1, some (.tok 6 (List.length (List.map Term.toD l)))), (2, 1, some (.agg (.agg [(.int .i64 o2.K), (.int .i64 o2.N), (.str o2.S), (.sl (List.map Term.toD o2.L)), (.int .i64 o2.From), (.int .i64 o2.To)])))], [[.d (.sl (List.map Token.toD t)), .d (.int .i64 at_), .d (.int .i64 e)]], 0⟩ := fun from_ l o2 t at_ e r h => ih (.stmt_reader_block_L4 from_ l o2 t at_ e) r h
    have ih_stmt_reader_stmt : ∀ (t : List Token) (at_ : Int) (e : Int) (r : Term × List Token × Int × Int), g (I_stmt_reader_block.stmt_reader_stmt t at_ e) = some r → Trip Try.prog 60 [.hp 0 0] [[.d (.sl (List.map Token.toD t)), .d (.int .i64 at_), .d (.int .i64 e)]] [.d (.agg [(.int .i64 r.1.K), (.int .i64 r.1.N), (.str r.1.S), (.sl (List.map Term.toD r.1.L)), (.int .i64 r.1.From), (.int .i64 r.1.To)])] [[.d (.sl (List.map Token.toD r.2.1)), .d (.int .i64 r.2.2.1), .d (.int .i64 r.2.2.2)]] := fun t at_ e r h => ih (.stmt_reader_stmt t at_ e) r h
    intro r h
    show Ok (c_stmt_reader_block (Trip Try.prog) [.d (.agg [(.int .i64 r.1.K), (.int .i64 r.1.N), (.str r.1.S), (.sl (List.map Term.toD r.1.L)), (.int .i64 r.1.From), (.int .i64 r.1.To)])] [[.d (.sl (List.map Token.toD r.2.1)), .d (.int .i64 r.2.2.1), .d (.int .i64 r.2.2.2)]]) (kL Try.f51 4) ⟨32, [(0, .hp 0 0), (2, .ref 2 1 0), (3, .d (.int .i64 from_)), (4, .right 4 1 6 (List.map Term.toD l))], [(4, 1, some (.tok 6 (List.length (List.map Term.toD l)))), (2, 1, some (.agg (.agg [(.int .i64 o2.K), (.int .i64 o2.N), (.str o2.S), (.sl (List.map Term.toD o2.L)), (.int .i64 o2.From), (.int .i64 o2.To)])))], [[.d (.sl (List.map Token.toD t)), .d (.int .i64 at_), .d (.int .i64 e)]], 0⟩
    replace h : stmt_reader_block_L4_B (fun from_ l o2 t at_ e => g (I_stmt_reader_block.stmt_reader_block_L4 from_ l o2 t at_ e)) (fun t at_ e => g (I_stmt_reader_block.stmt_reader_stmt t at_ e)) from_ l o2 t at_ e = some r := h
    unfold stmt_reader_block_L4_B at h
    refine ok_ev 1000 (e_stmt_reader_block_L4 _ _ from_ l o2 t at_ e _ _) ?_
    rintro _ rfl
    refine w_condH beq_iff_eq h (fun hc189 h => ?_) (fun hc189 h => ?_)
    ·
      obtain ⟨q1, hq, h⟩ := w_bind h
      refine ⟨q1, T_stmt_reader_is _ _ _ _ _ _ hq, ?_⟩
      refine w_condN Iff.rfl h (fun hc190 h => ?_) (fun hc190 h => ?_)
      ·
        obtain ⟨q3, hq, h⟩ := w_bind h
        refine ⟨List.map Token.toD q3.1, q3.2.1, q3.2.2, T_stmt_reader_need _ _ _ _ _ _ hq, ?_⟩
        obtain ⟨q4, hq, h⟩ := w_bind h
        refine ⟨q4.K, q4.N, q4.S, List.map Term.toD q4.L, q4.From, q4.To, T_stmt_reader_made _ _ _ _ _ _ _ _ hq, ?_⟩
        cases h; exact ⟨rfl, rfl⟩
      ·
        obtain ⟨q2, hq, h⟩ := w_bind h
        refine ⟨q2.1.K, q2.1.N, q2.1.S, List.map Term.toD q2.1.L, q2.1.From, q2.1.To, List.map Token.toD q2.2.1, q2.2.2.1, q2.2.2.2, ih_stmt_reader_stmt _ _ _ _ hq, ?_⟩
        refine ⟨by simp [sized, D.cells], ?_⟩
        refine ⟨by first | rfl | decide | simp only [List.length_map, List.length_cons, List.length_nil, List.map_append, List.length_append], ?_⟩
        obtain ⟨hP, h⟩ := w_chk h
        refine ⟨by first | exact hP | (simp only [List.length_map, List.length_cons, List.length_nil] at hP ⊢; exact hP), ?_⟩
        refine w_nam (e' := List.map Term.toD (l ++ [q2.1])) (by first | rfl | simp only [List.map_append, List.map_cons, List.map_nil, List.map_take, List.map_drop, List.map_set, List.map_replicate, List.length_map, Term.toD_eq]) ?_
        exact ih_stmt_reader_block_L4 _ _ _ _ _ _ _ h
    ·
      obtain ⟨q5, hq, h⟩ := w_bind h
      refine ⟨List.map Token.toD q5.1, q5.2.1, q5.2.2, T_stmt_reader_need _ _ _ _ _ _ hq, ?_⟩
      obtain ⟨q6, hq, h⟩ := w_bind h
      refine ⟨q6.K, q6.N, q6.S, List.map Term.toD q6.L, q6.From, q6.To, T_stmt_reader_made _ _ _ _ _ _ _ _ hq, ?_⟩
      cases h; exact ⟨rfl, rfl⟩
  | stmt_reader_stmt t at_ e =>
    have ih_stmt_reader_block : ∀ (t : List Token) (at_ : Int) (e : Int) (r : Term × List Token × Int × Int), g (I_stmt_reader_block.stmt_reader_block t at_ e) = some r → Trip Try.prog 51 [.hp 0 0] [[.d (.sl (List.map Token.toD t)), .d (.int .i64 at_), .d (.int .i64 e)]] [.d (.agg [(.int .i64 r.1.K), (.int .i64 r.1.N), (.str r.1.S), (.sl (List.map Term.toD r.1.L)), (.int .i64 r.1.From), (.int .i64 r.1.To)])] [[.d (.sl (List.map Token.toD r.2.1)), .d (.int .i64 r.2.2.1), .d (.int .i64 r.2.2.2)]] := fun t at_ e r h => ih (.stmt_reader_block t at_ e) r h
    have ih_stmt_reader_cond : ∀ (t : List Token) (at_ : Int) (e : Int) (r : Term × List Token × Int × Int), g (I_stmt_reader_block.stmt_reader_cond t at_ e) = some r → Trip Try.prog 69 [.hp 0 0] [[.d (.sl (List.map Token.toD t)), .d (.int .i64 at_), .d (.int .i64 e)]] [.d (.agg [(.int .i64 r.1.K), (.int .i64 r.1.N), (.str r.1.S), (.sl (List.map Term.toD r.1.L)), (.int .i64 r.1.From), (.int .i64 r.1.To)])] [[.d (.sl (List.map Token.toD r.2.1)), .d (.int .i64 r.2.2.1), .d (.int .i64 r.2.2.2)]] := fun t at_ e r h => ih (.stmt_reader_cond t at_ e) r h
    have ih_stmt_reader_while : ∀ (t : List Token) (at_ : Int) (e : Int) (r : Term × List Token × Int × Int), g (I_stmt_reader_block.stmt_reader_while t at_ e) = some r → Trip Try.prog 70 [.hp 0 0] [[.d (.sl (List.map Token.toD t)), .d (.int .i64 at_), .d (.int .i64 e)]] [.d (.agg [(.int .i64 r.1.K), (.int .i64 r.1.N), (.str r.1.S), (.sl (List.map Term.toD r.1.L)), (.int .i64 r.1.From), (.int .i64 r.1.To)])] [[.d (.sl (List.map Token.toD r.2.1)), .d (.int .i64 r.2.2.1), .d (.int .i64 r.2.2.2)]] := fun t at_ e r h => ih (.stmt_reader_while t at_ e) r h
    have ih_stmt_reader_count : ∀ (t : List Token) (at_ : Int) (e : Int) (r : Term × List Token × Int × Int), g (I_stmt_reader_block.stmt_reader_count t at_ e) = some r → Trip Try.prog 71 [.hp 0 0] [[.d (.sl (List.map Token.toD t)), .d (.int .i64 at_), .d (.int .i64 e)]] [.d (.agg [(.int .i64 r.1.K), (.int .i64 r.1.N), (.str r.1.S), (.sl (List.map Term.toD r.1.L)), (.int .i64 r.1.From), (.int .i64 r.1.To)])] [[.d (.sl (List.map Token.toD r.2.1)), .d (.int .i64 r.2.2.1), .d (.int .i64 r.2.2.2)]] := fun t at_ e r h => ih (.stmt_reader_count t at_ e) r h
    intro r h
    show Trip Try.prog 60 [.hp 0 0] [[.d (.sl (List.map Token.toD t)), .d (.int .i64 at_), .d (.int .i64 e)]] [.d (.agg [(.int .i64 r.1.K), (.int .i64 r.1.N), (.str r.1.S), (.sl (List.map Term.toD r.1.L)), (.int .i64 r.1.From), (.int .i64 r.1.To)])] [[.d (.sl (List.map Token.toD r.2.1)), .d (.int .i64 r.2.2.1), .d (.int .i64 r.2.2.2)]]
    replace h : stmt_reader_stmt_B (fun t at_ e => g (I_stmt_reader_block.stmt_reader_block t at_ e)) (fun t at_ e => g (I_stmt_reader_block.stmt_reader_cond t at_ e)) (fun t at_ e => g (I_stmt_reader_block.stmt_reader_while t at_ e)) (fun t at_ e => g (I_stmt_reader_block.stmt_reader_count t at_ e)) t at_ e = some r := h
    unfold stmt_reader_stmt_B at h
    refine trip_ev 1000 (by kernel_rfl) (by kernel_rfl) (by kernel_rfl) (by kernel_rfl) (by kernel_rfl) (e_stmt_reader_stmt _ _ t at_ e _ _) ?_
    obtain ⟨q1, hq, h⟩ := w_bind h
    refine ⟨q1.K, q1.N, q1.S, q1.From, q1.To, T_stmt_reader_now _ _ _ _ hq, ?_⟩
    obtain ⟨q2, hq, h⟩ := w_bind h
    have hT := T_stmt_kind _ _ hq
    by_cases hg : q2 = 51
    · rw [if_pos hg] at h; rw [hg] at hT
      refine .inl ⟨⟨_, hT⟩, ?_⟩
      obtain ⟨q3, hq, h⟩ := w_bind h
      refine ⟨q3.1.K, q3.1.N, q3.1.S, List.map Term.toD q3.1.L, q3.1.From, q3.1.To, List.map Token.toD q3.2.1, q3.2.2.1, q3.2.2.2, ih_stmt_reader_block _ _ _ _ hq, ?_⟩
      cases h; exact ⟨rfl, rfl⟩
    rw [if_neg hg] at h; clear hg
    by_cases hg : q2 = 67
    · rw [if_pos hg] at h; rw [hg] at hT
      refine .inr <| .inl ⟨⟨_, hT⟩, ?_⟩
      obtain ⟨q4, hq, h⟩ := w_bind h
      refine ⟨q4.1.K, q4.1.N, q4.1.S, List.map Term.toD q4.1.L, q4.1.From, q4.1.To, List.map Token.toD q4.2.1, q4.2.2.1, q4.2.2.2, T_stmt_reader_set _ _ _ _ hq, ?_⟩
      cases h; exact ⟨rfl, rfl⟩
    rw [if_neg hg] at h; clear hg
    by_cases hg : q2 = 68
    · rw [if_pos hg] at h; rw [hg] at hT
      refine .inr <| .inr <| .inl ⟨⟨_, hT⟩, ?_⟩
      obtain ⟨q5, hq, h⟩ := w_bind h
      refine ⟨q5.1.K, q5.1.N, q5.1.S, List.map Term.toD q5.1.L, q5.1.From, q5.1.To, List.map Token.toD q5.2.1, q5.2.2.1, q5.2.2.2, T_stmt_reader_let _ _ _ _ hq, ?_⟩
      cases h; exact ⟨rfl, rfl⟩
    rw [if_neg hg] at h; clear hg
    by_cases hg : q2 = 69
    · rw [if_pos hg] at h; rw [hg] at hT
      refine .inr <| .inr <| .inr <| .inl ⟨⟨_, hT⟩, ?_⟩
      obtain ⟨q6, hq, h⟩ := w_bind h
      refine ⟨q6.1.K, q6.1.N, q6.1.S, List.map Term.toD q6.1.L, q6.1.From, q6.1.To, List.map Token.toD q6.2.1, q6.2.2.1, q6.2.2.2, ih_stmt_reader_cond _ _ _ _ hq, ?_⟩
      cases h; exact ⟨rfl, rfl⟩
    rw [if_neg hg] at h; clear hg
    by_cases hg : q2 = 70
    · rw [if_pos hg] at h; rw [hg] at hT
      refine .inr <| .inr <| .inr <| .inr <| .inl ⟨⟨_, hT⟩, ?_⟩
      obtain ⟨q7, hq, h⟩ := w_bind h
      refine ⟨q7.1.K, q7.1.N, q7.1.S, List.map Term.toD q7.1.L, q7.1.From, q7.1.To, List.map Token.toD q7.2.1, q7.2.2.1, q7.2.2.2, ih_stmt_reader_while _ _ _ _ hq, ?_⟩
      cases h; exact ⟨rfl, rfl⟩
    rw [if_neg hg] at h; clear hg
    by_cases hg : q2 = 71
    · rw [if_pos hg] at h; rw [hg] at hT
      refine .inr <| .inr <| .inr <| .inr <| .inr <| .inl ⟨⟨_, hT⟩, ?_⟩
      obtain ⟨q8, hq, h⟩ := w_bind h
      refine ⟨q8.1.K, q8.1.N, q8.1.S, List.map Term.toD q8.1.L, q8.1.From, q8.1.To, List.map Token.toD q8.2.1, q8.2.2.1, q8.2.2.2, ih_stmt_reader_count _ _ _ _ hq, ?_⟩
      cases h; exact ⟨rfl, rfl⟩
    rw [if_neg hg] at h; clear hg
    by_cases hg : q2 = 72
    · rw [if_pos hg] at h; rw [hg] at hT
      refine .inr <| .inr <| .inr <| .inr <| .inr <| .inr <| .inl ⟨⟨_, hT⟩, ?_⟩
      obtain ⟨q9, hq, h⟩ := w_bind h
      refine ⟨q9.1.K, q9.1.N, q9.1.S, List.map Term.toD q9.1.L, q9.1.From, q9.1.To, List.map Token.toD q9.2.1, q9.2.2.1, q9.2.2.2, T_stmt_reader_show _ _ _ _ hq, ?_⟩
      cases h; exact ⟨rfl, rfl⟩
    rw [if_neg hg] at h; clear hg
    by_cases hg : q2 = 73
    · rw [if_pos hg] at h; rw [hg] at hT
      refine .inr <| .inr <| .inr <| .inr <| .inr <| .inr <| .inr <| .inl ⟨⟨_, hT⟩, ?_⟩
      obtain ⟨q10, hq, h⟩ := w_bind h
      refine ⟨q10.1.K, q10.1.N, q10.1.S, List.map Term.toD q10.1.L, q10.1.From, q10.1.To, List.map Token.toD q10.2.1, q10.2.2.1, q10.2.2.2, T_stmt_reader_back _ _ _ _ hq, ?_⟩
      cases h; exact ⟨rfl, rfl⟩
    rw [if_neg hg] at h; clear hg
    by_cases hg : q2 = 74
    · rw [if_pos hg] at h; rw [hg] at hT
      refine .inr <| .inr <| .inr <| .inr <| .inr <| .inr <| .inr <| .inr <| .inl ⟨⟨_, hT⟩, ?_⟩
      obtain ⟨q11, hq, h⟩ := w_bind h
      refine ⟨q11.1.K, q11.1.N, q11.1.S, List.map Term.toD q11.1.L, q11.1.From, q11.1.To, List.map Token.toD q11.2.1, q11.2.2.1, q11.2.2.2, T_stmt_reader_call _ _ _ _ hq, ?_⟩
      cases h; exact ⟨rfl, rfl⟩
    rw [if_neg hg] at h; clear hg
    cases h
  | stmt_reader_cond t at_ e =>
    have ih_stmt_reader_block : ∀ (t : List Token) (at_ : Int) (e : Int) (r : Term × List Token × Int × Int), g (I_stmt_reader_block.stmt_reader_block t at_ e) = some r → Trip Try.prog 51 [.hp 0 0] [[.d (.sl (List.map Token.toD t)), .d (.int .i64 at_), .d (.int .i64 e)]] [.d (.agg [(.int .i64 r.1.K), (.int .i64 r.1.N), (.str r.1.S), (.sl (List.map Term.toD r.1.L)), (.int .i64 r.1.From), (.int .i64 r.1.To)])] [[.d (.sl (List.map Token.toD r.2.1)), .d (.int .i64 r.2.2.1), .d (.int .i64 r.2.2.2)]] := fun t at_ e r h => ih (.stmt_reader_block t at_ e) r h
    intro r h
    show Trip Try.prog 69 [.hp 0 0] [[.d (.sl (List.map Token.toD t)), .d (.int .i64 at_), .d (.int .i64 e)]] [.d (.agg [(.int .i64 r.1.K), (.int .i64 r.1.N), (.str r.1.S), (.sl (List.map Term.toD r.1.L)), (.int .i64 r.1.From), (.int .i64 r.1.To)])] [[.d (.sl (List.map Token.toD r.2.1)), .d (.int .i64 r.2.2.1), .d (.int .i64 r.2.2.2)]]
    replace h : stmt_reader_cond_B (fun t at_ e => g (I_stmt_reader_block.stmt_reader_block t at_ e)) t at_ e = some r := h
    unfold stmt_reader_cond_B at h
    refine trip_ev 1000 (by kernel_rfl) (by kernel_rfl) (by kernel_rfl) (by kernel_rfl) (by kernel_rfl) (e_stmt_reader_cond _ _ t at_ e _ _) ?_
    rintro _ rfl
    obtain ⟨q1, hq, h⟩ := w_bind h
    refine ⟨q1.1.K, q1.1.N, q1.1.S, List.map Term.toD q1.1.L, q1.1.From, q1.1.To, List.map Token.toD q1.2.1, q1.2.2.1, q1.2.2.2, T_stmt_reader_expr _ _ _ _ hq, ?_⟩
    obtain ⟨q2, hq, h⟩ := w_bind h
    refine ⟨q2.1.K, q2.1.N, q2.1.S, List.map Term.toD q2.1.L, q2.1.From, q2.1.To, List.map Token.toD q2.2.1, q2.2.2.1, q2.2.2.2, ih_stmt_reader_block _ _ _ _ hq, ?_⟩
    rintro _ rfl
    refine w_condH beq_iff_eq h (fun hc191 h => ?_) (fun hc191 h => ?_)
    ·
      obtain ⟨q3, hq, h⟩ := w_bind h
      refine ⟨q3, T_stmt_reader_is _ _ _ _ _ _ hq, ?_⟩
      refine w_condH Iff.rfl h (fun hc192 h => ?_) (fun hc192 h => ?_)
      ·
        rintro _ rfl
        obtain ⟨q4, hq, h⟩ := w_bind h
        refine ⟨q4.1.K, q4.1.N, q4.1.S, List.map Term.toD q4.1.L, q4.1.From, q4.1.To, List.map Token.toD q4.2.1, q4.2.2.1, q4.2.2.2, ih_stmt_reader_block _ _ _ _ hq, ?_⟩
        obtain ⟨q5, hq, h⟩ := w_bind h
        have hT := T_stmt_reader_made _ _ _ _ _ _ _ _ hq
        simp only [List.map_cons, List.map_nil, Term.toD_eq] at hT
        refine ⟨q5.K, q5.N, q5.S, List.map Term.toD q5.L, q5.From, q5.To, hT, ?_⟩
        cases h; exact ⟨rfl, rfl⟩
      ·
        obtain ⟨q6, hq, h⟩ := w_bind h
        have hT := T_stmt_reader_made _ _ _ _ _ _ _ _ hq
        simp only [List.map_cons, List.map_nil, Term.toD_eq] at hT
        refine ⟨q6.K, q6.N, q6.S, List.map Term.toD q6.L, q6.From, q6.To, hT, ?_⟩
        cases h; exact ⟨rfl, rfl⟩
    ·
      obtain ⟨q7, hq, h⟩ := w_bind h
      have hT := T_stmt_reader_made _ _ _ _ _ _ _ _ hq
      simp only [List.map_cons, List.map_nil, Term.toD_eq] at hT
      refine ⟨q7.K, q7.N, q7.S, List.map Term.toD q7.L, q7.From, q7.To, hT, ?_⟩
      cases h; exact ⟨rfl, rfl⟩
  | stmt_reader_while t at_ e =>
    have ih_stmt_reader_block : ∀ (t : List Token) (at_ : Int) (e : Int) (r : Term × List Token × Int × Int), g (I_stmt_reader_block.stmt_reader_block t at_ e) = some r → Trip Try.prog 51 [.hp 0 0] [[.d (.sl (List.map Token.toD t)), .d (.int .i64 at_), .d (.int .i64 e)]] [.d (.agg [(.int .i64 r.1.K), (.int .i64 r.1.N), (.str r.1.S), (.sl (List.map Term.toD r.1.L)), (.int .i64 r.1.From), (.int .i64 r.1.To)])] [[.d (.sl (List.map Token.toD r.2.1)), .d (.int .i64 r.2.2.1), .d (.int .i64 r.2.2.2)]] := fun t at_ e r h => ih (.stmt_reader_block t at_ e) r h
    intro r h
    show Trip Try.prog 70 [.hp 0 0] [[.d (.sl (List.map Token.toD t)), .d (.int .i64 at_), .d (.int .i64 e)]] [.d (.agg [(.int .i64 r.1.K), (.int .i64 r.1.N), (.str r.1.S), (.sl (List.map Term.toD r.1.L)), (.int .i64 r.1.From), (.int .i64 r.1.To)])] [[.d (.sl (List.map Token.toD r.2.1)), .d (.int .i64 r.2.2.1), .d (.int .i64 r.2.2.2)]]
    replace h : stmt_reader_while_B (fun t at_ e => g (I_stmt_reader_block.stmt_reader_block t at_ e)) t at_ e = some r := h
    unfold stmt_reader_while_B at h
    refine trip_ev 1000 (by kernel_rfl) (by kernel_rfl) (by kernel_rfl) (by kernel_rfl) (by kernel_rfl) (e_stmt_reader_while _ _ t at_ e _ _) ?_
    rintro _ rfl
    obtain ⟨q1, hq, h⟩ := w_bind h
    refine ⟨q1.1.K, q1.1.N, q1.1.S, List.map Term.toD q1.1.L, q1.1.From, q1.1.To, List.map Token.toD q1.2.1, q1.2.2.1, q1.2.2.2, T_stmt_reader_expr _ _ _ _ hq, ?_⟩
    obtain ⟨q2, hq, h⟩ := w_bind h
    refine ⟨q2.1.K, q2.1.N, q2.1.S, List.map Term.toD q2.1.L, q2.1.From, q2.1.To, List.map Token.toD q2.2.1, q2.2.2.1, q2.2.2.2, ih_stmt_reader_block _ _ _ _ hq, ?_⟩
    obtain ⟨q3, hq, h⟩ := w_bind h
    have hT := T_stmt_reader_made _ _ _ _ _ _ _ _ hq
    simp only [List.map_cons, List.map_nil, Term.toD_eq] at hT
    refine ⟨q3.K, q3.N, q3.S, List.map Term.toD q3.L, q3.From, q3.To, hT, ?_⟩
    cases h; exact ⟨rfl, rfl⟩
  | stmt_reader_count t at_ e =>
    have ih_stmt_reader_block : ∀ (t : List Token) (at_ : Int) (e : Int) (r : Term × List Token × Int × Int), g (I_stmt_reader_block.stmt_reader_block t at_ e) = some r → Trip Try.prog 51 [.hp 0 0] [[.d (.sl (List.map Token.toD t)), .d (.int .i64 at_), .d (.int .i64 e)]] [.d (.agg [(.int .i64 r.1.K), (.int .i64 r.1.N), (.str r.1.S), (.sl (List.map Term.toD r.1.L)), (.int .i64 r.1.From), (.int .i64 r.1.To)])] [[.d (.sl (List.map Token.toD r.2.1)), .d (.int .i64 r.2.2.1), .d (.int .i64 r.2.2.2)]] := fun t at_ e r h => ih (.stmt_reader_block t at_ e) r h
    intro r h
    show Trip Try.prog 71 [.hp 0 0] [[.d (.sl (List.map Token.toD t)), .d (.int .i64 at_), .d (.int .i64 e)]] [.d (.agg [(.int .i64 r.1.K), (.int .i64 r.1.N), (.str r.1.S), (.sl (List.map Term.toD r.1.L)), (.int .i64 r.1.From), (.int .i64 r.1.To)])] [[.d (.sl (List.map Token.toD r.2.1)), .d (.int .i64 r.2.2.1), .d (.int .i64 r.2.2.2)]]
    replace h : stmt_reader_count_B (fun t at_ e => g (I_stmt_reader_block.stmt_reader_block t at_ e)) t at_ e = some r := h
    unfold stmt_reader_count_B at h
    refine trip_ev 1000 (by kernel_rfl) (by kernel_rfl) (by kernel_rfl) (by kernel_rfl) (by kernel_rfl) (e_stmt_reader_count _ _ t at_ e _ _) ?_
    rintro _ rfl
    obtain ⟨q1, hq, h⟩ := w_bind h
    refine ⟨q1.1, List.map Token.toD q1.2.1, q1.2.2.1, q1.2.2.2, T_stmt_reader_name _ _ _ _ hq, ?_⟩
    obtain ⟨q2, hq, h⟩ := w_bind h
    refine ⟨List.map Token.toD q2.1, q2.2.1, q2.2.2, T_stmt_reader_need _ _ _ _ _ _ hq, ?_⟩
    obtain ⟨q3, hq, h⟩ := w_bind h
    refine ⟨q3.1.K, q3.1.N, q3.1.S, List.map Term.toD q3.1.L, q3.1.From, q3.1.To, List.map Token.toD q3.2.1, q3.2.2.1, q3.2.2.2, T_stmt_reader_expr _ _ _ _ hq, ?_⟩
    obtain ⟨q4, hq, h⟩ := w_bind h
    refine ⟨List.map Token.toD q4.1, q4.2.1, q4.2.2, T_stmt_reader_need _ _ _ _ _ _ hq, ?_⟩
    obtain ⟨q5, hq, h⟩ := w_bind h
    refine ⟨q5.1.K, q5.1.N, q5.1.S, List.map Term.toD q5.1.L, q5.1.From, q5.1.To, List.map Token.toD q5.2.1, q5.2.2.1, q5.2.2.2, T_stmt_reader_expr _ _ _ _ hq, ?_⟩
    obtain ⟨q6, hq, h⟩ := w_bind h
    refine ⟨q6.1.K, q6.1.N, q6.1.S, List.map Term.toD q6.1.L, q6.1.From, q6.1.To, List.map Token.toD q6.2.1, q6.2.2.1, q6.2.2.2, ih_stmt_reader_block _ _ _ _ hq, ?_⟩
    obtain ⟨q7, hq, h⟩ := w_bind h
    have hT := T_stmt_reader_made _ _ _ _ _ _ _ _ hq
    simp only [List.map_cons, List.map_nil, Term.toD_eq] at hT
    refine ⟨q7.K, q7.N, q7.S, List.map Term.toD q7.L, q7.From, q7.To, hT, ?_⟩
    cases h; exact ⟨rfl, rfl⟩
theorem T_stmt_reader_block (t : List Token) (at_ : Int) (e : Int) (r : Term × List Token × Int × Int) (h : stmt_reader_block t at_ e = some r) : Trip Try.prog 51 [.hp 0 0] [[.d (.sl (List.map Token.toD t)), .d (.int .i64 at_), .d (.int .i64 e)]] [.d (.agg [(.int .i64 r.1.K), (.int .i64 r.1.N), (.str r.1.S), (.sl (List.map Term.toD r.1.L)), (.int .i64 r.1.From), (.int .i64 r.1.To)])] [[.d (.sl (List.map Token.toD r.2.1)), .d (.int .i64 r.2.2.1), .d (.int .i64 r.2.2.2)]] := G_stmt_reader_block (.stmt_reader_block t at_ e) r h
theorem T_stmt_reader_block_L4 (from_ : Int) (l : List Term) (o2 : Term) (t : List Token) (at_ : Int) (e : Int) (r : Term × List Token × Int × Int) (h : stmt_reader_block_L4 from_ l o2 t at_ e = some r) : Ok (c_stmt_reader_block (Trip Try.prog) [.d (.agg [(.int .i64 r.1.K), (.int .i64 r.1.N), (.str r.1.S), (.sl (List.map Term.toD r.1.L)), (.int .i64 r.1.From), (.int .i64 r.1.To)])] [[.d (.sl (List.map Token.toD r.2.1)), .d (.int .i64 r.2.2.1), .d (.int .i64 r.2.2.2)]]) (kL Try.f51 4) ⟨32, [(0, .hp 0 0), (2, .ref 2 1 0), (3, .d (.int .i64 from_)), (4, .right 4 1 6 (List.map Term.toD l))], [(4, 1, some (.tok 6 (List.length (List.map Term.toD l)))), (2, 1, some (.agg (.agg [(.int .i64 o2.K), (.int .i64 o2.N), (.str o2.S), (.sl (List.map Term.toD o2.L)), (.int .i64 o2.From), (.int .i64 o2.To)])))], [[.d (.sl (List.map Token.toD t)), .d (.int .i64 at_), .d (.int .i64 e)]], 0⟩ := G_stmt_reader_block (.stmt_reader_block_L4 from_ l o2 t at_ e) r h
theorem T_stmt_reader_stmt (t : List Token) (at_ : Int) (e : Int) (r : Term × List Token × Int × Int) (h : stmt_reader_stmt t at_ e = some r) : Trip Try.prog 60 [.hp 0 0] [[.d (.sl (List.map Token.toD t)), .d (.int .i64 at_), .d (.int .i64 e)]] [.d (.agg [(.int .i64 r.1.K), (.int .i64 r.1.N), (.str r.1.S), (.sl (List.map Term.toD r.1.L)), (.int .i64 r.1.From), (.int .i64 r.1.To)])] [[.d (.sl (List.map Token.toD r.2.1)), .d (.int .i64 r.2.2.1), .d (.int .i64 r.2.2.2)]] := G_stmt_reader_block (.stmt_reader_stmt t at_ e) r h
theorem T_stmt_reader_cond (t : List Token) (at_ : Int) (e : Int) (r : Term × List Token × Int × Int) (h : stmt_reader_cond t at_ e = some r) : Trip Try.prog 69 [.hp 0 0] [[.d (.sl (List.map Token.toD t)), .d (.int .i64 at_), .d (.int .i64 e)]] [.d (.agg [(.int .i64 r.1.K), (.int .i64 r.1.N), (.str r.1.S), (.sl (List.map Term.toD r.1.L)), (.int .i64 r.1.From), (.int .i64 r.1.To)])] [[.d (.sl (List.map Token.toD r.2.1)), .d (.int .i64 r.2.2.1), .d (.int .i64 r.2.2.2)]] := G_stmt_reader_block (.stmt_reader_cond t at_ e) r h
theorem T_stmt_reader_while (t : List Token) (at_ : Int) (e : Int) (r : Term × List Token × Int × Int) (h : stmt_reader_while t at_ e = some r) : Trip Try.prog 70 [.hp 0 0] [[.d (.sl (List.map Token.toD t)), .d (.int .i64 at_), .d (.int .i64 e)]] [.d (.agg [(.int .i64 r.1.K), (.int .i64 r.1.N), (.str r.1.S), (.sl (List.map Term.toD r.1.L)), (.int .i64 r.1.From), (.int .i64 r.1.To)])] [[.d (.sl (List.map Token.toD r.2.1)), .d (.int .i64 r.2.2.1), .d (.int .i64 r.2.2.2)]] := G_stmt_reader_block (.stmt_reader_while t at_ e) r h
theorem T_stmt_reader_count (t : List Token) (at_ : Int) (e : Int) (r : Term × List Token × Int × Int) (h : stmt_reader_count t at_ e = some r) : Trip Try.prog 71 [.hp 0 0] [[.d (.sl (List.map Token.toD t)), .d (.int .i64 at_), .d (.int .i64 e)]] [.d (.agg [(.int .i64 r.1.K), (.int .i64 r.1.N), (.str r.1.S), (.sl (List.map Term.toD r.1.L)), (.int .i64 r.1.From), (.int .i64 r.1.To)])] [[.d (.sl (List.map Token.toD r.2.1)), .d (.int .i64 r.2.2.1), .d (.int .i64 r.2.2.2)]] := G_stmt_reader_block (.stmt_reader_count t at_ e) r h
theorem T_stmt_start_reader_block (t : List Token) (at_ : Int) (r : Term × Int × Int) (h : stmt_start_reader_block t at_ = some r) : Trip Try.prog 50 [.d (.sl (List.map Token.toD t)), .d (.int .i64 at_), .fn 51 [] []] [] [.d (.agg [(.int .i64 r.1.K), (.int .i64 r.1.N), (.str r.1.S), (.sl (List.map Term.toD r.1.L)), (.int .i64 r.1.From), (.int .i64 r.1.To)]), .d (.int .i64 r.2.1), .d (.int .i64 r.2.2)] [] := by
  unfold stmt_start_reader_block at h
  refine trip_ev 1000 (by kernel_rfl) (by kernel_rfl) (by kernel_rfl) (by kernel_rfl) (by kernel_rfl) (e_stmt_start_reader_block _ _ t at_ _ _) ?_
  rintro _ rfl
  refine w_condH decide_eq_true_iff h (fun hc193 h => ?_) (fun hc193 h => ?_)
  ·
    cases h; exact ⟨rfl, rfl⟩
  ·
    refine w_nam (e' := (List.length t : Int)) (by first | rfl | rw [List.length_map]) ?_
    rintro _ rfl
    refine w_condH decide_eq_true_iff h (fun hc194 h => ?_) (fun hc194 h => ?_)
    ·
      cases h; exact ⟨rfl, rfl⟩
    ·
      obtain ⟨q1, hq, h⟩ := w_bind h
      refine ⟨q1.1.K, q1.1.N, q1.1.S, List.map Term.toD q1.1.L, q1.1.From, q1.1.To, List.map Token.toD q1.2.1, q1.2.2.1, q1.2.2.2, T_stmt_reader_block _ _ _ _ hq, ?_⟩
      rintro _ rfl
      refine w_condN beq_iff_eq h (fun hc195 h => ?_) (fun hc195 h => ?_)
      ·
        cases h; exact ⟨rfl, rfl⟩
      ·
        cases h; exact ⟨rfl, rfl⟩
theorem T_stmt_Block (t : List Token) (at_ : Int) (r : Term × Int × Int) (h : stmt_Block t at_ = some r) : Trip Try.prog 42 [.d (.sl (List.map Token.toD t)), .d (.int .i64 at_)] [] [.d (.agg [(.int .i64 r.1.K), (.int .i64 r.1.N), (.str r.1.S), (.sl (List.map Term.toD r.1.L)), (.int .i64 r.1.From), (.int .i64 r.1.To)]), .d (.int .i64 r.2.1), .d (.int .i64 r.2.2)] [] := by
  unfold stmt_Block at h
  refine trip_ev 1000 (by kernel_rfl) (by kernel_rfl) (by kernel_rfl) (by kernel_rfl) (by kernel_rfl) (e_stmt_Block _ _ t at_ _ _) ?_
  obtain ⟨q1, hq, h⟩ := w_bind h
  refine ⟨q1.1.K, q1.1.N, q1.1.S, List.map Term.toD q1.1.L, q1.1.From, q1.1.To, q1.2.1, q1.2.2, ⟨_, T_stmt_start_reader_block _ _ _ hq⟩, ?_⟩
  cases h; exact ⟨rfl, rfl⟩
theorem T_unit_reader_other_Block (t : List Token) (at_ : Int) (e : Int) (K : Int) (N : Int) (S : Str) (L : List Term) (From : Int) (To : Int) (r : Term × List Token × Int × Int × Int × Int × Str × List Term × Int × Int) (h : unit_reader_other_Block t at_ e K N S L From To = some r) : Trip Try.prog 38 [.hp 0 0, .fn 42 [] []] [[.d (.sl (List.map Token.toD t)), .d (.int .i64 at_), .d (.int .i64 e)], [.d (.int .i64 K), .d (.int .i64 N), .d (.str S), .own 6 (List.map Term.toD L), .d (.int .i64 From), .d (.int .i64 To)]] [.d (.agg [(.int .i64 r.1.K), (.int .i64 r.1.N), (.str r.1.S), (.sl (List.map Term.toD r.1.L)), (.int .i64 r.1.From), (.int .i64 r.1.To)])] [[.d (.sl (List.map Token.toD r.2.1)), .d (.int .i64 r.2.2.1), .d (.int .i64 r.2.2.2.1)], [.d (.int .i64 r.2.2.2.2.1), .d (.int .i64 r.2.2.2.2.2.1), .d (.str r.2.2.2.2.2.2.1), .own 6 (List.map Term.toD r.2.2.2.2.2.2.2.1), .d (.int .i64 r.2.2.2.2.2.2.2.2.1), .d (.int .i64 r.2.2.2.2.2.2.2.2.2)]] := by
  unfold unit_reader_other_Block at h
  refine trip_ev 1000 (by kernel_rfl) (by kernel_rfl) (by kernel_rfl) (by kernel_rfl) (by kernel_rfl) (e_unit_reader_other_Block _ _ t at_ e K N S L From To _ _) ?_
  rintro _ rfl
  refine w_condN beq_iff_eq h (fun hc196 h => ?_) (fun hc196 h => ?_)
  ·
    obtain ⟨q1, hq, h⟩ := w_bind h
    refine ⟨q1.1.K, q1.1.N, q1.1.S, List.map Term.toD q1.1.L, q1.1.From, q1.1.To, q1.2.1, q1.2.2, ⟨_, T_stmt_Block _ _ _ hq⟩, ?_⟩
    cases h; exact ⟨rfl, rfl⟩
  ·
    cases h; exact ⟨rfl, rfl⟩
theorem T_unit_reader_other_Type (t : List Token) (at_ : Int) (e : Int) (K : Int) (N : Int) (S : Str) (L : List Term) (From : Int) (To : Int) (r : Term × List Token × Int × Int × Int × Int × Str × List Term × Int × Int) (h : unit_reader_other_Type t at_ e K N S L From To = some r) : Trip Try.prog 38 [.hp 0 0, .fn 39 [] []] [[.d (.sl (List.map Token.toD t)), .d (.int .i64 at_), .d (.int .i64 e)], [.d (.int .i64 K), .d (.int .i64 N), .d (.str S), .own 6 (List.map Term.toD L), .d (.int .i64 From), .d (.int .i64 To)]] [.d (.agg [(.int .i64 r.1.K), (.int .i64 r.1.N), (.str r.1.S), (.sl (List.map Term.toD r.1.L)), (.int .i64 r.1.From), (.int .i64 r.1.To)])] [[.d (.sl (List.map Token.toD r.2.1)), .d (.int .i64 r.2.2.1), .d (.int .i64 r.2.2.2.1)], [.d (.int .i64 r.2.2.2.2.1), .d (.int .i64 r.2.2.2.2.2.1), .d (.str r.2.2.2.2.2.2.1), .own 6 (List.map Term.toD r.2.2.2.2.2.2.2.1), .d (.int .i64 r.2.2.2.2.2.2.2.2.1), .d (.int .i64 r.2.2.2.2.2.2.2.2.2)]] := by
  unfold unit_reader_other_Type at h
  refine trip_ev 1000 (by kernel_rfl) (by kernel_rfl) (by kernel_rfl) (by kernel_rfl) (by kernel_rfl) (e_unit_reader_other_Type _ _ t at_ e K N S L From To _ _) ?_
  rintro _ rfl
  refine w_condN beq_iff_eq h (fun hc197 h => ?_) (fun hc197 h => ?_)
  ·
    obtain ⟨q1, hq, h⟩ := w_bind h
    refine ⟨q1.1.K, q1.1.N, q1.1.S, List.map Term.toD q1.1.L, q1.1.From, q1.1.To, q1.2.1, q1.2.2, ⟨_, T_expr_Type _ _ _ hq⟩, ?_⟩
    cases h; exact ⟨rfl, rfl⟩
  ·
    cases h; exact ⟨rfl, rfl⟩
theorem T_unit_reader_comma (t : List Token) (at_ : Int) (e : Int) (K : Int) (N : Int) (S : Str) (L : List Term) (From : Int) (To : Int) (r : Bool × List Token × Int × Int × Int × Int × Str × List Term × Int × Int) (h : unit_reader_comma t at_ e K N S L From To = some r) : Trip Try.prog 49 [.hp 0 0] [[.d (.sl (List.map Token.toD t)), .d (.int .i64 at_), .d (.int .i64 e)], [.d (.int .i64 K), .d (.int .i64 N), .d (.str S), .own 6 (List.map Term.toD L), .d (.int .i64 From), .d (.int .i64 To)]] [.d (.bool r.1)] [[.d (.sl (List.map Token.toD r.2.1)), .d (.int .i64 r.2.2.1), .d (.int .i64 r.2.2.2.1)], [.d (.int .i64 r.2.2.2.2.1), .d (.int .i64 r.2.2.2.2.2.1), .d (.str r.2.2.2.2.2.2.1), .own 6 (List.map Term.toD r.2.2.2.2.2.2.2.1), .d (.int .i64 r.2.2.2.2.2.2.2.2.1), .d (.int .i64 r.2.2.2.2.2.2.2.2.2)]] := by
  unfold unit_reader_comma at h
  refine trip_ev 1000 (by kernel_rfl) (by kernel_rfl) (by kernel_rfl) (by kernel_rfl) (by kernel_rfl) (e_unit_reader_comma _ _ t at_ e K N S L From To _ _) ?_
  obtain ⟨q1, hq, h⟩ := w_bind h
  refine ⟨q1.1, List.map Token.toD q1.2.1, q1.2.2.1, q1.2.2.2.1, q1.2.2.2.2.1, q1.2.2.2.2.2.1, q1.2.2.2.2.2.2.1, List.map Term.toD q1.2.2.2.2.2.2.2.1, q1.2.2.2.2.2.2.2.2.1, q1.2.2.2.2.2.2.2.2.2, T_unit_reader_take _ _ _ _ _ _ _ _ _ _ _ _ hq, ?_⟩
  cases h; exact ⟨rfl, rfl⟩
theorem T_unit_reader_part (t : List Token) (at_ : Int) (e : Int) (K : Int) (N : Int) (S : Str) (L : List Term) (From : Int) (To : Int) (r : Term × List Token × Int × Int × Int × Int × Str × List Term × Int × Int) (h : unit_reader_part t at_ e K N S L From To = some r) : Trip Try.prog 45 [.hp 0 0] [[.d (.sl (List.map Token.toD t)), .d (.int .i64 at_), .d (.int .i64 e)], [.d (.int .i64 K), .d (.int .i64 N), .d (.str S), .own 6 (List.map Term.toD L), .d (.int .i64 From), .d (.int .i64 To)]] [.d (.agg [(.int .i64 r.1.K), (.int .i64 r.1.N), (.str r.1.S), (.sl (List.map Term.toD r.1.L)), (.int .i64 r.1.From), (.int .i64 r.1.To)])] [[.d (.sl (List.map Token.toD r.2.1)), .d (.int .i64 r.2.2.1), .d (.int .i64 r.2.2.2.1)], [.d (.int .i64 r.2.2.2.2.1), .d (.int .i64 r.2.2.2.2.2.1), .d (.str r.2.2.2.2.2.2.1), .own 6 (List.map Term.toD r.2.2.2.2.2.2.2.1), .d (.int .i64 r.2.2.2.2.2.2.2.2.1), .d (.int .i64 r.2.2.2.2.2.2.2.2.2)]] := by
  unfold unit_reader_part at h
  refine trip_ev 1000 (by kernel_rfl) (by kernel_rfl) (by kernel_rfl) (by kernel_rfl) (by kernel_rfl) (e_unit_reader_part _ _ t at_ e K N S L From To _ _) ?_
  obtain ⟨q1, hq, h⟩ := w_bind h
  refine ⟨q1.1, List.map Token.toD q1.2.1, q1.2.2.1, q1.2.2.2.1, q1.2.2.2.2.1, q1.2.2.2.2.2.1, q1.2.2.2.2.2.2.1, List.map Term.toD q1.2.2.2.2.2.2.2.1, q1.2.2.2.2.2.2.2.2.1, q1.2.2.2.2.2.2.2.2.2, T_unit_reader_name _ _ _ _ _ _ _ _ _ _ hq, ?_⟩
  obtain ⟨q2, hq, h⟩ := w_bind h
  refine ⟨List.map Token.toD q2.1, q2.2.1, q2.2.2.1, q2.2.2.2.1, q2.2.2.2.2.1, q2.2.2.2.2.2.1, List.map Term.toD q2.2.2.2.2.2.2.1, q2.2.2.2.2.2.2.2.1, q2.2.2.2.2.2.2.2.2, T_unit_reader_need _ _ _ _ _ _ _ _ _ _ _ _ hq, ?_⟩
  obtain ⟨q3, hq, h⟩ := w_bind h
  refine ⟨q3.1.K, q3.1.N, q3.1.S, List.map Term.toD q3.1.L, q3.1.From, q3.1.To, List.map Token.toD q3.2.1, q3.2.2.1, q3.2.2.2.1, q3.2.2.2.2.1, q3.2.2.2.2.2.1, q3.2.2.2.2.2.2.1, List.map Term.toD q3.2.2.2.2.2.2.2.1, q3.2.2.2.2.2.2.2.2.1, q3.2.2.2.2.2.2.2.2.2, T_unit_reader_other_Type _ _ _ _ _ _ _ _ _ _ hq, ?_⟩
  obtain ⟨q4, hq, h⟩ := w_bind h
  have hT := T_unit_reader_made _ _ _ _ _ _ _ _ _ _ _ _ _ _ _ hq
  simp only [List.map_cons, List.map_nil, Term.toD_eq] at hT
  refine ⟨q4.K, q4.N, q4.S, List.map Term.toD q4.L, q4.From, q4.To, hT, ?_⟩
  cases h; exact ⟨rfl, rfl⟩
def M_unit_reader_list_reader_part_reader_comma_L2 : (i : I_unit_reader_list_reader_part_reader_comma_L2) → R_unit_reader_list_reader_part_reader_comma_L2 i → Prop
  | .unit_reader_list_reader_part_reader_comma_L2 out t at_ e K N S L From To, r => Ok (c_unit_reader_list_reader_part_reader_comma (Trip Try.prog) [.d (.sl (List.map Term.toD r.1))] [[.d (.sl (List.map Token.toD r.2.1)), .d (.int .i64 r.2.2.1), .d (.int .i64 r.2.2.2.1)], [.d (.int .i64 r.2.2.2.2.1), .d (.int .i64 r.2.2.2.2.2.1), .d (.str r.2.2.2.2.2.2.1), .own 6 (List.map Term.toD r.2.2.2.2.2.2.2.1), .d (.int .i64 r.2.2.2.2.2.2.2.2.1), .d (.int .i64 r.2.2.2.2.2.2.2.2.2)]]) (kL Try.f33 2) ⟨26, [(0, .hp 0 0), (1, .fn 45 [.hp 0 0] []), (2, .fn 49 [.hp 0 0] []), (7, .right 10 1 6 (List.map Term.toD out))], [(10, 1, some (.tok 6 (List.length (List.map Term.toD out))))], [[.d (.sl (List.map Token.toD t)), .d (.int .i64 at_), .d (.int .i64 e)], [.d (.int .i64 K), .d (.int .i64 N), .d (.str S), .own 6 (List.map Term.toD L), .d (.int .i64 From), .d (.int .i64 To)]], 0⟩
theorem G_unit_reader_list_reader_part_reader_comma_L2 : ∀ i r, fixF F_unit_reader_list_reader_part_reader_comma_L2 i = some r → M_unit_reader_list_reader_part_reader_comma_L2 i r := by
  refine fixF_induct D_unit_reader_list_reader_part_reader_comma_L2 fun g ih i => ?_
  cases i with
  | unit_reader_list_reader_part_reader_comma_L2 out t at_ e K N S L From To =>
    have ih_unit_reader_list_reader_part_reader_comma_L2 : ∀ (out : List Term) (t : List Token) (at_ : Int) (e : Int) (K : Int) (N : Int) (S : Str) (L : List Term) (From : Int) (To : Int) (r : List Term × List Token × Int × Int × Int × Int × Str × List Term × Int × Int), g (I_unit_reader_list_reader_part_reader_comma_L2.unit_reader_list_reader_part_reader_comma_L2 out t at_ e K N S L From To) = some r → Ok (c_unit_reader_list_reader_part_reader_comma (Trip Try.prog) [.d (.sl (List.map Term.toD r.1))] [[.d (.sl (List.map Token.toD r.2.1)), .d (.int .i64 r.2.2.1), .d (.int .i64 r.2.2.2.1)], [.d (.int .i64 r.2.2.2.2.1), .d (.int .i64 r.2.2.2.2.2.1), .d (.str r.2.2.2.2.2.2.1), .own 6 (List.map Term.toD r.2.2.2.2.2.2.2.1), .d (.int .i64 r.2.2.2.2.2.2.2.2.1), .d (.int .i64 r.2.2.2.2.2.2.2.2.2)]]) (kL Try.f33 2) ⟨26, [(0, .hp 0 0), (1, .fn 45 [.hp 0 0] []), (2, .fn 49 [.hp 0 0] []), (7, .right 10 1 6 (List.map Term.toD out))], [(10, 1, some (.tok 6 (List.length (List.map Term.toD out))))], [[.d (.sl (List.map Token.toD t)), .d (.int .i64 at_), .d (.int .i64 e)], [.d (.int .i64 K), .d (.int .i64 N), .d (.str S), .own 6 (List.map Term.toD L), .d (.int .i64 From), .d (.int .i64 To)]], 0⟩ := fun out t at_ e K N S L From To r h => ih (.unit_reader_list_reader_part_reader_comma_L2 out t at_ e K N S L From To) r h
    intro r h
    show Ok (c_unit_reader_list_reader_part_reader_comma (Trip Try.prog) [.d (.sl (List.map Term.toD r.1))] [[.d (.sl (List.map Token.toD r.2.1)), .d (.int .i64 r.2.2.1), .d (.int .i64 r.2.2.2.1)], [.d (.int .i64 r.2.2.2.2.1), .d (.int .i64 r.2.2.2.2.2.1), .d (.str r.2.2.2.2.2.2.1), .own 6 (List.map Term.toD r.2.2.2.2.2.2.2.1), .d (.int .i64 r.2.2.2.2.2.2.2.2.1), .d (.int .i64 r.2.2.2.2.2.2.2.2.2)]]) (kL Try.f33 2) ⟨26, [(0, .hp 0 0), (1, .fn 45 [.hp 0 0] []), (2, .fn 49 [.hp 0 0] []), (7, .right 10 1 6 (List.map Term.toD out))], [(10, 1, some (.tok 6 (List.length (List.map Term.toD out))))], [[.d (.sl (List.map Token.toD t)), .d (.int .i64 at_), .d (.int .i64 e)], [.d (.int .i64 K), .d (.int .i64 N), .d (.str S), .own 6 (List.map Term.toD L), .d (.int .i64 From), .d (.int .i64 To)]], 0⟩
    replace h : unit_reader_list_reader_part_reader_comma_L2_B (fun out t at_ e K N S L From To => g (I_unit_reader_list_reader_part_reader_comma_L2.unit_reader_list_reader_part_reader_comma_L2 out t at_ e K N S L From To)) out t at_ e K N S L From To = some r := h
    unfold unit_reader_list_reader_part_reader_comma_L2_B at h
    refine ok_ev 1000 (e_unit_reader_list_reader_part_reader_comma_L2 _ _ out t at_ e K N S L From To _ _) ?_
    rintro _ rfl
    refine w_condH beq_iff_eq h (fun hc198 h => ?_) (fun hc198 h => ?_)
    ·
      obtain ⟨q1, hq, h⟩ := w_bind h
      refine ⟨q1.1, List.map Token.toD q1.2.1, q1.2.2.1, q1.2.2.2.1, q1.2.2.2.2.1, q1.2.2.2.2.2.1, q1.2.2.2.2.2.2.1, List.map Term.toD q1.2.2.2.2.2.2.2.1, q1.2.2.2.2.2.2.2.2.1, q1.2.2.2.2.2.2.2.2.2, T_unit_reader_comma _ _ _ _ _ _ _ _ _ _ hq, ?_⟩
      refine w_condH Iff.rfl h (fun hc199 h => ?_) (fun hc199 h => ?_)
      ·
        obtain ⟨q2, hq, h⟩ := w_bind h
        refine ⟨q2.1.K, q2.1.N, q2.1.S, List.map Term.toD q2.1.L, q2.1.From, q2.1.To, List.map Token.toD q2.2.1, q2.2.2.1, q2.2.2.2.1, q2.2.2.2.2.1, q2.2.2.2.2.2.1, q2.2.2.2.2.2.2.1, List.map Term.toD q2.2.2.2.2.2.2.2.1, q2.2.2.2.2.2.2.2.2.1, q2.2.2.2.2.2.2.2.2.2, T_unit_reader_part _ _ _ _ _ _ _ _ _ _ hq, ?_⟩
        refine ⟨by simp [sized, D.cells], ?_⟩
        refine ⟨by first | rfl | decide | simp only [List.length_map, List.length_cons, List.length_nil, List.map_append, List.length_append], ?_⟩
        obtain ⟨hP, h⟩ := w_chk h
        refine ⟨by first | exact hP | (simp only [List.length_map, List.length_cons, List.length_nil] at hP ⊢; exact hP), ?_⟩
        refine w_nam (e' := List.map Term.toD (out ++ [q2.1])) (by first | rfl | simp only [List.map_append, List.map_cons, List.map_nil, List.map_take, List.map_drop, List.map_set, List.map_replicate, List.length_map, Term.toD_eq]) ?_
        exact ih_unit_reader_list_reader_part_reader_comma_L2 _ _ _ _ _ _ _ _ _ _ _ h
      ·
        cases h; exact ⟨rfl, rfl⟩
    ·
      cases h; exact ⟨rfl, rfl⟩
theorem T_unit_reader_list_reader_part_reader_comma_L2 (out : List Term) (t : List Token) (at_ : Int) (e : Int) (K : Int) (N : Int) (S : Str) (L : List Term) (From : Int) (To : Int) (r : List Term × List Token × Int × Int × Int × Int × Str × List Term × Int × Int) (h : unit_reader_list_reader_part_reader_comma_L2 out t at_ e K N S L From To = some r) : Ok (c_unit_reader_list_reader_part_reader_comma (Trip Try.prog) [.d (.sl (List.map Term.toD r.1))] [[.d (.sl (List.map Token.toD r.2.1)), .d (.int .i64 r.2.2.1), .d (.int .i64 r.2.2.2.1)], [.d (.int .i64 r.2.2.2.2.1), .d (.int .i64 r.2.2.2.2.2.1), .d (.str r.2.2.2.2.2.2.1), .own 6 (List.map Term.toD r.2.2.2.2.2.2.2.1), .d (.int .i64 r.2.2.2.2.2.2.2.2.1), .d (.int .i64 r.2.2.2.2.2.2.2.2.2)]]) (kL Try.f33 2) ⟨26, [(0, .hp 0 0), (1, .fn 45 [.hp 0 0] []), (2, .fn 49 [.hp 0 0] []), (7, .right 10 1 6 (List.map Term.toD out))], [(10, 1, some (.tok 6 (List.length (List.map Term.toD out))))], [[.d (.sl (List.map Token.toD t)), .d (.int .i64 at_), .d (.int .i64 e)], [.d (.int .i64 K), .d (.int .i64 N), .d (.str S), .own 6 (List.map Term.toD L), .d (.int .i64 From), .d (.int .i64 To)]], 0⟩ := G_unit_reader_list_reader_part_reader_comma_L2 (.unit_reader_list_reader_part_reader_comma_L2 out t at_ e K N S L From To) r h
theorem T_unit_reader_list_reader_part_reader_comma (t : List Token) (at_ : Int) (e : Int) (K : Int) (N : Int) (S : Str) (L : List Term) (From : Int) (To : Int) (r : List Term × List Token × Int × Int × Int × Int × Str × List Term × Int × Int) (h : unit_reader_list_reader_part_reader_comma t at_ e K N S L From To = some r) : Trip Try.prog 33 [.hp 0 0, .fn 45 [.hp 0 0] [], .fn 49 [.hp 0 0] []] [[.d (.sl (List.map Token.toD t)), .d (.int .i64 at_), .d (.int .i64 e)], [.d (.int .i64 K), .d (.int .i64 N), .d (.str S), .own 6 (List.map Term.toD L), .d (.int .i64 From), .d (.int .i64 To)]] [.d (.sl (List.map Term.toD r.1))] [[.d (.sl (List.map Token.toD r.2.1)), .d (.int .i64 r.2.2.1), .d (.int .i64 r.2.2.2.1)], [.d (.int .i64 r.2.2.2.2.1), .d (.int .i64 r.2.2.2.2.2.1), .d (.str r.2.2.2.2.2.2.1), .own 6 (List.map Term.toD r.2.2.2.2.2.2.2.1), .d (.int .i64 r.2.2.2.2.2.2.2.2.1), .d (.int .i64 r.2.2.2.2.2.2.2.2.2)]] := by
  unfold unit_reader_list_reader_part_reader_comma at h
  refine trip_ev 1000 (by kernel_rfl) (by kernel_rfl) (by kernel_rfl) (by kernel_rfl) (by kernel_rfl) (e_unit_reader_list_reader_part_reader_comma _ _ t at_ e K N S L From To _ _) ?_
  obtain ⟨q1, hq, h⟩ := w_bind h
  refine ⟨q1.1.K, q1.1.N, q1.1.S, List.map Term.toD q1.1.L, q1.1.From, q1.1.To, List.map Token.toD q1.2.1, q1.2.2.1, q1.2.2.2.1, q1.2.2.2.2.1, q1.2.2.2.2.2.1, q1.2.2.2.2.2.2.1, List.map Term.toD q1.2.2.2.2.2.2.2.1, q1.2.2.2.2.2.2.2.2.1, q1.2.2.2.2.2.2.2.2.2, T_unit_reader_part _ _ _ _ _ _ _ _ _ _ hq, ?_⟩
  have hT := T_unit_reader_list_reader_part_reader_comma_L2 _ _ _ _ _ _ _ _ _ _ _ h
  simp only [List.map_cons, List.map_nil, List.length_cons, List.length_nil, Term.toD_eq] at hT
  exact hT
theorem T_unit_reader_params (t : List Token) (at_ : Int) (e : Int) (K : Int) (N : Int) (S : Str) (L : List Term) (From : Int) (To : Int) (r : Term × List Token × Int × Int × Int × Int × Str × List Term × Int × Int) (h : unit_reader_params t at_ e K N S L From To = some r) : Trip Try.prog 41 [.hp 0 0] [[.d (.sl (List.map Token.toD t)), .d (.int .i64 at_), .d (.int .i64 e)], [.d (.int .i64 K), .d (.int .i64 N), .d (.str S), .own 6 (List.map Term.toD L), .d (.int .i64 From), .d (.int .i64 To)]] [.d (.agg [(.int .i64 r.1.K), (.int .i64 r.1.N), (.str r.1.S), (.sl (List.map Term.toD r.1.L)), (.int .i64 r.1.From), (.int .i64 r.1.To)])] [[.d (.sl (List.map Token.toD r.2.1)), .d (.int .i64 r.2.2.1), .d (.int .i64 r.2.2.2.1)], [.d (.int .i64 r.2.2.2.2.1), .d (.int .i64 r.2.2.2.2.2.1), .d (.str r.2.2.2.2.2.2.1), .own 6 (List.map Term.toD r.2.2.2.2.2.2.2.1), .d (.int .i64 r.2.2.2.2.2.2.2.2.1), .d (.int .i64 r.2.2.2.2.2.2.2.2.2)]] := by
  unfold unit_reader_params at h
  refine trip_ev 1000 (by kernel_rfl) (by kernel_rfl) (by kernel_rfl) (by kernel_rfl) (by kernel_rfl) (e_unit_reader_params _ _ t at_ e K N S L From To _ _) ?_
  obtain ⟨q1, hq, h⟩ := w_bind h
  refine ⟨List.map Token.toD q1.1, q1.2.1, q1.2.2.1, q1.2.2.2.1, q1.2.2.2.2.1, q1.2.2.2.2.2.1, List.map Term.toD q1.2.2.2.2.2.2.1, q1.2.2.2.2.2.2.2.1, q1.2.2.2.2.2.2.2.2, T_unit_reader_need _ _ _ _ _ _ _ _ _ _ _ _ hq, ?_⟩
  obtain ⟨q2, hq, h⟩ := w_bind h
  refine ⟨q2.1, List.map Token.toD q2.2.1, q2.2.2.1, q2.2.2.2.1, q2.2.2.2.2.1, q2.2.2.2.2.2.1, q2.2.2.2.2.2.2.1, List.map Term.toD q2.2.2.2.2.2.2.2.1, q2.2.2.2.2.2.2.2.2.1, q2.2.2.2.2.2.2.2.2.2, T_unit_reader_take _ _ _ _ _ _ _ _ _ _ _ _ hq, ?_⟩
  refine w_condH Iff.rfl h (fun hc200 h => ?_) (fun hc200 h => ?_)
  ·
    obtain ⟨q3, hq, h⟩ := w_bind h
    refine ⟨q3.K, q3.N, q3.S, List.map Term.toD q3.L, q3.From, q3.To, T_unit_reader_made _ _ _ _ _ _ _ _ _ _ _ _ _ _ _ hq, ?_⟩
    cases h; exact ⟨rfl, rfl⟩
  ·
    obtain ⟨q4, hq, h⟩ := w_bind h
    refine ⟨List.map Term.toD q4.1, List.map Token.toD q4.2.1, q4.2.2.1, q4.2.2.2.1, q4.2.2.2.2.1, q4.2.2.2.2.2.1, q4.2.2.2.2.2.2.1, List.map Term.toD q4.2.2.2.2.2.2.2.1, q4.2.2.2.2.2.2.2.2.1, q4.2.2.2.2.2.2.2.2.2, T_unit_reader_list_reader_part_reader_comma _ _ _ _ _ _ _ _ _ _ hq, ?_⟩
    obtain ⟨q5, hq, h⟩ := w_bind h
    refine ⟨List.map Token.toD q5.1, q5.2.1, q5.2.2.1, q5.2.2.2.1, q5.2.2.2.2.1, q5.2.2.2.2.2.1, List.map Term.toD q5.2.2.2.2.2.2.1, q5.2.2.2.2.2.2.2.1, q5.2.2.2.2.2.2.2.2, T_unit_reader_need _ _ _ _ _ _ _ _ _ _ _ _ hq, ?_⟩
    obtain ⟨q6, hq, h⟩ := w_bind h
    refine ⟨q6.K, q6.N, q6.S, List.map Term.toD q6.L, q6.From, q6.To, T_unit_reader_made _ _ _ _ _ _ _ _ _ _ _ _ _ _ _ hq, ?_⟩
    cases h; exact ⟨rfl, rfl⟩
theorem T_unit_reader_function (t : List Token) (at_ : Int) (e : Int) (K : Int) (N : Int) (S : Str) (L : List Term) (From : Int) (To : Int) (r : Term × List Token × Int × Int × Int × Int × Str × List Term × Int × Int) (h : unit_reader_function t at_ e K N S L From To = some r) : Trip Try.prog 20 [.hp 0 0] [[.d (.sl (List.map Token.toD t)), .d (.int .i64 at_), .d (.int .i64 e)], [.d (.int .i64 K), .d (.int .i64 N), .d (.str S), .own 6 (List.map Term.toD L), .d (.int .i64 From), .d (.int .i64 To)]] [.d (.agg [(.int .i64 r.1.K), (.int .i64 r.1.N), (.str r.1.S), (.sl (List.map Term.toD r.1.L)), (.int .i64 r.1.From), (.int .i64 r.1.To)])] [[.d (.sl (List.map Token.toD r.2.1)), .d (.int .i64 r.2.2.1), .d (.int .i64 r.2.2.2.1)], [.d (.int .i64 r.2.2.2.2.1), .d (.int .i64 r.2.2.2.2.2.1), .d (.str r.2.2.2.2.2.2.1), .own 6 (List.map Term.toD r.2.2.2.2.2.2.2.1), .d (.int .i64 r.2.2.2.2.2.2.2.2.1), .d (.int .i64 r.2.2.2.2.2.2.2.2.2)]] := by
  unfold unit_reader_function at h
  refine trip_ev 1000 (by kernel_rfl) (by kernel_rfl) (by kernel_rfl) (by kernel_rfl) (by kernel_rfl) (e_unit_reader_function _ _ t at_ e K N S L From To _ _) ?_
  obtain ⟨q1, hq, h⟩ := w_bind h
  refine ⟨q1.1, List.map Token.toD q1.2.1, q1.2.2.1, q1.2.2.2.1, q1.2.2.2.2.1, q1.2.2.2.2.2.1, q1.2.2.2.2.2.2.1, List.map Term.toD q1.2.2.2.2.2.2.2.1, q1.2.2.2.2.2.2.2.2.1, q1.2.2.2.2.2.2.2.2.2, T_unit_reader_take _ _ _ _ _ _ _ _ _ _ _ _ hq, ?_⟩
  refine w_condH Iff.rfl h (fun hc201 h => ?_) (fun hc201 h => ?_)
  ·
    obtain ⟨q2, hq, h⟩ := w_bind h
    refine ⟨List.map Token.toD q2.1, q2.2.1, q2.2.2.1, q2.2.2.2.1, q2.2.2.2.2.1, q2.2.2.2.2.2.1, List.map Term.toD q2.2.2.2.2.2.2.1, q2.2.2.2.2.2.2.2.1, q2.2.2.2.2.2.2.2.2, T_unit_reader_need _ _ _ _ _ _ _ _ _ _ _ _ hq, ?_⟩
    obtain ⟨q3, hq, h⟩ := w_bind h
    refine ⟨q3.1, List.map Token.toD q3.2.1, q3.2.2.1, q3.2.2.2.1, q3.2.2.2.2.1, q3.2.2.2.2.2.1, q3.2.2.2.2.2.2.1, List.map Term.toD q3.2.2.2.2.2.2.2.1, q3.2.2.2.2.2.2.2.2.1, q3.2.2.2.2.2.2.2.2.2, T_unit_reader_name _ _ _ _ _ _ _ _ _ _ hq, ?_⟩
    obtain ⟨q4, hq, h⟩ := w_bind h
    refine ⟨q4.1.K, q4.1.N, q4.1.S, List.map Term.toD q4.1.L, q4.1.From, q4.1.To, List.map Token.toD q4.2.1, q4.2.2.1, q4.2.2.2.1, q4.2.2.2.2.1, q4.2.2.2.2.2.1, q4.2.2.2.2.2.2.1, List.map Term.toD q4.2.2.2.2.2.2.2.1, q4.2.2.2.2.2.2.2.2.1, q4.2.2.2.2.2.2.2.2.2, T_unit_reader_params _ _ _ _ _ _ _ _ _ _ hq, ?_⟩
    obtain ⟨q5, hq, h⟩ := w_bind h
    refine ⟨List.map Token.toD q5.1, q5.2.1, q5.2.2.1, q5.2.2.2.1, q5.2.2.2.2.1, q5.2.2.2.2.2.1, List.map Term.toD q5.2.2.2.2.2.2.1, q5.2.2.2.2.2.2.2.1, q5.2.2.2.2.2.2.2.2, T_unit_reader_need _ _ _ _ _ _ _ _ _ _ _ _ hq, ?_⟩
    obtain ⟨q6, hq, h⟩ := w_bind h
    refine ⟨q6.1.K, q6.1.N, q6.1.S, List.map Term.toD q6.1.L, q6.1.From, q6.1.To, List.map Token.toD q6.2.1, q6.2.2.1, q6.2.2.2.1, q6.2.2.2.2.1, q6.2.2.2.2.2.1, q6.2.2.2.2.2.2.1, List.map Term.toD q6.2.2.2.2.2.2.2.1, q6.2.2.2.2.2.2.2.2.1, q6.2.2.2.2.2.2.2.2.2, T_unit_reader_other_Type _ _ _ _ _ _ _ _ _ _ hq, ?_⟩
    obtain ⟨q7, hq, h⟩ := w_bind h
    refine ⟨q7.1.K, q7.1.N, q7.1.S, List.map Term.toD q7.1.L, q7.1.From, q7.1.To, List.map Token.toD q7.2.1, q7.2.2.1, q7.2.2.2.1, q7.2.2.2.2.1, q7.2.2.2.2.2.1, q7.2.2.2.2.2.2.1, List.map Term.toD q7.2.2.2.2.2.2.2.1, q7.2.2.2.2.2.2.2.2.1, q7.2.2.2.2.2.2.2.2.2, T_unit_reader_other_Block _ _ _ _ _ _ _ _ _ _ hq, ?_⟩
    obtain ⟨q8, hq, h⟩ := w_bind h
    have hT := T_unit_reader_made _ _ _ _ _ _ _ _ _ _ _ _ _ _ _ hq
    simp only [List.map_cons, List.map_nil, Term.toD_eq] at hT
    refine ⟨q8.K, q8.N, q8.S, List.map Term.toD q8.L, q8.From, q8.To, hT, ?_⟩
    cases h; exact ⟨rfl, rfl⟩
  ·
    obtain ⟨q9, hq, h⟩ := w_bind h
    refine ⟨List.map Token.toD q9.1, q9.2.1, q9.2.2.1, q9.2.2.2.1, q9.2.2.2.2.1, q9.2.2.2.2.2.1, List.map Term.toD q9.2.2.2.2.2.2.1, q9.2.2.2.2.2.2.2.1, q9.2.2.2.2.2.2.2.2, T_unit_reader_need _ _ _ _ _ _ _ _ _ _ _ _ hq, ?_⟩
    obtain ⟨q10, hq, h⟩ := w_bind h
    refine ⟨q10.1, List.map Token.toD q10.2.1, q10.2.2.1, q10.2.2.2.1, q10.2.2.2.2.1, q10.2.2.2.2.2.1, q10.2.2.2.2.2.2.1, List.map Term.toD q10.2.2.2.2.2.2.2.1, q10.2.2.2.2.2.2.2.2.1, q10.2.2.2.2.2.2.2.2.2, T_unit_reader_name _ _ _ _ _ _ _ _ _ _ hq, ?_⟩
    obtain ⟨q11, hq, h⟩ := w_bind h
    refine ⟨q11.1.K, q11.1.N, q11.1.S, List.map Term.toD q11.1.L, q11.1.From, q11.1.To, List.map Token.toD q11.2.1, q11.2.2.1, q11.2.2.2.1, q11.2.2.2.2.1, q11.2.2.2.2.2.1, q11.2.2.2.2.2.2.1, List.map Term.toD q11.2.2.2.2.2.2.2.1, q11.2.2.2.2.2.2.2.2.1, q11.2.2.2.2.2.2.2.2.2, T_unit_reader_params _ _ _ _ _ _ _ _ _ _ hq, ?_⟩
    obtain ⟨q12, hq, h⟩ := w_bind h
    refine ⟨List.map Token.toD q12.1, q12.2.1, q12.2.2.1, q12.2.2.2.1, q12.2.2.2.2.1, q12.2.2.2.2.2.1, List.map Term.toD q12.2.2.2.2.2.2.1, q12.2.2.2.2.2.2.2.1, q12.2.2.2.2.2.2.2.2, T_unit_reader_need _ _ _ _ _ _ _ _ _ _ _ _ hq, ?_⟩
    obtain ⟨q13, hq, h⟩ := w_bind h
    refine ⟨q13.1.K, q13.1.N, q13.1.S, List.map Term.toD q13.1.L, q13.1.From, q13.1.To, List.map Token.toD q13.2.1, q13.2.2.1, q13.2.2.2.1, q13.2.2.2.2.1, q13.2.2.2.2.2.1, q13.2.2.2.2.2.2.1, List.map Term.toD q13.2.2.2.2.2.2.2.1, q13.2.2.2.2.2.2.2.2.1, q13.2.2.2.2.2.2.2.2.2, T_unit_reader_other_Type _ _ _ _ _ _ _ _ _ _ hq, ?_⟩
    obtain ⟨q14, hq, h⟩ := w_bind h
    refine ⟨q14.1.K, q14.1.N, q14.1.S, List.map Term.toD q14.1.L, q14.1.From, q14.1.To, List.map Token.toD q14.2.1, q14.2.2.1, q14.2.2.2.1, q14.2.2.2.2.1, q14.2.2.2.2.2.1, q14.2.2.2.2.2.2.1, List.map Term.toD q14.2.2.2.2.2.2.2.1, q14.2.2.2.2.2.2.2.2.1, q14.2.2.2.2.2.2.2.2.2, T_unit_reader_other_Block _ _ _ _ _ _ _ _ _ _ hq, ?_⟩
    obtain ⟨q15, hq, h⟩ := w_bind h
    have hT := T_unit_reader_made _ _ _ _ _ _ _ _ _ _ _ _ _ _ _ hq
    simp only [List.map_cons, List.map_nil, Term.toD_eq] at hT
    refine ⟨q15.K, q15.N, q15.S, List.map Term.toD q15.L, q15.From, q15.To, hT, ?_⟩
    cases h; exact ⟨rfl, rfl⟩
theorem T_unit_reader_global (t : List Token) (at_ : Int) (e : Int) (K : Int) (N : Int) (S : Str) (L : List Term) (From : Int) (To : Int) (r : Term × List Token × Int × Int × Int × Int × Str × List Term × Int × Int) (h : unit_reader_global t at_ e K N S L From To = some r) : Trip Try.prog 19 [.hp 0 0] [[.d (.sl (List.map Token.toD t)), .d (.int .i64 at_), .d (.int .i64 e)], [.d (.int .i64 K), .d (.int .i64 N), .d (.str S), .own 6 (List.map Term.toD L), .d (.int .i64 From), .d (.int .i64 To)]] [.d (.agg [(.int .i64 r.1.K), (.int .i64 r.1.N), (.str r.1.S), (.sl (List.map Term.toD r.1.L)), (.int .i64 r.1.From), (.int .i64 r.1.To)])] [[.d (.sl (List.map Token.toD r.2.1)), .d (.int .i64 r.2.2.1), .d (.int .i64 r.2.2.2.1)], [.d (.int .i64 r.2.2.2.2.1), .d (.int .i64 r.2.2.2.2.2.1), .d (.str r.2.2.2.2.2.2.1), .own 6 (List.map Term.toD r.2.2.2.2.2.2.2.1), .d (.int .i64 r.2.2.2.2.2.2.2.2.1), .d (.int .i64 r.2.2.2.2.2.2.2.2.2)]] := by
  unfold unit_reader_global at h
  refine trip_ev 1000 (by kernel_rfl) (by kernel_rfl) (by kernel_rfl) (by kernel_rfl) (by kernel_rfl) (e_unit_reader_global _ _ t at_ e K N S L From To _ _) ?_
  rintro _ rfl
  obtain ⟨q1, hq, h⟩ := w_bind h
  refine ⟨q1.1, List.map Token.toD q1.2.1, q1.2.2.1, q1.2.2.2.1, q1.2.2.2.2.1, q1.2.2.2.2.2.1, q1.2.2.2.2.2.2.1, List.map Term.toD q1.2.2.2.2.2.2.2.1, q1.2.2.2.2.2.2.2.2.1, q1.2.2.2.2.2.2.2.2.2, T_unit_reader_name _ _ _ _ _ _ _ _ _ _ hq, ?_⟩
  obtain ⟨q2, hq, h⟩ := w_bind h
  refine ⟨List.map Token.toD q2.1, q2.2.1, q2.2.2.1, q2.2.2.2.1, q2.2.2.2.2.1, q2.2.2.2.2.2.1, List.map Term.toD q2.2.2.2.2.2.2.1, q2.2.2.2.2.2.2.2.1, q2.2.2.2.2.2.2.2.2, T_unit_reader_need _ _ _ _ _ _ _ _ _ _ _ _ hq, ?_⟩
  obtain ⟨q3, hq, h⟩ := w_bind h
  refine ⟨q3.1.K, q3.1.N, q3.1.S, List.map Term.toD q3.1.L, q3.1.From, q3.1.To, List.map Token.toD q3.2.1, q3.2.2.1, q3.2.2.2.1, q3.2.2.2.2.1, q3.2.2.2.2.2.1, q3.2.2.2.2.2.2.1, List.map Term.toD q3.2.2.2.2.2.2.2.1, q3.2.2.2.2.2.2.2.2.1, q3.2.2.2.2.2.2.2.2.2, T_unit_reader_other_Type _ _ _ _ _ _ _ _ _ _ hq, ?_⟩
  obtain ⟨q4, hq, h⟩ := w_bind h
  refine ⟨List.map Token.toD q4.1, q4.2.1, q4.2.2.1, q4.2.2.2.1, q4.2.2.2.2.1, q4.2.2.2.2.2.1, List.map Term.toD q4.2.2.2.2.2.2.1, q4.2.2.2.2.2.2.2.1, q4.2.2.2.2.2.2.2.2, T_unit_reader_need _ _ _ _ _ _ _ _ _ _ _ _ hq, ?_⟩
  obtain ⟨q5, hq, h⟩ := w_bind h
  have hT := T_unit_reader_made _ _ _ _ _ _ _ _ _ _ _ _ _ _ _ hq
  simp only [List.map_cons, List.map_nil, Term.toD_eq] at hT
  refine ⟨q5.K, q5.N, q5.S, List.map Term.toD q5.L, q5.From, q5.To, hT, ?_⟩
  cases h; exact ⟨rfl, rfl⟩
theorem T_unit_reader_field (t : List Token) (at_ : Int) (e : Int) (K : Int) (N : Int) (S : Str) (L : List Term) (From : Int) (To : Int) (r : Term × List Token × Int × Int × Int × Int × Str × List Term × Int × Int) (h : unit_reader_field t at_ e K N S L From To = some r) : Trip Try.prog 34 [.hp 0 0] [[.d (.sl (List.map Token.toD t)), .d (.int .i64 at_), .d (.int .i64 e)], [.d (.int .i64 K), .d (.int .i64 N), .d (.str S), .own 6 (List.map Term.toD L), .d (.int .i64 From), .d (.int .i64 To)]] [.d (.agg [(.int .i64 r.1.K), (.int .i64 r.1.N), (.str r.1.S), (.sl (List.map Term.toD r.1.L)), (.int .i64 r.1.From), (.int .i64 r.1.To)])] [[.d (.sl (List.map Token.toD r.2.1)), .d (.int .i64 r.2.2.1), .d (.int .i64 r.2.2.2.1)], [.d (.int .i64 r.2.2.2.2.1), .d (.int .i64 r.2.2.2.2.2.1), .d (.str r.2.2.2.2.2.2.1), .own 6 (List.map Term.toD r.2.2.2.2.2.2.2.1), .d (.int .i64 r.2.2.2.2.2.2.2.2.1), .d (.int .i64 r.2.2.2.2.2.2.2.2.2)]] := by
  unfold unit_reader_field at h
  refine trip_ev 1000 (by kernel_rfl) (by kernel_rfl) (by kernel_rfl) (by kernel_rfl) (by kernel_rfl) (e_unit_reader_field _ _ t at_ e K N S L From To _ _) ?_
  obtain ⟨q1, hq, h⟩ := w_bind h
  refine ⟨q1.1.K, q1.1.N, q1.1.S, List.map Term.toD q1.1.L, q1.1.From, q1.1.To, List.map Token.toD q1.2.1, q1.2.2.1, q1.2.2.2.1, q1.2.2.2.2.1, q1.2.2.2.2.2.1, q1.2.2.2.2.2.2.1, List.map Term.toD q1.2.2.2.2.2.2.2.1, q1.2.2.2.2.2.2.2.2.1, q1.2.2.2.2.2.2.2.2.2, T_unit_reader_part _ _ _ _ _ _ _ _ _ _ hq, ?_⟩
  obtain ⟨q2, hq, h⟩ := w_bind h
  refine ⟨List.map Token.toD q2.1, q2.2.1, q2.2.2.1, q2.2.2.2.1, q2.2.2.2.2.1, q2.2.2.2.2.2.1, List.map Term.toD q2.2.2.2.2.2.2.1, q2.2.2.2.2.2.2.2.1, q2.2.2.2.2.2.2.2.2, T_unit_reader_need _ _ _ _ _ _ _ _ _ _ _ _ hq, ?_⟩
  cases h; exact ⟨rfl, rfl⟩
theorem T_unit_reader_open (t : List Token) (at_ : Int) (e : Int) (K : Int) (N : Int) (S : Str) (L : List Term) (From : Int) (To : Int) (r : Bool) (h : unit_reader_open t at_ e K N S L From To = some r) : Trip Try.prog 35 [.hp 0 0] [[.d (.sl (List.map Token.toD t)), .d (.int .i64 at_), .d (.int .i64 e)], [.d (.int .i64 K), .d (.int .i64 N), .d (.str S), .own 6 (List.map Term.toD L), .d (.int .i64 From), .d (.int .i64 To)]] [.d (.bool r)] [[.d (.sl (List.map Token.toD t)), .d (.int .i64 at_), .d (.int .i64 e)], [.d (.int .i64 K), .d (.int .i64 N), .d (.str S), .own 6 (List.map Term.toD L), .d (.int .i64 From), .d (.int .i64 To)]] := by
  unfold unit_reader_open at h
  refine trip_ev 1000 (by kernel_rfl) (by kernel_rfl) (by kernel_rfl) (by kernel_rfl) (by kernel_rfl) (e_unit_reader_open _ _ t at_ e K N S L From To _ _) ?_
  obtain ⟨q1, hq, h⟩ := w_bind h
  refine ⟨q1, T_unit_reader_is _ _ _ _ _ _ _ _ _ _ _ _ hq, ?_⟩
  cases h; exact ⟨rfl, rfl⟩
def M_unit_reader_list_reader_field_reader_open_L2 : (i : I_unit_reader_list_reader_field_reader_open_L2) → R_unit_reader_list_reader_field_reader_open_L2 i → Prop
  | .unit_reader_list_reader_field_reader_open_L2 out t at_ e K N S L From To, r => Ok (c_unit_reader_list_reader_field_reader_open (Trip Try.prog) [.d (.sl (List.map Term.toD r.1))] [[.d (.sl (List.map Token.toD r.2.1)), .d (.int .i64 r.2.2.1), .d (.int .i64 r.2.2.2.1)], [.d (.int .i64 r.2.2.2.2.1), .d (.int .i64 r.2.2.2.2.2.1), .d (.str r.2.2.2.2.2.2.1), .own 6 (List.map Term.toD r.2.2.2.2.2.2.2.1), .d (.int .i64 r.2.2.2.2.2.2.2.2.1), .d (.int .i64 r.2.2.2.2.2.2.2.2.2)]]) (kL Try.f33 2) ⟨26, [(0, .hp 0 0), (1, .fn 34 [.hp 0 0] []), (2, .fn 35 [.hp 0 0] []), (7, .right 10 1 6 (List.map Term.toD out))], [(10, 1, some (.tok 6 (List.length (List.map Term.toD out))))], [[.d (.sl (List.map Token.toD t)), .d (.int .i64 at_), .d (.int .i64 e)], [.d (.int .i64 K), .d (.int .i64 N), .d (.str S), .own 6 (List.map Term.toD L), .d (.int .i64 From), .d (.int .i64 To)]], 0⟩
theorem G_unit_reader_list_reader_field_reader_open_L2 : ∀ i r, fixF F_unit_reader_list_reader_field_reader_open_L2 i = some r → M_unit_reader_list_reader_field_reader_open_L2 i r := by
  refine fixF_induct D_unit_reader_list_reader_field_reader_open_L2 fun g ih i => ?_
  cases i with
  | unit_reader_list_reader_field_reader_open_L2 out t at_ e K N S L From To =>
    have ih_unit_reader_list_reader_field_reader_open_L2 : ∀ (out : List Term) (t : List Token) (at_ : Int) (e : Int) (K : Int) (N : Int) (S : Str) (L : List Term) (From : Int) (To : Int) (r : List Term × List Token × Int × Int × Int × Int × Str × List Term × Int × Int), g (I_unit_reader_list_reader_field_reader_open_L2.unit_reader_list_reader_field_reader_open_L2 out t at_ e K N S L From To) = some r → Ok (c_unit_reader_list_reader_field_reader_open (Trip Try.prog) [.d (.sl (List.map Term.toD r.1))] [[.d (.sl (List.map Token.toD r.2.1)), .d (.int .i64 r.2.2.1), .d (.int .i64 r.2.2.2.1)], [.d (.int .i64 r.2.2.2.2.1), .d (.int .i64 r.2.2.2.2.2.1), .d (.str r.2.2.2.2.2.2.1), .own 6 (List.map Term.toD r.2.2.2.2.2.2.2.1), .d (.int .i64 r.2.2.2.2.2.2.2.2.1), .d (.int .i64 r.2.2.2.2.2.2.2.2.2)]]) (kL Try.f33 2) ⟨26, [(0, .hp 0 0), (1, .fn 34 [.hp 0 0] []), (2, .fn 35 [.hp 0 0] []), (7, .right 10 1 6 (List.map Term.toD out))], [(10, 1, some (.tok 6 (List.length (List.map Term.toD out))))], [[.d (.sl (List.map Token.toD t)), .d (.int .i64 at_), .d (.int .i64 e)], [.d (.int .i64 K), .d (.int .i64 N), .d (.str S), .own 6 (List.map Term.toD L), .d (.int .i64 From), .d (.int .i64 To)]], 0⟩ := fun out t at_ e K N S L From To r h => ih (.unit_reader_list_reader_field_reader_open_L2 out t at_ e K N S L From To) r h
    intro r h
    show Ok (c_unit_reader_list_reader_field_reader_open (Trip Try.prog) [.d (.sl (List.map Term.toD r.1))] [[.d (.sl (List.map Token.toD r.2.1)), .d (.int .i64 r.2.2.1), .d (.int .i64 r.2.2.2.1)], [.d (.int .i64 r.2.2.2.2.1), .d (.int .i64 r.2.2.2.2.2.1), .d (.str r.2.2.2.2.2.2.1), .own 6 (List.map Term.toD r.2.2.2.2.2.2.2.1), .d (.int .i64 r.2.2.2.2.2.2.2.2.1), .d (.int .i64 r.2.2.2.2.2.2.2.2.2)]]) (kL Try.f33 2) ⟨26, [(0, .hp 0 0), (1, .fn 34 [.hp 0 0] []), (2, .fn 35 [.hp 0 0] []), (7, .right 10 1 6 (List.map Term.toD out))], [(10, 1, some (.tok 6 (List.length (List.map Term.toD out))))], [[.d (.sl (List.map Token.toD t)), .d (.int .i64 at_), .d (.int .i64 e)], [.d (.int .i64 K), .d (.int .i64 N), .d (.str S), .own 6 (List.map Term.toD L), .d (.int .i64 From), .d (.int .i64 To)]], 0⟩
    replace h : unit_reader_list_reader_field_reader_open_L2_B (fun out t at_ e K N S L From To => g (I_unit_reader_list_reader_field_reader_open_L2.unit_reader_list_reader_field_reader_open_L2 out t at_ e K N S L From To)) out t at_ e K N S L From To = some r := h
    unfold unit_reader_list_reader_field_reader_open_L2_B at h
    refine ok_ev 1000 (e_unit_reader_list_reader_field_reader_open_L2 _ _ out t at_ e K N S L From To _ _) ?_
    rintro _ rfl
    refine w_condH beq_iff_eq h (fun hc202 h => ?_) (fun hc202 h => ?_)
    ·
      obtain ⟨q1, hq, h⟩ := w_bind h
      refine ⟨q1, T_unit_reader_open _ _ _ _ _ _ _ _ _ _ hq, ?_⟩
      refine w_condH Iff.rfl h (fun hc203 h => ?_) (fun hc203 h => ?_)
      ·
        obtain ⟨q2, hq, h⟩ := w_bind h
        refine ⟨q2.1.K, q2.1.N, q2.1.S, List.map Term.toD q2.1.L, q2.1.From, q2.1.To, List.map Token.toD q2.2.1, q2.2.2.1, q2.2.2.2.1, q2.2.2.2.2.1, q2.2.2.2.2.2.1, q2.2.2.2.2.2.2.1, List.map Term.toD q2.2.2.2.2.2.2.2.1, q2.2.2.2.2.2.2.2.2.1, q2.2.2.2.2.2.2.2.2.2, T_unit_reader_field _ _ _ _ _ _ _ _ _ _ hq, ?_⟩
        refine ⟨by simp [sized, D.cells], ?_⟩
        refine ⟨by first | rfl | decide | simp only [List.length_map, List.length_cons, List.length_nil, List.map_append, List.length_append], ?_⟩
        obtain ⟨hP, h⟩ := w_chk h
        refine ⟨by first | exact hP | (simp only [List.length_map, List.length_cons, List.length_nil] at hP ⊢; exact hP), ?_⟩
        refine w_nam (e' := List.map Term.toD (out ++ [q2.1])) (by first | rfl | simp only [List.map_append, List.map_cons, List.map_nil, List.map_take, List.map_drop, List.map_set, List.map_replicate, List.length_map, Term.toD_eq]) ?_
        exact ih_unit_reader_list_reader_field_reader_open_L2 _ _ _ _ _ _ _ _ _ _ _ h
      ·
        cases h; exact ⟨rfl, rfl⟩
    ·
      cases h; exact ⟨rfl, rfl⟩
theorem T_unit_reader_list_reader_field_reader_open_L2 (out : List Term) (t : List Token) (at_ : Int) (e : Int) (K : Int) (N : Int) (S : Str) (L : List Term) (From : Int) (To : Int) (r : List Term × List Token × Int × Int × Int × Int × Str × List Term × Int × Int) (h : unit_reader_list_reader_field_reader_open_L2 out t at_ e K N S L From To = some r) : Ok (c_unit_reader_list_reader_field_reader_open (Trip Try.prog) [.d (.sl (List.map Term.toD r.1))] [[.d (.sl (List.map Token.toD r.2.1)), .d (.int .i64 r.2.2.1), .d (.int .i64 r.2.2.2.1)], [.d (.int .i64 r.2.2.2.2.1), .d (.int .i64 r.2.2.2.2.2.1), .d (.str r.2.2.2.2.2.2.1), .own 6 (List.map Term.toD r.2.2.2.2.2.2.2.1), .d (.int .i64 r.2.2.2.2.2.2.2.2.1), .d (.int .i64 r.2.2.2.2.2.2.2.2.2)]]) (kL Try.f33 2) ⟨26, [(0, .hp 0 0), (1, .fn 34 [.hp 0 0] []), (2, .fn 35 [.hp 0 0] []), (7, .right 10 1 6 (List.map Term.toD out))], [(10, 1, some (.tok 6 (List.length (List.map Term.toD out))))], [[.d (.sl (List.map Token.toD t)), .d (.int .i64 at_), .d (.int .i64 e)], [.d (.int .i64 K), .d (.int .i64 N), .d (.str S), .own 6 (List.map Term.toD L), .d (.int .i64 From), .d (.int .i64 To)]], 0⟩ := G_unit_reader_list_reader_field_reader_open_L2 (.unit_reader_list_reader_field_reader_open_L2 out t at_ e K N S L From To) r h
theorem T_unit_reader_list_reader_field_reader_open (t : List Token) (at_ : Int) (e : Int) (K : Int) (N : Int) (S : Str) (L : List Term) (From : Int) (To : Int) (r : List Term × List Token × Int × Int × Int × Int × Str × List Term × Int × Int) (h : unit_reader_list_reader_field_reader_open t at_ e K N S L From To = some r) : Trip Try.prog 33 [.hp 0 0, .fn 34 [.hp 0 0] [], .fn 35 [.hp 0 0] []] [[.d (.sl (List.map Token.toD t)), .d (.int .i64 at_), .d (.int .i64 e)], [.d (.int .i64 K), .d (.int .i64 N), .d (.str S), .own 6 (List.map Term.toD L), .d (.int .i64 From), .d (.int .i64 To)]] [.d (.sl (List.map Term.toD r.1))] [[.d (.sl (List.map Token.toD r.2.1)), .d (.int .i64 r.2.2.1), .d (.int .i64 r.2.2.2.1)], [.d (.int .i64 r.2.2.2.2.1), .d (.int .i64 r.2.2.2.2.2.1), .d (.str r.2.2.2.2.2.2.1), .own 6 (List.map Term.toD r.2.2.2.2.2.2.2.1), .d (.int .i64 r.2.2.2.2.2.2.2.2.1), .d (.int .i64 r.2.2.2.2.2.2.2.2.2)]] := by
  unfold unit_reader_list_reader_field_reader_open at h
  refine trip_ev 1000 (by kernel_rfl) (by kernel_rfl) (by kernel_rfl) (by kernel_rfl) (by kernel_rfl) (e_unit_reader_list_reader_field_reader_open _ _ t at_ e K N S L From To _ _) ?_
  obtain ⟨q1, hq, h⟩ := w_bind h
  refine ⟨q1.1.K, q1.1.N, q1.1.S, List.map Term.toD q1.1.L, q1.1.From, q1.1.To, List.map Token.toD q1.2.1, q1.2.2.1, q1.2.2.2.1, q1.2.2.2.2.1, q1.2.2.2.2.2.1, q1.2.2.2.2.2.2.1, List.map Term.toD q1.2.2.2.2.2.2.2.1, q1.2.2.2.2.2.2.2.2.1, q1.2.2.2.2.2.2.2.2.2, T_unit_reader_field _ _ _ _ _ _ _ _ _ _ hq, ?_⟩
  have hT := T_unit_reader_list_reader_field_reader_open_L2 _ _ _ _ _ _ _ _ _ _ _ h
  simp only [List.map_cons, List.map_nil, List.length_cons, List.length_nil, Term.toD_eq] at hT
  exact hT
theorem T_unit_reader_record (t : List Token) (at_ : Int) (e : Int) (K : Int) (N : Int) (S : Str) (L : List Term) (From : Int) (To : Int) (r : Term × List Token × Int × Int × Int × Int × Str × List Term × Int × Int) (h : unit_reader_record t at_ e K N S L From To = some r) : Trip Try.prog 17 [.hp 0 0] [[.d (.sl (List.map Token.toD t)), .d (.int .i64 at_), .d (.int .i64 e)], [.d (.int .i64 K), .d (.int .i64 N), .d (.str S), .own 6 (List.map Term.toD L), .d (.int .i64 From), .d (.int .i64 To)]] [.d (.agg [(.int .i64 r.1.K), (.int .i64 r.1.N), (.str r.1.S), (.sl (List.map Term.toD r.1.L)), (.int .i64 r.1.From), (.int .i64 r.1.To)])] [[.d (.sl (List.map Token.toD r.2.1)), .d (.int .i64 r.2.2.1), .d (.int .i64 r.2.2.2.1)], [.d (.int .i64 r.2.2.2.2.1), .d (.int .i64 r.2.2.2.2.2.1), .d (.str r.2.2.2.2.2.2.1), .own 6 (List.map Term.toD r.2.2.2.2.2.2.2.1), .d (.int .i64 r.2.2.2.2.2.2.2.2.1), .d (.int .i64 r.2.2.2.2.2.2.2.2.2)]] := by
  unfold unit_reader_record at h
  refine trip_ev 1000 (by kernel_rfl) (by kernel_rfl) (by kernel_rfl) (by kernel_rfl) (by kernel_rfl) (e_unit_reader_record _ _ t at_ e K N S L From To _ _) ?_
  rintro _ rfl
  obtain ⟨q1, hq, h⟩ := w_bind h
  refine ⟨q1.1, List.map Token.toD q1.2.1, q1.2.2.1, q1.2.2.2.1, q1.2.2.2.2.1, q1.2.2.2.2.2.1, q1.2.2.2.2.2.2.1, List.map Term.toD q1.2.2.2.2.2.2.2.1, q1.2.2.2.2.2.2.2.2.1, q1.2.2.2.2.2.2.2.2.2, T_unit_reader_name _ _ _ _ _ _ _ _ _ _ hq, ?_⟩
  obtain ⟨q2, hq, h⟩ := w_bind h
  refine ⟨List.map Token.toD q2.1, q2.2.1, q2.2.2.1, q2.2.2.2.1, q2.2.2.2.2.1, q2.2.2.2.2.2.1, List.map Term.toD q2.2.2.2.2.2.2.1, q2.2.2.2.2.2.2.2.1, q2.2.2.2.2.2.2.2.2, T_unit_reader_need _ _ _ _ _ _ _ _ _ _ _ _ hq, ?_⟩
  obtain ⟨q3, hq, h⟩ := w_bind h
  refine ⟨List.map Term.toD q3.1, List.map Token.toD q3.2.1, q3.2.2.1, q3.2.2.2.1, q3.2.2.2.2.1, q3.2.2.2.2.2.1, q3.2.2.2.2.2.2.1, List.map Term.toD q3.2.2.2.2.2.2.2.1, q3.2.2.2.2.2.2.2.2.1, q3.2.2.2.2.2.2.2.2.2, T_unit_reader_list_reader_field_reader_open _ _ _ _ _ _ _ _ _ _ hq, ?_⟩
  obtain ⟨q4, hq, h⟩ := w_bind h
  refine ⟨List.map Token.toD q4.1, q4.2.1, q4.2.2.1, q4.2.2.2.1, q4.2.2.2.2.1, q4.2.2.2.2.2.1, List.map Term.toD q4.2.2.2.2.2.2.1, q4.2.2.2.2.2.2.2.1, q4.2.2.2.2.2.2.2.2, T_unit_reader_need _ _ _ _ _ _ _ _ _ _ _ _ hq, ?_⟩
  obtain ⟨q5, hq, h⟩ := w_bind h
  refine ⟨q5.K, q5.N, q5.S, List.map Term.toD q5.L, q5.From, q5.To, T_unit_reader_made _ _ _ _ _ _ _ _ _ _ _ _ _ _ _ hq, ?_⟩
  cases h; exact ⟨rfl, rfl⟩
theorem T_unit_reader_decl (t : List Token) (at_ : Int) (e : Int) (K : Int) (N : Int) (S : Str) (L : List Term) (From : Int) (To : Int) (r : Term × List Token × Int × Int × Int × Int × Str × List Term × Int × Int) (h : unit_reader_decl t at_ e K N S L From To = some r) : Trip Try.prog 11 [.hp 0 0] [[.d (.sl (List.map Token.toD t)), .d (.int .i64 at_), .d (.int .i64 e)], [.d (.int .i64 K), .d (.int .i64 N), .d (.str S), .own 6 (List.map Term.toD L), .d (.int .i64 From), .d (.int .i64 To)]] [.d (.agg [(.int .i64 r.1.K), (.int .i64 r.1.N), (.str r.1.S), (.sl (List.map Term.toD r.1.L)), (.int .i64 r.1.From), (.int .i64 r.1.To)])] [[.d (.sl (List.map Token.toD r.2.1)), .d (.int .i64 r.2.2.1), .d (.int .i64 r.2.2.2.1)], [.d (.int .i64 r.2.2.2.2.1), .d (.int .i64 r.2.2.2.2.2.1), .d (.str r.2.2.2.2.2.2.1), .own 6 (List.map Term.toD r.2.2.2.2.2.2.2.1), .d (.int .i64 r.2.2.2.2.2.2.2.2.1), .d (.int .i64 r.2.2.2.2.2.2.2.2.2)]] := by
  unfold unit_reader_decl at h
  refine trip_ev 1000 (by kernel_rfl) (by kernel_rfl) (by kernel_rfl) (by kernel_rfl) (by kernel_rfl) (e_unit_reader_decl _ _ t at_ e K N S L From To _ _) ?_
  obtain ⟨q1, hq, h⟩ := w_bind h
  refine ⟨q1, T_unit_reader_is _ _ _ _ _ _ _ _ _ _ _ _ hq, ?_⟩
  refine w_condH Iff.rfl h (fun hc204 h => ?_) (fun hc204 h => ?_)
  ·
    obtain ⟨q2, hq, h⟩ := w_bind h
    refine ⟨q2.1.K, q2.1.N, q2.1.S, List.map Term.toD q2.1.L, q2.1.From, q2.1.To, List.map Token.toD q2.2.1, q2.2.2.1, q2.2.2.2.1, q2.2.2.2.2.1, q2.2.2.2.2.2.1, q2.2.2.2.2.2.2.1, List.map Term.toD q2.2.2.2.2.2.2.2.1, q2.2.2.2.2.2.2.2.2.1, q2.2.2.2.2.2.2.2.2.2, T_unit_reader_record _ _ _ _ _ _ _ _ _ _ hq, ?_⟩
    cases h; exact ⟨rfl, rfl⟩
  ·
    obtain ⟨q3, hq, h⟩ := w_bind h
    refine ⟨q3, T_unit_reader_is _ _ _ _ _ _ _ _ _ _ _ _ hq, ?_⟩
    refine w_condH Iff.rfl h (fun hc205 h => ?_) (fun hc205 h => ?_)
    ·
      obtain ⟨q4, hq, h⟩ := w_bind h
      refine ⟨q4.1.K, q4.1.N, q4.1.S, List.map Term.toD q4.1.L, q4.1.From, q4.1.To, List.map Token.toD q4.2.1, q4.2.2.1, q4.2.2.2.1, q4.2.2.2.2.1, q4.2.2.2.2.2.1, q4.2.2.2.2.2.2.1, List.map Term.toD q4.2.2.2.2.2.2.2.1, q4.2.2.2.2.2.2.2.2.1, q4.2.2.2.2.2.2.2.2.2, T_unit_reader_define _ _ _ _ _ _ _ _ _ _ hq, ?_⟩
      cases h; exact ⟨rfl, rfl⟩
    ·
      obtain ⟨q5, hq, h⟩ := w_bind h
      refine ⟨q5, T_unit_reader_is _ _ _ _ _ _ _ _ _ _ _ _ hq, ?_⟩
      refine w_condH Iff.rfl h (fun hc206 h => ?_) (fun hc206 h => ?_)
      ·
        obtain ⟨q6, hq, h⟩ := w_bind h
        refine ⟨q6.1.K, q6.1.N, q6.1.S, List.map Term.toD q6.1.L, q6.1.From, q6.1.To, List.map Token.toD q6.2.1, q6.2.2.1, q6.2.2.2.1, q6.2.2.2.2.1, q6.2.2.2.2.2.1, q6.2.2.2.2.2.2.1, List.map Term.toD q6.2.2.2.2.2.2.2.1, q6.2.2.2.2.2.2.2.2.1, q6.2.2.2.2.2.2.2.2.2, T_unit_reader_global _ _ _ _ _ _ _ _ _ _ hq, ?_⟩
        cases h; exact ⟨rfl, rfl⟩
      ·
        obtain ⟨q7, hq, h⟩ := w_bind h
        refine ⟨q7, T_unit_reader_is _ _ _ _ _ _ _ _ _ _ _ _ hq, ?_⟩
        refine w_condH Iff.rfl h (fun hc207 h => ?_) (fun hc207 h => ?_)
        ·
          refine w_condT Iff.rfl hc207 ?_
          obtain ⟨q8, hq, h⟩ := w_bind h
          refine ⟨q8.1.K, q8.1.N, q8.1.S, List.map Term.toD q8.1.L, q8.1.From, q8.1.To, List.map Token.toD q8.2.1, q8.2.2.1, q8.2.2.2.1, q8.2.2.2.2.1, q8.2.2.2.2.2.1, q8.2.2.2.2.2.2.1, List.map Term.toD q8.2.2.2.2.2.2.2.1, q8.2.2.2.2.2.2.2.2.1, q8.2.2.2.2.2.2.2.2.2, T_unit_reader_function _ _ _ _ _ _ _ _ _ _ hq, ?_⟩
          cases h; exact ⟨rfl, rfl⟩
        ·
          obtain ⟨q9, hq, h⟩ := w_bind h
          refine ⟨q9, T_unit_reader_is _ _ _ _ _ _ _ _ _ _ _ _ hq, ?_⟩
          refine w_condH Iff.rfl h (fun hc208 h => ?_) (fun hc208 h => ?_)
          ·
            obtain ⟨q10, hq, h⟩ := w_bind h
            refine ⟨q10.1.K, q10.1.N, q10.1.S, List.map Term.toD q10.1.L, q10.1.From, q10.1.To, List.map Token.toD q10.2.1, q10.2.2.1, q10.2.2.2.1, q10.2.2.2.2.1, q10.2.2.2.2.2.1, q10.2.2.2.2.2.2.1, List.map Term.toD q10.2.2.2.2.2.2.2.1, q10.2.2.2.2.2.2.2.2.1, q10.2.2.2.2.2.2.2.2.2, T_unit_reader_function _ _ _ _ _ _ _ _ _ _ hq, ?_⟩
            cases h; exact ⟨rfl, rfl⟩
          ·
            cases h; exact ⟨rfl, rfl⟩
def M_unit_Parse_L6 : (i : I_unit_Parse_L6) → R_unit_Parse_L6 i → Prop
  | .unit_Parse_L6 o2 t at_ e K N S L From To, r => Ok (c_unit_Parse (Trip Try.prog) [.d (.agg [(.int .i64 r.1.K), (.int .i64 r.1.N), (.str r.1.S), (.sl (List.map Term.toD r.1.L)), (.int .i64 r.1.From), (.int .i64 r.1.To)]), .d (.int .i64 r.2.1), .d (.int .i64 r.2.2)] []) (kL Try.f6 6) ⟨79, [(2, .ref 2 1 0), (8, .hp 0 0), (9, .hp 1 0)], [(2, 1, some (.agg (.agg [(.int .i64 o2.K), (.int .i64 o2.N), (.str o2.S), (.sl (List.map Term.toD o2.L)), (.int .i64 o2.From), (.int .i64 o2.To)])))], [[.d (.sl (List.map Token.toD t)), .d (.int .i64 at_), .d (.int .i64 e)], [.d (.int .i64 K), .d (.int .i64 N), .d (.str S), .own 6 (List.map Term.toD L), .d (.int .i64 From), .d (.int .i64 To)]], 0⟩
theorem G_unit_Parse_L6 : ∀ i r, fixF F_unit_Parse_L6 i = some r → M_unit_Parse_L6 i r := by
  refine fixF_induct D_unit_Parse_L6 fun g ih i => ?_
  cases i with
  | unit_Parse_L6 o2 t at_ e K N S L From To =>
    have ih_unit_Parse_L6 : ∀ (o2 : Term) (t : List Token) (at_ : Int) (e : Int) (K : Int) (N : Int) (S : Str) (L : List Term) (From : Int) (To : Int) (r : Term × Int × Int), g (I_unit_Parse_L6.unit_Parse_L6 o2 t at_ e K N S L From To) = some r → Ok (c_unit_Parse (Trip Try.prog) [.d (.agg [(.int .i64 r.1.K), (.int .i64 r.1.N), (.str r.1.S), (.sl (List.map Term.toD r.1.L)), (.int .i64 r.1.From), (.int .i64 r.1.To)]), .d (.int .i64 r.2.1), .d (.int .i64 r.2.2)] []) (kL Try.f6 6) ⟨79, [(2, .ref 2 1 0), (8, .hp 0 0), (9, .hp 1 0)], [(2, 1, some (.agg (.agg [(.int .i64 o2.K), (.int .i64 o2.N), (.str o2.S), (.sl (List.map Term.toD o2.L)), (.int .i64 o2.From), (.int .i64 o2.To)])))], [[.d (.sl (List.map Token.toD t)), .d (.int .i64 at_), .d (.int .i64 e)], [.d (.int .i64 K), .d (.int .i64 N), .d (.str S), .own 6 (List.map Term.toD L), .d (.int .i64 From), .d (.int .i64 To)]], 0⟩ := fun o2 t at_ e K N S L From To r h => ih (.unit_Parse_L6 o2 t at_ e K N S L From To) r h
    intro r h
    show Ok (c_unit_Parse (Trip Try.prog) [.d (.agg [(.int .i64 r.1.K), (.int .i64 r.1.N), (.str r.1.S), (.sl (List.map Term.toD r.1.L)), (.int .i64 r.1.From), (.int .i64 r.1.To)]), .d (.int .i64 r.2.1), .d (.int .i64 r.2.2)] []) (kL Try.f6 6) ⟨79, [(2, .ref 2 1 0), (8, .hp 0 0), (9, .hp 1 0)], [(2, 1, some (.agg (.agg [(.int .i64 o2.K), (.int .i64 o2.N), (.str o2.S), (.sl (List.map Term.toD o2.L)), (.int .i64 o2.From), (.int .i64 o2.To)])))], [[.d (.sl (List.map Token.toD t)), .d (.int .i64 at_), .d (.int .i64 e)], [.d (.int .i64 K), .d (.int .i64 N), .d (.str S), .own 6 (List.map Term.toD L), .d (.int .i64 From), .d (.int .i64 To)]], 0⟩
    replace h : unit_Parse_L6_B (fun o2 t at_ e K N S L From To => g (I_unit_Parse_L6.unit_Parse_L6 o2 t at_ e K N S L From To)) o2 t at_ e K N S L From To = some r := h
    unfold unit_Parse_L6_B at h
    refine ok_ev 1000 (e_unit_Parse_L6 _ _ o2 t at_ e K N S L From To _ _) ?_
    obtain ⟨x, hx, h⟩ := w_bind h
    refine ⟨sizedL (l := t) (Token.sz), w_ge hx, x.K, x.N, x.S, x.From, x.To, w_get (Token.toD_eq x) hx, ?_⟩
    rintro _ rfl
    refine w_condN beq_iff_eq h (fun hc209 h => ?_) (fun hc209 h => ?_)
    ·
      refine w_nam (e' := (List.length L : Int)) (by first | rfl | rw [List.length_map]) ?_
      rintro _ rfl
      refine w_condH decide_eq_true_iff h (fun hc210 h => ?_) (fun hc210 h => ?_)
      ·
        cases h; exact ⟨rfl, rfl⟩
      ·
        obtain ⟨q2, hq, h⟩ := w_bind h
        refine ⟨q2, ⟨_, T_term_Depth _ _ hq⟩, ?_⟩
        rintro _ rfl
        refine w_condH decide_eq_true_iff h (fun hc211 h => ?_) (fun hc211 h => ?_)
        ·
          cases h; exact ⟨rfl, rfl⟩
        ·
          cases h; exact ⟨rfl, rfl⟩
    ·
      obtain ⟨q1, hq, h⟩ := w_bind h
      refine ⟨q1.1.K, q1.1.N, q1.1.S, List.map Term.toD q1.1.L, q1.1.From, q1.1.To, List.map Token.toD q1.2.1, q1.2.2.1, q1.2.2.2.1, q1.2.2.2.2.1, q1.2.2.2.2.2.1, q1.2.2.2.2.2.2.1, List.map Term.toD q1.2.2.2.2.2.2.2.1, q1.2.2.2.2.2.2.2.2.1, q1.2.2.2.2.2.2.2.2.2, T_unit_reader_decl _ _ _ _ _ _ _ _ _ _ hq, ?_⟩
      rintro _ rfl
      refine w_condN beq_iff_eq h (fun hc212 h => ?_) (fun hc212 h => ?_)
      ·
        refine ⟨by simp [sized, D.cells], ?_⟩
        refine ⟨by first | rfl | decide | simp only [List.length_map, List.length_cons, List.length_nil, List.map_append, List.length_append], ?_⟩
        obtain ⟨hP, h⟩ := w_chk h
        refine ⟨by first | exact hP | (simp only [List.length_map, List.length_cons, List.length_nil] at hP ⊢; exact hP), ?_⟩
        refine w_nam (e' := List.map Term.toD (q1.2.2.2.2.2.2.2.1 ++ [q1.1])) (by first | rfl | simp only [List.map_append, List.map_cons, List.map_nil, List.map_take, List.map_drop, List.map_set, List.map_replicate, List.length_map, Term.toD_eq]) ?_
        refine ⟨by first | rfl | decide | simp only [List.length_map, List.length_cons, List.length_nil, List.map_append, List.length_append], ?_⟩
        exact ih_unit_Parse_L6 _ _ _ _ _ _ _ _ _ _ _ h
      ·
        obtain ⟨x1, hx, h⟩ := w_bind h
        refine ⟨sizedL (l := q1.2.1) (Token.sz), w_ge hx, x1.K, x1.N, x1.S, x1.From, x1.To, w_get (Token.toD_eq x1) hx, ?_⟩
        cases h; exact ⟨rfl, rfl⟩
theorem T_unit_Parse_L6 (o2 : Term) (t : List Token) (at_ : Int) (e : Int) (K : Int) (N : Int) (S : Str) (L : List Term) (From : Int) (To : Int) (r : Term × Int × Int) (h : unit_Parse_L6 o2 t at_ e K N S L From To = some r) : Ok (c_unit_Parse (Trip Try.prog) [.d (.agg [(.int .i64 r.1.K), (.int .i64 r.1.N), (.str r.1.S), (.sl (List.map Term.toD r.1.L)), (.int .i64 r.1.From), (.int .i64 r.1.To)]), .d (.int .i64 r.2.1), .d (.int .i64 r.2.2)] []) (kL Try.f6 6) ⟨79, [(2, .ref 2 1 0), (8, .hp 0 0), (9, .hp 1 0)], [(2, 1, some (.agg (.agg [(.int .i64 o2.K), (.int .i64 o2.N), (.str o2.S), (.sl (List.map Term.toD o2.L)), (.int .i64 o2.From), (.int .i64 o2.To)])))], [[.d (.sl (List.map Token.toD t)), .d (.int .i64 at_), .d (.int .i64 e)], [.d (.int .i64 K), .d (.int .i64 N), .d (.str S), .own 6 (List.map Term.toD L), .d (.int .i64 From), .d (.int .i64 To)]], 0⟩ := G_unit_Parse_L6 (.unit_Parse_L6 o2 t at_ e K N S L From To) r h
theorem T_unit_Parse (text : Str) (r : Term × Int × Int) (h : unit_Parse text = some r) : Trip Try.prog 6 [.d (.str text)] [] [.d (.agg [(.int .i64 r.1.K), (.int .i64 r.1.N), (.str r.1.S), (.sl (List.map Term.toD r.1.L)), (.int .i64 r.1.From), (.int .i64 r.1.To)]), .d (.int .i64 r.2.1), .d (.int .i64 r.2.2)] [] := by
  unfold unit_Parse at h
  refine trip_ev 1000 (by kernel_rfl) (by kernel_rfl) (by kernel_rfl) (by kernel_rfl) (by kernel_rfl) (e_unit_Parse _ _ text _ _) ?_
  obtain ⟨q1, hq, h⟩ := w_bind h
  refine ⟨List.map Token.toD q1.1, q1.2.1, q1.2.2, ⟨_, T_lex_Tokens _ _ hq⟩, ?_⟩
  rintro _ rfl
  refine w_condN beq_iff_eq h (fun hc213 h => ?_) (fun hc213 h => ?_)
  ·
    rintro _ rfl
    exact T_unit_Parse_L6 _ _ _ _ _ _ _ _ _ _ _ h
  ·
    cases h; exact ⟨rfl, rfl⟩
theorem T_law09awake  (r : Bool) (h : law09awake = some r) : Trip Try.prog 5 [] [] [.d (.bool r)] [] := by
  unfold law09awake at h
  refine trip_ev 1000 (by kernel_rfl) (by kernel_rfl) (by kernel_rfl) (by kernel_rfl) (by kernel_rfl) (e_law09awake _ _  _ _) ?_
  obtain ⟨q1, hq, h⟩ := w_bind h
  refine ⟨q1.1.K, q1.1.N, q1.1.S, List.map Term.toD q1.1.L, q1.1.From, q1.1.To, q1.2.1, q1.2.2, ⟨_, T_unit_Parse _ _ hq⟩, ?_⟩
  rintro _ rfl
  refine w_condH beq_iff_eq h (fun hc214 h => ?_) (fun hc214 h => ?_)
  ·
    rintro _ rfl
    refine w_condH beq_iff_eq h (fun hc215 h => ?_) (fun hc215 h => ?_)
    ·
      refine w_nam (e' := (List.length q1.1.L : Int)) (by first | rfl | rw [List.length_map]) ?_
      rintro _ rfl
      refine w_condH beq_iff_eq h (fun hc216 h => ?_) (fun hc216 h => ?_)
      ·
        obtain ⟨x, hx, h⟩ := w_bind h
        refine ⟨sizedL (l := q1.1.L) (Term.sz), w_ge hx, x.K, x.N, x.S, List.map Term.toD x.L, x.From, x.To, w_get (Term.toD_eq x) hx, ?_⟩
        rintro _ rfl
        cases h; exact ⟨rfl, rfl⟩
      ·
        cases h; exact ⟨rfl, rfl⟩
    ·
      cases h; exact ⟨rfl, rfl⟩
  ·
    cases h; exact ⟨rfl, rfl⟩
def M_ref07Within : (i : I_ref07Within) → R_ref07Within i → Prop
  | .ref07Within t, r => Trip Try.prog 9 [.d (.agg [(.int .i64 t.K), (.int .i64 t.N), (.str t.S), (.sl (List.map Term.toD t.L)), (.int .i64 t.From), (.int .i64 t.To)])] [] [.d (.bool r)] []
  | .ref07Within_L3 at_ i t, r => Ok (c_ref07Within (Trip Try.prog) [.d (.bool r)] []) (kL Try.f9 3) ⟨63, [(1, .ref 1 1 0), (3, .d (.int .i64 at_)), (4, .d (.int .i64 i))], [(1, 1, some (.agg (.agg [(.int .i64 t.K), (.int .i64 t.N), (.str t.S), (.sl (List.map Term.toD t.L)), (.int .i64 t.From), (.int .i64 t.To)])))], [], 0⟩
theorem G_ref07Within : ∀ i r, fixF F_ref07Within i = some r → M_ref07Within i r := by
  refine fixF_induct D_ref07Within fun g ih i => ?_
  cases i with
  | ref07Within t =>
    have ih_ref07Within_L3 : ∀ (at_ : Int) (i : Int) (t : Term) (r : Bool), g (I_ref07Within.ref07Within_L3 at_ i t) = some r → Ok (c_ref07Within (Trip Try.prog) [.d (.bool r)] []) (kL Try.f9 3) ⟨63, [(1, .ref 1 1 0), (3, .d (.int .i64 at_)), (4, .d (.int .i64 i))], [(1, 1, some (.agg (.agg [(.int .i64 t.K), (.int .i64 t.N), (.str t.S), (.sl (List.map Term.toD t.L)), (.int .i64 t.From), (.int .i64 t.To)])))], [], 0⟩ := fun at_ i t r h => ih (.ref07Within_L3 at_ i t) r h
    intro r h
    show Trip Try.prog 9 [.d (.agg [(.int .i64 t.K), (.int .i64 t.N), (.str t.S), (.sl (List.map Term.toD t.L)), (.int .i64 t.From), (.int .i64 t.To)])] [] [.d (.bool r)] []
    replace h : ref07Within_B (fun at_ i t => g (I_ref07Within.ref07Within_L3 at_ i t)) t = some r := h
    unfold ref07Within_B at h
    refine trip_ev 1000 (by kernel_rfl) (by kernel_rfl) (by kernel_rfl) (by kernel_rfl) (by kernel_rfl) (e_ref07Within _ _ t _ _) ?_
    exact ih_ref07Within_L3 _ _ _ _ h
  | ref07Within_L3 at_ i t =>
    have ih_ref07Within : ∀ (t : Term) (r : Bool), g (I_ref07Within.ref07Within t) = some r → Trip Try.prog 9 [.d (.agg [(.int .i64 t.K), (.int .i64 t.N), (.str t.S), (.sl (List.map Term.toD t.L)), (.int .i64 t.From), (.int .i64 t.To)])] [] [.d (.bool r)] [] := fun t r h => ih (.ref07Within t) r h
    have ih_ref07Within_L3 : ∀ (at_ : Int) (i : Int) (t : Term) (r : Bool), g (I_ref07Within.ref07Within_L3 at_ i t) = some r → Ok (c_ref07Within (Trip Try.prog) [.d (.bool r)] []) (kL Try.f9 3) ⟨63, [(1, .ref 1 1 0), (3, .d (.int .i64 at_)), (4, .d (.int .i64 i))], [(1, 1, some (.agg (.agg [(.int .i64 t.K), (.int .i64 t.N), (.str t.S), (.sl (List.map Term.toD t.L)), (.int .i64 t.From), (.int .i64 t.To)])))], [], 0⟩ := fun at_ i t r h => ih (.ref07Within_L3 at_ i t) r h
    intro r h
    show Ok (c_ref07Within (Trip Try.prog) [.d (.bool r)] []) (kL Try.f9 3) ⟨63, [(1, .ref 1 1 0), (3, .d (.int .i64 at_)), (4, .d (.int .i64 i))], [(1, 1, some (.agg (.agg [(.int .i64 t.K), (.int .i64 t.N), (.str t.S), (.sl (List.map Term.toD t.L)), (.int .i64 t.From), (.int .i64 t.To)])))], [], 0⟩
    replace h : ref07Within_L3_B (fun t => g (I_ref07Within.ref07Within t)) (fun at_ i t => g (I_ref07Within.ref07Within_L3 at_ i t)) at_ i t = some r := h
    unfold ref07Within_L3_B at h
    refine ok_ev 1000 (e_ref07Within_L3 _ _ at_ i t _ _) ?_
    refine w_nam (e' := (List.length t.L : Int)) (by first | rfl | rw [List.length_map]) ?_
    rintro _ rfl
    refine w_condH decide_eq_true_iff h (fun hc217 h => ?_) (fun hc217 h => ?_)
    ·
      obtain ⟨x, hx, h⟩ := w_bind h
      refine ⟨sizedL (l := t.L) (Term.sz), w_ge hx, x.K, x.N, x.S, List.map Term.toD x.L, x.From, x.To, w_get (Term.toD_eq x) hx, ?_⟩
      rintro _ rfl
      refine w_condH decide_eq_true_iff h (fun hc218 h => ?_) (fun hc218 h => ?_)
      ·
        cases h; exact ⟨rfl, rfl⟩
      ·
        obtain ⟨x1, hx, h⟩ := w_bind h
        refine ⟨sizedL (l := t.L) (Term.sz), w_ge hx, x1.K, x1.N, x1.S, List.map Term.toD x1.L, x1.From, x1.To, w_get (Term.toD_eq x1) hx, ?_⟩
        rintro _ rfl
        refine w_condH decide_eq_true_iff h (fun hc219 h => ?_) (fun hc219 h => ?_)
        ·
          cases h; exact ⟨rfl, rfl⟩
        ·
          obtain ⟨x2, hx, h⟩ := w_bind h
          refine ⟨sizedL (l := t.L) (Term.sz), w_ge hx, x2.K, x2.N, x2.S, List.map Term.toD x2.L, x2.From, x2.To, w_get (Term.toD_eq x2) hx, ?_⟩
          obtain ⟨x3, hx, h⟩ := w_bind h
          refine ⟨sizedL (l := t.L) (Term.sz), w_ge hx, x3.K, x3.N, x3.S, List.map Term.toD x3.L, x3.From, x3.To, w_get (Term.toD_eq x3) hx, ?_⟩
          rintro _ rfl
          refine w_condH decide_eq_true_iff h (fun hc220 h => ?_) (fun hc220 h => ?_)
          ·
            cases h; exact ⟨rfl, rfl⟩
          ·
            obtain ⟨x4, hx, h⟩ := w_bind h
            refine ⟨sizedL (l := t.L) (Term.sz), w_ge hx, x4.K, x4.N, x4.S, List.map Term.toD x4.L, x4.From, x4.To, w_get (Term.toD_eq x4) hx, ?_⟩
            obtain ⟨q1, hq, h⟩ := w_bind h
            refine ⟨q1, ⟨_, ih_ref07Within _ _ hq⟩, ?_⟩
            refine w_condN Iff.rfl h (fun hc221 h => ?_) (fun hc221 h => ?_)
            ·
              obtain ⟨x5, hx, h⟩ := w_bind h
              refine ⟨sizedL (l := t.L) (Term.sz), w_ge hx, x5.K, x5.N, x5.S, List.map Term.toD x5.L, x5.From, x5.To, w_get (Term.toD_eq x5) hx, ?_⟩
              rintro _ rfl
              exact ih_ref07Within_L3 _ _ _ _ h
            ·
              cases h; exact ⟨rfl, rfl⟩
    ·
      cases h; exact ⟨rfl, rfl⟩
theorem T_ref07Within (t : Term) (r : Bool) (h : ref07Within t = some r) : Trip Try.prog 9 [.d (.agg [(.int .i64 t.K), (.int .i64 t.N), (.str t.S), (.sl (List.map Term.toD t.L)), (.int .i64 t.From), (.int .i64 t.To)])] [] [.d (.bool r)] [] := G_ref07Within (.ref07Within t) r h
theorem T_ref07Within_L3 (at_ : Int) (i : Int) (t : Term) (r : Bool) (h : ref07Within_L3 at_ i t = some r) : Ok (c_ref07Within (Trip Try.prog) [.d (.bool r)] []) (kL Try.f9 3) ⟨63, [(1, .ref 1 1 0), (3, .d (.int .i64 at_)), (4, .d (.int .i64 i))], [(1, 1, some (.agg (.agg [(.int .i64 t.K), (.int .i64 t.N), (.str t.S), (.sl (List.map Term.toD t.L)), (.int .i64 t.From), (.int .i64 t.To)])))], [], 0⟩ := G_ref07Within (.ref07Within_L3 at_ i t) r h
theorem T_law09UnitPlaces (text : Str) (r : Bool) (h : law09UnitPlaces text = some r) : Trip Try.prog 4 [.d (.str text)] [] [.d (.bool r)] [] := by
  unfold law09UnitPlaces at h
  refine trip_ev 1000 (by kernel_rfl) (by kernel_rfl) (by kernel_rfl) (by kernel_rfl) (by kernel_rfl) (e_law09UnitPlaces _ _ text _ _) ?_
  rintro _ rfl
  rintro _ rfl
  refine w_condH decide_eq_true_iff h (fun hc222 h => ?_) (fun hc222 h => ?_)
  ·
    obtain ⟨q1, hq, h⟩ := w_bind h
    refine ⟨q1, ⟨_, T_law09awake _ hq⟩, ?_⟩
    cases h; exact ⟨rfl, rfl⟩
  ·
    obtain ⟨q2, hq, h⟩ := w_bind h
    refine ⟨q2.1.K, q2.1.N, q2.1.S, List.map Term.toD q2.1.L, q2.1.From, q2.1.To, q2.2.1, q2.2.2, ⟨_, T_unit_Parse _ _ hq⟩, ?_⟩
    rintro _ rfl
    refine w_condN beq_iff_eq h (fun hc223 h => ?_) (fun hc223 h => ?_)
    ·
      obtain ⟨q4, hq, h⟩ := w_bind h
      refine ⟨q4, ⟨_, T_ref07Within _ _ hq⟩, ?_⟩
      refine w_condH Iff.rfl h (fun hc224 h => ?_) (fun hc224 h => ?_)
      ·
        rintro _ rfl
        refine w_condH beq_iff_eq h (fun hc225 h => ?_) (fun hc225 h => ?_)
        ·
          rintro _ rfl
          rintro _ rfl
          refine w_condH beq_iff_eq h (fun hc226 h => ?_) (fun hc226 h => ?_)
          ·
            obtain ⟨q5, hq, h⟩ := w_bind h
            refine ⟨q5, ⟨_, T_law09awake _ hq⟩, ?_⟩
            cases h; exact ⟨rfl, rfl⟩
          ·
            cases h; exact ⟨rfl, rfl⟩
        ·
          cases h; exact ⟨rfl, rfl⟩
      ·
        cases h; exact ⟨rfl, rfl⟩
    ·
      obtain ⟨q3, hq, h⟩ := w_bind h
      refine ⟨q3, ⟨_, T_law09awake _ hq⟩, ?_⟩
      cases h; exact ⟨rfl, rfl⟩
end Go.Proofs.Ytelddjedpmfclaa.M
