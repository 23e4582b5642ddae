/- The plain functions' answers are the program's. -/
import Derived.Test.YtdpecjiflalkmaaMod
import Derived.Test.YtdpecjiflalkmaaEv
namespace Go.Proofs.Ytdpecjiflalkmaa.M
open Go Nt Go.Proofs
set_option linter.unusedVariables false
set_option linter.unusedSimpArgs false
set_option maxRecDepth 100000
theorem T_lex_reader_isDigit (c : Int) (text : Str) (at_ : Int) (out : List Token) (r : Bool × Str × Int × List Token) (h : lex_reader_isDigit c text at_ out = some r) : Trip Try.prog 32 [.hp 0 0, .d (.int .u8 c)] [[.d (.str text), .d (.int .i64 at_), .own 5 (List.map Token.toD out)]] [.d (.bool r.1)] [[.d (.str r.2.1), .d (.int .i64 r.2.2.1), .own 5 (List.map Token.toD r.2.2.2)]] := by
  unfold lex_reader_isDigit at h
  refine trip_ev 1000 (by kernel_rfl) (by kernel_rfl) (by kernel_rfl) (by kernel_rfl) (e_lex_reader_isDigit _ _ c text at_ out _ _) ?_
  rintro _ rfl
  refine w_condH decide_eq_true_iff h (fun hc1 h => ?_) (fun hc1 h => ?_)
  ·
    rintro _ rfl
    cases h; exact ⟨rfl, rfl⟩
  ·
    cases h; exact ⟨rfl, rfl⟩
theorem T_lex_reader_isLetter (c : Int) (text : Str) (at_ : Int) (out : List Token) (r : Bool × Str × Int × List Token) (h : lex_reader_isLetter c text at_ out = some r) : Trip Try.prog 22 [.hp 0 0, .d (.int .u8 c)] [[.d (.str text), .d (.int .i64 at_), .own 5 (List.map Token.toD out)]] [.d (.bool r.1)] [[.d (.str r.2.1), .d (.int .i64 r.2.2.1), .own 5 (List.map Token.toD r.2.2.2)]] := by
  unfold lex_reader_isLetter at h
  refine trip_ev 1000 (by kernel_rfl) (by kernel_rfl) (by kernel_rfl) (by kernel_rfl) (e_lex_reader_isLetter _ _ c text at_ out _ _) ?_
  rintro _ rfl
  refine w_condH decide_eq_true_iff h (fun hc2 h => ?_) (fun hc2 h => ?_)
  ·
    rintro _ rfl
    refine w_condH decide_eq_true_iff h (fun hc3 h => ?_) (fun hc3 h => ?_)
    ·
      cases h; exact ⟨rfl, rfl⟩
    ·
      rintro _ rfl
      refine w_condH decide_eq_true_iff h (fun hc4 h => ?_) (fun hc4 h => ?_)
      ·
        rintro _ rfl
        refine w_condH decide_eq_true_iff h (fun hc5 h => ?_) (fun hc5 h => ?_)
        ·
          cases h; exact ⟨rfl, rfl⟩
        ·
          rintro _ rfl
          cases h; exact ⟨rfl, rfl⟩
      ·
        rintro _ rfl
        cases h; exact ⟨rfl, rfl⟩
  ·
    rintro _ rfl
    refine w_condH decide_eq_true_iff h (fun hc6 h => ?_) (fun hc6 h => ?_)
    ·
      rintro _ rfl
      refine w_condH decide_eq_true_iff h (fun hc7 h => ?_) (fun hc7 h => ?_)
      ·
        cases h; exact ⟨rfl, rfl⟩
      ·
        rintro _ rfl
        cases h; exact ⟨rfl, rfl⟩
    ·
      rintro _ rfl
      cases h; exact ⟨rfl, rfl⟩
theorem T_lex_reader_put (k : Int) (n : Int) (s : Str) (from_ : Int) (text : Str) (at_ : Int) (out : List Token) (r : Str × Int × List Token) (h : lex_reader_put k n s from_ text at_ out = some r) : Trip Try.prog 18 [.hp 0 0, .d (.int .i64 k), .d (.int .i64 n), .d (.str s), .d (.int .i64 from_)] [[.d (.str text), .d (.int .i64 at_), .own 5 (List.map Token.toD out)]] [] [[.d (.str r.1), .d (.int .i64 r.2.1), .own 5 (List.map Token.toD r.2.2)]] := by
  unfold lex_reader_put at h
  refine trip_ev 1000 (by kernel_rfl) (by kernel_rfl) (by kernel_rfl) (by kernel_rfl) (e_lex_reader_put _ _ k n s from_ text at_ out _ _) ?_
  refine ⟨by simp [sized, D.cells], ?_⟩
  refine ⟨by first | rfl | decide | simp only [List.length_map, List.length_cons, List.length_nil, List.map_append, List.length_append], ?_⟩
  obtain ⟨hP, h⟩ := w_chk h
  refine ⟨by first | exact hP | (simp only [List.length_map, List.length_cons, List.length_nil] at hP ⊢; exact hP), ?_⟩
  refine w_nam (e' := List.map Token.toD (out ++ [(Token.mk k n s from_ at_)])) (by first | rfl | simp only [List.map_append, List.map_cons, List.map_nil, List.map_take, List.map_drop, List.map_set, List.map_replicate, List.length_map, Token.toD_eq]) ?_
  refine ⟨by first | rfl | decide | simp only [List.length_map, List.length_cons, List.length_nil, List.map_append, List.length_append], ?_⟩
  cases h; exact ⟨rfl, rfl⟩
def M_lex_reader_number_L7 : (i : I_lex_reader_number_L7) → R_lex_reader_number_L7 i → Prop
  | .lex_reader_number_L7 from_ s v v29 v30 text at_ out, r => Ok (c_lex_reader_number (Trip Try.prog) [.d (.int .i64 r.1)] [[.d (.str r.2.1), .d (.int .i64 r.2.2.1), .own 5 (List.map Token.toD r.2.2.2)]]) (kL Try.f33 7) ⟨49, [(0, .hp 0 0), (3, .d (.int .i64 from_)), (4, .d (.str s)), (5, .d (.int .u64 v)), (29, .d (.int .i64 v29)), (30, .d (.int .i64 v30))], [], [[.d (.str text), .d (.int .i64 at_), .own 5 (List.map Token.toD out)]], 0⟩
theorem G_lex_reader_number_L7 : ∀ i r, fixF F_lex_reader_number_L7 i = some r → M_lex_reader_number_L7 i r := by
  refine fixF_induct D_lex_reader_number_L7 fun g ih i => ?_
  cases i with
  | lex_reader_number_L7 from_ s v v29 v30 text at_ out =>
    have ih_lex_reader_number_L7 : ∀ (from_ : Int) (s : Str) (v : Int) (v29 : Int) (v30 : Int) (text : Str) (at_ : Int) (out : List Token) (r : Int × Str × Int × List Token), g (I_lex_reader_number_L7.lex_reader_number_L7 from_ s v v29 v30 text at_ out) = some r → Ok (c_lex_reader_number (Trip Try.prog) [.d (.int .i64 r.1)] [[.d (.str r.2.1), .d (.int .i64 r.2.2.1), .own 5 (List.map Token.toD r.2.2.2)]]) (kL Try.f33 7) ⟨49, [(0, .hp 0 0), (3, .d (.int .i64 from_)), (4, .d (.str s)), (5, .d (.int .u64 v)), (29, .d (.int .i64 v29)), (30, .d (.int .i64 v30))], [], [[.d (.str text), .d (.int .i64 at_), .own 5 (List.map Token.toD out)]], 0⟩ := fun from_ s v v29 v30 text at_ out r h => ih (.lex_reader_number_L7 from_ s v v29 v30 text at_ out) r h
    intro r h
    show Ok (c_lex_reader_number (Trip Try.prog) [.d (.int .i64 r.1)] [[.d (.str r.2.1), .d (.int .i64 r.2.2.1), .own 5 (List.map Token.toD r.2.2.2)]]) (kL Try.f33 7) ⟨49, [(0, .hp 0 0), (3, .d (.int .i64 from_)), (4, .d (.str s)), (5, .d (.int .u64 v)), (29, .d (.int .i64 v29)), (30, .d (.int .i64 v30))], [], [[.d (.str text), .d (.int .i64 at_), .own 5 (List.map Token.toD out)]], 0⟩
    replace h : lex_reader_number_L7_B (fun from_ s v v29 v30 text at_ out => g (I_lex_reader_number_L7.lex_reader_number_L7 from_ s v v29 v30 text at_ out)) from_ s v v29 v30 text at_ out = some r := h
    unfold lex_reader_number_L7_B at h
    refine ok_ev 1000 (e_lex_reader_number_L7 _ _ from_ s v v29 v30 text at_ out _ _) ?_
    rintro _ rfl
    refine w_condH decide_eq_true_iff h (fun hc8 h => ?_) (fun hc8 h => ?_)
    ·
      rintro _ rfl
      obtain ⟨c, hx, h⟩ := w_bind h
      refine ⟨w_ge hx, c, w_at hx, ?_⟩
      rintro _ rfl
      rintro _ rfl
      rintro _ rfl
      rintro _ rfl
      rintro _ rfl
      exact ih_lex_reader_number_L7 _ _ _ _ _ _ _ _ _ h
    ·
      rintro _ rfl
      refine w_condH decide_eq_true_iff h (fun hc9 h => ?_) (fun hc9 h => ?_)
      ·
        cases h; exact ⟨rfl, rfl⟩
      ·
        rintro _ rfl
        obtain ⟨q1, hq, h⟩ := w_bind h
        refine ⟨q1.1, q1.2.1, List.map Token.toD q1.2.2, T_lex_reader_put _ _ _ _ _ _ _ _ hq, ?_⟩
        cases h; exact ⟨rfl, rfl⟩
theorem T_lex_reader_number_L7 (from_ : Int) (s : Str) (v : Int) (v29 : Int) (v30 : Int) (text : Str) (at_ : Int) (out : List Token) (r : Int × Str × Int × List Token) (h : lex_reader_number_L7 from_ s v v29 v30 text at_ out = some r) : Ok (c_lex_reader_number (Trip Try.prog) [.d (.int .i64 r.1)] [[.d (.str r.2.1), .d (.int .i64 r.2.2.1), .own 5 (List.map Token.toD r.2.2.2)]]) (kL Try.f33 7) ⟨49, [(0, .hp 0 0), (3, .d (.int .i64 from_)), (4, .d (.str s)), (5, .d (.int .u64 v)), (29, .d (.int .i64 v29)), (30, .d (.int .i64 v30))], [], [[.d (.str text), .d (.int .i64 at_), .own 5 (List.map Token.toD out)]], 0⟩ := G_lex_reader_number_L7 (.lex_reader_number_L7 from_ s v v29 v30 text at_ out) r h
def M_lex_reader_run_reader_isDigit_L2 : (i : I_lex_reader_run_reader_isDigit_L2) → R_lex_reader_run_reader_isDigit_L2 i → Prop
  | .lex_reader_run_reader_isDigit_L2 from_ text at_ out, r => Ok (c_lex_reader_run_reader_isDigit (Trip Try.prog) [.d (.str r.1)] [[.d (.str r.2.1), .d (.int .i64 r.2.2.1), .own 5 (List.map Token.toD r.2.2.2)]]) (kL Try.f23 2) ⟨50, [(0, .hp 0 0), (1, .fn 32 [.hp 0 0] []), (5, .d (.int .i64 from_))], [], [[.d (.str text), .d (.int .i64 at_), .own 5 (List.map Token.toD out)]], 0⟩
theorem G_lex_reader_run_reader_isDigit_L2 : ∀ i r, fixF F_lex_reader_run_reader_isDigit_L2 i = some r → M_lex_reader_run_reader_isDigit_L2 i r := by
  refine fixF_induct D_lex_reader_run_reader_isDigit_L2 fun g ih i => ?_
  cases i with
  | lex_reader_run_reader_isDigit_L2 from_ text at_ out =>
    have ih_lex_reader_run_reader_isDigit_L2 : ∀ (from_ : Int) (text : Str) (at_ : Int) (out : List Token) (r : Str × Str × Int × List Token), g (I_lex_reader_run_reader_isDigit_L2.lex_reader_run_reader_isDigit_L2 from_ text at_ out) = some r → Ok (c_lex_reader_run_reader_isDigit (Trip Try.prog) [.d (.str r.1)] [[.d (.str r.2.1), .d (.int .i64 r.2.2.1), .own 5 (List.map Token.toD r.2.2.2)]]) (kL Try.f23 2) ⟨50, [(0, .hp 0 0), (1, .fn 32 [.hp 0 0] []), (5, .d (.int .i64 from_))], [], [[.d (.str text), .d (.int .i64 at_), .own 5 (List.map Token.toD out)]], 0⟩ := fun from_ text at_ out r h => ih (.lex_reader_run_reader_isDigit_L2 from_ text at_ out) r h
    intro r h
    show Ok (c_lex_reader_run_reader_isDigit (Trip Try.prog) [.d (.str r.1)] [[.d (.str r.2.1), .d (.int .i64 r.2.2.1), .own 5 (List.map Token.toD r.2.2.2)]]) (kL Try.f23 2) ⟨50, [(0, .hp 0 0), (1, .fn 32 [.hp 0 0] []), (5, .d (.int .i64 from_))], [], [[.d (.str text), .d (.int .i64 at_), .own 5 (List.map Token.toD out)]], 0⟩
    replace h : lex_reader_run_reader_isDigit_L2_B (fun from_ text at_ out => g (I_lex_reader_run_reader_isDigit_L2.lex_reader_run_reader_isDigit_L2 from_ text at_ out)) from_ text at_ out = some r := h
    unfold lex_reader_run_reader_isDigit_L2_B at h
    refine ok_ev 1000 (e_lex_reader_run_reader_isDigit_L2 _ _ from_ text at_ out _ _) ?_
    rintro _ rfl
    rintro _ rfl
    refine w_condH decide_eq_true_iff h (fun hc10 h => ?_) (fun hc10 h => ?_)
    ·
      obtain ⟨c, hx, h⟩ := w_bind h
      refine ⟨w_ge hx, c, w_at hx, ?_⟩
      rintro _ rfl
      obtain ⟨q1, hq, h⟩ := w_bind h
      refine ⟨q1.1, q1.2.1, q1.2.2.1, List.map Token.toD q1.2.2.2, T_lex_reader_isDigit _ _ _ _ _ hq, ?_⟩
      refine w_condH Iff.rfl h (fun hc11 h => ?_) (fun hc11 h => ?_)
      ·
        rintro _ rfl
        exact ih_lex_reader_run_reader_isDigit_L2 _ _ _ _ _ h
      ·
        obtain ⟨hP, h⟩ := w_chk h
        refine ⟨by first | exact hP | (simp only [List.length_map, List.length_cons, List.length_nil] at hP ⊢; exact hP), ?_⟩
        obtain ⟨hP, h⟩ := w_chk h
        refine ⟨by first | exact hP | (simp only [List.length_map, List.length_cons, List.length_nil] at hP ⊢; exact hP), ?_⟩
        obtain ⟨hP, h⟩ := w_chk h
        refine ⟨by first | exact hP | (simp only [List.length_map, List.length_cons, List.length_nil] at hP ⊢; exact hP), ?_⟩
        obtain ⟨hP, h⟩ := w_chk h
        refine ⟨by first | exact hP | (simp only [List.length_map, List.length_cons, List.length_nil] at hP ⊢; exact hP), ?_⟩
        rintro _ rfl
        cases h; exact ⟨rfl, rfl⟩
    ·
      obtain ⟨hP, h⟩ := w_chk h
      refine ⟨by first | exact hP | (simp only [List.length_map, List.length_cons, List.length_nil] at hP ⊢; exact hP), ?_⟩
      obtain ⟨hP, h⟩ := w_chk h
      refine ⟨by first | exact hP | (simp only [List.length_map, List.length_cons, List.length_nil] at hP ⊢; exact hP), ?_⟩
      obtain ⟨hP, h⟩ := w_chk h
      refine ⟨by first | exact hP | (simp only [List.length_map, List.length_cons, List.length_nil] at hP ⊢; exact hP), ?_⟩
      obtain ⟨hP, h⟩ := w_chk h
      refine ⟨by first | exact hP | (simp only [List.length_map, List.length_cons, List.length_nil] at hP ⊢; exact hP), ?_⟩
      rintro _ rfl
      cases h; exact ⟨rfl, rfl⟩
theorem T_lex_reader_run_reader_isDigit_L2 (from_ : Int) (text : Str) (at_ : Int) (out : List Token) (r : Str × Str × Int × List Token) (h : lex_reader_run_reader_isDigit_L2 from_ text at_ out = some r) : Ok (c_lex_reader_run_reader_isDigit (Trip Try.prog) [.d (.str r.1)] [[.d (.str r.2.1), .d (.int .i64 r.2.2.1), .own 5 (List.map Token.toD r.2.2.2)]]) (kL Try.f23 2) ⟨50, [(0, .hp 0 0), (1, .fn 32 [.hp 0 0] []), (5, .d (.int .i64 from_))], [], [[.d (.str text), .d (.int .i64 at_), .own 5 (List.map Token.toD out)]], 0⟩ := G_lex_reader_run_reader_isDigit_L2 (.lex_reader_run_reader_isDigit_L2 from_ text at_ out) r h
theorem T_lex_reader_run_reader_isDigit (text : Str) (at_ : Int) (out : List Token) (r : Str × Str × Int × List Token) (h : lex_reader_run_reader_isDigit text at_ out = some r) : Trip Try.prog 23 [.hp 0 0, .fn 32 [.hp 0 0] []] [[.d (.str text), .d (.int .i64 at_), .own 5 (List.map Token.toD out)]] [.d (.str r.1)] [[.d (.str r.2.1), .d (.int .i64 r.2.2.1), .own 5 (List.map Token.toD r.2.2.2)]] := by
  unfold lex_reader_run_reader_isDigit at h
  refine trip_ev 1000 (by kernel_rfl) (by kernel_rfl) (by kernel_rfl) (by kernel_rfl) (e_lex_reader_run_reader_isDigit _ _ text at_ out _ _) ?_
  exact T_lex_reader_run_reader_isDigit_L2 _ _ _ _ _ h
theorem T_lex_reader_number (text : Str) (at_ : Int) (out : List Token) (r : Int × Str × Int × List Token) (h : lex_reader_number text at_ out = some r) : Trip Try.prog 33 [.hp 0 0] [[.d (.str text), .d (.int .i64 at_), .own 5 (List.map Token.toD out)]] [.d (.int .i64 r.1)] [[.d (.str r.2.1), .d (.int .i64 r.2.2.1), .own 5 (List.map Token.toD r.2.2.2)]] := by
  unfold lex_reader_number at h
  refine trip_ev 1000 (by kernel_rfl) (by kernel_rfl) (by kernel_rfl) (by kernel_rfl) (e_lex_reader_number _ _ text at_ out _ _) ?_
  obtain ⟨q1, hq, h⟩ := w_bind h
  refine ⟨q1.1, q1.2.1, q1.2.2.1, List.map Token.toD q1.2.2.2, T_lex_reader_run_reader_isDigit _ _ _ _ hq, ?_⟩
  rintro _ rfl
  rintro _ rfl
  refine w_condH decide_eq_true_iff h (fun hc12 h => ?_) (fun hc12 h => ?_)
  ·
    cases h; exact ⟨rfl, rfl⟩
  ·
    rintro _ rfl
    rintro _ rfl
    refine w_condH decide_eq_true_iff h (fun hc13 h => ?_) (fun hc13 h => ?_)
    ·
      obtain ⟨c, hx, h⟩ := w_bind h
      refine ⟨w_ge hx, c, w_at hx, ?_⟩
      rintro _ rfl
      rintro _ rfl
      refine w_condH beq_iff_eq h (fun hc14 h => ?_) (fun hc14 h => ?_)
      ·
        cases h; exact ⟨rfl, rfl⟩
      ·
        rintro _ rfl
        exact T_lex_reader_number_L7 _ _ _ _ _ _ _ _ _ h
    ·
      rintro _ rfl
      exact T_lex_reader_number_L7 _ _ _ _ _ _ _ _ _ h
theorem T_lex_reader_peek (k : Int) (text : Str) (at_ : Int) (out : List Token) (r : Int × Str × Int × List Token) (h : lex_reader_peek k text at_ out = some r) : Trip Try.prog 29 [.hp 0 0, .d (.int .i64 k)] [[.d (.str text), .d (.int .i64 at_), .own 5 (List.map Token.toD out)]] [.d (.int .u8 r.1)] [[.d (.str r.2.1), .d (.int .i64 r.2.2.1), .own 5 (List.map Token.toD r.2.2.2)]] := by
  unfold lex_reader_peek at h
  refine trip_ev 1000 (by kernel_rfl) (by kernel_rfl) (by kernel_rfl) (by kernel_rfl) (e_lex_reader_peek _ _ k text at_ out _ _) ?_
  rintro _ rfl
  rintro _ rfl
  rintro _ rfl
  refine w_condH decide_eq_true_iff h (fun hc15 h => ?_) (fun hc15 h => ?_)
  ·
    rintro _ rfl
    obtain ⟨c, hx, h⟩ := w_bind h
    refine ⟨w_ge hx, c, w_at hx, ?_⟩
    rintro _ rfl
    cases h; exact ⟨rfl, rfl⟩
  ·
    cases h; exact ⟨rfl, rfl⟩
theorem T_lex_isWord (s : Str) (r : Bool) (h : lex_isWord s = some r) : Trip Try.prog 21 [.d (.str s)] [] [.d (.bool r)] [] := by
  unfold lex_isWord at h
  refine trip_ev 1000 (by kernel_rfl) (by kernel_rfl) (by kernel_rfl) (by kernel_rfl) (e_lex_isWord _ _ s _ _) ?_
  rintro _ rfl
  refine w_condH beq_iff_eq h (fun hc16 h => ?_) (fun hc16 h => ?_)
  ·
    refine w_condT beq_iff_eq hc16 ?_
    cases h; exact ⟨rfl, rfl⟩
  ·
    rintro _ rfl
    refine w_condH beq_iff_eq h (fun hc17 h => ?_) (fun hc17 h => ?_)
    ·
      refine w_condT beq_iff_eq hc17 ?_
      cases h; exact ⟨rfl, rfl⟩
    ·
      rintro _ rfl
      refine w_condH beq_iff_eq h (fun hc18 h => ?_) (fun hc18 h => ?_)
      ·
        refine w_condT beq_iff_eq hc18 ?_
        cases h; exact ⟨rfl, rfl⟩
      ·
        rintro _ rfl
        refine w_condH beq_iff_eq h (fun hc19 h => ?_) (fun hc19 h => ?_)
        ·
          refine w_condT beq_iff_eq hc19 ?_
          cases h; exact ⟨rfl, rfl⟩
        ·
          rintro _ rfl
          refine w_condH beq_iff_eq h (fun hc20 h => ?_) (fun hc20 h => ?_)
          ·
            refine w_condT beq_iff_eq hc20 ?_
            cases h; exact ⟨rfl, rfl⟩
          ·
            rintro _ rfl
            refine w_condH beq_iff_eq h (fun hc21 h => ?_) (fun hc21 h => ?_)
            ·
              refine w_condT beq_iff_eq hc21 ?_
              cases h; exact ⟨rfl, rfl⟩
            ·
              rintro _ rfl
              refine w_condH beq_iff_eq h (fun hc22 h => ?_) (fun hc22 h => ?_)
              ·
                refine w_condT beq_iff_eq hc22 ?_
                cases h; exact ⟨rfl, rfl⟩
              ·
                rintro _ rfl
                refine w_condH beq_iff_eq h (fun hc23 h => ?_) (fun hc23 h => ?_)
                ·
                  refine w_condT beq_iff_eq hc23 ?_
                  cases h; exact ⟨rfl, rfl⟩
                ·
                  rintro _ rfl
                  refine w_condH beq_iff_eq h (fun hc24 h => ?_) (fun hc24 h => ?_)
                  ·
                    refine w_condT beq_iff_eq hc24 ?_
                    cases h; exact ⟨rfl, rfl⟩
                  ·
                    rintro _ rfl
                    refine w_condH beq_iff_eq h (fun hc25 h => ?_) (fun hc25 h => ?_)
                    ·
                      refine w_condT beq_iff_eq hc25 ?_
                      cases h; exact ⟨rfl, rfl⟩
                    ·
                      rintro _ rfl
                      refine w_condH beq_iff_eq h (fun hc26 h => ?_) (fun hc26 h => ?_)
                      ·
                        refine w_condT beq_iff_eq hc26 ?_
                        cases h; exact ⟨rfl, rfl⟩
                      ·
                        rintro _ rfl
                        refine w_condH beq_iff_eq h (fun hc27 h => ?_) (fun hc27 h => ?_)
                        ·
                          refine w_condT beq_iff_eq hc27 ?_
                          cases h; exact ⟨rfl, rfl⟩
                        ·
                          rintro _ rfl
                          refine w_condH beq_iff_eq h (fun hc28 h => ?_) (fun hc28 h => ?_)
                          ·
                            refine w_condT beq_iff_eq hc28 ?_
                            cases h; exact ⟨rfl, rfl⟩
                          ·
                            rintro _ rfl
                            refine w_condH beq_iff_eq h (fun hc29 h => ?_) (fun hc29 h => ?_)
                            ·
                              refine w_condT beq_iff_eq hc29 ?_
                              cases h; exact ⟨rfl, rfl⟩
                            ·
                              rintro _ rfl
                              refine w_condH beq_iff_eq h (fun hc30 h => ?_) (fun hc30 h => ?_)
                              ·
                                refine w_condT beq_iff_eq hc30 ?_
                                cases h; exact ⟨rfl, rfl⟩
                              ·
                                rintro _ rfl
                                refine w_condH beq_iff_eq h (fun hc31 h => ?_) (fun hc31 h => ?_)
                                ·
                                  refine w_condT beq_iff_eq hc31 ?_
                                  cases h; exact ⟨rfl, rfl⟩
                                ·
                                  rintro _ rfl
                                  refine w_condH beq_iff_eq h (fun hc32 h => ?_) (fun hc32 h => ?_)
                                  ·
                                    refine w_condT beq_iff_eq hc32 ?_
                                    cases h; exact ⟨rfl, rfl⟩
                                  ·
                                    rintro _ rfl
                                    refine w_condH beq_iff_eq h (fun hc33 h => ?_) (fun hc33 h => ?_)
                                    ·
                                      refine w_condT beq_iff_eq hc33 ?_
                                      cases h; exact ⟨rfl, rfl⟩
                                    ·
                                      rintro _ rfl
                                      refine w_condH beq_iff_eq h (fun hc34 h => ?_) (fun hc34 h => ?_)
                                      ·
                                        refine w_condT beq_iff_eq hc34 ?_
                                        cases h; exact ⟨rfl, rfl⟩
                                      ·
                                        rintro _ rfl
                                        refine w_condH beq_iff_eq h (fun hc35 h => ?_) (fun hc35 h => ?_)
                                        ·
                                          cases h; exact ⟨rfl, rfl⟩
                                        ·
                                          cases h; exact ⟨rfl, rfl⟩
theorem T_lex_reader_isMore (c : Int) (text : Str) (at_ : Int) (out : List Token) (r : Bool × Str × Int × List Token) (h : lex_reader_isMore c text at_ out = some r) : Trip Try.prog 24 [.hp 0 0, .d (.int .u8 c)] [[.d (.str text), .d (.int .i64 at_), .own 5 (List.map Token.toD out)]] [.d (.bool r.1)] [[.d (.str r.2.1), .d (.int .i64 r.2.2.1), .own 5 (List.map Token.toD r.2.2.2)]] := by
  unfold lex_reader_isMore at h
  refine trip_ev 1000 (by kernel_rfl) (by kernel_rfl) (by kernel_rfl) (by kernel_rfl) (e_lex_reader_isMore _ _ c text at_ out _ _) ?_
  obtain ⟨q1, hq, h⟩ := w_bind h
  refine ⟨q1.1, q1.2.1, q1.2.2.1, List.map Token.toD q1.2.2.2, T_lex_reader_isLetter _ _ _ _ _ hq, ?_⟩
  refine w_condH Iff.rfl h (fun hc36 h => ?_) (fun hc36 h => ?_)
  ·
    cases h; exact ⟨rfl, rfl⟩
  ·
    obtain ⟨q2, hq, h⟩ := w_bind h
    refine ⟨q2.1, q2.2.1, q2.2.2.1, List.map Token.toD q2.2.2.2, T_lex_reader_isDigit _ _ _ _ _ hq, ?_⟩
    cases h; exact ⟨rfl, rfl⟩
def M_lex_reader_run_reader_isMore_L2 : (i : I_lex_reader_run_reader_isMore_L2) → R_lex_reader_run_reader_isMore_L2 i → Prop
  | .lex_reader_run_reader_isMore_L2 from_ text at_ out, r => Ok (c_lex_reader_run_reader_isMore (Trip Try.prog) [.d (.str r.1)] [[.d (.str r.2.1), .d (.int .i64 r.2.2.1), .own 5 (List.map Token.toD r.2.2.2)]]) (kL Try.f23 2) ⟨50, [(0, .hp 0 0), (1, .fn 24 [.hp 0 0] []), (5, .d (.int .i64 from_))], [], [[.d (.str text), .d (.int .i64 at_), .own 5 (List.map Token.toD out)]], 0⟩
theorem G_lex_reader_run_reader_isMore_L2 : ∀ i r, fixF F_lex_reader_run_reader_isMore_L2 i = some r → M_lex_reader_run_reader_isMore_L2 i r := by
  refine fixF_induct D_lex_reader_run_reader_isMore_L2 fun g ih i => ?_
  cases i with
  | lex_reader_run_reader_isMore_L2 from_ text at_ out =>
    have ih_lex_reader_run_reader_isMore_L2 : ∀ (from_ : Int) (text : Str) (at_ : Int) (out : List Token) (r : Str × Str × Int × List Token), g (I_lex_reader_run_reader_isMore_L2.lex_reader_run_reader_isMore_L2 from_ text at_ out) = some r → Ok (c_lex_reader_run_reader_isMore (Trip Try.prog) [.d (.str r.1)] [[.d (.str r.2.1), .d (.int .i64 r.2.2.1), .own 5 (List.map Token.toD r.2.2.2)]]) (kL Try.f23 2) ⟨50, [(0, .hp 0 0), (1, .fn 24 [.hp 0 0] []), (5, .d (.int .i64 from_))], [], [[.d (.str text), .d (.int .i64 at_), .own 5 (List.map Token.toD out)]], 0⟩ := fun from_ text at_ out r h => ih (.lex_reader_run_reader_isMore_L2 from_ text at_ out) r h
    intro r h
    show Ok (c_lex_reader_run_reader_isMore (Trip Try.prog) [.d (.str r.1)] [[.d (.str r.2.1), .d (.int .i64 r.2.2.1), .own 5 (List.map Token.toD r.2.2.2)]]) (kL Try.f23 2) ⟨50, [(0, .hp 0 0), (1, .fn 24 [.hp 0 0] []), (5, .d (.int .i64 from_))], [], [[.d (.str text), .d (.int .i64 at_), .own 5 (List.map Token.toD out)]], 0⟩
    replace h : lex_reader_run_reader_isMore_L2_B (fun from_ text at_ out => g (I_lex_reader_run_reader_isMore_L2.lex_reader_run_reader_isMore_L2 from_ text at_ out)) from_ text at_ out = some r := h
    unfold lex_reader_run_reader_isMore_L2_B at h
    refine ok_ev 1000 (e_lex_reader_run_reader_isMore_L2 _ _ from_ text at_ out _ _) ?_
    rintro _ rfl
    rintro _ rfl
    refine w_condH decide_eq_true_iff h (fun hc37 h => ?_) (fun hc37 h => ?_)
    ·
      obtain ⟨c, hx, h⟩ := w_bind h
      refine ⟨w_ge hx, c, w_at hx, ?_⟩
      rintro _ rfl
      obtain ⟨q1, hq, h⟩ := w_bind h
      refine ⟨q1.1, q1.2.1, q1.2.2.1, List.map Token.toD q1.2.2.2, T_lex_reader_isMore _ _ _ _ _ hq, ?_⟩
      refine w_condH Iff.rfl h (fun hc38 h => ?_) (fun hc38 h => ?_)
      ·
        rintro _ rfl
        exact ih_lex_reader_run_reader_isMore_L2 _ _ _ _ _ h
      ·
        obtain ⟨hP, h⟩ := w_chk h
        refine ⟨by first | exact hP | (simp only [List.length_map, List.length_cons, List.length_nil] at hP ⊢; exact hP), ?_⟩
        obtain ⟨hP, h⟩ := w_chk h
        refine ⟨by first | exact hP | (simp only [List.length_map, List.length_cons, List.length_nil] at hP ⊢; exact hP), ?_⟩
        obtain ⟨hP, h⟩ := w_chk h
        refine ⟨by first | exact hP | (simp only [List.length_map, List.length_cons, List.length_nil] at hP ⊢; exact hP), ?_⟩
        obtain ⟨hP, h⟩ := w_chk h
        refine ⟨by first | exact hP | (simp only [List.length_map, List.length_cons, List.length_nil] at hP ⊢; exact hP), ?_⟩
        rintro _ rfl
        cases h; exact ⟨rfl, rfl⟩
    ·
      obtain ⟨hP, h⟩ := w_chk h
      refine ⟨by first | exact hP | (simp only [List.length_map, List.length_cons, List.length_nil] at hP ⊢; exact hP), ?_⟩
      obtain ⟨hP, h⟩ := w_chk h
      refine ⟨by first | exact hP | (simp only [List.length_map, List.length_cons, List.length_nil] at hP ⊢; exact hP), ?_⟩
      obtain ⟨hP, h⟩ := w_chk h
      refine ⟨by first | exact hP | (simp only [List.length_map, List.length_cons, List.length_nil] at hP ⊢; exact hP), ?_⟩
      obtain ⟨hP, h⟩ := w_chk h
      refine ⟨by first | exact hP | (simp only [List.length_map, List.length_cons, List.length_nil] at hP ⊢; exact hP), ?_⟩
      rintro _ rfl
      cases h; exact ⟨rfl, rfl⟩
theorem T_lex_reader_run_reader_isMore_L2 (from_ : Int) (text : Str) (at_ : Int) (out : List Token) (r : Str × Str × Int × List Token) (h : lex_reader_run_reader_isMore_L2 from_ text at_ out = some r) : Ok (c_lex_reader_run_reader_isMore (Trip Try.prog) [.d (.str r.1)] [[.d (.str r.2.1), .d (.int .i64 r.2.2.1), .own 5 (List.map Token.toD r.2.2.2)]]) (kL Try.f23 2) ⟨50, [(0, .hp 0 0), (1, .fn 24 [.hp 0 0] []), (5, .d (.int .i64 from_))], [], [[.d (.str text), .d (.int .i64 at_), .own 5 (List.map Token.toD out)]], 0⟩ := G_lex_reader_run_reader_isMore_L2 (.lex_reader_run_reader_isMore_L2 from_ text at_ out) r h
theorem T_lex_reader_run_reader_isMore (text : Str) (at_ : Int) (out : List Token) (r : Str × Str × Int × List Token) (h : lex_reader_run_reader_isMore text at_ out = some r) : Trip Try.prog 23 [.hp 0 0, .fn 24 [.hp 0 0] []] [[.d (.str text), .d (.int .i64 at_), .own 5 (List.map Token.toD out)]] [.d (.str r.1)] [[.d (.str r.2.1), .d (.int .i64 r.2.2.1), .own 5 (List.map Token.toD r.2.2.2)]] := by
  unfold lex_reader_run_reader_isMore at h
  refine trip_ev 1000 (by kernel_rfl) (by kernel_rfl) (by kernel_rfl) (by kernel_rfl) (e_lex_reader_run_reader_isMore _ _ text at_ out _ _) ?_
  exact T_lex_reader_run_reader_isMore_L2 _ _ _ _ _ h
theorem T_lex_reader_word (text : Str) (at_ : Int) (out : List Token) (r : Int × Str × Int × List Token) (h : lex_reader_word text at_ out = some r) : Trip Try.prog 31 [.hp 0 0] [[.d (.str text), .d (.int .i64 at_), .own 5 (List.map Token.toD out)]] [.d (.int .i64 r.1)] [[.d (.str r.2.1), .d (.int .i64 r.2.2.1), .own 5 (List.map Token.toD r.2.2.2)]] := by
  unfold lex_reader_word at h
  refine trip_ev 1000 (by kernel_rfl) (by kernel_rfl) (by kernel_rfl) (by kernel_rfl) (e_lex_reader_word _ _ text at_ out _ _) ?_
  obtain ⟨q1, hq, h⟩ := w_bind h
  refine ⟨q1.1, q1.2.1, q1.2.2.1, List.map Token.toD q1.2.2.2, T_lex_reader_run_reader_isMore _ _ _ _ hq, ?_⟩
  rintro _ rfl
  rintro _ rfl
  refine w_condH decide_eq_true_iff h (fun hc39 h => ?_) (fun hc39 h => ?_)
  ·
    cases h; exact ⟨rfl, rfl⟩
  ·
    obtain ⟨q2, hq, h⟩ := w_bind h
    refine ⟨q2, ⟨_, T_lex_isWord _ _ hq⟩, ?_⟩
    refine w_condH Iff.rfl h (fun hc40 h => ?_) (fun hc40 h => ?_)
    ·
      obtain ⟨q3, hq, h⟩ := w_bind h
      refine ⟨q3.1, q3.2.1, List.map Token.toD q3.2.2, T_lex_reader_put _ _ _ _ _ _ _ _ hq, ?_⟩
      cases h; exact ⟨rfl, rfl⟩
    ·
      obtain ⟨q4, hq, h⟩ := w_bind h
      refine ⟨q4.1, q4.2.1, List.map Token.toD q4.2.2, T_lex_reader_put _ _ _ _ _ _ _ _ hq, ?_⟩
      cases h; exact ⟨rfl, rfl⟩
theorem T_lex_signAt (c : Int) (d : Int) (r : Int) (h : lex_signAt c d = some r) : Trip Try.prog 34 [.d (.int .u8 c), .d (.int .u8 d)] [] [.d (.int .i64 r)] [] := by
  unfold lex_signAt at h
  refine trip_ev 1000 (by kernel_rfl) (by kernel_rfl) (by kernel_rfl) (by kernel_rfl) (e_lex_signAt _ _ c d _ _) ?_
  rintro _ rfl
  refine w_condH beq_iff_eq h (fun hc41 h => ?_) (fun hc41 h => ?_)
  ·
    refine w_condT beq_iff_eq hc41 ?_
    rintro _ rfl
    refine w_condH beq_iff_eq h (fun hc42 h => ?_) (fun hc42 h => ?_)
    ·
      cases h; exact ⟨rfl, rfl⟩
    ·
      cases h; exact ⟨rfl, rfl⟩
  ·
    rintro _ rfl
    refine w_condH beq_iff_eq h (fun hc43 h => ?_) (fun hc43 h => ?_)
    ·
      refine w_condT beq_iff_eq hc43 ?_
      rintro _ rfl
      refine w_condH beq_iff_eq h (fun hc44 h => ?_) (fun hc44 h => ?_)
      ·
        cases h; exact ⟨rfl, rfl⟩
      ·
        cases h; exact ⟨rfl, rfl⟩
    ·
      rintro _ rfl
      refine w_condH beq_iff_eq h (fun hc45 h => ?_) (fun hc45 h => ?_)
      ·
        refine w_condT beq_iff_eq hc45 ?_
        rintro _ rfl
        refine w_condH beq_iff_eq h (fun hc46 h => ?_) (fun hc46 h => ?_)
        ·
          cases h; exact ⟨rfl, rfl⟩
        ·
          cases h; exact ⟨rfl, rfl⟩
      ·
        rintro _ rfl
        refine w_condH beq_iff_eq h (fun hc47 h => ?_) (fun hc47 h => ?_)
        ·
          rintro _ rfl
          refine w_condH beq_iff_eq h (fun hc48 h => ?_) (fun hc48 h => ?_)
          ·
            cases h; exact ⟨rfl, rfl⟩
          ·
            cases h; exact ⟨rfl, rfl⟩
        ·
          rintro _ rfl
          refine w_condH beq_iff_eq h (fun hc49 h => ?_) (fun hc49 h => ?_)
          ·
            refine w_condT beq_iff_eq hc49 ?_
            rintro _ rfl
            refine w_condH beq_iff_eq h (fun hc50 h => ?_) (fun hc50 h => ?_)
            ·
              cases h; exact ⟨rfl, rfl⟩
            ·
              cases h; exact ⟨rfl, rfl⟩
          ·
            rintro _ rfl
            refine w_condH beq_iff_eq h (fun hc51 h => ?_) (fun hc51 h => ?_)
            ·
              rintro _ rfl
              refine w_condH beq_iff_eq h (fun hc52 h => ?_) (fun hc52 h => ?_)
              ·
                cases h; exact ⟨rfl, rfl⟩
              ·
                cases h; exact ⟨rfl, rfl⟩
            ·
              rintro _ rfl
              refine w_condH beq_iff_eq h (fun hc53 h => ?_) (fun hc53 h => ?_)
              ·
                refine w_condT beq_iff_eq hc53 ?_
                cases h; exact ⟨rfl, rfl⟩
              ·
                rintro _ rfl
                refine w_condH beq_iff_eq h (fun hc54 h => ?_) (fun hc54 h => ?_)
                ·
                  refine w_condT beq_iff_eq hc54 ?_
                  cases h; exact ⟨rfl, rfl⟩
                ·
                  rintro _ rfl
                  refine w_condH beq_iff_eq h (fun hc55 h => ?_) (fun hc55 h => ?_)
                  ·
                    refine w_condT beq_iff_eq hc55 ?_
                    cases h; exact ⟨rfl, rfl⟩
                  ·
                    rintro _ rfl
                    refine w_condH beq_iff_eq h (fun hc56 h => ?_) (fun hc56 h => ?_)
                    ·
                      refine w_condT beq_iff_eq hc56 ?_
                      cases h; exact ⟨rfl, rfl⟩
                    ·
                      rintro _ rfl
                      refine w_condH beq_iff_eq h (fun hc57 h => ?_) (fun hc57 h => ?_)
                      ·
                        refine w_condT beq_iff_eq hc57 ?_
                        cases h; exact ⟨rfl, rfl⟩
                      ·
                        rintro _ rfl
                        refine w_condH beq_iff_eq h (fun hc58 h => ?_) (fun hc58 h => ?_)
                        ·
                          refine w_condT beq_iff_eq hc58 ?_
                          cases h; exact ⟨rfl, rfl⟩
                        ·
                          rintro _ rfl
                          refine w_condH beq_iff_eq h (fun hc59 h => ?_) (fun hc59 h => ?_)
                          ·
                            refine w_condT beq_iff_eq hc59 ?_
                            cases h; exact ⟨rfl, rfl⟩
                          ·
                            rintro _ rfl
                            refine w_condH beq_iff_eq h (fun hc60 h => ?_) (fun hc60 h => ?_)
                            ·
                              refine w_condT beq_iff_eq hc60 ?_
                              cases h; exact ⟨rfl, rfl⟩
                            ·
                              rintro _ rfl
                              refine w_condH beq_iff_eq h (fun hc61 h => ?_) (fun hc61 h => ?_)
                              ·
                                refine w_condT beq_iff_eq hc61 ?_
                                cases h; exact ⟨rfl, rfl⟩
                              ·
                                rintro _ rfl
                                refine w_condH beq_iff_eq h (fun hc62 h => ?_) (fun hc62 h => ?_)
                                ·
                                  refine w_condT beq_iff_eq hc62 ?_
                                  cases h; exact ⟨rfl, rfl⟩
                                ·
                                  rintro _ rfl
                                  refine w_condH beq_iff_eq h (fun hc63 h => ?_) (fun hc63 h => ?_)
                                  ·
                                    refine w_condT beq_iff_eq hc63 ?_
                                    cases h; exact ⟨rfl, rfl⟩
                                  ·
                                    rintro _ rfl
                                    refine w_condH beq_iff_eq h (fun hc64 h => ?_) (fun hc64 h => ?_)
                                    ·
                                      refine w_condT beq_iff_eq hc64 ?_
                                      cases h; exact ⟨rfl, rfl⟩
                                    ·
                                      rintro _ rfl
                                      refine w_condH beq_iff_eq h (fun hc65 h => ?_) (fun hc65 h => ?_)
                                      ·
                                        refine w_condT beq_iff_eq hc65 ?_
                                        cases h; exact ⟨rfl, rfl⟩
                                      ·
                                        rintro _ rfl
                                        refine w_condH beq_iff_eq h (fun hc66 h => ?_) (fun hc66 h => ?_)
                                        ·
                                          refine w_condT beq_iff_eq hc66 ?_
                                          cases h; exact ⟨rfl, rfl⟩
                                        ·
                                          rintro _ rfl
                                          refine w_condH beq_iff_eq h (fun hc67 h => ?_) (fun hc67 h => ?_)
                                          ·
                                            refine w_condT beq_iff_eq hc67 ?_
                                            cases h; exact ⟨rfl, rfl⟩
                                          ·
                                            rintro _ rfl
                                            refine w_condH beq_iff_eq h (fun hc68 h => ?_) (fun hc68 h => ?_)
                                            ·
                                              cases h; exact ⟨rfl, rfl⟩
                                            ·
                                              cases h; exact ⟨rfl, rfl⟩
theorem T_lex_reader_one (text : Str) (at_ : Int) (out : List Token) (r : Int × Str × Int × List Token) (h : lex_reader_one text at_ out = some r) : Trip Try.prog 17 [.hp 0 0] [[.d (.str text), .d (.int .i64 at_), .own 5 (List.map Token.toD out)]] [.d (.int .i64 r.1)] [[.d (.str r.2.1), .d (.int .i64 r.2.2.1), .own 5 (List.map Token.toD r.2.2.2)]] := by
  unfold lex_reader_one at h
  refine trip_ev 1000 (by kernel_rfl) (by kernel_rfl) (by kernel_rfl) (by kernel_rfl) (e_lex_reader_one _ _ text at_ out _ _) ?_
  obtain ⟨c, hx, h⟩ := w_bind h
  refine ⟨w_ge hx, c, w_at hx, ?_⟩
  rintro _ rfl
  obtain ⟨q1, hq, h⟩ := w_bind h
  refine ⟨q1.1, q1.2.1, q1.2.2.1, List.map Token.toD q1.2.2.2, T_lex_reader_isLetter _ _ _ _ _ hq, ?_⟩
  refine w_condH Iff.rfl h (fun hc69 h => ?_) (fun hc69 h => ?_)
  ·
    obtain ⟨q2, hq, h⟩ := w_bind h
    refine ⟨q2.1, q2.2.1, q2.2.2.1, List.map Token.toD q2.2.2.2, T_lex_reader_word _ _ _ _ hq, ?_⟩
    cases h; exact ⟨rfl, rfl⟩
  ·
    obtain ⟨q3, hq, h⟩ := w_bind h
    refine ⟨q3.1, q3.2.1, q3.2.2.1, List.map Token.toD q3.2.2.2, T_lex_reader_isDigit _ _ _ _ _ hq, ?_⟩
    refine w_condH Iff.rfl h (fun hc70 h => ?_) (fun hc70 h => ?_)
    ·
      obtain ⟨q4, hq, h⟩ := w_bind h
      refine ⟨q4.1, q4.2.1, q4.2.2.1, List.map Token.toD q4.2.2.2, T_lex_reader_number _ _ _ _ hq, ?_⟩
      cases h; exact ⟨rfl, rfl⟩
    ·
      obtain ⟨q5, hq, h⟩ := w_bind h
      refine ⟨q5.1, q5.2.1, q5.2.2.1, List.map Token.toD q5.2.2.2, T_lex_reader_peek _ _ _ _ _ hq, ?_⟩
      obtain ⟨q6, hq, h⟩ := w_bind h
      refine ⟨q6, ⟨_, T_lex_signAt _ _ _ hq⟩, ?_⟩
      rintro _ rfl
      refine w_condH beq_iff_eq h (fun hc71 h => ?_) (fun hc71 h => ?_)
      ·
        cases h; exact ⟨rfl, rfl⟩
      ·
        rintro _ rfl
        obtain ⟨hP, h⟩ := w_chk h
        refine ⟨by first | exact hP | (simp only [List.length_map, List.length_cons, List.length_nil] at hP ⊢; exact hP), ?_⟩
        obtain ⟨hP, h⟩ := w_chk h
        refine ⟨by first | exact hP | (simp only [List.length_map, List.length_cons, List.length_nil] at hP ⊢; exact hP), ?_⟩
        obtain ⟨hP, h⟩ := w_chk h
        refine ⟨by first | exact hP | (simp only [List.length_map, List.length_cons, List.length_nil] at hP ⊢; exact hP), ?_⟩
        obtain ⟨hP, h⟩ := w_chk h
        refine ⟨by first | exact hP | (simp only [List.length_map, List.length_cons, List.length_nil] at hP ⊢; exact hP), ?_⟩
        rintro _ rfl
        obtain ⟨q7, hq, h⟩ := w_bind h
        refine ⟨q7.1, q7.2.1, List.map Token.toD q7.2.2, T_lex_reader_put _ _ _ _ _ _ _ _ hq, ?_⟩
        cases h; exact ⟨rfl, rfl⟩
theorem T_lex_reader_isLine (c : Int) (text : Str) (at_ : Int) (out : List Token) (r : Bool × Str × Int × List Token) (h : lex_reader_isLine c text at_ out = some r) : Trip Try.prog 30 [.hp 0 0, .d (.int .u8 c)] [[.d (.str text), .d (.int .i64 at_), .own 5 (List.map Token.toD out)]] [.d (.bool r.1)] [[.d (.str r.2.1), .d (.int .i64 r.2.2.1), .own 5 (List.map Token.toD r.2.2.2)]] := by
  unfold lex_reader_isLine at h
  refine trip_ev 1000 (by kernel_rfl) (by kernel_rfl) (by kernel_rfl) (by kernel_rfl) (e_lex_reader_isLine _ _ c text at_ out _ _) ?_
  rintro _ rfl
  cases h; exact ⟨rfl, rfl⟩
def M_lex_reader_run_reader_isLine_L2 : (i : I_lex_reader_run_reader_isLine_L2) → R_lex_reader_run_reader_isLine_L2 i → Prop
  | .lex_reader_run_reader_isLine_L2 from_ text at_ out, r => Ok (c_lex_reader_run_reader_isLine (Trip Try.prog) [.d (.str r.1)] [[.d (.str r.2.1), .d (.int .i64 r.2.2.1), .own 5 (List.map Token.toD r.2.2.2)]]) (kL Try.f23 2) ⟨50, [(0, .hp 0 0), (1, .fn 30 [.hp 0 0] []), (5, .d (.int .i64 from_))], [], [[.d (.str text), .d (.int .i64 at_), .own 5 (List.map Token.toD out)]], 0⟩
theorem G_lex_reader_run_reader_isLine_L2 : ∀ i r, fixF F_lex_reader_run_reader_isLine_L2 i = some r → M_lex_reader_run_reader_isLine_L2 i r := by
  refine fixF_induct D_lex_reader_run_reader_isLine_L2 fun g ih i => ?_
  cases i with
  | lex_reader_run_reader_isLine_L2 from_ text at_ out =>
    have ih_lex_reader_run_reader_isLine_L2 : ∀ (from_ : Int) (text : Str) (at_ : Int) (out : List Token) (r : Str × Str × Int × List Token), g (I_lex_reader_run_reader_isLine_L2.lex_reader_run_reader_isLine_L2 from_ text at_ out) = some r → Ok (c_lex_reader_run_reader_isLine (Trip Try.prog) [.d (.str r.1)] [[.d (.str r.2.1), .d (.int .i64 r.2.2.1), .own 5 (List.map Token.toD r.2.2.2)]]) (kL Try.f23 2) ⟨50, [(0, .hp 0 0), (1, .fn 30 [.hp 0 0] []), (5, .d (.int .i64 from_))], [], [[.d (.str text), .d (.int .i64 at_), .own 5 (List.map Token.toD out)]], 0⟩ := fun from_ text at_ out r h => ih (.lex_reader_run_reader_isLine_L2 from_ text at_ out) r h
    intro r h
    show Ok (c_lex_reader_run_reader_isLine (Trip Try.prog) [.d (.str r.1)] [[.d (.str r.2.1), .d (.int .i64 r.2.2.1), .own 5 (List.map Token.toD r.2.2.2)]]) (kL Try.f23 2) ⟨50, [(0, .hp 0 0), (1, .fn 30 [.hp 0 0] []), (5, .d (.int .i64 from_))], [], [[.d (.str text), .d (.int .i64 at_), .own 5 (List.map Token.toD out)]], 0⟩
    replace h : lex_reader_run_reader_isLine_L2_B (fun from_ text at_ out => g (I_lex_reader_run_reader_isLine_L2.lex_reader_run_reader_isLine_L2 from_ text at_ out)) from_ text at_ out = some r := h
    unfold lex_reader_run_reader_isLine_L2_B at h
    refine ok_ev 1000 (e_lex_reader_run_reader_isLine_L2 _ _ from_ text at_ out _ _) ?_
    rintro _ rfl
    rintro _ rfl
    refine w_condH decide_eq_true_iff h (fun hc72 h => ?_) (fun hc72 h => ?_)
    ·
      obtain ⟨c, hx, h⟩ := w_bind h
      refine ⟨w_ge hx, c, w_at hx, ?_⟩
      rintro _ rfl
      obtain ⟨q1, hq, h⟩ := w_bind h
      refine ⟨q1.1, q1.2.1, q1.2.2.1, List.map Token.toD q1.2.2.2, T_lex_reader_isLine _ _ _ _ _ hq, ?_⟩
      refine w_condH Iff.rfl h (fun hc73 h => ?_) (fun hc73 h => ?_)
      ·
        rintro _ rfl
        exact ih_lex_reader_run_reader_isLine_L2 _ _ _ _ _ h
      ·
        obtain ⟨hP, h⟩ := w_chk h
        refine ⟨by first | exact hP | (simp only [List.length_map, List.length_cons, List.length_nil] at hP ⊢; exact hP), ?_⟩
        obtain ⟨hP, h⟩ := w_chk h
        refine ⟨by first | exact hP | (simp only [List.length_map, List.length_cons, List.length_nil] at hP ⊢; exact hP), ?_⟩
        obtain ⟨hP, h⟩ := w_chk h
        refine ⟨by first | exact hP | (simp only [List.length_map, List.length_cons, List.length_nil] at hP ⊢; exact hP), ?_⟩
        obtain ⟨hP, h⟩ := w_chk h
        refine ⟨by first | exact hP | (simp only [List.length_map, List.length_cons, List.length_nil] at hP ⊢; exact hP), ?_⟩
        rintro _ rfl
        cases h; exact ⟨rfl, rfl⟩
    ·
      obtain ⟨hP, h⟩ := w_chk h
      refine ⟨by first | exact hP | (simp only [List.length_map, List.length_cons, List.length_nil] at hP ⊢; exact hP), ?_⟩
      obtain ⟨hP, h⟩ := w_chk h
      refine ⟨by first | exact hP | (simp only [List.length_map, List.length_cons, List.length_nil] at hP ⊢; exact hP), ?_⟩
      obtain ⟨hP, h⟩ := w_chk h
      refine ⟨by first | exact hP | (simp only [List.length_map, List.length_cons, List.length_nil] at hP ⊢; exact hP), ?_⟩
      obtain ⟨hP, h⟩ := w_chk h
      refine ⟨by first | exact hP | (simp only [List.length_map, List.length_cons, List.length_nil] at hP ⊢; exact hP), ?_⟩
      rintro _ rfl
      cases h; exact ⟨rfl, rfl⟩
theorem T_lex_reader_run_reader_isLine_L2 (from_ : Int) (text : Str) (at_ : Int) (out : List Token) (r : Str × Str × Int × List Token) (h : lex_reader_run_reader_isLine_L2 from_ text at_ out = some r) : Ok (c_lex_reader_run_reader_isLine (Trip Try.prog) [.d (.str r.1)] [[.d (.str r.2.1), .d (.int .i64 r.2.2.1), .own 5 (List.map Token.toD r.2.2.2)]]) (kL Try.f23 2) ⟨50, [(0, .hp 0 0), (1, .fn 30 [.hp 0 0] []), (5, .d (.int .i64 from_))], [], [[.d (.str text), .d (.int .i64 at_), .own 5 (List.map Token.toD out)]], 0⟩ := G_lex_reader_run_reader_isLine_L2 (.lex_reader_run_reader_isLine_L2 from_ text at_ out) r h
theorem T_lex_reader_run_reader_isLine (text : Str) (at_ : Int) (out : List Token) (r : Str × Str × Int × List Token) (h : lex_reader_run_reader_isLine text at_ out = some r) : Trip Try.prog 23 [.hp 0 0, .fn 30 [.hp 0 0] []] [[.d (.str text), .d (.int .i64 at_), .own 5 (List.map Token.toD out)]] [.d (.str r.1)] [[.d (.str r.2.1), .d (.int .i64 r.2.2.1), .own 5 (List.map Token.toD r.2.2.2)]] := by
  unfold lex_reader_run_reader_isLine at h
  refine trip_ev 1000 (by kernel_rfl) (by kernel_rfl) (by kernel_rfl) (by kernel_rfl) (e_lex_reader_run_reader_isLine _ _ text at_ out _ _) ?_
  exact T_lex_reader_run_reader_isLine_L2 _ _ _ _ _ h
def M_lex_reader_skip_L0 : (i : I_lex_reader_skip_L0) → R_lex_reader_skip_L0 i → Prop
  | .lex_reader_skip_L0 text at_ out, r => Ok (c_lex_reader_skip (Trip Try.prog) [] [[.d (.str r.1), .d (.int .i64 r.2.1), .own 5 (List.map Token.toD r.2.2)]]) (kL Try.f16 0) ⟨56, [(0, .hp 0 0)], [], [[.d (.str text), .d (.int .i64 at_), .own 5 (List.map Token.toD out)]], 0⟩
theorem G_lex_reader_skip_L0 : ∀ i r, fixF F_lex_reader_skip_L0 i = some r → M_lex_reader_skip_L0 i r := by
  refine fixF_induct D_lex_reader_skip_L0 fun g ih i => ?_
  cases i with
  | lex_reader_skip_L0 text at_ out =>
    have ih_lex_reader_skip_L0 : ∀ (text : Str) (at_ : Int) (out : List Token) (r : Str × Int × List Token), g (I_lex_reader_skip_L0.lex_reader_skip_L0 text at_ out) = some r → Ok (c_lex_reader_skip (Trip Try.prog) [] [[.d (.str r.1), .d (.int .i64 r.2.1), .own 5 (List.map Token.toD r.2.2)]]) (kL Try.f16 0) ⟨56, [(0, .hp 0 0)], [], [[.d (.str text), .d (.int .i64 at_), .own 5 (List.map Token.toD out)]], 0⟩ := fun text at_ out r h => ih (.lex_reader_skip_L0 text at_ out) r h
    intro r h
    show Ok (c_lex_reader_skip (Trip Try.prog) [] [[.d (.str r.1), .d (.int .i64 r.2.1), .own 5 (List.map Token.toD r.2.2)]]) (kL Try.f16 0) ⟨56, [(0, .hp 0 0)], [], [[.d (.str text), .d (.int .i64 at_), .own 5 (List.map Token.toD out)]], 0⟩
    replace h : lex_reader_skip_L0_B (fun text at_ out => g (I_lex_reader_skip_L0.lex_reader_skip_L0 text at_ out)) text at_ out = some r := h
    unfold lex_reader_skip_L0_B at h
    refine ok_ev 1000 (e_lex_reader_skip_L0 _ _ text at_ out _ _) ?_
    rintro _ rfl
    rintro _ rfl
    refine w_condH decide_eq_true_iff h (fun hc74 h => ?_) (fun hc74 h => ?_)
    ·
      obtain ⟨c, hx, h⟩ := w_bind h
      refine ⟨w_ge hx, c, w_at hx, ?_⟩
      rintro _ rfl
      rintro _ rfl
      refine w_condH beq_iff_eq h (fun hc75 h => ?_) (fun hc75 h => ?_)
      ·
        rintro _ rfl
        exact ih_lex_reader_skip_L0 _ _ _ _ h
      ·
        rintro _ rfl
        refine w_condH beq_iff_eq h (fun hc76 h => ?_) (fun hc76 h => ?_)
        ·
          rintro _ rfl
          exact ih_lex_reader_skip_L0 _ _ _ _ h
        ·
          rintro _ rfl
          refine w_condH beq_iff_eq h (fun hc77 h => ?_) (fun hc77 h => ?_)
          ·
            rintro _ rfl
            exact ih_lex_reader_skip_L0 _ _ _ _ h
          ·
            rintro _ rfl
            refine w_condH beq_iff_eq h (fun hc78 h => ?_) (fun hc78 h => ?_)
            ·
              rintro _ rfl
              exact ih_lex_reader_skip_L0 _ _ _ _ h
            ·
              rintro _ rfl
              refine w_condH beq_iff_eq h (fun hc79 h => ?_) (fun hc79 h => ?_)
              ·
                obtain ⟨q1, hq, h⟩ := w_bind h
                refine ⟨q1.1, q1.2.1, q1.2.2.1, List.map Token.toD q1.2.2.2, T_lex_reader_peek _ _ _ _ _ hq, ?_⟩
                rintro _ rfl
                refine w_condH beq_iff_eq h (fun hc80 h => ?_) (fun hc80 h => ?_)
                ·
                  obtain ⟨q2, hq, h⟩ := w_bind h
                  refine ⟨q2.1, q2.2.1, q2.2.2.1, List.map Token.toD q2.2.2.2, T_lex_reader_run_reader_isLine _ _ _ _ hq, ?_⟩
                  exact ih_lex_reader_skip_L0 _ _ _ _ h
                ·
                  cases h; exact ⟨rfl, rfl⟩
              ·
                cases h; exact ⟨rfl, rfl⟩
    ·
      cases h; exact ⟨rfl, rfl⟩
theorem T_lex_reader_skip_L0 (text : Str) (at_ : Int) (out : List Token) (r : Str × Int × List Token) (h : lex_reader_skip_L0 text at_ out = some r) : Ok (c_lex_reader_skip (Trip Try.prog) [] [[.d (.str r.1), .d (.int .i64 r.2.1), .own 5 (List.map Token.toD r.2.2)]]) (kL Try.f16 0) ⟨56, [(0, .hp 0 0)], [], [[.d (.str text), .d (.int .i64 at_), .own 5 (List.map Token.toD out)]], 0⟩ := G_lex_reader_skip_L0 (.lex_reader_skip_L0 text at_ out) r h
theorem T_lex_reader_skip (text : Str) (at_ : Int) (out : List Token) (r : Str × Int × List Token) (h : lex_reader_skip text at_ out = some r) : Trip Try.prog 16 [.hp 0 0] [[.d (.str text), .d (.int .i64 at_), .own 5 (List.map Token.toD out)]] [] [[.d (.str r.1), .d (.int .i64 r.2.1), .own 5 (List.map Token.toD r.2.2)]] := by
  unfold lex_reader_skip at h
  refine trip_ev 1000 (by kernel_rfl) (by kernel_rfl) (by kernel_rfl) (by kernel_rfl) (e_lex_reader_skip _ _ text at_ out _ _) ?_
  exact T_lex_reader_skip_L0 _ _ _ _ h
def M_lex_Tokens_L5 : (i : I_lex_Tokens_L5) → R_lex_Tokens_L5 i → Prop
  | .lex_Tokens_L5 text text1 at_ out, r => Ok (c_lex_Tokens (Trip Try.prog) [.d (.sl (List.map Token.toD r.1)), .d (.int .i64 r.2.1), .d (.int .i64 r.2.2.1)] r.2.2.2) (kL Try.f7 5) ⟨45, [(0, .d (.str text)), (5, .hp 0 0)], [], [[.d (.str text1), .d (.int .i64 at_), .own 5 (List.map Token.toD out)]], 0⟩
theorem G_lex_Tokens_L5 : ∀ i r, fixF F_lex_Tokens_L5 i = some r → M_lex_Tokens_L5 i r := by
  refine fixF_induct D_lex_Tokens_L5 fun g ih i => ?_
  cases i with
  | lex_Tokens_L5 text text1 at_ out =>
    have ih_lex_Tokens_L5 : ∀ (text : Str) (text1 : Str) (at_ : Int) (out : List Token) (r : List Token × Int × Int × H), g (I_lex_Tokens_L5.lex_Tokens_L5 text text1 at_ out) = some r → Ok (c_lex_Tokens (Trip Try.prog) [.d (.sl (List.map Token.toD r.1)), .d (.int .i64 r.2.1), .d (.int .i64 r.2.2.1)] r.2.2.2) (kL Try.f7 5) ⟨45, [(0, .d (.str text)), (5, .hp 0 0)], [], [[.d (.str text1), .d (.int .i64 at_), .own 5 (List.map Token.toD out)]], 0⟩ := fun text text1 at_ out r h => ih (.lex_Tokens_L5 text text1 at_ out) r h
    intro r h
    show Ok (c_lex_Tokens (Trip Try.prog) [.d (.sl (List.map Token.toD r.1)), .d (.int .i64 r.2.1), .d (.int .i64 r.2.2.1)] r.2.2.2) (kL Try.f7 5) ⟨45, [(0, .d (.str text)), (5, .hp 0 0)], [], [[.d (.str text1), .d (.int .i64 at_), .own 5 (List.map Token.toD out)]], 0⟩
    replace h : lex_Tokens_L5_B (fun text text1 at_ out => g (I_lex_Tokens_L5.lex_Tokens_L5 text text1 at_ out)) text text1 at_ out = some r := h
    unfold lex_Tokens_L5_B at h
    refine ok_ev 1000 (e_lex_Tokens_L5 _ _ text text1 at_ out _ _) ?_
    rintro _ rfl
    rintro _ rfl
    refine w_condH decide_eq_true_iff h (fun hc81 h => ?_) (fun hc81 h => ?_)
    ·
      obtain ⟨q1, hq, h⟩ := w_bind h
      refine ⟨q1.1, q1.2.1, q1.2.2.1, List.map Token.toD q1.2.2.2, T_lex_reader_one _ _ _ _ hq, ?_⟩
      rintro _ rfl
      refine w_condN beq_iff_eq h (fun hc82 h => ?_) (fun hc82 h => ?_)
      ·
        obtain ⟨q2, hq, h⟩ := w_bind h
        refine ⟨q2.1, q2.2.1, List.map Token.toD q2.2.2, T_lex_reader_skip _ _ _ _ hq, ?_⟩
        exact ih_lex_Tokens_L5 _ _ _ _ _ h
      ·
        cases h; exact ⟨rfl, rfl⟩
    ·
      obtain ⟨q3, hq, h⟩ := w_bind h
      refine ⟨q3.1, q3.2.1, List.map Token.toD q3.2.2, T_lex_reader_put _ _ _ _ _ _ _ _ hq, ?_⟩
      cases h; exact ⟨rfl, rfl⟩
theorem T_lex_Tokens_L5 (text : Str) (text1 : Str) (at_ : Int) (out : List Token) (r : List Token × Int × Int × H) (h : lex_Tokens_L5 text text1 at_ out = some r) : Ok (c_lex_Tokens (Trip Try.prog) [.d (.sl (List.map Token.toD r.1)), .d (.int .i64 r.2.1), .d (.int .i64 r.2.2.1)] r.2.2.2) (kL Try.f7 5) ⟨45, [(0, .d (.str text)), (5, .hp 0 0)], [], [[.d (.str text1), .d (.int .i64 at_), .own 5 (List.map Token.toD out)]], 0⟩ := G_lex_Tokens_L5 (.lex_Tokens_L5 text text1 at_ out) r h
theorem T_lex_Tokens (text : Str) (r : List Token × Int × Int × H) (h : lex_Tokens text = some r) : Trip Try.prog 7 [.d (.str text)] [] [.d (.sl (List.map Token.toD r.1)), .d (.int .i64 r.2.1), .d (.int .i64 r.2.2.1)] r.2.2.2 := by
  unfold lex_Tokens at h
  refine trip_ev 1000 (by kernel_rfl) (by kernel_rfl) (by kernel_rfl) (by kernel_rfl) (e_lex_Tokens _ _ text _ _) ?_
  rintro _ rfl
  rintro _ rfl
  refine w_condH decide_eq_true_iff h (fun hc83 h => ?_) (fun hc83 h => ?_)
  ·
    cases h; exact ⟨rfl, rfl⟩
  ·
    obtain ⟨q1, hq, h⟩ := w_bind h
    refine ⟨q1.1, q1.2.1, List.map Token.toD q1.2.2, T_lex_reader_skip _ _ _ _ hq, ?_⟩
    exact T_lex_Tokens_L5 _ _ _ _ _ h
theorem T_law05awake  (r : Bool) (h : law05awake = some r) : Trip Try.prog 10 [] [] [.d (.bool r)] [] := by
  unfold law05awake at h
  refine trip_ev 1000 (by kernel_rfl) (by kernel_rfl) (by kernel_rfl) (by kernel_rfl) (e_law05awake _ _  _ _) ?_
  obtain ⟨q1, hq, h⟩ := w_bind h
  refine ⟨List.map Token.toD q1.1, q1.2.1, q1.2.2.1, ⟨_, T_lex_Tokens _ _ hq⟩, ?_⟩
  rintro _ rfl
  refine w_condH beq_iff_eq h (fun hc84 h => ?_) (fun hc84 h => ?_)
  ·
    refine w_nam (e' := (List.length q1.1 : Int)) (by first | rfl | rw [List.length_map]) ?_
    rintro _ rfl
    refine w_condH beq_iff_eq h (fun hc85 h => ?_) (fun hc85 h => ?_)
    ·
      obtain ⟨x, hx, h⟩ := w_bind h
      refine ⟨sizedL (l := q1.1) (Token.sz), w_ge hx, x.K, x.N, x.S, x.From, x.To, w_get (Token.toD_eq x) hx, ?_⟩
      rintro _ rfl
      cases h; exact ⟨rfl, rfl⟩
    ·
      cases h; exact ⟨rfl, rfl⟩
  ·
    cases h; exact ⟨rfl, rfl⟩
def M_ref05Same_L4 : (i : I_ref05Same_L4) → R_ref05Same_L4 i → Prop
  | .ref05Same_L4 a b i, r => Ok (c_ref05Same (Trip Try.prog) [.d (.bool r)] []) (kL Try.f9 4) ⟨26, [(0, .d (.sl (List.map Token.toD a))), (1, .d (.sl (List.map Token.toD b))), (5, .d (.int .i64 i))], [], [], 0⟩
theorem G_ref05Same_L4 : ∀ i r, fixF F_ref05Same_L4 i = some r → M_ref05Same_L4 i r := by
  refine fixF_induct D_ref05Same_L4 fun g ih i => ?_
  cases i with
  | ref05Same_L4 a b i =>
    have ih_ref05Same_L4 : ∀ (a : List Token) (b : List Token) (i : Int) (r : Bool), g (I_ref05Same_L4.ref05Same_L4 a b i) = some r → Ok (c_ref05Same (Trip Try.prog) [.d (.bool r)] []) (kL Try.f9 4) ⟨26, [(0, .d (.sl (List.map Token.toD a))), (1, .d (.sl (List.map Token.toD b))), (5, .d (.int .i64 i))], [], [], 0⟩ := fun a b i r h => ih (.ref05Same_L4 a b i) r h
    intro r h
    show Ok (c_ref05Same (Trip Try.prog) [.d (.bool r)] []) (kL Try.f9 4) ⟨26, [(0, .d (.sl (List.map Token.toD a))), (1, .d (.sl (List.map Token.toD b))), (5, .d (.int .i64 i))], [], [], 0⟩
    replace h : ref05Same_L4_B (fun a b i => g (I_ref05Same_L4.ref05Same_L4 a b i)) a b i = some r := h
    unfold ref05Same_L4_B at h
    refine ok_ev 1000 (e_ref05Same_L4 _ _ a b i _ _) ?_
    refine w_nam (e' := (List.length a : Int)) (by first | rfl | rw [List.length_map]) ?_
    rintro _ rfl
    refine w_condH decide_eq_true_iff h (fun hc86 h => ?_) (fun hc86 h => ?_)
    ·
      obtain ⟨x, hx, h⟩ := w_bind h
      refine ⟨sizedL (l := a) (Token.sz), w_ge hx, x.K, x.N, x.S, x.From, x.To, w_get (Token.toD_eq x) hx, ?_⟩
      obtain ⟨x1, hx, h⟩ := w_bind h
      refine ⟨sizedL (l := b) (Token.sz), w_ge hx, x1.K, x1.N, x1.S, x1.From, x1.To, w_get (Token.toD_eq x1) hx, ?_⟩
      rintro _ rfl
      rintro _ rfl
      rintro _ rfl
      rintro _ rfl
      rintro _ rfl
      refine w_condN (w_and beq_iff_eq (w_and beq_iff_eq (w_and beq_iff_eq (w_and beq_iff_eq (w_and beq_iff_eq (by simp)))))) h (fun hc87 h => ?_) (fun hc87 h => ?_)
      ·
        rintro _ rfl
        exact ih_ref05Same_L4 _ _ _ _ h
      ·
        cases h; exact ⟨rfl, rfl⟩
    ·
      cases h; exact ⟨rfl, rfl⟩
theorem T_ref05Same_L4 (a : List Token) (b : List Token) (i : Int) (r : Bool) (h : ref05Same_L4 a b i = some r) : Ok (c_ref05Same (Trip Try.prog) [.d (.bool r)] []) (kL Try.f9 4) ⟨26, [(0, .d (.sl (List.map Token.toD a))), (1, .d (.sl (List.map Token.toD b))), (5, .d (.int .i64 i))], [], [], 0⟩ := G_ref05Same_L4 (.ref05Same_L4 a b i) r h
theorem T_ref05Same (a : List Token) (b : List Token) (r : Bool) (h : ref05Same a b = some r) : Trip Try.prog 9 [.d (.sl (List.map Token.toD a)), .d (.sl (List.map Token.toD b))] [] [.d (.bool r)] [] := by
  unfold ref05Same at h
  refine trip_ev 1000 (by kernel_rfl) (by kernel_rfl) (by kernel_rfl) (by kernel_rfl) (e_ref05Same _ _ a b _ _) ?_
  refine w_nam (e' := (List.length a : Int)) (by first | rfl | rw [List.length_map]) ?_
  refine w_nam (e' := (List.length b : Int)) (by first | rfl | rw [List.length_map]) ?_
  rintro _ rfl
  refine w_condN beq_iff_eq h (fun hc88 h => ?_) (fun hc88 h => ?_)
  ·
    exact T_ref05Same_L4 _ _ _ _ h
  ·
    cases h; exact ⟨rfl, rfl⟩
theorem T_ref05Begins (text : Str) (at_ : Int) (s : Str) (r : Bool) (h : ref05Begins text at_ s = some r) : Trip Try.prog 36 [.d (.str text), .d (.int .i64 at_), .d (.str s)] [] [.d (.bool r)] [] := by
  unfold ref05Begins at h
  refine trip_ev 1000 (by kernel_rfl) (by kernel_rfl) (by kernel_rfl) (by kernel_rfl) (e_ref05Begins _ _ text at_ s _ _) ?_
  rintro _ rfl
  rintro _ rfl
  rintro _ rfl
  rintro _ rfl
  refine w_condH decide_eq_true_iff h (fun hc89 h => ?_) (fun hc89 h => ?_)
  ·
    rintro _ rfl
    rintro _ rfl
    obtain ⟨hP, h⟩ := w_chk h
    refine ⟨by first | exact hP | (simp only [List.length_map, List.length_cons, List.length_nil] at hP ⊢; exact hP), ?_⟩
    obtain ⟨hP, h⟩ := w_chk h
    refine ⟨by first | exact hP | (simp only [List.length_map, List.length_cons, List.length_nil] at hP ⊢; exact hP), ?_⟩
    obtain ⟨hP, h⟩ := w_chk h
    refine ⟨by first | exact hP | (simp only [List.length_map, List.length_cons, List.length_nil] at hP ⊢; exact hP), ?_⟩
    obtain ⟨hP, h⟩ := w_chk h
    refine ⟨by first | exact hP | (simp only [List.length_map, List.length_cons, List.length_nil] at hP ⊢; exact hP), ?_⟩
    rintro _ rfl
    rintro _ rfl
    cases h; exact ⟨rfl, rfl⟩
  ·
    cases h; exact ⟨rfl, rfl⟩
theorem T_ref05Blank (c : Int) (r : Bool) (h : ref05Blank c = some r) : Trip Try.prog 35 [.d (.int .u8 c)] [] [.d (.bool r)] [] := by
  unfold ref05Blank at h
  refine trip_ev 1000 (by kernel_rfl) (by kernel_rfl) (by kernel_rfl) (by kernel_rfl) (e_ref05Blank _ _ c _ _) ?_
  rintro _ rfl
  refine w_condH beq_iff_eq h (fun hc90 h => ?_) (fun hc90 h => ?_)
  ·
    cases h; exact ⟨rfl, rfl⟩
  ·
    rintro _ rfl
    refine w_condH beq_iff_eq h (fun hc91 h => ?_) (fun hc91 h => ?_)
    ·
      cases h; exact ⟨rfl, rfl⟩
    ·
      rintro _ rfl
      refine w_condH beq_iff_eq h (fun hc92 h => ?_) (fun hc92 h => ?_)
      ·
        cases h; exact ⟨rfl, rfl⟩
      ·
        rintro _ rfl
        cases h; exact ⟨rfl, rfl⟩
def M_ref05Next_L1 : (i : I_ref05Next_L1) → R_ref05Next_L1 i → Prop
  | .ref05Next_L1 text at_, r => Ok (c_ref05Next (Trip Try.prog) [.d (.int .i64 r)] []) (kL Try.f19 1) ⟨32, [(0, .d (.str text)), (1, .d (.int .i64 at_))], [], [], 0⟩
  | .ref05Next_L5 text at_, r => Ok (c_ref05Next (Trip Try.prog) [.d (.int .i64 r)] []) (kL Try.f19 5) ⟨32, [(0, .d (.str text)), (1, .d (.int .i64 at_))], [], [], 0⟩
theorem G_ref05Next_L1 : ∀ i r, fixF F_ref05Next_L1 i = some r → M_ref05Next_L1 i r := by
  refine fixF_induct D_ref05Next_L1 fun g ih i => ?_
  cases i with
  | ref05Next_L1 text at_ =>
    have ih_ref05Next_L1 : ∀ (text : Str) (at_ : Int) (r : Int), g (I_ref05Next_L1.ref05Next_L1 text at_) = some r → Ok (c_ref05Next (Trip Try.prog) [.d (.int .i64 r)] []) (kL Try.f19 1) ⟨32, [(0, .d (.str text)), (1, .d (.int .i64 at_))], [], [], 0⟩ := fun text at_ r h => ih (.ref05Next_L1 text at_) r h
    have ih_ref05Next_L5 : ∀ (text : Str) (at_ : Int) (r : Int), g (I_ref05Next_L1.ref05Next_L5 text at_) = some r → Ok (c_ref05Next (Trip Try.prog) [.d (.int .i64 r)] []) (kL Try.f19 5) ⟨32, [(0, .d (.str text)), (1, .d (.int .i64 at_))], [], [], 0⟩ := fun text at_ r h => ih (.ref05Next_L5 text at_) r h
    intro r h
    show Ok (c_ref05Next (Trip Try.prog) [.d (.int .i64 r)] []) (kL Try.f19 1) ⟨32, [(0, .d (.str text)), (1, .d (.int .i64 at_))], [], [], 0⟩
    replace h : ref05Next_L1_B (fun text at_ => g (I_ref05Next_L1.ref05Next_L1 text at_)) (fun text at_ => g (I_ref05Next_L1.ref05Next_L5 text at_)) text at_ = some r := h
    unfold ref05Next_L1_B at h
    refine ok_ev 1000 (e_ref05Next_L1 _ _ text at_ _ _) ?_
    rintro _ rfl
    rintro _ rfl
    refine w_condH decide_eq_true_iff h (fun hc93 h => ?_) (fun hc93 h => ?_)
    ·
      obtain ⟨c, hx, h⟩ := w_bind h
      refine ⟨w_ge hx, c, w_at hx, ?_⟩
      rintro _ rfl
      obtain ⟨q1, hq, h⟩ := w_bind h
      refine ⟨q1, ⟨_, T_ref05Blank _ _ hq⟩, ?_⟩
      refine w_condH Iff.rfl h (fun hc94 h => ?_) (fun hc94 h => ?_)
      ·
        rintro _ rfl
        exact ih_ref05Next_L1 _ _ _ h
      ·
        obtain ⟨q2, hq, h⟩ := w_bind h
        refine ⟨q2, ⟨_, T_ref05Begins _ _ _ _ hq⟩, ?_⟩
        refine w_condH Iff.rfl h (fun hc95 h => ?_) (fun hc95 h => ?_)
        ·
          exact ih_ref05Next_L5 _ _ _ h
        ·
          cases h; exact ⟨rfl, rfl⟩
    ·
      cases h; exact ⟨rfl, rfl⟩
  | ref05Next_L5 text at_ =>
    have ih_ref05Next_L1 : ∀ (text : Str) (at_ : Int) (r : Int), g (I_ref05Next_L1.ref05Next_L1 text at_) = some r → Ok (c_ref05Next (Trip Try.prog) [.d (.int .i64 r)] []) (kL Try.f19 1) ⟨32, [(0, .d (.str text)), (1, .d (.int .i64 at_))], [], [], 0⟩ := fun text at_ r h => ih (.ref05Next_L1 text at_) r h
    have ih_ref05Next_L5 : ∀ (text : Str) (at_ : Int) (r : Int), g (I_ref05Next_L1.ref05Next_L5 text at_) = some r → Ok (c_ref05Next (Trip Try.prog) [.d (.int .i64 r)] []) (kL Try.f19 5) ⟨32, [(0, .d (.str text)), (1, .d (.int .i64 at_))], [], [], 0⟩ := fun text at_ r h => ih (.ref05Next_L5 text at_) r h
    intro r h
    show Ok (c_ref05Next (Trip Try.prog) [.d (.int .i64 r)] []) (kL Try.f19 5) ⟨32, [(0, .d (.str text)), (1, .d (.int .i64 at_))], [], [], 0⟩
    replace h : ref05Next_L5_B (fun text at_ => g (I_ref05Next_L1.ref05Next_L1 text at_)) (fun text at_ => g (I_ref05Next_L1.ref05Next_L5 text at_)) text at_ = some r := h
    unfold ref05Next_L5_B at h
    refine ok_ev 1000 (e_ref05Next_L5 _ _ text at_ _ _) ?_
    rintro _ rfl
    rintro _ rfl
    refine w_condH decide_eq_true_iff h (fun hc96 h => ?_) (fun hc96 h => ?_)
    ·
      obtain ⟨c, hx, h⟩ := w_bind h
      refine ⟨w_ge hx, c, w_at hx, ?_⟩
      rintro _ rfl
      rintro _ rfl
      refine w_condN beq_iff_eq h (fun hc97 h => ?_) (fun hc97 h => ?_)
      ·
        exact ih_ref05Next_L1 _ _ _ h
      ·
        rintro _ rfl
        exact ih_ref05Next_L5 _ _ _ h
    ·
      exact ih_ref05Next_L1 _ _ _ h
theorem T_ref05Next_L1 (text : Str) (at_ : Int) (r : Int) (h : ref05Next_L1 text at_ = some r) : Ok (c_ref05Next (Trip Try.prog) [.d (.int .i64 r)] []) (kL Try.f19 1) ⟨32, [(0, .d (.str text)), (1, .d (.int .i64 at_))], [], [], 0⟩ := G_ref05Next_L1 (.ref05Next_L1 text at_) r h
theorem T_ref05Next_L5 (text : Str) (at_ : Int) (r : Int) (h : ref05Next_L5 text at_ = some r) : Ok (c_ref05Next (Trip Try.prog) [.d (.int .i64 r)] []) (kL Try.f19 5) ⟨32, [(0, .d (.str text)), (1, .d (.int .i64 at_))], [], [], 0⟩ := G_ref05Next_L1 (.ref05Next_L5 text at_) r h
theorem T_ref05Next (text : Str) (at_ : Int) (r : Int) (h : ref05Next text at_ = some r) : Trip Try.prog 19 [.d (.str text), .d (.int .i64 at_)] [] [.d (.int .i64 r)] [] := by
  unfold ref05Next at h
  refine trip_ev 1000 (by kernel_rfl) (by kernel_rfl) (by kernel_rfl) (by kernel_rfl) (e_ref05Next _ _ text at_ _ _) ?_
  exact T_ref05Next_L1 _ _ _ h
theorem T_ref05Digit (c : Int) (r : Bool) (h : ref05Digit c = some r) : Trip Try.prog 28 [.d (.int .u8 c)] [] [.d (.bool r)] [] := by
  unfold ref05Digit at h
  refine trip_ev 1000 (by kernel_rfl) (by kernel_rfl) (by kernel_rfl) (by kernel_rfl) (e_ref05Digit _ _ c _ _) ?_
  rintro _ rfl
  refine w_condH decide_eq_true_iff h (fun hc98 h => ?_) (fun hc98 h => ?_)
  ·
    rintro _ rfl
    cases h; exact ⟨rfl, rfl⟩
  ·
    cases h; exact ⟨rfl, rfl⟩
theorem T_ref05Letter (c : Int) (r : Bool) (h : ref05Letter c = some r) : Trip Try.prog 25 [.d (.int .u8 c)] [] [.d (.bool r)] [] := by
  unfold ref05Letter at h
  refine trip_ev 1000 (by kernel_rfl) (by kernel_rfl) (by kernel_rfl) (by kernel_rfl) (e_ref05Letter _ _ c _ _) ?_
  rintro _ rfl
  refine w_condH decide_eq_true_iff h (fun hc99 h => ?_) (fun hc99 h => ?_)
  ·
    rintro _ rfl
    refine w_condH decide_eq_true_iff h (fun hc100 h => ?_) (fun hc100 h => ?_)
    ·
      cases h; exact ⟨rfl, rfl⟩
    ·
      rintro _ rfl
      refine w_condH decide_eq_true_iff h (fun hc101 h => ?_) (fun hc101 h => ?_)
      ·
        rintro _ rfl
        refine w_condH decide_eq_true_iff h (fun hc102 h => ?_) (fun hc102 h => ?_)
        ·
          cases h; exact ⟨rfl, rfl⟩
        ·
          rintro _ rfl
          cases h; exact ⟨rfl, rfl⟩
      ·
        rintro _ rfl
        cases h; exact ⟨rfl, rfl⟩
  ·
    rintro _ rfl
    refine w_condH decide_eq_true_iff h (fun hc103 h => ?_) (fun hc103 h => ?_)
    ·
      rintro _ rfl
      refine w_condH decide_eq_true_iff h (fun hc104 h => ?_) (fun hc104 h => ?_)
      ·
        cases h; exact ⟨rfl, rfl⟩
      ·
        rintro _ rfl
        cases h; exact ⟨rfl, rfl⟩
    ·
      rintro _ rfl
      cases h; exact ⟨rfl, rfl⟩
def M_ref05Number_L5 : (i : I_ref05Number_L5) → R_ref05Number_L5 i → Prop
  | .ref05Number_L5 s v i, r => Ok (c_ref05Number (Trip Try.prog) [.d (.int .i64 r.1), .d (.bool r.2)] []) (kL Try.f37 5) ⟨41, [(0, .d (.str s)), (4, .d (.int .i64 v)), (5, .d (.int .i64 i))], [], [], 0⟩
theorem G_ref05Number_L5 : ∀ i r, fixF F_ref05Number_L5 i = some r → M_ref05Number_L5 i r := by
  refine fixF_induct D_ref05Number_L5 fun g ih i => ?_
  cases i with
  | ref05Number_L5 s v i =>
    have ih_ref05Number_L5 : ∀ (s : Str) (v : Int) (i : Int) (r : Int × Bool), g (I_ref05Number_L5.ref05Number_L5 s v i) = some r → Ok (c_ref05Number (Trip Try.prog) [.d (.int .i64 r.1), .d (.bool r.2)] []) (kL Try.f37 5) ⟨41, [(0, .d (.str s)), (4, .d (.int .i64 v)), (5, .d (.int .i64 i))], [], [], 0⟩ := fun s v i r h => ih (.ref05Number_L5 s v i) r h
    intro r h
    show Ok (c_ref05Number (Trip Try.prog) [.d (.int .i64 r.1), .d (.bool r.2)] []) (kL Try.f37 5) ⟨41, [(0, .d (.str s)), (4, .d (.int .i64 v)), (5, .d (.int .i64 i))], [], [], 0⟩
    replace h : ref05Number_L5_B (fun s v i => g (I_ref05Number_L5.ref05Number_L5 s v i)) s v i = some r := h
    unfold ref05Number_L5_B at h
    refine ok_ev 1000 (e_ref05Number_L5 _ _ s v i _ _) ?_
    rintro _ rfl
    rintro _ rfl
    refine w_condH decide_eq_true_iff h (fun hc105 h => ?_) (fun hc105 h => ?_)
    ·
      obtain ⟨c, hx, h⟩ := w_bind h
      refine ⟨w_ge hx, c, w_at hx, ?_⟩
      rintro _ rfl
      rintro _ rfl
      rintro _ rfl
      rintro _ rfl
      obtain ⟨hP, h⟩ := w_chk h
      refine ⟨by first | exact hP | (simp only [List.length_map, List.length_cons, List.length_nil] at hP ⊢; exact hP), ?_⟩
      rintro _ rfl
      rintro _ rfl
      refine w_condH decide_eq_true_iff h (fun hc106 h => ?_) (fun hc106 h => ?_)
      ·
        cases h; exact ⟨rfl, rfl⟩
      ·
        rintro _ rfl
        rintro _ rfl
        rintro _ rfl
        exact ih_ref05Number_L5 _ _ _ _ h
    ·
      cases h; exact ⟨rfl, rfl⟩
theorem T_ref05Number_L5 (s : Str) (v : Int) (i : Int) (r : Int × Bool) (h : ref05Number_L5 s v i = some r) : Ok (c_ref05Number (Trip Try.prog) [.d (.int .i64 r.1), .d (.bool r.2)] []) (kL Try.f37 5) ⟨41, [(0, .d (.str s)), (4, .d (.int .i64 v)), (5, .d (.int .i64 i))], [], [], 0⟩ := G_ref05Number_L5 (.ref05Number_L5 s v i) r h
theorem T_ref05Number (s : Str) (r : Int × Bool) (h : ref05Number s = some r) : Trip Try.prog 37 [.d (.str s)] [] [.d (.int .i64 r.1), .d (.bool r.2)] [] := by
  unfold ref05Number at h
  refine trip_ev 1000 (by kernel_rfl) (by kernel_rfl) (by kernel_rfl) (by kernel_rfl) (e_ref05Number _ _ s _ _) ?_
  rintro _ rfl
  rintro _ rfl
  refine w_condH beq_iff_eq h (fun hc107 h => ?_) (fun hc107 h => ?_)
  ·
    cases h; exact ⟨rfl, rfl⟩
  ·
    rintro _ rfl
    rintro _ rfl
    refine w_condH decide_eq_true_iff h (fun hc108 h => ?_) (fun hc108 h => ?_)
    ·
      obtain ⟨c, hx, h⟩ := w_bind h
      refine ⟨w_ge hx, c, w_at hx, ?_⟩
      rintro _ rfl
      rintro _ rfl
      refine w_condH beq_iff_eq h (fun hc109 h => ?_) (fun hc109 h => ?_)
      ·
        cases h; exact ⟨rfl, rfl⟩
      ·
        exact T_ref05Number_L5 _ _ _ _ h
    ·
      exact T_ref05Number_L5 _ _ _ _ h
def M_ref05One_L13 : (i : I_ref05One_L13) → R_ref05One_L13 i → Prop
  | .ref05One_L13 text at_ to_ o4, r => Ok (c_ref05One (Trip Try.prog) [.d (.agg [(.int .i64 r.1.K), (.int .i64 r.1.N), (.str r.1.S), (.int .i64 r.1.From), (.int .i64 r.1.To)]), .d (.int .i64 r.2)] []) (kL Try.f20 13) ⟨114, [(0, .d (.str text)), (1, .d (.int .i64 at_)), (4, .ref 4 1 0), (7, .d (.int .i64 to_))], [(4, 1, some (.agg (.agg [(.int .i64 o4.K), (.int .i64 o4.N), (.str o4.S), (.int .i64 o4.From), (.int .i64 o4.To)])))], [], 0⟩
theorem G_ref05One_L13 : ∀ i r, fixF F_ref05One_L13 i = some r → M_ref05One_L13 i r := by
  refine fixF_induct D_ref05One_L13 fun g ih i => ?_
  cases i with
  | ref05One_L13 text at_ to_ o4 =>
    have ih_ref05One_L13 : ∀ (text : Str) (at_ : Int) (to_ : Int) (o4 : Token) (r : Token × Int), g (I_ref05One_L13.ref05One_L13 text at_ to_ o4) = some r → Ok (c_ref05One (Trip Try.prog) [.d (.agg [(.int .i64 r.1.K), (.int .i64 r.1.N), (.str r.1.S), (.int .i64 r.1.From), (.int .i64 r.1.To)]), .d (.int .i64 r.2)] []) (kL Try.f20 13) ⟨114, [(0, .d (.str text)), (1, .d (.int .i64 at_)), (4, .ref 4 1 0), (7, .d (.int .i64 to_))], [(4, 1, some (.agg (.agg [(.int .i64 o4.K), (.int .i64 o4.N), (.str o4.S), (.int .i64 o4.From), (.int .i64 o4.To)])))], [], 0⟩ := fun text at_ to_ o4 r h => ih (.ref05One_L13 text at_ to_ o4) r h
    intro r h
    show Ok (c_ref05One (Trip Try.prog) [.d (.agg [(.int .i64 r.1.K), (.int .i64 r.1.N), (.str r.1.S), (.int .i64 r.1.From), (.int .i64 r.1.To)]), .d (.int .i64 r.2)] []) (kL Try.f20 13) ⟨114, [(0, .d (.str text)), (1, .d (.int .i64 at_)), (4, .ref 4 1 0), (7, .d (.int .i64 to_))], [(4, 1, some (.agg (.agg [(.int .i64 o4.K), (.int .i64 o4.N), (.str o4.S), (.int .i64 o4.From), (.int .i64 o4.To)])))], [], 0⟩
    replace h : ref05One_L13_B (fun text at_ to_ o4 => g (I_ref05One_L13.ref05One_L13 text at_ to_ o4)) text at_ to_ o4 = some r := h
    unfold ref05One_L13_B at h
    refine ok_ev 1000 (e_ref05One_L13 _ _ text at_ to_ o4 _ _) ?_
    rintro _ rfl
    rintro _ rfl
    refine w_condH decide_eq_true_iff h (fun hc110 h => ?_) (fun hc110 h => ?_)
    ·
      obtain ⟨c, hx, h⟩ := w_bind h
      refine ⟨w_ge hx, c, w_at hx, ?_⟩
      rintro _ rfl
      obtain ⟨q1, hq, h⟩ := w_bind h
      refine ⟨q1, ⟨_, T_ref05Digit _ _ hq⟩, ?_⟩
      refine w_condH Iff.rfl h (fun hc111 h => ?_) (fun hc111 h => ?_)
      ·
        rintro _ rfl
        exact ih_ref05One_L13 _ _ _ _ _ h
      ·
        obtain ⟨hP, h⟩ := w_chk h
        refine ⟨by first | exact hP | (simp only [List.length_map, List.length_cons, List.length_nil] at hP ⊢; exact hP), ?_⟩
        obtain ⟨hP, h⟩ := w_chk h
        refine ⟨by first | exact hP | (simp only [List.length_map, List.length_cons, List.length_nil] at hP ⊢; exact hP), ?_⟩
        obtain ⟨hP, h⟩ := w_chk h
        refine ⟨by first | exact hP | (simp only [List.length_map, List.length_cons, List.length_nil] at hP ⊢; exact hP), ?_⟩
        obtain ⟨hP, h⟩ := w_chk h
        refine ⟨by first | exact hP | (simp only [List.length_map, List.length_cons, List.length_nil] at hP ⊢; exact hP), ?_⟩
        rintro _ rfl
        obtain ⟨q2, hq, h⟩ := w_bind h
        refine ⟨q2.1, q2.2, ⟨_, T_ref05Number _ _ hq⟩, ?_⟩
        refine w_condN Iff.rfl h (fun hc112 h => ?_) (fun hc112 h => ?_)
        ·
          cases h; exact ⟨rfl, rfl⟩
        ·
          cases h; exact ⟨rfl, rfl⟩
    ·
      obtain ⟨hP, h⟩ := w_chk h
      refine ⟨by first | exact hP | (simp only [List.length_map, List.length_cons, List.length_nil] at hP ⊢; exact hP), ?_⟩
      obtain ⟨hP, h⟩ := w_chk h
      refine ⟨by first | exact hP | (simp only [List.length_map, List.length_cons, List.length_nil] at hP ⊢; exact hP), ?_⟩
      obtain ⟨hP, h⟩ := w_chk h
      refine ⟨by first | exact hP | (simp only [List.length_map, List.length_cons, List.length_nil] at hP ⊢; exact hP), ?_⟩
      obtain ⟨hP, h⟩ := w_chk h
      refine ⟨by first | exact hP | (simp only [List.length_map, List.length_cons, List.length_nil] at hP ⊢; exact hP), ?_⟩
      rintro _ rfl
      obtain ⟨q3, hq, h⟩ := w_bind h
      refine ⟨q3.1, q3.2, ⟨_, T_ref05Number _ _ hq⟩, ?_⟩
      refine w_condN Iff.rfl h (fun hc113 h => ?_) (fun hc113 h => ?_)
      ·
        cases h; exact ⟨rfl, rfl⟩
      ·
        cases h; exact ⟨rfl, rfl⟩
theorem T_ref05One_L13 (text : Str) (at_ : Int) (to_ : Int) (o4 : Token) (r : Token × Int) (h : ref05One_L13 text at_ to_ o4 = some r) : Ok (c_ref05One (Trip Try.prog) [.d (.agg [(.int .i64 r.1.K), (.int .i64 r.1.N), (.str r.1.S), (.int .i64 r.1.From), (.int .i64 r.1.To)]), .d (.int .i64 r.2)] []) (kL Try.f20 13) ⟨114, [(0, .d (.str text)), (1, .d (.int .i64 at_)), (4, .ref 4 1 0), (7, .d (.int .i64 to_))], [(4, 1, some (.agg (.agg [(.int .i64 o4.K), (.int .i64 o4.N), (.str o4.S), (.int .i64 o4.From), (.int .i64 o4.To)])))], [], 0⟩ := G_ref05One_L13 (.ref05One_L13 text at_ to_ o4) r h
def M_ref05One_L21 : (i : I_ref05One_L21) → R_ref05One_L21 i → Prop
  | .ref05One_L21 text at_ all i o4, r => Ok (c_ref05One (Trip Try.prog) [.d (.agg [(.int .i64 r.1.K), (.int .i64 r.1.N), (.str r.1.S), (.int .i64 r.1.From), (.int .i64 r.1.To)]), .d (.int .i64 r.2)] []) (kL Try.f20 21) ⟨114, [(0, .d (.str text)), (1, .d (.int .i64 at_)), (4, .ref 4 1 0), (11, .d (.sl (List.map D.str all))), (12, .d (.int .i64 i))], [(4, 1, some (.agg (.agg [(.int .i64 o4.K), (.int .i64 o4.N), (.str o4.S), (.int .i64 o4.From), (.int .i64 o4.To)])))], [], 0⟩
theorem G_ref05One_L21 : ∀ i r, fixF F_ref05One_L21 i = some r → M_ref05One_L21 i r := by
  refine fixF_induct D_ref05One_L21 fun g ih i => ?_
  cases i with
  | ref05One_L21 text at_ all i o4 =>
    have ih_ref05One_L21 : ∀ (text : Str) (at_ : Int) (all : List Str) (i : Int) (o4 : Token) (r : Token × Int), g (I_ref05One_L21.ref05One_L21 text at_ all i o4) = some r → Ok (c_ref05One (Trip Try.prog) [.d (.agg [(.int .i64 r.1.K), (.int .i64 r.1.N), (.str r.1.S), (.int .i64 r.1.From), (.int .i64 r.1.To)]), .d (.int .i64 r.2)] []) (kL Try.f20 21) ⟨114, [(0, .d (.str text)), (1, .d (.int .i64 at_)), (4, .ref 4 1 0), (11, .d (.sl (List.map D.str all))), (12, .d (.int .i64 i))], [(4, 1, some (.agg (.agg [(.int .i64 o4.K), (.int .i64 o4.N), (.str o4.S), (.int .i64 o4.From), (.int .i64 o4.To)])))], [], 0⟩ := fun text at_ all i o4 r h => ih (.ref05One_L21 text at_ all i o4) r h
    intro r h
    show Ok (c_ref05One (Trip Try.prog) [.d (.agg [(.int .i64 r.1.K), (.int .i64 r.1.N), (.str r.1.S), (.int .i64 r.1.From), (.int .i64 r.1.To)]), .d (.int .i64 r.2)] []) (kL Try.f20 21) ⟨114, [(0, .d (.str text)), (1, .d (.int .i64 at_)), (4, .ref 4 1 0), (11, .d (.sl (List.map D.str all))), (12, .d (.int .i64 i))], [(4, 1, some (.agg (.agg [(.int .i64 o4.K), (.int .i64 o4.N), (.str o4.S), (.int .i64 o4.From), (.int .i64 o4.To)])))], [], 0⟩
    replace h : ref05One_L21_B (fun text at_ all i o4 => g (I_ref05One_L21.ref05One_L21 text at_ all i o4)) text at_ all i o4 = some r := h
    unfold ref05One_L21_B at h
    refine ok_ev 1000 (e_ref05One_L21 _ _ text at_ all i o4 _ _) ?_
    refine w_nam (e' := (List.length all : Int)) (by first | rfl | rw [List.length_map]) ?_
    rintro _ rfl
    refine w_condH decide_eq_true_iff h (fun hc114 h => ?_) (fun hc114 h => ?_)
    ·
      obtain ⟨x, hx, h⟩ := w_bind h
      refine ⟨sizedL (l := all) (fun _ => rfl), w_ge hx, x, w_get rfl hx, ?_⟩
      obtain ⟨q1, hq, h⟩ := w_bind h
      refine ⟨q1, ⟨_, T_ref05Begins _ _ _ _ hq⟩, ?_⟩
      refine w_condH Iff.rfl h (fun hc115 h => ?_) (fun hc115 h => ?_)
      ·
        obtain ⟨x1, hx, h⟩ := w_bind h
        refine ⟨sizedL (l := all) (fun _ => rfl), w_ge hx, x1, w_get rfl hx, ?_⟩
        obtain ⟨x2, hx, h⟩ := w_bind h
        refine ⟨sizedL (l := all) (fun _ => rfl), w_ge hx, x2, w_get rfl hx, ?_⟩
        rintro _ rfl
        rintro _ rfl
        cases h; exact ⟨rfl, rfl⟩
      ·
        rintro _ rfl
        exact ih_ref05One_L21 _ _ _ _ _ _ h
    ·
      cases h; exact ⟨rfl, rfl⟩
theorem T_ref05One_L21 (text : Str) (at_ : Int) (all : List Str) (i : Int) (o4 : Token) (r : Token × Int) (h : ref05One_L21 text at_ all i o4 = some r) : Ok (c_ref05One (Trip Try.prog) [.d (.agg [(.int .i64 r.1.K), (.int .i64 r.1.N), (.str r.1.S), (.int .i64 r.1.From), (.int .i64 r.1.To)]), .d (.int .i64 r.2)] []) (kL Try.f20 21) ⟨114, [(0, .d (.str text)), (1, .d (.int .i64 at_)), (4, .ref 4 1 0), (11, .d (.sl (List.map D.str all))), (12, .d (.int .i64 i))], [(4, 1, some (.agg (.agg [(.int .i64 o4.K), (.int .i64 o4.N), (.str o4.S), (.int .i64 o4.From), (.int .i64 o4.To)])))], [], 0⟩ := G_ref05One_L21 (.ref05One_L21 text at_ all i o4) r h
def M_ref05Among_L2 : (i : I_ref05Among_L2) → R_ref05Among_L2 i → Prop
  | .ref05Among_L2 s all i, r => Ok (c_ref05Among (Trip Try.prog) [.d (.bool r)] []) (kL Try.f26 2) ⟨18, [(0, .d (.str s)), (1, .d (.sl (List.map D.str all))), (5, .d (.int .i64 i))], [], [], 0⟩
theorem G_ref05Among_L2 : ∀ i r, fixF F_ref05Among_L2 i = some r → M_ref05Among_L2 i r := by
  refine fixF_induct D_ref05Among_L2 fun g ih i => ?_
  cases i with
  | ref05Among_L2 s all i =>
    have ih_ref05Among_L2 : ∀ (s : Str) (all : List Str) (i : Int) (r : Bool), g (I_ref05Among_L2.ref05Among_L2 s all i) = some r → Ok (c_ref05Among (Trip Try.prog) [.d (.bool r)] []) (kL Try.f26 2) ⟨18, [(0, .d (.str s)), (1, .d (.sl (List.map D.str all))), (5, .d (.int .i64 i))], [], [], 0⟩ := fun s all i r h => ih (.ref05Among_L2 s all i) r h
    intro r h
    show Ok (c_ref05Among (Trip Try.prog) [.d (.bool r)] []) (kL Try.f26 2) ⟨18, [(0, .d (.str s)), (1, .d (.sl (List.map D.str all))), (5, .d (.int .i64 i))], [], [], 0⟩
    replace h : ref05Among_L2_B (fun s all i => g (I_ref05Among_L2.ref05Among_L2 s all i)) s all i = some r := h
    unfold ref05Among_L2_B at h
    refine ok_ev 1000 (e_ref05Among_L2 _ _ s all i _ _) ?_
    refine w_nam (e' := (List.length all : Int)) (by first | rfl | rw [List.length_map]) ?_
    rintro _ rfl
    refine w_condH decide_eq_true_iff h (fun hc116 h => ?_) (fun hc116 h => ?_)
    ·
      obtain ⟨x, hx, h⟩ := w_bind h
      refine ⟨sizedL (l := all) (fun _ => rfl), w_ge hx, x, w_get rfl hx, ?_⟩
      rintro _ rfl
      refine w_condH beq_iff_eq h (fun hc117 h => ?_) (fun hc117 h => ?_)
      ·
        cases h; exact ⟨rfl, rfl⟩
      ·
        rintro _ rfl
        exact ih_ref05Among_L2 _ _ _ _ h
    ·
      cases h; exact ⟨rfl, rfl⟩
theorem T_ref05Among_L2 (s : Str) (all : List Str) (i : Int) (r : Bool) (h : ref05Among_L2 s all i = some r) : Ok (c_ref05Among (Trip Try.prog) [.d (.bool r)] []) (kL Try.f26 2) ⟨18, [(0, .d (.str s)), (1, .d (.sl (List.map D.str all))), (5, .d (.int .i64 i))], [], [], 0⟩ := G_ref05Among_L2 (.ref05Among_L2 s all i) r h
theorem T_ref05Among (s : Str) (all : List Str) (r : Bool) (h : ref05Among s all = some r) : Trip Try.prog 26 [.d (.str s), .d (.sl (List.map D.str all))] [] [.d (.bool r)] [] := by
  unfold ref05Among at h
  refine trip_ev 1000 (by kernel_rfl) (by kernel_rfl) (by kernel_rfl) (by kernel_rfl) (e_ref05Among _ _ s all _ _) ?_
  exact T_ref05Among_L2 _ _ _ _ h
theorem T_ref05Words  (r : List Str) (h : ref05Words = some r) : Trip Try.prog 27 [] [] [.d (.sl (List.map D.str r))] [] := by
  unfold ref05Words at h
  refine trip_ev 1000 (by kernel_rfl) (by kernel_rfl) (by kernel_rfl) (by kernel_rfl) (e_ref05Words _ _  _ _) ?_
  cases h; exact ⟨rfl, rfl⟩
def M_ref05One_L4 : (i : I_ref05One_L4) → R_ref05One_L4 i → Prop
  | .ref05One_L4 text at_ to_ o4, r => Ok (c_ref05One (Trip Try.prog) [.d (.agg [(.int .i64 r.1.K), (.int .i64 r.1.N), (.str r.1.S), (.int .i64 r.1.From), (.int .i64 r.1.To)]), .d (.int .i64 r.2)] []) (kL Try.f20 4) ⟨114, [(0, .d (.str text)), (1, .d (.int .i64 at_)), (4, .ref 4 1 0), (7, .d (.int .i64 to_))], [(4, 1, some (.agg (.agg [(.int .i64 o4.K), (.int .i64 o4.N), (.str o4.S), (.int .i64 o4.From), (.int .i64 o4.To)])))], [], 0⟩
theorem G_ref05One_L4 : ∀ i r, fixF F_ref05One_L4 i = some r → M_ref05One_L4 i r := by
  refine fixF_induct D_ref05One_L4 fun g ih i => ?_
  cases i with
  | ref05One_L4 text at_ to_ o4 =>
    have ih_ref05One_L4 : ∀ (text : Str) (at_ : Int) (to_ : Int) (o4 : Token) (r : Token × Int), g (I_ref05One_L4.ref05One_L4 text at_ to_ o4) = some r → Ok (c_ref05One (Trip Try.prog) [.d (.agg [(.int .i64 r.1.K), (.int .i64 r.1.N), (.str r.1.S), (.int .i64 r.1.From), (.int .i64 r.1.To)]), .d (.int .i64 r.2)] []) (kL Try.f20 4) ⟨114, [(0, .d (.str text)), (1, .d (.int .i64 at_)), (4, .ref 4 1 0), (7, .d (.int .i64 to_))], [(4, 1, some (.agg (.agg [(.int .i64 o4.K), (.int .i64 o4.N), (.str o4.S), (.int .i64 o4.From), (.int .i64 o4.To)])))], [], 0⟩ := fun text at_ to_ o4 r h => ih (.ref05One_L4 text at_ to_ o4) r h
    intro r h
    show Ok (c_ref05One (Trip Try.prog) [.d (.agg [(.int .i64 r.1.K), (.int .i64 r.1.N), (.str r.1.S), (.int .i64 r.1.From), (.int .i64 r.1.To)]), .d (.int .i64 r.2)] []) (kL Try.f20 4) ⟨114, [(0, .d (.str text)), (1, .d (.int .i64 at_)), (4, .ref 4 1 0), (7, .d (.int .i64 to_))], [(4, 1, some (.agg (.agg [(.int .i64 o4.K), (.int .i64 o4.N), (.str o4.S), (.int .i64 o4.From), (.int .i64 o4.To)])))], [], 0⟩
    replace h : ref05One_L4_B (fun text at_ to_ o4 => g (I_ref05One_L4.ref05One_L4 text at_ to_ o4)) text at_ to_ o4 = some r := h
    unfold ref05One_L4_B at h
    refine ok_ev 1000 (e_ref05One_L4 _ _ text at_ to_ o4 _ _) ?_
    rintro _ rfl
    rintro _ rfl
    refine w_condH decide_eq_true_iff h (fun hc118 h => ?_) (fun hc118 h => ?_)
    ·
      obtain ⟨c, hx, h⟩ := w_bind h
      refine ⟨w_ge hx, c, w_at hx, ?_⟩
      rintro _ rfl
      obtain ⟨q1, hq, h⟩ := w_bind h
      refine ⟨q1, ⟨_, T_ref05Letter _ _ hq⟩, ?_⟩
      refine w_condH Iff.rfl h (fun hc119 h => ?_) (fun hc119 h => ?_)
      ·
        rintro _ rfl
        exact ih_ref05One_L4 _ _ _ _ _ h
      ·
        obtain ⟨c1, hx, h⟩ := w_bind h
        refine ⟨w_ge hx, c1, w_at hx, ?_⟩
        rintro _ rfl
        obtain ⟨q2, hq, h⟩ := w_bind h
        refine ⟨q2, ⟨_, T_ref05Digit _ _ hq⟩, ?_⟩
        refine w_condH Iff.rfl h (fun hc120 h => ?_) (fun hc120 h => ?_)
        ·
          rintro _ rfl
          exact ih_ref05One_L4 _ _ _ _ _ h
        ·
          rintro _ rfl
          rintro _ rfl
          refine w_condH decide_eq_true_iff h (fun hc121 h => ?_) (fun hc121 h => ?_)
          ·
            cases h; exact ⟨rfl, rfl⟩
          ·
            obtain ⟨hP, h⟩ := w_chk h
            refine ⟨by first | exact hP | (simp only [List.length_map, List.length_cons, List.length_nil] at hP ⊢; exact hP), ?_⟩
            obtain ⟨hP, h⟩ := w_chk h
            refine ⟨by first | exact hP | (simp only [List.length_map, List.length_cons, List.length_nil] at hP ⊢; exact hP), ?_⟩
            obtain ⟨hP, h⟩ := w_chk h
            refine ⟨by first | exact hP | (simp only [List.length_map, List.length_cons, List.length_nil] at hP ⊢; exact hP), ?_⟩
            obtain ⟨hP, h⟩ := w_chk h
            refine ⟨by first | exact hP | (simp only [List.length_map, List.length_cons, List.length_nil] at hP ⊢; exact hP), ?_⟩
            rintro _ rfl
            obtain ⟨q3, hq, h⟩ := w_bind h
            refine ⟨List.map D.str q3, ⟨_, T_ref05Words _ hq⟩, ?_⟩
            obtain ⟨q4, hq, h⟩ := w_bind h
            refine ⟨q4, ⟨_, T_ref05Among _ _ _ hq⟩, ?_⟩
            refine w_condH Iff.rfl h (fun hc122 h => ?_) (fun hc122 h => ?_)
            ·
              cases h; exact ⟨rfl, rfl⟩
            ·
              cases h; exact ⟨rfl, rfl⟩
    ·
      rintro _ rfl
      rintro _ rfl
      refine w_condH decide_eq_true_iff h (fun hc123 h => ?_) (fun hc123 h => ?_)
      ·
        cases h; exact ⟨rfl, rfl⟩
      ·
        obtain ⟨hP, h⟩ := w_chk h
        refine ⟨by first | exact hP | (simp only [List.length_map, List.length_cons, List.length_nil] at hP ⊢; exact hP), ?_⟩
        obtain ⟨hP, h⟩ := w_chk h
        refine ⟨by first | exact hP | (simp only [List.length_map, List.length_cons, List.length_nil] at hP ⊢; exact hP), ?_⟩
        obtain ⟨hP, h⟩ := w_chk h
        refine ⟨by first | exact hP | (simp only [List.length_map, List.length_cons, List.length_nil] at hP ⊢; exact hP), ?_⟩
        obtain ⟨hP, h⟩ := w_chk h
        refine ⟨by first | exact hP | (simp only [List.length_map, List.length_cons, List.length_nil] at hP ⊢; exact hP), ?_⟩
        rintro _ rfl
        obtain ⟨q5, hq, h⟩ := w_bind h
        refine ⟨List.map D.str q5, ⟨_, T_ref05Words _ hq⟩, ?_⟩
        obtain ⟨q6, hq, h⟩ := w_bind h
        refine ⟨q6, ⟨_, T_ref05Among _ _ _ hq⟩, ?_⟩
        refine w_condH Iff.rfl h (fun hc124 h => ?_) (fun hc124 h => ?_)
        ·
          cases h; exact ⟨rfl, rfl⟩
        ·
          cases h; exact ⟨rfl, rfl⟩
theorem T_ref05One_L4 (text : Str) (at_ : Int) (to_ : Int) (o4 : Token) (r : Token × Int) (h : ref05One_L4 text at_ to_ o4 = some r) : Ok (c_ref05One (Trip Try.prog) [.d (.agg [(.int .i64 r.1.K), (.int .i64 r.1.N), (.str r.1.S), (.int .i64 r.1.From), (.int .i64 r.1.To)]), .d (.int .i64 r.2)] []) (kL Try.f20 4) ⟨114, [(0, .d (.str text)), (1, .d (.int .i64 at_)), (4, .ref 4 1 0), (7, .d (.int .i64 to_))], [(4, 1, some (.agg (.agg [(.int .i64 o4.K), (.int .i64 o4.N), (.str o4.S), (.int .i64 o4.From), (.int .i64 o4.To)])))], [], 0⟩ := G_ref05One_L4 (.ref05One_L4 text at_ to_ o4) r h
theorem T_ref05Signs  (r : List Str) (h : ref05Signs = some r) : Trip Try.prog 38 [] [] [.d (.sl (List.map D.str r))] [] := by
  unfold ref05Signs at h
  refine trip_ev 1000 (by kernel_rfl) (by kernel_rfl) (by kernel_rfl) (by kernel_rfl) (e_ref05Signs _ _  _ _) ?_
  cases h; exact ⟨rfl, rfl⟩
theorem T_ref05One (text : Str) (at_ : Int) (r : Token × Int) (h : ref05One text at_ = some r) : Trip Try.prog 20 [.d (.str text), .d (.int .i64 at_)] [] [.d (.agg [(.int .i64 r.1.K), (.int .i64 r.1.N), (.str r.1.S), (.int .i64 r.1.From), (.int .i64 r.1.To)]), .d (.int .i64 r.2)] [] := by
  unfold ref05One at h
  refine trip_ev 1000 (by kernel_rfl) (by kernel_rfl) (by kernel_rfl) (by kernel_rfl) (e_ref05One _ _ text at_ _ _) ?_
  obtain ⟨c, hx, h⟩ := w_bind h
  refine ⟨w_ge hx, c, w_at hx, ?_⟩
  rintro _ rfl
  obtain ⟨q1, hq, h⟩ := w_bind h
  refine ⟨q1, ⟨_, T_ref05Letter _ _ hq⟩, ?_⟩
  refine w_condH Iff.rfl h (fun hc125 h => ?_) (fun hc125 h => ?_)
  ·
    exact T_ref05One_L4 _ _ _ _ _ h
  ·
    obtain ⟨q2, hq, h⟩ := w_bind h
    refine ⟨q2, ⟨_, T_ref05Digit _ _ hq⟩, ?_⟩
    refine w_condH Iff.rfl h (fun hc126 h => ?_) (fun hc126 h => ?_)
    ·
      exact T_ref05One_L13 _ _ _ _ _ h
    ·
      obtain ⟨q3, hq, h⟩ := w_bind h
      refine ⟨List.map D.str q3, ⟨_, T_ref05Signs _ hq⟩, ?_⟩
      exact T_ref05One_L21 _ _ _ _ _ _ h
def M_ref05Tokens_L5 : (i : I_ref05Tokens_L5) → R_ref05Tokens_L5 i → Prop
  | .ref05Tokens_L5 text out at_, r => Ok (c_ref05Tokens (Trip Try.prog) [.d (.sl (List.map Token.toD r.1)), .d (.int .i64 r.2.1), .d (.int .i64 r.2.2)] []) (kL Try.f8 5) ⟨47, [(0, .d (.str text)), (5, .right 9 1 5 (List.map Token.toD out)), (6, .d (.int .i64 at_))], [(9, 1, some (.tok 5 (List.length (List.map Token.toD out))))], [], 0⟩
theorem G_ref05Tokens_L5 : ∀ i r, fixF F_ref05Tokens_L5 i = some r → M_ref05Tokens_L5 i r := by
  refine fixF_induct D_ref05Tokens_L5 fun g ih i => ?_
  cases i with
  | ref05Tokens_L5 text out at_ =>
    have ih_ref05Tokens_L5 : ∀ (text : Str) (out : List Token) (at_ : Int) (r : List Token × Int × Int), g (I_ref05Tokens_L5.ref05Tokens_L5 text out at_) = some r → Ok (c_ref05Tokens (Trip Try.prog) [.d (.sl (List.map Token.toD r.1)), .d (.int .i64 r.2.1), .d (.int .i64 r.2.2)] []) (kL Try.f8 5) ⟨47, [(0, .d (.str text)), (5, .right 9 1 5 (List.map Token.toD out)), (6, .d (.int .i64 at_))], [(9, 1, some (.tok 5 (List.length (List.map Token.toD out))))], [], 0⟩ := fun text out at_ r h => ih (.ref05Tokens_L5 text out at_) r h
    intro r h
    show Ok (c_ref05Tokens (Trip Try.prog) [.d (.sl (List.map Token.toD r.1)), .d (.int .i64 r.2.1), .d (.int .i64 r.2.2)] []) (kL Try.f8 5) ⟨47, [(0, .d (.str text)), (5, .right 9 1 5 (List.map Token.toD out)), (6, .d (.int .i64 at_))], [(9, 1, some (.tok 5 (List.length (List.map Token.toD out))))], [], 0⟩
    replace h : ref05Tokens_L5_B (fun text out at_ => g (I_ref05Tokens_L5.ref05Tokens_L5 text out at_)) text out at_ = some r := h
    unfold ref05Tokens_L5_B at h
    refine ok_ev 1000 (e_ref05Tokens_L5 _ _ text out at_ _ _) ?_
    rintro _ rfl
    rintro _ rfl
    refine w_condH decide_eq_true_iff h (fun hc127 h => ?_) (fun hc127 h => ?_)
    ·
      obtain ⟨q1, hq, h⟩ := w_bind h
      refine ⟨q1.1.K, q1.1.N, q1.1.S, q1.1.From, q1.1.To, q1.2, ⟨_, T_ref05One _ _ _ hq⟩, ?_⟩
      rintro _ rfl
      refine w_condN beq_iff_eq h (fun hc128 h => ?_) (fun hc128 h => ?_)
      ·
        refine ⟨by simp [sized, D.cells], ?_⟩
        refine ⟨by first | rfl | decide | simp only [List.length_map, List.length_cons, List.length_nil, List.map_append, List.length_append], ?_⟩
        obtain ⟨hP, h⟩ := w_chk h
        refine ⟨by first | exact hP | (simp only [List.length_map, List.length_cons, List.length_nil] at hP ⊢; exact hP), ?_⟩
        refine w_nam (e' := List.map Token.toD (out ++ [q1.1])) (by first | rfl | simp only [List.map_append, List.map_cons, List.map_nil, List.map_take, List.map_drop, List.map_set, List.map_replicate, List.length_map, Token.toD_eq]) ?_
        obtain ⟨q2, hq, h⟩ := w_bind h
        refine ⟨q2, ⟨_, T_ref05Next _ _ _ hq⟩, ?_⟩
        exact ih_ref05Tokens_L5 _ _ _ _ h
      ·
        cases h; exact ⟨rfl, rfl⟩
    ·
      rintro _ rfl
      rintro _ rfl
      refine ⟨by simp [sized, D.cells], ?_⟩
      refine ⟨by first | rfl | decide | simp only [List.length_map, List.length_cons, List.length_nil, List.map_append, List.length_append], ?_⟩
      obtain ⟨hP, h⟩ := w_chk h
      refine ⟨by first | exact hP | (simp only [List.length_map, List.length_cons, List.length_nil] at hP ⊢; exact hP), ?_⟩
      refine w_nam (e' := List.map Token.toD (out ++ [(Token.mk 5 0 ([] : List UInt8) (List.length text : Int) (List.length text : Int))])) (by first | rfl | simp only [List.map_append, List.map_cons, List.map_nil, List.map_take, List.map_drop, List.map_set, List.map_replicate, List.length_map, Token.toD_eq]) ?_
      cases h; exact ⟨rfl, rfl⟩
theorem T_ref05Tokens_L5 (text : Str) (out : List Token) (at_ : Int) (r : List Token × Int × Int) (h : ref05Tokens_L5 text out at_ = some r) : Ok (c_ref05Tokens (Trip Try.prog) [.d (.sl (List.map Token.toD r.1)), .d (.int .i64 r.2.1), .d (.int .i64 r.2.2)] []) (kL Try.f8 5) ⟨47, [(0, .d (.str text)), (5, .right 9 1 5 (List.map Token.toD out)), (6, .d (.int .i64 at_))], [(9, 1, some (.tok 5 (List.length (List.map Token.toD out))))], [], 0⟩ := G_ref05Tokens_L5 (.ref05Tokens_L5 text out at_) r h
theorem T_ref05Tokens (text : Str) (r : List Token × Int × Int) (h : ref05Tokens text = some r) : Trip Try.prog 8 [.d (.str text)] [] [.d (.sl (List.map Token.toD r.1)), .d (.int .i64 r.2.1), .d (.int .i64 r.2.2)] [] := by
  unfold ref05Tokens at h
  refine trip_ev 1000 (by kernel_rfl) (by kernel_rfl) (by kernel_rfl) (by kernel_rfl) (e_ref05Tokens _ _ text _ _) ?_
  rintro _ rfl
  rintro _ rfl
  refine w_condH decide_eq_true_iff h (fun hc129 h => ?_) (fun hc129 h => ?_)
  ·
    cases h; exact ⟨rfl, rfl⟩
  ·
    obtain ⟨q1, hq, h⟩ := w_bind h
    refine ⟨q1, ⟨_, T_ref05Next _ _ _ hq⟩, ?_⟩
    exact T_ref05Tokens_L5 _ _ _ _ h
theorem T_law05LexReads (text : Str) (r : Bool) (h : law05LexReads text = some r) : Trip Try.prog 3 [.d (.str text)] [] [.d (.bool r)] [] := by
  unfold law05LexReads at h
  refine trip_ev 1000 (by kernel_rfl) (by kernel_rfl) (by kernel_rfl) (by kernel_rfl) (e_law05LexReads _ _ text _ _) ?_
  obtain ⟨q1, hq, h⟩ := w_bind h
  refine ⟨List.map Token.toD q1.1, q1.2.1, q1.2.2.1, ⟨_, T_lex_Tokens _ _ hq⟩, ?_⟩
  obtain ⟨q2, hq, h⟩ := w_bind h
  refine ⟨List.map Token.toD q2.1, q2.2.1, q2.2.2, ⟨_, T_ref05Tokens _ _ hq⟩, ?_⟩
  rintro _ rfl
  refine w_condH beq_iff_eq h (fun hc130 h => ?_) (fun hc130 h => ?_)
  ·
    rintro _ rfl
    refine w_condH beq_iff_eq h (fun hc131 h => ?_) (fun hc131 h => ?_)
    ·
      obtain ⟨q3, hq, h⟩ := w_bind h
      refine ⟨q3, ⟨_, T_ref05Same _ _ _ hq⟩, ?_⟩
      refine w_condH Iff.rfl h (fun hc132 h => ?_) (fun hc132 h => ?_)
      ·
        obtain ⟨q4, hq, h⟩ := w_bind h
        refine ⟨q4, ⟨_, T_law05awake _ hq⟩, ?_⟩
        cases h; exact ⟨rfl, rfl⟩
      ·
        cases h; exact ⟨rfl, rfl⟩
    ·
      cases h; exact ⟨rfl, rfl⟩
  ·
    cases h; exact ⟨rfl, rfl⟩
def M_law05LexBack_L17 : (i : I_law05LexBack_L17) → R_law05LexBack_L17 i → Prop
  | .law05LexBack_L17 x y i, r => Ok (c_law05LexBack (Trip Try.prog) [.d (.bool r)] []) (kL Try.f5 17) ⟨107, [(3, .d (.sl (List.map Token.toD x))), (8, .d (.sl (List.map Token.toD y))), (10, .d (.int .i64 i))], [], [], 0⟩
theorem G_law05LexBack_L17 : ∀ i r, fixF F_law05LexBack_L17 i = some r → M_law05LexBack_L17 i r := by
  refine fixF_induct D_law05LexBack_L17 fun g ih i => ?_
  cases i with
  | law05LexBack_L17 x y i =>
    have ih_law05LexBack_L17 : ∀ (x : List Token) (y : List Token) (i : Int) (r : Bool), g (I_law05LexBack_L17.law05LexBack_L17 x y i) = some r → Ok (c_law05LexBack (Trip Try.prog) [.d (.bool r)] []) (kL Try.f5 17) ⟨107, [(3, .d (.sl (List.map Token.toD x))), (8, .d (.sl (List.map Token.toD y))), (10, .d (.int .i64 i))], [], [], 0⟩ := fun x y i r h => ih (.law05LexBack_L17 x y i) r h
    intro r h
    show Ok (c_law05LexBack (Trip Try.prog) [.d (.bool r)] []) (kL Try.f5 17) ⟨107, [(3, .d (.sl (List.map Token.toD x))), (8, .d (.sl (List.map Token.toD y))), (10, .d (.int .i64 i))], [], [], 0⟩
    replace h : law05LexBack_L17_B (fun x y i => g (I_law05LexBack_L17.law05LexBack_L17 x y i)) x y i = some r := h
    unfold law05LexBack_L17_B at h
    refine ok_ev 1000 (e_law05LexBack_L17 _ _ x y i _ _) ?_
    refine w_nam (e' := (List.length x : Int)) (by first | rfl | rw [List.length_map]) ?_
    rintro _ rfl
    refine w_condH decide_eq_true_iff h (fun hc133 h => ?_) (fun hc133 h => ?_)
    ·
      obtain ⟨x1, hx, h⟩ := w_bind h
      refine ⟨sizedL (l := x) (Token.sz), w_ge hx, x1.K, x1.N, x1.S, x1.From, x1.To, w_get (Token.toD_eq x1) hx, ?_⟩
      obtain ⟨x2, hx, h⟩ := w_bind h
      refine ⟨sizedL (l := y) (Token.sz), w_ge hx, x2.K, x2.N, x2.S, x2.From, x2.To, w_get (Token.toD_eq x2) hx, ?_⟩
      rintro _ rfl
      refine w_condN beq_iff_eq h (fun hc134 h => ?_) (fun hc134 h => ?_)
      ·
        obtain ⟨x3, hx, h⟩ := w_bind h
        refine ⟨sizedL (l := x) (Token.sz), w_ge hx, x3.K, x3.N, x3.S, x3.From, x3.To, w_get (Token.toD_eq x3) hx, ?_⟩
        obtain ⟨x4, hx, h⟩ := w_bind h
        refine ⟨sizedL (l := y) (Token.sz), w_ge hx, x4.K, x4.N, x4.S, x4.From, x4.To, w_get (Token.toD_eq x4) hx, ?_⟩
        rintro _ rfl
        refine w_condN beq_iff_eq h (fun hc135 h => ?_) (fun hc135 h => ?_)
        ·
          obtain ⟨x5, hx, h⟩ := w_bind h
          refine ⟨sizedL (l := x) (Token.sz), w_ge hx, x5.K, x5.N, x5.S, x5.From, x5.To, w_get (Token.toD_eq x5) hx, ?_⟩
          obtain ⟨x6, hx, h⟩ := w_bind h
          refine ⟨sizedL (l := y) (Token.sz), w_ge hx, x6.K, x6.N, x6.S, x6.From, x6.To, w_get (Token.toD_eq x6) hx, ?_⟩
          rintro _ rfl
          refine w_condN beq_iff_eq h (fun hc136 h => ?_) (fun hc136 h => ?_)
          ·
            rintro _ rfl
            exact ih_law05LexBack_L17 _ _ _ _ h
          ·
            cases h; exact ⟨rfl, rfl⟩
        ·
          cases h; exact ⟨rfl, rfl⟩
      ·
        cases h; exact ⟨rfl, rfl⟩
    ·
      obtain ⟨q1, hq, h⟩ := w_bind h
      refine ⟨q1, ⟨_, T_law05awake _ hq⟩, ?_⟩
      cases h; exact ⟨rfl, rfl⟩
theorem T_law05LexBack_L17 (x : List Token) (y : List Token) (i : Int) (r : Bool) (h : law05LexBack_L17 x y i = some r) : Ok (c_law05LexBack (Trip Try.prog) [.d (.bool r)] []) (kL Try.f5 17) ⟨107, [(3, .d (.sl (List.map Token.toD x))), (8, .d (.sl (List.map Token.toD y))), (10, .d (.int .i64 i))], [], [], 0⟩ := G_law05LexBack_L17 (.law05LexBack_L17 x y i) r h
def M_lex_Digits_L6 : (i : I_lex_Digits_L6) → R_lex_Digits_L6 i → Prop
  | .lex_Digits_L6 n i u b, r => Ok (c_lex_Digits (Trip Try.prog) [.d (.str r)] []) (kL Try.f13 6) ⟨33, [(0, .d (.int .i64 n)), (3, .ref 3 1 0), (4, .d (.int .i64 i)), (5, .d (.int .u64 u))], [(3, 1, some (.row 1 (List.map (D.int .u8) b)))], [], 0⟩
theorem G_lex_Digits_L6 : ∀ i r, fixF F_lex_Digits_L6 i = some r → M_lex_Digits_L6 i r := by
  refine fixF_induct D_lex_Digits_L6 fun g ih i => ?_
  cases i with
  | lex_Digits_L6 n i u b =>
    have ih_lex_Digits_L6 : ∀ (n : Int) (i : Int) (u : Int) (b : List Int) (r : Str), g (I_lex_Digits_L6.lex_Digits_L6 n i u b) = some r → Ok (c_lex_Digits (Trip Try.prog) [.d (.str r)] []) (kL Try.f13 6) ⟨33, [(0, .d (.int .i64 n)), (3, .ref 3 1 0), (4, .d (.int .i64 i)), (5, .d (.int .u64 u))], [(3, 1, some (.row 1 (List.map (D.int .u8) b)))], [], 0⟩ := fun n i u b r h => ih (.lex_Digits_L6 n i u b) r h
    intro r h
    show Ok (c_lex_Digits (Trip Try.prog) [.d (.str r)] []) (kL Try.f13 6) ⟨33, [(0, .d (.int .i64 n)), (3, .ref 3 1 0), (4, .d (.int .i64 i)), (5, .d (.int .u64 u))], [(3, 1, some (.row 1 (List.map (D.int .u8) b)))], [], 0⟩
    replace h : lex_Digits_L6_B (fun n i u b => g (I_lex_Digits_L6.lex_Digits_L6 n i u b)) n i u b = some r := h
    unfold lex_Digits_L6_B at h
    refine ok_ev 1000 (e_lex_Digits_L6 _ _ n i u b _ _) ?_
    rintro _ rfl
    obtain ⟨hP, h⟩ := w_chk h
    refine ⟨by first | exact hP | (simp only [List.length_map, List.length_cons, List.length_nil] at hP ⊢; exact hP), ?_⟩
    rintro _ rfl
    rintro _ rfl
    rintro _ rfl
    obtain ⟨hP, h⟩ := w_chk h
    refine ⟨by first | exact hP.1 | (simp only [List.length_map] at hP ⊢; exact hP.1), by first | exact hP.2.1 | (simp only [List.length_map] at hP ⊢; exact hP.2.1), by first | exact hP.2.2 | (simp only [List.length_map] at hP ⊢; exact hP.2.2), ?_⟩
    obtain ⟨hP, h⟩ := w_chk h
    refine ⟨by first | exact hP | (rw [List.length_map]; exact hP), ?_⟩
    refine w_nam (e' := List.map (D.int .u8) (b.set (Int.toNat (IntKind.wrap .i64 (i - 1))) (IntKind.wrap .u8 (IntKind.wrap .u64 (48 + (Int.tmod u 10)))))) (w_set rfl) ?_
    obtain ⟨hP, h⟩ := w_chk h
    refine ⟨by first | exact hP | (simp only [List.length_map, List.length_cons, List.length_nil] at hP ⊢; exact hP), ?_⟩
    rintro _ rfl
    rintro _ rfl
    refine w_condH beq_iff_eq h (fun hc137 h => ?_) (fun hc137 h => ?_)
    ·
      rintro _ rfl
      refine w_condH decide_eq_true_iff h (fun hc138 h => ?_) (fun hc138 h => ?_)
      ·
        rintro _ rfl
        obtain ⟨hP, h⟩ := w_chk h
        refine ⟨by first | exact hP.1 | (simp only [List.length_map] at hP ⊢; exact hP.1), by first | exact hP.2.1 | (simp only [List.length_map] at hP ⊢; exact hP.2.1), by first | exact hP.2.2 | (simp only [List.length_map] at hP ⊢; exact hP.2.2), ?_⟩
        obtain ⟨hP, h⟩ := w_chk h
        refine ⟨by first | exact hP | (rw [List.length_map]; exact hP), ?_⟩
        refine w_nam (e' := List.map (D.int .u8) ((b.set (IntKind.wrap .i64 (i - 1)).toNat (IntKind.wrap .u8 (IntKind.wrap .u64 (48 + (Int.tmod u 10))))).set (Int.toNat (IntKind.wrap .i64 ((IntKind.wrap .i64 (i - 1)) - 1))) 45)) (w_set rfl) ?_
        obtain ⟨hP, h⟩ := w_chk h
        refine ⟨by first | exact hP | (simp only [List.length_map, List.length_cons, List.length_nil] at hP ⊢; exact hP), ?_⟩
        obtain ⟨hP, h⟩ := w_chk h
        refine ⟨by first | exact hP | (simp only [List.length_map, List.length_cons, List.length_nil] at hP ⊢; exact hP), ?_⟩
        obtain ⟨hP, h⟩ := w_chk h
        refine ⟨by first | exact hP | (simp only [List.length_map, List.length_cons, List.length_nil] at hP ⊢; exact hP), ?_⟩
        refine w_nam (e' := List.map (D.int .u8) (List.drop (Int.toNat (IntKind.wrap .i64 ((IntKind.wrap .i64 (i - 1)) - 1))) ((b.set (IntKind.wrap .i64 (i - 1)).toNat (IntKind.wrap .u8 (IntKind.wrap .u64 (48 + (Int.tmod u 10))))).set (IntKind.wrap .i64 ((IntKind.wrap .i64 (i - 1)) - 1)).toNat 45))) (by first | rfl | simp only [List.map_append, List.map_cons, List.map_nil, List.map_take, List.map_drop, List.map_set, List.map_replicate, List.length_map]) ?_
        obtain ⟨s, hx, h⟩ := w_bind h
        refine ⟨s, w_bytes hx, ?_⟩
        cases h; exact ⟨rfl, rfl⟩
      ·
        obtain ⟨hP, h⟩ := w_chk h
        refine ⟨by first | exact hP | (simp only [List.length_map, List.length_cons, List.length_nil] at hP ⊢; exact hP), ?_⟩
        obtain ⟨hP, h⟩ := w_chk h
        refine ⟨by first | exact hP | (simp only [List.length_map, List.length_cons, List.length_nil] at hP ⊢; exact hP), ?_⟩
        obtain ⟨hP, h⟩ := w_chk h
        refine ⟨by first | exact hP | (simp only [List.length_map, List.length_cons, List.length_nil] at hP ⊢; exact hP), ?_⟩
        refine w_nam (e' := List.map (D.int .u8) (List.drop (Int.toNat (IntKind.wrap .i64 (i - 1))) (b.set (IntKind.wrap .i64 (i - 1)).toNat (IntKind.wrap .u8 (IntKind.wrap .u64 (48 + (Int.tmod u 10))))))) (by first | rfl | simp only [List.map_append, List.map_cons, List.map_nil, List.map_take, List.map_drop, List.map_set, List.map_replicate, List.length_map]) ?_
        obtain ⟨s1, hx, h⟩ := w_bind h
        refine ⟨s1, w_bytes hx, ?_⟩
        cases h; exact ⟨rfl, rfl⟩
    ·
      exact ih_lex_Digits_L6 _ _ _ _ _ h
theorem T_lex_Digits_L6 (n : Int) (i : Int) (u : Int) (b : List Int) (r : Str) (h : lex_Digits_L6 n i u b = some r) : Ok (c_lex_Digits (Trip Try.prog) [.d (.str r)] []) (kL Try.f13 6) ⟨33, [(0, .d (.int .i64 n)), (3, .ref 3 1 0), (4, .d (.int .i64 i)), (5, .d (.int .u64 u))], [(3, 1, some (.row 1 (List.map (D.int .u8) b)))], [], 0⟩ := G_lex_Digits_L6 (.lex_Digits_L6 n i u b) r h
theorem T_lex_Digits (n : Int) (r : Str) (h : lex_Digits n = some r) : Trip Try.prog 13 [.d (.int .i64 n)] [] [.d (.str r)] [] := by
  unfold lex_Digits at h
  refine trip_ev 1000 (by kernel_rfl) (by kernel_rfl) (by kernel_rfl) (by kernel_rfl) (e_lex_Digits _ _ n _ _) ?_
  rintro _ rfl
  rintro _ rfl
  refine w_condH decide_eq_true_iff h (fun hc139 h => ?_) (fun hc139 h => ?_)
  ·
    rintro _ rfl
    exact T_lex_Digits_L6 _ _ _ _ _ h
  ·
    exact T_lex_Digits_L6 _ _ _ _ _ h
theorem T_lex_Spell (t : Token) (r : Str) (h : lex_Spell t = some r) : Trip Try.prog 15 [.d (.agg [(.int .i64 t.K), (.int .i64 t.N), (.str t.S), (.int .i64 t.From), (.int .i64 t.To)])] [] [.d (.str r)] [] := by
  unfold lex_Spell at h
  refine trip_ev 1000 (by kernel_rfl) (by kernel_rfl) (by kernel_rfl) (by kernel_rfl) (e_lex_Spell _ _ t _ _) ?_
  rintro _ rfl
  refine w_condH beq_iff_eq h (fun hc140 h => ?_) (fun hc140 h => ?_)
  ·
    refine w_condT beq_iff_eq hc140 ?_
    cases h; exact ⟨rfl, rfl⟩
  ·
    rintro _ rfl
    refine w_condH beq_iff_eq h (fun hc141 h => ?_) (fun hc141 h => ?_)
    ·
      refine w_condT beq_iff_eq hc141 ?_
      cases h; exact ⟨rfl, rfl⟩
    ·
      rintro _ rfl
      refine w_condH beq_iff_eq h (fun hc142 h => ?_) (fun hc142 h => ?_)
      ·
        cases h; exact ⟨rfl, rfl⟩
      ·
        rintro _ rfl
        refine w_condH beq_iff_eq h (fun hc143 h => ?_) (fun hc143 h => ?_)
        ·
          obtain ⟨q3, hq, h⟩ := w_bind h
          refine ⟨q3, ⟨_, T_lex_Digits _ _ hq⟩, ?_⟩
          cases h; exact ⟨rfl, rfl⟩
        ·
          cases h; exact ⟨rfl, rfl⟩
def M_law05LexBack_L6 : (i : I_law05LexBack_L6) → R_law05LexBack_L6 i → Prop
  | .law05LexBack_L6 x out i, r => Ok (c_law05LexBack (Trip Try.prog) [.d (.bool r)] []) (kL Try.f5 6) ⟨107, [(3, .d (.sl (List.map Token.toD x))), (6, .d (.str out)), (7, .d (.int .i64 i))], [], [], 0⟩
theorem G_law05LexBack_L6 : ∀ i r, fixF F_law05LexBack_L6 i = some r → M_law05LexBack_L6 i r := by
  refine fixF_induct D_law05LexBack_L6 fun g ih i => ?_
  cases i with
  | law05LexBack_L6 x out i =>
    have ih_law05LexBack_L6 : ∀ (x : List Token) (out : Str) (i : Int) (r : Bool), g (I_law05LexBack_L6.law05LexBack_L6 x out i) = some r → Ok (c_law05LexBack (Trip Try.prog) [.d (.bool r)] []) (kL Try.f5 6) ⟨107, [(3, .d (.sl (List.map Token.toD x))), (6, .d (.str out)), (7, .d (.int .i64 i))], [], [], 0⟩ := fun x out i r h => ih (.law05LexBack_L6 x out i) r h
    intro r h
    show Ok (c_law05LexBack (Trip Try.prog) [.d (.bool r)] []) (kL Try.f5 6) ⟨107, [(3, .d (.sl (List.map Token.toD x))), (6, .d (.str out)), (7, .d (.int .i64 i))], [], [], 0⟩
    replace h : law05LexBack_L6_B (fun x out i => g (I_law05LexBack_L6.law05LexBack_L6 x out i)) x out i = some r := h
    unfold law05LexBack_L6_B at h
    refine ok_ev 1000 (e_law05LexBack_L6 _ _ x out i _ _) ?_
    refine w_nam (e' := (List.length x : Int)) (by first | rfl | rw [List.length_map]) ?_
    rintro _ rfl
    refine w_condH decide_eq_true_iff h (fun hc144 h => ?_) (fun hc144 h => ?_)
    ·
      rintro _ rfl
      refine w_condH decide_eq_true_iff h (fun hc145 h => ?_) (fun hc145 h => ?_)
      ·
        refine w_nam (e' := (List.length x : Int)) (by first | rfl | rw [List.length_map]) ?_
        rintro _ rfl
        rintro _ rfl
        refine w_condH decide_eq_true_iff h (fun hc146 h => ?_) (fun hc146 h => ?_)
        ·
          obtain ⟨hP, h⟩ := w_chk h
          refine ⟨by first | exact hP | (simp only [List.length_map, List.length_cons, List.length_nil] at hP ⊢; exact hP), ?_⟩
          rintro _ rfl
          obtain ⟨x1, hx, h⟩ := w_bind h
          refine ⟨sizedL (l := x) (Token.sz), w_ge hx, x1.K, x1.N, x1.S, x1.From, x1.To, w_get (Token.toD_eq x1) hx, ?_⟩
          obtain ⟨q1, hq, h⟩ := w_bind h
          refine ⟨q1, ⟨_, T_lex_Spell _ _ hq⟩, ?_⟩
          obtain ⟨hP, h⟩ := w_chk h
          refine ⟨by first | exact hP | (simp only [List.length_map, List.length_cons, List.length_nil] at hP ⊢; exact hP), ?_⟩
          rintro _ rfl
          rintro _ rfl
          exact ih_law05LexBack_L6 _ _ _ _ h
        ·
          obtain ⟨x2, hx, h⟩ := w_bind h
          refine ⟨sizedL (l := x) (Token.sz), w_ge hx, x2.K, x2.N, x2.S, x2.From, x2.To, w_get (Token.toD_eq x2) hx, ?_⟩
          obtain ⟨q2, hq, h⟩ := w_bind h
          refine ⟨q2, ⟨_, T_lex_Spell _ _ hq⟩, ?_⟩
          obtain ⟨hP, h⟩ := w_chk h
          refine ⟨by first | exact hP | (simp only [List.length_map, List.length_cons, List.length_nil] at hP ⊢; exact hP), ?_⟩
          rintro _ rfl
          rintro _ rfl
          exact ih_law05LexBack_L6 _ _ _ _ h
      ·
        obtain ⟨x3, hx, h⟩ := w_bind h
        refine ⟨sizedL (l := x) (Token.sz), w_ge hx, x3.K, x3.N, x3.S, x3.From, x3.To, w_get (Token.toD_eq x3) hx, ?_⟩
        obtain ⟨q3, hq, h⟩ := w_bind h
        refine ⟨q3, ⟨_, T_lex_Spell _ _ hq⟩, ?_⟩
        obtain ⟨hP, h⟩ := w_chk h
        refine ⟨by first | exact hP | (simp only [List.length_map, List.length_cons, List.length_nil] at hP ⊢; exact hP), ?_⟩
        rintro _ rfl
        rintro _ rfl
        exact ih_law05LexBack_L6 _ _ _ _ h
    ·
      rintro _ rfl
      rintro _ rfl
      refine w_condH decide_eq_true_iff h (fun hc147 h => ?_) (fun hc147 h => ?_)
      ·
        obtain ⟨q4, hq, h⟩ := w_bind h
        refine ⟨q4, ⟨_, T_law05awake _ hq⟩, ?_⟩
        cases h; exact ⟨rfl, rfl⟩
      ·
        obtain ⟨q5, hq, h⟩ := w_bind h
        refine ⟨List.map Token.toD q5.1, q5.2.1, q5.2.2.1, ⟨_, T_lex_Tokens _ _ hq⟩, ?_⟩
        rintro _ rfl
        refine w_condN beq_iff_eq h (fun hc148 h => ?_) (fun hc148 h => ?_)
        ·
          refine w_nam (e' := (List.length x : Int)) (by first | rfl | rw [List.length_map]) ?_
          refine w_nam (e' := (List.length q5.1 : Int)) (by first | rfl | rw [List.length_map]) ?_
          rintro _ rfl
          refine w_condN beq_iff_eq h (fun hc149 h => ?_) (fun hc149 h => ?_)
          ·
            exact T_law05LexBack_L17 _ _ _ _ h
          ·
            cases h; exact ⟨rfl, rfl⟩
        ·
          cases h; exact ⟨rfl, rfl⟩
theorem T_law05LexBack_L6 (x : List Token) (out : Str) (i : Int) (r : Bool) (h : law05LexBack_L6 x out i = some r) : Ok (c_law05LexBack (Trip Try.prog) [.d (.bool r)] []) (kL Try.f5 6) ⟨107, [(3, .d (.sl (List.map Token.toD x))), (6, .d (.str out)), (7, .d (.int .i64 i))], [], [], 0⟩ := G_law05LexBack_L6 (.law05LexBack_L6 x out i) r h
theorem T_law05LexBack (text : Str) (r : Bool) (h : law05LexBack text = some r) : Trip Try.prog 5 [.d (.str text)] [] [.d (.bool r)] [] := by
  unfold law05LexBack at h
  refine trip_ev 1000 (by kernel_rfl) (by kernel_rfl) (by kernel_rfl) (by kernel_rfl) (e_law05LexBack _ _ text _ _) ?_
  obtain ⟨q1, hq, h⟩ := w_bind h
  refine ⟨List.map Token.toD q1.1, q1.2.1, q1.2.2.1, ⟨_, T_lex_Tokens _ _ hq⟩, ?_⟩
  rintro _ rfl
  refine w_condN beq_iff_eq h (fun hc150 h => ?_) (fun hc150 h => ?_)
  ·
    exact T_law05LexBack_L6 _ _ _ _ h
  ·
    obtain ⟨q2, hq, h⟩ := w_bind h
    refine ⟨q2, ⟨_, T_law05awake _ hq⟩, ?_⟩
    cases h; exact ⟨rfl, rfl⟩
def M_law05LexSpells_L6 : (i : I_law05LexSpells_L6) → R_law05LexSpells_L6 i → Prop
  | .law05LexSpells_L6 text x at_ i, r => Ok (c_law05LexSpells (Trip Try.prog) [.d (.bool r)] []) (kL Try.f6 6) ⟨94, [(0, .d (.str text)), (3, .d (.sl (List.map Token.toD x))), (6, .d (.int .i64 at_)), (7, .d (.int .i64 i))], [], [], 0⟩
theorem G_law05LexSpells_L6 : ∀ i r, fixF F_law05LexSpells_L6 i = some r → M_law05LexSpells_L6 i r := by
  refine fixF_induct D_law05LexSpells_L6 fun g ih i => ?_
  cases i with
  | law05LexSpells_L6 text x at_ i =>
    have ih_law05LexSpells_L6 : ∀ (text : Str) (x : List Token) (at_ : Int) (i : Int) (r : Bool), g (I_law05LexSpells_L6.law05LexSpells_L6 text x at_ i) = some r → Ok (c_law05LexSpells (Trip Try.prog) [.d (.bool r)] []) (kL Try.f6 6) ⟨94, [(0, .d (.str text)), (3, .d (.sl (List.map Token.toD x))), (6, .d (.int .i64 at_)), (7, .d (.int .i64 i))], [], [], 0⟩ := fun text x at_ i r h => ih (.law05LexSpells_L6 text x at_ i) r h
    intro r h
    show Ok (c_law05LexSpells (Trip Try.prog) [.d (.bool r)] []) (kL Try.f6 6) ⟨94, [(0, .d (.str text)), (3, .d (.sl (List.map Token.toD x))), (6, .d (.int .i64 at_)), (7, .d (.int .i64 i))], [], [], 0⟩
    replace h : law05LexSpells_L6_B (fun text x at_ i => g (I_law05LexSpells_L6.law05LexSpells_L6 text x at_ i)) text x at_ i = some r := h
    unfold law05LexSpells_L6_B at h
    refine ok_ev 1000 (e_law05LexSpells_L6 _ _ text x at_ i _ _) ?_
    refine w_nam (e' := (List.length x : Int)) (by first | rfl | rw [List.length_map]) ?_
    rintro _ rfl
    refine w_condH decide_eq_true_iff h (fun hc151 h => ?_) (fun hc151 h => ?_)
    ·
      obtain ⟨x1, hx, h⟩ := w_bind h
      refine ⟨sizedL (l := x) (Token.sz), w_ge hx, x1.K, x1.N, x1.S, x1.From, x1.To, w_get (Token.toD_eq x1) hx, ?_⟩
      rintro _ rfl
      refine w_condH decide_eq_true_iff h (fun hc152 h => ?_) (fun hc152 h => ?_)
      ·
        cases h; exact ⟨rfl, rfl⟩
      ·
        obtain ⟨x2, hx, h⟩ := w_bind h
        refine ⟨sizedL (l := x) (Token.sz), w_ge hx, x2.K, x2.N, x2.S, x2.From, x2.To, w_get (Token.toD_eq x2) hx, ?_⟩
        obtain ⟨x3, hx, h⟩ := w_bind h
        refine ⟨sizedL (l := x) (Token.sz), w_ge hx, x3.K, x3.N, x3.S, x3.From, x3.To, w_get (Token.toD_eq x3) hx, ?_⟩
        rintro _ rfl
        refine w_condH decide_eq_true_iff h (fun hc153 h => ?_) (fun hc153 h => ?_)
        ·
          cases h; exact ⟨rfl, rfl⟩
        ·
          obtain ⟨x4, hx, h⟩ := w_bind h
          refine ⟨sizedL (l := x) (Token.sz), w_ge hx, x4.K, x4.N, x4.S, x4.From, x4.To, w_get (Token.toD_eq x4) hx, ?_⟩
          rintro _ rfl
          rintro _ rfl
          refine w_condH decide_eq_true_iff h (fun hc154 h => ?_) (fun hc154 h => ?_)
          ·
            cases h; exact ⟨rfl, rfl⟩
          ·
            obtain ⟨x5, hx, h⟩ := w_bind h
            refine ⟨sizedL (l := x) (Token.sz), w_ge hx, x5.K, x5.N, x5.S, x5.From, x5.To, w_get (Token.toD_eq x5) hx, ?_⟩
            obtain ⟨x6, hx, h⟩ := w_bind h
            refine ⟨sizedL (l := x) (Token.sz), w_ge hx, x6.K, x6.N, x6.S, x6.From, x6.To, w_get (Token.toD_eq x6) hx, ?_⟩
            obtain ⟨hP, h⟩ := w_chk h
            refine ⟨by first | exact hP | (simp only [List.length_map, List.length_cons, List.length_nil] at hP ⊢; exact hP), ?_⟩
            obtain ⟨hP, h⟩ := w_chk h
            refine ⟨by first | exact hP | (simp only [List.length_map, List.length_cons, List.length_nil] at hP ⊢; exact hP), ?_⟩
            obtain ⟨hP, h⟩ := w_chk h
            refine ⟨by first | exact hP | (simp only [List.length_map, List.length_cons, List.length_nil] at hP ⊢; exact hP), ?_⟩
            obtain ⟨hP, h⟩ := w_chk h
            refine ⟨by first | exact hP | (simp only [List.length_map, List.length_cons, List.length_nil] at hP ⊢; exact hP), ?_⟩
            rintro _ rfl
            obtain ⟨x7, hx, h⟩ := w_bind h
            refine ⟨sizedL (l := x) (Token.sz), w_ge hx, x7.K, x7.N, x7.S, x7.From, x7.To, w_get (Token.toD_eq x7) hx, ?_⟩
            obtain ⟨q1, hq, h⟩ := w_bind h
            refine ⟨q1, ⟨_, T_lex_Spell _ _ hq⟩, ?_⟩
            rintro _ rfl
            refine w_condN beq_iff_eq h (fun hc155 h => ?_) (fun hc155 h => ?_)
            ·
              obtain ⟨x8, hx, h⟩ := w_bind h
              refine ⟨sizedL (l := x) (Token.sz), w_ge hx, x8.K, x8.N, x8.S, x8.From, x8.To, w_get (Token.toD_eq x8) hx, ?_⟩
              rintro _ rfl
              exact ih_law05LexSpells_L6 _ _ _ _ _ h
            ·
              cases h; exact ⟨rfl, rfl⟩
    ·
      refine w_nam (e' := (List.length x : Int)) (by first | rfl | rw [List.length_map]) ?_
      rintro _ rfl
      refine w_condH decide_eq_true_iff h (fun hc156 h => ?_) (fun hc156 h => ?_)
      ·
        refine w_nam (e' := (List.length x : Int)) (by first | rfl | rw [List.length_map]) ?_
        rintro _ rfl
        obtain ⟨x9, hx, h⟩ := w_bind h
        refine ⟨sizedL (l := x) (Token.sz), w_ge hx, x9.K, x9.N, x9.S, x9.From, x9.To, w_get (Token.toD_eq x9) hx, ?_⟩
        rintro _ rfl
        refine w_condH beq_iff_eq h (fun hc157 h => ?_) (fun hc157 h => ?_)
        ·
          obtain ⟨q2, hq, h⟩ := w_bind h
          refine ⟨q2, ⟨_, T_law05awake _ hq⟩, ?_⟩
          cases h; exact ⟨rfl, rfl⟩
        ·
          cases h; exact ⟨rfl, rfl⟩
      ·
        cases h; exact ⟨rfl, rfl⟩
theorem T_law05LexSpells_L6 (text : Str) (x : List Token) (at_ : Int) (i : Int) (r : Bool) (h : law05LexSpells_L6 text x at_ i = some r) : Ok (c_law05LexSpells (Trip Try.prog) [.d (.bool r)] []) (kL Try.f6 6) ⟨94, [(0, .d (.str text)), (3, .d (.sl (List.map Token.toD x))), (6, .d (.int .i64 at_)), (7, .d (.int .i64 i))], [], [], 0⟩ := G_law05LexSpells_L6 (.law05LexSpells_L6 text x at_ i) r h
theorem T_law05LexSpells (text : Str) (r : Bool) (h : law05LexSpells text = some r) : Trip Try.prog 6 [.d (.str text)] [] [.d (.bool r)] [] := by
  unfold law05LexSpells at h
  refine trip_ev 1000 (by kernel_rfl) (by kernel_rfl) (by kernel_rfl) (by kernel_rfl) (e_law05LexSpells _ _ text _ _) ?_
  obtain ⟨q1, hq, h⟩ := w_bind h
  refine ⟨List.map Token.toD q1.1, q1.2.1, q1.2.2.1, ⟨_, T_lex_Tokens _ _ hq⟩, ?_⟩
  rintro _ rfl
  refine w_condN beq_iff_eq h (fun hc158 h => ?_) (fun hc158 h => ?_)
  ·
    exact T_law05LexSpells_L6 _ _ _ _ _ h
  ·
    obtain ⟨q2, hq, h⟩ := w_bind h
    refine ⟨q2, ⟨_, T_law05awake _ hq⟩, ?_⟩
    cases h; exact ⟨rfl, rfl⟩
theorem T_lex_IsName (s : Str) (r : Bool × H) (h : lex_IsName s = some r) : Trip Try.prog 11 [.d (.str s)] [] [.d (.bool r.1)] r.2 := by
  unfold lex_IsName at h
  refine trip_ev 1000 (by kernel_rfl) (by kernel_rfl) (by kernel_rfl) (by kernel_rfl) (e_lex_IsName _ _ s _ _) ?_
  rintro _ rfl
  rintro _ rfl
  refine w_condH beq_iff_eq h (fun hc159 h => ?_) (fun hc159 h => ?_)
  ·
    cases h; exact ⟨rfl, rfl⟩
  ·
    rintro _ rfl
    rintro _ rfl
    refine w_condH decide_eq_true_iff h (fun hc160 h => ?_) (fun hc160 h => ?_)
    ·
      cases h; exact ⟨rfl, rfl⟩
    ·
      obtain ⟨q1, hq, h⟩ := w_bind h
      refine ⟨q1, ⟨_, T_lex_isWord _ _ hq⟩, ?_⟩
      refine w_condH Iff.rfl h (fun hc161 h => ?_) (fun hc161 h => ?_)
      ·
        cases h; exact ⟨rfl, rfl⟩
      ·
        obtain ⟨c, hx, h⟩ := w_bind h
        refine ⟨w_ge hx, c, w_at hx, ?_⟩
        rintro _ rfl
        obtain ⟨q2, hq, h⟩ := w_bind h
        refine ⟨q2.1, q2.2.1, q2.2.2.1, List.map Token.toD q2.2.2.2, T_lex_reader_isLetter _ _ _ _ _ hq, ?_⟩
        refine w_condH Iff.rfl h (fun hc162 h => ?_) (fun hc162 h => ?_)
        ·
          obtain ⟨q3, hq, h⟩ := w_bind h
          refine ⟨q3.1, q3.2.1, q3.2.2.1, List.map Token.toD q3.2.2.2, T_lex_reader_run_reader_isMore _ _ _ _ hq, ?_⟩
          rintro _ rfl
          rintro _ rfl
          rintro _ rfl
          cases h; exact ⟨rfl, rfl⟩
        ·
          cases h; exact ⟨rfl, rfl⟩
def M_ref05Digits : (i : I_ref05Digits) → R_ref05Digits i → Prop
  | .ref05Digits n, r => Trip Try.prog 14 [.d (.int .i64 n)] [] [.d (.str r)] []
theorem G_ref05Digits : ∀ i r, fixF F_ref05Digits i = some r → M_ref05Digits i r := by
  refine fixF_induct D_ref05Digits fun g ih i => ?_
  cases i with
  | ref05Digits n =>
    have ih_ref05Digits : ∀ (n : Int) (r : Str), g (I_ref05Digits.ref05Digits n) = some r → Trip Try.prog 14 [.d (.int .i64 n)] [] [.d (.str r)] [] := fun n r h => ih (.ref05Digits n) r h
    intro r h
    show Trip Try.prog 14 [.d (.int .i64 n)] [] [.d (.str r)] []
    replace h : ref05Digits_B (fun n => g (I_ref05Digits.ref05Digits n)) n = some r := h
    unfold ref05Digits_B at h
    refine trip_ev 1000 (by kernel_rfl) (by kernel_rfl) (by kernel_rfl) (by kernel_rfl) (e_ref05Digits _ _ n _ _) ?_
    rintro _ rfl
    refine w_condH decide_eq_true_iff h (fun hc163 h => ?_) (fun hc163 h => ?_)
    ·
      rintro _ rfl
      refine w_condH decide_eq_true_iff h (fun hc164 h => ?_) (fun hc164 h => ?_)
      ·
        rintro _ rfl
        rintro _ rfl
        obtain ⟨s, hx, h⟩ := w_bind h
        refine ⟨s, w_bytes hx, ?_⟩
        obtain ⟨hP, h⟩ := w_chk h
        refine ⟨by first | exact hP | (simp only [List.length_map, List.length_cons, List.length_nil] at hP ⊢; exact hP), ?_⟩
        rintro _ rfl
        cases h; exact ⟨rfl, rfl⟩
      ·
        obtain ⟨hP, h⟩ := w_chk h
        refine ⟨by first | exact hP | (simp only [List.length_map, List.length_cons, List.length_nil] at hP ⊢; exact hP), ?_⟩
        rintro _ rfl
        obtain ⟨q1, hq, h⟩ := w_bind h
        refine ⟨q1, ⟨_, ih_ref05Digits _ _ hq⟩, ?_⟩
        obtain ⟨hP, h⟩ := w_chk h
        refine ⟨by first | exact hP | (simp only [List.length_map, List.length_cons, List.length_nil] at hP ⊢; exact hP), ?_⟩
        rintro _ rfl
        rintro _ rfl
        rintro _ rfl
        obtain ⟨s1, hx, h⟩ := w_bind h
        refine ⟨s1, w_bytes hx, ?_⟩
        obtain ⟨hP, h⟩ := w_chk h
        refine ⟨by first | exact hP | (simp only [List.length_map, List.length_cons, List.length_nil] at hP ⊢; exact hP), ?_⟩
        rintro _ rfl
        cases h; exact ⟨rfl, rfl⟩
    ·
      rintro _ rfl
      refine w_condH decide_eq_true_iff h (fun hc165 h => ?_) (fun hc165 h => ?_)
      ·
        rintro _ rfl
        rintro _ rfl
        obtain ⟨s2, hx, h⟩ := w_bind h
        refine ⟨s2, w_bytes hx, ?_⟩
        cases h; exact ⟨rfl, rfl⟩
      ·
        obtain ⟨hP, h⟩ := w_chk h
        refine ⟨by first | exact hP | (simp only [List.length_map, List.length_cons, List.length_nil] at hP ⊢; exact hP), ?_⟩
        rintro _ rfl
        obtain ⟨q2, hq, h⟩ := w_bind h
        refine ⟨q2, ⟨_, ih_ref05Digits _ _ hq⟩, ?_⟩
        obtain ⟨hP, h⟩ := w_chk h
        refine ⟨by first | exact hP | (simp only [List.length_map, List.length_cons, List.length_nil] at hP ⊢; exact hP), ?_⟩
        rintro _ rfl
        rintro _ rfl
        rintro _ rfl
        obtain ⟨s3, hx, h⟩ := w_bind h
        refine ⟨s3, w_bytes hx, ?_⟩
        obtain ⟨hP, h⟩ := w_chk h
        refine ⟨by first | exact hP | (simp only [List.length_map, List.length_cons, List.length_nil] at hP ⊢; exact hP), ?_⟩
        rintro _ rfl
        cases h; exact ⟨rfl, rfl⟩
theorem T_ref05Digits (n : Int) (r : Str) (h : ref05Digits n = some r) : Trip Try.prog 14 [.d (.int .i64 n)] [] [.d (.str r)] [] := G_ref05Digits (.ref05Digits n) r h
def M_ref05IsName_L4 : (i : I_ref05IsName_L4) → R_ref05IsName_L4 i → Prop
  | .ref05IsName_L4 s i, r => Ok (c_ref05IsName (Trip Try.prog) [.d (.bool r)] []) (kL Try.f12 4) ⟨41, [(0, .d (.str s)), (3, .d (.int .i64 i))], [], [], 0⟩
theorem G_ref05IsName_L4 : ∀ i r, fixF F_ref05IsName_L4 i = some r → M_ref05IsName_L4 i r := by
  refine fixF_induct D_ref05IsName_L4 fun g ih i => ?_
  cases i with
  | ref05IsName_L4 s i =>
    have ih_ref05IsName_L4 : ∀ (s : Str) (i : Int) (r : Bool), g (I_ref05IsName_L4.ref05IsName_L4 s i) = some r → Ok (c_ref05IsName (Trip Try.prog) [.d (.bool r)] []) (kL Try.f12 4) ⟨41, [(0, .d (.str s)), (3, .d (.int .i64 i))], [], [], 0⟩ := fun s i r h => ih (.ref05IsName_L4 s i) r h
    intro r h
    show Ok (c_ref05IsName (Trip Try.prog) [.d (.bool r)] []) (kL Try.f12 4) ⟨41, [(0, .d (.str s)), (3, .d (.int .i64 i))], [], [], 0⟩
    replace h : ref05IsName_L4_B (fun s i => g (I_ref05IsName_L4.ref05IsName_L4 s i)) s i = some r := h
    unfold ref05IsName_L4_B at h
    refine ok_ev 1000 (e_ref05IsName_L4 _ _ s i _ _) ?_
    rintro _ rfl
    rintro _ rfl
    refine w_condH decide_eq_true_iff h (fun hc166 h => ?_) (fun hc166 h => ?_)
    ·
      obtain ⟨c, hx, h⟩ := w_bind h
      refine ⟨w_ge hx, c, w_at hx, ?_⟩
      rintro _ rfl
      obtain ⟨q1, hq, h⟩ := w_bind h
      refine ⟨q1, ⟨_, T_ref05Letter _ _ hq⟩, ?_⟩
      refine w_condN Iff.rfl h (fun hc167 h => ?_) (fun hc167 h => ?_)
      ·
        rintro _ rfl
        exact ih_ref05IsName_L4 _ _ _ h
      ·
        obtain ⟨c1, hx, h⟩ := w_bind h
        refine ⟨w_ge hx, c1, w_at hx, ?_⟩
        rintro _ rfl
        obtain ⟨q2, hq, h⟩ := w_bind h
        refine ⟨q2, ⟨_, T_ref05Digit _ _ hq⟩, ?_⟩
        refine w_condN Iff.rfl h (fun hc168 h => ?_) (fun hc168 h => ?_)
        ·
          rintro _ rfl
          exact ih_ref05IsName_L4 _ _ _ h
        ·
          cases h; exact ⟨rfl, rfl⟩
    ·
      cases h; exact ⟨rfl, rfl⟩
theorem T_ref05IsName_L4 (s : Str) (i : Int) (r : Bool) (h : ref05IsName_L4 s i = some r) : Ok (c_ref05IsName (Trip Try.prog) [.d (.bool r)] []) (kL Try.f12 4) ⟨41, [(0, .d (.str s)), (3, .d (.int .i64 i))], [], [], 0⟩ := G_ref05IsName_L4 (.ref05IsName_L4 s i) r h
theorem T_ref05IsName (s : Str) (r : Bool) (h : ref05IsName s = some r) : Trip Try.prog 12 [.d (.str s)] [] [.d (.bool r)] [] := by
  unfold ref05IsName at h
  refine trip_ev 1000 (by kernel_rfl) (by kernel_rfl) (by kernel_rfl) (by kernel_rfl) (e_ref05IsName _ _ s _ _) ?_
  rintro _ rfl
  rintro _ rfl
  refine w_condH beq_iff_eq h (fun hc169 h => ?_) (fun hc169 h => ?_)
  ·
    cases h; exact ⟨rfl, rfl⟩
  ·
    rintro _ rfl
    rintro _ rfl
    refine w_condH decide_eq_true_iff h (fun hc170 h => ?_) (fun hc170 h => ?_)
    ·
      cases h; exact ⟨rfl, rfl⟩
    ·
      obtain ⟨c, hx, h⟩ := w_bind h
      refine ⟨w_ge hx, c, w_at hx, ?_⟩
      rintro _ rfl
      obtain ⟨q1, hq, h⟩ := w_bind h
      refine ⟨q1, ⟨_, T_ref05Letter _ _ hq⟩, ?_⟩
      refine w_condN Iff.rfl h (fun hc171 h => ?_) (fun hc171 h => ?_)
      ·
        obtain ⟨q2, hq, h⟩ := w_bind h
        refine ⟨List.map D.str q2, ⟨_, T_ref05Words _ hq⟩, ?_⟩
        obtain ⟨q3, hq, h⟩ := w_bind h
        refine ⟨q3, ⟨_, T_ref05Among _ _ _ hq⟩, ?_⟩
        refine w_condH Iff.rfl h (fun hc172 h => ?_) (fun hc172 h => ?_)
        ·
          cases h; exact ⟨rfl, rfl⟩
        ·
          exact T_ref05IsName_L4 _ _ _ h
      ·
        cases h; exact ⟨rfl, rfl⟩
theorem T_law05LexNames (s : Str) (n : Int) (r : Bool) (h : law05LexNames s n = some r) : Trip Try.prog 4 [.d (.str s), .d (.int .i64 n)] [] [.d (.bool r)] [] := by
  unfold law05LexNames at h
  refine trip_ev 1000 (by kernel_rfl) (by kernel_rfl) (by kernel_rfl) (by kernel_rfl) (e_law05LexNames _ _ s n _ _) ?_
  obtain ⟨q1, hq, h⟩ := w_bind h
  refine ⟨q1.1, ⟨_, T_lex_IsName _ _ hq⟩, ?_⟩
  obtain ⟨q2, hq, h⟩ := w_bind h
  refine ⟨q2, ⟨_, T_ref05IsName _ _ hq⟩, ?_⟩
  rintro _ rfl
  refine w_condN beq_iff_eq h (fun hc173 h => ?_) (fun hc173 h => ?_)
  ·
    obtain ⟨q3, hq, h⟩ := w_bind h
    refine ⟨q3, ⟨_, T_lex_Digits _ _ hq⟩, ?_⟩
    obtain ⟨q4, hq, h⟩ := w_bind h
    refine ⟨q4, ⟨_, T_ref05Digits _ _ hq⟩, ?_⟩
    rintro _ rfl
    refine w_condN beq_iff_eq h (fun hc174 h => ?_) (fun hc174 h => ?_)
    ·
      rintro _ rfl
      refine w_condH decide_eq_true_iff h (fun hc175 h => ?_) (fun hc175 h => ?_)
      ·
        obtain ⟨q5, hq, h⟩ := w_bind h
        refine ⟨q5, ⟨_, T_law05awake _ hq⟩, ?_⟩
        cases h; exact ⟨rfl, rfl⟩
      ·
        obtain ⟨q6, hq, h⟩ := w_bind h
        refine ⟨q6, ⟨_, T_lex_Digits _ _ hq⟩, ?_⟩
        obtain ⟨q7, hq, h⟩ := w_bind h
        refine ⟨List.map Token.toD q7.1, q7.2.1, q7.2.2.1, ⟨_, T_lex_Tokens _ _ hq⟩, ?_⟩
        rintro _ rfl
        refine w_condH beq_iff_eq h (fun hc176 h => ?_) (fun hc176 h => ?_)
        ·
          refine w_nam (e' := (List.length q7.1 : Int)) (by first | rfl | rw [List.length_map]) ?_
          rintro _ rfl
          refine w_condH beq_iff_eq h (fun hc177 h => ?_) (fun hc177 h => ?_)
          ·
            obtain ⟨x, hx, h⟩ := w_bind h
            refine ⟨sizedL (l := q7.1) (Token.sz), w_ge hx, x.K, x.N, x.S, x.From, x.To, w_get (Token.toD_eq x) hx, ?_⟩
            rintro _ rfl
            refine w_condH beq_iff_eq h (fun hc178 h => ?_) (fun hc178 h => ?_)
            ·
              obtain ⟨x1, hx, h⟩ := w_bind h
              refine ⟨sizedL (l := q7.1) (Token.sz), w_ge hx, x1.K, x1.N, x1.S, x1.From, x1.To, w_get (Token.toD_eq x1) hx, ?_⟩
              rintro _ rfl
              cases h; exact ⟨rfl, rfl⟩
            ·
              cases h; exact ⟨rfl, rfl⟩
          ·
            cases h; exact ⟨rfl, rfl⟩
        ·
          cases h; exact ⟨rfl, rfl⟩
    ·
      cases h; exact ⟨rfl, rfl⟩
  ·
    cases h; exact ⟨rfl, rfl⟩
end Go.Proofs.Ytdpecjiflalkmaa.M
