/- LexNames, as a plain law. -/
import Derived.Test.YtdpecjiflalkmaaP05e
import Derived.Test.YtdpecjiflalkmaaWf
namespace Go.Proofs.Ytdpecjiflalkmaa.M
open Go Nt
set_option linter.unusedVariables false
set_option linter.unusedSimpArgs false
/-! the reference's digits -/
theorem bytes1 {n : Nat} (h : n < 256) : bytesOf [((n : Nat) : Int)] = some [UInt8.ofNat n] := by
  have := bytesOf_map [UInt8.ofNat n]
  rw [List.map_cons, List.map_nil, ofNat_toNat h] at this
  exact this
theorem digs_length : ∀ (k n : Nat), n < 10 ^ k → 0 < k → (digs n).length ≤ k := by
  intro k
  induction k with
  | zero => intro n _ h; omega
  | succ k ih =>
    intro n h _
    by_cases h10 : n < 10
    · rw [digs_lt h10]; simp
    · rw [digs_ge h10, List.length_append]
      have : (digs (n / 10)).length ≤ k := ih (n / 10) (by rw [Nat.pow_succ] at h; omega) (by
        rcases k with _ | k
        · simp at h; omega
        · omega)
      simp; omega
theorem refDigits_ok : ∀ (k : Nat) (n : Int), n.natAbs < 10 ^ k → k ≤ 20 → -9223372036854775808 ≤ n → n ≤ 9223372036854775807 → ref05Digits n = some ((if n < 0 then [45] else []) ++ digs n.natAbs) := by
  intro k
  induction k with
  | zero =>
    intro n h _ _ _
    have : n = 0 := by simp at h; omega
    subst this
    rw [ref05Digits_eq]; unfold ref05Digits_B
    rw [if_neg (by decide), if_pos (by decide), if_neg (by decide), digs_lt (by decide)]; rfl
  | succ k ih =>
    intro n h hk h1 h2
    rw [ref05Digits_eq]; unfold ref05Digits_B
    have hdl := digs_length 20 n.natAbs (by omega) (by omega)
    simp only [ne_eq, show ¬ ((10 : Int) = 0) by decide, not_false_eq_true, if_true]
    have t1 : Int.natAbs (n.tdiv 10) = n.natAbs / 10 := by rw [Int.natAbs_tdiv]; rfl
    have t3 : (n.tdiv 10).natAbs < 10 ^ k := by rw [t1]; rw [Nat.pow_succ] at h; omega
    have hdl2 := digs_length 20 (n.natAbs / 10) (by omega) (by omega)
    have tw : IntKind.wrap .i64 (n.tdiv 10) = n.tdiv 10 := wi_id (by omega) (by omega)
    by_cases hn : n < 0
    · rw [if_pos hn, if_pos hn]
      have e1 : n.tdiv 10 = -((n.natAbs / 10 : Nat) : Int) := by
        have : n = -((n.natAbs : Nat) : Int) := by omega
        rw [show n.tdiv 10 = (-((n.natAbs : Nat) : Int)).tdiv 10 by rw [← this], Int.neg_tdiv, Int.tdiv_eq_ediv_of_nonneg (by omega)]; omega
      have e2 : n.tmod 10 = -((n.natAbs % 10 : Nat) : Int) := by
        have : n = -((n.natAbs : Nat) : Int) := by omega
        rw [show n.tmod 10 = (-((n.natAbs : Nat) : Int)).tmod 10 by rw [← this], Int.neg_tmod, Int.tmod_eq_emod_of_nonneg (by omega)]; omega
      by_cases h10 : n > (-10)
      · rw [if_pos h10]
        have e3 : IntKind.wrap .u8 (IntKind.wrap .i64 (48 - n)) = ((48 + n.natAbs : Nat) : Int) := by rw [wi_id (by omega) (by omega), w8_id (by omega) (by omega)]; omega
        rw [e3, bytes1 (by omega), some_bind, digs_lt (show n.natAbs < 10 by omega), if_pos (by simp)]
      · rw [if_neg h10, tw, ih _ t3 (by omega) (by omega) (by omega), some_bind]
        have e3 : IntKind.wrap .u8 (IntKind.wrap .i64 (48 - n.tmod 10)) = ((48 + n.natAbs % 10 : Nat) : Int) := by rw [wi_id (by omega) (by omega), w8_id (by omega) (by omega)]; omega
        rw [e3, bytes1 (by omega), some_bind, t1, if_pos (show n.tdiv 10 < 0 by omega), digs_ge (show ¬ n.natAbs < 10 by omega), if_pos (by simp; omega)]
        simp
    · rw [if_neg hn, if_neg hn]
      have e1 : n.tdiv 10 = ((n.natAbs / 10 : Nat) : Int) := by rw [Int.tdiv_eq_ediv_of_nonneg (by omega)]; omega
      have e2 : n.tmod 10 = ((n.natAbs % 10 : Nat) : Int) := by rw [Int.tmod_eq_emod_of_nonneg (by omega)]; omega
      by_cases h10 : n < 10
      · rw [if_pos h10]
        have e3 : IntKind.wrap .u8 (IntKind.wrap .i64 (48 + n)) = ((48 + n.natAbs : Nat) : Int) := by rw [wi_id (by omega) (by omega), w8_id (by omega) (by omega)]; omega
        rw [e3, bytes1 (by omega), some_bind, digs_lt (show n.natAbs < 10 by omega)]; rfl
      · rw [if_neg h10, tw, ih _ t3 (by omega) (by omega) (by omega), some_bind]
        have e3 : IntKind.wrap .u8 (IntKind.wrap .i64 (48 + n.tmod 10)) = ((48 + n.natAbs % 10 : Nat) : Int) := by rw [wi_id (by omega) (by omega), w8_id (by omega) (by omega)]; omega
        rw [e3, bytes1 (by omega), some_bind, t1, if_neg (show ¬ n.tdiv 10 < 0 by omega), digs_ge (show ¬ n.natAbs < 10 by omega), if_pos (by simp; omega)]
        simp

/-! names -/
theorem isMoreAll (s : Str) (hl : s.length ≤ 1000000) : ∀ (k i : Nat), i + k = s.length → ref05IsName_L4 s i = some ((s.drop i).all mor) := by
  intro k
  induction k with
  | zero =>
    intro i hi
    rw [ref05IsName_L4_eq]; unfold ref05IsName_L4_B
    rw [if_neg (show ¬ (i : Int) < (s.length : Int) by omega), List.drop_eq_nil_of_le (show s.length ≤ i by omega)]; rfl
  | succ k ih =>
    intro i hi
    have h3 : i < s.length := by omega
    rw [ref05IsName_L4_eq]; unfold ref05IsName_L4_B
    rw [if_pos (show (i : Int) < (s.length : Int) by omega), idx_lt h3, some_bind, some_bind, rltr_ok, some_bind, rdgt_ok, some_bind, wi_id (by omega) (by omega), succ_cast, ih (i + 1) (by omega), List.drop_eq_getElem_cons h3, List.all_cons]
    unfold mor
    cases ltr s[i] <;> cases dgt s[i] <;> rfl
theorem tw_all_iff (p : UInt8 → Bool) : ∀ l : List UInt8, (tw p l = l.length ↔ l.all p = true)
  | [] => by simp [tw]
  | c :: r => by
    have := tw_all_iff p r
    have hle := tw_le p r
    simp only [tw, List.length_cons, List.all_cons]
    cases hc : p c with
    | true => simp [this]
    | false => simp
def nameF (s : Str) : Bool := match s with
  | [] => false
  | c :: r => decide ((c :: r).length ≤ 16) && !isW (c :: r) && ltr c && (c :: r).all mor
theorem name_ok (s : Str) : ∃ hh, lex_IsName s = some (nameF s, hh) := by
  unfold lex_IsName nameF
  cases s with
  | nil => exact ⟨_, rfl⟩
  | cons c r =>
    rw [if_neg (show ¬ ((c :: r).length : Int) = 0 by simp; omega)]
    dsimp only
    by_cases h16 : ((c :: r).length : Int) > 16
    · rw [if_pos h16, decide_eq_false (show ¬ (c :: r).length ≤ 16 by omega)]; exact ⟨_, rfl⟩
    · rw [if_neg h16, decide_eq_true (show (c :: r).length ≤ 16 by omega), word_ok, some_bind]
      cases isW (c :: r) with
      | true => exact ⟨_, rfl⟩
      | false =>
        rw [if_neg (by simp)]
        have : idx (c :: r) 0 = some c := rfl
        rw [this, some_bind, ltr_ok, some_bind]
        cases hc : ltr c with
        | false => exact ⟨_, rfl⟩
        | true =>
          rw [if_pos rfl]
          unfold lex_reader_run_reader_isMore
          dsimp only
          have e := runMore_ok (c :: r) (by omega) [] 0 (c :: r).length 0 (by omega) (by omega)
          rw [show ((0 : Nat) : Int) = 0 from rfl] at e
          rw [e, some_bind]
          refine ⟨_, congrArg some (Prod.ext ?_ rfl)⟩
          dsimp only
          rw [Nat.zero_add, List.drop_zero, List.drop_zero, List.length_take]
          have hle := tw_le mor (c :: r)
          have hi := tw_all_iff mor (c :: r)
          rw [Bool.eq_iff_iff]
          simp only [beq_iff_eq, Bool.true_and, Bool.not_false]
          rw [← hi]
          omega
theorem rname_ok (s : Str) : ref05IsName s = some (nameF s) := by
  unfold ref05IsName nameF
  cases s with
  | nil => rfl
  | cons c r =>
    rw [if_neg (show ¬ ((c :: r).length : Int) = 0 by simp; omega)]
    dsimp only
    by_cases h16 : ((c :: r).length : Int) > 16
    · rw [if_pos h16, decide_eq_false (show ¬ (c :: r).length ≤ 16 by omega)]; rfl
    · rw [if_neg h16, decide_eq_true (show (c :: r).length ≤ 16 by omega)]
      have : idx (c :: r) 0 = some c := rfl
      rw [this, some_bind, rltr_ok, some_bind, words_ok, some_bind, among_ok _ _ (by decide), some_bind]
      have e := isMoreAll (c :: r) (by omega) (c :: r).length 0 (by omega)
      rw [show ((0 : Nat) : Int) = 0 from rfl, List.drop_zero] at e
      rw [e, show wordsL.contains (c :: r) = isW (c :: r) from rfl]
      cases ltr c <;> cases isW (c :: r) <;> cases (c :: r).all mor <;> rfl

/-! a number's digits, read -/
theorem digs_all : ∀ (k n : Nat), n < 10 ^ k → ∀ c ∈ digs n, dgt c = true := by
  have d1 : ∀ m : Nat, m < 10 → dgt (UInt8.ofNat (48 + m)) = true := fun m h => by
    unfold dgt
    rw [ofNat_toNat (by omega)]; simp; omega
  intro k
  induction k with
  | zero =>
    intro n h c hc
    rw [digs_lt (by simp at h; omega)] at hc
    simp at h
    simp only [List.mem_singleton] at hc
    subst hc; exact d1 n (by omega)
  | succ k ih =>
    intro n h c hc
    by_cases h10 : n < 10
    · rw [digs_lt h10] at hc
      simp only [List.mem_singleton] at hc
      subst hc; exact d1 n h10
    · rw [digs_ge h10] at hc
      rcases List.mem_append.1 hc with hc | hc
      · exact ih (n / 10) (by rw [Nat.pow_succ] at h; omega) c hc
      · simp only [List.mem_singleton] at hc
        subst hc; exact d1 _ (by omega)
theorem digs_num : ∀ (k n : Nat), n < 10 ^ k → valF 0 (digs n) = n ∧ ∃ c r, digs n = c :: r ∧ (c.toNat = 48 → n = 0) := by
  intro k
  induction k with
  | zero =>
    intro n h
    simp at h
    subst h
    exact ⟨by rw [digs_lt (by decide)]; rfl, _, _, digs_lt (by decide), fun _ => rfl⟩
  | succ k ih =>
    intro n h
    by_cases h10 : n < 10
    · rw [digs_lt h10]
      refine ⟨?_, _, _, rfl, fun h => ?_⟩
      · rw [valF_cons, valF_nil, ofNat_toNat (by omega)]; omega
      · rw [ofNat_toNat (by omega)] at h; omega
    · obtain ⟨e, c, r, e2, e3⟩ := ih (n / 10) (by rw [Nat.pow_succ] at h; omega)
      rw [digs_ge h10]
      refine ⟨?_, c, r ++ [UInt8.ofNat (48 + n % 10)], by rw [e2]; rfl, fun h => ?_⟩
      · rw [valF_snoc, e, ofNat_toNat (by omega)]; omega
      · have := e3 h; omega
theorem lexes_digs (n : Nat) (h : n ≤ 9223372036854775807) : ∃ t t2, lexes (digs n) = ([t, t2], 0, 0) ∧ t.K = 2 ∧ t.N = n := by
  have hl := digs_length 20 n (by omega) (by omega)
  have ha := digs_all 20 n (by omega)
  obtain ⟨hv, c, r, e, hz⟩ := digs_num 20 n (by omega)
  have hall : (digs n).all dgt = true := List.all_eq_true.2 ha
  have htw := (tw_all_iff dgt (digs n)).2 hall
  have hc := ha c (by rw [e]; simp)
  have hc2 := hc
  unfold dgt at hc2
  simp only [Bool.and_eq_true, decide_eq_true_eq] at hc2
  have hnl : ltr c = false := by
    unfold ltr
    simp only [Bool.or_eq_false_iff, Bool.and_eq_false_iff, decide_eq_false_iff_not, beq_eq_false_iff_ne]
    omega
  have hnb : blk c = false := by
    unfold blk
    simp only [Bool.or_eq_false_iff, beq_eq_false_iff_ne]
    omega
  have hnum : num (digs n) = some n := by
    unfold num
    rw [if_neg, hv, if_neg (by omega)]
    rintro ⟨h1, h2⟩
    rw [e] at h2
    have h0 := hz (by simpa [hdIs] using h2)
    subst h0
    rw [digs_lt (by decide)] at h1
    simp at h1
  have hnx : nxt 10000 (digs n) = 0 := by
    rw [e, nxt, if_neg (by rw [hnb]; simp), if_neg (by omega)]
  have hone : one (digs n) = .inr (2, (n : Int), [], (digs n).length) := by
    rw [e, one, if_neg (by rw [hnl]; simp), if_pos hc, ← e, htw, List.take_length, hnum]
  refine ⟨⟨2, n, [], ((0 : Nat) : Int), ((0 + (digs n).length : Nat) : Int)⟩, ⟨5, 0, [], ((0 + (digs n).length + 0 : Nat) : Int), ((0 + (digs n).length + 0 : Nat) : Int)⟩, ?_, rfl, rfl⟩
  unfold lexes
  rw [if_neg (show ¬ (digs n).length > 8192 by omega), hnx, List.drop_zero]
  have ht : toks 10000 (digs n) 0 [] = match one (digs n) with
    | .inl e => ([], ((0 : Nat) : Int), e)
    | .inr (k, m, t, l) => toks 9999 (((digs n).drop l).drop (nxt 10000 ((digs n).drop l))) (0 + l + nxt 10000 ((digs n).drop l)) ([] ++ [⟨k, m, t, ((0 : Nat) : Int), ((0 + l : Nat) : Int)⟩]) := by
    rw [e, toks]
    rcases one (c :: r) with e | ⟨k, m, t, l⟩ <;> rfl
  rw [ht, hone]
  dsimp only
  rw [List.drop_length]
  rfl
theorem lexNamesLaw (x0 : Str) (x1 : Int) (w0 : x0.length ≤ 9223372036854775807) (w1 : InK .i64 x1) : law05LexNames x0 x1 = some true := by
  have hi := i64_iff.1 w1
  unfold law05LexNames
  obtain ⟨hh, e⟩ := name_ok x0
  rw [e, some_bind, rname_ok, some_bind, if_pos rfl, digits_ok x1 hi, refDigits_ok 19 x1 (by omega) (by omega) hi.1 hi.2, some_bind, some_bind, if_pos rfl, lexAwake_ok, some_bind, some_bind]
  by_cases hn : x1 < 0
  · rw [if_pos hn]
  · rw [if_neg hn, if_neg hn, List.nil_append]
    have hl := digs_length 20 x1.natAbs (by omega) (by omega)
    obtain ⟨-, hh2, e2⟩ := tokens_ok (digs x1.natAbs) (by omega)
    obtain ⟨t, t2, e3, e4, e5⟩ := lexes_digs x1.natAbs (by omega)
    rw [e2, e3, some_bind]
    dsimp only
    rw [if_pos rfl, if_pos (by simp)]
    have : idx [t, t2] 0 = some t := rfl
    rw [this, some_bind, some_bind, if_pos e4, e5]
    simp; omega
end Go.Proofs.Ytdpecjiflalkmaa.M
