import Derived.Test.YtnbcacfljnooeaaMod
import Derived.Test.YtnbcacfljnooeaaEv
import Derived.Test.YtnbcacfljnooeaaLay
import Derived.Test.YtnbcacfljnooeaaFwZ9
namespace Go.Proofs.Ytnbcacfljnooeaa.M
open Go Nt Go.Proofs
set_option linter.unusedVariables false
set_option linter.unusedSimpArgs false
set_option linter.unnecessarySimpa false
set_option maxRecDepth 100000
def z1J : (i : I_quiet_Quiet_L3) → wE i → Prop
  | .quiet_Quiet_L3 quiet v7 v8 v9, r => Ok (vV (Trip Try.prog) [.d (.bool r)] []) (kL Try.f11 3) ⟨57, [(3, .d (.bool quiet)), (7, .d (.sl (List.map zA.toD v7))), (8, .d (.int .i64 v8)), (9, .d (.int .i64 v9))], [], [], 0⟩
theorem z1I : ∀ i r, z1p uH i = some r → z1J i r := by
  refine vK gI fun g ih i => ?_
  cases i with
  | quiet_Quiet_L3 quiet v7 v8 v9 =>
    have ih_quiet_Quiet_L3 : ∀ (quiet : Bool) (v7 : List zA) (v8 : Int) (v9 : Int) (r : Bool), g (I_quiet_Quiet_L3.quiet_Quiet_L3 quiet v7 v8 v9) = some r → Ok (vV (Trip Try.prog) [.d (.bool r)] []) (kL Try.f11 3) ⟨57, [(3, .d (.bool quiet)), (7, .d (.sl (List.map zA.toD v7))), (8, .d (.int .i64 v8)), (9, .d (.int .i64 v9))], [], [], 0⟩ := fun quiet v7 v8 v9 r h => ih (.quiet_Quiet_L3 quiet v7 v8 v9) r h
    intro r h
    show Ok (vV (Trip Try.prog) [.d (.bool r)] []) (kL Try.f11 3) ⟨57, [(3, .d (.bool quiet)), (7, .d (.sl (List.map zA.toD v7))), (8, .d (.int .i64 v8)), (9, .d (.int .i64 v9))], [], [], 0⟩
    replace h : yF (fun quiet v7 v8 v9 => g (I_quiet_Quiet_L3.quiet_Quiet_L3 quiet v7 v8 v9)) quiet v7 v8 v9 = some r := h
    unfold yF at h
    refine z5r 1000 (z1M _ _ quiet v7 v8 v9 _ _) ?_
    rintro _ rfl
    refine zS decide_eq_true_iff h (fun hc1 h => ?_) (fun hc1 h => ?_)
    ·
      obtain ⟨x, hx, h⟩ := yI h
      refine ⟨wN (l := v7) (zA.sz), z4u hx, x.K, x.N, x.S, List.map zA.toD x.L, x.From, x.To, z0f (zA.toD_eq x) hx, ?_⟩
      rintro _ rfl
      refine zS beq_iff_eq h (fun hc2 h => ?_) (fun hc2 h => ?_)
      ·
        refine gH beq_iff_eq hc2 ?_
        rintro _ rfl
        exact ih_quiet_Quiet_L3 _ _ _ _ _ h
      ·
        rintro _ rfl
        refine zS beq_iff_eq h (fun hc3 h => ?_) (fun hc3 h => ?_)
        ·
          refine gH beq_iff_eq hc3 ?_
          rintro _ rfl
          exact ih_quiet_Quiet_L3 _ _ _ _ _ h
        ·
          rintro _ rfl
          refine zS beq_iff_eq h (fun hc4 h => ?_) (fun hc4 h => ?_)
          ·
            refine gH beq_iff_eq hc4 ?_
            rintro _ rfl
            exact ih_quiet_Quiet_L3 _ _ _ _ _ h
          ·
            rintro _ rfl
            refine zS beq_iff_eq h (fun hc5 h => ?_) (fun hc5 h => ?_)
            ·
              refine gH beq_iff_eq hc5 ?_
              rintro _ rfl
              exact ih_quiet_Quiet_L3 _ _ _ _ _ h
            ·
              rintro _ rfl
              refine zS beq_iff_eq h (fun hc6 h => ?_) (fun hc6 h => ?_)
              ·
                refine gH beq_iff_eq hc6 ?_
                rintro _ rfl
                exact ih_quiet_Quiet_L3 _ _ _ _ _ h
              ·
                rintro _ rfl
                refine zS beq_iff_eq h (fun hc7 h => ?_) (fun hc7 h => ?_)
                ·
                  refine gH beq_iff_eq hc7 ?_
                  rintro _ rfl
                  exact ih_quiet_Quiet_L3 _ _ _ _ _ h
                ·
                  rintro _ rfl
                  refine zS beq_iff_eq h (fun hc8 h => ?_) (fun hc8 h => ?_)
                  ·
                    refine gH beq_iff_eq hc8 ?_
                    rintro _ rfl
                    exact ih_quiet_Quiet_L3 _ _ _ _ _ h
                  ·
                    rintro _ rfl
                    refine zS beq_iff_eq h (fun hc9 h => ?_) (fun hc9 h => ?_)
                    ·
                      refine gH beq_iff_eq hc9 ?_
                      rintro _ rfl
                      exact ih_quiet_Quiet_L3 _ _ _ _ _ h
                    ·
                      rintro _ rfl
                      refine zS beq_iff_eq h (fun hc10 h => ?_) (fun hc10 h => ?_)
                      ·
                        rintro _ rfl
                        exact ih_quiet_Quiet_L3 _ _ _ _ _ h
                      ·
                        rintro _ rfl
                        refine zS beq_iff_eq h (fun hc11 h => ?_) (fun hc11 h => ?_)
                        ·
                          rintro _ rfl
                          refine zS beq_iff_eq h (fun hc12 h => ?_) (fun hc12 h => ?_)
                          ·
                            refine gN (e' := (List.length x.L : Int)) (by first | rfl | rw [List.length_map]) ?_
                            rintro _ rfl
                            refine zS decide_eq_true_iff h (fun hc13 h => ?_) (fun hc13 h => ?_)
                            ·
                              cases h; exact ⟨rfl, rfl⟩
                            ·
                              obtain ⟨x33, hx, h⟩ := yI h
                              refine ⟨wN (l := x.L) (zA.sz), z4u hx, x33.K, x33.N, x33.S, List.map zA.toD x33.L, x33.From, x33.To, z0f (zA.toD_eq x33) hx, ?_⟩
                              rintro _ rfl
                              refine vT beq_iff_eq h (fun hc14 h => ?_) (fun hc14 h => ?_)
                              ·
                                obtain ⟨x34, hx, h⟩ := yI h
                                refine ⟨wN (l := x.L) (zA.sz), z4u hx, x34.K, x34.N, x34.S, List.map zA.toD x34.L, x34.From, x34.To, z0f (zA.toD_eq x34) hx, ?_⟩
                                rintro _ rfl
                                refine zS beq_iff_eq h (fun hc15 h => ?_) (fun hc15 h => ?_)
                                ·
                                  cases h; exact ⟨rfl, rfl⟩
                                ·
                                  rintro _ rfl
                                  exact ih_quiet_Quiet_L3 _ _ _ _ _ h
                              ·
                                cases h; exact ⟨rfl, rfl⟩
                          ·
                            rintro _ rfl
                            refine zS beq_iff_eq h (fun hc16 h => ?_) (fun hc16 h => ?_)
                            ·
                              refine gN (e' := (List.length x.L : Int)) (by first | rfl | rw [List.length_map]) ?_
                              rintro _ rfl
                              refine zS decide_eq_true_iff h (fun hc17 h => ?_) (fun hc17 h => ?_)
                              ·
                                cases h; exact ⟨rfl, rfl⟩
                              ·
                                obtain ⟨x35, hx, h⟩ := yI h
                                refine ⟨wN (l := x.L) (zA.sz), z4u hx, x35.K, x35.N, x35.S, List.map zA.toD x35.L, x35.From, x35.To, z0f (zA.toD_eq x35) hx, ?_⟩
                                rintro _ rfl
                                refine vT beq_iff_eq h (fun hc18 h => ?_) (fun hc18 h => ?_)
                                ·
                                  obtain ⟨x36, hx, h⟩ := yI h
                                  refine ⟨wN (l := x.L) (zA.sz), z4u hx, x36.K, x36.N, x36.S, List.map zA.toD x36.L, x36.From, x36.To, z0f (zA.toD_eq x36) hx, ?_⟩
                                  rintro _ rfl
                                  refine zS beq_iff_eq h (fun hc19 h => ?_) (fun hc19 h => ?_)
                                  ·
                                    cases h; exact ⟨rfl, rfl⟩
                                  ·
                                    rintro _ rfl
                                    exact ih_quiet_Quiet_L3 _ _ _ _ _ h
                                ·
                                  cases h; exact ⟨rfl, rfl⟩
                            ·
                              rintro _ rfl
                              exact ih_quiet_Quiet_L3 _ _ _ _ _ h
                        ·
                          cases h; exact ⟨rfl, rfl⟩
    ·
      cases h; exact ⟨rfl, rfl⟩
theorem z1K (quiet : Bool) (v7 : List zA) (v8 : Int) (v9 : Int) (r : Bool) (h : quiet_Quiet_L3 quiet v7 v8 v9 = some r) : Ok (vV (Trip Try.prog) [.d (.bool r)] []) (kL Try.f11 3) ⟨57, [(3, .d (.bool quiet)), (7, .d (.sl (List.map zA.toD v7))), (8, .d (.int .i64 v8)), (9, .d (.int .i64 v9))], [], [], 0⟩ := z1I (.quiet_Quiet_L3 quiet v7 v8 v9) r h
def z2W : (i : I_quiet_all_L3) → wZ i → Prop
  | .quiet_all_L3 out i, r => Ok (wU (Trip Try.prog) [.d (.sl (List.map zA.toD r))] []) (kL Try.f28 3) ⟨21, [(3, .right 6 1 6 (List.map zA.toD out)), (4, .d (.int .i64 i))], [(6, 1, some (.tok 6 (List.length (List.map zA.toD out))))], [], 0⟩
theorem z2U : ∀ i r, z1p jL i = some r → z2W i r := by
  refine vK z0t fun g ih i => ?_
  cases i with
  | quiet_all_L3 out i =>
    have ih_quiet_all_L3 : ∀ (out : List zA) (i : Int) (r : List zA), g (I_quiet_all_L3.quiet_all_L3 out i) = some r → Ok (wU (Trip Try.prog) [.d (.sl (List.map zA.toD r))] []) (kL Try.f28 3) ⟨21, [(3, .right 6 1 6 (List.map zA.toD out)), (4, .d (.int .i64 i))], [(6, 1, some (.tok 6 (List.length (List.map zA.toD out))))], [], 0⟩ := fun out i r h => ih (.quiet_all_L3 out i) r h
    intro r h
    show Ok (wU (Trip Try.prog) [.d (.sl (List.map zA.toD r))] []) (kL Try.f28 3) ⟨21, [(3, .right 6 1 6 (List.map zA.toD out)), (4, .d (.int .i64 i))], [(6, 1, some (.tok 6 (List.length (List.map zA.toD out))))], [], 0⟩
    replace h : yN (fun out i => g (I_quiet_all_L3.quiet_all_L3 out i)) out i = some r := h
    unfold yN at h
    refine z5r 1000 (z3a _ _ out i _ _) ?_
    refine gN (e' := (List.length out : Int)) (by first | rfl | rw [List.length_map]) ?_
    rintro _ rfl
    refine zS decide_eq_true_iff h (fun hc20 h => ?_) (fun hc20 h => ?_)
    ·
      obtain ⟨x, hx, h⟩ := yI h
      refine ⟨wN (l := out) (zA.sz), z4u hx, x.K, x.N, x.S, List.map zA.toD x.L, x.From, x.To, z0f (zA.toD_eq x) hx, ?_⟩
      refine ⟨wN (l := x.L) (zA.sz), ?_⟩
      refine ⟨by first | rfl | decide | simp only [List.length_map, List.length_cons, List.length_nil, List.map_append, List.length_append], ?_⟩
      obtain ⟨hP, h⟩ := z6V h
      refine ⟨by first | exact hP | (simp only [List.length_map, List.length_cons, List.length_nil] at hP ⊢; exact hP), ?_⟩
      refine gN (e' := List.map zA.toD (out ++ x.L)) (by first | rfl | simp only [List.map_append, List.map_cons, List.map_nil, List.map_take, List.map_drop, List.map_set, List.map_replicate, List.length_map, zA.toD_eq]) ?_
      rintro _ rfl
      exact ih_quiet_all_L3 _ _ _ h
    ·
      cases h; exact ⟨rfl, rfl⟩
theorem z2Y (out : List zA) (i : Int) (r : List zA) (h : quiet_all_L3 out i = some r) : Ok (wU (Trip Try.prog) [.d (.sl (List.map zA.toD r))] []) (kL Try.f28 3) ⟨21, [(3, .right 6 1 6 (List.map zA.toD out)), (4, .d (.int .i64 i))], [(6, 1, some (.tok 6 (List.length (List.map zA.toD out))))], [], 0⟩ := z2U (.quiet_all_L3 out i) r h
theorem z1X (t : zA) (r : List zA) (h : jR t = some r) : Trip Try.prog 28 [.d (.agg [(.int .i64 t.K), (.int .i64 t.N), (.str t.S), (.sl (List.map zA.toD t.L)), (.int .i64 t.From), (.int .i64 t.To)])] [] [.d (.sl (List.map zA.toD r))] [] := by
  unfold jR at h
  refine uL 1000 (by kernel_rfl) (by kernel_rfl) (by kernel_rfl) (by kernel_rfl) (by kernel_rfl) (z5C _ _ t _ _) ?_
  have hT := z2Y _ _ _ h
  simp only [List.map_cons, List.map_nil, List.length_cons, List.length_nil, zA.toD_eq] at hT
  exact hT
theorem z0I (t : zA) (r : Bool) (h : wW t = some r) : Trip Try.prog 11 [.d (.agg [(.int .i64 t.K), (.int .i64 t.N), (.str t.S), (.sl (List.map zA.toD t.L)), (.int .i64 t.From), (.int .i64 t.To)])] [] [.d (.bool r)] [] := by
  unfold wW at h
  refine uL 1000 (by kernel_rfl) (by kernel_rfl) (by kernel_rfl) (by kernel_rfl) (by kernel_rfl) (z3J _ _ t _ _) ?_
  obtain ⟨q1, hq, h⟩ := yI h
  refine ⟨List.map zA.toD q1, ⟨_, z1X _ _ hq⟩, ?_⟩
  refine gN (e' := (List.length q1 : Int)) (by first | rfl | rw [List.length_map]) ?_
  exact z1K _ _ _ _ _ h
open Go.RowKit in
theorem z6A {w : World} {M : Nat → Nat → Prop} {b o : Nat} {l : List zA} (hc : RelC w M b o (yU (l.map zA.toD))) {k : Nat} (hk : k < l.length) :
    ∃ v3, w.cell? ⟨b, o + k * 6, none⟩ = some (.int .i64 l[k].K) ∧ w.cell? ⟨b, o + k * 6 + 1, none⟩ = some (.int .i64 l[k].N) ∧ w.cell? ⟨b, o + k * 6 + 2, none⟩ = some (.string ⟨⟨l[k].S⟩⟩) ∧
      w.cell? ⟨b, o + k * 6 + 3, none⟩ = some v3 ∧ w.cell? ⟨b, o + k * 6 + 4, none⟩ = some (.int .i64 l[k].From) ∧ w.cell? ⟨b, o + k * 6 + 5, none⟩ = some (.int .i64 l[k].To) ∧ RelV w M v3 (.sl (l[k].L.map zA.toD)) := by
  have hs : zJ 6 (l.map zA.toD) := wN (fun x => by rw [zA.toD_eq]; rfl)
  have h := hc.elem hs (i := k) (x := l[k].toD) (by rw [List.getElem?_map, List.getElem?_eq_getElem hk]; rfl)
  rw [zA.toD_eq] at h
  cases h with
  | cons _ _ v0 _ _ c0 _ _ r0 h => cases h with
  | cons _ _ v1 _ _ c1 _ _ r1 h => cases h with
  | cons _ _ v2 _ _ c2 _ _ r2 h => cases h with
  | cons _ _ v3 _ _ c3 _ _ r3 h => cases h with
  | cons _ _ v4 _ _ c4 _ _ r4 h => cases h with
  | cons _ _ v5 _ _ c5 _ _ r5 h =>
    cases r0; cases r1; cases r2; cases r4; cases r5
    exact ⟨v3, c0, c1, c2, c3, c4, c5, r3⟩
set_option maxHeartbeats 4000000 in
set_option maxRecDepth 1000000 in
open Go.RowKit Go.Shelf in
theorem z0J (t : zA) (r : List Int) (h : uX t = some r) : Trip Try.prog 14 [.d (.agg [(.int .i64 t.K), (.int .i64 t.N), (.str t.S), (.sl (List.map zA.toD t.L)), (.int .i64 t.From), (.int .i64 t.To)])] [] [.d (.sl (List.map (D.int .i64) r))] [] := by
  refine ⟨⟨_, Try.func14, by rfl, by rfl⟩, fun w M0 κ vs B hv => ?_⟩
  obtain ⟨q, hq, h⟩ := yI h
  obtain ⟨l, hgo0, h⟩ := yI h
  obtain ⟨hq9, h⟩ := z6V h
  have hr : cpt (l.mergeSort fun x y => decide (x ≤ y)) = r := Option.some.inj h
  clear h
  cases hv with
  | cons v _ vs _ g1 hv =>
    cases hv
    cases g1 with
    | d _ _ g1 =>
      cases g1 with
      | agg vs _ g1 =>
        cases g1 with
        | cons v0 _ _ _ s0 h0 g1 =>
        cases g1 with
        | cons v1 _ _ _ s1 h1 g1 =>
        cases g1 with
        | cons v2 _ _ _ s2 h2 g1 =>
        cases g1 with
        | cons v3 _ _ _ s3 h3 g1 =>
        cases g1 with
        | cons v4 _ _ _ s4 h4 g1 =>
        cases g1 with
        | cons v5 _ _ _ s5 h5 g1 =>
        cases g1
        cases h0; cases h1; cases h2; cases h4; cases h5
        obtain ⟨ad, n0, cap, rfl⟩ := z4q h3
        go_enter Try.func14, Try.ntmps14
        go_wp2_with fail
        generalize hW1 : (w.alloc (Obj.cells #[Value.int IntKind.i64 t.K, Value.int IntKind.i64 t.N, Value.string { data := { toList := t.S } }, Value.slice ad n0 cap, Value.int IntKind.i64 t.From, Value.int IntKind.i64 t.To] 24)) = W1
        have bel1 : Below w.heap.size w W1 := by rw [← hW1]; exact (Below.refl _ w).alloc (Nat.le_refl _) _
        refine ((z1X t q hq).2 W1 noM kN _ z0c (.cons _ _ _ _ (.d _ _ (.agg _ _ (.cons _ _ _ _ rfl (.int _ _) (.cons _ _ _ _ rfl (.int _ _) (.cons _ _ _ _ rfl (.str _) (.cons _ _ _ _ rfl (h3.keep (z6h bel1)) (.cons _ _ _ _ rfl (.int _ _) (.cons _ _ _ _ rfl (.int _ _) .nil)))))))) .nil)).mono ?_
        rintro e W2 ⟨v, κ2, rfl, A2, hres⟩
        have hv2 : RelV W2 (Mut noM κ2) v (.sl (q.map zA.toD)) := by
          have h9 := hres.2
          cases h9 with
          | d _ _ h => exact h
        obtain ⟨a2, cap2, rfl, hopen⟩ := z7M hv2
        have bel2 := z0z A2
        rw [List.length_map] at *
        clear hres hv2
        obtain ⟨i0, hi, hz0, hz1, hz2⟩ := info_parts jlay20.i3
        have hi : Try.prog.info? 3 = some i0 := hi
        go_wp2
        go_loopw [3, 9] (fun o i wr => ∃ (k : Nat) (acc : List Int), i = .int .i64 (k : Int) ∧ k ≤ q.length ∧ wr.ownsRow W2.heap.size 3 1 o acc.length (acc.map (Value.int .i64)) ∧ Below W2.heap.size W2 wr ∧ yM (q.drop k) acc = some l ∧ acc.length ≤ k) (fun _ i _ => q.length - (intOf i).toNat)
        case atStart => exact ⟨0, [], rfl, Nat.zero_le _, World.ownsRow_nil _ _ _ _, Below.refl _ _, hgo0, Nat.zero_le _⟩
        case round =>
          obtain ⟨k, acc, rfl, hk, hown, hbw, hgo, hka⟩ := hrel
          by_cases hlt : k < q.length
          · obtain ⟨b, o, rfl, hc⟩ := hopen (fun e => by have := congrArg List.length e; simp at this; rw [this] at hlt; simp at hlt)
            obtain ⟨u3, c0, c1, c2, c3, c4, c5, r3⟩ := z6A hc hlt
            have hbs : b < W2.heap.size := z0C c0
            have tr : ∀ {p : Nat} {v : Value}, W2.cell? ⟨b, p, none⟩ = some v → ‹World›.cell? ⟨b, p, none⟩ = some v := fun {p v} hcv => by
              have := zL (hbw.block b hbs) p
              exact this.trans hcv
            have d0 := tr c0; have d1 := tr c1; have d2 := tr c2; have d3 := tr c3; have d4 := tr c4; have d5 := tr c5
            obtain ⟨ua, un, uc, rfl⟩ := z4q r3
            rw [List.drop_eq_getElem_cons hlt, yM] at hgo
            by_cases h9 : q[k].K = 9
            · rw [if_pos h9] at hgo
              obtain ⟨hroom, hgo⟩ := z6V hgo
              go_wp2_with (first
                | (at_builtin; refine wpList_append_own _ rfl _ _ 32 rfl W2.heap.size 3 i0 (.int .i64 0) 1 8 Try.underlying32 hi hz0 hz1 hz2 rfl (by decide) _ _ _ rfl ((hown.alloc _).alloc _) ⟨wr.heap.size + 1, 0, none⟩ 1 1 [.int .i64 q[k].N] rfl rfl ?c1 ?c2 ?c3 ?c4 ?c5 ?_)
                | fail)
              case c1 =>
                intro j u hj
                match j, hj with
                | 0, hj => simp at hj; subst hj; simp [Addr.add]
              case c2 => intro u hu; simp at hu; subst hu; rfl
              case c3 => unfold maxLen; omega
              case c4 => omega
              case c5 => have := hbw.size; simp; omega
              · intro v' w1 hown' hgrow _
                have hb1 : Below W2.heap.size W2 w1 := (((hbw.alloc hbw.size _).alloc (by have := hbw.size; simp; omega) _)).grown hgrow (by have := hbw.size; simp; omega) (fun j hj => (hown.lt j hj).1)
                have hown2 : w1.ownsRow W2.heap.size 3 1 v' (acc ++ [q[k].N]).length ((acc ++ [q[k].N]).map (Value.int .i64)) := by
                  rw [List.map_append, List.length_append]; exact hown'
                have hlen : (acc ++ [q[k].N]).length ≤ k + 1 := by simp; exact hka
                clear hown' hgrow hown hbw hroom
                go_wp2
                go_roundw
                case rel => exact ⟨k + 1, acc ++ [q[k].N], by go_num, hlt, hown2, hb1, hgo, hlen⟩
                case measure => simp [intOf]; omega
            · rw [if_neg h9] at hgo
              go_wp2_with fail
              go_roundw
              case rel => exact ⟨k + 1, acc, by go_num, hlt, hown.alloc _, hbw.alloc hbw.size _, hgo, by omega⟩
              case measure => simp [intOf]; omega
          · have hke : k = q.length := by omega
            subst hke
            rw [List.drop_eq_nil_of_le (Nat.le_refl _)] at hgo
            have hr2 : acc = l := by simpa [yM] using hgo
            subst hr2
            have hb0 : Below w.heap.size w wr := (bel1.trans (bel2.mono bel1.size)).trans (hbw.mono (by have := bel1.size; have := bel2.size; omega))
            rcases hown.2 with ⟨rfl, h0⟩ | ⟨g, cap9, cur, rfl, hbase, hb, h1, h2, h3', h4⟩
            · have hn : acc = [] := List.eq_nil_of_length_eq_zero h0
              subst hn
              go_wp2_with fail
              refine (Any.slices_Sort_int_none z7p none 0 wr).mono ?_
              rintro e W3 ⟨rfl, rfl⟩
              go_wp2_with fail
              refine (Any.slices_Compact_int_empty jlay20 none 0 _).mono ?_
              rintro e W4 ⟨rfl, rfl⟩
              go_wp2
              go_ret
              have hr0 : r = [] := by rw [← hr]; simp [cpt]
              subst hr0
              exact ⟨_, κ, rfl, z0B B hb0, rfl, .d _ _ .nil⟩
            · have hH := holds_of_blockI hb (by simpa using h4)
              have hgl : g < wr.heap.size := (Array.getElem?_eq_some_iff.1 hb).1
              go_wp2_with fail
              refine (Any.slices_Sort_int z7p g 0 cap9 acc wr hH hgl (by omega)).mono ?_
              rintro e W3 ⟨rfl, nn, os, rfl⟩
              obtain ⟨ts, hts⟩ : ∃ ts, ts = acc.mergeSort fun x y => decide (x ≤ y) := ⟨_, rfl⟩
              rw [← hts] at hr ⊢
              have hsl : ts.length = acc.length := by rw [hts]; simp
              have hs3 := ownsRow_sortedI (w := wr) (n := nn) (os := os) (ts := ts) hsl hbase hb h1 h2 h3'
              have hg3 : wr.grownBy _ (some g) := grownBy_sortedI (n := nn) (os := os) ts.toArray
              have hb3 := hbw.grown hg3 hbw.size (fun j hj => by cases hj; exact hbase)
              generalize Sort.grow (Sort.putRow (Value.int IntKind.i64) (Sort.ahead wr nn) g 0 ts.toArray) os = W3 at hs3 hg3 hb3 ⊢
              clear hb h3' h4 hH hts hown hgo
              rcases hs3.2 with ⟨h0, -⟩ | ⟨g', cap', cur', h0, -, hb', k1, k2, k3, k4⟩
              · cases h0
              injection h0 with e1 e2 e3
              injection e1 with e1
              injection e1 with e1
              subst e1; subst e3
              have hc := Any.slices_Compact_int jlay20 g 0 cap9 ts W3 (holds_of_blockI hb' (by rw [hsl]; simpa using k4)) (by omega) (by omega)
              rw [hsl] at hc
              go_wp2_with fail
              refine hc.mono ?_
              rintro e W4 ⟨rfl, qq, rfl⟩
              have hcl : (Lib.compact ts).length ≤ acc.length := by
                have e9 : (Lib.compact ts).length ≤ ts.length := by
                  unfold Lib.compact Lib.compactUpTo
                  rw [List.length_map]
                  refine Nat.le_trans (List.length_filter_le _ _) ?_
                  simp
                omega
              have hs4 := ownsRow_sortedI (w := W3) (n := qq) (os := #[]) (ss := acc) (ts := Lib.compact ts ++ List.replicate (acc.length - (Lib.compact ts).length) 0) (by simp; omega) hbase hb' k1 k2 k3
              have hg4 : W3.grownBy _ (some g) := grownBy_sortedI (n := qq) (os := #[]) (Lib.compact ts ++ List.replicate (acc.length - (Lib.compact ts).length) 0).toArray
              have hb4 := hb3.grown hg4 hb3.size (fun j hj => by cases hj; exact hbase)
              rw [Sort.grow_empty] at hs4 hb4
              generalize Sort.putRow (Value.int IntKind.i64) (Sort.ahead W3 qq) g 0 (Lib.compact ts ++ List.replicate (acc.length - (Lib.compact ts).length) 0).toArray = W4 at hs4 hb4 ⊢
              have hs5 := z1s hs4 hcl
              rw [← List.map_take, List.take_left, z1B, hr] at hs5
              have hbe : Below w.heap.size w W4 := (bel1.trans (bel2.mono bel1.size)).trans (hb4.mono (by have := bel1.size; have := bel2.size; omega))
              go_wp2
              go_ret
              rw [z1B, hr]
              exact ⟨_, κ, rfl, z0B B hbe, rfl, .d _ _ (z4e hs5 fun b o hb => z5f B (by have := bel1.size; have := bel2.size; omega))⟩
theorem z1z  (r : Bool) (h : uS = some r) : Trip Try.prog 10 [] [] [.d (.bool r)] [] := by
  unfold uS at h
  refine uL 1000 (by kernel_rfl) (by kernel_rfl) (by kernel_rfl) (by kernel_rfl) (by kernel_rfl) (z4V _ _  _ _) ?_
  obtain ⟨q1, hq, h⟩ := yI h
  refine ⟨q1, ⟨_, z0I _ _ hq⟩, ?_⟩
  refine zS Iff.rfl h (fun hc21 h => ?_) (fun hc21 h => ?_)
  ·
    obtain ⟨q2, hq, h⟩ := yI h
    refine ⟨List.map (D.int .i64) q2, ⟨_, z0J _ _ hq⟩, ?_⟩
    refine gN (e' := (List.length q2 : Int)) (by first | rfl | rw [List.length_map]) ?_
    rintro _ rfl
    cases h; exact ⟨rfl, rfl⟩
  ·
    cases h; exact ⟨rfl, rfl⟩
def z4A : (i : yC) → uA i → Prop
  | .zV t left levels, r => Trip Try.prog 16 [.d (.agg [(.int .i64 t.K), (.int .i64 t.N), (.str t.S), (.sl (List.map zA.toD t.L)), (.int .i64 t.From), (.int .i64 t.To)]), .d (.int .i64 left), .d (.int .i64 levels)] [] [.d (.int .i64 r)] []
  | .zH left levels i t, r => Ok (wI (Trip Try.prog) [.d (.int .i64 r)] []) (kL Try.f16 5) ⟨33, [(1, .d (.int .i64 left)), (2, .d (.int .i64 levels)), (3, .ref 3 1 0), (7, .d (.int .i64 i))], [(3, 1, some (.agg (.agg [(.int .i64 t.K), (.int .i64 t.N), (.str t.S), (.sl (List.map zA.toD t.L)), (.int .i64 t.From), (.int .i64 t.To)])))], [], 0⟩
theorem z4w : ∀ i r, z1p jB i = some r → z4A i r := by
  refine vK gO fun g ih i => ?_
  cases i with
  | zV t left levels =>
    have ih_ref06Count_L5 : ∀ (left : Int) (levels : Int) (i : Int) (t : zA) (r : Int), g (yC.zH left levels i t) = some r → Ok (wI (Trip Try.prog) [.d (.int .i64 r)] []) (kL Try.f16 5) ⟨33, [(1, .d (.int .i64 left)), (2, .d (.int .i64 levels)), (3, .ref 3 1 0), (7, .d (.int .i64 i))], [(3, 1, some (.agg (.agg [(.int .i64 t.K), (.int .i64 t.N), (.str t.S), (.sl (List.map zA.toD t.L)), (.int .i64 t.From), (.int .i64 t.To)])))], [], 0⟩ := fun left levels i t r h => ih (.zH left levels i t) r h
    intro r h
    show Trip Try.prog 16 [.d (.agg [(.int .i64 t.K), (.int .i64 t.N), (.str t.S), (.sl (List.map zA.toD t.L)), (.int .i64 t.From), (.int .i64 t.To)]), .d (.int .i64 left), .d (.int .i64 levels)] [] [.d (.int .i64 r)] []
    replace h : vO (fun left levels i t => g (yC.zH left levels i t)) t left levels = some r := h
    unfold vO at h
    refine uL 1000 (by kernel_rfl) (by kernel_rfl) (by kernel_rfl) (by kernel_rfl) (by kernel_rfl) (z4W _ _ t left levels _ _) ?_
    rintro _ rfl
    refine zS decide_eq_true_iff h (fun hc22 h => ?_) (fun hc22 h => ?_)
    ·
      cases h; exact ⟨rfl, rfl⟩
    ·
      rintro _ rfl
      exact ih_ref06Count_L5 _ _ _ _ _ h
  | zH left levels i t =>
    have ih_ref06Count : ∀ (t : zA) (left : Int) (levels : Int) (r : Int), g (yC.zV t left levels) = some r → Trip Try.prog 16 [.d (.agg [(.int .i64 t.K), (.int .i64 t.N), (.str t.S), (.sl (List.map zA.toD t.L)), (.int .i64 t.From), (.int .i64 t.To)]), .d (.int .i64 left), .d (.int .i64 levels)] [] [.d (.int .i64 r)] [] := fun t left levels r h => ih (.zV t left levels) r h
    have ih_ref06Count_L5 : ∀ (left : Int) (levels : Int) (i : Int) (t : zA) (r : Int), g (yC.zH left levels i t) = some r → Ok (wI (Trip Try.prog) [.d (.int .i64 r)] []) (kL Try.f16 5) ⟨33, [(1, .d (.int .i64 left)), (2, .d (.int .i64 levels)), (3, .ref 3 1 0), (7, .d (.int .i64 i))], [(3, 1, some (.agg (.agg [(.int .i64 t.K), (.int .i64 t.N), (.str t.S), (.sl (List.map zA.toD t.L)), (.int .i64 t.From), (.int .i64 t.To)])))], [], 0⟩ := fun left levels i t r h => ih (.zH left levels i t) r h
    intro r h
    show Ok (wI (Trip Try.prog) [.d (.int .i64 r)] []) (kL Try.f16 5) ⟨33, [(1, .d (.int .i64 left)), (2, .d (.int .i64 levels)), (3, .ref 3 1 0), (7, .d (.int .i64 i))], [(3, 1, some (.agg (.agg [(.int .i64 t.K), (.int .i64 t.N), (.str t.S), (.sl (List.map zA.toD t.L)), (.int .i64 t.From), (.int .i64 t.To)])))], [], 0⟩
    replace h : yP (fun t left levels => g (yC.zV t left levels)) (fun left levels i t => g (yC.zH left levels i t)) left levels i t = some r := h
    unfold yP at h
    refine z5r 1000 (z2l _ _ left levels i t _ _) ?_
    refine gN (e' := (List.length t.L : Int)) (by first | rfl | rw [List.length_map]) ?_
    rintro _ rfl
    refine zS decide_eq_true_iff h (fun hc23 h => ?_) (fun hc23 h => ?_)
    ·
      rintro _ rfl
      refine zS decide_eq_true_iff h (fun hc24 h => ?_) (fun hc24 h => ?_)
      ·
        obtain ⟨x, hx, h⟩ := yI h
        refine ⟨wN (l := t.L) (zA.sz), z4u hx, x.K, x.N, x.S, List.map zA.toD x.L, x.From, x.To, z0f (zA.toD_eq x) hx, ?_⟩
        rintro _ rfl
        obtain ⟨q1, hq, h⟩ := yI h
        refine ⟨q1, ⟨_, ih_ref06Count _ _ _ _ hq⟩, ?_⟩
        rintro _ rfl
        exact ih_ref06Count_L5 _ _ _ _ _ h
      ·
        cases h; exact ⟨rfl, rfl⟩
    ·
      cases h; exact ⟨rfl, rfl⟩
theorem z4E (t : zA) (left : Int) (levels : Int) (r : Int) (h : zV t left levels = some r) : Trip Try.prog 16 [.d (.agg [(.int .i64 t.K), (.int .i64 t.N), (.str t.S), (.sl (List.map zA.toD t.L)), (.int .i64 t.From), (.int .i64 t.To)]), .d (.int .i64 left), .d (.int .i64 levels)] [] [.d (.int .i64 r)] [] := z4w (.zV t left levels) r h
def z4B : (i : yD) → uB i → Prop
  | .zW t, r => Trip Try.prog 17 [.d (.agg [(.int .i64 t.K), (.int .i64 t.N), (.str t.S), (.sl (List.map zA.toD t.L)), (.int .i64 t.From), (.int .i64 t.To)])] [] [.d (.bool r)] []
  | .zI i t, r => Ok (wJ (Trip Try.prog) [.d (.bool r)] []) (kL Try.f17 4) ⟨21, [(1, .ref 1 1 0), (3, .d (.int .i64 i))], [(1, 1, some (.agg (.agg [(.int .i64 t.K), (.int .i64 t.N), (.str t.S), (.sl (List.map zA.toD t.L)), (.int .i64 t.From), (.int .i64 t.To)])))], [], 0⟩
theorem z4x : ∀ i r, z1p jC i = some r → z4B i r := by
  refine vK gP fun g ih i => ?_
  cases i with
  | zW t =>
    have ih_ref06Named_L4 : ∀ (i : Int) (t : zA) (r : Bool), g (yD.zI i t) = some r → Ok (wJ (Trip Try.prog) [.d (.bool r)] []) (kL Try.f17 4) ⟨21, [(1, .ref 1 1 0), (3, .d (.int .i64 i))], [(1, 1, some (.agg (.agg [(.int .i64 t.K), (.int .i64 t.N), (.str t.S), (.sl (List.map zA.toD t.L)), (.int .i64 t.From), (.int .i64 t.To)])))], [], 0⟩ := fun i t r h => ih (.zI i t) r h
    intro r h
    show Trip Try.prog 17 [.d (.agg [(.int .i64 t.K), (.int .i64 t.N), (.str t.S), (.sl (List.map zA.toD t.L)), (.int .i64 t.From), (.int .i64 t.To)])] [] [.d (.bool r)] []
    replace h : vP (fun i t => g (yD.zI i t)) t = some r := h
    unfold vP at h
    refine uL 1000 (by kernel_rfl) (by kernel_rfl) (by kernel_rfl) (by kernel_rfl) (by kernel_rfl) (z4Y _ _ t _ _) ?_
    rintro _ rfl
    rintro _ rfl
    refine zS decide_eq_true_iff h (fun hc25 h => ?_) (fun hc25 h => ?_)
    ·
      cases h; exact ⟨rfl, rfl⟩
    ·
      exact ih_ref06Named_L4 _ _ _ h
  | zI i t =>
    have ih_ref06Named : ∀ (t : zA) (r : Bool), g (yD.zW t) = some r → Trip Try.prog 17 [.d (.agg [(.int .i64 t.K), (.int .i64 t.N), (.str t.S), (.sl (List.map zA.toD t.L)), (.int .i64 t.From), (.int .i64 t.To)])] [] [.d (.bool r)] [] := fun t r h => ih (.zW t) r h
    have ih_ref06Named_L4 : ∀ (i : Int) (t : zA) (r : Bool), g (yD.zI i t) = some r → Ok (wJ (Trip Try.prog) [.d (.bool r)] []) (kL Try.f17 4) ⟨21, [(1, .ref 1 1 0), (3, .d (.int .i64 i))], [(1, 1, some (.agg (.agg [(.int .i64 t.K), (.int .i64 t.N), (.str t.S), (.sl (List.map zA.toD t.L)), (.int .i64 t.From), (.int .i64 t.To)])))], [], 0⟩ := fun i t r h => ih (.zI i t) r h
    intro r h
    show Ok (wJ (Trip Try.prog) [.d (.bool r)] []) (kL Try.f17 4) ⟨21, [(1, .ref 1 1 0), (3, .d (.int .i64 i))], [(1, 1, some (.agg (.agg [(.int .i64 t.K), (.int .i64 t.N), (.str t.S), (.sl (List.map zA.toD t.L)), (.int .i64 t.From), (.int .i64 t.To)])))], [], 0⟩
    replace h : yQ (fun t => g (yD.zW t)) (fun i t => g (yD.zI i t)) i t = some r := h
    unfold yQ at h
    refine z5r 1000 (z2m _ _ i t _ _) ?_
    refine gN (e' := (List.length t.L : Int)) (by first | rfl | rw [List.length_map]) ?_
    rintro _ rfl
    refine zS decide_eq_true_iff h (fun hc26 h => ?_) (fun hc26 h => ?_)
    ·
      obtain ⟨x, hx, h⟩ := yI h
      refine ⟨wN (l := t.L) (zA.sz), z4u hx, x.K, x.N, x.S, List.map zA.toD x.L, x.From, x.To, z0f (zA.toD_eq x) hx, ?_⟩
      obtain ⟨q1, hq, h⟩ := yI h
      refine ⟨q1, ⟨_, ih_ref06Named _ _ hq⟩, ?_⟩
      refine zS Iff.rfl h (fun hc27 h => ?_) (fun hc27 h => ?_)
      ·
        cases h; exact ⟨rfl, rfl⟩
      ·
        rintro _ rfl
        exact ih_ref06Named_L4 _ _ _ h
    ·
      cases h; exact ⟨rfl, rfl⟩
theorem z4G (t : zA) (r : Bool) (h : zW t = some r) : Trip Try.prog 17 [.d (.agg [(.int .i64 t.K), (.int .i64 t.N), (.str t.S), (.sl (List.map zA.toD t.L)), (.int .i64 t.From), (.int .i64 t.To)])] [] [.d (.bool r)] [] := z4x (.zW t) r h
theorem z4F (t : zA) (r : Bool) (h : jS t = some r) : Trip Try.prog 5 [.d (.agg [(.int .i64 t.K), (.int .i64 t.N), (.str t.S), (.sl (List.map zA.toD t.L)), (.int .i64 t.From), (.int .i64 t.To)])] [] [.d (.bool r)] [] := by
  unfold jS at h
  refine uL 1000 (by kernel_rfl) (by kernel_rfl) (by kernel_rfl) (by kernel_rfl) (by kernel_rfl) (z4X _ _ t _ _) ?_
  obtain ⟨q1, hq, h⟩ := yI h
  refine ⟨q1, ⟨_, z4E _ _ _ _ hq⟩, ?_⟩
  rintro _ rfl
  refine zS decide_eq_true_iff h (fun hc28 h => ?_) (fun hc28 h => ?_)
  ·
    cases h; exact ⟨rfl, rfl⟩
  ·
    obtain ⟨q2, hq, h⟩ := yI h
    refine ⟨q2, ⟨_, z4G _ _ hq⟩, ?_⟩
    cases h; exact ⟨rfl, rfl⟩
def z3B : (i : vU) → uN i → Prop
  | .zR a b i, r => Ok (uR (Trip Try.prog) [.d (.bool r)] []) (kL Try.f29 4) ⟨26, [(0, .d (.sl (List.map (D.int .i64) a))), (1, .d (.sl (List.map (D.int .i64) b))), (5, .d (.int .i64 i))], [], [], 0⟩
theorem z3A : ∀ i r, z1p jY i = some r → z3B i r := by
  refine vK z0H fun g ih i => ?_
  cases i with
  | zR a b i =>
    have ih_ref06Way_L4 : ∀ (a : List Int) (b : List Int) (i : Int) (r : Bool), g (vU.zR a b i) = some r → Ok (uR (Trip Try.prog) [.d (.bool r)] []) (kL Try.f29 4) ⟨26, [(0, .d (.sl (List.map (D.int .i64) a))), (1, .d (.sl (List.map (D.int .i64) b))), (5, .d (.int .i64 i))], [], [], 0⟩ := fun a b i r h => ih (.zR a b i) r h
    intro r h
    show Ok (uR (Trip Try.prog) [.d (.bool r)] []) (kL Try.f29 4) ⟨26, [(0, .d (.sl (List.map (D.int .i64) a))), (1, .d (.sl (List.map (D.int .i64) b))), (5, .d (.int .i64 i))], [], [], 0⟩
    replace h : yW (fun a b i => g (vU.zR a b i)) a b i = some r := h
    unfold yW at h
    refine z5r 1000 (z3K _ _ a b i _ _) ?_
    refine gN (e' := (List.length a : Int)) (by first | rfl | rw [List.length_map]) ?_
    rintro _ rfl
    refine zS decide_eq_true_iff h (fun hc29 h => ?_) (fun hc29 h => ?_)
    ·
      obtain ⟨x, hx, h⟩ := yI h
      refine ⟨wN (l := a) (fun _ => rfl), z4u hx, x, z0f rfl hx, ?_⟩
      obtain ⟨x1, hx, h⟩ := yI h
      refine ⟨wN (l := b) (fun _ => rfl), z4u hx, x1, z0f rfl hx, ?_⟩
      rintro _ rfl
      refine vT beq_iff_eq h (fun hc30 h => ?_) (fun hc30 h => ?_)
      ·
        rintro _ rfl
        exact ih_ref06Way_L4 _ _ _ _ h
      ·
        cases h; exact ⟨rfl, rfl⟩
    ·
      cases h; exact ⟨rfl, rfl⟩
theorem z3C (a : List Int) (b : List Int) (i : Int) (r : Bool) (h : zR a b i = some r) : Ok (uR (Trip Try.prog) [.d (.bool r)] []) (kL Try.f29 4) ⟨26, [(0, .d (.sl (List.map (D.int .i64) a))), (1, .d (.sl (List.map (D.int .i64) b))), (5, .d (.int .i64 i))], [], [], 0⟩ := z3A (.zR a b i) r h
theorem z6t (a : List Int) (b : List Int) (r : Bool) (h : z1U a b = some r) : Trip Try.prog 29 [.d (.sl (List.map (D.int .i64) a)), .d (.sl (List.map (D.int .i64) b))] [] [.d (.bool r)] [] := by
  unfold z1U at h
  refine uL 1000 (by kernel_rfl) (by kernel_rfl) (by kernel_rfl) (by kernel_rfl) (by kernel_rfl) (z6z _ _ a b _ _) ?_
  refine gN (e' := (List.length a : Int)) (by first | rfl | rw [List.length_map]) ?_
  refine gN (e' := (List.length b : Int)) (by first | rfl | rw [List.length_map]) ?_
  rintro _ rfl
  refine vT beq_iff_eq h (fun hc31 h => ?_) (fun hc31 h => ?_)
  ·
    exact z3C _ _ _ _ h
  ·
    cases h; exact ⟨rfl, rfl⟩
theorem z3D (a : List Int) (b : List Int) (r : Bool) (h : uZ a b = some r) : Trip Try.prog 13 [.d (.sl (List.map (D.int .i64) a)), .d (.sl (List.map (D.int .i64) b))] [] [.d (.bool r)] [] := by
  unfold uZ at h
  refine uL 1000 (by kernel_rfl) (by kernel_rfl) (by kernel_rfl) (by kernel_rfl) (by kernel_rfl) (z3L _ _ a b _ _) ?_
  obtain ⟨q1, hq, h⟩ := yI h
  refine ⟨q1, ⟨_, z6t _ _ _ hq⟩, ?_⟩
  cases h; exact ⟨rfl, rfl⟩
def z4D : (i : yE) → uC i → Prop
  | .zY t, r => Trip Try.prog 12 [.d (.agg [(.int .i64 t.K), (.int .i64 t.N), (.str t.S), (.sl (List.map zA.toD t.L)), (.int .i64 t.From), (.int .i64 t.To)])] [] [.d (.bool r)] []
  | .zB i t, r => Ok (wK (Trip Try.prog) [.d (.bool r)] []) (kL Try.f12 7) ⟨93, [(1, .ref 1 1 0), (4, .d (.int .i64 i))], [(1, 1, some (.agg (.agg [(.int .i64 t.K), (.int .i64 t.N), (.str t.S), (.sl (List.map zA.toD t.L)), (.int .i64 t.From), (.int .i64 t.To)])))], [], 0⟩
theorem z4z : ∀ i r, z1p jD i = some r → z4D i r := by
  refine vK gQ fun g ih i => ?_
  cases i with
  | zY t =>
    have ih_ref24Quiet_L7 : ∀ (i : Int) (t : zA) (r : Bool), g (yE.zB i t) = some r → Ok (wK (Trip Try.prog) [.d (.bool r)] []) (kL Try.f12 7) ⟨93, [(1, .ref 1 1 0), (4, .d (.int .i64 i))], [(1, 1, some (.agg (.agg [(.int .i64 t.K), (.int .i64 t.N), (.str t.S), (.sl (List.map zA.toD t.L)), (.int .i64 t.From), (.int .i64 t.To)])))], [], 0⟩ := fun i t r h => ih (.zB i t) r h
    intro r h
    show Trip Try.prog 12 [.d (.agg [(.int .i64 t.K), (.int .i64 t.N), (.str t.S), (.sl (List.map zA.toD t.L)), (.int .i64 t.From), (.int .i64 t.To)])] [] [.d (.bool r)] []
    replace h : vF (fun i t => g (yE.zB i t)) t = some r := h
    unfold vF at h
    refine uL 1000 (by kernel_rfl) (by kernel_rfl) (by kernel_rfl) (by kernel_rfl) (by kernel_rfl) (z5a _ _ t _ _) ?_
    rintro _ rfl
    refine vT beq_iff_eq h (fun hc32 h => ?_) (fun hc32 h => ?_)
    ·
      rintro _ rfl
      refine gG beq_iff_eq (fun e => absurd (hc32.symm.trans e) (by decide)) ?_
      exact ih_ref24Quiet_L7 _ _ _ h
    ·
      rintro _ rfl
      refine vT beq_iff_eq h (fun hc33 h => ?_) (fun hc33 h => ?_)
      ·
        rintro _ rfl
        refine gG beq_iff_eq (fun e => absurd (hc33.symm.trans e) (by decide)) ?_
        exact ih_ref24Quiet_L7 _ _ _ h
      ·
        rintro _ rfl
        refine vT beq_iff_eq h (fun hc34 h => ?_) (fun hc34 h => ?_)
        ·
          rintro _ rfl
          refine gG beq_iff_eq (fun e => absurd (hc34.symm.trans e) (by decide)) ?_
          exact ih_ref24Quiet_L7 _ _ _ h
        ·
          rintro _ rfl
          refine vT beq_iff_eq h (fun hc35 h => ?_) (fun hc35 h => ?_)
          ·
            rintro _ rfl
            refine gG beq_iff_eq (fun e => absurd (hc35.symm.trans e) (by decide)) ?_
            exact ih_ref24Quiet_L7 _ _ _ h
          ·
            rintro _ rfl
            refine vT beq_iff_eq h (fun hc36 h => ?_) (fun hc36 h => ?_)
            ·
              rintro _ rfl
              refine gG beq_iff_eq (fun e => absurd (hc36.symm.trans e) (by decide)) ?_
              exact ih_ref24Quiet_L7 _ _ _ h
            ·
              rintro _ rfl
              refine vT beq_iff_eq h (fun hc37 h => ?_) (fun hc37 h => ?_)
              ·
                rintro _ rfl
                refine gG beq_iff_eq (fun e => absurd (hc37.symm.trans e) (by decide)) ?_
                exact ih_ref24Quiet_L7 _ _ _ h
              ·
                rintro _ rfl
                refine vT beq_iff_eq h (fun hc38 h => ?_) (fun hc38 h => ?_)
                ·
                  rintro _ rfl
                  refine gG beq_iff_eq (fun e => absurd (hc38.symm.trans e) (by decide)) ?_
                  exact ih_ref24Quiet_L7 _ _ _ h
                ·
                  rintro _ rfl
                  refine vT beq_iff_eq h (fun hc39 h => ?_) (fun hc39 h => ?_)
                  ·
                    rintro _ rfl
                    refine gG beq_iff_eq (fun e => absurd (hc39.symm.trans e) (by decide)) ?_
                    exact ih_ref24Quiet_L7 _ _ _ h
                  ·
                    rintro _ rfl
                    refine vT beq_iff_eq h (fun hc40 h => ?_) (fun hc40 h => ?_)
                    ·
                      rintro _ rfl
                      refine gG beq_iff_eq (fun e => absurd (hc40.symm.trans e) (by decide)) ?_
                      exact ih_ref24Quiet_L7 _ _ _ h
                    ·
                      rintro _ rfl
                      refine vT beq_iff_eq h (fun hc41 h => ?_) (fun hc41 h => ?_)
                      ·
                        rintro _ rfl
                        refine gH beq_iff_eq hc41 ?_
                        rintro _ rfl
                        refine zS beq_iff_eq h (fun hc42 h => ?_) (fun hc42 h => ?_)
                        ·
                          refine gN (e' := (List.length t.L : Int)) (by first | rfl | rw [List.length_map]) ?_
                          rintro _ rfl
                          refine zS decide_eq_true_iff h (fun hc43 h => ?_) (fun hc43 h => ?_)
                          ·
                            cases h; exact ⟨rfl, rfl⟩
                          ·
                            obtain ⟨x, hx, h⟩ := yI h
                            refine ⟨wN (l := t.L) (zA.sz), z4u hx, x.K, x.N, x.S, List.map zA.toD x.L, x.From, x.To, z0f (zA.toD_eq x) hx, ?_⟩
                            rintro _ rfl
                            refine vT beq_iff_eq h (fun hc44 h => ?_) (fun hc44 h => ?_)
                            ·
                              obtain ⟨x1, hx, h⟩ := yI h
                              refine ⟨wN (l := t.L) (zA.sz), z4u hx, x1.K, x1.N, x1.S, List.map zA.toD x1.L, x1.From, x1.To, z0f (zA.toD_eq x1) hx, ?_⟩
                              rintro _ rfl
                              refine zS beq_iff_eq h (fun hc45 h => ?_) (fun hc45 h => ?_)
                              ·
                                cases h; exact ⟨rfl, rfl⟩
                              ·
                                exact ih_ref24Quiet_L7 _ _ _ h
                            ·
                              cases h; exact ⟨rfl, rfl⟩
                        ·
                          rintro _ rfl
                          refine zS beq_iff_eq h (fun hc46 h => ?_) (fun hc46 h => ?_)
                          ·
                            refine gN (e' := (List.length t.L : Int)) (by first | rfl | rw [List.length_map]) ?_
                            rintro _ rfl
                            refine zS decide_eq_true_iff h (fun hc47 h => ?_) (fun hc47 h => ?_)
                            ·
                              cases h; exact ⟨rfl, rfl⟩
                            ·
                              obtain ⟨x2, hx, h⟩ := yI h
                              refine ⟨wN (l := t.L) (zA.sz), z4u hx, x2.K, x2.N, x2.S, List.map zA.toD x2.L, x2.From, x2.To, z0f (zA.toD_eq x2) hx, ?_⟩
                              rintro _ rfl
                              refine vT beq_iff_eq h (fun hc48 h => ?_) (fun hc48 h => ?_)
                              ·
                                obtain ⟨x3, hx, h⟩ := yI h
                                refine ⟨wN (l := t.L) (zA.sz), z4u hx, x3.K, x3.N, x3.S, List.map zA.toD x3.L, x3.From, x3.To, z0f (zA.toD_eq x3) hx, ?_⟩
                                rintro _ rfl
                                refine zS beq_iff_eq h (fun hc49 h => ?_) (fun hc49 h => ?_)
                                ·
                                  cases h; exact ⟨rfl, rfl⟩
                                ·
                                  exact ih_ref24Quiet_L7 _ _ _ h
                              ·
                                cases h; exact ⟨rfl, rfl⟩
                          ·
                            exact ih_ref24Quiet_L7 _ _ _ h
                      ·
                        cases h; exact ⟨rfl, rfl⟩
  | zB i t =>
    have ih_ref24Quiet : ∀ (t : zA) (r : Bool), g (yE.zY t) = some r → Trip Try.prog 12 [.d (.agg [(.int .i64 t.K), (.int .i64 t.N), (.str t.S), (.sl (List.map zA.toD t.L)), (.int .i64 t.From), (.int .i64 t.To)])] [] [.d (.bool r)] [] := fun t r h => ih (.zY t) r h
    have ih_ref24Quiet_L7 : ∀ (i : Int) (t : zA) (r : Bool), g (yE.zB i t) = some r → Ok (wK (Trip Try.prog) [.d (.bool r)] []) (kL Try.f12 7) ⟨93, [(1, .ref 1 1 0), (4, .d (.int .i64 i))], [(1, 1, some (.agg (.agg [(.int .i64 t.K), (.int .i64 t.N), (.str t.S), (.sl (List.map zA.toD t.L)), (.int .i64 t.From), (.int .i64 t.To)])))], [], 0⟩ := fun i t r h => ih (.zB i t) r h
    intro r h
    show Ok (wK (Trip Try.prog) [.d (.bool r)] []) (kL Try.f12 7) ⟨93, [(1, .ref 1 1 0), (4, .d (.int .i64 i))], [(1, 1, some (.agg (.agg [(.int .i64 t.K), (.int .i64 t.N), (.str t.S), (.sl (List.map zA.toD t.L)), (.int .i64 t.From), (.int .i64 t.To)])))], [], 0⟩
    replace h : yR (fun t => g (yE.zY t)) (fun i t => g (yE.zB i t)) i t = some r := h
    unfold yR at h
    refine z5r 1000 (z2n _ _ i t _ _) ?_
    refine gN (e' := (List.length t.L : Int)) (by first | rfl | rw [List.length_map]) ?_
    rintro _ rfl
    refine zS decide_eq_true_iff h (fun hc50 h => ?_) (fun hc50 h => ?_)
    ·
      obtain ⟨x, hx, h⟩ := yI h
      refine ⟨wN (l := t.L) (zA.sz), z4u hx, x.K, x.N, x.S, List.map zA.toD x.L, x.From, x.To, z0f (zA.toD_eq x) hx, ?_⟩
      obtain ⟨q1, hq, h⟩ := yI h
      refine ⟨q1, ⟨_, ih_ref24Quiet _ _ hq⟩, ?_⟩
      refine vT Iff.rfl h (fun hc51 h => ?_) (fun hc51 h => ?_)
      ·
        rintro _ rfl
        exact ih_ref24Quiet_L7 _ _ _ h
      ·
        cases h; exact ⟨rfl, rfl⟩
    ·
      cases h; exact ⟨rfl, rfl⟩
theorem z4I (t : zA) (r : Bool) (h : zY t = some r) : Trip Try.prog 12 [.d (.agg [(.int .i64 t.K), (.int .i64 t.N), (.str t.S), (.sl (List.map zA.toD t.L)), (.int .i64 t.From), (.int .i64 t.To)])] [] [.d (.bool r)] [] := z4z (.zY t) r h
def z4C : (i : wH) → jE i → Prop
  | .zX l n i, r => Ok (jN (Trip Try.prog) [.d (.bool r)] []) (kL Try.f33 2) ⟨18, [(0, .d (.sl (List.map (D.int .i64) l))), (1, .d (.int .i64 n)), (5, .d (.int .i64 i))], [], [], 0⟩
theorem z4y : ∀ i r, z1p gR i = some r → z4C i r := by
  refine vK z1y fun g ih i => ?_
  cases i with
  | zX l n i =>
    have ih_ref23In_L2 : ∀ (l : List Int) (n : Int) (i : Int) (r : Bool), g (wH.zX l n i) = some r → Ok (jN (Trip Try.prog) [.d (.bool r)] []) (kL Try.f33 2) ⟨18, [(0, .d (.sl (List.map (D.int .i64) l))), (1, .d (.int .i64 n)), (5, .d (.int .i64 i))], [], [], 0⟩ := fun l n i r h => ih (.zX l n i) r h
    intro r h
    show Ok (jN (Trip Try.prog) [.d (.bool r)] []) (kL Try.f33 2) ⟨18, [(0, .d (.sl (List.map (D.int .i64) l))), (1, .d (.int .i64 n)), (5, .d (.int .i64 i))], [], [], 0⟩
    replace h : vE (fun l n i => g (wH.zX l n i)) l n i = some r := h
    unfold vE at h
    refine z5r 1000 (z4Z _ _ l n i _ _) ?_
    refine gN (e' := (List.length l : Int)) (by first | rfl | rw [List.length_map]) ?_
    rintro _ rfl
    refine zS decide_eq_true_iff h (fun hc52 h => ?_) (fun hc52 h => ?_)
    ·
      obtain ⟨x, hx, h⟩ := yI h
      refine ⟨wN (l := l) (fun _ => rfl), z4u hx, x, z0f rfl hx, ?_⟩
      rintro _ rfl
      refine zS beq_iff_eq h (fun hc53 h => ?_) (fun hc53 h => ?_)
      ·
        cases h; exact ⟨rfl, rfl⟩
      ·
        rintro _ rfl
        exact ih_ref23In_L2 _ _ _ _ h
    ·
      cases h; exact ⟨rfl, rfl⟩
theorem z4H (l : List Int) (n : Int) (i : Int) (r : Bool) (h : zX l n i = some r) : Ok (jN (Trip Try.prog) [.d (.bool r)] []) (kL Try.f33 2) ⟨18, [(0, .d (.sl (List.map (D.int .i64) l))), (1, .d (.int .i64 n)), (5, .d (.int .i64 i))], [], [], 0⟩ := z4y (.zX l n i) r h
theorem z6X (l : List Int) (n : Int) (r : Bool) (h : z4l l n = some r) : Trip Try.prog 33 [.d (.sl (List.map (D.int .i64) l)), .d (.int .i64 n)] [] [.d (.bool r)] [] := by
  unfold z4l at h
  refine uL 1000 (by kernel_rfl) (by kernel_rfl) (by kernel_rfl) (by kernel_rfl) (by kernel_rfl) (z7d _ _ l n _ _) ?_
  exact z4H _ _ _ _ h
def z2X : (i : zT) → wB i → Prop
  | .zM t, r => Trip Try.prog 32 [.d (.agg [(.int .i64 t.K), (.int .i64 t.N), (.str t.S), (.sl (List.map zA.toD t.L)), (.int .i64 t.From), (.int .i64 t.To)])] [] [.d (.sl (List.map (D.int .i64) r))] []
  | .zC out i t, r => Ok (vG (Trip Try.prog) [.d (.sl (List.map (D.int .i64) r))] []) (kL Try.f32 5) ⟨30, [(1, .ref 1 1 0), (3, .right 5 1 1 (List.map (D.int .i64) out)), (4, .d (.int .i64 i))], [(1, 1, some (.agg (.agg [(.int .i64 t.K), (.int .i64 t.N), (.str t.S), (.sl (List.map zA.toD t.L)), (.int .i64 t.From), (.int .i64 t.To)]))), (5, 1, some (.tok 1 (List.length (List.map (D.int .i64) out))))], [], 0⟩
theorem z2V : ∀ i r, z1p wY i = some r → z2X i r := by
  refine vK jK fun g ih i => ?_
  cases i with
  | zM t =>
    have ih_ref24Globals_L5 : ∀ (out : List Int) (i : Int) (t : zA) (r : List Int), g (zT.zC out i t) = some r → Ok (vG (Trip Try.prog) [.d (.sl (List.map (D.int .i64) r))] []) (kL Try.f32 5) ⟨30, [(1, .ref 1 1 0), (3, .right 5 1 1 (List.map (D.int .i64) out)), (4, .d (.int .i64 i))], [(1, 1, some (.agg (.agg [(.int .i64 t.K), (.int .i64 t.N), (.str t.S), (.sl (List.map zA.toD t.L)), (.int .i64 t.From), (.int .i64 t.To)]))), (5, 1, some (.tok 1 (List.length (List.map (D.int .i64) out))))], [], 0⟩ := fun out i t r h => ih (.zC out i t) r h
    intro r h
    show Trip Try.prog 32 [.d (.agg [(.int .i64 t.K), (.int .i64 t.N), (.str t.S), (.sl (List.map zA.toD t.L)), (.int .i64 t.From), (.int .i64 t.To)])] [] [.d (.sl (List.map (D.int .i64) r))] []
    replace h : vA (fun out i t => g (zT.zC out i t)) t = some r := h
    unfold vA at h
    refine uL 1000 (by kernel_rfl) (by kernel_rfl) (by kernel_rfl) (by kernel_rfl) (by kernel_rfl) (z3b _ _ t _ _) ?_
    rintro _ rfl
    refine zS beq_iff_eq h (fun hc54 h => ?_) (fun hc54 h => ?_)
    ·
      refine ⟨by simp [zJ, D.cells], ?_⟩
      refine ⟨by first | rfl | decide | simp only [List.length_map, List.length_cons, List.length_nil, List.map_append, List.length_append], ?_⟩
      obtain ⟨hP, h⟩ := z6V h
      refine ⟨by first | exact hP | (simp only [List.length_map, List.length_cons, List.length_nil] at hP ⊢; exact hP), ?_⟩
      refine gN (e' := List.map (D.int .i64) (([] : List Int) ++ [t.N])) (by first | rfl | simp only [List.map_append, List.map_cons, List.map_nil, List.map_take, List.map_drop, List.map_set, List.map_replicate, List.length_map]) ?_
      exact ih_ref24Globals_L5 _ _ _ _ h
    ·
      exact ih_ref24Globals_L5 _ _ _ _ h
  | zC out i t =>
    have ih_ref24Globals : ∀ (t : zA) (r : List Int), g (zT.zM t) = some r → Trip Try.prog 32 [.d (.agg [(.int .i64 t.K), (.int .i64 t.N), (.str t.S), (.sl (List.map zA.toD t.L)), (.int .i64 t.From), (.int .i64 t.To)])] [] [.d (.sl (List.map (D.int .i64) r))] [] := fun t r h => ih (.zM t) r h
    have ih_ref24Globals_L5 : ∀ (out : List Int) (i : Int) (t : zA) (r : List Int), g (zT.zC out i t) = some r → Ok (vG (Trip Try.prog) [.d (.sl (List.map (D.int .i64) r))] []) (kL Try.f32 5) ⟨30, [(1, .ref 1 1 0), (3, .right 5 1 1 (List.map (D.int .i64) out)), (4, .d (.int .i64 i))], [(1, 1, some (.agg (.agg [(.int .i64 t.K), (.int .i64 t.N), (.str t.S), (.sl (List.map zA.toD t.L)), (.int .i64 t.From), (.int .i64 t.To)]))), (5, 1, some (.tok 1 (List.length (List.map (D.int .i64) out))))], [], 0⟩ := fun out i t r h => ih (.zC out i t) r h
    intro r h
    show Ok (vG (Trip Try.prog) [.d (.sl (List.map (D.int .i64) r))] []) (kL Try.f32 5) ⟨30, [(1, .ref 1 1 0), (3, .right 5 1 1 (List.map (D.int .i64) out)), (4, .d (.int .i64 i))], [(1, 1, some (.agg (.agg [(.int .i64 t.K), (.int .i64 t.N), (.str t.S), (.sl (List.map zA.toD t.L)), (.int .i64 t.From), (.int .i64 t.To)]))), (5, 1, some (.tok 1 (List.length (List.map (D.int .i64) out))))], [], 0⟩
    replace h : yH (fun t => g (zT.zM t)) (fun out i t => g (zT.zC out i t)) out i t = some r := h
    unfold yH at h
    refine z5r 1000 (z1m _ _ out i t _ _) ?_
    refine gN (e' := (List.length t.L : Int)) (by first | rfl | rw [List.length_map]) ?_
    rintro _ rfl
    refine zS decide_eq_true_iff h (fun hc55 h => ?_) (fun hc55 h => ?_)
    ·
      obtain ⟨x, hx, h⟩ := yI h
      refine ⟨wN (l := t.L) (zA.sz), z4u hx, x.K, x.N, x.S, List.map zA.toD x.L, x.From, x.To, z0f (zA.toD_eq x) hx, ?_⟩
      obtain ⟨q1, hq, h⟩ := yI h
      refine ⟨List.map (D.int .i64) q1, ⟨_, ih_ref24Globals _ _ hq⟩, ?_⟩
      refine ⟨wN (l := q1) (fun _ => rfl), ?_⟩
      refine ⟨by first | rfl | decide | simp only [List.length_map, List.length_cons, List.length_nil, List.map_append, List.length_append], ?_⟩
      obtain ⟨hP, h⟩ := z6V h
      refine ⟨by first | exact hP | (simp only [List.length_map, List.length_cons, List.length_nil] at hP ⊢; exact hP), ?_⟩
      refine gN (e' := List.map (D.int .i64) (out ++ q1)) (by first | rfl | simp only [List.map_append, List.map_cons, List.map_nil, List.map_take, List.map_drop, List.map_set, List.map_replicate, List.length_map]) ?_
      rintro _ rfl
      exact ih_ref24Globals_L5 _ _ _ _ h
    ·
      cases h; exact ⟨rfl, rfl⟩
theorem z2Z (t : zA) (r : List Int) (h : zM t = some r) : Trip Try.prog 32 [.d (.agg [(.int .i64 t.K), (.int .i64 t.N), (.str t.S), (.sl (List.map zA.toD t.L)), (.int .i64 t.From), (.int .i64 t.To)])] [] [.d (.sl (List.map (D.int .i64) r))] [] := z2V (.zM t) r h
set_option maxHeartbeats 4000000 in
set_option maxRecDepth 1000000 in
open Go.RowKit Go.Shelf in
theorem z4J (t : zA) (r : List Int) (h : z0m t = some r) : Trip Try.prog 15 [.d (.agg [(.int .i64 t.K), (.int .i64 t.N), (.str t.S), (.sl (List.map zA.toD t.L)), (.int .i64 t.From), (.int .i64 t.To)])] [] [.d (.sl (List.map (D.int .i64) r))] [] := by
  refine ⟨⟨_, Try.func15, by rfl, by rfl⟩, fun w M0 κ vs B hv => ?_⟩
  obtain ⟨l, hl, h⟩ := yI h
  obtain ⟨hl9, hgo0⟩ := z6V h
  clear h
  cases hv with
  | cons v _ vs _ g1 hv =>
    cases hv
    cases g1 with
    | d _ _ g1 =>
      cases g1 with
      | agg vs _ g1 =>
        cases g1 with
        | cons v0 _ _ _ s0 h0 g1 =>
        cases g1 with
        | cons v1 _ _ _ s1 h1 g1 =>
        cases g1 with
        | cons v2 _ _ _ s2 h2 g1 =>
        cases g1 with
        | cons v3 _ _ _ s3 h3 g1 =>
        cases g1 with
        | cons v4 _ _ _ s4 h4 g1 =>
        cases g1 with
        | cons v5 _ _ _ s5 h5 g1 =>
        cases g1
        cases h0; cases h1; cases h2; cases h4; cases h5
        obtain ⟨ad, n0, cap, rfl⟩ := z4q h3
        go_enter Try.func15, Try.ntmps15
        go_wp2_with fail
        generalize hW1 : (w.alloc (Obj.cells #[Value.int IntKind.i64 t.K, Value.int IntKind.i64 t.N, Value.string { data := { toList := t.S } }, Value.slice ad n0 cap, Value.int IntKind.i64 t.From, Value.int IntKind.i64 t.To] 24)) = W1
        have bel1 : Below w.heap.size w W1 := by rw [← hW1]; exact (Below.refl _ w).alloc (Nat.le_refl _) _
        refine ((z2Z t l hl).2 W1 noM kN _ z0c (.cons _ _ _ _ (.d _ _ (.agg _ _ (.cons _ _ _ _ rfl (.int _ _) (.cons _ _ _ _ rfl (.int _ _) (.cons _ _ _ _ rfl (.str _) (.cons _ _ _ _ rfl (h3.keep (z6h bel1)) (.cons _ _ _ _ rfl (.int _ _) (.cons _ _ _ _ rfl (.int _ _) .nil)))))))) .nil)).mono ?_
        rintro e W2 ⟨v, κ2, rfl, A2, hres⟩
        have hv2 : RelV W2 (Mut noM κ2) v (.sl (l.map (D.int .i64))) := by
          have h9 := hres.2
          cases h9 with
          | d _ _ h => exact h
        obtain ⟨a2, cap2, rfl, hopen⟩ := z7M hv2
        have bel2 := z0z A2
        rw [List.length_map] at *
        clear hres hv2
        obtain ⟨i0, hi, hz0, hz1, hz2⟩ := info_parts jlay20.i3
        have hi : Try.prog.info? 3 = some i0 := hi
        go_wp2
        go_loopw [4, 5] (fun o i wr => ∃ (k : Nat) (acc : List Int), i = .int .i64 (k : Int) ∧ k ≤ l.length ∧ wr.ownsRow W2.heap.size 3 1 o acc.length (acc.map (Value.int .i64)) ∧ o ≠ .slice none 0 0 ∧ Below W2.heap.size W2 wr ∧ yX (l.drop k) acc = some r ∧ acc.length ≤ k) (fun _ i _ => l.length - (intOf i).toNat)
        case atStart =>
          have h0 : (W2.alloc (Obj.cells #[] 3)).ownsRow W2.heap.size 3 1 (Value.slice (some { block := W2.heap.size, off := 0 }) 0 0) 0 [] :=
            World.ownsRow_made W2 #[] 0 (Nat.le_refl _) (Nat.zero_le _) rfl
          exact ⟨0, [], rfl, Nat.zero_le _, h0, by simp, (Below.refl _ _).alloc (Nat.le_refl _) _, hgo0, Nat.zero_le _⟩
        case round =>
          obtain ⟨k, acc, rfl, hk, hown, hnn, hbw, hgo, hka⟩ := hrel
          by_cases hlt : k < l.length
          · obtain ⟨b, o, rfl, hc⟩ := hopen (fun e => by have := congrArg List.length e; simp at this; rw [this] at hlt; simp at hlt)
            have c0 := z3n hc hlt
            have hbs : b < W2.heap.size := z0C c0
            have d0 : ‹World›.cell? ⟨b, o + k, none⟩ = some (.int .i64 l[k]) := (zL (hbw.block b hbs) _).trans c0
            rw [List.drop_eq_getElem_cons hlt, yX] at hgo
            obtain ⟨bb, hin, hgo⟩ := yI hgo
            go_wp2_with fail
            refine ((z6X acc l[k] bb hin).2 wr noM kN _ z0c (.cons _ _ _ _ (.d _ _ (z4e hown fun _ _ _ => z6m (fun h => h.elim))) (.cons _ _ _ _ (.d _ _ (.int _ _)) .nil))).mono ?_
            rintro e W3 ⟨v, κ3, rfl, A3, hres⟩
            have hv3 : v = .bool bb := by
              have h9 := hres.2
              cases h9 with
              | d _ _ h => cases h; rfl
            subst hv3
            have bel3 := z0z A3
            have hown3 := uG hown bel3
            have hbw3 : Below W2.heap.size W2 W3 := hbw.trans (bel3.mono hbw.size)
            have hsz3 := bel3.size
            have hszw := hbw.size
            have e0 : W3.cell? ⟨b, o + k, none⟩ = some (.int .i64 l[k]) := (zL (hbw3.block b hbs) _).trans c0
            clear hres hown hbw d0
            cases bb with
            | true =>
              rw [if_pos rfl] at hgo
              go_wp2_with fail
              go_roundw
              case rel => exact ⟨k + 1, acc, by go_num, hlt, hown3, hnn, hbw3, hgo, by omega⟩
              case measure => simp [intOf]; omega
            | false =>
              rw [if_neg (by decide)] at hgo
              rcases hown3.2 with ⟨h9, -⟩ | ⟨g, cap9, cur, rfl, hbase, hb, h1, h2, h3', h4⟩
              · exact absurd h9 hnn
              go_wp2_with fail
              go_loopw [6] (fun i wi => ∃ (n : Nat), i = .int .i64 (n : Int) ∧ n ≤ acc.length ∧ wi.ownsRow W2.heap.size 3 1 (.slice (some ⟨g, 0, none⟩) acc.length cap9) acc.length (acc.map (Value.int .i64)) ∧ Below W2.heap.size W2 wi ∧ W3.heap.size ≤ wi.heap.size ∧ zQ acc l[k] acc.length = zQ acc l[k] n) (fun i _ => (intOf i).toNat)
              case atStart => exact ⟨acc.length, rfl, Nat.le_refl _, hown3, hbw3, Nat.le_refl _, rfl⟩
              case round =>
                obtain ⟨n, rfl, hn, hown4, hbw4, hsz4, hat⟩ := hrel
                have hmade : ∀ q, ((wr.drewN q).alloc (.cells #[] 3)).ownsRow wr.heap.size 3 1 (.slice (some ⟨wr.heap.size, 0, none⟩) 0 0) 0 [] := fun q => World.ownsRow_made (wr.drewN q) #[] 0 (Nat.le_refl _) (Nat.zero_le _) rfl
                have f0 : wr.cell? ⟨b, o + k, none⟩ = some (.int .i64 l[k]) := (zL (hbw4.block b hbs) _).trans c0
                cases n with
                | zero =>
                  have hd : decide ((0 : Int) < ((0 : Nat) : Int)) = false := by decide
                  go_wp2_with fail
                  go_quiet (fail)
                  have hmm : zQ acc l[k] acc.length = 0 := hat
                  rw [hmm] at hgo
                  have hM : 0 ≤ acc.length := by omega
                  obtain ⟨R, hR⟩ : ∃ R, R = acc.drop 0 := ⟨_, rfl⟩
                  have hRl : R.length = acc.length - 0 := by rw [hR]; simp
                  have hAc0 : ∀ j u, ((acc.drop 0).map (Value.int .i64))[j]? = some u → wr.cell? ((⟨g, 0, none⟩ : Addr).add j) = some u := fun j u hj => hown4.cells (g := g) rfl j u (by simpa using hj)
                  go_wp2_with (at_builtin; refine wpList_append_own _ rfl (.tmp 42) (.tmp 45) 32 rfl wr.heap.size 3 i0 (.int .i64 0) 1 8 Try.underlying32 hi hz0 hz1 hz2 rfl (by decide) _ _ _ rfl (hmade _) _ _ _ ((acc.drop 0).map (.int .i64)) rfl ?_ ?_ ?_ ?_ ?_ ?_ ?_)
                  · simp
                  · intro j u hj; exact uO (hAc0 j u hj) ((wT _ _ _).alloc (Nat.le_refl _) _)
                  · exact z0i _
                  · unfold maxLen; omega
                  · omega
                  · simp
                  intro v7 w7 hown7 hgrow7 hnil7
                  have own7 : w7.ownsRow wr.heap.size 3 1 v7 R.length (R.map (Value.int .i64)) := by rw [hRl, hR]; simpa using hown7
                  have b7 : Below wr.heap.size wr w7 := ((wT wr _ _).alloc (Nat.le_refl _) _).grown hgrow7 (by simp) (fun j hj => by have hj' : some wr.heap.size = some j := hj; cases hj'; exact Nat.le_refl _)
                  have own4 := z1s (uG hown4 b7) hM
                  rw [← List.map_take] at own4
                  have bw7 := hbw4.trans (b7.mono (by have := hbw4.size; omega))
                  have f7 := uO f0 b7
                  have gw : g < wr.heap.size := by
                    have := (hown4.lt g rfl).2; exact this
                  rcases own7.2 with ⟨h9, -⟩ | ⟨g7, cap7, cur7, rfl, hb7, -, -, -, -, -⟩
                  · exact absurd h9 hnil7
                  have hg7 : g7 < w7.heap.size := (own7.lt g7 rfl).2
                  have hp1 : ∀ ob, (w7.drew.alloc ob).ownsRow W2.heap.size 3 1 (.slice (some ⟨g, 0, none⟩) 0 cap9) 0 ((acc.take 0).map (Value.int .i64)) := fun ob => uG own4 ((uQ _ _).alloc (Nat.le_refl _) _)
                  have hc1 : ∀ j u, [Value.int .i64 l[k]][j]? = some u → (w7.drew.alloc (.cells #[.int .i64 l[k]] 3)).cell? ((⟨w7.heap.size, 0, none⟩ : Addr).add j) = some u := by
                    intro j u hj
                    match j, hj with
                    | 0, hj => simp at hj; subst hj; exact z5V w7.drew _ _
                  have hc2 : ∀ w8, (w7.drew.alloc (.cells #[.int .i64 l[k]] 3)).grownBy w8 (some g) → ∀ j u, (R.map (Value.int .i64))[j]? = some u → w8.cell? ((⟨g7, 0, none⟩ : Addr).add j) = some u := fun w8 hg =>
                    ((uG own7 ((uQ _ _).alloc (Nat.le_refl _) (.cells #[.int .i64 l[k]] 3))).kept hg (.inr (by simp [Value.ownBlock]; omega))).cells (g := g7) rfl
                  have bd7 : Below W2.heap.size W2 (w7.drew.alloc (.cells #[.int .i64 l[k]] 3)) := (bw7.trans (uQ _ _)).alloc (by have := bw7.size; exact this) _
                  have hs7 := bw7.size
                  have bd7s : W2.heap.size ≤ (w7.drew.alloc (.cells #[.int .i64 l[k]] 3)).heap.size := by have := bw7.size; simp; omega
                  have hb63 : 0 + 1 ≤ maxLen := by unfold maxLen; omega
                  have hb64 : (0 + 1) * 8 ≤ 140737488355328 := by omega
                  have hb65 : 0 + 1 + R.length ≤ maxLen := by unfold maxLen; omega
                  have hb66 : (0 + 1 + R.length) * 8 ≤ 140737488355328 := by omega
                  clear hown7 hgrow7 hnil7
                  go_wp2_with fail
                  go_region_law (first
                    | (refine wR rfl (.tmp 49) (.tmp 54) 32 rfl W2.heap.size 3 i0 (.int .i64 0) 1 8 Try.underlying32 hi hz0 hz1 hz2 rfl (by decide) (.slice (some ⟨g, 0, none⟩) 0 cap9) 0 ((acc.take 0).map (Value.int .i64)) (by simp [Act.eval, Act.put]) (hp1 _) ⟨w7.heap.size, 0, none⟩ 1 1 [.int .i64 l[k]] (by simp [Act.eval, Act.put]) rfl hc1 (z0i [l[k]]) hb63 hb64 bd7s ?_; intro v8 w8 hown8 hgrow8 hnil8)
                    | (refine wR rfl (.tmp 55) (.tmp 56) 32 rfl W2.heap.size 3 i0 (.int .i64 0) 1 8 Try.underlying32 hi hz0 hz1 hz2 rfl (by decide) v8 (0 + 1) _ (by simp [Act.eval, Act.put]) hown8 ⟨g7, 0, none⟩ R.length cap7 (R.map (Value.int .i64)) (by simp [Act.eval, Act.put, hRl]) (by simp) (hc2 w8 hgrow8) (z0i R) hb65 hb66 (by have := hgrow8.size; exact Nat.le_trans bd7s this) ?_; intro v9 w9 hown9 hgrow9 hnil9))
                  go_wp2
                  have hnn9 : v9 ≠ .slice none 0 0 := fun e => by
                    have h8 := (hnil9.1 e).1
                    have := (hnil8.1 h8).1
                    cases this
                  have own9 : w9.ownsRow W2.heap.size 3 1 v9 (acc.take 0 ++ [l[k]] ++ R).length ((acc.take 0 ++ [l[k]] ++ R).map (Value.int .i64)) := by
                    have e9 : (acc.take 0 ++ [l[k]] ++ R).length = 0 + 1 + R.length := by simp; omega
                    rw [e9, List.map_append, List.map_append]; exact hown9
                  have bd8 : Below W2.heap.size W2 w8 := bd7.grown hgrow8 bd7s (fun j hj => by have hj' : some g = some j := hj; cases hj'; exact hbase)
                  have bd9 : Below W2.heap.size W2 w9 := bd8.grown hgrow9 bd8.size (fun j hj => (hown8.lt j hj).1)
                  have hlen9 : (acc.take 0 ++ [l[k]] ++ R).length ≤ k + 1 := by simp; omega
                  rw [← hR] at hgo
                  clear hown8 hgrow8 hnil8 hown9 hgrow9 hnil9
                  go_roundw
                  case rel => exact ⟨k + 1, acc.take 0 ++ [l[k]] ++ R, by go_num, hlt, own9, hnn9, bd9, hgo, hlen9⟩
                  case measure => simp [intOf]; omega
                | succ n =>
                  have hd : (0 : Int) < ((n + 1 : Nat) : Int) := by omega
                  have hx : ((n + 1 : Nat) : Int) - 1 = (n : Int) := by omega
                  have f1 : wr.cell? ⟨g, n, none⟩ = some (.int .i64 acc[n]) := z6o hown4 (by rw [List.getElem?_map, List.getElem?_eq_getElem (by omega)]; rfl)
                  have hgd : acc.getD n 0 = acc[n] := by simp [List.getD, List.getElem?_eq_getElem (show n < acc.length by omega)]
                  by_cases hgt : l[k] < acc[n]
                  · have hat2 : zQ acc l[k] acc.length = zQ acc l[k] n := by
                      rw [hat]; show (if acc.getD n 0 > l[k] then _ else _) = _; rw [hgd, if_pos hgt]
                    go_wp2_with fail
                    go_quiet (fail)
                    go_wp2_with fail
                    go_roundw
                    case rel => exact ⟨n, by go_num, by omega, uG hown4 (wT _ _ _), hbw4.trans (wT _ _ _), hsz4, hat2⟩
                    case measure => simp [intOf]
                  · have hat2 : zQ acc l[k] acc.length = n + 1 := by
                      rw [hat]; show (if acc.getD n 0 > l[k] then _ else _) = _; rw [hgd, if_neg hgt]
                    obtain ⟨A, hA, hAc⟩ : ∃ A : Addr, (if cap9 = n + 1 then some (⟨g, 0, none⟩ : Addr) else some ⟨g, n + 1, none⟩) = some A ∧ ∀ j u, ((acc.drop (n + 1)).map (Value.int .i64))[j]? = some u → wr.cell? (A.add j) = some u := by
                      by_cases h9 : cap9 = n + 1
                      · refine ⟨_, by rw [if_pos h9], fun j u hj => ?_⟩
                        have : acc.drop (n + 1) = [] := List.drop_eq_nil_of_le (by omega)
                        rw [this] at hj; simp at hj
                      · refine ⟨_, by rw [if_neg h9], fun j u hj => ?_⟩
                        rw [List.getElem?_map, List.getElem?_drop] at hj
                        have := z6o hown4 (j := n + 1 + j) (u := u) (by rw [List.getElem?_map]; exact hj)
                        by_cases h0 : j = 0
                        · subst h0; simpa [Addr.add] using this
                        · simpa [Addr.add, h0] using this
                    go_wp2_with fail
                    go_quiet (fail)
                    have hmm : zQ acc l[k] acc.length = (n + 1) := hat2
                    rw [hmm] at hgo
                    have hM : (n + 1) ≤ acc.length := by omega
                    have hcc : (0 : Int) ≤ (n : Int) + 1 := by omega
                    have hcd : (n : Int) + 1 ≤ (cap9 : Int) := by omega
                    obtain ⟨R, hR⟩ : ∃ R, R = acc.drop (n + 1) := ⟨_, rfl⟩
                    have hRl : R.length = acc.length - (n + 1) := by rw [hR]; simp
                    go_wp2_with (at_builtin; refine wpList_append_own _ rfl (.tmp 42) (.tmp 45) 32 rfl wr.heap.size 3 i0 (.int .i64 0) 1 8 Try.underlying32 hi hz0 hz1 hz2 rfl (by decide) _ _ _ rfl (hmade _) _ _ _ ((acc.drop (n + 1)).map (.int .i64)) rfl ?_ ?_ ?_ ?_ ?_ ?_ ?_)
                    · simp
                    · intro j u hj; exact uO (hAc j u hj) ((wT _ _ _).alloc (Nat.le_refl _) _)
                    · exact z0i _
                    · unfold maxLen; omega
                    · omega
                    · simp
                    intro v7 w7 hown7 hgrow7 hnil7
                    have own7 : w7.ownsRow wr.heap.size 3 1 v7 R.length (R.map (Value.int .i64)) := by rw [hRl, hR]; simpa using hown7
                    have b7 : Below wr.heap.size wr w7 := ((wT wr _ _).alloc (Nat.le_refl _) _).grown hgrow7 (by simp) (fun j hj => by have hj' : some wr.heap.size = some j := hj; cases hj'; exact Nat.le_refl _)
                    have own4 := z1s (uG hown4 b7) hM
                    rw [← List.map_take] at own4
                    have bw7 := hbw4.trans (b7.mono (by have := hbw4.size; omega))
                    have f7 := uO f0 b7
                    have gw : g < wr.heap.size := by
                      have := (hown4.lt g rfl).2; exact this
                    rcases own7.2 with ⟨h9, -⟩ | ⟨g7, cap7, cur7, rfl, hb7, -, -, -, -, -⟩
                    · exact absurd h9 hnil7
                    have hg7 : g7 < w7.heap.size := (own7.lt g7 rfl).2
                    have hp1 : ∀ ob, (w7.drew.alloc ob).ownsRow W2.heap.size 3 1 (.slice (some ⟨g, 0, none⟩) (n + 1) cap9) (n + 1) ((acc.take (n + 1)).map (Value.int .i64)) := fun ob => uG own4 ((uQ _ _).alloc (Nat.le_refl _) _)
                    have hc1 : ∀ j u, [Value.int .i64 l[k]][j]? = some u → (w7.drew.alloc (.cells #[.int .i64 l[k]] 3)).cell? ((⟨w7.heap.size, 0, none⟩ : Addr).add j) = some u := by
                      intro j u hj
                      match j, hj with
                      | 0, hj => simp at hj; subst hj; exact z5V w7.drew _ _
                    have hc2 : ∀ w8, (w7.drew.alloc (.cells #[.int .i64 l[k]] 3)).grownBy w8 (some g) → ∀ j u, (R.map (Value.int .i64))[j]? = some u → w8.cell? ((⟨g7, 0, none⟩ : Addr).add j) = some u := fun w8 hg =>
                      ((uG own7 ((uQ _ _).alloc (Nat.le_refl _) (.cells #[.int .i64 l[k]] 3))).kept hg (.inr (by simp [Value.ownBlock]; omega))).cells (g := g7) rfl
                    have bd7 : Below W2.heap.size W2 (w7.drew.alloc (.cells #[.int .i64 l[k]] 3)) := (bw7.trans (uQ _ _)).alloc (by have := bw7.size; exact this) _
                    have hs7 := bw7.size
                    have bd7s : W2.heap.size ≤ (w7.drew.alloc (.cells #[.int .i64 l[k]] 3)).heap.size := by have := bw7.size; simp; omega
                    have hb63 : (n + 1) + 1 ≤ maxLen := by unfold maxLen; omega
                    have hb64 : ((n + 1) + 1) * 8 ≤ 140737488355328 := by omega
                    have hb65 : (n + 1) + 1 + R.length ≤ maxLen := by unfold maxLen; omega
                    have hb66 : ((n + 1) + 1 + R.length) * 8 ≤ 140737488355328 := by omega
                    clear hown7 hgrow7 hnil7
                    go_wp2_with fail
                    go_region_law (first
                      | (refine wR rfl (.tmp 49) (.tmp 54) 32 rfl W2.heap.size 3 i0 (.int .i64 0) 1 8 Try.underlying32 hi hz0 hz1 hz2 rfl (by decide) (.slice (some ⟨g, 0, none⟩) (n + 1) cap9) (n + 1) ((acc.take (n + 1)).map (Value.int .i64)) (by simp [Act.eval, Act.put]) (hp1 _) ⟨w7.heap.size, 0, none⟩ 1 1 [.int .i64 l[k]] (by simp [Act.eval, Act.put]) rfl hc1 (z0i [l[k]]) hb63 hb64 bd7s ?_; intro v8 w8 hown8 hgrow8 hnil8)
                      | (refine wR rfl (.tmp 55) (.tmp 56) 32 rfl W2.heap.size 3 i0 (.int .i64 0) 1 8 Try.underlying32 hi hz0 hz1 hz2 rfl (by decide) v8 ((n + 1) + 1) _ (by simp [Act.eval, Act.put]) hown8 ⟨g7, 0, none⟩ R.length cap7 (R.map (Value.int .i64)) (by simp [Act.eval, Act.put, hRl]) (by simp) (hc2 w8 hgrow8) (z0i R) hb65 hb66 (by have := hgrow8.size; exact Nat.le_trans bd7s this) ?_; intro v9 w9 hown9 hgrow9 hnil9))
                    go_wp2
                    have hnn9 : v9 ≠ .slice none 0 0 := fun e => by
                      have h8 := (hnil9.1 e).1
                      have := (hnil8.1 h8).1
                      cases this
                    have own9 : w9.ownsRow W2.heap.size 3 1 v9 (acc.take (n + 1) ++ [l[k]] ++ R).length ((acc.take (n + 1) ++ [l[k]] ++ R).map (Value.int .i64)) := by
                      have e9 : (acc.take (n + 1) ++ [l[k]] ++ R).length = (n + 1) + 1 + R.length := by simp; omega
                      rw [e9, List.map_append, List.map_append]; exact hown9
                    have bd8 : Below W2.heap.size W2 w8 := bd7.grown hgrow8 bd7s (fun j hj => by have hj' : some g = some j := hj; cases hj'; exact hbase)
                    have bd9 : Below W2.heap.size W2 w9 := bd8.grown hgrow9 bd8.size (fun j hj => (hown8.lt j hj).1)
                    have hlen9 : (acc.take (n + 1) ++ [l[k]] ++ R).length ≤ k + 1 := by simp; omega
                    rw [← hR] at hgo
                    clear hown8 hgrow8 hnil8 hown9 hgrow9 hnil9
                    go_roundw
                    case rel => exact ⟨k + 1, acc.take (n + 1) ++ [l[k]] ++ R, by go_num, hlt, own9, hnn9, bd9, hgo, hlen9⟩
                    case measure => simp [intOf]; omega
          · have hke : k = l.length := by omega
            subst hke
            rw [List.drop_eq_nil_of_le (Nat.le_refl _)] at hgo
            have hr2 : acc = r := by simpa [yX] using hgo
            subst hr2
            have hb0 : Below w.heap.size w wr := (bel1.trans (bel2.mono bel1.size)).trans (hbw.mono (by have := bel1.size; have := bel2.size; omega))
            go_wp2_with fail
            go_ret
            exact ⟨_, κ, rfl, z0B B hb0, rfl, .d _ _ (z4e hown fun b o hb => z5f B (by have := bel1.size; have := bel2.size; omega))⟩
theorem z1g (t : zA) (r : Bool) (h : wP t = some r) : Trip Try.prog 4 [.d (.agg [(.int .i64 t.K), (.int .i64 t.N), (.str t.S), (.sl (List.map zA.toD t.L)), (.int .i64 t.From), (.int .i64 t.To)])] [] [.d (.bool r)] [] := by
  unfold wP at h
  refine uL 1000 (by kernel_rfl) (by kernel_rfl) (by kernel_rfl) (by kernel_rfl) (by kernel_rfl) (z1l _ _ t _ _) ?_
  obtain ⟨q1, hq, h⟩ := yI h
  refine ⟨q1, ⟨_, z4F _ _ hq⟩, ?_⟩
  refine zS Iff.rfl h (fun hc56 h => ?_) (fun hc56 h => ?_)
  ·
    obtain ⟨q2, hq, h⟩ := yI h
    refine ⟨q2, ⟨_, z1z _ hq⟩, ?_⟩
    cases h; exact ⟨rfl, rfl⟩
  ·
    obtain ⟨q3, hq, h⟩ := yI h
    refine ⟨q3, ⟨_, z0I _ _ hq⟩, ?_⟩
    obtain ⟨q4, hq, h⟩ := yI h
    refine ⟨q4, ⟨_, z4I _ _ hq⟩, ?_⟩
    rintro _ rfl
    refine zS beq_iff_eq h (fun hc57 h => ?_) (fun hc57 h => ?_)
    ·
      obtain ⟨q5, hq, h⟩ := yI h
      refine ⟨List.map (D.int .i64) q5, ⟨_, z0J _ _ hq⟩, ?_⟩
      obtain ⟨q6, hq, h⟩ := yI h
      refine ⟨List.map (D.int .i64) q6, ⟨_, z4J _ _ hq⟩, ?_⟩
      obtain ⟨q7, hq, h⟩ := yI h
      refine ⟨q7, ⟨_, z3D _ _ _ hq⟩, ?_⟩
      refine zS Iff.rfl h (fun hc58 h => ?_) (fun hc58 h => ?_)
      ·
        obtain ⟨q8, hq, h⟩ := yI h
        refine ⟨q8, ⟨_, z1z _ hq⟩, ?_⟩
        cases h; exact ⟨rfl, rfl⟩
      ·
        cases h; exact ⟨rfl, rfl⟩
    ·
      cases h; exact ⟨rfl, rfl⟩
end Go.Proofs.Ytnbcacfljnooeaa.M

