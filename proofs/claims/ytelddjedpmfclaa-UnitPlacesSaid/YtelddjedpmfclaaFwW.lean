/- An operation's rule reads and writes what its footprint says. -/
import Derived.Test.YtelddjedpmfclaaFwV
namespace Nt
open Go
set_option linter.unusedVariables false
set_option linter.unusedSimpArgs false

section
variable {P : Program} {s s' : St}

theorem at_evOp (c : Cx) (ops : Array Oper) (o : Oper) (s : St) : At (Within (fpOf c ops o s) s) (evOp c o s) := by
  have hdst : ∀ d, o.dst = some d → d ∈ (fpOf c ops o s).ws := fun d hd => by simp [fpOf, hd]
  have fin0 : ∀ {F : (Patch → Prop) → Prop}, At (Wi o.dst [] false) F → At (Within (fpOf c ops o s) s) F := fun h => h.weaken fun p hp => hp.within hdst (by simp) (by simp)
  have hks : ∀ {n : Nat}, changes c s o = n → n ≠ 0 → (fpOf c ops o s).wa = (slotsOf o).flatMap (fun i => keyOf (s.get i)) ++ o.dst.toList := fun h hn => by
    have : Nat.beq (changes c s o) 0 = false := beq_ne (by omega)
    simp [fpOf, this]
  have hdk : ∀ d, o.dst = some d → d ∈ (slotsOf o).flatMap (fun i => keyOf (s.get i)) ++ o.dst.toList := fun d hd => by simp [hd]
  have fin1 : ∀ {F : (Patch → Prop) → Prop} {n : Nat}, changes c s o = n → n ≠ 0 → At (Wi o.dst ((slotsOf o).flatMap (fun i => keyOf (s.get i)) ++ o.dst.toList) false) F → At (Within (fpOf c ops o s) s) F := fun h hn g =>
    g.weaken fun p hp => hp.within hdst (fun k hk => by rw [hks h hn]; exact hk) (by simp)
  have fin2 : ∀ {F : (Patch → Prop) → Prop}, changes c s o = 2 → (fpOf c ops o s).wh = true → At (Wi o.dst ((slotsOf o).flatMap (fun i => keyOf (s.get i)) ++ o.dst.toList) true) F → At (Within (fpOf c ops o s) s) F := fun h hw g =>
    g.weaken fun p hp => hp.within hdst (fun k hk => by rw [hks h (by omega)]; exact hk) (fun _ => hw)
  unfold evOp
  cases ho : o.op with
  | move x => exact fin0 at_putD
  | assign x => exact fin0 at_putD
  | pick x a b => exact fin0 (At.brS at_putD at_putD)
  | alloc t =>
    refine At.kOpt fun z => At.kIf ?_
    cases hd : o.dst with
    | none => exact At.bot
    | some d =>
      dsimp only
      rw [← hd]
      cases hg : c.glob d with
      | true =>
        have hc : changes c s o = 2 := by simp [changes, ho, hd, hg]
        exact fin2 hc (by simp [fpOf, hc, ho]) at_newHp
      | false =>
        have hc : changes c s o = 1 := by simp [changes, ho, hd, hg]
        show At _ (fun k => match c.P.underlying t with
          | some (.array _ e) => kOpt (tSize c.P e) fun n => kIf (Nat.beq n 1) (kOpt (constDs z.cells.toList) fun ds => newAr s o.dst (.row 1 ds) (fun d g => .ref d g 0) k)
          | some (.struct _) => match constDs z.cells.toList with
            | some ds => newAr s o.dst (.agg (.agg ds)) (fun d g => .ref d g 0) k
            | none => newAr s o.dst (.box (z.cells.toList.map constS)) (fun d g => .ref d g 0) k
          | _ => newAr s o.dst (.box (z.cells.toList.map constS)) (fun d g => .ref d g 0) k)
        split
        · exact At.kOpt fun n => At.kIf (At.kOpt fun ds => fin1 hc (by simp) (at_newAr hdk))
        · split
          · exact fin1 hc (by simp) (at_newAr hdk)
          · exact fin1 hc (by simp) (at_newAr hdk)
        · exact fin1 hc (by simp) (at_newAr hdk)
  | box t v =>
    cases hd : o.dst with
    | none => exact At.bot
    | some d =>
      dsimp only
      rw [← hd]
      cases hg : c.glob d with
      | true =>
        have hc : changes c s o = 2 := by simp [changes, ho, hd, hg]
        simp only [cond_true]
        exact At.cond (At.kOpt fun n => At.kBld fun ws => fin2 hc (by simp [fpOf, hc, ho]) at_newHp) (At.kKeep fun w => fin2 hc (by simp [fpOf, hc, ho]) at_newHp)
      | false =>
        have hc : changes c s o = 1 := by simp [changes, ho, hd, hg]
        simp only [cond_false]
        exact At.cond (At.kOpt fun n => At.kD fun x => At.kWhole (fin1 hc (by simp) (at_newAr hdk))) (At.kKeep fun w => fin1 hc (by simp) (at_newAr hdk))
  | build t ps =>
    dsimp only
    split
    · exact At.kIf (At.kOpt fun z => At.kOpt fun cs => At.kFill fun cs => fin0 at_putD)
    · exact At.bot
  | buildSlice t len ps =>
    have hc : changes c s o = 1 := by simp [changes, ho]
    exact At.kOpt fun e => At.kOpt fun n => At.kOpt fun z => At.kIf (At.kIf (At.kElems fun xs => fin1 hc (by simp) (at_newAr hdk)))
  | load t a => exact At.kLoad fun v => fin0 at_putD
  | store t a v =>
    have hc : changes c s o = 2 := by simp [changes, ho]
    cases hd : o.dst with
    | some d => exact At.bot
    | none =>
      have h := at_kStoreF (P := c.P) (s := s) (t := t) (a := opv s a) (v := opv s v) (K := (slotsOf o).flatMap (fun i => keyOf (s.get i)) ++ o.dst.toList) (b := (slotsOf o).any fun i => usesH (s.get i))
        (fun k hk => keyOf_opv (by simp [ho, Op.operands]) hk) (fun k hk => keyOf_opv (by simp [ho, Op.operands]) hk) (fun h => hpS_opv (by simp [ho, Op.operands]) h)
      refine h.weaken fun p hp => hp.within (by simp) (fun k hk => by rw [hks hc (by simp)]; exact hk) (fun h => by simp [fpOf, hc, h])
  | nilCheck x =>
    dsimp only
    split <;> first | exact fin0 at_putD | exact At.kIf (fin0 at_putD) | exact At.bot
  | binOp op t x y z =>
    cases op <;> first | exact At.kEqOp fun b => fin0 at_putD | exact At.kD fun a => At.kD fun b => At.kBin fun r => fin0 at_putD
  | unOp op t x =>
    refine At.kD fun a => ?_
    cases op <;> first | exact At.kI fun i n => At.nam fun _ => fin0 at_putD | (cases a <;> first | exact fin0 at_putD | exact At.bot) | exact At.bot
  | convert src dst x =>
    dsimp only
    split
    · exact At.kD fun a => At.kI fun _ n => At.nam fun _ => fin0 at_putD
    · exact At.kD fun a => At.kStr fun u => fin0 at_putD
    · split
      · exact At.kD fun a => At.kSl fun xs => At.toBytes fun u => fin0 at_putD
      · exact At.bot
    · exact At.bot
  | makeFunc f first cap =>
    cases f <;> first | exact At.kArgs fun xs => At.kArgs fun ys => fin0 at_putD | exact At.bot
  | makeSlice t l m =>
    have hc : changes c s o = 1 := by simp [changes, ho]
    exact At.kOpt fun e => At.kOpt fun n => At.kOpt fun b => At.kOpt fun z => At.kD fun lx => At.kI fun _ l => At.kD fun mx => At.kI fun _ m => At.and (At.cond
      (At.kOpt fun ds => At.kIf (At.nam fun _ => fin1 hc (by simp) (at_newAr hdk))) (At.kOpt fun x => At.kIf (At.nam fun _ => fin1 hc (by simp) (at_newAr hdk))))
  | slice t x lo hi mx =>
    have hc : changes c s o = 1 := by simp [changes, ho]
    exact fin1 hc (by simp) (at_kSlice (fun k hk => keyOf_opv (by simp [ho, Op.operands]) hk) hdk)
  | fieldAddr t x f => exact At.kFieldAddr fun v => fin0 at_putD
  | field t x f => exact At.kField fun v => fin0 at_putD
  | indexAddr t x i => exact At.kIndexAddr fun v => fin0 at_putD
  | index t x i =>
    dsimp only
    split
    · exact At.kIndex fun v => fin0 at_putD
    · exact At.bot
  | extract t i =>
    dsimp only
    split
    · exact At.kOpt fun v => fin0 at_putD
    · exact At.bot
  | call cl =>
    dsimp only
    unfold kCall
    cases hcal : cl.callee with
    | value f =>
      dsimp only
      cases hf : opv s f with
      | fn g first cap =>
        have hkeys : ∀ k ∈ keysS (cl.args.toList.map (opv s)), k ∈ (slotsOf o).flatMap (fun i => keyOf (s.get i)) ++ o.dst.toList := fun k hk => by
          obtain ⟨v, hv, hk⟩ := List.mem_flatMap.1 hk
          obtain ⟨x, hx, rfl⟩ := List.mem_map.1 hv
          exact keyOf_opv (by simp [ho, Op.operands, Call.operands]; exact .inr (by simpa using hx)) hk
        cases hp : c.pur g with
        | true =>
          have hc : changes c s o = 1 := by simp [changes, ho, hcal, hf, hp]
          exact fin1 hc (by simp) (at_kFuncF hdk hkeys (by simp [hp]))
        | false =>
          cases hr : c.ro g with
          | true =>
            have hc : changes c s o = 1 := by simp [changes, ho, hcal, hf, hp, hr]
            have hro : isRo c s o = true := by simp [isRo, ho, hcal, hf, hp, hr]
            exact (at_kFuncF_ro (s := s) hdk hkeys hp hr).weaken fun p q => ⟨fun x hx => hdst _ (q.1.1 x hx), fun x hx => by rw [hks hc (by simp)]; exact q.1.2.1 x hx, fun _ => .inr ⟨by simp [fpOf, hro], q.2⟩⟩
          | false =>
          have hc : changes c s o = 2 := by simp [changes, ho, hcal, hf, hp, hr]
          refine fin2 hc ?_ (at_kFuncF hdk hkeys (by simp))
          simp only [fpOf, hc, ho]
          cases cl
          simp at hcal
          simp [hcal]
      | _ => exact At.bot
    | builtin b =>
      cases b with
      | len =>
        dsimp only
        split
        · exact At.kLen fun v => fin0 at_putD
        · exact At.bot
      | append =>
        have hc : changes c s o = 2 := by simp [changes, ho, hcal]
        dsimp only
        split
        · rename_i x y t u hx ht
          split
          · have hmem : x ∈ o.op.operands.toList := by simp [ho, Op.operands, Call.operands, hx]
            have h := at_kAppend (P := c.P) (s := s) (t := t) (dst := o.dst) (v := opv s x) (x := opv s y) (K := (slotsOf o).flatMap (fun i => keyOf (s.get i)) ++ o.dst.toList) (b := (slotsOf o).any fun i => usesH (s.get i))
              hdk (fun k hk => keyOf_opv hmem hk) (fun h => hpS_opv hmem h)
            exact h.weaken fun p hp => hp.within hdst (fun k hk => by rw [hks hc (by simp)]; exact hk) (fun h => by simp [fpOf, hc, h])
          · exact At.bot
        · exact At.bot
      | max =>
        dsimp only
        split
        · exact At.kD fun a => At.kD fun b => At.kI fun _ _ => At.kI fun _ _ => At.kIf (At.nam fun _ => fin0 at_putD)
        · exact At.bot
      | min =>
        dsimp only
        split
        · exact At.kD fun a => At.kD fun b => At.kI fun _ _ => At.kI fun _ _ => At.kIf (At.nam fun _ => fin0 at_putD)
        · exact At.bot
      | _ => exact At.bot
    | _ => exact At.bot
  | _ => exact At.bot

/-! what is read -/
theorem ob_congr {r : Nat} (h : lookA s'.ar r = lookA s.ar r) (g : Nat) : s'.ob r g = s.ob r g := by simp [St.ob, h]
theorem gen_congr {r : Nat} (h : lookA s'.ar r = lookA s.ar r) : s'.gen r = s.gen r := by simp [St.gen, h]
theorem live_congr {r : Nat} (h : lookA s'.ar r = lookA s.ar r) (g : Nat) : s'.live r g = s.live r g := by simp [St.live, ob_congr h]
theorem putD_congr {dst : Option Nat} {v : Sv} (hn : s'.n = s.n) : putD s' dst v = putD s dst v := by funext k; cases dst <;> simp [putD, hn]
theorem newAr_congr {dst : Option Nat} {ob : Ob} {v : Nat → Nat → Sv} (hn : s'.n = s.n) (hd : ∀ d, dst = some d → lookA s'.ar d = lookA s.ar d) : newAr s' dst ob v = newAr s dst ob v := by
  funext k
  cases dst with
  | none => rfl
  | some d => simp [newAr, hn, gen_congr (hd d rfl)]
theorem oldAr_congr {dst : Option Nat} {r g : Nat} {ob : Ob} {v : Sv} (hn : s'.n = s.n) : oldAr s' dst r g ob v = oldAr s dst r g ob v := by funext k; cases dst <;> simp [oldAr, hn]
theorem newHp_congr {dst : Option Nat} {cs : List Sv} (hn : s'.n = s.n) (hh : s'.h = s.h) : newHp s' dst cs = newHp s dst cs := by funext k; cases dst <;> simp [newHp, hn, hh]
theorem kLoad_congr {t : TypeId} {v : Sv} {k : Sv → Prop} (ha : ∀ r ∈ keyOf v, lookA s'.ar r = lookA s.ar r) (hh : hpS v = true → s'.h = s.h) (hw : ∀ id off, v = .hp id off → (∃ cs n xs, s.h[id]? = some cs ∧ cs[off]? = some (.own n xs)) → s'.hv = s.hv) : kLoad P t s' v k = kLoad P t s v k := by
  cases v with
  | ref r g off => simp [kLoad, ob_congr (ha r (by simp [keyOf]))]
  | rref r g m i off => simp [kLoad, ob_congr (ha r (by simp [keyOf]))]
  | hp id off =>
    have h1 := hh rfl
    simp only [kLoad, h1]
    cases hc : s.h[id]? with
    | none => rfl
    | some cs =>
      have hl : ∀ v, cs[off]? = some v → ldCell id off s'.hv v = ldCell id off s.hv v := fun v hv => by
        cases v with
        | own n xs => simp [ldCell, hw id off rfl ⟨cs, n, xs, hc, hv⟩]
        | _ => rfl
      have : ∀ n, kBoxT P t n cs off (ldCell id off s'.hv) k = kBoxT P t n cs off (ldCell id off s.hv) k := fun n => by
        unfold kBoxT
        congr 1
        cases hv : cs[off]? with
        | none => rfl
        | some v => show k _ = k _; rw [hl v hv]
      show (kOpt (tSize P t) fun n => kBoxT P t n cs off (ldCell id off s'.hv) k) = kOpt (tSize P t) fun n => kBoxT P t n cs off (ldCell id off s.hv) k
      simp only [this]
  | _ => rfl
theorem kStore_congr {t : TypeId} {a v : Sv} {k : Patch → Prop} (ha : ∀ r ∈ keyOf a, lookA s'.ar r = lookA s.ar r) (hv : ∀ r ∈ keyOf v, lookA s'.ar r = lookA s.ar r) (hh : s'.h = s.h) : kStore P t s' a v k = kStore P t s a v k := by
  cases a with
  | ref r g off => simp [kStore, ob_congr (ha r (by simp [keyOf]))]
  | rref r g m i off => simp [kStore, ob_congr (ha r (by simp [keyOf]))]
  | hp id off =>
    cases v with
    | right r g m xs => simp [kStore, hh, ob_congr (hv r (by simp [keyOf]))]
    | _ => simp [kStore, hh]
  | _ => rfl
theorem kFieldAddr_congr {t : TypeId} {v : Sv} {f : Nat} {k : Sv → Prop} (ha : ∀ r ∈ keyOf v, lookA s'.ar r = lookA s.ar r) : kFieldAddr P t s' v f k = kFieldAddr P t s v f k := by
  cases v with
  | ref r g off => simp [kFieldAddr, live_congr (ha r (by simp [keyOf]))]
  | rref r g m i off => simp [kFieldAddr, live_congr (ha r (by simp [keyOf]))]
  | _ => rfl
theorem kIndexAddr_congr {t : TypeId} {v i : Sv} {k : Sv → Prop} (ha : ∀ r ∈ keyOf v, lookA s'.ar r = lookA s.ar r) : kIndexAddr P t s' v i k = kIndexAddr P t s v i k := by
  cases v with
  | row r g => simp [kIndexAddr, ob_congr (ha r (by simp [keyOf]))]
  | ref r g off => simp [kIndexAddr, ob_congr (ha r (by simp [keyOf]))]
  | _ => rfl
theorem kLen_congr {t : TypeId} {v : Sv} {k : Sv → Prop} (ha : ∀ r ∈ keyOf v, lookA s'.ar r = lookA s.ar r) : kLen P t s' v k = kLen P t s v k := by
  unfold kLen
  split
  · cases v with
    | row r g => simp [ob_congr (ha r (by simp [keyOf]))]
    | _ => rfl
  · rfl
  · rfl
theorem resPut_congr {dst : Option Nat} {rs : List Sv} {h : Option H} (hn : s'.n = s.n) (hd : ∀ d, dst = some d → lookA s'.ar d = lookA s.ar d) : resPut s' dst rs h = resPut s dst rs h := by
  funext k
  unfold resPut
  split
  · rw [newAr_congr hn hd]
  · rw [putD_congr hn]
  · rw [putD_congr hn]
theorem kFunc_congr {c : Cx} {dst : Option Nat} {f : FuncId} {vs : List Sv} (hn : s'.n = s.n) (hd : ∀ d, dst = some d → lookA s'.ar d = lookA s.ar d) (hh : c.pur f = false → s'.h = s.h) : kFunc c s' dst f vs = kFunc c s dst f vs := by
  funext k
  unfold kFunc
  cases hp : c.pur f with
  | true => simp only [resPut_congr hn hd]; rfl
  | false => simp only [resPut_congr hn hd, hh hp]
theorem kSlice_congr {t : TypeId} {dst : Option Nat} {v : Sv} {lo hi mx : Option Sv} {k : Patch → Prop} (hn : s'.n = s.n) (hd : ∀ d, dst = some d → lookA s'.ar d = lookA s.ar d) (ha : ∀ r ∈ keyOf v, lookA s'.ar r = lookA s.ar r) :
    kSlice P t s' dst v lo hi mx k = kSlice P t s dst v lo hi mx k := by
  unfold kSlice
  split
  · simp only [putD_congr hn]
  · have h2 : ∀ xs, kSlice2 s' dst lo hi xs k = kSlice2 s dst lo hi xs k := fun xs => by simp only [kSlice2, putD_congr hn]
    have h3 : ∀ n xs, kSlice3 n s' dst lo hi mx xs k = kSlice3 n s dst lo hi mx xs k := fun n xs => by simp only [kSlice3, newAr_congr hn hd]
    simp only [h2, h3]
  · cases v with
    | ref r g off =>
      cases mx <;> cases hi <;> first | rfl | simp only [ob_congr (ha r (by simp [keyOf])), putD_congr hn]
    | _ => rfl
  · rfl
theorem kAppend_congr {t : TypeId} {dst : Option Nat} {v x : Sv} {k : Patch → Prop} (hn : s'.n = s.n) (hd : ∀ d, dst = some d → lookA s'.ar d = lookA s.ar d) (ha : ∀ r ∈ keyOf v, lookA s'.ar r = lookA s.ar r) (hh : s'.h = s.h ∧ s'.hv = s.hv) :
    kAppend P t s' dst v x k = kAppend P t s dst v x k := by
  cases v with
  | right r g n xs => simp only [kAppend, ob_congr (ha r (by simp [keyOf])), newAr_congr hn hd, oldAr_congr hn, hh.1, hh.2]
  | _ => simp only [kAppend, newAr_congr hn hd, oldAr_congr hn, hh.1, hh.2]

theorem lookA_pre (ps : List (Nat × Nat × Option Ob)) {a b : List (Nat × Nat × Option Ob)} {r : Nat} (h : lookA a r = lookA b r) : lookA (ps ++ a) r = lookA (ps ++ b) r := by
  induction ps with
  | nil => exact h
  | cons x ps ih =>
    obtain ⟨j, v⟩ := x
    rw [List.cons_append, List.cons_append, lookA_cons, lookA_cons, ih]
theorem kFrz_congr : ∀ {vs : List Sv} {s s' : St} {G G' : List (Nat × Nat × Option Ob) → List Sv → Prop}, (∀ r ∈ keysS vs, lookA s'.ar r = lookA s.ar r) → (∀ ps us, (∀ x ∈ keysS us, x ∈ keysS vs) → G' ps us = G ps us) → kFrz s' vs G' = kFrz s vs G
  | [], s, s', G, G', _, h => h [] [] (fun _ h => h)
  | v :: r, s, s', G, G', ha, h => by
    have har : ∀ x ∈ keysS r, lookA s'.ar x = lookA s.ar x := fun x hx => ha x (List.mem_append_right _ hx)
    by_cases hrow : ∃ a g, v = .row a g
    · obtain ⟨a, g, rfl⟩ := hrow
      have ho : s'.ob a g = s.ob a g := ob_congr (ha a (by simp [keysS, keyOf])) g
      show kOpt (s'.ob a g) _ = kOpt (s.ob a g) _
      rw [ho]
      congr 1
      funext ob
      cases ob with
      | row n xs =>
        refine kFrz_congr (fun x hx => lookA_pre [(a, g, none)] (har x hx)) (fun ps us hu => h _ _ fun x hx => ?_)
        simp only [keysS, List.flatMap_cons, keyOf, List.nil_append] at hx
        exact List.mem_append_right _ (hu x hx)
      | _ => rfl
    · have e : ∀ (s : St) (G : List (Nat × Nat × Option Ob) → List Sv → Prop), kFrz s (v :: r) G = kFrz s r fun ps us => G ps (v :: us) := fun s G => by
        cases v with
        | row a g => exact absurd ⟨a, g, rfl⟩ hrow
        | _ => rfl
      rw [e, e]
      refine kFrz_congr har (fun ps us hu => h _ _ fun x hx => ?_)
      simp only [keysS, List.flatMap_cons] at hx ⊢
      rcases List.mem_append.1 hx with hx | hx
      · exact List.mem_append_left _ hx
      · exact List.mem_append_right _ (hu x hx)
theorem kStoreF_congr {t : TypeId} {a v : Sv} {k : Patch → Prop} (ha : ∀ r ∈ keyOf a, lookA s'.ar r = lookA s.ar r) (hv : ∀ r ∈ keyOf v, lookA s'.ar r = lookA s.ar r) (hh : s'.h = s.h) : kStoreF P t s' a v k = kStoreF P t s a v k := by
  refine kFrz_congr (fun r hr => hv r (by simpa [keysS] using hr)) fun ps us hu => ?_
  split
  · rename_i y
    exact kStore_congr (fun r hr => lookA_pre ps (ha r hr)) (fun r hr => lookA_pre ps (hv r (by simpa [keysS] using hu r (by simpa [keysS] using hr)))) hh
  · rfl
theorem kFuncF_congr {c : Cx} {dst : Option Nat} {f : FuncId} {first vs cap : List Sv} {k : Patch → Prop} (hn : s'.n = s.n) (hd : ∀ d, dst = some d → lookA s'.ar d = lookA s.ar d) (hv : ∀ r ∈ keysS vs, lookA s'.ar r = lookA s.ar r) (hh : c.pur f = false → s'.h = s.h) :
    kFuncF c s' dst f first vs cap k = kFuncF c s dst f first vs cap k :=
  kFrz_congr hv fun ps us _ => by rw [kFunc_congr (s := s.app ⟨[], ps, none⟩) (s' := s'.app ⟨[], ps, none⟩) hn (fun d h => lookA_pre ps (hd d h)) hh]

structure Agree (f : FP) (s s' : St) : Prop where
  n : s'.n = s.n
  get : ∀ i ∈ f.rs, s'.get i = s.get i
  ar : ∀ k ∈ f.ra, lookA s'.ar k = lookA s.ar k
  h : f.rh = true → s'.h = s.h ∧ s'.hv = s.hv
  d : f.rd = true → s'.h = s.h

theorem evOp_congr {c : Cx} {ops : Array Oper} {o : Oper} (A : Agree (fpOf c ops o s) s s') (k : Patch → Prop) : evOp c o s' k = evOp c o s k := by
  have hop : ∀ x ∈ o.op.operands.toList, opv s' x = opv s x := fun x hx => by
    cases x with
    | tmp t => exact A.get t (by simp only [fpOf]; exact List.mem_append_left _ (List.mem_filterMap.2 ⟨_, hx, rfl⟩))
    | _ => rfl
  have hn := A.n
  have hd : ∀ d, o.dst = some d → lookA s'.ar d = lookA s.ar d := fun d h => A.ar d (by simp [fpOf, h])
  have ha : ∀ x ∈ o.op.operands.toList, ∀ r ∈ keyOf (opv s x), lookA s'.ar r = lookA s.ar r := fun x hx r hr => A.ar r (by simp only [fpOf]; exact keyOf_opv hx hr)
  have hh : memOp o = true → ∀ x ∈ o.op.operands.toList, hpS (opv s x) = true → s'.h = s.h := fun hm x hx h => A.d (by simp only [fpOf, hpS_opv hx h, hm, Bool.true_and, Bool.true_or])
  have h2 : changes c s o = 2 → s'.h = s.h ∧ s'.hv = s.hv := fun h => A.h (by simp [fpOf, h])
  have mapc : ∀ xs : List Operand, (∀ x ∈ xs, x ∈ o.op.operands.toList) → xs.map (opv s') = xs.map (opv s) := fun xs h => List.map_congr_left fun x hx => hop x (h x hx)
  have optc : ∀ x : Option Operand, (∀ y, x = some y → y ∈ o.op.operands.toList) → x.map (opv s') = x.map (opv s) := fun x h => by
    cases x with
    | none => rfl
    | some y => simp [hop y (h y rfl)]
  unfold evOp
  cases ho : o.op with
  | move x => simp only [hop x (by simp [ho, Op.operands]), putD_congr hn]
  | assign x => simp only [hop x (by simp [ho, Op.operands]), putD_congr hn]
  | pick x a b => simp only [hop x (by simp [ho, Op.operands]), hop a (by simp [ho, Op.operands]), hop b (by simp [ho, Op.operands]), putD_congr hn]
  | alloc t =>
    cases hd' : o.dst with
    | none => rfl
    | some d =>
      simp only []
      rw [← hd']
      cases hg : c.glob d with
      | true =>
        have hc : changes c s o = 2 := by simp [changes, ho, hd', hg]
        simp only [newHp_congr hn (h2 hc).1]; rfl
      | false => simp only [newAr_congr hn hd]; rfl
  | box t v =>
    cases hd' : o.dst with
    | none => rfl
    | some d =>
      simp only [hop v (by simp [ho, Op.operands])]
      rw [← hd']
      cases hg : c.glob d with
      | true =>
        have hc : changes c s o = 2 := by simp [changes, ho, hd', hg]
        simp only [newHp_congr hn (h2 hc).1]; rfl
      | false => simp only [newAr_congr hn hd]; rfl
  | build t ps =>
    have : (ps.toList.map fun (i, x) => (i, opv s' x)) = ps.toList.map fun (i, x) => (i, opv s x) := List.map_congr_left fun ⟨i, x⟩ hx => by
      show (i, opv s' x) = (i, opv s x)
      rw [hop x (by simp [ho, Op.operands]; exact ⟨i, by simpa using hx⟩)]
    simp only [this, putD_congr hn]
  | buildSlice t len ps =>
    have : (ps.toList.map fun (i, x) => (i, opv s' x)) = ps.toList.map fun (i, x) => (i, opv s x) := List.map_congr_left fun ⟨i, x⟩ hx => by
      show (i, opv s' x) = (i, opv s x)
      rw [hop x (by simp [ho, Op.operands]; exact ⟨i, by simpa using hx⟩)]
    simp only [this, newAr_congr hn hd]
  | load t a => simp only [hop a (by simp [ho, Op.operands]), putD_congr hn, kLoad_congr (ha a (by simp [ho, Op.operands])) (hh (by simp [memOp, ho]) a (by simp [ho, Op.operands])) (fun id off hv ⟨cs, n, xs, h1, h2⟩ => (A.h (by
      have hs : softLd s o = false := by simp [softLd, ho, hv, h1, h2]
      have hr : isRo c s o = false := by simp [isRo, ho]
      have hu := hpS_opv (s := s) (o := o) (x := a) (by simp [ho, Op.operands]) (by rw [hv]; rfl)
      simp [fpOf, hs, hr, hu, memOp, ho])).2)]
  | store t a v =>
    have hc : changes c s o = 2 := by simp [changes, ho]
    simp only [hop a (by simp [ho, Op.operands]), hop v (by simp [ho, Op.operands]), kStoreF_congr (ha a (by simp [ho, Op.operands])) (ha v (by simp [ho, Op.operands])) (h2 hc).1]
  | nilCheck x =>
    simp only [hop x (by simp [ho, Op.operands])]
    have := ha x (by simp [ho, Op.operands])
    split
    · simp only [putD_congr hn]
    · rename_i r g f h
      rw [h] at this
      simp only [putD_congr hn, live_congr (this r (by simp [keyOf]))]
    · simp only [putD_congr hn]
    · simp only [putD_congr hn]
    · rfl
  | binOp op t x y z => cases op <;> simp only [hop x (by simp [ho, Op.operands]), hop y (by simp [ho, Op.operands]), putD_congr hn]
  | unOp op t x => cases op <;> simp only [hop x (by simp [ho, Op.operands]), putD_congr hn]
  | convert src dst x => simp only [hop x (by simp [ho, Op.operands]), putD_congr hn]
  | makeFunc f first cap =>
    have h1 := mapc first.toList (fun x hx => by simp [ho, Op.operands]; exact .inl (by simpa using hx))
    have h2 := mapc cap.toList (fun x hx => by simp [ho, Op.operands]; exact .inr (by simpa using hx))
    simp only [h1, h2, putD_congr hn]
  | makeSlice t l m => simp only [hop l (by simp [ho, Op.operands]), hop m (by simp [ho, Op.operands]), newAr_congr hn hd]
  | slice t x lo hi mx =>
    have e1 := optc lo (fun y h => by subst h; simp [ho, Op.operands])
    have e2 := optc hi (fun y h => by subst h; simp [ho, Op.operands])
    have e3 := optc mx (fun y h => by subst h; simp [ho, Op.operands])
    simp only [hop x (by simp [ho, Op.operands]), e1, e2, e3, kSlice_congr hn hd (ha x (by simp [ho, Op.operands]))]
  | fieldAddr t x f => simp only [hop x (by simp [ho, Op.operands]), putD_congr hn, kFieldAddr_congr (ha x (by simp [ho, Op.operands]))]
  | field t x f => simp only [hop x (by simp [ho, Op.operands]), putD_congr hn]
  | indexAddr t x i => simp only [hop x (by simp [ho, Op.operands]), hop i (by simp [ho, Op.operands]), putD_congr hn, kIndexAddr_congr (ha x (by simp [ho, Op.operands]))]
  | index t x i => simp only [hop x (by simp [ho, Op.operands]), hop i (by simp [ho, Op.operands]), putD_congr hn]
  | extract t i => simp only [hop t (by simp [ho, Op.operands]), putD_congr hn]
  | call cl =>
    have hargs : ∀ x ∈ cl.args.toList, x ∈ o.op.operands.toList := fun x hx => by simp [ho, Op.operands, Call.operands]; exact .inr (by simpa using hx)
    simp only []
    unfold kCall
    cases hcal : cl.callee with
    | value f =>
      have hf : f ∈ o.op.operands.toList := by simp [ho, Op.operands, Call.operands, hcal]
      simp only [hop f hf, mapc cl.args.toList hargs]
      cases hfv : opv s f with
      | fn g first cap =>
        simp only []
        exact kFuncF_congr hn hd (fun r hr => by
          obtain ⟨v, hv, hk⟩ := List.mem_flatMap.1 hr
          obtain ⟨x, hx, rfl⟩ := List.mem_map.1 hv
          exact ha x (hargs x hx) r hk) (fun hp => by
            cases hr : c.ro g with
            | false => exact (h2 (by simp [changes, ho, hcal, hfv, hp, hr])).1
            | true => exact A.d (by simp [fpOf, isRo, ho, hcal, hfv, hp, hr]))
      | _ => rfl
    | builtin b =>
      cases b with
      | len =>
        simp only []
        split
        · rename_i x t hx ht
          have hm := hargs x (by simp [hx])
          simp only [hop x hm, putD_congr hn, kLen_congr (ha x hm)]
        · rfl
      | append =>
        have hc : changes c s o = 2 := by simp [changes, ho, hcal]
        simp only []
        split
        · rename_i x y t u hx ht
          have hm := hargs x (by simp [hx])
          simp only [hop x hm, hop y (hargs y (by simp [hx])), kAppend_congr hn hd (ha x hm) (h2 hc)]
        · rfl
      | max =>
        simp only []
        split
        · rename_i x y hx
          simp only [hop x (hargs x (by simp [hx])), hop y (hargs y (by simp [hx])), putD_congr hn]
        · rfl
      | min =>
        simp only []
        split
        · rename_i x y hx
          simp only [hop x (hargs x (by simp [hx])), hop y (hargs y (by simp [hx])), putD_congr hn]
        · rfl
      | _ => rfl
    | _ => rfl
  | _ => rfl
end
end Nt
