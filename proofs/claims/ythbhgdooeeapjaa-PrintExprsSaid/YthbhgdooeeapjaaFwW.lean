import Derived.Test.YthbhgdooeeapjaaFwV
namespace Nt
open Go
set_option linter.unusedVariables false
set_option linter.unusedSimpArgs false
section
variable {P : Program} {s s' : St}
theorem y3R (c : Cx) (ops : Array Oper) (o : Oper) (s : St) : At (z4T (z5a c ops o s) s) (y0L c o s) := by
  have hdst : ∀ d, o.dst = some d → d ∈ (z5a c ops o s).ws := fun d hd => by simp [z5a, hd]
  have z5D : ∀ {F : (vV → Prop) → Prop}, At (Wi o.dst [] false) F → At (z4T (z5a c ops o s) s) F := fun h => h.weaken fun p hp => hp.within hdst (by simp) (by simp)
  have hks : ∀ {n : Nat}, vM c s o = n → n ≠ 0 → (z5a c ops o s).wa = (z1i o).flatMap (fun i => wQ (s.get i)) ++ o.dst.toList := fun h hn => by
    have : Nat.beq (vM c s o) 0 = false := z6X (by omega)
    simp [z5a, this]
  have hdk : ∀ d, o.dst = some d → d ∈ (z1i o).flatMap (fun i => wQ (s.get i)) ++ o.dst.toList := fun d hd => by simp [hd]
  have fin1 : ∀ {F : (vV → Prop) → Prop} {n : Nat}, vM c s o = n → n ≠ 0 → At (Wi o.dst ((z1i o).flatMap (fun i => wQ (s.get i)) ++ o.dst.toList) false) F → At (z4T (z5a c ops o s) s) F := fun h hn g =>
    g.weaken fun p hp => hp.within hdst (fun k hk => by rw [hks h hn]; exact hk) (by simp)
  have fin2 : ∀ {F : (vV → Prop) → Prop}, vM c s o = 2 → (z5a c ops o s).wh = true → At (Wi o.dst ((z1i o).flatMap (fun i => wQ (s.get i)) ++ o.dst.toList) true) F → At (z4T (z5a c ops o s) s) F := fun h hw g =>
    g.weaken fun p hp => hp.within hdst (fun k hk => by rw [hks h (by omega)]; exact hk) (fun _ => hw)
  unfold y0L
  cases ho : o.op with
  | move x => exact z5D wB
  | assign x => exact z5D wB
  | pick x a b => exact z5D (At.brS wB wB)
  | alloc t =>
    refine At.kOpt fun z => At.kIf ?_
    cases hd : o.dst with
    | none => exact At.bot
    | some d =>
      dsimp only
      rw [← hd]
      cases hg : c.glob d with
      | true =>
        have hc : vM c s o = 2 := by simp [vM, ho, hd, hg]
        exact fin2 hc (by simp [z5a, hc, ho]) z8X
      | false =>
        have hc : vM c s o = 1 := by simp [vM, ho, hd, hg]
        show At _ (fun k => match c.P.underlying t with
          | some (.array _ e) => kOpt (jF c.P e) fun n => kIf (Nat.beq n 1) (kOpt (z1J z.cells.toList) fun ds => newAr s o.dst (.row 1 ds) (fun d g => .ref d g 0) k)
          | some (.struct _) => match z1J z.cells.toList with
            | some ds => newAr s o.dst (.agg (.agg ds)) (fun d g => .ref d g 0) k
            | none => newAr s o.dst (.box (z.cells.toList.map z0y)) (fun d g => .ref d g 0) k
          | _ => newAr s o.dst (.box (z.cells.toList.map z0y)) (fun d g => .ref d g 0) k)
        split
        · exact At.kOpt fun n => At.kIf (At.kOpt fun ds => fin1 hc (by simp) (jY hdk))
        · split
          · exact fin1 hc (by simp) (jY hdk)
          · exact fin1 hc (by simp) (jY hdk)
        · exact fin1 hc (by simp) (jY hdk)
  | box t v =>
    cases hd : o.dst with
    | none => exact At.bot
    | some d =>
      dsimp only
      rw [← hd]
      cases hg : c.glob d with
      | true =>
        have hc : vM c s o = 2 := by simp [vM, ho, hd, hg]
        simp only [cond_true]
        exact At.cond (At.kOpt fun n => At.kBld fun ws => fin2 hc (by simp [z5a, hc, ho]) z8X) (At.kKeep fun w => fin2 hc (by simp [z5a, hc, ho]) z8X)
      | false =>
        have hc : vM c s o = 1 := by simp [vM, ho, hd, hg]
        simp only [cond_false]
        exact At.cond (At.kOpt fun n => At.kD fun x => At.kWhole (fin1 hc (by simp) (jY hdk))) (At.kKeep fun w => fin1 hc (by simp) (jY hdk))
  | build t ps =>
    dsimp only
    split
    · exact At.kIf (At.kOpt fun z => At.kOpt fun cs => At.kFill fun cs => z5D wB)
    · exact At.bot
  | buildSlice t len ps =>
    have hc : vM c s o = 1 := by simp [vM, ho]
    exact At.kOpt fun e => At.kOpt fun n => At.kOpt fun z => At.kIf (At.kIf (At.kElems fun xs => fin1 hc (by simp) (jY hdk)))
  | load t a => exact At.kLoad fun v => z5D wB
  | store t a v =>
    have hc : vM c s o = 2 := by simp [vM, ho]
    cases hd : o.dst with
    | some d => exact At.bot
    | none =>
      have h := y3a (P := c.P) (s := s) (t := t) (a := opv s a) (v := opv s v) (K := (z1i o).flatMap (fun i => wQ (s.get i)) ++ o.dst.toList) (b := (z1i o).any fun i => y5m (s.get i))
        (fun k hk => z2i (by simp [ho, Op.operands]) hk) (fun k hk => z2i (by simp [ho, Op.operands]) hk) (fun h => z9s (by simp [ho, Op.operands]) h)
      refine h.weaken fun p hp => hp.within (by simp) (fun k hk => by rw [hks hc (by simp)]; exact hk) (fun h => by simp [z5a, hc, h])
  | nilCheck x =>
    dsimp only
    split <;> first | exact z5D wB | exact At.kIf (z5D wB) | exact At.bot
  | binOp op t x y z =>
    cases op <;> first | exact At.kEqOp fun b => z5D wB | exact At.kD fun a => At.kD fun b => At.kBin fun r => z5D wB
  | unOp op t x =>
    refine At.kD fun a => ?_
    cases op <;> first | exact At.kI fun i n => At.nam fun _ => z5D wB | (cases a <;> first | exact z5D wB | exact At.bot) | exact At.bot
  | convert src dst x =>
    dsimp only
    split
    · exact At.kD fun a => At.kI fun _ n => At.nam fun _ => z5D wB
    · exact At.kD fun a => At.kStr fun u => z5D wB
    · split
      · exact At.kD fun a => At.kSl fun xs => At.toBytes fun u => z5D wB
      · exact At.bot
    · exact At.bot
  | makeFunc f first cap =>
    cases f <;> first | exact At.kArgs fun xs => At.kArgs fun ys => z5D wB | exact At.bot
  | makeSlice t l m =>
    have hc : vM c s o = 1 := by simp [vM, ho]
    exact At.kOpt fun e => At.kOpt fun n => At.kOpt fun b => At.kOpt fun z => At.kD fun lx => At.kI fun _ l => At.kD fun mx => At.kI fun _ m => At.and (At.cond
      (At.kOpt fun ds => At.kIf (At.nam fun _ => fin1 hc (by simp) (jY hdk))) (At.kOpt fun x => At.kIf (At.nam fun _ => fin1 hc (by simp) (jY hdk))))
  | slice t x lo hi mx =>
    have hc : vM c s o = 1 := by simp [vM, ho]
    exact fin1 hc (by simp) (y3S (fun k hk => z2i (by simp [ho, Op.operands]) hk) hdk)
  | fieldAddr t x f => exact At.kFieldAddr fun v => z5D wB
  | field t x f => exact At.kField fun v => z5D wB
  | indexAddr t x i => exact At.kIndexAddr fun v => z5D wB
  | index t x i =>
    dsimp only
    split
    · exact At.kIndex fun v => z5D wB
    · exact At.bot
  | extract t i =>
    dsimp only
    split
    · exact At.kOpt fun v => z5D wB
    · exact At.bot
  | call cl =>
    dsimp only
    unfold y4q
    cases hcal : cl.callee with
    | value f =>
      dsimp only
      cases hf : opv s f with
      | fn g first cap =>
        have hkeys : ∀ k ∈ z1L (cl.args.toList.map (opv s)), k ∈ (z1i o).flatMap (fun i => wQ (s.get i)) ++ o.dst.toList := fun k hk => by
          obtain ⟨v, hv, hk⟩ := List.mem_flatMap.1 hk
          obtain ⟨x, hx, rfl⟩ := List.mem_map.1 hv
          exact z2i (by simp [ho, Op.operands, Call.operands]; exact .inr (by simpa using hx)) hk
        cases hp : c.pur g with
        | true =>
          have hc : vM c s o = 1 := by simp [vM, ho, hcal, hf, hp]
          exact fin1 hc (by simp) (y0e hdk hkeys (by simp [hp]))
        | false =>
          cases hr : c.ro g with
          | true =>
            have hc : vM c s o = 1 := by simp [vM, ho, hcal, hf, hp, hr]
            have hro : y6p c s o = true := by simp [y6p, ho, hcal, hf, hp, hr]
            exact (y0f (s := s) hdk hkeys hp hr).weaken fun p q => ⟨fun x hx => hdst _ (q.1.1 x hx), fun x hx => by rw [hks hc (by simp)]; exact q.1.2.1 x hx, fun _ => .inr ⟨by simp [z5a, hro], q.2⟩⟩
          | false =>
          have hc : vM c s o = 2 := by simp [vM, ho, hcal, hf, hp, hr]
          refine fin2 hc ?_ (y0e hdk hkeys (by simp))
          simp only [z5a, hc, ho]
          cases cl
          simp at hcal
          simp [hcal]
      | _ => exact At.bot
    | builtin b =>
      cases b with
      | len =>
        dsimp only
        split
        · exact At.kLen fun v => z5D wB
        · exact At.bot
      | append =>
        have hc : vM c s o = 2 := by simp [vM, ho, hcal]
        dsimp only
        split
        · rename_i x y t u hx ht
          split
          · have hmem : x ∈ o.op.operands.toList := by simp [ho, Op.operands, Call.operands, hx]
            have h := y2Z (P := c.P) (s := s) (t := t) (dst := o.dst) (v := opv s x) (x := opv s y) (K := (z1i o).flatMap (fun i => wQ (s.get i)) ++ o.dst.toList) (b := (z1i o).any fun i => y5m (s.get i))
              hdk (fun k hk => z2i hmem hk) (fun h => z9s hmem h)
            exact h.weaken fun p hp => hp.within hdst (fun k hk => by rw [hks hc (by simp)]; exact hk) (fun h => by simp [z5a, hc, h])
          · exact At.bot
        · exact At.bot
      | max =>
        dsimp only
        split
        · exact At.kD fun a => At.kD fun b => At.kI fun _ _ => At.kI fun _ _ => At.kIf (At.nam fun _ => z5D wB)
        · exact At.bot
      | min =>
        dsimp only
        split
        · exact At.kD fun a => At.kD fun b => At.kI fun _ _ => At.kI fun _ _ => At.kIf (At.nam fun _ => z5D wB)
        · exact At.bot
      | _ => exact At.bot
    | _ => exact At.bot
  | _ => exact At.bot
theorem gQ {r : Nat} (h : zN s'.ar r = zN s.ar r) (g : Nat) : s'.ob r g = s.ob r g := by simp [St.ob, h]
theorem y0P {r : Nat} (h : zN s'.ar r = zN s.ar r) : s'.gen r = s.gen r := by simp [St.gen, h]
theorem z5G {r : Nat} (h : zN s'.ar r = zN s.ar r) (g : Nat) : s'.live r g = s.live r g := by simp [St.live, gQ h]
theorem yY {dst : Option Nat} {v : Sv} (hn : s'.n = s.n) : z2v s' dst v = z2v s dst v := by funext k; cases dst <;> simp [z2v, hn]
theorem gF {dst : Option Nat} {ob : Ob} {v : Nat → Nat → Sv} (hn : s'.n = s.n) (hd : ∀ d, dst = some d → zN s'.ar d = zN s.ar d) : newAr s' dst ob v = newAr s dst ob v := by
  funext k
  cases dst with
  | none => rfl
  | some d => simp [newAr, hn, y0P (hd d rfl)]
theorem z7F {dst : Option Nat} {r g : Nat} {ob : Ob} {v : Sv} (hn : s'.n = s.n) : y4D s' dst r g ob v = y4D s dst r g ob v := by funext k; cases dst <;> simp [y4D, hn]
theorem z7B {dst : Option Nat} {cs : List Sv} (hn : s'.n = s.n) (hh : s'.h = s.h) : newHp s' dst cs = newHp s dst cs := by funext k; cases dst <;> simp [newHp, hn, hh]
theorem y1X {t : TypeId} {v : Sv} {k : Sv → Prop} (ha : ∀ r ∈ wQ v, zN s'.ar r = zN s.ar r) (hh : hpS v = true → s'.h = s.h) (hw : ∀ id off, v = .hp id off → (∃ cs n xs, s.h[id]? = some cs ∧ cs[off]? = some (.own n xs)) → s'.hv = s.hv) : kLoad P t s' v k = kLoad P t s v k := by
  cases v with
  | ref r g off => simp [kLoad, gQ (ha r (by simp [wQ]))]
  | rref r g m i off => simp [kLoad, gQ (ha r (by simp [wQ]))]
  | hp id off =>
    have h1 := hh rfl
    simp only [kLoad, h1]
    cases hc : s.h[id]? with
    | none => rfl
    | some cs =>
      have hl : ∀ v, cs[off]? = some v → z6a id off s'.hv v = z6a id off s.hv v := fun v hv => by
        cases v with
        | own n xs => simp [z6a, hw id off rfl ⟨cs, n, xs, hc, hv⟩]
        | _ => rfl
      have : ∀ n, kBoxT P t n cs off (z6a id off s'.hv) k = kBoxT P t n cs off (z6a id off s.hv) k := fun n => by
        unfold kBoxT
        congr 1
        cases hv : cs[off]? with
        | none => rfl
        | some v => show k _ = k _; rw [hl v hv]
      show (kOpt (jF P t) fun n => kBoxT P t n cs off (z6a id off s'.hv) k) = kOpt (jF P t) fun n => kBoxT P t n cs off (z6a id off s.hv) k
      simp only [this]
  | _ => rfl
theorem y0W {t : TypeId} {a v : Sv} {k : vV → Prop} (ha : ∀ r ∈ wQ a, zN s'.ar r = zN s.ar r) (hv : ∀ r ∈ wQ v, zN s'.ar r = zN s.ar r) (hh : s'.h = s.h) : z4d P t s' a v k = z4d P t s a v k := by
  cases a with
  | ref r g off => simp [z4d, gQ (ha r (by simp [wQ]))]
  | rref r g m i off => simp [z4d, gQ (ha r (by simp [wQ]))]
  | hp id off =>
    cases v with
    | right r g m xs => simp [z4d, hh, gQ (hv r (by simp [wQ]))]
    | _ => simp [z4d, hh]
  | _ => rfl
theorem z6s {t : TypeId} {v : Sv} {f : Nat} {k : Sv → Prop} (ha : ∀ r ∈ wQ v, zN s'.ar r = zN s.ar r) : kFieldAddr P t s' v f k = kFieldAddr P t s v f k := by
  cases v with
  | ref r g off => simp [kFieldAddr, z5G (ha r (by simp [wQ]))]
  | rref r g m i off => simp [kFieldAddr, z5G (ha r (by simp [wQ]))]
  | _ => rfl
theorem z6t {t : TypeId} {v i : Sv} {k : Sv → Prop} (ha : ∀ r ∈ wQ v, zN s'.ar r = zN s.ar r) : kIndexAddr P t s' v i k = kIndexAddr P t s v i k := by
  cases v with
  | row r g => simp [kIndexAddr, gQ (ha r (by simp [wQ]))]
  | ref r g off => simp [kIndexAddr, gQ (ha r (by simp [wQ]))]
  | _ => rfl
theorem y3v {t : TypeId} {v : Sv} {k : Sv → Prop} (ha : ∀ r ∈ wQ v, zN s'.ar r = zN s.ar r) : kLen P t s' v k = kLen P t s v k := by
  unfold kLen
  split
  · cases v with
    | row r g => simp [gQ (ha r (by simp [wQ]))]
    | _ => rfl
  · rfl
  · rfl
theorem z6e {dst : Option Nat} {rs : List Sv} {h : Option H} (hn : s'.n = s.n) (hd : ∀ d, dst = some d → zN s'.ar d = zN s.ar d) : z1X s' dst rs h = z1X s dst rs h := by
  funext k
  unfold z1X
  split
  · rw [gF hn hd]
  · rw [yY hn]
  · rw [yY hn]
theorem y1W {c : Cx} {dst : Option Nat} {f : FuncId} {vs : List Sv} (hn : s'.n = s.n) (hd : ∀ d, dst = some d → zN s'.ar d = zN s.ar d) (hh : c.pur f = false → s'.h = s.h) : z8q c s' dst f vs = z8q c s dst f vs := by
  funext k
  unfold z8q
  cases hp : c.pur f with
  | true => simp only [z6e hn hd]; rfl
  | false => simp only [z6e hn hd, hh hp]
theorem y0V {t : TypeId} {dst : Option Nat} {v : Sv} {lo hi mx : Option Sv} {k : vV → Prop} (hn : s'.n = s.n) (hd : ∀ d, dst = some d → zN s'.ar d = zN s.ar d) (ha : ∀ r ∈ wQ v, zN s'.ar r = zN s.ar r) :
    z5Z P t s' dst v lo hi mx k = z5Z P t s dst v lo hi mx k := by
  unfold z5Z
  split
  · simp only [yY hn]
  · have h2 : ∀ xs, z9z s' dst lo hi xs k = z9z s dst lo hi xs k := fun xs => by simp only [z9z, yY hn]
    have h3 : ∀ n xs, z9A n s' dst lo hi mx xs k = z9A n s dst lo hi mx xs k := fun n xs => by simp only [z9A, gF hn hd]
    simp only [h2, h3]
  · cases v with
    | ref r g off =>
      cases mx <;> cases hi <;> first | rfl | simp only [gQ (ha r (by simp [wQ])), yY hn]
    | _ => rfl
  · rfl
theorem z9v {t : TypeId} {dst : Option Nat} {v x : Sv} {k : vV → Prop} (hn : s'.n = s.n) (hd : ∀ d, dst = some d → zN s'.ar d = zN s.ar d) (ha : ∀ r ∈ wQ v, zN s'.ar r = zN s.ar r) (hh : s'.h = s.h ∧ s'.hv = s.hv) :
    z4E P t s' dst v x k = z4E P t s dst v x k := by
  cases v with
  | right r g n xs => simp only [z4E, gQ (ha r (by simp [wQ])), gF hn hd, z7F hn, hh.1, hh.2]
  | _ => simp only [z4E, gF hn hd, z7F hn, hh.1, hh.2]
theorem z5f (ps : List (Nat × Nat × Option Ob)) {a b : List (Nat × Nat × Option Ob)} {r : Nat} (h : zN a r = zN b r) : zN (ps ++ a) r = zN (ps ++ b) r := by
  induction ps with
  | nil => exact h
  | cons x ps ih =>
    obtain ⟨j, v⟩ := x
    rw [List.cons_append, List.cons_append, zM, zM, ih]
theorem z3J : ∀ {vs : List Sv} {s s' : St} {G G' : List (Nat × Nat × Option Ob) → List Sv → Prop}, (∀ r ∈ z1L vs, zN s'.ar r = zN s.ar r) → (∀ ps us, (∀ x ∈ z1L us, x ∈ z1L vs) → G' ps us = G ps us) → y3u s' vs G' = y3u s vs G
  | [], s, s', G, G', _, h => h [] [] (fun _ h => h)
  | v :: r, s, s', G, G', ha, h => by
    have har : ∀ x ∈ z1L r, zN s'.ar x = zN s.ar x := fun x hx => ha x (List.mem_append_right _ hx)
    by_cases hrow : ∃ a g, v = .row a g
    · obtain ⟨a, g, rfl⟩ := hrow
      have ho : s'.ob a g = s.ob a g := gQ (ha a (by simp [z1L, wQ])) g
      show kOpt (s'.ob a g) _ = kOpt (s.ob a g) _
      rw [ho]
      congr 1
      funext ob
      cases ob with
      | row n xs =>
        refine z3J (fun x hx => z5f [(a, g, none)] (har x hx)) (fun ps us hu => h _ _ fun x hx => ?_)
        simp only [z1L, List.flatMap_cons, wQ, List.nil_append] at hx
        exact List.mem_append_right _ (hu x hx)
      | _ => rfl
    · have e : ∀ (s : St) (G : List (Nat × Nat × Option Ob) → List Sv → Prop), y3u s (v :: r) G = y3u s r fun ps us => G ps (v :: us) := fun s G => by
        cases v with
        | row a g => exact absurd ⟨a, g, rfl⟩ hrow
        | _ => rfl
      rw [e, e]
      refine z3J har (fun ps us hu => h _ _ fun x hx => ?_)
      simp only [z1L, List.flatMap_cons] at hx ⊢
      rcases List.mem_append.1 hx with hx | hx
      · exact List.mem_append_left _ hx
      · exact List.mem_append_right _ (hu x hx)
theorem z9B {t : TypeId} {a v : Sv} {k : vV → Prop} (ha : ∀ r ∈ wQ a, zN s'.ar r = zN s.ar r) (hv : ∀ r ∈ wQ v, zN s'.ar r = zN s.ar r) (hh : s'.h = s.h) : z7u P t s' a v k = z7u P t s a v k := by
  refine z3J (fun r hr => hv r (by simpa [z1L] using hr)) fun ps us hu => ?_
  split
  · rename_i y
    exact y0W (fun r hr => z5f ps (ha r hr)) (fun r hr => z5f ps (hv r (by simpa [z1L] using hu r (by simpa [z1L] using hr)))) hh
  · rfl
theorem y0S {c : Cx} {dst : Option Nat} {f : FuncId} {first vs cap : List Sv} {k : vV → Prop} (hn : s'.n = s.n) (hd : ∀ d, dst = some d → zN s'.ar d = zN s.ar d) (hv : ∀ r ∈ z1L vs, zN s'.ar r = zN s.ar r) (hh : c.pur f = false → s'.h = s.h) :
    y0R c s' dst f first vs cap k = y0R c s dst f first vs cap k :=
  z3J hv fun ps us _ => by rw [y1W (s := s.app ⟨[], ps, none⟩) (s' := s'.app ⟨[], ps, none⟩) hn (fun d h => z5f ps (hd d h)) hh]
structure Agree (f : FP) (s s' : St) : Prop where
  n : s'.n = s.n
  get : ∀ i ∈ f.rs, s'.get i = s.get i
  ar : ∀ k ∈ f.ra, zN s'.ar k = zN s.ar k
  h : f.rh = true → s'.h = s.h ∧ s'.hv = s.hv
  d : f.rd = true → s'.h = s.h
theorem z8u {c : Cx} {ops : Array Oper} {o : Oper} (A : Agree (z5a c ops o s) s s') (k : vV → Prop) : y0L c o s' k = y0L c o s k := by
  have hop : ∀ x ∈ o.op.operands.toList, opv s' x = opv s x := fun x hx => by
    cases x with
    | tmp t => exact A.get t (by simp only [z5a]; exact List.mem_append_left _ (List.mem_filterMap.2 ⟨_, hx, rfl⟩))
    | _ => rfl
  have hn := A.n
  have hd : ∀ d, o.dst = some d → zN s'.ar d = zN s.ar d := fun d h => A.ar d (by simp [z5a, h])
  have ha : ∀ x ∈ o.op.operands.toList, ∀ r ∈ wQ (opv s x), zN s'.ar r = zN s.ar r := fun x hx r hr => A.ar r (by simp only [z5a]; exact z2i hx hr)
  have hh : y4A o = true → ∀ x ∈ o.op.operands.toList, hpS (opv s x) = true → s'.h = s.h := fun hm x hx h => A.d (by simp only [z5a, z9s hx h, hm, Bool.true_and, Bool.true_or])
  have h2 : vM c s o = 2 → s'.h = s.h ∧ s'.hv = s.hv := fun h => A.h (by simp [z5a, h])
  have mapc : ∀ xs : List Operand, (∀ x ∈ xs, x ∈ o.op.operands.toList) → xs.map (opv s') = xs.map (opv s) := fun xs h => List.map_congr_left fun x hx => hop x (h x hx)
  have optc : ∀ x : Option Operand, (∀ y, x = some y → y ∈ o.op.operands.toList) → x.map (opv s') = x.map (opv s) := fun x h => by
    cases x with
    | none => rfl
    | some y => simp [hop y (h y rfl)]
  unfold y0L
  cases ho : o.op with
  | move x => simp only [hop x (by simp [ho, Op.operands]), yY hn]
  | assign x => simp only [hop x (by simp [ho, Op.operands]), yY hn]
  | pick x a b => simp only [hop x (by simp [ho, Op.operands]), hop a (by simp [ho, Op.operands]), hop b (by simp [ho, Op.operands]), yY hn]
  | alloc t =>
    cases hd' : o.dst with
    | none => rfl
    | some d =>
      simp only []
      rw [← hd']
      cases hg : c.glob d with
      | true =>
        have hc : vM c s o = 2 := by simp [vM, ho, hd', hg]
        simp only [z7B hn (h2 hc).1]; rfl
      | false => simp only [gF hn hd]; rfl
  | box t v =>
    cases hd' : o.dst with
    | none => rfl
    | some d =>
      simp only [hop v (by simp [ho, Op.operands])]
      rw [← hd']
      cases hg : c.glob d with
      | true =>
        have hc : vM c s o = 2 := by simp [vM, ho, hd', hg]
        simp only [z7B hn (h2 hc).1]; rfl
      | false => simp only [gF hn hd]; rfl
  | build t ps =>
    have : (ps.toList.map fun (i, x) => (i, opv s' x)) = ps.toList.map fun (i, x) => (i, opv s x) := List.map_congr_left fun ⟨i, x⟩ hx => by
      show (i, opv s' x) = (i, opv s x)
      rw [hop x (by simp [ho, Op.operands]; exact ⟨i, by simpa using hx⟩)]
    simp only [this, yY hn]
  | buildSlice t len ps =>
    have : (ps.toList.map fun (i, x) => (i, opv s' x)) = ps.toList.map fun (i, x) => (i, opv s x) := List.map_congr_left fun ⟨i, x⟩ hx => by
      show (i, opv s' x) = (i, opv s x)
      rw [hop x (by simp [ho, Op.operands]; exact ⟨i, by simpa using hx⟩)]
    simp only [this, gF hn hd]
  | load t a => simp only [hop a (by simp [ho, Op.operands]), yY hn, y1X (ha a (by simp [ho, Op.operands])) (hh (by simp [y4A, ho]) a (by simp [ho, Op.operands])) (fun id off hv ⟨cs, n, xs, h1, h2⟩ => (A.h (by
      have hs : y5a s o = false := by simp [y5a, ho, hv, h1, h2]
      have hr : y6p c s o = false := by simp [y6p, ho]
      have hu := z9s (s := s) (o := o) (x := a) (by simp [ho, Op.operands]) (by rw [hv]; rfl)
      simp [z5a, hs, hr, hu, y4A, ho])).2)]
  | store t a v =>
    have hc : vM c s o = 2 := by simp [vM, ho]
    simp only [hop a (by simp [ho, Op.operands]), hop v (by simp [ho, Op.operands]), z9B (ha a (by simp [ho, Op.operands])) (ha v (by simp [ho, Op.operands])) (h2 hc).1]
  | nilCheck x =>
    simp only [hop x (by simp [ho, Op.operands])]
    have := ha x (by simp [ho, Op.operands])
    split
    · simp only [yY hn]
    · rename_i r g f h
      rw [h] at this
      simp only [yY hn, z5G (this r (by simp [wQ]))]
    · simp only [yY hn]
    · simp only [yY hn]
    · rfl
  | binOp op t x y z => cases op <;> simp only [hop x (by simp [ho, Op.operands]), hop y (by simp [ho, Op.operands]), yY hn]
  | unOp op t x => cases op <;> simp only [hop x (by simp [ho, Op.operands]), yY hn]
  | convert src dst x => simp only [hop x (by simp [ho, Op.operands]), yY hn]
  | makeFunc f first cap =>
    have h1 := mapc first.toList (fun x hx => by simp [ho, Op.operands]; exact .inl (by simpa using hx))
    have h2 := mapc cap.toList (fun x hx => by simp [ho, Op.operands]; exact .inr (by simpa using hx))
    simp only [h1, h2, yY hn]
  | makeSlice t l m => simp only [hop l (by simp [ho, Op.operands]), hop m (by simp [ho, Op.operands]), gF hn hd]
  | slice t x lo hi mx =>
    have e1 := optc lo (fun y h => by subst h; simp [ho, Op.operands])
    have e2 := optc hi (fun y h => by subst h; simp [ho, Op.operands])
    have e3 := optc mx (fun y h => by subst h; simp [ho, Op.operands])
    simp only [hop x (by simp [ho, Op.operands]), e1, e2, e3, y0V hn hd (ha x (by simp [ho, Op.operands]))]
  | fieldAddr t x f => simp only [hop x (by simp [ho, Op.operands]), yY hn, z6s (ha x (by simp [ho, Op.operands]))]
  | field t x f => simp only [hop x (by simp [ho, Op.operands]), yY hn]
  | indexAddr t x i => simp only [hop x (by simp [ho, Op.operands]), hop i (by simp [ho, Op.operands]), yY hn, z6t (ha x (by simp [ho, Op.operands]))]
  | index t x i => simp only [hop x (by simp [ho, Op.operands]), hop i (by simp [ho, Op.operands]), yY hn]
  | extract t i => simp only [hop t (by simp [ho, Op.operands]), yY hn]
  | call cl =>
    have hargs : ∀ x ∈ cl.args.toList, x ∈ o.op.operands.toList := fun x hx => by simp [ho, Op.operands, Call.operands]; exact .inr (by simpa using hx)
    simp only []
    unfold y4q
    cases hcal : cl.callee with
    | value f =>
      have hf : f ∈ o.op.operands.toList := by simp [ho, Op.operands, Call.operands, hcal]
      simp only [hop f hf, mapc cl.args.toList hargs]
      cases hfv : opv s f with
      | fn g first cap =>
        simp only []
        exact y0S hn hd (fun r hr => by
          obtain ⟨v, hv, hk⟩ := List.mem_flatMap.1 hr
          obtain ⟨x, hx, rfl⟩ := List.mem_map.1 hv
          exact ha x (hargs x hx) r hk) (fun hp => by
            cases hr : c.ro g with
            | false => exact (h2 (by simp [vM, ho, hcal, hfv, hp, hr])).1
            | true => exact A.d (by simp [z5a, y6p, ho, hcal, hfv, hp, hr]))
      | _ => rfl
    | builtin b =>
      cases b with
      | len =>
        simp only []
        split
        · rename_i x t hx ht
          have hm := hargs x (by simp [hx])
          simp only [hop x hm, yY hn, y3v (ha x hm)]
        · rfl
      | append =>
        have hc : vM c s o = 2 := by simp [vM, ho, hcal]
        simp only []
        split
        · rename_i x y t u hx ht
          have hm := hargs x (by simp [hx])
          simp only [hop x hm, hop y (hargs y (by simp [hx])), z9v hn hd (ha x hm) (h2 hc)]
        · rfl
      | max =>
        simp only []
        split
        · rename_i x y hx
          simp only [hop x (hargs x (by simp [hx])), hop y (hargs y (by simp [hx])), yY hn]
        · rfl
      | min =>
        simp only []
        split
        · rename_i x y hx
          simp only [hop x (hargs x (by simp [hx])), hop y (hargs y (by simp [hx])), yY hn]
        · rfl
      | _ => rfl
    | _ => rfl
  | _ => rfl
end
end Nt

