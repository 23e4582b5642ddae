import Derived.Test.YtelddjedpmfclaaGreatFwV
namespace Nt
open Go
set_option linter.unusedVariables false
set_option linter.unusedSimpArgs false
section
variable {P : Program} {s s' : St}
theorem v4W (c : Cx) (ops : Array Oper) (o : Oper) (s : St) : At (y2f (y1S c ops o s) s) (y9y c o s) := by
  have hdst : ∀ d, o.dst = some d → d ∈ (y1S c ops o s).ws := fun d hd => by simp [y1S, hd]
  have y4r : ∀ {F : (z0t → Prop) → Prop}, At (Wi o.dst [] false) F → At (y2f (y1S c ops o s) s) F := fun h => h.weaken fun p hp => hp.within hdst (by simp) (by simp)
  have hks : ∀ {n : Nat}, gJ c s o = n → n ≠ 0 → (y1S c ops o s).wa = (z6h o).flatMap (fun i => z1C (s.get i)) ++ o.dst.toList := fun h hn => by
    have : Nat.beq (gJ c s o) 0 = false := y5J (by omega)
    simp [y1S, this]
  have hdk : ∀ d, o.dst = some d → d ∈ (z6h o).flatMap (fun i => z1C (s.get i)) ++ o.dst.toList := fun d hd => by simp [hd]
  have fin1 : ∀ {F : (z0t → Prop) → Prop} {n : Nat}, gJ c s o = n → n ≠ 0 → At (Wi o.dst ((z6h o).flatMap (fun i => z1C (s.get i)) ++ o.dst.toList) false) F → At (y2f (y1S c ops o s) s) F := fun h hn g =>
    g.weaken fun p hp => hp.within hdst (fun k hk => by rw [hks h hn]; exact hk) (by simp)
  have fin2 : ∀ {F : (z0t → Prop) → Prop}, gJ c s o = 2 → (y1S c ops o s).wh = true → At (Wi o.dst ((z6h o).flatMap (fun i => z1C (s.get i)) ++ o.dst.toList) true) F → At (y2f (y1S c ops o s) s) F := fun h hw g =>
    g.weaken fun p hp => hp.within hdst (fun k hk => by rw [hks h (by omega)]; exact hk) (fun _ => hw)
  unfold y9y
  cases ho : o.op with
  | move x => exact y4r z0M
  | assign x => exact y4r z0M
  | pick x a b => exact y4r (At.brS z0M z0M)
  | alloc t =>
    refine At.kOpt fun z => At.kIf ?_
    cases hd : o.dst with
    | none => exact At.bot
    | some d =>
      dsimp only
      rw [← hd]
      cases hg : c.glob d with
      | true =>
        have hc : gJ c s o = 2 := by simp [gJ, ho, hd, hg]
        exact fin2 hc (by simp [y1S, hc, ho]) y8E
      | false =>
        have hc : gJ c s o = 1 := by simp [gJ, ho, hd, hg]
        show At _ (fun k => match c.P.underlying t with
          | some (.array _ e) => kOpt (z2N c.P e) fun n => kIf (Nat.beq n 1) (kOpt (z6U z.cells.toList) fun ds => newAr s o.dst (.row 1 ds) (fun d g => .ref d g 0) k)
          | some (.struct _) => match z6U z.cells.toList with
            | some ds => newAr s o.dst (.agg (.agg ds)) (fun d g => .ref d g 0) k
            | none => newAr s o.dst (.box (z.cells.toList.map z5f)) (fun d g => .ref d g 0) k
          | _ => newAr s o.dst (.box (z.cells.toList.map z5f)) (fun d g => .ref d g 0) k)
        split
        · exact At.kOpt fun n => At.kIf (At.kOpt fun ds => fin1 hc (by simp) (z3u hdk))
        · split
          · exact fin1 hc (by simp) (z3u hdk)
          · exact fin1 hc (by simp) (z3u hdk)
        · exact fin1 hc (by simp) (z3u hdk)
  | box t v =>
    cases hd : o.dst with
    | none => exact At.bot
    | some d =>
      dsimp only
      rw [← hd]
      cases hg : c.glob d with
      | true =>
        have hc : gJ c s o = 2 := by simp [gJ, ho, hd, hg]
        simp only [cond_true]
        exact At.cond (At.kOpt fun n => At.kBld fun ws => fin2 hc (by simp [y1S, hc, ho]) y8E) (At.kKeep fun w => fin2 hc (by simp [y1S, hc, ho]) y8E)
      | false =>
        have hc : gJ c s o = 1 := by simp [gJ, ho, hd, hg]
        simp only [cond_false]
        exact At.cond (At.kOpt fun n => At.kD fun x => At.kWhole (fin1 hc (by simp) (z3u hdk))) (At.kKeep fun w => fin1 hc (by simp) (z3u hdk))
  | build t ps =>
    dsimp only
    split
    · exact At.kIf (At.kOpt fun z => At.kOpt fun cs => At.kFill fun cs => y4r z0M)
    · exact At.bot
  | buildSlice t len ps =>
    have hc : gJ c s o = 1 := by simp [gJ, ho]
    exact At.kOpt fun e => At.kOpt fun n => At.kOpt fun z => At.kIf (At.kIf (At.kElems fun xs => fin1 hc (by simp) (z3u hdk)))
  | load t a => exact At.kLoad fun v => y4r z0M
  | store t a v =>
    have hc : gJ c s o = 2 := by simp [gJ, ho]
    cases hd : o.dst with
    | some d => exact At.bot
    | none =>
      have h := v3G (P := c.P) (s := s) (t := t) (a := opv s a) (v := opv s v) (K := (z6h o).flatMap (fun i => z1C (s.get i)) ++ o.dst.toList) (b := (z6h o).any fun i => v5l (s.get i))
        (fun k hk => z7Z (by simp [ho, Op.operands]) hk) (fun k hk => z7Z (by simp [ho, Op.operands]) hk) (fun h => y9f (by simp [ho, Op.operands]) h)
      refine h.weaken fun p hp => hp.within (by simp) (fun k hk => by rw [hks hc (by simp)]; exact hk) (fun h => by simp [y1S, hc, h])
  | nilCheck x =>
    dsimp only
    split <;> first | exact y4r z0M | exact At.kIf (y4r z0M) | exact At.bot
  | binOp op t x y z =>
    cases op <;> first | exact At.kEqOp fun b => y4r z0M | exact At.kD fun a => At.kD fun b => At.kBin fun r => y4r z0M
  | unOp op t x =>
    refine At.kD fun a => ?_
    cases op <;> first | exact At.kI fun i n => At.nam fun _ => y4r z0M | (cases a <;> first | exact y4r z0M | exact At.bot) | exact At.bot
  | convert src dst x =>
    dsimp only
    split
    · exact At.kD fun a => At.kI fun _ n => At.nam fun _ => y4r z0M
    · exact At.kD fun a => At.kStr fun u => y4r z0M
    · split
      · exact At.kD fun a => At.kSl fun xs => At.toBytes fun u => y4r z0M
      · exact At.bot
    · exact At.bot
  | makeFunc f first cap =>
    cases f <;> first | exact At.kArgs fun xs => At.kArgs fun ys => y4r z0M | exact At.bot
  | makeSlice t l m =>
    have hc : gJ c s o = 1 := by simp [gJ, ho]
    exact At.kOpt fun e => At.kOpt fun n => At.kOpt fun b => At.kOpt fun z => At.kD fun lx => At.kI fun _ l => At.kD fun mx => At.kI fun _ m => At.and (At.cond
      (At.kOpt fun ds => At.kIf (At.nam fun _ => fin1 hc (by simp) (z3u hdk))) (At.kOpt fun x => At.kIf (At.nam fun _ => fin1 hc (by simp) (z3u hdk))))
  | slice t x lo hi mx =>
    have hc : gJ c s o = 1 := by simp [gJ, ho]
    exact fin1 hc (by simp) (v4F (fun k hk => z7Z (by simp [ho, Op.operands]) hk) hdk)
  | fieldAddr t x f => exact At.kFieldAddr fun v => y4r z0M
  | field t x f => exact At.kField fun v => y4r z0M
  | indexAddr t x i => exact At.kIndexAddr fun v => y4r z0M
  | index t x i =>
    dsimp only
    split
    · exact At.kIndex fun v => y4r z0M
    · exact At.bot
  | extract t i =>
    dsimp only
    split
    · exact At.kOpt fun v => y4r z0M
    · exact At.bot
  | call cl =>
    dsimp only
    unfold v5I
    cases hcal : cl.callee with
    | value f =>
      dsimp only
      cases hf : opv s f with
      | fn g first cap =>
        have hkeys : ∀ k ∈ z6P (cl.args.toList.map (opv s)), k ∈ (z6h o).flatMap (fun i => z1C (s.get i)) ++ o.dst.toList := fun k hk => by
          obtain ⟨v, hv, hk⟩ := List.mem_flatMap.1 hk
          obtain ⟨x, hx, rfl⟩ := List.mem_map.1 hv
          exact z7Z (by simp [ho, Op.operands, Call.operands]; exact .inr (by simpa using hx)) hk
        cases hp : c.pur g with
        | true =>
          have hc : gJ c s o = 1 := by simp [gJ, ho, hcal, hf, hp]
          exact fin1 hc (by simp) (y9O hdk hkeys (by simp [hp]))
        | false =>
          cases hr : c.ro g with
          | true =>
            have hc : gJ c s o = 1 := by simp [gJ, ho, hcal, hf, hp, hr]
            have hro : v7a c s o = true := by simp [v7a, ho, hcal, hf, hp, hr]
            exact (v0J (s := s) hdk hkeys hp hr).weaken fun p q => ⟨fun x hx => hdst _ (q.1.1 x hx), fun x hx => by rw [hks hc (by simp)]; exact q.1.2.1 x hx, fun _ => .inr ⟨by simp [y1S, hro], q.2⟩⟩
          | false =>
          have hc : gJ c s o = 2 := by simp [gJ, ho, hcal, hf, hp, hr]
          refine fin2 hc ?_ (y9O hdk hkeys (by simp))
          simp only [y1S, hc, ho]
          cases cl
          simp at hcal
          simp [hcal]
      | _ => exact At.bot
    | builtin b =>
      cases b with
      | len =>
        dsimp only
        split
        · exact At.kLen fun v => y4r z0M
        · exact At.bot
      | append =>
        have hc : gJ c s o = 2 := by simp [gJ, ho, hcal]
        dsimp only
        split
        · rename_i x y t u hx ht
          split
          · have hmem : x ∈ o.op.operands.toList := by simp [ho, Op.operands, Call.operands, hx]
            have h := v3u (P := c.P) (s := s) (t := t) (dst := o.dst) (v := opv s x) (x := opv s y) (K := (z6h o).flatMap (fun i => z1C (s.get i)) ++ o.dst.toList) (b := (z6h o).any fun i => v5l (s.get i))
              hdk (fun k hk => z7Z hmem hk) (fun h => y9f hmem h)
            exact h.weaken fun p hp => hp.within hdst (fun k hk => by rw [hks hc (by simp)]; exact hk) (fun h => by simp [y1S, hc, h])
          · exact At.bot
        · exact At.bot
      | max =>
        dsimp only
        split
        · exact At.kD fun a => At.kD fun b => At.kI fun _ _ => At.kI fun _ _ => At.kIf (At.nam fun _ => y4r z0M)
        · exact At.bot
      | min =>
        dsimp only
        split
        · exact At.kD fun a => At.kD fun b => At.kI fun _ _ => At.kI fun _ _ => At.kIf (At.nam fun _ => y4r z0M)
        · exact At.bot
      | _ => exact At.bot
    | _ => exact At.bot
  | _ => exact At.bot
theorem z3T {r : Nat} (h : vG s'.ar r = vG s.ar r) (g : Nat) : s'.ob r g = s.ob r g := by simp [St.ob, h]
theorem y9H {r : Nat} (h : vG s'.ar r = vG s.ar r) : s'.gen r = s.gen r := by simp [St.gen, h]
theorem y4i {r : Nat} (h : vG s'.ar r = vG s.ar r) (g : Nat) : s'.live r g = s.live r g := by simp [St.live, z3T h]
theorem jD {dst : Option Nat} {v : Sv} (hn : s'.n = s.n) : z8l s' dst v = z8l s dst v := by funext k; cases dst <;> simp [z8l, hn]
theorem z3J {dst : Option Nat} {ob : Ob} {v : Nat → Nat → Sv} (hn : s'.n = s.n) (hd : ∀ d, dst = some d → vG s'.ar d = vG s.ar d) : newAr s' dst ob v = newAr s dst ob v := by
  funext k
  cases dst with
  | none => rfl
  | some d => simp [newAr, hn, y9H (hd d rfl)]
theorem y5I {dst : Option Nat} {r g : Nat} {ob : Ob} {v : Sv} (hn : s'.n = s.n) : v4x s' dst r g ob v = v4x s dst r g ob v := by funext k; cases dst <;> simp [v4x, hn]
theorem y5U {dst : Option Nat} {cs : List Sv} (hn : s'.n = s.n) (hh : s'.h = s.h) : newHp s' dst cs = newHp s dst cs := by funext k; cases dst <;> simp [newHp, hn, hh]
theorem v1G {t : TypeId} {v : Sv} {k : Sv → Prop} (ha : ∀ r ∈ z1C v, vG s'.ar r = vG s.ar r) (hh : hpS v = true → s'.h = s.h) (hw : ∀ id off, v = .hp id off → (∃ cs n xs, s.h[id]? = some cs ∧ cs[off]? = some (.own n xs)) → s'.hv = s.hv) : kLoad P t s' v k = kLoad P t s v k := by
  cases v with
  | ref r g off => simp [kLoad, z3T (ha r (by simp [z1C]))]
  | rref r g m i off => simp [kLoad, z3T (ha r (by simp [z1C]))]
  | hp id off =>
    have h1 := hh rfl
    simp only [kLoad, h1]
    cases hc : s.h[id]? with
    | none => rfl
    | some cs =>
      have hl : ∀ v, cs[off]? = some v → y4G id off s'.hv v = y4G id off s.hv v := fun v hv => by
        cases v with
        | own n xs => simp [y4G, hw id off rfl ⟨cs, n, xs, hc, hv⟩]
        | _ => rfl
      have : ∀ n, kBoxT P t n cs off (y4G id off s'.hv) k = kBoxT P t n cs off (y4G id off s.hv) k := fun n => by
        unfold kBoxT
        congr 1
        cases hv : cs[off]? with
        | none => rfl
        | some v => show k _ = k _; rw [hl v hv]
      show (kOpt (z2N P t) fun n => kBoxT P t n cs off (y4G id off s'.hv) k) = kOpt (z2N P t) fun n => kBoxT P t n cs off (y4G id off s.hv) k
      simp only [this]
  | _ => rfl
theorem y9D {t : TypeId} {a v : Sv} {k : z0t → Prop} (ha : ∀ r ∈ z1C a, vG s'.ar r = vG s.ar r) (hv : ∀ r ∈ z1C v, vG s'.ar r = vG s.ar r) (hh : s'.h = s.h) : y0R P t s' a v k = y0R P t s a v k := by
  cases a with
  | ref r g off => simp [y0R, z3T (ha r (by simp [z1C]))]
  | rref r g m i off => simp [y0R, z3T (ha r (by simp [z1C]))]
  | hp id off =>
    cases v with
    | right r g m xs => simp [y0R, hh, z3T (hv r (by simp [z1C]))]
    | _ => simp [y0R, hh]
  | _ => rfl
theorem y5r {t : TypeId} {v : Sv} {f : Nat} {k : Sv → Prop} (ha : ∀ r ∈ z1C v, vG s'.ar r = vG s.ar r) : kFieldAddr P t s' v f k = kFieldAddr P t s v f k := by
  cases v with
  | ref r g off => simp [kFieldAddr, y4i (ha r (by simp [z1C]))]
  | rref r g m i off => simp [kFieldAddr, y4i (ha r (by simp [z1C]))]
  | _ => rfl
theorem y4L {t : TypeId} {v i : Sv} {k : Sv → Prop} (ha : ∀ r ∈ z1C v, vG s'.ar r = vG s.ar r) : kIndexAddr P t s' v i k = kIndexAddr P t s v i k := by
  cases v with
  | row r g => simp [kIndexAddr, z3T (ha r (by simp [z1C]))]
  | ref r g off => simp [kIndexAddr, z3T (ha r (by simp [z1C]))]
  | _ => rfl
theorem v3D {t : TypeId} {v : Sv} {k : Sv → Prop} (ha : ∀ r ∈ z1C v, vG s'.ar r = vG s.ar r) : kLen P t s' v k = kLen P t s v k := by
  unfold kLen
  split
  · cases v with
    | row r g => simp [z3T (ha r (by simp [z1C]))]
    | _ => rfl
  · rfl
  · rfl
theorem y4w {dst : Option Nat} {rs : List Sv} {h : Option H} (hn : s'.n = s.n) (hd : ∀ d, dst = some d → vG s'.ar d = vG s.ar d) : z7m s' dst rs h = z7m s dst rs h := by
  funext k
  unfold z7m
  split
  · rw [z3J hn hd]
  · rw [jD hn]
  · rw [jD hn]
theorem v1u {c : Cx} {dst : Option Nat} {f : FuncId} {vs : List Sv} (hn : s'.n = s.n) (hd : ∀ d, dst = some d → vG s'.ar d = vG s.ar d) (hh : c.pur f = false → s'.h = s.h) : y7p c s' dst f vs = y7p c s dst f vs := by
  funext k
  unfold y7p
  cases hp : c.pur f with
  | true => simp only [y4w hn hd]; rfl
  | false => simp only [y4w hn hd, hh hp]
theorem y9Q {t : TypeId} {dst : Option Nat} {v : Sv} {lo hi mx : Option Sv} {k : z0t → Prop} (hn : s'.n = s.n) (hd : ∀ d, dst = some d → vG s'.ar d = vG s.ar d) (ha : ∀ r ∈ z1C v, vG s'.ar r = vG s.ar r) :
    y4H P t s' dst v lo hi mx k = y4H P t s dst v lo hi mx k := by
  unfold y4H
  split
  · simp only [jD hn]
  · have h2 : ∀ xs, y8A s' dst lo hi xs k = y8A s dst lo hi xs k := fun xs => by simp only [y8A, jD hn]
    have h3 : ∀ n xs, y8V n s' dst lo hi mx xs k = y8V n s dst lo hi mx xs k := fun n xs => by simp only [y8V, z3J hn hd]
    simp only [h2, h3]
  · cases v with
    | ref r g off =>
      cases mx <;> cases hi <;> first | rfl | simp only [z3T (ha r (by simp [z1C])), jD hn]
    | _ => rfl
  · rfl
theorem y9d {t : TypeId} {dst : Option Nat} {v x : Sv} {k : z0t → Prop} (hn : s'.n = s.n) (hd : ∀ d, dst = some d → vG s'.ar d = vG s.ar d) (ha : ∀ r ∈ z1C v, vG s'.ar r = vG s.ar r) (hh : s'.h = s.h ∧ s'.hv = s.hv) :
    y1i P t s' dst v x k = y1i P t s dst v x k := by
  cases v with
  | right r g n xs => simp only [y1i, z3T (ha r (by simp [z1C])), z3J hn hd, y5I hn, hh.1, hh.2]
  | _ => simp only [y1i, z3J hn hd, y5I hn, hh.1, hh.2]
theorem y1W (ps : List (Nat × Nat × Option Ob)) {a b : List (Nat × Nat × Option Ob)} {r : Nat} (h : vG a r = vG b r) : vG (ps ++ a) r = vG (ps ++ b) r := by
  induction ps with
  | nil => exact h
  | cons x ps ih =>
    obtain ⟨j, v⟩ := x
    rw [List.cons_append, List.cons_append, vC, vC, ih]
theorem y0o : ∀ {vs : List Sv} {s s' : St} {G G' : List (Nat × Nat × Option Ob) → List Sv → Prop}, (∀ r ∈ z6P vs, vG s'.ar r = vG s.ar r) → (∀ ps us, (∀ x ∈ z6P us, x ∈ z6P vs) → G' ps us = G ps us) → v3K s' vs G' = v3K s vs G
  | [], s, s', G, G', _, h => h [] [] (fun _ h => h)
  | v :: r, s, s', G, G', ha, h => by
    have har : ∀ x ∈ z6P r, vG s'.ar x = vG s.ar x := fun x hx => ha x (List.mem_append_right _ hx)
    by_cases hrow : ∃ a g, v = .row a g
    · obtain ⟨a, g, rfl⟩ := hrow
      have ho : s'.ob a g = s.ob a g := z3T (ha a (by simp [z6P, z1C])) g
      show kOpt (s'.ob a g) _ = kOpt (s.ob a g) _
      rw [ho]
      congr 1
      funext ob
      cases ob with
      | row n xs =>
        refine y0o (fun x hx => y1W [(a, g, none)] (har x hx)) (fun ps us hu => h _ _ fun x hx => ?_)
        simp only [z6P, List.flatMap_cons, z1C, List.nil_append] at hx
        exact List.mem_append_right _ (hu x hx)
      | _ => rfl
    · have e : ∀ (s : St) (G : List (Nat × Nat × Option Ob) → List Sv → Prop), v3K s (v :: r) G = v3K s r fun ps us => G ps (v :: us) := fun s G => by
        cases v with
        | row a g => exact absurd ⟨a, g, rfl⟩ hrow
        | _ => rfl
      rw [e, e]
      refine y0o har (fun ps us hu => h _ _ fun x hx => ?_)
      simp only [z6P, List.flatMap_cons] at hx ⊢
      rcases List.mem_append.1 hx with hx | hx
      · exact List.mem_append_left _ hx
      · exact List.mem_append_right _ (hu x hx)
theorem y8m {t : TypeId} {a v : Sv} {k : z0t → Prop} (ha : ∀ r ∈ z1C a, vG s'.ar r = vG s.ar r) (hv : ∀ r ∈ z1C v, vG s'.ar r = vG s.ar r) (hh : s'.h = s.h) : y6y P t s' a v k = y6y P t s a v k := by
  refine y0o (fun r hr => hv r (by simpa [z6P] using hr)) fun ps us hu => ?_
  split
  · rename_i y
    exact y9D (fun r hr => y1W ps (ha r hr)) (fun r hr => y1W ps (hv r (by simpa [z6P] using hu r (by simpa [z6P] using hr)))) hh
  · rfl
theorem v0k {c : Cx} {dst : Option Nat} {f : FuncId} {first vs cap : List Sv} {k : z0t → Prop} (hn : s'.n = s.n) (hd : ∀ d, dst = some d → vG s'.ar d = vG s.ar d) (hv : ∀ r ∈ z6P vs, vG s'.ar r = vG s.ar r) (hh : c.pur f = false → s'.h = s.h) :
    y9t c s' dst f first vs cap k = y9t c s dst f first vs cap k :=
  y0o hv fun ps us _ => by rw [v1u (s := s.app ⟨[], ps, none⟩) (s' := s'.app ⟨[], ps, none⟩) hn (fun d h => y1W ps (hd d h)) hh]
structure Agree (f : FP) (s s' : St) : Prop where
  n : s'.n = s.n
  get : ∀ i ∈ f.rs, s'.get i = s.get i
  ar : ∀ k ∈ f.ra, vG s'.ar k = vG s.ar k
  h : f.rh = true → s'.h = s.h ∧ s'.hv = s.hv
  d : f.rd = true → s'.h = s.h
theorem y7I {c : Cx} {ops : Array Oper} {o : Oper} (A : Agree (y1S c ops o s) s s') (k : z0t → Prop) : y9y c o s' k = y9y c o s k := by
  have hop : ∀ x ∈ o.op.operands.toList, opv s' x = opv s x := fun x hx => by
    cases x with
    | tmp t => exact A.get t (by simp only [y1S]; exact List.mem_append_left _ (List.mem_filterMap.2 ⟨_, hx, rfl⟩))
    | _ => rfl
  have hn := A.n
  have hd : ∀ d, o.dst = some d → vG s'.ar d = vG s.ar d := fun d h => A.ar d (by simp [y1S, h])
  have ha : ∀ x ∈ o.op.operands.toList, ∀ r ∈ z1C (opv s x), vG s'.ar r = vG s.ar r := fun x hx r hr => A.ar r (by simp only [y1S]; exact z7Z hx hr)
  have hh : v5P o = true → ∀ x ∈ o.op.operands.toList, hpS (opv s x) = true → s'.h = s.h := fun hm x hx h => A.d (by simp only [y1S, y9f hx h, hm, Bool.true_and, Bool.true_or])
  have h2 : gJ c s o = 2 → s'.h = s.h ∧ s'.hv = s.hv := fun h => A.h (by simp [y1S, h])
  have mapc : ∀ xs : List Operand, (∀ x ∈ xs, x ∈ o.op.operands.toList) → xs.map (opv s') = xs.map (opv s) := fun xs h => List.map_congr_left fun x hx => hop x (h x hx)
  have optc : ∀ x : Option Operand, (∀ y, x = some y → y ∈ o.op.operands.toList) → x.map (opv s') = x.map (opv s) := fun x h => by
    cases x with
    | none => rfl
    | some y => simp [hop y (h y rfl)]
  unfold y9y
  cases ho : o.op with
  | move x => simp only [hop x (by simp [ho, Op.operands]), jD hn]
  | assign x => simp only [hop x (by simp [ho, Op.operands]), jD hn]
  | pick x a b => simp only [hop x (by simp [ho, Op.operands]), hop a (by simp [ho, Op.operands]), hop b (by simp [ho, Op.operands]), jD hn]
  | alloc t =>
    cases hd' : o.dst with
    | none => rfl
    | some d =>
      simp only []
      rw [← hd']
      cases hg : c.glob d with
      | true =>
        have hc : gJ c s o = 2 := by simp [gJ, ho, hd', hg]
        simp only [y5U hn (h2 hc).1]; rfl
      | false => simp only [z3J hn hd]; rfl
  | box t v =>
    cases hd' : o.dst with
    | none => rfl
    | some d =>
      simp only [hop v (by simp [ho, Op.operands])]
      rw [← hd']
      cases hg : c.glob d with
      | true =>
        have hc : gJ c s o = 2 := by simp [gJ, ho, hd', hg]
        simp only [y5U hn (h2 hc).1]; rfl
      | false => simp only [z3J hn hd]; rfl
  | build t ps =>
    have : (ps.toList.map fun (i, x) => (i, opv s' x)) = ps.toList.map fun (i, x) => (i, opv s x) := List.map_congr_left fun ⟨i, x⟩ hx => by
      show (i, opv s' x) = (i, opv s x)
      rw [hop x (by simp [ho, Op.operands]; exact ⟨i, by simpa using hx⟩)]
    simp only [this, jD hn]
  | buildSlice t len ps =>
    have : (ps.toList.map fun (i, x) => (i, opv s' x)) = ps.toList.map fun (i, x) => (i, opv s x) := List.map_congr_left fun ⟨i, x⟩ hx => by
      show (i, opv s' x) = (i, opv s x)
      rw [hop x (by simp [ho, Op.operands]; exact ⟨i, by simpa using hx⟩)]
    simp only [this, z3J hn hd]
  | load t a => simp only [hop a (by simp [ho, Op.operands]), jD hn, v1G (ha a (by simp [ho, Op.operands])) (hh (by simp [v5P, ho]) a (by simp [ho, Op.operands])) (fun id off hv ⟨cs, n, xs, h1, h2⟩ => (A.h (by
      have hs : v5m s o = false := by simp [v5m, ho, hv, h1, h2]
      have hr : v7a c s o = false := by simp [v7a, ho]
      have hu := y9f (s := s) (o := o) (x := a) (by simp [ho, Op.operands]) (by rw [hv]; rfl)
      simp [y1S, hs, hr, hu, v5P, ho])).2)]
  | store t a v =>
    have hc : gJ c s o = 2 := by simp [gJ, ho]
    simp only [hop a (by simp [ho, Op.operands]), hop v (by simp [ho, Op.operands]), y8m (ha a (by simp [ho, Op.operands])) (ha v (by simp [ho, Op.operands])) (h2 hc).1]
  | nilCheck x =>
    simp only [hop x (by simp [ho, Op.operands])]
    have := ha x (by simp [ho, Op.operands])
    split
    · simp only [jD hn]
    · rename_i r g f h
      rw [h] at this
      simp only [jD hn, y4i (this r (by simp [z1C]))]
    · simp only [jD hn]
    · simp only [jD hn]
    · rfl
  | binOp op t x y z => cases op <;> simp only [hop x (by simp [ho, Op.operands]), hop y (by simp [ho, Op.operands]), jD hn]
  | unOp op t x => cases op <;> simp only [hop x (by simp [ho, Op.operands]), jD hn]
  | convert src dst x => simp only [hop x (by simp [ho, Op.operands]), jD hn]
  | makeFunc f first cap =>
    have h1 := mapc first.toList (fun x hx => by simp [ho, Op.operands]; exact .inl (by simpa using hx))
    have h2 := mapc cap.toList (fun x hx => by simp [ho, Op.operands]; exact .inr (by simpa using hx))
    simp only [h1, h2, jD hn]
  | makeSlice t l m => simp only [hop l (by simp [ho, Op.operands]), hop m (by simp [ho, Op.operands]), z3J hn hd]
  | slice t x lo hi mx =>
    have e1 := optc lo (fun y h => by subst h; simp [ho, Op.operands])
    have e2 := optc hi (fun y h => by subst h; simp [ho, Op.operands])
    have e3 := optc mx (fun y h => by subst h; simp [ho, Op.operands])
    simp only [hop x (by simp [ho, Op.operands]), e1, e2, e3, y9Q hn hd (ha x (by simp [ho, Op.operands]))]
  | fieldAddr t x f => simp only [hop x (by simp [ho, Op.operands]), jD hn, y5r (ha x (by simp [ho, Op.operands]))]
  | field t x f => simp only [hop x (by simp [ho, Op.operands]), jD hn]
  | indexAddr t x i => simp only [hop x (by simp [ho, Op.operands]), hop i (by simp [ho, Op.operands]), jD hn, y4L (ha x (by simp [ho, Op.operands]))]
  | index t x i => simp only [hop x (by simp [ho, Op.operands]), hop i (by simp [ho, Op.operands]), jD hn]
  | extract t i => simp only [hop t (by simp [ho, Op.operands]), jD hn]
  | call cl =>
    have hargs : ∀ x ∈ cl.args.toList, x ∈ o.op.operands.toList := fun x hx => by simp [ho, Op.operands, Call.operands]; exact .inr (by simpa using hx)
    simp only []
    unfold v5I
    cases hcal : cl.callee with
    | value f =>
      have hf : f ∈ o.op.operands.toList := by simp [ho, Op.operands, Call.operands, hcal]
      simp only [hop f hf, mapc cl.args.toList hargs]
      cases hfv : opv s f with
      | fn g first cap =>
        simp only []
        exact v0k hn hd (fun r hr => by
          obtain ⟨v, hv, hk⟩ := List.mem_flatMap.1 hr
          obtain ⟨x, hx, rfl⟩ := List.mem_map.1 hv
          exact ha x (hargs x hx) r hk) (fun hp => by
            cases hr : c.ro g with
            | false => exact (h2 (by simp [gJ, ho, hcal, hfv, hp, hr])).1
            | true => exact A.d (by simp [y1S, v7a, ho, hcal, hfv, hp, hr]))
      | _ => rfl
    | builtin b =>
      cases b with
      | len =>
        simp only []
        split
        · rename_i x t hx ht
          have hm := hargs x (by simp [hx])
          simp only [hop x hm, jD hn, v3D (ha x hm)]
        · rfl
      | append =>
        have hc : gJ c s o = 2 := by simp [gJ, ho, hcal]
        simp only []
        split
        · rename_i x y t u hx ht
          have hm := hargs x (by simp [hx])
          simp only [hop x hm, hop y (hargs y (by simp [hx])), y9d hn hd (ha x hm) (h2 hc)]
        · rfl
      | max =>
        simp only []
        split
        · rename_i x y hx
          simp only [hop x (hargs x (by simp [hx])), hop y (hargs y (by simp [hx])), jD hn]
        · rfl
      | min =>
        simp only []
        split
        · rename_i x y hx
          simp only [hop x (hargs x (by simp [hx])), hop y (hargs y (by simp [hx])), jD hn]
        · rfl
      | _ => rfl
    | _ => rfl
  | _ => rfl
end
end Nt

