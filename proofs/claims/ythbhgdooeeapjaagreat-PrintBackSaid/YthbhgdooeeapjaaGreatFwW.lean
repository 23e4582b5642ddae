import Derived.Test.YthbhgdooeeapjaaGreatFwV
namespace Nt
open Go
set_option linter.unusedVariables false
set_option linter.unusedSimpArgs false
section
variable {P : Program} {s s' : St}
theorem v0U (c : Cx) (ops : Array Oper) (o : Oper) (s : St) : At (y0J (y1T c ops o s) s) (y7J c o s) := by
  have hdst : ∀ d, o.dst = some d → d ∈ (y1T c ops o s).ws := fun d hd => by simp [y1T, hd]
  have y2I : ∀ {F : (gU → Prop) → Prop}, At (Wi o.dst [] false) F → At (y0J (y1T c ops o s) s) F := fun h => h.weaken fun p hp => hp.within hdst (by simp) (by simp)
  have hks : ∀ {n : Nat}, jN c s o = n → n ≠ 0 → (y1T c ops o s).wa = (z5t o).flatMap (fun i => z1b (s.get i)) ++ o.dst.toList := fun h hn => by
    have : Nat.beq (jN c s o) 0 = false := y4m (by omega)
    simp [y1T, this]
  have hdk : ∀ d, o.dst = some d → d ∈ (z5t o).flatMap (fun i => z1b (s.get i)) ++ o.dst.toList := fun d hd => by simp [hd]
  have fin1 : ∀ {F : (gU → Prop) → Prop} {n : Nat}, jN c s o = n → n ≠ 0 → At (Wi o.dst ((z5t o).flatMap (fun i => z1b (s.get i)) ++ o.dst.toList) false) F → At (y0J (y1T c ops o s) s) F := fun h hn g =>
    g.weaken fun p hp => hp.within hdst (fun k hk => by rw [hks h hn]; exact hk) (by simp)
  have fin2 : ∀ {F : (gU → Prop) → Prop}, jN c s o = 2 → (y1T c ops o s).wh = true → At (Wi o.dst ((z5t o).flatMap (fun i => z1b (s.get i)) ++ o.dst.toList) true) F → At (y0J (y1T c ops o s) s) F := fun h hw g =>
    g.weaken fun p hp => hp.within hdst (fun k hk => by rw [hks h (by omega)]; exact hk) (fun _ => hw)
  unfold y7J
  cases ho : o.op with
  | move x => exact y2I z0n
  | assign x => exact y2I z0n
  | pick x a b => exact y2I (At.brS z0n z0n)
  | alloc t =>
    refine At.kOpt fun z => At.kIf ?_
    cases hd : o.dst with
    | none => exact At.bot
    | some d =>
      dsimp only
      rw [← hd]
      cases hg : c.glob d with
      | true =>
        have hc : jN c s o = 2 := by simp [jN, ho, hd, hg]
        exact fin2 hc (by simp [y1T, hc, ho]) y6e
      | false =>
        have hc : jN c s o = 1 := by simp [jN, ho, hd, hg]
        show At _ (fun k => match c.P.underlying t with
          | some (.array _ e) => kOpt (z2l c.P e) fun n => kIf (Nat.beq n 1) (kOpt (z5S z.cells.toList) fun ds => newAr s o.dst (.row 1 ds) (fun d g => .ref d g 0) k)
          | some (.struct _) => match z5S z.cells.toList with
            | some ds => newAr s o.dst (.agg (.agg ds)) (fun d g => .ref d g 0) k
            | none => newAr s o.dst (.box (z.cells.toList.map z4u)) (fun d g => .ref d g 0) k
          | _ => newAr s o.dst (.box (z.cells.toList.map z4u)) (fun d g => .ref d g 0) k)
        split
        · exact At.kOpt fun n => At.kIf (At.kOpt fun ds => fin1 hc (by simp) (z2V hdk))
        · split
          · exact fin1 hc (by simp) (z2V hdk)
          · exact fin1 hc (by simp) (z2V hdk)
        · exact fin1 hc (by simp) (z2V hdk)
  | box t v =>
    cases hd : o.dst with
    | none => exact At.bot
    | some d =>
      dsimp only
      rw [← hd]
      cases hg : c.glob d with
      | true =>
        have hc : jN c s o = 2 := by simp [jN, ho, hd, hg]
        simp only [cond_true]
        exact At.cond (At.kOpt fun n => At.kBld fun ws => fin2 hc (by simp [y1T, hc, ho]) y6e) (At.kKeep fun w => fin2 hc (by simp [y1T, hc, ho]) y6e)
      | false =>
        have hc : jN c s o = 1 := by simp [jN, ho, hd, hg]
        simp only [cond_false]
        exact At.cond (At.kOpt fun n => At.kD fun x => At.kWhole (fin1 hc (by simp) (z2V hdk))) (At.kKeep fun w => fin1 hc (by simp) (z2V hdk))
  | build t ps =>
    dsimp only
    split
    · exact At.kIf (At.kOpt fun z => At.kOpt fun cs => At.kFill fun cs => y2I z0n)
    · exact At.bot
  | buildSlice t len ps =>
    have hc : jN c s o = 1 := by simp [jN, ho]
    exact At.kOpt fun e => At.kOpt fun n => At.kOpt fun z => At.kIf (At.kIf (At.kElems fun xs => fin1 hc (by simp) (z2V hdk)))
  | load t a => exact At.kLoad fun v => y2I z0n
  | store t a v =>
    have hc : jN c s o = 2 := by simp [jN, ho]
    cases hd : o.dst with
    | some d => exact At.bot
    | none =>
      have h := v0e (P := c.P) (s := s) (t := t) (a := opv s a) (v := opv s v) (K := (z5t o).flatMap (fun i => z1b (s.get i)) ++ o.dst.toList) (b := (z5t o).any fun i => v2P (s.get i))
        (fun k hk => z6Q (by simp [ho, Op.operands]) hk) (fun k hk => z6Q (by simp [ho, Op.operands]) hk) (fun h => y6o (by simp [ho, Op.operands]) h)
      refine h.weaken fun p hp => hp.within (by simp) (fun k hk => by rw [hks hc (by simp)]; exact hk) (fun h => by simp [y1T, hc, h])
  | nilCheck x =>
    dsimp only
    split <;> first | exact y2I z0n | exact At.kIf (y2I z0n) | exact At.bot
  | binOp op t x y z =>
    cases op <;> first | exact At.kEqOp fun b => y2I z0n | exact At.kD fun a => At.kD fun b => At.kBin fun r => y2I z0n
  | unOp op t x =>
    refine At.kD fun a => ?_
    cases op <;> first | exact At.kI fun i n => At.nam fun _ => y2I z0n | (cases a <;> first | exact y2I z0n | exact At.bot) | exact At.bot
  | convert src dst x =>
    dsimp only
    split
    · exact At.kD fun a => At.kI fun _ n => At.nam fun _ => y2I z0n
    · exact At.kD fun a => At.kStr fun u => y2I z0n
    · split
      · exact At.kD fun a => At.kSl fun xs => At.toBytes fun u => y2I z0n
      · exact At.bot
    · exact At.bot
  | makeFunc f first cap =>
    cases f <;> first | exact At.kArgs fun xs => At.kArgs fun ys => y2I z0n | exact At.bot
  | makeSlice t l m =>
    have hc : jN c s o = 1 := by simp [jN, ho]
    exact At.kOpt fun e => At.kOpt fun n => At.kOpt fun b => At.kOpt fun z => At.kD fun lx => At.kI fun _ l => At.kD fun mx => At.kI fun _ m => At.and (At.cond
      (At.kOpt fun ds => At.kIf (At.nam fun _ => fin1 hc (by simp) (z2V hdk))) (At.kOpt fun x => At.kIf (At.nam fun _ => fin1 hc (by simp) (z2V hdk))))
  | slice t x lo hi mx =>
    have hc : jN c s o = 1 := by simp [jN, ho]
    exact fin1 hc (by simp) (v0V (fun k hk => z6Q (by simp [ho, Op.operands]) hk) hdk)
  | fieldAddr t x f => exact At.kFieldAddr fun v => y2I z0n
  | field t x f => exact At.kField fun v => y2I z0n
  | indexAddr t x i => exact At.kIndexAddr fun v => y2I z0n
  | index t x i =>
    dsimp only
    split
    · exact At.kIndex fun v => y2I z0n
    · exact At.bot
  | extract t i =>
    dsimp only
    split
    · exact At.kOpt fun v => y2I z0n
    · exact At.bot
  | call cl =>
    dsimp only
    unfold v1y
    cases hcal : cl.callee with
    | value f =>
      dsimp only
      cases hf : opv s f with
      | fn g first cap =>
        have hkeys : ∀ k ∈ z5Y (cl.args.toList.map (opv s)), k ∈ (z5t o).flatMap (fun i => z1b (s.get i)) ++ o.dst.toList := fun k hk => by
          obtain ⟨v, hv, hk⟩ := List.mem_flatMap.1 hk
          obtain ⟨x, hx, rfl⟩ := List.mem_map.1 hv
          exact z6Q (by simp [ho, Op.operands, Call.operands]; exact .inr (by simpa using hx)) hk
        cases hp : c.pur g with
        | true =>
          have hc : jN c s o = 1 := by simp [jN, ho, hcal, hf, hp]
          exact fin1 hc (by simp) (y7f hdk hkeys (by simp [hp]))
        | false =>
          cases hr : c.ro g with
          | true =>
            have hc : jN c s o = 1 := by simp [jN, ho, hcal, hf, hp, hr]
            have hro : v4k c s o = true := by simp [v4k, ho, hcal, hf, hp, hr]
            exact (y7g (s := s) hdk hkeys hp hr).weaken fun p q => ⟨fun x hx => hdst _ (q.1.1 x hx), fun x hx => by rw [hks hc (by simp)]; exact q.1.2.1 x hx, fun _ => .inr ⟨by simp [y1T, hro], q.2⟩⟩
          | false =>
          have hc : jN c s o = 2 := by simp [jN, ho, hcal, hf, hp, hr]
          refine fin2 hc ?_ (y7f hdk hkeys (by simp))
          simp only [y1T, hc, ho]
          cases cl
          simp at hcal
          simp [hcal]
      | _ => exact At.bot
    | builtin b =>
      cases b with
      | len =>
        dsimp only
        split
        · exact At.kLen fun v => y2I z0n
        · exact At.bot
      | append =>
        have hc : jN c s o = 2 := by simp [jN, ho, hcal]
        dsimp only
        split
        · rename_i x y t u hx ht
          split
          · have hmem : x ∈ o.op.operands.toList := by simp [ho, Op.operands, Call.operands, hx]
            have h := v0d (P := c.P) (s := s) (t := t) (dst := o.dst) (v := opv s x) (x := opv s y) (K := (z5t o).flatMap (fun i => z1b (s.get i)) ++ o.dst.toList) (b := (z5t o).any fun i => v2P (s.get i))
              hdk (fun k hk => z6Q hmem hk) (fun h => y6o hmem h)
            exact h.weaken fun p hp => hp.within hdst (fun k hk => by rw [hks hc (by simp)]; exact hk) (fun h => by simp [y1T, hc, h])
          · exact At.bot
        · exact At.bot
      | max =>
        dsimp only
        split
        · exact At.kD fun a => At.kD fun b => At.kI fun _ _ => At.kI fun _ _ => At.kIf (At.nam fun _ => y2I z0n)
        · exact At.bot
      | min =>
        dsimp only
        split
        · exact At.kD fun a => At.kD fun b => At.kI fun _ _ => At.kI fun _ _ => At.kIf (At.nam fun _ => y2I z0n)
        · exact At.bot
      | _ => exact At.bot
    | _ => exact At.bot
  | _ => exact At.bot
theorem z3p {r : Nat} (h : vA s'.ar r = vA s.ar r) (g : Nat) : s'.ob r g = s.ob r g := by simp [St.ob, h]
theorem y7O {r : Nat} (h : vA s'.ar r = vA s.ar r) : s'.gen r = s.gen r := by simp [St.gen, h]
theorem y2O {r : Nat} (h : vA s'.ar r = vA s.ar r) (g : Nat) : s'.live r g = s.live r g := by simp [St.live, z3p h]
theorem uJ {dst : Option Nat} {v : Sv} (hn : s'.n = s.n) : z7i s' dst v = z7i s dst v := by funext k; cases dst <;> simp [z7i, hn]
theorem z3g {dst : Option Nat} {ob : Ob} {v : Nat → Nat → Sv} (hn : s'.n = s.n) (hd : ∀ d, dst = some d → vA s'.ar d = vA s.ar d) : newAr s' dst ob v = newAr s dst ob v := by
  funext k
  cases dst with
  | none => rfl
  | some d => simp [newAr, hn, y7O (hd d rfl)]
theorem y4V {dst : Option Nat} {r g : Nat} {ob : Ob} {v : Sv} (hn : s'.n = s.n) : v1T s' dst r g ob v = v1T s dst r g ob v := by funext k; cases dst <;> simp [v1T, hn]
theorem y4S {dst : Option Nat} {cs : List Sv} (hn : s'.n = s.n) (hh : s'.h = s.h) : newHp s' dst cs = newHp s dst cs := by funext k; cases dst <;> simp [newHp, hn, hh]
theorem y8M {t : TypeId} {v : Sv} {k : Sv → Prop} (ha : ∀ r ∈ z1b v, vA s'.ar r = vA s.ar r) (hh : hpS v = true → s'.h = s.h) (hw : ∀ id off, v = .hp id off → (∃ cs n xs, s.h[id]? = some cs ∧ cs[off]? = some (.own n xs)) → s'.hv = s.hv) : kLoad P t s' v k = kLoad P t s v k := by
  cases v with
  | ref r g off => simp [kLoad, z3p (ha r (by simp [z1b]))]
  | rref r g m i off => simp [kLoad, z3p (ha r (by simp [z1b]))]
  | hp id off =>
    have h1 := hh rfl
    simp only [kLoad, h1]
    cases hc : s.h[id]? with
    | none => rfl
    | some cs =>
      have hl : ∀ v, cs[off]? = some v → y3g id off s'.hv v = y3g id off s.hv v := fun v hv => by
        cases v with
        | own n xs => simp [y3g, hw id off rfl ⟨cs, n, xs, hc, hv⟩]
        | _ => rfl
      have : ∀ n, kBoxT P t n cs off (y3g id off s'.hv) k = kBoxT P t n cs off (y3g id off s.hv) k := fun n => by
        unfold kBoxT
        congr 1
        cases hv : cs[off]? with
        | none => rfl
        | some v => show k _ = k _; rw [hl v hv]
      show (kOpt (z2l P t) fun n => kBoxT P t n cs off (y3g id off s'.hv) k) = kOpt (z2l P t) fun n => kBoxT P t n cs off (y3g id off s.hv) k
      simp only [this]
  | _ => rfl
theorem y7W {t : TypeId} {a v : Sv} {k : gU → Prop} (ha : ∀ r ∈ z1b a, vA s'.ar r = vA s.ar r) (hv : ∀ r ∈ z1b v, vA s'.ar r = vA s.ar r) (hh : s'.h = s.h) : z9x P t s' a v k = z9x P t s a v k := by
  cases a with
  | ref r g off => simp [z9x, z3p (ha r (by simp [z1b]))]
  | rref r g m i off => simp [z9x, z3p (ha r (by simp [z1b]))]
  | hp id off =>
    cases v with
    | right r g m xs => simp [z9x, hh, z3p (hv r (by simp [z1b]))]
    | _ => simp [z9x, hh]
  | _ => rfl
theorem y3G {t : TypeId} {v : Sv} {f : Nat} {k : Sv → Prop} (ha : ∀ r ∈ z1b v, vA s'.ar r = vA s.ar r) : kFieldAddr P t s' v f k = kFieldAddr P t s v f k := by
  cases v with
  | ref r g off => simp [kFieldAddr, y2O (ha r (by simp [z1b]))]
  | rref r g m i off => simp [kFieldAddr, y2O (ha r (by simp [z1b]))]
  | _ => rfl
theorem y3H {t : TypeId} {v i : Sv} {k : Sv → Prop} (ha : ∀ r ∈ z1b v, vA s'.ar r = vA s.ar r) : kIndexAddr P t s' v i k = kIndexAddr P t s v i k := by
  cases v with
  | row r g => simp [kIndexAddr, z3p (ha r (by simp [z1b]))]
  | ref r g off => simp [kIndexAddr, z3p (ha r (by simp [z1b]))]
  | _ => rfl
theorem v0u {t : TypeId} {v : Sv} {k : Sv → Prop} (ha : ∀ r ∈ z1b v, vA s'.ar r = vA s.ar r) : kLen P t s' v k = kLen P t s v k := by
  unfold kLen
  split
  · cases v with
    | row r g => simp [z3p (ha r (by simp [z1b]))]
    | _ => rfl
  · rfl
  · rfl
theorem y3h {dst : Option Nat} {rs : List Sv} {h : Option H} (hn : s'.n = s.n) (hd : ∀ d, dst = some d → vA s'.ar d = vA s.ar d) : z6m s' dst rs h = z6m s dst rs h := by
  funext k
  unfold z6m
  split
  · rw [z3g hn hd]
  · rw [uJ hn]
  · rw [uJ hn]
theorem y8L {c : Cx} {dst : Option Nat} {f : FuncId} {vs : List Sv} (hn : s'.n = s.n) (hd : ∀ d, dst = some d → vA s'.ar d = vA s.ar d) (hh : c.pur f = false → s'.h = s.h) : y5z c s' dst f vs = y5z c s dst f vs := by
  funext k
  unfold y5z
  cases hp : c.pur f with
  | true => simp only [y3h hn hd]; rfl
  | false => simp only [y3h hn hd, hh hp]
theorem y7V {t : TypeId} {dst : Option Nat} {v : Sv} {lo hi mx : Option Sv} {k : gU → Prop} (hn : s'.n = s.n) (hd : ∀ d, dst = some d → vA s'.ar d = vA s.ar d) (ha : ∀ r ∈ z1b v, vA s'.ar r = vA s.ar r) :
    y3f P t s' dst v lo hi mx k = y3f P t s dst v lo hi mx k := by
  unfold y3f
  split
  · simp only [uJ hn]
  · have h2 : ∀ xs, y6v s' dst lo hi xs k = y6v s dst lo hi xs k := fun xs => by simp only [y6v, uJ hn]
    have h3 : ∀ n xs, y6w n s' dst lo hi mx xs k = y6w n s dst lo hi mx xs k := fun n xs => by simp only [y6w, z3g hn hd]
    simp only [h2, h3]
  · cases v with
    | ref r g off =>
      cases mx <;> cases hi <;> first | rfl | simp only [z3p (ha r (by simp [z1b])), uJ hn]
    | _ => rfl
  · rfl
theorem y6r {t : TypeId} {dst : Option Nat} {v x : Sv} {k : gU → Prop} (hn : s'.n = s.n) (hd : ∀ d, dst = some d → vA s'.ar d = vA s.ar d) (ha : ∀ r ∈ z1b v, vA s'.ar r = vA s.ar r) (hh : s'.h = s.h ∧ s'.hv = s.hv) :
    y0t P t s' dst v x k = y0t P t s dst v x k := by
  cases v with
  | right r g n xs => simp only [y0t, z3p (ha r (by simp [z1b])), z3g hn hd, y4V hn, hh.1, hh.2]
  | _ => simp only [y0t, z3g hn hd, y4V hn, hh.1, hh.2]
theorem y1Z (ps : List (Nat × Nat × Option Ob)) {a b : List (Nat × Nat × Option Ob)} {r : Nat} (h : vA a r = vA b r) : vA (ps ++ a) r = vA (ps ++ b) r := by
  induction ps with
  | nil => exact h
  | cons x ps ih =>
    obtain ⟨j, v⟩ := x
    rw [List.cons_append, List.cons_append, yV, yV, ih]
theorem z8H : ∀ {vs : List Sv} {s s' : St} {G G' : List (Nat × Nat × Option Ob) → List Sv → Prop}, (∀ r ∈ z5Y vs, vA s'.ar r = vA s.ar r) → (∀ ps us, (∀ x ∈ z5Y us, x ∈ z5Y vs) → G' ps us = G ps us) → v0t s' vs G' = v0t s vs G
  | [], s, s', G, G', _, h => h [] [] (fun _ h => h)
  | v :: r, s, s', G, G', ha, h => by
    have har : ∀ x ∈ z5Y r, vA s'.ar x = vA s.ar x := fun x hx => ha x (List.mem_append_right _ hx)
    by_cases hrow : ∃ a g, v = .row a g
    · obtain ⟨a, g, rfl⟩ := hrow
      have ho : s'.ob a g = s.ob a g := z3p (ha a (by simp [z5Y, z1b])) g
      show kOpt (s'.ob a g) _ = kOpt (s.ob a g) _
      rw [ho]
      congr 1
      funext ob
      cases ob with
      | row n xs =>
        refine z8H (fun x hx => y1Z [(a, g, none)] (har x hx)) (fun ps us hu => h _ _ fun x hx => ?_)
        simp only [z5Y, List.flatMap_cons, z1b, List.nil_append] at hx
        exact List.mem_append_right _ (hu x hx)
      | _ => rfl
    · have e : ∀ (s : St) (G : List (Nat × Nat × Option Ob) → List Sv → Prop), v0t s (v :: r) G = v0t s r fun ps us => G ps (v :: us) := fun s G => by
        cases v with
        | row a g => exact absurd ⟨a, g, rfl⟩ hrow
        | _ => rfl
      rw [e, e]
      refine z8H har (fun ps us hu => h _ _ fun x hx => ?_)
      simp only [z5Y, List.flatMap_cons] at hx ⊢
      rcases List.mem_append.1 hx with hx | hx
      · exact List.mem_append_left _ hx
      · exact List.mem_append_right _ (hu x hx)
theorem y6x {t : TypeId} {a v : Sv} {k : gU → Prop} (ha : ∀ r ∈ z1b a, vA s'.ar r = vA s.ar r) (hv : ∀ r ∈ z1b v, vA s'.ar r = vA s.ar r) (hh : s'.h = s.h) : y4H P t s' a v k = y4H P t s a v k := by
  refine z8H (fun r hr => hv r (by simpa [z5Y] using hr)) fun ps us hu => ?_
  split
  · rename_i y
    exact y7W (fun r hr => y1Z ps (ha r hr)) (fun r hr => y1Z ps (hv r (by simpa [z5Y] using hu r (by simpa [z5Y] using hr)))) hh
  · rfl
theorem y7S {c : Cx} {dst : Option Nat} {f : FuncId} {first vs cap : List Sv} {k : gU → Prop} (hn : s'.n = s.n) (hd : ∀ d, dst = some d → vA s'.ar d = vA s.ar d) (hv : ∀ r ∈ z5Y vs, vA s'.ar r = vA s.ar r) (hh : c.pur f = false → s'.h = s.h) :
    y7R c s' dst f first vs cap k = y7R c s dst f first vs cap k :=
  z8H hv fun ps us _ => by rw [y8L (s := s.app ⟨[], ps, none⟩) (s' := s'.app ⟨[], ps, none⟩) hn (fun d h => y1Z ps (hd d h)) hh]
structure Agree (f : FP) (s s' : St) : Prop where
  n : s'.n = s.n
  get : ∀ i ∈ f.rs, s'.get i = s.get i
  ar : ∀ k ∈ f.ra, vA s'.ar k = vA s.ar k
  h : f.rh = true → s'.h = s.h ∧ s'.hv = s.hv
  d : f.rd = true → s'.h = s.h
theorem y5E {c : Cx} {ops : Array Oper} {o : Oper} (A : Agree (y1T c ops o s) s s') (k : gU → Prop) : y7J c o s' k = y7J c o s k := by
  have hop : ∀ x ∈ o.op.operands.toList, opv s' x = opv s x := fun x hx => by
    cases x with
    | tmp t => exact A.get t (by simp only [y1T]; exact List.mem_append_left _ (List.mem_filterMap.2 ⟨_, hx, rfl⟩))
    | _ => rfl
  have hn := A.n
  have hd : ∀ d, o.dst = some d → vA s'.ar d = vA s.ar d := fun d h => A.ar d (by simp [y1T, h])
  have ha : ∀ x ∈ o.op.operands.toList, ∀ r ∈ z1b (opv s x), vA s'.ar r = vA s.ar r := fun x hx r hr => A.ar r (by simp only [y1T]; exact z6Q hx hr)
  have hh : v1J o = true → ∀ x ∈ o.op.operands.toList, hpS (opv s x) = true → s'.h = s.h := fun hm x hx h => A.d (by simp only [y1T, y6o hx h, hm, Bool.true_and, Bool.true_or])
  have h2 : jN c s o = 2 → s'.h = s.h ∧ s'.hv = s.hv := fun h => A.h (by simp [y1T, h])
  have mapc : ∀ xs : List Operand, (∀ x ∈ xs, x ∈ o.op.operands.toList) → xs.map (opv s') = xs.map (opv s) := fun xs h => List.map_congr_left fun x hx => hop x (h x hx)
  have optc : ∀ x : Option Operand, (∀ y, x = some y → y ∈ o.op.operands.toList) → x.map (opv s') = x.map (opv s) := fun x h => by
    cases x with
    | none => rfl
    | some y => simp [hop y (h y rfl)]
  unfold y7J
  cases ho : o.op with
  | move x => simp only [hop x (by simp [ho, Op.operands]), uJ hn]
  | assign x => simp only [hop x (by simp [ho, Op.operands]), uJ hn]
  | pick x a b => simp only [hop x (by simp [ho, Op.operands]), hop a (by simp [ho, Op.operands]), hop b (by simp [ho, Op.operands]), uJ hn]
  | alloc t =>
    cases hd' : o.dst with
    | none => rfl
    | some d =>
      simp only []
      rw [← hd']
      cases hg : c.glob d with
      | true =>
        have hc : jN c s o = 2 := by simp [jN, ho, hd', hg]
        simp only [y4S hn (h2 hc).1]; rfl
      | false => simp only [z3g hn hd]; rfl
  | box t v =>
    cases hd' : o.dst with
    | none => rfl
    | some d =>
      simp only [hop v (by simp [ho, Op.operands])]
      rw [← hd']
      cases hg : c.glob d with
      | true =>
        have hc : jN c s o = 2 := by simp [jN, ho, hd', hg]
        simp only [y4S hn (h2 hc).1]; rfl
      | false => simp only [z3g hn hd]; rfl
  | build t ps =>
    have : (ps.toList.map fun (i, x) => (i, opv s' x)) = ps.toList.map fun (i, x) => (i, opv s x) := List.map_congr_left fun ⟨i, x⟩ hx => by
      show (i, opv s' x) = (i, opv s x)
      rw [hop x (by simp [ho, Op.operands]; exact ⟨i, by simpa using hx⟩)]
    simp only [this, uJ hn]
  | buildSlice t len ps =>
    have : (ps.toList.map fun (i, x) => (i, opv s' x)) = ps.toList.map fun (i, x) => (i, opv s x) := List.map_congr_left fun ⟨i, x⟩ hx => by
      show (i, opv s' x) = (i, opv s x)
      rw [hop x (by simp [ho, Op.operands]; exact ⟨i, by simpa using hx⟩)]
    simp only [this, z3g hn hd]
  | load t a => simp only [hop a (by simp [ho, Op.operands]), uJ hn, y8M (ha a (by simp [ho, Op.operands])) (hh (by simp [v1J, ho]) a (by simp [ho, Op.operands])) (fun id off hv ⟨cs, n, xs, h1, h2⟩ => (A.h (by
      have hs : v2y s o = false := by simp [v2y, ho, hv, h1, h2]
      have hr : v4k c s o = false := by simp [v4k, ho]
      have hu := y6o (s := s) (o := o) (x := a) (by simp [ho, Op.operands]) (by rw [hv]; rfl)
      simp [y1T, hs, hr, hu, v1J, ho])).2)]
  | store t a v =>
    have hc : jN c s o = 2 := by simp [jN, ho]
    simp only [hop a (by simp [ho, Op.operands]), hop v (by simp [ho, Op.operands]), y6x (ha a (by simp [ho, Op.operands])) (ha v (by simp [ho, Op.operands])) (h2 hc).1]
  | nilCheck x =>
    simp only [hop x (by simp [ho, Op.operands])]
    have := ha x (by simp [ho, Op.operands])
    split
    · simp only [uJ hn]
    · rename_i r g f h
      rw [h] at this
      simp only [uJ hn, y2O (this r (by simp [z1b]))]
    · simp only [uJ hn]
    · simp only [uJ hn]
    · rfl
  | binOp op t x y z => cases op <;> simp only [hop x (by simp [ho, Op.operands]), hop y (by simp [ho, Op.operands]), uJ hn]
  | unOp op t x => cases op <;> simp only [hop x (by simp [ho, Op.operands]), uJ hn]
  | convert src dst x => simp only [hop x (by simp [ho, Op.operands]), uJ hn]
  | makeFunc f first cap =>
    have h1 := mapc first.toList (fun x hx => by simp [ho, Op.operands]; exact .inl (by simpa using hx))
    have h2 := mapc cap.toList (fun x hx => by simp [ho, Op.operands]; exact .inr (by simpa using hx))
    simp only [h1, h2, uJ hn]
  | makeSlice t l m => simp only [hop l (by simp [ho, Op.operands]), hop m (by simp [ho, Op.operands]), z3g hn hd]
  | slice t x lo hi mx =>
    have e1 := optc lo (fun y h => by subst h; simp [ho, Op.operands])
    have e2 := optc hi (fun y h => by subst h; simp [ho, Op.operands])
    have e3 := optc mx (fun y h => by subst h; simp [ho, Op.operands])
    simp only [hop x (by simp [ho, Op.operands]), e1, e2, e3, y7V hn hd (ha x (by simp [ho, Op.operands]))]
  | fieldAddr t x f => simp only [hop x (by simp [ho, Op.operands]), uJ hn, y3G (ha x (by simp [ho, Op.operands]))]
  | field t x f => simp only [hop x (by simp [ho, Op.operands]), uJ hn]
  | indexAddr t x i => simp only [hop x (by simp [ho, Op.operands]), hop i (by simp [ho, Op.operands]), uJ hn, y3H (ha x (by simp [ho, Op.operands]))]
  | index t x i => simp only [hop x (by simp [ho, Op.operands]), hop i (by simp [ho, Op.operands]), uJ hn]
  | extract t i => simp only [hop t (by simp [ho, Op.operands]), uJ hn]
  | call cl =>
    have hargs : ∀ x ∈ cl.args.toList, x ∈ o.op.operands.toList := fun x hx => by simp [ho, Op.operands, Call.operands]; exact .inr (by simpa using hx)
    simp only []
    unfold v1y
    cases hcal : cl.callee with
    | value f =>
      have hf : f ∈ o.op.operands.toList := by simp [ho, Op.operands, Call.operands, hcal]
      simp only [hop f hf, mapc cl.args.toList hargs]
      cases hfv : opv s f with
      | fn g first cap =>
        simp only []
        exact y7S hn hd (fun r hr => by
          obtain ⟨v, hv, hk⟩ := List.mem_flatMap.1 hr
          obtain ⟨x, hx, rfl⟩ := List.mem_map.1 hv
          exact ha x (hargs x hx) r hk) (fun hp => by
            cases hr : c.ro g with
            | false => exact (h2 (by simp [jN, ho, hcal, hfv, hp, hr])).1
            | true => exact A.d (by simp [y1T, v4k, ho, hcal, hfv, hp, hr]))
      | _ => rfl
    | builtin b =>
      cases b with
      | len =>
        simp only []
        split
        · rename_i x t hx ht
          have hm := hargs x (by simp [hx])
          simp only [hop x hm, uJ hn, v0u (ha x hm)]
        · rfl
      | append =>
        have hc : jN c s o = 2 := by simp [jN, ho, hcal]
        simp only []
        split
        · rename_i x y t u hx ht
          have hm := hargs x (by simp [hx])
          simp only [hop x hm, hop y (hargs y (by simp [hx])), y6r hn hd (ha x hm) (h2 hc)]
        · rfl
      | max =>
        simp only []
        split
        · rename_i x y hx
          simp only [hop x (hargs x (by simp [hx])), hop y (hargs y (by simp [hx])), uJ hn]
        · rfl
      | min =>
        simp only []
        split
        · rename_i x y hx
          simp only [hop x (hargs x (by simp [hx])), hop y (hargs y (by simp [hx])), uJ hn]
        · rfl
      | _ => rfl
    | _ => rfl
  | _ => rfl
end
end Nt

