import Derived.Test.YtnbcacfljnooeaaFwV
namespace Nt
open Go
set_option linter.unusedVariables false
set_option linter.unusedSimpArgs false
section
variable {P : Program} {s s' : St}
theorem z6Z (c : Cx) (ops : Array Oper) (o : Oper) (s : St) : At (z0K (z0P c ops o s) s) (z5b c o s) := by
  have hdst : ∀ d, o.dst = some d → d ∈ (z0P c ops o s).ws := fun d hd => by simp [z0P, hd]
  have z1o : ∀ {F : (yB → Prop) → Prop}, At (Wi o.dst [] false) F → At (z0K (z0P c ops o s) s) F := fun h => h.weaken fun p hp => hp.within hdst (by simp) (by simp)
  have hks : ∀ {n : Nat}, zU c s o = n → n ≠ 0 → (z0P c ops o s).wa = (uK o).flatMap (fun i => yO (s.get i)) ++ o.dst.toList := fun h hn => by
    have : Nat.beq (zU c s o) 0 = false := z2f (by omega)
    simp [z0P, this]
  have hdk : ∀ d, o.dst = some d → d ∈ (uK o).flatMap (fun i => yO (s.get i)) ++ o.dst.toList := fun d hd => by simp [hd]
  have fin1 : ∀ {F : (yB → Prop) → Prop} {n : Nat}, zU c s o = n → n ≠ 0 → At (Wi o.dst ((uK o).flatMap (fun i => yO (s.get i)) ++ o.dst.toList) false) F → At (z0K (z0P c ops o s) s) F := fun h hn g =>
    g.weaken fun p hp => hp.within hdst (fun k hk => by rw [hks h hn]; exact hk) (by simp)
  have fin2 : ∀ {F : (yB → Prop) → Prop}, zU c s o = 2 → (z0P c ops o s).wh = true → At (Wi o.dst ((uK o).flatMap (fun i => yO (s.get i)) ++ o.dst.toList) true) F → At (z0K (z0P c ops o s) s) F := fun h hw g =>
    g.weaken fun p hp => hp.within hdst (fun k hk => by rw [hks h (by omega)]; exact hk) (fun _ => hw)
  unfold z5b
  cases ho : o.op with
  | move x => exact z1o yG
  | assign x => exact z1o yG
  | pick x a b => exact z1o (At.brS yG yG)
  | alloc t =>
    refine At.kOpt fun z => At.kIf ?_
    cases hd : o.dst with
    | none => exact At.bot
    | some d =>
      dsimp only
      rw [← hd]
      cases hg : c.glob d with
      | true =>
        have hc : zU c s o = 2 := by simp [zU, ho, hd, hg]
        exact fin2 hc (by simp [z0P, hc, ho]) z3F
      | false =>
        have hc : zU c s o = 1 := by simp [zU, ho, hd, hg]
        show At _ (fun k => match c.P.underlying t with
          | some (.array _ e) => kOpt (vB c.P e) fun n => kIf (Nat.beq n 1) (kOpt (uU z.cells.toList) fun ds => newAr s o.dst (.row 1 ds) (fun d g => .ref d g 0) k)
          | some (.struct _) => match uU z.cells.toList with
            | some ds => newAr s o.dst (.agg (.agg ds)) (fun d g => .ref d g 0) k
            | none => newAr s o.dst (.box (z.cells.toList.map wO)) (fun d g => .ref d g 0) k
          | _ => newAr s o.dst (.box (z.cells.toList.map wO)) (fun d g => .ref d g 0) k)
        split
        · exact At.kOpt fun n => At.kIf (At.kOpt fun ds => fin1 hc (by simp) (vH hdk))
        · split
          · exact fin1 hc (by simp) (vH hdk)
          · exact fin1 hc (by simp) (vH hdk)
        · exact fin1 hc (by simp) (vH hdk)
  | box t v =>
    cases hd : o.dst with
    | none => exact At.bot
    | some d =>
      dsimp only
      rw [← hd]
      cases hg : c.glob d with
      | true =>
        have hc : zU c s o = 2 := by simp [zU, ho, hd, hg]
        simp only [cond_true]
        exact At.cond (At.kOpt fun n => At.kBld fun ws => fin2 hc (by simp [z0P, hc, ho]) z3F) (At.kKeep fun w => fin2 hc (by simp [z0P, hc, ho]) z3F)
      | false =>
        have hc : zU c s o = 1 := by simp [zU, ho, hd, hg]
        simp only [cond_false]
        exact At.cond (At.kOpt fun n => At.kD fun x => At.kWhole (fin1 hc (by simp) (vH hdk))) (At.kKeep fun w => fin1 hc (by simp) (vH hdk))
  | build t ps =>
    dsimp only
    split
    · exact At.kIf (At.kOpt fun z => At.kOpt fun cs => At.kFill fun cs => z1o yG)
    · exact At.bot
  | buildSlice t len ps =>
    have hc : zU c s o = 1 := by simp [zU, ho]
    exact At.kOpt fun e => At.kOpt fun n => At.kOpt fun z => At.kIf (At.kIf (At.kElems fun xs => fin1 hc (by simp) (vH hdk)))
  | load t a => exact At.kLoad fun v => z1o yG
  | store t a v =>
    have hc : zU c s o = 2 := by simp [zU, ho]
    cases hd : o.dst with
    | some d => exact At.bot
    | none =>
      have h := z6w (P := c.P) (s := s) (t := t) (a := opv s a) (v := opv s v) (K := (uK o).flatMap (fun i => yO (s.get i)) ++ o.dst.toList) (b := (uK o).any fun i => z7X (s.get i))
        (fun k hk => jP (by simp [ho, Op.operands]) hk) (fun k hk => jP (by simp [ho, Op.operands]) hk) (fun h => z3R (by simp [ho, Op.operands]) h)
      refine h.weaken fun p hp => hp.within (by simp) (fun k hk => by rw [hks hc (by simp)]; exact hk) (fun h => by simp [z0P, hc, h])
  | nilCheck x =>
    dsimp only
    split <;> first | exact z1o yG | exact At.kIf (z1o yG) | exact At.bot
  | binOp op t x y z =>
    cases op <;> first | exact At.kEqOp fun b => z1o yG | exact At.kD fun a => At.kD fun b => At.kBin fun r => z1o yG
  | unOp op t x =>
    refine At.kD fun a => ?_
    cases op <;> first | exact At.kI fun i n => At.nam fun _ => z1o yG | (cases a <;> first | exact z1o yG | exact At.bot) | exact At.bot
  | convert src dst x =>
    dsimp only
    split
    · exact At.kD fun a => At.kI fun _ n => At.nam fun _ => z1o yG
    · exact At.kD fun a => At.kStr fun u => z1o yG
    · split
      · exact At.kD fun a => At.kSl fun xs => At.toBytes fun u => z1o yG
      · exact At.bot
    · exact At.bot
  | makeFunc f first cap =>
    cases f <;> first | exact At.kArgs fun xs => At.kArgs fun ys => z1o yG | exact At.bot
  | makeSlice t l m =>
    have hc : zU c s o = 1 := by simp [zU, ho]
    exact At.kOpt fun e => At.kOpt fun n => At.kOpt fun b => At.kOpt fun z => At.kD fun lx => At.kI fun _ l => At.kD fun mx => At.kI fun _ m => At.and (At.cond
      (At.kOpt fun ds => At.kIf (At.nam fun _ => fin1 hc (by simp) (vH hdk))) (At.kOpt fun x => At.kIf (At.nam fun _ => fin1 hc (by simp) (vH hdk))))
  | slice t x lo hi mx =>
    have hc : zU c s o = 1 := by simp [zU, ho]
    exact fin1 hc (by simp) (z7a (fun k hk => jP (by simp [ho, Op.operands]) hk) hdk)
  | fieldAddr t x f => exact At.kFieldAddr fun v => z1o yG
  | field t x f => exact At.kField fun v => z1o yG
  | indexAddr t x i => exact At.kIndexAddr fun v => z1o yG
  | index t x i =>
    dsimp only
    split
    · exact At.kIndex fun v => z1o yG
    · exact At.bot
  | extract t i =>
    dsimp only
    split
    · exact At.kOpt fun v => z1o yG
    · exact At.bot
  | call cl =>
    dsimp only
    unfold z7r
    cases hcal : cl.callee with
    | value f =>
      dsimp only
      cases hf : opv s f with
      | fn g first cap =>
        have hkeys : ∀ k ∈ uW (cl.args.toList.map (opv s)), k ∈ (uK o).flatMap (fun i => yO (s.get i)) ++ o.dst.toList := fun k hk => by
          obtain ⟨v, hv, hk⟩ := List.mem_flatMap.1 hk
          obtain ⟨x, hx, rfl⟩ := List.mem_map.1 hv
          exact jP (by simp [ho, Op.operands, Call.operands]; exact .inr (by simpa using hx)) hk
        cases hp : c.pur g with
        | true =>
          have hc : zU c s o = 1 := by simp [zU, ho, hcal, hf, hp]
          exact fin1 hc (by simp) (z4N hdk hkeys (by simp [hp]))
        | false =>
          cases hr : c.ro g with
          | true =>
            have hc : zU c s o = 1 := by simp [zU, ho, hcal, hf, hp, hr]
            have hro : z8B c s o = true := by simp [z8B, ho, hcal, hf, hp, hr]
            exact (z4O (s := s) hdk hkeys hp hr).weaken fun p q => ⟨fun x hx => hdst _ (q.1.1 x hx), fun x hx => by rw [hks hc (by simp)]; exact q.1.2.1 x hx, fun _ => .inr ⟨by simp [z0P, hro], q.2⟩⟩
          | false =>
          have hc : zU c s o = 2 := by simp [zU, ho, hcal, hf, hp, hr]
          refine fin2 hc ?_ (z4N hdk hkeys (by simp))
          simp only [z0P, hc, ho]
          cases cl
          simp at hcal
          simp [hcal]
      | _ => exact At.bot
    | builtin b =>
      cases b with
      | len =>
        dsimp only
        split
        · exact At.kLen fun v => z1o yG
        · exact At.bot
      | append =>
        have hc : zU c s o = 2 := by simp [zU, ho, hcal]
        dsimp only
        split
        · rename_i x y t u hx ht
          split
          · have hmem : x ∈ o.op.operands.toList := by simp [ho, Op.operands, Call.operands, hx]
            have h := z6v (P := c.P) (s := s) (t := t) (dst := o.dst) (v := opv s x) (x := opv s y) (K := (uK o).flatMap (fun i => yO (s.get i)) ++ o.dst.toList) (b := (uK o).any fun i => z7X (s.get i))
              hdk (fun k hk => jP hmem hk) (fun h => z3R hmem h)
            exact h.weaken fun p hp => hp.within hdst (fun k hk => by rw [hks hc (by simp)]; exact hk) (fun h => by simp [z0P, hc, h])
          · exact At.bot
        · exact At.bot
      | max =>
        dsimp only
        split
        · exact At.kD fun a => At.kD fun b => At.kI fun _ _ => At.kI fun _ _ => At.kIf (At.nam fun _ => z1o yG)
        · exact At.bot
      | min =>
        dsimp only
        split
        · exact At.kD fun a => At.kD fun b => At.kI fun _ _ => At.kI fun _ _ => At.kIf (At.nam fun _ => z1o yG)
        · exact At.bot
      | _ => exact At.bot
    | _ => exact At.bot
  | _ => exact At.bot
theorem vY {r : Nat} (h : zG s'.ar r = zG s.ar r) (g : Nat) : s'.ob r g = s.ob r g := by simp [St.ob, h]
theorem z5g {r : Nat} (h : zG s'.ar r = zG s.ar r) : s'.gen r = s.gen r := by simp [St.gen, h]
theorem z1q {r : Nat} (h : zG s'.ar r = zG s.ar r) (g : Nat) : s'.live r g = s.live r g := by simp [St.live, vY h]
theorem zP {dst : Option Nat} {v : Sv} (hn : s'.n = s.n) : jW s' dst v = jW s dst v := by funext k; cases dst <;> simp [jW, hn]
theorem vM {dst : Option Nat} {ob : Ob} {v : Nat → Nat → Sv} (hn : s'.n = s.n) (hd : ∀ d, dst = some d → zG s'.ar d = zG s.ar d) : newAr s' dst ob v = newAr s dst ob v := by
  funext k
  cases dst with
  | none => rfl
  | some d => simp [newAr, hn, z5g (hd d rfl)]
theorem z2E {dst : Option Nat} {r g : Nat} {ob : Ob} {v : Sv} (hn : s'.n = s.n) : z7B s' dst r g ob v = z7B s dst r g ob v := by funext k; cases dst <;> simp [z7B, hn]
theorem z2B {dst : Option Nat} {cs : List Sv} (hn : s'.n = s.n) (hh : s'.h = s.h) : newHp s' dst cs = newHp s dst cs := by funext k; cases dst <;> simp [newHp, hn, hh]
theorem z5H {t : TypeId} {v : Sv} {k : Sv → Prop} (ha : ∀ r ∈ yO v, zG s'.ar r = zG s.ar r) (hh : hpS v = true → s'.h = s.h) (hw : ∀ id off, v = .hp id off → (∃ cs n xs, s.h[id]? = some cs ∧ cs[off]? = some (.own n xs)) → s'.hv = s.hv) : kLoad P t s' v k = kLoad P t s v k := by
  cases v with
  | ref r g off => simp [kLoad, vY (ha r (by simp [yO]))]
  | rref r g m i off => simp [kLoad, vY (ha r (by simp [yO]))]
  | hp id off =>
    have h1 := hh rfl
    simp only [kLoad, h1]
    cases hc : s.h[id]? with
    | none => rfl
    | some cs =>
      have hl : ∀ v, cs[off]? = some v → z1E id off s'.hv v = z1E id off s.hv v := fun v hv => by
        cases v with
        | own n xs => simp [z1E, hw id off rfl ⟨cs, n, xs, hc, hv⟩]
        | _ => rfl
      have : ∀ n, kBoxT P t n cs off (z1E id off s'.hv) k = kBoxT P t n cs off (z1E id off s.hv) k := fun n => by
        unfold kBoxT
        congr 1
        cases hv : cs[off]? with
        | none => rfl
        | some v => show k _ = k _; rw [hl v hv]
      show (kOpt (vB P t) fun n => kBoxT P t n cs off (z1E id off s'.hv) k) = kOpt (vB P t) fun n => kBoxT P t n cs off (z1E id off s.hv) k
      simp only [this]
  | _ => rfl
theorem z5o {t : TypeId} {a v : Sv} {k : yB → Prop} (ha : ∀ r ∈ yO a, zG s'.ar r = zG s.ar r) (hv : ∀ r ∈ yO v, zG s'.ar r = zG s.ar r) (hh : s'.h = s.h) : z0v P t s' a v k = z0v P t s a v k := by
  cases a with
  | ref r g off => simp [z0v, vY (ha r (by simp [yO]))]
  | rref r g m i off => simp [z0v, vY (ha r (by simp [yO]))]
  | hp id off =>
    cases v with
    | right r g m xs => simp [z0v, hh, vY (hv r (by simp [yO]))]
    | _ => simp [z0v, hh]
  | _ => rfl
theorem z1Q {t : TypeId} {v : Sv} {f : Nat} {k : Sv → Prop} (ha : ∀ r ∈ yO v, zG s'.ar r = zG s.ar r) : kFieldAddr P t s' v f k = kFieldAddr P t s v f k := by
  cases v with
  | ref r g off => simp [kFieldAddr, z1q (ha r (by simp [yO]))]
  | rref r g m i off => simp [kFieldAddr, z1q (ha r (by simp [yO]))]
  | _ => rfl
theorem z1R {t : TypeId} {v i : Sv} {k : Sv → Prop} (ha : ∀ r ∈ yO v, zG s'.ar r = zG s.ar r) : kIndexAddr P t s' v i k = kIndexAddr P t s v i k := by
  cases v with
  | row r g => simp [kIndexAddr, vY (ha r (by simp [yO]))]
  | ref r g off => simp [kIndexAddr, vY (ha r (by simp [yO]))]
  | _ => rfl
theorem z6K {t : TypeId} {v : Sv} {k : Sv → Prop} (ha : ∀ r ∈ yO v, zG s'.ar r = zG s.ar r) : kLen P t s' v k = kLen P t s v k := by
  unfold kLen
  split
  · cases v with
    | row r g => simp [vY (ha r (by simp [yO]))]
    | _ => rfl
  · rfl
  · rfl
theorem z1F {dst : Option Nat} {rs : List Sv} {h : Option H} (hn : s'.n = s.n) (hd : ∀ d, dst = some d → zG s'.ar d = zG s.ar d) : jJ s' dst rs h = jJ s dst rs h := by
  funext k
  unfold jJ
  split
  · rw [vM hn hd]
  · rw [zP hn]
  · rw [zP hn]
theorem z5G {c : Cx} {dst : Option Nat} {f : FuncId} {vs : List Sv} (hn : s'.n = s.n) (hd : ∀ d, dst = some d → zG s'.ar d = zG s.ar d) (hh : c.pur f = false → s'.h = s.h) : z3c c s' dst f vs = z3c c s dst f vs := by
  funext k
  unfold z3c
  cases hp : c.pur f with
  | true => simp only [z1F hn hd]; rfl
  | false => simp only [z1F hn hd, hh hp]
theorem z5n {t : TypeId} {dst : Option Nat} {v : Sv} {lo hi mx : Option Sv} {k : yB → Prop} (hn : s'.n = s.n) (hd : ∀ d, dst = some d → zG s'.ar d = zG s.ar d) (ha : ∀ r ∈ yO v, zG s'.ar r = zG s.ar r) :
    z1D P t s' dst v lo hi mx k = z1D P t s dst v lo hi mx k := by
  unfold z1D
  split
  · simp only [zP hn]
  · have h2 : ∀ xs, z3Y s' dst lo hi xs k = z3Y s dst lo hi xs k := fun xs => by simp only [z3Y, zP hn]
    have h3 : ∀ n xs, z3Z n s' dst lo hi mx xs k = z3Z n s dst lo hi mx xs k := fun n xs => by simp only [z3Z, vM hn hd]
    simp only [h2, h3]
  · cases v with
    | ref r g off =>
      cases mx <;> cases hi <;> first | rfl | simp only [vY (ha r (by simp [yO])), zP hn]
    | _ => rfl
  · rfl
theorem z3U {t : TypeId} {dst : Option Nat} {v x : Sv} {k : yB → Prop} (hn : s'.n = s.n) (hd : ∀ d, dst = some d → zG s'.ar d = zG s.ar d) (ha : ∀ r ∈ yO v, zG s'.ar r = zG s.ar r) (hh : s'.h = s.h ∧ s'.hv = s.hv) :
    z0D P t s' dst v x k = z0D P t s dst v x k := by
  cases v with
  | right r g n xs => simp only [z0D, vY (ha r (by simp [yO])), vM hn hd, z2E hn, hh.1, hh.2]
  | _ => simp only [z0D, vM hn hd, z2E hn, hh.1, hh.2]
theorem z0U (ps : List (Nat × Nat × Option Ob)) {a b : List (Nat × Nat × Option Ob)} {r : Nat} (h : zG a r = zG b r) : zG (ps ++ a) r = zG (ps ++ b) r := by
  induction ps with
  | nil => exact h
  | cons x ps ih =>
    obtain ⟨j, v⟩ := x
    rw [List.cons_append, List.cons_append, zF, zF, ih]
theorem z0j : ∀ {vs : List Sv} {s s' : St} {G G' : List (Nat × Nat × Option Ob) → List Sv → Prop}, (∀ r ∈ uW vs, zG s'.ar r = zG s.ar r) → (∀ ps us, (∀ x ∈ uW us, x ∈ uW vs) → G' ps us = G ps us) → z6J s' vs G' = z6J s vs G
  | [], s, s', G, G', _, h => h [] [] (fun _ h => h)
  | v :: r, s, s', G, G', ha, h => by
    have har : ∀ x ∈ uW r, zG s'.ar x = zG s.ar x := fun x hx => ha x (List.mem_append_right _ hx)
    by_cases hrow : ∃ a g, v = .row a g
    · obtain ⟨a, g, rfl⟩ := hrow
      have ho : s'.ob a g = s.ob a g := vY (ha a (by simp [uW, yO])) g
      show kOpt (s'.ob a g) _ = kOpt (s.ob a g) _
      rw [ho]
      congr 1
      funext ob
      cases ob with
      | row n xs =>
        refine z0j (fun x hx => z0U [(a, g, none)] (har x hx)) (fun ps us hu => h _ _ fun x hx => ?_)
        simp only [uW, List.flatMap_cons, yO, List.nil_append] at hx
        exact List.mem_append_right _ (hu x hx)
      | _ => rfl
    · have e : ∀ (s : St) (G : List (Nat × Nat × Option Ob) → List Sv → Prop), z6J s (v :: r) G = z6J s r fun ps us => G ps (v :: us) := fun s G => by
        cases v with
        | row a g => exact absurd ⟨a, g, rfl⟩ hrow
        | _ => rfl
      rw [e, e]
      refine z0j har (fun ps us hu => h _ _ fun x hx => ?_)
      simp only [uW, List.flatMap_cons] at hx ⊢
      rcases List.mem_append.1 hx with hx | hx
      · exact List.mem_append_left _ hx
      · exact List.mem_append_right _ (hu x hx)
theorem z4a {t : TypeId} {a v : Sv} {k : yB → Prop} (ha : ∀ r ∈ yO a, zG s'.ar r = zG s.ar r) (hv : ∀ r ∈ yO v, zG s'.ar r = zG s.ar r) (hh : s'.h = s.h) : z2u P t s' a v k = z2u P t s a v k := by
  refine z0j (fun r hr => hv r (by simpa [uW] using hr)) fun ps us hu => ?_
  split
  · rename_i y
    exact z5o (fun r hr => z0U ps (ha r hr)) (fun r hr => z0U ps (hv r (by simpa [uW] using hu r (by simpa [uW] using hr)))) hh
  · rfl
theorem z5k {c : Cx} {dst : Option Nat} {f : FuncId} {first vs cap : List Sv} {k : yB → Prop} (hn : s'.n = s.n) (hd : ∀ d, dst = some d → zG s'.ar d = zG s.ar d) (hv : ∀ r ∈ uW vs, zG s'.ar r = zG s.ar r) (hh : c.pur f = false → s'.h = s.h) :
    z5j c s' dst f first vs cap k = z5j c s dst f first vs cap k :=
  z0j hv fun ps us _ => by rw [z5G (s := s.app ⟨[], ps, none⟩) (s' := s'.app ⟨[], ps, none⟩) hn (fun d h => z0U ps (hd d h)) hh]
structure Agree (f : FP) (s s' : St) : Prop where
  n : s'.n = s.n
  get : ∀ i ∈ f.rs, s'.get i = s.get i
  ar : ∀ k ∈ f.ra, zG s'.ar k = zG s.ar k
  h : f.rh = true → s'.h = s.h ∧ s'.hv = s.hv
  d : f.rd = true → s'.h = s.h
theorem z3i {c : Cx} {ops : Array Oper} {o : Oper} (A : Agree (z0P c ops o s) s s') (k : yB → Prop) : z5b c o s' k = z5b c o s k := by
  have hop : ∀ x ∈ o.op.operands.toList, opv s' x = opv s x := fun x hx => by
    cases x with
    | tmp t => exact A.get t (by simp only [z0P]; exact List.mem_append_left _ (List.mem_filterMap.2 ⟨_, hx, rfl⟩))
    | _ => rfl
  have hn := A.n
  have hd : ∀ d, o.dst = some d → zG s'.ar d = zG s.ar d := fun d h => A.ar d (by simp [z0P, h])
  have ha : ∀ x ∈ o.op.operands.toList, ∀ r ∈ yO (opv s x), zG s'.ar r = zG s.ar r := fun x hx r hr => A.ar r (by simp only [z0P]; exact jP hx hr)
  have hh : z7z o = true → ∀ x ∈ o.op.operands.toList, hpS (opv s x) = true → s'.h = s.h := fun hm x hx h => A.d (by simp only [z0P, z3R hx h, hm, Bool.true_and, Bool.true_or])
  have h2 : zU c s o = 2 → s'.h = s.h ∧ s'.hv = s.hv := fun h => A.h (by simp [z0P, h])
  have mapc : ∀ xs : List Operand, (∀ x ∈ xs, x ∈ o.op.operands.toList) → xs.map (opv s') = xs.map (opv s) := fun xs h => List.map_congr_left fun x hx => hop x (h x hx)
  have optc : ∀ x : Option Operand, (∀ y, x = some y → y ∈ o.op.operands.toList) → x.map (opv s') = x.map (opv s) := fun x h => by
    cases x with
    | none => rfl
    | some y => simp [hop y (h y rfl)]
  unfold z5b
  cases ho : o.op with
  | move x => simp only [hop x (by simp [ho, Op.operands]), zP hn]
  | assign x => simp only [hop x (by simp [ho, Op.operands]), zP hn]
  | pick x a b => simp only [hop x (by simp [ho, Op.operands]), hop a (by simp [ho, Op.operands]), hop b (by simp [ho, Op.operands]), zP hn]
  | alloc t =>
    cases hd' : o.dst with
    | none => rfl
    | some d =>
      simp only []
      rw [← hd']
      cases hg : c.glob d with
      | true =>
        have hc : zU c s o = 2 := by simp [zU, ho, hd', hg]
        simp only [z2B hn (h2 hc).1]; rfl
      | false => simp only [vM hn hd]; rfl
  | box t v =>
    cases hd' : o.dst with
    | none => rfl
    | some d =>
      simp only [hop v (by simp [ho, Op.operands])]
      rw [← hd']
      cases hg : c.glob d with
      | true =>
        have hc : zU c s o = 2 := by simp [zU, ho, hd', hg]
        simp only [z2B hn (h2 hc).1]; rfl
      | false => simp only [vM hn hd]; rfl
  | build t ps =>
    have : (ps.toList.map fun (i, x) => (i, opv s' x)) = ps.toList.map fun (i, x) => (i, opv s x) := List.map_congr_left fun ⟨i, x⟩ hx => by
      show (i, opv s' x) = (i, opv s x)
      rw [hop x (by simp [ho, Op.operands]; exact ⟨i, by simpa using hx⟩)]
    simp only [this, zP hn]
  | buildSlice t len ps =>
    have : (ps.toList.map fun (i, x) => (i, opv s' x)) = ps.toList.map fun (i, x) => (i, opv s x) := List.map_congr_left fun ⟨i, x⟩ hx => by
      show (i, opv s' x) = (i, opv s x)
      rw [hop x (by simp [ho, Op.operands]; exact ⟨i, by simpa using hx⟩)]
    simp only [this, vM hn hd]
  | load t a => simp only [hop a (by simp [ho, Op.operands]), zP hn, z5H (ha a (by simp [ho, Op.operands])) (hh (by simp [z7z, ho]) a (by simp [ho, Op.operands])) (fun id off hv ⟨cs, n, xs, h1, h2⟩ => (A.h (by
      have hs : z7N s o = false := by simp [z7N, ho, hv, h1, h2]
      have hr : z8B c s o = false := by simp [z8B, ho]
      have hu := z3R (s := s) (o := o) (x := a) (by simp [ho, Op.operands]) (by rw [hv]; rfl)
      simp [z0P, hs, hr, hu, z7z, ho])).2)]
  | store t a v =>
    have hc : zU c s o = 2 := by simp [zU, ho]
    simp only [hop a (by simp [ho, Op.operands]), hop v (by simp [ho, Op.operands]), z4a (ha a (by simp [ho, Op.operands])) (ha v (by simp [ho, Op.operands])) (h2 hc).1]
  | nilCheck x =>
    simp only [hop x (by simp [ho, Op.operands])]
    have := ha x (by simp [ho, Op.operands])
    split
    · simp only [zP hn]
    · rename_i r g f h
      rw [h] at this
      simp only [zP hn, z1q (this r (by simp [yO]))]
    · simp only [zP hn]
    · simp only [zP hn]
    · rfl
  | binOp op t x y z => cases op <;> simp only [hop x (by simp [ho, Op.operands]), hop y (by simp [ho, Op.operands]), zP hn]
  | unOp op t x => cases op <;> simp only [hop x (by simp [ho, Op.operands]), zP hn]
  | convert src dst x => simp only [hop x (by simp [ho, Op.operands]), zP hn]
  | makeFunc f first cap =>
    have h1 := mapc first.toList (fun x hx => by simp [ho, Op.operands]; exact .inl (by simpa using hx))
    have h2 := mapc cap.toList (fun x hx => by simp [ho, Op.operands]; exact .inr (by simpa using hx))
    simp only [h1, h2, zP hn]
  | makeSlice t l m => simp only [hop l (by simp [ho, Op.operands]), hop m (by simp [ho, Op.operands]), vM hn hd]
  | slice t x lo hi mx =>
    have e1 := optc lo (fun y h => by subst h; simp [ho, Op.operands])
    have e2 := optc hi (fun y h => by subst h; simp [ho, Op.operands])
    have e3 := optc mx (fun y h => by subst h; simp [ho, Op.operands])
    simp only [hop x (by simp [ho, Op.operands]), e1, e2, e3, z5n hn hd (ha x (by simp [ho, Op.operands]))]
  | fieldAddr t x f => simp only [hop x (by simp [ho, Op.operands]), zP hn, z1Q (ha x (by simp [ho, Op.operands]))]
  | field t x f => simp only [hop x (by simp [ho, Op.operands]), zP hn]
  | indexAddr t x i => simp only [hop x (by simp [ho, Op.operands]), hop i (by simp [ho, Op.operands]), zP hn, z1R (ha x (by simp [ho, Op.operands]))]
  | index t x i => simp only [hop x (by simp [ho, Op.operands]), hop i (by simp [ho, Op.operands]), zP hn]
  | extract t i => simp only [hop t (by simp [ho, Op.operands]), zP hn]
  | call cl =>
    have hargs : ∀ x ∈ cl.args.toList, x ∈ o.op.operands.toList := fun x hx => by simp [ho, Op.operands, Call.operands]; exact .inr (by simpa using hx)
    simp only []
    unfold z7r
    cases hcal : cl.callee with
    | value f =>
      have hf : f ∈ o.op.operands.toList := by simp [ho, Op.operands, Call.operands, hcal]
      simp only [hop f hf, mapc cl.args.toList hargs]
      cases hfv : opv s f with
      | fn g first cap =>
        simp only []
        exact z5k hn hd (fun r hr => by
          obtain ⟨v, hv, hk⟩ := List.mem_flatMap.1 hr
          obtain ⟨x, hx, rfl⟩ := List.mem_map.1 hv
          exact ha x (hargs x hx) r hk) (fun hp => by
            cases hr : c.ro g with
            | false => exact (h2 (by simp [zU, ho, hcal, hfv, hp, hr])).1
            | true => exact A.d (by simp [z0P, z8B, ho, hcal, hfv, hp, hr]))
      | _ => rfl
    | builtin b =>
      cases b with
      | len =>
        simp only []
        split
        · rename_i x t hx ht
          have hm := hargs x (by simp [hx])
          simp only [hop x hm, zP hn, z6K (ha x hm)]
        · rfl
      | append =>
        have hc : zU c s o = 2 := by simp [zU, ho, hcal]
        simp only []
        split
        · rename_i x y t u hx ht
          have hm := hargs x (by simp [hx])
          simp only [hop x hm, hop y (hargs y (by simp [hx])), z3U hn hd (ha x hm) (h2 hc)]
        · rfl
      | max =>
        simp only []
        split
        · rename_i x y hx
          simp only [hop x (hargs x (by simp [hx])), hop y (hargs y (by simp [hx])), zP hn]
        · rfl
      | min =>
        simp only []
        split
        · rename_i x y hx
          simp only [hop x (hargs x (by simp [hx])), hop y (hargs y (by simp [hx])), zP hn]
        · rfl
      | _ => rfl
    | _ => rfl
  | _ => rfl
end
end Nt

