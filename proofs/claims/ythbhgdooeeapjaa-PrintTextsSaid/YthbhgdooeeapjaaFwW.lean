import Derived.Test.YthbhgdooeeapjaaFwV
namespace Nt
open Go
set_option linter.unusedVariables false
set_option linter.unusedSimpArgs false
section
variable {P : Program} {s s' : St}
theorem y9m (c : Cx) (ops : Array Oper) (o : Oper) (s : St) : At (z8y (z8F c ops o s) s) (y5A c o s) := by
  have hdst : ∀ d, o.dst = some d → d ∈ (z8F c ops o s).ws := fun d hd => by simp [z8F, hd]
  have z9m : ∀ {F : (uO → Prop) → Prop}, At (Wi o.dst [] false) F → At (z8y (z8F c ops o s) s) F := fun h => h.weaken fun p hp => hp.within hdst (by simp) (by simp)
  have hks : ∀ {n : Nat}, uA c s o = n → n ≠ 0 → (z8F c ops o s).wa = (z3s o).flatMap (fun i => gB (s.get i)) ++ o.dst.toList := fun h hn => by
    have : Nat.beq (uA c s o) 0 = false := y1g (by omega)
    simp [z8F, this]
  have hdk : ∀ d, o.dst = some d → d ∈ (z3s o).flatMap (fun i => gB (s.get i)) ++ o.dst.toList := fun d hd => by simp [hd]
  have fin1 : ∀ {F : (uO → Prop) → Prop} {n : Nat}, uA c s o = n → n ≠ 0 → At (Wi o.dst ((z3s o).flatMap (fun i => gB (s.get i)) ++ o.dst.toList) false) F → At (z8y (z8F c ops o s) s) F := fun h hn g =>
    g.weaken fun p hp => hp.within hdst (fun k hk => by rw [hks h hn]; exact hk) (by simp)
  have fin2 : ∀ {F : (uO → Prop) → Prop}, uA c s o = 2 → (z8F c ops o s).wh = true → At (Wi o.dst ((z3s o).flatMap (fun i => gB (s.get i)) ++ o.dst.toList) true) F → At (z8y (z8F c ops o s) s) F := fun h hw g =>
    g.weaken fun p hp => hp.within hdst (fun k hk => by rw [hks h (by omega)]; exact hk) (fun _ => hw)
  unfold y5A
  cases ho : o.op with
  | move x => exact z9m uX
  | assign x => exact z9m uX
  | pick x a b => exact z9m (At.brS uX uX)
  | alloc t =>
    refine At.kOpt fun z => At.kIf ?_
    cases hd : o.dst with
    | none => exact At.bot
    | some d =>
      dsimp only
      rw [← hd]
      cases hg : c.glob d with
      | true =>
        have hc : uA c s o = 2 := by simp [uA, ho, hd, hg]
        exact fin2 hc (by simp [z8F, hc, ho]) y3w
      | false =>
        have hc : uA c s o = 1 := by simp [uA, ho, hd, hg]
        show At _ (fun k => match c.P.underlying t with
          | some (.array _ e) => kOpt (z0D c.P e) fun n => kIf (Nat.beq n 1) (kOpt (z4b z.cells.toList) fun ds => newAr s o.dst (.row 1 ds) (fun d g => .ref d g 0) k)
          | some (.struct _) => match z4b z.cells.toList with
            | some ds => newAr s o.dst (.agg (.agg ds)) (fun d g => .ref d g 0) k
            | none => newAr s o.dst (.box (z.cells.toList.map z2x)) (fun d g => .ref d g 0) k
          | _ => newAr s o.dst (.box (z.cells.toList.map z2x)) (fun d g => .ref d g 0) k)
        split
        · exact At.kOpt fun n => At.kIf (At.kOpt fun ds => fin1 hc (by simp) (z1h hdk))
        · split
          · exact fin1 hc (by simp) (z1h hdk)
          · exact fin1 hc (by simp) (z1h hdk)
        · exact fin1 hc (by simp) (z1h hdk)
  | box t v =>
    cases hd : o.dst with
    | none => exact At.bot
    | some d =>
      dsimp only
      rw [← hd]
      cases hg : c.glob d with
      | true =>
        have hc : uA c s o = 2 := by simp [uA, ho, hd, hg]
        simp only [cond_true]
        exact At.cond (At.kOpt fun n => At.kBld fun ws => fin2 hc (by simp [z8F, hc, ho]) y3w) (At.kKeep fun w => fin2 hc (by simp [z8F, hc, ho]) y3w)
      | false =>
        have hc : uA c s o = 1 := by simp [uA, ho, hd, hg]
        simp only [cond_false]
        exact At.cond (At.kOpt fun n => At.kD fun x => At.kWhole (fin1 hc (by simp) (z1h hdk))) (At.kKeep fun w => fin1 hc (by simp) (z1h hdk))
  | build t ps =>
    dsimp only
    split
    · exact At.kIf (At.kOpt fun z => At.kOpt fun cs => At.kFill fun cs => z9m uX)
    · exact At.bot
  | buildSlice t len ps =>
    have hc : uA c s o = 1 := by simp [uA, ho]
    exact At.kOpt fun e => At.kOpt fun n => At.kOpt fun z => At.kIf (At.kIf (At.kElems fun xs => fin1 hc (by simp) (z1h hdk)))
  | load t a => exact At.kLoad fun v => z9m uX
  | store t a v =>
    have hc : uA c s o = 2 := by simp [uA, ho]
    cases hd : o.dst with
    | some d => exact At.bot
    | none =>
      have h := y8o (P := c.P) (s := s) (t := t) (a := opv s a) (v := opv s v) (K := (z3s o).flatMap (fun i => gB (s.get i)) ++ o.dst.toList) (b := (z3s o).any fun i => v0T (s.get i))
        (fun k hk => z4F (by simp [ho, Op.operands]) hk) (fun k hk => z4F (by simp [ho, Op.operands]) hk) (fun h => y3U (by simp [ho, Op.operands]) h)
      refine h.weaken fun p hp => hp.within (by simp) (fun k hk => by rw [hks hc (by simp)]; exact hk) (fun h => by simp [z8F, hc, h])
  | nilCheck x =>
    dsimp only
    split <;> first | exact z9m uX | exact At.kIf (z9m uX) | exact At.bot
  | binOp op t x y z =>
    cases op <;> first | exact At.kEqOp fun b => z9m uX | exact At.kD fun a => At.kD fun b => At.kBin fun r => z9m uX
  | unOp op t x =>
    refine At.kD fun a => ?_
    cases op <;> first | exact At.kI fun i n => At.nam fun _ => z9m uX | (cases a <;> first | exact z9m uX | exact At.bot) | exact At.bot
  | convert src dst x =>
    dsimp only
    split
    · exact At.kD fun a => At.kI fun _ n => At.nam fun _ => z9m uX
    · exact At.kD fun a => At.kStr fun u => z9m uX
    · split
      · exact At.kD fun a => At.kSl fun xs => At.toBytes fun u => z9m uX
      · exact At.bot
    · exact At.bot
  | makeFunc f first cap =>
    cases f <;> first | exact At.kArgs fun xs => At.kArgs fun ys => z9m uX | exact At.bot
  | makeSlice t l m =>
    have hc : uA c s o = 1 := by simp [uA, ho]
    exact At.kOpt fun e => At.kOpt fun n => At.kOpt fun b => At.kOpt fun z => At.kD fun lx => At.kI fun _ l => At.kD fun mx => At.kI fun _ m => At.and (At.cond
      (At.kOpt fun ds => At.kIf (At.nam fun _ => fin1 hc (by simp) (z1h hdk))) (At.kOpt fun x => At.kIf (At.nam fun _ => fin1 hc (by simp) (z1h hdk))))
  | slice t x lo hi mx =>
    have hc : uA c s o = 1 := by simp [uA, ho]
    exact fin1 hc (by simp) (y9n (fun k hk => z4F (by simp [ho, Op.operands]) hk) hdk)
  | fieldAddr t x f => exact At.kFieldAddr fun v => z9m uX
  | field t x f => exact At.kField fun v => z9m uX
  | indexAddr t x i => exact At.kIndexAddr fun v => z9m uX
  | index t x i =>
    dsimp only
    split
    · exact At.kIndex fun v => z9m uX
    · exact At.bot
  | extract t i =>
    dsimp only
    split
    · exact At.kOpt fun v => z9m uX
    · exact At.bot
  | call cl =>
    dsimp only
    unfold y9R
    cases hcal : cl.callee with
    | value f =>
      dsimp only
      cases hf : opv s f with
      | fn g first cap =>
        have hkeys : ∀ k ∈ z4d (cl.args.toList.map (opv s)), k ∈ (z3s o).flatMap (fun i => gB (s.get i)) ++ o.dst.toList := fun k hk => by
          obtain ⟨v, hv, hk⟩ := List.mem_flatMap.1 hk
          obtain ⟨x, hx, rfl⟩ := List.mem_map.1 hv
          exact z4F (by simp [ho, Op.operands, Call.operands]; exact .inr (by simpa using hx)) hk
        cases hp : c.pur g with
        | true =>
          have hc : uA c s o = 1 := by simp [uA, ho, hcal, hf, hp]
          exact fin1 hc (by simp) (y4Q hdk hkeys (by simp [hp]))
        | false =>
          cases hr : c.ro g with
          | true =>
            have hc : uA c s o = 1 := by simp [uA, ho, hcal, hf, hp, hr]
            have hro : v2j c s o = true := by simp [v2j, ho, hcal, hf, hp, hr]
            exact (y4R (s := s) hdk hkeys hp hr).weaken fun p q => ⟨fun x hx => hdst _ (q.1.1 x hx), fun x hx => by rw [hks hc (by simp)]; exact q.1.2.1 x hx, fun _ => .inr ⟨by simp [z8F, hro], q.2⟩⟩
          | false =>
          have hc : uA c s o = 2 := by simp [uA, ho, hcal, hf, hp, hr]
          refine fin2 hc ?_ (y4Q hdk hkeys (by simp))
          simp only [z8F, hc, ho]
          cases cl
          simp at hcal
          simp [hcal]
      | _ => exact At.bot
    | builtin b =>
      cases b with
      | len =>
        dsimp only
        split
        · exact At.kLen fun v => z9m uX
        · exact At.bot
      | append =>
        have hc : uA c s o = 2 := by simp [uA, ho, hcal]
        dsimp only
        split
        · rename_i x y t u hx ht
          split
          · have hmem : x ∈ o.op.operands.toList := by simp [ho, Op.operands, Call.operands, hx]
            have h := y8n (P := c.P) (s := s) (t := t) (dst := o.dst) (v := opv s x) (x := opv s y) (K := (z3s o).flatMap (fun i => gB (s.get i)) ++ o.dst.toList) (b := (z3s o).any fun i => v0T (s.get i))
              hdk (fun k hk => z4F hmem hk) (fun h => y3U hmem h)
            exact h.weaken fun p hp => hp.within hdst (fun k hk => by rw [hks hc (by simp)]; exact hk) (fun h => by simp [z8F, hc, h])
          · exact At.bot
        · exact At.bot
      | max =>
        dsimp only
        split
        · exact At.kD fun a => At.kD fun b => At.kI fun _ _ => At.kI fun _ _ => At.kIf (At.nam fun _ => z9m uX)
        · exact At.bot
      | min =>
        dsimp only
        split
        · exact At.kD fun a => At.kD fun b => At.kI fun _ _ => At.kI fun _ _ => At.kIf (At.nam fun _ => z9m uX)
        · exact At.bot
      | _ => exact At.bot
    | _ => exact At.bot
  | _ => exact At.bot
theorem z1x {r : Nat} (h : yD s'.ar r = yD s.ar r) (g : Nat) : s'.ob r g = s.ob r g := by simp [St.ob, h]
theorem y5E {r : Nat} (h : yD s'.ar r = yD s.ar r) : s'.gen r = s.gen r := by simp [St.gen, h]
theorem z9p {r : Nat} (h : yD s'.ar r = yD s.ar r) (g : Nat) : s'.live r g = s.live r g := by simp [St.live, z1x h]
theorem wG {dst : Option Nat} {v : Sv} (hn : s'.n = s.n) : z4U s' dst v = z4U s dst v := by funext k; cases dst <;> simp [z4U, hn]
theorem z1m {dst : Option Nat} {ob : Ob} {v : Nat → Nat → Sv} (hn : s'.n = s.n) (hd : ∀ d, dst = some d → yD s'.ar d = yD s.ar d) : newAr s' dst ob v = newAr s dst ob v := by
  funext k
  cases dst with
  | none => rfl
  | some d => simp [newAr, hn, y5E (hd d rfl)]
theorem y1Q {dst : Option Nat} {r g : Nat} {ob : Ob} {v : Sv} (hn : s'.n = s.n) : v0g s' dst r g ob v = v0g s dst r g ob v := by funext k; cases dst <;> simp [v0g, hn]
theorem y1N {dst : Option Nat} {cs : List Sv} (hn : s'.n = s.n) (hh : s'.h = s.h) : newHp s' dst cs = newHp s dst cs := by funext k; cases dst <;> simp [newHp, hn, hh]
theorem y7a {t : TypeId} {v : Sv} {k : Sv → Prop} (ha : ∀ r ∈ gB v, yD s'.ar r = yD s.ar r) (hh : hpS v = true → s'.h = s.h) (hw : ∀ id off, v = .hp id off → (∃ cs n xs, s.h[id]? = some cs ∧ cs[off]? = some (.own n xs)) → s'.hv = s.hv) : kLoad P t s' v k = kLoad P t s v k := by
  cases v with
  | ref r g off => simp [kLoad, z1x (ha r (by simp [gB]))]
  | rref r g m i off => simp [kLoad, z1x (ha r (by simp [gB]))]
  | hp id off =>
    have h1 := hh rfl
    simp only [kLoad, h1]
    cases hc : s.h[id]? with
    | none => rfl
    | some cs =>
      have hl : ∀ v, cs[off]? = some v → z9S id off s'.hv v = z9S id off s.hv v := fun v hv => by
        cases v with
        | own n xs => simp [z9S, hw id off rfl ⟨cs, n, xs, hc, hv⟩]
        | _ => rfl
      have : ∀ n, kBoxT P t n cs off (z9S id off s'.hv) k = kBoxT P t n cs off (z9S id off s.hv) k := fun n => by
        unfold kBoxT
        congr 1
        cases hv : cs[off]? with
        | none => rfl
        | some v => show k _ = k _; rw [hl v hv]
      show (kOpt (z0D P t) fun n => kBoxT P t n cs off (z9S id off s'.hv) k) = kOpt (z0D P t) fun n => kBoxT P t n cs off (z9S id off s.hv) k
      simp only [this]
  | _ => rfl
theorem y5M {t : TypeId} {a v : Sv} {k : uO → Prop} (ha : ∀ r ∈ gB a, yD s'.ar r = yD s.ar r) (hv : ∀ r ∈ gB v, yD s'.ar r = yD s.ar r) (hh : s'.h = s.h) : z7w P t s' a v k = z7w P t s a v k := by
  cases a with
  | ref r g off => simp [z7w, z1x (ha r (by simp [gB]))]
  | rref r g m i off => simp [z7w, z1x (ha r (by simp [gB]))]
  | hp id off =>
    cases v with
    | right r g m xs => simp [z7w, hh, z1x (hv r (by simp [gB]))]
    | _ => simp [z7w, hh]
  | _ => rfl
theorem y0u {t : TypeId} {v : Sv} {f : Nat} {k : Sv → Prop} (ha : ∀ r ∈ gB v, yD s'.ar r = yD s.ar r) : kFieldAddr P t s' v f k = kFieldAddr P t s v f k := by
  cases v with
  | ref r g off => simp [kFieldAddr, z9p (ha r (by simp [gB]))]
  | rref r g m i off => simp [kFieldAddr, z9p (ha r (by simp [gB]))]
  | _ => rfl
theorem y0v {t : TypeId} {v i : Sv} {k : Sv → Prop} (ha : ∀ r ∈ gB v, yD s'.ar r = yD s.ar r) : kIndexAddr P t s' v i k = kIndexAddr P t s v i k := by
  cases v with
  | row r g => simp [kIndexAddr, z1x (ha r (by simp [gB]))]
  | ref r g off => simp [kIndexAddr, z1x (ha r (by simp [gB]))]
  | _ => rfl
theorem y8I {t : TypeId} {v : Sv} {k : Sv → Prop} (ha : ∀ r ∈ gB v, yD s'.ar r = yD s.ar r) : kLen P t s' v k = kLen P t s v k := by
  unfold kLen
  split
  · cases v with
    | row r g => simp [z1x (ha r (by simp [gB]))]
    | _ => rfl
  · rfl
  · rfl
theorem y0a {dst : Option Nat} {rs : List Sv} {h : Option H} (hn : s'.n = s.n) (hd : ∀ d, dst = some d → yD s'.ar d = yD s.ar d) : z4s s' dst rs h = z4s s dst rs h := by
  funext k
  unfold z4s
  split
  · rw [z1m hn hd]
  · rw [wG hn]
  · rw [wG hn]
theorem y6Z {c : Cx} {dst : Option Nat} {f : FuncId} {vs : List Sv} (hn : s'.n = s.n) (hd : ∀ d, dst = some d → yD s'.ar d = yD s.ar d) (hh : c.pur f = false → s'.h = s.h) : y2K c s' dst f vs = y2K c s dst f vs := by
  funext k
  unfold y2K
  cases hp : c.pur f with
  | true => simp only [y0a hn hd]; rfl
  | false => simp only [y0a hn hd, hh hp]
theorem y5L {t : TypeId} {dst : Option Nat} {v : Sv} {lo hi mx : Option Sv} {k : uO → Prop} (hn : s'.n = s.n) (hd : ∀ d, dst = some d → yD s'.ar d = yD s.ar d) (ha : ∀ r ∈ gB v, yD s'.ar r = yD s.ar r) :
    z9R P t s' dst v lo hi mx k = z9R P t s dst v lo hi mx k := by
  unfold z9R
  split
  · simp only [wG hn]
  · have h2 : ∀ xs, y4b s' dst lo hi xs k = y4b s dst lo hi xs k := fun xs => by simp only [y4b, wG hn]
    have h3 : ∀ n xs, y4c n s' dst lo hi mx xs k = y4c n s dst lo hi mx xs k := fun n xs => by simp only [y4c, z1m hn hd]
    simp only [h2, h3]
  · cases v with
    | ref r g off =>
      cases mx <;> cases hi <;> first | rfl | simp only [z1x (ha r (by simp [gB])), wG hn]
    | _ => rfl
  · rfl
theorem y3X {t : TypeId} {dst : Option Nat} {v x : Sv} {k : uO → Prop} (hn : s'.n = s.n) (hd : ∀ d, dst = some d → yD s'.ar d = yD s.ar d) (ha : ∀ r ∈ gB v, yD s'.ar r = yD s.ar r) (hh : s'.h = s.h ∧ s'.hv = s.hv) :
    z8e P t s' dst v x k = z8e P t s dst v x k := by
  cases v with
  | right r g n xs => simp only [z8e, z1x (ha r (by simp [gB])), z1m hn hd, y1Q hn, hh.1, hh.2]
  | _ => simp only [z8e, z1m hn hd, y1Q hn, hh.1, hh.2]
theorem z8L (ps : List (Nat × Nat × Option Ob)) {a b : List (Nat × Nat × Option Ob)} {r : Nat} (h : yD a r = yD b r) : yD (ps ++ a) r = yD (ps ++ b) r := by
  induction ps with
  | nil => exact h
  | cons x ps ih =>
    obtain ⟨j, v⟩ := x
    rw [List.cons_append, List.cons_append, yA, yA, ih]
theorem z6S : ∀ {vs : List Sv} {s s' : St} {G G' : List (Nat × Nat × Option Ob) → List Sv → Prop}, (∀ r ∈ z4d vs, yD s'.ar r = yD s.ar r) → (∀ ps us, (∀ x ∈ z4d us, x ∈ z4d vs) → G' ps us = G ps us) → y8H s' vs G' = y8H s vs G
  | [], s, s', G, G', _, h => h [] [] (fun _ h => h)
  | v :: r, s, s', G, G', ha, h => by
    have har : ∀ x ∈ z4d r, yD s'.ar x = yD s.ar x := fun x hx => ha x (List.mem_append_right _ hx)
    by_cases hrow : ∃ a g, v = .row a g
    · obtain ⟨a, g, rfl⟩ := hrow
      have ho : s'.ob a g = s.ob a g := z1x (ha a (by simp [z4d, gB])) g
      show kOpt (s'.ob a g) _ = kOpt (s.ob a g) _
      rw [ho]
      congr 1
      funext ob
      cases ob with
      | row n xs =>
        refine z6S (fun x hx => z8L [(a, g, none)] (har x hx)) (fun ps us hu => h _ _ fun x hx => ?_)
        simp only [z4d, List.flatMap_cons, gB, List.nil_append] at hx
        exact List.mem_append_right _ (hu x hx)
      | _ => rfl
    · have e : ∀ (s : St) (G : List (Nat × Nat × Option Ob) → List Sv → Prop), y8H s (v :: r) G = y8H s r fun ps us => G ps (v :: us) := fun s G => by
        cases v with
        | row a g => exact absurd ⟨a, g, rfl⟩ hrow
        | _ => rfl
      rw [e, e]
      refine z6S har (fun ps us hu => h _ _ fun x hx => ?_)
      simp only [z4d, List.flatMap_cons] at hx ⊢
      rcases List.mem_append.1 hx with hx | hx
      · exact List.mem_append_left _ hx
      · exact List.mem_append_right _ (hu x hx)
theorem y4d {t : TypeId} {a v : Sv} {k : uO → Prop} (ha : ∀ r ∈ gB a, yD s'.ar r = yD s.ar r) (hv : ∀ r ∈ gB v, yD s'.ar r = yD s.ar r) (hh : s'.h = s.h) : y1F P t s' a v k = y1F P t s a v k := by
  refine z6S (fun r hr => hv r (by simpa [z4d] using hr)) fun ps us hu => ?_
  split
  · rename_i y
    exact y5M (fun r hr => z8L ps (ha r hr)) (fun r hr => z8L ps (hv r (by simpa [z4d] using hu r (by simpa [z4d] using hr)))) hh
  · rfl
theorem y5I {c : Cx} {dst : Option Nat} {f : FuncId} {first vs cap : List Sv} {k : uO → Prop} (hn : s'.n = s.n) (hd : ∀ d, dst = some d → yD s'.ar d = yD s.ar d) (hv : ∀ r ∈ z4d vs, yD s'.ar r = yD s.ar r) (hh : c.pur f = false → s'.h = s.h) :
    y5H c s' dst f first vs cap k = y5H c s dst f first vs cap k :=
  z6S hv fun ps us _ => by rw [y6Z (s := s.app ⟨[], ps, none⟩) (s' := s'.app ⟨[], ps, none⟩) hn (fun d h => z8L ps (hd d h)) hh]
structure Agree (f : FP) (s s' : St) : Prop where
  n : s'.n = s.n
  get : ∀ i ∈ f.rs, s'.get i = s.get i
  ar : ∀ k ∈ f.ra, yD s'.ar k = yD s.ar k
  h : f.rh = true → s'.h = s.h ∧ s'.hv = s.hv
  d : f.rd = true → s'.h = s.h
theorem y2Q {c : Cx} {ops : Array Oper} {o : Oper} (A : Agree (z8F c ops o s) s s') (k : uO → Prop) : y5A c o s' k = y5A c o s k := by
  have hop : ∀ x ∈ o.op.operands.toList, opv s' x = opv s x := fun x hx => by
    cases x with
    | tmp t => exact A.get t (by simp only [z8F]; exact List.mem_append_left _ (List.mem_filterMap.2 ⟨_, hx, rfl⟩))
    | _ => rfl
  have hn := A.n
  have hd : ∀ d, o.dst = some d → yD s'.ar d = yD s.ar d := fun d h => A.ar d (by simp [z8F, h])
  have ha : ∀ x ∈ o.op.operands.toList, ∀ r ∈ gB (opv s x), yD s'.ar r = yD s.ar r := fun x hx r hr => A.ar r (by simp only [z8F]; exact z4F hx hr)
  have hh : v0b o = true → ∀ x ∈ o.op.operands.toList, hpS (opv s x) = true → s'.h = s.h := fun hm x hx h => A.d (by simp only [z8F, y3U hx h, hm, Bool.true_and, Bool.true_or])
  have h2 : uA c s o = 2 → s'.h = s.h ∧ s'.hv = s.hv := fun h => A.h (by simp [z8F, h])
  have mapc : ∀ xs : List Operand, (∀ x ∈ xs, x ∈ o.op.operands.toList) → xs.map (opv s') = xs.map (opv s) := fun xs h => List.map_congr_left fun x hx => hop x (h x hx)
  have optc : ∀ x : Option Operand, (∀ y, x = some y → y ∈ o.op.operands.toList) → x.map (opv s') = x.map (opv s) := fun x h => by
    cases x with
    | none => rfl
    | some y => simp [hop y (h y rfl)]
  unfold y5A
  cases ho : o.op with
  | move x => simp only [hop x (by simp [ho, Op.operands]), wG hn]
  | assign x => simp only [hop x (by simp [ho, Op.operands]), wG hn]
  | pick x a b => simp only [hop x (by simp [ho, Op.operands]), hop a (by simp [ho, Op.operands]), hop b (by simp [ho, Op.operands]), wG hn]
  | alloc t =>
    cases hd' : o.dst with
    | none => rfl
    | some d =>
      simp only []
      rw [← hd']
      cases hg : c.glob d with
      | true =>
        have hc : uA c s o = 2 := by simp [uA, ho, hd', hg]
        simp only [y1N hn (h2 hc).1]; rfl
      | false => simp only [z1m hn hd]; rfl
  | box t v =>
    cases hd' : o.dst with
    | none => rfl
    | some d =>
      simp only [hop v (by simp [ho, Op.operands])]
      rw [← hd']
      cases hg : c.glob d with
      | true =>
        have hc : uA c s o = 2 := by simp [uA, ho, hd', hg]
        simp only [y1N hn (h2 hc).1]; rfl
      | false => simp only [z1m hn hd]; rfl
  | build t ps =>
    have : (ps.toList.map fun (i, x) => (i, opv s' x)) = ps.toList.map fun (i, x) => (i, opv s x) := List.map_congr_left fun ⟨i, x⟩ hx => by
      show (i, opv s' x) = (i, opv s x)
      rw [hop x (by simp [ho, Op.operands]; exact ⟨i, by simpa using hx⟩)]
    simp only [this, wG hn]
  | buildSlice t len ps =>
    have : (ps.toList.map fun (i, x) => (i, opv s' x)) = ps.toList.map fun (i, x) => (i, opv s x) := List.map_congr_left fun ⟨i, x⟩ hx => by
      show (i, opv s' x) = (i, opv s x)
      rw [hop x (by simp [ho, Op.operands]; exact ⟨i, by simpa using hx⟩)]
    simp only [this, z1m hn hd]
  | load t a => simp only [hop a (by simp [ho, Op.operands]), wG hn, y7a (ha a (by simp [ho, Op.operands])) (hh (by simp [v0b, ho]) a (by simp [ho, Op.operands])) (fun id off hv ⟨cs, n, xs, h1, h2⟩ => (A.h (by
      have hs : v0E s o = false := by simp [v0E, ho, hv, h1, h2]
      have hr : v2j c s o = false := by simp [v2j, ho]
      have hu := y3U (s := s) (o := o) (x := a) (by simp [ho, Op.operands]) (by rw [hv]; rfl)
      simp [z8F, hs, hr, hu, v0b, ho])).2)]
  | store t a v =>
    have hc : uA c s o = 2 := by simp [uA, ho]
    simp only [hop a (by simp [ho, Op.operands]), hop v (by simp [ho, Op.operands]), y4d (ha a (by simp [ho, Op.operands])) (ha v (by simp [ho, Op.operands])) (h2 hc).1]
  | nilCheck x =>
    simp only [hop x (by simp [ho, Op.operands])]
    have := ha x (by simp [ho, Op.operands])
    split
    · simp only [wG hn]
    · rename_i r g f h
      rw [h] at this
      simp only [wG hn, z9p (this r (by simp [gB]))]
    · simp only [wG hn]
    · simp only [wG hn]
    · rfl
  | binOp op t x y z => cases op <;> simp only [hop x (by simp [ho, Op.operands]), hop y (by simp [ho, Op.operands]), wG hn]
  | unOp op t x => cases op <;> simp only [hop x (by simp [ho, Op.operands]), wG hn]
  | convert src dst x => simp only [hop x (by simp [ho, Op.operands]), wG hn]
  | makeFunc f first cap =>
    have h1 := mapc first.toList (fun x hx => by simp [ho, Op.operands]; exact .inl (by simpa using hx))
    have h2 := mapc cap.toList (fun x hx => by simp [ho, Op.operands]; exact .inr (by simpa using hx))
    simp only [h1, h2, wG hn]
  | makeSlice t l m => simp only [hop l (by simp [ho, Op.operands]), hop m (by simp [ho, Op.operands]), z1m hn hd]
  | slice t x lo hi mx =>
    have e1 := optc lo (fun y h => by subst h; simp [ho, Op.operands])
    have e2 := optc hi (fun y h => by subst h; simp [ho, Op.operands])
    have e3 := optc mx (fun y h => by subst h; simp [ho, Op.operands])
    simp only [hop x (by simp [ho, Op.operands]), e1, e2, e3, y5L hn hd (ha x (by simp [ho, Op.operands]))]
  | fieldAddr t x f => simp only [hop x (by simp [ho, Op.operands]), wG hn, y0u (ha x (by simp [ho, Op.operands]))]
  | field t x f => simp only [hop x (by simp [ho, Op.operands]), wG hn]
  | indexAddr t x i => simp only [hop x (by simp [ho, Op.operands]), hop i (by simp [ho, Op.operands]), wG hn, y0v (ha x (by simp [ho, Op.operands]))]
  | index t x i => simp only [hop x (by simp [ho, Op.operands]), hop i (by simp [ho, Op.operands]), wG hn]
  | extract t i => simp only [hop t (by simp [ho, Op.operands]), wG hn]
  | call cl =>
    have hargs : ∀ x ∈ cl.args.toList, x ∈ o.op.operands.toList := fun x hx => by simp [ho, Op.operands, Call.operands]; exact .inr (by simpa using hx)
    simp only []
    unfold y9R
    cases hcal : cl.callee with
    | value f =>
      have hf : f ∈ o.op.operands.toList := by simp [ho, Op.operands, Call.operands, hcal]
      simp only [hop f hf, mapc cl.args.toList hargs]
      cases hfv : opv s f with
      | fn g first cap =>
        simp only []
        exact y5I hn hd (fun r hr => by
          obtain ⟨v, hv, hk⟩ := List.mem_flatMap.1 hr
          obtain ⟨x, hx, rfl⟩ := List.mem_map.1 hv
          exact ha x (hargs x hx) r hk) (fun hp => by
            cases hr : c.ro g with
            | false => exact (h2 (by simp [uA, ho, hcal, hfv, hp, hr])).1
            | true => exact A.d (by simp [z8F, v2j, ho, hcal, hfv, hp, hr]))
      | _ => rfl
    | builtin b =>
      cases b with
      | len =>
        simp only []
        split
        · rename_i x t hx ht
          have hm := hargs x (by simp [hx])
          simp only [hop x hm, wG hn, y8I (ha x hm)]
        · rfl
      | append =>
        have hc : uA c s o = 2 := by simp [uA, ho, hcal]
        simp only []
        split
        · rename_i x y t u hx ht
          have hm := hargs x (by simp [hx])
          simp only [hop x hm, hop y (hargs y (by simp [hx])), y3X hn hd (ha x hm) (h2 hc)]
        · rfl
      | max =>
        simp only []
        split
        · rename_i x y hx
          simp only [hop x (hargs x (by simp [hx])), hop y (hargs y (by simp [hx])), wG hn]
        · rfl
      | min =>
        simp only []
        split
        · rename_i x y hx
          simp only [hop x (hargs x (by simp [hx])), hop y (hargs y (by simp [hx])), wG hn]
        · rfl
      | _ => rfl
    | _ => rfl
  | _ => rfl
end
end Nt

