import Derived.Test.YtelddjedpmfclaaFwV
namespace Nt
open Go
set_option linter.unusedVariables false
set_option linter.unusedSimpArgs false
section
variable {P : Program} {s s' : St}
theorem y7n (c : Cx) (ops : Array Oper) (o : Oper) (s : St) : At (z8s (z9z c ops o s) s) (y4D c o s) := by
  have hdst : ∀ d, o.dst = some d → d ∈ (z9z c ops o s).ws := fun d hd => by simp [z9z, hd]
  have y0n : ∀ {F : (jY → Prop) → Prop}, At (Wi o.dst [] false) F → At (z8s (z9z c ops o s) s) F := fun h => h.weaken fun p hp => hp.within hdst (by simp) (by simp)
  have hks : ∀ {n : Nat}, uU c s o = n → n ≠ 0 → (z9z c ops o s).wa = (z4i o).flatMap (fun i => z0w (s.get i)) ++ o.dst.toList := fun h hn => by
    have : Nat.beq (uU c s o) 0 = false := y1C (by omega)
    simp [z9z, this]
  have hdk : ∀ d, o.dst = some d → d ∈ (z4i o).flatMap (fun i => z0w (s.get i)) ++ o.dst.toList := fun d hd => by simp [hd]
  have fin1 : ∀ {F : (jY → Prop) → Prop} {n : Nat}, uU c s o = n → n ≠ 0 → At (Wi o.dst ((z4i o).flatMap (fun i => z0w (s.get i)) ++ o.dst.toList) false) F → At (z8s (z9z c ops o s) s) F := fun h hn g =>
    g.weaken fun p hp => hp.within hdst (fun k hk => by rw [hks h hn]; exact hk) (by simp)
  have fin2 : ∀ {F : (jY → Prop) → Prop}, uU c s o = 2 → (z9z c ops o s).wh = true → At (Wi o.dst ((z4i o).flatMap (fun i => z0w (s.get i)) ++ o.dst.toList) true) F → At (z8s (z9z c ops o s) s) F := fun h hw g =>
    g.weaken fun p hp => hp.within hdst (fun k hk => by rw [hks h (by omega)]; exact hk) (fun _ => hw)
  unfold y4D
  cases ho : o.op with
  | move x => exact y0n gS
  | assign x => exact y0n gS
  | pick x a b => exact y0n (At.brS gS gS)
  | alloc t =>
    refine At.kOpt fun z => At.kIf ?_
    cases hd : o.dst with
    | none => exact At.bot
    | some d =>
      dsimp only
      rw [← hd]
      cases hg : c.glob d with
      | true =>
        have hc : uU c s o = 2 := by simp [uU, ho, hd, hg]
        exact fin2 hc (by simp [z9z, hc, ho]) y3n
      | false =>
        have hc : uU c s o = 1 := by simp [uU, ho, hd, hg]
        show At _ (fun k => match c.P.underlying t with
          | some (.array _ e) => kOpt (z1m c.P e) fun n => kIf (Nat.beq n 1) (kOpt (z4B z.cells.toList) fun ds => newAr s o.dst (.row 1 ds) (fun d g => .ref d g 0) k)
          | some (.struct _) => match z4B z.cells.toList with
            | some ds => newAr s o.dst (.agg (.agg ds)) (fun d g => .ref d g 0) k
            | none => newAr s o.dst (.box (z.cells.toList.map z3o)) (fun d g => .ref d g 0) k
          | _ => newAr s o.dst (.box (z.cells.toList.map z3o)) (fun d g => .ref d g 0) k)
        split
        · exact At.kOpt fun n => At.kIf (At.kOpt fun ds => fin1 hc (by simp) (z1T hdk))
        · split
          · exact fin1 hc (by simp) (z1T hdk)
          · exact fin1 hc (by simp) (z1T hdk)
        · exact fin1 hc (by simp) (z1T hdk)
  | box t v =>
    cases hd : o.dst with
    | none => exact At.bot
    | some d =>
      dsimp only
      rw [← hd]
      cases hg : c.glob d with
      | true =>
        have hc : uU c s o = 2 := by simp [uU, ho, hd, hg]
        simp only [cond_true]
        exact At.cond (At.kOpt fun n => At.kBld fun ws => fin2 hc (by simp [z9z, hc, ho]) y3n) (At.kKeep fun w => fin2 hc (by simp [z9z, hc, ho]) y3n)
      | false =>
        have hc : uU c s o = 1 := by simp [uU, ho, hd, hg]
        simp only [cond_false]
        exact At.cond (At.kOpt fun n => At.kD fun x => At.kWhole (fin1 hc (by simp) (z1T hdk))) (At.kKeep fun w => fin1 hc (by simp) (z1T hdk))
  | build t ps =>
    dsimp only
    split
    · exact At.kIf (At.kOpt fun z => At.kOpt fun cs => At.kFill fun cs => y0n gS)
    · exact At.bot
  | buildSlice t len ps =>
    have hc : uU c s o = 1 := by simp [uU, ho]
    exact At.kOpt fun e => At.kOpt fun n => At.kOpt fun z => At.kIf (At.kIf (At.kElems fun xs => fin1 hc (by simp) (z1T hdk)))
  | load t a => exact At.kLoad fun v => y0n gS
  | store t a v =>
    have hc : uU c s o = 2 := by simp [uU, ho]
    cases hd : o.dst with
    | some d => exact At.bot
    | none =>
      have h := y6F (P := c.P) (s := s) (t := t) (a := opv s a) (v := opv s v) (K := (z4i o).flatMap (fun i => z0w (s.get i)) ++ o.dst.toList) (b := (z4i o).any fun i => y8N (s.get i))
        (fun k hk => z5w (by simp [ho, Op.operands]) hk) (fun k hk => z5w (by simp [ho, Op.operands]) hk) (fun h => y3y (by simp [ho, Op.operands]) h)
      refine h.weaken fun p hp => hp.within (by simp) (fun k hk => by rw [hks hc (by simp)]; exact hk) (fun h => by simp [z9z, hc, h])
  | nilCheck x =>
    dsimp only
    split <;> first | exact y0n gS | exact At.kIf (y0n gS) | exact At.bot
  | binOp op t x y z =>
    cases op <;> first | exact At.kEqOp fun b => y0n gS | exact At.kD fun a => At.kD fun b => At.kBin fun r => y0n gS
  | unOp op t x =>
    refine At.kD fun a => ?_
    cases op <;> first | exact At.kI fun i n => At.nam fun _ => y0n gS | (cases a <;> first | exact y0n gS | exact At.bot) | exact At.bot
  | convert src dst x =>
    dsimp only
    split
    · exact At.kD fun a => At.kI fun _ n => At.nam fun _ => y0n gS
    · exact At.kD fun a => At.kStr fun u => y0n gS
    · split
      · exact At.kD fun a => At.kSl fun xs => At.toBytes fun u => y0n gS
      · exact At.bot
    · exact At.bot
  | makeFunc f first cap =>
    cases f <;> first | exact At.kArgs fun xs => At.kArgs fun ys => y0n gS | exact At.bot
  | makeSlice t l m =>
    have hc : uU c s o = 1 := by simp [uU, ho]
    exact At.kOpt fun e => At.kOpt fun n => At.kOpt fun b => At.kOpt fun z => At.kD fun lx => At.kI fun _ l => At.kD fun mx => At.kI fun _ m => At.and (At.cond
      (At.kOpt fun ds => At.kIf (At.nam fun _ => fin1 hc (by simp) (z1T hdk))) (At.kOpt fun x => At.kIf (At.nam fun _ => fin1 hc (by simp) (z1T hdk))))
  | slice t x lo hi mx =>
    have hc : uU c s o = 1 := by simp [uU, ho]
    exact fin1 hc (by simp) (y7o (fun k hk => z5w (by simp [ho, Op.operands]) hk) hdk)
  | fieldAddr t x f => exact At.kFieldAddr fun v => y0n gS
  | field t x f => exact At.kField fun v => y0n gS
  | indexAddr t x i => exact At.kIndexAddr fun v => y0n gS
  | index t x i =>
    dsimp only
    split
    · exact At.kIndex fun v => y0n gS
    · exact At.bot
  | extract t i =>
    dsimp only
    split
    · exact At.kOpt fun v => y0n gS
    · exact At.bot
  | call cl =>
    dsimp only
    unfold y7M
    cases hcal : cl.callee with
    | value f =>
      dsimp only
      cases hf : opv s f with
      | fn g first cap =>
        have hkeys : ∀ k ∈ z4G (cl.args.toList.map (opv s)), k ∈ (z4i o).flatMap (fun i => z0w (s.get i)) ++ o.dst.toList := fun k hk => by
          obtain ⟨v, hv, hk⟩ := List.mem_flatMap.1 hk
          obtain ⟨x, hx, rfl⟩ := List.mem_map.1 hv
          exact z5w (by simp [ho, Op.operands, Call.operands]; exact .inr (by simpa using hx)) hk
        cases hp : c.pur g with
        | true =>
          have hc : uU c s o = 1 := by simp [uU, ho, hcal, hf, hp]
          exact fin1 hc (by simp) (y4i hdk hkeys (by simp [hp]))
        | false =>
          cases hr : c.ro g with
          | true =>
            have hc : uU c s o = 1 := by simp [uU, ho, hcal, hf, hp, hr]
            have hro : y9U c s o = true := by simp [y9U, ho, hcal, hf, hp, hr]
            exact (y4j (s := s) hdk hkeys hp hr).weaken fun p q => ⟨fun x hx => hdst _ (q.1.1 x hx), fun x hx => by rw [hks hc (by simp)]; exact q.1.2.1 x hx, fun _ => .inr ⟨by simp [z9z, hro], q.2⟩⟩
          | false =>
          have hc : uU c s o = 2 := by simp [uU, ho, hcal, hf, hp, hr]
          refine fin2 hc ?_ (y4i hdk hkeys (by simp))
          simp only [z9z, hc, ho]
          cases cl
          simp at hcal
          simp [hcal]
      | _ => exact At.bot
    | builtin b =>
      cases b with
      | len =>
        dsimp only
        split
        · exact At.kLen fun v => y0n gS
        · exact At.bot
      | append =>
        have hc : uU c s o = 2 := by simp [uU, ho, hcal]
        dsimp only
        split
        · rename_i x y t u hx ht
          split
          · have hmem : x ∈ o.op.operands.toList := by simp [ho, Op.operands, Call.operands, hx]
            have h := y6E (P := c.P) (s := s) (t := t) (dst := o.dst) (v := opv s x) (x := opv s y) (K := (z4i o).flatMap (fun i => z0w (s.get i)) ++ o.dst.toList) (b := (z4i o).any fun i => y8N (s.get i))
              hdk (fun k hk => z5w hmem hk) (fun h => y3y hmem h)
            exact h.weaken fun p hp => hp.within hdst (fun k hk => by rw [hks hc (by simp)]; exact hk) (fun h => by simp [z9z, hc, h])
          · exact At.bot
        · exact At.bot
      | max =>
        dsimp only
        split
        · exact At.kD fun a => At.kD fun b => At.kI fun _ _ => At.kI fun _ _ => At.kIf (At.nam fun _ => y0n gS)
        · exact At.bot
      | min =>
        dsimp only
        split
        · exact At.kD fun a => At.kD fun b => At.kI fun _ _ => At.kI fun _ _ => At.kIf (At.nam fun _ => y0n gS)
        · exact At.bot
      | _ => exact At.bot
    | _ => exact At.bot
  | _ => exact At.bot
theorem z2n {r : Nat} (h : yV s'.ar r = yV s.ar r) (g : Nat) : s'.ob r g = s.ob r g := by simp [St.ob, h]
theorem y4H {r : Nat} (h : yV s'.ar r = yV s.ar r) : s'.gen r = s.gen r := by simp [St.gen, h]
theorem y0p {r : Nat} (h : yV s'.ar r = yV s.ar r) (g : Nat) : s'.live r g = s.live r g := by simp [St.live, z2n h]
theorem wV {dst : Option Nat} {v : Sv} (hn : s'.n = s.n) : z5L s' dst v = z5L s dst v := by funext k; cases dst <;> simp [z5L, hn]
theorem z2c {dst : Option Nat} {ob : Ob} {v : Nat → Nat → Sv} (hn : s'.n = s.n) (hd : ∀ d, dst = some d → yV s'.ar d = yV s.ar d) : newAr s' dst ob v = newAr s dst ob v := by
  funext k
  cases dst with
  | none => rfl
  | some d => simp [newAr, hn, y4H (hd d rfl)]
theorem y2i {dst : Option Nat} {r g : Nat} {ob : Ob} {v : Sv} (hn : s'.n = s.n) : y8c s' dst r g ob v = y8c s dst r g ob v := by funext k; cases dst <;> simp [y8c, hn]
theorem y2f {dst : Option Nat} {cs : List Sv} (hn : s'.n = s.n) (hh : s'.h = s.h) : newHp s' dst cs = newHp s dst cs := by funext k; cases dst <;> simp [newHp, hn, hh]
theorem y5w {t : TypeId} {v : Sv} {k : Sv → Prop} (ha : ∀ r ∈ z0w v, yV s'.ar r = yV s.ar r) (hh : hpS v = true → s'.h = s.h) (hw : ∀ id off, v = .hp id off → (∃ cs n xs, s.h[id]? = some cs ∧ cs[off]? = some (.own n xs)) → s'.hv = s.hv) : kLoad P t s' v k = kLoad P t s v k := by
  cases v with
  | ref r g off => simp [kLoad, z2n (ha r (by simp [z0w]))]
  | rref r g m i off => simp [kLoad, z2n (ha r (by simp [z0w]))]
  | hp id off =>
    have h1 := hh rfl
    simp only [kLoad, h1]
    cases hc : s.h[id]? with
    | none => rfl
    | some cs =>
      have hl : ∀ v, cs[off]? = some v → y0E id off s'.hv v = y0E id off s.hv v := fun v hv => by
        cases v with
        | own n xs => simp [y0E, hw id off rfl ⟨cs, n, xs, hc, hv⟩]
        | _ => rfl
      have : ∀ n, kBoxT P t n cs off (y0E id off s'.hv) k = kBoxT P t n cs off (y0E id off s.hv) k := fun n => by
        unfold kBoxT
        congr 1
        cases hv : cs[off]? with
        | none => rfl
        | some v => show k _ = k _; rw [hl v hv]
      show (kOpt (z1m P t) fun n => kBoxT P t n cs off (y0E id off s'.hv) k) = kOpt (z1m P t) fun n => kBoxT P t n cs off (y0E id off s.hv) k
      simp only [this]
  | _ => rfl
theorem y4O {t : TypeId} {a v : Sv} {k : jY → Prop} (ha : ∀ r ∈ z0w a, yV s'.ar r = yV s.ar r) (hv : ∀ r ∈ z0w v, yV s'.ar r = yV s.ar r) (hh : s'.h = s.h) : z7B P t s' a v k = z7B P t s a v k := by
  cases a with
  | ref r g off => simp [z7B, z2n (ha r (by simp [z0w]))]
  | rref r g m i off => simp [z7B, z2n (ha r (by simp [z0w]))]
  | hp id off =>
    cases v with
    | right r g m xs => simp [z7B, hh, z2n (hv r (by simp [z0w]))]
    | _ => simp [z7B, hh]
  | _ => rfl
theorem y1e {t : TypeId} {v : Sv} {f : Nat} {k : Sv → Prop} (ha : ∀ r ∈ z0w v, yV s'.ar r = yV s.ar r) : kFieldAddr P t s' v f k = kFieldAddr P t s v f k := by
  cases v with
  | ref r g off => simp [kFieldAddr, y0p (ha r (by simp [z0w]))]
  | rref r g m i off => simp [kFieldAddr, y0p (ha r (by simp [z0w]))]
  | _ => rfl
theorem y1f {t : TypeId} {v i : Sv} {k : Sv → Prop} (ha : ∀ r ∈ z0w v, yV s'.ar r = yV s.ar r) : kIndexAddr P t s' v i k = kIndexAddr P t s v i k := by
  cases v with
  | row r g => simp [kIndexAddr, z2n (ha r (by simp [z0w]))]
  | ref r g off => simp [kIndexAddr, z2n (ha r (by simp [z0w]))]
  | _ => rfl
theorem y6U {t : TypeId} {v : Sv} {k : Sv → Prop} (ha : ∀ r ∈ z0w v, yV s'.ar r = yV s.ar r) : kLen P t s' v k = kLen P t s v k := by
  unfold kLen
  split
  · cases v with
    | row r g => simp [z2n (ha r (by simp [z0w]))]
    | _ => rfl
  · rfl
  · rfl
theorem y0F {dst : Option Nat} {rs : List Sv} {h : Option H} (hn : s'.n = s.n) (hd : ∀ d, dst = some d → yV s'.ar d = yV s.ar d) : z4V s' dst rs h = z4V s dst rs h := by
  funext k
  unfold z4V
  split
  · rw [z2c hn hd]
  · rw [wV hn]
  · rw [wV hn]
theorem y5v {c : Cx} {dst : Option Nat} {f : FuncId} {vs : List Sv} (hn : s'.n = s.n) (hd : ∀ d, dst = some d → yV s'.ar d = yV s.ar d) (hh : c.pur f = false → s'.h = s.h) : y2J c s' dst f vs = y2J c s dst f vs := by
  funext k
  unfold y2J
  cases hp : c.pur f with
  | true => simp only [y0F hn hd]; rfl
  | false => simp only [y0F hn hd, hh hp]
theorem y4N {t : TypeId} {dst : Option Nat} {v : Sv} {lo hi mx : Option Sv} {k : jY → Prop} (hn : s'.n = s.n) (hd : ∀ d, dst = some d → yV s'.ar d = yV s.ar d) (ha : ∀ r ∈ z0w v, yV s'.ar r = yV s.ar r) :
    y0D P t s' dst v lo hi mx k = y0D P t s dst v lo hi mx k := by
  unfold y0D
  split
  · simp only [wV hn]
  · have h2 : ∀ xs, y3F s' dst lo hi xs k = y3F s dst lo hi xs k := fun xs => by simp only [y3F, wV hn]
    have h3 : ∀ n xs, y3G n s' dst lo hi mx xs k = y3G n s dst lo hi mx xs k := fun n xs => by simp only [y3G, z2c hn hd]
    simp only [h2, h3]
  · cases v with
    | ref r g off =>
      cases mx <;> cases hi <;> first | rfl | simp only [z2n (ha r (by simp [z0w])), wV hn]
    | _ => rfl
  · rfl
theorem y3B {t : TypeId} {dst : Option Nat} {v x : Sv} {k : jY → Prop} (hn : s'.n = s.n) (hd : ∀ d, dst = some d → yV s'.ar d = yV s.ar d) (ha : ∀ r ∈ z0w v, yV s'.ar r = yV s.ar r) (hh : s'.h = s.h ∧ s'.hv = s.hv) :
    z8a P t s' dst v x k = z8a P t s dst v x k := by
  cases v with
  | right r g n xs => simp only [z8a, z2n (ha r (by simp [z0w])), z2c hn hd, y2i hn, hh.1, hh.2]
  | _ => simp only [z8a, z2c hn hd, y2i hn, hh.1, hh.2]
theorem z9E (ps : List (Nat × Nat × Option Ob)) {a b : List (Nat × Nat × Option Ob)} {r : Nat} (h : yV a r = yV b r) : yV (ps ++ a) r = yV (ps ++ b) r := by
  induction ps with
  | nil => exact h
  | cons x ps ih =>
    obtain ⟨j, v⟩ := x
    rw [List.cons_append, List.cons_append, yS, yS, ih]
theorem z6U : ∀ {vs : List Sv} {s s' : St} {G G' : List (Nat × Nat × Option Ob) → List Sv → Prop}, (∀ r ∈ z4G vs, yV s'.ar r = yV s.ar r) → (∀ ps us, (∀ x ∈ z4G us, x ∈ z4G vs) → G' ps us = G ps us) → y6T s' vs G' = y6T s vs G
  | [], s, s', G, G', _, h => h [] [] (fun _ h => h)
  | v :: r, s, s', G, G', ha, h => by
    have har : ∀ x ∈ z4G r, yV s'.ar x = yV s.ar x := fun x hx => ha x (List.mem_append_right _ hx)
    by_cases hrow : ∃ a g, v = .row a g
    · obtain ⟨a, g, rfl⟩ := hrow
      have ho : s'.ob a g = s.ob a g := z2n (ha a (by simp [z4G, z0w])) g
      show kOpt (s'.ob a g) _ = kOpt (s.ob a g) _
      rw [ho]
      congr 1
      funext ob
      cases ob with
      | row n xs =>
        refine z6U (fun x hx => z9E [(a, g, none)] (har x hx)) (fun ps us hu => h _ _ fun x hx => ?_)
        simp only [z4G, List.flatMap_cons, z0w, List.nil_append] at hx
        exact List.mem_append_right _ (hu x hx)
      | _ => rfl
    · have e : ∀ (s : St) (G : List (Nat × Nat × Option Ob) → List Sv → Prop), y6T s (v :: r) G = y6T s r fun ps us => G ps (v :: us) := fun s G => by
        cases v with
        | row a g => exact absurd ⟨a, g, rfl⟩ hrow
        | _ => rfl
      rw [e, e]
      refine z6U har (fun ps us hu => h _ _ fun x hx => ?_)
      simp only [z4G, List.flatMap_cons] at hx ⊢
      rcases List.mem_append.1 hx with hx | hx
      · exact List.mem_append_left _ hx
      · exact List.mem_append_right _ (hu x hx)
theorem y3H {t : TypeId} {a v : Sv} {k : jY → Prop} (ha : ∀ r ∈ z0w a, yV s'.ar r = yV s.ar r) (hv : ∀ r ∈ z0w v, yV s'.ar r = yV s.ar r) (hh : s'.h = s.h) : y1V P t s' a v k = y1V P t s a v k := by
  refine z6U (fun r hr => hv r (by simpa [z4G] using hr)) fun ps us hu => ?_
  split
  · rename_i y
    exact y4O (fun r hr => z9E ps (ha r hr)) (fun r hr => z9E ps (hv r (by simpa [z4G] using hu r (by simpa [z4G] using hr)))) hh
  · rfl
theorem y4K {c : Cx} {dst : Option Nat} {f : FuncId} {first vs cap : List Sv} {k : jY → Prop} (hn : s'.n = s.n) (hd : ∀ d, dst = some d → yV s'.ar d = yV s.ar d) (hv : ∀ r ∈ z4G vs, yV s'.ar r = yV s.ar r) (hh : c.pur f = false → s'.h = s.h) :
    y4J c s' dst f first vs cap k = y4J c s dst f first vs cap k :=
  z6U hv fun ps us _ => by rw [y5v (s := s.app ⟨[], ps, none⟩) (s' := s'.app ⟨[], ps, none⟩) hn (fun d h => z9E ps (hd d h)) hh]
structure Agree (f : FP) (s s' : St) : Prop where
  n : s'.n = s.n
  get : ∀ i ∈ f.rs, s'.get i = s.get i
  ar : ∀ k ∈ f.ra, yV s'.ar k = yV s.ar k
  h : f.rh = true → s'.h = s.h ∧ s'.hv = s.hv
  d : f.rd = true → s'.h = s.h
theorem y2P {c : Cx} {ops : Array Oper} {o : Oper} (A : Agree (z9z c ops o s) s s') (k : jY → Prop) : y4D c o s' k = y4D c o s k := by
  have hop : ∀ x ∈ o.op.operands.toList, opv s' x = opv s x := fun x hx => by
    cases x with
    | tmp t => exact A.get t (by simp only [z9z]; exact List.mem_append_left _ (List.mem_filterMap.2 ⟨_, hx, rfl⟩))
    | _ => rfl
  have hn := A.n
  have hd : ∀ d, o.dst = some d → yV s'.ar d = yV s.ar d := fun d h => A.ar d (by simp [z9z, h])
  have ha : ∀ x ∈ o.op.operands.toList, ∀ r ∈ z0w (opv s x), yV s'.ar r = yV s.ar r := fun x hx r hr => A.ar r (by simp only [z9z]; exact z5w hx hr)
  have hh : y7X o = true → ∀ x ∈ o.op.operands.toList, hpS (opv s x) = true → s'.h = s.h := fun hm x hx h => A.d (by simp only [z9z, y3y hx h, hm, Bool.true_and, Bool.true_or])
  have h2 : uU c s o = 2 → s'.h = s.h ∧ s'.hv = s.hv := fun h => A.h (by simp [z9z, h])
  have mapc : ∀ xs : List Operand, (∀ x ∈ xs, x ∈ o.op.operands.toList) → xs.map (opv s') = xs.map (opv s) := fun xs h => List.map_congr_left fun x hx => hop x (h x hx)
  have optc : ∀ x : Option Operand, (∀ y, x = some y → y ∈ o.op.operands.toList) → x.map (opv s') = x.map (opv s) := fun x h => by
    cases x with
    | none => rfl
    | some y => simp [hop y (h y rfl)]
  unfold y4D
  cases ho : o.op with
  | move x => simp only [hop x (by simp [ho, Op.operands]), wV hn]
  | assign x => simp only [hop x (by simp [ho, Op.operands]), wV hn]
  | pick x a b => simp only [hop x (by simp [ho, Op.operands]), hop a (by simp [ho, Op.operands]), hop b (by simp [ho, Op.operands]), wV hn]
  | alloc t =>
    cases hd' : o.dst with
    | none => rfl
    | some d =>
      simp only []
      rw [← hd']
      cases hg : c.glob d with
      | true =>
        have hc : uU c s o = 2 := by simp [uU, ho, hd', hg]
        simp only [y2f hn (h2 hc).1]; rfl
      | false => simp only [z2c hn hd]; rfl
  | box t v =>
    cases hd' : o.dst with
    | none => rfl
    | some d =>
      simp only [hop v (by simp [ho, Op.operands])]
      rw [← hd']
      cases hg : c.glob d with
      | true =>
        have hc : uU c s o = 2 := by simp [uU, ho, hd', hg]
        simp only [y2f hn (h2 hc).1]; rfl
      | false => simp only [z2c hn hd]; rfl
  | build t ps =>
    have : (ps.toList.map fun (i, x) => (i, opv s' x)) = ps.toList.map fun (i, x) => (i, opv s x) := List.map_congr_left fun ⟨i, x⟩ hx => by
      show (i, opv s' x) = (i, opv s x)
      rw [hop x (by simp [ho, Op.operands]; exact ⟨i, by simpa using hx⟩)]
    simp only [this, wV hn]
  | buildSlice t len ps =>
    have : (ps.toList.map fun (i, x) => (i, opv s' x)) = ps.toList.map fun (i, x) => (i, opv s x) := List.map_congr_left fun ⟨i, x⟩ hx => by
      show (i, opv s' x) = (i, opv s x)
      rw [hop x (by simp [ho, Op.operands]; exact ⟨i, by simpa using hx⟩)]
    simp only [this, z2c hn hd]
  | load t a => simp only [hop a (by simp [ho, Op.operands]), wV hn, y5w (ha a (by simp [ho, Op.operands])) (hh (by simp [y7X, ho]) a (by simp [ho, Op.operands])) (fun id off hv ⟨cs, n, xs, h1, h2⟩ => (A.h (by
      have hs : y8x s o = false := by simp [y8x, ho, hv, h1, h2]
      have hr : y9U c s o = false := by simp [y9U, ho]
      have hu := y3y (s := s) (o := o) (x := a) (by simp [ho, Op.operands]) (by rw [hv]; rfl)
      simp [z9z, hs, hr, hu, y7X, ho])).2)]
  | store t a v =>
    have hc : uU c s o = 2 := by simp [uU, ho]
    simp only [hop a (by simp [ho, Op.operands]), hop v (by simp [ho, Op.operands]), y3H (ha a (by simp [ho, Op.operands])) (ha v (by simp [ho, Op.operands])) (h2 hc).1]
  | nilCheck x =>
    simp only [hop x (by simp [ho, Op.operands])]
    have := ha x (by simp [ho, Op.operands])
    split
    · simp only [wV hn]
    · rename_i r g f h
      rw [h] at this
      simp only [wV hn, y0p (this r (by simp [z0w]))]
    · simp only [wV hn]
    · simp only [wV hn]
    · rfl
  | binOp op t x y z => cases op <;> simp only [hop x (by simp [ho, Op.operands]), hop y (by simp [ho, Op.operands]), wV hn]
  | unOp op t x => cases op <;> simp only [hop x (by simp [ho, Op.operands]), wV hn]
  | convert src dst x => simp only [hop x (by simp [ho, Op.operands]), wV hn]
  | makeFunc f first cap =>
    have h1 := mapc first.toList (fun x hx => by simp [ho, Op.operands]; exact .inl (by simpa using hx))
    have h2 := mapc cap.toList (fun x hx => by simp [ho, Op.operands]; exact .inr (by simpa using hx))
    simp only [h1, h2, wV hn]
  | makeSlice t l m => simp only [hop l (by simp [ho, Op.operands]), hop m (by simp [ho, Op.operands]), z2c hn hd]
  | slice t x lo hi mx =>
    have e1 := optc lo (fun y h => by subst h; simp [ho, Op.operands])
    have e2 := optc hi (fun y h => by subst h; simp [ho, Op.operands])
    have e3 := optc mx (fun y h => by subst h; simp [ho, Op.operands])
    simp only [hop x (by simp [ho, Op.operands]), e1, e2, e3, y4N hn hd (ha x (by simp [ho, Op.operands]))]
  | fieldAddr t x f => simp only [hop x (by simp [ho, Op.operands]), wV hn, y1e (ha x (by simp [ho, Op.operands]))]
  | field t x f => simp only [hop x (by simp [ho, Op.operands]), wV hn]
  | indexAddr t x i => simp only [hop x (by simp [ho, Op.operands]), hop i (by simp [ho, Op.operands]), wV hn, y1f (ha x (by simp [ho, Op.operands]))]
  | index t x i => simp only [hop x (by simp [ho, Op.operands]), hop i (by simp [ho, Op.operands]), wV hn]
  | extract t i => simp only [hop t (by simp [ho, Op.operands]), wV hn]
  | call cl =>
    have hargs : ∀ x ∈ cl.args.toList, x ∈ o.op.operands.toList := fun x hx => by simp [ho, Op.operands, Call.operands]; exact .inr (by simpa using hx)
    simp only []
    unfold y7M
    cases hcal : cl.callee with
    | value f =>
      have hf : f ∈ o.op.operands.toList := by simp [ho, Op.operands, Call.operands, hcal]
      simp only [hop f hf, mapc cl.args.toList hargs]
      cases hfv : opv s f with
      | fn g first cap =>
        simp only []
        exact y4K hn hd (fun r hr => by
          obtain ⟨v, hv, hk⟩ := List.mem_flatMap.1 hr
          obtain ⟨x, hx, rfl⟩ := List.mem_map.1 hv
          exact ha x (hargs x hx) r hk) (fun hp => by
            cases hr : c.ro g with
            | false => exact (h2 (by simp [uU, ho, hcal, hfv, hp, hr])).1
            | true => exact A.d (by simp [z9z, y9U, ho, hcal, hfv, hp, hr]))
      | _ => rfl
    | builtin b =>
      cases b with
      | len =>
        simp only []
        split
        · rename_i x t hx ht
          have hm := hargs x (by simp [hx])
          simp only [hop x hm, wV hn, y6U (ha x hm)]
        · rfl
      | append =>
        have hc : uU c s o = 2 := by simp [uU, ho, hcal]
        simp only []
        split
        · rename_i x y t u hx ht
          have hm := hargs x (by simp [hx])
          simp only [hop x hm, hop y (hargs y (by simp [hx])), y3B hn hd (ha x hm) (h2 hc)]
        · rfl
      | max =>
        simp only []
        split
        · rename_i x y hx
          simp only [hop x (hargs x (by simp [hx])), hop y (hargs y (by simp [hx])), wV hn]
        · rfl
      | min =>
        simp only []
        split
        · rename_i x y hx
          simp only [hop x (hargs x (by simp [hx])), hop y (hargs y (by simp [hx])), wV hn]
        · rfl
      | _ => rfl
    | _ => rfl
  | _ => rfl
end
end Nt

