import Derived.Test.YtnbcacfljnooeaaFwY
namespace Nt
open Go
set_option linter.unusedVariables false
set_option linter.unusedSimpArgs false
def KI.item : KI → Item
  | .code c => .code c
  | .blk id => .inBlock id
  | .loop b => .inLoop b
  | .sc b => .inScope b
def z5E (K : List KI) : List Item := K.map KI.item
def Runs (P : Program) (Q : Act → World → Prop) (K : List KI) (a : Act) (w : World) : Prop :=
  ∀ (b : Frame) (k : List Item) (cs : List Frame), ∃ e a' w', (e = .normal ∨ e = .ret) ∧ Q a' w' ∧ Arrives P (lone (b.at a (z5E K ++ k)) cs w) b k cs e a' w'
section
variable {P : Program} {Q : Act → World → Prop} {a : Act} {w : World} {K : List KI}
theorem Runs.step {K' : List KI} {a' : Act} (hs : ∀ (b : Frame) (k : List Item) (cs : List Frame), Go.step P (lone (b.at a (z5E K ++ k)) cs w) = .next (lone (b.at a (z5E K' ++ k)) cs w)) (h : Runs P Q K' a w) : Runs P Q K a w :=
  fun b k cs => let ⟨e, a', w', h1, h2, h3⟩ := h b k cs; ⟨e, a', w', h1, h2, .of_steps (.one (hs b k cs)) h3⟩
theorem Runs.nil (h : Q a w) : Runs P Q [] a w := fun b k cs => ⟨.normal, a, w, .inl rfl, h, (Steps.refl (P := P) _ : Steps P _ _)⟩
theorem Runs.ret (h : Q a w) : Runs P Q (.code .ret :: K) a w := fun b k cs => ⟨.ret, a, w, .inr rfl, h, _, .one step_ret⟩
theorem Runs.code {c : Code} (h : c.wp P (fun e a w => e = .normal ∧ Runs P Q K a w) a w) : Runs P Q (.code c :: K) a w := fun b k cs => by
  obtain ⟨e, a1, w1, ⟨rfl, h1⟩, h2⟩ := h b (z5E K ++ k) cs
  obtain ⟨e, a2, w2, h3, h4, h5⟩ := h1 b k cs
  exact ⟨e, a2, w2, h3, h4, .of_steps h2 h5⟩
theorem uF {id : Nat} : ∀ {K K' : List KI}, z7g id K = some K' → ∀ k, exitTo id (z5E K ++ k) = some (z5E K' ++ k)
  | .blk j :: K, K', h, k => by
    unfold z7g at h
    show exitTo id (.inBlock j :: (z5E K ++ k)) = _
    unfold exitTo
    by_cases e : j = id
    · subst e; simp at h; subst h; simp
    · simp only [z2f e, cond_false] at h
      simp only [beq_iff_eq, e, if_false]
      exact uF h k
  | .code c :: K, K', h, k => uF (K := K) h k
  | .loop c :: K, K', h, k => uF (K := K) h k
  | .sc c :: K, K', h, k => uF (K := K) h k
def gM : List KI → List KI
  | .loop b :: K => .code b :: .loop b :: K
  | K => K
theorem Runs.unroll_head (h : Runs P Q (gM K) a w) : Runs P Q K a w := by
  cases K with
  | nil => exact h
  | cons x K =>
    cases x with
    | loop b => exact Runs.step (a' := a) (fun _ _ _ => step_inLoop) h
    | _ => exact h
end
theorem z7O {P : Program} {b : Frame} {a : Act} {k : List Item} {cs : List Frame} {w : World} {c : Code} : Go.step P (lone (b.at a (.code (.scope c) :: k)) cs w) = .next (lone (b.at a (.code c :: .inScope c :: k)) cs w) :=
  step_lone_go (by simp [stepG, stepG.exec, Frame.at])
theorem z5P {P : Program} {b : Frame} {a : Act} {k : List Item} {cs : List Frame} {w : World} {c : Code} : Go.step P (lone (b.at a (.inScope c :: k)) cs w) = .next (lone (b.at a k) cs w) :=
  step_lone_go (by simp [stepG, stepG.exec, Frame.at])
theorem z3q : ∀ {cs : List Sv}, wM cs = true → ∀ (i : Nat) c, cs[i]? = some c → c.plain = true
  | [], _, i, c, h => by simp at h
  | x :: cs, hp, 0, c, h => by simp only [wM, Bool.and_eq_true] at hp; simp at h; subst h; exact hp.1
  | x :: cs, hp, i + 1, c, h => by simp only [wM, Bool.and_eq_true] at hp; exact z3q hp.2 i c (by simpa using h)
theorem z2v {e : Nat × Option Ob} {g : Nat} {o : Ob} (h : z0w e = (g, some o)) : e = (g, some o) ∧ ∀ cs, o = .box cs → wM cs = true := by
  obtain ⟨g', o'⟩ := e
  cases o' with
  | none => injection h with _ h; cases h
  | some ob =>
    cases ob with
    | box cs =>
      change (g', cond (wM cs) (some (Ob.box cs)) none) = _ at h
      cases hp : wM cs with
      | false => rw [hp] at h; injection h with _ h; cases h
      | true => rw [hp] at h; injection h with h1 h2; injection h2 with h2; subst h1; subst h2; exact ⟨rfl, fun cs' e => by injection e with e; subst e; exact hp⟩
    | _ => injection h with h1 h2; injection h2 with h2; subst h1; subst h2; exact ⟨rfl, fun cs' e => by cases e⟩
theorem z6M (e : Nat × Option Ob) : (z0w e).1 = e.1 := by
  obtain ⟨g', o'⟩ := e
  cases o' with
  | none => rfl
  | some ob => cases ob <;> rfl
theorem z7U {e : Nat × Option Ob} {g n : Nat} (h : z7T e g n = true) : e = (g, some (.tok n 0)) := by
  unfold z7T at h
  split at h
  · simp only [Bool.and_eq_true] at h; rw [uJ h.1, uJ h.2]
  · cases h
section
variable {X : Ctx} {κ : Kap} {s : St} {a : Act} {w : World}
theorem wD (s : St) : ∀ (l : List Lv) (k : Nat), (k ∉ gZ l ∧ zG (yA s l) k = (0, none)) ∨ (k ∈ gZ l ∧ (zG (yA s l) k = z0w (zG s.ar k) ∨ ∃ n, zG (yA s l) k = (s.gen k + 1, some (.tok n 0))))
  | [], k => .inl ⟨by simp [gZ], rfl⟩
  | .s i :: r, k => wD s r k
  | .o i key n :: r, k => by
    have ih := wD s r k
    have : yA s (.o i key n :: r) = (match s.get i with | .nilS => (key, s.gen key + 1, some (.tok n 0)) | _ => (key, z0w (zG s.ar key))) :: yA s r := rfl
    rw [this]
    have hk : gZ (.o i key n :: r) = key :: gZ r := rfl
    rw [hk]
    by_cases e : key = k
    · subst e
      refine .inr ⟨by simp, ?_⟩
      split
      · rw [zF, if_pos rfl]; exact .inr ⟨n, rfl⟩
      · rw [zF, if_pos rfl]; exact .inl rfl
    · have : zG ((match s.get i with | .nilS => (key, s.gen key + 1, some (.tok n 0)) | _ => (key, z0w (zG s.ar key))) :: yA s r) k = zG (yA s r) k := by
        split <;> rw [zF, if_neg e]
      rw [this]
      rcases ih with ⟨h1, h2⟩ | ⟨h1, h2⟩
      · exact .inl ⟨by simp [h1]; exact fun h => e h.symm, h2⟩
      · exact .inr ⟨by simp [h1], h2⟩
  | .h _ :: r, k => wD s r k
  | .a i :: r, k => by
    have ih := wD s r k
    have : yA s (.a i :: r) = (i, z0w (zG s.ar i)) :: yA s r := rfl
    rw [this]
    have hk : gZ (.a i :: r) = i :: gZ r := rfl
    rw [hk, zF]
    by_cases e : i = k
    · subst e
      exact .inr ⟨by simp, by rw [if_pos rfl]; exact .inl rfl⟩
    · rw [if_neg e]
      rcases ih with ⟨h1, h2⟩ | ⟨h1, h2⟩
      · exact .inl ⟨by simp [h1]; exact fun h => e h.symm, h2⟩
      · exact .inr ⟨by simp [h1], h2⟩
theorem z8J {M : Nat → Nat → Prop} {E' : Env} {ks : List Nat} (hA : ∀ k, k ∈ ks → zG E'.ar k = z0w (zG s.ar k) ∨ ∃ n, zG E'.ar k = (s.gen k + 1, some (.tok n 0))) {v : Value} {x : Sv} (h : RelS w M κ s.env v x) : RelS w M κ E' v (z9e ks x) := by
  have gen : ∀ k g, k ∈ ks → g ≤ s.gen k → g ≤ E'.gen k := fun k g hk hg => by
    unfold Env.gen
    rcases hA k hk with h | ⟨n, h⟩ <;> rw [h]
    · rw [z6M]; exact hg
    · show g ≤ s.gen k + 1; omega
  have ob : ∀ k g o, k ∈ ks → g ≤ s.gen k → E'.ob k g = some o → s.env.ob k g = some o := fun k g o hk hg ho => by
    rw [ob_iff] at ho ⊢
    rcases hA k hk with h | ⟨n, h⟩ <;> rw [h] at ho
    · exact (z2v ho).1
    · injection ho with h1 h2; omega
  cases h with
  | undef => exact .undef _
  | skp => exact .skp
  | nilF => exact .nilF
  | bld _ _ _ h _ => exact .d _ _ h
  | d _ _ h => exact .d _ _ h
  | nilS => exact .nilS
  | right _ k g n xs h1 h2 h3 =>
    show RelS w M κ E' v (cond (has ks k) (.right k g n xs) (.d (.sl xs)))
    cases hk : has ks k with
    | false => exact .d _ _ h1
    | true =>
      have hk := hasIff.1 hk
      exact .right _ _ _ _ _ h1 (gen k g hk h2) (fun n' l ho => h3 n' l (ob k g _ hk h2 ho))
  | row _ k g h2 h3 =>
    show RelS w M κ E' v (cond (has ks k) (.row k g) .undef)
    cases hk : has ks k with
    | false => exact .undef _
    | true =>
      have hk := hasIff.1 hk
      exact .row _ _ _ (gen k g hk h2) (fun n' l ho => h3 n' l (ob k g _ hk h2 ho))
  | ref _ k g o h2 h3 =>
    show RelS w M κ E' v (cond (has ks k) (.ref k g o) .undef)
    cases hk : has ks k with
    | false => exact .undef _
    | true =>
      have hk := hasIff.1 hk
      exact .ref _ _ _ _ (gen k g hk h2) (fun o' ho => h3 o' (ob k g _ hk h2 ho))
  | rref _ k g n i o h2 h3 =>
    show RelS w M κ E' v (cond (has ks k) (.rref k g n i o) .undef)
    cases hk : has ks k with
    | false => exact .undef _
    | true =>
      have hk := hasIff.1 hk
      exact .rref _ _ _ _ _ _ (gen k g hk h2) (fun o' ho => h3 o' (ob k g _ hk h2 ho))
  | iel b o x off h => exact .iel _ _ _ _ h
  | hp b id off h => exact .hp _ _ _ h
  | lent _ id off ver n xs h _ _ => exact .d _ _ h
  | fn f vs ws first cap p1 p2 h1 h2 => exact .fn _ _ _ _ _ p1 p2 (RelSs.conv (.refl _ _) (fun _ _ h => h) p1 h1) (RelSs.conv (.refl _ _) (fun _ _ h => h) p2 h2)
  | tup vs svs h =>
    show RelS w M κ E' _ (cond (wM svs) (.tup svs) .undef)
    cases hp : wM svs with
    | false => exact .undef _
    | true => exact .tup _ _ (RelSs.conv (.refl _ _) (fun _ _ h => h) hp h)
theorem Rel.restrict (R : Rel X κ s a w) (l : List Lv) : Rel X κ (restrict s l) a w := by
  have hlook := wD s l
  have hA : ∀ k, k ∈ gZ l → zG (yA s l) k = z0w (zG s.ar k) ∨ ∃ n, zG (yA s l) k = (s.gen k + 1, some (.tok n 0)) := fun k hk => by
    rcases hlook k with ⟨h, -⟩ | ⟨-, h⟩
    · exact absurd hk h
    · exact h
  have cut : ∀ i, RelS w (Mut X.M0 κ) κ (Nt.restrict s l).env (a.tmps.getD i Go.undef) (z9e (gZ l) (s.get i)) := fun i => z8J (E' := (Nt.restrict s l).env) hA (R.slots i)
  have sl : ∀ (l' : List Lv) i, RelS w (Mut X.M0 κ) κ (Nt.restrict s l).env (a.tmps.getD i Go.undef) (z2x (jT s (gZ l) (yA s l) l') i) := by
    intro l'
    induction l' with
    | nil => intro i; exact .undef _
    | cons x l' ih =>
      intro i
      cases x with
      | s j =>
        show RelS _ _ _ _ _ (z2x ((j, z9e (gZ l) (s.get j)) :: _) i)
        rw [vL]; split
        · rename_i e; subst e; exact cut j
        · exact ih i
      | a j => exact ih i
      | h n => exact ih i
      | o j key n =>
        show RelS _ _ _ _ _ (z2x ((match s.get j with | .nilS => (j, cond (z7T (zG (yA s l) key) (s.gen key + 1) n) (.right key (s.gen key + 1) n []) (.d (.sl []))) | v => (j, z9e (gZ l) v)) :: _) i)
        split
        · rename_i hs
          rw [vL]; split
          · rename_i e; subst e
            have hv := R.slots j
            rw [hs] at hv
            generalize a.tmps.getD j Go.undef = v at hv
            cases hv
            cases hb : z7T (zG (yA s l) key) (s.gen key + 1) n with
            | false => exact .d _ _ .nil
            | true =>
              have hb := z7U hb
              refine .right _ _ _ _ _ .nil (by show s.gen key + 1 ≤ (zG (yA s l) key).1; rw [hb]; exact Nat.le_refl _) (fun n' l' ho => ?_)
              rw [ob_iff] at ho
              change zG (yA s l) key = _ at ho
              rw [hb] at ho
              injection ho with _ ho; injection ho with ho; injection ho with e1 e2; subst e1; subst e2
              exact ⟨rfl, Nat.le_refl _, fun _ => ⟨fun x hx => by simp at hx, .inl rfl⟩⟩
          · exact ih i
        · rw [vL]; split
          · rename_i e; subst e; exact cut j
          · exact ih i
  refine { m0 := R.m0, defs := R.defs, size := R.size, kept := R.kept, k0 := R.k0, g0 := R.g0, kb := R.kb, ki := R.ki, hn := R.hn, hp0 := R.hp0, slots := fun i => sl l i, obs := fun k g ob h => ?_, heap := fun id cs hc => ?_ }
  · have h := ob_iff.1 (show (Nt.restrict s l).env.ob k g = some ob from h)
    change zG (yA s l) k = _ at h
    rcases hlook k with ⟨-, h1⟩ | ⟨-, h1 | ⟨n, h1⟩⟩ <;> rw [h1] at h
    · injection h with _ h; cases h
    · obtain ⟨h, hb⟩ := z2v h
      have := R.obs k g ob (show s.env.ob k g = some ob from ob_iff.2 h)
      cases ob with
      | agg x => exact this
      | row n xs => exact this
      | tok n l => trivial
      | box cs =>
        obtain ⟨b, q1, q2⟩ := this
        refine ⟨b, q1, fun i c hi => ?_⟩
        obtain ⟨v, r1, r2, r3, r4⟩ := q2 i c hi
        exact ⟨v, r1, r2, RelS.conv (.refl _ _) (fun _ _ h => h) (z3q (hb cs rfl) i c hi) r3, r4⟩
    · injection h with _ h; injection h with h; subst h; trivial
  · obtain ⟨b, h1, h2⟩ := R.heap id cs hc
    refine ⟨b, h1, fun i c hi => ?_⟩
    obtain ⟨v, g1, g2, g3, g4⟩ := h2 i c hi
    exact ⟨v, g1, g2, g3, RelHc.conv (.refl _ _) (.refl _) (fun _ _ h => h) rfl g4⟩
end
section
variable {X : Ctx} {κ : Kap} {s : St} {a : Act} {w : World}
def z7Y (κ : Kap) (n : Nat) : Kap
  | .hp id => if id < n then κ (.hp id) else none
  | .ho id off => if id < n then κ (.ho id off) else none
  | k => κ k
theorem gV {n : Nat} {k : Key} {q : Nat × Nat} (h : z7Y κ n k = some q) : κ k = some q := by
  cases k with
  | ar i => exact h
  | hp id =>
    change (if id < n then κ (.hp id) else none) = some q at h
    split at h
    · exact h
    · cases h
  | ho id off =>
    change (if id < n then κ (.ho id off) else none) = some q at h
    split at h
    · exact h
    · cases h
theorem wC (n : Nat) (M0 : Nat → Nat → Prop) : Keeps w (Mut M0 κ) w (Mut M0 (z7Y κ n)) :=
  ⟨fun b o v h _ => h, fun b o v _ hm hm' => hm (hm'.elim .inl fun ⟨k, lo, h, hlo⟩ => .inr ⟨k, lo, gV h, hlo⟩)⟩
theorem z3w (n : Nat) : ∀ (fr : List (Nat × Sv)) (i : Nat), z2x (z6S n fr) i = cutH n (z2x fr i)
  | [], i => by simp [z6S, z2x, cutH, hLt]
  | (j, v) :: r, i => by
    rw [z6S, vL, vL, z3w n r i]
    split <;> rfl
theorem z0o (n : Nat) : ∀ (ar : List (Nat × Nat × Option Ob)) (k : Nat), zG (z5t n ar) k = ((zG ar k).1, (zG ar k).2.map (z6T n))
  | [], k => rfl
  | (j, g, some o) :: r, k => by
    rw [z5t, zF, zF, z0o n r k]
    split <;> rfl
  | (j, g, none) :: r, k => by
    rw [z5t, zF, zF, z0o n r k]
    split <;> rfl
theorem z5u (n : Nat) : ∀ (h : H) (m id : Nat), (z1v n h m)[id]? = if id < m then (h[id]?).map (z4U n) else none
  | h, 0, id => by simp [z1v]
  | [], m + 1, id => by simp [z1v]
  | cs :: r, m + 1, 0 => by simp [z1v]
  | cs :: r, m + 1, id + 1 => by
    rw [z1v, List.getElem?_cons_succ, z5u n r m id, List.getElem?_cons_succ]
    by_cases h : id < m
    · rw [if_pos h, if_pos (by omega)]
    · rw [if_neg h, if_neg (by omega)]
theorem z5v (n : Nat) : ∀ (h : H) (m : Nat), (z1v n h m).length = min h.length m
  | h, 0 => by simp [z1v]
  | [], m + 1 => by simp [z1v]
  | cs :: r, m + 1 => by rw [z1v, List.length_cons, List.length_cons, z5v n r m]; omega
theorem z2k (n : Nat) : ∀ (cs : List Sv) (i : Nat) (c : Sv), (z4U n cs)[i]? = some c → ∃ x, cs[i]? = some x ∧ c = cutH n x
  | [], i, c, h => by simp [z4U] at h
  | x :: r, 0, c, h => by simp [z4U] at h; exact ⟨x, rfl, h.symm⟩
  | x :: r, i + 1, c, h => by simpa using z2k n r i c (by simpa [z4U] using h)
theorem z7W {n : Nat} {o : Ob} {m l : Nat} (h : z6T n o = .tok m l) : o = .tok m l := by cases o <;> first | exact h | cases h
theorem z7V {n : Nat} {o : Ob} {m : Nat} {xs : List D} (h : z6T n o = .row m xs) : o = .row m xs := by cases o <;> first | exact h | cases h
theorem z2Q {n : Nat} {o : Ob} : (z6T n o).isTok = o.isTok := by cases o <;> rfl
theorem z1V (n k : Nat) : (trim n s).env.gen k = s.gen k := by
  show (zG (z5t n s.ar) k).1 = _
  rw [z0o]; rfl
theorem z2R {n k g : Nat} {o : Ob} (h : (trim n s).env.ob k g = some o) : ∃ o', s.env.ob k g = some o' ∧ o = z6T n o' := by
  rw [ob_iff] at h
  change zG (z5t n s.ar) k = _ at h
  rw [z0o] at h
  injection h with h1 h2
  cases ho : (zG s.ar k).2 with
  | none => rw [ho] at h2; cases h2
  | some o' =>
    rw [ho] at h2
    injection h2 with h2
    exact ⟨o', ob_iff.2 (by show zG s.ar k = (g, some o'); rw [← h1, ← ho]), h2.symm⟩
theorem z8K {n id off b : Nat} (hl : hLt n (.hp id off) = true) (h : κ (.hp id) = some (b, 0)) : z7Y κ n (.hp id) = some (b, 0) := by
  have hl : id < n := z4c hl
  show (if id < n then κ (.hp id) else none) = _
  rw [if_pos hl]; exact h
mutual
theorem RelS.cutT {n : Nat} {M0 : Nat → Nat → Prop} {v : Value} {x : Sv} (hl : hLt n x = true) (h : RelS w (Mut M0 κ) κ s.env v x) : RelS w (Mut M0 (z7Y κ n)) (z7Y κ n) (trim n s).env v x := by
  cases h with
  | undef v => exact .undef v
  | skp => exact .skp
  | nilF => exact .nilF
  | bld v x l h g => exact .bld v x l (h.keep (wC n M0)) g
  | d v x h => exact .d v x (h.keep (wC n M0))
  | nilS => exact .nilS
  | right v k g m xs h hg hr => exact .right v k g m xs (h.keep (wC n M0)) (by rw [z1V]; exact hg) (by
      intro n' l hob
      obtain ⟨o', ho, e⟩ := z2R hob
      obtain rfl := z7W e.symm
      obtain ⟨h1, h2, h3⟩ := hr n' l ho
      exact ⟨h1, h2, fun e => (h3 e).stay rfl (fun _ _ v h => ⟨v, h⟩) (fun _ _ _ _ h => h)⟩)
  | row v k g hg h => exact .row v k g (by rw [z1V]; exact hg) (by
      intro m xs hob
      obtain ⟨o', ho, e⟩ := z2R hob
      obtain rfl := z7V e.symm
      exact h m xs ho)
  | ref v k g off hg h => exact .ref v k g off (by rw [z1V]; exact hg) (by
      intro ob' hob hnt
      obtain ⟨o', ho, rfl⟩ := z2R hob
      exact h o' ho (by rw [← z2Q (n := n)]; exact hnt))
  | rref v k g m i off hg h => exact .rref v k g m i off (by rw [z1V]; exact hg) (by
      intro ob' hob hnt
      obtain ⟨o', ho, rfl⟩ := z2R hob
      exact h o' ho (by rw [← z2Q (n := n)]; exact hnt))
  | iel b o x off h => exact .iel b o x off (h.keep (wC n M0))
  | hp b i off h => exact .hp b i off (z8K hl h)
  | lent v id off ver m xs h hle hlt => exact .lent v id off ver m xs (h.keep (wC n M0)) (Nat.le_trans hle (Nat.le_succ _)) (by
      intro e
      change s.hv + 1 = ver at e
      change ver ≤ s.hv at hle
      omega)
  | fn f vs ws first cap p1 p2 h1 h2 =>
    have hl : z8l n first = true ∧ z8l n cap = true := by simpa only [hLt, Bool.and_eq_true] using hl
    exact .fn f vs ws first cap p1 p2 (RelSs.cutT hl.1 h1) (RelSs.cutT hl.2 h2)
  | tup vs svs h => exact .tup vs svs (RelSs.cutT hl h)
theorem RelSs.cutT {n : Nat} {M0 : Nat → Nat → Prop} {v : List Value} {x : List Sv} (hl : z8l n x = true) (h : RelSs w (Mut M0 κ) κ s.env v x) : RelSs w (Mut M0 (z7Y κ n)) (z7Y κ n) (trim n s).env v x := by
  cases h with
  | nil => exact .nil
  | cons v y vs ys h r =>
    have hl : hLt n y = true ∧ z8l n ys = true := by simpa only [z8l, Bool.and_eq_true] using hl
    exact .cons v y vs ys (RelS.cutT hl.1 h) (RelSs.cutT hl.2 r)
end
theorem RelS.cut {n : Nat} {M0 : Nat → Nat → Prop} {v : Value} {x : Sv} (h : RelS w (Mut M0 κ) κ s.env v x) : RelS w (Mut M0 (z7Y κ n)) (z7Y κ n) (Nt.trim n s).env v (Nt.cutH n x) := by
  unfold Nt.cutH
  cases hl : hLt n x with
  | false =>
    cases x with
    | lent id off ver m xs => cases h with | lent _ _ _ _ _ _ hx _ _ => exact .d _ _ (hx.keep (wC n M0))
    | _ => exact .undef _
  | true => exact RelS.cutT hl h
theorem z6y {n : Nat} {x : Sv} (h : x.plain = true) : (Nt.cutH n x).plain = true := by
  unfold Nt.cutH
  cases hLt n x with
  | false => cases x <;> rfl
  | true => exact h
theorem Rel.trim (R : Rel X κ s a w) {n : Nat} (hX : ∀ id r, X.κ0 (.hp id) = some r → id < n) : Rel X (z7Y κ n) (Nt.trim n s) a w := by
  refine { m0 := R.m0, defs := R.defs, size := R.size, kept := R.kept, k0 := R.k0.trans (wC n X.M0), g0 := R.g0, kb := fun key b lo h => R.kb key b lo (gV h), ki := fun k1 k2 b l1 l2 h1 h2 => R.ki k1 k2 b l1 l2 (gV h1) (gV h2), hn := fun id r h => ?_, hp0 := fun id b h => ?_, slots := fun i => ?_, obs := fun k g ob h => ?_, heap := fun id cs hc => ?_ }
  · show id < (z1v n s.h n).length
    rw [z5v]
    have h1 := R.hn id r (gV h)
    change (if id < n then κ (.hp id) else none) = some r at h
    split at h
    · omega
    · cases h
  · show (if id < n then κ (.hp id) else none) = _
    rw [if_pos (hX id _ h)]; exact R.hp0 id b h
  · show RelS _ _ _ _ _ (z2x (z6S n s.fr) i)
    rw [z3w]; exact (R.slots i).cut
  · obtain ⟨o', ho, rfl⟩ := z2R (show (Nt.trim n s).env.ob k g = some ob from h)
    have := R.obs k g o' ho
    cases o' with
    | agg x =>
      obtain ⟨b, h1, h2⟩ := this
      refine ⟨b, h1, fun i c hi => ?_⟩
      obtain ⟨v, r1, r2, r3, r4, r5⟩ := h2 i c hi
      exact ⟨v, r1, r2, r3, r4.keep (wC n X.M0), r5⟩
    | box cs =>
      obtain ⟨b, h1, h2⟩ := this
      refine ⟨b, h1, fun i c hi => ?_⟩
      obtain ⟨x, hx, rfl⟩ := z2k n cs i c hi
      obtain ⟨v, r1, r2, r3, r4⟩ := h2 i x hx
      exact ⟨v, r1, r2, r3.cut, r4⟩
    | row m xs =>
      obtain ⟨b, h1, h2, h3⟩ := this
      refine ⟨b, h1, fun i c hi => ?_, h3⟩
      obtain ⟨v, r1, r2, r3, r4, r5⟩ := h2 i c hi
      exact ⟨v, r1, r2, r3, r4.keep (wC n X.M0), r5⟩
    | tok m l => trivial
  · change (z1v n s.h n)[id]? = some cs at hc
    rw [z5u] at hc
    split at hc
    · rename_i hid
      cases hs : s.h[id]? with
      | none => rw [hs] at hc; cases hc
      | some cs0 =>
        rw [hs] at hc
        injection hc with hc
        subst hc
        obtain ⟨b, h1, h2⟩ := R.heap id cs0 hs
        refine ⟨b, by show (if id < n then κ (.hp id) else none) = _; rw [if_pos hid]; exact h1, fun i c hi => ?_⟩
        obtain ⟨x, hx, rfl⟩ := z2k n cs0 i c hi
        obtain ⟨v, g1, g2, g3, g4⟩ := h2 i x hx
        refine ⟨v, g1, g2, g3, ?_⟩
        cases x with
        | own m xs => exact ⟨g4.1.keep (wC n X.M0), g4.2.stay (by show (if id < n then κ (.ho id i) else none) = _; rw [if_pos hid]) (fun _ _ v h => ⟨v, h⟩) (fun _ _ _ _ h => h)⟩
        | _ =>
          have q1 := z6y (n := n) g4.1
          have q2 := g4.2.cut (n := n)
          revert q1 q2
          generalize hz : Nt.cutH n _ = z
          intro q1 q2
          cases z with
          | own m xs => simp [Sv.plain] at q1
          | _ => exact ⟨q1, q2⟩
    · cases hc
theorem Rel.trimL (R : Rel X κ s a w) {c : Cx} {lv : List Lv} (hX : ∀ id r, X.κ0 (.hp id) = some r → id < c.nh) : ∃ κ', Rel X κ' (Nt.trimL c lv s) a w := by
  unfold Nt.trimL
  split
  · exact ⟨_, R.trim fun id r h => by have := hX id r h; omega⟩
  · exact ⟨_, R⟩
end
def Fin (c : Cx) (X : Ctx) (a : Act) (w : World) : Prop := ∃ κ s, fin c s ∧ Rel X κ s a w
def Ok (c : Cx) (K : List KI) (s : St) : Prop := ∀ X κ a w, (∀ id r, X.κ0 (.hp id) = some r → id < c.nh) → Rel X κ s a w → Runs c.P (Fin c X) (gM K) a w
theorem vC {c : Cx} (hT : ∀ f vs h rs h', c.trip f vs h rs h' → Trip c.P f vs h rs h') {X : Ctx} (hX : ∀ id r, X.κ0 (.hp id) = some r → id < c.nh) : ∀ (n : Nat) (st : Bool) (K : List KI) (s : St) (κ : Kap) (a : Act) (w : World), evI c (Ok c) n st K s → Rel X κ s a w → Runs c.P (Fin c X) K a w
  | 0, st, K, s, κ, a, w, h, R => h.elim
  | n + 1, st, K, s, κ, a, w, h, R => by
    unfold evI at h
    cases K with
    | nil => exact Runs.nil ⟨κ, s, h, R⟩
    | cons x K =>
      cases x with
      | blk id => exact Runs.step (a' := a) (fun _ _ _ => step_inBlock) (vC hT hX n true K s κ a w h R)
      | sc b => exact Runs.step (a' := a) (fun _ _ _ => z5P) (vC hT hX n true K s κ a w h R)
      | loop b =>
        obtain ⟨r, -, h1⟩ := zD h
        obtain ⟨lv, -, h2⟩ := zD h1
        obtain ⟨κ', R'⟩ := R.trimL (lv := lv) hX
        exact Runs.unroll_head (h2 X κ' a w hX (R'.restrict lv))
      | code co =>
        cases co with
        | skip => exact Runs.step (a' := a) (fun _ _ _ => step_skip) (vC hT hX n true K s κ a w h R)
        | seq p q => exact Runs.step (K' := .code p :: .code q :: K) (a' := a) (fun _ _ _ => step_seq) (vC hT hX n st _ s κ a w h R)
        | cond x p q =>
          obtain ⟨d, hd, h1⟩ := z3G h
          have hx := R.opv x
          rw [hd] at hx
          generalize hu : a.eval x = u at hx
          cases hx with | d _ _ hx =>
          rcases h1 with ⟨rfl, h1⟩ | ⟨rfl, h1⟩
          · exact Runs.step (K' := .code p :: K) (a' := a) (fun _ _ _ => step_cond (t := true) (by rw [hu, hx.bool_inv])) (vC hT hX n true _ s κ a w h1 R)
          · exact Runs.step (K' := .code q :: K) (a' := a) (fun _ _ _ => step_cond (t := false) (by rw [hu, hx.bool_inv])) (vC hT hX n true _ s κ a w h1 R)
        | scope b => exact Runs.step (K' := .code b :: .sc b :: K) (a' := a) (fun _ _ _ => z7O) (vC hT hX n st _ s κ a w h R)
        | label l => exact Runs.step (a' := a) (fun _ _ _ => step_label) (vC hT hX n st K s κ a w h R)
        | block id b => exact Runs.step (K' := .code b :: .blk id :: K) (a' := a) (fun _ _ _ => step_block) (vC hT hX n st _ s κ a w h R)
        | loop b =>
          obtain ⟨r, -, h1⟩ := zD h
          obtain ⟨lv, -, h2⟩ := zD h1
          obtain ⟨κ', R'⟩ := R.trimL (lv := lv) hX
          exact Runs.step (K' := .code b :: .loop b :: K) (a' := a) (fun _ _ _ => step_loop) (h2 X κ' a w hX (R'.restrict lv))
        | exit id =>
          obtain ⟨K', hK, h1⟩ := zD h
          exact Runs.step (K' := K') (a' := a) (fun _ k _ => step_exit (uF hK k)) (vC hT hX n true K' s κ a w h1 R)
        | ret => exact Runs.ret ⟨κ, s, h, R⟩
        | region id ops draw =>
          dsimp only at h
          split at h
          · rename_i lv hj
            obtain ⟨κ', R'⟩ := R.trimL (lv := lv) hX
            exact h X κ' a w hX (R'.restrict lv)
          · exact Runs.code (z7D hT h (fun κ' s' a' w' h' R' => ⟨rfl, vC hT hX n true K s' κ' a' w' h' R'⟩) R)
        | _ => exact h.elim
theorem z8x {c : Cx} (hT : ∀ f vs h rs h', c.trip f vs h rs h' → Trip c.P f vs h rs h') {n : Nat} {K : List KI} {s : St} (h : evI c (Ok c) n false (gM K) s) : Ok c K s :=
  fun X κ a w hX R => vC hT hX n false _ s κ a w h R
section
variable {P : Program} {X : Ctx} {κ : Kap} {s : St} {a : Act} {w : World}
def z6n (κ : Kap) (r : Option Nat) : Kap
  | .ar 0 => match r with
    | some r => κ (.ar r)
    | none => none
  | .ar _ => none
  | k => κ k
theorem z0b {r : Option Nat} {k : Key} {q : Nat × Nat} (h : z6n κ r k = some q) : ∃ k', κ k' = some q ∧ (k' = k ∨ ∃ i, r = some i ∧ k = .ar 0 ∧ k' = .ar i) := by
  cases k with
  | ar i =>
    cases i with
    | zero =>
      cases r with
      | none => cases h
      | some r => exact ⟨_, h, .inr ⟨r, rfl, rfl, rfl⟩⟩
    | succ i => cases h
  | hp id => exact ⟨_, h, .inl rfl⟩
  | ho id off => exact ⟨_, h, .inl rfl⟩
theorem jO (κ : Kap) (M0 : Nat → Nat → Prop) (r : Option Nat) : Keeps w (Mut M0 κ) w (Mut M0 (z6n κ r)) := by
  refine ⟨fun b o v h _ => h, fun b o v _ hm hm' => hm ?_⟩
  rcases hm' with h | ⟨k, lo, h, hlo⟩
  · exact .inl h
  · obtain ⟨k', h', -⟩ := z0b h
    exact .inr ⟨k', lo, h', hlo⟩
theorem Rel.after (R : Rel X κ s a w) (r : Option Nat) (hb : ∀ b, X.S b ↔ ∃ key lo, X.κ0 key = some (b, lo)) : z4v X.w0 X.M0 X.κ0 s.h w (z6n κ r) where
  kept := R.kept
  k0 := R.k0.trans (jO κ X.M0 r)
  g0 := R.g0
  kb := fun key b lo h => by
    obtain ⟨k', h', -⟩ := z0b h
    exact R.kb k' b lo h'
  ki := fun k1 k2 b l1 l2 h1 h2 => by
    obtain ⟨k1', g1, e1⟩ := z0b h1
    obtain ⟨k2', g2, e2⟩ := z0b h2
    have := R.ki _ _ _ _ _ g1 g2
    subst this
    rcases e1 with e1 | ⟨i, -, e1, f1⟩ <;> rcases e2 with e2 | ⟨j, -, e2, f2⟩
    · rw [← e1, ← e2]
    · subst e1; subst e2
      rw [f2] at h1
      cases j with
      | zero => exact f2
      | succ j => cases h1
    · subst e2; subst e1
      rw [f1] at h2
      cases i with
      | zero => exact f1.symm
      | succ i => cases h2
    · rw [e1, e2]
  hn := fun id q h => R.hn id q h
  hp := fun id b h => R.hp0 id b h
  heap := fun id cs hc => by
    obtain ⟨b, h1, h2⟩ := R.heap id cs hc
    refine ⟨b, h1, fun i c hi => ?_⟩
    obtain ⟨v, g1, g2, g3, g4⟩ := h2 i c hi
    exact ⟨v, g1, g2, g3, RelHc.conv (κ := κ) (κ' := z6n κ r) (jO κ X.M0 r) (.refl _) (fun _ _ h => h) rfl g4⟩
end
end Nt

