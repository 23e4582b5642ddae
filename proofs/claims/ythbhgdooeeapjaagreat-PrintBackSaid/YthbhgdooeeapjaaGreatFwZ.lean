import Derived.Test.YthbhgdooeeapjaaGreatFwY
namespace Nt
open Go
set_option linter.unusedVariables false
set_option linter.unusedSimpArgs false
def KI.item : KI → Item
  | .code c => .code c
  | .blk id => .inBlock id
  | .loop b => .inLoop b
  | .sc b => .inScope b
def y8J (K : List KI) : List Item := K.map KI.item
def Runs (P : Program) (Q : Act → World → Prop) (K : List KI) (a : Act) (w : World) : Prop :=
  ∀ (b : Frame) (k : List Item) (cs : List Frame), ∃ e a' w', (e = .normal ∨ e = .ret) ∧ Q a' w' ∧ Arrives P (lone (b.at a (y8J K ++ k)) cs w) b k cs e a' w'
section
variable {P : Program} {Q : Act → World → Prop} {a : Act} {w : World} {K : List KI}
theorem Runs.step {K' : List KI} {a' : Act} (hs : ∀ (b : Frame) (k : List Item) (cs : List Frame), Go.step P (lone (b.at a (y8J K ++ k)) cs w) = .next (lone (b.at a (y8J K' ++ k)) cs w)) (h : Runs P Q K' a w) : Runs P Q K a w :=
  fun b k cs => let ⟨e, a', w', h1, h2, h3⟩ := h b k cs; ⟨e, a', w', h1, h2, .of_steps (.one (hs b k cs)) h3⟩
theorem Runs.nil (h : Q a w) : Runs P Q [] a w := fun b k cs => ⟨.normal, a, w, .inl rfl, h, (Steps.refl (P := P) _ : Steps P _ _)⟩
theorem Runs.ret (h : Q a w) : Runs P Q (.code .ret :: K) a w := fun b k cs => ⟨.ret, a, w, .inr rfl, h, _, .one step_ret⟩
theorem Runs.code {c : Code} (h : c.wp P (fun e a w => e = .normal ∧ Runs P Q K a w) a w) : Runs P Q (.code c :: K) a w := fun b k cs => by
  obtain ⟨e, a1, w1, ⟨rfl, h1⟩, h2⟩ := h b (y8J K ++ k) cs
  obtain ⟨e, a2, w2, h3, h4, h5⟩ := h1 b k cs
  exact ⟨e, a2, w2, h3, h4, .of_steps h2 h5⟩
theorem z5k {id : Nat} : ∀ {K K' : List KI}, v1h id K = some K' → ∀ k, exitTo id (y8J K ++ k) = some (y8J K' ++ k)
  | .blk j :: K, K', h, k => by
    unfold v1h at h
    show exitTo id (.inBlock j :: (y8J K ++ k)) = _
    unfold exitTo
    by_cases e : j = id
    · subst e; simp at h; subst h; simp
    · simp only [y4m e, cond_false] at h
      simp only [beq_iff_eq, e, if_false]
      exact z5k h k
  | .code c :: K, K', h, k => z5k (K := K) h k
  | .loop c :: K, K', h, k => z5k (K := K) h k
  | .sc c :: K, K', h, k => z5k (K := K) h k
def z2Y : List KI → List KI
  | .loop b :: K => .code b :: .loop b :: K
  | K => K
theorem Runs.unroll_head (h : Runs P Q (z2Y K) a w) : Runs P Q K a w := by
  cases K with
  | nil => exact h
  | cons x K =>
    cases x with
    | loop b => exact Runs.step (a' := a) (fun _ _ _ => step_inLoop) h
    | _ => exact h
end
theorem v2z {P : Program} {b : Frame} {a : Act} {k : List Item} {cs : List Frame} {w : World} {c : Code} : Go.step P (lone (b.at a (.code (.scope c) :: k)) cs w) = .next (lone (b.at a (.code c :: .inScope c :: k)) cs w) :=
  step_lone_go (by simp [stepG, stepG.exec, Frame.at])
theorem y9b {P : Program} {b : Frame} {a : Act} {k : List Item} {cs : List Frame} {w : World} {c : Code} : Go.step P (lone (b.at a (.inScope c :: k)) cs w) = .next (lone (b.at a k) cs w) :=
  step_lone_go (by simp [stepG, stepG.exec, Frame.at])
theorem y5N : ∀ {cs : List Sv}, z3W cs = true → ∀ (i : Nat) c, cs[i]? = some c → c.plain = true
  | [], _, i, c, h => by simp at h
  | x :: cs, hp, 0, c, h => by simp only [z3W, Bool.and_eq_true] at hp; simp at h; subst h; exact hp.1
  | x :: cs, hp, i + 1, c, h => by simp only [z3W, Bool.and_eq_true] at hp; exact y5N hp.2 i c (by simpa using h)
theorem y4I {e : Nat × Option Ob} {g : Nat} {o : Ob} (h : z9y e = (g, some o)) : e = (g, some o) ∧ ∀ cs, o = .box cs → z3W cs = true := by
  obtain ⟨g', o'⟩ := e
  cases o' with
  | none => injection h with _ h; cases h
  | some ob =>
    cases ob with
    | box cs =>
      change (g', cond (z3W cs) (some (Ob.box cs)) none) = _ at h
      cases hp : z3W cs with
      | false => rw [hp] at h; injection h with _ h; cases h
      | true => rw [hp] at h; injection h with h1 h2; injection h2 with h2; subst h1; subst h2; exact ⟨rfl, fun cs' e => by injection e with e; subst e; exact hp⟩
    | _ => injection h with h1 h2; injection h2 with h2; subst h1; subst h2; exact ⟨rfl, fun cs' e => by cases e⟩
theorem v0w (e : Nat × Option Ob) : (z9y e).1 = e.1 := by
  obtain ⟨g', o'⟩ := e
  cases o' with
  | none => rfl
  | some ob => cases ob <;> rfl
theorem v2G {e : Nat × Option Ob} {g n : Nat} (h : zP e g n = true) : e = (g, some (.tok n 0)) := by
  unfold zP at h
  split at h
  · simp only [Bool.and_eq_true] at h; rw [z5r h.1, z5r h.2]
  · cases h
section
variable {X : Ctx} {κ : Kap} {s : St} {a : Act} {w : World}
theorem z3F (s : St) : ∀ (l : List Lv) (k : Nat), (k ∉ z8r l ∧ vA (gO s l) k = (0, none)) ∨ (k ∈ z8r l ∧ (vA (gO s l) k = z9y (vA s.ar k) ∨ ∃ n, vA (gO s l) k = (s.gen k + 1, some (.tok n 0))))
  | [], k => .inl ⟨by simp [z8r], rfl⟩
  | .s i :: r, k => z3F s r k
  | .o i key n :: r, k => by
    have ih := z3F s r k
    have : gO s (.o i key n :: r) = (match s.get i with | .nilS => (key, s.gen key + 1, some (.tok n 0)) | _ => (key, z9y (vA s.ar key))) :: gO s r := rfl
    rw [this]
    have hk : z8r (.o i key n :: r) = key :: z8r r := rfl
    rw [hk]
    by_cases e : key = k
    · subst e
      refine .inr ⟨by simp, ?_⟩
      split
      · rw [yV, if_pos rfl]; exact .inr ⟨n, rfl⟩
      · rw [yV, if_pos rfl]; exact .inl rfl
    · have : vA ((match s.get i with | .nilS => (key, s.gen key + 1, some (.tok n 0)) | _ => (key, z9y (vA s.ar key))) :: gO s r) k = vA (gO s r) k := by
        split <;> rw [yV, if_neg e]
      rw [this]
      rcases ih with ⟨h1, h2⟩ | ⟨h1, h2⟩
      · exact .inl ⟨by simp [h1]; exact fun h => e h.symm, h2⟩
      · exact .inr ⟨by simp [h1], h2⟩
  | .h _ :: r, k => z3F s r k
  | .a i :: r, k => by
    have ih := z3F s r k
    have : gO s (.a i :: r) = (i, z9y (vA s.ar i)) :: gO s r := rfl
    rw [this]
    have hk : z8r (.a i :: r) = i :: z8r r := rfl
    rw [hk, yV]
    by_cases e : i = k
    · subst e
      exact .inr ⟨by simp, by rw [if_pos rfl]; exact .inl rfl⟩
    · rw [if_neg e]
      rcases ih with ⟨h1, h2⟩ | ⟨h1, h2⟩
      · exact .inl ⟨by simp [h1]; exact fun h => e h.symm, h2⟩
      · exact .inr ⟨by simp [h1], h2⟩
theorem v4G {M : Nat → Nat → Prop} {E' : Env} {ks : List Nat} (hA : ∀ k, k ∈ ks → vA E'.ar k = z9y (vA s.ar k) ∨ ∃ n, vA E'.ar k = (s.gen k + 1, some (.tok n 0))) {v : Value} {x : Sv} (h : RelS w M κ s.env v x) : RelS w M κ E' v (v5D ks x) := by
  have gen : ∀ k g, k ∈ ks → g ≤ s.gen k → g ≤ E'.gen k := fun k g hk hg => by
    unfold Env.gen
    rcases hA k hk with h | ⟨n, h⟩ <;> rw [h]
    · rw [v0w]; exact hg
    · show g ≤ s.gen k + 1; omega
  have ob : ∀ k g o, k ∈ ks → g ≤ s.gen k → E'.ob k g = some o → s.env.ob k g = some o := fun k g o hk hg ho => by
    rw [ob_iff] at ho ⊢
    rcases hA k hk with h | ⟨n, h⟩ <;> rw [h] at ho
    · exact (y4I ho).1
    · injection ho with h1 h2; omega
  cases h with
  | undef => exact .undef _
  | skp => exact .skp
  | nilF => exact .nilF
  | bld _ _ _ h _ => exact .d _ _ h
  | d _ _ h => exact .d _ _ h
  | nilS => exact .nilS
  | right _ k g n xs h1 h2 h3 =>
    show RelS w M κ E' v (cond (has ks k) (.right k g n xs) (.d (.sl xs)))
    cases hk : has ks k with
    | false => exact .d _ _ h1
    | true =>
      have hk := hasIff.1 hk
      exact .right _ _ _ _ _ h1 (gen k g hk h2) (fun n' l ho => h3 n' l (ob k g _ hk h2 ho))
  | row _ k g h2 h3 =>
    show RelS w M κ E' v (cond (has ks k) (.row k g) .undef)
    cases hk : has ks k with
    | false => exact .undef _
    | true =>
      have hk := hasIff.1 hk
      exact .row _ _ _ (gen k g hk h2) (fun n' l ho => h3 n' l (ob k g _ hk h2 ho))
  | ref _ k g o h2 h3 =>
    show RelS w M κ E' v (cond (has ks k) (.ref k g o) .undef)
    cases hk : has ks k with
    | false => exact .undef _
    | true =>
      have hk := hasIff.1 hk
      exact .ref _ _ _ _ (gen k g hk h2) (fun o' ho => h3 o' (ob k g _ hk h2 ho))
  | rref _ k g n i o h2 h3 =>
    show RelS w M κ E' v (cond (has ks k) (.rref k g n i o) .undef)
    cases hk : has ks k with
    | false => exact .undef _
    | true =>
      have hk := hasIff.1 hk
      exact .rref _ _ _ _ _ _ (gen k g hk h2) (fun o' ho => h3 o' (ob k g _ hk h2 ho))
  | iel b o x off h => exact .iel _ _ _ _ h
  | hp b id off h => exact .hp _ _ _ h
  | lent _ id off ver n xs h _ _ => exact .d _ _ h
  | fn f vs ws first cap p1 p2 h1 h2 => exact .fn _ _ _ _ _ p1 p2 (RelSs.conv (.refl _ _) (fun _ _ h => h) p1 h1) (RelSs.conv (.refl _ _) (fun _ _ h => h) p2 h2)
  | tup vs svs h =>
    show RelS w M κ E' _ (cond (z3W svs) (.tup svs) .undef)
    cases hp : z3W svs with
    | false => exact .undef _
    | true => exact .tup _ _ (RelSs.conv (.refl _ _) (fun _ _ h => h) hp h)
theorem Rel.restrict (R : Rel X κ s a w) (l : List Lv) : Rel X κ (restrict s l) a w := by
  have hlook := z3F s l
  have hA : ∀ k, k ∈ z8r l → vA (gO s l) k = z9y (vA s.ar k) ∨ ∃ n, vA (gO s l) k = (s.gen k + 1, some (.tok n 0)) := fun k hk => by
    rcases hlook k with ⟨h, -⟩ | ⟨-, h⟩
    · exact absurd hk h
    · exact h
  have cut : ∀ i, RelS w (Mut X.M0 κ) κ (Nt.restrict s l).env (a.tmps.getD i Go.undef) (v5D (z8r l) (s.get i)) := fun i => v4G (E' := (Nt.restrict s l).env) hA (R.slots i)
  have sl : ∀ (l' : List Lv) i, RelS w (Mut X.M0 κ) κ (Nt.restrict s l).env (a.tmps.getD i Go.undef) (y4M (z6Z s (z8r l) (gO s l) l') i) := by
    intro l'
    induction l' with
    | nil => intro i; exact .undef _
    | cons x l' ih =>
      intro i
      cases x with
      | s j =>
        show RelS _ _ _ _ _ (y4M ((j, v5D (z8r l) (s.get j)) :: _) i)
        rw [z3f]; split
        · rename_i e; subst e; exact cut j
        · exact ih i
      | a j => exact ih i
      | h n => exact ih i
      | o j key n =>
        show RelS _ _ _ _ _ (y4M ((match s.get j with | .nilS => (j, cond (zP (vA (gO s l) key) (s.gen key + 1) n) (.right key (s.gen key + 1) n []) (.d (.sl []))) | v => (j, v5D (z8r l) v)) :: _) i)
        split
        · rename_i hs
          rw [z3f]; split
          · rename_i e; subst e
            have hv := R.slots j
            rw [hs] at hv
            generalize a.tmps.getD j Go.undef = v at hv
            cases hv
            cases hb : zP (vA (gO s l) key) (s.gen key + 1) n with
            | false => exact .d _ _ .nil
            | true =>
              have hb := v2G hb
              refine .right _ _ _ _ _ .nil (by show s.gen key + 1 ≤ (vA (gO s l) key).1; rw [hb]; exact Nat.le_refl _) (fun n' l' ho => ?_)
              rw [ob_iff] at ho
              change vA (gO s l) key = _ at ho
              rw [hb] at ho
              injection ho with _ ho; injection ho with ho; injection ho with e1 e2; subst e1; subst e2
              exact ⟨rfl, Nat.le_refl _, fun _ => ⟨fun x hx => by simp at hx, .inl rfl⟩⟩
          · exact ih i
        · rw [z3f]; split
          · rename_i e; subst e; exact cut j
          · exact ih i
  refine { m0 := R.m0, defs := R.defs, size := R.size, kept := R.kept, k0 := R.k0, g0 := R.g0, kb := R.kb, ki := R.ki, hn := R.hn, hp0 := R.hp0, slots := fun i => sl l i, obs := fun k g ob h => ?_, heap := fun id cs hc => ?_ }
  · have h := ob_iff.1 (show (Nt.restrict s l).env.ob k g = some ob from h)
    change vA (gO s l) k = _ at h
    rcases hlook k with ⟨-, h1⟩ | ⟨-, h1 | ⟨n, h1⟩⟩ <;> rw [h1] at h
    · injection h with _ h; cases h
    · obtain ⟨h, hb⟩ := y4I h
      have := R.obs k g ob (show s.env.ob k g = some ob from ob_iff.2 h)
      cases ob with
      | agg x => exact this
      | row n xs => exact this
      | tok n l => trivial
      | box cs =>
        obtain ⟨b, q1, q2⟩ := this
        refine ⟨b, q1, fun i c hi => ?_⟩
        obtain ⟨v, r1, r2, r3, r4⟩ := q2 i c hi
        exact ⟨v, r1, r2, RelS.conv (.refl _ _) (fun _ _ h => h) (y5N (hb cs rfl) i c hi) r3, r4⟩
    · injection h with _ h; injection h with h; subst h; trivial
  · obtain ⟨b, h1, h2⟩ := R.heap id cs hc
    refine ⟨b, h1, fun i c hi => ?_⟩
    obtain ⟨v, g1, g2, g3, g4⟩ := h2 i c hi
    exact ⟨v, g1, g2, g3, RelHc.conv (.refl _ _) (.refl _) (fun _ _ h => h) rfl g4⟩
end
section
variable {X : Ctx} {κ : Kap} {s : St} {a : Act} {w : World}
def v2V (κ : Kap) (n : Nat) : Kap
  | .hp id => if id < n then κ (.hp id) else none
  | .ho id off => if id < n then κ (.ho id off) else none
  | k => κ k
theorem z8f {n : Nat} {k : Key} {q : Nat × Nat} (h : v2V κ n k = some q) : κ k = some q := by
  cases k with
  | ar i => exact h
  | hp id =>
    change (if id < n then κ (.hp id) else none) = some q at h
    split at h
    · exact h
    · cases h
  | ho id off =>
    change (if id < n then κ (.ho id off) else none) = some q at h
    split at h
    · exact h
    · cases h
theorem z3E (n : Nat) (M0 : Nat → Nat → Prop) : Keeps w (Mut M0 κ) w (Mut M0 (v2V κ n)) :=
  ⟨fun b o v h _ => h, fun b o v _ hm hm' => hm (hm'.elim .inl fun ⟨k, lo, h, hlo⟩ => .inr ⟨k, lo, z8f h, hlo⟩)⟩
theorem y5W (n : Nat) : ∀ (fr : List (Nat × Sv)) (i : Nat), y4M (v0L n fr) i = cutH n (y4M fr i)
  | [], i => by simp [v0L, y4M, cutH, hLt]
  | (j, v) :: r, i => by
    rw [v0L, z3f, z3f, y5W n r i]
    split <;> rfl
theorem z8O (n : Nat) : ∀ (ar : List (Nat × Nat × Option Ob)) (k : Nat), vA (y8l n ar) k = ((vA ar k).1, (vA ar k).2.map (v0M n))
  | [], k => rfl
  | (j, g, some o) :: r, k => by
    rw [y8l, yV, yV, z8O n r k]
    split <;> rfl
  | (j, g, none) :: r, k => by
    rw [y8l, yV, yV, z8O n r k]
    split <;> rfl
theorem y8m (n : Nat) : ∀ (h : H) (m id : Nat), (y2U n h m)[id]? = if id < m then (h[id]?).map (y7u n) else none
  | h, 0, id => by simp [y2U]
  | [], m + 1, id => by simp [y2U]
  | cs :: r, m + 1, 0 => by simp [y2U]
  | cs :: r, m + 1, id + 1 => by
    rw [y2U, List.getElem?_cons_succ, y8m n r m id, List.getElem?_cons_succ]
    by_cases h : id < m
    · rw [if_pos h, if_pos (by omega)]
    · rw [if_neg h, if_neg (by omega)]
theorem y8n (n : Nat) : ∀ (h : H) (m : Nat), (y2U n h m).length = min h.length m
  | h, 0 => by simp [y2U]
  | [], m + 1 => by simp [y2U]
  | cs :: r, m + 1 => by rw [y2U, List.length_cons, List.length_cons, y8n n r m]; omega
theorem y4t (n : Nat) : ∀ (cs : List Sv) (i : Nat) (c : Sv), (y7u n cs)[i]? = some c → ∃ x, cs[i]? = some x ∧ c = cutH n x
  | [], i, c, h => by simp [y7u] at h
  | x :: r, 0, c, h => by simp [y7u] at h; exact ⟨x, rfl, h.symm⟩
  | x :: r, i + 1, c, h => by simpa using y4t n r i c (by simpa [y7u] using h)
theorem v2J {n : Nat} {o : Ob} {m l : Nat} (h : v0M n o = .tok m l) : o = .tok m l := by cases o <;> first | exact h | cases h
theorem v2I {n : Nat} {o : Ob} {m : Nat} {xs : List D} (h : v0M n o = .row m xs) : o = .row m xs := by cases o <;> first | exact h | cases h
theorem y5m {n : Nat} {o : Ob} : (v0M n o).isTok = o.isTok := by cases o <;> rfl
theorem y3N (n k : Nat) : (trim n s).env.gen k = s.gen k := by
  show (vA (y8l n s.ar) k).1 = _
  rw [z8O]; rfl
theorem y5n {n k g : Nat} {o : Ob} (h : (trim n s).env.ob k g = some o) : ∃ o', s.env.ob k g = some o' ∧ o = v0M n o' := by
  rw [ob_iff] at h
  change vA (y8l n s.ar) k = _ at h
  rw [z8O] at h
  injection h with h1 h2
  cases ho : (vA s.ar k).2 with
  | none => rw [ho] at h2; cases h2
  | some o' =>
    rw [ho] at h2
    injection h2 with h2
    exact ⟨o', ob_iff.2 (by show vA s.ar k = (g, some o'); rw [← h1, ← ho]), h2.symm⟩
theorem v4H {n id off b : Nat} (hl : hLt n (.hp id off) = true) (h : κ (.hp id) = some (b, 0)) : v2V κ n (.hp id) = some (b, 0) := by
  have hl : id < n := y6B hl
  show (if id < n then κ (.hp id) else none) = _
  rw [if_pos hl]; exact h
mutual
theorem RelS.cutT {n : Nat} {M0 : Nat → Nat → Prop} {v : Value} {x : Sv} (hl : hLt n x = true) (h : RelS w (Mut M0 κ) κ s.env v x) : RelS w (Mut M0 (v2V κ n)) (v2V κ n) (trim n s).env v x := by
  cases h with
  | undef v => exact .undef v
  | skp => exact .skp
  | nilF => exact .nilF
  | bld v x l h g => exact .bld v x l (h.keep (z3E n M0)) g
  | d v x h => exact .d v x (h.keep (z3E n M0))
  | nilS => exact .nilS
  | right v k g m xs h hg hr => exact .right v k g m xs (h.keep (z3E n M0)) (by rw [y3N]; exact hg) (by
      intro n' l hob
      obtain ⟨o', ho, e⟩ := y5n hob
      obtain rfl := v2J e.symm
      obtain ⟨h1, h2, h3⟩ := hr n' l ho
      exact ⟨h1, h2, fun e => (h3 e).stay rfl (fun _ _ v h => ⟨v, h⟩) (fun _ _ _ _ h => h)⟩)
  | row v k g hg h => exact .row v k g (by rw [y3N]; exact hg) (by
      intro m xs hob
      obtain ⟨o', ho, e⟩ := y5n hob
      obtain rfl := v2I e.symm
      exact h m xs ho)
  | ref v k g off hg h => exact .ref v k g off (by rw [y3N]; exact hg) (by
      intro ob' hob hnt
      obtain ⟨o', ho, rfl⟩ := y5n hob
      exact h o' ho (by rw [← y5m (n := n)]; exact hnt))
  | rref v k g m i off hg h => exact .rref v k g m i off (by rw [y3N]; exact hg) (by
      intro ob' hob hnt
      obtain ⟨o', ho, rfl⟩ := y5n hob
      exact h o' ho (by rw [← y5m (n := n)]; exact hnt))
  | iel b o x off h => exact .iel b o x off (h.keep (z3E n M0))
  | hp b i off h => exact .hp b i off (v4H hl h)
  | lent v id off ver m xs h hle hlt => exact .lent v id off ver m xs (h.keep (z3E n M0)) (Nat.le_trans hle (Nat.le_succ _)) (by
      intro e
      change s.hv + 1 = ver at e
      change ver ≤ s.hv at hle
      omega)
  | fn f vs ws first cap p1 p2 h1 h2 =>
    have hl : v3r n first = true ∧ v3r n cap = true := by simpa only [hLt, Bool.and_eq_true] using hl
    exact .fn f vs ws first cap p1 p2 (RelSs.cutT hl.1 h1) (RelSs.cutT hl.2 h2)
  | tup vs svs h => exact .tup vs svs (RelSs.cutT hl h)
theorem RelSs.cutT {n : Nat} {M0 : Nat → Nat → Prop} {v : List Value} {x : List Sv} (hl : v3r n x = true) (h : RelSs w (Mut M0 κ) κ s.env v x) : RelSs w (Mut M0 (v2V κ n)) (v2V κ n) (trim n s).env v x := by
  cases h with
  | nil => exact .nil
  | cons v y vs ys h r =>
    have hl : hLt n y = true ∧ v3r n ys = true := by simpa only [v3r, Bool.and_eq_true] using hl
    exact .cons v y vs ys (RelS.cutT hl.1 h) (RelSs.cutT hl.2 r)
end
theorem RelS.cut {n : Nat} {M0 : Nat → Nat → Prop} {v : Value} {x : Sv} (h : RelS w (Mut M0 κ) κ s.env v x) : RelS w (Mut M0 (v2V κ n)) (v2V κ n) (Nt.trim n s).env v (Nt.cutH n x) := by
  unfold Nt.cutH
  cases hl : hLt n x with
  | false =>
    cases x with
    | lent id off ver m xs => cases h with | lent _ _ _ _ _ _ hx _ _ => exact .d _ _ (hx.keep (z3E n M0))
    | _ => exact .undef _
  | true => exact RelS.cutT hl h
theorem v0h {n : Nat} {x : Sv} (h : x.plain = true) : (Nt.cutH n x).plain = true := by
  unfold Nt.cutH
  cases hLt n x with
  | false => cases x <;> rfl
  | true => exact h
theorem Rel.trim (R : Rel X κ s a w) {n : Nat} (hX : ∀ id r, X.κ0 (.hp id) = some r → id < n) : Rel X (v2V κ n) (Nt.trim n s) a w := by
  refine { m0 := R.m0, defs := R.defs, size := R.size, kept := R.kept, k0 := R.k0.trans (z3E n X.M0), g0 := R.g0, kb := fun key b lo h => R.kb key b lo (z8f h), ki := fun k1 k2 b l1 l2 h1 h2 => R.ki k1 k2 b l1 l2 (z8f h1) (z8f h2), hn := fun id r h => ?_, hp0 := fun id b h => ?_, slots := fun i => ?_, obs := fun k g ob h => ?_, heap := fun id cs hc => ?_ }
  · show id < (y2U n s.h n).length
    rw [y8n]
    have h1 := R.hn id r (z8f h)
    change (if id < n then κ (.hp id) else none) = some r at h
    split at h
    · omega
    · cases h
  · show (if id < n then κ (.hp id) else none) = _
    rw [if_pos (hX id _ h)]; exact R.hp0 id b h
  · show RelS _ _ _ _ _ (y4M (v0L n s.fr) i)
    rw [y5W]; exact (R.slots i).cut
  · obtain ⟨o', ho, rfl⟩ := y5n (show (Nt.trim n s).env.ob k g = some ob from h)
    have := R.obs k g o' ho
    cases o' with
    | agg x =>
      obtain ⟨b, h1, h2⟩ := this
      refine ⟨b, h1, fun i c hi => ?_⟩
      obtain ⟨v, r1, r2, r3, r4, r5⟩ := h2 i c hi
      exact ⟨v, r1, r2, r3, r4.keep (z3E n X.M0), r5⟩
    | box cs =>
      obtain ⟨b, h1, h2⟩ := this
      refine ⟨b, h1, fun i c hi => ?_⟩
      obtain ⟨x, hx, rfl⟩ := y4t n cs i c hi
      obtain ⟨v, r1, r2, r3, r4⟩ := h2 i x hx
      exact ⟨v, r1, r2, r3.cut, r4⟩
    | row m xs =>
      obtain ⟨b, h1, h2, h3⟩ := this
      refine ⟨b, h1, fun i c hi => ?_, h3⟩
      obtain ⟨v, r1, r2, r3, r4, r5⟩ := h2 i c hi
      exact ⟨v, r1, r2, r3, r4.keep (z3E n X.M0), r5⟩
    | tok m l => trivial
  · change (y2U n s.h n)[id]? = some cs at hc
    rw [y8m] at hc
    split at hc
    · rename_i hid
      cases hs : s.h[id]? with
      | none => rw [hs] at hc; cases hc
      | some cs0 =>
        rw [hs] at hc
        injection hc with hc
        subst hc
        obtain ⟨b, h1, h2⟩ := R.heap id cs0 hs
        refine ⟨b, by show (if id < n then κ (.hp id) else none) = _; rw [if_pos hid]; exact h1, fun i c hi => ?_⟩
        obtain ⟨x, hx, rfl⟩ := y4t n cs0 i c hi
        obtain ⟨v, g1, g2, g3, g4⟩ := h2 i x hx
        refine ⟨v, g1, g2, g3, ?_⟩
        cases x with
        | own m xs => exact ⟨g4.1.keep (z3E n X.M0), g4.2.stay (by show (if id < n then κ (.ho id i) else none) = _; rw [if_pos hid]) (fun _ _ v h => ⟨v, h⟩) (fun _ _ _ _ h => h)⟩
        | _ =>
          have q1 := v0h (n := n) g4.1
          have q2 := g4.2.cut (n := n)
          revert q1 q2
          generalize hz : Nt.cutH n _ = z
          intro q1 q2
          cases z with
          | own m xs => simp [Sv.plain] at q1
          | _ => exact ⟨q1, q2⟩
    · cases hc
theorem Rel.trimL (R : Rel X κ s a w) {c : Cx} {lv : List Lv} (hX : ∀ id r, X.κ0 (.hp id) = some r → id < c.nh) : ∃ κ', Rel X κ' (Nt.trimL c lv s) a w := by
  unfold Nt.trimL
  split
  · exact ⟨_, R.trim fun id r h => by have := hX id r h; omega⟩
  · exact ⟨_, R⟩
end
def Fin (c : Cx) (X : Ctx) (a : Act) (w : World) : Prop := ∃ κ s, fin c s ∧ Rel X κ s a w
def Ok (c : Cx) (K : List KI) (s : St) : Prop := ∀ X κ a w, (∀ id r, X.κ0 (.hp id) = some r → id < c.nh) → Rel X κ s a w → Runs c.P (Fin c X) (z2Y K) a w
theorem z2o {c : Cx} (hT : ∀ f vs h rs h', c.trip f vs h rs h' → Trip c.P f vs h rs h') {X : Ctx} (hX : ∀ id r, X.κ0 (.hp id) = some r → id < c.nh) : ∀ (n : Nat) (st : Bool) (K : List KI) (s : St) (κ : Kap) (a : Act) (w : World), evI c (Ok c) n st K s → Rel X κ s a w → Runs c.P (Fin c X) K a w
  | 0, st, K, s, κ, a, w, h, R => h.elim
  | n + 1, st, K, s, κ, a, w, h, R => by
    unfold evI at h
    cases K with
    | nil => exact Runs.nil ⟨κ, s, h, R⟩
    | cons x K =>
      cases x with
      | blk id => exact Runs.step (a' := a) (fun _ _ _ => step_inBlock) (z2o hT hX n true K s κ a w h R)
      | sc b => exact Runs.step (a' := a) (fun _ _ _ => y9b) (z2o hT hX n true K s κ a w h R)
      | loop b =>
        obtain ⟨r, -, h1⟩ := yS h
        obtain ⟨lv, -, h2⟩ := yS h1
        obtain ⟨κ', R'⟩ := R.trimL (lv := lv) hX
        exact Runs.unroll_head (h2 X κ' a w hX (R'.restrict lv))
      | code co =>
        cases co with
        | skip => exact Runs.step (a' := a) (fun _ _ _ => step_skip) (z2o hT hX n true K s κ a w h R)
        | seq p q => exact Runs.step (K' := .code p :: .code q :: K) (a' := a) (fun _ _ _ => step_seq) (z2o hT hX n st _ s κ a w h R)
        | cond x p q =>
          obtain ⟨d, hd, h1⟩ := y6h h
          have hx := R.opv x
          rw [hd] at hx
          generalize hu : a.eval x = u at hx
          cases hx with | d _ _ hx =>
          rcases h1 with ⟨rfl, h1⟩ | ⟨rfl, h1⟩
          · exact Runs.step (K' := .code p :: K) (a' := a) (fun _ _ _ => step_cond (t := true) (by rw [hu, hx.bool_inv])) (z2o hT hX n true _ s κ a w h1 R)
          · exact Runs.step (K' := .code q :: K) (a' := a) (fun _ _ _ => step_cond (t := false) (by rw [hu, hx.bool_inv])) (z2o hT hX n true _ s κ a w h1 R)
        | scope b => exact Runs.step (K' := .code b :: .sc b :: K) (a' := a) (fun _ _ _ => v2z) (z2o hT hX n st _ s κ a w h R)
        | label l => exact Runs.step (a' := a) (fun _ _ _ => step_label) (z2o hT hX n st K s κ a w h R)
        | block id b => exact Runs.step (K' := .code b :: .blk id :: K) (a' := a) (fun _ _ _ => step_block) (z2o hT hX n st _ s κ a w h R)
        | loop b =>
          obtain ⟨r, -, h1⟩ := yS h
          obtain ⟨lv, -, h2⟩ := yS h1
          obtain ⟨κ', R'⟩ := R.trimL (lv := lv) hX
          exact Runs.step (K' := .code b :: .loop b :: K) (a' := a) (fun _ _ _ => step_loop) (h2 X κ' a w hX (R'.restrict lv))
        | exit id =>
          obtain ⟨K', hK, h1⟩ := yS h
          exact Runs.step (K' := K') (a' := a) (fun _ k _ => step_exit (z5k hK k)) (z2o hT hX n true K' s κ a w h1 R)
        | ret => exact Runs.ret ⟨κ, s, h, R⟩
        | region id ops draw =>
          dsimp only at h
          split at h
          · rename_i lv hj
            obtain ⟨κ', R'⟩ := R.trimL (lv := lv) hX
            exact h X κ' a w hX (R'.restrict lv)
          · exact Runs.code (v2k hT h (fun κ' s' a' w' h' R' => ⟨rfl, z2o hT hX n true K s' κ' a' w' h' R'⟩) R)
        | _ => exact h.elim
theorem v3J {c : Cx} (hT : ∀ f vs h rs h', c.trip f vs h rs h' → Trip c.P f vs h rs h') {n : Nat} {K : List KI} {s : St} (h : evI c (Ok c) n false (z2Y K) s) : Ok c K s :=
  fun X κ a w hX R => z2o hT hX n false _ s κ a w h R
section
variable {P : Program} {X : Ctx} {κ : Kap} {s : St} {a : Act} {w : World}
def y9N (κ : Kap) (r : Option Nat) : Kap
  | .ar 0 => match r with
    | some r => κ (.ar r)
    | none => none
  | .ar _ => none
  | k => κ k
theorem z8v {r : Option Nat} {k : Key} {q : Nat × Nat} (h : y9N κ r k = some q) : ∃ k', κ k' = some q ∧ (k' = k ∨ ∃ i, r = some i ∧ k = .ar 0 ∧ k' = .ar i) := by
  cases k with
  | ar i =>
    cases i with
    | zero =>
      cases r with
      | none => cases h
      | some r => exact ⟨_, h, .inr ⟨r, rfl, rfl, rfl⟩⟩
    | succ i => cases h
  | hp id => exact ⟨_, h, .inl rfl⟩
  | ho id off => exact ⟨_, h, .inl rfl⟩
theorem z6P (κ : Kap) (M0 : Nat → Nat → Prop) (r : Option Nat) : Keeps w (Mut M0 κ) w (Mut M0 (y9N κ r)) := by
  refine ⟨fun b o v h _ => h, fun b o v _ hm hm' => hm ?_⟩
  rcases hm' with h | ⟨k, lo, h, hlo⟩
  · exact .inl h
  · obtain ⟨k', h', -⟩ := z8v h
    exact .inr ⟨k', lo, h', hlo⟩
theorem Rel.after (R : Rel X κ s a w) (r : Option Nat) (hb : ∀ b, X.S b ↔ ∃ key lo, X.κ0 key = some (b, lo)) : y3Q X.w0 X.M0 X.κ0 s.h w (y9N κ r) where
  kept := R.kept
  k0 := R.k0.trans (z6P κ X.M0 r)
  g0 := R.g0
  kb := fun key b lo h => by
    obtain ⟨k', h', -⟩ := z8v h
    exact R.kb k' b lo h'
  ki := fun k1 k2 b l1 l2 h1 h2 => by
    obtain ⟨k1', g1, e1⟩ := z8v h1
    obtain ⟨k2', g2, e2⟩ := z8v h2
    have := R.ki _ _ _ _ _ g1 g2
    subst this
    rcases e1 with e1 | ⟨i, -, e1, f1⟩ <;> rcases e2 with e2 | ⟨j, -, e2, f2⟩
    · rw [← e1, ← e2]
    · subst e1; subst e2
      rw [f2] at h1
      cases j with
      | zero => exact f2
      | succ j => cases h1
    · subst e2; subst e1
      rw [f1] at h2
      cases i with
      | zero => exact f1.symm
      | succ i => cases h2
    · rw [e1, e2]
  hn := fun id q h => R.hn id q h
  hp := fun id b h => R.hp0 id b h
  heap := fun id cs hc => by
    obtain ⟨b, h1, h2⟩ := R.heap id cs hc
    refine ⟨b, h1, fun i c hi => ?_⟩
    obtain ⟨v, g1, g2, g3, g4⟩ := h2 i c hi
    exact ⟨v, g1, g2, g3, RelHc.conv (κ := κ) (κ' := y9N κ r) (z6P κ X.M0 r) (.refl _) (fun _ _ h => h) rfl g4⟩
end
end Nt

