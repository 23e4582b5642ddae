import Derived.Test.YtnbcacfljnooeaaFwM
namespace Nt
open Go
set_option linter.unusedVariables false
set_option linter.unusedSimpArgs false
section
variable {P : Program} {X : Ctx} {κ : Kap} {s : St} {a : Act} {w : World}
theorem z7s {x : D} {k : List D → Prop} (h : kCs x k) : ∃ cs, x = .agg cs ∧ k cs := by
  cases x <;> first | exact h.elim | exact ⟨_, rfl, h⟩
theorem z6I {n : Nat} {x : D} {k : List Sv → Prop} (h : kCells n x k) : ∃ cs, x = .agg cs ∧ cs.length = n ∧ k (cs.map .d) := by
  cases x <;> first | exact h.elim | exact ⟨_, rfl, uJ (zE h).1, (zE h).2⟩
theorem Rel.store1 (R : Rel X κ s a w) {t : TypeId} {n r g : Nat} {ob ob' : Ob} {b off : Nat} {u : Value} (hs : vB P t = some n) (ho : s.ob r g = some ob) (hb : κ (.ar r) = some (b, 0)) (hsh : ob.shape = ob'.shape)
    (hn : u.cells.size = n) (h1 : ∀ v ∈ u.cells.toList, v.oneCell' = true) (hex : ∀ j, j < n → (∃ u, zO w b (off + j) = some u) ∧ icy w b (off + j) = false)
    (hnew : ∀ E', E' = (s.app (z3p r g (some ob'))).env → Stays w (Mut X.M0 κ) κ s.env (w.setCells b off u.cells.toList) (Mut X.M0 κ) κ E' → RelOb (w.setCells b off u.cells.toList) (Mut X.M0 κ) κ E' r ob') :
    ∃ w', (Instr.storeAt t (.pointer (some ⟨b, off, none⟩)) u).run P w = .ok () w' ∧ Rel X κ (s.app (z3p r g (some ob'))) a w' :=
  ⟨_, gC hs hn h1 hex, R.setOb ho hb hsh _ off (fun j hj => (hex j (by simp at hj; omega)).1) hnew⟩
theorem z5s : ∀ (l : List (Nat × Nat)) (ws : List Sv) (i : Nat) (c : Sv), (z5J l ws)[i]? = some c → (ws[i]? = some c ∨ ∃ n, (i, n) ∈ l ∧ c = .own n [])
  | [], ws, i, c, h => .inl h
  | (j, n) :: r, ws, i, c, h => by
    rcases z5s r _ i c h with g | ⟨m, h1, h2⟩
    · clear h
      rw [List.getElem?_set] at g
      split at g
      · rename_i e; subst e
        split at g
        · injection g with g; exact .inr ⟨n, by simp, g.symm⟩
        · cases g
      · exact .inl g
    · exact .inr ⟨m, List.mem_cons_of_mem _ h1, h2⟩
theorem z2F : ∀ (l : List (Nat × Nat)) (ws : List Sv), (z5J l ws).length = ws.length
  | [], ws => rfl
  | (j, n) :: r, ws => by rw [z5J, z2F r]; simp
theorem z6c {M : Nat → Nat → Prop} {κ : Kap} {E : Env} {n : Nat} {v : Value} {sv : Sv} {k : List Sv → Prop} (h : kBld n sv k) (hv : RelS w M κ E v sv) :
    ∃ ws, k ws ∧ ws.length = n ∧ v.cells.toList.length = ws.length ∧ ∀ (i : Nat) u c, v.cells.toList[i]? = some u → ws[i]? = some c →
      u.oneCell' = true ∧ ((∃ m, c = .own m [] ∧ u = .slice none 0 0) ∨ ((∀ m xs, c ≠ .own m xs) ∧ c.plain = true ∧ RelS w M κ E u c)) := by
  have base : ∀ {x : D} {k : List Sv → Prop}, RelV w M v x → kCells n x k → ∃ cs, x = .agg cs ∧ cs.length = n ∧ k (cs.map .d) ∧ v.cells.toList.length = (cs.map Sv.d).length ∧ ∀ (i : Nat) u c, v.cells.toList[i]? = some u → (cs.map Sv.d)[i]? = some c → u.oneCell' = true ∧ (∀ m xs, c ≠ .own m xs) ∧ c.plain = true ∧ RelS w M κ E u c := by
    intro x k hx hk
    obtain ⟨cs, rfl, hn, hk⟩ := z6I hk
    have hc := hx.cells
    refine ⟨cs, rfl, hn, hk, by simpa [D.cells] using hc.length, fun i u c hu hcc => ?_⟩
    rw [List.getElem?_map] at hcc
    cases hi : cs[i]? with
    | none => rw [hi] at hcc; cases hcc
    | some d =>
      rw [hi] at hcc; cases hcc
      obtain ⟨u', g1, g2, g3⟩ := hc.get i d hi
      rw [hu] at g1; cases g1
      exact ⟨g3.one g2, by simp, rfl, .d _ _ g3⟩
  cases sv with
  | bld x l =>
    cases hv with | bld _ _ _ hx hn =>
    obtain ⟨cs, rfl, hn0, hk, h1, h2⟩ := base (k := fun ws => k (z5J l ws)) hx h
    refine ⟨_, hk, by rw [z2F]; simpa using hn0, by rw [z2F]; exact h1, fun i u c hu hcc => ?_⟩
    rcases z5s l _ i c hcc with hcc | ⟨m, hm, rfl⟩
    · obtain ⟨q1, q2, q3, q4⟩ := h2 i u c hu hcc
      exact ⟨q1, .inr ⟨q2, q3, q4⟩⟩
    · obtain ⟨vs, rfl, hvs⟩ := hn i m hm
      have : u = .slice none 0 0 := by
        have e : (Value.agg ⟨vs⟩).cells.toList[i]? = vs[i]? := rfl
        rw [e, hvs] at hu; cases hu; rfl
      subst this
      exact ⟨rfl, .inl ⟨m, rfl, rfl⟩⟩
  | _ =>
    simp only [kBld] at h
    obtain ⟨x, hx, hk⟩ := yT h hv
    obtain ⟨cs, rfl, hn0, hk, h1, h2⟩ := base hx hk
    exact ⟨_, hk, by simpa using hn0, h1, fun i u c hu hcc => by obtain ⟨q1, q2, q3, q4⟩ := h2 i u c hu hcc; exact ⟨q1, .inr ⟨q2, q3, q4⟩⟩⟩
theorem z7x (R : Rel X κ s a w) {t : TypeId} {ua uv : Value} {va vv : Sv} {k : yB → Prop} (hk : z0v P t s va vv k) (ha : RelS w (Mut X.M0 κ) κ s.env ua va) (hv : RelS w (Mut X.M0 κ) κ s.env uv vv) :
    ∃ p κ' w', (Instr.storeAt t ua uv).run P w = .ok () w' ∧ k p ∧ Rel X κ' (s.app p) a w' := by
  obtain ⟨n, hs, k1⟩ := zD hk
  clear hk
  cases va with
  | ref r g off =>
    obtain ⟨ob, ho, k2⟩ := zD k1
    cases ob with
    | agg x =>
      obtain ⟨b, hb, rfl⟩ := z8D ha ho rfl
      obtain ⟨b', hb', hbox⟩ := R.obs r g _ ho
      rw [hb] at hb'; injection hb' with hb'; injection hb' with hb'; subst hb'
      rcases yL k2 with ⟨-, k3⟩ | ⟨-, k3⟩
      · obtain ⟨cs, rfl, k4⟩ := z7s k3
        obtain ⟨hl, k5⟩ := zE k4
        have hl := z8a hl
        obtain ⟨y, hy, k6⟩ := yT k5 hv
        obtain ⟨ds, rfl, k7⟩ := z7s k6
        obtain ⟨hl2, k8⟩ := zE k7
        have hl2 := uJ hl2
        have hyc := hy.cells
        obtain ⟨w', h1, h2⟩ := R.store1 (ob' := .agg (.agg (setMany cs off ds))) (off := off) hs ho hb rfl (by have := hyc.length; simp [D.cells] at this; omega) hyc.one (fun j hj => hbox.ex _ (by simp [D.cells]; omega)) (fun E' _ T => by
          have := hbox.set (o := off) hyc (by simp [D.cells]; omega) T.keeps
          simp only [D.cells] at this
          exact ⟨b, hb, this⟩)
        exact ⟨_, _, w', h1, k8, h2⟩
      · obtain ⟨hn, k4⟩ := zE k3
        obtain rfl := uJ hn
        obtain ⟨hlt, k5⟩ := zE k4
        have hlt := z4c hlt
        obtain ⟨y, k6, hy, hone, hsc⟩ := z3o k5 hv
        have hc1 := uT hone
        have hyc : RelVs w (Mut X.M0 κ) uv.cells.toList [y] := by rw [hc1]; exact .cons _ _ _ _ hsc hy .nil
        obtain ⟨w', h1, h2⟩ := R.store1 (ob' := .agg (x.setC off y)) (off := off) hs ho hb rfl (by rw [hc1]; rfl) hyc.one (fun j hj => hbox.ex _ (by omega)) (fun E' _ T => by
          have := hbox.set (o := off) hyc (by simp; omega) T.keeps
          rw [← z6R hlt hsc] at this
          exact ⟨b, hb, this⟩)
        exact ⟨_, _, w', h1, k6, h2⟩
    | box cs =>
      obtain ⟨b, hb, rfl⟩ := z8D ha ho rfl
      obtain ⟨b', hb', hbox⟩ := R.obs r g _ ho
      rw [hb] at hb'; injection hb' with hb'; injection hb' with hb'; subst hb'
      rcases yL k2 with ⟨-, k3⟩ | ⟨-, k3⟩
      · exact k3.elim
      · obtain ⟨hn, k4⟩ := zE k3
        obtain rfl := uJ hn
        obtain ⟨hlt, k5⟩ := zE k4
        have hlt := z4c hlt
        obtain ⟨y, k6, hy, hone, -⟩ := gY k5 hv
        have hc1 := uT hone
        have hex : ∀ i, i < cs.length → (∃ u, zO w b i = some u) ∧ icy w b i = false := fun i hi => by
          obtain ⟨v, q1, -, -, q2⟩ := hbox i cs[i] (by simp [hi]); exact ⟨⟨v, q1⟩, q2⟩
        obtain ⟨w', h1, h2⟩ := R.store1 (ob' := .box (cs.set off y)) (off := off) hs ho hb rfl (by rw [hc1]; rfl) (by rw [hc1]; simpa using hone) (fun j hj => hex _ (by omega)) (fun E' _ T => by
          refine ⟨b, hb, fun i c hi => ?_⟩
          rw [hc1]
          by_cases e : off = i
          · subst e
            simp [hlt] at hi; subst hi
            have := wX [uv] off w (fun j hj => by simp at hj; subst hj; exact (hex _ hlt).1) 0 (by simp)
            simp at this
            refine ⟨uv, this, hone, ?_, by rw [yK]; exact (hex _ hlt).2⟩
            have := RelS.stay T hy
            rw [hc1] at this; exact this
          · rw [List.getElem?_set_ne e] at hi
            obtain ⟨v, q1, q2, q3, q4⟩ := hbox i c hi
            refine ⟨v, by rw [yY _ _ _ _ _ (by simp; omega)]; exact q1, q2, ?_, by rw [yK]; exact q4⟩
            have := RelS.stay T q3
            rw [hc1] at this; exact this)
        exact ⟨_, _, w', h1, k6, h2⟩
    | _ => exact k2.elim
  | rref r g m i off =>
    obtain ⟨ob, ho, k2⟩ := zD k1
    cases ob with
    | row n' xs =>
      obtain ⟨hm, k3⟩ := zE k2
      obtain rfl := uJ hm
      obtain ⟨h0, k4⟩ := zE k3
      obtain rfl := uJ h0
      obtain ⟨hmn, hi, k5⟩ := zE k4
      obtain rfl := uJ hmn
      obtain ⟨b, hb, rfl⟩ := z8X ha ho rfl
      obtain ⟨b', hb', hbox, hsz⟩ := R.obs r g _ ho
      rw [hb] at hb'; injection hb' with hb'; injection hb' with hb'; subst hb'
      have hfl := wG hsz
      have hle : (i + 1) * m ≤ xs.length * m := Nat.mul_le_mul_right _ hi
      rw [Nat.succ_mul] at hle
      have fin : ∀ y : D, RelVs w (Mut X.M0 κ) uv.cells.toList y.cells → y.cells.length = m → (nam (xs.set i y) fun zs => k (z3p r g (some (.row m zs)))) → ∃ p κ' w', (Instr.storeAt t (.pointer (some ⟨b, i * m + 0, none⟩)) uv).run P w = .ok () w' ∧ k p ∧ Rel X κ' (s.app p) a w' := by
        intro y hyc hyl hk0
        have hk := yV hk0
        obtain ⟨w', h1, h2⟩ := R.store1 (ob' := .row m (xs.set i y)) (off := i * m + 0) hs ho hb (by simp [Ob.shape]) (by have := hyc.length; simp at this; omega) hyc.one (fun j hj => hbox.ex _ (by omega)) (fun E' _ T => by
          have := hbox.set (o := i * m + 0) hyc (by omega) T.keeps
          refine ⟨b, hb, ?_, z7L hsz hyl⟩
          rw [z5Z hyl hsz hi]
          exact this)
        exact ⟨_, _, w', h1, hk, h2⟩
      rcases yL k5 with ⟨-, k6⟩ | ⟨-, k6⟩
      · obtain ⟨y, hy, k7⟩ := yT k6 hv
        obtain ⟨ds, rfl, hl2, k8⟩ := z0k k7
        exact fin _ hy.cells hl2 k8
      · obtain ⟨hn, k7⟩ := zE k6
        obtain rfl := uJ hn
        obtain ⟨y, k8, hy, hone, hsc⟩ := z3o k7 hv
        exact fin y hy.cells (by cases y <;> first | rfl | simp [D.sc] at hsc) k8
    | _ => exact k2.elim
  | hp id off =>
    obtain ⟨cs, hc, k2⟩ := zD k1
    cases ha with | hp b _ _ hb =>
    obtain ⟨b', hb', hcells⟩ := R.heap id cs hc
    rw [hb] at hb'; injection hb' with hb'; injection hb' with hb'; subst hb'
    have hex : ∀ i, i < cs.length → (∃ u, zO w b i = some u) ∧ icy w b i = false := fun i hi => by
      obtain ⟨v, q1, -, q2, -⟩ := hcells i cs[i] (by simp [hi]); exact ⟨⟨v, q1⟩, q2⟩
    rcases yL k2 with ⟨-, k3⟩ | ⟨-, k3⟩
    · obtain ⟨hle, k4⟩ := zE k3
      have hle := z8a hle
      obtain ⟨ws, k6, hl, hlen, hws⟩ := z6c k4 hv
      have hone : ∀ v ∈ uv.cells.toList, v.oneCell' = true := fun v hv => by
        obtain ⟨i, hi, hvi⟩ := List.getElem_of_mem hv
        have h1 : ws[i]? = some ws[i] := List.getElem?_eq_getElem (by omega)
        exact (hws i v _ (by rw [List.getElem?_eq_getElem hi, hvi]) h1).1
      refine ⟨_, κ, _, gC (o := off) hs (by simp at hlen; omega) hone (fun j hj => hex _ (by simp at hlen; omega)), k6, R.setHp hc hb hlen (by omega) hws⟩
    · obtain ⟨hn, k4⟩ := zE k3
      obtain rfl := uJ hn
      obtain ⟨hlt, k5⟩ := zE k4
      have hlt := z4c hlt
      have keep : kKeep vv (fun w => k ⟨[], [], some (s.h.set id (cs.set off w))⟩) → ∃ p κ' w', (Instr.storeAt t (.pointer (some ⟨b, off, none⟩)) uv).run P w = .ok () w' ∧ k p ∧ Rel X κ' (s.app p) a w' := by
        intro hk
        obtain ⟨y, k6, hy, hone, hno, hpl⟩ := gY hk hv
        have hc1 := uT hone
        have hrun := gC (o := off) hs (by rw [hc1]; rfl) (by rw [hc1]; simpa using hone) (fun j hj => hex (off + j) (by omega))
        rw [hc1] at hrun
        refine ⟨_, κ, _, hrun, k6, ?_⟩
        exact R.setHp (ws := [y]) hc hb rfl (by simp; omega) (fun i v c hi hci => by
          cases i with
          | zero => simp at hi hci; subst hi; subst hci; exact ⟨hone, .inr ⟨hno, hpl, hy⟩⟩
          | succ i => simp at hi)
      cases vv with
      | right r g m xs =>
        obtain ⟨ob, ho, k6⟩ := zD k5
        cases ob with
        | tok m' l =>
          obtain ⟨hm, hl, k7⟩ := zE k6
          obtain rfl := uJ hm
          subst hl
          cases hv with | right _ _ _ _ _ hv hg hr =>
          obtain ⟨-, -, hr⟩ := hr _ _ ho
          have hone := hv.one rfl
          have hc1 := uT hone
          have hrun := gC (o := off) hs (by rw [hc1]; rfl) (by rw [hc1]; simpa using hone) (fun j hj => hex (off + j) (by omega))
          rw [hc1] at hrun
          exact ⟨_, _, _, hrun, k7, R.setOwn hc hb hlt ho hv (hr rfl)⟩
        | _ => exact k6.elim
      | _ => exact keep k5
  | _ => exact k1.elim
end
end Nt

