import Derived.Test.YtnbcacfljnooeaaFwZ
namespace Nt
open Go
set_option linter.unusedVariables false
set_option linter.unusedSimpArgs false
def z5S (w : World) (M0 : Nat → Nat → Prop) (κ : Kap) (v : Value) : Sv → Prop
  | .own n xs => RelV w (Mut M0 κ) v (.sl xs) ∧ ∃ r, RightOK w κ (.ar r) n v xs
  | x => x.plain = true ∧ RelS w (Mut M0 (z6n κ none)) κ ⟨[], [], 0⟩ v x
def z8V (tmps : Array Value) : ResultVar → Sem Value
  | .tmp t => pure (tmps.getD t Go.undef)
  | .cell a t => do loadVar t (← asAddr (tmps.getD a Go.undef))
section
variable {P : Program} {X : Ctx} {κ : Kap} {s : St} {a : Act} {w : World}
theorem z5O {t : TypeId} {u u' : Value} (h : (Instr.loadAt t u).run P w = .ok u' w) : (do loadVar t (← asAddr u) : Sem Value).run P w = .ok u' w := by
  cases u with
  | pointer p =>
    cases p with
    | some p => exact h
    | none => simp [Instr.loadAt, Instr.sureAddr, stuck, Sem.run_bind] at h
  | _ => simp [Instr.loadAt, Instr.sureAddr, stuck, Sem.run_bind] at h
theorem z8z {v : Value} {x : D} (h : RelV w (Mut X.M0 κ) v x) : z5S w X.M0 κ v (.d x) := ⟨rfl, .d _ _ (h.keep (jO κ X.M0 none))⟩
theorem z6a {v : Value} {y : Sv} {rk : RK} {k : Sv → Prop} (hv : RelS w (Mut X.M0 κ) κ s.env v y) (h : kGo s rk y k) : ∃ x, k x ∧ z5S w X.M0 κ v x := by
  cases rk with
  | d =>
    obtain ⟨x, h1, h2⟩ := yT h hv
    exact ⟨_, h2, z8z h1⟩
  | own n =>
    cases y with
    | right r g n' xs =>
      unfold kGo at h
      dsimp only at h
      split at h
      · rename_i n'' m ho
        obtain ⟨e1, g1⟩ := zE h
        obtain ⟨e2, hm, g2⟩ := zE g1
        have e1 := uJ e1
        have e2 := uJ e2
        subst e1; subst e2
        cases hv with
        | right _ _ _ _ _ q1 q2 q3 =>
          obtain ⟨-, -, q4⟩ := q3 _ _ ho
          exact ⟨_, g2, q1, r, q4 hm⟩
      · exact h.elim
    | nilS =>
      cases hv
      exact ⟨_, h, .nil, 0, fun x hx => by simp at hx, .inl rfl⟩
    | _ => exact h.elim
  | hp =>
    cases y with
    | hp i o =>
      cases hv with
      | hp b id off hb => exact ⟨_, h, rfl, .hp _ _ _ hb⟩
    | _ => exact h.elim
  | fns gs =>
    cases y with
    | fn f p q =>
      cases p with
      | nil => cases q with
        | nil =>
          obtain ⟨-, h⟩ := zE h
          cases hv with
          | fn _ us ws _ _ p1 p2 g1 g2 => cases g1; cases g2; exact ⟨_, h, rfl, .fn _ _ _ _ _ rfl rfl .nil .nil⟩
        | cons _ _ => exact h.elim
      | cons _ _ => exact h.elim
    | _ => exact h.elim
theorem z8Q {c : Cx} (hb : ∀ b, X.S b ↔ ∃ key lo, X.κ0 key = some (b, lo)) (R : Rel X κ s a w) {rv : ResultVar} {rk : RK} {k : Sv → Prop} (h : z9v c s rv rk k) : ∃ v x, (z8V a.tmps rv).run c.P w = .ok v w ∧ k x ∧ z5S w X.M0 κ v x := by
  cases rv with
  | tmp t =>
    have hv := R.slots t
    have hrun : (z8V a.tmps (.tmp t)).run c.P w = .ok (a.tmps.getD t Go.undef) w := by simp only [z8V, Sem.run_pure]
    unfold z9v at h
    dsimp only at h
    split at h
    · rename_i r g hs
      rw [hs] at hv
      cases rk with
      | d =>
        obtain ⟨ob, ho, h1⟩ := zD h
        split at h1
        · rename_i n xs
          refine ⟨_, _, hrun, h1, rfl, .d _ _ ?_⟩
          generalize a.tmps.getD t Go.undef = v at hv
          cases hv with
          | row _ _ _ q1 q2 =>
            obtain ⟨b, cap, rfl, q3, q4⟩ := q2 _ _ ho
            obtain ⟨b', q5, q6, q7⟩ := R.obs _ _ _ ho
            rw [q3] at q5; injection q5 with q5; injection q5 with q5 _; subst q5
            refine .sl b 0 cap xs (RelC.mk 0 fun i c hi => ?_) q4
            obtain ⟨v, g1, g2, g3, g4, g5⟩ := q6 i c hi
            refine ⟨v, by rw [Nat.zero_add]; exact g1, ?_, g3, g4.keep (jO κ X.M0 none)⟩
            rintro (hm | ⟨k', lo, hk, -⟩)
            · exact R.notM0 (R.kb _ _ _ q3).2 _ hm
            · obtain ⟨k2, hk2, e⟩ := z0b hk
              have := R.ki _ _ _ _ _ q3 hk2
              subst this
              rcases e with e | ⟨i, e, -⟩
              · subst e
                cases r with
                | zero => cases hk
                | succ r => cases hk
              · cases e
        · exact h1.elim
      | _ => exact h.elim
    · obtain ⟨x, h1, h2⟩ := z6a hv h
      exact ⟨_, x, hrun, h1, h2⟩
  | cell p t =>
    have h0 : kLoad c.P t s (s.get p) (fun v => kGo s rk v k) := h
    obtain ⟨u', y, h1, h2, h3⟩ := z6f (P := c.P) R h0 (R.slots p)
    obtain ⟨x, h4, h5⟩ := z6a h2 h3
    exact ⟨u', x, by unfold z8V; exact z5O h1, h4, h5⟩
theorem z6g {c : Cx} (hb : ∀ b, X.S b ↔ ∃ key lo, X.κ0 key = some (b, lo)) (R : Rel X κ s a w) : ∀ {rvs : List ResultVar} {rks : List RK} {k : List Sv → Prop}, z8R c s rvs rks k →
    ∃ vs xs, (rvs.mapM (z8V a.tmps)).run c.P w = .ok vs w ∧ k xs ∧ vs.length = xs.length ∧ ∀ (i : Nat) v x, vs[i]? = some v → xs[i]? = some x → z5S w X.M0 κ v x
  | [], [], k, h => ⟨[], [], by simp [Sem.run_pure], h, rfl, by simp⟩
  | rv :: rvs, rk :: rks, k, h => by
    obtain ⟨v, x, h1, h2, h3⟩ := z8Q hb R h
    obtain ⟨vs, xs, h4, h5, h6, h7⟩ := z6g hb R h2
    refine ⟨v :: vs, x :: xs, by simp [List.mapM_cons, Sem.run_bind, h1, h4, Sem.run_pure], h5, by simp [h6], fun i u y hu hy => ?_⟩
    cases i with
    | zero => simp at hu hy; subst hu; subst hy; exact h3
    | succ i => exact h7 i u y (by simpa using hu) (by simpa using hy)
  | [], _ :: _, _, h => h.elim
  | _ :: _, [], _, h => h.elim
theorem z5N {fn : Func} {tmps : Array Value} {vs : List Value} (h : (fn.results.toList.mapM (z8V tmps)).run P w = .ok vs w) :
    (results fn tmps).run P w = .ok (if h : vs.length = 1 then vs[0] else .tuple ⟨vs⟩) w := by
  have e : (results fn tmps) = (do let vs ← fn.results.mapM (z8V tmps); pure (if h : vs.size = 1 then vs[0] else .tuple vs)) := by
    unfold results
    congr 1
  rw [e]
  simp only [Array.mapM_eq_mapM_toList, Sem.run_bind]
  simp [Sem.run_bind, h, Sem.run_pure]
end
end Nt

