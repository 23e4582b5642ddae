import Derived.Test.YtnbcacfljnooeaaFwQ
namespace Nt
open Go
set_option linter.unusedVariables false
set_option linter.unusedSimpArgs false
section
variable {P : Program} {X : Ctx} {κ : Kap} {s : St} {a : Act} {w : World}
theorem z8n {M : Nat → Nat → Prop} {E : Env} {u : Value} {v : Sv} {k : Sv → Prop} (h : kArg v k) (hv : RelS w M κ E u v) : ∃ y, y.plain = true ∧ RelS w M κ E u y ∧ k y := by
  cases v with
  | d x => exact ⟨_, rfl, hv, h⟩
  | nilS => cases hv with | nilS => exact ⟨_, rfl, .d _ _ .nil, h⟩
  | right r g n xs => cases hv with | right _ _ _ _ _ hx _ _ => exact ⟨_, rfl, .d _ _ hx, h⟩
  | lent id off ver n xs => cases hv with | lent _ _ _ _ _ _ hx _ _ => exact ⟨_, rfl, .d _ _ hx, h⟩
  | hp i o => exact ⟨_, rfl, hv, h⟩
  | fn f x y =>
    refine ⟨_, ?_, hv, h⟩
    cases hv with | fn _ _ _ _ _ p1 p2 _ _ => simp [Sv.plain, p1, p2]
  | bld x l => cases hv with | bld _ _ _ hx _ => exact ⟨_, rfl, .d _ _ hx, h⟩
  | _ => exact h.elim
theorem z0S {M : Nat → Nat → Prop} {E : Env} : ∀ {svs : List Sv} {us : List Value} {k : List Sv → Prop}, kArgs svs k → RelSs w M κ E us svs → ∃ ys, wM ys = true ∧ RelSs w M κ E us ys ∧ k ys
  | [], _, k, h, .nil => ⟨[], rfl, .nil, h⟩
  | v :: svs, _, k, h, .cons u _ us _ hv hvs => by
    obtain ⟨y, p1, h1, h2⟩ := z8n h hv
    obtain ⟨ys, p2, h3, h4⟩ := z0S h2 hvs
    exact ⟨y :: ys, by simp [wM, p1, p2], .cons _ _ _ _ h1 h3, h4⟩
theorem z1Y {w' : World} {M M' : Nat → Nat → Prop} {κ' : Kap} {E E' : Env} (K : Keeps w M w' M') : ∀ {us : List Value} {xs : List Sv}, z8F xs = true → RelSs w M κ E us xs → RelSs w' M' κ' E' us xs
  | _, _, _, .nil => .nil
  | u :: us, x :: xs, h, .cons _ _ _ _ h1 h2 => by
    cases x with
    | d x => cases h1 with | d _ _ h1 => exact .cons _ _ _ _ (.d _ _ (h1.keep K)) (z1Y K h h2)
    | fn f p q =>
      cases p with
      | nil => cases q with
        | nil => cases h1 with | fn _ us' ws' _ _ p1 p2 g1 g2 => cases g1; cases g2; exact .cons _ _ _ _ (.fn _ _ _ _ _ rfl rfl .nil .nil) (z1Y K h h2)
        | cons _ _ => simp [z8F] at h
      | cons _ _ => simp [z8F] at h
    | _ => simp [z8F] at h
theorem z6D {x : D} {k : D → Prop} (h : exLike x k) : ∃ y, k y := by
  cases x <;> (obtain ⟨y, h⟩ := h; exact ⟨_, h⟩)
theorem z5W : ∀ {gs : List Nat} {k : Nat → Prop}, exFn gs k → ∃ g, k g
  | [], _, h => h.elim
  | g :: r, _, h => h.elim (fun h => ⟨g, h⟩) fun h => z5W (gs := r) h
theorem z1n : ∀ {ks : List RK} {k : List Sv → Prop}, exR ks k → ∃ rs, k rs
  | [], k, h => ⟨[], h⟩
  | .d _ :: ks, k, h => by obtain ⟨x, h⟩ := z5D h; obtain ⟨rs, h⟩ := z1n h; exact ⟨_, h⟩
  | .own n :: ks, k, h => by obtain ⟨x, h⟩ := h; obtain ⟨rs, h⟩ := z1n h; exact ⟨_, h⟩
  | .hp :: ks, k, h => by obtain ⟨i, o, h⟩ := h; obtain ⟨rs, h⟩ := z1n h; exact ⟨_, h⟩
  | .fns gs :: ks, k, h => by obtain ⟨g, h⟩ := z5W h; obtain ⟨rs, h⟩ := z1n h; exact ⟨_, h⟩
theorem z3N : ∀ {cs : List Sv} {k : List Sv → Prop}, exC cs k → ∃ ds, k ds
  | [], k, h => ⟨[], h⟩
  | c :: cs, k, h => by
    cases c with
    | d _ => obtain ⟨x, h⟩ := z6D h; obtain ⟨rs, h⟩ := z3N h; exact ⟨_, h⟩
    | own n _ => obtain ⟨x, h⟩ := h; obtain ⟨rs, h⟩ := z3N h; exact ⟨_, h⟩
    | _ => obtain ⟨rs, h⟩ := z3N (cs := cs) h; exact ⟨_, h⟩
theorem z7e : ∀ {h : H} {k : H → Prop}, exH h k → ∃ h', k h'
  | [], k, h => ⟨[], h⟩
  | cs :: r, k, h => by obtain ⟨ds, h1⟩ := z3N (cs := cs) h; obtain ⟨l, h2⟩ := z7e (h := r) h1; exact ⟨_, h2⟩
theorem z3s {dst : Option Nat} {rs : List Sv} {h : Option H} {k : yB → Prop} (hk : jJ s dst rs h k) :
    (∃ n xs d, rs = [.own n xs] ∧ dst = some d ∧ d < s.n ∧ k ⟨[(d, .right d (s.gen d + 1) n xs)], [(d, s.gen d + 1, some (.tok n xs.length))], h⟩) ∨
    ((∀ n xs, rs ≠ [.own n xs]) ∧ ∃ y, ((∃ v, rs = [v] ∧ y = v) ∨ ((∀ v, rs ≠ [v]) ∧ y = .tup (rs.map z5q))) ∧ ((dst = none ∧ k ⟨[], [], h⟩) ∨ ∃ d, dst = some d ∧ d < s.n ∧ k ⟨[(d, y)], [], h⟩)) := by
  have fin : ∀ y, (jW s dst y fun p => k ⟨p.puts, p.ars, h⟩) → ((dst = none ∧ k ⟨[], [], h⟩) ∨ ∃ d, dst = some d ∧ d < s.n ∧ k ⟨[(d, y)], [], h⟩) := fun y hk => by
    cases dst with
    | none => exact .inl ⟨rfl, hk⟩
    | some d => obtain ⟨h1, h2⟩ := zE hk; exact .inr ⟨d, rfl, z4c h1, h2⟩
  unfold jJ at hk
  split at hk
  · rename_i n xs
    obtain ⟨d, h1, h2, h3⟩ := vN hk
    exact .inl ⟨n, xs, d, rfl, h1, h2, h3⟩
  · rename_i v hv
    exact .inr ⟨fun n xs e => by injection e with e _; exact hv n xs e, v, .inl ⟨v, rfl, rfl⟩, fin _ hk⟩
  · rename_i hv1 hv2
    exact .inr ⟨fun n xs e => hv1 n xs e, _, .inr ⟨fun v e => hv2 v e, rfl⟩, fin _ hk⟩
theorem RelR.relS {w' : World} {M M' : Nat → Nat → Prop} {κ' : Kap} {E' : Env} (K : Keeps w M w' M') (hp : ∀ id b, κ (.hp id) = some (b, 0) → κ' (.hp id) = some (b, 0)) {v : Value} {x : Sv} (h : RelR w M κ v x) (hx : ∀ n xs, x ≠ .own n xs) :
    RelS w' M' κ' E' v x := by
  cases x with
  | own n xs => exact absurd rfl (hx n xs)
  | _ => exact RelS.conv K hp h.1 h.2
theorem RelR2.relS {w' : World} {M M' : Nat → Nat → Prop} {κ' : Kap} {E' : Env} (K : Keeps w M w' M') (hp : ∀ id b, κ (.hp id) = some (b, 0) → κ' (.hp id) = some (b, 0)) {v : Value} {x : Sv} (h : RelR2 w M κ v x) : RelS w' M' κ' E' v (z5q x) := by
  cases x with
  | own n xs => exact .d _ _ (RelV.keep K h)
  | _ => exact RelS.conv K hp h.1 h.2
theorem z4o {M : Nat → Nat → Prop} {E : Env} (f : Sv → Sv) : ∀ {vs : List Value} {xs : List Sv}, vs.length = xs.length → (∀ (i : Nat) u x, vs[i]? = some u → xs[i]? = some x → RelS w M κ E u (f x)) → RelSs w M κ E vs (xs.map f)
  | [], [], _, _ => .nil
  | v :: vs, x :: xs, hl, h => .cons _ _ _ _ (h 0 v x rfl rfl) (z4o f (by simpa using hl) (fun i u y h1 h2 => h (i + 1) u y (by simpa using h1) (by simpa using h2)))
theorem ResRel.relS {w' : World} {M M' : Nat → Nat → Prop} {κ' : Kap} {E' : Env} (K : Keeps w M w' M') (hp : ∀ id b, κ (.hp id) = some (b, 0) → κ' (.hp id) = some (b, 0)) {v : Value} {rs : List Sv} (h : ResRel w M κ v rs) (hno : ∀ n xs, rs ≠ [.own n xs])
    {y : Sv} (hy : (∃ v, rs = [v] ∧ y = v) ∨ ((∀ v, rs ≠ [v]) ∧ y = .tup (rs.map z5q))) : RelS w' M' κ' E' v y := by
  rcases hy with ⟨x, rfl, rfl⟩ | ⟨h1, rfl⟩
  · exact RelR.relS K hp h (fun n xs e => hno n xs (by rw [e]))
  · have : ∃ vs : List Value, v = .tuple ⟨vs⟩ ∧ vs.length = rs.length ∧ ∀ (i : Nat) u x, vs[i]? = some u → rs[i]? = some x → RelR2 w M κ u x := by
      cases rs with
      | nil => exact h
      | cons x r => cases r with
        | nil => exact absurd rfl (h1 x)
        | cons _ _ => exact h
    obtain ⟨vs, rfl, hl, h2⟩ := this
    exact .tup _ _ (z4o z5q hl (fun i u x h3 h4 => (h2 i u x h3 h4).relS K hp))
theorem Rel.pureCall (R : Rel X κ s a w) {h'' : H} {w' : World} {κ' : Kap} {v : Value} {rs : List Sv} {dst : Option Nat} {k : yB → Prop} (A : z4v w (Mut X.M0 κ) (fun _ => none) h'' w' κ') (hr : ResRel w' (Mut (Mut X.M0 κ) κ') κ' v rs)
    (hd : z3E rs = true) (hk : jJ s dst rs none k) : ∃ p κn, k p ∧ Rel X κn (s.app p) (a.put dst v) w' := by
  have hM : ∀ b o, Mut (Mut X.M0 κ) (fun _ => none) b o ↔ Mut X.M0 κ b o := z6k _
  have hold : ∀ b, b < w.heap.size → w'.heap[b]? = w.heap[b]? := fun b hb => A.kept.block b hb (fun ⟨_, _, h⟩ => by cases h)
  have hA : ∀ k b lo, κ k = some (b, lo) → w'.heap[b]? = w.heap[b]? ∧ (∀ (key : Key) (lo' : Nat), (fun _ => none : Kap) key ≠ some (b, lo')) ∧ ∀ o, lo ≤ o → Mut X.M0 κ b o :=
    fun k b lo h => ⟨hold b (R.kb _ _ _ h).1, fun _ _ h => (by cases h), fun o ho => .inr ⟨k, lo, h, ho⟩⟩
  have heap : ∀ {κn : Kap} {p : yB}, p.h = none → (∀ id b, κ (.hp id) = some (b, 0) → κn (.hp id) = some (b, 0)) → (∀ id off, κn (.ho id off) = κ (.ho id off)) → Stays w (Mut X.M0 κ) κ s.env w' (Mut X.M0 κn) κn (s.app p).env → RelH w' (Mut X.M0 κn) κn (s.app p).env :=
    fun {κn p} hp _ ho T => RelH.stay T R.heap (by show p.h.getD s.h = s.h; rw [hp]; rfl) ho (fun id b lo hb => hold b (R.kb _ _ _ hb).1)
  have plainD : ∀ {κn : Kap} {E : Env} (K : Keeps w' (Mut (Mut X.M0 κ) κ') w' (Mut X.M0 κn)) {y : Sv}, ((∃ v, rs = [v] ∧ y = v) ∨ ((∀ v, rs ≠ [v]) ∧ y = .tup (rs.map z5q))) → (∀ n xs, rs ≠ [.own n xs]) → RelS w' (Mut X.M0 κn) κn E v y := by
    intro κn E K y hy hno
    have one : ∀ u x, (∃ z, x = .d z) ∨ (∃ n z, x = .own n z) ∨ (∃ f, x = .fn f [] []) → RelR2 w' (Mut (Mut X.M0 κ) κ') κ' u x → RelS w' (Mut X.M0 κn) κn E u (z5q x) := by
      rintro u x (⟨z, rfl⟩ | ⟨n, z, rfl⟩ | ⟨f, rfl⟩) h
      · cases h.2 with | d _ _ h => exact .d _ _ (h.keep K)
      · exact .d _ _ (RelV.keep K h)
      · cases h.2 with | fn _ us ws _ _ p1 p2 g1 g2 => cases g1; cases g2; exact .fn _ _ _ _ _ rfl rfl .nil .nil
    have each : ∀ (rs : List Sv), z3E rs = true → ∀ (i : Nat) x, rs[i]? = some x → (∃ z, x = .d z) ∨ (∃ n z, x = .own n z) ∨ (∃ f, x = .fn f [] []) := by
      intro rs
      induction rs with
      | nil => intro _ i x h; simp at h
      | cons r rs ih =>
        intro h i x hx
        cases r with
        | d z => cases i with
          | zero => simp at hx; exact .inl ⟨z, hx.symm⟩
          | succ i => exact ih h i x (by simpa using hx)
        | own n z => cases i with
          | zero => simp at hx; exact .inr (.inl ⟨n, z, hx.symm⟩)
          | succ i => exact ih h i x (by simpa using hx)
        | fn f p q => cases p with
          | nil => cases q with
            | nil => cases i with
              | zero => simp at hx; exact .inr (.inr ⟨f, hx.symm⟩)
              | succ i => exact ih h i x (by simpa using hx)
            | cons _ _ => simp [z3E] at h
          | cons _ _ => simp [z3E] at h
        | _ => simp [z3E] at h
    rcases hy with ⟨x, rfl, rfl⟩ | ⟨h1, rfl⟩
    · rcases each _ hd 0 y rfl with ⟨z, rfl⟩ | ⟨n, z, rfl⟩ | ⟨f, rfl⟩
      · cases hr.2 with | d _ _ h => exact .d _ _ (h.keep K)
      · exact absurd rfl (hno n z)
      · cases hr.2 with | fn _ us ws _ _ p1 p2 g1 g2 => cases g1; cases g2; exact .fn _ _ _ _ _ rfl rfl .nil .nil
    · have : ∃ vs : List Value, v = .tuple ⟨vs⟩ ∧ vs.length = rs.length ∧ ∀ (i : Nat) u x, vs[i]? = some u → rs[i]? = some x → RelR2 w' (Mut (Mut X.M0 κ) κ') κ' u x := by
        cases rs with
        | nil => exact hr
        | cons x r => cases r with
          | nil => exact absurd rfl (h1 x)
          | cons _ _ => exact hr
      obtain ⟨vs, rfl, hl, h2⟩ := this
      exact .tup _ _ (z4o z5q hl (fun i u x h3 h4 => one u x (each rs hd i x h4) (h2 i u x h3 h4)))
  rcases z3s hk with ⟨n, xs, d, rfl, rfl, hdn, k1⟩ | ⟨hno, y, hy, hd2⟩
  · refine ⟨_, upK κ (.ar d) (κ' (.ar 0)), k1, R.call A (some d) hM (fun b o h => .inl h) (fun _ _ _ h => by cases h) (fun k b lo h => ?_) (fun k hk => zZ _ _ (by intro e; injection e with e; subst e; exact hk rfl)) (fun k b lo h => hold b (R.kb _ _ _ h).1)
      (fun id b h => by rw [zZ _ _ (by simp)]; exact h) (fun id r h => by rw [zZ _ _ (by simp)] at h; exact R.hn id r h) (fun _ id b h => by rw [zZ _ _ (by simp)] at h; exact ⟨h, hold b (R.kb _ _ _ h).1⟩) (.inr ⟨d, n, xs.length, rfl, rfl⟩) (fun T K => ⟨.inr ⟨d, v, _, hdn, rfl, rfl, ?_⟩, ?_⟩)⟩
    · by_cases e : k = .ar d
      · subst e; rw [gF] at h; exact .inl ⟨d, rfl, rfl, h⟩
      · rw [zZ _ _ e] at h
        exact .inr (.inl ⟨fun d' h' => by injection h' with h'; subst h'; exact e, h, hA k b lo h⟩)
    · obtain ⟨h1, h2⟩ := hr
      refine .right _ _ _ _ _ (h1.keep K) (by show s.gen d + 1 ≤ (zG ((d, s.gen d + 1, some (.tok n xs.length)) :: s.ar) d).1; rw [zF, if_pos rfl]; exact Nat.le_refl _) (fun n' l h => ?_)
      rw [ob_iff] at h
      change zG ((d, s.gen d + 1, some (.tok n xs.length)) :: s.ar) d = _ at h
      rw [zF, if_pos rfl] at h
      injection h with _ h; injection h with h; injection h with e1 e2; subst e1; subst e2
      refine ⟨rfl, Nat.le_refl _, fun _ => ?_⟩
      obtain ⟨q1, q2⟩ := h2
      refine ⟨q1, ?_⟩
      rcases q2 with q2 | q2 | ⟨b, o, cap, q2, q3 | ⟨q3, q4⟩⟩
      · exact .inl q2
      · exact .inr (.inl q2)
      · exact .inr (.inr ⟨b, o, cap, q2, .inl q3⟩)
      · exact .inr (.inr ⟨b, o, cap, q2, .inr ⟨by rw [gF]; exact q3, q4⟩⟩)
    · exact heap rfl (fun id b h => by rw [zZ _ _ (by simp)]; exact h) (fun id off => zZ _ _ (by simp)) T
  · have go : ∀ {p : yB} {a' : Act}, p.ars = [] → p.h = none → (∀ T : Stays w (Mut X.M0 κ) κ s.env w' (Mut X.M0 κ) κ (s.app p).env, Keeps w' (Mut (Mut X.M0 κ) κ') w' (Mut X.M0 κ) →
        ((p.puts = [] ∧ a' = a) ∨ ∃ d v sv, d < s.n ∧ p.puts = [(d, sv)] ∧ a' = a.put (some d) v ∧ RelS w' (Mut X.M0 κ) κ (s.app p).env v sv)) → Rel X κ (s.app p) a' w' := fun {p a'} h1 h2 h3 =>
      R.call A none hM (fun b o h => .inl h) (fun _ _ _ h => by cases h) (fun k b lo h => .inr (.inl ⟨fun d' h' => (by cases h'), h, hA k b lo h⟩)) (fun k hk => rfl) (fun k b lo h => hold b (R.kb _ _ _ h).1)
        (fun id b h => h) (fun id r h => by show id < (p.h.getD s.h).length; rw [h2]; exact R.hn id r h) (fun _ id b h => ⟨h, hold b (R.kb _ _ _ h).1⟩) (.inl ⟨rfl, h1⟩) (fun T K => ⟨h3 T K, heap h2 (fun id b h => h) (fun _ _ => rfl) T⟩)
    rcases hd2 with ⟨rfl, k1⟩ | ⟨d, rfl, hdn, k1⟩
    · exact ⟨_, κ, k1, go rfl rfl (fun T K => .inl ⟨rfl, rfl⟩)⟩
    · exact ⟨_, κ, k1, go rfl rfl (fun T K => .inr ⟨d, v, y, hdn, rfl, rfl, plainD K hy hno⟩)⟩
end
end Nt

