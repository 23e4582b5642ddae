import Derived.Test.YtnbcacfljnooeaaFwZ5
namespace Go.Proofs.Ytnbcacfljnooeaa.M
open Go Nt
set_option linter.unusedVariables false
structure zA where
  K : Int
  N : Int
  S : Str
  L : List zA
  From : Int
  To : Int
mutual
def zA.toD : zA → D
  | ⟨K, N, S, L, From, To⟩ => .agg [.int .i64 K, .int .i64 N, .str S, .sl (zA.toDs L), .int .i64 From, .int .i64 To]
def zA.toDs : List zA → List D
  | [] => []
  | x :: r => zA.toD x :: zA.toDs r
end
theorem zA.toDs_eq : ∀ l, zA.toDs l = List.map zA.toD l
  | [] => by simp [zA.toDs]
  | x :: r => by simp [zA.toDs, zA.toDs_eq r]
theorem zA.toD_eq (x : zA) : x.toD = .agg [.int .i64 x.K, .int .i64 x.N, .str x.S, .sl (List.map zA.toD x.L), .int .i64 x.From, .int .i64 x.To] := by
  cases x; simp [zA.toD, zA.toDs_eq]
theorem zA.ind {P : zA → Prop} (h : ∀ t : zA, (∀ x ∈ t.L, P x) → P t) (t : zA) : P t := h t (fun x hx => zA.ind h x)
termination_by SizeOf.sizeOf t
decreasing_by all_goals (cases t; have := List.sizeOf_lt_of_mem hx; simp at *; omega)
theorem zA.sz (x : zA) : x.toD.cells.length = 6 := by rw [zA.toD_eq]; rfl
end Go.Proofs.Ytnbcacfljnooeaa.M

