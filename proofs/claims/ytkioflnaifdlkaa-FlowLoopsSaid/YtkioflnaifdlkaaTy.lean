/- The plain types, and how they stand for the model's data. -/
import Derived.Test.YtkioflnaifdlkaaFwZ5
namespace Go.Proofs.Ytkioflnaifdlkaa.M
open Go Nt
set_option linter.unusedVariables false
structure Term where
  K : Int
  N : Int
  S : Str
  L : List Term
  From : Int
  To : Int
mutual
def Term.toD : Term → D
  | ⟨K, N, S, L, From, To⟩ => .agg [.int .i64 K, .int .i64 N, .str S, .sl (Term.toDs L), .int .i64 From, .int .i64 To]
def Term.toDs : List Term → List D
  | [] => []
  | x :: r => Term.toD x :: Term.toDs r
end
theorem Term.toDs_eq : ∀ l, Term.toDs l = List.map Term.toD l
  | [] => by simp [Term.toDs]
  | x :: r => by simp [Term.toDs, Term.toDs_eq r]
theorem Term.toD_eq (x : Term) : x.toD = .agg [.int .i64 x.K, .int .i64 x.N, .str x.S, .sl (List.map Term.toD x.L), .int .i64 x.From, .int .i64 x.To] := by
  cases x; simp [Term.toD, Term.toDs_eq]
theorem Term.ind {P : Term → Prop} (h : ∀ t : Term, (∀ x ∈ t.L, P x) → P t) (t : Term) : P t := h t (fun x hx => Term.ind h x)
termination_by SizeOf.sizeOf t
decreasing_by all_goals (cases t; have := List.sizeOf_lt_of_mem hx; simp at *; omega)
theorem Term.sz (x : Term) : x.toD.cells.length = 6 := by rw [Term.toD_eq]; rfl
structure FlowUse where
  l : Term
  r_ : Term
@[reducible] def FlowUse.toD (x : FlowUse) : D := .agg [.int .i64 x.l.K, .int .i64 x.l.N, .str x.l.S, .sl (List.map Term.toD x.l.L), .int .i64 x.l.From, .int .i64 x.l.To, .int .i64 x.r_.K, .int .i64 x.r_.N, .str x.r_.S, .sl (List.map Term.toD x.r_.L), .int .i64 x.r_.From, .int .i64 x.r_.To]
theorem FlowUse.toD_eq (x : FlowUse) : x.toD = .agg [.int .i64 x.l.K, .int .i64 x.l.N, .str x.l.S, .sl (List.map Term.toD x.l.L), .int .i64 x.l.From, .int .i64 x.l.To, .int .i64 x.r_.K, .int .i64 x.r_.N, .str x.r_.S, .sl (List.map Term.toD x.r_.L), .int .i64 x.r_.From, .int .i64 x.r_.To] := rfl
theorem FlowUse.sz (x : FlowUse) : x.toD.cells.length = 12 := by rw [FlowUse.toD_eq]; rfl
structure ShiftMover where
  by_ : Int
  from_ : Int
  lost : Bool
@[reducible] def ShiftMover.toD (x : ShiftMover) : D := .agg [.int .i64 x.by_, .int .i64 x.from_, .bool x.lost]
theorem ShiftMover.toD_eq (x : ShiftMover) : x.toD = .agg [.int .i64 x.by_, .int .i64 x.from_, .bool x.lost] := rfl
theorem ShiftMover.sz (x : ShiftMover) : x.toD.cells.length = 3 := by rw [ShiftMover.toD_eq]; rfl
end Go.Proofs.Ytkioflnaifdlkaa.M
