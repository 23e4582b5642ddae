/- The plain types, and how they stand for the model's data. -/
import Derived.Test.YtccabbnpnpfnfaaFwZ5
namespace Go.Proofs.Ytccabbnpnpfnfaa.M
open Go Nt
structure Term where
  K : Int
  N : Int
  S : Str
  L : List Term
  From : Int
  To : Int
mutual
def Term.toD : Term → D
  | ⟨K, N, S, L, From, To⟩ => .agg [.int .i64 K, .int .i64 N, .str S, .sl (Term.toDs L), .int .i64 From, .int .i64 To]
def Term.toDs : List Term → List D
  | [] => []
  | x :: r => Term.toD x :: Term.toDs r
end
theorem Term.toDs_eq : ∀ l, Term.toDs l = List.map Term.toD l
  | [] => by simp [Term.toDs]
  | x :: r => by simp [Term.toDs, Term.toDs_eq r]
theorem Term.toD_eq (x : Term) : x.toD = .agg [.int .i64 x.K, .int .i64 x.N, .str x.S, .sl (List.map Term.toD x.L), .int .i64 x.From, .int .i64 x.To] := by
  cases x; simp [Term.toD, Term.toDs_eq]
theorem Term.ind {P : Term → Prop} (h : ∀ t : Term, (∀ x ∈ t.L, P x) → P t) (t : Term) : P t := h t (fun x hx => Term.ind h x)
termination_by SizeOf.sizeOf t
decreasing_by all_goals (cases t; have := List.sizeOf_lt_of_mem hx; simp at *; omega)
theorem Term.sz (x : Term) : x.toD.cells.length = 6 := by rw [Term.toD_eq]; rfl
structure ShiftMover where
  by_ : Int
  from_ : Int
  lost : Bool
@[reducible] def ShiftMover.toD (x : ShiftMover) : D := .agg [.int .i64 x.by_, .int .i64 x.from_, .bool x.lost]
theorem ShiftMover.toD_eq (x : ShiftMover) : x.toD = .agg [.int .i64 x.by_, .int .i64 x.from_, .bool x.lost] := rfl
theorem ShiftMover.sz (x : ShiftMover) : x.toD.cells.length = 3 := by rw [ShiftMover.toD_eq]; rfl
structure ShiftFinder where
  at_ : Int
  found : Bool
@[reducible] def ShiftFinder.toD (x : ShiftFinder) : D := .agg [.int .i64 x.at_, .bool x.found]
theorem ShiftFinder.toD_eq (x : ShiftFinder) : x.toD = .agg [.int .i64 x.at_, .bool x.found] := rfl
theorem ShiftFinder.sz (x : ShiftFinder) : x.toD.cells.length = 2 := by rw [ShiftFinder.toD_eq]; rfl
structure ShiftPutter where
  e : Term
  at_ : Int
@[reducible] def ShiftPutter.toD (x : ShiftPutter) : D := .agg [.int .i64 x.e.K, .int .i64 x.e.N, .str x.e.S, .sl (List.map Term.toD x.e.L), .int .i64 x.e.From, .int .i64 x.e.To, .int .i64 x.at_]
theorem ShiftPutter.toD_eq (x : ShiftPutter) : x.toD = .agg [.int .i64 x.e.K, .int .i64 x.e.N, .str x.e.S, .sl (List.map Term.toD x.e.L), .int .i64 x.e.From, .int .i64 x.e.To, .int .i64 x.at_] := rfl
theorem ShiftPutter.sz (x : ShiftPutter) : x.toD.cells.length = 7 := by rw [ShiftPutter.toD_eq]; rfl
end Go.Proofs.Ytccabbnpnpfnfaa.M
