/- The plain types, and how they stand for the model's data. -/
import Derived.Test.YtelddjedpmfclaaFwZ5
namespace Go.Proofs.Ytelddjedpmfclaa.M
open Go Nt
set_option linter.unusedVariables false
structure Term where
  K : Int
  N : Int
  S : Str
  L : List Term
  From : Int
  To : Int
mutual
def Term.toD : Term → D
  | ⟨K, N, S, L, From, To⟩ => .agg [.int .i64 K, .int .i64 N, .str S, .sl (Term.toDs L), .int .i64 From, .int .i64 To]
def Term.toDs : List Term → List D
  | [] => []
  | x :: r => Term.toD x :: Term.toDs r
end
theorem Term.toDs_eq : ∀ l, Term.toDs l = List.map Term.toD l
  | [] => by simp [Term.toDs]
  | x :: r => by simp [Term.toDs, Term.toDs_eq r]
theorem Term.toD_eq (x : Term) : x.toD = .agg [.int .i64 x.K, .int .i64 x.N, .str x.S, .sl (List.map Term.toD x.L), .int .i64 x.From, .int .i64 x.To] := by
  cases x; simp [Term.toD, Term.toDs_eq]
theorem Term.ind {P : Term → Prop} (h : ∀ t : Term, (∀ x ∈ t.L, P x) → P t) (t : Term) : P t := h t (fun x hx => Term.ind h x)
termination_by SizeOf.sizeOf t
decreasing_by all_goals (cases t; have := List.sizeOf_lt_of_mem hx; simp at *; omega)
theorem Term.sz (x : Term) : x.toD.cells.length = 6 := by rw [Term.toD_eq]; rfl
structure Token where
  K : Int
  N : Int
  S : Str
  From : Int
  To : Int
@[reducible] def Token.toD (x : Token) : D := .agg [.int .i64 x.K, .int .i64 x.N, .str x.S, .int .i64 x.From, .int .i64 x.To]
theorem Token.toD_eq (x : Token) : x.toD = .agg [.int .i64 x.K, .int .i64 x.N, .str x.S, .int .i64 x.From, .int .i64 x.To] := rfl
theorem Token.sz (x : Token) : x.toD.cells.length = 5 := by rw [Token.toD_eq]; rfl
structure UnitReader where
  t : List Token
  at_ : Int
  e : Int
@[reducible] def UnitReader.toD (x : UnitReader) : D := .agg [.sl (List.map Token.toD x.t), .int .i64 x.at_, .int .i64 x.e]
theorem UnitReader.toD_eq (x : UnitReader) : x.toD = .agg [.sl (List.map Token.toD x.t), .int .i64 x.at_, .int .i64 x.e] := rfl
theorem UnitReader.sz (x : UnitReader) : x.toD.cells.length = 3 := by rw [UnitReader.toD_eq]; rfl
structure LexReader where
  text : Str
  at_ : Int
  out : List Token
@[reducible] def LexReader.toD (x : LexReader) : D := .agg [.str x.text, .int .i64 x.at_, .sl (List.map Token.toD x.out)]
theorem LexReader.toD_eq (x : LexReader) : x.toD = .agg [.str x.text, .int .i64 x.at_, .sl (List.map Token.toD x.out)] := rfl
theorem LexReader.sz (x : LexReader) : x.toD.cells.length = 3 := by rw [LexReader.toD_eq]; rfl
structure TermMeter where
  size : Int
  depth : Int
@[reducible] def TermMeter.toD (x : TermMeter) : D := .agg [.int .i64 x.size, .int .i64 x.depth]
theorem TermMeter.toD_eq (x : TermMeter) : x.toD = .agg [.int .i64 x.size, .int .i64 x.depth] := rfl
theorem TermMeter.sz (x : TermMeter) : x.toD.cells.length = 2 := by rw [TermMeter.toD_eq]; rfl
structure ExprParser where
  t : List Token
  at_ : Int
  e : Int
@[reducible] def ExprParser.toD (x : ExprParser) : D := .agg [.sl (List.map Token.toD x.t), .int .i64 x.at_, .int .i64 x.e]
theorem ExprParser.toD_eq (x : ExprParser) : x.toD = .agg [.sl (List.map Token.toD x.t), .int .i64 x.at_, .int .i64 x.e] := rfl
theorem ExprParser.sz (x : ExprParser) : x.toD.cells.length = 3 := by rw [ExprParser.toD_eq]; rfl
structure StmtReader where
  t : List Token
  at_ : Int
  e : Int
@[reducible] def StmtReader.toD (x : StmtReader) : D := .agg [.sl (List.map Token.toD x.t), .int .i64 x.at_, .int .i64 x.e]
theorem StmtReader.toD_eq (x : StmtReader) : x.toD = .agg [.sl (List.map Token.toD x.t), .int .i64 x.at_, .int .i64 x.e] := rfl
theorem StmtReader.sz (x : StmtReader) : x.toD.cells.length = 3 := by rw [StmtReader.toD_eq]; rfl
end Go.Proofs.Ytelddjedpmfclaa.M
