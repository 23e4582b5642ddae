import Derived.Test.YthbhgdooeeapjaaGreatFwZ5
namespace Go.Proofs.YthbhgdooeeapjaaGreat.M
open Go Nt
set_option linter.unusedVariables false
structure zD where
  K : Int
  N : Int
  S : Str
  L : List zD
  From : Int
  To : Int
mutual
def zD.toD : zD → D
  | ⟨K, N, S, L, From, To⟩ => .agg [.int .i64 K, .int .i64 N, .str S, .sl (zD.toDs L), .int .i64 From, .int .i64 To]
def zD.toDs : List zD → List D
  | [] => []
  | x :: r => zD.toD x :: zD.toDs r
end
theorem zD.toDs_eq : ∀ l, zD.toDs l = List.map zD.toD l
  | [] => by simp [zD.toDs]
  | x :: r => by simp [zD.toDs, zD.toDs_eq r]
theorem zD.toD_eq (x : zD) : x.toD = .agg [.int .i64 x.K, .int .i64 x.N, .str x.S, .sl (List.map zD.toD x.L), .int .i64 x.From, .int .i64 x.To] := by
  cases x; simp [zD.toD, zD.toDs_eq]
theorem zD.ind {P : zD → Prop} (h : ∀ t : zD, (∀ x ∈ t.L, P x) → P t) (t : zD) : P t := h t (fun x hx => zD.ind h x)
termination_by SizeOf.sizeOf t
decreasing_by all_goals (cases t; have := List.sizeOf_lt_of_mem hx; simp at *; omega)
theorem zD.sz (x : zD) : x.toD.cells.length = 6 := by rw [zD.toD_eq]; rfl
structure zB where
  K : Int
  N : Int
  S : Str
  From : Int
  To : Int
@[reducible] def zB.toD (x : zB) : D := .agg [.int .i64 x.K, .int .i64 x.N, .str x.S, .int .i64 x.From, .int .i64 x.To]
theorem zB.toD_eq (x : zB) : x.toD = .agg [.int .i64 x.K, .int .i64 x.N, .str x.S, .int .i64 x.From, .int .i64 x.To] := rfl
theorem zB.sz (x : zB) : x.toD.cells.length = 5 := by rw [zB.toD_eq]; rfl
structure UnitReader where
  t : List zB
  at_ : Int
  e : Int
@[reducible] def UnitReader.toD (x : UnitReader) : D := .agg [.sl (List.map zB.toD x.t), .int .i64 x.at_, .int .i64 x.e]
theorem UnitReader.toD_eq (x : UnitReader) : x.toD = .agg [.sl (List.map zB.toD x.t), .int .i64 x.at_, .int .i64 x.e] := rfl
theorem UnitReader.sz (x : UnitReader) : x.toD.cells.length = 3 := by rw [UnitReader.toD_eq]; rfl
structure PrintWriter where
  out : List Str
@[reducible] def PrintWriter.toD (x : PrintWriter) : D := .agg [.sl (List.map D.str x.out)]
theorem PrintWriter.toD_eq (x : PrintWriter) : x.toD = .agg [.sl (List.map D.str x.out)] := rfl
theorem PrintWriter.sz (x : PrintWriter) : x.toD.cells.length = 1 := by rw [PrintWriter.toD_eq]; rfl
structure LexReader where
  text : Str
  at_ : Int
  out : List zB
@[reducible] def LexReader.toD (x : LexReader) : D := .agg [.str x.text, .int .i64 x.at_, .sl (List.map zB.toD x.out)]
theorem LexReader.toD_eq (x : LexReader) : x.toD = .agg [.str x.text, .int .i64 x.at_, .sl (List.map zB.toD x.out)] := rfl
theorem LexReader.sz (x : LexReader) : x.toD.cells.length = 3 := by rw [LexReader.toD_eq]; rfl
structure TermMeter where
  size : Int
  depth : Int
@[reducible] def TermMeter.toD (x : TermMeter) : D := .agg [.int .i64 x.size, .int .i64 x.depth]
theorem TermMeter.toD_eq (x : TermMeter) : x.toD = .agg [.int .i64 x.size, .int .i64 x.depth] := rfl
theorem TermMeter.sz (x : TermMeter) : x.toD.cells.length = 2 := by rw [TermMeter.toD_eq]; rfl
structure ExprParser where
  t : List zB
  at_ : Int
  e : Int
@[reducible] def ExprParser.toD (x : ExprParser) : D := .agg [.sl (List.map zB.toD x.t), .int .i64 x.at_, .int .i64 x.e]
theorem ExprParser.toD_eq (x : ExprParser) : x.toD = .agg [.sl (List.map zB.toD x.t), .int .i64 x.at_, .int .i64 x.e] := rfl
theorem ExprParser.sz (x : ExprParser) : x.toD.cells.length = 3 := by rw [ExprParser.toD_eq]; rfl
structure StmtReader where
  t : List zB
  at_ : Int
  e : Int
@[reducible] def StmtReader.toD (x : StmtReader) : D := .agg [.sl (List.map zB.toD x.t), .int .i64 x.at_, .int .i64 x.e]
theorem StmtReader.toD_eq (x : StmtReader) : x.toD = .agg [.sl (List.map zB.toD x.t), .int .i64 x.at_, .int .i64 x.e] := rfl
theorem StmtReader.sz (x : StmtReader) : x.toD.cells.length = 3 := by rw [StmtReader.toD_eq]; rfl
abbrev TP := FuncId → List Sv → H → List Sv → H → Prop
abbrev BP := List KI → St → Prop
abbrev hU (t : List D) (a e : Int) : List Sv := [.d (.sl t), .d (.int .i64 a), .d (.int .i64 e)]
abbrev hM (a b : Int) (c : List UInt8) (l : List D) (f t : Int) : List Sv := [.d (.int .i64 a), .d (.int .i64 b), .d (.str c), .own 6 l, .d (.int .i64 f), .d (.int .i64 t)]
abbrev hX (c : List UInt8) (a : Int) (l : List D) : List Sv := [.d (.str c), .d (.int .i64 a), .own 5 l]
abbrev gT (a b : Int) (c : List UInt8) (l : List D) (f t : Int) : D := .agg [.int .i64 a, .int .i64 b, .str c, .sl l, .int .i64 f, .int .i64 t]
abbrev gK (a b : Int) (c : List UInt8) (f t : Int) : D := .agg [.int .i64 a, .int .i64 b, .str c, .int .i64 f, .int .i64 t]
abbrev nI (a : Int) : Sv := .d (.int .i64 a)
abbrev nS (c : List UInt8) : Sv := .d (.str c)
abbrev mT (l : List zD) : List D := List.map zD.toD l
abbrev mK (l : List zB) : List D := List.map zB.toD l
abbrev nK (l : List zB) : Sv := .d (.sl (List.map zB.toD l))
abbrev w6 (n : Int) : Int := IntKind.wrap .i64 n
abbrev nB (b : Bool) : Sv := .d (.bool b)
abbrev Dn (rs : List Sv) (h : H) (l : List Sv) : Prop := l = rs ∧ [] = h
end Go.Proofs.YthbhgdooeeapjaaGreat.M

