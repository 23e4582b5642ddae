import Derived.Test.YthbhgdooeeapjaaFwZ5
namespace Go.Proofs.Ythbhgdooeeapjaa.M
open Go Nt
set_option linter.unusedVariables false
structure zC where
  K : Int
  N : Int
  S : Str
  From : Int
  To : Int
@[reducible] def zC.toD (x : zC) : D := .agg [.int .i64 x.K, .int .i64 x.N, .str x.S, .int .i64 x.From, .int .i64 x.To]
theorem zC.toD_eq (x : zC) : x.toD = .agg [.int .i64 x.K, .int .i64 x.N, .str x.S, .int .i64 x.From, .int .i64 x.To] := rfl
theorem zC.sz (x : zC) : x.toD.cells.length = 5 := by rw [zC.toD_eq]; rfl
structure zF where
  K : Int
  N : Int
  S : Str
  L : List zF
  From : Int
  To : Int
mutual
def zF.toD : zF → D
  | ⟨K, N, S, L, From, To⟩ => .agg [.int .i64 K, .int .i64 N, .str S, .sl (zF.toDs L), .int .i64 From, .int .i64 To]
def zF.toDs : List zF → List D
  | [] => []
  | x :: r => zF.toD x :: zF.toDs r
end
theorem zF.toDs_eq : ∀ l, zF.toDs l = List.map zF.toD l
  | [] => by simp [zF.toDs]
  | x :: r => by simp [zF.toDs, zF.toDs_eq r]
theorem zF.toD_eq (x : zF) : x.toD = .agg [.int .i64 x.K, .int .i64 x.N, .str x.S, .sl (List.map zF.toD x.L), .int .i64 x.From, .int .i64 x.To] := by
  cases x; simp [zF.toD, zF.toDs_eq]
theorem zF.ind {P : zF → Prop} (h : ∀ t : zF, (∀ x ∈ t.L, P x) → P t) (t : zF) : P t := h t (fun x hx => zF.ind h x)
termination_by SizeOf.sizeOf t
decreasing_by all_goals (cases t; have := List.sizeOf_lt_of_mem hx; simp at *; omega)
theorem zF.sz (x : zF) : x.toD.cells.length = 6 := by rw [zF.toD_eq]; rfl
structure zG where
  T_ : zF
  At : Int
  E : Int
@[reducible] def zG.toD (x : zG) : D := .agg [.int .i64 x.T_.K, .int .i64 x.T_.N, .str x.T_.S, .sl (List.map zF.toD x.T_.L), .int .i64 x.T_.From, .int .i64 x.T_.To, .int .i64 x.At, .int .i64 x.E]
theorem zG.toD_eq (x : zG) : x.toD = .agg [.int .i64 x.T_.K, .int .i64 x.T_.N, .str x.T_.S, .sl (List.map zF.toD x.T_.L), .int .i64 x.T_.From, .int .i64 x.T_.To, .int .i64 x.At, .int .i64 x.E] := rfl
theorem zG.sz (x : zG) : x.toD.cells.length = 8 := by rw [zG.toD_eq]; rfl
structure PrintWriter where
  out : List Str
@[reducible] def PrintWriter.toD (x : PrintWriter) : D := .agg [.sl (List.map D.str x.out)]
theorem PrintWriter.toD_eq (x : PrintWriter) : x.toD = .agg [.sl (List.map D.str x.out)] := rfl
theorem PrintWriter.sz (x : PrintWriter) : x.toD.cells.length = 1 := by rw [PrintWriter.toD_eq]; rfl
structure zJ where
  What : Str
  S : Str
@[reducible] def zJ.toD (x : zJ) : D := .agg [.str x.What, .str x.S]
theorem zJ.toD_eq (x : zJ) : x.toD = .agg [.str x.What, .str x.S] := rfl
theorem zJ.sz (x : zJ) : x.toD.cells.length = 2 := by rw [zJ.toD_eq]; rfl
abbrev TP := FuncId → List Sv → H → List Sv → H → Prop
abbrev BP := List KI → St → Prop
abbrev hU (t : List D) (a e : Int) : List Sv := [.d (.sl t), .d (.int .i64 a), .d (.int .i64 e)]
abbrev hM (a b : Int) (c : List UInt8) (l : List D) (f t : Int) : List Sv := [.d (.int .i64 a), .d (.int .i64 b), .d (.str c), .own 6 l, .d (.int .i64 f), .d (.int .i64 t)]
abbrev hX (c : List UInt8) (a : Int) (l : List D) : List Sv := [.d (.str c), .d (.int .i64 a), .own 5 l]
abbrev gT (a b : Int) (c : List UInt8) (l : List D) (f t : Int) : D := .agg [.int .i64 a, .int .i64 b, .str c, .sl l, .int .i64 f, .int .i64 t]
abbrev gK (a b : Int) (c : List UInt8) (f t : Int) : D := .agg [.int .i64 a, .int .i64 b, .str c, .int .i64 f, .int .i64 t]
abbrev nI (a : Int) : Sv := .d (.int .i64 a)
abbrev nS (c : List UInt8) : Sv := .d (.str c)
abbrev mT (l : List zF) : List D := List.map zF.toD l
abbrev mK (l : List zC) : List D := List.map zC.toD l
abbrev nK (l : List zC) : Sv := .d (.sl (List.map zC.toD l))
abbrev w6 (n : Int) : Int := IntKind.wrap .i64 n
abbrev nB (b : Bool) : Sv := .d (.bool b)
abbrev Dn (rs : List Sv) (h : H) (l : List Sv) : Prop := l = rs ∧ [] = h
end Go.Proofs.Ythbhgdooeeapjaa.M

