/- The plain types, and how they stand for the model's data. -/
import Derived.Test.YtdpecjiflalkmaaFwZ5
namespace Go.Proofs.Ytdpecjiflalkmaa.M
open Go Nt
set_option linter.unusedVariables false
structure Token where
  K : Int
  N : Int
  S : Str
  From : Int
  To : Int
@[reducible] def Token.toD (x : Token) : D := .agg [.int .i64 x.K, .int .i64 x.N, .str x.S, .int .i64 x.From, .int .i64 x.To]
theorem Token.toD_eq (x : Token) : x.toD = .agg [.int .i64 x.K, .int .i64 x.N, .str x.S, .int .i64 x.From, .int .i64 x.To] := rfl
theorem Token.sz (x : Token) : x.toD.cells.length = 5 := by rw [Token.toD_eq]; rfl
structure LexReader where
  text : Str
  at_ : Int
  out : List Token
@[reducible] def LexReader.toD (x : LexReader) : D := .agg [.str x.text, .int .i64 x.at_, .sl (List.map Token.toD x.out)]
theorem LexReader.toD_eq (x : LexReader) : x.toD = .agg [.str x.text, .int .i64 x.at_, .sl (List.map Token.toD x.out)] := rfl
theorem LexReader.sz (x : LexReader) : x.toD.cells.length = 3 := by rw [LexReader.toD_eq]; rfl
end Go.Proofs.Ytdpecjiflalkmaa.M
