import Derived.Test.YtjlohgfmobpfmaaFwZ5
namespace Go.Proofs.Ytjlohgfmobpfmaa.M
open Go Nt
set_option linter.unusedVariables false
abbrev zqI(n:Int):D:=.int .i64 n
structure Edit where
 From:Int
 To:Int
 Text:Str
@[reducible] def Edit.toD(x:Edit):D:=.agg [.int .i64 x.From,.int .i64 x.To,.str x.Text]
theorem Edit.toD_eq(x:Edit):x.toD=.agg [.int .i64 x.From,.int .i64 x.To,.str x.Text]:=rfl
theorem Edit.sz(x:Edit):x.toD.cells.length=3:=by rw[Edit.toD_eq];rfl
structure Region where
 FromP:Int
 ToP:Int
 FromQ:Int
 ToQ:Int
@[reducible] def Region.toD(x:Region):D:=.agg [.int .i64 x.FromP,.int .i64 x.ToP,.int .i64 x.FromQ,.int .i64 x.ToQ]
theorem Region.toD_eq(x:Region):x.toD=.agg [.int .i64 x.FromP,.int .i64 x.ToP,.int .i64 x.FromQ,.int .i64 x.ToQ]:=rfl
theorem Region.sz(x:Region):x.toD.cells.length=4:=by rw[Region.toD_eq];rfl
end Go.Proofs.Ytjlohgfmobpfmaa.M

