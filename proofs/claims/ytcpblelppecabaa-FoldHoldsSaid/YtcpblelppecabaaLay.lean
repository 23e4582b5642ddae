import Derived.Test.YtcpblelppecabaaFwZB
import Derived.Test.YtcpblelppecabaaProg
import Derived.KernelRfl
namespace Go.Proofs.Ytcpblelppecabaa.M
open Go Nt Go.Proofs Go.Shelf
set_option maxRecDepth 100000
abbrev v3S:Ren:=⟨fun n=>cond (Nat.beq n 4) 60 n,fun n=>cond (Nat.beq n 22) 22 (cond (Nat.beq n 25) 24 n),fun n=>n⟩
theorem v3R:Lays8.n4 Try.prog v3S:={
 mixed:=by kernel_rfl
 f4 := Exists.intro "slices.Grow[[]notary/api.Term,notary/api.Term]" (And.intro (by kernel_rfl) (by kernel_rfl))
 t0:=Try.underlying0
 a0:=Try.isAgg0
 z0:=Try.sizeOf0
 v0:=Try.zeroValue0
 t3:=Try.underlying3
 a3:=Try.isAgg3
 z3:=Try.sizeOf3
 v3:=Try.zeroValue3
 t4:=Try.underlying4
 a4:=Try.isAgg4
 z4:=Try.sizeOf4
 v4:=Try.zeroValue4
 t9:=Try.underlying9
 a9:=Try.isAgg9
 z9:=Try.sizeOf9
 v9:=Try.zeroValue9
 t20:=Try.underlying20
 a20:=Try.isAgg20
 z20:=Try.sizeOf20
 v20:=Try.zeroValue20
 t22:=Try.underlying22
 a22:=Try.isAgg22
 z22:=Try.sizeOf22
 v22:=Try.zeroValue22}
end Go.Proofs.Ytcpblelppecabaa.M

