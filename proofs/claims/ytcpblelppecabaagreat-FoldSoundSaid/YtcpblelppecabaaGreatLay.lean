import Derived.Test.YtcpblelppecabaaGreatFwZB
import Derived.Test.YtcpblelppecabaaGreatProg
import Derived.KernelRfl
namespace Go.Proofs.YtcpblelppecabaaGreat.M
open Go Nt Go.Proofs Go.Shelf
set_option maxRecDepth 100000
abbrev w1h:Ren:=⟨fun n=>cond (Nat.beq n 4) 201 n,fun n=>cond (Nat.beq n 22) 22 (cond (Nat.beq n 25) 24 n),fun n=>n⟩
theorem w1g:Lays8.n4 Tryz.prog w1h:={
 mixed:=by kernel_rfl
 f4 := Exists.intro "slices.Grow[[]notary/api.Term,notary/api.Term]" (And.intro (by kernel_rfl) (by kernel_rfl))
 t0:=Tryz.underlying0
 a0:=Tryz.isAgg0
 z0:=Tryz.sizeOf0
 v0:=Tryz.zeroValue0
 t3:=Tryz.underlying3
 a3:=Tryz.isAgg3
 z3:=Tryz.sizeOf3
 v3:=Tryz.zeroValue3
 t4:=Tryz.underlying4
 a4:=Tryz.isAgg4
 z4:=Tryz.sizeOf4
 v4:=Tryz.zeroValue4
 t9:=Tryz.underlying9
 a9:=Tryz.isAgg9
 z9:=Tryz.sizeOf9
 v9:=Tryz.zeroValue9
 t20:=Tryz.underlying20
 a20:=Tryz.isAgg20
 z20:=Tryz.sizeOf20
 v20:=Tryz.zeroValue20
 t22:=Tryz.underlying22
 a22:=Tryz.isAgg22
 z22:=Tryz.sizeOf22
 v22:=Tryz.zeroValue22}
end Go.Proofs.YtcpblelppecabaaGreat.M

