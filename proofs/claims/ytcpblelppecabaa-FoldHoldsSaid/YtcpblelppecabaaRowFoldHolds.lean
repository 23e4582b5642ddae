import Derived.Test.YtcpblelppecabaaRows
import Derived.Test.YtcpblelppecabaaSound
import Derived.Test.YtcpblelppecabaaArgs
import Derived.Test.YtcpblelppecabaaPlain1
namespace Go.Proofs.Ytcpblelppecabaa.foldHolds
open Go Nt Go.Proofs Go.Proofs.Ytcpblelppecabaa.M
set_option linter.unusedVariables false
set_option maxRecDepth 100000
theorem own:ownKnob Try.prog.godebug=none:=by kernel_rfl
theorem main:∀xs,z9d Try.checked.prog Try.f3.params.toList xs→∃h',Trip Try.checked.prog 3 (xs.map .d) [] [.d (.bool true)] h':=by
 intro xs h;have a0:z9d Try.prog [32] xs:=by rw[Try.params3]at h;exact h
 clear h;obtain⟨y0,r0,rfl,⟨n0,c0,g0,rfl⟩,a1⟩:=v0w a0;obtain⟨x0,e0,w0⟩:=(fun m c h=>Ref25Rule.ofTy m c h) n0 c0 g0;obtain rfl:=v1U a1;have hr:=y6r x0 w0;have:=z9F x0 _ hr;simp only[List.map_cons,List.map_nil,e0];exact⟨_,this⟩
theorem lifted(os:Os)(started:os.Started)(H:Type)(enc:TypeId×Value→H):
  ReturnsInHanded {} Try.checked os 3 .any (Rows.foldHoldsSpec.pre6 enc Try.prog Try.f3 Rows.foldHoldsRow.domain false) (Rows.foldHoldsSpec.post enc Try.prog Try.f3 false true false false):=
 v0b (C:=Try.checked) [2,3,9,22,24,25,26,28,30,32] (by kernel_rfl) own started (by kernel_rfl) Try.func3
  (ChangeSpec.witness6 (enc:=enc) (C:=Try.checked) false ⟨#[],#[(.agg #[(.int .i64 0),(.int .i64 0),(.string ⟨#[]⟩),(.slice none 0 0),(.int .i64 0),(.int .i64 0),(.slice none 0 0),(.slice none 0 0),(.slice none 0 0),(.slice none 0 0),(.int .i64 0),(.slice none 0 0),(.int .i64 0),(.int .i64 0),(.int .i64 0),(.int .i64 0),(.slice none 0 0),(.int .i64 0),(.int .i64 0),(.int .i64 0),(.string ⟨#[]⟩),(.slice none 0 0),(.int .i64 0),(.int .i64 0),(.int .i64 0),(.int .i64 0),(.string ⟨#[]⟩),(.slice none 0 0),(.int .i64 0),(.int .i64 0)])],[]⟩ 8 (by kernel_rfl) (by kernel_rfl) (by kernel_rfl) (by kernel_rfl))
  (by kernel_rfl) (by kernel_rfl) rfl Try.underlying4 rfl
  (fun ds hd=>by
   have hd:ds.length=1:=hd
   match ds,hd with
   |[d0],_=>exact⟨rfl,rfl,rfl⟩)
  main
theorem over:Rows.foldHoldsRow.holds Try.pinned (OpenSpec.ofChange Rows.foldHoldsSpec):=
 OpenClaim.holds_of_wide 3 Try.f3 rfl rfl rfl rfl rfl rfl rfl ⟨rfl,rfl,rfl,rfl,rfl⟩ rfl rfl rfl rfl rfl (by kernel_rfl) Try.func3 (by kernel_rfl)
  (of_decide_eq_true (by kernel_rfl)) (by unfold Func.isWrapper;first|(rw[zq1 (by decide +kernel)];kernel_rfl)|(rw[zq0 (by decide +kernel)];exact⟨rfl,rfl⟩))
  (fun os started H enc _=>lifted os started H enc)
theorem proved:Rows.FoldHoldsSaid:=over
end Go.Proofs.Ytcpblelppecabaa.foldHolds
namespace Go.Proofs.Ytcpblelppecabaa
theorem foldHolds_holds:Rows.FoldHoldsSaid:=foldHolds.proved
#print axioms foldHolds_holds
end Go.Proofs.Ytcpblelppecabaa

