import Derived.Test.YtcpblelppecabaaGreatRows
import Derived.Test.YtcpblelppecabaaGreatSound
import Derived.Test.YtcpblelppecabaaGreatArgs
import Derived.Test.YtcpblelppecabaaGreatPlain2
namespace Go.Proofs.YtcpblelppecabaaGreat.quietKeeps
open Go Nt Go.Proofs Go.Proofs.YtcpblelppecabaaGreat.M
set_option linter.unusedVariables false
set_option maxRecDepth 100000
theorem own:ownKnob Tryz.prog.godebug=none:=by kernel_rfl
theorem main:∀xs,y1r Tryz.checked.prog Tryz.f3.params.toList xs→∃h',Trip Tryz.checked.prog 3 (xs.map .d) [] [.d (.bool true)] h':=by
 intro xs h;have a0:y1r Tryz.prog [32] xs:=by rw[Tryz.params3]at h;exact h
 clear h;obtain⟨y0,r0,rfl,⟨n0,c0,g0,rfl⟩,a1⟩:=v3L a0;obtain⟨x0,e0,w0⟩:=(fun m c h=>Law24Eval.ofTy m c h) n0 c0 g0;obtain rfl:=v5u a1;have hr:=y7o x0 w0;have:=y0L x0 _ hr;simp only[List.map_cons,List.map_nil,e0];exact⟨_,this⟩
theorem lifted(os:Os)(started:os.Started)(H:Type)(enc:TypeId×Value→H):
  ReturnsInHanded {} Tryz.checked os 3 .any (Rows.quietKeepsSpec.pre6 enc Tryz.prog Tryz.f3 Rows.quietKeepsRow.domain false) (Rows.quietKeepsSpec.post enc Tryz.prog Tryz.f3 false true false false):=
 v3r (C:=Tryz.checked) [2,3,9,22,24,25,26,28,30,32] (by kernel_rfl) own started (by kernel_rfl) Tryz.func3
  (ChangeSpec.witness6 (enc:=enc) (C:=Tryz.checked) false ⟨#[],#[(.agg #[(.int .i64 0),(.int .i64 0),(.string ⟨#[]⟩),(.slice none 0 0),(.int .i64 0),(.int .i64 0),(.slice none 0 0),(.slice none 0 0),(.slice none 0 0),(.slice none 0 0),(.int .i64 0),(.slice none 0 0),(.int .i64 0),(.int .i64 0),(.int .i64 0),(.int .i64 0),(.slice none 0 0),(.int .i64 0),(.int .i64 0),(.string ⟨#[]⟩),(.slice none 0 0),(.int .i64 0),(.int .i64 0),(.int .i64 0),(.int .i64 0),(.string ⟨#[]⟩),(.slice none 0 0),(.int .i64 0),(.int .i64 0)])],[]⟩ 8 (by kernel_rfl) (by kernel_rfl) (by kernel_rfl) (by kernel_rfl))
  (by kernel_rfl) (by kernel_rfl) rfl Tryz.underlying4 rfl
  (fun ds hd=>by
   have hd:ds.length=1:=hd
   match ds,hd with
   |[d0],_=>exact⟨rfl,rfl,rfl⟩)
  main
theorem over:Rows.quietKeepsRow.holds Tryz.pinned (OpenSpec.ofChange Rows.quietKeepsSpec):=
 OpenClaim.holds_of_wide 3 Tryz.f3 rfl rfl rfl rfl rfl rfl rfl ⟨rfl,rfl,rfl,rfl,rfl⟩ rfl rfl rfl rfl rfl (by kernel_rfl) Tryz.func3 (by kernel_rfl)
  (of_decide_eq_true (by kernel_rfl)) (by unfold Func.isWrapper;first|(rw[zq1 (by decide +kernel)];kernel_rfl)|(rw[zq0 (by decide +kernel)];exact⟨rfl,rfl⟩))
  (fun os started H enc _=>lifted os started H enc)
theorem proved:Rows.QuietKeepsSaid:=over
end Go.Proofs.YtcpblelppecabaaGreat.quietKeeps
namespace Go.Proofs.YtcpblelppecabaaGreat
theorem quietKeeps_holds:Rows.QuietKeepsSaid:=quietKeeps.proved
#print axioms quietKeeps_holds
end Go.Proofs.YtcpblelppecabaaGreat

