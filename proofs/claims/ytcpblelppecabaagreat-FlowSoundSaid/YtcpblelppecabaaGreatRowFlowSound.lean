import Derived.Test.YtcpblelppecabaaGreatRows
import Derived.Test.YtcpblelppecabaaGreatSound
import Derived.Test.YtcpblelppecabaaGreatArgs
import Derived.Test.YtcpblelppecabaaGreatPlain3
namespace Go.Proofs.YtcpblelppecabaaGreat.flowSound
open Go Nt Go.Proofs Go.Proofs.YtcpblelppecabaaGreat.M
set_option linter.unusedVariables false
set_option maxRecDepth 100000
theorem own:ownKnob Tryz.prog.godebug=none:=by kernel_rfl
theorem main:∀xs,y3D Tryz.checked.prog Tryz.f6.params.toList xs→∃h',Trip Tryz.checked.prog 6 (xs.map .d) [] [.d (.bool true)] h':=by
 intro xs h;have a0:y3D Tryz.prog [51] xs:=by rw[Tryz.params6]at h;exact h
 clear h;obtain⟨y0,r0,rfl,⟨n0,c0,g0,rfl⟩,a1⟩:=v8g a0;obtain⟨x0,e0,w0⟩:=(fun m c h=>Ref28Rule.ofTy m c h) n0 c0 g0;obtain rfl:=w0i a1;have hr:=v2N x0 w0;have:=y4q x0 _ hr;simp only[List.map_cons,List.map_nil,e0];exact⟨_,this⟩
theorem lifted(os:Os)(started:os.Started)(H:Type)(enc:TypeId×Value→H):
  ReturnsInHanded {} Tryz.checked os 6 .any (Rows.flowSoundSpec.pre6 enc Tryz.prog Tryz.f6 Rows.flowSoundRow.domain false) (Rows.flowSoundSpec.post enc Tryz.prog Tryz.f6 false true false false):=
 v7J (C:=Tryz.checked) [2,3,9,22,24,25,26,28,30,49,51] (by kernel_rfl) own started (by kernel_rfl) Tryz.func6
  (ChangeSpec.witness6 (enc:=enc) (C:=Tryz.checked) false ⟨#[],#[(.agg #[(.int .i64 0),(.int .i64 0),(.string ⟨#[]⟩),(.slice none 0 0),(.int .i64 0),(.int .i64 0),(.slice none 0 0),(.int .i64 0),(.int .i64 0),(.string ⟨#[]⟩),(.slice none 0 0),(.int .i64 0),(.int .i64 0),(.slice none 0 0),(.slice none 0 0),(.slice none 0 0),(.int .i64 0),(.slice none 0 0),(.int .i64 0),(.int .i64 0),(.int .i64 0),(.int .i64 0),(.slice none 0 0),(.int .i64 0),(.slice none 0 0),(.int .i64 0),(.int .i64 0),(.string ⟨#[]⟩),(.slice none 0 0),(.int .i64 0),(.int .i64 0),(.int .i64 0),(.int .i64 0),(.string ⟨#[]⟩),(.slice none 0 0),(.int .i64 0),(.int .i64 0)])],[]⟩ 8 (by kernel_rfl) (by kernel_rfl) (by kernel_rfl) (by kernel_rfl))
  (by kernel_rfl) (by kernel_rfl) rfl Tryz.underlying4 rfl
  (fun ds hd=>by
   have hd:ds.length=1:=hd
   match ds,hd with
   |[d0],_=>exact⟨rfl,rfl,rfl⟩)
  main
theorem over:Rows.flowSoundRow.holds Tryz.pinned (OpenSpec.ofChange Rows.flowSoundSpec):=
 OpenClaim.holds_of_wide 6 Tryz.f6 rfl rfl rfl rfl rfl rfl rfl ⟨rfl,rfl,rfl,rfl,rfl⟩ rfl rfl rfl rfl rfl (by kernel_rfl) Tryz.func6 (by kernel_rfl)
  (of_decide_eq_true (by kernel_rfl)) (by unfold Func.isWrapper;first|(rw[zq1 (by decide +kernel)];kernel_rfl)|(rw[zq0 (by decide +kernel)];exact⟨rfl,rfl⟩))
  (fun os started H enc _=>lifted os started H enc)
theorem proved:Rows.FlowSoundSaid:=over
end Go.Proofs.YtcpblelppecabaaGreat.flowSound
namespace Go.Proofs.YtcpblelppecabaaGreat
theorem flowSound_holds:Rows.FlowSoundSaid:=flowSound.proved
#print axioms flowSound_holds
end Go.Proofs.YtcpblelppecabaaGreat

