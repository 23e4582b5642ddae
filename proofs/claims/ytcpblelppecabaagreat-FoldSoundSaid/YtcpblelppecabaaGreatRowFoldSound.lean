import Derived.Test.YtcpblelppecabaaGreatRows
import Derived.Test.YtcpblelppecabaaGreatSound
import Derived.Test.YtcpblelppecabaaGreatArgs
import Derived.Test.YtcpblelppecabaaGreatPlain2
namespace Go.Proofs.YtcpblelppecabaaGreat.foldSound
open Go Nt Go.Proofs Go.Proofs.YtcpblelppecabaaGreat.M
set_option linter.unusedVariables false
set_option maxRecDepth 100000
theorem own:ownKnob Tryz.prog.godebug=none:=by kernel_rfl
theorem main:∀xs,y2K Tryz.checked.prog Tryz.f5.params.toList xs→∃h',Trip Tryz.checked.prog 5 (xs.map .d) [] [.d (.bool true)] h':=by
 intro xs h;have a0:y2K Tryz.prog [45] xs:=by rw[Tryz.params5]at h;exact h
 clear h;obtain⟨y0,r0,rfl,⟨n0,c0,g0,rfl⟩,a1⟩:=v6G a0;obtain⟨x0,e0,w0⟩:=(fun m c h=>Ref25Rule.ofTy m c h) n0 c0 g0;obtain rfl:=v8y a1;have hr:=v1r x0 w0;have:=y3s x0 _ hr;simp only[List.map_cons,List.map_nil,e0];exact⟨_,this⟩
theorem lifted(os:Os)(started:os.Started)(H:Type)(enc:TypeId×Value→H):
  ReturnsInHanded {} Tryz.checked os 5 .any (Rows.foldSoundSpec.pre6 enc Tryz.prog Tryz.f5 Rows.foldSoundRow.domain false) (Rows.foldSoundSpec.post enc Tryz.prog Tryz.f5 false true false false):=
 v6p (C:=Tryz.checked) [2,3,9,22,24,25,26,28,30,45] (by kernel_rfl) own started (by kernel_rfl) Tryz.func5
  (ChangeSpec.witness6 (enc:=enc) (C:=Tryz.checked) false ⟨#[],#[(.agg #[(.int .i64 0),(.int .i64 0),(.string ⟨#[]⟩),(.slice none 0 0),(.int .i64 0),(.int .i64 0),(.slice none 0 0),(.slice none 0 0),(.slice none 0 0),(.slice none 0 0),(.int .i64 0),(.slice none 0 0),(.int .i64 0),(.int .i64 0),(.int .i64 0),(.int .i64 0),(.slice none 0 0),(.int .i64 0),(.int .i64 0),(.int .i64 0),(.string ⟨#[]⟩),(.slice none 0 0),(.int .i64 0),(.int .i64 0),(.int .i64 0),(.int .i64 0),(.string ⟨#[]⟩),(.slice none 0 0),(.int .i64 0),(.int .i64 0)])],[]⟩ 8 (by kernel_rfl) (by kernel_rfl) (by kernel_rfl) (by kernel_rfl))
  (by kernel_rfl) (by kernel_rfl) rfl Tryz.underlying4 rfl
  (fun ds hd=>by
   have hd:ds.length=1:=hd
   match ds,hd with
   |[d0],_=>exact⟨rfl,rfl,rfl⟩)
  main
theorem over:Rows.foldSoundRow.holds Tryz.pinned (OpenSpec.ofChange Rows.foldSoundSpec):=
 OpenClaim.holds_of_wide 5 Tryz.f5 rfl rfl rfl rfl rfl rfl rfl ⟨rfl,rfl,rfl,rfl,rfl⟩ rfl rfl rfl rfl rfl (by kernel_rfl) Tryz.func5 (by kernel_rfl)
  (of_decide_eq_true (by kernel_rfl)) (by unfold Func.isWrapper;first|(rw[zq1 (by decide +kernel)];kernel_rfl)|(rw[zq0 (by decide +kernel)];exact⟨rfl,rfl⟩))
  (fun os started H enc _=>lifted os started H enc)
theorem proved:Rows.FoldSoundSaid:=over
end Go.Proofs.YtcpblelppecabaaGreat.foldSound
namespace Go.Proofs.YtcpblelppecabaaGreat
theorem foldSound_holds:Rows.FoldSoundSaid:=foldSound.proved
#print axioms foldSound_holds
end Go.Proofs.YtcpblelppecabaaGreat

