import Derived.Test.YtjlohgfmobpfmaaRows
import Derived.Test.YtjlohgfmobpfmaaSound
import Derived.Test.YtjlohgfmobpfmaaArgs
import Derived.Test.YtjlohgfmobpfmaaPlain1
namespace Go.Proofs.Ytjlohgfmobpfmaa.patchBack
open Go Nt Go.Proofs Go.Proofs.Ytjlohgfmobpfmaa.M
set_option linter.unusedVariables false
set_option maxRecDepth 100000
theorem own:ownKnob Try.prog.godebug=none:=by kernel_rfl
theorem main:∀xs,z0x Try.checked.prog Try.f5.params.toList xs→∃h',Trip Try.checked.prog 5 (xs.map .d) [] [.d (.bool true)] h':=by
 intro xs h;have a0:z0x Try.prog [9,22] xs:=by rw[Try.params5]at h;exact h
 clear h;obtain⟨y0,r0,rfl,⟨n0,c0,g0,rfl⟩,a1⟩:=z3q a0;obtain⟨x0,e0,w0⟩:=(fun m c h=>h.dStr Try.underlying9 (by kernel_rfl)) n0 c0 g0;obtain⟨y1,r1,rfl,⟨n1,c1,g1,rfl⟩,a2⟩:=z3q a1;obtain⟨x1,e1,w1⟩:=(fun m c h=>h.dSl Try.underlying22 (by kernel_rfl) (fun m c _ h=>(fun m c h=>Edit.ofTy m c h) m c h)) n1 c1 g1;obtain rfl:=z7v a2;have hr:=z3X x0 x1 w0 w1;have:=z0G x0 x1 _ hr;simp only[List.map_cons,List.map_nil,e0,e1];exact⟨_,this⟩
theorem lifted(os:Os)(started:os.Started)(H:Type)(enc:TypeId×Value→H):
  ReturnsInHanded {} Try.checked os 5 .any (Rows.patchBackSpec.pre6 enc Try.prog Try.f5 Rows.patchBackRow.domain false) (Rows.patchBackSpec.post enc Try.prog Try.f5 false true false false):=
 z5D (C:=Try.checked) [3,9,22,37] (by kernel_rfl) own started (by kernel_rfl) Try.func5
  (ChangeSpec.witness6 (enc:=enc) (C:=Try.checked) false ⟨#[],#[(.string ⟨#[]⟩),(.slice none 0 0)],[]⟩ 8 (by kernel_rfl) (by kernel_rfl) (by kernel_rfl) (by kernel_rfl))
  (by kernel_rfl) (by kernel_rfl) rfl Try.underlying4 rfl
  (fun ds hd=>by
   have hd:ds.length=2:=hd
   match ds,hd with
   |[d0,d1],_=>exact⟨rfl,rfl,rfl⟩)
  main
theorem over:Rows.patchBackRow.holds Try.pinned (OpenSpec.ofChange Rows.patchBackSpec):=
 OpenClaim.holds_of_wide 5 Try.f5 rfl rfl rfl rfl rfl rfl rfl ⟨rfl,rfl,rfl,rfl,rfl⟩ rfl rfl rfl rfl rfl (by kernel_rfl) Try.func5 (by kernel_rfl)
  (of_decide_eq_true (by kernel_rfl)) (by unfold Func.isWrapper;first|(rw[zq1 (by decide +kernel)];kernel_rfl)|(rw[zq0 (by decide +kernel)];exact⟨rfl,rfl⟩))
  (fun os started H enc _=>lifted os started H enc)
theorem proved:Rows.PatchBackSaid:=over
end Go.Proofs.Ytjlohgfmobpfmaa.patchBack
namespace Go.Proofs.Ytjlohgfmobpfmaa
theorem patchBack_holds:Rows.PatchBackSaid:=patchBack.proved
#print axioms patchBack_holds
end Go.Proofs.Ytjlohgfmobpfmaa

