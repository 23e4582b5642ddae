import Derived.Test.YtjlohgfmobpfmaaRows
import Derived.Test.YtjlohgfmobpfmaaSound
import Derived.Test.YtjlohgfmobpfmaaArgs
import Derived.Test.YtjlohgfmobpfmaaBulk
import Derived.Test.YtjlohgfmobpfmaaPlain1
namespace Go.Proofs.Ytjlohgfmobpfmaa.patchAppliesU
open Go Nt Go.Proofs Go.Proofs.Ytjlohgfmobpfmaa.M
set_option linter.unusedVariables false
set_option maxRecDepth 100000
theorem own:ownKnob Try.prog.godebug=none:=by kernel_rfl
theorem main:∀xs,z1A Try.checked.prog Try.f3.params.toList xs→vL xs≤1048576→∃h',Trip Try.checked.prog 3 (xs.map .d) [] [.d (.bool true)] h':=by
 intro xs h hb;have a0:z1A Try.prog [9,22] xs:=by rw[Try.params3]at h;exact h
 clear h;obtain⟨y0,r0,rfl,⟨n0,c0,g0,rfl⟩,a1⟩:=z4Q a0;obtain⟨x0,e0,w0⟩:=(fun m c h=>h.dStr Try.underlying9 (by kernel_rfl)) n0 c0 g0;obtain⟨y1,r1,rfl,⟨n1,c1,g1,rfl⟩,a2⟩:=z4Q a1;obtain⟨x1,e1,w1⟩:=(fun m c h=>h.dSl Try.underlying22 (by kernel_rfl) (fun m c _ h=>(fun m c h=>Edit.ofTy m c h) m c h)) n1 c1 g1;obtain rfl:=z8X a2;rw[e0,e1]at hb;have hr:=z3c x0 x1 w0 w1 hb;have:=z0A x0 x1 _ hr;simp only[List.map_cons,List.map_nil,e0,e1];exact⟨_,this⟩
theorem lifted(os:Os)(started:os.Started)(H:Type)(enc:TypeId×Value→H)(F:Stop.Interp):
  ReturnsInHanded {} Try.checked os 3 .any ((Rows.OpenSpec.upto Rows.patchAppliesSpec).pre6 enc Try.prog Try.f3 Rows.patchAppliesUptoRow.domain false) (((Rows.OpenSpec.upto Rows.patchAppliesSpec).at F).post enc Try.prog Try.f3 false true false false):=
 z2P (C:=Try.checked) (s:=Rows.OpenSpec.upto Rows.patchAppliesSpec) (kk:=Rows.uptoSmall) (n:=1048576) rfl y0i [3,9,22,37] (by kernel_rfl) own started (by kernel_rfl) Try.func3
  (OpenSpec.witness (enc:=enc) (C:=Try.checked) (s:=Rows.OpenSpec.upto Rows.patchAppliesSpec) (k:=Rows.uptoSmall) rfl false ⟨#[],#[(.string ⟨#[]⟩),(.slice none 0 0)],[]⟩ 8 (by kernel_rfl) (by kernel_rfl) (by kernel_rfl) (x:=([(.lit (.string [])),.nil],[],[])) (by kernel_rfl) rfl (by kernel_rfl))
  (by kernel_rfl) (by kernel_rfl) rfl Try.underlying4 rfl rfl
  (fun ds hd=>by
   have hd:ds.length=2:=hd
   match ds,hd with
   |[d0,d1],_=>exact⟨rfl,rfl,rfl⟩)
  main
theorem proved:Rows.PatchAppliesUptoSaid:=
 OpenClaim.holds_of_cond 3 Try.f3 rfl rfl rfl rfl rfl rfl rfl ⟨rfl,rfl,rfl,rfl,rfl⟩ rfl rfl rfl rfl rfl (by kernel_rfl) Try.func3 (by kernel_rfl)
  (of_decide_eq_true (by kernel_rfl)) (by unfold Func.isWrapper;first|(rw[zq1 (by decide +kernel)];kernel_rfl)|(rw[zq0 (by decide +kernel)];exact⟨rfl,rfl⟩))
  (fun os started H enc _ F=>lifted os started H enc F)
end Go.Proofs.Ytjlohgfmobpfmaa.patchAppliesU
namespace Go.Proofs.Ytjlohgfmobpfmaa
theorem patchAppliesUpto_holds:Rows.PatchAppliesUptoSaid:=patchAppliesU.proved
#print axioms patchAppliesUpto_holds
end Go.Proofs.Ytjlohgfmobpfmaa

