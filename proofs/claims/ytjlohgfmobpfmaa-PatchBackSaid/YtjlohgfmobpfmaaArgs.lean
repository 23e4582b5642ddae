import Derived.Test.YtjlohgfmobpfmaaWf
import Derived.Test.YtjlohgfmobpfmaaProg
import Derived.KernelRfl
namespace Go.Proofs.Ytjlohgfmobpfmaa.M
open Go Nt Go.Proofs
set_option linter.unusedVariables false
set_option maxRecDepth 100000
theorem Edit.ofTy(n:Nat):∀c,HasTy Try.prog n 37 c→∃x:Edit,mkD Try.prog 37 c=x.toD∧Edit.Wf x:=by
 induction n using Nat.strongRecOn with
 |_ n ih=>
  intro c h;obtain⟨m,hm,h⟩:=h.struct Try.underlying37;obtain⟨c0,r0,rfl,h0,c1,r1,rfl,h1,c2,r2,rfl,h2,rfl⟩:=h;obtain⟨x0,rfl,w0⟩:=h0.int Try.underlying3;obtain⟨x1,rfl,w1⟩:=h1.int Try.underlying3;obtain⟨x2,rfl,w2⟩:=h2.str Try.underlying9;refine⟨⟨x0,x1,x2⟩,?_,.mk _ w0 w1 w2⟩;rw[z8u (by kernel_rfl),Edit.toD_eq];simp only[List.cons_append,List.nil_append,List.append_nil]
end Go.Proofs.Ytjlohgfmobpfmaa.M

