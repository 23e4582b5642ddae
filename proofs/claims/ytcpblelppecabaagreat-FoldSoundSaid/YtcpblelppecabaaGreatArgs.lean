import Derived.Test.YtcpblelppecabaaGreatWf
import Derived.Test.YtcpblelppecabaaGreatProg
import Derived.KernelRfl
namespace Go.Proofs.YtcpblelppecabaaGreat.M
open Go Nt Go.Proofs
set_option linter.unusedVariables false
set_option maxRecDepth 100000
theorem zA.ofTy(n:Nat):∀c,HasTy Tryz.prog n 24 c→∃x:zA,mkD Tryz.prog 24 c=x.toD∧zA.Wf x:=by
 induction n using Nat.strongRecOn with
 |_ n ih=>
  intro c h;obtain⟨m,hm,h⟩:=h.struct Tryz.underlying24;obtain⟨c0,r0,rfl,h0,c1,r1,rfl,h1,c2,r2,rfl,h2,c3,r3,rfl,h3,c4,r4,rfl,h4,c5,r5,rfl,h5,rfl⟩:=h;obtain⟨x0,rfl,w0⟩:=h0.int Tryz.underlying3;obtain⟨x1,rfl,w1⟩:=h1.int Tryz.underlying2;obtain⟨x2,rfl,w2⟩:=h2.str Tryz.underlying9;obtain⟨m3,hm3,s3,rfl,l3,a3⟩:=h3.sl Tryz.underlying22;obtain⟨x3,e3,q3,v3⟩:=z6j (f:=mkD Tryz.prog 24) (g:=zA.toD) (W:=(fun x=>zA.Wf x)) (l:=s3) (fun c hc=>(ih m3 (by omega) c (a3 c hc)))
  have w3:x3.length≤9223372036854775807∧∀x∈x3,zA.Wf x:=⟨by omega,v3⟩;obtain⟨x4,rfl,w4⟩:=h4.int Tryz.underlying3;obtain⟨x5,rfl,w5⟩:=h5.int Tryz.underlying3;refine⟨⟨x0,x1,x2,x3,x4,x5⟩,?_,.mk _ w0 w1 w2 w3.1 w3.2 w4 w5⟩;rw[z7C (by kernel_rfl),zA.toD_eq];simp only[List.cons_append,List.nil_append,List.append_nil,e3]
theorem Value.ofTy(n:Nat):∀c,HasTy Tryz.prog n 28 c→∃x:Value,mkD Tryz.prog 28 c=x.toD∧Value.Wf x:=by
 induction n using Nat.strongRecOn with
 |_ n ih=>
  intro c h;obtain⟨m,hm,h⟩:=h.struct Tryz.underlying28;obtain⟨c0,r0,rfl,h0,c1,r1,rfl,h1,rfl⟩:=h;obtain⟨x0,rfl,w0⟩:=h0.int Tryz.underlying2;obtain⟨m1,hm1,s1,rfl,l1,a1⟩:=h1.sl Tryz.underlying25;obtain⟨x1,e1,q1,v1⟩:=z6j (f:=mkD Tryz.prog 28) (g:=Value.toD) (W:=(fun x=>Value.Wf x)) (l:=s1) (fun c hc=>(ih m1 (by omega) c (a1 c hc)));have w1:x1.length≤9223372036854775807∧∀x∈x1,Value.Wf x:=⟨by omega,v1⟩;refine⟨⟨x0,x1⟩,?_,.mk _ w0 w1.1 w1.2⟩;rw[z7C (by kernel_rfl),Value.toD_eq]
  simp only[List.cons_append,List.nil_append,List.append_nil,e1]
theorem State.ofTy(n:Nat):∀c,HasTy Tryz.prog n 30 c→∃x:State,mkD Tryz.prog 30 c=x.toD∧State.Wf x:=by
 induction n using Nat.strongRecOn with
 |_ n ih=>
  intro c h;obtain⟨m,hm,h⟩:=h.struct Tryz.underlying30;obtain⟨c0,r0,rfl,h0,c1,r1,rfl,h1,c2,r2,rfl,h2,c3,r3,rfl,h3,c4,r4,rfl,h4,c5,r5,rfl,h5,c6,r6,rfl,h6,c7,r7,rfl,h7,c8,r8,rfl,h8,rfl⟩:=h;obtain⟨m0,hm0,s0,rfl,l0,a0⟩:=h0.sl Tryz.underlying25;obtain⟨x0,e0,q0,v0⟩:=z6j (f:=mkD Tryz.prog 28) (g:=Value.toD) (W:=(fun x=>Value.Wf x)) (l:=s0) (fun c hc=>((fun m c h=>Value.ofTy m c h) m0 c (a0 c hc)));have w0:x0.length≤9223372036854775807∧∀x∈x0,Value.Wf x:=⟨by omega,v0⟩
  obtain⟨m1,hm1,s1,rfl,l1,a1⟩:=h1.sl Tryz.underlying25;obtain⟨x1,e1,q1,v1⟩:=z6j (f:=mkD Tryz.prog 28) (g:=Value.toD) (W:=(fun x=>Value.Wf x)) (l:=s1) (fun c hc=>((fun m c h=>Value.ofTy m c h) m1 c (a1 c hc)));have w1:x1.length≤9223372036854775807∧∀x∈x1,Value.Wf x:=⟨by omega,v1⟩;obtain⟨m2,hm2,s2,rfl,l2,a2⟩:=h2.sl Tryz.underlying26
  obtain⟨x2,e2,q2,v2⟩:=z6j (f:=mkD Tryz.prog 2) (g:=(D.int .i64)) (W:=(fun x=>InK .i64 x)) (l:=s2) (fun c hc=>((fun m c h=>h.dInt Tryz.underlying2 (by kernel_rfl)) m2 c (a2 c hc)));have w2:x2.length≤9223372036854775807∧∀x∈x2,InK .i64 x:=⟨by omega,v2⟩;obtain⟨x3,rfl,w3⟩:=h3.int Tryz.underlying3;obtain⟨m4,hm4,s4,rfl,l4,a4⟩:=h4.sl Tryz.underlying26
  obtain⟨x4,e4,q4,v4⟩:=z6j (f:=mkD Tryz.prog 2) (g:=(D.int .i64)) (W:=(fun x=>InK .i64 x)) (l:=s4) (fun c hc=>((fun m c h=>h.dInt Tryz.underlying2 (by kernel_rfl)) m4 c (a4 c hc)));have w4:x4.length≤9223372036854775807∧∀x∈x4,InK .i64 x:=⟨by omega,v4⟩;obtain⟨x5,rfl,w5⟩:=h5.int Tryz.underlying3;obtain⟨x6,rfl,w6⟩:=h6.int Tryz.underlying3;obtain⟨x7,rfl,w7⟩:=h7.int Tryz.underlying2;obtain⟨x8,e8,w8⟩:=Value.ofTy m c8 h8;rw[z7C (by kernel_rfl),Value.toD_eq]at e8;injection e8 with e8;subst e8
  refine⟨⟨x0,x1,x2,x3,x4,x5,x6,x7,x8⟩,?_,.mk _ w0.1 w0.2 w1.1 w1.2 w2.1 w2.2 w3 w4.1 w4.2 w5 w6 w7 w8⟩;rw[z7C (by kernel_rfl),State.toD_eq];simp only[List.cons_append,List.nil_append,List.append_nil,e0,e1,e2,e4]
theorem Ref25Rule.ofTy(n:Nat):∀c,HasTy Tryz.prog n 45 c→∃x:Ref25Rule,mkD Tryz.prog 45 c=x.toD∧Ref25Rule.Wf x:=by
 induction n using Nat.strongRecOn with
 |_ n ih=>
  intro c h;obtain⟨m,hm,h⟩:=h.struct Tryz.underlying45;obtain⟨c0,r0,rfl,h0,c1,r1,rfl,h1,c2,r2,rfl,h2,c3,r3,rfl,h3,c4,r4,rfl,h4,c5,r5,rfl,h5,rfl⟩:=h;obtain⟨x0,e0,w0⟩:=zA.ofTy m c0 h0;rw[z7C (by kernel_rfl),zA.toD_eq]at e0;injection e0 with e0;subst e0;obtain⟨m1,hm1,s1,rfl,l1,a1⟩:=h1.sl Tryz.underlying22;obtain⟨x1,e1,q1,v1⟩:=z6j (f:=mkD Tryz.prog 24) (g:=zA.toD) (W:=(fun x=>zA.Wf x)) (l:=s1) (fun c hc=>((fun m c h=>zA.ofTy m c h) m1 c (a1 c hc)))
  have w1:x1.length≤9223372036854775807∧∀x∈x1,zA.Wf x:=⟨by omega,v1⟩;obtain⟨x2,e2,w2⟩:=State.ofTy m c2 h2;rw[z7C (by kernel_rfl),State.toD_eq]at e2;injection e2 with e2;subst e2;obtain⟨x3,rfl,w3⟩:=h3.int Tryz.underlying3;obtain⟨x4,e4,w4⟩:=zA.ofTy m c4 h4;rw[z7C (by kernel_rfl),zA.toD_eq]at e4;injection e4 with e4;subst e4;obtain⟨x5,e5,w5⟩:=zA.ofTy m c5 h5;rw[z7C (by kernel_rfl),zA.toD_eq]at e5;injection e5 with e5;subst e5;refine⟨⟨x0,x1,x2,x3,x4,x5⟩,?_,.mk _ w0 w1.1 w1.2 w2 w3 w4 w5⟩
  rw[z7C (by kernel_rfl),Ref25Rule.toD_eq];simp only[List.cons_append,List.nil_append,List.append_nil,e1]
end Go.Proofs.YtcpblelppecabaaGreat.M

