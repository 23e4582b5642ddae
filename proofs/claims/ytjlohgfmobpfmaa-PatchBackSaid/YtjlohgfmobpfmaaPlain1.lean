import Derived.Test.YtjlohgfmobpfmaaMod
import Derived.Test.YtjlohgfmobpfmaaWf
namespace Go.Proofs.Ytjlohgfmobpfmaa.M
open Go Nt
set_option linter.unusedVariables false
set_option linter.unusedSimpArgs false
set_option linter.unusedSectionVars false
abbrev zE:Edit:=⟨0,0,[]⟩
theorem z0E(xs:List Edit)(i j:Nat):(swF xs i j).length=xs.length:=by simp[swF]
theorem z7e{xs:List Edit}{i j:Nat}(hi:i<xs.length)(hj:j<xs.length)(k:Nat):(swF xs i j).getD k zE=if k=j then xs.getD i zE else if k=i then xs.getD j zE else xs.getD k zE:=by
 unfold swF;simp only[List.getD_eq_getElem?_getD];rw[List.getElem?_set];by_cases h1:j=k
 ·subst h1;rw[zq1 rfl,zq1 (by simpa using hj),zq1 rfl];rfl
 ·rw[zq0 h1,zq0 (fun e=>h1 e.symm),List.getElem?_set];by_cases h2:i=k
  ·subst h2;rw[zq1 rfl,zq1 hi,zq1 rfl];rfl
  ·rw[zq0 h2,zq0 (fun e=>h2 e.symm)]
theorem z8C{xs:List Edit}{i j:Nat}(hi:i<xs.length)(hj:j<xs.length)(k:Nat):fr (swF xs i j) k=if k=j then fr xs i else if k=i then fr xs j else fr xs k:=by
 unfold fr;rw[z7e hi hj];split
 ·rfl
 split<;>rfl
theorem z4F{xs:List Edit}{i j:Nat}(hi:i<xs.length)(hj:j<xs.length):(swF xs i j).Perm xs:=by
 have h:=List.set_set_perm hi hj;unfold swF;rw[show xs.getD j ⟨0,0,[]⟩=xs[j]by rw[List.getD_eq_getElem?_getD,List.getElem?_eq_getElem hj];rfl,show xs.getD i ⟨0,0,[]⟩=xs[i]by rw[List.getD_eq_getElem?_getD,List.getElem?_eq_getElem hi];rfl];exact h
def z7n(xs:List Edit)(n:Nat):Prop:=∀k,0<k→k<n→fr xs ((k-1) / 2)≤fr xs k
theorem z7l:∀(f:Nat) (xs:List Edit) (j:Nat),j<f→j<xs.length →
  (∀k,0<k→k<xs.length→k≠j→fr xs ((k-1) / 2)≤fr xs k)→(∀k,0<k→k<xs.length→(k-1) / 2=j→0<j→fr xs ((j-1) / 2)≤fr xs k) →
  z7n (upF f xs j) xs.length∧(upF f xs j).Perm xs
 |f+1,xs,j,hf,hj,h1,h2=>by
  rw[upF];by_cases j0:j=0
  ·rw[zq1 j0];exact⟨fun k k0 kn=>h1 k k0 kn (by omega),List.Perm.refl _⟩
  rw[zq0 j0];have hp:(j-1) / 2<xs.length:=by omega
  by_cases c:fr xs j<fr xs ((j-1) / 2)
  ·rw[zq1 c];have sf:=z8C hp hj;have hpj:(j-1) / 2≠j:=by omega
   have key:=z7l f (swF xs ((j-1) / 2) j) ((j-1) / 2) (by omega) (by rw[z0E];exact hp) ?_ ?_
   ·rw[z0E]at key;exact⟨key.1,key.2.trans (z4F hp hj)⟩
   ·intro k k0 kn kp;rw[z0E]at kn;rw[sf,sf];by_cases e1:k=j
    ·subst e1;rw[zq1 rfl,zq0 hpj,zq1 rfl];omega
    ·rw[zq0 e1,zq0 kp];have:=h1 k k0 kn e1;by_cases e2:(k-1) / 2=j
     ·rw[zq1 e2];exact h2 k k0 kn e2 (by omega)
     ·rw[zq0 e2];by_cases e3:(k-1) / 2=(j-1) / 2
      ·rw[zq1 e3];rw[e3]at this;omega
      ·rw[zq0 e3];exact this
   ·intro k k0 kn kp p0;rw[z0E]at kn;have hpp:=h1 ((j-1) / 2) p0 hp hpj;rw[sf,sf,zq0 (show ¬((j-1) / 2-1) / 2=j by omega),zq0 (show ¬((j-1) / 2-1) / 2=(j-1) / 2 by omega)];by_cases e1:k=j
    ·rw[zq1 e1];exact hpp
    ·have:=h1 k k0 kn e1;rw[zq0 e1,zq0 (show ¬k=(j-1) / 2 by omega)];rw[kp]at this;omega
  ·rw[zq0 c];refine⟨fun k k0 kn=>?_,List.Perm.refl _⟩;by_cases e:k=j
   ·subst e;omega
   ·exact h1 k k0 kn e
theorem z3C:∀(f:Nat) (xs:List Edit) (i n:Nat),n-i<f→i<xs.length→n≤xs.length →
  (∀k,0<k→k<n→(k-1) / 2≠i→fr xs ((k-1) / 2)≤fr xs k)→(∀k,0<k→k<n→(k-1) / 2=i→0<i→fr xs ((i-1) / 2)≤fr xs k) →
  z7n (z2I f xs i n) n∧(z2I f xs i n).Perm xs∧∀m,n≤m→(z2I f xs i n).getD m zE=xs.getD m zE
 |f+1,xs,i,n,hf,hi,hn,h1,h2=>by
  rw[z2I];by_cases c1:2*i+1<n
  ·rw[zq1 c1];obtain⟨c,hc,hcn,hmin⟩:∃c,(if 2*i+2<n∧fr xs (2*i+2)<fr xs (2*i+1)then 2*i+2 else 2*i+1)=c∧(c<n∧(c-1) / 2=i∧0<c)∧∀k,0<k→k<n→(k-1) / 2=i→fr xs c≤fr xs k:=by
    by_cases g:2*i+2<n∧fr xs (2*i+2)<fr xs (2*i+1)
    ·refine⟨_,zq1 g,⟨by omega,by omega,by omega⟩,fun k k0 kn kp=>?_⟩;rcases(show k=2*i+1∨k=2*i+2 by omega)with rfl|rfl
     ·omega
     ·exact Int.le_refl _
    ·refine⟨_,zq0 g,⟨by omega,by omega,by omega⟩,fun k k0 kn kp=>?_⟩;rcases(show k=2*i+1∨k=2*i+2 by omega)with rfl|rfl
     ·exact Int.le_refl _
     ·have:=fun h=>g ⟨kn,h⟩;omega
   rw[hc];obtain⟨hcn,hcp,hc0⟩:=hcn;have hcl:c<xs.length:=by omega
   by_cases c2:fr xs c<fr xs i
   ·rw[zq1 c2];have sf:=z8C hi hcl;have key:=z3C f (swF xs i c) c n (by omega) (by rw[z0E];exact hcl) (by rw[z0E];exact hn) ?_ ?_
    ·refine⟨key.1,key.2.1.trans (z4F hi hcl),fun m hm=>?_⟩;rw[key.2.2 m hm,z7e hi hcl,zq0 (by omega),zq0 (by omega)]
    ·intro k k0 kn kp;rw[sf,sf];by_cases e1:(k-1) / 2=i
     ·rw[zq0 (show ¬(k-1) / 2=c by omega),zq1 e1];have:=hmin k k0 kn e1;by_cases e2:k=c
      ·rw[zq1 e2];omega
      ·rw[zq0 e2,zq0 (show ¬k=i by omega)];exact this
     ·rw[zq0 kp,zq0 e1,zq0 (show ¬k=c by omega)];by_cases e3:k=i
      ·rw[zq1 e3];have:=h2 c hc0 hcn hcp (by omega);rw[e3];exact this
      ·rw[zq0 e3];exact h1 k k0 kn e1
    ·intro k k0 kn kp c0;rw[sf,sf,zq0 (show ¬(c-1) / 2=c by omega),zq1 hcp,zq0 (show ¬k=c by omega),zq0 (show ¬k=i by omega)];have:=h1 k k0 kn (by omega);rw[kp]at this;exact this
   ·rw[zq0 c2];refine⟨fun k k0 kn=>?_,List.Perm.refl _,fun _ _=>rfl⟩;by_cases e:(k-1) / 2=i
    ·have:=hmin k k0 kn e;rw[e];omega
    ·exact h1 k k0 kn e
  ·rw[zq0 c1];exact⟨fun k k0 kn=>h1 k k0 kn (by omega),List.Perm.refl _,fun _ _=>rfl⟩
theorem z7D{xs:List Edit}{n:Nat}(h:z7n xs n):∀k,k<n→fr xs 0≤fr xs k:=by
 intro k;induction k using Nat.strongRecOn with
 |ind k ih=>
  intro kn;by_cases k0:k=0
  ·subst k0;exact Int.le_refl _
  ·have h1:=ih ((k-1) / 2) (by omega) (by omega);have h2:=h k (by omega) kn;omega
theorem z6d{xs ys:List Edit}{k:Nat}(h:k<xs.length):fr (xs++ys) k=fr xs k:=by
 unfold fr;rw[List.getD_eq_getElem?_getD,List.getD_eq_getElem?_getD,List.getElem?_append_left h]
theorem z6e{xs:List Edit}{n k:Nat}(h:k<n):fr (xs.take n) k=fr xs k:=by
 unfold fr;rw[List.getD_eq_getElem?_getD,List.getD_eq_getElem?_getD,List.getElem?_take_of_lt h]
theorem z6H{xs:List Edit}(h:z7n xs xs.length)(e:Edit):z7n (z3Z xs e) (z3Z xs e).length∧(z3Z xs e).Perm (xs++[e]):=by
 have hl:(xs++[e]).length=xs.length+1:=by simp
 have key:=z7l (xs.length+1) (xs++[e]) xs.length (by omega) (by omega) (fun k k0 kn kj=>by
  rw[z6d (by omega),z6d (by omega)];exact h k k0 (by omega)) (fun k k0 kn kp p0=>by omega)
 refine⟨?_,key.2⟩;rw[show(z3Z xs e).length=(xs++[e]).length from key.2.length_eq];exact key.1
theorem z7R{xs:List Edit}(h:z7n xs xs.length)(h0:0<xs.length):
  z7n ((gA xs).take (xs.length-1)) (xs.length-1)∧((gA xs).take (xs.length-1)).length=xs.length-1∧((gA xs).getD (xs.length-1) zE::(gA xs).take (xs.length-1)).Perm xs∧∀x∈(gA xs).take (xs.length-1),((gA xs).getD (xs.length-1) zE).From≤x.From:=by
 have hn:xs.length-1<xs.length:=by omega
 have sf:=z8C h0 hn;have key:=z3C (xs.length+1) (swF xs 0 (xs.length-1)) 0 (xs.length-1) (by omega) (by rw[z0E];exact h0) (by rw[z0E];omega) (fun k k0 kn kp=>by
  rw[sf,sf,zq0 (show ¬(k-1) / 2=xs.length-1 by omega),zq0 kp,zq0 (show ¬k=xs.length-1 by omega),zq0 (show ¬k=0 by omega)];exact h k k0 (by omega)) (fun k k0 kn kp p0=>by omega)
 have hp:(gA xs).Perm xs:=key.2.1.trans (z4F h0 hn);have hl:(gA xs).length=xs.length:=hp.length_eq;have he:(gA xs).getD (xs.length-1) zE=xs.getD 0 zE:=by
  have:=key.2.2 (xs.length-1) (Nat.le_refl _);rw[z7e h0 hn,zq1 rfl]at this;exact this
 have hz:gA xs=(gA xs).take (xs.length-1)++[(gA xs).getD (xs.length-1) zE]:=by
  have hlt:xs.length-1<(gA xs).length:=by omega
  have e1:(gA xs).getD (xs.length-1) zE=(gA xs)[xs.length-1]:=by rw[List.getD_eq_getElem?_getD,List.getElem?_eq_getElem hlt];rfl
  rw[e1,←List.take_succ_eq_append_getElem hlt,List.take_of_length_le (by omega)]
 have hperm:((gA xs).getD (xs.length-1) zE::(gA xs).take (xs.length-1)).Perm xs:=by
  refine List.Perm.trans ?_ hp;have:((gA xs).take (xs.length-1)++[(gA xs).getD (xs.length-1) zE]).Perm (gA xs):=by rw[←hz]
  exact(List.perm_append_comm (l₁:=[(gA xs).getD (xs.length-1) zE])).trans this
 refine⟨fun k k0 kn=>?_,by rw[List.length_take];omega,hperm,fun x hx=>?_⟩
 ·rw[z6e (by omega),z6e kn];exact key.1 k k0 kn
 ·rw[he];have hm:x∈xs:=hperm.mem_iff.1 (List.mem_cons_of_mem _ hx);obtain⟨k,hk⟩:=List.getElem?_of_mem hm;have hlt:=(List.getElem?_eq_some_iff.1 hk).1;have:=z7D h k hlt;unfold fr at this;rw[show xs.getD k ⟨0,0,[]⟩=x by rw[List.getD_eq_getElem?_getD,hk];rfl]at this;exact this
def z4y:Nat→List Edit→List Edit
 |0,_=>[]
 |f+1,h=>if h.length=0 then []else(gA h).getD (h.length-1) zE::z4y f ((gA h).take (h.length-1))
abbrev z8K(l:List Edit):Prop:=l.Pairwise fun a b=>a.From≤b.From
theorem z6F:∀(f:Nat) (h:List Edit),z7n h h.length→h.length<f→(z4y f h).Perm h∧z8K (z4y f h)
 |f+1,h,hh,hf=>by
  rw[z4y];by_cases h0:h.length=0
  ·rw[zq1 h0,List.eq_nil_of_length_eq_zero h0];exact⟨List.Perm.refl _,.nil⟩
  ·rw[zq0 h0];obtain⟨p1,p2,p3,p4⟩:=z7R hh (by omega);obtain⟨q1,q2⟩:=z6F f ((gA h).take (h.length-1)) (by rw[p2];exact p1) (by omega);exact⟨(q1.cons _).trans p3,List.pairwise_cons.2 ⟨fun x hx=>p4 x (q1.mem_iff.1 hx),q2⟩⟩
def chk(out:List Edit):List Edit→Option (List Edit)
 |[]=>some out
 |e::r=>if 0<out.length∧e.From≤(out.getD (out.length-1) zE).To then none else chk (out++[e]) r
theorem z0s:∀(f:Nat) (h out:List Edit),z1L f h out=chk out (z4y f h)
 |0,h,out=>rfl
 |f+1,h,out=>by
  rw[z1L,z4y];by_cases h0:h.length=0
  ·rw[zq1 h0,zq1 h0];rfl
  ·rw[zq0 h0,zq0 h0,chk];split
   ·rfl
   ·exact z0s f _ _
def jV:List Edit→Prop
 |[]=>True
 |[_]=>True
 |a::b::r=>a.To<b.From∧jV (b::r)
theorem z7Z:∀(l out:List Edit) (z:Edit),(jV (z::l)→chk (out++[z]) l=some (out++z::l))∧(¬jV (z::l)→chk (out++[z]) l=none)
 |[],out,z=>⟨fun _=>rfl,fun h=>absurd trivial h⟩
 |e::r,out,z=>by
  have hg:(out++[z]).getD ((out++[z]).length-1) zE=z:=by
   rw[List.getD_eq_getElem?_getD];simp
  have hl:0<(out++[z]).length:=by simp
  obtain⟨k1,k2⟩:=z7Z r (out++[z]) e;constructor
  ·intro h;rw[chk,hg,zq0 (fun c=>by have:=h.1;omega),k1 h.2];simp
  ·intro h;rw[chk,hg];by_cases c:e.From≤z.To
   ·rw[zq1 ⟨hl,c⟩]
   ·rw[zq0 (fun d=>c d.2)];exact k2 fun g=>h ⟨by omega,g⟩
theorem z8j(l:List Edit):(jV l→chk [] l=some l)∧(¬jV l→chk [] l=none):=by
 cases l with
 |nil=>exact⟨fun _=>rfl,fun h=>absurd trivial h⟩
 |cons z r=>
  obtain⟨k1,k2⟩:=z7Z r [] z;have e:chk [] (z::r)=chk ([]++[z]) r:=by rw[chk,zq0 (fun c=>absurd c.1 (by simp))]
  exact⟨fun h=>by rw[e,k1 h];rfl,fun h=>by rw[e,k2 h]⟩
theorem z5M{n:Int}(h1:-9223372036854775808≤n)(h2:n≤9223372036854775807):IntKind.wrap .i64 n=n:=by rw[IntKind.wrap_i64];omega
theorem z6k{α:Type}(l:List α)(n:Nat):idx l (n:Int)=l[n]?:=by unfold idx;rw[zq1 (by omega)];rfl
theorem z8O{α:Type}{l:List α}{n:Nat}(h:n<l.length):idx l (n:Int)=some l[n]:=by rw[z6k];exact List.getElem?_eq_getElem h
theorem yE{α β:Type}(x:α)(k:α→Option β):(some x>>=k)=k x:=rfl
theorem z4c(n:Nat):((n:Int)+1)=((n+1:Nat):Int):=by omega
abbrev InR(n:Int)(e:Edit):Prop:=0≤e.From∧e.From≤e.To∧e.To≤n
theorem z2t(n:Int):∀(l h:List Edit),z7n h h.length→(∀e∈l,InR n e)→∃h',uA n l h=some h'∧z7n h' h'.length∧h'.Perm (h++l)
 |[],h,hh,_=>⟨h,rfl,hh,by rw[List.append_nil]⟩
 |e::r,h,hh,hl=>by
  obtain⟨a,b⟩:=z6H hh e;obtain⟨h',h1,h2,h3⟩:=z2t n r (z3Z h e) a (fun x hx=>hl x (List.mem_cons_of_mem _ hx));have he:InR n e:=hl e List.mem_cons_self;refine⟨h',?_,h2,h3.trans ?_⟩
  ·rw[uA,zq0 (by omega)];exact h1
  ·have:=b.append_right r;rw[List.append_assoc]at this;exact this
theorem z1N(n:Int):∀(l h:List Edit),¬(∀e∈l,InR n e)→uA n l h=none
 |[],h,hl=>absurd (fun e he=>by cases he) hl
 |e::r,h,hl=>by
  rw[uA];by_cases c:e.From<0∨e.From>e.To∨e.To>n
  ·rw[zq1 c]
  ·rw[zq0 c];exact z1N n r _ fun g=>hl fun x hx=>by
    rcases List.mem_cons.1 hx with rfl|h1
    ·exact⟨by omega,by omega,by omega⟩
    ·exact g x h1
theorem z2g:∀(l:List Edit) (n:Int),(∀e∈l,InR n e)→jV l→l.Pairwise fun a b=>a.To<b.From
 |[],_,_,_=>.nil
 |[a],_,_,_=>.cons (fun _ h=>by cases h) .nil
 |a::b::r,n,hi,h=>by
  have ih:=z2g (b::r) n (fun e he=>hi e (List.mem_cons_of_mem _ he)) h.2;refine .cons (fun x hx=>?_) ih;rcases List.mem_cons.1 hx with rfl|h1
  ·exact h.1
  ·have h2:=(List.pairwise_cons.1 ih).1 x h1;have h3:=hi b (List.mem_cons_of_mem _ List.mem_cons_self);have:=h.1;omega
theorem z5e:∀(l m:List Edit),l.Perm m→(l.Pairwise fun a b=>a.From<b.From)→z8K m→l=m
 |[],m,h,_,_=>(List.nil_perm.1 h).symm
 |a::l,[],h,_,_=>absurd h.length_eq (by simp)
 |a::l,b::m,h,h1,h2=>by
  obtain⟨h3,h4⟩:=List.pairwise_cons.1 h1;obtain⟨h5,h6⟩:=List.pairwise_cons.1 h2;have e:a=b:=by
   rcases List.mem_cons.1 (h.mem_iff.1 (List.mem_cons_self (a:=a) (l:=l)))with e|e
   ·exact e
   rcases List.mem_cons.1 (h.mem_iff.2 (List.mem_cons_self (a:=b) (l:=m)))with f|f
   ·exact f.symm
   have:=h5 a e;have:=h3 b f;omega
  subst e;rw[z5e l m (List.perm_cons a |>.1 h) h4 h6]
theorem z5P{l m:List Edit}{n:Int}(hp:l.Perm m)(hi:∀e∈l,InR n e)(ha:jV l)(hr:z8K m):l=m:=by
 refine z5e l m hp ?_ hr;refine(z2g l n hi ha).imp_of_mem fun {a b} ha hb h=>?_;have:=hi a ha;omega
theorem z5J{t:Str}{l:List Edit}(hl:l.length≤1000000)(ht:t.length≤9223372036854775807)(h:¬∀e∈l,InR t.length e):yK t l=some ([],13):=by
 unfold yK;rw[zq1 ⟨hl,ht⟩,z1N _ _ _ h]
theorem z4b{t:Str}{l:List Edit}(hl:l.length≤1000000)(ht:t.length≤9223372036854775807)(h:∀e∈l,InR t.length e):
  ∃m:List Edit,m.Perm l∧z8K m∧(jV m→yK t l=some (m,0))∧(¬jV m→yK t l=some ([],15)):=by
 obtain⟨h',h1,h2,h3⟩:=z2t t.length l [] (fun k _ kn=>by cases kn) h;obtain⟨q1,q2⟩:=z6F (h'.length+1) h' h2 (by omega);obtain⟨k1,k2⟩:=z8j (z4y (h'.length+1) h');refine⟨_,q1.trans h3,q2,fun c=>?_,fun c=>?_⟩<;>unfold yK<;>rw[zq1 ⟨hl,ht⟩,h1]
 ·simp only[z0s,k1 c]
 ·simp only[z0s,k2 c]
def z0z:List Edit→Int
 |[]=>0
 |x::r=>(x.To-x.From)+z0z r
def z0V:List Edit→Int
 |[]=>0
 |x::r=>(x.Text.length:Int)+z0V r
def Ch(n:Int):Int→List Edit→Prop
 |a,[]=>a≤n
 |a,x::r=>a≤x.From∧x.From≤x.To∧Ch n x.To r
def z0O(t:Str):Int→List Edit→Str
 |a,[]=>t.drop (Int.toNat a)
 |a,x::r=>(t.take (Int.toNat x.From)).drop (Int.toNat a)++x.Text++z0O t x.To r
def uB:Int→List Edit→List Region
 |_,[]=>[]
 |m,x::r=>⟨x.From,x.To,x.From+m,x.To+(m+x.Text.length-(x.To-x.From))⟩::uB (m+x.Text.length-(x.To-x.From)) r
theorem z2D:∀l:List Edit,0≤z0V l
 |[]=>Int.le_refl _
 |x::r=>by have:=z2D r;rw[z0V];omega
theorem uX{n:Int}:∀(l:List Edit) (a:Int),Ch n a l→z0z l≤n-a∧a≤n
 |[],a,h=>⟨by rw[z0z];have:a≤n:=h;omega,h⟩
 |x::r,a,h=>by obtain⟨h1,h2,h3⟩:=h;have:=uX r x.To h3;rw[z0z];omega
theorem z8N{n:Int}:∀(l:List Edit) (a:Int),a≤n→(∀e∈l,InR n e)→jV l→(∀e∈l.head?,a≤e.From)→Ch n a l
 |[],a,h,_,_,_=>h
 |[x],a,h,hi,ha,h0=>by have h1:=hi x List.mem_cons_self;exact⟨h0 x rfl,h1.2.1,h1.2.2⟩
 |x::y::r,a,h,hi,ha,h0=>by
  have h1:=hi x List.mem_cons_self;refine⟨h0 x rfl,h1.2.1,z8N (y::r) x.To h1.2.2 (fun e he=>hi e (List.mem_cons_of_mem _ he)) ha.2 fun e he=>?_⟩;have:y=e:=by simpa using he
  subst this;exact Int.le_of_lt ha.1
theorem z4a{n:Int}(hn:n≤9223372036854775807):∀(l:List Edit) (a s:Int),0≤a→Ch n a l→n-a≤s→s≤9223372036854775807→yJ s l=s-z0z l∧0≤s-z0z l
 |[],a,s,ha,h,h1,h2=>by have:a≤n:=h;rw[yJ,z0z];omega
 |x::r,a,s,ha,h,h1,h2=>by
  obtain⟨h3,h4,h5⟩:=h;have h6:=uX r x.To h5;rw[yJ,z5M (n:=x.To-x.From) (by omega) (by omega),z5M (n:=s-(x.To-x.From)) (by omega) (by omega),z0z];have ih:=z4a hn r x.To (s-(x.To-x.From)) (by omega) h5 (by omega) (by omega);rw[ih.1];omega
theorem z6g:∀(l:List Edit) (s:Int),0≤s→s≤9223372036854775807→(∀x∈l,x.Text.length≤9223372036854775807) →
  (s+z0V l≤8192→yR s l=some (s+z0V l))∧(¬s+z0V l≤8192→yR s l=none∨∃m,8192<m∧yR s l=some m)
 |[],s,h0,h1,hw=>⟨fun h=>by rw[yR,z0V,Int.add_zero],fun h=>.inr ⟨s,by rw[z0V]at h;omega,rfl⟩⟩
 |x::r,s,h0,h1,hw=>by
  have hx:=hw x List.mem_cons_self;have ha:=z2D r;rw[yR,z5M (n:=8192-s) (by omega) (by omega),z0V];by_cases c:(x.Text.length:Int)>8192-s
  ·rw[zq1 c];exact⟨fun h=>by omega,fun _=>.inl rfl⟩
  ·rw[zq0 c,z5M (n:=s+x.Text.length) (by omega) (by omega)];obtain⟨k1,k2⟩:=z6g r (s+x.Text.length) (by omega) (by omega) (fun y hy=>hw y (List.mem_cons_of_mem _ hy));rw[Int.add_assoc]at k1 k2;exact⟨k1,k2⟩
theorem z3c(t:Str):∀(l:List Edit) (a:Int),0≤a→Ch t.length a l→((z0O t a l).length:Int)=t.length-a-z0z l+z0V l
 |[],a,h0,h=>by have:a≤(t.length:Int):=h;rw[z0O,z0z,z0V,List.length_drop];omega
 |x::r,a,h0,h=>by
  obtain⟨h1,h2,h3⟩:=h;have h4:=(uX r x.To h3).2;have ih:=z3c t r x.To (by omega) h3;rw[z0O,z0z,z0V,List.length_append,List.length_append,List.length_drop,List.length_take];omega
theorem z5j(t:Str):∀(l:List Edit) (a:Int) (acc:Str) (rs:List Region),0≤a→Ch t.length a l→(acc.length:Int)+(t.length-a-z0z l+z0V l)≤8192 →
  ∃P b,vB t l a acc rs=some (P,b,rs++uB (acc.length-a) l)∧0≤b∧b≤t.length∧P++t.drop (Int.toNat b)=acc++z0O t a l
 |[],a,acc,rs,h0,h,hs=>⟨acc,a,by rw[vB,uB,List.append_nil],h0,h,rfl⟩
 |x::r,a,acc,rs,h0,h,hs=>by
  obtain⟨h1,h2,h3⟩:=h;have h4:=uX r x.To h3;have h5:=z2D r;rw[z0z,z0V]at hs;have e1:(((t.take (Int.toNat x.From)).drop (Int.toNat a)).length:Int)=x.From-a:=by rw[List.length_drop,List.length_take];omega
  have e2:((acc++(t.take (Int.toNat x.From)).drop (Int.toNat a)).length:Int)=acc.length+(x.From-a):=by rw[List.length_append];omega
  have e3:((acc++(t.take (Int.toNat x.From)).drop (Int.toNat a)++x.Text).length:Int)=acc.length+(x.From-a)+x.Text.length:=by rw[List.length_append];omega
  obtain⟨P,b,k1,k2,k3,k4⟩:=z5j t r x.To (acc++(t.take (Int.toNat x.From)).drop (Int.toNat a)++x.Text) (rs++[⟨x.From,x.To,(List.length (acc++(List.take (Int.toNat x.From) t).drop (Int.toNat a)):Int),(List.length (acc++(List.take (Int.toNat x.From) t).drop (Int.toNat a)++x.Text):Int)⟩]) (by omega) h3 (by rw[e3];omega);refine⟨P,b,?_,k2,k3,?_⟩
  ·rw[vB,zq1 ⟨h0,h1,by omega,by omega⟩,k1,uB,e2,e3,List.append_assoc];rw[show(acc.length:Int)+(x.From-a)+x.Text.length-x.To=acc.length-a+x.Text.length-(x.To-x.From)by omega,
    show(acc.length:Int)+(x.From-a)=x.From+(acc.length-a)by omega,show x.From+((acc.length:Int)-a)+x.Text.length=x.To+(acc.length-a+x.Text.length-(x.To-x.From))by omega]
   rfl
  ·rw[k4,z0O];simp only[List.append_assoc]
theorem z4x{t:Str}{l:List Edit}(hl:l.length≤1000000)(ht:t.length≤9223372036854775807)(h:¬∀e∈l,InR t.length e):zN t l=some ([],[],13):=by
 unfold zN;rw[z5J hl ht h,yE];rfl
theorem z2p{t:Str}{l m:List Edit}{a:Int}(hm:m.length≤1000000)(h:yK t l=some (m,0))(hn:t.length≤9223372036854775807)(hw:∀x∈m,x.Text.length≤9223372036854775807)(hc:Ch t.length 0 m):
  (¬(t.length:Int)-z0z m+z0V m≤8192→zN t l=some ([],[],3))∧((t.length:Int)-z0z m+z0V m≤8192→zN t l=some (z0O t 0 m,uB 0 m,0)):=by
 obtain⟨s1,s2⟩:=z4a (n:=t.length) (by omega) m 0 t.length (Int.le_refl _) hc (by omega) (by omega);have hd:=uX m 0 hc;have ha:=z2D m;obtain⟨g1,g2⟩:=z6g m (t.length-z0z m) s2 (by
  rcases Classical.em (z0z m<0)with c|c
  ·exfalso;have:∀(l:List Edit) (a:Int),Ch t.length a l→0≤z0z l:=fun l=>by
    induction l with
    |nil=>intro a _;exact Int.le_refl _
    |cons x r ih=>intro a h;obtain⟨h1,h2,h3⟩:=h;have:=ih _ h3;rw[z0z];omega
   have:=this m 0 hc;omega
  ·omega) hw
 unfold zN;rw[h,yE];dsimp only;rw[zq1 hm,zq1 rfl,s1];constructor
 ·intro c;rcases g2 c with g|⟨k,k1,k2⟩
  ·rw[g]
  ·rw[k2];dsimp only;rw[zq1 (by omega)]
 ·intro c;rw[g1 c];dsimp only;rw[zq0 (by omega)];obtain⟨P,b,k1,k2,k3,k4⟩:=z5j t m 0 [] [] (Int.le_refl _) hc (by rw[List.length_nil];omega);rw[k1,yE];dsimp only;have hl:=congrArg List.length k4;have ho:=z3c t m 0 (Int.le_refl _) hc;rw[List.length_append,List.length_append,List.length_drop]at hl;rw[zq1 ⟨k2,k3,by rw[List.length_nil]at hl;omega⟩,k4];rfl
theorem z2q{t:Str}{l:List Edit}(hl:l.length≤1000000)(ht:t.length≤9223372036854775807)(hw:∀x∈l,x.Text.length≤9223372036854775807)(h:∀e∈l,InR t.length e):
  ∃m:List Edit,m.Perm l∧z8K m∧(¬jV m→zN t l=some ([],[],15))∧(jV m→Ch t.length 0 m ∧
   (¬(t.length:Int)-z0z m+z0V m≤8192→zN t l=some ([],[],3))∧((t.length:Int)-z0z m+z0V m≤8192→zN t l=some (z0O t 0 m,uB 0 m,0))):=by
 obtain⟨m,h1,h2,h3,h4⟩:=z4b hl ht h;refine⟨m,h1,h2,fun c=>?_,fun c=>?_⟩
 ·unfold zN;rw[h4 c,yE];rfl
 ·have hc:Ch t.length 0 m:=z8N m 0 (by omega) (fun e he=>h e (h1.mem_iff.1 he)) c fun e he=>(h e (h1.mem_iff.1 (List.mem_of_mem_head? he))).1;exact⟨hc,z2p (a:=0) (by rw[h1.length_eq];exact hl) (h3 c) ht (fun x hx=>hw x (h1.mem_iff.1 hx)) hc⟩
theorem jM:vT=some true:=by
 have hi:∀e∈[(Edit.mk 1 1 ([120]:List UInt8))],InR (([97,98]:List UInt8).length:Int) e:=fun e he=>by
  rcases List.mem_cons.1 he with rfl|h
  ·exact⟨by decide,by decide,by decide⟩
  ·cases h
 obtain⟨m,h1,h2,h3,h4⟩:=z2q (t:=[97,98]) (l:=[(Edit.mk 1 1 ([120]:List UInt8))]) (by decide) (by decide) (fun x hx=>by
  rcases List.mem_cons.1 hx with rfl|h
  ·show(1:Nat)≤_;omega
  ·cases h) hi
 have hm:m=[(Edit.mk 1 1 ([120]:List UInt8))]:=List.perm_singleton.1 h1;subst hm;have h5:=(h4 trivial).2.2 (by decide);unfold vT zZ;rw[h5,yE,yE];rfl
theorem z7L{l:List Edit}(h:l.length≤60):wA l=some false:=by
 unfold wA;rw[decide_eq_false (by omega)]
theorem z6v{l:List Edit}(h:¬l.length≤60):wA l=some true:=by
 unfold wA;rw[decide_eq_true (by omega)]
theorem z8y{n:Nat}(h:n≤2000000000):z3e 32 n:=⟨by omega,by omega⟩
theorem z8a{α:Type}{l:List α}{k:Nat}{x:α}{r:List α}(h:l.drop k=x::r):idx l (k:Int)=some x∧l.drop (k+1)=r∧k<l.length:=by
 have hk:k<l.length:=by
  rcases Nat.lt_or_ge k l.length with c|c
  ·exact c
  ·rw[List.drop_eq_nil_of_le c]at h;cases h
 rw[List.drop_eq_getElem_cons hk]at h;injection h with h1 h2;exact⟨by rw[z8O hk,h1],h2,hk⟩
theorem z5V{α:Type}{l:List α}{k:Nat}(h:l.drop k=[]):l.length≤k:=by
 rcases Nat.lt_or_ge k l.length with c|c
 ·rw[List.drop_eq_getElem_cons c]at h;cases h
 ·exact c
theorem z0b:∀(l:List Edit) (m:Int),(uB m l).length=l.length
 |[],_=>rfl
 |x::r,m=>by rw[uB,List.length_cons,List.length_cons,z0b r]
theorem z7Y{n:Int}:∀(l:List Edit) (a:Int),0≤a→Ch n a l→∀e∈l,InR n e
 |[],_,_,_,e,h=>by cases h
 |x::r,a,h0,⟨h1,h2,h3⟩,e,h=>by
  have h4:=(uX r _ h3).2;rcases List.mem_cons.1 h with rfl|h
  ·exact⟨by omega,h2,h4⟩
  ·exact z7Y r x.To (by omega) h3 e h
def bkE(t:Str)(r:Region):Edit:=⟨r.FromQ,r.ToQ,(t.take (Int.toNat r.ToP)).drop (Int.toNat r.FromP)⟩
def swR(r:Region):Region:=⟨r.FromQ,r.ToQ,r.FromP,r.ToP⟩
abbrev bkL(t:Str)(m:Int)(l:List Edit):List Edit:=(uB m l).map (bkE t)
theorem z4M(t:Str):∀(l:List Edit) (m:Int),jV l→jV (bkL t m l)
 |[],_,_=>trivial
 |[x],_,_=>trivial
 |x::y::r,m,h=>by
  have ih:=z4M t (y::r) (m+x.Text.length-(x.To-x.From)) h.2;have h1:=h.1;refine⟨?_,ih⟩;show x.To+(m+x.Text.length-(x.To-x.From))<y.From+(m+x.Text.length-(x.To-x.From));omega
theorem z7V(t:Str):∀(l:List Edit) (a m:Int) (P:Str),0≤a→Ch t.length a l→(P.length:Int)=a+m →
  Ch ((P++z0O t a l).length:Int) (a+m) (bkL t m l)∧z0O (P++z0O t a l) (a+m) (bkL t m l)=t.drop (Int.toNat a)∧uB (-m) (bkL t m l)=(uB m l).map swR∧z0z (bkL t m l)=z0V l∧z0V (bkL t m l)=z0z l
 |[],a,m,P,h0,h,hP=>by
  refine⟨?_,?_,rfl,rfl,rfl⟩
  ·show a+m≤_;rw[List.length_append];omega
  ·show List.drop (Int.toNat (a+m)) (P++t.drop (Int.toNat a))=_;rw[List.drop_left' (by omega)]
 |x::r,a,m,P,h0,⟨h1,h2,h3⟩,hP=>by
  have h4:=(uX r _ h3).2;have hX:(((t.take (Int.toNat x.From)).drop (Int.toNat a)).length:Int)=x.From-a:=by rw[List.length_drop,List.length_take];omega
  have hD:(((t.take (Int.toNat x.To)).drop (Int.toNat x.From)).length:Int)=x.To-x.From:=by rw[List.length_drop,List.length_take];omega
  obtain⟨i1,i2,i3,i4,i5⟩:=z7V t r x.To (m+x.Text.length-(x.To-x.From)) (P++(t.take (Int.toNat x.From)).drop (Int.toNat a)++x.Text) (by omega) h3 (by rw[List.length_append,List.length_append];omega);have hs:P++z0O t a (x::r)=P++(t.take (Int.toNat x.From)).drop (Int.toNat a)++x.Text++z0O t x.To r:=by rw[z0O];simp only[List.append_assoc]
  rw[hs];refine⟨⟨?_,?_,i1⟩,?_,?_,?_,?_⟩
  ·show a+m≤x.From+m;omega
  ·show x.From+m≤x.To+(m+x.Text.length-(x.To-x.From));omega
  ·show((P++(t.take (Int.toNat x.From)).drop (Int.toNat a)++x.Text++z0O t x.To r).take (Int.toNat (x.From+m))).drop (Int.toNat (a+m))++(t.take (Int.toNat x.To)).drop (Int.toNat x.From)++z0O (P++(t.take (Int.toNat x.From)).drop (Int.toNat a)++x.Text++z0O t x.To r) (x.To+(m+x.Text.length-(x.To-x.From))) (bkL t (m+x.Text.length-(x.To-x.From)) r)=_;rw[i2,List.append_assoc (P++_),List.take_left' (by rw[List.length_append];omega),List.drop_left' (by omega)]
   have e1:(t.take (Int.toNat x.From)).drop (Int.toNat a)++(t.take (Int.toNat x.To)).drop (Int.toNat x.From)=(t.take (Int.toNat x.To)).drop (Int.toNat a):=by
    have g1:t.take (Int.toNat x.From)=(t.take (Int.toNat x.To)).take (Int.toNat x.From):=by rw[List.take_take,show min (Int.toNat x.From) (Int.toNat x.To)=Int.toNat x.From by omega]
    rw[g1]
    conv=>rhs;rw[←List.take_append_drop (Int.toNat x.From) (t.take (Int.toNat x.To))]
    rw[List.drop_append_of_le_length (by rw[List.length_take,List.length_take];omega)]
   rw[e1]
   conv=>rhs;rw[←List.take_append_drop (Int.toNat x.To) t]
   rw[List.drop_append_of_le_length (by rw[List.length_take];omega)]
  ·have e2:-m+(((t.take (Int.toNat x.To)).drop (Int.toNat x.From)).length:Int)-(x.To+(m+x.Text.length-(x.To-x.From))-(x.From+m))=-(m+x.Text.length-(x.To-x.From)):=by omega
   show(⟨x.From+m,x.To+(m+x.Text.length-(x.To-x.From)),x.From+m+-m,x.To+(m+x.Text.length-(x.To-x.From))+(-m+(((t.take (Int.toNat x.To)).drop (Int.toNat x.From)).length:Int)-(x.To+(m+x.Text.length-(x.To-x.From))-(x.From+m)))⟩:Region) ::
    uB (-m+(((t.take (Int.toNat x.To)).drop (Int.toNat x.From)).length:Int)-(x.To+(m+x.Text.length-(x.To-x.From))-(x.From+m))) (bkL t (m+x.Text.length-(x.To-x.From)) r)=⟨x.From+m,x.To+(m+x.Text.length-(x.To-x.From)),x.From,x.To⟩::(uB (m+x.Text.length-(x.To-x.From)) r).map swR
   rw[e2,i3,show x.From+m+-m=x.From by omega,show x.To+(m+(x.Text.length:Int)-(x.To-x.From))+-(m+(x.Text.length:Int)-(x.To-x.From))=x.To by omega]
  ·show x.To+(m+x.Text.length-(x.To-x.From))-(x.From+m)+z0z (bkL t (m+x.Text.length-(x.To-x.From)) r)=(x.Text.length:Int)+z0V r;omega
  ·show(((t.take (Int.toNat x.To)).drop (Int.toNat x.From)).length:Int)+z0V (bkL t (m+x.Text.length-(x.To-x.From)) r)=(x.To-x.From)+z0z r;omega
theorem z6N{n:Int}:∀(l:List Edit) (a m:Int),0≤a→Ch n a l→∀r∈uB m l,0≤r.FromP∧r.FromP≤r.ToP∧r.ToP≤n
 |[],_,_,_,_,r,h=>by cases h
 |x::r,a,m,h0,⟨h1,h2,h3⟩,e,h=>by
  have h4:=(uX r _ h3).2;rw[uB]at h;rcases List.mem_cons.1 h with rfl|h
  ·exact⟨Int.le_trans h0 h1,h2,h4⟩
  ·exact z6N r x.To _ (by omega) h3 e h
theorem z5T(t:Str)(R:List Region)(hR:R.length≤1000000)(hi:∀r∈R,0≤r.FromP∧r.FromP≤r.ToP∧r.ToP≤(t.length:Int)):∀(q:List Region) (k:Nat) (out:List Edit),R.drop k=q→out.length=k→patch_Back_L6 t out R (R.length:Int) k=some (out++q.map (bkE t),0)
 |[],k,out,h,ho=>by
  have:=z5V h;rw[uP];unfold zX;rw[zq0 (by omega),List.map_nil,List.append_nil]
 |x::q,k,out,h,ho=>by
  obtain⟨d1,d2,d3⟩:=z8a h;obtain⟨x1,x2,x3⟩:=hi x (List.mem_of_mem_drop (h▸List.mem_cons_self:x∈R.drop k));rw[uP];unfold zX;rw[zq1 (by omega),d1,yE,zq1 (by omega),zq1 (by omega),zq1 x1,zq1 (by omega),zq1 (z8y (by simp;omega)),z5M (n:=(k:Int)+1) (by omega) (by omega),z4c,z5T t R hR hi q (k+1) _ d2 (by simp[ho]),List.map_cons,List.append_assoc];rfl
theorem z4L(R:List Region)(hR:R.length≤1000000):∀(q:List Region) (k:Nat),R.drop k=q→zF R (R.map swR) k=some true
 |[],k,h=>by
  have:=z5V h;rw[wG];unfold zO;rw[zq0 (by omega),jM,yE]
 |x::q,k,h=>by
  obtain⟨d1,d2,d3⟩:=z8a h;have e1:idx (R.map swR) (k:Int)=some (swR x):=by
   rw[z6k]at d1 ⊢;rw[List.getElem?_map,d1];rfl
  rw[wG];unfold zO;rw[zq1 (by omega),d1,e1];simp only[yE];rw[zq1 (show(swR x).FromP=x.FromQ from rfl),zq1 (show(swR x).ToP=x.ToQ from rfl),zq1 (show(swR x).FromQ=x.FromP from rfl),zq1 (show(swR x).ToQ=x.ToP from rfl),z5M (n:=(k:Int)+1) (by omega) (by omega),z4c];exact z4L R hR q (k+1) d2
theorem z3X(x0:Str)(x1:List Edit)(w0:x0.length≤9223372036854775807)(w1:x1.length≤9223372036854775807∧∀x∈x1,Edit.Wf x):wD x0 x1=some true:=by
 unfold wD;by_cases hl:x1.length≤60
 case neg=>
  rw[z6v hl,yE,zq1 rfl,jM,yE]
 rw[z7L hl,yE,zq0 (by decide)];by_cases ht:(x0.length:Int)>8192
 ·rw[zq1 ht,jM,yE]
 rw[zq0 ht];have hl':x1.length≤1000000:=by omega
 have hw:∀x∈x1,x.Text.length≤9223372036854775807:=fun x hx=>(w1.2 x hx).Text_;have bad:∀e,e≠0→zN x0 x1=some ([],[],e)→zZ x0 x1=some ([],e)∧wB x0 x1=some ([],e):=fun e he h=>by
  unfold zZ wB;rw[h];simp[he]
 by_cases hi:∀e∈x1,InR x0.length e
 case neg=>
  obtain⟨b1,b2⟩:=bad 13 (by decide) (z4x hl' (by omega) hi);simp[b1,b2,jM]
 obtain⟨m,p1,p2,p3,p4⟩:=z2q (t:=x0) hl' (by omega) hw hi;by_cases ha:jV m
 case neg=>
  obtain⟨b1,b2⟩:=bad 15 (by decide) (p3 ha);simp[b1,b2,jM]
 obtain⟨p5,p6,p7⟩:=p4 ha;by_cases hs:(x0.length:Int)-z0z m+z0V m≤8192
 case neg=>
  obtain⟨b1,b2⟩:=bad 3 (by decide) (p6 hs);simp[b1,b2,jM]
 have hp:=p7 hs;have hml:m.length≤60:=by rw[p1.length_eq];exact hl
 obtain⟨k1,k2,k3,k4,k5⟩:=z7V x0 m 0 0 [] (Int.le_refl _) p5 rfl;rw[List.nil_append]at k1 k2;have k2:z0O (z0O x0 0 m) 0 (bkL x0 0 m)=x0:=k2;have k3:uB 0 (bkL x0 0 m)=(uB 0 m).map swR:=k3;have k1:Ch ((z0O x0 0 m).length:Int) 0 (bkL x0 0 m):=k1;have hol:=z3c x0 m 0 (Int.le_refl _) p5;have hbi:=z7Y _ _ (Int.le_refl _) k1;have hba:jV (bkL x0 0 m):=z4M x0 m 0 ha;have hbl:(bkL x0 0 m).length=m.length:=by rw[zq3,z0b]
 obtain⟨m',s1,s2,s3,s4⟩:=z4b (t:=z0O x0 0 m) (l:=bkL x0 0 m) (by omega) (by omega) hbi;have hm':bkL x0 0 m=m':=z5P s1.symm hbi hba s2;rw[←hm']at s3;have hq:=(z2p (a:=0) (by omega) (s3 hba) (by omega) (fun x hx=>by
  obtain⟨r,hr,rfl⟩:=List.mem_map.1 hx;show((x0.take (Int.toNat r.ToP)).drop (Int.toNat r.FromP)).length≤_;rw[List.length_drop,List.length_take];omega) k1).2 (by rw[k4,k5];omega)
 rw[k2,k3]at hq;have a1:zZ x0 x1=some (z0O x0 0 m,0):=by unfold zZ;rw[hp];rfl
 have a2:yI x0 x1=some (uB 0 m,0):=by unfold yI;rw[hp];rfl
 have a3:zZ (z0O x0 0 m) (bkL x0 0 m)=some (x0,0):=by unfold zZ;rw[hq];rfl
 have a4:yI (z0O x0 0 m) (bkL x0 0 m)=some ((uB 0 m).map swR,0):=by unfold yI;rw[hq];rfl
 have a5:wB x0 x1=some (bkL x0 0 m,0):=by
  unfold wB;rw[hp,yE];dsimp only;rw[zq1 rfl];exact z5T x0 (uB 0 m) (by rw[z0b];omega) (z6N m 0 0 (Int.le_refl _) p5) _ 0 [] rfl rfl
 have a6:=z4L (uB 0 m) (by rw[z0b];omega) _ 0 rfl;rw[a1,a5];simp only[yE,if_true,a3,a2,a4,zq3,z0b,p1.length_eq];exact a6
end Go.Proofs.Ytjlohgfmobpfmaa.M

