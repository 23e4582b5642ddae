import Derived.Test.YtjlohgfmobpfmaaMod
import Derived.Test.YtjlohgfmobpfmaaWf
namespace Go.Proofs.Ytjlohgfmobpfmaa.M
open Go Nt
set_option linter.unusedVariables false
set_option linter.unusedSimpArgs false
set_option linter.unusedSectionVars false
abbrev zE:Edit:=⟨0,0,[]⟩
theorem z1I(xs:List Edit)(i j:Nat):(swF xs i j).length=xs.length:=by simp[swF]
theorem z8F{xs:List Edit}{i j:Nat}(hi:i<xs.length)(hj:j<xs.length)(k:Nat):(swF xs i j).getD k zE=if k=j then xs.getD i zE else if k=i then xs.getD j zE else xs.getD k zE:=by
 unfold swF;simp only[List.getD_eq_getElem?_getD];rw[List.getElem?_set];by_cases h1:j=k
 ·subst h1;rw[zq1 rfl,zq1 (by simpa using hj),zq1 rfl];rfl
 ·rw[zq0 h1,zq0 (fun e=>h1 e.symm),List.getElem?_set];by_cases h2:i=k
  ·subst h2;rw[zq1 rfl,zq1 hi,zq1 rfl];rfl
  ·rw[zq0 h2,zq0 (fun e=>h2 e.symm)]
theorem y0k{xs:List Edit}{i j:Nat}(hi:i<xs.length)(hj:j<xs.length)(k:Nat):fr (swF xs i j) k=if k=j then fr xs i else if k=i then fr xs j else fr xs k:=by
 unfold fr;rw[z8F hi hj];split
 ·rfl
 split<;>rfl
theorem z6h{xs:List Edit}{i j:Nat}(hi:i<xs.length)(hj:j<xs.length):(swF xs i j).Perm xs:=by
 have h:=List.set_set_perm hi hj;unfold swF;rw[show xs.getD j ⟨0,0,[]⟩=xs[j]by rw[List.getD_eq_getElem?_getD,List.getElem?_eq_getElem hj];rfl,show xs.getD i ⟨0,0,[]⟩=xs[i]by rw[List.getD_eq_getElem?_getD,List.getElem?_eq_getElem hi];rfl];exact h
def z8O(xs:List Edit)(n:Nat):Prop:=∀k,0<k→k<n→fr xs ((k-1) / 2)≤fr xs k
theorem z8M:∀(f:Nat) (xs:List Edit) (j:Nat),j<f→j<xs.length →
  (∀k,0<k→k<xs.length→k≠j→fr xs ((k-1) / 2)≤fr xs k)→(∀k,0<k→k<xs.length→(k-1) / 2=j→0<j→fr xs ((j-1) / 2)≤fr xs k) →
  z8O (upF f xs j) xs.length∧(upF f xs j).Perm xs
 |f+1,xs,j,hf,hj,h1,h2=>by
  rw[upF];by_cases j0:j=0
  ·rw[zq1 j0];exact⟨fun k k0 kn=>h1 k k0 kn (by omega),List.Perm.refl _⟩
  rw[zq0 j0];have hp:(j-1) / 2<xs.length:=by omega
  by_cases c:fr xs j<fr xs ((j-1) / 2)
  ·rw[zq1 c];have sf:=y0k hp hj;have hpj:(j-1) / 2≠j:=by omega
   have key:=z8M f (swF xs ((j-1) / 2) j) ((j-1) / 2) (by omega) (by rw[z1I];exact hp) ?_ ?_
   ·rw[z1I]at key;exact⟨key.1,key.2.trans (z6h hp hj)⟩
   ·intro k k0 kn kp;rw[z1I]at kn;rw[sf,sf];by_cases e1:k=j
    ·subst e1;rw[zq1 rfl,zq0 hpj,zq1 rfl];omega
    ·rw[zq0 e1,zq0 kp];have:=h1 k k0 kn e1;by_cases e2:(k-1) / 2=j
     ·rw[zq1 e2];exact h2 k k0 kn e2 (by omega)
     ·rw[zq0 e2];by_cases e3:(k-1) / 2=(j-1) / 2
      ·rw[zq1 e3];rw[e3]at this;omega
      ·rw[zq0 e3];exact this
   ·intro k k0 kn kp p0;rw[z1I]at kn;have hpp:=h1 ((j-1) / 2) p0 hp hpj;rw[sf,sf,zq0 (show ¬((j-1) / 2-1) / 2=j by omega),zq0 (show ¬((j-1) / 2-1) / 2=(j-1) / 2 by omega)];by_cases e1:k=j
    ·rw[zq1 e1];exact hpp
    ·have:=h1 k k0 kn e1;rw[zq0 e1,zq0 (show ¬k=(j-1) / 2 by omega)];rw[kp]at this;omega
  ·rw[zq0 c];refine⟨fun k k0 kn=>?_,List.Perm.refl _⟩;by_cases e:k=j
   ·subst e;omega
   ·exact h1 k k0 kn e
theorem z5c:∀(f:Nat) (xs:List Edit) (i n:Nat),n-i<f→i<xs.length→n≤xs.length →
  (∀k,0<k→k<n→(k-1) / 2≠i→fr xs ((k-1) / 2)≤fr xs k)→(∀k,0<k→k<n→(k-1) / 2=i→0<i→fr xs ((i-1) / 2)≤fr xs k) →
  z8O (z4g f xs i n) n∧(z4g f xs i n).Perm xs∧∀m,n≤m→(z4g f xs i n).getD m zE=xs.getD m zE
 |f+1,xs,i,n,hf,hi,hn,h1,h2=>by
  rw[z4g];by_cases c1:2*i+1<n
  ·rw[zq1 c1];obtain⟨c,hc,hcn,hmin⟩:∃c,(if 2*i+2<n∧fr xs (2*i+2)<fr xs (2*i+1)then 2*i+2 else 2*i+1)=c∧(c<n∧(c-1) / 2=i∧0<c)∧∀k,0<k→k<n→(k-1) / 2=i→fr xs c≤fr xs k:=by
    by_cases g:2*i+2<n∧fr xs (2*i+2)<fr xs (2*i+1)
    ·refine⟨_,zq1 g,⟨by omega,by omega,by omega⟩,fun k k0 kn kp=>?_⟩;rcases(show k=2*i+1∨k=2*i+2 by omega)with rfl|rfl
     ·omega
     ·exact Int.le_refl _
    ·refine⟨_,zq0 g,⟨by omega,by omega,by omega⟩,fun k k0 kn kp=>?_⟩;rcases(show k=2*i+1∨k=2*i+2 by omega)with rfl|rfl
     ·exact Int.le_refl _
     ·have:=fun h=>g ⟨kn,h⟩;omega
   rw[hc];obtain⟨hcn,hcp,hc0⟩:=hcn;have hcl:c<xs.length:=by omega
   by_cases c2:fr xs c<fr xs i
   ·rw[zq1 c2];have sf:=y0k hi hcl;have key:=z5c f (swF xs i c) c n (by omega) (by rw[z1I];exact hcl) (by rw[z1I];exact hn) ?_ ?_
    ·refine⟨key.1,key.2.1.trans (z6h hi hcl),fun m hm=>?_⟩;rw[key.2.2 m hm,z8F hi hcl,zq0 (by omega),zq0 (by omega)]
    ·intro k k0 kn kp;rw[sf,sf];by_cases e1:(k-1) / 2=i
     ·rw[zq0 (show ¬(k-1) / 2=c by omega),zq1 e1];have:=hmin k k0 kn e1;by_cases e2:k=c
      ·rw[zq1 e2];omega
      ·rw[zq0 e2,zq0 (show ¬k=i by omega)];exact this
     ·rw[zq0 kp,zq0 e1,zq0 (show ¬k=c by omega)];by_cases e3:k=i
      ·rw[zq1 e3];have:=h2 c hc0 hcn hcp (by omega);rw[e3];exact this
      ·rw[zq0 e3];exact h1 k k0 kn e1
    ·intro k k0 kn kp c0;rw[sf,sf,zq0 (show ¬(c-1) / 2=c by omega),zq1 hcp,zq0 (show ¬k=c by omega),zq0 (show ¬k=i by omega)];have:=h1 k k0 kn (by omega);rw[kp]at this;exact this
   ·rw[zq0 c2];refine⟨fun k k0 kn=>?_,List.Perm.refl _,fun _ _=>rfl⟩;by_cases e:(k-1) / 2=i
    ·have:=hmin k k0 kn e;rw[e];omega
    ·exact h1 k k0 kn e
  ·rw[zq0 c1];exact⟨fun k k0 kn=>h1 k k0 kn (by omega),List.Perm.refl _,fun _ _=>rfl⟩
theorem z9g{xs:List Edit}{n:Nat}(h:z8O xs n):∀k,k<n→fr xs 0≤fr xs k:=by
 intro k;induction k using Nat.strongRecOn with
 |ind k ih=>
  intro kn;by_cases k0:k=0
  ·subst k0;exact Int.le_refl _
  ·have h1:=ih ((k-1) / 2) (by omega) (by omega);have h2:=h k (by omega) kn;omega
theorem z7F{xs ys:List Edit}{k:Nat}(h:k<xs.length):fr (xs++ys) k=fr xs k:=by
 unfold fr;rw[List.getD_eq_getElem?_getD,List.getD_eq_getElem?_getD,List.getElem?_append_left h]
theorem z7G{xs:List Edit}{n k:Nat}(h:k<n):fr (xs.take n) k=fr xs k:=by
 unfold fr;rw[List.getD_eq_getElem?_getD,List.getD_eq_getElem?_getD,List.getElem?_take_of_lt h]
theorem z8h{xs:List Edit}(h:z8O xs xs.length)(e:Edit):z8O (z5A xs e) (z5A xs e).length∧(z5A xs e).Perm (xs++[e]):=by
 have hl:(xs++[e]).length=xs.length+1:=by simp
 have key:=z8M (xs.length+1) (xs++[e]) xs.length (by omega) (by omega) (fun k k0 kn kj=>by
  rw[z7F (by omega),z7F (by omega)];exact h k k0 (by omega)) (fun k k0 kn kp p0=>by omega)
 refine⟨?_,key.2⟩;rw[show(z5A xs e).length=(xs++[e]).length from key.2.length_eq];exact key.1
theorem z9u{xs:List Edit}(h:z8O xs xs.length)(h0:0<xs.length):
  z8O ((z0s xs).take (xs.length-1)) (xs.length-1)∧((z0s xs).take (xs.length-1)).length=xs.length-1∧((z0s xs).getD (xs.length-1) zE::(z0s xs).take (xs.length-1)).Perm xs∧∀x∈(z0s xs).take (xs.length-1),((z0s xs).getD (xs.length-1) zE).From≤x.From:=by
 have hn:xs.length-1<xs.length:=by omega
 have sf:=y0k h0 hn;have key:=z5c (xs.length+1) (swF xs 0 (xs.length-1)) 0 (xs.length-1) (by omega) (by rw[z1I];exact h0) (by rw[z1I];omega) (fun k k0 kn kp=>by
  rw[sf,sf,zq0 (show ¬(k-1) / 2=xs.length-1 by omega),zq0 kp,zq0 (show ¬k=xs.length-1 by omega),zq0 (show ¬k=0 by omega)];exact h k k0 (by omega)) (fun k k0 kn kp p0=>by omega)
 have hp:(z0s xs).Perm xs:=key.2.1.trans (z6h h0 hn);have hl:(z0s xs).length=xs.length:=hp.length_eq;have he:(z0s xs).getD (xs.length-1) zE=xs.getD 0 zE:=by
  have:=key.2.2 (xs.length-1) (Nat.le_refl _);rw[z8F h0 hn,zq1 rfl]at this;exact this
 have hz:z0s xs=(z0s xs).take (xs.length-1)++[(z0s xs).getD (xs.length-1) zE]:=by
  have hlt:xs.length-1<(z0s xs).length:=by omega
  have e1:(z0s xs).getD (xs.length-1) zE=(z0s xs)[xs.length-1]:=by rw[List.getD_eq_getElem?_getD,List.getElem?_eq_getElem hlt];rfl
  rw[e1,←List.take_succ_eq_append_getElem hlt,List.take_of_length_le (by omega)]
 have hperm:((z0s xs).getD (xs.length-1) zE::(z0s xs).take (xs.length-1)).Perm xs:=by
  refine List.Perm.trans ?_ hp;have:((z0s xs).take (xs.length-1)++[(z0s xs).getD (xs.length-1) zE]).Perm (z0s xs):=by rw[←hz]
  exact(List.perm_append_comm (l₁:=[(z0s xs).getD (xs.length-1) zE])).trans this
 refine⟨fun k k0 kn=>?_,by rw[List.length_take];omega,hperm,fun x hx=>?_⟩
 ·rw[z7G (by omega),z7G kn];exact key.1 k k0 kn
 ·rw[he];have hm:x∈xs:=hperm.mem_iff.1 (List.mem_cons_of_mem _ hx);obtain⟨k,hk⟩:=List.getElem?_of_mem hm;have hlt:=(List.getElem?_eq_some_iff.1 hk).1;have:=z9g h k hlt;unfold fr at this;rw[show xs.getD k ⟨0,0,[]⟩=x by rw[List.getD_eq_getElem?_getD,hk];rfl]at this;exact this
def z6b:Nat→List Edit→List Edit
 |0,_=>[]
 |f+1,h=>if h.length=0 then []else(z0s h).getD (h.length-1) zE::z6b f ((z0s h).take (h.length-1))
abbrev z8V(l:List Edit):Prop:=l.Pairwise fun a b=>a.From≤b.From
theorem z8f:∀(f:Nat) (h:List Edit),z8O h h.length→h.length<f→(z6b f h).Perm h∧z8V (z6b f h)
 |f+1,h,hh,hf=>by
  rw[z6b];by_cases h0:h.length=0
  ·rw[zq1 h0,List.eq_nil_of_length_eq_zero h0];exact⟨List.Perm.refl _,.nil⟩
  ·rw[zq0 h0];obtain⟨p1,p2,p3,p4⟩:=z9u hh (by omega);obtain⟨q1,q2⟩:=z8f f ((z0s h).take (h.length-1)) (by rw[p2];exact p1) (by omega);exact⟨(q1.cons _).trans p3,List.pairwise_cons.2 ⟨fun x hx=>p4 x (q1.mem_iff.1 hx),q2⟩⟩
def chk(out:List Edit):List Edit→Option (List Edit)
 |[]=>some out
 |e::r=>if 0<out.length∧e.From≤(out.getD (out.length-1) zE).To then none else chk (out++[e]) r
theorem z1w:∀(f:Nat) (h out:List Edit),z3d f h out=chk out (z6b f h)
 |0,h,out=>rfl
 |f+1,h,out=>by
  rw[z3d,z6b];by_cases h0:h.length=0
  ·rw[zq1 h0,zq1 h0];rfl
  ·rw[zq0 h0,zq0 h0,chk];split
   ·rfl
   ·exact z1w f _ _
def jY:List Edit→Prop
 |[]=>True
 |[_]=>True
 |a::b::r=>a.To<b.From∧jY (b::r)
theorem z9C:∀(l out:List Edit) (z:Edit),(jY (z::l)→chk (out++[z]) l=some (out++z::l))∧(¬jY (z::l)→chk (out++[z]) l=none)
 |[],out,z=>⟨fun _=>rfl,fun h=>absurd trivial h⟩
 |e::r,out,z=>by
  have hg:(out++[z]).getD ((out++[z]).length-1) zE=z:=by
   rw[List.getD_eq_getElem?_getD];simp
  have hl:0<(out++[z]).length:=by simp
  obtain⟨k1,k2⟩:=z9C r (out++[z]) e;constructor
  ·intro h;rw[chk,hg,zq0 (fun c=>by have:=h.1;omega),k1 h.2];simp
  ·intro h;rw[chk,hg];by_cases c:e.From≤z.To
   ·rw[zq1 ⟨hl,c⟩]
   ·rw[zq0 (fun d=>c d.2)];exact k2 fun g=>h ⟨by omega,g⟩
theorem z9P(l:List Edit):(jY l→chk [] l=some l)∧(¬jY l→chk [] l=none):=by
 cases l with
 |nil=>exact⟨fun _=>rfl,fun h=>absurd trivial h⟩
 |cons z r=>
  obtain⟨k1,k2⟩:=z9C r [] z;have e:chk [] (z::r)=chk ([]++[z]) r:=by rw[chk,zq0 (fun c=>absurd c.1 (by simp))]
  exact⟨fun h=>by rw[e,k1 h];rfl,fun h=>by rw[e,k2 h]⟩
theorem jH{n:Int}(h1:-9223372036854775808≤n)(h2:n≤9223372036854775807):IntKind.wrap .i64 n=n:=by rw[IntKind.wrap_i64];omega
theorem z9V{α:Type}(l:List α)(n:Nat):idx l (n:Int)=l[n]?:=by unfold idx;rw[zq1 (by omega)];rfl
theorem z9E{α:Type}{l:List α}{n:Nat}(h:n<l.length):idx l (n:Int)=some l[n]:=by rw[z9V];exact List.getElem?_eq_getElem h
theorem zM{α β:Type}(x:α)(k:α→Option β):(some x>>=k)=k x:=rfl
theorem z3k(n:Nat):((n:Int)+1)=((n+1:Nat):Int):=by omega
abbrev InR(n:Int)(e:Edit):Prop:=0≤e.From∧e.From≤e.To∧e.To≤n
theorem z3S(n:Int):∀(l h:List Edit),z8O h h.length→(∀e∈l,InR n e)→∃h',jO n l h=some h'∧z8O h' h'.length∧h'.Perm (h++l)
 |[],h,hh,_=>⟨h,rfl,hh,by rw[List.append_nil]⟩
 |e::r,h,hh,hl=>by
  obtain⟨a,b⟩:=z8h hh e;obtain⟨h',h1,h2,h3⟩:=z3S n r (z5A h e) a (fun x hx=>hl x (List.mem_cons_of_mem _ hx));have he:InR n e:=hl e List.mem_cons_self;refine⟨h',?_,h2,h3.trans ?_⟩
  ·rw[jO,zq0 (by omega)];exact h1
  ·have:=b.append_right r;rw[List.append_assoc]at this;exact this
theorem z3f(n:Int):∀(l h:List Edit),¬(∀e∈l,InR n e)→jO n l h=none
 |[],h,hl=>absurd (fun e he=>by cases he) hl
 |e::r,h,hl=>by
  rw[jO];by_cases c:e.From<0∨e.From>e.To∨e.To>n
  ·rw[zq1 c]
  ·rw[zq0 c];exact z3f n r _ fun g=>hl fun x hx=>by
    rcases List.mem_cons.1 hx with rfl|h1
    ·exact⟨by omega,by omega,by omega⟩
    ·exact g x h1
theorem z3G:∀(l:List Edit) (n:Int),(∀e∈l,InR n e)→jY l→l.Pairwise fun a b=>a.To<b.From
 |[],_,_,_=>.nil
 |[a],_,_,_=>.cons (fun _ h=>by cases h) .nil
 |a::b::r,n,hi,h=>by
  have ih:=z3G (b::r) n (fun e he=>hi e (List.mem_cons_of_mem _ he)) h.2;refine .cons (fun x hx=>?_) ih;rcases List.mem_cons.1 hx with rfl|h1
  ·exact h.1
  ·have h2:=(List.pairwise_cons.1 ih).1 x h1;have h3:=hi b (List.mem_cons_of_mem _ List.mem_cons_self);have:=h.1;omega
theorem z6F:∀(l m:List Edit),l.Perm m→(l.Pairwise fun a b=>a.From<b.From)→z8V m→l=m
 |[],m,h,_,_=>(List.nil_perm.1 h).symm
 |a::l,[],h,_,_=>absurd h.length_eq (by simp)
 |a::l,b::m,h,h1,h2=>by
  obtain⟨h3,h4⟩:=List.pairwise_cons.1 h1;obtain⟨h5,h6⟩:=List.pairwise_cons.1 h2;have e:a=b:=by
   rcases List.mem_cons.1 (h.mem_iff.1 (List.mem_cons_self (a:=a) (l:=l)))with e|e
   ·exact e
   rcases List.mem_cons.1 (h.mem_iff.2 (List.mem_cons_self (a:=b) (l:=m)))with f|f
   ·exact f.symm
   have:=h5 a e;have:=h3 b f;omega
  subst e;rw[z6F l m (List.perm_cons a |>.1 h) h4 h6]
theorem z4P{l m:List Edit}{n:Int}(hp:l.Perm m)(hi:∀e∈l,InR n e)(ha:jY l)(hr:z8V m):l=m:=by
 refine z6F l m hp ?_ hr;refine(z3G l n hi ha).imp_of_mem fun {a b} ha hb h=>?_;have:=hi a ha;omega
theorem z7k{t:Str}{l:List Edit}(hl:l.length≤1000000)(ht:t.length≤9223372036854775807)(h:¬∀e∈l,InR t.length e):yW t l=some ([],13):=by
 unfold yW;rw[zq1 ⟨hl,ht⟩,z3f _ _ _ h]
theorem z8x{t:Str}{l:List Edit}(hl:l.length≤1000000)(ht:t.length≤9223372036854775807)(h:∀e∈l,InR t.length e):
  ∃m:List Edit,m.Perm l∧z8V m∧(jY m→yW t l=some (m,0))∧(¬jY m→yW t l=some ([],15)):=by
 obtain⟨h',h1,h2,h3⟩:=z3S t.length l [] (fun k _ kn=>by cases kn) h;obtain⟨q1,q2⟩:=z8f (h'.length+1) h' h2 (by omega);obtain⟨k1,k2⟩:=z9P (z6b (h'.length+1) h');refine⟨_,q1.trans h3,q2,fun c=>?_,fun c=>?_⟩<;>unfold yW<;>rw[zq1 ⟨hl,ht⟩,h1]
 ·simp only[z1w,k1 c]
 ·simp only[z1w,k2 c]
def gL:List Edit→Int
 |[]=>0
 |x::r=>(x.To-x.From)+gL r
def z1B:List Edit→Int
 |[]=>0
 |x::r=>(x.Text.length:Int)+z1B r
def Ch(n:Int):Int→List Edit→Prop
 |a,[]=>a≤n
 |a,x::r=>a≤x.From∧x.From≤x.To∧Ch n x.To r
def z7n(t:Str):Int→List Edit→Str
 |a,[]=>t.drop (Int.toNat a)
 |a,x::r=>(t.take (Int.toNat x.From)).drop (Int.toNat a)++x.Text++z7n t x.To r
def z0Z:Int→List Edit→List Region
 |_,[]=>[]
 |m,x::r=>⟨x.From,x.To,x.From+m,x.To+(m+x.Text.length-(x.To-x.From))⟩::z0Z (m+x.Text.length-(x.To-x.From)) r
theorem z2i:∀l:List Edit,0≤z1B l
 |[]=>Int.le_refl _
 |x::r=>by have:=z2i r;rw[z1B];omega
theorem gA{n:Int}:∀(l:List Edit) (a:Int),Ch n a l→gL l≤n-a∧a≤n
 |[],a,h=>⟨by rw[gL];have:a≤n:=h;omega,h⟩
 |x::r,a,h=>by obtain⟨h1,h2,h3⟩:=h;have:=gA r x.To h3;rw[gL];omega
theorem z9O{n:Int}:∀(l:List Edit) (a:Int),a≤n→(∀e∈l,InR n e)→jY l→(∀e∈l.head?,a≤e.From)→Ch n a l
 |[],a,h,_,_,_=>h
 |[x],a,h,hi,ha,h0=>by have h1:=hi x List.mem_cons_self;exact⟨h0 x rfl,h1.2.1,h1.2.2⟩
 |x::y::r,a,h,hi,ha,h0=>by
  have h1:=hi x List.mem_cons_self;refine⟨h0 x rfl,h1.2.1,z9O (y::r) x.To h1.2.2 (fun e he=>hi e (List.mem_cons_of_mem _ he)) ha.2 fun e he=>?_⟩;have:y=e:=by simpa using he
  subst this;exact Int.le_of_lt ha.1
theorem z5D{n:Int}(hn:n≤9223372036854775807):∀(l:List Edit) (a s:Int),0≤a→Ch n a l→n-a≤s→s≤9223372036854775807→yV s l=s-gL l∧0≤s-gL l
 |[],a,s,ha,h,h1,h2=>by have:a≤n:=h;rw[yV,gL];omega
 |x::r,a,s,ha,h,h1,h2=>by
  obtain⟨h3,h4,h5⟩:=h;have h6:=gA r x.To h5;rw[yV,jH (n:=x.To-x.From) (by omega) (by omega),jH (n:=s-(x.To-x.From)) (by omega) (by omega),gL];have ih:=z5D hn r x.To (s-(x.To-x.From)) (by omega) h5 (by omega) (by omega);rw[ih.1];omega
theorem z7I:∀(l:List Edit) (s:Int),0≤s→s≤9223372036854775807→(∀x∈l,x.Text.length≤9223372036854775807) →
  (s+z1B l≤8192→vI s l=some (s+z1B l))∧(¬s+z1B l≤8192→vI s l=none∨∃m,8192<m∧vI s l=some m)
 |[],s,h0,h1,hw=>⟨fun h=>by rw[vI,z1B,Int.add_zero],fun h=>.inr ⟨s,by rw[z1B]at h;omega,rfl⟩⟩
 |x::r,s,h0,h1,hw=>by
  have hx:=hw x List.mem_cons_self;have ha:=z2i r;rw[vI,jH (n:=8192-s) (by omega) (by omega),z1B];by_cases c:(x.Text.length:Int)>8192-s
  ·rw[zq1 c];exact⟨fun h=>by omega,fun _=>.inl rfl⟩
  ·rw[zq0 c,jH (n:=s+x.Text.length) (by omega) (by omega)];obtain⟨k1,k2⟩:=z7I r (s+x.Text.length) (by omega) (by omega) (fun y hy=>hw y (List.mem_cons_of_mem _ hy));rw[Int.add_assoc]at k1 k2;exact⟨k1,k2⟩
theorem z4C(t:Str):∀(l:List Edit) (a:Int),0≤a→Ch t.length a l→((z7n t a l).length:Int)=t.length-a-gL l+z1B l
 |[],a,h0,h=>by have:a≤(t.length:Int):=h;rw[z7n,gL,z1B,List.length_drop];omega
 |x::r,a,h0,h=>by
  obtain⟨h1,h2,h3⟩:=h;have h4:=(gA r x.To h3).2;have ih:=z4C t r x.To (by omega) h3;rw[z7n,gL,z1B,List.length_append,List.length_append,List.length_drop,List.length_take];omega
theorem z6K(t:Str):∀(l:List Edit) (a:Int) (acc:Str) (rs:List Region),0≤a→Ch t.length a l→(acc.length:Int)+(t.length-a-gL l+z1B l)≤8192 →
  ∃P b,vY t l a acc rs=some (P,b,rs++z0Z (acc.length-a) l)∧0≤b∧b≤t.length∧P++t.drop (Int.toNat b)=acc++z7n t a l
 |[],a,acc,rs,h0,h,hs=>⟨acc,a,by rw[vY,z0Z,List.append_nil],h0,h,rfl⟩
 |x::r,a,acc,rs,h0,h,hs=>by
  obtain⟨h1,h2,h3⟩:=h;have h4:=gA r x.To h3;have h5:=z2i r;rw[gL,z1B]at hs;have e1:(((t.take (Int.toNat x.From)).drop (Int.toNat a)).length:Int)=x.From-a:=by rw[List.length_drop,List.length_take];omega
  have e2:((acc++(t.take (Int.toNat x.From)).drop (Int.toNat a)).length:Int)=acc.length+(x.From-a):=by rw[List.length_append];omega
  have e3:((acc++(t.take (Int.toNat x.From)).drop (Int.toNat a)++x.Text).length:Int)=acc.length+(x.From-a)+x.Text.length:=by rw[List.length_append];omega
  obtain⟨P,b,k1,k2,k3,k4⟩:=z6K t r x.To (acc++(t.take (Int.toNat x.From)).drop (Int.toNat a)++x.Text) (rs++[⟨x.From,x.To,(List.length (acc++(List.take (Int.toNat x.From) t).drop (Int.toNat a)):Int),(List.length (acc++(List.take (Int.toNat x.From) t).drop (Int.toNat a)++x.Text):Int)⟩]) (by omega) h3 (by rw[e3];omega);refine⟨P,b,?_,k2,k3,?_⟩
  ·rw[vY,zq1 ⟨h0,h1,by omega,by omega⟩,k1,z0Z,e2,e3,List.append_assoc];rw[show(acc.length:Int)+(x.From-a)+x.Text.length-x.To=acc.length-a+x.Text.length-(x.To-x.From)by omega,
    show(acc.length:Int)+(x.From-a)=x.From+(acc.length-a)by omega,show x.From+((acc.length:Int)-a)+x.Text.length=x.To+(acc.length-a+x.Text.length-(x.To-x.From))by omega]
   rfl
  ·rw[k4,z7n];simp only[List.append_assoc]
theorem z6a{t:Str}{l:List Edit}(hl:l.length≤1000000)(ht:t.length≤9223372036854775807)(h:¬∀e∈l,InR t.length e):zV t l=some ([],[],13):=by
 unfold zV;rw[z7k hl ht h,zM];rfl
theorem z7g{t:Str}{l m:List Edit}{a:Int}(hm:m.length≤1000000)(h:yW t l=some (m,0))(hn:t.length≤9223372036854775807)(hw:∀x∈m,x.Text.length≤9223372036854775807)(hc:Ch t.length 0 m):
  (¬(t.length:Int)-gL m+z1B m≤8192→zV t l=some ([],[],3))∧((t.length:Int)-gL m+z1B m≤8192→zV t l=some (z7n t 0 m,z0Z 0 m,0)):=by
 obtain⟨s1,s2⟩:=z5D (n:=t.length) (by omega) m 0 t.length (Int.le_refl _) hc (by omega) (by omega);have hd:=gA m 0 hc;have ha:=z2i m;obtain⟨g1,g2⟩:=z7I m (t.length-gL m) s2 (by
  rcases Classical.em (gL m<0)with c|c
  ·exfalso;have:∀(l:List Edit) (a:Int),Ch t.length a l→0≤gL l:=fun l=>by
    induction l with
    |nil=>intro a _;exact Int.le_refl _
    |cons x r ih=>intro a h;obtain⟨h1,h2,h3⟩:=h;have:=ih _ h3;rw[gL];omega
   have:=this m 0 hc;omega
  ·omega) hw
 unfold zV;rw[h,zM];dsimp only;rw[zq1 hm,zq1 rfl,s1];constructor
 ·intro c;rcases g2 c with g|⟨k,k1,k2⟩
  ·rw[g]
  ·rw[k2];dsimp only;rw[zq1 (by omega)]
 ·intro c;rw[g1 c];dsimp only;rw[zq0 (by omega)];obtain⟨P,b,k1,k2,k3,k4⟩:=z6K t m 0 [] [] (Int.le_refl _) hc (by rw[List.length_nil];omega);rw[k1,zM];dsimp only;have hl:=congrArg List.length k4;have ho:=z4C t m 0 (Int.le_refl _) hc;rw[List.length_append,List.length_append,List.length_drop]at hl;rw[zq1 ⟨k2,k3,by rw[List.length_nil]at hl;omega⟩,k4];rfl
theorem z3P{t:Str}{l:List Edit}(hl:l.length≤1000000)(ht:t.length≤9223372036854775807)(hw:∀x∈l,x.Text.length≤9223372036854775807)(h:∀e∈l,InR t.length e):
  ∃m:List Edit,m.Perm l∧z8V m∧(¬jY m→zV t l=some ([],[],15))∧(jY m→Ch t.length 0 m ∧
   (¬(t.length:Int)-gL m+z1B m≤8192→zV t l=some ([],[],3))∧((t.length:Int)-gL m+z1B m≤8192→zV t l=some (z7n t 0 m,z0Z 0 m,0))):=by
 obtain⟨m,h1,h2,h3,h4⟩:=z8x hl ht h;refine⟨m,h1,h2,fun c=>?_,fun c=>?_⟩
 ·unfold zV;rw[h4 c,zM];rfl
 ·have hc:Ch t.length 0 m:=z9O m 0 (by omega) (fun e he=>h e (h1.mem_iff.1 he)) c fun e he=>(h e (h1.mem_iff.1 (List.mem_of_mem_head? he))).1;exact⟨hc,z7g (a:=0) (by rw[h1.length_eq];exact hl) (h3 c) ht (fun x hx=>hw x (h1.mem_iff.1 hx)) hc⟩
theorem gU{α:Type}{l:List α}{k:Nat}{x:α}{r:List α}(h:l.drop k=x::r):idx l (k:Int)=some x∧l.drop (k+1)=r∧k<l.length:=by
 have hk:k<l.length:=by
  rcases Nat.lt_or_ge k l.length with c|c
  ·exact c
  ·rw[List.drop_eq_nil_of_le c]at h;cases h
 rw[List.drop_eq_getElem_cons hk]at h;injection h with h1 h2;exact⟨by rw[z9E hk,h1],h2,hk⟩
theorem z0L{α:Type}{l:List α}{k:Nat}(h:l.drop k=[]):l.length≤k:=by
 rcases Nat.lt_or_ge k l.length with c|c
 ·rw[List.drop_eq_getElem_cons c]at h;cases h
 ·exact c
theorem y0y(out:List Edit)(x:Edit):∀n,zH out x n≤n
 |0=>Nat.le_refl _
 |n+1=>by
  rw[zH];split
  ·exact Nat.le_succ_of_le (y0y out x n)
  ·exact Nat.le_refl _
theorem y0x(out:List Edit)(x:Edit):∀n k,zH out x n≤k→k<n→x.From<fr out k
 |0,k,h,hk=>by omega
 |n+1,k,h,hk=>by
  rw[zH]at h;split at h
  ·rename_i c
   by_cases e:k=n
   ·subst e;omega
   ·exact y0x out x n k h (by omega)
  ·omega
theorem y0z(out:List Edit)(x:Edit):∀n,0<zH out x n→fr out (zH out x n-1)≤x.From
 |0,h=>absurd h (Nat.lt_irrefl _)
 |n+1,h=>by
  rw[zH]at h ⊢;split
  ·rename_i c
   rw[zq1 c]at h;exact y0z out x n h
  ·rw[show n+1-1=n from rfl];omega
theorem z9D{l:List Edit}{k:Nat}(h:k<l.length):fr l k=l[k].From:=by
 unfold fr;rw[List.getD_eq_getElem?_getD,List.getElem?_eq_getElem h];rfl
theorem y0B:∀(l out:List Edit),z8V out→z8V (zT l out)∧(zT l out).Perm (out++l)
 |[],out,h=>⟨h,by rw[List.append_nil];exact List.Perm.refl _⟩
 |x::r,out,h=>by
  have hle:=y0y out x out.length;have h1:∀y∈out.take (zH out x out.length),y.From≤x.From:=fun y hy=>by
   obtain⟨k,hk,e⟩:=List.mem_iff_getElem.1 hy;rw[List.length_take]at hk;have hl:=y0z out x out.length (by omega);rw[z9D (by omega)]at hl;rw[←e,List.getElem_take];by_cases c:k=zH out x out.length-1
   ·subst c;exact hl
   ·have:=List.pairwise_iff_getElem.1 h k (zH out x out.length-1) (by omega) (by omega) (by omega);omega
  have h2:∀y∈out.drop (zH out x out.length),x.From≤y.From:=fun y hy=>by
   obtain⟨k,hk,e⟩:=List.mem_iff_getElem.1 hy;rw[List.length_drop]at hk;rw[←e,List.getElem_drop];have:=y0x out x out.length (zH out x out.length+k) (by omega) (by omega);rw[z9D (by omega)]at this;omega
  have hs:(out.take (zH out x out.length)++out.drop (zH out x out.length))=out:=List.take_append_drop _ _;have h3:z8V (out.take (zH out x out.length)++[x]++out.drop (zH out x out.length)):=by
   have h':=h;rw[←hs]at h';obtain⟨a,b,c⟩:=List.pairwise_append.1 h';rw[List.append_assoc];refine List.pairwise_append.2 ⟨a,.cons h2 b,fun y hy z hz=>?_⟩;rcases List.mem_cons.1 hz with rfl|hz
   ·exact h1 y hy
   ·exact c y hy z hz
  obtain⟨i1,i2⟩:=y0B r _ h3;refine⟨i1,i2.trans ?_⟩;have:(out.take (zH out x out.length)++[x]++out.drop (zH out x out.length)).Perm (out++[x]):=by
   conv=>rhs;rw[←hs]
   rw[List.append_assoc,List.append_assoc];exact List.Perm.append_left _ List.perm_append_comm
  have:=this.append_right r;rw[List.append_assoc out [x] r]at this;exact this
theorem z9A(l:List Edit)(hl:l.length≤1000000)(hw:∀x∈l,x.Text.length≤1048576):∀(r:List Edit) (k:Nat) (s:Int),l.drop k=r→-4611686018427387904≤s→s≤4611686018427387904 →
  zI l s k=some (if 8192<s+z1B r then 3 else 0)
 |[],k,s,h,h1,h2=>by
  have:=z0L h;rw[jT];unfold yI;rw[zq0 (by omega),z1B,Int.add_zero];split<;>rename_i c
  ·rfl
  ·rfl
 |x::r,k,s,h,h1,h2=>by
  obtain⟨d1,d2,d3⟩:=gU h;have hx:x.Text.length≤1048576:=hw x (List.mem_of_mem_drop (h▸List.mem_cons_self:x∈l.drop k));have ha:=z2i r;rw[jT];unfold yI;rw[zq1 (by omega),d1,zM,jH (n:=s+x.Text.length) (by omega) (by omega),z1B];by_cases c:s+(x.Text.length:Int)>8192
  ·rw[zq1 c,zq1 (by omega)]
  ·rw[zq0 c,jH (n:=(k:Int)+1) (by omega) (by omega),z3k,z9A l hl hw r (k+1) (s+x.Text.length) d2 (by omega) (by omega),Int.add_assoc]
def z0h:List Edit→Int
 |[]=>0
 |x::r=>1048576+z0h r
theorem gE:∀l:List Edit,z0h l=1048576*(l.length:Int)
 |[]=>rfl
 |x::r=>by rw[z0h,gE r,List.length_cons];omega
theorem y0v(l:List Edit){n:Int}(hn:n≤1048576)(hl:l.length≤1000000)(hi:∀e∈l,InR n e):∀(r:List Edit) (k:Nat) (z:Edit) (s:Int),l.drop k=z::r→-4611686018427387904+z0h r≤s→s≤4611686018427387904 →
  (jY (z::r)→zG l s (k+1:Nat)=zI l (s-gL r) 0)∧(¬jY (z::r)→zG l s (k+1:Nat)=some 15)
 |[],k,z,s,h,h1,h2=>by
  obtain⟨d1,d2,d3⟩:=gU h;have:=z0L d2;refine⟨fun _=>?_,fun c=>absurd trivial c⟩;rw[vO];unfold zX;rw[zq0 (by omega),gL,Int.sub_zero]
 |x::r,k,z,s,h,h1,h2=>by
  obtain⟨d1,d2,d3⟩:=gU h;obtain⟨f1,f2,f3⟩:=gU d2;have hx:InR n x:=hi x (List.mem_of_mem_drop (d2▸List.mem_cons_self:x∈l.drop (k+1)));rw[z0h]at h1;have e0:0≤z0h r:=by rw[gE];omega
  have e1:IntKind.wrap .i64 (((k+1:Nat):Int)-1)=(k:Int):=by rw[jH (by omega) (by omega)];omega
  by_cases c:x.From≤z.To
  ·refine⟨fun g=>absurd g.1 (by omega),fun _=>?_⟩;rw[vO];unfold zX;rw[zq1 (by omega),zq1 (by omega),f1,zM,e1,d1,zM,zq1 c]
  ·have e2:IntKind.wrap .i64 (x.To-x.From)=x.To-x.From:=jH (by omega) (by omega);have e3:IntKind.wrap .i64 (s-(x.To-x.From))=s-(x.To-x.From):=jH (by omega) (by omega);have e4:IntKind.wrap .i64 (((k+1:Nat):Int)+1)=((k+1+1:Nat):Int):=by rw[jH (by omega) (by omega)];omega
   have key:zG l s (k+1:Nat)=zG l (s-(x.To-x.From)) (k+1+1:Nat):=by
    rw[vO];unfold zX;rw[zq1 (by omega),zq1 (by omega),f1,zM,e1,d1,zM,zq0 c,zM,zM,e2,e3,e4]
   obtain⟨k1,k2⟩:=y0v l hn hl hi r (k+1) x (s-(x.To-x.From)) d2 (by omega) (by omega);refine⟨fun g=>?_,fun g=>?_⟩
   ·rw[key,k1 g.2,gL,Int.sub_sub]
   ·rw[key];exact k2 fun g'=>g ⟨by omega,g'⟩
theorem z9K(l:List Edit){n:Int}(hn:n≤1048576)(hl:l.length≤1000000)(hi:∀e∈l,InR n e)(s:Int)(h1:-4611686018427387904+z0h l≤s)(h2:s≤4611686018427387904):
  (jY l→zG l s 0=zI l (s-gL l) 0)∧(¬jY l→zG l s 0=some 15):=by
 cases hz:l with
 |nil=>
  subst hz;refine⟨fun _=>?_,fun c=>absurd trivial c⟩;rw[vO];unfold zX;rw[zq0 (by simp),gL,Int.sub_zero]
 |cons x r=>
  rw[←hz];have hd:l.drop 0=x::r:=hz;obtain⟨d1,d2,d3⟩:=gU hd;have hx:InR n x:=hi x (by rw[hz];exact List.mem_cons_self);have hlen:z0h l=1048576+z0h r:=by rw[hz];rfl
  have e0:0≤z0h r:=by rw[gE];omega
  have e2:IntKind.wrap .i64 (x.To-x.From)=x.To-x.From:=jH (by omega) (by omega);have e3:IntKind.wrap .i64 (s-(x.To-x.From))=s-(x.To-x.From):=jH (by omega) (by omega);have e4:IntKind.wrap .i64 ((0:Int)+1)=((0+1:Nat):Int):=by rw[jH (by omega) (by omega)];omega
  have d1':idx l (0:Int)=some x:=d1;have key:zG l s 0=zG l (s-(x.To-x.From)) (0+1:Nat):=by
   rw[vO];unfold zX;rw[zq1 (by omega),zq0 (by omega),d1',zM,zM,e2,e3,e4]
  obtain⟨k1,k2⟩:=y0v l hn hl hi r 0 x (s-(x.To-x.From)) hd (by omega) (by omega);have hdl:gL l=(x.To-x.From)+gL r:=by rw[hz,gL]
  refine⟨fun g=>?_,fun g=>?_⟩
  ·rw[key,k1 (hz▸g),hdl,Int.sub_sub]
  ·rw[key];exact k2 (hz▸g)
theorem y0s(t:Str)(l:List Edit)(hl:l.length≤1000000):∀(r:List Edit) (k:Nat),l.drop k=r →
  ((∀e∈r,InR t.length e)→zK t l k=(vB l>>=fun q1=>zG q1 (List.length t:Int) 0))∧(¬(∀e∈r,InR t.length e)→zK t l k=some 13)
 |[],k,h=>by
  have:=z0L h;refine⟨fun _=>?_,fun c=>absurd (fun e he=>by cases he) c⟩;rw[uR];unfold yG;rw[zq0 (by omega)]
 |x::r,k,h=>by
  obtain⟨d1,d2,d3⟩:=gU h;obtain⟨i1,i2⟩:=y0s t l hl r (k+1) d2;by_cases c:InR t.length x
  ·have key:zK t l k=zK t l (k+1:Nat):=by
    rw[uR];unfold yG;rw[zq1 (by omega),d1,zM,zq0 (by omega),zM,zM,zq0 (by omega),zM,zq0 (by omega),jH (n:=(k:Int)+1) (by omega) (by omega),z3k]
   rw[key];refine⟨fun g=>i1 fun e he=>g e (List.mem_cons_of_mem _ he),fun g=>i2 fun g'=>g fun e he=>?_⟩;rcases List.mem_cons.1 he with rfl|he
   ·exact c
   ·exact g' e he
  ·refine⟨fun g=>absurd (g x List.mem_cons_self) c,fun _=>?_⟩;rw[uR];unfold yG;rw[zq1 (by omega),d1,zM];by_cases c1:x.From<0
   ·rw[zq1 c1]
   rw[zq0 c1,zM,zM];by_cases c2:x.From>x.To
   ·rw[zq1 c2]
   rw[zq0 c2,zM];rw[zq1 (show x.To>(List.length t:Int)from by
    rcases Classical.em (x.To>(List.length t:Int))with c3|c3
    ·exact c3
    ·exact absurd ⟨by omega,by omega,by omega⟩ c)]
theorem z9a{t:Str}{l:List Edit}(hl:l.length≤60)(ht:t.length≤1048576)(hw:∀x∈l,x.Text.length≤1048576):
  (¬(∀e∈l,InR t.length e)→wJ t l=some 13)∧((∀e∈l,InR t.length e)→∃m,vB l=some m∧m.Perm l∧z8V m∧(¬jY m→wJ t l=some 15) ∧
   (jY m→wJ t l=some (if 8192<(t.length:Int)-gL m+z1B m then 3 else 0))):=by
 obtain⟨k1,k2⟩:=y0s t l (by omega) l 0 rfl;refine⟨fun c=>k2 c,fun c=>?_⟩;obtain⟨g1,g2⟩:=y0B l [] .nil;rw[List.nil_append]at g2;have hs:vB l=some (zT l []):=by unfold vB;rw[zq1 (by omega)]
 have hlen:=g2.length_eq;have hro:=gE (zT l []);obtain⟨f1,f2⟩:=z9K (zT l []) (n:=t.length) (by omega) (by omega) (fun e he=>c e (g2.mem_iff.1 he)) t.length (by omega) (by omega);have e0:wJ t l=zG (zT l []) t.length 0:=by
  have:=k1 c;rw[hs,zM]at this;exact this
 refine⟨_,hs,g2,g1,fun a=>by rw[e0];exact f2 a,fun a=>?_⟩;have hch:=z9O (n:=t.length) (zT l []) 0 (by omega) (fun e he=>c e (g2.mem_iff.1 he)) a fun e he=>(c e (g2.mem_iff.1 (List.mem_of_mem_head? he))).1;have hd:=gA _ _ hch;have hd2:-4611686018427387904≤(t.length:Int)-gL (zT l []):=by omega
 have hd3:(t.length:Int)-gL (zT l [])≤4611686018427387904:=by
  have:∀(l:List Edit) (a:Int),Ch t.length a l→0≤gL l:=fun l=>by
   induction l with
   |nil=>intro a _;exact Int.le_refl _
   |cons x r ih=>intro a h;obtain⟨h1,h2,h3⟩:=h;have:=ih _ h3;rw[gL];omega
  have:=this _ _ hch;omega
 rw[e0,f1 a];exact z9A (zT l []) (by omega) (fun x hx=>hw x (g2.mem_iff.1 hx)) _ 0 _ rfl hd2 hd3
theorem z4c:wG=some true:=by
 have hi:∀e∈[(Edit.mk 1 1 ([120]:List UInt8))],InR (([97,98]:List UInt8).length:Int) e:=fun e he=>by
  rcases List.mem_cons.1 he with rfl|h
  ·exact⟨by decide,by decide,by decide⟩
  ·cases h
 obtain⟨m,h1,h2,h3,h4⟩:=z3P (t:=[97,98]) (l:=[(Edit.mk 1 1 ([120]:List UInt8))]) (by decide) (by decide) (fun x hx=>by
  rcases List.mem_cons.1 hx with rfl|h
  ·show(1:Nat)≤_;omega
  ·cases h) hi
 have hm:m=[(Edit.mk 1 1 ([120]:List UInt8))]:=List.perm_singleton.1 h1;subst hm;have h5:=(h4 trivial).2.2 (by decide);unfold wG vX;rw[h5,zM,zM];rfl
theorem z9o{l:List Edit}(h:l.length≤60):uI l=some false:=by
 unfold uI;rw[decide_eq_false (by omega)]
theorem z7W{l:List Edit}(h:¬l.length≤60):uI l=some true:=by
 unfold uI;rw[decide_eq_true (by omega)]
theorem y0f{n:Nat}(h:n≤2000000000):z4E 32 n:=⟨by omega,by omega⟩
def z5t(t:Str):List Edit→Str
 |[]=>t
 |x::r=>(z5t t r).take (Int.toNat x.From)++x.Text++(z5t t r).drop (Int.toNat x.To)
theorem z4z(t:Str):∀(l:List Edit) (a:Int),0≤a→Ch t.length a l→z5t t l=t.take (Int.toNat a)++z7n t a l
 |[],a,h0,h=>by rw[z5t,z7n,List.take_append_drop]
 |x::r,a,h0,h=>by
  obtain⟨h1,h2,h3⟩:=h;have h4:=(gA r x.To h3).2;have ih:=z4z t r x.To (by omega) h3;have hl:(t.take (Int.toNat x.To)).length=Int.toNat x.To:=by rw[List.length_take];omega
  rw[z5t,z7n,ih];rw[List.take_append_of_le_length (by omega),List.take_take,show min (Int.toNat x.From) (Int.toNat x.To)=Int.toNat x.From by omega];rw[List.drop_left' hl];rw[←List.append_assoc,←List.append_assoc];congr 2
  conv=>lhs;rw[←List.take_append_drop (Int.toNat a) (t.take (Int.toNat x.From))]
  rw[List.take_take,show min (Int.toNat a) (Int.toNat x.From)=Int.toNat a by omega]
theorem z6l:∀l:List Edit,(∀x∈l,x.Text.length≤1048576)→z1B l≤z0h l
 |[],_=>Int.le_refl _
 |x::r,h=>by
  have h1:=h x List.mem_cons_self;have h2:=z6l r fun y hy=>h y (List.mem_cons_of_mem _ hy);rw[z1B,z0h];omega
theorem z7z{n:Int}:∀(l:List Edit) (a:Int),Ch n a l→0≤gL l
 |[],a,h=>Int.le_refl _
 |x::r,a,h=>by obtain⟨h1,h2,h3⟩:=h;have:=z7z r _ h3;rw[gL];omega
theorem z7y{n:Int}:∀(l:List Edit) (a:Int),0≤a→Ch n a l→∀k,∃b,0≤b∧Ch n b (l.drop k)
 |l,a,h0,h,0=>⟨a,h0,h⟩
 |[],a,h0,h,k+1=>⟨a,h0,h⟩
 |x::r,a,h0,h,k+1=>by obtain⟨h1,h2,h3⟩:=h;exact z7y r x.To (by omega) h3 k
theorem y0t(t:Str)(ht:t.length≤1048576)(l:List Edit)(hl:l.length≤1000000)(hw:∀x∈l,x.Text.length≤1048576)(hc:Ch t.length 0 l):∀(k:Nat),k≤l.length→zL (z5t t (l.drop k)) l ((k:Int)-1)=some (z5t t l)
 |0,h=>by
  rw[gK];unfold yL;rw[zq0 (by omega),List.drop_zero]
 |k+1,h=>by
  obtain⟨b,b0,hb⟩:=z7y l 0 (Int.le_refl _) hc k;have hk:k<l.length:=by omega
  rw[List.drop_eq_getElem_cons hk]at hb;have ih:=y0t t ht l hl hw hc k (by omega);rw[List.drop_eq_getElem_cons hk,z5t]at ih;generalize hx:l[k]=x at hb ih;have hi:idx l (k:Int)=some x:=by rw[z9E hk,hx]
  generalize hr:l.drop (k+1)=r at hb ih;obtain⟨h1,h2,h3⟩:=hb;have h4:=gA r _ h3;have hxw:x.Text.length≤1048576:=hx▸hw _ (List.getElem_mem hk);have had:z1B r≤z0h r:=z6l r fun y hy=>hw y (List.mem_of_mem_drop (hr▸hy));rw[gE]at had;have hrl:r.length≤l.length:=by rw[←hr,List.length_drop];omega
  have h5:=z7z r _ h3;have hlen:=congrArg List.length (z4z t r x.To (by omega) h3);have ho:=z4C t r x.To (by omega) h3;rw[List.length_append,List.length_take]at hlen;have e1:IntKind.wrap .i64 ((k:Int)-1)=(k:Int)-1:=jH (by omega) (by omega);have e2:(((k+1:Nat):Int)-1)=(k:Int):=by omega
  rw[gK];unfold yL;rw[e2,zq1 (by omega),hi,zM,zq1 (by omega),zq1 (by omega),zq1 (by omega),zM];rw[zq1 (by rw[List.length_drop,List.length_take];omega),zM,zq1 (Nat.le_refl _),zq1 (by omega),zq1 (by omega)];rw[zq1 (by rw[List.length_append,List.length_drop,List.length_drop,List.length_take,List.length_take];omega),e1,List.drop_zero,List.take_length];exact ih
theorem z8W(t:Str)(ht:t.length≤1048576)(l m:List Edit)(hs:vB l=some m)(hl:m.length≤1000000)(hw:∀x∈m,x.Text.length≤1048576)(hc:Ch t.length 0 m):uW t l=some (z7n t 0 m):=by
 unfold uW;rw[hs,zM,jH (by omega) (by omega)];have:=y0t t ht m hl hw hc m.length (Nat.le_refl _);rw[List.drop_of_length_le (Nat.le_refl _),z4z t m 0 (Int.le_refl _) hc]at this;exact this
theorem y0u{n:Int}(hn:n≤1048576)(l:List Edit)(hl:l.length≤1000000)(hw:∀x∈l,x.Text.length≤1048576):∀(r:List Edit) (k:Nat) (a m:Int) (out:List Region),l.drop k=r→0≤a→Ch n a r→out.length=k→-4611686018427387904+z0h r≤m→m+z0h r≤4611686018427387904 →
  zJ l out m k=some (out++z0Z m r)
 |[],k,a,m,out,h,h0,hc,ho,h1,h2=>by
  have:=z0L h;rw[jL];unfold yD;rw[zq0 (by omega),z0Z,List.append_nil]
 |x::r,k,a,m,out,h,h0,hc,ho,h1,h2=>by
  obtain⟨d1,d2,d3⟩:=gU h;obtain⟨c1,c2,c3⟩:=hc;have c4:=(gA r _ c3).2;have hx:x.Text.length≤1048576:=hw x (List.mem_of_mem_drop (h▸List.mem_cons_self:x∈l.drop k));rw[z0h]at h1 h2;have h3:0≤z0h r:=by rw[gE];omega
  have e1:IntKind.wrap .i64 (x.To-x.From)=x.To-x.From:=jH (by omega) (by omega);have e2:IntKind.wrap .i64 ((x.Text.length:Int)-(x.To-x.From))=(x.Text.length:Int)-(x.To-x.From):=jH (by omega) (by omega);have e3:IntKind.wrap .i64 (m+((x.Text.length:Int)-(x.To-x.From)))=m+x.Text.length-(x.To-x.From):=by rw[jH (by omega) (by omega)];omega
  have e4:IntKind.wrap .i64 (x.From+m)=x.From+m:=jH (by omega) (by omega);have e5:IntKind.wrap .i64 (x.To+(m+x.Text.length-(x.To-x.From)))=x.To+(m+x.Text.length-(x.To-x.From)):=jH (by omega) (by omega);have e6:IntKind.wrap .i64 ((k:Int)+1)=((k+1:Nat):Int):=by rw[jH (by omega) (by omega)];omega
  rw[jL];unfold yD;simp only[d1,zM,e1,e2,e3,e4,e5,e6];rw[zq1 (by omega),zq1 (y0f (by simp;omega)),y0u hn l hl hw r (k+1) x.To _ _ d2 (by omega) c3 (by simp[ho]) (by omega) (by omega),z0Z,List.append_assoc];rfl
theorem z8r(a:List Region)(ha:a.length≤1000000):∀(r:List Region) (k:Nat),a.drop k=r→zP a a k=some true
 |[],k,h=>by
  have:=z0L h;rw[z0g];unfold yP;rw[zq0 (by omega)]
 |x::r,k,h=>by
  obtain⟨d1,d2,d3⟩:=gU h;rw[z0g];unfold yP;rw[zq1 (by omega),d1,zM,zM,zq1 ⟨rfl,rfl,rfl,rfl,trivial⟩,jH (n:=(k:Int)+1) (by omega) (by omega),z3k];exact z8r a ha r (k+1) d2
theorem z5B:∀(l:List Edit) (m:Int),(z0Z m l).length=l.length
 |[],_=>rfl
 |x::r,m=>by rw[z0Z,List.length_cons,List.length_cons,z5B r]
theorem z9y{t:Str}{l:List Edit}(h:vL [D.str t,(eS Edit.toD) l]≤1048576):t.length≤1048576∧∀x∈l,x.Text.length≤1048576:=by
 simp only[vL,D.bulk]at h;refine⟨by omega,fun x hx=>?_⟩;have h1:=z6o (List.mem_map_of_mem (f:=Edit.toD) hx);rw[Edit.toD_eq]at h1;simp only[vL,D.bulk]at h1;omega
theorem z3c(x0:Str)(x1:List Edit)(w0:x0.length≤9223372036854775807)(w1:x1.length≤9223372036854775807∧∀x∈x1,Edit.Wf x)(hb:vL [D.str x0,(eS Edit.toD) x1]≤1048576):wF x0 x1=some true:=by
 obtain⟨ht,hw⟩:=z9y hb;unfold wF;by_cases hl:x1.length≤60
 case neg=>
  rw[z7W hl,zM,zq1 rfl,z4c,zM]
 rw[z9o hl,zM,zq0 (by decide)];have hl':x1.length≤1000000:=by omega
 have ap:∀p,zV x0 x1=some p→vX x0 x1=some (p.1,p.2.2)∧wI x0 x1=some (p.2.1,p.2.2):=fun p h=>by
  unfold vX wI;rw[h];exact⟨rfl,rfl⟩
 obtain⟨q1,q2⟩:=z9a hl ht hw
 have bad:∀e,e≠0→zV x0 x1=some ([],[],e)→wJ x0 x1=some e→(vX x0 x1>>=fun q3=>wI x0 x1>>=fun q4=>wJ x0 x1>>=fun q5=>if q3.2=q5 then(if q4.2=q5 then(if q5=0 then(uW x0 x1>>=fun q7=>if q3.1=q7 then(wU x1>>=fun q8=>jU q4.1 q8>>=fun q9=>if q9=true then(wG>>=fun q10=>some q10)else some false)else some false)else(if q3.1=([]:List UInt8)then(if(List.length q4.1:Int)=0 then(wG>>=fun q6=>some q6)else some false)else some false))else some false)else some false)=some true:=fun e he h1 h2=>by
  rw[(ap _ h1).1,(ap _ h1).2,h2];simp[z4c,he]
 by_cases hi:∀e∈x1,InR x0.length e
 case neg=>
  exact bad 13 (by decide) (z6a hl' (by omega) hi) (q1 hi)
 obtain⟨m,s1,s2,s3,s4,s5⟩:=q2 hi;obtain⟨m',p1,p2,p3,p4⟩:=z3P (t:=x0) hl' (by omega) (fun x hx=>by have:=hw x hx;omega) hi;by_cases ha:jY m
 case neg=>
  refine bad 15 (by decide) (p3 fun c=>ha ?_) (s4 ha);have:=z4P (n:=x0.length) (p1.trans s2.symm) (fun e he=>hi e (p1.mem_iff.1 he)) c s3;rw[←this];exact c
 have hm:m=m':=z4P (n:=x0.length) (s2.trans p1.symm) (fun e he=>hi e (s2.mem_iff.1 he)) ha p2;subst hm;obtain⟨p5,p6,p7⟩:=p4 ha;by_cases hs:(x0.length:Int)-gL m+z1B m≤8192
 case neg=>
  exact bad 3 (by decide) (p6 hs) (by rw[s5 ha,zq1 (by omega)])
 have hml:m.length≤60:=by rw[s2.length_eq];exact hl
 have hwm:∀x∈m,x.Text.length≤1048576:=fun x hx=>hw x (s2.mem_iff.1 hx);have hro:=gE m;have hreg:wU x1=some (z0Z 0 m):=by
  unfold wU;rw[s1,zM];exact y0u (n:=x0.length) (by omega) m (by omega) hwm m 0 0 0 [] rfl (Int.le_refl _) p5 rfl (by omega) (by omega)
 have hsame:jU (z0Z 0 m) (z0Z 0 m)=some true:=by
  unfold jU;rw[zq1 rfl];exact z8r _ (by rw[z5B];omega) _ 0 rfl
 rw[(ap _ (p7 hs)).1,(ap _ (p7 hs)).2,s5 ha,zq0 (by omega)];simp[z4c,z8W x0 ht x1 m s1 (by omega) hwm p5,hreg,hsame]
end Go.Proofs.Ytjlohgfmobpfmaa.M

