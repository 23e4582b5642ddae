import Derived.Test.YtcpblelppecabaaMod
import Derived.Test.YtcpblelppecabaaWf
namespace Go.Proofs.Ytcpblelppecabaa.M
open Go Nt
set_option linter.unusedVariables false
set_option linter.unusedSimpArgs false
set_option linter.unusedSectionVars false
theorem z2v{n:Int}(h1:-9223372036854775808≤n)(h2:n≤9223372036854775807):IntKind.wrap .i64 n=n:=by rw[IntKind.wrap_i64];omega
theorem i64_iff{n:Int}:InK .i64 n↔-9223372036854775808≤n∧n≤9223372036854775807:=by
 have h1:IntKind.i64.min=-9223372036854775808:=by decide
 have h2:IntKind.i64.max=9223372036854775807:=by decide
 unfold InK;rw[h1,h2]
theorem y1C{α:Type}(l:List α)(n:Nat):idx l (n:Int)=l[n]?:=by unfold idx;rw[zq1 (by omega)];rfl
theorem wU{α:Type}{l:List α}{n:Nat}(h:n<l.length):idx l (n:Int)=some l[n]:=by rw[y1C];exact List.getElem?_eq_getElem h
theorem zB{α β:Type}(x:α)(k:α→Option β):(some x>>=k)=k x:=rfl
theorem z2O(n:Nat):((n:Int)+1)=((n+1:Nat):Int):=by omega
def b01(b:Bool):Int:=if b=true then 1 else 0
def v2a(k a b:Int):Bool:=if k=3 then a == b else if k=4 then !(a == b)else if k=5 then decide (a<b)else if k=6 then decide (a≤b)else if k=7 then decide (a>b)else decide (a≥b)
def v3r(k a:Int):Int:=if k=1 then IntKind.wrap .i64 (0-a)else if k=2 then b01 (a == 0)else 0
def y4N(k a b:Int):Int×Int:=
 if k=1 then(b01 (!(a == 0) || !(b == 0)),0)else if k=2 then(b01 (!(a == 0) && !(b == 0)),0)
 else if 3≤k∧k≤8 then(b01 (v2a k a b),0)
 else if k=9 then(IntKind.wrap .i64 (a+b),0)else if k=10 then(IntKind.wrap .i64 (a-b),0)else if k=11 then(IntKind.wrap .i64 (a*b),0)
 else if k=12 then(if b=0 then(0,1)else(IntKind.wrap .i64 (a.tdiv b),0))else if k=13 then(if b=0 then(0,1)else(a.tmod b,0))else(0,0)
theorem z7m(b:Bool):z0f b=some (b01 b):=by cases b<;>rfl
theorem z7d(b:Bool):gA b=some (b01 b):=by cases b<;>rfl
theorem z5j(n:Int):IntKind.wrap .i64 n=(n+9223372036854775808) % 18446744073709551616-9223372036854775808:=by rw[IntKind.wrap_i64]
theorem v2F(n:Int):IntKind.wrap .i64 (IntKind.wrap .u64 n)=IntKind.wrap .i64 n:=by rw[IntKind.wrap_u64,z5j,z5j];omega
theorem y6Y(n:Int):IntKind.wrap .i64 (IntKind.wrap .u64 (0-n))=IntKind.wrap .i64 (-n):=by rw[v2F];congr 1;omega
theorem y7t(k a:Int):z4h k a=some (v3r k a,0):=by
 unfold z4h v3r;by_cases h1:k=1
 ·rw[zq1 h1,zq1 h1]
 rw[zq0 h1,zq0 h1];by_cases h2:k=2
 ·rw[zq1 h2,zq1 h2,z7m];rfl
 rw[zq0 h2,zq0 h2]
theorem v0i(k a:Int):z7g k a=some (v3r k a):=by
 unfold z7g v3r;by_cases h1:k=1
 ·rw[zq1 h1,zq1 h1,v2F,IntKind.wrap_u64,z5j,z5j];congr 1;omega
 rw[zq0 h1,zq0 h1];by_cases h2:k=2
 ·rw[zq1 h2,zq1 h2,z7d];rfl
 rw[zq0 h2,zq0 h2]
theorem v1l(k a b:Int)(h1:9≤k)(h2:k≤13):z2J k a b=some (y4N k a b):=by
 unfold z2J y4N;rw[zq0 (show ¬k=1 by omega),zq0 (show ¬k=2 by omega),zq0 (show ¬(3≤k∧k≤8)by omega)];by_cases h9:k=9
 ·rw[zq1 h9,zq1 h9]
 rw[zq0 h9,zq0 h9];by_cases h10:k=10
 ·rw[zq1 h10,zq1 h10]
 rw[zq0 h10,zq0 h10];by_cases h11:k=11
 ·rw[zq1 h11,zq1 h11]
 rw[zq0 h11,zq0 h11];rcases(show k=12∨k=13 by omega)with rfl|rfl
 ·by_cases hb:b=0<;>simp[hb]
 ·by_cases hb:b=0<;>simp[hb]
theorem v1Z(k:Int):z3x k=some (if k=1∨k=2 then 0 else if 3≤k∧k≤8 then 1 else if 9≤k∧k≤13 then 2 else 3):=by
 unfold z3x
 repeat' split
 all_goals first|rfl|omega
theorem y7u(k a b:Int):z6m k a b=some (y4N k a b):=by
 unfold z6m;rw[v1Z,zB];by_cases h12:k=1∨k=2
 ·rw[zq1 h12,zq1 rfl];unfold y4N;by_cases h1:k=1
  ·rw[zq1 h1,zq1 h1];by_cases ha:a=0
   ·rw[zq1 ha,z7m,ha];rfl
   ·rw[zq0 ha,z7m,show(a == 0)=false by simpa using ha];rfl
  ·rw[zq0 h1,zq0 h1,zq1 (show k=2 by omega)];by_cases ha:a=0
   ·rw[zq1 ha,z7m,ha];rfl
   ·rw[zq0 ha,z7m,show(a == 0)=false by simpa using ha];rfl
 rw[zq0 h12];by_cases h3:3≤k∧k≤8
 ·rw[zq1 h3,zq0 (by omega),zq1 rfl];have:z1T k a b=some (v2a k a b):=by
   unfold z1T v2a
   repeat' split
   all_goals first|rfl|omega
  rw[this,zB,z7m];unfold y4N;rw[zq0 (show ¬k=1 by omega),zq0 (show ¬k=2 by omega),zq1 h3];rfl
 rw[zq0 h3];by_cases h9:9≤k∧k≤13
 ·rw[zq1 h9,zq0 (by omega),zq0 (by omega),zq1 rfl,v1l k a b h9.1 h9.2];rfl
 ·rw[zq0 h9,zq0 (by omega),zq0 (by omega),zq0 (by omega)];unfold y4N;rw[zq0 (show ¬k=1 by omega),zq0 (show ¬k=2 by omega),zq0 h3,zq0 (show ¬k=9 by omega),zq0 (show ¬k=10 by omega),zq0 (show ¬k=11 by omega),zq0 (show ¬k=12 by omega),zq0 (show ¬k=13 by omega)]
theorem y6T:∀(y:Nat) (x r:Int),(y:Int)<18446744073709551616→yN x y r=some (IntKind.wrap .i64 (r+x*y)):=by
 intro y;induction y using Nat.strongRecOn with
 |_ y ih=>
  intro x r hy;rw[y0c];unfold gP;by_cases h0:(y:Int)>0
  ·rw[zq1 h0];simp only[ne_eq,show ¬((2:Int)=0)by decide,not_false_eq_true,if_true];have hd:Int.tdiv (y:Int) 2=((y / 2:Nat):Int):=by rw[Int.tdiv_eq_ediv_of_nonneg (by omega)];omega
   have hm:Int.tmod (y:Int) 2=((y % 2:Nat):Int):=by rw[Int.tmod_eq_emod_of_nonneg (by omega)];omega
   have hw:IntKind.wrap .u64 (((y / 2:Nat):Int))=((y / 2:Nat):Int):=by rw[IntKind.wrap_u64];omega
   have hmul:x*(y:Int)=2*(x*((y / 2:Nat):Int))+x*((y % 2:Nat):Int):=by
    have:(y:Int)=2*((y / 2:Nat):Int)+((y % 2:Nat):Int):=by omega
    rw[show x*(y:Int)=x*(2*((y / 2:Nat):Int)+((y % 2:Nat):Int))by rw[←this],Int.mul_add,Int.mul_left_comm]
   have hx:IntKind.wrap .u64 (x+x)*((y / 2:Nat):Int)=2*(x*((y / 2:Nat):Int))-18446744073709551616*(((x+x) / 18446744073709551616)*((y / 2:Nat):Int)):=by
    rw[IntKind.wrap_u64,show(x+x) % 18446744073709551616=2*x-18446744073709551616*((x+x) / 18446744073709551616)by omega,Int.sub_mul,Int.mul_assoc,Int.mul_assoc]
   rw[hm,hd,hw,ih (y / 2) (by omega) _ _ (by omega),ih (y / 2) (by omega) _ _ (by omega),hx,hmul];rcases Nat.mod_two_eq_zero_or_one y with h|h
   ·rw[h,zq0 (by decide)];congr 1;rw[z5j,z5j];generalize x*((y / 2:Nat):Int)=t;generalize ((x+x) / 18446744073709551616)*((y / 2:Nat):Int)=s;simp;omega
   ·rw[h,zq1 (by decide)];congr 1;rw[z5j,z5j,IntKind.wrap_u64];generalize x*((y / 2:Nat):Int)=t;generalize ((x+x) / 18446744073709551616)*((y / 2:Nat):Int)=s;simp;omega
  ·rw[zq0 h0];have:(y:Int)=0:=by omega
   rw[this];simp
theorem v2D(a b:Int):z4z a b=some (IntKind.wrap .i64 (a*b)):=by
 unfold z4z;have hb:0≤IntKind.wrap .u64 b∧IntKind.wrap .u64 b<18446744073709551616:=by rw[IntKind.wrap_u64];omega
 obtain⟨y,hy⟩:=Int.eq_ofNat_of_zero_le hb.1;rw[hy,y6T y _ _ (by omega),←hy];congr 1;rw[IntKind.wrap_u64,IntKind.wrap_u64,z5j,z5j];have:a % 18446744073709551616*(b % 18446744073709551616) % 18446744073709551616=a*b % 18446744073709551616:=(Int.mul_emod a b _).symm;omega
theorem y9B(a b:Int)(ha:0≤a∧a<18446744073709551616)(hb:0<b∧b<18446744073709551616):∀(n:Nat) (q r:Int),n≤64→a / 2 ^ n=b*q+r→0≤q→0≤r→r<b →
  yB a b q r ((n:Int)-1)=some (a / b,a % b):=by
 intro n;induction n with
 |zero=>
  intro q r _ h hq hr hrb;rw[z4x];unfold uQ;rw[zq0 (by omega)];have h':a=b*q+r:=by simpa using h
  have:=(Int.ediv_emod_unique (a:=a) (b:=b) (r:=r) (q:=q) hb.1).2 ⟨by omega,hr,hrb⟩;rw[this.1,this.2]
 |succ n ih=>
  intro q r hn h hq hr hrb;rw[z4x];unfold uQ;have hi:((n+1:Nat):Int)-1=(n:Int):=by omega
  rw[hi];have hw3:IntKind.wrap .u64 (n:Int)=(n:Int):=by rw[IntKind.wrap_u64];omega
  have hmin:Min.min (Int.toNat (n:Int)) (IntKind.bits .u64)=n:=by simp[IntKind.bits];omega
  rw[hw3,hmin];have hf:Int.fdiv a (2 ^ n)=a / 2 ^ n:=by rw[Int.fdiv_eq_ediv_of_nonneg _ (by exact Int.le_of_lt (Int.pow_pos (by decide)))]
  rw[hf,zq1 (by omega),zq1 (by omega),zq1 (by decide)];have hhi:0≤a / 2 ^ n:=Int.ediv_nonneg ha.1 (Int.le_of_lt (Int.pow_pos (by decide)));have hlt:a / 2 ^ n<18446744073709551616:=Int.lt_of_le_of_lt (Int.ediv_le_self _ ha.1) ha.2;have hhalf:a / 2 ^ n / 2=a / 2 ^ (n+1):=by rw[Int.ediv_ediv_of_nonneg (Int.le_of_lt (Int.pow_pos (by decide))),Int.pow_succ]
  rw[Int.tmod_eq_emod_of_nonneg hhi];generalize hA:a / 2 ^ n=A at *;rw[h]at hhalf;have hbq:0≤b*q:=Int.mul_nonneg (Int.le_of_lt hb.1) hq;have hqle:q≤b*q:=by
   have:=Int.mul_le_mul_of_nonneg_right (show 1≤b by omega) hq;omega
  generalize hB:b*q=B at *;have h2q:b*(2*q)=2*B:=by rw[Int.mul_left_comm,hB]
  have h2q1:b*(2*q+1)=2*B+b:=by rw[Int.mul_add,h2q];omega
  have hA2:A=2*B+(2*r+A % 2):=by omega
  have hm:=Int.emod_nonneg A (show(2:Int)≠0 by decide);have e7:IntKind.wrap .u64 (q*2)=2*q:=by rw[IntKind.wrap_u64];omega
  have e6:IntKind.wrap .u64 (IntKind.wrap .u64 (r*2)+A % 2)=(2*r+A % 2) % 18446744073709551616:=by rw[IntKind.wrap_u64,IntKind.wrap_u64];omega
  have ei:IntKind.wrap .i64 ((n:Int)-1)=(n:Int)-1:=by rw[z5j];omega
  rw[e7,e6,ei];by_cases hc:r≥9223372036854775808
  ·rw[zq1 hc];have e8:IntKind.wrap .u64 ((2*r+A % 2) % 18446744073709551616-b)=2*r+A % 2-b:=by rw[IntKind.wrap_u64];omega
   have e9:IntKind.wrap .u64 (2*q+1)=2*q+1:=by rw[IntKind.wrap_u64];omega
   rw[e8,e9];exact ih (2*q+1) (2*r+A % 2-b) (by omega) (by rw[h2q1];omega) (by omega) (by omega) (by omega)
  ·have e6':(2*r+A % 2) % 18446744073709551616=2*r+A % 2:=by omega
   rw[zq0 hc,e6'];by_cases hg:2*r+A % 2≥b
   ·rw[zq1 hg];have e8:IntKind.wrap .u64 (2*r+A % 2-b)=2*r+A % 2-b:=by rw[IntKind.wrap_u64];omega
    have e9:IntKind.wrap .u64 (2*q+1)=2*q+1:=by rw[IntKind.wrap_u64];omega
    rw[e8,e9];exact ih (2*q+1) (2*r+A % 2-b) (by omega) (by rw[h2q1];omega) (by omega) (by omega) (by omega)
   ·rw[zq0 hg];exact ih (2*q) (2*r+A % 2) (by omega) (by rw[h2q];omega) (by omega) (by omega) (by omega)
theorem v0C(a b:Int)(ha:0≤a∧a<18446744073709551616)(hb:0<b∧b<18446744073709551616):z3L a b=some (a / b,a % b):=by
 unfold z3L;have h64:a / 2 ^ 64=b*0+0:=by
  rw[show(2:Int) ^ 64=18446744073709551616 from rfl];omega
 exact y9B a b ha hb 64 0 0 (Nat.le_refl _) h64 (Int.le_refl _) (Int.le_refl _) hb.1
def szI(a:Int):Int:=if a<0 then -a else a
abbrev v2U(a:Int):Prop:=-9223372036854775808≤a∧a≤9223372036854775807
theorem y9f(a:Int)(h:v2U a):z4y a=some (szI a):=by
 unfold z4y szI;by_cases h0:a<0
 ·rw[zq1 h0,zq1 h0,IntKind.wrap_u64,IntKind.wrap_u64,z5j,z5j];congr 1;omega
 ·rw[zq0 h0,zq0 h0,IntKind.wrap_u64];congr 1;omega
theorem v3j(a b:Int):a.tdiv b=if decide (a<0)=decide (b<0)then szI a / szI b else -(szI a / szI b):=by
 unfold szI;by_cases ha:a<0<;>by_cases hb:b<0
 ·simp only[ha,hb,if_true,decide_true];rw[←Int.tdiv_eq_ediv_of_nonneg (by omega),Int.neg_tdiv_neg]
 ·simp only[ha,hb,if_true,if_false,decide_true,decide_false,Bool.true_eq_false];rw[←Int.tdiv_eq_ediv_of_nonneg (by omega),Int.neg_tdiv,Int.neg_neg]
 ·simp only[ha,hb,if_true,if_false,decide_true,decide_false,Bool.false_eq_true];rw[←Int.tdiv_eq_ediv_of_nonneg (by omega),Int.tdiv_neg,Int.neg_neg]
 ·simp only[ha,hb,if_false,decide_false,if_true];rw[←Int.tdiv_eq_ediv_of_nonneg (by omega)]
theorem v3k(a b:Int):a.tmod b=if a<0 then -(szI a % szI b)else szI a % szI b:=by
 unfold szI;by_cases ha:a<0<;>by_cases hb:b<0
 ·simp only[ha,hb,if_true];rw[←Int.tmod_eq_emod_of_nonneg (by omega),Int.tmod_neg,Int.neg_tmod,Int.neg_neg]
 ·simp only[ha,hb,if_true,if_false];rw[←Int.tmod_eq_emod_of_nonneg (by omega),Int.neg_tmod,Int.neg_neg]
 ·simp only[ha,hb,if_true,if_false];rw[←Int.tmod_eq_emod_of_nonneg (by omega),Int.tmod_neg]
 ·simp only[ha,hb,if_false];rw[←Int.tmod_eq_emod_of_nonneg (by omega)]
theorem y1V(a b:Int)(ha:v2U a)(hb:v2U b)(h0:b≠0):z0Q a b=some (IntKind.wrap .i64 (a.tdiv b),a.tmod b):=by
 have sa:0≤szI a∧szI a≤9223372036854775808:=by unfold szI;split<;>omega
 have sb:0<szI b∧szI b≤9223372036854775808:=by unfold szI;split<;>omega
 unfold z0Q;rw[y9f a ha,y9f b hb,zB,zB,v0C _ _ (by omega) (by omega),zB];have hm:0≤szI a % szI b∧szI a % szI b<szI b:=⟨Int.emod_nonneg _ (by omega),Int.emod_lt_of_pos _ sb.1⟩;have em:IntKind.wrap .i64 (szI a % szI b)=szI a % szI b:=by rw[z5j];omega
 have emn:IntKind.wrap .i64 (-(szI a % szI b))=-(szI a % szI b):=by rw[z5j];omega
 rw[v3j,v3k,y6Y,y6Y,em,emn];by_cases hs:decide (a<0)=decide (b<0)
 ·rw[zq1 hs,zq1 hs];by_cases hn:a<0
  ·rw[zq1 hn,zq1 hn]
  ·rw[zq0 hn,zq0 hn]
 ·rw[zq0 hs,zq0 hs];by_cases hn:a<0
  ·rw[zq1 hn,zq1 hn]
  ·rw[zq0 hn,zq0 hn]
theorem v4j(a b:Int):IntKind.wrap .i64 (IntKind.wrap .u64 (IntKind.wrap .u64 a+IntKind.wrap .u64 b))=IntKind.wrap .i64 (a+b):=by
 rw[v2F,IntKind.wrap_u64,IntKind.wrap_u64,z5j,z5j];omega
theorem v4k(a b:Int):IntKind.wrap .i64 (IntKind.wrap .u64 (IntKind.wrap .u64 a-IntKind.wrap .u64 b))=IntKind.wrap .i64 (a-b):=by
 rw[v2F,IntKind.wrap_u64,IntKind.wrap_u64,z5j,z5j];omega
theorem v1m(k a b:Int)(ha:v2U a)(hb:v2U b):z7h k a b=some (y4N k a b):=by
 unfold z7h y4N;by_cases h1:k=1
 ·rw[zq1 h1,zq1 h1];by_cases ha:a=0
  ·rw[zq1 ha,z7d,ha];rfl
  ·rw[zq0 ha,z7d,show(a == 0)=false by simpa using ha];rfl
 rw[zq0 h1,zq0 h1];by_cases h2:k=2
 ·rw[zq1 h2,zq1 h2];by_cases ha:a=0
  ·rw[zq1 ha,z7d,ha];rfl
  ·rw[zq0 ha,z7d,show(a == 0)=false by simpa using ha];rfl
 rw[zq0 h2,zq0 h2];by_cases h38:3≤k∧k≤8
 ·rw[zq1 h38];simp only[z7d,zB];rcases(show k=3∨k=4∨k=5∨k=6∨k=7∨k=8 by omega)with rfl|rfl|rfl|rfl|rfl|rfl
  ·simp[v2a,b01]
  ·simp[v2a,b01]
  ·simp[v2a,b01]
  ·simp[v2a,b01]
  ·simp[v2a,b01]
  ·simp[v2a,b01]
 rw[zq0 h38,zq0 (show ¬k=3 by omega),zq0 (show ¬k=4 by omega),zq0 (show ¬k=5 by omega),zq0 (show ¬k=8 by omega),zq0 (show ¬k=7 by omega),zq0 (show ¬k=6 by omega)];by_cases h9:k=9
 ·rw[zq1 h9,zq1 h9,v4j]
 rw[zq0 h9,zq0 h9];by_cases h10:k=10
 ·rw[zq1 h10,zq1 h10,v4k]
 rw[zq0 h10,zq0 h10];by_cases h11:k=11
 ·rw[zq1 h11,zq1 h11,v2D];rfl
 rw[zq0 h11,zq0 h11];by_cases h12:k=12
 ·rw[zq1 h12,zq1 h12];by_cases h0:b=0
  ·rw[zq1 h0,zq1 h0]
  ·rw[zq0 h0,zq0 h0,y1V a b ha hb h0];rfl
 rw[zq0 h12,zq0 h12];by_cases h13:k=13
 ·rw[zq1 h13,zq1 h13];by_cases h0:b=0
  ·rw[zq1 h0,zq1 h0]
  ·rw[zq0 h0,zq0 h0,y1V a b ha hb h0];rfl
 rw[zq0 h13,zq0 h13]
mutual
def zM:zA→Nat
 |⟨_,_,_,l,_,_⟩=>1+vP l
def vP:List zA→Nat
 |[]=>0
 |x::r=>zM x+vP r
end
theorem wX(t:zA):zM t=1+vP t.L:=by cases t;simp[zM]
theorem z2P(t:zA):0<zM t:=by rw[wX];omega
theorem z7U{l:List zA}{i:Nat}(h:i<l.length):vP (l.drop i)=zM l[i]+vP (l.drop (i+1)):=by
 rw[List.drop_eq_getElem_cons h,vP]
theorem z1B(l:List zA):l.length≤vP l:=by
 induction l with
 |nil=>simp[vP]
 |cons x r ih=>have:=z2P x;simp[vP];omega
theorem y8F(l:List zA)(i:Nat):vP l=vP (l.take i)+vP (l.drop i):=by
 induction l generalizing i with
 |nil=>simp[vP]
 |cons x r ih=>
  cases i with
  |zero=>simp[vP]
  |succ i=>simp[vP,ih i];omega
theorem v2b(t:zA):zA.Wf t→∀left levels:Int,0≤left→left≤1000000→levels≤1000000 →
  ∃v,vZ t left levels=some v∧-1≤v∧v≤left∧(0≤v→v+zM t=left):=by
 induction t using zA.ind with
 |h t ih=>
  intro wt left levels h0 h1 h2;have loop:∀(k i:Nat) (lf:Int),i+k=t.L.length→-1≤lf→lf≤1000000→0<levels →
    ∃v,yI lf levels i t=some v∧-1≤v∧v≤lf∧(0≤v→v+vP (t.L.drop i)=lf):=by
   intro k;induction k with
   |zero=>
    intro i lf hi h3 h4 h5;rw[z5w];unfold jF;rw[zq0 (by omega)];have:t.L.drop i=[]:=List.drop_eq_nil_of_le (by omega);exact⟨lf,rfl,h3,by omega,fun _=>by rw[this];simp[vP]⟩
   |succ k ihk=>
    intro i lf hi h3 h4 h5;rw[z5w];unfold jF;rw[zq1 (by omega)];by_cases hlf:lf≥0
    ·rw[zq1 hlf,wU (show i<t.L.length by omega),zB,z2v (by omega) (by omega)];obtain⟨v,e,v1,v2,v3⟩:=ih _ (List.getElem_mem _) (wt.L_.2 _ (List.getElem_mem _)) lf (levels-1) hlf h4 (by omega);have hl:=wt.L_.1;rw[e,zB,z2v (by omega) (by omega),z2O];obtain⟨u,e2,u1,u2,u3⟩:=ihk (i+1) v (by omega) v1 (by omega) h5;refine⟨u,e2,u1,by omega,fun hu=>?_⟩;rw[z7U (show i<t.L.length by omega)];have:=u3 hu;have:=v3 (by omega);omega
    ·rw[zq0 hlf];exact⟨lf,rfl,h3,by omega,fun h=>absurd h (by omega)⟩
  rw[y4D];unfold z1u;by_cases hlv:levels≤0
  ·rw[zq1 hlv];exact⟨-1,rfl,by omega,by omega,fun h=>absurd h (by omega)⟩
  ·rw[zq0 hlv,z2v (by omega) (by omega)];obtain⟨v,e,v1,v2,v3⟩:=loop t.L.length 0 (left-1) (by omega) (by omega) (by omega) (by omega);refine⟨v,e,v1,by omega,fun hv=>?_⟩;have:=v3 hv;rw[wX];simp at this;omega
theorem v2q(t:zA):zA.Wf t→∃b,wA t=some b:=by
 induction t using zA.ind with
 |h t ih=>
  intro wt;have loop:∀(k i:Nat),i+k=t.L.length→∃b,yJ i t=some b:=by
   intro k;induction k with
   |zero=>
    intro i hi;rw[z5x];unfold jG;rw[zq0 (by omega)];exact⟨_,rfl⟩
   |succ k ihk=>
    intro i hi;rw[z5x];unfold jG;have hl:=wt.L_.1;obtain⟨b,e⟩:=ih _ (List.getElem_mem (show i<t.L.length by omega)) (wt.L_.2 _ (List.getElem_mem _));rw[zq1 (by omega),wU (show i<t.L.length by omega),zB,e,zB,z2v (by omega) (by omega),z2O];cases b with
    |true=>exact⟨true,rfl⟩
    |false=>simpa using ihk (i+1) (by omega)
  rw[y4E];unfold z1v;by_cases h:(List.length t.S:Int)>40
  ·rw[zq1 h];exact⟨_,rfl⟩
  ·rw[zq0 h];exact loop t.L.length 0 (by omega)
theorem y0d(t:zA)(w:zA.Wf t):∃b,uK t=some b∧(b=false→zM t≤400):=by
 unfold uK;obtain⟨v,e,v1,v2,v3⟩:=v2b t w 400 70 (by omega) (by omega) (by omega);rw[e,zB];by_cases h:v<0
 ·rw[zq1 h];exact⟨true,rfl,by simp⟩
 ·rw[zq0 h];obtain⟨b,e2⟩:=v2q t w;rw[e2,zB];exact⟨b,rfl,fun _=>by have:=v3 (by omega);omega⟩
def z3j(t:zA)(k:Int):Bool:=decide (t.K=k) && decide (t.S=[]) && decide (t.L.length=0) && (decide (k=5) || decide (t.N=0) || decide (t.N=1))
theorem y1A(t:zA)(k:Int):uI t k=some (z3j t k):=by
 unfold uI z3j;by_cases h1:t.K=k
 ·by_cases h2:t.S=[]
  ·by_cases h3:t.L.length=0
   ·by_cases h4:k=5
    ·simp[h1,h2,h3,h4]
    ·by_cases h5:t.N=0
     ·simp[h1,h2,h3,h4,h5]
     ·simp[h1,h2,h3,h4,h5];rfl
   ·rw[zq1 h1,zq1 h2,zq0 (by omega)];simp[h3]
  ·simp[h1,h2]
 ·simp[h1]
theorem y1Y(t:zA):z0D t=some (z3j t 5 || z3j t 6):=by
 unfold z0D z3j;by_cases h2:t.S=[]
 ·by_cases h3:t.L.length=0
  ·by_cases h4:t.K=5
   ·simp[h2,h3,h4]
   ·by_cases h6:t.K=6
    ·by_cases h5:t.N=0
     ·simp[h2,h3,h6,h5]
     ·simp[h2,h3,h6,h5];rfl
    ·simp[h2,h3,h4,h6]
  ·rw[zq1 h2,zq0 (by omega)];simp[h3]
 ·simp[h2]
theorem z8N(t:zA)(k:Int)(h:t.L.length≠2):wE t k=some false:=by
 unfold wE;rw[zq0 (by omega)]
theorem v0A(t:zA)(x y:zA)(h:t.L=[x,y])(k:Int):wE t k=some (z3j x k && z3j y k):=by
 unfold wE;rw[h];have e0:idx [x,y] 0=some x:=rfl;have e1:idx [x,y] 1=some y:=rfl;rw[zq1 (by simp),e0,e1,zB,zB,y1A,y1A,zB];cases z3j x k<;>cases z3j y k<;>rfl
def y6P(n:Int)(b5 b6:Bool):Int:=
 if n=3∨n=4 then(if(b5 || b6)=true then 6 else 0)else if n=1∨n=2 then(if b6=true then 6 else 0)
 else if 5≤n∧n≤8 then(if b5=true then 6 else 0)else if 9≤n∧n≤13 then(if b5=true then 5 else 0)else 0
theorem z8z(t:zA)(b5 b6:Bool)(h5:wE t 5=some b5)(h6:wE t 6=some b6):z3D t=some (y6P t.N b5 b6):=by
 unfold z3D y6P;rw[h5,h6];simp only[zB];generalize t.N=n;by_cases hn:1≤n∧n≤13
 ·rcases(show n=1∨n=2∨n=3∨n=4∨n=5∨n=6∨n=7∨n=8∨n=9∨n=10∨n=11∨n=12∨n=13 by omega)with rfl|rfl|rfl|rfl|rfl|rfl|rfl|rfl|rfl|rfl|rfl|rfl|rfl <;>
  cases b5<;>cases b6<;>rfl
 ·rw[zq0 (show ¬n=3 by omega),zq0 (show ¬n=4 by omega),zq0 (show ¬n=1 by omega),zq0 (show ¬n=2 by omega),zq0 (show ¬n=5 by omega),zq0 (show ¬n=6 by omega),zq0 (show ¬n=7 by omega),zq0 (show ¬n=8 by omega),zq0 (show ¬n=9 by omega),zq0 (show ¬n=10 by omega),zq0 (show ¬n=11 by omega),zq0 (show ¬n=12 by omega),zq0 (show ¬n=13 by omega)];rw[zq0 (show ¬(n=3∨n=4)by omega),zq0 (show ¬(n=1∨n=2)by omega),zq0 (show ¬(5≤n∧n≤8)by omega),zq0 (show ¬(9≤n∧n≤13)by omega)]
theorem z9b(k n:Int):zM ⟨k,n,[],[],0,0⟩≤1:=by rw[wX];simp[vP]
abbrev zT:zA:=⟨0,0,[],[],0,0⟩
def y8m(t:zA):zA×Bool:=
 if t.S=[]then
  match t.L with
  |[x]=>if t.K=11 then(if t.N=1∧z3j x 5=true then(⟨x.K,v3r 1 x.N,[],[],0,0⟩,true)else if t.N=2∧z3j x 6=true then(⟨x.K,v3r 2 x.N,[],[],0,0⟩,true)else(zT,false))else(zT,false)
  |[x,y]=>if t.K=10 then(if y6P t.N (z3j x 5 && z3j y 5) (z3j x 6 && z3j y 6)=0 then(zT,false)else if(y4N t.N x.N y.N).2=0 then(⟨y6P t.N (z3j x 5 && z3j y 5) (z3j x 6 && z3j y 6),(y4N t.N x.N y.N).1,[],[],0,0⟩,true)else(zT,false))else(zT,false)
  |_=>(zT,false)
 else(zT,false)
theorem z6U(n:Int):y6P n false false=0:=by unfold y6P;simp
theorem z9t(t:zA):z3k t=some (y8m t):=by
 unfold z3k y8m;by_cases hS:t.S=[]
 ·rw[zq1 hS,zq1 hS];rcases hL:t.L with _|⟨x,_|⟨y,_|⟨z,r⟩⟩⟩
  ·rw[z8z t false false (z8N t 5 (by rw[hL];simp)) (z8N t 6 (by rw[hL];simp)),zB,z6U];simp
  ·rw[z8z t false false (z8N t 5 (by rw[hL];simp)) (z8N t 6 (by rw[hL];simp)),zB,z6U];have e0:idx [x] 0=some x:=rfl;simp only[e0,zB,y1A,y7t];rw[zq1 True.intro,zq1 (show(([x]:List zA).length:Int)=1 by simp)];by_cases hK:t.K=11
   ·rw[zq0 (show ¬t.K=10 by omega),zq1 hK,zq1 hK];by_cases h1:t.N=1
    ·rw[zq1 h1,h1];cases z3j x 5<;>simp
    ·rw[zq0 h1];by_cases h2:t.N=2
     ·rw[zq1 h2,h2];cases z3j x 6<;>simp
     ·rw[zq0 h2];simp[h1,h2]
   ·rw[zq0 hK,zq0 hK];split<;>rfl
  ·rw[z8z t _ _ (v0A t x y hL 5) (v0A t x y hL 6),zB];have e0:idx [x,y] 0=some x:=rfl;have e1:idx [x,y] 1=some y:=rfl;simp only[e0,e1,zB,y7u];by_cases hK:t.K=10
   ·rw[zq1 hK,zq1 hK];split
    ·rfl
    ·split<;>rfl
   ·rw[zq0 hK,zq0 hK,zq0 (show ¬(([x,y]:List zA).length:Int)=1 by simp)];split<;>rfl
  ·rw[z8z t false false (z8N t 5 (by rw[hL];simp)) (z8N t 6 (by rw[hL];simp)),zB,z6U];rw[zq1 rfl,zq0 (show ¬((x::y::z::r).length:Int)=1 by simp;omega)];split
   ·rfl
   ·split<;>rfl
 ·rw[zq0 hS,zq0 hS]
theorem z1W{t:zA}{k:Int}(h:z3j t k=true):t.K=k:=by
 unfold z3j at h;simp only[Bool.and_eq_true,decide_eq_true_eq]at h;exact h.1.1.1
theorem y8x(t:zA)(w:zA.Wf t):z4C t=some (y8m t):=by
 unfold z4C y8m;by_cases hS:t.S=[]
 ·rw[zq1 hS,zq1 hS];rcases hL:t.L with _|⟨x,_|⟨y,_|⟨z,r⟩⟩⟩
  ·rfl
  ·rw[zq0 (show ¬(([x]:List zA).length:Int)=0 by simp),zq0 (show ¬(([x]:List zA).length:Int)>2 by simp)];have e0:idx [x] 0=some x:=rfl;rw[z0q];unfold wK;rw[hL,zq1 (show(0:Int)<(([x]:List zA).length:Int)by simp),e0,zB,y1Y,zB,zB,zB];rw[z0q];unfold wK;rw[hL,show IntKind.wrap .i64 (0+1)=1 from rfl,zq0 (show ¬(1:Int)<(([x]:List zA).length:Int)by simp)];simp only[e0,zB,v0i,if_true];rw[zq1 (show(([x]:List zA).length:Int)=1 by simp),zq0 (show ¬(([x]:List zA).length:Int)=2 by simp)];cases h5:z3j x 5 with
   |true=>
    have hk:=z1W h5;have h6:z3j x 6=false:=by
     cases h6:z3j x 6 with
     |false=>rfl
     |true=>have:=z1W h6;omega
    simp only[Bool.true_or,if_true,h6];by_cases hK:t.K=11
    ·rw[zq1 hK,zq1 hK];by_cases h1:t.N=1
     ·rw[zq1 h1,zq1 hk,h1];simp
     ·rw[zq0 h1,zq1 hk];by_cases h2:t.N=2
      ·rw[zq1 h2];simp[h1,h2]
      ·rw[zq0 h2];simp[h1,h2]
    ·rw[zq0 hK,zq0 hK];split<;>rfl
   |false=>
    cases h6:z3j x 6 with
    |true=>
     have hk:=z1W h6;simp only[Bool.false_or,if_true];by_cases hK:t.K=11
     ·rw[zq1 hK,zq1 hK,zq0 (show ¬x.K=5 by omega)];by_cases h1:t.N=1
      ·rw[zq1 h1];simp[h1]
      ·rw[zq0 h1];by_cases h2:t.N=2
       ·rw[zq1 h2,zq0 (show ¬x.K=5 by omega),h2];simp
       ·rw[zq0 h2];simp[h1,h2]
     ·rw[zq0 hK,zq0 hK];split<;>rfl
    |false=>
     simp
  ·have wx:v2U x.N:=i64_iff.1 ((w.L_.2 x (by rw[hL];simp)).N_);have wy:v2U y.N:=i64_iff.1 ((w.L_.2 y (by rw[hL];simp)).N_);rw[zq0 (show ¬(([x,y]:List zA).length:Int)=0 by simp),zq0 (show ¬(([x,y]:List zA).length:Int)>2 by simp)];have e0:idx [x,y] 0=some x:=rfl;have e1:idx [x,y] 1=some y:=rfl;rw[z0q];unfold wK;rw[hL,zq1 (show(0:Int)<(([x,y]:List zA).length:Int)by simp),e0,zB,y1Y,zB,zB,zB];rw[z0q];unfold wK
   rw[hL,show IntKind.wrap .i64 (0+1)=1 from rfl,zq1 (show(1:Int)<(([x,y]:List zA).length:Int)by simp),e1,zB,y1Y,zB,zB,e0,zB];rw[z0q];unfold wK;rw[hL,show IntKind.wrap .i64 (1+1)=2 from rfl,zq0 (show ¬(2:Int)<(([x,y]:List zA).length:Int)by simp)];simp only[e0,e1,zB,v1m _ _ _ wx wy,if_true];rw[zq0 (show ¬(([x,y]:List zA).length:Int)=1 by simp),zq1 (show(([x,y]:List zA).length:Int)=2 by simp)];have k5:∀z:zA,z3j z 5=true→z.K=5∧z3j z 6=false:=fun z h=>by
    have hk:=z1W h;refine⟨hk,?_⟩;cases h6:z3j z 6 with
    |false=>rfl
    |true=>have:=z1W h6;omega
   have k6:∀z:zA,z3j z 6=true→z.K=6∧z3j z 5=false:=fun z h=>by
    have hk:=z1W h;refine⟨hk,?_⟩;cases h5:z3j z 5 with
    |false=>rfl
    |true=>have:=z1W h5;omega
   have tail:∀k:Int,(k=5∨k=6)→x.K=k →
     (if t.K=11 then some ((⟨0,0,[],[],0,0⟩:zA),false)else if t.K=10 then(if t.N<1 then some (zT,false)else if t.N>13 then some (zT,false)else
      if x.K=5 then(if t.N<3 then some (zT,false)else if(y4N t.N x.N y.N).2=0 then(if t.N<9 then some (⟨6,(y4N t.N x.N y.N).1,[],[],0,0⟩,true)else some (⟨5,(y4N t.N x.N y.N).1,[],[],0,0⟩,true))else some (zT,false))
      else if t.N>4 then some (zT,false)else if(y4N t.N x.N y.N).2=0 then(if t.N<9 then some (⟨6,(y4N t.N x.N y.N).1,[],[],0,0⟩,true)else some (⟨5,(y4N t.N x.N y.N).1,[],[],0,0⟩,true))else some (zT,false))else some (zT,false))=
     some (if t.K=10 then(if y6P t.N (decide (k=5)) (decide (k=6))=0 then(zT,false)else if(y4N t.N x.N y.N).2=0 then(⟨y6P t.N (decide (k=5)) (decide (k=6)),(y4N t.N x.N y.N).1,[],[],0,0⟩,true)else(zT,false))else(zT,false)):=by
    intro k hk hx;by_cases hK:t.K=10
    ·rw[zq0 (show ¬t.K=11 by omega),zq1 hK,zq1 hK];generalize t.N=n;unfold y6P;by_cases hn:1≤n∧n≤13
     ·rw[zq0 (show ¬n<1 by omega),zq0 (show ¬n>13 by omega)];rcases hk with rfl|rfl
      ·rw[zq1 hx];by_cases h3:n<3
       ·rw[zq1 h3];simp[show ¬(n=3∨n=4)by omega,show n=1∨n=2 by omega]
       ·rw[zq0 h3];by_cases h9:n<9
        ·have:(if n=3∨n=4 then(if(decide ((5:Int)=5) || decide ((5:Int)=6))=true then(6:Int)else 0)else if n=1∨n=2 then(if decide ((5:Int)=6)=true then 6 else 0)else if 5≤n∧n≤8 then(if decide ((5:Int)=5)=true then 6 else 0)else if 9≤n∧n≤13 then(if decide ((5:Int)=5)=true then 5 else 0)else 0)=6:=by
          by_cases h34:n=3∨n=4
          ·rw[zq1 h34];rfl
          ·rw[zq0 h34,zq0 (show ¬(n=1∨n=2)by omega),zq1 (show 5≤n∧n≤8 by omega)];rfl
         rw[this,zq1 h9,zq0 (show ¬(6:Int)=0 by decide)];split<;>rfl
        ·have:(if n=3∨n=4 then(if(decide ((5:Int)=5) || decide ((5:Int)=6))=true then(6:Int)else 0)else if n=1∨n=2 then(if decide ((5:Int)=6)=true then 6 else 0)else if 5≤n∧n≤8 then(if decide ((5:Int)=5)=true then 6 else 0)else if 9≤n∧n≤13 then(if decide ((5:Int)=5)=true then 5 else 0)else 0)=5:=by
          rw[zq0 (show ¬(n=3∨n=4)by omega),zq0 (show ¬(n=1∨n=2)by omega),zq0 (show ¬(5≤n∧n≤8)by omega),zq1 (show 9≤n∧n≤13 by omega)];rfl
         rw[this,zq0 h9,zq0 (show ¬(5:Int)=0 by decide)];split<;>rfl
      ·rw[zq0 (show ¬x.K=5 by omega)];by_cases h4:n>4
       ·rw[zq1 h4];rw[zq0 (show ¬(n=3∨n=4)by omega),zq0 (show ¬(n=1∨n=2)by omega)];simp
       ·rw[zq0 h4,zq1 (show n<9 by omega)];have:(if n=3∨n=4 then(if(decide ((6:Int)=5) || decide ((6:Int)=6))=true then(6:Int)else 0)else if n=1∨n=2 then(if decide ((6:Int)=6)=true then 6 else 0)else if 5≤n∧n≤8 then(if decide ((6:Int)=5)=true then 6 else 0)else if 9≤n∧n≤13 then(if decide ((6:Int)=5)=true then 5 else 0)else 0)=6:=by
         by_cases h34:n=3∨n=4
         ·rw[zq1 h34];rfl
         ·rw[zq0 h34,zq1 (show n=1∨n=2 by omega)];rfl
        rw[this,zq0 (show ¬(6:Int)=0 by decide)];split<;>rfl
     ·rw[zq0 (show ¬(n=3∨n=4)by omega),zq0 (show ¬(n=1∨n=2)by omega),zq0 (show ¬(5≤n∧n≤8)by omega),zq0 (show ¬(9≤n∧n≤13)by omega),zq1 rfl];split
      ·rfl
      ·split
       ·rfl
       ·omega
    ·rw[zq0 hK,zq0 hK];split<;>rfl
   cases hx5:z3j x 5 with
   |true=>
    have hx:=k5 x hx5;cases hy5:z3j y 5 with
    |true=>
     have hy:=k5 y hy5;have:=tail 5 (.inl rfl) hx.1;simp only[hx.2,hy.2,Bool.true_or,if_true,Bool.and_self,zq1 (show y.K=x.K by omega)];exact this
    |false=>
     cases hy6:z3j y 6 with
     |true=>
      have hy:=k6 y hy6;simp[hx.2,hx.1,hy.1,z6U]
     |false=>simp[hx.2,z6U]
   |false=>
    cases hx6:z3j x 6 with
    |true=>
     have hx:=k6 x hx6;cases hy5:z3j y 5 with
     |true=>
      have hy:=k5 y hy5;simp[hx.1,hy.1,hy.2,z6U]
     |false=>
      cases hy6:z3j y 6 with
      |true=>
       have hy:=k6 y hy6;have:=tail 6 (.inr rfl) hx.1;simp only[Bool.false_or,Bool.or_true,if_true,Bool.and_self,Bool.false_and,zq1 (show y.K=x.K by omega)];exact this
      |false=>simp[z6U]
    |false=>simp[z6U]
  ·rw[zq0 (show ¬((x::y::z::r).length:Int)=0 by simp;omega),zq1 (show((x::y::z::r).length:Int)>2 by simp;omega)]
 ·rw[zq0 hS,zq0 hS]
theorem y6q:z2j=some true:=by
 unfold z2j;have e:z7i 2=some ⟨5,2,[],[],0,0⟩:=rfl;have e3:z7i 3=some ⟨5,3,[],[],0,0⟩:=rfl;rw[e,e3,zB,zB];unfold y0e;rw[zB,z9t,zB];rfl
mutual
def nds:zA→List zA
 |⟨K,N,S,L,F,T⟩=>⟨K,N,S,L,F,T⟩::y2I L
def y2I:List zA→List zA
 |[]=>[]
 |x::r=>nds x++y2I r
end
theorem v1e(t:zA):nds t=t::y2I t.L:=by cases t;simp[nds]
theorem v2r(a b:List zA):y2I (a++b)=y2I a++y2I b:=by
 induction a with
 |nil=>simp[y2I]
 |cons x r ih=>simp[y2I,ih]
theorem v0o(a b:List zA):vP (a++b)=vP a+vP b:=by
 induction a with
 |nil=>simp[vP]
 |cons x r ih=>simp[vP,ih];omega
theorem v3b:∀t:zA,(nds t).length=zM t:=by
 intro t;induction t using zA.ind with
 |h t ih=>
  have:∀l:List zA,(∀x∈l,(nds x).length=zM x)→(y2I l).length=vP l:=by
   intro l;induction l with
   |nil=>intro _;simp[y2I,vP]
   |cons x r ihr=>
    intro h;have:=ihr (fun y hy=>h y (by simp[hy]));simp[y2I,vP,h x (by simp),this]
  rw[v1e,wX,List.length_cons,this t.L ih];omega
theorem v3x:∀(n:Nat) (done q:List zA),vP q≤n→done.length+vP q≤1000000→∃r,quiet_all_L3 (done++q) (done.length:Int)=some r∧r.Perm (done++y2I q):=by
 intro n;induction n with
 |zero=>
  intro done q h1 h2;have hq:q=[]:=by
   cases q with
   |nil=>rfl
   |cons x r=>have:=z2P x;simp[vP]at h1;omega
  subst hq;rw[z3H];unfold uW;rw[List.append_nil,zq0 (by omega)];exact⟨done,rfl,by simp[y2I]⟩
 |succ n ih=>
  intro done q h1 h2;cases q with
  |nil=>
   rw[z3H];unfold uW;rw[List.append_nil,zq0 (by omega)];exact⟨done,rfl,by simp[y2I]⟩
  |cons x q=>
   have hx:=wX x;have hl:=z1B x.L;have hl2:=z1B q;have ha:=v0o q x.L;simp only[vP]at h1 h2;obtain⟨r,e1,e2⟩:=ih (done++[x]) (q++x.L) (by omega) (by simp;omega);rw[z3H];unfold uW;have hidx:idx (done++x::q) (done.length:Int)=some x:=by
    rw[wU (by simp)];simp
   rw[zq1 (by simp;omega),hidx,zB,zq1 (by unfold uJ;simp;omega),z2v (by omega) (by omega)];have e3:done++x::q++x.L=(done++[x])++(q++x.L):=by simp
   have e4:((done.length:Int)+1)=(((done++[x]).length:Nat):Int):=by simp
   rw[e3,e4];refine⟨r,e1,e2.trans ?_⟩;rw[v2r,show y2I (x::q)=nds x++y2I q by simp[y2I],v1e];simp only[List.append_assoc,List.cons_append,List.nil_append];exact(List.Perm.cons x List.perm_append_comm).append_left done
def q1(x:zA):Bool:=
 if x.K=5∨x.K=6∨x.K=7∨x.K=8∨x.K=9∨x.K=11∨x.K=13∨x.K=14∨x.K=15 then true
 else if x.K=10 then(if x.N=12∨x.N=13 then(match x.L with|_::b::_=>decide (b.K=5) && !decide (b.N=0)|_=>false)else true)else false
theorem v3D(f:Bool→List zA→Int→Int→Option Bool)(v7:List zA)(v8 v9:Int)(x:zA)(h:v9<v8)(hi:idx v7 v9=some x):
  uB f true v7 v8 v9=if q1 x=true then f true v7 v8 (IntKind.wrap .i64 (v9+1))else some false:=by
 unfold uB;rw[zq1 h,hi,zB];unfold q1;by_cases h5:x.K=5
 ·simp[h5]
 by_cases h6:x.K=6
 ·simp[h6]
 by_cases h7:x.K=7
 ·simp[h7]
 by_cases h8:x.K=8
 ·simp[h8]
 by_cases h9:x.K=9
 ·simp[h9]
 by_cases h11:x.K=11
 ·simp[h11]
 by_cases h13:x.K=13
 ·simp[h13]
 by_cases h14:x.K=14
 ·simp[h14]
 by_cases h15:x.K=15
 ·simp[h15]
 by_cases h10:x.K=10
 ·simp only[h10];rcases hL:x.L with _|⟨a,_|⟨b,r⟩⟩
  ·by_cases n1:x.N=12
   ·simp[n1]
   ·by_cases n2:x.N=13<;>simp[n1,n2]
  ·by_cases n1:x.N=12
   ·simp[n1]
   ·by_cases n2:x.N=13<;>simp[n1,n2]
  ·have hb:idx (a::b::r) 1=some b:=rfl;have hl:¬((List.length (a::b::r):Int)<2):=by simp;omega
   by_cases n1:x.N=12
   ·simp only[n1,hb,zB,zq0 hl];by_cases k5:b.K=5<;>by_cases k0:b.N=0<;>simp[k5,k0]
   ·by_cases n2:x.N=13
    ·simp only[n2,hb,zB,zq0 hl];by_cases k5:b.K=5<;>by_cases k0:b.N=0<;>simp[k5,k0]
    ·simp[n1,n2]
 ·simp[h5,h6,h7,h8,h9,h10,h11,h13,h14,h15]
theorem v3E(l:List zA)(hl:l.length≤1000000):∀(k i:Nat),i+k=l.length→quiet_Quiet_L3 true l (l.length:Int) (i:Int)=some ((l.drop i).all q1):=by
 intro k;induction k with
 |zero=>
  intro i hi;rw[z4k];unfold uB;rw[zq0 (by omega),List.drop_eq_nil_of_le (by omega)];rfl
 |succ k ih=>
  intro i hi;rw[z4k,v3D _ _ _ _ l[i] (by omega) (wU (by omega)),List.drop_eq_getElem_cons (show i<l.length by omega),List.all_cons,z2v (by omega) (by omega),z2O];cases hq:q1 l[i]with
  |true=>rw[zq1 rfl,ih (i+1) (by omega)];simp
  |false=>rw[zq0 (by decide)];simp
theorem v2w{t:zA}(h:zM t≤1000):∃r,z6M t=some r∧r.Perm (nds t)∧z3G t=some ((nds t).all q1):=by
 obtain⟨r,e1,e2⟩:=v3x (zM t) [] [t] (by simp[vP]) (by simp[vP];omega);have e3:z6M t=some r:=e1;have e4:r.Perm (nds t):=by simpa [y2I]using e2
 have hlen:r.length=zM t:=by rw[e4.length_eq,v3b]
 refine⟨r,e3,e4,?_⟩;unfold z3G;rw[e3,zB];have:=v3E r (by omega) r.length 0 (by omega);rw[show((0:Nat):Int)=0 from rfl]at this;rw[this,List.drop_zero,List.all_eq,List.all_eq];congr 1;simp only[e4.mem_iff]
theorem v3d(g:Int→zA→Option Bool)(x:zA):z0C g x=if q1 x=true then g 0 x else some false:=by
 unfold z0C q1;by_cases h5:x.K=5
 ·simp[h5]
 by_cases h6:x.K=6
 ·simp[h6]
 by_cases h7:x.K=7
 ·simp[h7]
 by_cases h8:x.K=8
 ·simp[h8]
 by_cases h9:x.K=9
 ·simp[h9]
 by_cases h11:x.K=11
 ·simp[h11]
 by_cases h13:x.K=13
 ·simp[h13]
 by_cases h14:x.K=14
 ·simp[h14]
 by_cases h15:x.K=15
 ·simp[h15]
 by_cases h10:x.K=10
 ·simp only[h10];rcases hL:x.L with _|⟨a,_|⟨b,r⟩⟩
  ·by_cases n1:x.N=12
   ·simp[n1]
   ·by_cases n2:x.N=13<;>simp[n1,n2]
  ·by_cases n1:x.N=12
   ·simp[n1]
   ·by_cases n2:x.N=13<;>simp[n1,n2]
  ·have hb:idx (a::b::r) 1=some b:=rfl;have hl:¬((List.length (a::b::r):Int)<2):=by simp;omega
   by_cases n1:x.N=12
   ·simp only[n1,hb,zB,zq0 hl];by_cases k5:b.K=5<;>by_cases k0:b.N=0<;>simp[k5,k0]
   ·by_cases n2:x.N=13
    ·simp only[n2,hb,zB,zq0 hl];by_cases k5:b.K=5<;>by_cases k0:b.N=0<;>simp[k5,k0]
    ·simp[n1,n2]
 ·simp[h5,h6,h7,h8,h9,h10,h11,h13,h14,h15]
theorem v1r:∀t:zA,zM t≤1000000→wC t=some ((nds t).all q1):=by
 intro t;induction t using zA.ind with
 |h t ih=>
  intro hs;have hlen:=z1B t.L;have hts:=wX t;have loop:∀(k i:Nat),i+k=t.L.length→zL (i:Int) t=some ((y2I (t.L.drop i)).all q1):=by
   intro k;induction k with
   |zero=>
    intro i hi;rw[z5E];unfold jO;rw[zq0 (by omega),List.drop_eq_nil_of_le (by omega)];simp[y2I]
   |succ k ihk=>
    intro i hi;have hlt:i<t.L.length:=by omega
    have ht:=y8F t.L i;have hd:=z7U hlt;rw[z5E];unfold jO;rw[zq1 (by omega),wU hlt,zB,ih _ (List.getElem_mem hlt) (by omega),zB,z2v (by omega) (by omega),z2O,List.drop_eq_getElem_cons hlt,y2I,List.all_append];cases hq:(nds t.L[i]).all q1 with
    |true=>rw[zq1 rfl,ihk (i+1) (by omega)];simp
    |false=>rw[zq0 (by decide)];simp
  rw[y4H,v3d,v1e,List.all_cons];cases hq:q1 t with
  |true=>
   have:=loop t.L.length 0 (by omega);rw[List.drop_zero,show((0:Nat):Int)=0 from rfl]at this;rw[zq1 rfl,this];simp
  |false=>rw[zq0 (by decide)];simp
theorem wid{n:Nat}(h:n≤2000000000):IntKind.wrap .i64 (n:Int)=n:=z2v (by omega) (by omega)
theorem z4d{n:Nat}(h:n<2000000000):IntKind.wrap .i64 ((n:Int)+1)=((n+1:Nat):Int):=by rw[z2O];exact wid (by omega)
theorem z2D{b n:Nat}(hb:b≤10000)(h:n≤2000000000):uJ b n:=by
 refine⟨?_,by omega⟩;have:n*b≤2000000000*10000:=Nat.mul_le_mul h hb;omega
theorem v1K{x:zA}{l:List zA}(h:x∈l):zM x≤vP l:=by
 induction l with
 |nil=>cases h
 |cons y r ih=>
  simp only[vP];rcases List.mem_cons.1 h with rfl|h
  ·omega
  ·have:=ih h;omega
theorem zV{x t:zA}(h:x∈t.L):zM x<zM t:=by have:=v1K h;rw[wX t];omega
theorem vX(t:zA):t.L.length<zM t:=by have:=z1B t.L;rw[wX t];omega
mutual
def z0g:zA→zA
 |⟨K,N,S,L,_,_⟩=>⟨K,N,S,y8N L,0,0⟩
def y8N:List zA→List zA
 |[]=>[]
 |x::r=>z0g x::y8N r
end
theorem y9p(l:List zA):y8N l=l.map z0g:=by
 induction l with
 |nil=>rfl
 |cons x r ih=>simp[y8N,ih]
theorem z3R(t:zA):z0g t=⟨t.K,t.N,t.S,t.L.map z0g,0,0⟩:=by cases t;simp[z0g,y9p]
mutual
def y2i:zA→zA
 |⟨K,N,_,L,_,_⟩=>⟨K,N,[],v2p L,0,0⟩
def v2p:List zA→List zA
 |[]=>[]
 |x::r=>y2i x::v2p r
end
theorem v1d(l:List zA):v2p l=l.map y2i:=by
 induction l with
 |nil=>rfl
 |cons x r ih=>simp[v2p,ih]
theorem y4B(t:zA):y2i t=⟨t.K,t.N,[],t.L.map y2i,0,0⟩:=by cases t;simp[y2i,v1d]
theorem v2C{a b:zA}(h1:a.K=b.K)(h2:a.N=b.N)(h3:a.S=b.S)(h4:a.L=b.L)(h5:a.From=b.From)(h6:a.To=b.To):a=b:=by
 cases a;cases b;simp_all
theorem z8M(t:zA)(h:zM t≤1000000000):vQ t=some (z0g t):=by
 induction t using zA.ind with
 |h t ih=>
  have hl:=vX t;have loop:∀(k i:Nat) (out:List zA) (o:zA),i+k=t.L.length→out.length=i→yZ out i t o=some ⟨t.K,t.N,t.S,out++(t.L.drop i).map z0g,0,0⟩:=by
   intro k;induction k with
   |zero=>
    intro i out o hi ho;rw[z6N];unfold gG;rw[zq0 (by omega),List.drop_eq_nil_of_le (by omega)];simp
   |succ k ihk=>
    intro i out o hi ho;have hlt:i<t.L.length:=by omega
    have hm:=List.getElem_mem hlt;rw[z6N];unfold gG;rw[zq1 (by omega),wU hlt,zB,ih _ hm (by have:=zV hm;omega),zB,zq1 (z2D (by omega) (by simp;omega)),z4d (by omega)];rw[ihk (i+1) _ o (by omega) (by simp[ho]),List.drop_eq_getElem_cons hlt,List.map_cons];simp only[List.append_assoc,List.singleton_append]
  rw[y6J];unfold z2k;have:=loop t.L.length 0 [] ⟨0,0,[],[],0,0⟩ (by omega) rfl;rw[z3R];simpa using this
theorem y6E(t:zA)(h:zM t≤1000000000):zU t=some (y2i t):=by
 induction t using zA.ind with
 |h t ih=>
  have hl:=vX t;have loop:∀(k i:Nat) (out:List zA) (o:zA) (K N:Int) (S:Str) (F T:Int),i+k=t.L.length→out.length=i→zR i t o K N S out F T=some ⟨K,N,S,out++(t.L.drop i).map y2i,F,T⟩:=by
   intro k;induction k with
   |zero=>
    intro i out o K N S F T hi ho;rw[z3I];unfold wW;rw[zq0 (by omega),List.drop_eq_nil_of_le (by omega)];simp
   |succ k ihk=>
    intro i out o K N S F T hi ho;have hlt:i<t.L.length:=by omega
    have hm:=List.getElem_mem hlt;rw[z3I];unfold wW;rw[zq1 (by omega),wU hlt,zB,ih _ hm (by have:=zV hm;omega),zB,zq1 (z2D (by omega) (by simp;omega)),z4d (by omega)];rw[ihk (i+1) _ o K N S F T (by omega) (by simp[ho]),List.drop_eq_getElem_cons hlt,List.map_cons];simp only[List.append_assoc,List.singleton_append]
  rw[y0b];unfold gO;have:=loop t.L.length 0 [] ⟨0,0,[],[],0,0⟩ t.K t.N [] 0 0 (by omega) rfl;rw[y4B];simpa using this
theorem v3a(t:zA)(h:zM t≤1000000000)(h0:0<t.L.length):z0A t=some (y2i t):=by
 have hl:=vX t;have go:∀(l out:List zA),(∀x∈l,zM x≤1000000000)→out.length+l.length≤1000000000→uC l out=some (out++l.map y2i):=by
  intro l;induction l with
  |nil=>intro out _ _;simp[uC]
  |cons x r ih=>
   intro out hx hlen;unfold uC;simp only[List.length_cons]at hlen;rw[y6E x (hx x (List.mem_cons_self ..)),zB,zq1 (z2D (by omega) (by omega)),ih _ (fun y hy=>hx y (List.mem_cons_of_mem _ hy)) (by simp;omega)];simp
 unfold z0A;rw[zq1 h0,go _ _ (fun x hx=>by have:=zV hx;omega) (by simp;omega),zB,y4B];simp
theorem y1Z(a:zA):∀b:zA,zM a≤1000000000→∃c,vR a b=some c∧(c=true↔z0g a=z0g b):=by
 induction a using zA.ind with
 |h a ih=>
  intro b h;have hl:=vX a;have loop:∀(k i:Nat),i+k=a.L.length→a.L.length=b.L.length→∃c,vA i a b=some c∧(c=true↔(a.L.drop i).map z0g=(b.L.drop i).map z0g):=by
   intro k;induction k with
   |zero=>
    intro i hi hab;rw[z6O];unfold gH;rw[zq0 (by omega),List.drop_eq_nil_of_le (by omega),List.drop_eq_nil_of_le (by omega)];exact⟨_,rfl,by simp⟩
   |succ k ihk=>
    intro i hi hab;have hlt:i<a.L.length:=by omega
    have hlt':i<b.L.length:=by omega
    have hm:=List.getElem_mem hlt;rw[z6O];unfold gH;obtain⟨c,e,hc⟩:=ih _ hm b.L[i] (by have:=zV hm;omega);rw[zq1 (by omega),wU hlt,zB,wU hlt',zB,e,zB,z4d (by omega),List.drop_eq_getElem_cons hlt,List.drop_eq_getElem_cons hlt',List.map_cons,List.map_cons];cases c with
    |true=>
     obtain⟨c',e',hc'⟩:=ihk (i+1) (by omega) hab;rw[zq1 rfl];exact⟨c',e',by rw[hc'];simp[hc.1 rfl]⟩
    |false=>
     rw[zq0 (by decide)];exact⟨false,rfl,by simp;intro h;exact absurd (hc.2 h) (by simp)⟩
  rw[y6K];unfold z2l;rw[z3R a,z3R b];by_cases h1:a.K=b.K
  ·rw[zq1 h1];by_cases h2:a.N=b.N
   ·rw[zq1 h2];by_cases h3:a.S=b.S
    ·rw[zq1 h3];by_cases h4:(List.length a.L:Int)=(List.length b.L:Int)
     ·rw[zq1 h4];obtain⟨c,e,hc⟩:=loop a.L.length 0 (by omega) (by omega);exact⟨c,e,by rw[hc];simp[h1,h2,h3]⟩
     ·rw[zq0 h4];refine⟨_,rfl,by simp;intro _ _ _ hx;exact h4 (by have:=congrArg List.length hx;simp at this;omega)⟩
    ·rw[zq0 h3];exact⟨_,rfl,by simp;intro _ _ hx;exact absurd hx h3⟩
   ·rw[zq0 h2];exact⟨_,rfl,by simp;intro _ hx;exact absurd hx h2⟩
  ·rw[zq0 h1];exact⟨_,rfl,by simp;intro hx;exact absurd hx h1⟩
def y7g(d:zA):Prop:=d.K=30∧d.L≠[]∧∀f∈d.L,f.K=34∧∃x,f.L=[x]
theorem z8Y{l:List zA}(h:(List.length l:Int)=1):∃x,l=[x]:=by
 match l,h with
 |[x],_=>exact⟨x,rfl⟩
 |[],h=>simp at h
 |_::_::_,h=>simp at h;omega
theorem z8C(d:zA)(h:zM d≤1000000000):∃b,z0z d=some b∧(b=true↔y7g d):=by
 have hl:=vX d;have loop:∀(k i:Nat),i+k=d.L.length→∃b,yF i d=some b∧(b=true↔∀f∈d.L.drop i,f.K=34∧∃x,f.L=[x]):=by
  intro k;induction k with
  |zero=>
   intro i hi;rw[z4n];unfold uM;rw[zq0 (by omega),List.drop_eq_nil_of_le (by omega)];exact⟨_,rfl,by simp⟩
  |succ k ihk=>
   intro i hi;have hlt:i<d.L.length:=by omega
   rw[z4n];unfold uM;rw[zq1 (by omega),wU hlt,zB,zB,z4d (by omega),List.drop_eq_getElem_cons hlt];by_cases h1:d.L[i].K=34
   ·rw[zq1 h1];by_cases h2:(List.length d.L[i].L:Int)=1
    ·rw[zq1 h2];obtain⟨b,e,hb⟩:=ihk (i+1) (by omega);refine⟨b,e,?_⟩;rw[hb,List.forall_mem_cons];exact⟨fun h=>⟨⟨h1,z8Y h2⟩,h⟩,fun h=>h.2⟩
    ·rw[zq0 h2];exact⟨_,rfl,⟨fun h=>Bool.noConfusion h,fun h=>by
      obtain⟨x,hx⟩:=(h _ (List.mem_cons_self ..)).2;exact absurd (by rw[hx];rfl) h2⟩⟩
   ·rw[zq0 h1];exact⟨_,rfl,⟨fun h=>Bool.noConfusion h,fun h=>absurd (h _ (List.mem_cons_self ..)).1 h1⟩⟩
 unfold z0z;by_cases h1:d.K=30
 ·rw[zq1 h1];by_cases h2:(List.length d.L:Int)=0
  ·rw[zq1 h2];exact⟨_,rfl,⟨fun h=>Bool.noConfusion h,fun h=>absurd (List.length_eq_zero_iff.1 (by omega)) h.2.1⟩⟩
  ·rw[zq0 h2];obtain⟨b,e,hb⟩:=loop d.L.length 0 (by omega);refine⟨b,e,?_⟩;rw[hb];exact⟨fun h=>⟨h1,fun e=>h2 (by rw[e];rfl),h⟩,fun h=>h.2.2⟩
 ·rw[zq0 h1];exact⟨_,rfl,⟨fun h=>Bool.noConfusion h,fun h=>absurd h.1 h1⟩⟩
inductive OkT(m:zA):zA→Prop
 |int (t:zA):t.K=1→t.L=[]→OkT m t
 |bool (t:zA):t.K=2→t.L=[]→OkT m t
 |arr (t e:zA):t.K=3→t.L=[e]→1≤t.N→t.N≤16→OkT m e→OkT m t
 |rcd (t d:zA):t.K=4→t.L=[]→0≤t.N→m.L[t.N.toNat]?=some d→y7g d→(∀f x,f∈d.L→f.L=[x]→OkT m x)→OkT m t
def z8U(m:zA)(l:List Int):Nat:=((List.range m.L.length).filter fun i:Nat=>decide ((i:Int) ∉ l)).length
theorem y8n(m:zA)(l:List Int):z8U m l≤m.L.length:=by
 have:=List.length_filter_le (fun i:Nat=>decide ((i:Int) ∉ l)) (List.range m.L.length);simpa [z8U]using this
theorem y6n(l:List Nat)(p:Nat→Bool)(a:Nat)(hn:l.Nodup)(ha:a∈l)(hp:p a=true):(l.filter fun i=>p i && decide (i≠a)).length+1=(l.filter p).length:=by
 induction l with
 |nil=>cases ha
 |cons x r ih=>
  rw[List.nodup_cons]at hn;rcases List.mem_cons.1 ha with rfl|ha
  ·rw[List.filter_cons_of_neg (by simp),List.filter_cons_of_pos hp,List.length_cons];congr 2;refine List.filter_congr fun y hy=>?_;have:y≠a:=fun e=>hn.1 (e▸hy);simp[this]
  ·have:=ih hn.2 ha;have hne:x≠a:=fun e=>hn.1 (e▸ha);by_cases hx:p x=true
   ·rw[List.filter_cons_of_pos (by simp[hx,hne]),List.filter_cons_of_pos hx,List.length_cons,List.length_cons];omega
   ·rw[List.filter_cons_of_neg (by simp[hx]),List.filter_cons_of_neg hx];exact this
theorem y6t{m:zA}{l:List Int}{a:Nat}(ha:a<m.L.length)(hl:(a:Int) ∉ l):z8U m (l++[(a:Int)])+1=z8U m l:=by
 unfold z8U;rw[←y6n (List.range m.L.length) (fun i:Nat=>decide ((i:Int) ∉ l)) a List.nodup_range (List.mem_range.2 ha) (by simp[hl])];congr 2;refine List.filter_congr fun y hy=>?_;have:((y:Int)=(a:Int))↔y=a:=by omega
 rw[Bool.eq_iff_iff];simp[this]
theorem v2V(m:zA)(a:Nat)(l:List Int)(hl:l.length≤1000000000):∀(k i:Nat),i+k=l.length →
  zS l a i m=(if(a:Int)∈l.drop i then some 0 else zS l a (l.length:Int) m):=by
 intro k;induction k with
 |zero=>
  intro i hi;rw[List.drop_eq_nil_of_le (by omega),zq0 (by simp),show i=l.length by omega]
 |succ k ih=>
  intro i hi;have hlt:i<l.length:=by omega
  rw[z1X (i:=(i:Int))];unfold wP;rw[zq1 (by omega),wU hlt,zB,z4d (by omega),ih (i+1) (by omega),List.drop_eq_getElem_cons hlt];by_cases h:l[i]=(a:Int)
  ·rw[zq1 h,zq1 (by rw[h];exact List.mem_cons_self ..)]
  ·rw[zq0 h];have:((a:Int)∈l[i]::l.drop (i+1))↔(a:Int)∈l.drop (i+1):=by
    rw[List.mem_cons];exact⟨fun h'=>h'.elim (fun e=>absurd e.symm h) id,.inr⟩
   simp only[this]
theorem y2h (m:zA) (hm:zM m≤1000000000) (l:List Int) (rec:∀l':List Int,z8U m l'<z8U m l→l'.length+z8U m l'≤1000000000→∀t:zA,zM t≤1000000000 →
  ∃n,zI m t l'=some n∧0≤n∧n≤64∧(n≠0→OkT m t∧∀l'':List Int,l''.length≤l'.length→(∀x∈l'',x∈l')→zI m t l''=some n))
  (hb:l.length+z8U m l≤1000000000) (t:zA) (ht:zM t≤1000000000):
  ∃n,zI m t l=some n∧0≤n∧n≤64∧(n≠0→OkT m t∧∀l':List Int,l'.length≤l.length→(∀x∈l',x∈l)→zI m t l'=some n):=by
 induction t using zA.ind with
 |h t iht=>
  have hml:=vX m;have wZ:∀K0:Int,(K0=1∨K0=2)→t.K=K0→∃n,zI m t l=some n∧0≤n∧n≤64∧(n≠0→OkT m t∧∀l':List Int,l'.length≤l.length→(∀x∈l',x∈l)→zI m t l'=some n):=by
   intro K0 hK hk;have e:∀l',zI m t l'=if(List.length t.L:Int)=0 then some 1 else some 0:=fun l'=>by
    rw[uX];unfold wH;rcases hK with rfl|rfl
    ·rw[zq1 hk]
    ·rw[zq0 (by omega),zq1 hk]
   by_cases h0:(List.length t.L:Int)=0
   ·have hnil:t.L=[]:=List.length_eq_zero_iff.1 (by omega);refine⟨1,by rw[e,zq1 h0],by omega,by omega,fun _=>⟨?_,fun l' _ _=>by rw[e,zq1 h0]⟩⟩;rcases hK with rfl|rfl
    ·exact .int t hk hnil
    ·exact .bool t hk hnil
   ·rw[e,zq0 h0];exact⟨0,rfl,by omega,by omega,fun h=>absurd rfl h⟩
  by_cases k1:t.K=1
  ·exact wZ 1 (.inl rfl) k1
  by_cases k2:t.K=2
  ·exact wZ 2 (.inr rfl) k2
  by_cases k3:t.K=3
  ·by_cases hc:(List.length t.L:Int)=1∧t.N≥1∧t.N≤16
   ·obtain⟨h1,h2,h3⟩:=hc;obtain⟨x,hx⟩:=z8Y h1;have e:∀l',zI m t l'=zI m x l'>>=fun q3=>if(IntKind.wrap .i64 (q3*t.N))>64 then some 0 else some (IntKind.wrap .i64 (q3*t.N)):=fun l'=>by
     rw[uX m t];unfold wH;rw[zq0 k1,zq0 k2,zq1 k3,zq1 h1,zq1 h2,zq1 h3,hx];rfl
    obtain⟨n,e1,n0,n1,hn⟩:=iht x (by rw[hx];exact List.mem_singleton_self x) (by have:=zV (x:=x) (t:=t) (by rw[hx];exact List.mem_singleton_self x);omega);have hmul:n*t.N≤64*16:=Int.mul_le_mul n1 h3 (by omega) (by omega);have hmul0:0≤n*t.N:=Int.mul_nonneg n0 (by omega);have hw:IntKind.wrap .i64 (n*t.N)=n*t.N:=z2v (by omega) (by omega);rw[e,e1,zB,hw];by_cases hg:n*t.N>64
    ·rw[zq1 hg];exact⟨0,rfl,by omega,by omega,fun h=>absurd rfl h⟩
    ·rw[zq0 hg];refine⟨_,rfl,hmul0,by omega,fun hne=>?_⟩;have hn0:n≠0:=fun h=>hne (by rw[h,Int.zero_mul]);obtain⟨o1,o2⟩:=hn hn0;exact⟨.arr t x k3 hx h2 h3 o1,fun l' h1' h2'=>by rw[e,o2 l' h1' h2',zB,hw,zq0 hg]⟩
   ·have e:zI m t l=some 0:=by
     rw[uX m t];unfold wH;rw[zq0 k1,zq0 k2,zq1 k3];by_cases c1:(List.length t.L:Int)=1
     ·rw[zq1 c1];by_cases c2:t.N≥1
      ·rw[zq1 c2,zq0 (fun c3=>hc ⟨c1,c2,c3⟩)]
      ·rw[zq0 c2]
     ·rw[zq0 c1]
    rw[e];exact⟨0,rfl,by omega,by omega,fun h=>absurd rfl h⟩
  by_cases k4:t.K=4
  ·by_cases hc:(List.length t.L:Int)=0∧0≤t.N∧t.N<(List.length m.L:Int)
   ·obtain⟨h1,h2,h3⟩:=hc;obtain⟨a,ha⟩:∃a:Nat,t.N=a:=⟨t.N.toNat,by omega⟩;have halt:a<m.L.length:=by omega
    have hdm:=List.getElem_mem halt;have hds:=zV hdm;have e:∀l':List Int,l'.length≤1000000000→zI m t l'=if(a:Int)∈l' then some 0 else z0z m.L[a]>>=fun q1=>if q1=true then zK l' a 0 0 m m.L[a]else some 0:=fun l' hl'=>by
     rw[uX m t];unfold wH;rw[zq0 k1,zq0 k2,zq0 k3,zq1 k4,zq1 h1,zq0 (by omega),zq0 (by omega),ha];have:=v2V m a l' hl' l'.length 0 (by omega);rw[List.drop_zero]at this;rw[show(0:Int)=((0:Nat):Int)from rfl,this];congr 1;rw[z1X];unfold wP;rw[zq0 (by omega),wU halt,zB];rfl
    rw[e l (by omega)];by_cases hin:(a:Int)∈l
    ·rw[zq1 hin];exact⟨0,rfl,by omega,by omega,fun h=>absurd rfl h⟩
    ·rw[zq0 hin];obtain⟨b,eb,hb'⟩:=z8C m.L[a] (by omega);rw[eb,zB];cases b with
     |false=>rw[zq0 (by decide)];exact⟨0,rfl,by omega,by omega,fun h=>absurd rfl h⟩
     |true=>
      rw[zq1 rfl];have hrec:=hb'.1 rfl;have hfs:=y6t halt hin;have hfl:=y8n m l;have loop:∀(k i:Nat) (s:Int),i+k=m.L[a].L.length→0≤s→s≤64 →
        ∃n,zK l a s i m m.L[a]=some n∧0≤n∧n≤64∧(n≠0→s≤n∧(∀f x,f∈m.L[a].L.drop i→f.L=[x]→OkT m x) ∧
         ∀l':List Int,l'.length≤l.length→(∀x∈l',x∈l)→zK l' a s i m m.L[a]=some n):=by
       intro k;induction k with
       |zero=>
        intro i s hi s0 s1;have e0:∀l',zK l' a s i m m.L[a]=some s:=fun l'=>by
         rw[z1Y];unfold wQ;rw[zq0 (by omega)]
        exact⟨s,e0 l,s0,s1,fun _=>⟨by omega,fun f x hf=>(by rw[List.drop_eq_nil_of_le (by omega)]at hf;cases hf),fun l' _ _=>e0 l'⟩⟩
       |succ k ihk=>
        intro i s hi s0 s1;have hlt:i<m.L[a].L.length:=by omega
        have hfm:=List.getElem_mem hlt;obtain⟨-,x,hx⟩:=hrec.2.2 _ hfm;have hfsz:=zV hfm;have hxsz:=zV (x:=x) (t:=m.L[a].L[i]) (by rw[hx];exact List.mem_singleton_self x);have e0:∀l':List Int,l'.length≤1000000000→zK l' a s i m m.L[a]=zI m x (l'++[(a:Int)])>>=fun q1=>if q1=0 then some 0 else if(IntKind.wrap .i64 (s+q1))>64 then some 0 else zK l' a (IntKind.wrap .i64 (s+q1)) ((i+1:Nat):Int) m m.L[a]:=fun l' hl'=>by
         rw[z1Y (i:=(i:Int))];unfold wQ;have hdl:=vX m.L[a];rw[zq1 (by omega),wU hlt,zB,hx,show idx [x] 0=some x from rfl,zB,zq1 (z2D (by omega) (by simp;omega)),zq1 (z2D (by omega) (by simp;omega)),z4d (by omega),List.nil_append]
        obtain⟨q,eq,q0,q1,hq⟩:=rec (l++[(a:Int)]) (by omega) (by simp;omega) x (by omega);rw[e0 l (by omega),eq,zB];by_cases hq0:q=0
        ·rw[zq1 hq0];exact⟨0,rfl,by omega,by omega,fun h=>absurd rfl h⟩
        ·rw[zq0 hq0];have hw:IntKind.wrap .i64 (s+q)=s+q:=z2v (by omega) (by omega);rw[hw];by_cases hg:s+q>64
         ·rw[zq1 hg];exact⟨0,rfl,by omega,by omega,fun h=>absurd rfl h⟩
         ·rw[zq0 hg];obtain⟨n,en,n0,n1,hn⟩:=ihk (i+1) (s+q) (by omega) (by omega) (by omega);refine⟨n,en,n0,n1,fun hne=>?_⟩;obtain⟨o0,o1,o2⟩:=hn hne;obtain⟨p1,p2⟩:=hq hq0;refine⟨by omega,fun f y hf hy=>?_,fun l' h1' h2'=>?_⟩
          ·rw[List.drop_eq_getElem_cons hlt]at hf;rcases List.mem_cons.1 hf with rfl|hf
           ·rw[hx]at hy;injection hy with hy;subst hy;exact p1
           ·exact o1 f y hf hy
          ·rw[e0 l' (by omega),p2 (l'++[(a:Int)]) (by simp;omega) (fun y hy=>by
            rcases List.mem_append.1 hy with hy|hy
            ·exact List.mem_append_left _ (h2' y hy)
            ·exact List.mem_append_right _ hy),zB,zq0 hq0,hw,zq0 hg,o2 l' h1' h2']
      obtain⟨n,en,n0,n1,hn⟩:=loop m.L[a].L.length 0 0 (by omega) (by omega) (by omega);refine⟨n,en,n0,n1,fun hne=>?_⟩;obtain⟨-,o1,o2⟩:=hn hne;refine⟨.rcd t m.L[a] k4 (List.length_eq_zero_iff.1 (by omega)) h2 (by rw[ha];exact List.getElem?_eq_getElem halt) hrec (fun f x hf hx=>o1 f x (by rw[List.drop_zero];exact hf) hx),fun l' h1' h2'=>?_⟩;rw[e l' (by omega),zq0 (fun h=>hin (h2' _ h)),eb,zB,zq1 rfl];exact o2 l' h1' h2'
   ·have e:zI m t l=some 0:=by
     rw[uX m t];unfold wH;rw[zq0 k1,zq0 k2,zq0 k3,zq1 k4];by_cases c1:(List.length t.L:Int)=0
     ·rw[zq1 c1];by_cases c2:t.N<0
      ·rw[zq1 c2]
      ·rw[zq0 c2,zq1];by_cases c3:t.N≥(List.length m.L:Int)
       ·exact c3
       ·exact absurd ⟨c1,by omega,by omega⟩ hc
     ·rw[zq0 c1]
    rw[e];exact⟨0,rfl,by omega,by omega,fun h=>absurd rfl h⟩
  ·have e:zI m t l=some 0:=by
    rw[uX m t];unfold wH;rw[zq0 k1,zq0 k2,zq0 k3,zq0 k4]
   rw[e];exact⟨0,rfl,by omega,by omega,fun h=>absurd rfl h⟩
theorem y6Z(m:zA)(hm:zM m≤1000000000):∀(k:Nat) (l:List Int),z8U m l≤k→l.length+z8U m l≤1000000000→∀t:zA,zM t≤1000000000 →
  ∃n,zI m t l=some n∧0≤n∧n≤64∧(n≠0→OkT m t∧∀l':List Int,l'.length≤l.length→(∀x∈l',x∈l)→zI m t l'=some n):=by
 intro k;induction k with
 |zero=>exact fun l hk hb=>y2h m hm l (fun l' h _=>absurd h (by omega)) hb
 |succ k ih=>exact fun l hk hb=>y2h m hm l (fun l' h hb'=>ih l' (by omega) hb') hb
def Good(m t:zA):Prop:=∃n,zI m t []=some n∧n≠0
theorem v3n{m t:zA}(hm:zM m≤1000000000)(ht:zM t≤1000000000):∃n,zI m t []=some n∧0≤n∧n≤64∧(n≠0→OkT m t):=by
 have hf:=y8n m [];have hl:=vX m;obtain⟨n,e,h0,h1,h⟩:=y6Z m hm (z8U m []) [] (Nat.le_refl _) (by simp;omega) t ht;exact⟨n,e,h0,h1,fun hn=>(h hn).1⟩
theorem z6X{m t:zA}(hm:zM m≤1000000000)(ht:zM t≤1000000000):∃n,gN m t=some n∧0≤n∧(n≠0↔Good m t):=by
 obtain⟨n,e,h0,h1,h⟩:=v3n hm ht;refine⟨n,by unfold gN;rw[e];rfl,h0,fun hn=>⟨n,e,hn⟩,fun⟨k,e',hk⟩=>?_⟩;rw[e]at e';cases e';exact hk
theorem Good.arr{m t e:zA}(hm:zM m≤1000000000)(ht:zM t≤1000000000)(h:Good m t)(hk:t.K=3)(hl:t.L=[e]):Good m e:=by
 obtain⟨n,hn,h0⟩:=h;rw[uX]at hn;unfold wH at hn;rw[zq0 (by omega),zq0 (by omega),zq1 hk,hl]at hn;obtain⟨-,hn⟩|⟨hx,hn⟩:(True∧_)∨(¬(List.length [e]:Int)=1∧_):=by
  by_cases c:(List.length [e]:Int)=1
  ·rw[zq1 c]at hn;exact .inl ⟨trivial,hn⟩
  ·rw[zq0 c]at hn;exact .inr ⟨c,hn⟩
 ·by_cases c1:t.N≥1
  ·rw[zq1 c1]at hn;by_cases c2:t.N≤16
   ·rw[zq1 c2]at hn;obtain⟨x,hx,hn⟩:=zE hn;cases hx;obtain⟨q,hq,hn⟩:=zE hn;refine⟨q,hq,fun e0=>?_⟩;subst e0;rw[Int.zero_mul]at hn;have:IntKind.wrap .i64 0=0:=by decide
    rw[this]at hn;simp at hn;exact h0 hn.symm
   ·rw[zq0 c2]at hn;cases hn;exact absurd rfl h0
  ·rw[zq0 c1]at hn;cases hn;exact absurd rfl h0
 ·exact absurd rfl hx
theorem y8l{m d:zA}(hm:zM m≤1000000000)(hd:d∈m.L)(a:Nat)(ha:a<m.L.length)(hr:y7g d):∀(k i:Nat) (s n:Int),i+k=d.L.length→0≤s→s≤64→zK [] a s i m d=some n→n≠0→∀f x,f∈d.L.drop i→f.L=[x]→Good m x:=by
 have hds:=zV hd;have hdl:=vX d;have hml:=vX m;intro k;induction k with
 |zero=>intro i s n hi _ _ _ _ f x hf _;rw[List.drop_eq_nil_of_le (by omega)]at hf;cases hf
 |succ k ih=>
  intro i s n hi hs0 hs1 hn h0 f x hf hx;have hlt:i<d.L.length:=by omega
  have hfm:=List.getElem_mem hlt;obtain⟨-,y,hy⟩:=hr.2.2 _ hfm;have hfsz:=zV hfm;have hysz:=zV (x:=y) (t:=d.L[i]) (by rw[hy];exact List.mem_singleton_self y);rw[z1Y (i:=(i:Int))]at hn;unfold wQ at hn;rw[zq1 (by omega),wU hlt,zB,hy,show idx [y] 0=some y from rfl,zB,zq1 (z2D (by omega) (by simp)),zq1 (z2D (by omega) (by simp)),z4d (by omega),List.nil_append,List.nil_append]at hn;have hfr:=y6t (l:=[]) ha (by simp);have hfl:=y8n m [];rw[List.nil_append]at hfr
  obtain⟨q,eq,q0,q1,hq⟩:=y6Z m hm (z8U m [(a:Int)]) [(a:Int)] (Nat.le_refl _) (by simp;omega) y (by omega);rw[eq,zB]at hn;by_cases hq0:q=0
  ·rw[zq1 hq0]at hn;cases hn;exact absurd rfl h0
  ·rw[zq0 hq0]at hn;have hw:IntKind.wrap .i64 (s+q)=s+q:=z2v (by omega) (by omega);rw[hw]at hn;by_cases hg:s+q>64
   ·rw[zq1 hg]at hn;cases hn;exact absurd rfl h0
   ·rw[zq0 hg]at hn;rw[List.drop_eq_getElem_cons hlt]at hf;rcases List.mem_cons.1 hf with rfl|hf
    ·rw[hy]at hx;injection hx with hx;subst hx;exact⟨q,(hq hq0).2 [] (by simp) (fun _ h=>by cases h),hq0⟩
    ·exact ih (i+1) (s+q) n (by omega) (by omega) (by omega) hn h0 f x hf hx
theorem Good.rcd{m t d f x:zA}(hm:zM m≤1000000000)(h:Good m t)(hk:t.K=4)(h0:0≤t.N)(hd:m.L[t.N.toNat]?=some d)(hr:y7g d)(hf:f∈d.L)(hx:f.L=[x]):Good m x:=by
 obtain⟨n,hn,hn0⟩:=h;obtain⟨a,ha⟩:∃a:Nat,t.N=a:=⟨t.N.toNat,by omega⟩;have halt:a<m.L.length:=by
  have:=(List.getElem?_eq_some_iff.1 hd).1;omega
 have hdm:d∈m.L:=List.mem_of_getElem? hd;have hds:=zV hdm;rw[uX]at hn;unfold wH at hn;rw[zq0 (by omega),zq0 (by omega),zq0 (by omega),zq1 hk]at hn;by_cases c:(List.length t.L:Int)=0
 ·rw[zq1 c,zq0 (by omega),zq0 (by omega),ha]at hn;rw[z1X]at hn;unfold wP at hn;rw[zq0 (by simp),y1C]at hn;rw[ha]at hd;rw[show m.L[a]?=some d from hd,zB]at hn;obtain⟨b,eb,hb⟩:=z8C d (by omega);rw[eb,zB]at hn;have:b=true:=hb.2 hr;subst this;rw[zq1 rfl]at hn;exact y8l hm hdm a halt hr d.L.length 0 0 n (by omega) (by omega) (by omega) hn hn0 f x (by simpa using hf) hx
 ·rw[zq0 c]at hn;cases hn;exact absurd rfl hn0
def hd(t:zA):zA:=t.L.headD ⟨0,0,[],[],0,0⟩
@[reducible] def v0q:zA:=⟨1,0,[],[],0,0⟩
@[reducible] def y3H:zA:=⟨2,0,[],[],0,0⟩
theorem v0p(f:zA→zA)(l:List zA)(h:∀x∈l,zM (f x)=zM x):vP (l.map f)=vP l:=by
 induction l with
 |nil=>rfl
 |cons x r ih=>simp only[List.map_cons,vP];rw[h x (List.mem_cons_self ..),ih fun y hy=>h y (List.mem_cons_of_mem _ hy)]
theorem z7n(t:zA):zM (z0g t)=zM t:=by
 induction t using zA.ind with
 |h t ih=>rw[z3R,wX,wX t];simp only;rw[v0p _ _ ih]
theorem y5s(t:zA):z0g (z0g t)=z0g t:=by
 induction t using zA.ind with
 |h t ih=>
  rw[z3R t,z3R];simp only[zA.mk.injEq,and_self,true_and,and_true,List.map_map];exact List.map_congr_left fun x hx=>ih x hx
theorem z4Z(t:zA)(k:Int):∃b,z2o t k=some b∧(b=true↔t.K=k∧t.L=[]):=by
 unfold z2o;by_cases h:t.K=k
 ·rw[zq1 h];exact⟨_,rfl,by simp[h]⟩
 ·rw[zq0 h];exact⟨_,rfl,by simp[h]⟩
inductive y8J(op:Int)(a b:zA):zA→Prop
 |logic:(op=1∨op=2)→(a.K=2∧a.L=[])→(b.K=2∧b.L=[])→y8J op a b y3H
 |eqi:(op=3∨op=4)→(a.K=1∧a.L=[])→(b.K=1∧b.L=[])→y8J op a b y3H
 |eqb:(op=3∨op=4)→(a.K=2∧a.L=[])→(b.K=2∧b.L=[])→y8J op a b y3H
 |less:5≤op→op≤8→(a.K=1∧a.L=[])→(b.K=1∧b.L=[])→y8J op a b y3H
 |num:9≤op→(a.K=1∧a.L=[])→(b.K=1∧b.L=[])→y8J op a b v0q
theorem v3F(op:Int)(a b:zA):∃τ,z7f op a b=some τ∧(τ.K=0∨y8J op a b τ):=by
 obtain⟨i1,e1,h1⟩:=z4Z a 1;obtain⟨i2,e2,h2⟩:=z4Z b 1;obtain⟨b1,e3,h3⟩:=z4Z a 2;obtain⟨b2,e4,h4⟩:=z4Z b 2;have J7:∀(ints:Bool) o,(ints=true→i1=true∧i2=true)→∃τ,z0l op ints o=some τ∧(τ.K=0∨y8J op a b τ):=by
  intro ints o hi;unfold z0l z3V;by_cases c:op≥9
  ·rw[zq1 c];cases ints with
   |true=>rw[zq1 rfl];exact⟨_,rfl,.inr (.num c (h1.1 (hi rfl).1) (h2.1 (hi rfl).2))⟩
   |false=>rw[zq0 (by decide)];exact⟨_,rfl,.inl rfl⟩
  ·rw[zq0 c];exact⟨_,rfl,.inl rfl⟩
 have J5:∀(ints:Bool) o,(ints=true→i1=true∧i2=true)→∃τ,jI op ints o=some τ∧(τ.K=0∨y8J op a b τ):=by
  intro ints o hi;unfold jI uS;cases ints with
  |false=>simp only[Bool.false_eq_true,if_false,ite_self];exact J7 _ _ hi
  |true=>
   simp only[if_true];have fin:5≤op→op≤8→∃τ,(some (zA.mk 2 0 [] [] 0 0)>>=fun q=>some q)=some τ∧(τ.K=0∨y8J op a b τ):=fun c1 c2=>⟨_,rfl,.inr (.less c1 c2 (h1.1 (hi rfl).1) (h2.1 (hi rfl).2))⟩;by_cases c:op=5
   ·rw[zq1 c];exact fin (by omega) (by omega)
   rw[zq0 c];by_cases c:op=6
   ·rw[zq1 c];exact fin (by omega) (by omega)
   rw[zq0 c];by_cases c:op=7
   ·rw[zq1 c];exact fin (by omega) (by omega)
   rw[zq0 c];by_cases c:op=8
   ·rw[zq1 c];exact fin (by omega) (by omega)
   rw[zq0 c];exact J7 _ _ hi
 have J3:∀(ints bools:Bool) o,(ints=true→i1=true∧i2=true)→(bools=true→b1=true∧b2=true)→∃τ,z2q op ints bools o=some τ∧(τ.K=0∨y8J op a b τ):=by
  intro ints bools o hi hb;unfold z2q uS;have L:(op=1∨op=2)→∃τ,(if bools=true then(some (zA.mk 2 0 [] [] 0 0)>>=fun q=>some q)else jI op ints o)=some τ∧(τ.K=0∨y8J op a b τ):=fun c=>by
   cases bools with
   |true=>rw[zq1 rfl];exact⟨_,rfl,.inr (.logic c (h3.1 (hb rfl).1) (h4.1 (hb rfl).2))⟩
   |false=>rw[zq0 (by decide)];exact J5 _ _ hi
  have E:(op=3∨op=4)→∃τ,(if ints=true then(some (zA.mk 2 0 [] [] 0 0)>>=fun q=>some q)else if bools=true then(some (zA.mk 2 0 [] [] 0 0)>>=fun q=>some q)else jI op ints o)=some τ∧(τ.K=0∨y8J op a b τ):=fun c=>by
   cases ints with
   |true=>rw[zq1 rfl];exact⟨_,rfl,.inr (.eqi c (h1.1 (hi rfl).1) (h2.1 (hi rfl).2))⟩
   |false=>
    rw[zq0 (by decide)];cases bools with
    |true=>rw[zq1 rfl];exact⟨_,rfl,.inr (.eqb c (h3.1 (hb rfl).1) (h4.1 (hb rfl).2))⟩
    |false=>rw[zq0 (by decide)];exact J5 _ _ hi
  by_cases c:op=1
  ·rw[zq1 c];exact L (.inl c)
  rw[zq0 c];by_cases c:op=2
  ·rw[zq1 c];exact L (.inr c)
  rw[zq0 c];by_cases c:op=3
  ·rw[zq1 c];exact E (.inl c)
  rw[zq0 c];by_cases c:op=4
  ·rw[zq1 c];exact E (.inr c)
  rw[zq0 c];exact J5 _ _ hi
 have J2:∀(ints:Bool) o,(ints=true→i1=true∧i2=true)→∃τ,z2p op ints a b o=some τ∧(τ.K=0∨y8J op a b τ):=by
  intro ints o hi;unfold z2p;rw[e3,zB];by_cases c:b1=true
  ·rw[zq1 c,e4,zB];exact J3 _ _ _ hi fun h=>⟨c,h⟩
  ·rw[zq0 c];exact J3 _ _ _ hi fun h=>Bool.noConfusion h
 unfold z7f;rw[e1,zB];by_cases c:i1=true
 ·rw[zq1 c,e2,zB];exact J2 _ _ fun h=>⟨c,h⟩
 ·rw[zq0 c];exact J2 _ _ fun h=>Bool.noConfusion h
theorem y9a(t:zA):z0b t=some (if t.K=5 then v0q else if t.K=6 then y3H else⟨0,0,[],[],0,0⟩):=by
 unfold z0b z3V uS;by_cases h:t.K=5
 ·rw[zq1 h,zq1 h];rfl
 ·rw[zq0 h,zq0 h];by_cases h:t.K=6
  ·rw[zq1 h,zq1 h];rfl
  ·rw[zq0 h,zq0 h]
theorem y3c{α:Type}{l:List α}{n:Int}(h0:0≤n)(h:n<(l.length:Int)):∃x,idx l n=some x∧l[n.toNat]?=some x:=by
 obtain⟨k,hk⟩:∃k:Nat,n=k:=⟨n.toNat,by omega⟩;subst hk;exact⟨l[k],wU (by omega),by simp⟩
theorem v0c{l:List zA}(h:(List.length l:Int)=1):∃x,l=[x]:=z8Y h
theorem v3B{l:List zA}(h:(List.length l:Int)=2):∃x y,l=[x,y]:=by
 match l,h with
 |[x,y],_=>exact⟨x,y,rfl⟩
 |[],h=>simp at h
 |[_],h=>simp at h
 |_::_::_::_,h=>simp at h;omega
theorem v3J{l:List zA}(h:(List.length l:Int)=3):∃x y z,l=[x,y,z]:=by
 match l,h with
 |[x,y,z],_=>exact⟨x,y,z,rfl⟩
 |[],h=>simp at h
 |[_],h=>simp at h
 |[_,_],h=>simp at h
 |_::_::_::_::_,h=>simp at h;omega
def y7a(m:zA)(n kind:Int)(d:zA):Prop:=
 0≤n∧m.L[n.toNat]?=some d∧d.K=kind∧(kind=31→∃x,d.L=[x]∧(x.K=5∨x.K=6))∧(kind=32→∃x,d.L=[x])∧(kind=33→∃a b c,d.L=[a,b,c])∧(kind=30→y7g d)
theorem y6v(m:zA)(n kind:Int)(hm:zM m≤1000000000)(hk:30≤kind∧kind≤33):∃b,z3g m n kind=some b∧(b=true↔∃d,y7a m n kind d):=by
 have no:(∀d,¬y7a m n kind d)→∃b,some false=some b∧(b=true↔∃d,y7a m n kind d):=fun h=>⟨false,rfl,fun h=>Bool.noConfusion h,fun⟨d,hd⟩=>absurd hd (h d)⟩;unfold z3g;by_cases c:n<0
 ·rw[zq1 c];exact no fun d h=>by have:=h.1;omega
 rw[zq0 c];by_cases c':n≥(List.length m.L:Int)
 ·rw[zq1 c'];exact no fun d h=>by have:=(List.getElem?_eq_some_iff.1 h.2.1).1;omega
 rw[zq0 c'];obtain⟨x,ex,hx⟩:=y3c (l:=m.L) (n:=n) (by omega) (by omega);have hxs:=zV (List.mem_of_getElem? hx);have uniq:∀{d},y7a m n kind d→d=x:=fun h=>by have:=h.2.1;rw[hx]at this;exact(Option.some.inj this).symm
 rw[ex,zB];by_cases ck:x.K=kind
 ·rw[zq1 ck];by_cases k1:kind=31
  ·rw[zq1 k1];by_cases l1:(List.length x.L:Int)=1
   ·rw[zq1 l1];obtain⟨y,hy⟩:=v0c l1;rw[hy,show idx [y] 0=some y from rfl,zB,y9a,zB];by_cases y5:y.K=5
    ·rw[zq1 y5];exact⟨_,rfl,fun _=>⟨x,by omega,hx,ck,fun _=>⟨y,hy,.inl y5⟩,by omega,by omega,by omega⟩,fun _=>rfl⟩
    ·rw[zq0 y5];by_cases y6:y.K=6
     ·rw[zq1 y6];exact⟨_,rfl,fun _=>⟨x,by omega,hx,ck,fun _=>⟨y,hy,.inr y6⟩,by omega,by omega,by omega⟩,fun _=>rfl⟩
     ·rw[zq0 y6];exact no fun d h=>by
       obtain⟨z,hz,h56⟩:=h.2.2.2.1 k1;rw[uniq h,hy]at hz;injection hz with hz;subst hz;omega
   ·rw[zq0 l1];exact no fun d h=>by
     obtain⟨z,hz,h56⟩:=h.2.2.2.1 k1;rw[uniq h]at hz;rw[hz]at l1;exact l1 rfl
  rw[zq0 k1];by_cases k2:kind=32
  ·rw[zq1 k2];refine⟨_,rfl,fun h=>?_,fun⟨d,h⟩=>?_⟩
   ·obtain⟨y,hy⟩:=v0c (zq2.1 h);exact⟨x,by omega,hx,ck,by omega,fun _=>⟨y,hy⟩,by omega,by omega⟩
   ·obtain⟨z,hz⟩:=h.2.2.2.2.1 k2;rw[uniq h]at hz;rw[hz];rfl
  rw[zq0 k2];by_cases k3:kind=33
  ·rw[zq1 k3];refine⟨_,rfl,fun h=>?_,fun⟨d,h⟩=>?_⟩
   ·obtain⟨y,y',y'',hy⟩:=v3J (zq2.1 h);exact⟨x,by omega,hx,ck,by omega,by omega,fun _=>⟨y,y',y'',hy⟩,by omega⟩
   ·obtain⟨z,z',z'',hz⟩:=h.2.2.2.2.2.1 k3;rw[uniq h]at hz;rw[hz];rfl
  rw[zq0 k3];obtain⟨b,eb,hb⟩:=z8C x (by omega);rw[eb,zB];refine⟨b,rfl,fun h=>⟨x,by omega,hx,ck,by omega,by omega,by omega,fun _=>hb.1 h⟩,fun⟨d,h⟩=>?_⟩;have:=h.2.2.2.2.2.2 (by omega);rw[uniq h]at this;exact hb.2 this
 ·rw[zq0 ck];exact no fun d h=>ck (by rw[←uniq h];exact h.2.2.1)
def v0s(m:zA)(Γ:List zA)(t:zA):Prop:=
 (t.K=7→0≤t.N∧t.N<(Γ.length:Int))∧(t.K=8→∃d,y7a m t.N 31 d)∧(t.K=9→∃d,y7a m t.N 32 d)∧(t.K=15→∃d,y7a m t.N 30 d)∧(t.K=16→∃d,y7a m t.N 33 d)∧t.K≠17
theorem v0e(m:zA)(Γ:List zA)(t:zA)(hm:zM m≤1000000000):∃b,z4r m Γ t=some b∧(b=true↔v0s m Γ t):=by
 unfold z4r v0s;by_cases k:t.K=7
 ·rw[zq1 k];by_cases c:t.N≥0
  ·rw[zq1 c];refine⟨_,rfl,fun h=>⟨fun _=>⟨c,of_decide_eq_true h⟩,by omega,by omega,by omega,by omega,by omega⟩,fun h=>decide_eq_true (h.1 k).2⟩
  ·rw[zq0 c];exact⟨_,rfl,fun h=>Bool.noConfusion h,fun h=>absurd (h.1 k).1 (by omega)⟩
 rw[zq0 k];by_cases k8:t.K=8
 ·rw[zq1 k8];obtain⟨b,eb,hb⟩:=y6v m t.N 31 hm (by omega);rw[eb,zB];exact⟨b,rfl,fun h=>⟨by omega,fun _=>hb.1 h,by omega,by omega,by omega,by omega⟩,fun h=>hb.2 (h.2.1 k8)⟩
 rw[zq0 k8];by_cases k9:t.K=9
 ·rw[zq1 k9];obtain⟨b,eb,hb⟩:=y6v m t.N 32 hm (by omega);rw[eb,zB];exact⟨b,rfl,fun h=>⟨by omega,by omega,fun _=>hb.1 h,by omega,by omega,by omega⟩,fun h=>hb.2 (h.2.2.1 k9)⟩
 rw[zq0 k9];by_cases k15:t.K=15
 ·rw[zq1 k15];obtain⟨b,eb,hb⟩:=y6v m t.N 30 hm (by omega);rw[eb,zB];exact⟨b,rfl,fun h=>⟨by omega,by omega,by omega,fun _=>hb.1 h,by omega,by omega⟩,fun h=>hb.2 (h.2.2.2.1 k15)⟩
 rw[zq0 k15];by_cases k16:t.K=16
 ·rw[zq1 k16];obtain⟨b,eb,hb⟩:=y6v m t.N 33 hm (by omega);rw[eb,zB];exact⟨b,rfl,fun h=>⟨by omega,by omega,by omega,by omega,fun _=>hb.1 h,by omega⟩,fun h=>hb.2 (h.2.2.2.2.1 k16)⟩
 rw[zq0 k16];refine⟨_,rfl,fun h=>⟨by omega,by omega,by omega,by omega,by omega,?_⟩,fun h=>?_⟩
 ·intro e;rw[e]at h;exact absurd h (by decide)
 ·have:=h.2.2.2.2.2;simp[this]
def y0z(t:zA):Prop:=
 ((t.K=5∨t.K=7∨t.K=8∨t.K=9∨t.K=18)∧t.L=[])∨(t.K=6∧t.L=[]∧(t.N=0∨t.N=1))∨(t.K=11∧(∃a,t.L=[a])∧(t.N=1∨t.N=2)) ∨
 (t.K=10∧(∃a b,t.L=[a,b])∧1≤t.N∧t.N≤13)∨(t.K=13∧∃a,t.L=[a])∨(t.K=12∧∃a b,t.L=[a,b])∨((t.K=14∨t.K=15)∧t.L≠[])∨t.K=16∨t.K=17
theorem y8A(t:zA):∃b,z3J t=some b∧(b=true→y0z t):=by
 unfold z3J;have z:∀{K:Int},t.K=K→(K=5∨K=7∨K=8∨K=9∨K=18)→∃b,some ((List.length t.L:Int) == 0)=some b∧(b=true→y0z t):=fun hk h=>⟨_,rfl,fun e=>.inl ⟨by omega,List.length_eq_zero_iff.1 (by have:=zq2.1 e;omega)⟩⟩;by_cases k:t.K=5
 ·rw[zq1 k];exact z k (by omega)
 rw[zq0 k];by_cases k:t.K=7
 ·rw[zq1 k];exact z k (by omega)
 rw[zq0 k];by_cases k:t.K=8
 ·rw[zq1 k];exact z k (by omega)
 rw[zq0 k];by_cases k:t.K=9
 ·rw[zq1 k];exact z k (by omega)
 rw[zq0 k];by_cases k:t.K=18
 ·rw[zq1 k];exact z k (by omega)
 rw[zq0 k];by_cases k:t.K=6
 ·rw[zq1 k];by_cases l:(List.length t.L:Int)=0
  ·rw[zq1 l];have l':t.L=[]:=List.length_eq_zero_iff.1 (by omega);by_cases n:t.N=0
   ·rw[zq1 n];exact⟨_,rfl,fun _=>.inr (.inl ⟨k,l',.inl n⟩)⟩
   ·rw[zq0 n];exact⟨_,rfl,fun h=>.inr (.inl ⟨k,l',.inr (zq2.1 h)⟩)⟩
  ·rw[zq0 l];exact⟨_,rfl,fun h=>Bool.noConfusion h⟩
 rw[zq0 k];by_cases k:t.K=11
 ·rw[zq1 k];by_cases l:(List.length t.L:Int)=1
  ·rw[zq1 l];by_cases n:t.N=1
   ·rw[zq1 n];exact⟨_,rfl,fun _=>.inr (.inr (.inl ⟨k,v0c l,.inl n⟩))⟩
   ·rw[zq0 n];exact⟨_,rfl,fun h=>.inr (.inr (.inl ⟨k,v0c l,.inr (zq2.1 h)⟩))⟩
  ·rw[zq0 l];exact⟨_,rfl,fun h=>Bool.noConfusion h⟩
 rw[zq0 k];by_cases k:t.K=10
 ·rw[zq1 k];by_cases l:(List.length t.L:Int)=2
  ·rw[zq1 l];by_cases n:t.N≥1
   ·rw[zq1 n];exact⟨_,rfl,fun h=>.inr (.inr (.inr (.inl ⟨k,v3B l,n,of_decide_eq_true h⟩)))⟩
   ·rw[zq0 n];exact⟨_,rfl,fun h=>Bool.noConfusion h⟩
  ·rw[zq0 l];exact⟨_,rfl,fun h=>Bool.noConfusion h⟩
 rw[zq0 k];by_cases k:t.K=13
 ·rw[zq1 k];exact⟨_,rfl,fun h=>.inr (.inr (.inr (.inr (.inl ⟨k,v0c (zq2.1 h)⟩))))⟩
 rw[zq0 k];by_cases k:t.K=12
 ·rw[zq1 k];exact⟨_,rfl,fun h=>.inr (.inr (.inr (.inr (.inr (.inl ⟨k,v3B (zq2.1 h)⟩)))))⟩
 rw[zq0 k];have ne:decide ((List.length t.L:Int)≥1)=true→t.L≠[]:=fun h e=>by
  have:=of_decide_eq_true h;rw[e]at this;simp at this
 by_cases k:t.K=14
 ·rw[zq1 k];exact⟨_,rfl,fun h=>.inr (.inr (.inr (.inr (.inr (.inr (.inl ⟨.inl k,ne h⟩))))))⟩
 rw[zq0 k];by_cases k:t.K=15
 ·rw[zq1 k];exact⟨_,rfl,fun h=>.inr (.inr (.inr (.inr (.inr (.inr (.inl ⟨.inr k,ne h⟩))))))⟩
 rw[zq0 k];by_cases k:t.K=16
 ·rw[zq1 k];exact⟨_,rfl,fun h=>.inr (.inr (.inr (.inr (.inr (.inr (.inr (.inl k)))))))⟩
 rw[zq0 k];exact⟨_,rfl,fun h=>.inr (.inr (.inr (.inr (.inr (.inr (.inr (.inr (zq2.1 h))))))))⟩
def v3L(p l:List zA):Prop:=p.length=l.length∧∀(i:Nat) x y,p[i]?=some x→l[i]?=some y→∃z,y.L=[z]∧z0g x=z0g z
theorem y8Q(p l:List zA)(hp:∀x∈p,zM x≤1000000000)(hl:∀x∈l,zM x≤1000000000)(hn:l.length≤1000000000):∃b,z7e p l=some b∧(b=true↔v3L p l):=by
 have loop:∀(k i:Nat),i+k=l.length→p.length=l.length→∃b,vN p l i=some b∧(b=true↔∀(j:Nat) x y,i≤j→p[j]?=some x→l[j]?=some y→∃z,y.L=[z]∧z0g x=z0g z):=by
  intro k;induction k with
  |zero=>
   intro i hi hpl;rw[z7w];unfold z0i;rw[zq0 (by omega)];exact⟨_,rfl,fun _ j x y hj hx hy=>absurd (List.getElem?_eq_some_iff.1 hy).1 (by omega),fun _=>rfl⟩
  |succ k ih=>
   intro i hi hpl;have hlt:i<l.length:=by omega
   have hlt':i<p.length:=by omega
   have gl:=List.getElem?_eq_getElem hlt;have gp:=List.getElem?_eq_getElem hlt';rw[z7w];unfold z0i;rw[zq1 (by omega),wU hlt,zB];by_cases c:(List.length l[i].L:Int)=1
   ·rw[zq1 c];obtain⟨z,hz⟩:=v0c c;have hzs:zM z<zM l[i]:=zV (by rw[hz];exact List.mem_singleton_self z);have hls:=hl _ (List.getElem_mem hlt);obtain⟨b,eb,hb⟩:=y1Z p[i] (z0g z) (hp _ (List.getElem_mem hlt'));rw[wU hlt',zB,zB,hz,show idx [z] 0=some z from rfl,zB,z8M z (by omega),zB,eb,zB,z4d (by omega)];rw[y5s]at hb;cases b with
    |true=>
     rw[zq1 rfl];obtain⟨c',ec,hc⟩:=ih (i+1) (by omega) hpl;refine⟨c',ec,hc.trans ⟨fun h j x y hj hx hy=>?_,fun h j x y hj hx hy=>h j x y (by omega) hx hy⟩⟩;by_cases e:j=i
     ·subst e;rw[gp]at hx;rw[gl]at hy;cases hx;cases hy;exact⟨z,hz,hb.1 rfl⟩
     ·exact h j x y (by omega) hx hy
    |false=>
     rw[zq0 (by decide)];exact⟨_,rfl,fun h=>Bool.noConfusion h,fun h=>by
      obtain⟨z',hz',h'⟩:=h i _ _ (Nat.le_refl _) gp gl;rw[hz]at hz';injection hz' with hz';subst hz';exact hb.2 h'⟩
   ·rw[zq0 c];exact⟨_,rfl,fun h=>Bool.noConfusion h,fun h=>by
     obtain⟨z',hz',h'⟩:=h i _ _ (Nat.le_refl _) gp gl;rw[hz']at c;exact absurd rfl c⟩
 unfold z7e;by_cases c:(List.length p:Int)=(List.length l:Int)
 ·rw[zq1 c];obtain⟨b,eb,hb⟩:=loop l.length 0 (by omega) (by omega);exact⟨b,eb,hb.trans ⟨fun h=>⟨by omega,fun j x y hx hy=>h j x y (by omega) hx hy⟩,fun h j x y _ hx hy=>h.2 j x y hx hy⟩⟩
 ·rw[zq0 c];exact⟨_,rfl,fun h=>Bool.noConfusion h,fun h=>absurd h.1 (by omega)⟩
def y4P(m:zA)(r n:Int)(x:zA):Prop:=
 ∃(d f:zA) (k i:Nat),r=k∧m.L[k]?=some d∧y7g d∧d.L[i]?=some f∧f.L=[x]∧i<64∧n=k*64+i
theorem y2Y(m:zA)(n:Int)(hm:zM m≤1000000000)(h0:0≤n)(h1:n≤9223372036854775807):
  ∃q,z1w m n=some q∧(q.2=true→∃(d f:zA) (k i:Nat),m.L[k]?=some d∧d.K=30∧d.L[i]?=some f∧f.K=34∧f.L=[q.1]∧i<64∧n=k*64+i∧Int.tdiv n 64=k) ∧
   (∀(d f x:zA) (k i:Nat),m.L[k]?=some d→d.K=30→d.L[i]?=some f→f.K=34→f.L=[x]→i<64→n=k*64+i→q=(x,true)):=by
 have hml:=vX m;unfold z1w;have e1:Int.tdiv n 64=n / 64:=Int.tdiv_eq_ediv_of_nonneg h0;have e2:Int.tmod n 64=n % 64:=Int.tmod_eq_emod_of_nonneg h0;have no:(∀(d f x:zA) (k i:Nat),m.L[k]?=some d→d.K=30→d.L[i]?=some f→f.K=34→f.L=[x]→i<64→n=k*64+i→False)→∃q:zA×Bool,some ((zA.mk 0 0 [] [] 0 0),false)=some q∧(q.2=true→∃(d f:zA) (k i:Nat),m.L[k]?=some d∧d.K=30∧d.L[i]?=some f∧f.K=34∧f.L=[q.1]∧i<64∧n=k*64+i∧n / 64=k) ∧
   (∀(d f x:zA) (k i:Nat),m.L[k]?=some d→d.K=30→d.L[i]?=some f→f.K=34→f.L=[x]→i<64→n=k*64+i→q=(x,true)):=
  fun h=>⟨_,rfl,fun e=>Bool.noConfusion e,fun d f x k i a b c d' e f' g=>(h d f x k i a b c d' e f' g).elim⟩
 simp only[e1,e2];rw[zq0 (by omega),zq1 (by decide)];by_cases hb:n / 64<(List.length m.L:Int)
 ·have hw:IntKind.wrap .i64 (n / 64)=n / 64:=z2v (by omega) (by omega);rw[hw,zq0 (by omega),zq1 (by decide)];obtain⟨d,ed,hd⟩:=y3c (l:=m.L) (n:=n / 64) (by omega) hb;have uniq:∀{d':zA} {k i:Nat},m.L[k]?=some d'→i<64→n=k*64+i→d'=d∧(n % 64).toNat=i:=fun {d' k i} h hi hn=>by
   have:(n / 64).toNat=k:=by omega
   rw[this,h]at hd;exact⟨Option.some.inj hd,by omega⟩
  rw[ed,zB,zq1 (by decide)];by_cases ck:d.K=30
  ·rw[zq1 ck];by_cases cl:n % 64≥(List.length d.L:Int)
   ·rw[zq1 cl];exact no fun d' f x k i h1 h2 h3 h4 h5 h6 h7=>by
     obtain⟨rfl,e⟩:=uniq h1 h6 h7;have:=(List.getElem?_eq_some_iff.1 h3).1;omega
   ·rw[zq0 cl];obtain⟨f,ef,hf⟩:=y3c (l:=d.L) (n:=n % 64) (by omega) (by omega);rw[ef,zB];by_cases cf:f.K=34
    ·rw[zq1 cf,zB];by_cases c1:(List.length f.L:Int)=1
     ·rw[zq1 c1,zB];obtain⟨x,hx⟩:=v0c c1;rw[hx,show idx [x] 0=some x from rfl,zB];refine⟨_,rfl,fun _=>⟨d,f,(n / 64).toNat,(n % 64).toNat,hd,ck,hf,cf,hx,by omega,by omega,by omega⟩,fun d' f' x' k i h1 h2 h3 h4 h5 h6 h7=>?_⟩;obtain⟨rfl,e⟩:=uniq h1 h6 h7;rw[e,h3]at hf;cases hf;rw[hx]at h5;injection h5 with h5;subst h5;rfl
     ·rw[zq0 c1];exact no fun d' f' x k i h1 h2 h3 h4 h5 h6 h7=>by
       obtain⟨rfl,e⟩:=uniq h1 h6 h7;rw[e,h3]at hf;cases hf;rw[h5]at c1;exact c1 rfl
    ·rw[zq0 cf];exact no fun d' f' x k i h1 h2 h3 h4 h5 h6 h7=>by
      obtain⟨rfl,e⟩:=uniq h1 h6 h7;rw[e,h3]at hf;cases hf;exact cf h4
  ·rw[zq0 ck];exact no fun d' f x k i h1 h2 h3 h4 h5 h6 h7=>by
    obtain⟨rfl,e⟩:=uniq h1 h6 h7;exact ck h2
 ·rw[z2v (n:=n / 64) (by omega) (by omega),zq1 (by omega)];exact no fun d' f x k i h1 h2 h3 h4 h5 h6 h7=>by
   have:=(List.getElem?_eq_some_iff.1 h1).1;omega
theorem y9P(m t:zA)(r:Int)(hm:zM m≤1000000000)(h1:InK .i64 t.N):
  ∃q,z4p m t r=some q∧(q<0∨∃x,y4P m r q x)∧(t.S=[]→0≤t.N→(∃x,y4P m r t.N x)→q=t.N):=by
 have hml:=vX m;have h1:=i64_iff.1 h1;unfold z4p;obtain⟨b,eb,hb⟩:=y6v m r 30 hm (by omega);rw[eb,zB];cases b with
 |false=>
  rw[zq0 (by decide)];refine⟨_,rfl,.inl (by omega),fun _ _ ⟨x,d,f,k,i,h1,h2,h3,h4⟩=>?_⟩;subst h1;exact absurd (hb.2 ⟨d,by omega,h2,h3.1,by omega,by omega,by omega,fun _=>h3⟩) (by decide)
 |true=>
  rw[zq1 rfl];obtain⟨d,h0,hd,-,-,-,-,hr⟩:=hb.1 rfl;have hr:=hr rfl;have hdm:=List.mem_of_getElem? hd;have hds:=zV hdm;have hdl:=vX d;have hrl:=(List.getElem?_eq_some_iff.1 hd).1;obtain⟨k,hk⟩:∃k:Nat,r=k:=⟨r.toNat,by omega⟩;subst hk;have hd:m.L[k]?=some d:=hd;by_cases cs:t.S=[]
  ·rw[zq1 cs];by_cases cn:t.N<0
   ·have:z1w m t.N=some ((zA.mk 0 0 [] [] 0 0),false):=by unfold z1w;rw[zq1 cn]
    rw[this,zB,zq0 (by decide)];exact⟨_,rfl,.inl (by omega),fun _ h=>by omega⟩
   ·obtain⟨q,eq,hq,hq'⟩:=y2Y m t.N hm (by omega) h1.2;rw[eq,zB];have fin:(∃x,y4P m k t.N x)→q.2=true∧t.N / 64=k:=fun⟨x,d',f,k',i,h1,h2,h3,h4,h5,h6,h7⟩=>by
     rw[hq' d' f x k' i h2 h3.1 h4 (h3.2.2 f (List.mem_of_getElem? h4)).1 h5 h6 h7];exact⟨rfl,by omega⟩
    have e1:Int.tdiv t.N 64=t.N / 64:=Int.tdiv_eq_ediv_of_nonneg (by omega);by_cases c2:q.2=true
    ·rw[zq1 c2,zq1 (by decide),e1,z2v (n:=t.N / 64) (by omega) (by omega)];by_cases c3:t.N / 64=(k:Int)
     ·rw[zq1 c3];refine⟨_,rfl,.inr ?_,fun _ _ _=>rfl⟩;obtain⟨d',f,k',i,h1,h2,h3,h4,h5,h6,h7,h8⟩:=hq c2;have:k'=k:=by omega
      subst this;rw[hd]at h1;cases h1;exact⟨q.1,d,f,k',i,rfl,hd,hr,h3,h5,h6,h7⟩
     ·rw[zq0 c3];exact⟨_,rfl,.inl (by omega),fun _ _ h=>absurd (fin h).2 c3⟩
    ·rw[zq0 c2];exact⟨_,rfl,.inl (by omega),fun _ _ h=>absurd (fin h).1 c2⟩
  ·rw[zq0 cs,y1C,hd,zB];have loop:∀(j i:Nat),i+j=d.L.length→∃q,yG k i t d=some q∧(q<0∨∃x,y4P m k q x):=by
    intro j;induction j with
    |zero=>
     intro i hi;rw[z4q];unfold uN;rw[zq0 (by omega)];exact⟨_,rfl,.inl (by omega)⟩
    |succ j ih=>
     intro i hi;have hlt:i<d.L.length:=by omega
     rw[z4q];unfold uN;rw[zq1 (by omega)];by_cases c:(i:Int)<64
     ·rw[zq1 c,wU hlt,zB,z4d (by omega)];by_cases c2:d.L[i].S=t.S
      ·rw[zq1 c2,z2v (n:=(k:Int)*64) (by omega) (by omega),z2v (by omega) (by omega)];obtain⟨-,x,hx⟩:=hr.2.2 _ (List.getElem_mem hlt);exact⟨_,rfl,.inr ⟨x,d,d.L[i],k,i,rfl,hd,hr,List.getElem?_eq_getElem hlt,hx,by omega,rfl⟩⟩
      ·rw[zq0 c2];exact ih (i+1) (by omega)
     ·rw[zq0 c];exact⟨_,rfl,.inl (by omega)⟩
   obtain⟨q,e,hq⟩:=loop d.L.length 0 (by omega);exact⟨q,e,hq,fun h=>absurd h cs⟩
inductive z7V(m:zA)(Γ:List zA)(t:zA):zA→Prop
 |num:t.K=5→z7V m Γ t v0q
 |tru:t.K=6→(t.N=0∨t.N=1)→z7V m Γ t y3H
 |loc (k:Nat) (x:zA):t.K=7→t.N=k→k<Γ.length→Γ[Γ.length-1-k]?=some x→z7V m Γ t (z0g x)
 |coni (d x:zA):t.K=8→y7a m t.N 31 d→d.L=[x]→x.K=5→z7V m Γ t v0q
 |conb (d x:zA):t.K=8→y7a m t.N 31 d→d.L=[x]→x.K=6→z7V m Γ t y3H
 |glob (d x:zA):t.K=9→y7a m t.N 32 d→d.L=[x]→z7V m Γ t (z0g x)
 |read:t.K=18→z7V m Γ t v0q
theorem v1T(m:zA)(Γ:List zA)(t:zA)(B:Nat)(hB:B≤1000000000)(hm:zM m≤B)(hΓ:∀x∈Γ,zM x≤B)(hl:Γ.length≤1000000000)(hs:y0z t)(hn:v0s m Γ t)(h0:t.L=[])(hk:t.K≠16):
  ∃τ,z4o m Γ t=some τ∧z7V m Γ t τ∧zM τ≤B+1:=by
 have i1:zM v0q=1:=rfl;have i2:zM ⟨1,0,[],[],0,0⟩=1:=rfl;have b1:zM y3H=1:=rfl;unfold z4o z3V;by_cases k:t.K=7
 ·rw[zq1 k];obtain⟨n0,n1⟩:=hn.1 k;obtain⟨n,en⟩:∃n:Nat,t.N=n:=⟨t.N.toNat,by omega⟩;have e:IntKind.wrap .i64 (IntKind.wrap .i64 ((Γ.length:Int)-1)-t.N)=((Γ.length-1-n:Nat):Int):=by
   rw[z2v (n:=(Γ.length:Int)-1) (by omega) (by omega),z2v (by omega) (by omega)];omega
  have hlt:Γ.length-1-n<Γ.length:=by omega
  have hx:=hΓ _ (List.getElem_mem hlt);rw[e,wU hlt,zB,z8M _ (by omega),zB];exact⟨_,rfl,.loc n _ k en (by omega) (List.getElem?_eq_getElem hlt),by rw[z7n];omega⟩
 rw[zq0 k];by_cases k:t.K=8
 ·rw[zq1 k];obtain⟨d,hd⟩:=hn.2.1 k;obtain⟨x,hx,h56⟩:=hd.2.2.2.1 rfl;have hlt:=(List.getElem?_eq_some_iff.1 hd.2.1).1;obtain⟨y,ey,hy⟩:=y3c (l:=m.L) hd.1 (by have:=hd.1;omega);rw[hd.2.1]at hy;cases hy;rw[ey,zB,hx,show idx [x] 0=some x from rfl,zB,y9a,zB];rcases h56 with h|h
  ·rw[zq1 h];exact⟨_,rfl,.coni d x k hd hx h,by omega⟩
  ·rw[zq0 (by omega),zq1 h];exact⟨_,rfl,.conb d x k hd hx h,by omega⟩
 rw[zq0 k];by_cases k:t.K=9
 ·rw[zq1 k];obtain⟨d,hd⟩:=hn.2.2.1 k;obtain⟨x,hx⟩:=hd.2.2.2.2.1 rfl;have hlt:=(List.getElem?_eq_some_iff.1 hd.2.1).1;obtain⟨y,ey,hy⟩:=y3c (l:=m.L) hd.1 (by have:=hd.1;omega);rw[hd.2.1]at hy;cases hy;have s1:=zV (List.mem_of_getElem? hd.2.1);have s2:=zV (x:=x) (t:=d) (by rw[hx];exact List.mem_singleton_self x);rw[ey,zB,hx,show idx [x] 0=some x from rfl,zB,z8M _ (by omega),zB];exact⟨_,rfl,.glob d x k hd hx,by rw[z7n];omega⟩
 rw[zq0 k];by_cases k:t.K=18
 ·rw[zq1 k];exact⟨_,rfl,.read k,by omega⟩
 rw[zq0 k,y9a,zB];unfold y0z at hs;have h17:=hn.2.2.2.2.2;by_cases k5:t.K=5
 ·rw[zq1 k5];exact⟨_,rfl,.num k5,by omega⟩
 rw[zq0 k5];by_cases k6:t.K=6
 ·rw[zq1 k6];refine⟨_,rfl,.tru k6 ?_,by omega⟩;rcases hs with h|h|h|h|h|h|h|h|h<;>first|omega|skip
  all_goals exact h.2.2
 exfalso;rw[h0]at hs;rcases hs with h|h|⟨_,⟨a,h⟩,_⟩|⟨_,⟨a,b,h⟩,_⟩|⟨_,a,h⟩|⟨_,a,b,h⟩|⟨_,h⟩|h|h
 ·omega
 ·omega
 ·cases h
 ·cases h
 ·cases h
 ·cases h
 ·exact h rfl
 ·omega
 ·omega
inductive z6f(m t:zA)(p:List zA):zA→Int→Prop
 |bin (a b τ:zA):t.K=10→p=[a,b]→y8J t.N a b τ→z6f m t p τ t.N
 |un (a:zA):t.K=11→p=[a]→(t.N=1∧a.K=1∧a.L=[]∨t.N=2∧a.K=2∧a.L=[])→z6f m t p a t.N
 |index (a b x:zA):t.K=12→p=[a,b]→a.K=3→a.L=[x]→b.K=1→b.L=[]→z6f m t p x t.N
 |field (a x:zA) (n:Int):t.K=13→p=[a]→a.K=4→a.L=[]→y4P m a.N n x→z6f m t p (z0g x) n
 |make (d:zA):t.K=15→y7a m t.N 30 d→v3L p d.L→z6f m t p ⟨4,t.N,[],[],0,0⟩ t.N
 |call (d ps r b:zA):t.K=16→y7a m t.N 33 d→d.L=[ps,r,b]→v3L p ps.L→z6f m t p (z0g r) t.N
 |list (a:zA) (r:List zA):t.K=14→p=a::r→(∀x∈p,z0g x=z0g a)→Good m ⟨3,(p.length:Int),[],[a],0,0⟩→z6f m t p ⟨3,(p.length:Int),[],[a],0,0⟩ t.N
theorem z8E{t a b:zA}(h:t.L=[a,b]):zM t=1+zM a+zM b:=by rw[wX,h];simp only[vP];omega
theorem z0W{t a:zA}(h:t.L=[a]):zM t=1+zM a:=by rw[wX,h];simp only[vP];omega
theorem z7T{t a b c:zA}(h:t.L=[a,b,c]):zM t=1+zM a+zM b+zM c:=by rw[wX,h];simp only[vP];omega
theorem v3f (m t:zA) (p:List zA) (B:Nat) (hm:zM m≤B) (hB:B+zM t≤1000000000) (hi:InK .i64 t.N) (hs:y0z t) (hk15:t.K=15→∃d,y7a m t.N 30 d) (hk16:t.K=16→∃d,y7a m t.N 33 d)
  (hl:p.length=t.L.length) (hp:∀(i:Nat) x y,t.L[i]?=some x→p[i]?=some y→zM y≤B+zM x):
  ∃r,z6Q m t p=some r∧(r.2.2=0→z6f m t p r.1 r.2.1∧zM r.1≤B+zM t):=by
 have hml:=vX m;have htl:=vX t;have i1:zM v0q=1:=rfl;have b1:zM y3H=1:=rfl;have pos:=z2P t;have hpe:∀y∈p,zM y+1≤B+zM t:=fun y hy=>by
  obtain⟨i,hi⟩:=List.getElem?_of_mem hy;have hlt:=(List.getElem?_eq_some_iff.1 hi).1;have g:=List.getElem?_eq_getElem (l:=t.L) (i:=i) (by omega);have:=hp i _ y g hi;have:=zV (List.mem_of_getElem? g);omega
 have at_:∀{d:zA} {kind:Int},y7a m t.N kind d→idx m.L t.N=some d∧zM d≤B:=fun {d kind} h=>by
  have hlt:=(List.getElem?_eq_some_iff.1 h.2.1).1;obtain⟨y,ey,hy⟩:=y3c (l:=m.L) h.1 (by have:=h.1;omega);rw[h.2.1]at hy;cases hy;exact⟨ey,by have:=zV (List.mem_of_getElem? h.2.1);omega⟩
 have bad:∀(e:Int),e≠0→∃r:zA×Int×Int,some ((zA.mk 0 0 [] [] 0 0),(0:Int),e)=some r∧(r.2.2=0→z6f m t p r.1 r.2.1∧zM r.1≤B+zM t):=fun e he=>⟨_,rfl,fun h=>absurd h he⟩;have J17:∀o,∃r,z0P p m t o=some r∧(r.2.2=0→z6f m t p r.1 r.2.1∧zM r.1≤B+zM t):=by
  intro o;unfold z0P z3h;by_cases k:t.K=14
  ·rw[zq1 k];have hne:t.L≠[]:=by
    rcases hs with h|h|h|h|h|h|h|h|h<;>first|omega|skip
    exact h.2
   obtain⟨a,r,hpr⟩:∃a r,p=a::r:=by
    cases p with
    |nil=>exact absurd (List.length_eq_zero_iff.1 hl.symm) hne
    |cons a r=>exact⟨a,r,rfl⟩
   have ha:a∈p:=by rw[hpr];exact List.mem_cons_self ..
   have hal:=hpe a ha;have i0:idx p 0=some a:=by rw[hpr];rfl
   have loop:∀(k i:Nat),i+k=p.length→(∀x∈p.take i,z0g x=z0g a)→∃r,yT p i m t o=some r∧(r.2.2=0→z6f m t p r.1 r.2.1∧zM r.1≤B+zM t):=by
    intro k';induction k' with
    |zero=>
     intro i hi' ht;rw[z5y];unfold jH;rw[zq0 (by omega),i0,zB];have hsz:zM ⟨3,(p.length:Int),[],[a],0,0⟩=1+zM a:=z0W rfl;obtain⟨n,en,n0,hn'⟩:=z6X (m:=m) (t:=⟨3,(p.length:Int),[],[a],0,0⟩) (by omega) (by omega);rw[en,zB];by_cases c:n=0
     ·rw[zq1 c];exact bad 11 (by decide)
     ·rw[zq0 c];rw[List.take_of_length_le (by omega)]at ht;exact⟨_,rfl,fun _=>⟨.list a r k hpr ht (hn'.1 c),by simp only;omega⟩⟩
    |succ k' ih=>
     intro i hi' ht;have hlt:i<p.length:=by omega
     rw[z5y];unfold jH;obtain⟨c,ec,hc⟩:=y1Z p[i] a (by have:=hpe _ (List.getElem_mem hlt);omega);rw[zq1 (by omega),wU hlt,zB,i0,zB,ec,zB,z4d (by omega)];cases c with
     |true=>
      rw[zq1 rfl];refine ih (i+1) (by omega) fun x hx=>?_;rw[List.take_succ_eq_append_getElem hlt,List.mem_append]at hx;rcases hx with hx|hx
      ·exact ht x hx
      ·rw[List.mem_singleton.1 hx];exact hc.1 rfl
     |false=>rw[zq0 (by decide)];exact bad 10 (by decide)
   exact loop p.length 0 (by omega) (by simp)
  ·rw[zq0 k];exact bad 10 (by decide)
 have J15:∀o,∃r,z0O p m t o=some r∧(r.2.2=0→z6f m t p r.1 r.2.1∧zM r.1≤B+zM t):=by
  intro o;unfold z0O;by_cases k:t.K=16
  ·rw[zq1 k];obtain⟨d,hd⟩:=hk16 k;obtain⟨ps,r,b,hL⟩:=hd.2.2.2.2.2.1 rfl;obtain⟨ei,hds⟩:=at_ hd;have h3:=z7T hL;have hpl:=vX ps;obtain⟨c,ec,hc⟩:=y8Q p ps.L (fun x hx=>by have:=hpe x hx;omega) (fun x hx=>by have:=zV hx;omega) (by omega);rw[ei,zB,hL,show idx [ps,r,b] 0=some ps from rfl,zB,ec,zB];cases c with
   |true=>
    rw[zq1 rfl,zB,hL,show idx [ps,r,b] 1=some r from rfl,zB,z8M r (by omega),zB];exact⟨_,rfl,fun _=>⟨.call d ps r b k hd hL (hc.1 rfl),by simp only;rw[z7n];omega⟩⟩
   |false=>rw[zq0 (by decide)];exact J17 _
  ·rw[zq0 k];exact J17 _
 have J13:∀o,∃r,z0k p m t o=some r∧(r.2.2=0→z6f m t p r.1 r.2.1∧zM r.1≤B+zM t):=by
  intro o;unfold z0k;by_cases k:t.K=15
  ·rw[zq1 k];obtain⟨d,hd⟩:=hk15 k;obtain⟨ei,hds⟩:=at_ hd;have hdl:=vX d;obtain⟨c,ec,hc⟩:=y8Q p d.L (fun x hx=>by have:=hpe x hx;omega) (fun x hx=>by have:=zV hx;omega) (by omega);rw[ei,zB,ec,zB];cases c with
   |true=>
    rw[zq1 rfl];exact⟨_,rfl,fun _=>⟨.make d k hd (hc.1 rfl),by simp only;rw[wX];simp only[vP];omega⟩⟩
   |false=>rw[zq0 (by decide)];exact J15 _
  ·rw[zq0 k];exact J15 _
 have one:∀a,t.L=[a]→∃x,p=[x]:=fun a h=>by
  rw[h]at hl;exact v0c (by rw[hl];rfl)
 have two:∀a b,t.L=[a,b]→∃x y,p=[x,y]:=fun a b h=>by
  rw[h]at hl;exact v3B (by rw[hl];rfl)
 have J7:∀o,∃r,z0d p m t o=some r∧(r.2.2=0→z6f m t p r.1 r.2.1∧zM r.1≤B+zM t):=by
  intro o;unfold z0d;by_cases k:t.K=13
  ·rw[zq1 k];obtain⟨a0,ha0⟩:∃a,t.L=[a]:=by
    rcases hs with h|h|h|h|h|h|h|h|h<;>first|omega|skip
    exact h.2
   obtain⟨a,ha⟩:=one a0 ha0;rw[ha,show idx [a] 0=some a from rfl,zB,←ha];by_cases c:a.K=4
   ·rw[zq1 c,zB];by_cases c2:(List.length a.L:Int)=0
    ·have c2':a.L=[]:=List.length_eq_zero_iff.1 (by omega);rw[zq1 c2,zB];obtain⟨q,eq,hq,-⟩:=y9P m t a.N (by omega) hi;rw[eq,zB];by_cases c3:q<0
     ·rw[zq1 c3];exact bad 8 (by decide)
     ·rw[zq0 c3];obtain⟨x,hx⟩:=hq.resolve_left c3;obtain⟨d,f,k',i,h1,h2,h3,h4,h5,h6,h7⟩:=hx;have hlt:=(List.getElem?_eq_some_iff.1 h2).1;obtain⟨q2,e2,-,h2'⟩:=y2Y m q (by omega) (by omega) (by omega);have:=h2' d f x k' i h2 h3.1 h4 (h3.2.2 f (List.mem_of_getElem? h4)).1 h5 h6 h7;subst this;have s1:=zV (List.mem_of_getElem? h2);have s2:=zV (List.mem_of_getElem? h4);have s3:=z0W h5;rw[e2,zB,z8M x (by omega),zB]
      exact⟨_,rfl,fun _=>⟨.field a x q k ha c c2' ⟨d,f,k',i,h1,h2,h3,h4,h5,h6,h7⟩,by simp only;rw[z7n];omega⟩⟩
    ·rw[zq0 c2];exact J13 _
   ·rw[zq0 c];exact J13 _
  ·rw[zq0 k];exact J13 _
 have J5:∀o,∃r,z0c p m t o=some r∧(r.2.2=0→z6f m t p r.1 r.2.1∧zM r.1≤B+zM t):=by
  intro o;unfold z0c;by_cases k:t.K=12
  ·rw[zq1 k];obtain⟨a0,b0,ha0⟩:∃a b,t.L=[a,b]:=by
    rcases hs with h|h|h|h|h|h|h|h|h<;>first|omega|skip
    exact h.2
   obtain⟨a,b,ha⟩:=two a0 b0 ha0;have hsz:=hpe a (by rw[ha];exact List.mem_cons_self ..);rw[ha,show idx [a,b] 0=some a from rfl,zB,←ha];by_cases c:a.K=3
   ·rw[zq1 c,zB];by_cases c2:(List.length a.L:Int)=1
    ·obtain⟨x,hx⟩:=v0c c2;have s1:=z0W hx;obtain⟨b',eb,hb⟩:=z4Z b 1;rw[zq1 c2,ha,show idx [a,b] 1=some b from rfl,zB,eb,zB,←ha];cases b' with
     |true=>
      rw[zq1 rfl,zB,hx,show idx [x] 0=some x from rfl,zB];exact⟨_,rfl,fun _=>⟨.index a b x k ha c hx (hb.1 rfl).1 (hb.1 rfl).2,by simp only;omega⟩⟩
     |false=>rw[zq0 (by decide)];exact J7 _
    ·rw[zq0 c2];exact J7 _
   ·rw[zq0 c];exact J7 _
  ·rw[zq0 k];exact J7 _
 have J3:∀o,∃r,z1x p m t o=some r∧(r.2.2=0→z6f m t p r.1 r.2.1∧zM r.1≤B+zM t):=by
  intro o;unfold z1x;by_cases k:t.K=11
  ·rw[zq1 k];obtain⟨⟨a0,ha0⟩,hN⟩:(∃a,t.L=[a])∧(t.N=1∨t.N=2):=by
    rcases hs with h|h|h|h|h|h|h|h|h<;>first|omega|skip
    exact h.2
   obtain⟨a,ha⟩:=one a0 ha0;have hsz:=hpe a (by rw[ha];exact List.mem_cons_self ..);rw[ha,show idx [a] 0=some a from rfl,zB,zB,←ha];by_cases c:t.N=1
   ·rw[zq1 c];obtain⟨b',eb,hb⟩:=z4Z a 1;rw[eb,zB];cases b' with
    |true=>rw[zq1 rfl];exact⟨_,rfl,fun _=>⟨.un a k ha (.inl ⟨c,hb.1 rfl⟩),by simp only;omega⟩⟩
    |false=>rw[zq0 (by decide)];exact J5 _
   ·rw[zq0 c,zq1 (by omega)];obtain⟨b',eb,hb⟩:=z4Z a 2;rw[zB,eb,zB];cases b' with
    |true=>rw[zq1 rfl];exact⟨_,rfl,fun _=>⟨.un a k ha (.inr ⟨by omega,hb.1 rfl⟩),by simp only;omega⟩⟩
    |false=>rw[zq0 (by decide)];exact J5 _
  ·rw[zq0 k];exact J5 _
 unfold z6Q;by_cases k:t.K=10
 ·rw[zq1 k];obtain⟨a0,b0,ha0⟩:∃a b,t.L=[a,b]:=by
   rcases hs with h|h|h|h|h|h|h|h|h<;>first|omega|skip
   exact h.2.1
  obtain⟨a,b,ha⟩:=two a0 b0 ha0;obtain⟨τ,eτ,hτ⟩:=v3F t.N a b;rw[ha,show idx [a,b] 0=some a from rfl,show idx [a,b] 1=some b from rfl,zB,zB,eτ,zB,zB,zB,eτ,zB,←ha];by_cases c:τ.K=0
  ·rw[zq1 c];exact J3 _
  ·rw[zq0 c];refine⟨_,rfl,fun _=>⟨.bin a b τ k ha (hτ.resolve_left c),?_⟩⟩;have:zM τ=1:=by
    cases hτ.resolve_left c<;>rfl
   simp only;omega
 ·rw[zq0 k];exact J3 _
inductive TE(m:zA)(Γ:List zA):zA→zA→Prop
 |alone (t τ:zA):t.S=[]→t.From=0→t.To=0→t.L=[]→t.K≠16→z7V m Γ t τ→TE m Γ t τ
 |rule (t τ:zA) (p:List zA):t.S=[]→t.From=0→t.To=0→(t.L≠[]∨t.K=16)→p.length=t.L.length→(∀(i:Nat) x y,t.L[i]?=some x→p[i]?=some y→TE m Γ x y)→z6f m t p τ t.N→TE m Γ t τ
theorem v3X(m:zA)(Γ:List zA)(B:Nat)(hm:zM m≤B)(hΓ:∀x∈Γ,zM x≤B)(hΓl:Γ.length≤1000000000)(t:zA):zA.Wf t→B+zM t≤1000000000 →
  ∃g,wN m Γ t=some g∧(g.E=0→zM g.Type_≤B+zM t∧(g.Form=t→TE m Γ t g.Type_)):=by
 induction t using zA.ind with
 |h t ih=>
  intro hw hB;have htl:=vX t;have pos:=z2P t;obtain⟨b,eb,hb⟩:=y8A t;obtain⟨b',eb',hb'⟩:=v0e m Γ t (by omega);rw[v0h];unfold z4s z5d;rw[eb,zB];cases b with
  |false=>rw[zq0 (by decide)];exact⟨_,rfl,fun h=>absurd h (show ¬(12:Int)=0 by decide)⟩
  |true=>
   rw[zq1 rfl,eb',zB];cases b' with
   |false=>rw[zq0 (by decide)];exact⟨_,rfl,fun h=>absurd h (show ¬(8:Int)=0 by decide)⟩
   |true=>
    rw[zq1 rfl];have hs:=hb rfl;have hn:=hb'.1 rfl;have loop:∀(k i:Nat) (types forms:List zA) o,i+k=t.L.length→types.length=i→forms.length=i→(t.L≠[]∨t.K=16) →
      (∀(j:Nat) x y z,t.L[j]?=some x→types[j]?=some y→forms[j]?=some z→zM y≤B+zM x∧(z=x→TE m Γ x y)) →
      ∃g,vH Γ types forms i m t o=some g∧(g.E=0→zM g.Type_≤B+zM t∧(g.Form=t→TE m Γ t g.Type_)):=by
     intro k;induction k with
     |zero=>
      intro i types forms o hi ht hf hne hall;rw[z7x];unfold z0j z5d;rw[zq0 (by omega)];have hsz:∀(j:Nat) x y,t.L[j]?=some x→types[j]?=some y→zM y≤B+zM x:=fun j x y hx hy=>
       (hall j x y _ hx hy (List.getElem?_eq_getElem (by have:=(List.getElem?_eq_some_iff.1 hx).1;omega))).1
      obtain⟨r,er,hr⟩:=v3f m t types B hm hB hw.N_ hs hn.2.2.2.1 hn.2.2.2.2.1 (by omega) hsz;rw[er,zB];by_cases c:r.2.2=0
      ·rw[zq1 c];obtain⟨h1,h2⟩:=hr c;refine⟨_,rfl,fun _=>⟨h2,fun hF=>?_⟩⟩;have e1:=congrArg zA.N hF;have e2:=congrArg zA.S hF;have e3:=congrArg zA.L hF;have e4:=congrArg zA.From hF;have e5:=congrArg zA.To hF;simp only at e1 e2 e3 e4 e5;refine .rule t _ types e2.symm e4.symm e5.symm hne (by omega) (fun j x y hx hy=>?_) (e1▸h1);exact(hall j x y x hx hy (by rw[e3];exact hx)).2 rfl
      ·rw[zq0 c];exact⟨_,rfl,fun h=>absurd h c⟩
     |succ k ihk=>
      intro i types forms o hi ht hf hne hall;have hlt:i<t.L.length:=by omega
      have hm':=List.getElem_mem hlt;have hsz:=zV hm';obtain⟨g,eg,hg⟩:=ih _ hm' (hw.L_.2 _ hm') (by omega);rw[z7x];unfold z0j;rw[zq1 (by omega),wU hlt,zB,eg,zB];by_cases c:g.E=0
      ·rw[zq1 c,zq1 (z2D (by omega) (by simp;omega)),zq1 (z2D (by omega) (by simp;omega)),z4d (by omega)];refine ihk (i+1) _ _ o (by omega) (by simp[ht]) (by simp[hf]) hne fun j x y z hx hy hz=>?_;by_cases hj:j<i
       ·rw[List.getElem?_append_left (by omega)]at hy hz;exact hall j x y z hx hy hz
       ·have hj':j=i:=by have:=(List.getElem?_eq_some_iff.1 hy).1;simp at this;omega
        subst hj';rw[List.getElem?_append_right (by omega)]at hy hz;rw[ht,Nat.sub_self]at hy;rw[hf,Nat.sub_self]at hz;rw[List.getElem?_eq_getElem hlt]at hx;cases hx;cases hy;cases hz;exact hg c
      ·rw[zq0 c];exact⟨_,rfl,fun h=>absurd h c⟩
    have start:=fun o h=>loop t.L.length 0 [] [] o (by omega) rfl rfl h (fun j x y z _ hy _=>by simp at hy);by_cases c:(List.length t.L:Int)=0
    ·rw[zq1 c];have c':t.L=[]:=List.length_eq_zero_iff.1 (by omega);by_cases k:t.K=16
     ·rw[zq1 k];exact start _ (.inr k)
     ·rw[zq0 k];obtain⟨τ,eτ,hτ,hτs⟩:=v1T m Γ t B (by omega) hm hΓ hΓl hs hn c' k;rw[eτ,zB];refine⟨_,rfl,fun _=>⟨by simp only;omega,fun hF=>?_⟩⟩;have e2:=congrArg zA.S hF;have e4:=congrArg zA.From hF;have e5:=congrArg zA.To hF;exact .alone t _ e2.symm e4.symm e5.symm c' k hτ
    ·rw[zq0 c];exact start _ (.inl fun e=>c (by rw[e];rfl))
theorem v0g(b:zA):∀a:zA,zM b≤1000000000→∃c,vM a b=some c∧(c=true↔a=b):=by
 induction b using zA.ind with
 |h b ih=>
  intro a h;have hl:=vX b;have loop:∀(k i:Nat),i+k=b.L.length→a.L.length=b.L.length→∃c,yA i a b=some c∧(c=true↔a.L.drop i=b.L.drop i):=by
   intro k;induction k with
   |zero=>
    intro i hi hab;rw[z4l];unfold uL;rw[zq0 (by omega),List.drop_eq_nil_of_le (by omega),List.drop_eq_nil_of_le (by omega)];exact⟨_,rfl,by simp⟩
   |succ k ihk=>
    intro i hi hab;have hlt:i<a.L.length:=by omega
    have hlt':i<b.L.length:=by omega
    have hm:=List.getElem_mem hlt';rw[z4l];unfold uL;obtain⟨c,e,hc⟩:=ih _ hm a.L[i] (by have:=zV hm;omega);rw[zq1 (by omega),wU hlt,zB,wU hlt',zB,e,zB,z4d (by omega),List.drop_eq_getElem_cons hlt,List.drop_eq_getElem_cons hlt'];cases c with
    |true=>
     obtain⟨c',e',hc'⟩:=ihk (i+1) (by omega) hab;rw[zq1 rfl];exact⟨c',e',by rw[hc',List.cons.injEq];exact⟨fun h=>⟨hc.1 rfl,h⟩,fun h=>h.2⟩⟩
    |false=>
     rw[zq0 (by decide)];exact⟨false,rfl,⟨fun h=>Bool.noConfusion h,fun h=>by rw[List.cons.injEq]at h;exact absurd (hc.2 h.1) (by decide)⟩⟩
  rw[y2L];unfold z0N;have no:∀{P:Prop},(a=b→P)→¬P→∃c,some false=some c∧(c=true↔a=b):=fun f g=>⟨false,rfl,by simp;exact fun e=>g (f e)⟩;by_cases h1:a.K=b.K
  ·rw[zq1 h1];by_cases h2:a.N=b.N
   ·rw[zq1 h2];by_cases h3:a.S=b.S
    ·rw[zq1 h3];by_cases h5:a.From=b.From
     ·rw[zq1 h5];by_cases h6:a.To=b.To
      ·rw[zq1 h6];by_cases h4:(List.length a.L:Int)=(List.length b.L:Int)
       ·rw[zq1 h4];obtain⟨c,e,hc⟩:=loop b.L.length 0 (by omega) (by omega);refine⟨c,e,?_⟩;rw[hc];simp only[List.drop_zero];exact⟨fun hL=>v2C h1 h2 h3 hL h5 h6,fun e=>by rw[e]⟩
       ·rw[zq0 h4];exact no (fun e=>by rw[e]) h4
      ·rw[zq0 h6];exact no (fun e=>by rw[e]) h6
     ·rw[zq0 h5];exact no (fun e=>by rw[e]) h5
    ·rw[zq0 h3];exact no (fun e=>by rw[e]) h3
   ·rw[zq0 h2];exact no (fun e=>by rw[e]) h2
  ·rw[zq0 h1];exact no (fun e=>by rw[e]) h1
inductive y9j:zA→zA→Prop
 |here (t:zA):(t.K≠12∧t.K≠13∨t.L=[])→y9j t t
 |down (t x r:zA) (l:List zA):(t.K=12∨t.K=13)→t.L=x::l→y9j x r→y9j t r
theorem v3c(t:zA):∃r,wI t=some r∧y9j t r:=by
 induction t using zA.ind with
 |h t ih=>
  rw[y6M];unfold z2n;have go:(t.K=12∨t.K=13)→∃r,(if(List.length t.L:Int)>0 then(idx t.L 0>>=fun x=>wI x>>=fun q=>some q)else some t)=some r∧y9j t r:=by
   intro hk;cases hL:t.L with
   |nil=>rw[zq0 (by simp)];exact⟨_,rfl,.here _ (.inr hL)⟩
   |cons x l=>
    obtain⟨r,er,hr⟩:=ih x (by rw[hL];exact List.mem_cons_self ..);rw[zq1 (by simp),show idx (x::l) 0=some x from rfl,zB,er];exact⟨r,rfl,.down _ x r l hk hL hr⟩
  by_cases k:t.K=12
  ·rw[zq1 k];exact go (.inl k)
  rw[zq0 k];by_cases k:t.K=13
  ·rw[zq1 k];exact go (.inr k)
  rw[zq0 k];exact⟨_,rfl,.here _ (.inl ⟨by assumption,k⟩)⟩
def v2G(t:zA):Prop:=
 t.K=29∨((t.K=20∨t.K=21∨t.K=26∨t.K=27∨t.K=28)∧∃a,t.L=[a])∨(t.K=22∧∃a b,t.L=[a,b])∨(t.K=23∧∃a x y,t.L=[a,x,y]∧x.K=29∧y.K=29) ∨
 (t.K=24∧∃a x,t.L=[a,x]∧x.K=29)∨(t.K=25∧∃a b x,t.L=[a,b,x]∧x.K=29)
theorem v2A(t:zA):∃b,z4w t=some b∧(b=true→v2G t):=by
 have L0:∀n:Int,yD n n t=some true:=fun n=>by
  rw[z5A];unfold jK;rw[zq0 (by omega)]
 have LS:∀(n i:Int) (x:zA),i<n→idx t.L i=some x→-9223372036854775808≤i+1→i+1≤9223372036854775807→yD n i t=if x.K=29 then yD n (i+1) t else some false:=fun n i x h1 h2 h3 h4=>by
  rw[z5A];unfold jK;rw[zq1 h1,h2,zB,z2v h3 h4]
 have w0:IntKind.wrap .i64 (1-0)=1:=by decide
 have w1:IntKind.wrap .i64 (2-0)=2:=by decide
 have w2:IntKind.wrap .i64 (3-2)=1:=by decide
 have w3:IntKind.wrap .i64 (2-1)=1:=by decide
 have w4:IntKind.wrap .i64 (3-1)=2:=by decide
 unfold z4w;by_cases k:t.K=29
 ·rw[zq1 k];exact⟨_,rfl,fun _=>.inl k⟩
 rw[zq0 k];have one:(t.K=20∨t.K=21∨t.K=26∨t.K=27∨t.K=28)→wR t.K=some (1,0)→∃b,(wR t.K>>=fun q1=>if(List.length t.L:Int)=q1.1 then yD q1.1 (IntKind.wrap .i64 (q1.1-q1.2)) t else some false)=some b∧(b=true→v2G t):=fun hk e=>by
  rw[e,zB];by_cases c:(List.length t.L:Int)=1
  ·rw[zq1 c,w0,L0];exact⟨_,rfl,fun _=>.inr (.inl ⟨hk,v0c c⟩)⟩
  ·rw[zq0 c];exact⟨_,rfl,fun h=>Bool.noConfusion h⟩
 by_cases k:t.K=20
 ·exact one (by omega) (by rw[k];rfl)
 by_cases k:t.K=21
 ·exact one (by omega) (by rw[k];rfl)
 by_cases k:t.K=26
 ·exact one (by omega) (by rw[k];rfl)
 by_cases k:t.K=27
 ·exact one (by omega) (by rw[k];rfl)
 by_cases k:t.K=28
 ·exact one (by omega) (by rw[k];rfl)
 by_cases k:t.K=22
 ·rw[show wR t.K=some (2,0)by rw[k];rfl,zB];by_cases c:(List.length t.L:Int)=2
  ·rw[zq1 c,w1,L0];exact⟨_,rfl,fun _=>.inr (.inr (.inl ⟨k,v3B c⟩))⟩
  ·rw[zq0 c];exact⟨_,rfl,fun h=>Bool.noConfusion h⟩
 by_cases k:t.K=23
 ·rw[show wR t.K=some (3,2)by rw[k];rfl,zB];by_cases c:(List.length t.L:Int)=3
  ·obtain⟨a,x,y,hL⟩:=v3J c;rw[zq1 c,w2,LS 3 1 x (by decide) (by rw[hL];rfl) (by decide) (by decide),LS 3 (1+1) y (by decide) (by rw[hL];rfl) (by decide) (by decide),show((1:Int)+1+1)=3 from rfl,L0];by_cases cx:x.K=29
   ·rw[zq1 cx];by_cases cy:y.K=29
    ·rw[zq1 cy];exact⟨_,rfl,fun _=>.inr (.inr (.inr (.inl ⟨k,a,x,y,hL,cx,cy⟩)))⟩
    ·rw[zq0 cy];exact⟨_,rfl,fun h=>Bool.noConfusion h⟩
   ·rw[zq0 cx];exact⟨_,rfl,fun h=>Bool.noConfusion h⟩
  ·rw[zq0 c];exact⟨_,rfl,fun h=>Bool.noConfusion h⟩
 by_cases k:t.K=24
 ·rw[show wR t.K=some (2,1)by rw[k];rfl,zB];by_cases c:(List.length t.L:Int)=2
  ·obtain⟨a,x,hL⟩:=v3B c;rw[zq1 c,w3,LS 2 1 x (by decide) (by rw[hL];rfl) (by decide) (by decide),show((1:Int)+1)=2 from rfl,L0];by_cases cx:x.K=29
   ·rw[zq1 cx];exact⟨_,rfl,fun _=>.inr (.inr (.inr (.inr (.inl ⟨k,a,x,hL,cx⟩))))⟩
   ·rw[zq0 cx];exact⟨_,rfl,fun h=>Bool.noConfusion h⟩
  ·rw[zq0 c];exact⟨_,rfl,fun h=>Bool.noConfusion h⟩
 by_cases k:t.K=25
 ·rw[show wR t.K=some (3,1)by rw[k];rfl,zB];by_cases c:(List.length t.L:Int)=3
  ·obtain⟨a,b,x,hL⟩:=v3J c;rw[zq1 c,w4,LS 3 2 x (by decide) (by rw[hL];rfl) (by decide) (by decide),show((2:Int)+1)=3 from rfl,L0];by_cases cx:x.K=29
   ·rw[zq1 cx];exact⟨_,rfl,fun _=>.inr (.inr (.inr (.inr (.inr ⟨k,a,b,x,hL,cx⟩))))⟩
   ·rw[zq0 cx];exact⟨_,rfl,fun h=>Bool.noConfusion h⟩
  ·rw[zq0 c];exact⟨_,rfl,fun h=>Bool.noConfusion h⟩
 have e:wR t.K=some (-1,0):=by
  unfold wR;rw[zq0 (by assumption),zq0 (by assumption),zq0 (by assumption),zq0 (by assumption),zq0 (by assumption),zq0 (by assumption),zq0 (by assumption),zq0 (by assumption),zq0 (by assumption)]
 rw[e,zB,zq0 (by omega)];exact⟨_,rfl,fun h=>Bool.noConfusion h⟩
mutual
inductive TS(m ρ:zA):List zA→zA→List zA→Prop
 |block (Γ Γ':List zA) (t:zA):t.K=29→t.S=[]→t.From=0→t.To=0→TB m ρ Γ t.L Γ'→TS m ρ Γ t Γ
 |let_ (Γ:List zA) (t e τ:zA):t.K=20→t.S=[]→t.From=0→t.To=0→t.L=[e]→TE m Γ e τ→TS m ρ Γ t (Γ++[τ])
 |new (Γ:List zA) (t x:zA):t.K=21→t.S=[]→t.From=0→t.To=0→t.L=[x]→Good m x→y2i x=x→TS m ρ Γ t (Γ++[x])
 |print (Γ:List zA) (t e τ:zA):t.K=26→t.S=[]→t.From=0→t.To=0→t.L=[e]→TE m Γ e τ→(τ.K=1∨τ.K=2)→τ.L=[]→TS m ρ Γ t Γ
 |ret (Γ:List zA) (t e τ:zA):t.K=27→t.S=[]→t.From=0→t.To=0→t.L=[e]→TE m Γ e τ→z0g τ=z0g ρ→TS m ρ Γ t Γ
 |do_ (Γ:List zA) (t e τ:zA):t.K=28→t.S=[]→t.From=0→t.To=0→t.L=[e]→e.K=16→TE m Γ e τ→TS m ρ Γ t Γ
 |set (Γ:List zA) (t a b τ σ r:zA):t.K=22→t.S=[]→t.From=0→t.To=0→t.L=[a,b]→TE m Γ a τ→TE m Γ b σ→z0g τ=z0g σ→y9j a r→(r.K=7∨r.K=9)→TS m ρ Γ t Γ
 |if_ (Γ:List zA) (t e x y τ:zA):t.K=23→t.S=[]→t.From=0→t.To=0→t.L=[e,x,y]→TE m Γ e τ→τ.K=2→τ.L=[]→x.K=29→y.K=29→TS m ρ Γ x Γ→TS m ρ Γ y Γ→TS m ρ Γ t Γ
 |while_ (Γ:List zA) (t e x τ:zA):t.K=24→t.S=[]→t.From=0→t.To=0→t.L=[e,x]→TE m Γ e τ→τ.K=2→τ.L=[]→x.K=29→TS m ρ Γ x Γ→TS m ρ Γ t Γ
 |for_ (Γ:List zA) (t a b x τ σ:zA):t.K=25→t.S=[]→t.From=0→t.To=0→t.L=[a,b,x]→TE m Γ a τ→τ.K=1→τ.L=[]→TE m Γ b σ→σ.K=1→σ.L=[]→x.K=29→TS m ρ (Γ++[v0q]) x (Γ++[v0q])→TS m ρ Γ t Γ
inductive TB(m ρ:zA):List zA→List zA→List zA→Prop
 |nil (Γ:List zA):TB m ρ Γ [] Γ
 |cons (Γ Γ' Γ'':List zA) (t:zA) (r:List zA):TS m ρ Γ t Γ'→TB m ρ Γ' r Γ''→TB m ρ Γ (t::r) Γ''
end
theorem y1S(m:zA)(Γ:List zA)(x:zA)(a b:Int)(g:Ref15Got)(eg:wN m Γ x=some g):
  ∃y,z0p m Γ x a b=some y∧(y.E=0→g.E=0∧y.T_=g.Form∧(g.Type_.K=a∨g.Type_.K=b)∧g.Type_.L=[]):=by
 unfold z0p jZ yQ;obtain⟨c1,e1,h1⟩:=z4Z g.Type_ a;obtain⟨c2,e2,h2⟩:=z4Z g.Type_ b;rw[eg,zB];by_cases c:g.E=0
 ·rw[zq1 c,e1,zB];cases c1 with
  |true=>rw[zq1 rfl];exact⟨_,rfl,fun _=>⟨c,rfl,.inl (h1.1 rfl).1,(h1.1 rfl).2⟩⟩
  |false=>
   rw[zq0 (by decide),e2,zB];cases c2 with
   |true=>rw[zq1 rfl];exact⟨_,rfl,fun _=>⟨c,rfl,.inr (h2.1 rfl).1,(h2.1 rfl).2⟩⟩
   |false=>rw[zq0 (by decide)];exact⟨_,rfl,fun h=>absurd h (show ¬(10:Int)=0 by decide)⟩
 ·rw[zq0 c];exact⟨_,rfl,fun h=>absurd h c⟩
def v3v(m ρ:zA)(Γ:List zA)(B:Nat)(t:zA)(g:Ref16Got):Prop:=
 g.E=0→∃Γ',z0m m Γ t=some Γ'∧(∀x∈Γ',zM x≤B+zM t)∧Γ'.length≤Γ.length+1∧(g.T_=t→TS m ρ Γ t Γ')
theorem y7x(m:zA)(Γ:List zA)(t:zA)(h1:t.K≠20)(h2:t.K≠21):z0m m Γ t=some Γ:=by
 unfold z0m;rw[zq0 h1,zq0 h2]
theorem y2N(l:List zA)(i:Nat):vP (l.drop i)≤vP l:=by
 induction l generalizing i with
 |nil=>simp
 |cons x r ih=>
  cases i with
  |zero=>simp
  |succ i=>rw[List.drop_succ_cons];have:=ih i;simp only[vP];omega
theorem z3M{n:Nat}(h:n≤2000000000):uJ 72 n:=z2D (by omega) h
theorem v3i(m ρ:zA)(hρ:zM ρ≤1000000000)(t:zA):zA.Wf t →
  (∀(B:Nat) (Γ:List zA),zM m≤B→(∀x∈Γ,zM x≤B)→Γ.length+zM t≤1000000000→B+zM t≤1000000000→∃g,yM m Γ ρ t=some g∧(g.E=0→g.T_=t→t.S=[]∧t.From=0∧t.To=0∧∃Γ',TB m ρ Γ t.L Γ')) ∧
  (∀(B:Nat) (Γ:List zA),zM m≤B→(∀x∈Γ,zM x≤B)→Γ.length+zM t≤1000000000→B+zM t≤1000000000→∃g,uT m Γ ρ t=some g∧v3v m ρ Γ B t g):=by
 induction t using zA.ind with
 |h t ih=>
  intro hw;have htl:=vX t;have pos:=z2P t;have block:∀(B:Nat) (Γ:List zA),zM m≤B→(∀x∈Γ,zM x≤B)→Γ.length+zM t≤1000000000→B+zM t≤1000000000→∃g,yM m Γ ρ t=some g∧(g.E=0→g.T_=t→t.S=[]∧t.From=0∧t.To=0∧∃Γ',TB m ρ Γ t.L Γ'):=by
   intro B Γ0 hm hΓ0 hl0 hB;have loop:∀(k i:Nat) (Γ:List zA) (o:Ref16Got) (K N:Int) (S:Str) (L:List zA) (F T:Int),i+k=t.L.length→L.length=i →
     (∀x∈Γ,zM x+vP (t.L.drop i)≤B+vP t.L)→Γ.length+vP (t.L.drop i)≤Γ0.length+vP t.L →
     ∃g,yK Γ i m ρ t o K N S L F T=some g∧(g.E=0→g.T_.K=K∧g.T_.N=N∧g.T_.S=S∧g.T_.From=F∧g.T_.To=T∧∃M,g.T_.L=L++M∧(M=t.L.drop i→∃Γ',TB m ρ Γ (t.L.drop i) Γ')):=by
    intro k;induction k with
    |zero=>
     intro i Γ o K N S L F T hi hL hΓ hl;rw[z5z];unfold jJ;rw[zq0 (by omega),List.drop_eq_nil_of_le (by omega)];exact⟨_,rfl,fun _=>⟨rfl,rfl,rfl,rfl,rfl,[],by simp,fun _=>⟨Γ,.nil Γ⟩⟩⟩
    |succ k ihk=>
     intro i Γ o K N S L F T hi hL hΓ hl;have hlt:i<t.L.length:=by omega
     have hmem:=List.getElem_mem hlt;have hsz:=zV hmem;have hd:=z7U hlt;have hts:vP (t.L.drop i)≤vP t.L:=y2N _ _;have hpos:=z2P t.L[i];have hte:=wX t;obtain⟨g,eg,hg⟩:=(ih _ hmem (hw.L_.2 _ hmem)).2 (B+(vP t.L-vP (t.L.drop i))) Γ (by omega) (fun x hx=>by have:=hΓ x hx;omega) (by omega) (by omega);rw[z5z];unfold jJ;rw[zq1 (by omega),wU hlt,zB,eg,zB];by_cases c:g.E=0
     ·rw[zq1 c,zq1 (z3M (by simp;omega)),zB,z4d (by omega)];obtain⟨Γ',eb,hs,hl',ht⟩:=hg c;rw[eb,zB];obtain⟨g',eg',hg'⟩:=ihk (i+1) Γ' o K N S (L++[g.T_]) F T (by omega) (by simp[hL]) (fun x hx=>by have:=hs x hx;omega) (by omega);refine⟨g',eg',fun c'=>?_⟩;obtain⟨h1,h2,h3,h4,h5,M,hM,hT⟩:=hg' c';refine⟨h1,h2,h3,h4,h5,g.T_::M,by rw[hM];simp,fun e=>?_⟩;rw[List.drop_eq_getElem_cons hlt]at e ⊢;injection e with e1 e2;obtain⟨Γ'',hΓ''⟩:=hT e2;exact⟨Γ'',.cons _ _ _ _ _ (ht e1) hΓ''⟩
     ·rw[zq0 c];exact⟨_,rfl,fun h=>absurd h c⟩
   rw[y4F];unfold z1y;obtain⟨g,eg,hg⟩:=loop t.L.length 0 Γ0 ⟨⟨0,0,[],[],0,0⟩,0,0⟩ t.K t.N [] [] 0 0 (by omega) rfl (fun x hx=>by have:=hΓ0 x hx;simp;omega) (by simp);refine⟨g,eg,fun c e=>?_⟩;obtain⟨h1,h2,h3,h4,h5,M,hM,hT⟩:=hg c;rw[e]at h3 h4 h5 hM;rw[List.drop_zero]at hT;exact⟨h3,h4,h5,hT (by simpa using hM.symm)⟩
  refine⟨block,?_⟩;intro B Γ hm hΓ hl hB;have brk:t.K≠20→t.K≠21→∃Γ',z0m m Γ t=some Γ'∧(∀x∈Γ',zM x≤B+zM t)∧Γ'.length≤Γ.length+1∧Γ'=Γ:=fun h1 h2=>
   ⟨Γ,y7x m Γ t h1 h2,fun x hx=>by have:=hΓ x hx;omega,by omega,rfl⟩
  obtain⟨b,eb,hb⟩:=v2A t;rw[y6O];unfold z2s;rw[eb,zB];cases b with
  |false=>rw[zq0 (by decide)];exact⟨_,rfl,fun h=>absurd h (show ¬(12:Int)=0 by decide)⟩
  |true=>
  rw[zq1 rfl];have hs:=hb rfl;by_cases k29:t.K=29
  ·rw[zq1 k29];obtain⟨g,eg,hg⟩:=block B Γ hm hΓ hl hB;rw[eg,zB];refine⟨g,rfl,fun c=>?_⟩;obtain⟨Γ',h1,h2,h3,rfl⟩:=brk (by omega) (by omega);refine⟨_,h1,h2,h3,fun e=>?_⟩;obtain⟨a1,a2,a3,Γ',hT⟩:=hg c e;exact .block _ Γ' t k29 a1 a2 a3 hT
  rw[zq0 k29];have ofx:∀x∈t.L,∃g,wN m Γ x=some g∧(g.E=0→zM g.Type_≤B+zM x∧(g.Form=x→TE m Γ x g.Type_)):=fun x hx=>
   v3X m Γ B hm hΓ (by omega) x (hw.L_.2 _ hx) (by have:=zV hx;omega)
  have blk:∀x∈t.L,x.K=29→∃g,yM m Γ ρ x=some g∧(g.E=0→g.T_=x→TS m ρ Γ x Γ):=fun x hx hk=>by
   have:=zV hx;obtain⟨g,eg,hg⟩:=(ih x hx (hw.L_.2 _ hx)).1 B Γ hm hΓ (by omega) (by omega);exact⟨g,eg,fun c e=>by obtain⟨a1,a2,a3,Γ',hT⟩:=hg c e;exact .block _ Γ' x hk a1 a2 a3 hT⟩
  have Lend:∀(i:Nat) o K N S L F T,i=t.L.length→t.K≠22→yE Γ i m ρ t o K N S L F T=some ⟨⟨K,N,S,L,F,T⟩,0,0⟩:=fun i o K N S L F T hi hk=>by
   rw[z3K];unfold uY;rw[zq0 (by omega),zq0 hk]
  have Lstep:∀(i:Nat) (z:Int),z=i→∀o K N S L F T g,i<t.L.length→L.length≤3→uE m Γ ρ t i=some g→yE Γ z m ρ t o K N S L F T=if g.E=0 then yE Γ ((i+1:Nat):Int) m ρ t o K N S (L++[g.T_]) F T else some g:=fun i z hz o K N S L F T g hi hL eg=>by
   subst hz;rw[z3K];unfold uY;rw[zq1 (by omega),eg,zB,zq1 (z3M (by simp;omega)),z4d (by omega)]
  have parts:∀(c:Int×Int),wR t.K=some c→∀(i:Nat) (x:zA),t.L[i]?=some x→uE m Γ ρ t i=if(i:Int)≥IntKind.wrap .i64 (c.1-c.2)then
     (if t.K=25 then yM m (Γ++[v0q]) ρ x>>=fun q=>some q else yM m Γ ρ x>>=fun q=>some q)else
     (if t.K=21 then gN m x>>=fun q4=>if q4=0 then yQ x 11>>=fun q=>some q else zU x>>=fun q=>some ⟨q,0,0⟩
      else if t.K=23 then z0p m Γ x 2 2>>=fun q=>some q else if t.K=24 then z0p m Γ x 2 2>>=fun q=>some q else if t.K=25 then z0p m Γ x 1 1>>=fun q=>some q
      else if t.K=26 then z0p m Γ x 1 2>>=fun q=>some q
      else if t.K=28 then(if x.K=16 then wN m Γ x>>=fun q=>jZ q>>=fun q=>some q else yQ x 12>>=fun q=>some q)
      else wN m Γ x>>=fun q=>if t.K=27 then if q.E=0 then vQ ρ>>=fun q20=>vR q.Type_ q20>>=fun q21=>if q21=true then jZ q>>=fun q=>some q else yQ x 10>>=fun q=>some q else jZ q>>=fun q=>some q else jZ q>>=fun q=>some q):=fun c ec i x hx=>by
   rw[y6N];unfold z2r;rw[y1C,hx,zB,ec,zB];have r1:uJ 72 (List.length ([]:List zA)+List.length Γ):=z3M (by simp;omega);have r2:uJ 72 (List.length (([]:List zA)++Γ)+List.length [(zA.mk 1 0 [] [] 0 0)]):=z3M (by simp;omega);rw[zq1 r1,zq1 r2];rfl
  have w0:IntKind.wrap .i64 (1-0)=1:=by decide
  have w1:IntKind.wrap .i64 (2-0)=2:=by decide
  have w2:IntKind.wrap .i64 (3-2)=1:=by decide
  have w3:IntKind.wrap .i64 (2-1)=1:=by decide
  have w4:IntKind.wrap .i64 (3-1)=2:=by decide
  have fin:∀{o:Ref16Got} {L:List zA},(Ref16Got.mk ⟨t.K,t.N,[],L,0,0⟩ 0 0).T_=t→t.S=[]∧t.From=0∧t.To=0∧t.L=L:=fun {o L} e=>by
   have e2:=congrArg zA.S e;have e3:=congrArg zA.L e;have e4:=congrArg zA.From e;have e5:=congrArg zA.To e;exact⟨e2.symm,e4.symm,e5.symm,e3.symm⟩
  have one:∀(x:zA) (Q:zA→Prop) (o:Ref16Got),t.L=[x]→t.K≠22→(∃g,uE m Γ ρ t (0:Nat)=some g∧(g.E=0→Q g.T_)) →
    ∃g,yE Γ (0:Nat) m ρ t o t.K t.N [] [] 0 0=some g∧(g.E=0→∃y,Q y∧(g.T_=t→t.S=[]∧t.From=0∧t.To=0∧y=x)):=fun x Q o hx hk ⟨g,eg,hg⟩=>by
   have l1:t.L.length=1:=by rw[hx];rfl
   rw[Lstep 0 _ rfl o _ _ _ [] _ _ g (by omega) (by simp) eg];by_cases c:g.E=0
   ·rw[zq1 c,Lend _ _ _ _ _ _ _ _ (by omega) hk];refine⟨_,rfl,fun _=>⟨_,hg c,fun e=>?_⟩⟩;obtain⟨a,b,c,d⟩:=fin (o:=o) e;rw[hx]at d;injection d with d;exact⟨a,b,c,d.symm⟩
   ·rw[zq0 c];exact⟨_,rfl,fun h=>absurd h c⟩
  have bad:∀{P:Ref16Got→Prop} (x:zA) (e:Int),e≠0→∃y,(yQ x e>>=fun q=>some q)=some y∧(y.E=0→P y):=fun {P} x e he=>⟨_,rfl,fun h=>absurd h he⟩;rcases hs with hs|⟨hk,x,hx⟩|⟨k,a,b,hx⟩|⟨k,a,x,y,hx,kx,ky⟩|⟨k,a,x,hx,kx⟩|⟨k,a,b,x,hx,kx⟩
  ·exact absurd hs k29
  ·have hmx:x∈t.L:=by rw[hx];exact List.mem_singleton_self x
   have hxs:=z0W hx;have p0:=parts (1,0) (by rcases hk with h|h|h|h|h<;>(rw[h];rfl)) 0 x (by rw[hx];rfl);simp only[w0]at p0;rw[zq0 (by decide)]at p0;obtain⟨g,eg,hg⟩:=ofx x hmx;by_cases k1:t.K=21
   ·rw[zq1 k1]at p0;obtain⟨n,en,n0,hn⟩:=z6X (m:=m) (t:=x) (by omega) (by omega);rw[en,zB]at p0;obtain⟨y,ey,hy⟩:=one x (fun y=>Good m x∧y=y2i x) ⟨⟨0,0,[],[],0,0⟩,0,0⟩ hx (by omega) (by
     rw[p0];by_cases c:n=0
     ·rw[zq1 c];exact bad x 11 (by decide)
     ·rw[zq0 c,y6E x (by omega),zB];exact⟨_,rfl,fun _=>⟨hn.1 c,rfl⟩⟩)
    refine⟨y,ey,fun c=>?_⟩;obtain⟨z,⟨h1,h2⟩,h3⟩:=hy c;refine⟨Γ++[x],?_,fun w hw'=>?_,by simp,fun e=>?_⟩
    ·unfold z0m;rw[zq0 (by omega),zq1 k1,zq1 (by rw[hx];rfl),zq1 (z3M (by simp;omega)),hx,show idx [x] 0=some x from rfl,zB,zq1 (z3M (by simp;omega))];rfl
    ·rcases List.mem_append.1 hw' with h|h
     ·have:=hΓ w h;omega
     ·rw[List.mem_singleton.1 h];omega
    ·obtain⟨b1,b2,b3,b4⟩:=h3 e;exact .new Γ t x k1 b1 b2 b3 hx h1 (h2.symm.trans b4)
   rw[zq0 k1,zq0 (by omega),zq0 (by omega),zq0 (by omega)]at p0;by_cases k2:t.K=26
   ·rw[zq1 k2]at p0;obtain⟨y,ey,hy⟩:=y1S m Γ x 1 2 g eg;rw[ey,zB]at p0;obtain⟨z,ez,hz⟩:=one x (fun y=>g.E=0∧y=g.Form∧(g.Type_.K=1∨g.Type_.K=2)∧g.Type_.L=[]) ⟨⟨0,0,[],[],0,0⟩,0,0⟩ hx (by omega) ⟨y,p0,hy⟩;refine⟨z,ez,fun c=>?_⟩;obtain⟨Γ',h1,h2,h3,rfl⟩:=brk (by omega) (by omega);refine⟨_,h1,h2,h3,fun e=>?_⟩;obtain⟨w,⟨q1,q2,q3,q4⟩,q5⟩:=hz c;obtain⟨b1,b2,b3,b4⟩:=q5 e;exact .print _ t x g.Type_ k2 b1 b2 b3 hx ((hg q1).2 (q2.symm.trans b4)) q3 q4
   rw[zq0 k2]at p0;by_cases k3:t.K=28
   ·rw[zq1 k3]at p0;obtain⟨z,ez,hz⟩:=one x (fun y=>x.K=16∧g.E=0∧y=g.Form) ⟨⟨0,0,[],[],0,0⟩,0,0⟩ hx (by omega) (by
     rw[p0];by_cases c:x.K=16
     ·rw[zq1 c,eg,zB];exact⟨_,rfl,fun h=>⟨c,h,rfl⟩⟩
     ·rw[zq0 c];exact bad x 12 (by decide))
    refine⟨z,ez,fun c=>?_⟩;obtain⟨Γ',h1,h2,h3,rfl⟩:=brk (by omega) (by omega);refine⟨_,h1,h2,h3,fun e=>?_⟩;obtain⟨w,⟨q1,q2,q3⟩,q5⟩:=hz c;obtain⟨b1,b2,b3,b4⟩:=q5 e;exact .do_ _ t x g.Type_ k3 b1 b2 b3 hx q1 ((hg q2).2 (q3.symm.trans b4))
   rw[zq0 k3,eg,zB]at p0;by_cases k4:t.K=27
   ·rw[zq1 k4]at p0;obtain⟨z,ez,hz⟩:=one x (fun y=>g.E=0∧y=g.Form∧z0g g.Type_=z0g ρ) ⟨⟨0,0,[],[],0,0⟩,0,0⟩ hx (by omega) (by
     rw[p0];by_cases c:g.E=0
     ·obtain⟨s,es,hs⟩:=y1Z g.Type_ (z0g ρ) (by have:=(hg c).1;omega);rw[zq1 c,z8M ρ hρ,zB,es,zB];cases s with
      |true=>rw[zq1 rfl];exact⟨_,rfl,fun _=>⟨c,rfl,by rw[hs.1 rfl,y5s]⟩⟩
      |false=>rw[zq0 (by decide)];exact bad x 10 (by decide)
     ·rw[zq0 c];exact⟨_,rfl,fun h=>absurd h c⟩)
    refine⟨z,ez,fun c=>?_⟩;obtain⟨Γ',h1,h2,h3,rfl⟩:=brk (by omega) (by omega);refine⟨_,h1,h2,h3,fun e=>?_⟩;obtain⟨w,⟨q1,q2,q3⟩,q5⟩:=hz c;obtain⟨b1,b2,b3,b4⟩:=q5 e;exact .ret _ t x g.Type_ k4 b1 b2 b3 hx ((hg q1).2 (q2.symm.trans b4)) q3
   rw[zq0 k4]at p0;have k5:t.K=20:=by omega
   obtain⟨z,ez,hz⟩:=one x (fun y=>g.E=0∧y=g.Form) ⟨⟨0,0,[],[],0,0⟩,0,0⟩ hx (by omega) ⟨_,p0,fun h=>⟨h,rfl⟩⟩;refine⟨z,ez,fun c=>?_⟩;obtain⟨w,⟨q1,q2⟩,q5⟩:=hz c;refine⟨Γ++[g.Type_],?_,fun w hw'=>?_,by simp,fun e=>?_⟩
   ·unfold z0m;rw[zq1 k5,zq1 (by rw[hx];rfl),zq1 (z3M (by simp;omega)),hx,show idx [x] 0=some x from rfl,zB,eg,zB,zq1 (z3M (by simp;omega))];rfl
   ·rcases List.mem_append.1 hw' with h|h
    ·have:=hΓ w h;omega
    ·rw[List.mem_singleton.1 h];have:=(hg q1).1;omega
   ·obtain⟨b1,b2,b3,b4⟩:=q5 e;exact .let_ _ t x g.Type_ k5 b1 b2 b3 hx ((hg q1).2 (q2.symm.trans b4))
  ·have l2:t.L.length=2:=by rw[hx];rfl
   have hma:a∈t.L:=by rw[hx];exact List.mem_cons_self ..
   have hmb:b∈t.L:=by rw[hx];exact List.mem_cons_of_mem _ (List.mem_cons_self ..)
   have hts:=z8E hx;obtain⟨ga,ega,hga⟩:=ofx a hma;obtain⟨gb,egb,hgb⟩:=ofx b hmb;have pe:wR t.K=some (2,0):=by rw[k];rfl
   have p0:=parts (2,0) pe 0 a (by rw[hx];rfl);have p1:=parts (2,0) pe 1 b (by rw[hx];rfl);simp only[w1]at p0 p1;rw[zq0 (by decide),zq0 (by omega),zq0 (by omega),zq0 (by omega),zq0 (by omega),zq0 (by omega),zq0 (by omega),ega,zB,zq0 (by omega)]at p0;rw[zq0 (by decide),zq0 (by omega),zq0 (by omega),zq0 (by omega),zq0 (by omega),zq0 (by omega),zq0 (by omega),egb,zB,zq0 (by omega)]at p1;rw[Lstep 0 0 rfl _ _ _ _ [] _ _ _ (by omega) (by simp) p0];show ∃g,(if ga.E=0 then _ else some _)=some g∧_
   by_cases c1:ga.E=0
   ·rw[zq1 c1,Lstep 1 _ rfl _ _ _ _ _ _ _ _ (by omega) (by simp) p1];show ∃g,(if gb.E=0 then _ else some _)=some g∧_;by_cases c2:gb.E=0
    ·rw[zq1 c2,z3K];unfold uY;obtain⟨r,er,hr⟩:=v3c a;obtain⟨s,es,hs⟩:=y1Z ga.Type_ gb.Type_ (by have:=(hga c1).1;omega);rw[zq0 (by omega),zq1 k,hx,show idx [a,b] 0=some a from rfl,show idx [a,b] 1=some b from rfl];simp only[zB,er,ega,egb,es];have tl:(r.K=7∨r.K=9)→∃g,(if s=true then some (Ref16Got.mk ⟨t.K,t.N,[],[]++[ga.Form]++[gb.Form],0,0⟩ 0 0)else yQ t 10>>=fun q=>some q)=some g∧v3v m ρ Γ B t g:=fun hr'=>by
      cases s with
      |false=>rw[zq0 (by decide)];exact bad t 10 (by decide)
      |true=>
       rw[zq1 rfl];refine⟨_,rfl,fun _=>?_⟩;obtain⟨Γ',h1,h2,h3,rfl⟩:=brk (by omega) (by omega);refine⟨_,h1,h2,h3,fun e=>?_⟩;obtain⟨b1,b2,b3,b4⟩:=fin (o:=⟨⟨0,0,[],[],0,0⟩,0,0⟩) e;rw[hx]at b4;injection b4 with b4 b5;injection b5 with b5;exact .set _ t a b ga.Type_ gb.Type_ r k b1 b2 b3 hx ((hga c1).2 b4.symm) ((hgb c2).2 b5.symm) (hs.1 rfl) hr hr'
     by_cases r7:r.K=7
     ·rw[zq1 r7];exact tl (.inl r7)
     ·rw[zq0 r7];by_cases r9:r.K=9
      ·rw[zq1 r9];exact tl (.inr r9)
      ·rw[zq0 r9];exact bad a 12 (by decide)
    ·rw[zq0 c2];exact⟨_,rfl,fun h=>absurd h c2⟩
   ·rw[zq0 c1];exact⟨_,rfl,fun h=>absurd h c1⟩
  ·have l3:t.L.length=3:=by rw[hx];rfl
   have hma:a∈t.L:=by rw[hx];exact List.mem_cons_self ..
   have hmx:x∈t.L:=by rw[hx];exact List.mem_cons_of_mem _ (List.mem_cons_self ..)
   have hmy:y∈t.L:=by rw[hx];exact List.mem_cons_of_mem _ (List.mem_cons_of_mem _ (List.mem_cons_self ..))
   obtain⟨ga,ega,hga⟩:=ofx a hma;obtain⟨gx,egx,hgx⟩:=blk x hmx kx;obtain⟨gy,egy,hgy⟩:=blk y hmy ky;obtain⟨go,ego,hgo⟩:=y1S m Γ a 2 2 ga ega;have pe:wR t.K=some (3,2):=by rw[k];rfl
   have p0:=parts (3,2) pe 0 a (by rw[hx];rfl);have p1:=parts (3,2) pe 1 x (by rw[hx];rfl);have p2:=parts (3,2) pe 2 y (by rw[hx];rfl);simp only[w2]at p0 p1 p2;rw[zq0 (by decide),zq0 (by omega),zq1 k,ego,zB]at p0;rw[zq1 (by decide),zq0 (by omega),egx,zB]at p1;rw[zq1 (by decide),zq0 (by omega),egy,zB]at p2;rw[Lstep 0 0 rfl _ _ _ _ [] _ _ _ (by omega) (by simp) p0];by_cases c1:go.E=0
   ·rw[zq1 c1,Lstep 1 _ rfl _ _ _ _ _ _ _ _ (by omega) (by simp) p1];by_cases c2:gx.E=0
    ·rw[zq1 c2,Lstep 2 _ rfl _ _ _ _ _ _ _ _ (by omega) (by simp) p2];by_cases c3:gy.E=0
     ·rw[zq1 c3,Lend _ _ _ _ _ _ _ _ (by omega) (by omega)];refine⟨_,rfl,fun _=>?_⟩;obtain⟨Γ',h1,h2,h3,rfl⟩:=brk (by omega) (by omega);refine⟨_,h1,h2,h3,fun e=>?_⟩;obtain⟨b1,b2,b3,b4⟩:=fin (o:=⟨⟨0,0,[],[],0,0⟩,0,0⟩) e;rw[hx]at b4;injection b4 with b4 b5;injection b5 with b5 b6;injection b6 with b6;obtain⟨q1,q2,q3,q4⟩:=hgo c1;exact .if_ _ t a x y ga.Type_ k b1 b2 b3 hx ((hga q1).2 (q2.symm.trans b4.symm)) (q3.elim id id) q4 kx ky (hgx c2 b5.symm) (hgy c3 b6.symm)
     ·rw[zq0 c3];exact⟨_,rfl,fun h=>absurd h c3⟩
    ·rw[zq0 c2];exact⟨_,rfl,fun h=>absurd h c2⟩
   ·rw[zq0 c1];exact⟨_,rfl,fun h=>absurd h c1⟩
  ·have l2:t.L.length=2:=by rw[hx];rfl
   have hma:a∈t.L:=by rw[hx];exact List.mem_cons_self ..
   have hmx:x∈t.L:=by rw[hx];exact List.mem_cons_of_mem _ (List.mem_cons_self ..)
   obtain⟨ga,ega,hga⟩:=ofx a hma;obtain⟨gx,egx,hgx⟩:=blk x hmx kx;obtain⟨go,ego,hgo⟩:=y1S m Γ a 2 2 ga ega;have pe:wR t.K=some (2,1):=by rw[k];rfl
   have p0:=parts (2,1) pe 0 a (by rw[hx];rfl);have p1:=parts (2,1) pe 1 x (by rw[hx];rfl);simp only[w3]at p0 p1;rw[zq0 (by decide),zq0 (by omega),zq0 (by omega),zq1 k,ego,zB]at p0;rw[zq1 (by decide),zq0 (by omega),egx,zB]at p1;rw[Lstep 0 0 rfl _ _ _ _ [] _ _ _ (by omega) (by simp) p0];by_cases c1:go.E=0
   ·rw[zq1 c1,Lstep 1 _ rfl _ _ _ _ _ _ _ _ (by omega) (by simp) p1];by_cases c2:gx.E=0
    ·rw[zq1 c2,Lend _ _ _ _ _ _ _ _ (by omega) (by omega)];refine⟨_,rfl,fun _=>?_⟩;obtain⟨Γ',h1,h2,h3,rfl⟩:=brk (by omega) (by omega);refine⟨_,h1,h2,h3,fun e=>?_⟩;obtain⟨b1,b2,b3,b4⟩:=fin (o:=⟨⟨0,0,[],[],0,0⟩,0,0⟩) e;rw[hx]at b4;injection b4 with b4 b5;injection b5 with b5;obtain⟨q1,q2,q3,q4⟩:=hgo c1;exact .while_ _ t a x ga.Type_ k b1 b2 b3 hx ((hga q1).2 (q2.symm.trans b4.symm)) (q3.elim id id) q4 kx (hgx c2 b5.symm)
    ·rw[zq0 c2];exact⟨_,rfl,fun h=>absurd h c2⟩
   ·rw[zq0 c1];exact⟨_,rfl,fun h=>absurd h c1⟩
  ·have l3:t.L.length=3:=by rw[hx];rfl
   have hma:a∈t.L:=by rw[hx];exact List.mem_cons_self ..
   have hmb:b∈t.L:=by rw[hx];exact List.mem_cons_of_mem _ (List.mem_cons_self ..)
   have hmx:x∈t.L:=by rw[hx];exact List.mem_cons_of_mem _ (List.mem_cons_of_mem _ (List.mem_cons_self ..))
   have hts:=z7T hx;have pa:=z2P a;have pm:=z2P m;obtain⟨ga,ega,hga⟩:=ofx a hma;obtain⟨gb,egb,hgb⟩:=ofx b hmb;obtain⟨gx,egx,hgx⟩:=(ih x hmx (hw.L_.2 _ hmx)).1 B (Γ++[v0q]) hm (fun w hw'=>by
    rcases List.mem_append.1 hw' with h|h
    ·exact hΓ w h
    ·rw[List.mem_singleton.1 h,show zM v0q=1 from rfl];omega) (by simp;omega) (by omega)
   obtain⟨go,ego,hgo⟩:=y1S m Γ a 1 1 ga ega;obtain⟨gp,egp,hgp⟩:=y1S m Γ b 1 1 gb egb;have pe:wR t.K=some (3,1):=by rw[k];rfl
   have p0:=parts (3,1) pe 0 a (by rw[hx];rfl);have p1:=parts (3,1) pe 1 b (by rw[hx];rfl);have p2:=parts (3,1) pe 2 x (by rw[hx];rfl);simp only[w4]at p0 p1 p2;rw[zq0 (by decide),zq0 (by omega),zq0 (by omega),zq0 (by omega),zq1 k,ego,zB]at p0;rw[zq0 (by decide),zq0 (by omega),zq0 (by omega),zq0 (by omega),zq1 k,egp,zB]at p1;rw[zq1 (by decide),zq1 k,egx,zB]at p2;rw[Lstep 0 0 rfl _ _ _ _ [] _ _ _ (by omega) (by simp) p0];by_cases c1:go.E=0
   ·rw[zq1 c1,Lstep 1 _ rfl _ _ _ _ _ _ _ _ (by omega) (by simp) p1];by_cases c2:gp.E=0
    ·rw[zq1 c2,Lstep 2 _ rfl _ _ _ _ _ _ _ _ (by omega) (by simp) p2];by_cases c3:gx.E=0
     ·rw[zq1 c3,Lend _ _ _ _ _ _ _ _ (by omega) (by omega)];refine⟨_,rfl,fun _=>?_⟩;obtain⟨Γ',h1,h2,h3,rfl⟩:=brk (by omega) (by omega);refine⟨_,h1,h2,h3,fun e=>?_⟩;obtain⟨b1,b2,b3,b4⟩:=fin (o:=⟨⟨0,0,[],[],0,0⟩,0,0⟩) e;rw[hx]at b4;injection b4 with b4 b5;injection b5 with b5 b6;injection b6 with b6;obtain⟨q1,q2,q3,q4⟩:=hgo c1;obtain⟨q1',q2',q3',q4'⟩:=hgp c2;obtain⟨a1,a2,a3,Γ',hT⟩:=hgx c3 b6.symm
      exact .for_ _ t a b x ga.Type_ gb.Type_ k b1 b2 b3 hx ((hga q1).2 (q2.symm.trans b4.symm)) (q3.elim id id) q4 ((hgb q1').2 (q2'.symm.trans b5.symm)) (q3'.elim id id) q4' kx (.block _ Γ' x kx a1 a2 a3 hT)
     ·rw[zq0 c3];exact⟨_,rfl,fun h=>absurd h c3⟩
    ·rw[zq0 c2];exact⟨_,rfl,fun h=>absurd h c2⟩
   ·rw[zq0 c1];exact⟨_,rfl,fun h=>absurd h c1⟩
def v1S(p:zA):Prop:=p.K=34∧∃x,p.L=[x]
theorem v1i(l:List zA)(hl:l.length≤1000000000):∃b,z1k l=some b∧(b=true↔∀p∈l,v1S p):=by
 have loop:∀(k i:Nat),i+k=l.length→∃b,yH l i=some b∧(b=true↔∀p∈l.drop i,v1S p):=by
  intro k;induction k with
  |zero=>
   intro i hi;rw[z4u];unfold uP;rw[zq0 (by omega),List.drop_eq_nil_of_le (by omega)];exact⟨_,rfl,by simp⟩
  |succ k ih=>
   intro i hi;have hlt:i<l.length:=by omega
   rw[z4u];unfold uP;rw[zq1 (by omega),wU hlt,zB,zB,z4d (by omega),List.drop_eq_getElem_cons hlt,List.forall_mem_cons];by_cases h1:l[i].K=34
   ·rw[zq1 h1];by_cases h2:(List.length l[i].L:Int)=1
    ·rw[zq1 h2];obtain⟨b,e,hb⟩:=ih (i+1) (by omega);exact⟨b,e,hb.trans ⟨fun h=>⟨⟨h1,v0c h2⟩,h⟩,fun h=>h.2⟩⟩
    ·rw[zq0 h2];exact⟨_,rfl,fun h=>Bool.noConfusion h,fun h=>by obtain⟨x,hx⟩:=h.1.2;rw[hx]at h2;exact absurd rfl h2⟩
   ·rw[zq0 h1];exact⟨_,rfl,fun h=>Bool.noConfusion h,fun h=>absurd h.1.1 h1⟩
 unfold z1k;obtain⟨b,e,hb⟩:=loop l.length 0 (by omega);exact⟨b,e,by simpa using hb⟩
theorem y9i(f ps:zA)(r:List zA)(hL:f.L=ps::r)(hl:ps.L.length≤1000000000)(hp:∀p∈ps.L,v1S p):z1z f=some (ps.L.map hd):=by
 have loop:∀(k i:Nat) (out:List zA),i+k=ps.L.length→out.length=i→yU out i f=some (out++(ps.L.drop i).map hd):=by
  intro k;induction k with
  |zero=>
   intro i out hi ho;rw[z5B];unfold jL;rw[hL,show idx (ps::r) 0=some ps from rfl,zB,zq0 (by omega),List.drop_eq_nil_of_le (by omega)];simp
  |succ k ih=>
   intro i out hi ho;have hlt:i<ps.L.length:=by omega
   obtain⟨-,y,hy⟩:=hp _ (List.getElem_mem hlt);have e1:hd ps.L[i]=y:=by unfold hd;rw[hy];rfl
   rw[z5B];unfold jL;rw[hL,show idx (ps::r) 0=some ps from rfl,zB,zB,zq1 (by omega),wU hlt,zB,hy,show idx [y] 0=some y from rfl,zB,zq1 (z3M (by simp;omega)),z4d (by omega),ih (i+1) _ (by omega) (by simp[ho]),List.drop_eq_getElem_cons hlt,List.map_cons,e1];simp only[List.append_assoc,List.singleton_append]
 unfold z1z;exact loop ps.L.length 0 [] (by omega) rfl
theorem v2S(t:zA)(h:zM t≤1000000000):∃b,wO t=some b:=by
 induction t using zA.ind with
 |h t ih=>
  have hl:=vX t;have loop:∀(k i:Nat),i+k=t.L.length→∃b,vB i t=some b:=by
   intro k;induction k with
   |zero=>
    intro i hi;rw[z6P];unfold gI;rw[zq0 (by omega)];exact⟨_,rfl⟩
   |succ k ihk=>
    intro i hi;have hlt:i<t.L.length:=by omega
    have hm:=List.getElem_mem hlt;obtain⟨b,e⟩:=ih _ hm (by have:=zV hm;omega);rw[z6P];unfold gI;rw[zq1 (by omega),wU hlt,zB,e,zB,z4d (by omega)];cases b with
    |true=>rw[zq1 rfl];exact ihk (i+1) (by omega)
    |false=>rw[zq0 (by decide)];exact⟨_,rfl⟩
  rw[y6L];unfold z2m;by_cases k:t.K=4
  ·rw[zq1 k];exact⟨_,rfl⟩
  ·rw[zq0 k];exact loop t.L.length 0 (by omega)
theorem v2v(m t:zA)(hm:zM m≤1000000000)(h:zM t≤1000000000):∃b,z4m m t=some b:=by
 obtain⟨n,en,-⟩:=z6X hm h;obtain⟨b,eb⟩:=v2S t h;unfold z4m;rw[en,zB];by_cases c:n>0
 ·rw[zq1 c,eb];exact⟨_,rfl⟩
 ·rw[zq0 c];exact⟨_,rfl⟩
structure v3t(m t:zA)(ps r b:zA):Prop where
 K:t.K=33
 L:t.L=[ps,r,b]
 psK:ps.K=35
 parts:∀p∈ps.L,v1S p
 good:∀p∈ps.L,Good m (hd p)
 goodr:Good m r
 bK:b.K=29
 body:TS m r (ps.L.map hd) b (ps.L.map hd)
 S:t.S=[]∧t.From=0∧t.To=0
 psn:y2i ps=ps
 rn:y2i r=r
theorem v3Q(m t:zA)(hm:2*zM m≤1000000000)(ht:t∈m.L)(hw:zA.Wf t)(hk:t.K=33):∃g,y1W m t=some g∧(g.E=0→g.T_=t→∃ps r b,v3t m t ps r b):=by
 have hts:=zV ht;have bad:∀{P:Ref16Got→Prop} (x:zA) (e:Int),e≠0→∃y,(yQ x e>>=fun q=>some q)=some y∧(y.E=0→P y):=fun {P} x e he=>⟨_,rfl,fun h=>absurd h he⟩;have main:∀{c:Prop} [Decidable c],∃g,(if(List.length t.L:Int)=3 then
   idx t.L 0>>=fun x4=>
   if x4.K=35 then
    idx t.L 0>>=fun x5=>
    z1k x5.L>>=fun q10=>
    if q10=true then
     idx t.L 2>>=fun x6=>
     if x6.K=29 then
      z1z t>>=fun q13=>
      idx t.L 1>>=fun x7=>
      if uJ 72 (List.length q13+List.length [x7])then
      vS (q13++[x7]) 0 m t (Ref16Got.mk (zA.mk 0 0 [] [] 0 0) 0 0)
      else none
     else
     yQ t 12>>=fun q12=>
     some (q12)
    else
    yQ t 12>>=fun q11=>
    some (q11)
   else
   yQ t 12>>=fun q9=>
   some (q9)
  else
  yQ t 12>>=fun q8=>
  some (q8))=some g∧(g.E=0→g.T_=t→∃ps r b,v3t m t ps r b):=by
  intro c _;by_cases c3:(List.length t.L:Int)=3
  ·rw[zq1 c3];obtain⟨ps,r,b,hL⟩:=v3J c3;have h3:=z7T hL;have hpl:=vX ps;have w3:=hw.L_.2;rw[hL]at w3;have wb:zA.Wf b:=w3 b (by simp);rw[hL,show idx [ps,r,b] 0=some ps from rfl,show idx [ps,r,b] 1=some r from rfl,show idx [ps,r,b] 2=some b from rfl];simp only[zB];by_cases k35:ps.K=35
   ·rw[zq1 k35];obtain⟨q,eq,hq⟩:=v1i ps.L (by omega);rw[eq,zB];cases q with
    |false=>rw[zq0 (by decide)];exact bad t 12 (by decide)
    |true=>
     rw[zq1 rfl];have hp:=hq.1 rfl;by_cases k29:b.K=29
     ·rw[zq1 k29,y9i t ps [r,b] hL (by omega) hp,zB,zq1 (z3M (by simp;omega))];have hsz:∀x∈ps.L.map hd++[r],zM x≤zM m:=fun x hx=>by
       rcases List.mem_append.1 hx with h|h
       ·obtain⟨p,hp',rfl⟩:=List.mem_map.1 h;obtain⟨-,y,hy⟩:=hp p hp';have s1:=z0W hy;have s2:=zV hp';have e1:hd p=y:=by unfold hd;rw[hy];rfl
        rw[e1];omega
       ·rw[List.mem_singleton.1 h];omega
      generalize hall:ps.L.map hd++[r]=all at *;have hlen:all.length=ps.L.length+1:=by rw[←hall];simp
      have L10:∀(k i:Nat) o,i+k=all.length→(∀x∈all,Good m x)→∃g,vJ all i m t o=some g∧(g.E=0→g.T_=t→∃ps r b,v3t m t ps r b):=by
       intro k;induction k with
       |zero=>
        intro i o hi hg;rw[z7y];unfold z0n;rw[zq0 (by omega),y9i t ps [r,b] hL (by omega) hp,zB,hL,show idx [ps,r,b] 1=some r from rfl,show idx [ps,r,b] 2=some b from rfl,zB,zB];obtain⟨g,eg,hg'⟩:=(v3i m r (by omega) b wb).1 (zM m) (ps.L.map hd) (Nat.le_refl _) (fun x hx=>hsz x (by rw[←hall];exact List.mem_append_left _ hx)) (by simp;omega) (by omega);rw[eg,zB];by_cases c0:g.E=0
        ·rw[zq1 c0,v3a t (by omega) (by omega),zB];have hnL:(y2i t).L=[y2i ps,y2i r,y2i b]:=by rw[y4B,hL];rfl
         rw[hnL,zq1 (by simp),zq1 (by simp)];refine⟨_,rfl,fun _ e=>?_⟩;have e2:=congrArg zA.S e;have e3:=congrArg zA.L e;have e4:=congrArg zA.From e;have e5:=congrArg zA.To e;rw[y4B]at e2 e4 e5;simp only at e2 e4 e5;have e3:[y2i ps,y2i r,g.T_]=[ps,r,b]:=by rw[←hL,←e3];rfl
         injection e3 with f1 e3;injection e3 with f2 e3;injection e3 with f3;obtain⟨a1,a2,a3,Γ',hT⟩:=hg' c0 f3;exact⟨ps,r,b,hk,hL,k35,hp,fun p hp'=>hg _ (by rw[←hall];exact List.mem_append_left _ (List.mem_map_of_mem hp')),hg r (by rw[←hall];simp),k29,.block _ Γ' b k29 a1 a2 a3 hT,⟨e2.symm,e4.symm,e5.symm⟩,f1,f2⟩
        ·rw[zq0 c0];exact⟨_,rfl,fun h=>absurd h c0⟩
       |succ k ih=>
        intro i o hi hg;have hlt:i<all.length:=by omega
        rw[z7y];unfold z0n;rw[zq1 (by omega),z4d (by omega),wU hlt];simp only[zB];by_cases n1:t.N=1
        ·rw[zq1 n1];obtain⟨q,eq⟩:=v2v m all[i] (by omega) (by have:=hsz _ (List.getElem_mem hlt);omega);rw[eq,zB];cases q with
         |true=>rw[zq1 rfl];exact ih (i+1) o (by omega) hg
         |false=>rw[zq0 (by decide)];exact bad _ 12 (by decide)
        ·rw[zq0 n1];exact ih (i+1) o (by omega) hg
      have L5:∀(k i:Nat) o,i+k=all.length→(∀x∈all.take i,Good m x)→∃g,vS all i m t o=some g∧(g.E=0→g.T_=t→∃ps r b,v3t m t ps r b):=by
       intro k;induction k with
       |zero=>
        intro i o hi hg;rw[z8x];unfold z0B;rw[zq0 (by omega)];rw[List.take_of_length_le (by omega)]at hg;exact L10 all.length 0 o (by omega) hg
       |succ k ih=>
        intro i o hi hg;have hlt:i<all.length:=by omega
        rw[z8x];unfold z0B;obtain⟨n,en,n0,hn⟩:=z6X (m:=m) (t:=all[i]) (by omega) (by have:=hsz _ (List.getElem_mem hlt);omega);rw[zq1 (by omega),z4d (by omega),wU hlt];simp only[zB];rw[en,zB];by_cases c0:n=0
        ·rw[zq1 c0];exact bad _ 11 (by decide)
        ·rw[zq0 c0];refine ih (i+1) o (by omega) fun x hx=>?_;rw[List.take_succ_eq_append_getElem hlt,List.mem_append]at hx;rcases hx with hx|hx
         ·exact hg x hx
         ·rw[List.mem_singleton.1 hx];exact hn.1 c0
      exact L5 all.length 0 _ (by omega) (by simp)
     ·rw[zq0 k29];exact bad t 12 (by decide)
   ·rw[zq0 k35];exact bad t 12 (by decide)
  ·rw[zq0 c3];exact bad t 12 (by decide)
 unfold y1W;by_cases n0:t.N=0
 ·rw[zq1 n0];exact main (c:=True)
 ·rw[zq0 n0];by_cases n1:t.N=1
  ·rw[zq1 n1];exact main (c:=True)
  ·rw[zq0 n1];exact bad t 12 (by decide)
inductive y0j(m:zA)(i:Nat)(d:zA):Prop
 |fn (ps r b:zA):v3t m d ps r b→y0j m i d
 |rcd:y7g d→Good m ⟨4,i,[],[],0,0⟩→y2i d=d→y0j m i d
 |var (x:zA):d.K=32→d.L=[x]→Good m x→y2i d=d→y0j m i d
 |con (x:zA):d.K=31→d.L=[x]→x.L=[]→(x.K=5∨x.K=6∧(x.N=0∨x.N=1))→y2i d=d→y0j m i d
theorem v2R(m:zA)(hm:2*zM m≤1000000000)(hw:zA.Wf m)(i:Nat)(d:zA)(hd':m.L[i]?=some d):∃g,z6R m i=some g∧(g.E=0→g.T_=d→y0j m i d):=by
 have ht:=List.mem_of_getElem? hd';have hts:=zV ht;have bad:∀{P:Ref16Got→Prop} (x:zA) (e:Int),e≠0→∃y,(yQ x e>>=fun q=>some q)=some y∧(y.E=0→P y):=fun {P} x e he=>⟨_,rfl,fun h=>absurd h he⟩;unfold z6R;rw[y1C,hd',zB];by_cases k:d.K=33
 ·rw[zq1 k];obtain⟨g,eg,hg⟩:=v3Q m d hm ht (hw.L_.2 _ ht) k;rw[eg,zB];exact⟨g,rfl,fun c e=>by obtain⟨ps,r,b,h⟩:=hg c e;exact .fn ps r b h⟩
 rw[zq0 k];by_cases k:d.K=30
 ·rw[zq1 k];obtain⟨b,eb,hb⟩:=z8C d (by omega);rw[eb,zB];cases b with
  |false=>rw[zq0 (by decide)];exact bad d 12 (by decide)
  |true=>
   obtain⟨n,en,n0,hn⟩:=z6X (m:=m) (t:=⟨4,i,[],[],0,0⟩) (by omega) (by rw[wX];simp only[vP];omega);rw[zq1 rfl,en,zB];by_cases c:n=0
   ·rw[zq1 c];exact bad d 11 (by decide)
   ·rw[zq0 c,y6E d (by omega),zB];exact⟨_,rfl,fun _ e=>.rcd (hb.1 rfl) (hn.1 c) e⟩
 rw[zq0 k];by_cases k:d.K=32
 ·rw[zq1 k];by_cases c1:(List.length d.L:Int)=1
  ·obtain⟨x,hx⟩:=v0c c1;have s1:=z0W hx;obtain⟨n,en,n0,hn⟩:=z6X (m:=m) (t:=x) (by omega) (by omega);rw[zq1 c1,hx,show idx [x] 0=some x from rfl];simp only[zB];rw[en,zB];by_cases c:n=0
   ·rw[zq1 c];exact bad x 11 (by decide)
   ·rw[zq0 c,y6E d (by omega),zB];exact⟨_,rfl,fun _ e=>.var x k hx (hn.1 c) e⟩
  ·rw[zq0 c1];exact bad d 12 (by decide)
 rw[zq0 k];by_cases k:d.K=31
 ·rw[zq1 k];by_cases c1:(List.length d.L:Int)=1
  ·obtain⟨x,hx⟩:=v0c c1;rw[zq1 c1,hx,show idx [x] 0=some x from rfl];simp only[zB];rw[y9a,zB,y6E d (by omega),zB];by_cases c2:(List.length x.L:Int)>0
   ·rw[zq1 c2];exact bad d 12 (by decide)
   ·have hxL:x.L=[]:=List.length_eq_zero_iff.1 (by omega);rw[zq0 c2];by_cases k5:x.K=5
    ·rw[zq1 k5,zq0 (show ¬(1:Int)=0 by decide),zq0 (by omega)];exact⟨_,rfl,fun _ e=>.con x k hx hxL (.inl k5) e⟩
    ·rw[zq0 k5];by_cases k6:x.K=6
     ·rw[zq1 k6,zq0 (show ¬(2:Int)=0 by decide),zq1 k6];by_cases n0:x.N=0
      ·rw[zq1 n0];exact⟨_,rfl,fun _ e=>.con x k hx hxL (.inr ⟨k6,.inl n0⟩) e⟩
      ·rw[zq0 n0];by_cases n1:x.N=1
       ·rw[zq1 n1];exact⟨_,rfl,fun _ e=>.con x k hx hxL (.inr ⟨k6,.inr n1⟩) e⟩
       ·rw[zq0 n1];exact bad d 12 (by decide)
     ·rw[zq0 k6,zq1 (show(0:Int)=0 from rfl)];exact bad d 12 (by decide)
  ·rw[zq0 c1];exact bad d 12 (by decide)
 rw[zq0 k];exact bad d 12 (by decide)
def v3O(m:zA):Prop:=m.K=36∧m.S=[]∧m.From=0∧m.To=0∧∀(i:Nat) d,m.L[i]?=some d→y0j m i d
theorem v2y(m:zA)(hm:2*zM m≤1000000000)(hw:zA.Wf m):∃b,z4v m=some b∧(b=true→v3O m):=by
 have hml:=vX m;have loop:∀(k i:Nat) o K N S L F T,i+k=m.L.length→L.length=i →
   ∃g,yC i m o K N S L F T=some g∧(g.2.2=0→g.1.K=K∧g.1.S=S∧g.1.From=F∧g.1.To=T∧∃M,g.1.L=L++M∧(M=m.L.drop i→∀(j:Nat) d,i≤j→m.L[j]?=some d→y0j m j d)):=by
  intro k;induction k with
  |zero=>
   intro i o K N S L F T hi hL;rw[z4t];unfold uO;rw[zq0 (by omega)];exact⟨_,rfl,fun _=>⟨rfl,rfl,rfl,rfl,[],by simp,fun _ j d hj hd=>absurd (List.getElem?_eq_some_iff.1 hd).1 (by omega)⟩⟩
  |succ k ih=>
   intro i o K N S L F T hi hL;have hlt:i<m.L.length:=by omega
   have gi:=List.getElem?_eq_getElem hlt;obtain⟨g,eg,hg⟩:=v2R m hm hw i _ gi;rw[z4t];unfold uO;rw[zq1 (by omega),eg,zB];by_cases c:g.E=0
   ·rw[zq1 c,zq1 (z3M (by simp;omega)),z4d (by omega)];obtain⟨g',eg',hg'⟩:=ih (i+1) o K N S (L++[g.T_]) F T (by omega) (by simp[hL]);refine⟨g',eg',fun c'=>?_⟩;obtain⟨h1,h2,h3,h4,M,hM,hT⟩:=hg' c';refine⟨h1,h2,h3,h4,g.T_::M,by rw[hM];simp,fun e j d hj hd=>?_⟩;rw[List.drop_eq_getElem_cons hlt]at e;injection e with e1 e2;by_cases hji:j=i
    ·subst hji;rw[gi]at hd;cases hd;exact hg c e1
    ·exact hT e2 j d (by omega) hd
   ·rw[zq0 c];exact⟨_,rfl,fun h=>absurd h c⟩
 unfold z4v z5e;by_cases k:m.K=36
 ·rw[zq1 k];obtain⟨g,eg,hg⟩:=loop m.L.length 0 ⟨0,0,[],[],0,0⟩ m.K m.N [] [] 0 0 (by omega) rfl;have eg':yC 0 m ⟨0,0,[],[],0,0⟩ m.K m.N [] [] 0 0=some g:=eg;rw[eg',zB];by_cases c:g.2.2=0
  ·obtain⟨b,eb,hb⟩:=v0g m g.1 (by omega);rw[zq1 c,eb,zB];refine⟨b,rfl,fun h=>?_⟩;obtain⟨h1,h2,h3,h4,M,hM,hT⟩:=hg c;rw[hb.1 h]at h2 h3 h4 hM;refine⟨k,h2,h3,h4,fun i d hd=>hT (by simpa using hM.symm) i d (Nat.zero_le _) hd⟩
  ·rw[zq0 c];exact⟨_,rfl,fun h=>Bool.noConfusion h⟩
 ·rw[zq0 k,zB,zq0 (show ¬(12:Int)=0 by decide)];exact⟨_,rfl,fun h=>Bool.noConfusion h⟩
theorem y8H{n k:Nat}(h:n<k)(hk:k≤9223372036854775807):IntKind.wrap .i64 ((n:Int)+1)=((n+1:Nat):Int):=by rw[z2O];exact z2v (by omega) (by omega)
theorem v1M(v:Value):Value.Wf v→∀left levels:Int,0≤left→left≤1000000→levels≤1000000→∃n,wB v left levels=some n∧-1≤n∧n≤left:=by
 induction v using Value.ind with
 |h v ih=>
  intro hw left levels h0 h1 h2;rw[y4G];unfold z1A;by_cases c:levels≤0
  ·rw[zq1 c];exact⟨_,rfl,by omega,by omega⟩
  rw[zq0 c,z2v (n:=left-1) (by omega) (by omega)];have loop:∀(k i:Nat) (l:Int),i+k=v.L.length→-1≤l→l≤left→∃n,yL l levels i v=some n∧-1≤n∧n≤l:=by
   intro k;induction k with
   |zero=>
    intro i l hi hl hl';rw[z5C];unfold jM;rw[zq0 (by omega)];exact⟨_,rfl,hl,Int.le_refl _⟩
   |succ k ihk=>
    intro i l hi hl hl';have hlt:i<v.L.length:=by omega
    rw[z5C];unfold jM;rw[zq1 (by omega)];by_cases c2:l≥0
    ·have hm:=List.getElem_mem hlt;obtain⟨n,en,n0,n1⟩:=ih _ hm (hw.L_.2 _ hm) l (levels-1) c2 (by omega) (by omega);rw[zq1 c2,wU hlt,zB,z2v (n:=levels-1) (by omega) (by omega),en,zB,y8H hlt hw.L_.1];obtain⟨n',en',h1',h2'⟩:=ihk (i+1) n (by omega) n0 (by omega);exact⟨n',en',h1',by omega⟩
    ·rw[zq0 c2];exact⟨_,rfl,hl,Int.le_refl _⟩
  obtain⟨n,en,n0,n1⟩:=loop v.L.length 0 (left-1) (by omega) (by omega) (by omega);exact⟨n,en,n0,by omega⟩
theorem y6X(v:Value)(hw:Value.Wf v):∃b,z3l v=some b:=by
 obtain⟨n,en,-⟩:=v1M v hw 300 60 (by omega) (by omega) (by omega);unfold z3l;rw[en];exact⟨_,rfl⟩
theorem y8O(l:List Value)(hw:∀v∈l,Value.Wf v)(hl:l.length≤9223372036854775807):∃b,z3m l=some b∧(b=false→l.length≤40):=by
 have loop:∀(k i:Nat),i+k=l.length→∃b,yV l i=some b∧(b=false→l.length≤40):=by
  intro k;induction k with
  |zero=>
   intro i hi;rw[z5D];unfold jN;rw[zq0 (by omega)];exact⟨_,rfl,fun h=>by have:=of_decide_eq_false h;omega⟩
  |succ k ih=>
   intro i hi;have hlt:i<l.length:=by omega
   rw[z5D];unfold jN;rw[zq1 (by omega)];by_cases c:(i:Int)<40
   ·obtain⟨b,eb⟩:=y6X l[i] (hw _ (List.getElem_mem hlt));rw[zq1 c,wU hlt,zB,eb,zB,y8H hlt hl];cases b with
    |true=>rw[zq1 rfl];exact⟨_,rfl,fun h=>Bool.noConfusion h⟩
    |false=>rw[zq0 (by decide)];exact ih (i+1) (by omega)
   ·rw[zq0 c];exact⟨_,rfl,fun h=>by have:=of_decide_eq_false h;omega⟩
 unfold z3m;exact loop l.length 0 (by omega)
structure v0t(s:State):Prop where
 g:s.Globals.length≤40
 l:s.Locals.length≤40
 i:s.Input.length≤100
 t:s.Trace.length≤200
 f:s.Fuel≤3000
theorem v1x(s:State)(hw:State.Wf s):∃b,z2t s=some b∧(b=false→v0t s):=by
 unfold z2t;by_cases c1:(List.length s.Globals:Int)>40
 ·rw[zq1 c1];exact⟨_,rfl,fun h=>Bool.noConfusion h⟩
 rw[zq0 c1];by_cases c2:(List.length s.Locals:Int)>40
 ·rw[zq1 c2];exact⟨_,rfl,fun h=>Bool.noConfusion h⟩
 rw[zq0 c2];by_cases c3:(List.length s.Input:Int)>100
 ·rw[zq1 c3];exact⟨_,rfl,fun h=>Bool.noConfusion h⟩
 rw[zq0 c3];by_cases c4:(List.length s.Trace:Int)>200
 ·rw[zq1 c4];exact⟨_,rfl,fun h=>Bool.noConfusion h⟩
 rw[zq0 c4];by_cases c5:s.Fuel>3000
 ·rw[zq1 c5];exact⟨_,rfl,fun h=>Bool.noConfusion h⟩
 rw[zq0 c5];obtain⟨b1,e1⟩:=y6X s.Ret hw.Ret_;obtain⟨b2,e2,-⟩:=y8O s.Globals hw.Globals_.2 hw.Globals_.1;obtain⟨b3,e3,-⟩:=y8O s.Locals hw.Locals_.2 hw.Locals_.1;have sm:v0t s:=⟨by omega,by omega,by omega,by omega,by omega⟩;rw[e1,zB];cases b1 with
 |true=>rw[zq1 rfl];exact⟨_,rfl,fun h=>Bool.noConfusion h⟩
 |false=>
  rw[zq0 (by decide),e2,zB];cases b2 with
  |true=>rw[zq1 rfl];exact⟨_,rfl,fun h=>Bool.noConfusion h⟩
  |false=>rw[zq0 (by decide),e3,zB];exact⟨_,rfl,fun _=>sm⟩
theorem v2E(a:zA):∀b:zA,zM a≤1000000000→∃c,wT a b=some c∧(c=true↔z0g a=z0g b):=by
 induction a using zA.ind with
 |h a ih=>
  intro b h;have hl:=vX a;have loop:∀(k i:Nat),i+k=a.L.length→a.L.length=b.L.length→∃c,slices_EqualFunc_G30Same_L4 b.L a.L (a.L.length:Int) i=some c∧(c=true↔(a.L.drop i).map z0g=(b.L.drop i).map z0g):=by
   intro k;induction k with
   |zero=>
    intro i hi hab;rw[z0e];unfold yY;rw[zq0 (by omega),List.drop_eq_nil_of_le (by omega),List.drop_eq_nil_of_le (by omega)];exact⟨_,rfl,by simp⟩
   |succ k ihk=>
    intro i hi hab;have hlt:i<a.L.length:=by omega
    have hlt':i<b.L.length:=by omega
    have hm:=List.getElem_mem hlt;rw[z0e];unfold yY;obtain⟨c,e,hc⟩:=ih _ hm b.L[i] (by have:=zV hm;omega);rw[zq1 (by omega),wU hlt,zB,wU hlt',zB,e,zB,z4d (by omega),List.drop_eq_getElem_cons hlt,List.drop_eq_getElem_cons hlt',List.map_cons,List.map_cons];cases c with
    |true=>
     obtain⟨c',e',hc'⟩:=ihk (i+1) (by omega) hab;rw[zq1 rfl];exact⟨c',e',by rw[hc'];simp[hc.1 rfl]⟩
    |false=>
     rw[zq0 (by decide)];exact⟨false,rfl,by simp;intro h;exact absurd (hc.2 h) (by simp)⟩
  rw[y6S];unfold z2u;rw[z3R a,z3R b];by_cases h1:a.K=b.K
  ·rw[zq1 h1];by_cases h2:a.N=b.N
   ·rw[zq1 h2];by_cases h3:a.S=b.S
    ·rw[zq1 h3,z3N];unfold vT;by_cases h4:(List.length a.L:Int)=(List.length b.L:Int)
     ·rw[zq1 h4];obtain⟨c,e,hc⟩:=loop a.L.length 0 (by omega) (by omega);have e:slices_EqualFunc_G30Same_L4 b.L a.L (a.L.length:Int) 0=some c:=e;rw[e];exact⟨c,rfl,by rw[hc];simp[h1,h2,h3]⟩
     ·rw[zq0 h4];refine⟨_,rfl,by simp;intro _ _ _ hx;exact h4 (by have:=congrArg List.length hx;simp at this;omega)⟩
    ·rw[zq0 h3];exact⟨_,rfl,by simp;intro _ _ hx;exact absurd hx h3⟩
   ·rw[zq0 h2];exact⟨_,rfl,by simp;intro _ hx;exact absurd hx h2⟩
  ·rw[zq0 h1];exact⟨_,rfl,by simp;intro hx;exact absurd hx h1⟩
theorem v0a(c:Ref25Rule)(hT:c.Types.length≤9223372036854775807∧∀x∈c.Types,zA.Wf x)(hM:zA.Wf c.M)(hL:zA.Wf c.L)(hR:zA.Wf c.R)(hS:State.Wf c.S):
  ∃b,z4A c=some b∧(b=false→c.Types.length≤40∧(∀x∈c.Types,zM x≤400)∧zM c.M≤400∧zM c.L≤400∧zM c.R≤400∧v0t c.S):=by
 have tail:∀(h:c.Types.length≤40→∀x∈c.Types,zM x≤400),∃b,(if(List.length c.Types:Int)>40 then some true else uK c.M>>=fun q2=>if q2=true then some true else uK c.L>>=fun q3=>if q3=true then some true else uK c.R>>=fun q4=>if q4=true then some true else z2t c.S>>=fun q5=>some q5)=some b ∧
   (b=false→c.Types.length≤40∧(∀x∈c.Types,zM x≤400)∧zM c.M≤400∧zM c.L≤400∧zM c.R≤400∧v0t c.S):=by
  intro h;have no:∀{P:Prop},∃b,some true=some b∧(b=false→P):=⟨_,rfl,fun h=>Bool.noConfusion h⟩;by_cases c1:(List.length c.Types:Int)>40
  ·rw[zq1 c1];exact no
  rw[zq0 c1];obtain⟨b1,e1,h1⟩:=y0d c.M hM;obtain⟨b2,e2,h2⟩:=y0d c.L hL;obtain⟨b3,e3,h3⟩:=y0d c.R hR;obtain⟨b4,e4,h4⟩:=v1x c.S hS;rw[e1,zB];cases b1 with
  |true=>rw[zq1 rfl];exact no
  |false=>
   rw[zq0 (by decide),e2,zB];cases b2 with
   |true=>rw[zq1 rfl];exact no
   |false=>
    rw[zq0 (by decide),e3,zB];cases b3 with
    |true=>rw[zq1 rfl];exact no
    |false=>
     rw[zq0 (by decide),e4,zB];exact⟨b4,rfl,fun hb=>⟨by omega,h (by omega),h1 rfl,h2 rfl,h3 rfl,h4 hb⟩⟩
 have loop:∀(k i:Nat),i+k=c.Types.length→(∀x∈c.Types.take i,zM x≤400)→∃b,yW i c=some b∧(b=false→c.Types.length≤40∧(∀x∈c.Types,zM x≤400)∧zM c.M≤400∧zM c.L≤400∧zM c.R≤400∧v0t c.S):=by
  intro k;induction k with
  |zero=>
   intro i hi ht;rw[z5F];unfold jP;rw[zq0 (by omega)];rw[List.take_of_length_le (by omega)]at ht;exact tail (fun _=>ht)
  |succ k ih=>
   intro i hi ht;have hlt:i<c.Types.length:=by omega
   rw[z5F];unfold jP;rw[zq1 (by omega)];by_cases c4:(i:Int)<40
   ·obtain⟨b,eb,hb⟩:=y0d c.Types[i] (hT.2 _ (List.getElem_mem hlt));rw[zq1 c4,wU hlt,zB,eb,zB,y8H hlt hT.1];cases b with
    |true=>rw[zq1 rfl];exact⟨_,rfl,fun h=>Bool.noConfusion h⟩
    |false=>
     rw[zq0 (by decide)];refine ih (i+1) (by omega) fun x hx=>?_;rw[List.take_succ_eq_append_getElem hlt,List.mem_append]at hx;rcases hx with hx|hx
     ·exact ht x hx
     ·rw[List.mem_singleton.1 hx];exact hb rfl
   ·rw[zq0 c4];exact tail (fun h=>by omega)
 unfold z4A;exact loop c.Types.length 0 (by omega) (by simp)
def v3y(l:List zA)(k:Nat):Bool:=(l.take k++l.drop (k+1)).all fun x=>(nds x).all q1
theorem v1X{l:List zA}{k:Nat}(h:v3y l k=true):∀(j:Nat) x,j≠k→l[j]?=some x→(nds x).all q1=true:=by
 intro j x hj hx;unfold v3y at h;rw[List.all_eq_true]at h;have hlt:=(List.getElem?_eq_some_iff.1 hx).1;refine h x (List.mem_append.2 ?_);by_cases c:j<k
 ·left;exact List.mem_of_getElem? (i:=j) (by rw[List.getElem?_take_of_lt c];exact hx)
 ·right;exact List.mem_of_getElem? (i:=j-(k+1)) (by rw[List.getElem?_drop,show k+1+(j-(k+1))=j by omega];exact hx)
theorem v2Z(s:List zA)(hs:∀x∈s,zM x≤1000)(hl:s.length≤1000000):vV s=some (!s.all fun x=>(nds x).all q1):=by
 have loop:∀(k i:Nat),i+k=s.length→∃r,slices_IndexFunc_G61pick_1L2 s (s.length:Int) (i:Int)=some r∧decide (r≥0)=!((s.drop i).all fun x=>(nds x).all q1):=by
  intro k;induction k with
  |zero=>
   intro i hi;rw[gQ];unfold yP;rw[zq0 (by omega),List.drop_eq_nil_of_le (by omega)];exact⟨_,rfl,rfl⟩
  |succ k ih=>
   intro i hi;have hlt:i<s.length:=by omega
   obtain⟨-,-,-,hq⟩:=v2w (hs _ (List.getElem_mem hlt));rw[gQ];unfold yP z4Y;rw[zq1 (by omega),wU hlt,zB,hq,zB,zB,List.drop_eq_getElem_cons hlt,List.all_cons,z2v (by omega) (by omega),z2O];cases (nds s[i]).all q1 with
   |true=>exact(ih (i+1) (by omega)).imp fun r h=>by simpa using h
   |false=>exact⟨_,rfl,by simp⟩
 unfold vV uD;obtain⟨r,e,h⟩:=loop s.length 0 (by omega);rw[show((0:Nat):Int)=0 from rfl]at e;rw[e,zB,h,List.drop_zero]
def y6I(l:List zA)(i:Int):zA×Bool:=if 0≤i∧i<l.length then(l.getD i.toNat zT,v3y l i.toNat)else(zT,false)
theorem v1j(l:List zA)(i:Int)(hs:∀x∈l,zM x≤1000)(hl:l.length≤100000):z4i l i=some (y6I l i):=by
 unfold z4i y6I;by_cases c1:i<0
 ·rw[zq1 c1,zq0 (by omega)]
 rw[zq0 c1];by_cases c2:i≥(l.length:Int)
 ·rw[zq1 c2,zq0 (by omega)]
 rw[zq0 c2,zq1 (by omega),zq1 (by omega),zq1 (by omega),zq1 (by omega),z2v (by omega) (by omega),zq1 (by omega),zq1 (by omega),zq1 (by omega),List.take_length,List.drop_zero,show(i+1).toNat=i.toNat+1 by omega];have hf:([l.take i.toNat,l.drop (i.toNat+1)]:List (List zA)).flatten=l.take i.toNat++l.drop (i.toNat+1):=by simp
 have hm:∀x∈l.take i.toNat++l.drop (i.toNat+1),x∈l:=fun x hx=>by
  rcases List.mem_append.1 hx with h|h
  ·exact List.mem_of_mem_take h
  ·exact List.mem_of_mem_drop h
 have hlen:(l.take i.toNat++l.drop (i.toNat+1)).length≤l.length:=by
  rw[List.length_append,List.length_take,List.length_drop];omega
 unfold z0T;rw[hf,zq1 (by simp),zq1 (by omega),zB,v2Z _ (fun x hx=>hs x (hm x hx)) (by omega),zB];have hi:i.toNat<l.length:=by omega
 have e:idx l i=some l[i.toNat]:=by
  have:=wU hi
  rwa [show((i.toNat:Nat):Int)=i by omega]at this
 rw[e,zB,Bool.not_not,List.getD_eq_getElem?_getD,List.getElem?_eq_getElem hi];rfl
theorem v0L{α β:Type}(x:Option (α×β)):(x>>=fun q=>some (q.1,q.2))=x:=by cases x<;>rfl
def y8B(m:zA)(rule:Int)(l:zA):zA×Bool:=
 if rule=30 then y8m l else if l.S=[]then
  if rule=31 then(if l.K=8∧l.L.length=0∧0≤l.N∧l.N<m.L.length then(match m.L[l.N.toNat]? with|some d=>(match d.L with|[x]=>if d.K=31 then(x,z3j x 5 || z3j x 6)else(zT,false)|_=>(zT,false))|none=>(zT,false))else(zT,false))
  else if rule=32 then(match l.L with|[x]=>if l.K=13∧x.K=15∧x.S=[]∧0≤l.N∧Int.tdiv l.N 64=x.N then y6I x.L (Int.tmod l.N 64)else(zT,false)|_=>(zT,false))
  else if rule=33 then(match l.L with|[x,j]=>if l.K=12∧x.K=14∧x.S=[]∧z3j j 5=true then y6I x.L j.N else(zT,false)|_=>(zT,false))
  else(zT,false)
 else(zT,false)
theorem v3h(m:zA)(rule:Int)(l:zA)(hl:zM l≤400)(hw:zA.Wf l):z6F m rule l=some (y8B m rule l):=by
 have hN:=i64_iff.1 hw.N_;unfold z6F y8B;simp only[v0L];by_cases r30:rule=30
 ·rw[zq1 r30,zq1 r30,z9t]
 rw[zq0 r30,zq0 r30];by_cases hS:l.S=[]
 case neg=>rw[zq0 hS,zq0 hS]
 rw[zq1 hS,zq1 hS];by_cases r31:rule=31
 ·rw[zq1 r31,zq1 r31];by_cases c1:l.K=8
  case neg=>rw[zq0 c1,zq0 (fun h=>c1 h.1)]
  rw[zq1 c1];by_cases c2:l.L.length=0
  case neg=>rw[zq0 (by omega),zq0 (fun h=>c2 h.2.1)]
  rw[zq1 (by omega)];by_cases c3:0≤l.N
  case neg=>rw[zq0 c3,zq0 (fun h=>c3 h.2.2.1)]
  rw[zq1 c3];by_cases c4:l.N<m.L.length
  case neg=>rw[zq0 c4,zq0 (fun h=>c4 h.2.2.2)]
  have hi:l.N.toNat<m.L.length:=by omega
  have e:idx m.L l.N=some m.L[l.N.toNat]:=by
   have:=wU hi
   rwa [show((l.N.toNat:Nat):Int)=l.N by omega]at this
  rw[zq1 c4,zq1 ⟨c1,c2,c3,c4⟩,e,List.getElem?_eq_getElem hi,zB];generalize m.L[l.N.toNat]=d;simp only;rcases hd:d.L with _|⟨x,_|⟨y,r⟩⟩
  ·simp
  ·simp only[show idx [x] 0=some x from rfl,zB,y1A];rw[zq1 (show((List.length [x]:Nat):Int)=1 by simp)];by_cases k:d.K=31
   ·rw[zq1 k,zq1 k];cases z3j x 5<;>simp
   ·rw[zq0 k,zq0 k]
  ·rw[zq0 (show ¬((List.length (x::y::r):Nat):Int)=1 by simp;omega)];simp
 rw[zq0 r31,zq0 r31];by_cases r32:rule=32
 ·rw[zq1 r32,zq1 r32];rcases hL:l.L with _|⟨x,_|⟨y,r⟩⟩
  ·simp
  ·have h1:=z0W hL;have h2:=wX x;have hps:∀z∈x.L,zM z≤1000:=fun z hz=>by have:=zV hz;omega
   have hpl:=z1B x.L;simp only[show idx [x] 0=some x from rfl,zB];rw[v1j _ _ hps (by omega)];rw[zq1 (show((List.length [x]:Nat):Int)=1 by simp)];by_cases c1:l.K=13
   case neg=>rw[zq0 c1,zq0 (fun h=>c1 h.1)]
   by_cases c2:x.K=15
   case neg=>rw[zq1 c1,zq0 c2,zq0 (fun h=>c2 h.2.1)]
   by_cases c3:x.S=[]
   case neg=>rw[zq1 c1,zq1 c2,zq0 c3,zq0 (fun h=>c3 h.2.2.1)]
   by_cases c4:l.N<0
   ·rw[zq1 c1,zq1 c2,zq1 c3,zq1 c4,zq0 (fun h=>by omega)]
   have hd:=Int.tdiv_eq_ediv_of_nonneg (b:=64) (show 0≤l.N by omega);rw[z2v (n:=Int.tdiv l.N 64) (by omega) (by omega)];by_cases c5:Int.tdiv l.N 64=x.N
   ·rw[zq1 c1,zq1 c2,zq1 c3,zq0 c4,zq1 (by decide),zq1 c5,zq1 (by decide),zq1 ⟨c1,c2,c3,by omega,c5⟩]
   ·rw[zq1 c1,zq1 c2,zq1 c3,zq0 c4,zq1 (by decide),zq0 c5,zq0 (fun h=>c5 h.2.2.2.2)]
  ·rw[zq0 (show ¬((List.length (x::y::r):Nat):Int)=1 by simp;omega)];simp
 rw[zq0 r32,zq0 r32];by_cases r33:rule=33
 ·rw[zq1 r33,zq1 r33];rcases hL:l.L with _|⟨x,_|⟨y,_|⟨z,r⟩⟩⟩
  ·simp
  ·simp
  ·have h1:=z8E hL;have h2:=wX x;have hps:∀z∈x.L,zM z≤1000:=fun z hz=>by have:=zV hz;omega
   have hpl:=z1B x.L;simp only[show idx [x,y] 0=some x from rfl,show idx [x,y] 1=some y from rfl,zB,y1A];rw[v1j _ _ hps (by omega),zq1 (show((List.length [x,y]:Nat):Int)=2 by simp)];by_cases c1:l.K=12
   case neg=>rw[zq0 c1,zq0 (fun h=>c1 h.1)]
   by_cases c2:x.K=14
   case neg=>rw[zq1 c1,zq0 c2,zq0 (fun h=>c2 h.2.1)]
   by_cases c3:x.S=[]
   case neg=>rw[zq1 c1,zq1 c2,zq0 c3,zq0 (fun h=>c3 h.2.2.1)]
   rw[zq1 c1,zq1 c2,zq1 c3];cases c4:z3j y 5 with
   |true=>rw[zq1 rfl,zq1 ⟨c1,c2,c3,rfl⟩]
   |false=>rw[zq0 (by decide),zq0 (fun h=>Bool.noConfusion h.2.2.2)]
  ·rw[zq0 (show ¬((List.length (x::y::z::r):Nat):Int)=2 by simp;omega)];simp
 rw[zq0 r33,zq0 r33]
def Like(x:Option (zA×Bool))(p:zA×Bool):Prop:=∃w,x=some (w,p.2)∧(p.2=true→w=p.1)
theorem Like.of{w:zA}{b:Bool}{p:zA×Bool}(h:b=p.2)(g:p.2=true→w=p.1):Like (some (w,b)) p:=⟨w,by rw[h],g⟩
theorem Like.no:Like (some (zT,false)) (zT,false):=⟨_,rfl,fun h=>by cases h⟩
theorem y9d(l:List zA)(i:Int)(hs:∀x∈l,zM x≤1000)(hl:l.length≤100000):Like (z4B l i) (y6I l i):=by
 unfold z4B y6I;by_cases c1:i<0
 ·rw[zq1 c1,zq0 (by omega)];exact .no
 rw[zq0 c1];by_cases c2:i≥(l.length:Int)
 ·rw[zq1 c2,zq0 (by omega)];exact .no
 rw[zq0 c2,zq1 (by omega)];have hi:i.toNat<l.length:=by omega
 have e:idx l i=some l[i.toNat]:=by
  have:=wU hi
  rwa [show((i.toNat:Nat):Int)=i by omega]at this
 have loop:∀(k j:Nat) (o:zA),j+k=l.length→∃w b,vF l i (j:Int) o=some (w,b)∧(b=true↔∀(n:Nat) x,j≤n→n≠i.toNat→l[n]?=some x→(nds x).all q1=true)∧(b=true→w=l[i.toNat]):=by
  intro k;induction k with
  |zero=>
   intro j o hj;rw[z6S];unfold gJ;rw[zq0 (by omega),e];exact⟨_,true,rfl,⟨fun _ n x hn _ hx=>absurd (List.getElem?_eq_some_iff.1 hx).1 (by omega),fun _=>rfl⟩,fun _=>rfl⟩
  |succ k ih=>
   intro j o hj;have hlt:j<l.length:=by omega
   have gj:=List.getElem?_eq_getElem hlt;obtain⟨w,b,h1,h2,h3⟩:=ih (j+1) o (by omega);rw[z6S];unfold gJ;rw[zq1 (by omega),wU hlt,zB,v1r _ (by have:=hs _ (List.getElem_mem hlt);omega),zB,z2v (by omega) (by omega),z2O];by_cases ej:(j:Int)=i
   ·rw[zq1 ej];refine⟨w,b,h1,h2.trans ⟨fun h n x hn hne hx=>?_,fun h n x hn hne hx=>h n x (by omega) hne hx⟩,h3⟩;exact h n x (by omega) hne hx
   ·rw[zq0 ej];cases hq:(nds l[j]).all q1 with
    |true=>
     rw[zq1 rfl];refine⟨w,b,h1,h2.trans ⟨fun h n x hn hne hx=>?_,fun h n x hn hne hx=>h n x (by omega) hne hx⟩,h3⟩;by_cases en:n=j
     ·subst en;rw[gj]at hx;cases hx;exact hq
     ·exact h n x (by omega) hne hx
    |false=>
     rw[zq0 (by decide)];exact⟨_,false,rfl,⟨fun h=>Bool.noConfusion h,fun h=>by rw[h j _ (Nat.le_refl _) (by omega) gj]at hq;cases hq⟩,fun h=>Bool.noConfusion h⟩
 obtain⟨w,b,h1,h2,h3⟩:=loop l.length 0 (zA.mk 0 0 [] [] 0 0) (by omega);rw[show((0:Nat):Int)=0 from rfl]at h1;rw[h1];have hb:b=v3y l i.toNat:=by
  rw[Bool.eq_iff_iff];refine h2.trans ⟨fun h=>?_,fun h n x _ hne hx=>v1X h n x hne hx⟩;unfold v3y;rw[List.all_eq_true];intro x hx;rcases List.mem_append.1 hx with hx|hx
  ·obtain⟨n,hn⟩:=List.getElem?_of_mem hx;have hlt:=(List.getElem?_eq_some_iff.1 hn).1;rw[List.length_take]at hlt;rw[List.getElem?_take_of_lt (by omega)]at hn;exact h n x (by omega) (by omega) hn
  ·obtain⟨n,hn⟩:=List.getElem?_of_mem hx;rw[List.getElem?_drop]at hn;exact h _ x (by omega) (by omega) hn
 refine .of hb fun h=>?_;rw[h3 (hb.trans h),List.getD_eq_getElem?_getD,List.getElem?_eq_getElem hi];rfl
theorem Like.ite{c d:Prop}[Decidable c][Decidable d]{x:Option (zA×Bool)}{p:zA×Bool}(h:c↔d)(g:d→Like x p):Like (if c then x else some (zT,false)) (if d then p else(zT,false)):=by
 by_cases hd:d
 ·rw[zq1 hd,zq1 (h.2 hd)];exact g hd
 ·rw[zq0 hd,zq0 (fun e=>hd (h.1 e))];exact .no
theorem v2z(m:zA)(rule:Int)(l:zA)(hl:zM l≤400)(hw:zA.Wf l):Like (z6T m rule l) (y8B m rule l):=by
 have hN:=i64_iff.1 hw.N_;unfold z6T y8B;simp only[v0L];by_cases r30:rule=30
 ·rw[zq1 r30,zq1 r30,y8x l hw];exact⟨_,rfl,fun _=>rfl⟩
 rw[zq0 r30,zq0 r30];by_cases hS:l.S=[]
 case neg=>rw[zq0 hS,zq0 hS];exact .no
 rw[zq1 hS,zq1 hS];by_cases r31:rule=31
 ·rw[zq1 r31,zq1 r31];by_cases c1:l.K=8
  case neg=>rw[zq0 c1,zq0 (fun h=>c1 h.1)];exact .no
  rw[zq1 c1];by_cases c2:l.L.length=0
  case neg=>rw[zq0 (by omega),zq0 (fun h=>c2 h.2.1)];exact .no
  rw[zq1 (by omega)];by_cases c3:0≤l.N
  case neg=>rw[zq0 c3,zq0 (fun h=>c3 h.2.2.1)];exact .no
  rw[zq1 c3];by_cases c4:l.N<m.L.length
  case neg=>rw[zq0 c4,zq0 (fun h=>c4 h.2.2.2)];exact .no
  have hi:l.N.toNat<m.L.length:=by omega
  have e:idx m.L l.N=some m.L[l.N.toNat]:=by
   have:=wU hi
   rwa [show((l.N.toNat:Nat):Int)=l.N by omega]at this
  rw[zq1 c4,zq1 ⟨c1,c2,c3,c4⟩,e,List.getElem?_eq_getElem hi,zB];generalize m.L[l.N.toNat]=d;simp only;rcases hd:d.L with _|⟨x,_|⟨y,r⟩⟩
  ·simp only[List.length_nil];rw[zq0 (show ¬((0:Nat):Int)=1 by decide),ite_self];exact .no
  ·simp only[show idx [x] 0=some x from rfl,zB,y1Y];rw[zq1 (show((List.length [x]:Nat):Int)=1 by simp)];refine .ite Iff.rfl fun _=>?_;cases h:(z3j x 5 || z3j x 6)with
   |true=>rw[zq1 rfl];exact .of rfl fun _=>rfl
   |false=>rw[zq0 (by decide)];exact .of rfl fun h=>by cases h
  ·rw[zq0 (show ¬((List.length (x::y::r):Nat):Int)=1 by simp;omega),ite_self];exact .no
 rw[zq0 r31,zq0 r31];by_cases r32:rule=32
 ·rw[zq1 r32,zq1 r32];rcases hL:l.L with _|⟨x,_|⟨y,r⟩⟩
  ·simp only[List.length_nil];rw[zq0 (show ¬((0:Nat):Int)=1 by decide),ite_self];exact .no
  ·have h1:=z0W hL;have h2:=wX x;have hps:∀z∈x.L,zM z≤1000:=fun z hz=>by have:=zV hz;omega
   have hpl:=z1B x.L;simp only[show idx [x] 0=some x from rfl,zB];rw[zq1 (show((List.length [x]:Nat):Int)=1 by simp)];by_cases c1:l.K=13
   case neg=>rw[zq0 c1,zq0 (fun h=>c1 h.1)];exact .no
   by_cases c4:l.N≥0
   case neg=>rw[zq1 c1,zq0 c4,zq0 (fun h=>c4 h.2.2.2.1)];exact .no
   by_cases c2:x.K=15
   case neg=>rw[zq1 c1,zq1 c4,zq0 c2,zq0 (fun h=>c2 h.2.1)];exact .no
   by_cases c3:x.S=[]
   case neg=>rw[zq1 c1,zq1 c4,zq1 c2,zq0 c3,zq0 (fun h=>c3 h.2.2.1)];exact .no
   have hd:=Int.tdiv_eq_ediv_of_nonneg (b:=64) (show 0≤l.N by omega);rw[zq1 c1,zq1 c4,zq1 c2,zq1 c3,zq1 (show(64:Int)≠0 by decide),z2v (n:=Int.tdiv l.N 64) (by omega) (by omega),zq1 (show(64:Int)≠0 by decide)];exact .ite ⟨fun h=>⟨c1,c2,c3,c4,h.symm⟩,fun h=>h.2.2.2.2.symm⟩ fun _=>y9d _ _ hps (by omega)
  ·rw[zq0 (show ¬((List.length (x::y::r):Nat):Int)=1 by simp;omega),ite_self];exact .no
 rw[zq0 r32,zq0 r32];by_cases r33:rule=33
 ·rw[zq1 r33,zq1 r33];rcases hL:l.L with _|⟨x,_|⟨y,_|⟨z,r⟩⟩⟩
  ·simp only[List.length_nil];rw[zq0 (show ¬((0:Nat):Int)=2 by decide),ite_self];exact .no
  ·rw[zq0 (show ¬((List.length [x]:Nat):Int)=2 by simp),ite_self];exact .no
  ·have h1:=z8E hL;have h2:=wX x;have hps:∀z∈x.L,zM z≤1000:=fun z hz=>by have:=zV hz;omega
   have hpl:=z1B x.L;simp only[show idx [x,y] 0=some x from rfl,show idx [x,y] 1=some y from rfl,zB,y1Y];rw[zq1 (show((List.length [x,y]:Nat):Int)=2 by simp)];by_cases c1:l.K=12
   case neg=>rw[zq0 c1,zq0 (fun h=>c1 h.1)];exact .no
   by_cases c2:x.K=14
   case neg=>rw[zq1 c1,zq0 c2,zq0 (fun h=>c2 h.2.1)];exact .no
   by_cases c3:x.S=[]
   case neg=>rw[zq1 c1,zq1 c2,zq0 c3,zq0 (fun h=>c3 h.2.2.1)];exact .no
   rw[zq1 c1,zq1 c2,zq1 c3];by_cases c5:y.K=5
   case neg=>rw[zq0 c5,zq0 (fun h=>c5 (z1W h.2.2.2))];exact .no
   rw[zq1 c5];have h6:z3j y 6=false:=by
    cases h:z3j y 6 with
    |false=>rfl
    |true=>have:=z1W h;omega
   rw[h6,Bool.or_false];exact .ite ⟨fun h=>⟨c1,c2,c3,h⟩,fun h=>h.2.2.2⟩ fun _=>y9d _ _ hps (by omega)
  ·rw[zq0 (show ¬((List.length (x::y::z::r):Nat):Int)=2 by simp;omega),ite_self];exact .no
 rw[zq0 r33,zq0 r33];exact .no
theorem y9Q(t:zA):zM (y8m t).1≤1:=by
 unfold y8m
 repeat' split
 all_goals exact z9b _ _
theorem y3f(l:List zA)(i:Int):zM (y6I l i).1≤vP l+1:=by
 unfold y6I;split
 ·rename_i h
  have hi:i.toNat<l.length:=by omega
  simp only;rw[List.getD_eq_getElem?_getD,List.getElem?_eq_getElem hi];have:=zV (t:=⟨0,0,[],l,0,0⟩) (List.getElem_mem hi);rw[wX ⟨0,0,[],l,0,0⟩]at this;show zM l[i.toNat]≤_;simp only at this;omega
 ·have:zM zT≤1:=z9b 0 0;simp only;omega
theorem v0l(m:zA)(rule:Int)(l:zA):zM (y8B m rule l).1≤zM m+zM l+1:=by
 have z:zM zT≤1:=z9b 0 0;unfold y8B;split
 ·have:=y9Q l;omega
 split
 ·split
  ·split
   ·split
    ·rename_i d hd
     have h1:=zV (List.mem_of_getElem? hd);split
     ·rename_i x hx
      have h2:=z0W hx;split
      ·simp only;omega
      ·simp only;omega
     ·simp only;omega
    ·simp only;omega
   ·simp only;omega
  ·split
   ·split
    ·rename_i x hx
     have h1:=z0W hx;have h2:=wX x;split
     ·have:=y3f x.L (Int.tmod l.N 64);omega
     ·simp only;omega
    ·simp only;omega
   ·split
    ·split
     ·rename_i x y hx
      have h1:=z8E hx;have h2:=wX x;split
      ·have:=y3f x.L y.N;omega
      ·simp only;omega
     ·simp only;omega
    ·simp only;omega
 ·simp only;omega
theorem y6r(x0:Ref25Rule)(w0:Ref25Rule.Wf x0):z2C x0=some true:=by
 unfold z2C;obtain⟨b,e,hb⟩:=v0a x0 w0.Types_ w0.M_ w0.L_ w0.R_ w0.S_;rw[e,zB,y6q];simp only[zB];cases b with
 |true=>rw[zq1 rfl]
 |false=>
  obtain⟨-,-,sm,sl,sr,-⟩:=hb rfl;rw[zq0 (by decide)];obtain⟨b1,e1,-⟩:=v2y x0.M (by omega) w0.M_;rw[e1,zB];cases b1 with
  |false=>rw[zq0 (by decide)]
  |true=>
   rw[zq1 rfl];obtain⟨w,e2,h2⟩:=v2z x0.M x0.Rule x0.L sl w0.L_;have e3:=v3h x0.M x0.Rule x0.L sl w0.L_;unfold z6Z z7j;rw[e2,e3,zB,zB];simp only;have hz:=v0l x0.M x0.Rule x0.L;generalize y8B x0.M x0.Rule x0.L=p at *;cases hp:p.2 with
   |false=>simp
   |true=>
    rw[h2 hp];rw[zq1 rfl,zq1 rfl];obtain⟨c,ec,hc⟩:=v2E p.1 x0.R (by omega);obtain⟨d,ed,hd⟩:=y1Z p.1 x0.R (by omega);rw[ec,ed,zB,zB,zB,zB,zq1 (by rw[Bool.eq_iff_iff];exact hc.trans hd.symm)]
end Go.Proofs.Ytcpblelppecabaa.M

