import Derived.Test.YtcpblelppecabaaGreatMod
import Derived.Test.YtcpblelppecabaaGreatWf
namespace Go.Proofs.YtcpblelppecabaaGreat.M
open Go Nt
set_option linter.unusedVariables false
set_option linter.unusedSimpArgs false
set_option linter.unusedSectionVars false
theorem z1H{n:Int}(h1:-9223372036854775808≤n)(h2:n≤9223372036854775807):IntKind.wrap .i64 n=n:=by rw[IntKind.wrap_i64];omega
theorem i64_iff{n:Int}:InK .i64 n↔-9223372036854775808≤n∧n≤9223372036854775807:=by
 have h1:IntKind.i64.min=-9223372036854775808:=by decide
 have h2:IntKind.i64.max=9223372036854775807:=by decide
 unfold InK;rw[h1,h2]
theorem z5R{α:Type}(l:List α)(n:Nat):idx l (n:Int)=l[n]?:=by unfold idx;rw[zq1 (by omega)];rfl
theorem wG{α:Type}{l:List α}{n:Nat}(h:n<l.length):idx l (n:Int)=some l[n]:=by rw[z5R];exact List.getElem?_eq_getElem h
theorem zB{α β:Type}(x:α)(k:α→Option β):(some x>>=k)=k x:=rfl
theorem z6Y(n:Nat):((n:Int)+1)=((n+1:Nat):Int):=by omega
def b01(b:Bool):Int:=if b=true then 1 else 0
def v8E(k a b:Int):Bool:=if k=3 then a == b else if k=4 then !(a == b)else if k=5 then decide (a<b)else if k=6 then decide (a≤b)else if k=7 then decide (a>b)else decide (a≥b)
def v7A(k a:Int):Int:=if k=1 then IntKind.wrap .i64 (0-a)else if k=2 then b01 (a == 0)else 0
def y3U(k a b:Int):Int×Int:=
 if k=1 then(b01 (!(a == 0) || !(b == 0)),0)else if k=2 then(b01 (!(a == 0) && !(b == 0)),0)
 else if 3≤k∧k≤8 then(b01 (v8E k a b),0)
 else if k=9 then(IntKind.wrap .i64 (a+b),0)else if k=10 then(IntKind.wrap .i64 (a-b),0)else if k=11 then(IntKind.wrap .i64 (a*b),0)
 else if k=12 then(if b=0 then(0,1)else(IntKind.wrap .i64 (a.tdiv b),0))else if k=13 then(if b=0 then(0,1)else(a.tmod b,0))else(0,0)
theorem z9W(b:Bool):z1k b=some (b01 b):=by cases b<;>rfl
theorem z9P(b:Bool):z0B b=some (b01 b):=by cases b<;>rfl
theorem z7d(n:Int):IntKind.wrap .i64 n=(n+9223372036854775808) % 18446744073709551616-9223372036854775808:=by rw[IntKind.wrap_i64]
theorem v9y(n:Int):IntKind.wrap .i64 (IntKind.wrap .u64 n)=IntKind.wrap .i64 n:=by rw[IntKind.wrap_u64,z7d,z7d];omega
theorem v2c(n:Int):IntKind.wrap .i64 (IntKind.wrap .u64 (0-n))=IntKind.wrap .i64 (-n):=by rw[v9y];congr 1;omega
theorem v2G(k a:Int):z6A k a=some (v7A k a,0):=by
 unfold z6A v7A;by_cases h1:k=1
 ·rw[zq1 h1,zq1 h1]
 rw[zq0 h1,zq0 h1];by_cases h2:k=2
 ·rw[zq1 h2,zq1 h2,z9W];rfl
 rw[zq0 h2,zq0 h2]
theorem z9T(k a:Int):z1D k a=some (v7A k a):=by
 unfold z1D v7A;by_cases h1:k=1
 ·rw[zq1 h1,zq1 h1,v9y,IntKind.wrap_u64,z7d,z7d];congr 1;omega
 rw[zq0 h1,zq0 h1];by_cases h2:k=2
 ·rw[zq1 h2,zq1 h2,z9P];rfl
 rw[zq0 h2,zq0 h2]
theorem v7I(k a b:Int)(h1:9≤k)(h2:k≤13):z4I k a b=some (y3U k a b):=by
 unfold z4I y3U;rw[zq0 (show ¬k=1 by omega),zq0 (show ¬k=2 by omega),zq0 (show ¬(3≤k∧k≤8)by omega)];by_cases h9:k=9
 ·rw[zq1 h9,zq1 h9]
 rw[zq0 h9,zq0 h9];by_cases h10:k=10
 ·rw[zq1 h10,zq1 h10]
 rw[zq0 h10,zq0 h10];by_cases h11:k=11
 ·rw[zq1 h11,zq1 h11]
 rw[zq0 h11,zq0 h11];rcases(show k=12∨k=13 by omega)with rfl|rfl
 ·by_cases hb:b=0<;>simp[hb]
 ·by_cases hb:b=0<;>simp[hb]
theorem v8D(k:Int):z5J k=some (if k=1∨k=2 then 0 else if 3≤k∧k≤8 then 1 else if 9≤k∧k≤13 then 2 else 3):=by
 unfold z5J
 repeat' split
 all_goals first|rfl|omega
theorem v2H(k a b:Int):z8R k a b=some (y3U k a b):=by
 unfold z8R;rw[v8D,zB];by_cases h12:k=1∨k=2
 ·rw[zq1 h12,zq1 rfl];unfold y3U;by_cases h1:k=1
  ·rw[zq1 h1,zq1 h1];by_cases ha:a=0
   ·rw[zq1 ha,z9W,ha];rfl
   ·rw[zq0 ha,z9W,show(a == 0)=false by simpa using ha];rfl
  ·rw[zq0 h1,zq0 h1,zq1 (show k=2 by omega)];by_cases ha:a=0
   ·rw[zq1 ha,z9W,ha];rfl
   ·rw[zq0 ha,z9W,show(a == 0)=false by simpa using ha];rfl
 rw[zq0 h12];by_cases h3:3≤k∧k≤8
 ·rw[zq1 h3,zq0 (by omega),zq1 rfl];have:z3F k a b=some (v8E k a b):=by
   unfold z3F v8E
   repeat' split
   all_goals first|rfl|omega
  rw[this,zB,z9W];unfold y3U;rw[zq0 (show ¬k=1 by omega),zq0 (show ¬k=2 by omega),zq1 h3];rfl
 rw[zq0 h3];by_cases h9:9≤k∧k≤13
 ·rw[zq1 h9,zq0 (by omega),zq0 (by omega),zq1 rfl,v7I k a b h9.1 h9.2];rfl
 ·rw[zq0 h9,zq0 (by omega),zq0 (by omega),zq0 (by omega)];unfold y3U;rw[zq0 (show ¬k=1 by omega),zq0 (show ¬k=2 by omega),zq0 h3,zq0 (show ¬k=9 by omega),zq0 (show ¬k=10 by omega),zq0 (show ¬k=11 by omega),zq0 (show ¬k=12 by omega),zq0 (show ¬k=13 by omega)]
theorem v1X:∀(y:Nat) (x r:Int),(y:Int)<18446744073709551616→yZ x y r=some (IntKind.wrap .i64 (r+x*y)):=by
 intro y;induction y using Nat.strongRecOn with
 |_ y ih=>
  intro x r hy;rw[y3T];unfold z0Y;by_cases h0:(y:Int)>0
  ·rw[zq1 h0];simp only[ne_eq,show ¬((2:Int)=0)by decide,not_false_eq_true,if_true];have hd:Int.tdiv (y:Int) 2=((y / 2:Nat):Int):=by rw[Int.tdiv_eq_ediv_of_nonneg (by omega)];omega
   have hm:Int.tmod (y:Int) 2=((y % 2:Nat):Int):=by rw[Int.tmod_eq_emod_of_nonneg (by omega)];omega
   have hw:IntKind.wrap .u64 (((y / 2:Nat):Int))=((y / 2:Nat):Int):=by rw[IntKind.wrap_u64];omega
   have hmul:x*(y:Int)=2*(x*((y / 2:Nat):Int))+x*((y % 2:Nat):Int):=by
    have:(y:Int)=2*((y / 2:Nat):Int)+((y % 2:Nat):Int):=by omega
    rw[show x*(y:Int)=x*(2*((y / 2:Nat):Int)+((y % 2:Nat):Int))by rw[←this],Int.mul_add,Int.mul_left_comm]
   have hx:IntKind.wrap .u64 (x+x)*((y / 2:Nat):Int)=2*(x*((y / 2:Nat):Int))-18446744073709551616*(((x+x) / 18446744073709551616)*((y / 2:Nat):Int)):=by
    rw[IntKind.wrap_u64,show(x+x) % 18446744073709551616=2*x-18446744073709551616*((x+x) / 18446744073709551616)by omega,Int.sub_mul,Int.mul_assoc,Int.mul_assoc]
   rw[hm,hd,hw,ih (y / 2) (by omega) _ _ (by omega),ih (y / 2) (by omega) _ _ (by omega),hx,hmul];rcases Nat.mod_two_eq_zero_or_one y with h|h
   ·rw[h,zq0 (by decide)];congr 1;rw[z7d,z7d];generalize x*((y / 2:Nat):Int)=t;generalize ((x+x) / 18446744073709551616)*((y / 2:Nat):Int)=s;simp;omega
   ·rw[h,zq1 (by decide)];congr 1;rw[z7d,z7d,IntKind.wrap_u64];generalize x*((y / 2:Nat):Int)=t;generalize ((x+x) / 18446744073709551616)*((y / 2:Nat):Int)=s;simp;omega
  ·rw[zq0 h0];have:(y:Int)=0:=by omega
   rw[this];simp
theorem v9v(a b:Int):z6T a b=some (IntKind.wrap .i64 (a*b)):=by
 unfold z6T;have hb:0≤IntKind.wrap .u64 b∧IntKind.wrap .u64 b<18446744073709551616:=by rw[IntKind.wrap_u64];omega
 obtain⟨y,hy⟩:=Int.eq_ofNat_of_zero_le hb.1;rw[hy,v1X y _ _ (by omega),←hy];congr 1;rw[IntKind.wrap_u64,IntKind.wrap_u64,z7d,z7d];have:a % 18446744073709551616*(b % 18446744073709551616) % 18446744073709551616=a*b % 18446744073709551616:=(Int.mul_emod a b _).symm;omega
theorem v5E(a b:Int)(ha:0≤a∧a<18446744073709551616)(hb:0<b∧b<18446744073709551616):∀(n:Nat) (q r:Int),n≤64→a / 2 ^ n=b*q+r→0≤q→0≤r→r<b →
  yF a b q r ((n:Int)-1)=some (a / b,a % b):=by
 intro n;induction n with
 |zero=>
  intro q r _ h hq hr hrb;rw[z6R];unfold gN;rw[zq0 (by omega)];have h':a=b*q+r:=by simpa using h
  have:=(Int.ediv_emod_unique (a:=a) (b:=b) (r:=r) (q:=q) hb.1).2 ⟨by omega,hr,hrb⟩;rw[this.1,this.2]
 |succ n ih=>
  intro q r hn h hq hr hrb;rw[z6R];unfold gN;have hi:((n+1:Nat):Int)-1=(n:Int):=by omega
  rw[hi];have hw3:IntKind.wrap .u64 (n:Int)=(n:Int):=by rw[IntKind.wrap_u64];omega
  have hmin:Min.min (Int.toNat (n:Int)) (IntKind.bits .u64)=n:=by simp[IntKind.bits];omega
  rw[hw3,hmin];have hf:Int.fdiv a (2 ^ n)=a / 2 ^ n:=by rw[Int.fdiv_eq_ediv_of_nonneg _ (by exact Int.le_of_lt (Int.pow_pos (by decide)))]
  rw[hf,zq1 (by omega),zq1 (by omega),zq1 (by decide)];have hhi:0≤a / 2 ^ n:=Int.ediv_nonneg ha.1 (Int.le_of_lt (Int.pow_pos (by decide)));have hlt:a / 2 ^ n<18446744073709551616:=Int.lt_of_le_of_lt (Int.ediv_le_self _ ha.1) ha.2;have hhalf:a / 2 ^ n / 2=a / 2 ^ (n+1):=by rw[Int.ediv_ediv_of_nonneg (Int.le_of_lt (Int.pow_pos (by decide))),Int.pow_succ]
  rw[Int.tmod_eq_emod_of_nonneg hhi];generalize hA:a / 2 ^ n=A at *;rw[h]at hhalf;have hbq:0≤b*q:=Int.mul_nonneg (Int.le_of_lt hb.1) hq;have hqle:q≤b*q:=by
   have:=Int.mul_le_mul_of_nonneg_right (show 1≤b by omega) hq;omega
  generalize hB:b*q=B at *;have h2q:b*(2*q)=2*B:=by rw[Int.mul_left_comm,hB]
  have h2q1:b*(2*q+1)=2*B+b:=by rw[Int.mul_add,h2q];omega
  have hA2:A=2*B+(2*r+A % 2):=by omega
  have hm:=Int.emod_nonneg A (show(2:Int)≠0 by decide);have e7:IntKind.wrap .u64 (q*2)=2*q:=by rw[IntKind.wrap_u64];omega
  have e6:IntKind.wrap .u64 (IntKind.wrap .u64 (r*2)+A % 2)=(2*r+A % 2) % 18446744073709551616:=by rw[IntKind.wrap_u64,IntKind.wrap_u64];omega
  have ei:IntKind.wrap .i64 ((n:Int)-1)=(n:Int)-1:=by rw[z7d];omega
  rw[e7,e6,ei];by_cases hc:r≥9223372036854775808
  ·rw[zq1 hc];have e8:IntKind.wrap .u64 ((2*r+A % 2) % 18446744073709551616-b)=2*r+A % 2-b:=by rw[IntKind.wrap_u64];omega
   have e9:IntKind.wrap .u64 (2*q+1)=2*q+1:=by rw[IntKind.wrap_u64];omega
   rw[e8,e9];exact ih (2*q+1) (2*r+A % 2-b) (by omega) (by rw[h2q1];omega) (by omega) (by omega) (by omega)
  ·have e6':(2*r+A % 2) % 18446744073709551616=2*r+A % 2:=by omega
   rw[zq0 hc,e6'];by_cases hg:2*r+A % 2≥b
   ·rw[zq1 hg];have e8:IntKind.wrap .u64 (2*r+A % 2-b)=2*r+A % 2-b:=by rw[IntKind.wrap_u64];omega
    have e9:IntKind.wrap .u64 (2*q+1)=2*q+1:=by rw[IntKind.wrap_u64];omega
    rw[e8,e9];exact ih (2*q+1) (2*r+A % 2-b) (by omega) (by rw[h2q1];omega) (by omega) (by omega) (by omega)
   ·rw[zq0 hg];exact ih (2*q) (2*r+A % 2) (by omega) (by rw[h2q];omega) (by omega) (by omega) (by omega)
theorem v6N(a b:Int)(ha:0≤a∧a<18446744073709551616)(hb:0<b∧b<18446744073709551616):z6b a b=some (a / b,a % b):=by
 unfold z6b;have h64:a / 2 ^ 64=b*0+0:=by
  rw[show(2:Int) ^ 64=18446744073709551616 from rfl];omega
 exact v5E a b ha hb 64 0 0 (Nat.le_refl _) h64 (Int.le_refl _) (Int.le_refl _) hb.1
def szI(a:Int):Int:=if a<0 then -a else a
abbrev v9Y(a:Int):Prop:=-9223372036854775808≤a∧a≤9223372036854775807
theorem v4T(a:Int)(h:v9Y a):z6S a=some (szI a):=by
 unfold z6S szI;by_cases h0:a<0
 ·rw[zq1 h0,zq1 h0,IntKind.wrap_u64,IntKind.wrap_u64,z7d,z7d];congr 1;omega
 ·rw[zq0 h0,zq0 h0,IntKind.wrap_u64];congr 1;omega
theorem w0q(a b:Int):a.tdiv b=if decide (a<0)=decide (b<0)then szI a / szI b else -(szI a / szI b):=by
 unfold szI;by_cases ha:a<0<;>by_cases hb:b<0
 ·simp only[ha,hb,if_true,decide_true];rw[←Int.tdiv_eq_ediv_of_nonneg (by omega),Int.neg_tdiv_neg]
 ·simp only[ha,hb,if_true,if_false,decide_true,decide_false,Bool.true_eq_false];rw[←Int.tdiv_eq_ediv_of_nonneg (by omega),Int.neg_tdiv,Int.neg_neg]
 ·simp only[ha,hb,if_true,if_false,decide_true,decide_false,Bool.false_eq_true];rw[←Int.tdiv_eq_ediv_of_nonneg (by omega),Int.tdiv_neg,Int.neg_neg]
 ·simp only[ha,hb,if_false,decide_false,if_true];rw[←Int.tdiv_eq_ediv_of_nonneg (by omega)]
theorem w0r(a b:Int):a.tmod b=if a<0 then -(szI a % szI b)else szI a % szI b:=by
 unfold szI;by_cases ha:a<0<;>by_cases hb:b<0
 ·simp only[ha,hb,if_true];rw[←Int.tmod_eq_emod_of_nonneg (by omega),Int.tmod_neg,Int.neg_tmod,Int.neg_neg]
 ·simp only[ha,hb,if_true,if_false];rw[←Int.tmod_eq_emod_of_nonneg (by omega),Int.neg_tmod,Int.neg_neg]
 ·simp only[ha,hb,if_true,if_false];rw[←Int.tmod_eq_emod_of_nonneg (by omega),Int.tmod_neg]
 ·simp only[ha,hb,if_false];rw[←Int.tmod_eq_emod_of_nonneg (by omega)]
theorem y6b(a b:Int)(ha:v9Y a)(hb:v9Y b)(h0:b≠0):z2r a b=some (IntKind.wrap .i64 (a.tdiv b),a.tmod b):=by
 have sa:0≤szI a∧szI a≤9223372036854775808:=by unfold szI;split<;>omega
 have sb:0<szI b∧szI b≤9223372036854775808:=by unfold szI;split<;>omega
 unfold z2r;rw[v4T a ha,v4T b hb,zB,zB,v6N _ _ (by omega) (by omega),zB];have hm:0≤szI a % szI b∧szI a % szI b<szI b:=⟨Int.emod_nonneg _ (by omega),Int.emod_lt_of_pos _ sb.1⟩;have em:IntKind.wrap .i64 (szI a % szI b)=szI a % szI b:=by rw[z7d];omega
 have emn:IntKind.wrap .i64 (-(szI a % szI b))=-(szI a % szI b):=by rw[z7d];omega
 rw[w0q,w0r,v2c,v2c,em,emn];by_cases hs:decide (a<0)=decide (b<0)
 ·rw[zq1 hs,zq1 hs];by_cases hn:a<0
  ·rw[zq1 hn,zq1 hn]
  ·rw[zq0 hn,zq0 hn]
 ·rw[zq0 hs,zq0 hs];by_cases hn:a<0
  ·rw[zq1 hn,zq1 hn]
  ·rw[zq0 hn,zq0 hn]
theorem w1x(a b:Int):IntKind.wrap .i64 (IntKind.wrap .u64 (IntKind.wrap .u64 a+IntKind.wrap .u64 b))=IntKind.wrap .i64 (a+b):=by
 rw[v9y,IntKind.wrap_u64,IntKind.wrap_u64,z7d,z7d];omega
theorem w1y(a b:Int):IntKind.wrap .i64 (IntKind.wrap .u64 (IntKind.wrap .u64 a-IntKind.wrap .u64 b))=IntKind.wrap .i64 (a-b):=by
 rw[v9y,IntKind.wrap_u64,IntKind.wrap_u64,z7d,z7d];omega
theorem y6f(k a b:Int)(ha:v9Y a)(hb:v9Y b):z2N k a b=some (y3U k a b):=by
 unfold z2N y3U;by_cases h1:k=1
 ·rw[zq1 h1,zq1 h1];by_cases ha:a=0
  ·rw[zq1 ha,z9P,ha];rfl
  ·rw[zq0 ha,z9P,show(a == 0)=false by simpa using ha];rfl
 rw[zq0 h1,zq0 h1];by_cases h2:k=2
 ·rw[zq1 h2,zq1 h2];by_cases ha:a=0
  ·rw[zq1 ha,z9P,ha];rfl
  ·rw[zq0 ha,z9P,show(a == 0)=false by simpa using ha];rfl
 rw[zq0 h2,zq0 h2];by_cases h38:3≤k∧k≤8
 ·rw[zq1 h38];simp only[z9P,zB];rcases(show k=3∨k=4∨k=5∨k=6∨k=7∨k=8 by omega)with rfl|rfl|rfl|rfl|rfl|rfl
  ·simp[v8E,b01]
  ·simp[v8E,b01]
  ·simp[v8E,b01]
  ·simp[v8E,b01]
  ·simp[v8E,b01]
  ·simp[v8E,b01]
 rw[zq0 h38,zq0 (show ¬k=3 by omega),zq0 (show ¬k=4 by omega),zq0 (show ¬k=5 by omega),zq0 (show ¬k=8 by omega),zq0 (show ¬k=7 by omega),zq0 (show ¬k=6 by omega)];by_cases h9:k=9
 ·rw[zq1 h9,zq1 h9,w1x]
 rw[zq0 h9,zq0 h9];by_cases h10:k=10
 ·rw[zq1 h10,zq1 h10,w1y]
 rw[zq0 h10,zq0 h10];by_cases h11:k=11
 ·rw[zq1 h11,zq1 h11,v9v];rfl
 rw[zq0 h11,zq0 h11];by_cases h12:k=12
 ·rw[zq1 h12,zq1 h12];by_cases h0:b=0
  ·rw[zq1 h0,zq1 h0]
  ·rw[zq0 h0,zq0 h0,y6b a b ha hb h0];rfl
 rw[zq0 h12,zq0 h12];by_cases h13:k=13
 ·rw[zq1 h13,zq1 h13];by_cases h0:b=0
  ·rw[zq1 h0,zq1 h0]
  ·rw[zq0 h0,zq0 h0,y6b a b ha hb h0];rfl
 rw[zq0 h13,zq0 h13]
mutual
def zI:zA→Nat
 |⟨_,_,_,l,_,_⟩=>1+wE l
def wE:List zA→Nat
 |[]=>0
 |x::r=>zI x+wE r
end
theorem jH(t:zA):zI t=1+wE t.L:=by cases t;simp[zI]
theorem z1B(t:zA):0<zI t:=by rw[jH];omega
theorem y1b{l:List zA}{i:Nat}(h:i<l.length):wE (l.drop i)=zI l[i]+wE (l.drop (i+1)):=by
 rw[List.drop_eq_getElem_cons h,wE]
theorem z7c(l:List zA):l.length≤wE l:=by
 induction l with
 |nil=>simp[wE]
 |cons x r ih=>have:=z1B x;simp[wE];omega
theorem v8F(t:zA):zA.Wf t→∀left levels:Int,0≤left→left≤1000000→levels≤1000000 →
  ∃v,uH t left levels=some v∧-1≤v∧v≤left∧(0≤v→v+zI t=left):=by
 induction t using zA.ind with
 |h t ih=>
  intro wt left levels h0 h1 h2;have loop:∀(k i:Nat) (lf:Int),i+k=t.L.length→-1≤lf→lf≤1000000→0<levels →
    ∃v,yT lf levels i t=some v∧-1≤v∧v≤lf∧(0≤v→v+wE (t.L.drop i)=lf):=by
   intro k;induction k with
   |zero=>
    intro i lf hi h3 h4 h5;rw[z8d];unfold z0j;rw[zq0 (by omega)];have:t.L.drop i=[]:=List.drop_eq_nil_of_le (by omega);exact⟨lf,rfl,h3,by omega,fun _=>by rw[this];simp[wE]⟩
   |succ k ihk=>
    intro i lf hi h3 h4 h5;rw[z8d];unfold z0j;rw[zq1 (by omega)];by_cases hlf:lf≥0
    ·rw[zq1 hlf,wG (show i<t.L.length by omega),zB,z1H (by omega) (by omega)];obtain⟨v,e,v1,v2,v3⟩:=ih _ (List.getElem_mem _) (wt.L_.2 _ (List.getElem_mem _)) lf (levels-1) hlf h4 (by omega);have hl:=wt.L_.1;rw[e,zB,z1H (by omega) (by omega),z6Y];obtain⟨u,e2,u1,u2,u3⟩:=ihk (i+1) v (by omega) v1 (by omega) h5;refine⟨u,e2,u1,by omega,fun hu=>?_⟩;rw[y1b (show i<t.L.length by omega)];have:=u3 hu;have:=v3 (by omega);omega
    ·rw[zq0 hlf];exact⟨lf,rfl,h3,by omega,fun h=>absurd h (by omega)⟩
  rw[y9s];unfold z3d;by_cases hlv:levels≤0
  ·rw[zq1 hlv];exact⟨-1,rfl,by omega,by omega,fun h=>absurd h (by omega)⟩
  ·rw[zq0 hlv,z1H (by omega) (by omega)];obtain⟨v,e,v1,v2,v3⟩:=loop t.L.length 0 (left-1) (by omega) (by omega) (by omega) (by omega);refine⟨v,e,v1,by omega,fun hv=>?_⟩;have:=v3 hv;rw[jH];simp at this;omega
theorem v9c(t:zA):zA.Wf t→∃b,uI t=some b:=by
 induction t using zA.ind with
 |h t ih=>
  intro wt;have loop:∀(k i:Nat),i+k=t.L.length→∃b,yU i t=some b:=by
   intro k;induction k with
   |zero=>
    intro i hi;rw[z8e];unfold z0k;rw[zq0 (by omega)];exact⟨_,rfl⟩
   |succ k ihk=>
    intro i hi;rw[z8e];unfold z0k;have hl:=wt.L_.1;obtain⟨b,e⟩:=ih _ (List.getElem_mem (show i<t.L.length by omega)) (wt.L_.2 _ (List.getElem_mem _));rw[zq1 (by omega),wG (show i<t.L.length by omega),zB,e,zB,z1H (by omega) (by omega),z6Y];cases b with
    |true=>exact⟨true,rfl⟩
    |false=>simpa using ihk (i+1) (by omega)
  rw[y9t];unfold z3e;by_cases h:(List.length t.S:Int)>40
  ·rw[zq1 h];exact⟨_,rfl⟩
  ·rw[zq0 h];exact loop t.L.length 0 (by omega)
theorem y3W(t:zA)(w:zA.Wf t):∃b,gE t=some b∧(b=false→zI t≤400):=by
 unfold gE;obtain⟨v,e,v1,v2,v3⟩:=v8F t w 400 70 (by omega) (by omega) (by omega);rw[e,zB];by_cases h:v<0
 ·rw[zq1 h];exact⟨true,rfl,by simp⟩
 ·rw[zq0 h];obtain⟨b,e2⟩:=v9c t w;rw[e2,zB];exact⟨b,rfl,fun _=>by have:=v3 (by omega);omega⟩
def y2x(t:zA)(k:Int):Bool:=decide (t.K=k) && decide (t.S=[]) && decide (t.L.length=0) && (decide (k=5) || decide (t.N=0) || decide (t.N=1))
theorem y5F(t:zA)(k:Int):gC t k=some (y2x t k):=by
 unfold gC y2x;by_cases h1:t.K=k
 ·by_cases h2:t.S=[]
  ·by_cases h3:t.L.length=0
   ·by_cases h4:k=5
    ·simp[h1,h2,h3,h4]
    ·by_cases h5:t.N=0
     ·simp[h1,h2,h3,h4,h5]
     ·simp[h1,h2,h3,h4,h5];rfl
   ·rw[zq1 h1,zq1 h2,zq0 (by omega)];simp[h3]
  ·simp[h1,h2]
 ·simp[h1]
theorem y2k(t:zA)(k:Int)(h:t.L.length≠2):uL t k=some false:=by
 unfold uL;rw[zq0 (by omega)]
theorem v6K(t:zA)(x y:zA)(h:t.L=[x,y])(k:Int):uL t k=some (y2x x k && y2x y k):=by
 unfold uL;rw[h];have e0:idx [x,y] 0=some x:=rfl;have e1:idx [x,y] 1=some y:=rfl;rw[zq1 (by simp),e0,e1,zB,zB,y5F,y5F,zB];cases y2x x k<;>cases y2x y k<;>rfl
def y9E(n:Int)(b5 b6:Bool):Int:=
 if n=3∨n=4 then(if(b5 || b6)=true then 6 else 0)else if n=1∨n=2 then(if b6=true then 6 else 0)
 else if 5≤n∧n≤8 then(if b5=true then 6 else 0)else if 9≤n∧n≤13 then(if b5=true then 5 else 0)else 0
theorem y1Q(t:zA)(b5 b6:Bool)(h5:uL t 5=some b5)(h6:uL t 6=some b6):z5Q t=some (y9E t.N b5 b6):=by
 unfold z5Q y9E;rw[h5,h6];simp only[zB];generalize t.N=n;by_cases hn:1≤n∧n≤13
 ·rcases(show n=1∨n=2∨n=3∨n=4∨n=5∨n=6∨n=7∨n=8∨n=9∨n=10∨n=11∨n=12∨n=13 by omega)with rfl|rfl|rfl|rfl|rfl|rfl|rfl|rfl|rfl|rfl|rfl|rfl|rfl <;>
  cases b5<;>cases b6<;>rfl
 ·rw[zq0 (show ¬n=3 by omega),zq0 (show ¬n=4 by omega),zq0 (show ¬n=1 by omega),zq0 (show ¬n=2 by omega),zq0 (show ¬n=5 by omega),zq0 (show ¬n=6 by omega),zq0 (show ¬n=7 by omega),zq0 (show ¬n=8 by omega),zq0 (show ¬n=9 by omega),zq0 (show ¬n=10 by omega),zq0 (show ¬n=11 by omega),zq0 (show ¬n=12 by omega),zq0 (show ¬n=13 by omega)];rw[zq0 (show ¬(n=3∨n=4)by omega),zq0 (show ¬(n=1∨n=2)by omega),zq0 (show ¬(5≤n∧n≤8)by omega),zq0 (show ¬(9≤n∧n≤13)by omega)]
theorem y2I(k n:Int):zI ⟨k,n,[],[],0,0⟩≤1:=by rw[jH];simp[wE]
abbrev zT:zA:=⟨0,0,[],[],0,0⟩
def v3R(t:zA):zA×Bool:=
 if t.S=[]then
  match t.L with
  |[x]=>if t.K=11 then(if t.N=1∧y2x x 5=true then(⟨x.K,v7A 1 x.N,[],[],0,0⟩,true)else if t.N=2∧y2x x 6=true then(⟨x.K,v7A 2 x.N,[],[],0,0⟩,true)else(zT,false))else(zT,false)
  |[x,y]=>if t.K=10 then(if y9E t.N (y2x x 5 && y2x y 5) (y2x x 6 && y2x y 6)=0 then(zT,false)else if(y3U t.N x.N y.N).2=0 then(⟨y9E t.N (y2x x 5 && y2x y 5) (y2x x 6 && y2x y 6),(y3U t.N x.N y.N).1,[],[],0,0⟩,true)else(zT,false))else(zT,false)
  |_=>(zT,false)
 else(zT,false)
theorem v4g(n:Int):y9E n false false=0:=by unfold y9E;simp
theorem y3b(t:zA):z5s t=some (v3R t):=by
 unfold z5s v3R;by_cases hS:t.S=[]
 ·rw[zq1 hS,zq1 hS];rcases hL:t.L with _|⟨x,_|⟨y,_|⟨z,r⟩⟩⟩
  ·rw[y1Q t false false (y2k t 5 (by rw[hL];simp)) (y2k t 6 (by rw[hL];simp)),zB,v4g];simp
  ·rw[y1Q t false false (y2k t 5 (by rw[hL];simp)) (y2k t 6 (by rw[hL];simp)),zB,v4g];have e0:idx [x] 0=some x:=rfl;simp only[e0,zB,y5F,v2G];rw[zq1 True.intro,zq1 (show(([x]:List zA).length:Int)=1 by simp)];by_cases hK:t.K=11
   ·rw[zq0 (show ¬t.K=10 by omega),zq1 hK,zq1 hK];by_cases h1:t.N=1
    ·rw[zq1 h1,h1];cases y2x x 5<;>simp
    ·rw[zq0 h1];by_cases h2:t.N=2
     ·rw[zq1 h2,h2];cases y2x x 6<;>simp
     ·rw[zq0 h2];simp[h1,h2]
   ·rw[zq0 hK,zq0 hK];split<;>rfl
  ·rw[y1Q t _ _ (v6K t x y hL 5) (v6K t x y hL 6),zB];have e0:idx [x,y] 0=some x:=rfl;have e1:idx [x,y] 1=some y:=rfl;simp only[e0,e1,zB,v2H];by_cases hK:t.K=10
   ·rw[zq1 hK,zq1 hK];split
    ·rfl
    ·split<;>rfl
   ·rw[zq0 hK,zq0 hK,zq0 (show ¬(([x,y]:List zA).length:Int)=1 by simp)];split<;>rfl
  ·rw[y1Q t false false (y2k t 5 (by rw[hL];simp)) (y2k t 6 (by rw[hL];simp)),zB,v4g];rw[zq1 rfl,zq0 (show ¬((x::y::z::r).length:Int)=1 by simp;omega)];split
   ·rfl
   ·split<;>rfl
 ·rw[zq0 hS,zq0 hS]
theorem z3I{t:zA}{k:Int}(h:y2x t k=true):t.K=k:=by
 unfold y2x at h;simp only[Bool.and_eq_true,decide_eq_true_eq]at h;exact h.1.1.1
theorem v1q:z3b=some true:=by
 unfold z3b;have e:z9S 2=some ⟨5,2,[],[],0,0⟩:=rfl;have e3:z9S 3=some ⟨5,3,[],[],0,0⟩:=rfl;rw[e,e3,zB,zB];unfold y3Z;rw[zB,y3b,zB];rfl
mutual
def nds:zA→List zA
 |⟨K,N,S,L,F,T⟩=>⟨K,N,S,L,F,T⟩::y7z L
def y7z:List zA→List zA
 |[]=>[]
 |x::r=>nds x++y7z r
end
theorem v7y(t:zA):nds t=t::y7z t.L:=by cases t;simp[nds]
theorem v9d(a b:List zA):y7z (a++b)=y7z a++y7z b:=by
 induction a with
 |nil=>simp[y7z]
 |cons x r ih=>simp[y7z,ih]
theorem v6A(a b:List zA):wE (a++b)=wE a+wE b:=by
 induction a with
 |nil=>simp[wE]
 |cons x r ih=>simp[wE,ih];omega
theorem w0f:∀t:zA,(nds t).length=zI t:=by
 intro t;induction t using zA.ind with
 |h t ih=>
  have:∀l:List zA,(∀x∈l,(nds x).length=zI x)→(y7z l).length=wE l:=by
   intro l;induction l with
   |nil=>intro _;simp[y7z,wE]
   |cons x r ihr=>
    intro h;have:=ihr (fun y hy=>h y (by simp[hy]));simp[y7z,wE,h x (by simp),this]
  rw[v7y,jH,List.length_cons,this t.L ih];omega
theorem w0D:∀(n:Nat) (done q:List zA),wE q≤n→done.length+wE q≤1000000→∃r,quiet_all_L3 (done++q) (done.length:Int)=some r∧r.Perm (done++y7z q):=by
 intro n;induction n with
 |zero=>
  intro done q h1 h2;have hq:q=[]:=by
   cases q with
   |nil=>rfl
   |cons x r=>have:=z1B x;simp[wE]at h1;omega
  subst hq;rw[z5W];unfold gZ;rw[List.append_nil,zq0 (by omega)];exact⟨done,rfl,by simp[y7z]⟩
 |succ n ih=>
  intro done q h1 h2;cases q with
  |nil=>
   rw[z5W];unfold gZ;rw[List.append_nil,zq0 (by omega)];exact⟨done,rfl,by simp[y7z]⟩
  |cons x q=>
   have hx:=jH x;have hl:=z7c x.L;have hl2:=z7c q;have ha:=v6A q x.L;simp only[wE]at h1 h2;obtain⟨r,e1,e2⟩:=ih (done++[x]) (q++x.L) (by omega) (by simp;omega);rw[z5W];unfold gZ;have hidx:idx (done++x::q) (done.length:Int)=some x:=by
    rw[wG (by simp)];simp
   rw[zq1 (by simp;omega),hidx,zB,zq1 (by unfold wI;simp;omega),z1H (by omega) (by omega)];have e3:done++x::q++x.L=(done++[x])++(q++x.L):=by simp
   have e4:((done.length:Int)+1)=(((done++[x]).length:Nat):Int):=by simp
   rw[e3,e4];refine⟨r,e1,e2.trans ?_⟩;rw[v9d,show y7z (x::q)=nds x++y7z q by simp[y7z],v7y];simp only[List.append_assoc,List.cons_append,List.nil_append];exact(List.Perm.cons x List.perm_append_comm).append_left done
def q1(x:zA):Bool:=
 if x.K=5∨x.K=6∨x.K=7∨x.K=8∨x.K=9∨x.K=11∨x.K=13∨x.K=14∨x.K=15 then true
 else if x.K=10 then(if x.N=12∨x.N=13 then(match x.L with|_::b::_=>decide (b.K=5) && !decide (b.N=0)|_=>false)else true)else false
theorem w0M(f:Bool→List zA→Int→Int→Option Bool)(v7:List zA)(v8 v9:Int)(x:zA)(h:v9<v8)(hi:idx v7 v9=some x):
  jR f true v7 v8 v9=if q1 x=true then f true v7 v8 (IntKind.wrap .i64 (v9+1))else some false:=by
 unfold jR;rw[zq1 h,hi,zB];unfold q1;by_cases h5:x.K=5
 ·simp[h5]
 by_cases h6:x.K=6
 ·simp[h6]
 by_cases h7:x.K=7
 ·simp[h7]
 by_cases h8:x.K=8
 ·simp[h8]
 by_cases h9:x.K=9
 ·simp[h9]
 by_cases h11:x.K=11
 ·simp[h11]
 by_cases h13:x.K=13
 ·simp[h13]
 by_cases h14:x.K=14
 ·simp[h14]
 by_cases h15:x.K=15
 ·simp[h15]
 by_cases h10:x.K=10
 ·simp only[h10];rcases hL:x.L with _|⟨a,_|⟨b,r⟩⟩
  ·by_cases n1:x.N=12
   ·simp[n1]
   ·by_cases n2:x.N=13<;>simp[n1,n2]
  ·by_cases n1:x.N=12
   ·simp[n1]
   ·by_cases n2:x.N=13<;>simp[n1,n2]
  ·have hb:idx (a::b::r) 1=some b:=rfl;have hl:¬((List.length (a::b::r):Int)<2):=by simp;omega
   by_cases n1:x.N=12
   ·simp only[n1,hb,zB,zq0 hl];by_cases k5:b.K=5<;>by_cases k0:b.N=0<;>simp[k5,k0]
   ·by_cases n2:x.N=13
    ·simp only[n2,hb,zB,zq0 hl];by_cases k5:b.K=5<;>by_cases k0:b.N=0<;>simp[k5,k0]
    ·simp[n1,n2]
 ·simp[h5,h6,h7,h8,h9,h10,h11,h13,h14,h15]
theorem w0N(l:List zA)(hl:l.length≤1000000):∀(k i:Nat),i+k=l.length→quiet_Quiet_L3 true l (l.length:Int) (i:Int)=some ((l.drop i).all q1):=by
 intro k;induction k with
 |zero=>
  intro i hi;rw[z6E];unfold jR;rw[zq0 (by omega),List.drop_eq_nil_of_le (by omega)];rfl
 |succ k ih=>
  intro i hi;rw[z6E,w0M _ _ _ _ l[i] (by omega) (wG (by omega)),List.drop_eq_getElem_cons (show i<l.length by omega),List.all_cons,z1H (by omega) (by omega),z6Y];cases hq:q1 l[i]with
  |true=>rw[zq1 rfl,ih (i+1) (by omega)];simp
  |false=>rw[zq0 (by decide)];simp
theorem v9j{t:zA}(h:zI t≤1000):∃r,z9q t=some r∧r.Perm (nds t)∧z5V t=some ((nds t).all q1):=by
 obtain⟨r,e1,e2⟩:=w0D (zI t) [] [t] (by simp[wE]) (by simp[wE];omega);have e3:z9q t=some r:=e1;have e4:r.Perm (nds t):=by simpa [y7z]using e2
 have hlen:r.length=zI t:=by rw[e4.length_eq,w0f]
 refine⟨r,e3,e4,?_⟩;unfold z5V;rw[e3,zB];have:=w0N r (by omega) r.length 0 (by omega);rw[show((0:Nat):Int)=0 from rfl]at this;rw[this,List.drop_zero,List.all_eq,List.all_eq];congr 1;simp only[e4.mem_iff]
theorem wid{n:Nat}(h:n≤2000000000):IntKind.wrap .i64 (n:Int)=n:=z1H (by omega) (by omega)
theorem z1C{n:Nat}(h:n<2000000000):IntKind.wrap .i64 ((n:Int)+1)=((n+1:Nat):Int):=by rw[z6Y];exact wid (by omega)
theorem jG{b n:Nat}(hb:b≤10000)(h:n≤2000000000):wI b n:=by
 refine⟨?_,by omega⟩;have:n*b≤2000000000*10000:=Nat.mul_le_mul h hb;omega
theorem v8j{x:zA}{l:List zA}(h:x∈l):zI x≤wE l:=by
 induction l with
 |nil=>cases h
 |cons y r ih=>
  simp only[wE];rcases List.mem_cons.1 h with rfl|h
  ·omega
  ·have:=ih h;omega
theorem zM{x t:zA}(h:x∈t.L):zI x<zI t:=by have:=v8j h;rw[jH t];omega
theorem vN(t:zA):t.L.length<zI t:=by have:=z7c t.L;rw[jH t];omega
mutual
def uO:zA→zA
 |⟨K,N,S,L,_,_⟩=>⟨K,N,S,v4u L,0,0⟩
def v4u:List zA→List zA
 |[]=>[]
 |x::r=>uO x::v4u r
end
theorem v5m(l:List zA):v4u l=l.map uO:=by
 induction l with
 |nil=>rfl
 |cons x r ih=>simp[v4u,ih]
theorem z2i(t:zA):uO t=⟨t.K,t.N,t.S,t.L.map uO,0,0⟩:=by cases t;simp[uO,v5m]
mutual
def y3Y:zA→zA
 |⟨K,N,_,L,_,_⟩=>⟨K,N,[],v9b L,0,0⟩
def v9b:List zA→List zA
 |[]=>[]
 |x::r=>y3Y x::v9b r
end
theorem v7x(l:List zA):v9b l=l.map y3Y:=by
 induction l with
 |nil=>rfl
 |cons x r ih=>simp[v9b,ih]
theorem y2C(t:zA):y3Y t=⟨t.K,t.N,[],t.L.map y3Y,0,0⟩:=by cases t;simp[y3Y,v7x]
theorem y1V{a b:zA}(h1:a.K=b.K)(h2:a.N=b.N)(h3:a.S=b.S)(h4:a.L=b.L)(h5:a.From=b.From)(h6:a.To=b.To):a=b:=by
 cases a;cases b;simp_all
theorem y2j(t:zA)(h:zI t≤1000000000):wU t=some (uO t):=by
 induction t using zA.ind with
 |h t ih=>
  have hl:=vN t;have loop:∀(k i:Nat) (out:List zA) (o:zA),i+k=t.L.length→out.length=i→vQ out i t o=some ⟨t.K,t.N,t.S,out++(t.L.drop i).map uO,0,0⟩:=by
   intro k;induction k with
   |zero=>
    intro i out o hi ho;rw[z9r];unfold z0J;rw[zq0 (by omega),List.drop_eq_nil_of_le (by omega)];simp
   |succ k ihk=>
    intro i out o hi ho;have hlt:i<t.L.length:=by omega
    have hm:=List.getElem_mem hlt;rw[z9r];unfold z0J;rw[zq1 (by omega),wG hlt,zB,ih _ hm (by have:=zM hm;omega),zB,zq1 (jG (by omega) (by simp;omega)),z1C (by omega)];rw[ihk (i+1) _ o (by omega) (by simp[ho]),List.drop_eq_getElem_cons hlt,List.map_cons];simp only[List.append_assoc,List.singleton_append]
  rw[v1M];unfold z4h;have:=loop t.L.length 0 [] ⟨0,0,[],[],0,0⟩ (by omega) rfl;rw[z2i];simpa using this
theorem v1H(t:zA)(h:zI t≤1000000000):yB t=some (y3Y t):=by
 induction t using zA.ind with
 |h t ih=>
  have hl:=vN t;have loop:∀(k i:Nat) (out:List zA) (o:zA) (K N:Int) (S:Str) (F T:Int),i+k=t.L.length→out.length=i→zZ i t o K N S out F T=some ⟨K,N,S,out++(t.L.drop i).map y3Y,F,T⟩:=by
   intro k;induction k with
   |zero=>
    intro i out o K N S F T hi ho;rw[z5X];unfold jK;rw[zq0 (by omega),List.drop_eq_nil_of_le (by omega)];simp
   |succ k ihk=>
    intro i out o K N S F T hi ho;have hlt:i<t.L.length:=by omega
    have hm:=List.getElem_mem hlt;rw[z5X];unfold jK;rw[zq1 (by omega),wG hlt,zB,ih _ hm (by have:=zM hm;omega),zB,zq1 (jG (by omega) (by simp;omega)),z1C (by omega)];rw[ihk (i+1) _ o K N S F T (by omega) (by simp[ho]),List.drop_eq_getElem_cons hlt,List.map_cons];simp only[List.append_assoc,List.singleton_append]
  rw[y3S];unfold z0W;have:=loop t.L.length 0 [] ⟨0,0,[],[],0,0⟩ t.K t.N [] 0 0 (by omega) rfl;rw[y2C];simpa using this
theorem w0e(t:zA)(h:zI t≤1000000000)(h0:0<t.L.length):z1W t=some (y3Y t):=by
 have hl:=vN t;have go:∀(l out:List zA),(∀x∈l,zI x≤1000000000)→out.length+l.length≤1000000000→jS l out=some (out++l.map y3Y):=by
  intro l;induction l with
  |nil=>intro out _ _;simp[jS]
  |cons x r ih=>
   intro out hx hlen;unfold jS;simp only[List.length_cons]at hlen;rw[v1H x (hx x (List.mem_cons_self ..)),zB,zq1 (jG (by omega) (by omega)),ih _ (fun y hy=>hx y (List.mem_cons_of_mem _ hy)) (by simp;omega)];simp
 unfold z1W;rw[zq1 h0,go _ _ (fun x hx=>by have:=zM hx;omega) (by simp;omega),zB,y2C];simp
theorem y6h(a:zA):∀b:zA,zI a≤1000000000→∃c,wV a b=some c∧(c=true↔uO a=uO b):=by
 induction a using zA.ind with
 |h a ih=>
  intro b h;have hl:=vN a;have loop:∀(k i:Nat),i+k=a.L.length→a.L.length=b.L.length→∃c,vR i a b=some c∧(c=true↔(a.L.drop i).map uO=(b.L.drop i).map uO):=by
   intro k;induction k with
   |zero=>
    intro i hi hab;rw[z9s];unfold z0K;rw[zq0 (by omega),List.drop_eq_nil_of_le (by omega),List.drop_eq_nil_of_le (by omega)];exact⟨_,rfl,by simp⟩
   |succ k ihk=>
    intro i hi hab;have hlt:i<a.L.length:=by omega
    have hlt':i<b.L.length:=by omega
    have hm:=List.getElem_mem hlt;rw[z9s];unfold z0K;obtain⟨c,e,hc⟩:=ih _ hm b.L[i] (by have:=zM hm;omega);rw[zq1 (by omega),wG hlt,zB,wG hlt',zB,e,zB,z1C (by omega),List.drop_eq_getElem_cons hlt,List.drop_eq_getElem_cons hlt',List.map_cons,List.map_cons];cases c with
    |true=>
     obtain⟨c',e',hc'⟩:=ihk (i+1) (by omega) hab;rw[zq1 rfl];exact⟨c',e',by rw[hc'];simp[hc.1 rfl]⟩
    |false=>
     rw[zq0 (by decide)];exact⟨false,rfl,by simp;intro h;exact absurd (hc.2 h) (by simp)⟩
  rw[v1N];unfold z4i;rw[z2i a,z2i b];by_cases h1:a.K=b.K
  ·rw[zq1 h1];by_cases h2:a.N=b.N
   ·rw[zq1 h2];by_cases h3:a.S=b.S
    ·rw[zq1 h3];by_cases h4:(List.length a.L:Int)=(List.length b.L:Int)
     ·rw[zq1 h4];obtain⟨c,e,hc⟩:=loop a.L.length 0 (by omega) (by omega);exact⟨c,e,by rw[hc];simp[h1,h2,h3]⟩
     ·rw[zq0 h4];refine⟨_,rfl,by simp;intro _ _ _ hx;exact h4 (by have:=congrArg List.length hx;simp at this;omega)⟩
    ·rw[zq0 h3];exact⟨_,rfl,by simp;intro _ _ hx;exact absurd hx h3⟩
   ·rw[zq0 h2];exact⟨_,rfl,by simp;intro _ hx;exact absurd hx h2⟩
  ·rw[zq0 h1];exact⟨_,rfl,by simp;intro hx;exact absurd hx h1⟩
theorem v7S(t:zA)(h:zI t≤1000000000):uS t=some (zI t:Int):=by
 induction t using zA.ind with
 |h t ih=>
  have hl:=vN t;have loop:∀(k i n:Nat),i+k=t.L.length→n+wE (t.L.drop i)≤1000000000→vS n i t=some ((n+wE (t.L.drop i):Nat):Int):=by
   intro k;induction k with
   |zero=>
    intro i n hi hn;rw[z9t];unfold z0L;rw[zq0 (by omega),List.drop_eq_nil_of_le (by omega)];simp[wE]
   |succ k ihk=>
    intro i n hi hn;have hlt:i<t.L.length:=by omega
    have hm:=List.getElem_mem hlt;rw[y1b hlt]at hn ⊢;rw[z9t];unfold z0L;rw[zq1 (by omega),wG hlt,zB,ih _ hm (by have:=zM hm;omega),zB,z1C (by omega)];have e:((n:Int)+(zI t.L[i]:Int))=((n+zI t.L[i]:Nat):Int):=by omega
    rw[e,wid (by omega),ihk (i+1) _ (by omega) (by omega)];congr 2;omega
  rw[v1O];unfold z4j;have:=loop t.L.length 0 1 (by omega) (by rw[jH]at h;simpa using h);rw[jH];simpa using this
def v2p(d:zA):Prop:=d.K=30∧d.L≠[]∧∀f∈d.L,f.K=34∧∃x,f.L=[x]
theorem y2D{l:List zA}(h:(List.length l:Int)=1):∃x,l=[x]:=by
 match l,h with
 |[x],_=>exact⟨x,rfl⟩
 |[],h=>simp at h
 |_::_::_,h=>simp at h;omega
theorem y1T(d:zA)(h:zI d≤1000000000):∃b,z1V d=some b∧(b=true↔v2p d):=by
 have hl:=vN d;have loop:∀(k i:Nat),i+k=d.L.length→∃b,yP i d=some b∧(b=true↔∀f∈d.L.drop i,f.K=34∧∃x,f.L=[x]):=by
  intro k;induction k with
  |zero=>
   intro i hi;rw[z6H];unfold gI;rw[zq0 (by omega),List.drop_eq_nil_of_le (by omega)];exact⟨_,rfl,by simp⟩
  |succ k ihk=>
   intro i hi;have hlt:i<d.L.length:=by omega
   rw[z6H];unfold gI;rw[zq1 (by omega),wG hlt,zB,zB,z1C (by omega),List.drop_eq_getElem_cons hlt];by_cases h1:d.L[i].K=34
   ·rw[zq1 h1];by_cases h2:(List.length d.L[i].L:Int)=1
    ·rw[zq1 h2];obtain⟨b,e,hb⟩:=ihk (i+1) (by omega);refine⟨b,e,?_⟩;rw[hb,List.forall_mem_cons];exact⟨fun h=>⟨⟨h1,y2D h2⟩,h⟩,fun h=>h.2⟩
    ·rw[zq0 h2];exact⟨_,rfl,⟨fun h=>Bool.noConfusion h,fun h=>by
      obtain⟨x,hx⟩:=(h _ (List.mem_cons_self ..)).2;exact absurd (by rw[hx];rfl) h2⟩⟩
   ·rw[zq0 h1];exact⟨_,rfl,⟨fun h=>Bool.noConfusion h,fun h=>absurd (h _ (List.mem_cons_self ..)).1 h1⟩⟩
 unfold z1V;by_cases h1:d.K=30
 ·rw[zq1 h1];by_cases h2:(List.length d.L:Int)=0
  ·rw[zq1 h2];exact⟨_,rfl,⟨fun h=>Bool.noConfusion h,fun h=>absurd (List.length_eq_zero_iff.1 (by omega)) h.2.1⟩⟩
  ·rw[zq0 h2];obtain⟨b,e,hb⟩:=loop d.L.length 0 (by omega);refine⟨b,e,?_⟩;rw[hb];exact⟨fun h=>⟨h1,fun e=>h2 (by rw[e];rfl),h⟩,fun h=>h.2.2⟩
 ·rw[zq0 h1];exact⟨_,rfl,⟨fun h=>Bool.noConfusion h,fun h=>absurd h.1 h1⟩⟩
inductive OkT(m:zA):zA→Prop
 |int (t:zA):t.K=1→t.L=[]→OkT m t
 |bool (t:zA):t.K=2→t.L=[]→OkT m t
 |arr (t e:zA):t.K=3→t.L=[e]→1≤t.N→t.N≤16→OkT m e→OkT m t
 |rcd (t d:zA):t.K=4→t.L=[]→0≤t.N→m.L[t.N.toNat]?=some d→v2p d→(∀f x,f∈d.L→f.L=[x]→OkT m x)→OkT m t
def y2y(m:zA)(l:List Int):Nat:=((List.range m.L.length).filter fun i:Nat=>decide ((i:Int) ∉ l)).length
theorem v3S(m:zA)(l:List Int):y2y m l≤m.L.length:=by
 have:=List.length_filter_le (fun i:Nat=>decide ((i:Int) ∉ l)) (List.range m.L.length);simpa [y2y]using this
theorem v1k(l:List Nat)(p:Nat→Bool)(a:Nat)(hn:l.Nodup)(ha:a∈l)(hp:p a=true):(l.filter fun i=>p i && decide (i≠a)).length+1=(l.filter p).length:=by
 induction l with
 |nil=>cases ha
 |cons x r ih=>
  rw[List.nodup_cons]at hn;rcases List.mem_cons.1 ha with rfl|ha
  ·rw[List.filter_cons_of_neg (by simp),List.filter_cons_of_pos hp,List.length_cons];congr 2;refine List.filter_congr fun y hy=>?_;have:y≠a:=fun e=>hn.1 (e▸hy);simp[this]
  ·have:=ih hn.2 ha;have hne:x≠a:=fun e=>hn.1 (e▸ha);by_cases hx:p x=true
   ·rw[List.filter_cons_of_pos (by simp[hx,hne]),List.filter_cons_of_pos hx,List.length_cons,List.length_cons];omega
   ·rw[List.filter_cons_of_neg (by simp[hx]),List.filter_cons_of_neg hx];exact this
theorem v1t{m:zA}{l:List Int}{a:Nat}(ha:a<m.L.length)(hl:(a:Int) ∉ l):y2y m (l++[(a:Int)])+1=y2y m l:=by
 unfold y2y;rw[←v1k (List.range m.L.length) (fun i:Nat=>decide ((i:Int) ∉ l)) a List.nodup_range (List.mem_range.2 ha) (by simp[hl])];congr 2;refine List.filter_congr fun y hy=>?_;have:((y:Int)=(a:Int))↔y=a:=by omega
 rw[Bool.eq_iff_iff];simp[this]
theorem v9Z(m:zA)(a:Nat)(l:List Int)(hl:l.length≤1000000000):∀(k i:Nat),i+k=l.length →
  yA l a i m=(if(a:Int)∈l.drop i then some 0 else yA l a (l.length:Int) m):=by
 intro k;induction k with
 |zero=>
  intro i hi;rw[List.drop_eq_nil_of_le (by omega),zq0 (by simp),show i=l.length by omega]
 |succ k ih=>
  intro i hi;have hlt:i<l.length:=by omega
  rw[z3J (i:=(i:Int))];unfold jA;rw[zq1 (by omega),wG hlt,zB,z1C (by omega),ih (i+1) (by omega),List.drop_eq_getElem_cons hlt];by_cases h:l[i]=(a:Int)
  ·rw[zq1 h,zq1 (by rw[h];exact List.mem_cons_self ..)]
  ·rw[zq0 h];have:((a:Int)∈l[i]::l.drop (i+1))↔(a:Int)∈l.drop (i+1):=by
    rw[List.mem_cons];exact⟨fun h'=>h'.elim (fun e=>absurd e.symm h) id,.inr⟩
   simp only[this]
theorem y6t (m:zA) (hm:zI m≤1000000000) (l:List Int) (rec:∀l':List Int,y2y m l'<y2y m l→l'.length+y2y m l'≤1000000000→∀t:zA,zI t≤1000000000 →
  ∃n,zN m t l'=some n∧0≤n∧n≤64∧(n≠0→OkT m t∧∀l'':List Int,l''.length≤l'.length→(∀x∈l'',x∈l')→zN m t l''=some n))
  (hb:l.length+y2y m l≤1000000000) (t:zA) (ht:zI t≤1000000000):
  ∃n,zN m t l=some n∧0≤n∧n≤64∧(n≠0→OkT m t∧∀l':List Int,l'.length≤l.length→(∀x∈l',x∈l)→zN m t l'=some n):=by
 induction t using zA.ind with
 |h t iht=>
  have hml:=vN m;have jP:∀K0:Int,(K0=1∨K0=2)→t.K=K0→∃n,zN m t l=some n∧0≤n∧n≤64∧(n≠0→OkT m t∧∀l':List Int,l'.length≤l.length→(∀x∈l',x∈l)→zN m t l'=some n):=by
   intro K0 hK hk;have e:∀l',zN m t l'=if(List.length t.L:Int)=0 then some 1 else some 0:=fun l'=>by
    rw[wQ];unfold wK;rcases hK with rfl|rfl
    ·rw[zq1 hk]
    ·rw[zq0 (by omega),zq1 hk]
   by_cases h0:(List.length t.L:Int)=0
   ·have hnil:t.L=[]:=List.length_eq_zero_iff.1 (by omega);refine⟨1,by rw[e,zq1 h0],by omega,by omega,fun _=>⟨?_,fun l' _ _=>by rw[e,zq1 h0]⟩⟩;rcases hK with rfl|rfl
    ·exact .int t hk hnil
    ·exact .bool t hk hnil
   ·rw[e,zq0 h0];exact⟨0,rfl,by omega,by omega,fun h=>absurd rfl h⟩
  by_cases k1:t.K=1
  ·exact jP 1 (.inl rfl) k1
  by_cases k2:t.K=2
  ·exact jP 2 (.inr rfl) k2
  by_cases k3:t.K=3
  ·by_cases hc:(List.length t.L:Int)=1∧t.N≥1∧t.N≤16
   ·obtain⟨h1,h2,h3⟩:=hc;obtain⟨x,hx⟩:=y2D h1;have e:∀l',zN m t l'=zN m x l'>>=fun q3=>if(IntKind.wrap .i64 (q3*t.N))>64 then some 0 else some (IntKind.wrap .i64 (q3*t.N)):=fun l'=>by
     rw[wQ m t];unfold wK;rw[zq0 k1,zq0 k2,zq1 k3,zq1 h1,zq1 h2,zq1 h3,hx];rfl
    obtain⟨n,e1,n0,n1,hn⟩:=iht x (by rw[hx];exact List.mem_singleton_self x) (by have:=zM (x:=x) (t:=t) (by rw[hx];exact List.mem_singleton_self x);omega);have hmul:n*t.N≤64*16:=Int.mul_le_mul n1 h3 (by omega) (by omega);have hmul0:0≤n*t.N:=Int.mul_nonneg n0 (by omega);have hw:IntKind.wrap .i64 (n*t.N)=n*t.N:=z1H (by omega) (by omega);rw[e,e1,zB,hw];by_cases hg:n*t.N>64
    ·rw[zq1 hg];exact⟨0,rfl,by omega,by omega,fun h=>absurd rfl h⟩
    ·rw[zq0 hg];refine⟨_,rfl,hmul0,by omega,fun hne=>?_⟩;have hn0:n≠0:=fun h=>hne (by rw[h,Int.zero_mul]);obtain⟨o1,o2⟩:=hn hn0;exact⟨.arr t x k3 hx h2 h3 o1,fun l' h1' h2'=>by rw[e,o2 l' h1' h2',zB,hw,zq0 hg]⟩
   ·have e:zN m t l=some 0:=by
     rw[wQ m t];unfold wK;rw[zq0 k1,zq0 k2,zq1 k3];by_cases c1:(List.length t.L:Int)=1
     ·rw[zq1 c1];by_cases c2:t.N≥1
      ·rw[zq1 c2,zq0 (fun c3=>hc ⟨c1,c2,c3⟩)]
      ·rw[zq0 c2]
     ·rw[zq0 c1]
    rw[e];exact⟨0,rfl,by omega,by omega,fun h=>absurd rfl h⟩
  by_cases k4:t.K=4
  ·by_cases hc:(List.length t.L:Int)=0∧0≤t.N∧t.N<(List.length m.L:Int)
   ·obtain⟨h1,h2,h3⟩:=hc;obtain⟨a,ha⟩:∃a:Nat,t.N=a:=⟨t.N.toNat,by omega⟩;have halt:a<m.L.length:=by omega
    have hdm:=List.getElem_mem halt;have hds:=zM hdm;have e:∀l':List Int,l'.length≤1000000000→zN m t l'=if(a:Int)∈l' then some 0 else z1V m.L[a]>>=fun q1=>if q1=true then zR l' a 0 0 m m.L[a]else some 0:=fun l' hl'=>by
     rw[wQ m t];unfold wK;rw[zq0 k1,zq0 k2,zq0 k3,zq1 k4,zq1 h1,zq0 (by omega),zq0 (by omega),ha];have:=v9Z m a l' hl' l'.length 0 (by omega);rw[List.drop_zero]at this;rw[show(0:Int)=((0:Nat):Int)from rfl,this];congr 1;rw[z3J];unfold jA;rw[zq0 (by omega),wG halt,zB];rfl
    rw[e l (by omega)];by_cases hin:(a:Int)∈l
    ·rw[zq1 hin];exact⟨0,rfl,by omega,by omega,fun h=>absurd rfl h⟩
    ·rw[zq0 hin];obtain⟨b,eb,hb'⟩:=y1T m.L[a] (by omega);rw[eb,zB];cases b with
     |false=>rw[zq0 (by decide)];exact⟨0,rfl,by omega,by omega,fun h=>absurd rfl h⟩
     |true=>
      rw[zq1 rfl];have hrec:=hb'.1 rfl;have hfs:=v1t halt hin;have hfl:=v3S m l;have loop:∀(k i:Nat) (s:Int),i+k=m.L[a].L.length→0≤s→s≤64 →
        ∃n,zR l a s i m m.L[a]=some n∧0≤n∧n≤64∧(n≠0→s≤n∧(∀f x,f∈m.L[a].L.drop i→f.L=[x]→OkT m x) ∧
         ∀l':List Int,l'.length≤l.length→(∀x∈l',x∈l)→zR l' a s i m m.L[a]=some n):=by
       intro k;induction k with
       |zero=>
        intro i s hi s0 s1;have e0:∀l',zR l' a s i m m.L[a]=some s:=fun l'=>by
         rw[z3K];unfold jB;rw[zq0 (by omega)]
        exact⟨s,e0 l,s0,s1,fun _=>⟨by omega,fun f x hf=>(by rw[List.drop_eq_nil_of_le (by omega)]at hf;cases hf),fun l' _ _=>e0 l'⟩⟩
       |succ k ihk=>
        intro i s hi s0 s1;have hlt:i<m.L[a].L.length:=by omega
        have hfm:=List.getElem_mem hlt;obtain⟨-,x,hx⟩:=hrec.2.2 _ hfm;have hfsz:=zM hfm;have hxsz:=zM (x:=x) (t:=m.L[a].L[i]) (by rw[hx];exact List.mem_singleton_self x);have e0:∀l':List Int,l'.length≤1000000000→zR l' a s i m m.L[a]=zN m x (l'++[(a:Int)])>>=fun q1=>if q1=0 then some 0 else if(IntKind.wrap .i64 (s+q1))>64 then some 0 else zR l' a (IntKind.wrap .i64 (s+q1)) ((i+1:Nat):Int) m m.L[a]:=fun l' hl'=>by
         rw[z3K (i:=(i:Int))];unfold jB;have hdl:=vN m.L[a];rw[zq1 (by omega),wG hlt,zB,hx,show idx [x] 0=some x from rfl,zB,zq1 (jG (by omega) (by simp;omega)),zq1 (jG (by omega) (by simp;omega)),z1C (by omega),List.nil_append]
        obtain⟨q,eq,q0,q1,hq⟩:=rec (l++[(a:Int)]) (by omega) (by simp;omega) x (by omega);rw[e0 l (by omega),eq,zB];by_cases hq0:q=0
        ·rw[zq1 hq0];exact⟨0,rfl,by omega,by omega,fun h=>absurd rfl h⟩
        ·rw[zq0 hq0];have hw:IntKind.wrap .i64 (s+q)=s+q:=z1H (by omega) (by omega);rw[hw];by_cases hg:s+q>64
         ·rw[zq1 hg];exact⟨0,rfl,by omega,by omega,fun h=>absurd rfl h⟩
         ·rw[zq0 hg];obtain⟨n,en,n0,n1,hn⟩:=ihk (i+1) (s+q) (by omega) (by omega) (by omega);refine⟨n,en,n0,n1,fun hne=>?_⟩;obtain⟨o0,o1,o2⟩:=hn hne;obtain⟨p1,p2⟩:=hq hq0;refine⟨by omega,fun f y hf hy=>?_,fun l' h1' h2'=>?_⟩
          ·rw[List.drop_eq_getElem_cons hlt]at hf;rcases List.mem_cons.1 hf with rfl|hf
           ·rw[hx]at hy;injection hy with hy;subst hy;exact p1
           ·exact o1 f y hf hy
          ·rw[e0 l' (by omega),p2 (l'++[(a:Int)]) (by simp;omega) (fun y hy=>by
            rcases List.mem_append.1 hy with hy|hy
            ·exact List.mem_append_left _ (h2' y hy)
            ·exact List.mem_append_right _ hy),zB,zq0 hq0,hw,zq0 hg,o2 l' h1' h2']
      obtain⟨n,en,n0,n1,hn⟩:=loop m.L[a].L.length 0 0 (by omega) (by omega) (by omega);refine⟨n,en,n0,n1,fun hne=>?_⟩;obtain⟨-,o1,o2⟩:=hn hne;refine⟨.rcd t m.L[a] k4 (List.length_eq_zero_iff.1 (by omega)) h2 (by rw[ha];exact List.getElem?_eq_getElem halt) hrec (fun f x hf hx=>o1 f x (by rw[List.drop_zero];exact hf) hx),fun l' h1' h2'=>?_⟩;rw[e l' (by omega),zq0 (fun h=>hin (h2' _ h)),eb,zB,zq1 rfl];exact o2 l' h1' h2'
   ·have e:zN m t l=some 0:=by
     rw[wQ m t];unfold wK;rw[zq0 k1,zq0 k2,zq0 k3,zq1 k4];by_cases c1:(List.length t.L:Int)=0
     ·rw[zq1 c1];by_cases c2:t.N<0
      ·rw[zq1 c2]
      ·rw[zq0 c2,zq1];by_cases c3:t.N≥(List.length m.L:Int)
       ·exact c3
       ·exact absurd ⟨c1,by omega,by omega⟩ hc
     ·rw[zq0 c1]
    rw[e];exact⟨0,rfl,by omega,by omega,fun h=>absurd rfl h⟩
  ·have e:zN m t l=some 0:=by
    rw[wQ m t];unfold wK;rw[zq0 k1,zq0 k2,zq0 k3,zq0 k4]
   rw[e];exact⟨0,rfl,by omega,by omega,fun h=>absurd rfl h⟩
theorem v2e(m:zA)(hm:zI m≤1000000000):∀(k:Nat) (l:List Int),y2y m l≤k→l.length+y2y m l≤1000000000→∀t:zA,zI t≤1000000000 →
  ∃n,zN m t l=some n∧0≤n∧n≤64∧(n≠0→OkT m t∧∀l':List Int,l'.length≤l.length→(∀x∈l',x∈l)→zN m t l'=some n):=by
 intro k;induction k with
 |zero=>exact fun l hk hb=>y6t m hm l (fun l' h _=>absurd h (by omega)) hb
 |succ k ih=>exact fun l hk hb=>y6t m hm l (fun l' h hb'=>ih l' (by omega) hb') hb
def Good(m t:zA):Prop:=∃n,zN m t []=some n∧n≠0
theorem v8n{m t:zA}(hm:zI m≤1000000000)(ht:zI t≤1000000000):∃n,zN m t []=some n∧0≤n∧n≤64∧(n≠0→OkT m t):=by
 have hf:=v3S m [];have hl:=vN m;obtain⟨n,e,h0,h1,h⟩:=v2e m hm (y2y m []) [] (Nat.le_refl _) (by simp;omega) t ht;exact⟨n,e,h0,h1,fun hn=>(h hn).1⟩
theorem z5l{m t:zA}(hm:zI m≤1000000000)(ht:zI t≤1000000000):∃n,z0c m t=some n∧0≤n∧(n≠0↔Good m t):=by
 obtain⟨n,e,h0,h1,h⟩:=v8n hm ht;refine⟨n,by unfold z0c;rw[e];rfl,h0,fun hn=>⟨n,e,hn⟩,fun⟨k,e',hk⟩=>?_⟩;rw[e]at e';cases e';exact hk
theorem Good.okT{m t:zA}(hm:zI m≤1000000000)(ht:zI t≤1000000000)(h:Good m t):OkT m t:=by
 obtain⟨n,e,h0,h1,h2⟩:=v8n hm ht;obtain⟨k,e',hk⟩:=h;rw[e]at e';cases e';exact h2 hk
theorem Good.arr{m t e:zA}(hm:zI m≤1000000000)(ht:zI t≤1000000000)(h:Good m t)(hk:t.K=3)(hl:t.L=[e]):Good m e:=by
 obtain⟨n,hn,h0⟩:=h;rw[wQ]at hn;unfold wK at hn;rw[zq0 (by omega),zq0 (by omega),zq1 hk,hl]at hn;obtain⟨-,hn⟩|⟨hx,hn⟩:(True∧_)∨(¬(List.length [e]:Int)=1∧_):=by
  by_cases c:(List.length [e]:Int)=1
  ·rw[zq1 c]at hn;exact .inl ⟨trivial,hn⟩
  ·rw[zq0 c]at hn;exact .inr ⟨c,hn⟩
 ·by_cases c1:t.N≥1
  ·rw[zq1 c1]at hn;by_cases c2:t.N≤16
   ·rw[zq1 c2]at hn;obtain⟨x,hx,hn⟩:=zC hn;cases hx;obtain⟨q,hq,hn⟩:=zC hn;refine⟨q,hq,fun e0=>?_⟩;subst e0;rw[Int.zero_mul]at hn;have:IntKind.wrap .i64 0=0:=by decide
    rw[this]at hn;simp at hn;exact h0 hn.symm
   ·rw[zq0 c2]at hn;cases hn;exact absurd rfl h0
  ·rw[zq0 c1]at hn;cases hn;exact absurd rfl h0
 ·exact absurd rfl hx
theorem v3Q{m d:zA}(hm:zI m≤1000000000)(hd:d∈m.L)(a:Nat)(ha:a<m.L.length)(hr:v2p d):∀(k i:Nat) (s n:Int),i+k=d.L.length→0≤s→s≤64→zR [] a s i m d=some n→n≠0→∀f x,f∈d.L.drop i→f.L=[x]→Good m x:=by
 have hds:=zM hd;have hdl:=vN d;have hml:=vN m;intro k;induction k with
 |zero=>intro i s n hi _ _ _ _ f x hf _;rw[List.drop_eq_nil_of_le (by omega)]at hf;cases hf
 |succ k ih=>
  intro i s n hi hs0 hs1 hn h0 f x hf hx;have hlt:i<d.L.length:=by omega
  have hfm:=List.getElem_mem hlt;obtain⟨-,y,hy⟩:=hr.2.2 _ hfm;have hfsz:=zM hfm;have hysz:=zM (x:=y) (t:=d.L[i]) (by rw[hy];exact List.mem_singleton_self y);rw[z3K (i:=(i:Int))]at hn;unfold jB at hn;rw[zq1 (by omega),wG hlt,zB,hy,show idx [y] 0=some y from rfl,zB,zq1 (jG (by omega) (by simp)),zq1 (jG (by omega) (by simp)),z1C (by omega),List.nil_append,List.nil_append]at hn;have hfr:=v1t (l:=[]) ha (by simp);have hfl:=v3S m [];rw[List.nil_append]at hfr
  obtain⟨q,eq,q0,q1,hq⟩:=v2e m hm (y2y m [(a:Int)]) [(a:Int)] (Nat.le_refl _) (by simp;omega) y (by omega);rw[eq,zB]at hn;by_cases hq0:q=0
  ·rw[zq1 hq0]at hn;cases hn;exact absurd rfl h0
  ·rw[zq0 hq0]at hn;have hw:IntKind.wrap .i64 (s+q)=s+q:=z1H (by omega) (by omega);rw[hw]at hn;by_cases hg:s+q>64
   ·rw[zq1 hg]at hn;cases hn;exact absurd rfl h0
   ·rw[zq0 hg]at hn;rw[List.drop_eq_getElem_cons hlt]at hf;rcases List.mem_cons.1 hf with rfl|hf
    ·rw[hy]at hx;injection hx with hx;subst hx;exact⟨q,(hq hq0).2 [] (by simp) (fun _ h=>by cases h),hq0⟩
    ·exact ih (i+1) (s+q) n (by omega) (by omega) (by omega) hn h0 f x hf hx
theorem Good.rcd{m t d f x:zA}(hm:zI m≤1000000000)(h:Good m t)(hk:t.K=4)(h0:0≤t.N)(hd:m.L[t.N.toNat]?=some d)(hr:v2p d)(hf:f∈d.L)(hx:f.L=[x]):Good m x:=by
 obtain⟨n,hn,hn0⟩:=h;obtain⟨a,ha⟩:∃a:Nat,t.N=a:=⟨t.N.toNat,by omega⟩;have halt:a<m.L.length:=by
  have:=(List.getElem?_eq_some_iff.1 hd).1;omega
 have hdm:d∈m.L:=List.mem_of_getElem? hd;have hds:=zM hdm;rw[wQ]at hn;unfold wK at hn;rw[zq0 (by omega),zq0 (by omega),zq0 (by omega),zq1 hk]at hn;by_cases c:(List.length t.L:Int)=0
 ·rw[zq1 c,zq0 (by omega),zq0 (by omega),ha]at hn;rw[z3J]at hn;unfold jA at hn;rw[zq0 (by simp),z5R]at hn;rw[ha]at hd;rw[show m.L[a]?=some d from hd,zB]at hn;obtain⟨b,eb,hb⟩:=y1T d (by omega);rw[eb,zB]at hn;have:b=true:=hb.2 hr;subst this;rw[zq1 rfl]at hn;exact v3Q hm hdm a halt hr d.L.length 0 0 n (by omega) (by omega) (by omega) hn hn0 f x (by simpa using hf) hx
 ·rw[zq0 c]at hn;cases hn;exact absurd rfl hn0
def hd(t:zA):zA:=t.L.headD ⟨0,0,[],[],0,0⟩
def vY(m t:zA):List zA:=
 if t.K=3 then List.replicate t.N.toNat (hd t)else if t.K=4 then(match m.L[t.N.toNat]? with|some d=>d.L.map hd|none=>[])else []
theorem z9M{m t:zA}(hm:zI m≤1000000000)(ht:zI t≤1000000000)(h:OkT m t):∀x∈vY m t,zI x≤1000000000:=by
 intro x hx;unfold vY at hx;cases h with
 |int _ h1 h2=>rw[zq0 (by omega),zq0 (by omega)]at hx;cases hx
 |bool _ h1 h2=>rw[zq0 (by omega),zq0 (by omega)]at hx;cases hx
 |arr _ e h1 h2 h3 h4 h5=>
  rw[zq1 h1]at hx;have:=List.eq_of_mem_replicate hx;subst this;have:zI (hd t)<zI t:=zM (by unfold hd;rw[h2];exact List.mem_singleton_self _);omega
 |rcd _ d h1 h2 h3 h4 h5 h6=>
  rw[zq0 (by omega),zq1 h1,h4]at hx;obtain⟨f,hf,rfl⟩:=List.mem_map.1 hx;have e1:=zM (List.mem_of_getElem? h4);have e2:=zM hf;obtain⟨-,y,hy⟩:=h5.2.2 f hf;have:zI (hd f)<zI f:=zM (by unfold hd;rw[hy];exact List.mem_singleton_self _);omega
theorem z9N{m t:zA}(hm:zI m≤1000000000)(ht:zI t≤1000000000)(h:Good m t):∀x∈vY m t,Good m x:=by
 intro x hx;have ho:=h.okT hm ht;unfold vY at hx;cases ho with
 |int _ h1 h2=>rw[zq0 (by omega),zq0 (by omega)]at hx;cases hx
 |bool _ h1 h2=>rw[zq0 (by omega),zq0 (by omega)]at hx;cases hx
 |arr _ e h1 h2 h3 h4 h5=>
  rw[zq1 h1]at hx;have:=List.eq_of_mem_replicate hx;subst this;have e1:hd t=e:=by unfold hd;rw[h2];rfl
  rw[e1];exact h.arr hm ht h1 h2
 |rcd _ d h1 h2 h3 h4 h5 h6=>
  rw[zq0 (by omega),zq1 h1,h4]at hx;obtain⟨f,hf,rfl⟩:=List.mem_map.1 hx;obtain⟨-,y,hy⟩:=h5.2.2 f hf;have e1:hd f=y:=by unfold hd;rw[hy];rfl
  rw[e1];exact h.rcd hm h1 h3 h4 h5 hf hy
theorem y1J{m t:zA}(hm:zI m≤1000000000)(h:OkT m t):(vY m t).length≤1000000000:=by
 unfold vY;cases h with
 |int _ h1 h2=>rw[zq0 (by omega),zq0 (by omega)];simp
 |bool _ h1 h2=>rw[zq0 (by omega),zq0 (by omega)];simp
 |arr _ e h1 h2 h3 h4 h5=>rw[zq1 h1];simp;omega
 |rcd _ d h1 h2 h3 h4 h5 h6=>
  rw[zq0 (by omega),zq1 h1,h4];have e1:=zM (List.mem_of_getElem? h4);have e2:=vN d;simp;omega
theorem y9q{m t:zA}(hm:zI m≤1000000000)(h:OkT m t):z2q m t=some (vY m t):=by
 unfold z2q vY;cases h with
 |int _ h1 h2=>rw[zq0 (by omega),zq0 (by omega),zq0 (by omega),zq0 (by omega)]
 |bool _ h1 h2=>rw[zq0 (by omega),zq0 (by omega),zq0 (by omega),zq0 (by omega)]
 |arr _ e h1 h2 h3 h4 h5=>
  rw[zq1 h1,zq1 h1];have e1:hd t=e:=by unfold hd;rw[h2];rfl
  have loop:∀(k i:Nat),(i:Int)+k=t.N→vJ (List.replicate i e) i m t=some (List.replicate t.N.toNat e):=by
   intro k;induction k with
   |zero=>
    intro i hi;rw[z8k];unfold z0r;rw[zq0 (by omega),zq0 (by omega)];congr 2;omega
   |succ k ih=>
    intro i hi;rw[z8k];unfold z0r;rw[zq1 (by omega),h2,show idx [e] 0=some e from rfl,zB,zq1 (jG (by omega) (by simp;omega)),z1C (by omega),←List.replicate_succ'];exact ih (i+1) (by omega)
  rw[e1];exact loop t.N.toNat 0 (by omega)
 |rcd _ d h1 h2 h3 h4 h5 h6=>
  have e4:(match m.L[t.N.toNat]? with|some d=>d.L.map hd|none=>[])=d.L.map hd:=by rw[h4]
  rw[zq0 (by omega),zq1 h1,zq0 (by omega),zq1 h1,e4];obtain⟨a,ha⟩:∃a:Nat,t.N=a:=⟨t.N.toNat,by omega⟩;rw[ha,z5R];rw[ha]at h4;have h4:m.L[a]?=some d:=h4;rw[h4,zB];have e1:=zM (List.mem_of_getElem? h4);have e2:=vN d;have loop:∀(k i:Nat) (out:List zA),i+k=d.L.length→out.length=i→yK out d.L i=some (out++(d.L.drop i).map hd):=by
   intro k;induction k with
   |zero=>
    intro i out hi ho;rw[z6Q];unfold gM;rw[zq0 (by omega),List.drop_eq_nil_of_le (by omega)];simp
   |succ k ih=>
    intro i out hi ho;have hlt:i<d.L.length:=by omega
    obtain⟨-,y,hy⟩:=h5.2.2 _ (List.getElem_mem hlt);have e1:hd d.L[i]=y:=by unfold hd;rw[hy];rfl
    rw[z6Q];unfold gM;rw[zq1 (by omega),wG hlt,zB,hy,show idx [y] 0=some y from rfl,zB,zq1 (jG (by omega) (by simp;omega)),z1C (by omega),ih (i+1) _ (by omega) (by simp[ho]),List.drop_eq_getElem_cons hlt,List.map_cons,e1];simp only[List.append_assoc,List.singleton_append]
  have:=loop d.L.length 0 [] (by omega) rfl;simpa using this
def v9M(K n:Int):Prop:=(K=2→n=0∨n=1)∧(K≠1→K≠2→n=0)
inductive Fit(m:zA):zA→Value→Prop
 |mk (t:zA) (v:Value):Good m t→v9M t.K v.N→(vY m t).length=v.L.length→(∀(i:Nat) x y,(vY m t)[i]?=some x→v.L[i]?=some y→Fit m x y)→Fit m t v
theorem Fit.inv{m t:zA}{v:Value}(h:Fit m t v):Good m t∧v9M t.K v.N∧(vY m t).length=v.L.length∧∀(i:Nat) x y,(vY m t)[i]?=some x→v.L[i]?=some y→Fit m x y:=by
 cases h with|mk _ _ a b c d=>exact⟨a,b,c,d⟩
inductive Vok:Value→Prop
 |mk (v:Value):v.L.length≤1000000000→(∀x∈v.L,Vok x)→Vok v
theorem Fit.vok{m t:zA}{v:Value}(hm:zI m≤1000000000)(h:Fit m t v):zI t≤1000000000→Vok v:=by
 induction h with
 |mk t v h1 h2 h3 h4 ih=>
  intro ht;have ho:=h1.okT hm ht;have hl:=y1J hm ho;refine .mk v (by omega) fun x hx=>?_;obtain⟨i,hi⟩:=List.getElem?_of_mem hx;have hlt:=(List.getElem?_eq_some_iff.1 hi).1;have hp:(vY m t)[i]?=some (vY m t)[i]:=List.getElem?_eq_getElem (by omega);exact ih i _ x hp hi (z9M hm ht ho _ (List.mem_of_getElem? hp))
theorem v6Z{m:zA}(hm:zI m≤1000000000)(v:Value):∀t:zA,zI t≤1000000000→∃b,uT m t v=some b∧(b=true↔Fit m t v):=by
 induction v using Value.ind with
 |h v ih=>
  intro t ht;have no:∀{P:Prop},(Fit m t v→P)→¬P→∃b,some false=some b∧(b=true↔Fit m t v):=fun f g=>⟨false,rfl,⟨fun h=>Bool.noConfusion h,fun h=>absurd (f h) g⟩⟩;obtain⟨n,en,h0,hn⟩:=z5l hm ht;rw[v1S];unfold z4q;rw[en,zB];by_cases hz:n=0
  ·rw[zq1 hz];exact no (fun h=>h.inv.1) (fun h=>(hn.2 h) hz)
  rw[zq0 hz];have hg:=hn.1 hz;have ho:=hg.okT hm ht;have hpl:=y1J hm ho;rw[y9q hm ho];have loop:∀(k i:Nat),i+k=(vY m t).length→(vY m t).length=v.L.length→∃b,yI (vY m t) i m v=some b∧(b=true↔∀(j:Nat) x y,i≤j→(vY m t)[j]?=some x→v.L[j]?=some y→Fit m x y):=by
   intro k;induction k with
   |zero=>
    intro i hi hl;rw[z9y];unfold z0N;rw[zq0 (by omega)];exact⟨_,rfl,⟨fun _ j x y hj hx _=>absurd (List.getElem?_eq_some_iff.1 hx).1 (by omega),fun _=>rfl⟩⟩
   |succ k ihk=>
    intro i hi hl;have hlt:i<(vY m t).length:=by omega
    have hlt':i<v.L.length:=by omega
    obtain⟨b,eb,hb⟩:=ih _ (List.getElem_mem hlt') (vY m t)[i] (z9M hm ht ho _ (List.getElem_mem hlt));rw[z9y];unfold z0N;rw[zq1 (by omega),wG hlt,zB,wG hlt',zB,eb,zB,z1C (by omega)];cases b with
    |true=>
     obtain⟨c,ec,hc⟩:=ihk (i+1) (by omega) hl;rw[zq1 rfl];refine⟨c,ec,?_⟩;rw[hc];refine⟨fun h j x y hj hx hy=>?_,fun h j x y hj hx hy=>h j x y (by omega) hx hy⟩;by_cases e:j=i
     ·subst e;rw[List.getElem?_eq_getElem hlt]at hx;rw[List.getElem?_eq_getElem hlt']at hy;cases hx;cases hy;exact hb.1 rfl
     ·exact h j x y (by omega) hx hy
    |false=>
     rw[zq0 (by decide)];exact⟨false,rfl,⟨fun h=>Bool.noConfusion h,fun h=>absurd (hb.2 (h i _ _ (Nat.le_refl _) (List.getElem?_eq_getElem hlt) (List.getElem?_eq_getElem hlt'))) (by decide)⟩⟩
  have fin:v9M t.K v.N→∃b,(some (vY m t)>>=fun q=>if(List.length q:Int)=(List.length v.L:Int)then yI q 0 m v else some false)=some b∧(b=true↔Fit m t v):=by
   intro hno;rw[zB];by_cases hl:(List.length (vY m t):Int)=(List.length v.L:Int)
   ·rw[zq1 hl];obtain⟨b,eb,hb⟩:=loop (vY m t).length 0 (by omega) (by omega);exact⟨b,eb,hb.trans ⟨fun h=>.mk t v hg hno (by omega) (fun j x y hx hy=>h j x y (Nat.zero_le _) hx hy),fun h j x y _ hx hy=>h.inv.2.2.2 j x y hx hy⟩⟩
   ·rw[zq0 hl];exact no (fun h=>h.inv.2.2.1) (fun h=>hl (by omega))
  by_cases k2:t.K=2
  ·rw[zq1 k2];by_cases c0:v.N=0
   ·rw[zq1 c0];exact fin ⟨fun _=>.inl c0,fun _ h=>absurd k2 h⟩
   ·rw[zq0 c0];by_cases c1:v.N=1
    ·rw[zq1 c1];exact fin ⟨fun _=>.inr c1,fun _ h=>absurd k2 h⟩
    ·rw[zq0 c1];exact no (fun h=>h.inv.2.1.1 k2) (by omega)
  ·rw[zq0 k2];by_cases k1:t.K=1
   ·rw[zq1 k1];exact fin ⟨fun h=>absurd h k2,fun h=>absurd k1 h⟩
   ·rw[zq0 k1];by_cases c0:v.N=0
    ·rw[zq1 c0];exact fin ⟨fun h=>absurd h k2,fun _ _=>c0⟩
    ·rw[zq0 c0];exact no (fun h=>h.inv.2.1.2 k1 k2) c0
theorem w0u{m t:zA}(hm:zI m≤1000000000)(h:OkT m t):zI t≤1000000000→Good m t→∃v,vC m t=some v∧Fit m t v:=by
 have go:∀t:zA,OkT m t→zI t≤1000000000→Good m t→(∀x∈vY m t,∃v,vC m x=some v∧Fit m x v)→∃v,vC m t=some v∧Fit m t v:=by
  intro t ho ht hg hp;obtain⟨n,en,h0,hn⟩:=z5l hm ht;have hpl:=y1J hm ho;have loop:∀(k i:Nat) (o:Value) (L:List Value),i+k=(vY m t).length→L.length=i→(∀(j:Nat) x y,(vY m t)[j]?=some x→L[j]?=some y→Fit m x y) →
    ∃L',vD (vY m t) i m o 0 L=some ⟨0,L'⟩∧(vY m t).length=L'.length∧∀(j:Nat) x y,(vY m t)[j]?=some x→L'[j]?=some y→Fit m x y:=by
   intro k;induction k with
   |zero=>
    intro i o L hi hl hL;rw[z3L];unfold jY;rw[zq0 (by omega)];exact⟨L,rfl,by omega,hL⟩
   |succ k ihk=>
    intro i o L hi hl hL;have hlt:i<(vY m t).length:=by omega
    obtain⟨v,ev,hv⟩:=hp _ (List.getElem_mem hlt);rw[z3L];unfold jY;rw[zq1 (by omega),wG hlt,zB,ev,zB,zq1 (jG (by omega) (by simp;omega)),z1C (by omega)];refine ihk (i+1) o _ (by omega) (by simp[hl]) (fun j x y hx hy=>?_);by_cases hj:j<L.length
    ·rw[List.getElem?_append_left hj]at hy;exact hL j x y hx hy
    ·rw[List.getElem?_append_right (by omega)]at hy;have:j-L.length=0:=by
      have:=(List.getElem?_eq_some_iff.1 hy).1;simp at this;omega
     rw[this]at hy;simp at hy;subst hy;have:j=i:=by omega
     subst this;rw[List.getElem?_eq_getElem hlt]at hx;cases hx;exact hv
  obtain⟨L',e,h1,h2⟩:=loop (vY m t).length 0 ⟨0,[]⟩ [] (by omega) rfl (fun j x y _ hy=>by simp at hy);refine⟨⟨0,L'⟩,?_,.mk t _ hg ⟨fun _=>.inl rfl,fun _ _=>rfl⟩ h1 h2⟩;rw[y3g];unfold z2S;rw[en,zB,zq0 (hn.2 hg),y9q hm ho,zB];exact e
 have none_:∀t:zA,(t.K=1∨t.K=2)→∀x∈vY m t,∃v,vC m x=some v∧Fit m x v:=fun t hk x hx=>by
  unfold vY at hx;rw[zq0 (by omega),zq0 (by omega)]at hx;cases hx
 induction h with
 |int t h1 h2=>exact fun ht hg=>go t (.int t h1 h2) ht hg (none_ t (.inl h1))
 |bool t h1 h2=>exact fun ht hg=>go t (.bool t h1 h2) ht hg (none_ t (.inr h1))
 |arr t e h1 h2 h3 h4 h5 ih=>
  intro ht hg;have ho:OkT m t:=.arr t e h1 h2 h3 h4 h5;refine go t ho ht hg fun x hx=>?_;have hs:=z9M hm ht ho x hx;have hgx:=z9N hm ht hg x hx;unfold vY at hx;rw[zq1 h1]at hx;have:=List.eq_of_mem_replicate hx;subst this;have e1:hd t=e:=by unfold hd;rw[h2];rfl
  rw[e1]at hs hgx ⊢;exact ih hs hgx
 |rcd t d h1 h2 h3 h4 h5 h6 ih=>
  intro ht hg;have ho:OkT m t:=.rcd t d h1 h2 h3 h4 h5 h6;refine go t ho ht hg fun x hx=>?_;have hs:=z9M hm ht ho x hx;have hgx:=z9N hm ht hg x hx;unfold vY at hx;rw[zq0 (by omega),zq1 h1,h4]at hx;obtain⟨f,hf,rfl⟩:=List.mem_map.1 hx;obtain⟨-,y,hy⟩:=h5.2.2 f hf;have e1:hd f=y:=by unfold hd;rw[hy];rfl
  rw[e1]at hs hgx ⊢;exact ih f y hf hy hs hgx
theorem v5a{m t:zA}(hm:zI m≤1000000000)(ht:zI t≤1000000000)(h:Good m t):∃v,vC m t=some v∧Fit m t v:=w0u hm (h.okT hm ht) ht h
theorem y6q{a b:Value}(h1:a.N=b.N)(h2:a.L=b.L):a=b:=by cases a;cases b;simp_all
theorem y9B(a:Value):Vok a→∀b:Value,∃c,wW a b=some c∧(c=true↔a=b):=by
 intro h;induction h with
 |mk a hl hv ih=>
  intro b;have loop:∀(k i:Nat),i+k=a.L.length→a.L.length=b.L.length→∃c,vU i a b=some c∧(c=true↔a.L.drop i=b.L.drop i):=by
   intro k;induction k with
   |zero=>
    intro i hi hab;rw[z6a];unfold z0b;rw[zq0 (by omega),List.drop_eq_nil_of_le (by omega),List.drop_eq_nil_of_le (by omega)];exact⟨_,rfl,by simp⟩
   |succ k ihk=>
    intro i hi hab;have hlt:i<a.L.length:=by omega
    have hlt':i<b.L.length:=by omega
    rw[z6a];unfold z0b;obtain⟨c,e,hc⟩:=ih _ (List.getElem_mem hlt) b.L[i];rw[zq1 (by omega),wG hlt,zB,wG hlt',zB,e,zB,z1C (by omega),List.drop_eq_getElem_cons hlt,List.drop_eq_getElem_cons hlt'];cases c with
    |true=>
     obtain⟨c',e',hc'⟩:=ihk (i+1) (by omega) hab;rw[zq1 rfl];exact⟨c',e',by rw[hc',List.cons.injEq];exact⟨fun h=>⟨hc.1 rfl,h⟩,fun h=>h.2⟩⟩
    |false=>
     rw[zq0 (by decide)];exact⟨false,rfl,⟨fun h=>Bool.noConfusion h,fun h=>by rw[List.cons.injEq]at h;exact absurd (hc.2 h.1) (by decide)⟩⟩
  rw[y3f];unfold z2R;by_cases h1:a.N=b.N
  ·rw[zq1 h1];by_cases h4:(List.length a.L:Int)=(List.length b.L:Int)
   ·rw[zq1 h4];obtain⟨c,e,hc⟩:=loop a.L.length 0 (by omega) (by omega);refine⟨c,e,?_⟩;rw[hc];simp only[List.drop_zero];exact⟨fun hL=>y6q h1 hL,fun e=>by rw[e]⟩
   ·rw[zq0 h4];exact⟨false,rfl,⟨fun h=>Bool.noConfusion h,fun e=>absurd (by rw[e]) h4⟩⟩
  ·rw[zq0 h1];exact⟨false,rfl,⟨fun h=>Bool.noConfusion h,fun e=>absurd (by rw[e]) h1⟩⟩
@[reducible] def y9d:zA:=⟨1,0,[],[],0,0⟩
@[reducible] def y3B:zA:=⟨2,0,[],[],0,0⟩
theorem v6B(f:zA→zA)(l:List zA)(h:∀x∈l,zI (f x)=zI x):wE (l.map f)=wE l:=by
 induction l with
 |nil=>rfl
 |cons x r ih=>simp only[List.map_cons,wE];rw[h x (List.mem_cons_self ..),ih fun y hy=>h y (List.mem_cons_of_mem _ hy)]
theorem z9X(t:zA):zI (uO t)=zI t:=by
 induction t using zA.ind with
 |h t ih=>rw[z2i,jH,jH t];simp only;rw[v6B _ _ ih]
theorem z6B(t:zA):uO (uO t)=uO t:=by
 induction t using zA.ind with
 |h t ih=>
  rw[z2i t,z2i];simp only[zA.mk.injEq,and_self,true_and,and_true,List.map_map];exact List.map_congr_left fun x hx=>ih x hx
theorem z7A(t:zA)(k:Int):∃b,z4l t k=some b∧(b=true↔t.K=k∧t.L=[]):=by
 unfold z4l;by_cases h:t.K=k
 ·rw[zq1 h];exact⟨_,rfl,by simp[h]⟩
 ·rw[zq0 h];exact⟨_,rfl,by simp[h]⟩
inductive v4q(op:Int)(a b:zA):zA→Prop
 |logic:(op=1∨op=2)→(a.K=2∧a.L=[])→(b.K=2∧b.L=[])→v4q op a b y3B
 |eqi:(op=3∨op=4)→(a.K=1∧a.L=[])→(b.K=1∧b.L=[])→v4q op a b y3B
 |eqb:(op=3∨op=4)→(a.K=2∧a.L=[])→(b.K=2∧b.L=[])→v4q op a b y3B
 |less:5≤op→op≤8→(a.K=1∧a.L=[])→(b.K=1∧b.L=[])→v4q op a b y3B
 |num:9≤op→(a.K=1∧a.L=[])→(b.K=1∧b.L=[])→v4q op a b y9d
theorem w0O(op:Int)(a b:zA):∃τ,z9R op a b=some τ∧(τ.K=0∨v4q op a b τ):=by
 obtain⟨i1,e1,h1⟩:=z7A a 1;obtain⟨i2,e2,h2⟩:=z7A b 1;obtain⟨b1,e3,h3⟩:=z7A a 2;obtain⟨b2,e4,h4⟩:=z7A b 2;have J7:∀(ints:Bool) o,(ints=true→i1=true∧i2=true)→∃τ,z1p op ints o=some τ∧(τ.K=0∨v4q op a b τ):=by
  intro ints o hi;unfold z1p z6k;by_cases c:op≥9
  ·rw[zq1 c];cases ints with
   |true=>rw[zq1 rfl];exact⟨_,rfl,.inr (.num c (h1.1 (hi rfl).1) (h2.1 (hi rfl).2))⟩
   |false=>rw[zq0 (by decide)];exact⟨_,rfl,.inl rfl⟩
  ·rw[zq0 c];exact⟨_,rfl,.inl rfl⟩
 have J5:∀(ints:Bool) o,(ints=true→i1=true∧i2=true)→∃τ,z0m op ints o=some τ∧(τ.K=0∨v4q op a b τ):=by
  intro ints o hi;unfold z0m gQ;cases ints with
  |false=>simp only[Bool.false_eq_true,if_false,ite_self];exact J7 _ _ hi
  |true=>
   simp only[if_true];have fin:5≤op→op≤8→∃τ,(some (zA.mk 2 0 [] [] 0 0)>>=fun q=>some q)=some τ∧(τ.K=0∨v4q op a b τ):=fun c1 c2=>⟨_,rfl,.inr (.less c1 c2 (h1.1 (hi rfl).1) (h2.1 (hi rfl).2))⟩;by_cases c:op=5
   ·rw[zq1 c];exact fin (by omega) (by omega)
   rw[zq0 c];by_cases c:op=6
   ·rw[zq1 c];exact fin (by omega) (by omega)
   rw[zq0 c];by_cases c:op=7
   ·rw[zq1 c];exact fin (by omega) (by omega)
   rw[zq0 c];by_cases c:op=8
   ·rw[zq1 c];exact fin (by omega) (by omega)
   rw[zq0 c];exact J7 _ _ hi
 have J3:∀(ints bools:Bool) o,(ints=true→i1=true∧i2=true)→(bools=true→b1=true∧b2=true)→∃τ,z4n op ints bools o=some τ∧(τ.K=0∨v4q op a b τ):=by
  intro ints bools o hi hb;unfold z4n gQ;have L:(op=1∨op=2)→∃τ,(if bools=true then(some (zA.mk 2 0 [] [] 0 0)>>=fun q=>some q)else z0m op ints o)=some τ∧(τ.K=0∨v4q op a b τ):=fun c=>by
   cases bools with
   |true=>rw[zq1 rfl];exact⟨_,rfl,.inr (.logic c (h3.1 (hb rfl).1) (h4.1 (hb rfl).2))⟩
   |false=>rw[zq0 (by decide)];exact J5 _ _ hi
  have E:(op=3∨op=4)→∃τ,(if ints=true then(some (zA.mk 2 0 [] [] 0 0)>>=fun q=>some q)else if bools=true then(some (zA.mk 2 0 [] [] 0 0)>>=fun q=>some q)else z0m op ints o)=some τ∧(τ.K=0∨v4q op a b τ):=fun c=>by
   cases ints with
   |true=>rw[zq1 rfl];exact⟨_,rfl,.inr (.eqi c (h1.1 (hi rfl).1) (h2.1 (hi rfl).2))⟩
   |false=>
    rw[zq0 (by decide)];cases bools with
    |true=>rw[zq1 rfl];exact⟨_,rfl,.inr (.eqb c (h3.1 (hb rfl).1) (h4.1 (hb rfl).2))⟩
    |false=>rw[zq0 (by decide)];exact J5 _ _ hi
  by_cases c:op=1
  ·rw[zq1 c];exact L (.inl c)
  rw[zq0 c];by_cases c:op=2
  ·rw[zq1 c];exact L (.inr c)
  rw[zq0 c];by_cases c:op=3
  ·rw[zq1 c];exact E (.inl c)
  rw[zq0 c];by_cases c:op=4
  ·rw[zq1 c];exact E (.inr c)
  rw[zq0 c];exact J5 _ _ hi
 have J2:∀(ints:Bool) o,(ints=true→i1=true∧i2=true)→∃τ,z4m op ints a b o=some τ∧(τ.K=0∨v4q op a b τ):=by
  intro ints o hi;unfold z4m;rw[e3,zB];by_cases c:b1=true
  ·rw[zq1 c,e4,zB];exact J3 _ _ _ hi fun h=>⟨c,h⟩
  ·rw[zq0 c];exact J3 _ _ _ hi fun h=>Bool.noConfusion h
 unfold z9R;rw[e1,zB];by_cases c:i1=true
 ·rw[zq1 c,e2,zB];exact J2 _ _ fun h=>⟨c,h⟩
 ·rw[zq0 c];exact J2 _ _ fun h=>Bool.noConfusion h
theorem v4K(t:zA):z1g t=some (if t.K=5 then y9d else if t.K=6 then y3B else⟨0,0,[],[],0,0⟩):=by
 unfold z1g z6k gQ;by_cases h:t.K=5
 ·rw[zq1 h,zq1 h];rfl
 ·rw[zq0 h,zq0 h];by_cases h:t.K=6
  ·rw[zq1 h,zq1 h];rfl
  ·rw[zq0 h,zq0 h]
theorem y5H{α:Type}{l:List α}{n:Int}(h0:0≤n)(h:n<(l.length:Int)):∃x,idx l n=some x∧l[n.toNat]?=some x:=by
 obtain⟨k,hk⟩:∃k:Nat,n=k:=⟨n.toNat,by omega⟩;subst hk;exact⟨l[k],wG (by omega),by simp⟩
theorem v1E{l:List zA}(h:(List.length l:Int)=1):∃x,l=[x]:=y2D h
theorem v9G{l:List zA}(h:(List.length l:Int)=2):∃x y,l=[x,y]:=by
 match l,h with
 |[x,y],_=>exact⟨x,y,rfl⟩
 |[],h=>simp at h
 |[_],h=>simp at h
 |_::_::_::_,h=>simp at h;omega
theorem w0U{l:List zA}(h:(List.length l:Int)=3):∃x y z,l=[x,y,z]:=by
 match l,h with
 |[x,y,z],_=>exact⟨x,y,z,rfl⟩
 |[],h=>simp at h
 |[_],h=>simp at h
 |[_,_],h=>simp at h
 |_::_::_::_::_,h=>simp at h;omega
def HasR(m:zA)(n kind:Int)(d:zA):Prop:=
 0≤n∧m.L[n.toNat]?=some d∧d.K=kind∧(kind=31→∃x,d.L=[x]∧(x.K=5∨x.K=6))∧(kind=32→∃x,d.L=[x])∧(kind=33→∃a b c,d.L=[a,b,c])∧(kind=30→v2p d)
theorem v1v(m:zA)(n kind:Int)(hm:zI m≤1000000000)(hk:30≤kind∧kind≤33):∃b,z5m m n kind=some b∧(b=true↔∃d,HasR m n kind d):=by
 have no:(∀d,¬HasR m n kind d)→∃b,some false=some b∧(b=true↔∃d,HasR m n kind d):=fun h=>⟨false,rfl,fun h=>Bool.noConfusion h,fun⟨d,hd⟩=>absurd hd (h d)⟩;unfold z5m;by_cases c:n<0
 ·rw[zq1 c];exact no fun d h=>by have:=h.1;omega
 rw[zq0 c];by_cases c':n≥(List.length m.L:Int)
 ·rw[zq1 c'];exact no fun d h=>by have:=(List.getElem?_eq_some_iff.1 h.2.1).1;omega
 rw[zq0 c'];obtain⟨x,ex,hx⟩:=y5H (l:=m.L) (n:=n) (by omega) (by omega);have hxs:=zM (List.mem_of_getElem? hx);have uniq:∀{d},HasR m n kind d→d=x:=fun h=>by have:=h.2.1;rw[hx]at this;exact(Option.some.inj this).symm
 rw[ex,zB];by_cases ck:x.K=kind
 ·rw[zq1 ck];by_cases k1:kind=31
  ·rw[zq1 k1];by_cases l1:(List.length x.L:Int)=1
   ·rw[zq1 l1];obtain⟨y,hy⟩:=v1E l1;rw[hy,show idx [y] 0=some y from rfl,zB,v4K,zB];by_cases y5:y.K=5
    ·rw[zq1 y5];exact⟨_,rfl,fun _=>⟨x,by omega,hx,ck,fun _=>⟨y,hy,.inl y5⟩,by omega,by omega,by omega⟩,fun _=>rfl⟩
    ·rw[zq0 y5];by_cases y6:y.K=6
     ·rw[zq1 y6];exact⟨_,rfl,fun _=>⟨x,by omega,hx,ck,fun _=>⟨y,hy,.inr y6⟩,by omega,by omega,by omega⟩,fun _=>rfl⟩
     ·rw[zq0 y6];exact no fun d h=>by
       obtain⟨z,hz,h56⟩:=h.2.2.2.1 k1;rw[uniq h,hy]at hz;injection hz with hz;subst hz;omega
   ·rw[zq0 l1];exact no fun d h=>by
     obtain⟨z,hz,h56⟩:=h.2.2.2.1 k1;rw[uniq h]at hz;rw[hz]at l1;exact l1 rfl
  rw[zq0 k1];by_cases k2:kind=32
  ·rw[zq1 k2];refine⟨_,rfl,fun h=>?_,fun⟨d,h⟩=>?_⟩
   ·obtain⟨y,hy⟩:=v1E (zq2.1 h);exact⟨x,by omega,hx,ck,by omega,fun _=>⟨y,hy⟩,by omega,by omega⟩
   ·obtain⟨z,hz⟩:=h.2.2.2.2.1 k2;rw[uniq h]at hz;rw[hz];rfl
  rw[zq0 k2];by_cases k3:kind=33
  ·rw[zq1 k3];refine⟨_,rfl,fun h=>?_,fun⟨d,h⟩=>?_⟩
   ·obtain⟨y,y',y'',hy⟩:=w0U (zq2.1 h);exact⟨x,by omega,hx,ck,by omega,by omega,fun _=>⟨y,y',y'',hy⟩,by omega⟩
   ·obtain⟨z,z',z'',hz⟩:=h.2.2.2.2.2.1 k3;rw[uniq h]at hz;rw[hz];rfl
  rw[zq0 k3];obtain⟨b,eb,hb⟩:=y1T x (by omega);rw[eb,zB];refine⟨b,rfl,fun h=>⟨x,by omega,hx,ck,by omega,by omega,by omega,fun _=>hb.1 h⟩,fun⟨d,h⟩=>?_⟩;have:=h.2.2.2.2.2.2 (by omega);rw[uniq h]at this;exact hb.2 this
 ·rw[zq0 ck];exact no fun d h=>ck (by rw[←uniq h];exact h.2.2.1)
def v6D(m:zA)(Γ:List zA)(t:zA):Prop:=
 (t.K=7→0≤t.N∧t.N<(Γ.length:Int))∧(t.K=8→∃d,HasR m t.N 31 d)∧(t.K=9→∃d,HasR m t.N 32 d)∧(t.K=15→∃d,HasR m t.N 30 d)∧(t.K=16→∃d,HasR m t.N 33 d)∧t.K≠17
theorem v6r(m:zA)(Γ:List zA)(t:zA)(hm:zI m≤1000000000):∃b,z6L m Γ t=some b∧(b=true↔v6D m Γ t):=by
 unfold z6L v6D;by_cases k:t.K=7
 ·rw[zq1 k];by_cases c:t.N≥0
  ·rw[zq1 c];refine⟨_,rfl,fun h=>⟨fun _=>⟨c,of_decide_eq_true h⟩,by omega,by omega,by omega,by omega,by omega⟩,fun h=>decide_eq_true (h.1 k).2⟩
  ·rw[zq0 c];exact⟨_,rfl,fun h=>Bool.noConfusion h,fun h=>absurd (h.1 k).1 (by omega)⟩
 rw[zq0 k];by_cases k8:t.K=8
 ·rw[zq1 k8];obtain⟨b,eb,hb⟩:=v1v m t.N 31 hm (by omega);rw[eb,zB];exact⟨b,rfl,fun h=>⟨by omega,fun _=>hb.1 h,by omega,by omega,by omega,by omega⟩,fun h=>hb.2 (h.2.1 k8)⟩
 rw[zq0 k8];by_cases k9:t.K=9
 ·rw[zq1 k9];obtain⟨b,eb,hb⟩:=v1v m t.N 32 hm (by omega);rw[eb,zB];exact⟨b,rfl,fun h=>⟨by omega,by omega,fun _=>hb.1 h,by omega,by omega,by omega⟩,fun h=>hb.2 (h.2.2.1 k9)⟩
 rw[zq0 k9];by_cases k15:t.K=15
 ·rw[zq1 k15];obtain⟨b,eb,hb⟩:=v1v m t.N 30 hm (by omega);rw[eb,zB];exact⟨b,rfl,fun h=>⟨by omega,by omega,by omega,fun _=>hb.1 h,by omega,by omega⟩,fun h=>hb.2 (h.2.2.2.1 k15)⟩
 rw[zq0 k15];by_cases k16:t.K=16
 ·rw[zq1 k16];obtain⟨b,eb,hb⟩:=v1v m t.N 33 hm (by omega);rw[eb,zB];exact⟨b,rfl,fun h=>⟨by omega,by omega,by omega,by omega,fun _=>hb.1 h,by omega⟩,fun h=>hb.2 (h.2.2.2.2.1 k16)⟩
 rw[zq0 k16];refine⟨_,rfl,fun h=>⟨by omega,by omega,by omega,by omega,by omega,?_⟩,fun h=>?_⟩
 ·intro e;rw[e]at h;exact absurd h (by decide)
 ·have:=h.2.2.2.2.2;simp[this]
def y4z(t:zA):Prop:=
 ((t.K=5∨t.K=7∨t.K=8∨t.K=9∨t.K=18)∧t.L=[])∨(t.K=6∧t.L=[]∧(t.N=0∨t.N=1))∨(t.K=11∧(∃a,t.L=[a])∧(t.N=1∨t.N=2)) ∨
 (t.K=10∧(∃a b,t.L=[a,b])∧1≤t.N∧t.N≤13)∨(t.K=13∧∃a,t.L=[a])∨(t.K=12∧∃a b,t.L=[a,b])∨((t.K=14∨t.K=15)∧t.L≠[])∨t.K=16∨t.K=17
theorem v4j(t:zA):∃b,z5Y t=some b∧(b=true→y4z t):=by
 unfold z5Y;have z:∀{K:Int},t.K=K→(K=5∨K=7∨K=8∨K=9∨K=18)→∃b,some ((List.length t.L:Int) == 0)=some b∧(b=true→y4z t):=fun hk h=>⟨_,rfl,fun e=>.inl ⟨by omega,List.length_eq_zero_iff.1 (by have:=zq2.1 e;omega)⟩⟩;by_cases k:t.K=5
 ·rw[zq1 k];exact z k (by omega)
 rw[zq0 k];by_cases k:t.K=7
 ·rw[zq1 k];exact z k (by omega)
 rw[zq0 k];by_cases k:t.K=8
 ·rw[zq1 k];exact z k (by omega)
 rw[zq0 k];by_cases k:t.K=9
 ·rw[zq1 k];exact z k (by omega)
 rw[zq0 k];by_cases k:t.K=18
 ·rw[zq1 k];exact z k (by omega)
 rw[zq0 k];by_cases k:t.K=6
 ·rw[zq1 k];by_cases l:(List.length t.L:Int)=0
  ·rw[zq1 l];have l':t.L=[]:=List.length_eq_zero_iff.1 (by omega);by_cases n:t.N=0
   ·rw[zq1 n];exact⟨_,rfl,fun _=>.inr (.inl ⟨k,l',.inl n⟩)⟩
   ·rw[zq0 n];exact⟨_,rfl,fun h=>.inr (.inl ⟨k,l',.inr (zq2.1 h)⟩)⟩
  ·rw[zq0 l];exact⟨_,rfl,fun h=>Bool.noConfusion h⟩
 rw[zq0 k];by_cases k:t.K=11
 ·rw[zq1 k];by_cases l:(List.length t.L:Int)=1
  ·rw[zq1 l];by_cases n:t.N=1
   ·rw[zq1 n];exact⟨_,rfl,fun _=>.inr (.inr (.inl ⟨k,v1E l,.inl n⟩))⟩
   ·rw[zq0 n];exact⟨_,rfl,fun h=>.inr (.inr (.inl ⟨k,v1E l,.inr (zq2.1 h)⟩))⟩
  ·rw[zq0 l];exact⟨_,rfl,fun h=>Bool.noConfusion h⟩
 rw[zq0 k];by_cases k:t.K=10
 ·rw[zq1 k];by_cases l:(List.length t.L:Int)=2
  ·rw[zq1 l];by_cases n:t.N≥1
   ·rw[zq1 n];exact⟨_,rfl,fun h=>.inr (.inr (.inr (.inl ⟨k,v9G l,n,of_decide_eq_true h⟩)))⟩
   ·rw[zq0 n];exact⟨_,rfl,fun h=>Bool.noConfusion h⟩
  ·rw[zq0 l];exact⟨_,rfl,fun h=>Bool.noConfusion h⟩
 rw[zq0 k];by_cases k:t.K=13
 ·rw[zq1 k];exact⟨_,rfl,fun h=>.inr (.inr (.inr (.inr (.inl ⟨k,v1E (zq2.1 h)⟩))))⟩
 rw[zq0 k];by_cases k:t.K=12
 ·rw[zq1 k];exact⟨_,rfl,fun h=>.inr (.inr (.inr (.inr (.inr (.inl ⟨k,v9G (zq2.1 h)⟩)))))⟩
 rw[zq0 k];have ne:decide ((List.length t.L:Int)≥1)=true→t.L≠[]:=fun h e=>by
  have:=of_decide_eq_true h;rw[e]at this;simp at this
 by_cases k:t.K=14
 ·rw[zq1 k];exact⟨_,rfl,fun h=>.inr (.inr (.inr (.inr (.inr (.inr (.inl ⟨.inl k,ne h⟩))))))⟩
 rw[zq0 k];by_cases k:t.K=15
 ·rw[zq1 k];exact⟨_,rfl,fun h=>.inr (.inr (.inr (.inr (.inr (.inr (.inl ⟨.inr k,ne h⟩))))))⟩
 rw[zq0 k];by_cases k:t.K=16
 ·rw[zq1 k];exact⟨_,rfl,fun h=>.inr (.inr (.inr (.inr (.inr (.inr (.inr (.inl k)))))))⟩
 rw[zq0 k];exact⟨_,rfl,fun h=>.inr (.inr (.inr (.inr (.inr (.inr (.inr (.inr (zq2.1 h))))))))⟩
def w0Z(p l:List zA):Prop:=p.length=l.length∧∀(i:Nat) x y,p[i]?=some x→l[i]?=some y→∃z,y.L=[z]∧uO x=uO z
theorem v4y(p l:List zA)(hp:∀x∈p,zI x≤1000000000)(hl:∀x∈l,zI x≤1000000000)(hn:l.length≤1000000000):∃b,z9Q p l=some b∧(b=true↔w0Z p l):=by
 have loop:∀(k i:Nat),i+k=l.length→p.length=l.length→∃b,wN p l i=some b∧(b=true↔∀(j:Nat) x y,i≤j→p[j]?=some x→l[j]?=some y→∃z,y.L=[z]∧uO x=uO z):=by
  intro k;induction k with
  |zero=>
   intro i hi hpl;rw[y0k];unfold z1m;rw[zq0 (by omega)];exact⟨_,rfl,fun _ j x y hj hx hy=>absurd (List.getElem?_eq_some_iff.1 hy).1 (by omega),fun _=>rfl⟩
  |succ k ih=>
   intro i hi hpl;have hlt:i<l.length:=by omega
   have hlt':i<p.length:=by omega
   have gl:=List.getElem?_eq_getElem hlt;have gp:=List.getElem?_eq_getElem hlt';rw[y0k];unfold z1m;rw[zq1 (by omega),wG hlt,zB];by_cases c:(List.length l[i].L:Int)=1
   ·rw[zq1 c];obtain⟨z,hz⟩:=v1E c;have hzs:zI z<zI l[i]:=zM (by rw[hz];exact List.mem_singleton_self z);have hls:=hl _ (List.getElem_mem hlt);obtain⟨b,eb,hb⟩:=y6h p[i] (uO z) (hp _ (List.getElem_mem hlt'));rw[wG hlt',zB,zB,hz,show idx [z] 0=some z from rfl,zB,y2j z (by omega),zB,eb,zB,z1C (by omega)];rw[z6B]at hb;cases b with
    |true=>
     rw[zq1 rfl];obtain⟨c',ec,hc⟩:=ih (i+1) (by omega) hpl;refine⟨c',ec,hc.trans ⟨fun h j x y hj hx hy=>?_,fun h j x y hj hx hy=>h j x y (by omega) hx hy⟩⟩;by_cases e:j=i
     ·subst e;rw[gp]at hx;rw[gl]at hy;cases hx;cases hy;exact⟨z,hz,hb.1 rfl⟩
     ·exact h j x y (by omega) hx hy
    |false=>
     rw[zq0 (by decide)];exact⟨_,rfl,fun h=>Bool.noConfusion h,fun h=>by
      obtain⟨z',hz',h'⟩:=h i _ _ (Nat.le_refl _) gp gl;rw[hz]at hz';injection hz' with hz';subst hz';exact hb.2 h'⟩
   ·rw[zq0 c];exact⟨_,rfl,fun h=>Bool.noConfusion h,fun h=>by
     obtain⟨z',hz',h'⟩:=h i _ _ (Nat.le_refl _) gp gl;rw[hz']at c;exact absurd rfl c⟩
 unfold z9Q;by_cases c:(List.length p:Int)=(List.length l:Int)
 ·rw[zq1 c];obtain⟨b,eb,hb⟩:=loop l.length 0 (by omega) (by omega);exact⟨b,eb,hb.trans ⟨fun h=>⟨by omega,fun j x y hx hy=>h j x y (by omega) hx hy⟩,fun h j x y _ hx hy=>h.2 j x y hx hy⟩⟩
 ·rw[zq0 c];exact⟨_,rfl,fun h=>Bool.noConfusion h,fun h=>absurd h.1 (by omega)⟩
def y9G(m:zA)(r n:Int)(x:zA):Prop:=
 ∃(d f:zA) (k i:Nat),r=k∧m.L[k]?=some d∧v2p d∧d.L[i]?=some f∧f.L=[x]∧i<64∧n=k*64+i
theorem y7t(m:zA)(n:Int)(hm:zI m≤1000000000)(h0:0≤n)(h1:n≤9223372036854775807):
  ∃q,z3f m n=some q∧(q.2=true→∃(d f:zA) (k i:Nat),m.L[k]?=some d∧d.K=30∧d.L[i]?=some f∧f.K=34∧f.L=[q.1]∧i<64∧n=k*64+i∧Int.tdiv n 64=k) ∧
   (∀(d f x:zA) (k i:Nat),m.L[k]?=some d→d.K=30→d.L[i]?=some f→f.K=34→f.L=[x]→i<64→n=k*64+i→q=(x,true)):=by
 have hml:=vN m;unfold z3f;have e1:Int.tdiv n 64=n / 64:=Int.tdiv_eq_ediv_of_nonneg h0;have e2:Int.tmod n 64=n % 64:=Int.tmod_eq_emod_of_nonneg h0;have no:(∀(d f x:zA) (k i:Nat),m.L[k]?=some d→d.K=30→d.L[i]?=some f→f.K=34→f.L=[x]→i<64→n=k*64+i→False)→∃q:zA×Bool,some ((zA.mk 0 0 [] [] 0 0),false)=some q∧(q.2=true→∃(d f:zA) (k i:Nat),m.L[k]?=some d∧d.K=30∧d.L[i]?=some f∧f.K=34∧f.L=[q.1]∧i<64∧n=k*64+i∧n / 64=k) ∧
   (∀(d f x:zA) (k i:Nat),m.L[k]?=some d→d.K=30→d.L[i]?=some f→f.K=34→f.L=[x]→i<64→n=k*64+i→q=(x,true)):=
  fun h=>⟨_,rfl,fun e=>Bool.noConfusion e,fun d f x k i a b c d' e f' g=>(h d f x k i a b c d' e f' g).elim⟩
 simp only[e1,e2];rw[zq0 (by omega),zq1 (by decide)];by_cases hb:n / 64<(List.length m.L:Int)
 ·have hw:IntKind.wrap .i64 (n / 64)=n / 64:=z1H (by omega) (by omega);rw[hw,zq0 (by omega),zq1 (by decide)];obtain⟨d,ed,hd⟩:=y5H (l:=m.L) (n:=n / 64) (by omega) hb;have uniq:∀{d':zA} {k i:Nat},m.L[k]?=some d'→i<64→n=k*64+i→d'=d∧(n % 64).toNat=i:=fun {d' k i} h hi hn=>by
   have:(n / 64).toNat=k:=by omega
   rw[this,h]at hd;exact⟨Option.some.inj hd,by omega⟩
  rw[ed,zB,zq1 (by decide)];by_cases ck:d.K=30
  ·rw[zq1 ck];by_cases cl:n % 64≥(List.length d.L:Int)
   ·rw[zq1 cl];exact no fun d' f x k i h1 h2 h3 h4 h5 h6 h7=>by
     obtain⟨rfl,e⟩:=uniq h1 h6 h7;have:=(List.getElem?_eq_some_iff.1 h3).1;omega
   ·rw[zq0 cl];obtain⟨f,ef,hf⟩:=y5H (l:=d.L) (n:=n % 64) (by omega) (by omega);rw[ef,zB];by_cases cf:f.K=34
    ·rw[zq1 cf,zB];by_cases c1:(List.length f.L:Int)=1
     ·rw[zq1 c1,zB];obtain⟨x,hx⟩:=v1E c1;rw[hx,show idx [x] 0=some x from rfl,zB];refine⟨_,rfl,fun _=>⟨d,f,(n / 64).toNat,(n % 64).toNat,hd,ck,hf,cf,hx,by omega,by omega,by omega⟩,fun d' f' x' k i h1 h2 h3 h4 h5 h6 h7=>?_⟩;obtain⟨rfl,e⟩:=uniq h1 h6 h7;rw[e,h3]at hf;cases hf;rw[hx]at h5;injection h5 with h5;subst h5;rfl
     ·rw[zq0 c1];exact no fun d' f' x k i h1 h2 h3 h4 h5 h6 h7=>by
       obtain⟨rfl,e⟩:=uniq h1 h6 h7;rw[e,h3]at hf;cases hf;rw[h5]at c1;exact c1 rfl
    ·rw[zq0 cf];exact no fun d' f' x k i h1 h2 h3 h4 h5 h6 h7=>by
      obtain⟨rfl,e⟩:=uniq h1 h6 h7;rw[e,h3]at hf;cases hf;exact cf h4
  ·rw[zq0 ck];exact no fun d' f x k i h1 h2 h3 h4 h5 h6 h7=>by
    obtain⟨rfl,e⟩:=uniq h1 h6 h7;exact ck h2
 ·rw[z1H (n:=n / 64) (by omega) (by omega),zq1 (by omega)];exact no fun d' f x k i h1 h2 h3 h4 h5 h6 h7=>by
   have:=(List.getElem?_eq_some_iff.1 h1).1;omega
theorem v6c(m t:zA)(r:Int)(hm:zI m≤1000000000)(h1:InK .i64 t.N):
  ∃q,z6J m t r=some q∧(q<0∨∃x,y9G m r q x)∧(t.S=[]→0≤t.N→(∃x,y9G m r t.N x)→q=t.N):=by
 have hml:=vN m;have h1:=i64_iff.1 h1;unfold z6J;obtain⟨b,eb,hb⟩:=v1v m r 30 hm (by omega);rw[eb,zB];cases b with
 |false=>
  rw[zq0 (by decide)];refine⟨_,rfl,.inl (by omega),fun _ _ ⟨x,d,f,k,i,h1,h2,h3,h4⟩=>?_⟩;subst h1;exact absurd (hb.2 ⟨d,by omega,h2,h3.1,by omega,by omega,by omega,fun _=>h3⟩) (by decide)
 |true=>
  rw[zq1 rfl];obtain⟨d,h0,hd,-,-,-,-,hr⟩:=hb.1 rfl;have hr:=hr rfl;have hdm:=List.mem_of_getElem? hd;have hds:=zM hdm;have hdl:=vN d;have hrl:=(List.getElem?_eq_some_iff.1 hd).1;obtain⟨k,hk⟩:∃k:Nat,r=k:=⟨r.toNat,by omega⟩;subst hk;have hd:m.L[k]?=some d:=hd;by_cases cs:t.S=[]
  ·rw[zq1 cs];by_cases cn:t.N<0
   ·have:z3f m t.N=some ((zA.mk 0 0 [] [] 0 0),false):=by unfold z3f;rw[zq1 cn]
    rw[this,zB,zq0 (by decide)];exact⟨_,rfl,.inl (by omega),fun _ h=>by omega⟩
   ·obtain⟨q,eq,hq,hq'⟩:=y7t m t.N hm (by omega) h1.2;rw[eq,zB];have fin:(∃x,y9G m k t.N x)→q.2=true∧t.N / 64=k:=fun⟨x,d',f,k',i,h1,h2,h3,h4,h5,h6,h7⟩=>by
     rw[hq' d' f x k' i h2 h3.1 h4 (h3.2.2 f (List.mem_of_getElem? h4)).1 h5 h6 h7];exact⟨rfl,by omega⟩
    have e1:Int.tdiv t.N 64=t.N / 64:=Int.tdiv_eq_ediv_of_nonneg (by omega);by_cases c2:q.2=true
    ·rw[zq1 c2,zq1 (by decide),e1,z1H (n:=t.N / 64) (by omega) (by omega)];by_cases c3:t.N / 64=(k:Int)
     ·rw[zq1 c3];refine⟨_,rfl,.inr ?_,fun _ _ _=>rfl⟩;obtain⟨d',f,k',i,h1,h2,h3,h4,h5,h6,h7,h8⟩:=hq c2;have:k'=k:=by omega
      subst this;rw[hd]at h1;cases h1;exact⟨q.1,d,f,k',i,rfl,hd,hr,h3,h5,h6,h7⟩
     ·rw[zq0 c3];exact⟨_,rfl,.inl (by omega),fun _ _ h=>absurd (fin h).2 c3⟩
    ·rw[zq0 c2];exact⟨_,rfl,.inl (by omega),fun _ _ h=>absurd (fin h).1 c2⟩
  ·rw[zq0 cs,z5R,hd,zB];have loop:∀(j i:Nat),i+j=d.L.length→∃q,yQ k i t d=some q∧(q<0∨∃x,y9G m k q x):=by
    intro j;induction j with
    |zero=>
     intro i hi;rw[z6K];unfold gJ;rw[zq0 (by omega)];exact⟨_,rfl,.inl (by omega)⟩
    |succ j ih=>
     intro i hi;have hlt:i<d.L.length:=by omega
     rw[z6K];unfold gJ;rw[zq1 (by omega)];by_cases c:(i:Int)<64
     ·rw[zq1 c,wG hlt,zB,z1C (by omega)];by_cases c2:d.L[i].S=t.S
      ·rw[zq1 c2,z1H (n:=(k:Int)*64) (by omega) (by omega),z1H (by omega) (by omega)];obtain⟨-,x,hx⟩:=hr.2.2 _ (List.getElem_mem hlt);exact⟨_,rfl,.inr ⟨x,d,d.L[i],k,i,rfl,hd,hr,List.getElem?_eq_getElem hlt,hx,by omega,rfl⟩⟩
      ·rw[zq0 c2];exact ih (i+1) (by omega)
     ·rw[zq0 c];exact⟨_,rfl,.inl (by omega)⟩
   obtain⟨q,e,hq⟩:=loop d.L.length 0 (by omega);exact⟨q,e,hq,fun h=>absurd h cs⟩
inductive y1c(m:zA)(Γ:List zA)(t:zA):zA→Prop
 |num:t.K=5→y1c m Γ t y9d
 |tru:t.K=6→(t.N=0∨t.N=1)→y1c m Γ t y3B
 |loc (k:Nat) (x:zA):t.K=7→t.N=k→k<Γ.length→Γ[Γ.length-1-k]?=some x→y1c m Γ t (uO x)
 |coni (d x:zA):t.K=8→HasR m t.N 31 d→d.L=[x]→x.K=5→y1c m Γ t y9d
 |conb (d x:zA):t.K=8→HasR m t.N 31 d→d.L=[x]→x.K=6→y1c m Γ t y3B
 |glob (d x:zA):t.K=9→HasR m t.N 32 d→d.L=[x]→y1c m Γ t (uO x)
 |read:t.K=18→y1c m Γ t y9d
theorem v8x(m:zA)(Γ:List zA)(t:zA)(B:Nat)(hB:B≤1000000000)(hm:zI m≤B)(hΓ:∀x∈Γ,zI x≤B)(hl:Γ.length≤1000000000)(hs:y4z t)(hn:v6D m Γ t)(h0:t.L=[])(hk:t.K≠16):
  ∃τ,z6I m Γ t=some τ∧y1c m Γ t τ∧zI τ≤B+1:=by
 have i1:zI y9d=1:=rfl;have i2:zI ⟨1,0,[],[],0,0⟩=1:=rfl;have b1:zI y3B=1:=rfl;unfold z6I z6k;by_cases k:t.K=7
 ·rw[zq1 k];obtain⟨n0,n1⟩:=hn.1 k;obtain⟨n,en⟩:∃n:Nat,t.N=n:=⟨t.N.toNat,by omega⟩;have e:IntKind.wrap .i64 (IntKind.wrap .i64 ((Γ.length:Int)-1)-t.N)=((Γ.length-1-n:Nat):Int):=by
   rw[z1H (n:=(Γ.length:Int)-1) (by omega) (by omega),z1H (by omega) (by omega)];omega
  have hlt:Γ.length-1-n<Γ.length:=by omega
  have hx:=hΓ _ (List.getElem_mem hlt);rw[e,wG hlt,zB,y2j _ (by omega),zB];exact⟨_,rfl,.loc n _ k en (by omega) (List.getElem?_eq_getElem hlt),by rw[z9X];omega⟩
 rw[zq0 k];by_cases k:t.K=8
 ·rw[zq1 k];obtain⟨d,hd⟩:=hn.2.1 k;obtain⟨x,hx,h56⟩:=hd.2.2.2.1 rfl;have hlt:=(List.getElem?_eq_some_iff.1 hd.2.1).1;obtain⟨y,ey,hy⟩:=y5H (l:=m.L) hd.1 (by have:=hd.1;omega);rw[hd.2.1]at hy;cases hy;rw[ey,zB,hx,show idx [x] 0=some x from rfl,zB,v4K,zB];rcases h56 with h|h
  ·rw[zq1 h];exact⟨_,rfl,.coni d x k hd hx h,by omega⟩
  ·rw[zq0 (by omega),zq1 h];exact⟨_,rfl,.conb d x k hd hx h,by omega⟩
 rw[zq0 k];by_cases k:t.K=9
 ·rw[zq1 k];obtain⟨d,hd⟩:=hn.2.2.1 k;obtain⟨x,hx⟩:=hd.2.2.2.2.1 rfl;have hlt:=(List.getElem?_eq_some_iff.1 hd.2.1).1;obtain⟨y,ey,hy⟩:=y5H (l:=m.L) hd.1 (by have:=hd.1;omega);rw[hd.2.1]at hy;cases hy;have s1:=zM (List.mem_of_getElem? hd.2.1);have s2:=zM (x:=x) (t:=d) (by rw[hx];exact List.mem_singleton_self x);rw[ey,zB,hx,show idx [x] 0=some x from rfl,zB,y2j _ (by omega),zB];exact⟨_,rfl,.glob d x k hd hx,by rw[z9X];omega⟩
 rw[zq0 k];by_cases k:t.K=18
 ·rw[zq1 k];exact⟨_,rfl,.read k,by omega⟩
 rw[zq0 k,v4K,zB];unfold y4z at hs;have h17:=hn.2.2.2.2.2;by_cases k5:t.K=5
 ·rw[zq1 k5];exact⟨_,rfl,.num k5,by omega⟩
 rw[zq0 k5];by_cases k6:t.K=6
 ·rw[zq1 k6];refine⟨_,rfl,.tru k6 ?_,by omega⟩;rcases hs with h|h|h|h|h|h|h|h|h<;>first|omega|skip
  all_goals exact h.2.2
 exfalso;rw[h0]at hs;rcases hs with h|h|⟨_,⟨a,h⟩,_⟩|⟨_,⟨a,b,h⟩,_⟩|⟨_,a,h⟩|⟨_,a,b,h⟩|⟨_,h⟩|h|h
 ·omega
 ·omega
 ·cases h
 ·cases h
 ·cases h
 ·cases h
 ·exact h rfl
 ·omega
 ·omega
inductive z8K(m t:zA)(p:List zA):zA→Int→Prop
 |bin (a b τ:zA):t.K=10→p=[a,b]→v4q t.N a b τ→z8K m t p τ t.N
 |un (a:zA):t.K=11→p=[a]→(t.N=1∧a.K=1∧a.L=[]∨t.N=2∧a.K=2∧a.L=[])→z8K m t p a t.N
 |index (a b x:zA):t.K=12→p=[a,b]→a.K=3→a.L=[x]→b.K=1→b.L=[]→z8K m t p x t.N
 |field (a x:zA) (n:Int):t.K=13→p=[a]→a.K=4→a.L=[]→y9G m a.N n x→z8K m t p (uO x) n
 |make (d:zA):t.K=15→HasR m t.N 30 d→w0Z p d.L→z8K m t p ⟨4,t.N,[],[],0,0⟩ t.N
 |call (d ps r b:zA):t.K=16→HasR m t.N 33 d→d.L=[ps,r,b]→w0Z p ps.L→z8K m t p (uO r) t.N
 |list (a:zA) (r:List zA):t.K=14→p=a::r→(∀x∈p,uO x=uO a)→Good m ⟨3,(p.length:Int),[],[a],0,0⟩→z8K m t p ⟨3,(p.length:Int),[],[a],0,0⟩ t.N
theorem z7b{t a b:zA}(h:t.L=[a,b]):zI t=1+zI a+zI b:=by rw[jH,h];simp only[wE];omega
theorem z1A{t a:zA}(h:t.L=[a]):zI t=1+zI a:=by rw[jH,h];simp only[wE];omega
theorem z7K{t a b c:zA}(h:t.L=[a,b,c]):zI t=1+zI a+zI b+zI c:=by rw[jH,h];simp only[wE];omega
theorem w0j (m t:zA) (p:List zA) (B:Nat) (hm:zI m≤B) (hB:B+zI t≤1000000000) (hi:InK .i64 t.N) (hs:y4z t) (hk15:t.K=15→∃d,HasR m t.N 30 d) (hk16:t.K=16→∃d,HasR m t.N 33 d)
  (hl:p.length=t.L.length) (hp:∀(i:Nat) x y,t.L[i]?=some x→p[i]?=some y→zI y≤B+zI x):
  ∃r,z9w m t p=some r∧(r.2.2=0→z8K m t p r.1 r.2.1∧zI r.1≤B+zI t):=by
 have hml:=vN m;have htl:=vN t;have i1:zI y9d=1:=rfl;have b1:zI y3B=1:=rfl;have pos:=z1B t;have hpe:∀y∈p,zI y+1≤B+zI t:=fun y hy=>by
  obtain⟨i,hi⟩:=List.getElem?_of_mem hy;have hlt:=(List.getElem?_eq_some_iff.1 hi).1;have g:=List.getElem?_eq_getElem (l:=t.L) (i:=i) (by omega);have:=hp i _ y g hi;have:=zM (List.mem_of_getElem? g);omega
 have at_:∀{d:zA} {kind:Int},HasR m t.N kind d→idx m.L t.N=some d∧zI d≤B:=fun {d kind} h=>by
  have hlt:=(List.getElem?_eq_some_iff.1 h.2.1).1;obtain⟨y,ey,hy⟩:=y5H (l:=m.L) h.1 (by have:=h.1;omega);rw[h.2.1]at hy;cases hy;exact⟨ey,by have:=zM (List.mem_of_getElem? h.2.1);omega⟩
 have bad:∀(e:Int),e≠0→∃r:zA×Int×Int,some ((zA.mk 0 0 [] [] 0 0),(0:Int),e)=some r∧(r.2.2=0→z8K m t p r.1 r.2.1∧zI r.1≤B+zI t):=fun e he=>⟨_,rfl,fun h=>absurd h he⟩;have J17:∀o,∃r,z2p p m t o=some r∧(r.2.2=0→z8K m t p r.1 r.2.1∧zI r.1≤B+zI t):=by
  intro o;unfold z2p z5n;by_cases k:t.K=14
  ·rw[zq1 k];have hne:t.L≠[]:=by
    rcases hs with h|h|h|h|h|h|h|h|h<;>first|omega|skip
    exact h.2
   obtain⟨a,r,hpr⟩:∃a r,p=a::r:=by
    cases p with
    |nil=>exact absurd (List.length_eq_zero_iff.1 hl.symm) hne
    |cons a r=>exact⟨a,r,rfl⟩
   have ha:a∈p:=by rw[hpr];exact List.mem_cons_self ..
   have hal:=hpe a ha;have i0:idx p 0=some a:=by rw[hpr];rfl
   have loop:∀(k i:Nat),i+k=p.length→(∀x∈p.take i,uO x=uO a)→∃r,vH p i m t o=some r∧(r.2.2=0→z8K m t p r.1 r.2.1∧zI r.1≤B+zI t):=by
    intro k';induction k' with
    |zero=>
     intro i hi' ht;rw[z8f];unfold z0l;rw[zq0 (by omega),i0,zB];have hsz:zI ⟨3,(p.length:Int),[],[a],0,0⟩=1+zI a:=z1A rfl;obtain⟨n,en,n0,hn'⟩:=z5l (m:=m) (t:=⟨3,(p.length:Int),[],[a],0,0⟩) (by omega) (by omega);rw[en,zB];by_cases c:n=0
     ·rw[zq1 c];exact bad 11 (by decide)
     ·rw[zq0 c];rw[List.take_of_length_le (by omega)]at ht;exact⟨_,rfl,fun _=>⟨.list a r k hpr ht (hn'.1 c),by simp only;omega⟩⟩
    |succ k' ih=>
     intro i hi' ht;have hlt:i<p.length:=by omega
     rw[z8f];unfold z0l;obtain⟨c,ec,hc⟩:=y6h p[i] a (by have:=hpe _ (List.getElem_mem hlt);omega);rw[zq1 (by omega),wG hlt,zB,i0,zB,ec,zB,z1C (by omega)];cases c with
     |true=>
      rw[zq1 rfl];refine ih (i+1) (by omega) fun x hx=>?_;rw[List.take_succ_eq_append_getElem hlt,List.mem_append]at hx;rcases hx with hx|hx
      ·exact ht x hx
      ·rw[List.mem_singleton.1 hx];exact hc.1 rfl
     |false=>rw[zq0 (by decide)];exact bad 10 (by decide)
   exact loop p.length 0 (by omega) (by simp)
  ·rw[zq0 k];exact bad 10 (by decide)
 have J15:∀o,∃r,z2o p m t o=some r∧(r.2.2=0→z8K m t p r.1 r.2.1∧zI r.1≤B+zI t):=by
  intro o;unfold z2o;by_cases k:t.K=16
  ·rw[zq1 k];obtain⟨d,hd⟩:=hk16 k;obtain⟨ps,r,b,hL⟩:=hd.2.2.2.2.2.1 rfl;obtain⟨ei,hds⟩:=at_ hd;have h3:=z7K hL;have hpl:=vN ps;obtain⟨c,ec,hc⟩:=v4y p ps.L (fun x hx=>by have:=hpe x hx;omega) (fun x hx=>by have:=zM hx;omega) (by omega);rw[ei,zB,hL,show idx [ps,r,b] 0=some ps from rfl,zB,ec,zB];cases c with
   |true=>
    rw[zq1 rfl,zB,hL,show idx [ps,r,b] 1=some r from rfl,zB,y2j r (by omega),zB];exact⟨_,rfl,fun _=>⟨.call d ps r b k hd hL (hc.1 rfl),by simp only;rw[z9X];omega⟩⟩
   |false=>rw[zq0 (by decide)];exact J17 _
  ·rw[zq0 k];exact J17 _
 have J13:∀o,∃r,z1o p m t o=some r∧(r.2.2=0→z8K m t p r.1 r.2.1∧zI r.1≤B+zI t):=by
  intro o;unfold z1o;by_cases k:t.K=15
  ·rw[zq1 k];obtain⟨d,hd⟩:=hk15 k;obtain⟨ei,hds⟩:=at_ hd;have hdl:=vN d;obtain⟨c,ec,hc⟩:=v4y p d.L (fun x hx=>by have:=hpe x hx;omega) (fun x hx=>by have:=zM hx;omega) (by omega);rw[ei,zB,ec,zB];cases c with
   |true=>
    rw[zq1 rfl];exact⟨_,rfl,fun _=>⟨.make d k hd (hc.1 rfl),by simp only;rw[jH];simp only[wE];omega⟩⟩
   |false=>rw[zq0 (by decide)];exact J15 _
  ·rw[zq0 k];exact J15 _
 have one:∀a,t.L=[a]→∃x,p=[x]:=fun a h=>by
  rw[h]at hl;exact v1E (by rw[hl];rfl)
 have two:∀a b,t.L=[a,b]→∃x y,p=[x,y]:=fun a b h=>by
  rw[h]at hl;exact v9G (by rw[hl];rfl)
 have J7:∀o,∃r,z1i p m t o=some r∧(r.2.2=0→z8K m t p r.1 r.2.1∧zI r.1≤B+zI t):=by
  intro o;unfold z1i;by_cases k:t.K=13
  ·rw[zq1 k];obtain⟨a0,ha0⟩:∃a,t.L=[a]:=by
    rcases hs with h|h|h|h|h|h|h|h|h<;>first|omega|skip
    exact h.2
   obtain⟨a,ha⟩:=one a0 ha0;rw[ha,show idx [a] 0=some a from rfl,zB,←ha];by_cases c:a.K=4
   ·rw[zq1 c,zB];by_cases c2:(List.length a.L:Int)=0
    ·have c2':a.L=[]:=List.length_eq_zero_iff.1 (by omega);rw[zq1 c2,zB];obtain⟨q,eq,hq,-⟩:=v6c m t a.N (by omega) hi;rw[eq,zB];by_cases c3:q<0
     ·rw[zq1 c3];exact bad 8 (by decide)
     ·rw[zq0 c3];obtain⟨x,hx⟩:=hq.resolve_left c3;obtain⟨d,f,k',i,h1,h2,h3,h4,h5,h6,h7⟩:=hx;have hlt:=(List.getElem?_eq_some_iff.1 h2).1;obtain⟨q2,e2,-,h2'⟩:=y7t m q (by omega) (by omega) (by omega);have:=h2' d f x k' i h2 h3.1 h4 (h3.2.2 f (List.mem_of_getElem? h4)).1 h5 h6 h7;subst this;have s1:=zM (List.mem_of_getElem? h2);have s2:=zM (List.mem_of_getElem? h4);have s3:=z1A h5;rw[e2,zB,y2j x (by omega),zB]
      exact⟨_,rfl,fun _=>⟨.field a x q k ha c c2' ⟨d,f,k',i,h1,h2,h3,h4,h5,h6,h7⟩,by simp only;rw[z9X];omega⟩⟩
    ·rw[zq0 c2];exact J13 _
   ·rw[zq0 c];exact J13 _
  ·rw[zq0 k];exact J13 _
 have J5:∀o,∃r,z1h p m t o=some r∧(r.2.2=0→z8K m t p r.1 r.2.1∧zI r.1≤B+zI t):=by
  intro o;unfold z1h;by_cases k:t.K=12
  ·rw[zq1 k];obtain⟨a0,b0,ha0⟩:∃a b,t.L=[a,b]:=by
    rcases hs with h|h|h|h|h|h|h|h|h<;>first|omega|skip
    exact h.2
   obtain⟨a,b,ha⟩:=two a0 b0 ha0;have hsz:=hpe a (by rw[ha];exact List.mem_cons_self ..);rw[ha,show idx [a,b] 0=some a from rfl,zB,←ha];by_cases c:a.K=3
   ·rw[zq1 c,zB];by_cases c2:(List.length a.L:Int)=1
    ·obtain⟨x,hx⟩:=v1E c2;have s1:=z1A hx;obtain⟨b',eb,hb⟩:=z7A b 1;rw[zq1 c2,ha,show idx [a,b] 1=some b from rfl,zB,eb,zB,←ha];cases b' with
     |true=>
      rw[zq1 rfl,zB,hx,show idx [x] 0=some x from rfl,zB];exact⟨_,rfl,fun _=>⟨.index a b x k ha c hx (hb.1 rfl).1 (hb.1 rfl).2,by simp only;omega⟩⟩
     |false=>rw[zq0 (by decide)];exact J7 _
    ·rw[zq0 c2];exact J7 _
   ·rw[zq0 c];exact J7 _
  ·rw[zq0 k];exact J7 _
 have J3:∀o,∃r,z3g p m t o=some r∧(r.2.2=0→z8K m t p r.1 r.2.1∧zI r.1≤B+zI t):=by
  intro o;unfold z3g;by_cases k:t.K=11
  ·rw[zq1 k];obtain⟨⟨a0,ha0⟩,hN⟩:(∃a,t.L=[a])∧(t.N=1∨t.N=2):=by
    rcases hs with h|h|h|h|h|h|h|h|h<;>first|omega|skip
    exact h.2
   obtain⟨a,ha⟩:=one a0 ha0;have hsz:=hpe a (by rw[ha];exact List.mem_cons_self ..);rw[ha,show idx [a] 0=some a from rfl,zB,zB,←ha];by_cases c:t.N=1
   ·rw[zq1 c];obtain⟨b',eb,hb⟩:=z7A a 1;rw[eb,zB];cases b' with
    |true=>rw[zq1 rfl];exact⟨_,rfl,fun _=>⟨.un a k ha (.inl ⟨c,hb.1 rfl⟩),by simp only;omega⟩⟩
    |false=>rw[zq0 (by decide)];exact J5 _
   ·rw[zq0 c,zq1 (by omega)];obtain⟨b',eb,hb⟩:=z7A a 2;rw[zB,eb,zB];cases b' with
    |true=>rw[zq1 rfl];exact⟨_,rfl,fun _=>⟨.un a k ha (.inr ⟨by omega,hb.1 rfl⟩),by simp only;omega⟩⟩
    |false=>rw[zq0 (by decide)];exact J5 _
  ·rw[zq0 k];exact J5 _
 unfold z9w;by_cases k:t.K=10
 ·rw[zq1 k];obtain⟨a0,b0,ha0⟩:∃a b,t.L=[a,b]:=by
   rcases hs with h|h|h|h|h|h|h|h|h<;>first|omega|skip
   exact h.2.1
  obtain⟨a,b,ha⟩:=two a0 b0 ha0;obtain⟨τ,eτ,hτ⟩:=w0O t.N a b;rw[ha,show idx [a,b] 0=some a from rfl,show idx [a,b] 1=some b from rfl,zB,zB,eτ,zB,zB,zB,eτ,zB,←ha];by_cases c:τ.K=0
  ·rw[zq1 c];exact J3 _
  ·rw[zq0 c];refine⟨_,rfl,fun _=>⟨.bin a b τ k ha (hτ.resolve_left c),?_⟩⟩;have:zI τ=1:=by
    cases hτ.resolve_left c<;>rfl
   simp only;omega
 ·rw[zq0 k];exact J3 _
inductive TE(m:zA)(Γ:List zA):zA→zA→Prop
 |alone (t τ:zA):t.S=[]→t.From=0→t.To=0→t.L=[]→t.K≠16→y1c m Γ t τ→TE m Γ t τ
 |rule (t τ:zA) (p:List zA):t.S=[]→t.From=0→t.To=0→(t.L≠[]∨t.K=16)→p.length=t.L.length→(∀(i:Nat) x y,t.L[i]?=some x→p[i]?=some y→TE m Γ x y)→z8K m t p τ t.N→TE m Γ t τ
theorem w0g(m:zA)(Γ:List zA)(B:Nat)(hm:zI m≤B)(hΓ:∀x∈Γ,zI x≤B)(hΓl:Γ.length≤1000000000)(t:zA):zA.Wf t→B+zI t≤1000000000 →
  ∃g,uD m Γ t=some g∧(g.E=0→zI g.Type_≤B+zI t∧(g.Form=t→TE m Γ t g.Type_)):=by
 induction t using zA.ind with
 |h t ih=>
  intro hw hB;have htl:=vN t;have pos:=z1B t;obtain⟨b,eb,hb⟩:=v4j t;obtain⟨b',eb',hb'⟩:=v6r m Γ t (by omega);rw[v6t];unfold z6M z7E;rw[eb,zB];cases b with
  |false=>rw[zq0 (by decide)];exact⟨_,rfl,fun h=>absurd h (show ¬(12:Int)=0 by decide)⟩
  |true=>
   rw[zq1 rfl,eb',zB];cases b' with
   |false=>rw[zq0 (by decide)];exact⟨_,rfl,fun h=>absurd h (show ¬(8:Int)=0 by decide)⟩
   |true=>
    rw[zq1 rfl];have hs:=hb rfl;have hn:=hb'.1 rfl;have loop:∀(k i:Nat) (types forms:List zA) o,i+k=t.L.length→types.length=i→forms.length=i→(t.L≠[]∨t.K=16) →
      (∀(j:Nat) x y z,t.L[j]?=some x→types[j]?=some y→forms[j]?=some z→zI y≤B+zI x∧(z=x→TE m Γ x y)) →
      ∃g,wA Γ types forms i m t o=some g∧(g.E=0→zI g.Type_≤B+zI t∧(g.Form=t→TE m Γ t g.Type_)):=by
     intro k;induction k with
     |zero=>
      intro i types forms o hi ht hf hne hall;rw[y0l];unfold z1n z7E;rw[zq0 (by omega)];have hsz:∀(j:Nat) x y,t.L[j]?=some x→types[j]?=some y→zI y≤B+zI x:=fun j x y hx hy=>
       (hall j x y _ hx hy (List.getElem?_eq_getElem (by have:=(List.getElem?_eq_some_iff.1 hx).1;omega))).1
      obtain⟨r,er,hr⟩:=w0j m t types B hm hB hw.N_ hs hn.2.2.2.1 hn.2.2.2.2.1 (by omega) hsz;rw[er,zB];by_cases c:r.2.2=0
      ·rw[zq1 c];obtain⟨h1,h2⟩:=hr c;refine⟨_,rfl,fun _=>⟨h2,fun hF=>?_⟩⟩;have e1:=congrArg zA.N hF;have e2:=congrArg zA.S hF;have e3:=congrArg zA.L hF;have e4:=congrArg zA.From hF;have e5:=congrArg zA.To hF;simp only at e1 e2 e3 e4 e5;refine .rule t _ types e2.symm e4.symm e5.symm hne (by omega) (fun j x y hx hy=>?_) (e1▸h1);exact(hall j x y x hx hy (by rw[e3];exact hx)).2 rfl
      ·rw[zq0 c];exact⟨_,rfl,fun h=>absurd h c⟩
     |succ k ihk=>
      intro i types forms o hi ht hf hne hall;have hlt:i<t.L.length:=by omega
      have hm':=List.getElem_mem hlt;have hsz:=zM hm';obtain⟨g,eg,hg⟩:=ih _ hm' (hw.L_.2 _ hm') (by omega);rw[y0l];unfold z1n;rw[zq1 (by omega),wG hlt,zB,eg,zB];by_cases c:g.E=0
      ·rw[zq1 c,zq1 (jG (by omega) (by simp;omega)),zq1 (jG (by omega) (by simp;omega)),z1C (by omega)];refine ihk (i+1) _ _ o (by omega) (by simp[ht]) (by simp[hf]) hne fun j x y z hx hy hz=>?_;by_cases hj:j<i
       ·rw[List.getElem?_append_left (by omega)]at hy hz;exact hall j x y z hx hy hz
       ·have hj':j=i:=by have:=(List.getElem?_eq_some_iff.1 hy).1;simp at this;omega
        subst hj';rw[List.getElem?_append_right (by omega)]at hy hz;rw[ht,Nat.sub_self]at hy;rw[hf,Nat.sub_self]at hz;rw[List.getElem?_eq_getElem hlt]at hx;cases hx;cases hy;cases hz;exact hg c
      ·rw[zq0 c];exact⟨_,rfl,fun h=>absurd h c⟩
    have start:=fun o h=>loop t.L.length 0 [] [] o (by omega) rfl rfl h (fun j x y z _ hy _=>by simp at hy);by_cases c:(List.length t.L:Int)=0
    ·rw[zq1 c];have c':t.L=[]:=List.length_eq_zero_iff.1 (by omega);by_cases k:t.K=16
     ·rw[zq1 k];exact start _ (.inr k)
     ·rw[zq0 k];obtain⟨τ,eτ,hτ,hτs⟩:=v8x m Γ t B (by omega) hm hΓ hΓl hs hn c' k;rw[eτ,zB];refine⟨_,rfl,fun _=>⟨by simp only;omega,fun hF=>?_⟩⟩;have e2:=congrArg zA.S hF;have e4:=congrArg zA.From hF;have e5:=congrArg zA.To hF;exact .alone t _ e2.symm e4.symm e5.symm c' k hτ
    ·rw[zq0 c];exact start _ (.inl fun e=>c (by rw[e];rfl))
theorem TE.bare{m t τ:zA}{Γ:List zA}(h:TE m Γ t τ):uO t=t∧y3Y t=t:=by
 induction h with
 |alone t τ hS hF hT hL _ _=>
  rw[z2i,y2C,hL];exact⟨y1V rfl rfl rfl hL.symm hF.symm hT.symm,y1V rfl rfl hS.symm hL.symm hF.symm hT.symm⟩
 |rule t τ p hS hF hT _ hl _ _ ih=>
  have e:∀x∈t.L,uO x=x∧y3Y x=x:=fun x hx=>by
   obtain⟨i,hi⟩:=List.getElem?_of_mem hx;have hlt:=(List.getElem?_eq_some_iff.1 hi).1;exact ih i x _ hi (List.getElem?_eq_getElem (by omega))
  rw[z2i,y2C];exact⟨y1V rfl rfl rfl ((List.map_congr_left fun x hx=>(e x hx).1).trans (List.map_id' _)) hF.symm hT.symm,y1V rfl rfl hS.symm ((List.map_congr_left fun x hx=>(e x hx).2).trans (List.map_id' _)) hF.symm hT.symm⟩
def w1e(l:List zA)(k:Nat):Bool:=(l.take k++l.drop (k+1)).all fun x=>(nds x).all q1
theorem v8B{l:List zA}{k:Nat}(h:w1e l k=true):∀(j:Nat) x,j≠k→l[j]?=some x→(nds x).all q1=true:=by
 intro j x hj hx;unfold w1e at h;rw[List.all_eq_true]at h;have hlt:=(List.getElem?_eq_some_iff.1 hx).1;refine h x (List.mem_append.2 ?_);by_cases c:j<k
 ·left;exact List.mem_of_getElem? (i:=j) (by rw[List.getElem?_take_of_lt c];exact hx)
 ·right;exact List.mem_of_getElem? (i:=j-(k+1)) (by rw[List.getElem?_drop,show k+1+(j-(k+1))=j by omega];exact hx)
theorem w0d(s:List zA)(hs:∀x∈s,zI x≤1000)(hl:s.length≤1000000):wX s=some (!s.all fun x=>(nds x).all q1):=by
 have loop:∀(k i:Nat),i+k=s.length→∃r,slices_IndexFunc_G236pick_1L2 s (s.length:Int) (i:Int)=some r∧decide (r≥0)=!((s.drop i).all fun x=>(nds x).all q1):=by
  intro k;induction k with
  |zero=>
   intro i hi;rw[z0P];unfold yY;rw[zq0 (by omega),List.drop_eq_nil_of_le (by omega)];exact⟨_,rfl,rfl⟩
  |succ k ih=>
   intro i hi;have hlt:i<s.length:=by omega
   obtain⟨-,-,-,hq⟩:=v9j (hs _ (List.getElem_mem hlt));rw[z0P];unfold yY z7z;rw[zq1 (by omega),wG hlt,zB,hq,zB,zB,List.drop_eq_getElem_cons hlt,List.all_cons,z1H (by omega) (by omega),z6Y];cases (nds s[i]).all q1 with
   |true=>exact(ih (i+1) (by omega)).imp fun r h=>by simpa using h
   |false=>exact⟨_,rfl,by simp⟩
 unfold wX jL;obtain⟨r,e,h⟩:=loop s.length 0 (by omega);rw[show((0:Nat):Int)=0 from rfl]at e;rw[e,zB,h,List.drop_zero]
def y9r(l:List zA)(i:Int):zA×Bool:=if 0≤i∧i<l.length then(l.getD i.toNat zT,w1e l i.toNat)else(zT,false)
theorem v7G(l:List zA)(i:Int)(hs:∀x∈l,zI x≤1000)(hl:l.length≤100000):z6C l i=some (y9r l i):=by
 unfold z6C y9r;by_cases c1:i<0
 ·rw[zq1 c1,zq0 (by omega)]
 rw[zq0 c1];by_cases c2:i≥(l.length:Int)
 ·rw[zq1 c2,zq0 (by omega)]
 rw[zq0 c2,zq1 (by omega),zq1 (by omega),zq1 (by omega),zq1 (by omega),z1H (by omega) (by omega),zq1 (by omega),zq1 (by omega),zq1 (by omega),List.take_length,List.drop_zero,show(i+1).toNat=i.toNat+1 by omega];have hf:([l.take i.toNat,l.drop (i.toNat+1)]:List (List zA)).flatten=l.take i.toNat++l.drop (i.toNat+1):=by simp
 have hm:∀x∈l.take i.toNat++l.drop (i.toNat+1),x∈l:=fun x hx=>by
  rcases List.mem_append.1 hx with h|h
  ·exact List.mem_of_mem_take h
  ·exact List.mem_of_mem_drop h
 have hlen:(l.take i.toNat++l.drop (i.toNat+1)).length≤l.length:=by
  rw[List.length_append,List.length_take,List.length_drop];omega
 unfold z1E;rw[hf,zq1 (by simp),zq1 (by omega),zB,w0d _ (fun x hx=>hs x (hm x hx)) (by omega),zB];have hi:i.toNat<l.length:=by omega
 have e:idx l i=some l[i.toNat]:=by
  have:=wG hi
  rwa [show((i.toNat:Nat):Int)=i by omega]at this
 rw[e,zB,Bool.not_not,List.getD_eq_getElem?_getD,List.getElem?_eq_getElem hi];rfl
theorem v9W{α β:Type}(x:Option (α×β)):(x>>=fun q=>some (q.1,q.2))=x:=by cases x<;>rfl
def v4k(m:zA)(rule:Int)(l:zA):zA×Bool:=
 if rule=30 then v3R l else if l.S=[]then
  if rule=31 then(if l.K=8∧l.L.length=0∧0≤l.N∧l.N<m.L.length then(match m.L[l.N.toNat]? with|some d=>(match d.L with|[x]=>if d.K=31 then(x,y2x x 5 || y2x x 6)else(zT,false)|_=>(zT,false))|none=>(zT,false))else(zT,false))
  else if rule=32 then(match l.L with|[x]=>if l.K=13∧x.K=15∧x.S=[]∧0≤l.N∧Int.tdiv l.N 64=x.N then y9r x.L (Int.tmod l.N 64)else(zT,false)|_=>(zT,false))
  else if rule=33 then(match l.L with|[x,j]=>if l.K=12∧x.K=14∧x.S=[]∧y2x j 5=true then y9r x.L j.N else(zT,false)|_=>(zT,false))
  else(zT,false)
 else(zT,false)
theorem w0o(m:zA)(rule:Int)(l:zA)(hl:zI l≤400)(hw:zA.Wf l):z9j m rule l=some (v4k m rule l):=by
 have hN:=i64_iff.1 hw.N_;unfold z9j v4k;simp only[v9W];by_cases r30:rule=30
 ·rw[zq1 r30,zq1 r30,y3b]
 rw[zq0 r30,zq0 r30];by_cases hS:l.S=[]
 case neg=>rw[zq0 hS,zq0 hS]
 rw[zq1 hS,zq1 hS];by_cases r31:rule=31
 ·rw[zq1 r31,zq1 r31];by_cases c1:l.K=8
  case neg=>rw[zq0 c1,zq0 (fun h=>c1 h.1)]
  rw[zq1 c1];by_cases c2:l.L.length=0
  case neg=>rw[zq0 (by omega),zq0 (fun h=>c2 h.2.1)]
  rw[zq1 (by omega)];by_cases c3:0≤l.N
  case neg=>rw[zq0 c3,zq0 (fun h=>c3 h.2.2.1)]
  rw[zq1 c3];by_cases c4:l.N<m.L.length
  case neg=>rw[zq0 c4,zq0 (fun h=>c4 h.2.2.2)]
  have hi:l.N.toNat<m.L.length:=by omega
  have e:idx m.L l.N=some m.L[l.N.toNat]:=by
   have:=wG hi
   rwa [show((l.N.toNat:Nat):Int)=l.N by omega]at this
  rw[zq1 c4,zq1 ⟨c1,c2,c3,c4⟩,e,List.getElem?_eq_getElem hi,zB];generalize m.L[l.N.toNat]=d;simp only;rcases hd:d.L with _|⟨x,_|⟨y,r⟩⟩
  ·simp
  ·simp only[show idx [x] 0=some x from rfl,zB,y5F];rw[zq1 (show((List.length [x]:Nat):Int)=1 by simp)];by_cases k:d.K=31
   ·rw[zq1 k,zq1 k];cases y2x x 5<;>simp
   ·rw[zq0 k,zq0 k]
  ·rw[zq0 (show ¬((List.length (x::y::r):Nat):Int)=1 by simp;omega)];simp
 rw[zq0 r31,zq0 r31];by_cases r32:rule=32
 ·rw[zq1 r32,zq1 r32];rcases hL:l.L with _|⟨x,_|⟨y,r⟩⟩
  ·simp
  ·have h1:=z1A hL;have h2:=jH x;have hps:∀z∈x.L,zI z≤1000:=fun z hz=>by have:=zM hz;omega
   have hpl:=z7c x.L;simp only[show idx [x] 0=some x from rfl,zB];rw[v7G _ _ hps (by omega)];rw[zq1 (show((List.length [x]:Nat):Int)=1 by simp)];by_cases c1:l.K=13
   case neg=>rw[zq0 c1,zq0 (fun h=>c1 h.1)]
   by_cases c2:x.K=15
   case neg=>rw[zq1 c1,zq0 c2,zq0 (fun h=>c2 h.2.1)]
   by_cases c3:x.S=[]
   case neg=>rw[zq1 c1,zq1 c2,zq0 c3,zq0 (fun h=>c3 h.2.2.1)]
   by_cases c4:l.N<0
   ·rw[zq1 c1,zq1 c2,zq1 c3,zq1 c4,zq0 (fun h=>by omega)]
   have hd:=Int.tdiv_eq_ediv_of_nonneg (b:=64) (show 0≤l.N by omega);rw[z1H (n:=Int.tdiv l.N 64) (by omega) (by omega)];by_cases c5:Int.tdiv l.N 64=x.N
   ·rw[zq1 c1,zq1 c2,zq1 c3,zq0 c4,zq1 (by decide),zq1 c5,zq1 (by decide),zq1 ⟨c1,c2,c3,by omega,c5⟩]
   ·rw[zq1 c1,zq1 c2,zq1 c3,zq0 c4,zq1 (by decide),zq0 c5,zq0 (fun h=>c5 h.2.2.2.2)]
  ·rw[zq0 (show ¬((List.length (x::y::r):Nat):Int)=1 by simp;omega)];simp
 rw[zq0 r32,zq0 r32];by_cases r33:rule=33
 ·rw[zq1 r33,zq1 r33];rcases hL:l.L with _|⟨x,_|⟨y,_|⟨z,r⟩⟩⟩
  ·simp
  ·simp
  ·have h1:=z7b hL;have h2:=jH x;have hps:∀z∈x.L,zI z≤1000:=fun z hz=>by have:=zM hz;omega
   have hpl:=z7c x.L;simp only[show idx [x,y] 0=some x from rfl,show idx [x,y] 1=some y from rfl,zB,y5F];rw[v7G _ _ hps (by omega),zq1 (show((List.length [x,y]:Nat):Int)=2 by simp)];by_cases c1:l.K=12
   case neg=>rw[zq0 c1,zq0 (fun h=>c1 h.1)]
   by_cases c2:x.K=14
   case neg=>rw[zq1 c1,zq0 c2,zq0 (fun h=>c2 h.2.1)]
   by_cases c3:x.S=[]
   case neg=>rw[zq1 c1,zq1 c2,zq0 c3,zq0 (fun h=>c3 h.2.2.1)]
   rw[zq1 c1,zq1 c2,zq1 c3];cases c4:y2x y 5 with
   |true=>rw[zq1 rfl,zq1 ⟨c1,c2,c3,rfl⟩]
   |false=>rw[zq0 (by decide),zq0 (fun h=>Bool.noConfusion h.2.2.2)]
  ·rw[zq0 (show ¬((List.length (x::y::z::r):Nat):Int)=2 by simp;omega)];simp
 rw[zq0 r33,zq0 r33]
theorem y2E(b:zA):∀a:zA,zI b≤1000000000→∃c,vB a b=some c∧(c=true↔a=b):=by
 induction b using zA.ind with
 |h b ih=>
  intro a h;have hl:=vN b;have loop:∀(k i:Nat),i+k=b.L.length→a.L.length=b.L.length→∃c,yE i a b=some c∧(c=true↔a.L.drop i=b.L.drop i):=by
   intro k;induction k with
   |zero=>
    intro i hi hab;rw[z6F];unfold gH;rw[zq0 (by omega),List.drop_eq_nil_of_le (by omega),List.drop_eq_nil_of_le (by omega)];exact⟨_,rfl,by simp⟩
   |succ k ihk=>
    intro i hi hab;have hlt:i<a.L.length:=by omega
    have hlt':i<b.L.length:=by omega
    have hm:=List.getElem_mem hlt';rw[z6F];unfold gH;obtain⟨c,e,hc⟩:=ih _ hm a.L[i] (by have:=zM hm;omega);rw[zq1 (by omega),wG hlt,zB,wG hlt',zB,e,zB,z1C (by omega),List.drop_eq_getElem_cons hlt,List.drop_eq_getElem_cons hlt'];cases c with
    |true=>
     obtain⟨c',e',hc'⟩:=ihk (i+1) (by omega) hab;rw[zq1 rfl];exact⟨c',e',by rw[hc',List.cons.injEq];exact⟨fun h=>⟨hc.1 rfl,h⟩,fun h=>h.2⟩⟩
    |false=>
     rw[zq0 (by decide)];exact⟨false,rfl,⟨fun h=>Bool.noConfusion h,fun h=>by rw[List.cons.injEq]at h;exact absurd (hc.2 h.1) (by decide)⟩⟩
  rw[y7a];unfold z2n;have no:∀{P:Prop},(a=b→P)→¬P→∃c,some false=some c∧(c=true↔a=b):=fun f g=>⟨false,rfl,by simp;exact fun e=>g (f e)⟩;by_cases h1:a.K=b.K
  ·rw[zq1 h1];by_cases h2:a.N=b.N
   ·rw[zq1 h2];by_cases h3:a.S=b.S
    ·rw[zq1 h3];by_cases h5:a.From=b.From
     ·rw[zq1 h5];by_cases h6:a.To=b.To
      ·rw[zq1 h6];by_cases h4:(List.length a.L:Int)=(List.length b.L:Int)
       ·rw[zq1 h4];obtain⟨c,e,hc⟩:=loop b.L.length 0 (by omega) (by omega);refine⟨c,e,?_⟩;rw[hc];simp only[List.drop_zero];exact⟨fun hL=>y1V h1 h2 h3 hL h5 h6,fun e=>by rw[e]⟩
       ·rw[zq0 h4];exact no (fun e=>by rw[e]) h4
      ·rw[zq0 h6];exact no (fun e=>by rw[e]) h6
     ·rw[zq0 h5];exact no (fun e=>by rw[e]) h5
    ·rw[zq0 h3];exact no (fun e=>by rw[e]) h3
   ·rw[zq0 h2];exact no (fun e=>by rw[e]) h2
  ·rw[zq0 h1];exact no (fun e=>by rw[e]) h1
inductive RootR:zA→zA→Prop
 |here (t:zA):(t.K≠12∧t.K≠13∨t.L=[])→RootR t t
 |down (t x r:zA) (l:List zA):(t.K=12∨t.K=13)→t.L=x::l→RootR x r→RootR t r
theorem v7L(t:zA):∃r,uB t=some r∧RootR t r:=by
 induction t using zA.ind with
 |h t ih=>
  rw[z9v];unfold z1X;have go:(t.K=12∨t.K=13)→∃r,(if(List.length t.L:Int)>0 then(idx t.L 0>>=fun x=>uB x>>=fun q=>some q)else some t)=some r∧RootR t r:=by
   intro hk;cases hL:t.L with
   |nil=>rw[zq0 (by simp)];exact⟨_,rfl,.here _ (.inr hL)⟩
   |cons x l=>
    obtain⟨r,er,hr⟩:=ih x (by rw[hL];exact List.mem_cons_self ..);rw[zq1 (by simp),show idx (x::l) 0=some x from rfl,zB,er];exact⟨r,rfl,.down _ x r l hk hL hr⟩
  by_cases k:t.K=12
  ·rw[zq1 k];exact go (.inl k)
  rw[zq0 k];by_cases k:t.K=13
  ·rw[zq1 k];exact go (.inr k)
  rw[zq0 k];exact⟨_,rfl,.here _ (.inl ⟨by assumption,k⟩)⟩
def v9C(t:zA):Prop:=
 t.K=29∨((t.K=20∨t.K=21∨t.K=26∨t.K=27∨t.K=28)∧∃a,t.L=[a])∨(t.K=22∧∃a b,t.L=[a,b])∨(t.K=23∧∃a x y,t.L=[a,x,y]∧x.K=29∧y.K=29) ∨
 (t.K=24∧∃a x,t.L=[a,x]∧x.K=29)∨(t.K=25∧∃a b x,t.L=[a,b,x]∧x.K=29)
theorem v9p(t:zA):∃b,z6P t=some b∧(b=true→v9C t):=by
 have L0:∀n:Int,yL n n t=some true:=fun n=>by
  rw[z8h];unfold z0o;rw[zq0 (by omega)]
 have LS:∀(n i:Int) (x:zA),i<n→idx t.L i=some x→-9223372036854775808≤i+1→i+1≤9223372036854775807→yL n i t=if x.K=29 then yL n (i+1) t else some false:=fun n i x h1 h2 h3 h4=>by
  rw[z8h];unfold z0o;rw[zq1 h1,h2,zB,z1H h3 h4]
 have w0:IntKind.wrap .i64 (1-0)=1:=by decide
 have w1:IntKind.wrap .i64 (2-0)=2:=by decide
 have w2:IntKind.wrap .i64 (3-2)=1:=by decide
 have w3:IntKind.wrap .i64 (2-1)=1:=by decide
 have w4:IntKind.wrap .i64 (3-1)=2:=by decide
 unfold z6P;by_cases k:t.K=29
 ·rw[zq1 k];exact⟨_,rfl,fun _=>.inl k⟩
 rw[zq0 k];have one:(t.K=20∨t.K=21∨t.K=26∨t.K=27∨t.K=28)→jC t.K=some (1,0)→∃b,(jC t.K>>=fun q1=>if(List.length t.L:Int)=q1.1 then yL q1.1 (IntKind.wrap .i64 (q1.1-q1.2)) t else some false)=some b∧(b=true→v9C t):=fun hk e=>by
  rw[e,zB];by_cases c:(List.length t.L:Int)=1
  ·rw[zq1 c,w0,L0];exact⟨_,rfl,fun _=>.inr (.inl ⟨hk,v1E c⟩)⟩
  ·rw[zq0 c];exact⟨_,rfl,fun h=>Bool.noConfusion h⟩
 by_cases k:t.K=20
 ·exact one (by omega) (by rw[k];rfl)
 by_cases k:t.K=21
 ·exact one (by omega) (by rw[k];rfl)
 by_cases k:t.K=26
 ·exact one (by omega) (by rw[k];rfl)
 by_cases k:t.K=27
 ·exact one (by omega) (by rw[k];rfl)
 by_cases k:t.K=28
 ·exact one (by omega) (by rw[k];rfl)
 by_cases k:t.K=22
 ·rw[show jC t.K=some (2,0)by rw[k];rfl,zB];by_cases c:(List.length t.L:Int)=2
  ·rw[zq1 c,w1,L0];exact⟨_,rfl,fun _=>.inr (.inr (.inl ⟨k,v9G c⟩))⟩
  ·rw[zq0 c];exact⟨_,rfl,fun h=>Bool.noConfusion h⟩
 by_cases k:t.K=23
 ·rw[show jC t.K=some (3,2)by rw[k];rfl,zB];by_cases c:(List.length t.L:Int)=3
  ·obtain⟨a,x,y,hL⟩:=w0U c;rw[zq1 c,w2,LS 3 1 x (by decide) (by rw[hL];rfl) (by decide) (by decide),LS 3 (1+1) y (by decide) (by rw[hL];rfl) (by decide) (by decide),show((1:Int)+1+1)=3 from rfl,L0];by_cases cx:x.K=29
   ·rw[zq1 cx];by_cases cy:y.K=29
    ·rw[zq1 cy];exact⟨_,rfl,fun _=>.inr (.inr (.inr (.inl ⟨k,a,x,y,hL,cx,cy⟩)))⟩
    ·rw[zq0 cy];exact⟨_,rfl,fun h=>Bool.noConfusion h⟩
   ·rw[zq0 cx];exact⟨_,rfl,fun h=>Bool.noConfusion h⟩
  ·rw[zq0 c];exact⟨_,rfl,fun h=>Bool.noConfusion h⟩
 by_cases k:t.K=24
 ·rw[show jC t.K=some (2,1)by rw[k];rfl,zB];by_cases c:(List.length t.L:Int)=2
  ·obtain⟨a,x,hL⟩:=v9G c;rw[zq1 c,w3,LS 2 1 x (by decide) (by rw[hL];rfl) (by decide) (by decide),show((1:Int)+1)=2 from rfl,L0];by_cases cx:x.K=29
   ·rw[zq1 cx];exact⟨_,rfl,fun _=>.inr (.inr (.inr (.inr (.inl ⟨k,a,x,hL,cx⟩))))⟩
   ·rw[zq0 cx];exact⟨_,rfl,fun h=>Bool.noConfusion h⟩
  ·rw[zq0 c];exact⟨_,rfl,fun h=>Bool.noConfusion h⟩
 by_cases k:t.K=25
 ·rw[show jC t.K=some (3,1)by rw[k];rfl,zB];by_cases c:(List.length t.L:Int)=3
  ·obtain⟨a,b,x,hL⟩:=w0U c;rw[zq1 c,w4,LS 3 2 x (by decide) (by rw[hL];rfl) (by decide) (by decide),show((2:Int)+1)=3 from rfl,L0];by_cases cx:x.K=29
   ·rw[zq1 cx];exact⟨_,rfl,fun _=>.inr (.inr (.inr (.inr (.inr ⟨k,a,b,x,hL,cx⟩))))⟩
   ·rw[zq0 cx];exact⟨_,rfl,fun h=>Bool.noConfusion h⟩
  ·rw[zq0 c];exact⟨_,rfl,fun h=>Bool.noConfusion h⟩
 have e:jC t.K=some (-1,0):=by
  unfold jC;rw[zq0 (by assumption),zq0 (by assumption),zq0 (by assumption),zq0 (by assumption),zq0 (by assumption),zq0 (by assumption),zq0 (by assumption),zq0 (by assumption),zq0 (by assumption)]
 rw[e,zB,zq0 (by omega)];exact⟨_,rfl,fun h=>Bool.noConfusion h⟩
mutual
inductive TS(m ρ:zA):List zA→zA→List zA→Prop
 |block (Γ Γ':List zA) (t:zA):t.K=29→t.S=[]→t.From=0→t.To=0→TB m ρ Γ t.L Γ'→TS m ρ Γ t Γ
 |let_ (Γ:List zA) (t e τ:zA):t.K=20→t.S=[]→t.From=0→t.To=0→t.L=[e]→TE m Γ e τ→TS m ρ Γ t (Γ++[τ])
 |new (Γ:List zA) (t x:zA):t.K=21→t.S=[]→t.From=0→t.To=0→t.L=[x]→Good m x→y3Y x=x→TS m ρ Γ t (Γ++[x])
 |print (Γ:List zA) (t e τ:zA):t.K=26→t.S=[]→t.From=0→t.To=0→t.L=[e]→TE m Γ e τ→(τ.K=1∨τ.K=2)→τ.L=[]→TS m ρ Γ t Γ
 |ret (Γ:List zA) (t e τ:zA):t.K=27→t.S=[]→t.From=0→t.To=0→t.L=[e]→TE m Γ e τ→uO τ=uO ρ→TS m ρ Γ t Γ
 |do_ (Γ:List zA) (t e τ:zA):t.K=28→t.S=[]→t.From=0→t.To=0→t.L=[e]→e.K=16→TE m Γ e τ→TS m ρ Γ t Γ
 |set (Γ:List zA) (t a b τ σ r:zA):t.K=22→t.S=[]→t.From=0→t.To=0→t.L=[a,b]→TE m Γ a τ→TE m Γ b σ→uO τ=uO σ→RootR a r→(r.K=7∨r.K=9)→TS m ρ Γ t Γ
 |if_ (Γ:List zA) (t e x y τ:zA):t.K=23→t.S=[]→t.From=0→t.To=0→t.L=[e,x,y]→TE m Γ e τ→τ.K=2→τ.L=[]→x.K=29→y.K=29→TS m ρ Γ x Γ→TS m ρ Γ y Γ→TS m ρ Γ t Γ
 |while_ (Γ:List zA) (t e x τ:zA):t.K=24→t.S=[]→t.From=0→t.To=0→t.L=[e,x]→TE m Γ e τ→τ.K=2→τ.L=[]→x.K=29→TS m ρ Γ x Γ→TS m ρ Γ t Γ
 |for_ (Γ:List zA) (t a b x τ σ:zA):t.K=25→t.S=[]→t.From=0→t.To=0→t.L=[a,b,x]→TE m Γ a τ→τ.K=1→τ.L=[]→TE m Γ b σ→σ.K=1→σ.L=[]→x.K=29→TS m ρ (Γ++[y9d]) x (Γ++[y9d])→TS m ρ Γ t Γ
inductive TB(m ρ:zA):List zA→List zA→List zA→Prop
 |nil (Γ:List zA):TB m ρ Γ [] Γ
 |cons (Γ Γ' Γ'':List zA) (t:zA) (r:List zA):TS m ρ Γ t Γ'→TB m ρ Γ' r Γ''→TB m ρ Γ (t::r) Γ''
end
theorem y5X(m:zA)(Γ:List zA)(x:zA)(a b:Int)(g:Ref15Got)(eg:uD m Γ x=some g):
  ∃y,z1z m Γ x a b=some y∧(y.E=0→g.E=0∧y.T_=g.Form∧(g.Type_.K=a∨g.Type_.K=b)∧g.Type_.L=[]):=by
 unfold z1z z0A vF;obtain⟨c1,e1,h1⟩:=z7A g.Type_ a;obtain⟨c2,e2,h2⟩:=z7A g.Type_ b;rw[eg,zB];by_cases c:g.E=0
 ·rw[zq1 c,e1,zB];cases c1 with
  |true=>rw[zq1 rfl];exact⟨_,rfl,fun _=>⟨c,rfl,.inl (h1.1 rfl).1,(h1.1 rfl).2⟩⟩
  |false=>
   rw[zq0 (by decide),e2,zB];cases c2 with
   |true=>rw[zq1 rfl];exact⟨_,rfl,fun _=>⟨c,rfl,.inr (h2.1 rfl).1,(h2.1 rfl).2⟩⟩
   |false=>rw[zq0 (by decide)];exact⟨_,rfl,fun h=>absurd h (show ¬(10:Int)=0 by decide)⟩
 ·rw[zq0 c];exact⟨_,rfl,fun h=>absurd h c⟩
def w0B(m ρ:zA)(Γ:List zA)(B:Nat)(t:zA)(g:Ref16Got):Prop:=
 g.E=0→∃Γ',z1q m Γ t=some Γ'∧(∀x∈Γ',zI x≤B+zI t)∧Γ'.length≤Γ.length+1∧(g.T_=t→TS m ρ Γ t Γ')
theorem v2K(m:zA)(Γ:List zA)(t:zA)(h1:t.K≠20)(h2:t.K≠21):z1q m Γ t=some Γ:=by
 unfold z1q;rw[zq0 h1,zq0 h2]
theorem y7d(l:List zA)(i:Nat):wE (l.drop i)≤wE l:=by
 induction l generalizing i with
 |nil=>simp
 |cons x r ih=>
  cases i with
  |zero=>simp
  |succ i=>rw[List.drop_succ_cons];have:=ih i;simp only[wE];omega
theorem z6c{n:Nat}(h:n≤2000000000):wI 72 n:=jG (by omega) h
theorem w0p(m ρ:zA)(hρ:zI ρ≤1000000000)(t:zA):zA.Wf t →
  (∀(B:Nat) (Γ:List zA),zI m≤B→(∀x∈Γ,zI x≤B)→Γ.length+zI t≤1000000000→B+zI t≤1000000000→∃g,yX m Γ ρ t=some g∧(g.E=0→g.T_=t→t.S=[]∧t.From=0∧t.To=0∧∃Γ',TB m ρ Γ t.L Γ')) ∧
  (∀(B:Nat) (Γ:List zA),zI m≤B→(∀x∈Γ,zI x≤B)→Γ.length+zI t≤1000000000→B+zI t≤1000000000→∃g,gR m Γ ρ t=some g∧w0B m ρ Γ B t g):=by
 induction t using zA.ind with
 |h t ih=>
  intro hw;have htl:=vN t;have pos:=z1B t;have block:∀(B:Nat) (Γ:List zA),zI m≤B→(∀x∈Γ,zI x≤B)→Γ.length+zI t≤1000000000→B+zI t≤1000000000→∃g,yX m Γ ρ t=some g∧(g.E=0→g.T_=t→t.S=[]∧t.From=0∧t.To=0∧∃Γ',TB m ρ Γ t.L Γ'):=by
   intro B Γ0 hm hΓ0 hl0 hB;have loop:∀(k i:Nat) (Γ:List zA) (o:Ref16Got) (K N:Int) (S:Str) (L:List zA) (F T:Int),i+k=t.L.length→L.length=i →
     (∀x∈Γ,zI x+wE (t.L.drop i)≤B+wE t.L)→Γ.length+wE (t.L.drop i)≤Γ0.length+wE t.L →
     ∃g,yV Γ i m ρ t o K N S L F T=some g∧(g.E=0→g.T_.K=K∧g.T_.N=N∧g.T_.S=S∧g.T_.From=F∧g.T_.To=T∧∃M,g.T_.L=L++M∧(M=t.L.drop i→∃Γ',TB m ρ Γ (t.L.drop i) Γ')):=by
    intro k;induction k with
    |zero=>
     intro i Γ o K N S L F T hi hL hΓ hl;rw[z8g];unfold z0n;rw[zq0 (by omega),List.drop_eq_nil_of_le (by omega)];exact⟨_,rfl,fun _=>⟨rfl,rfl,rfl,rfl,rfl,[],by simp,fun _=>⟨Γ,.nil Γ⟩⟩⟩
    |succ k ihk=>
     intro i Γ o K N S L F T hi hL hΓ hl;have hlt:i<t.L.length:=by omega
     have hmem:=List.getElem_mem hlt;have hsz:=zM hmem;have hd:=y1b hlt;have hts:wE (t.L.drop i)≤wE t.L:=y7d _ _;have hpos:=z1B t.L[i];have hte:=jH t;obtain⟨g,eg,hg⟩:=(ih _ hmem (hw.L_.2 _ hmem)).2 (B+(wE t.L-wE (t.L.drop i))) Γ (by omega) (fun x hx=>by have:=hΓ x hx;omega) (by omega) (by omega);rw[z8g];unfold z0n;rw[zq1 (by omega),wG hlt,zB,eg,zB];by_cases c:g.E=0
     ·rw[zq1 c,zq1 (z6c (by simp;omega)),zB,z1C (by omega)];obtain⟨Γ',eb,hs,hl',ht⟩:=hg c;rw[eb,zB];obtain⟨g',eg',hg'⟩:=ihk (i+1) Γ' o K N S (L++[g.T_]) F T (by omega) (by simp[hL]) (fun x hx=>by have:=hs x hx;omega) (by omega);refine⟨g',eg',fun c'=>?_⟩;obtain⟨h1,h2,h3,h4,h5,M,hM,hT⟩:=hg' c';refine⟨h1,h2,h3,h4,h5,g.T_::M,by rw[hM];simp,fun e=>?_⟩;rw[List.drop_eq_getElem_cons hlt]at e ⊢;injection e with e1 e2;obtain⟨Γ'',hΓ''⟩:=hT e2;exact⟨Γ'',.cons _ _ _ _ _ (ht e1) hΓ''⟩
     ·rw[zq0 c];exact⟨_,rfl,fun h=>absurd h c⟩
   rw[y9u];unfold z3h;obtain⟨g,eg,hg⟩:=loop t.L.length 0 Γ0 ⟨⟨0,0,[],[],0,0⟩,0,0⟩ t.K t.N [] [] 0 0 (by omega) rfl (fun x hx=>by have:=hΓ0 x hx;simp;omega) (by simp);refine⟨g,eg,fun c e=>?_⟩;obtain⟨h1,h2,h3,h4,h5,M,hM,hT⟩:=hg c;rw[e]at h3 h4 h5 hM;rw[List.drop_zero]at hT;exact⟨h3,h4,h5,hT (by simpa using hM.symm)⟩
  refine⟨block,?_⟩;intro B Γ hm hΓ hl hB;have brk:t.K≠20→t.K≠21→∃Γ',z1q m Γ t=some Γ'∧(∀x∈Γ',zI x≤B+zI t)∧Γ'.length≤Γ.length+1∧Γ'=Γ:=fun h1 h2=>
   ⟨Γ,v2K m Γ t h1 h2,fun x hx=>by have:=hΓ x hx;omega,by omega,rfl⟩
  obtain⟨b,eb,hb⟩:=v9p t;rw[v1R];unfold z4p;rw[eb,zB];cases b with
  |false=>rw[zq0 (by decide)];exact⟨_,rfl,fun h=>absurd h (show ¬(12:Int)=0 by decide)⟩
  |true=>
  rw[zq1 rfl];have hs:=hb rfl;by_cases k29:t.K=29
  ·rw[zq1 k29];obtain⟨g,eg,hg⟩:=block B Γ hm hΓ hl hB;rw[eg,zB];refine⟨g,rfl,fun c=>?_⟩;obtain⟨Γ',h1,h2,h3,rfl⟩:=brk (by omega) (by omega);refine⟨_,h1,h2,h3,fun e=>?_⟩;obtain⟨a1,a2,a3,Γ',hT⟩:=hg c e;exact .block _ Γ' t k29 a1 a2 a3 hT
  rw[zq0 k29];have ofx:∀x∈t.L,∃g,uD m Γ x=some g∧(g.E=0→zI g.Type_≤B+zI x∧(g.Form=x→TE m Γ x g.Type_)):=fun x hx=>
   w0g m Γ B hm hΓ (by omega) x (hw.L_.2 _ hx) (by have:=zM hx;omega)
  have blk:∀x∈t.L,x.K=29→∃g,yX m Γ ρ x=some g∧(g.E=0→g.T_=x→TS m ρ Γ x Γ):=fun x hx hk=>by
   have:=zM hx;obtain⟨g,eg,hg⟩:=(ih x hx (hw.L_.2 _ hx)).1 B Γ hm hΓ (by omega) (by omega);exact⟨g,eg,fun c e=>by obtain⟨a1,a2,a3,Γ',hT⟩:=hg c e;exact .block _ Γ' x hk a1 a2 a3 hT⟩
  have Lend:∀(i:Nat) o K N S L F T,i=t.L.length→t.K≠22→yM Γ i m ρ t o K N S L F T=some ⟨⟨K,N,S,L,F,T⟩,0,0⟩:=fun i o K N S L F T hi hk=>by
   rw[z5Z];unfold z0a;rw[zq0 (by omega),zq0 hk]
  have Lstep:∀(i:Nat) (z:Int),z=i→∀o K N S L F T g,i<t.L.length→L.length≤3→jT m Γ ρ t i=some g→yM Γ z m ρ t o K N S L F T=if g.E=0 then yM Γ ((i+1:Nat):Int) m ρ t o K N S (L++[g.T_]) F T else some g:=fun i z hz o K N S L F T g hi hL eg=>by
   subst hz;rw[z5Z];unfold z0a;rw[zq1 (by omega),eg,zB,zq1 (z6c (by simp;omega)),z1C (by omega)]
  have parts:∀(c:Int×Int),jC t.K=some c→∀(i:Nat) (x:zA),t.L[i]?=some x→jT m Γ ρ t i=if(i:Int)≥IntKind.wrap .i64 (c.1-c.2)then
     (if t.K=25 then yX m (Γ++[y9d]) ρ x>>=fun q=>some q else yX m Γ ρ x>>=fun q=>some q)else
     (if t.K=21 then z0c m x>>=fun q4=>if q4=0 then vF x 11>>=fun q=>some q else yB x>>=fun q=>some ⟨q,0,0⟩
      else if t.K=23 then z1z m Γ x 2 2>>=fun q=>some q else if t.K=24 then z1z m Γ x 2 2>>=fun q=>some q else if t.K=25 then z1z m Γ x 1 1>>=fun q=>some q
      else if t.K=26 then z1z m Γ x 1 2>>=fun q=>some q
      else if t.K=28 then(if x.K=16 then uD m Γ x>>=fun q=>z0A q>>=fun q=>some q else vF x 12>>=fun q=>some q)
      else uD m Γ x>>=fun q=>if t.K=27 then if q.E=0 then wU ρ>>=fun q20=>wV q.Type_ q20>>=fun q21=>if q21=true then z0A q>>=fun q=>some q else vF x 10>>=fun q=>some q else z0A q>>=fun q=>some q else z0A q>>=fun q=>some q):=fun c ec i x hx=>by
   rw[v1Q];unfold z4o;rw[z5R,hx,zB,ec,zB];have r1:wI 72 (List.length ([]:List zA)+List.length Γ):=z6c (by simp;omega);have r2:wI 72 (List.length (([]:List zA)++Γ)+List.length [(zA.mk 1 0 [] [] 0 0)]):=z6c (by simp;omega);rw[zq1 r1,zq1 r2];rfl
  have w0:IntKind.wrap .i64 (1-0)=1:=by decide
  have w1:IntKind.wrap .i64 (2-0)=2:=by decide
  have w2:IntKind.wrap .i64 (3-2)=1:=by decide
  have w3:IntKind.wrap .i64 (2-1)=1:=by decide
  have w4:IntKind.wrap .i64 (3-1)=2:=by decide
  have fin:∀{o:Ref16Got} {L:List zA},(Ref16Got.mk ⟨t.K,t.N,[],L,0,0⟩ 0 0).T_=t→t.S=[]∧t.From=0∧t.To=0∧t.L=L:=fun {o L} e=>by
   have e2:=congrArg zA.S e;have e3:=congrArg zA.L e;have e4:=congrArg zA.From e;have e5:=congrArg zA.To e;exact⟨e2.symm,e4.symm,e5.symm,e3.symm⟩
  have one:∀(x:zA) (Q:zA→Prop) (o:Ref16Got),t.L=[x]→t.K≠22→(∃g,jT m Γ ρ t (0:Nat)=some g∧(g.E=0→Q g.T_)) →
    ∃g,yM Γ (0:Nat) m ρ t o t.K t.N [] [] 0 0=some g∧(g.E=0→∃y,Q y∧(g.T_=t→t.S=[]∧t.From=0∧t.To=0∧y=x)):=fun x Q o hx hk ⟨g,eg,hg⟩=>by
   have l1:t.L.length=1:=by rw[hx];rfl
   rw[Lstep 0 _ rfl o _ _ _ [] _ _ g (by omega) (by simp) eg];by_cases c:g.E=0
   ·rw[zq1 c,Lend _ _ _ _ _ _ _ _ (by omega) hk];refine⟨_,rfl,fun _=>⟨_,hg c,fun e=>?_⟩⟩;obtain⟨a,b,c,d⟩:=fin (o:=o) e;rw[hx]at d;injection d with d;exact⟨a,b,c,d.symm⟩
   ·rw[zq0 c];exact⟨_,rfl,fun h=>absurd h c⟩
  have bad:∀{P:Ref16Got→Prop} (x:zA) (e:Int),e≠0→∃y,(vF x e>>=fun q=>some q)=some y∧(y.E=0→P y):=fun {P} x e he=>⟨_,rfl,fun h=>absurd h he⟩;rcases hs with hs|⟨hk,x,hx⟩|⟨k,a,b,hx⟩|⟨k,a,x,y,hx,kx,ky⟩|⟨k,a,x,hx,kx⟩|⟨k,a,b,x,hx,kx⟩
  ·exact absurd hs k29
  ·have hmx:x∈t.L:=by rw[hx];exact List.mem_singleton_self x
   have hxs:=z1A hx;have p0:=parts (1,0) (by rcases hk with h|h|h|h|h<;>(rw[h];rfl)) 0 x (by rw[hx];rfl);simp only[w0]at p0;rw[zq0 (by decide)]at p0;obtain⟨g,eg,hg⟩:=ofx x hmx;by_cases k1:t.K=21
   ·rw[zq1 k1]at p0;obtain⟨n,en,n0,hn⟩:=z5l (m:=m) (t:=x) (by omega) (by omega);rw[en,zB]at p0;obtain⟨y,ey,hy⟩:=one x (fun y=>Good m x∧y=y3Y x) ⟨⟨0,0,[],[],0,0⟩,0,0⟩ hx (by omega) (by
     rw[p0];by_cases c:n=0
     ·rw[zq1 c];exact bad x 11 (by decide)
     ·rw[zq0 c,v1H x (by omega),zB];exact⟨_,rfl,fun _=>⟨hn.1 c,rfl⟩⟩)
    refine⟨y,ey,fun c=>?_⟩;obtain⟨z,⟨h1,h2⟩,h3⟩:=hy c;refine⟨Γ++[x],?_,fun w hw'=>?_,by simp,fun e=>?_⟩
    ·unfold z1q;rw[zq0 (by omega),zq1 k1,zq1 (by rw[hx];rfl),zq1 (z6c (by simp;omega)),hx,show idx [x] 0=some x from rfl,zB,zq1 (z6c (by simp;omega))];rfl
    ·rcases List.mem_append.1 hw' with h|h
     ·have:=hΓ w h;omega
     ·rw[List.mem_singleton.1 h];omega
    ·obtain⟨b1,b2,b3,b4⟩:=h3 e;exact .new Γ t x k1 b1 b2 b3 hx h1 (h2.symm.trans b4)
   rw[zq0 k1,zq0 (by omega),zq0 (by omega),zq0 (by omega)]at p0;by_cases k2:t.K=26
   ·rw[zq1 k2]at p0;obtain⟨y,ey,hy⟩:=y5X m Γ x 1 2 g eg;rw[ey,zB]at p0;obtain⟨z,ez,hz⟩:=one x (fun y=>g.E=0∧y=g.Form∧(g.Type_.K=1∨g.Type_.K=2)∧g.Type_.L=[]) ⟨⟨0,0,[],[],0,0⟩,0,0⟩ hx (by omega) ⟨y,p0,hy⟩;refine⟨z,ez,fun c=>?_⟩;obtain⟨Γ',h1,h2,h3,rfl⟩:=brk (by omega) (by omega);refine⟨_,h1,h2,h3,fun e=>?_⟩;obtain⟨w,⟨q1,q2,q3,q4⟩,q5⟩:=hz c;obtain⟨b1,b2,b3,b4⟩:=q5 e;exact .print _ t x g.Type_ k2 b1 b2 b3 hx ((hg q1).2 (q2.symm.trans b4)) q3 q4
   rw[zq0 k2]at p0;by_cases k3:t.K=28
   ·rw[zq1 k3]at p0;obtain⟨z,ez,hz⟩:=one x (fun y=>x.K=16∧g.E=0∧y=g.Form) ⟨⟨0,0,[],[],0,0⟩,0,0⟩ hx (by omega) (by
     rw[p0];by_cases c:x.K=16
     ·rw[zq1 c,eg,zB];exact⟨_,rfl,fun h=>⟨c,h,rfl⟩⟩
     ·rw[zq0 c];exact bad x 12 (by decide))
    refine⟨z,ez,fun c=>?_⟩;obtain⟨Γ',h1,h2,h3,rfl⟩:=brk (by omega) (by omega);refine⟨_,h1,h2,h3,fun e=>?_⟩;obtain⟨w,⟨q1,q2,q3⟩,q5⟩:=hz c;obtain⟨b1,b2,b3,b4⟩:=q5 e;exact .do_ _ t x g.Type_ k3 b1 b2 b3 hx q1 ((hg q2).2 (q3.symm.trans b4))
   rw[zq0 k3,eg,zB]at p0;by_cases k4:t.K=27
   ·rw[zq1 k4]at p0;obtain⟨z,ez,hz⟩:=one x (fun y=>g.E=0∧y=g.Form∧uO g.Type_=uO ρ) ⟨⟨0,0,[],[],0,0⟩,0,0⟩ hx (by omega) (by
     rw[p0];by_cases c:g.E=0
     ·obtain⟨s,es,hs⟩:=y6h g.Type_ (uO ρ) (by have:=(hg c).1;omega);rw[zq1 c,y2j ρ hρ,zB,es,zB];cases s with
      |true=>rw[zq1 rfl];exact⟨_,rfl,fun _=>⟨c,rfl,by rw[hs.1 rfl,z6B]⟩⟩
      |false=>rw[zq0 (by decide)];exact bad x 10 (by decide)
     ·rw[zq0 c];exact⟨_,rfl,fun h=>absurd h c⟩)
    refine⟨z,ez,fun c=>?_⟩;obtain⟨Γ',h1,h2,h3,rfl⟩:=brk (by omega) (by omega);refine⟨_,h1,h2,h3,fun e=>?_⟩;obtain⟨w,⟨q1,q2,q3⟩,q5⟩:=hz c;obtain⟨b1,b2,b3,b4⟩:=q5 e;exact .ret _ t x g.Type_ k4 b1 b2 b3 hx ((hg q1).2 (q2.symm.trans b4)) q3
   rw[zq0 k4]at p0;have k5:t.K=20:=by omega
   obtain⟨z,ez,hz⟩:=one x (fun y=>g.E=0∧y=g.Form) ⟨⟨0,0,[],[],0,0⟩,0,0⟩ hx (by omega) ⟨_,p0,fun h=>⟨h,rfl⟩⟩;refine⟨z,ez,fun c=>?_⟩;obtain⟨w,⟨q1,q2⟩,q5⟩:=hz c;refine⟨Γ++[g.Type_],?_,fun w hw'=>?_,by simp,fun e=>?_⟩
   ·unfold z1q;rw[zq1 k5,zq1 (by rw[hx];rfl),zq1 (z6c (by simp;omega)),hx,show idx [x] 0=some x from rfl,zB,eg,zB,zq1 (z6c (by simp;omega))];rfl
   ·rcases List.mem_append.1 hw' with h|h
    ·have:=hΓ w h;omega
    ·rw[List.mem_singleton.1 h];have:=(hg q1).1;omega
   ·obtain⟨b1,b2,b3,b4⟩:=q5 e;exact .let_ _ t x g.Type_ k5 b1 b2 b3 hx ((hg q1).2 (q2.symm.trans b4))
  ·have l2:t.L.length=2:=by rw[hx];rfl
   have hma:a∈t.L:=by rw[hx];exact List.mem_cons_self ..
   have hmb:b∈t.L:=by rw[hx];exact List.mem_cons_of_mem _ (List.mem_cons_self ..)
   have hts:=z7b hx;obtain⟨ga,ega,hga⟩:=ofx a hma;obtain⟨gb,egb,hgb⟩:=ofx b hmb;have pe:jC t.K=some (2,0):=by rw[k];rfl
   have p0:=parts (2,0) pe 0 a (by rw[hx];rfl);have p1:=parts (2,0) pe 1 b (by rw[hx];rfl);simp only[w1]at p0 p1;rw[zq0 (by decide),zq0 (by omega),zq0 (by omega),zq0 (by omega),zq0 (by omega),zq0 (by omega),zq0 (by omega),ega,zB,zq0 (by omega)]at p0;rw[zq0 (by decide),zq0 (by omega),zq0 (by omega),zq0 (by omega),zq0 (by omega),zq0 (by omega),zq0 (by omega),egb,zB,zq0 (by omega)]at p1;rw[Lstep 0 0 rfl _ _ _ _ [] _ _ _ (by omega) (by simp) p0];show ∃g,(if ga.E=0 then _ else some _)=some g∧_
   by_cases c1:ga.E=0
   ·rw[zq1 c1,Lstep 1 _ rfl _ _ _ _ _ _ _ _ (by omega) (by simp) p1];show ∃g,(if gb.E=0 then _ else some _)=some g∧_;by_cases c2:gb.E=0
    ·rw[zq1 c2,z5Z];unfold z0a;obtain⟨r,er,hr⟩:=v7L a;obtain⟨s,es,hs⟩:=y6h ga.Type_ gb.Type_ (by have:=(hga c1).1;omega);rw[zq0 (by omega),zq1 k,hx,show idx [a,b] 0=some a from rfl,show idx [a,b] 1=some b from rfl];simp only[zB,er,ega,egb,es];have tl:(r.K=7∨r.K=9)→∃g,(if s=true then some (Ref16Got.mk ⟨t.K,t.N,[],[]++[ga.Form]++[gb.Form],0,0⟩ 0 0)else vF t 10>>=fun q=>some q)=some g∧w0B m ρ Γ B t g:=fun hr'=>by
      cases s with
      |false=>rw[zq0 (by decide)];exact bad t 10 (by decide)
      |true=>
       rw[zq1 rfl];refine⟨_,rfl,fun _=>?_⟩;obtain⟨Γ',h1,h2,h3,rfl⟩:=brk (by omega) (by omega);refine⟨_,h1,h2,h3,fun e=>?_⟩;obtain⟨b1,b2,b3,b4⟩:=fin (o:=⟨⟨0,0,[],[],0,0⟩,0,0⟩) e;rw[hx]at b4;injection b4 with b4 b5;injection b5 with b5;exact .set _ t a b ga.Type_ gb.Type_ r k b1 b2 b3 hx ((hga c1).2 b4.symm) ((hgb c2).2 b5.symm) (hs.1 rfl) hr hr'
     by_cases r7:r.K=7
     ·rw[zq1 r7];exact tl (.inl r7)
     ·rw[zq0 r7];by_cases r9:r.K=9
      ·rw[zq1 r9];exact tl (.inr r9)
      ·rw[zq0 r9];exact bad a 12 (by decide)
    ·rw[zq0 c2];exact⟨_,rfl,fun h=>absurd h c2⟩
   ·rw[zq0 c1];exact⟨_,rfl,fun h=>absurd h c1⟩
  ·have l3:t.L.length=3:=by rw[hx];rfl
   have hma:a∈t.L:=by rw[hx];exact List.mem_cons_self ..
   have hmx:x∈t.L:=by rw[hx];exact List.mem_cons_of_mem _ (List.mem_cons_self ..)
   have hmy:y∈t.L:=by rw[hx];exact List.mem_cons_of_mem _ (List.mem_cons_of_mem _ (List.mem_cons_self ..))
   obtain⟨ga,ega,hga⟩:=ofx a hma;obtain⟨gx,egx,hgx⟩:=blk x hmx kx;obtain⟨gy,egy,hgy⟩:=blk y hmy ky;obtain⟨go,ego,hgo⟩:=y5X m Γ a 2 2 ga ega;have pe:jC t.K=some (3,2):=by rw[k];rfl
   have p0:=parts (3,2) pe 0 a (by rw[hx];rfl);have p1:=parts (3,2) pe 1 x (by rw[hx];rfl);have p2:=parts (3,2) pe 2 y (by rw[hx];rfl);simp only[w2]at p0 p1 p2;rw[zq0 (by decide),zq0 (by omega),zq1 k,ego,zB]at p0;rw[zq1 (by decide),zq0 (by omega),egx,zB]at p1;rw[zq1 (by decide),zq0 (by omega),egy,zB]at p2;rw[Lstep 0 0 rfl _ _ _ _ [] _ _ _ (by omega) (by simp) p0];by_cases c1:go.E=0
   ·rw[zq1 c1,Lstep 1 _ rfl _ _ _ _ _ _ _ _ (by omega) (by simp) p1];by_cases c2:gx.E=0
    ·rw[zq1 c2,Lstep 2 _ rfl _ _ _ _ _ _ _ _ (by omega) (by simp) p2];by_cases c3:gy.E=0
     ·rw[zq1 c3,Lend _ _ _ _ _ _ _ _ (by omega) (by omega)];refine⟨_,rfl,fun _=>?_⟩;obtain⟨Γ',h1,h2,h3,rfl⟩:=brk (by omega) (by omega);refine⟨_,h1,h2,h3,fun e=>?_⟩;obtain⟨b1,b2,b3,b4⟩:=fin (o:=⟨⟨0,0,[],[],0,0⟩,0,0⟩) e;rw[hx]at b4;injection b4 with b4 b5;injection b5 with b5 b6;injection b6 with b6;obtain⟨q1,q2,q3,q4⟩:=hgo c1;exact .if_ _ t a x y ga.Type_ k b1 b2 b3 hx ((hga q1).2 (q2.symm.trans b4.symm)) (q3.elim id id) q4 kx ky (hgx c2 b5.symm) (hgy c3 b6.symm)
     ·rw[zq0 c3];exact⟨_,rfl,fun h=>absurd h c3⟩
    ·rw[zq0 c2];exact⟨_,rfl,fun h=>absurd h c2⟩
   ·rw[zq0 c1];exact⟨_,rfl,fun h=>absurd h c1⟩
  ·have l2:t.L.length=2:=by rw[hx];rfl
   have hma:a∈t.L:=by rw[hx];exact List.mem_cons_self ..
   have hmx:x∈t.L:=by rw[hx];exact List.mem_cons_of_mem _ (List.mem_cons_self ..)
   obtain⟨ga,ega,hga⟩:=ofx a hma;obtain⟨gx,egx,hgx⟩:=blk x hmx kx;obtain⟨go,ego,hgo⟩:=y5X m Γ a 2 2 ga ega;have pe:jC t.K=some (2,1):=by rw[k];rfl
   have p0:=parts (2,1) pe 0 a (by rw[hx];rfl);have p1:=parts (2,1) pe 1 x (by rw[hx];rfl);simp only[w3]at p0 p1;rw[zq0 (by decide),zq0 (by omega),zq0 (by omega),zq1 k,ego,zB]at p0;rw[zq1 (by decide),zq0 (by omega),egx,zB]at p1;rw[Lstep 0 0 rfl _ _ _ _ [] _ _ _ (by omega) (by simp) p0];by_cases c1:go.E=0
   ·rw[zq1 c1,Lstep 1 _ rfl _ _ _ _ _ _ _ _ (by omega) (by simp) p1];by_cases c2:gx.E=0
    ·rw[zq1 c2,Lend _ _ _ _ _ _ _ _ (by omega) (by omega)];refine⟨_,rfl,fun _=>?_⟩;obtain⟨Γ',h1,h2,h3,rfl⟩:=brk (by omega) (by omega);refine⟨_,h1,h2,h3,fun e=>?_⟩;obtain⟨b1,b2,b3,b4⟩:=fin (o:=⟨⟨0,0,[],[],0,0⟩,0,0⟩) e;rw[hx]at b4;injection b4 with b4 b5;injection b5 with b5;obtain⟨q1,q2,q3,q4⟩:=hgo c1;exact .while_ _ t a x ga.Type_ k b1 b2 b3 hx ((hga q1).2 (q2.symm.trans b4.symm)) (q3.elim id id) q4 kx (hgx c2 b5.symm)
    ·rw[zq0 c2];exact⟨_,rfl,fun h=>absurd h c2⟩
   ·rw[zq0 c1];exact⟨_,rfl,fun h=>absurd h c1⟩
  ·have l3:t.L.length=3:=by rw[hx];rfl
   have hma:a∈t.L:=by rw[hx];exact List.mem_cons_self ..
   have hmb:b∈t.L:=by rw[hx];exact List.mem_cons_of_mem _ (List.mem_cons_self ..)
   have hmx:x∈t.L:=by rw[hx];exact List.mem_cons_of_mem _ (List.mem_cons_of_mem _ (List.mem_cons_self ..))
   have hts:=z7K hx;have pa:=z1B a;have pm:=z1B m;obtain⟨ga,ega,hga⟩:=ofx a hma;obtain⟨gb,egb,hgb⟩:=ofx b hmb;obtain⟨gx,egx,hgx⟩:=(ih x hmx (hw.L_.2 _ hmx)).1 B (Γ++[y9d]) hm (fun w hw'=>by
    rcases List.mem_append.1 hw' with h|h
    ·exact hΓ w h
    ·rw[List.mem_singleton.1 h,show zI y9d=1 from rfl];omega) (by simp;omega) (by omega)
   obtain⟨go,ego,hgo⟩:=y5X m Γ a 1 1 ga ega;obtain⟨gp,egp,hgp⟩:=y5X m Γ b 1 1 gb egb;have pe:jC t.K=some (3,1):=by rw[k];rfl
   have p0:=parts (3,1) pe 0 a (by rw[hx];rfl);have p1:=parts (3,1) pe 1 b (by rw[hx];rfl);have p2:=parts (3,1) pe 2 x (by rw[hx];rfl);simp only[w4]at p0 p1 p2;rw[zq0 (by decide),zq0 (by omega),zq0 (by omega),zq0 (by omega),zq1 k,ego,zB]at p0;rw[zq0 (by decide),zq0 (by omega),zq0 (by omega),zq0 (by omega),zq1 k,egp,zB]at p1;rw[zq1 (by decide),zq1 k,egx,zB]at p2;rw[Lstep 0 0 rfl _ _ _ _ [] _ _ _ (by omega) (by simp) p0];by_cases c1:go.E=0
   ·rw[zq1 c1,Lstep 1 _ rfl _ _ _ _ _ _ _ _ (by omega) (by simp) p1];by_cases c2:gp.E=0
    ·rw[zq1 c2,Lstep 2 _ rfl _ _ _ _ _ _ _ _ (by omega) (by simp) p2];by_cases c3:gx.E=0
     ·rw[zq1 c3,Lend _ _ _ _ _ _ _ _ (by omega) (by omega)];refine⟨_,rfl,fun _=>?_⟩;obtain⟨Γ',h1,h2,h3,rfl⟩:=brk (by omega) (by omega);refine⟨_,h1,h2,h3,fun e=>?_⟩;obtain⟨b1,b2,b3,b4⟩:=fin (o:=⟨⟨0,0,[],[],0,0⟩,0,0⟩) e;rw[hx]at b4;injection b4 with b4 b5;injection b5 with b5 b6;injection b6 with b6;obtain⟨q1,q2,q3,q4⟩:=hgo c1;obtain⟨q1',q2',q3',q4'⟩:=hgp c2;obtain⟨a1,a2,a3,Γ',hT⟩:=hgx c3 b6.symm
      exact .for_ _ t a b x ga.Type_ gb.Type_ k b1 b2 b3 hx ((hga q1).2 (q2.symm.trans b4.symm)) (q3.elim id id) q4 ((hgb q1').2 (q2'.symm.trans b5.symm)) (q3'.elim id id) q4' kx (.block _ Γ' x kx a1 a2 a3 hT)
     ·rw[zq0 c3];exact⟨_,rfl,fun h=>absurd h c3⟩
    ·rw[zq0 c2];exact⟨_,rfl,fun h=>absurd h c2⟩
   ·rw[zq0 c1];exact⟨_,rfl,fun h=>absurd h c1⟩
def v8w(p:zA):Prop:=p.K=34∧∃x,p.L=[x]
theorem v7D(l:List zA)(hl:l.length≤1000000000):∃b,z2Q l=some b∧(b=true↔∀p∈l,v8w p):=by
 have loop:∀(k i:Nat),i+k=l.length→∃b,yR l i=some b∧(b=true↔∀p∈l.drop i,v8w p):=by
  intro k;induction k with
  |zero=>
   intro i hi;rw[z6O];unfold gL;rw[zq0 (by omega),List.drop_eq_nil_of_le (by omega)];exact⟨_,rfl,by simp⟩
  |succ k ih=>
   intro i hi;have hlt:i<l.length:=by omega
   rw[z6O];unfold gL;rw[zq1 (by omega),wG hlt,zB,zB,z1C (by omega),List.drop_eq_getElem_cons hlt,List.forall_mem_cons];by_cases h1:l[i].K=34
   ·rw[zq1 h1];by_cases h2:(List.length l[i].L:Int)=1
    ·rw[zq1 h2];obtain⟨b,e,hb⟩:=ih (i+1) (by omega);exact⟨b,e,hb.trans ⟨fun h=>⟨⟨h1,v1E h2⟩,h⟩,fun h=>h.2⟩⟩
    ·rw[zq0 h2];exact⟨_,rfl,fun h=>Bool.noConfusion h,fun h=>by obtain⟨x,hx⟩:=h.1.2;rw[hx]at h2;exact absurd rfl h2⟩
   ·rw[zq0 h1];exact⟨_,rfl,fun h=>Bool.noConfusion h,fun h=>absurd h.1.1 h1⟩
 unfold z2Q;obtain⟨b,e,hb⟩:=loop l.length 0 (by omega);exact⟨b,e,by simpa using hb⟩
theorem v4Y(f ps:zA)(r:List zA)(hL:f.L=ps::r)(hl:ps.L.length≤1000000000)(hp:∀p∈ps.L,v8w p):z3i f=some (ps.L.map hd):=by
 have loop:∀(k i:Nat) (out:List zA),i+k=ps.L.length→out.length=i→vI out i f=some (out++(ps.L.drop i).map hd):=by
  intro k;induction k with
  |zero=>
   intro i out hi ho;rw[z8i];unfold z0p;rw[hL,show idx (ps::r) 0=some ps from rfl,zB,zq0 (by omega),List.drop_eq_nil_of_le (by omega)];simp
  |succ k ih=>
   intro i out hi ho;have hlt:i<ps.L.length:=by omega
   obtain⟨-,y,hy⟩:=hp _ (List.getElem_mem hlt);have e1:hd ps.L[i]=y:=by unfold hd;rw[hy];rfl
   rw[z8i];unfold z0p;rw[hL,show idx (ps::r) 0=some ps from rfl,zB,zB,zq1 (by omega),wG hlt,zB,hy,show idx [y] 0=some y from rfl,zB,zq1 (z6c (by simp;omega)),z1C (by omega),ih (i+1) _ (by omega) (by simp[ho]),List.drop_eq_getElem_cons hlt,List.map_cons,e1];simp only[List.append_assoc,List.singleton_append]
 unfold z3i;exact loop ps.L.length 0 [] (by omega) rfl
theorem v9V(t:zA)(h:zI t≤1000000000):∃b,uZ t=some b:=by
 induction t using zA.ind with
 |h t ih=>
  have hl:=vN t;have loop:∀(k i:Nat),i+k=t.L.length→∃b,vT i t=some b:=by
   intro k;induction k with
   |zero=>
    intro i hi;rw[z9u];unfold z0M;rw[zq0 (by omega)];exact⟨_,rfl⟩
   |succ k ihk=>
    intro i hi;have hlt:i<t.L.length:=by omega
    have hm:=List.getElem_mem hlt;obtain⟨b,e⟩:=ih _ hm (by have:=zM hm;omega);rw[z9u];unfold z0M;rw[zq1 (by omega),wG hlt,zB,e,zB,z1C (by omega)];cases b with
    |true=>rw[zq1 rfl];exact ihk (i+1) (by omega)
    |false=>rw[zq0 (by decide)];exact⟨_,rfl⟩
  rw[v1P];unfold z4k;by_cases k:t.K=4
  ·rw[zq1 k];exact⟨_,rfl⟩
  ·rw[zq0 k];exact loop t.L.length 0 (by omega)
theorem v9i(m t:zA)(hm:zI m≤1000000000)(h:zI t≤1000000000):∃b,z6G m t=some b:=by
 obtain⟨n,en,-⟩:=z5l hm h;obtain⟨b,eb⟩:=v9V t h;unfold z6G;rw[en,zB];by_cases c:n>0
 ·rw[zq1 c,eb];exact⟨_,rfl⟩
 ·rw[zq0 c];exact⟨_,rfl⟩
structure v9L(m t:zA)(ps r b:zA):Prop where
 K:t.K=33
 L:t.L=[ps,r,b]
 psK:ps.K=35
 parts:∀p∈ps.L,v8w p
 good:∀p∈ps.L,Good m (hd p)
 goodr:Good m r
 bK:b.K=29
 body:TS m r (ps.L.map hd) b (ps.L.map hd)
 S:t.S=[]∧t.From=0∧t.To=0
 psn:y3Y ps=ps
 rn:y3Y r=r
theorem w1f(m t:zA)(hm:2*zI m≤1000000000)(ht:t∈m.L)(hw:zA.Wf t)(hk:t.K=33):∃g,y6c m t=some g∧(g.E=0→g.T_=t→∃ps r b,v9L m t ps r b):=by
 have hts:=zM ht;have bad:∀{P:Ref16Got→Prop} (x:zA) (e:Int),e≠0→∃y,(vF x e>>=fun q=>some q)=some y∧(y.E=0→P y):=fun {P} x e he=>⟨_,rfl,fun h=>absurd h he⟩;have main:∀{c:Prop} [Decidable c],∃g,(if(List.length t.L:Int)=3 then
   idx t.L 0>>=fun x4=>
   if x4.K=35 then
    idx t.L 0>>=fun x5=>
    z2Q x5.L>>=fun q10=>
    if q10=true then
     idx t.L 2>>=fun x6=>
     if x6.K=29 then
      z3i t>>=fun q13=>
      idx t.L 1>>=fun x7=>
      if wI 72 (List.length q13+List.length [x7])then
      wY (q13++[x7]) 0 m t (Ref16Got.mk (zA.mk 0 0 [] [] 0 0) 0 0)
      else none
     else
     vF t 12>>=fun q12=>
     some (q12)
    else
    vF t 12>>=fun q11=>
    some (q11)
   else
   vF t 12>>=fun q9=>
   some (q9)
  else
  vF t 12>>=fun q8=>
  some (q8))=some g∧(g.E=0→g.T_=t→∃ps r b,v9L m t ps r b):=by
  intro c _;by_cases c3:(List.length t.L:Int)=3
  ·rw[zq1 c3];obtain⟨ps,r,b,hL⟩:=w0U c3;have h3:=z7K hL;have hpl:=vN ps;have w3:=hw.L_.2;rw[hL]at w3;have wb:zA.Wf b:=w3 b (by simp);rw[hL,show idx [ps,r,b] 0=some ps from rfl,show idx [ps,r,b] 1=some r from rfl,show idx [ps,r,b] 2=some b from rfl];simp only[zB];by_cases k35:ps.K=35
   ·rw[zq1 k35];obtain⟨q,eq,hq⟩:=v7D ps.L (by omega);rw[eq,zB];cases q with
    |false=>rw[zq0 (by decide)];exact bad t 12 (by decide)
    |true=>
     rw[zq1 rfl];have hp:=hq.1 rfl;by_cases k29:b.K=29
     ·rw[zq1 k29,v4Y t ps [r,b] hL (by omega) hp,zB,zq1 (z6c (by simp;omega))];have hsz:∀x∈ps.L.map hd++[r],zI x≤zI m:=fun x hx=>by
       rcases List.mem_append.1 hx with h|h
       ·obtain⟨p,hp',rfl⟩:=List.mem_map.1 h;obtain⟨-,y,hy⟩:=hp p hp';have s1:=z1A hy;have s2:=zM hp';have e1:hd p=y:=by unfold hd;rw[hy];rfl
        rw[e1];omega
       ·rw[List.mem_singleton.1 h];omega
      generalize hall:ps.L.map hd++[r]=all at *;have hlen:all.length=ps.L.length+1:=by rw[←hall];simp
      have L10:∀(k i:Nat) o,i+k=all.length→(∀x∈all,Good m x)→∃g,wH all i m t o=some g∧(g.E=0→g.T_=t→∃ps r b,v9L m t ps r b):=by
       intro k;induction k with
       |zero=>
        intro i o hi hg;rw[y0m];unfold z1r;rw[zq0 (by omega),v4Y t ps [r,b] hL (by omega) hp,zB,hL,show idx [ps,r,b] 1=some r from rfl,show idx [ps,r,b] 2=some b from rfl,zB,zB];obtain⟨g,eg,hg'⟩:=(w0p m r (by omega) b wb).1 (zI m) (ps.L.map hd) (Nat.le_refl _) (fun x hx=>hsz x (by rw[←hall];exact List.mem_append_left _ hx)) (by simp;omega) (by omega);rw[eg,zB];by_cases c0:g.E=0
        ·rw[zq1 c0,w0e t (by omega) (by omega),zB];have hnL:(y3Y t).L=[y3Y ps,y3Y r,y3Y b]:=by rw[y2C,hL];rfl
         rw[hnL,zq1 (by simp),zq1 (by simp)];refine⟨_,rfl,fun _ e=>?_⟩;have e2:=congrArg zA.S e;have e3:=congrArg zA.L e;have e4:=congrArg zA.From e;have e5:=congrArg zA.To e;rw[y2C]at e2 e4 e5;simp only at e2 e4 e5;have e3:[y3Y ps,y3Y r,g.T_]=[ps,r,b]:=by rw[←hL,←e3];rfl
         injection e3 with f1 e3;injection e3 with f2 e3;injection e3 with f3;obtain⟨a1,a2,a3,Γ',hT⟩:=hg' c0 f3;exact⟨ps,r,b,hk,hL,k35,hp,fun p hp'=>hg _ (by rw[←hall];exact List.mem_append_left _ (List.mem_map_of_mem hp')),hg r (by rw[←hall];simp),k29,.block _ Γ' b k29 a1 a2 a3 hT,⟨e2.symm,e4.symm,e5.symm⟩,f1,f2⟩
        ·rw[zq0 c0];exact⟨_,rfl,fun h=>absurd h c0⟩
       |succ k ih=>
        intro i o hi hg;have hlt:i<all.length:=by omega
        rw[y0m];unfold z1r;rw[zq1 (by omega),z1C (by omega),wG hlt];simp only[zB];by_cases n1:t.N=1
        ·rw[zq1 n1];obtain⟨q,eq⟩:=v9i m all[i] (by omega) (by have:=hsz _ (List.getElem_mem hlt);omega);rw[eq,zB];cases q with
         |true=>rw[zq1 rfl];exact ih (i+1) o (by omega) hg
         |false=>rw[zq0 (by decide)];exact bad _ 12 (by decide)
        ·rw[zq0 n1];exact ih (i+1) o (by omega) hg
      have L5:∀(k i:Nat) o,i+k=all.length→(∀x∈all.take i,Good m x)→∃g,wY all i m t o=some g∧(g.E=0→g.T_=t→∃ps r b,v9L m t ps r b):=by
       intro k;induction k with
       |zero=>
        intro i o hi hg;rw[y1N];unfold z1Y;rw[zq0 (by omega)];rw[List.take_of_length_le (by omega)]at hg;exact L10 all.length 0 o (by omega) hg
       |succ k ih=>
        intro i o hi hg;have hlt:i<all.length:=by omega
        rw[y1N];unfold z1Y;obtain⟨n,en,n0,hn⟩:=z5l (m:=m) (t:=all[i]) (by omega) (by have:=hsz _ (List.getElem_mem hlt);omega);rw[zq1 (by omega),z1C (by omega),wG hlt];simp only[zB];rw[en,zB];by_cases c0:n=0
        ·rw[zq1 c0];exact bad _ 11 (by decide)
        ·rw[zq0 c0];refine ih (i+1) o (by omega) fun x hx=>?_;rw[List.take_succ_eq_append_getElem hlt,List.mem_append]at hx;rcases hx with hx|hx
         ·exact hg x hx
         ·rw[List.mem_singleton.1 hx];exact hn.1 c0
      exact L5 all.length 0 _ (by omega) (by simp)
     ·rw[zq0 k29];exact bad t 12 (by decide)
   ·rw[zq0 k35];exact bad t 12 (by decide)
  ·rw[zq0 c3];exact bad t 12 (by decide)
 unfold y6c;by_cases n0:t.N=0
 ·rw[zq1 n0];exact main (c:=True)
 ·rw[zq0 n0];by_cases n1:t.N=1
  ·rw[zq1 n1];exact main (c:=True)
  ·rw[zq0 n1];exact bad t 12 (by decide)
inductive y4e(m:zA)(i:Nat)(d:zA):Prop
 |fn (ps r b:zA):v9L m d ps r b→y4e m i d
 |rcd:v2p d→Good m ⟨4,i,[],[],0,0⟩→y3Y d=d→y4e m i d
 |var (x:zA):d.K=32→d.L=[x]→Good m x→y3Y d=d→y4e m i d
 |con (x:zA):d.K=31→d.L=[x]→x.L=[]→(x.K=5∨x.K=6∧(x.N=0∨x.N=1))→y3Y d=d→y4e m i d
theorem v9T(m:zA)(hm:2*zI m≤1000000000)(hw:zA.Wf m)(i:Nat)(d:zA)(hd':m.L[i]?=some d):∃g,z9x m i=some g∧(g.E=0→g.T_=d→y4e m i d):=by
 have ht:=List.mem_of_getElem? hd';have hts:=zM ht;have bad:∀{P:Ref16Got→Prop} (x:zA) (e:Int),e≠0→∃y,(vF x e>>=fun q=>some q)=some y∧(y.E=0→P y):=fun {P} x e he=>⟨_,rfl,fun h=>absurd h he⟩;unfold z9x;rw[z5R,hd',zB];by_cases k:d.K=33
 ·rw[zq1 k];obtain⟨g,eg,hg⟩:=w1f m d hm ht (hw.L_.2 _ ht) k;rw[eg,zB];exact⟨g,rfl,fun c e=>by obtain⟨ps,r,b,h⟩:=hg c e;exact .fn ps r b h⟩
 rw[zq0 k];by_cases k:d.K=30
 ·rw[zq1 k];obtain⟨b,eb,hb⟩:=y1T d (by omega);rw[eb,zB];cases b with
  |false=>rw[zq0 (by decide)];exact bad d 12 (by decide)
  |true=>
   obtain⟨n,en,n0,hn⟩:=z5l (m:=m) (t:=⟨4,i,[],[],0,0⟩) (by omega) (by rw[jH];simp only[wE];omega);rw[zq1 rfl,en,zB];by_cases c:n=0
   ·rw[zq1 c];exact bad d 11 (by decide)
   ·rw[zq0 c,v1H d (by omega),zB];exact⟨_,rfl,fun _ e=>.rcd (hb.1 rfl) (hn.1 c) e⟩
 rw[zq0 k];by_cases k:d.K=32
 ·rw[zq1 k];by_cases c1:(List.length d.L:Int)=1
  ·obtain⟨x,hx⟩:=v1E c1;have s1:=z1A hx;obtain⟨n,en,n0,hn⟩:=z5l (m:=m) (t:=x) (by omega) (by omega);rw[zq1 c1,hx,show idx [x] 0=some x from rfl];simp only[zB];rw[en,zB];by_cases c:n=0
   ·rw[zq1 c];exact bad x 11 (by decide)
   ·rw[zq0 c,v1H d (by omega),zB];exact⟨_,rfl,fun _ e=>.var x k hx (hn.1 c) e⟩
  ·rw[zq0 c1];exact bad d 12 (by decide)
 rw[zq0 k];by_cases k:d.K=31
 ·rw[zq1 k];by_cases c1:(List.length d.L:Int)=1
  ·obtain⟨x,hx⟩:=v1E c1;rw[zq1 c1,hx,show idx [x] 0=some x from rfl];simp only[zB];rw[v4K,zB,v1H d (by omega),zB];by_cases c2:(List.length x.L:Int)>0
   ·rw[zq1 c2];exact bad d 12 (by decide)
   ·have hxL:x.L=[]:=List.length_eq_zero_iff.1 (by omega);rw[zq0 c2];by_cases k5:x.K=5
    ·rw[zq1 k5,zq0 (show ¬(1:Int)=0 by decide),zq0 (by omega)];exact⟨_,rfl,fun _ e=>.con x k hx hxL (.inl k5) e⟩
    ·rw[zq0 k5];by_cases k6:x.K=6
     ·rw[zq1 k6,zq0 (show ¬(2:Int)=0 by decide),zq1 k6];by_cases n0:x.N=0
      ·rw[zq1 n0];exact⟨_,rfl,fun _ e=>.con x k hx hxL (.inr ⟨k6,.inl n0⟩) e⟩
      ·rw[zq0 n0];by_cases n1:x.N=1
       ·rw[zq1 n1];exact⟨_,rfl,fun _ e=>.con x k hx hxL (.inr ⟨k6,.inr n1⟩) e⟩
       ·rw[zq0 n1];exact bad d 12 (by decide)
     ·rw[zq0 k6,zq1 (show(0:Int)=0 from rfl)];exact bad d 12 (by decide)
  ·rw[zq0 c1];exact bad d 12 (by decide)
 rw[zq0 k];exact bad d 12 (by decide)
def ModOk(m:zA):Prop:=m.K=36∧m.S=[]∧m.From=0∧m.To=0∧∀(i:Nat) d,m.L[i]?=some d→y4e m i d
theorem v9m(m:zA)(hm:2*zI m≤1000000000)(hw:zA.Wf m):∃b,z0X m=some b∧(b=true→ModOk m):=by
 have hml:=vN m;have loop:∀(k i:Nat) o K N S L F T,i+k=m.L.length→L.length=i →
   ∃g,yJ i m o K N S L F T=some g∧(g.2.2=0→g.1.K=K∧g.1.S=S∧g.1.From=F∧g.1.To=T∧∃M,g.1.L=L++M∧(M=m.L.drop i→∀(j:Nat) d,i≤j→m.L[j]?=some d→y4e m j d)):=by
  intro k;induction k with
  |zero=>
   intro i o K N S L F T hi hL;rw[z6N];unfold gK;rw[zq0 (by omega)];exact⟨_,rfl,fun _=>⟨rfl,rfl,rfl,rfl,[],by simp,fun _ j d hj hd=>absurd (List.getElem?_eq_some_iff.1 hd).1 (by omega)⟩⟩
  |succ k ih=>
   intro i o K N S L F T hi hL;have hlt:i<m.L.length:=by omega
   have gi:=List.getElem?_eq_getElem hlt;obtain⟨g,eg,hg⟩:=v9T m hm hw i _ gi;rw[z6N];unfold gK;rw[zq1 (by omega),eg,zB];by_cases c:g.E=0
   ·rw[zq1 c,zq1 (z6c (by simp;omega)),z1C (by omega)];obtain⟨g',eg',hg'⟩:=ih (i+1) o K N S (L++[g.T_]) F T (by omega) (by simp[hL]);refine⟨g',eg',fun c'=>?_⟩;obtain⟨h1,h2,h3,h4,M,hM,hT⟩:=hg' c';refine⟨h1,h2,h3,h4,g.T_::M,by rw[hM];simp,fun e j d hj hd=>?_⟩;rw[List.drop_eq_getElem_cons hlt]at e;injection e with e1 e2;by_cases hji:j=i
    ·subst hji;rw[gi]at hd;cases hd;exact hg c e1
    ·exact hT e2 j d (by omega) hd
   ·rw[zq0 c];exact⟨_,rfl,fun h=>absurd h c⟩
 unfold z0X z7F;by_cases k:m.K=36
 ·rw[zq1 k];obtain⟨g,eg,hg⟩:=loop m.L.length 0 ⟨0,0,[],[],0,0⟩ m.K m.N [] [] 0 0 (by omega) rfl;have eg':yJ 0 m ⟨0,0,[],[],0,0⟩ m.K m.N [] [] 0 0=some g:=eg;rw[eg',zB];by_cases c:g.2.2=0
  ·obtain⟨b,eb,hb⟩:=y2E m g.1 (by omega);rw[zq1 c,eb,zB];refine⟨b,rfl,fun h=>?_⟩;obtain⟨h1,h2,h3,h4,M,hM,hT⟩:=hg c;rw[hb.1 h]at h2 h3 h4 hM;refine⟨k,h2,h3,h4,fun i d hd=>hT (by simpa using hM.symm) i d (Nat.zero_le _) hd⟩
  ·rw[zq0 c];exact⟨_,rfl,fun h=>Bool.noConfusion h⟩
 ·rw[zq0 k,zB,zq0 (show ¬(12:Int)=0 by decide)];exact⟨_,rfl,fun h=>Bool.noConfusion h⟩
theorem z5r{a b:zA}(h:uO a=uO b):a.K=b.K∧a.N=b.N∧a.S=b.S∧a.L.map uO=b.L.map uO:=by
 rw[z2i a,z2i b]at h;injection h with h1 h2 h3 h4;exact⟨h1,h2,h3,h4⟩
theorem v2d(m:zA)(a:zA):∀(b:zA) (l:List Int),uO a=uO b→zN m a l=zN m b l:=by
 induction a using zA.ind with
 |h a ih=>
  intro b l h;obtain⟨h1,h2,h3,h4⟩:=z5r h;have hl:a.L.length=b.L.length:=by have:=congrArg List.length h4;simpa using this
  rw[wQ m a,wQ m b];unfold wK;rw[h1,h2,hl];by_cases c:(List.length b.L:Int)=1
  ·obtain⟨y,hy⟩:=v1E c;obtain⟨x,hx⟩:=v1E (l:=a.L) (by omega);rw[hx,hy]at h4;injection h4 with h4;rw[hx,hy,show idx [x] 0=some x from rfl,show idx [y] 0=some y from rfl,zB,zB,ih x (by rw[hx];exact List.mem_singleton_self x) y l h4]
  ·rw[zq0 c,zq0 c]
theorem v6f{m a b:zA}(h:uO a=uO b):Good m a→Good m b:=fun⟨n,e,hn⟩=>⟨n,by rw[←v2d m a b [] h];exact e,hn⟩
theorem v4b{m a b:zA}(h:uO a=uO b):(vY m a).length=(vY m b).length∧∀(i:Nat) x y,(vY m a)[i]?=some x→(vY m b)[i]?=some y→uO x=uO y:=by
 obtain⟨h1,h2,h3,h4⟩:=z5r h;unfold vY;by_cases k:b.K=3
 ·rw[zq1 (h1.trans k),zq1 k,h2];refine⟨by simp,fun i x y hx hy=>?_⟩;rw[List.eq_of_mem_replicate (List.mem_of_getElem? hx),List.eq_of_mem_replicate (List.mem_of_getElem? hy)];unfold hd;cases ha:a.L with
  |nil=>rw[ha]at h4;cases hb:b.L with
   |nil=>rfl
   |cons y r=>rw[hb]at h4;simp at h4
  |cons x r=>rw[ha]at h4;cases hb:b.L with
   |nil=>rw[hb]at h4;simp at h4
   |cons y r=>rw[hb]at h4;simp at h4;exact h4.1
 ·rw[zq0 (by omega),zq0 k];by_cases k:b.K=4
  ·rw[zq1 (h1.trans k),zq1 k,h2];exact⟨rfl,fun i x y hx hy=>by rw[hx]at hy;cases hy;rfl⟩
  ·rw[zq0 (by omega),zq0 k];exact⟨rfl,fun i x y hx=>by simp at hx⟩
theorem Fit.congr{m a:zA}{v:Value}(h:Fit m a v):∀b,uO a=uO b→Fit m b v:=by
 induction h with
 |mk t v h1 h2 h3 h4 ih=>
  intro b hb;obtain⟨l,hp⟩:=v4b (m:=m) hb;refine .mk b v (v6f hb h1) (by rw[←(z5r hb).1];exact h2) (by omega) fun i x y hx hy=>?_;have hlt:=(List.getElem?_eq_some_iff.1 hx).1;have g:=List.getElem?_eq_getElem (l:=vY m t) (i:=i) (by omega);exact ih i _ y g hy x (hp i _ x g hx)
theorem y3V{m a:zA}{v:Value}(h:Fit m a v):Fit m (uO a) v:=h.congr _ (z6B a).symm
theorem v8R(m:zA):Good m y9d:=⟨1,by rw[wQ];rfl,by decide⟩
theorem v7d(m:zA):Good m y3B:=⟨1,by rw[wQ];rfl,by decide⟩
theorem y5E(m:zA)(n:Int):Fit m y9d ⟨n,[]⟩:=.mk _ _ (v8R m) ⟨fun h=>absurd h (by decide),fun h=>absurd rfl h⟩ rfl fun i x y hx=>by simp[vY]at hx
theorem z7y(m:zA)(n:Int)(h:n=0∨n=1):Fit m y3B ⟨n,[]⟩:=.mk _ _ (v7d m) ⟨fun _=>h,fun _ h'=>absurd rfl h'⟩ rfl fun i x y hx=>by simp[vY]at hx
abbrev v0:Value:=⟨0,[]⟩
inductive Job where
 |E (t:zA)
 |L (l:List zA)
 |C (f:Int) (a:List Value)
 |S (t:zA)
 |B (l:List zA)
 |W (v:Value) (t:zA)
 |F (n:Nat) (i hi:Int) (x:zA)
 |Y (t:zA) (kept:Value)
structure Out where
 v:Value
 l:List Value
 w:List Int
abbrev o0:Out:=⟨v0,[],[]⟩
abbrev oN(n:Int):Out:=⟨⟨n,[]⟩,[],[]⟩
abbrev oV(v:Value):Out:=⟨v,[],[]⟩
inductive P where
 |ret (o:Out) (s:State)
 |call (j:Job) (s:State) (k:Out→State→P)
 |pay (s:State) (k:State→P)
 |bad
def P.opt{α:Type}(x:Option α)(k:α→P):P:=match x with|some a=>k a|none=>.bad
def P.on(s:State)(o:Out)(k:P):P:=if s.Kind=0 then k else .ret o s
def y0b(l:List Value)(n:Int):Option Value:=if n<0 then none else l.reverse[n.toNat]?
def y9o(l:List Value)(n:Int):Option Value:=if n<0 then none else l[n.toNat]?
def y1a(n:Int)(s:State):State:={s with Kind:=2,N:=n}
noncomputable def z1G(m t:zA)(s:State):P:=
 if t.K=5∨t.K=6 then .ret (oN t.N) s
 else if t.K=7 then .opt (y0b s.Locals t.N) fun v=>.ret (oV v) s
 else if t.K=9 then .opt (y9o s.Globals t.N) fun v=>.ret (oV v) s
 else if t.K=8 then .opt m.L[t.N.toNat]? fun d=>.opt d.L[0]? fun x=>.ret (oN x.N) s
 else if t.K=18 then(if s.At≥(s.Input.length:Int)then .ret o0 (y1a 3 s)else .opt s.Input[s.At.toNat]? fun n=>.ret (oN n) {s with At:=s.At+1})
 else if t.K=10 then .opt t.L[0]? fun a=>.opt t.L[1]? fun b=>.call (.E a) s fun o s=>.on s o0
  (if t.N=2∧o.v.N=0 then .ret (oN 0) s else if t.N=1∧o.v.N≠0 then .ret (oN 1) s else
   .call (.E b) s fun p s=>.on s (oV p.v) (if t.N=1∨t.N=2 then .ret (oV p.v) s else .opt (z2N t.N o.v.N p.v.N) fun q=>if q.2=0 then .ret (oN q.1) s else .ret o0 (y1a q.2 s)))
 else .call (.L t.L) s fun o s=>.on s o0
  (if t.K=11 then .opt o.l[0]? fun v=>.opt (z1D t.N v.N) fun n=>.ret (oN n) s
   else if t.K=12 then .opt o.l[0]? fun v=>.opt o.l[1]? fun i=>if i.N<0∨i.N≥(v.L.length:Int)then .ret o0 (y1a 2 s)else .opt v.L[i.N.toNat]? fun x=>.ret (oV x) s
   else if t.K=13 then .opt o.l[0]? fun v=>.opt v.L[(Int.tmod t.N 64).toNat]? fun x=>.ret (oV x) s
   else if t.K=16 then .call (.C t.N o.l) s fun o s=>.ret (oV o.v) s
   else .ret (oV ⟨0,o.l⟩) s)
noncomputable def v6x(m:zA)(f:Int)(a:List Value)(s:State):P:=
 .opt m.L[f.toNat]? fun d=>.opt d.L[2]? fun b=>.opt d.L[1]? fun r=>.call (.S b) {s with Locals:=a} fun _ s' =>
  if s'.Kind=1 then .ret (oV s'.Ret) {s' with Locals:=s.Locals,Kind:=0,Ret:=v0}
  else if s'.Kind=0 then .opt (vC m r) fun z=>.ret (oV z) {s' with Locals:=s.Locals}
  else .ret o0 {s' with Locals:=s.Locals}
def cut(s:State)(n:Nat)(k:State→P):P:=if n≤s.Locals.length then k {s with Locals:=s.Locals.take n}else .bad
noncomputable def y0Z(m t:zA)(s:State):P:=
 if t.K=29 then .call (.B t.L) s fun _ s'=>cut s' s.Locals.length fun s'=>.ret o0 s'
 else if t.K=21 then .opt t.L[0]? fun x=>.opt (vC m x) fun z=>.ret o0 {s with Locals:=s.Locals++[z]}
 else if t.K=22 then .opt t.L[0]? fun a=>.opt t.L[1]? fun b=>.call (.E b) s fun o s=>.on s o0 (.opt (uB a) fun r=>
  if r.K=9 then .opt (y9o s.Globals r.N) fun v=>.call (.Y a v) s fun p s'=>.on s' o0 (.opt (y9o s'.Globals r.N) fun u=>.opt (uA u p.w o.v) fun x=>.ret o0 {s' with Globals:=s'.Globals.set r.N.toNat x})
  else .opt (y0b s.Locals r.N) fun v=>.call (.Y a v) s fun p s'=>.on s' o0 (.opt (y0b s'.Locals r.N) fun u=>.opt (uA u p.w o.v) fun x=>.ret o0 {s' with Locals:=(s'.Locals.reverse.set r.N.toNat x).reverse}))
 else .opt t.L[0]? fun e=>.call (.E e) s fun o s=>.on s o0
  (if t.K=20 then .ret o0 {s with Locals:=s.Locals++[o.v]}
   else if t.K=26 then .ret o0 {s with Trace:=s.Trace++[o.v.N]}
   else if t.K=27 then .ret o0 {s with Kind:=1,Ret:=o.v}
   else if t.K=23 then(if o.v.N=0 then .opt t.L[2]? fun x=>.call (.S x) s fun _ s=>.ret o0 s else .opt t.L[1]? fun x=>.call (.S x) s fun _ s=>.ret o0 s)
   else if t.K=24 then .call (.W o.v t) s fun _ s=>.ret o0 s
   else if t.K=25 then .opt t.L[1]? fun b=>.opt t.L[2]? fun x=>.call (.E b) s fun p s=>.on s o0 (.call (.F s.Locals.length o.v.N p.v.N x) s fun _ s=>.ret o0 s)
   else .ret o0 s)
noncomputable def step(m:zA):Job→State→P
 |.E t,s=>.pay s (z1G m t)
 |.L [],s=>.ret o0 s
 |.L (x::r),s=>.call (.E x) s fun o s=>.call (.L r) s fun p s=>.ret ⟨v0,o.v::p.l,[]⟩ s
 |.C f a,s=>v6x m f a s
 |.S t,s=>.pay s (y0Z m t)
 |.B [],s=>.ret o0 s
 |.B (x::r),s=>.call (.S x) s fun _ s=>.call (.B r) s fun _ s=>.ret o0 s
 |.W v t,s=>.on s o0 (if v.N=0 then .ret o0 s else .opt t.L[1]? fun x=>.opt t.L[0]? fun e=>.call (.S x) s fun _ s=>.call (.E e) s fun o s=>.call (.W o.v t) s fun _ s=>.ret o0 s)
 |.F n i hi x,s=>.pay s fun s=>if i≥hi then .ret o0 s else .call (.S x) {s with Locals:=s.Locals++[⟨i,[]⟩]} fun _ s=>cut s n fun s=>.call (.F n (IntKind.wrap .i64 (i+1)) hi x) s fun _ s=>.ret o0 s
 |.Y t kept,s=>
  if t.K=12 then .opt t.L[0]? fun a=>.opt t.L[1]? fun b=>.call (.Y a kept) s fun p s=>.on s ⟨v0,[],p.w⟩ (.call (.E b) s fun o s=>.on s ⟨v0,[],p.w⟩
   (if o.v.N<0 then .ret ⟨v0,[],p.w⟩ (y1a 2 s)else .opt (uU kept p.w) fun g=>if o.v.N≥(g.L.length:Int)then .ret ⟨v0,[],p.w⟩ (y1a 2 s)else .ret ⟨v0,[],p.w++[o.v.N]⟩ s))
  else if t.K=13 then .opt t.L[0]? fun a=>.call (.Y a kept) s fun p s=>.on s ⟨v0,[],p.w⟩ (.ret ⟨v0,[],p.w++[Int.tmod t.N 64]⟩ s)
  else .ret o0 s
inductive Run(m:zA):P→Out→State→Prop
 |ret (o:Out) (s:State):Run m (.ret o s) o s
 |call (j:Job) (s:State) (k:Out→State→P) (o1:Out) (s1:State) (o:Out) (s':State):Run m (step m j s) o1 s1→Run m (k o1 s1) o s'→Run m (.call j s k) o s'
 |ended (s:State) (k:State→P):s.Kind≠0→Run m (.pay s k) o0 s
 |dry (s:State) (k:State→P):s.Kind=0→s.Fuel≤0→Run m (.pay s k) o0 {s with Kind:=3}
 |pay (s:State) (k:State→P) (o:Out) (s':State):s.Kind=0→0<s.Fuel→Run m (k {s with Fuel:=s.Fuel-1}) o s'→Run m (.pay s k) o s'
abbrev G(m:zA)(j:Job)(s:State)(o:Out)(s':State):Prop:=Run m (step m j s) o s'
theorem run_ret{m:zA}{o o':Out}{s s':State}:Run m (.ret o s) o' s'↔o'=o∧s'=s:=⟨fun h=>by cases h;exact⟨rfl,rfl⟩,fun⟨a,b⟩=>by subst a;subst b;exact .ret _ _⟩
theorem run_call{m:zA}{j:Job}{k:Out→State→P}{o':Out}{s s':State}:Run m (.call j s k) o' s'↔∃o1 s1,G m j s o1 s1∧Run m (k o1 s1) o' s':=⟨fun h=>by cases h with|call _ _ _ o1 s1 _ _ a b=>exact⟨o1,s1,a,b⟩,fun⟨o1,s1,a,b⟩=>.call _ _ _ o1 s1 _ _ a b⟩
theorem w0k{m:zA}{o':Out}{s':State}:¬Run m .bad o' s':=fun h=>by cases h
theorem run_opt{m:zA}{α:Type}{x:Option α}{k:α→P}{o':Out}{s':State}:Run m (.opt x k) o' s'↔∃a,x=some a∧Run m (k a) o' s':=by
 cases x with
 |none=>exact⟨fun h=>absurd h w0k,fun⟨a,e,_⟩=>by cases e⟩
 |some a=>exact⟨fun h=>⟨a,rfl,h⟩,fun⟨b,e,h⟩=>by cases e;exact h⟩
theorem run_on{m:zA}{s:State}{o:Out}{k:P}{o':Out}{s':State}:Run m (.on s o k) o' s'↔(s.Kind=0∧Run m k o' s')∨(s.Kind≠0∧o'=o∧s'=s):=by
 unfold P.on;by_cases h:s.Kind=0
 ·rw[zq1 h];exact⟨fun g=>.inl ⟨h,g⟩,fun g=>g.elim (fun g=>g.2) (fun g=>absurd h g.1)⟩
 ·rw[zq0 h,run_ret];exact⟨fun g=>.inr ⟨h,g⟩,fun g=>g.elim (fun g=>absurd g.1 h) (fun g=>g.2)⟩
theorem run_pay{m:zA}{s:State}{k:State→P}{o':Out}{s':State}:Run m (.pay s k) o' s' ↔
  (s.Kind≠0∧o'=o0∧s'=s)∨(s.Kind=0∧s.Fuel≤0∧o'=o0∧s'={s with Kind:=3})∨(s.Kind=0∧0<s.Fuel∧Run m (k {s with Fuel:=s.Fuel-1}) o' s'):=by
 constructor
 ·intro h;cases h with
  |ended _ _ h=>exact .inl ⟨h,rfl,rfl⟩
  |dry _ _ h1 h2=>exact .inr (.inl ⟨h1,h2,rfl,rfl⟩)
  |pay _ _ _ _ h1 h2 h3=>exact .inr (.inr ⟨h1,h2,h3⟩)
 ·rintro(⟨h,rfl,rfl⟩|⟨h1,h2,rfl,rfl⟩|⟨h1,h2,h3⟩)
  ·exact .ended _ _ h
  ·exact .dry _ _ h1 h2
  ·exact .pay _ _ _ _ h1 h2 h3
theorem Run.det{m:zA}{p:P}{o o':Out}{s s':State}(h:Run m p o s):Run m p o' s'→o'=o∧s'=s:=by
 intro h';induction h generalizing o' s' with
 |ret o s=>exact run_ret.1 h'
 |call j s k o1 s1 o s2 _ _ ih1 ih2=>
  obtain⟨o3,s3,a,b⟩:=run_call.1 h';obtain⟨rfl,rfl⟩:=ih1 a;exact ih2 b
 |ended s k h=>
  rcases run_pay.1 h' with h1|h1|h1
  ·exact h1.2
  ·exact absurd h1.1 h
  ·exact absurd h1.1 h
 |dry s k h1 h2=>
  rcases run_pay.1 h' with g|g|g
  ·exact absurd h1 g.1
  ·exact g.2.2
  ·exact absurd g.2.1 (by omega)
 |pay s k o s' h1 h2 _ ih=>
  rcases run_pay.1 h' with g|g|g
  ·exact absurd h1 g.1
  ·exact absurd g.2.1 (by omega)
  ·exact ih g.2.2
inductive VW:Value→Prop
 |mk (y:Value):InK .i64 y.N→y.L.length≤1000000000→(∀x∈y.L,VW x)→VW y
theorem VW.N_{y:Value}(h:VW y):InK .i64 y.N:=by cases h;assumption
theorem VW.L_{y:Value}(h:VW y):y.L.length≤1000000000∧∀x∈y.L,VW x:=by cases h;exact⟨by assumption,by assumption⟩
theorem VW.of{v:Value}(h:Vok v):Value.Wf v→VW v:=by
 induction h with
 |mk v h1 h2 ih=>exact fun hw=>.mk v hw.N_ h1 fun x hx=>ih x hx (hw.L_.2 x hx)
structure StOk(m:zA)(N:Int)(Γ:List zA)(s:State):Prop where
 gl:s.Globals.length=m.L.length
 gf:∀(i:Nat) d x v,m.L[i]?=some d→d.K=32→d.L=[x]→s.Globals[i]?=some v→Fit m x v
 gw:∀v∈s.Globals,VW v
 ll:s.Locals.length=Γ.length
 lf:∀(i:Nat) τ v,Γ[i]?=some τ→s.Locals[i]?=some v→Fit m τ v
 lw:∀v∈s.Locals,VW v
 at0:0≤s.At
 at1:s.At≤(s.Input.length:Int)
 inl:s.Input.length≤1000000000
 inw:∀n∈s.Input,InK .i64 n
 fuel0:0≤s.Fuel
 fuel1:s.Fuel≤1000000
 room:(s.Locals.length:Int)+s.Fuel≤1000000000
 tr:(s.Trace.length:Int)+s.Fuel≤N
 trN:N≤1000000000
 rt:VW s.Ret
theorem StOk.same{m:zA}{N:Int}{Γ:List zA}{s s':State}(h:StOk m N Γ s)(e1:s'.Globals=s.Globals)(e2:s'.Locals=s.Locals)(e3:s'.Input=s.Input)(e4:s'.At=s.At)(e5:s'.Trace=s.Trace)(e6:s'.Fuel=s.Fuel)(e7:VW s'.Ret):StOk m N Γ s':=by
 cases h;constructor<;>(try simp only[e1,e2,e3,e4,e5,e6])<;>assumption
theorem StOk.pay{m:zA}{N:Int}{Γ:List zA}{s:State}(h:StOk m N Γ s)(hf:0<s.Fuel):StOk m (N-1) Γ {s with Fuel:=s.Fuel-1} where
 gl:=h.gl
 gf:=h.gf
 gw:=h.gw
 ll:=h.ll
 lf:=h.lf
 lw:=h.lw
 at0:=h.at0
 at1:=h.at1
 inl:=h.inl
 inw:=h.inw
 fuel0:=by have:=h.fuel0;simp only;omega
 fuel1:=by have:=h.fuel1;simp only;omega
 room:=by have:=h.room;simp only;omega
 tr:=by have:=h.tr;simp only;omega
 trN:=by have:=h.trN;omega
 rt:=h.rt
theorem StOk.push{m:zA}{N:Int}{Γ:List zA}{s:State}(h:StOk m N Γ s){τ:zA}{v:Value}(hv:Fit m τ v)(hw:VW v)(hr:(s.Locals.length:Int)+1+s.Fuel≤1000000000):StOk m N (Γ++[τ]) {s with Locals:=s.Locals++[v]} where
 gl:=h.gl
 gf:=h.gf
 gw:=h.gw
 ll:=by simp[h.ll]
 lf:=by
  intro i τ' v' h1 h2;simp only at h2;by_cases c:i<Γ.length
  ·rw[List.getElem?_append_left c]at h1;rw[List.getElem?_append_left (by rw[h.ll];exact c)]at h2;exact h.lf i τ' v' h1 h2
  ·rw[List.getElem?_append_right (by omega)]at h1;rw[List.getElem?_append_right (by rw[h.ll];omega),h.ll]at h2;have:i-Γ.length=0:=by have:=(List.getElem?_eq_some_iff.1 h1).1;simp at this;omega
   rw[this]at h1 h2;cases h1;cases h2;exact hv
 lw:=by
  intro v' hv';rcases List.mem_append.1 hv' with h'|h'
  ·exact h.lw v' h'
  ·rw[List.mem_singleton.1 h'];exact hw
 at0:=h.at0
 at1:=h.at1
 inl:=h.inl
 inw:=h.inw
 fuel0:=h.fuel0
 fuel1:=h.fuel1
 room:=by simp only[List.length_append,List.length_singleton];omega
 tr:=h.tr
 trN:=h.trN
 rt:=h.rt
theorem StOk.mono{m:zA}{N N':Int}{Γ:List zA}{s:State}(h:StOk m N Γ s)(h1:N≤N')(h2:N'≤1000000000):StOk m N' Γ s:={h with tr:=by have:=h.tr;omega,trN:=h2}
theorem StOk.call{m:zA}{N:Int}{Γ Δ:List zA}{s:State}(h:StOk m N Γ s){a:List Value}(hl:a.length=Δ.length)(hf:∀(i:Nat) τ v,Δ[i]?=some τ→a[i]?=some v→Fit m τ v)(hw:∀v∈a,VW v)(hr:(a.length:Int)+s.Fuel≤1000000000):StOk m N Δ {s with Locals:=a} where
 gl:=h.gl
 gf:=h.gf
 gw:=h.gw
 ll:=hl
 lf:=hf
 lw:=hw
 at0:=h.at0
 at1:=h.at1
 inl:=h.inl
 inw:=h.inw
 fuel0:=h.fuel0
 fuel1:=h.fuel1
 room:=hr
 tr:=h.tr
 trN:=h.trN
 rt:=h.rt
theorem StOk.back{m:zA}{N:Int}{Γ Δ:List zA}{s s':State}(h:StOk m N Γ s)(h':StOk m N Δ s')(hf:s'.Fuel≤s.Fuel):StOk m N Γ {s' with Locals:=s.Locals}:=
 h'.call h.ll h.lf h.lw (by have:=h.room;omega)
theorem y0p{n:Int}(h:InK .i64 n):VW ⟨n,[]⟩:=.mk _ h (by simp) (fun x hx=>by cases hx)
theorem v8m:VW v0:=y0p (by rw[i64_iff];omega)
theorem z9J(n:Int):InK .i64 (IntKind.wrap .i64 n):=by rw[i64_iff,z7d];omega
theorem y9b{n:Int}(h:InK .i64 n):v9Y n:=by
 have:=i64_iff.1 h;unfold v9Y;omega
theorem v0g(b:Bool):b01 b=0∨b01 b=1:=by cases b<;>simp[b01]
theorem y9a(b:Bool):InK .i64 (b01 b):=by rw[i64_iff];rcases v0g b with h|h<;>rw[h]<;>omega
theorem v9x(k a b:Int)(ha:InK .i64 a)(hb:InK .i64 b):InK .i64 (y3U k a b).1:=by
 unfold y3U;split
 ·exact y9a _
 split
 ·exact y9a _
 split
 ·exact y9a _
 split
 ·exact z9J _
 split
 ·exact z9J _
 split
 ·exact z9J _
 split
 ·split
  ·rw[i64_iff];simp
  ·exact z9J _
 split
 ·split
  ·rw[i64_iff];simp
  ·rename_i h
   have ha:=i64_iff.1 ha;have hb:=i64_iff.1 hb;rw[i64_iff];simp only;rw[Int.tmod_eq_emod];have h1:=Int.emod_nonneg a h;have h2:=Int.emod_lt a h;split<;>omega
 ·rw[i64_iff];simp
theorem y6p(k a b:Int)(hk:1≤k∧k≤8):(y3U k a b).2=0∧((y3U k a b).1=0∨(y3U k a b).1=1):=by
 unfold y3U;split
 ·exact⟨rfl,v0g _⟩
 split
 ·exact⟨rfl,v0g _⟩
 rw[zq1 (by omega)];exact⟨rfl,v0g _⟩
def v8u(m τ:zA)(o:Out)(s':State):Prop:=(s'.Kind=0∧Fit m τ o.v∧VW o.v)∨((s'.Kind=2∨s'.Kind=3)∧o=o0)
def y7g(m:zA)(f:Nat):Prop:=∀N Γ t τ s,TE m Γ t τ→zA.Wf t→zI t≤100000000→StOk m N Γ s→(s.Kind=0∨s.Kind=2∨s.Kind=3)→s.Fuel≤f →
 ∃o s',G m (.E t) s o s'∧zK m s t=some ⟨o.v,s'⟩∧StOk m N Γ s'∧s'.Fuel≤s.Fuel∧(s'.Kind=0→s'.Fuel<s.Fuel∧StOk m (N-1) Γ s')∧v8u m τ o s'
def v9B(m:zA)(f:Nat):Prop:=∀N Γ (l p:List zA) s,(∀(i:Nat) x y,l[i]?=some x→p[i]?=some y→TE m Γ x y)→p.length=l.length→(∀x∈l,zA.Wf x∧zI x≤100000000)→StOk m N Γ s→(s.Kind=0∨s.Kind=2∨s.Kind=3)→s.Fuel≤f →
 ∃o s',G m (.L l) s o s'∧(∀(full:List zA) (out:List Value) (i:Nat) z,full.drop i=l→i+l.length=full.length→out.length=i→full.length≤1000000000→vV full out i m s z=some (out++o.l,s')) ∧
  StOk m N Γ s'∧s'.Fuel≤s.Fuel∧(s'.Kind=0∨s'.Kind=2∨s'.Kind=3)∧o.l.length=l.length∧(s'.Kind=0→∀(i:Nat) y v,p[i]?=some y→o.l[i]?=some v→Fit m y v∧VW v)
def v9A(m:zA)(f:Nat):Prop:=∀N Γ (k:Nat) d ps r b (a:List Value) s,m.L[k]?=some d→v9L m d ps r b→a.length=ps.L.length→(∀(i:Nat) x v,ps.L[i]?=some x→a[i]?=some v→Fit m (hd x) v)→(∀v∈a,VW v)→StOk m N Γ s→s.Kind=0→s.Fuel≤f →
 ∃o s',G m (.C k a) s o s'∧uE m s k a=some ⟨o.v,s'⟩∧StOk m N Γ s'∧s'.Fuel≤s.Fuel∧v8u m r o s'
theorem w0H(m:zA)(f:Nat)(CE:y7g m f):v9B m f:=by
 intro N Γ l;induction l with
 |nil=>
  intro p s hT hp hb hs hk hf;refine⟨o0,s,.ret _ _,fun full out i z hd hi ho hl=>?_,hs,Int.le_refl _,hk,rfl,fun _ i y v _ hv=>by simp at hv⟩;rw[z9z];unfold z0O;rw[zq0 (by simp at hi;omega)];simp
 |cons x r ih=>
  intro p s hT hp hb hs hk hf;cases p with
  |nil=>simp at hp
  |cons y q=>
   obtain⟨hw,hsz⟩:=hb x (List.mem_cons_self ..);obtain⟨o1,s1,hG,hM,hs1,hf1,-,hE⟩:=CE N Γ x y s (hT 0 x y rfl rfl) hw hsz hs hk hf;obtain⟨o2,s2,hG2,hM2,hs2,hf2,hk2,hl2,hF2⟩:=ih q s1 (fun i a b h1 h2=>hT (i+1) a b h1 h2) (by simpa using hp) (fun a ha=>hb a (List.mem_cons_of_mem _ ha)) hs1 (by rcases hE with h|h<;>omega) (by omega)
   refine⟨⟨v0,o1.v::o2.l,[]⟩,s2,.call _ _ _ o1 s1 _ _ hG (.call _ _ _ o2 s2 _ _ hG2 (.ret _ _)),fun full out i z hd hi ho hl=>?_,hs2,by omega,hk2,by simp[hl2],fun h0 i a v ha hv=>?_⟩
   ·have hlt:i<full.length:=by simp at hi;omega
    have e1:=List.drop_eq_getElem_cons hlt;rw[hd]at e1;injection e1 with e1 e2;rw[z9z];unfold z0O;rw[zq1 (by omega),wG hlt,zB,←e1,hM,zB,zq1 (jG (by omega) (by simp;omega)),z1C (by omega),hM2 full _ (i+1) z e2.symm (by simp at hi ⊢;omega) (by simp[ho]) hl];simp
   ·cases i with
    |zero=>
     simp at ha hv;subst ha;subst hv;rcases hE with⟨_,h1,h2⟩|⟨h,_⟩
     ·exact⟨h1,h2⟩
     ·exfalso;have e:s2=s1:=by
       have:∀(l:List zA) o s',G m (.L l) s1 o s'→s'=s1:=by
        intro l;induction l with
        |nil=>intro o s' g;exact(run_ret.1 g).2
        |cons a l ihl=>
         intro o s' g;obtain⟨o3,s3,g1,g2⟩:=run_call.1 g;obtain⟨o4,s4,g3,g4⟩:=run_call.1 g2;have:s3=s1:=by
          rcases run_pay.1 g1 with q|q|q
          ·exact q.2.2
          ·omega
          ·omega
         subst this;have:=ihl _ _ g3;rw[←this];exact(run_ret.1 g4).2
       exact this r o2 s2 hG2
      rw[e]at h0;omega
    |succ i=>exact hF2 h0 i a v ha hv
end Go.Proofs.YtcpblelppecabaaGreat.M

