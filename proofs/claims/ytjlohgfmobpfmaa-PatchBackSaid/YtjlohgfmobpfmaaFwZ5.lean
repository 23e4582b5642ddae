import Derived.Test.YtjlohgfmobpfmaaFwZ4
namespace Nt
open Go
set_option linter.unusedVariables false
abbrev Str:=List UInt8
@[reducible] def eS{α:Type}(f:α→D)(l:List α):D:=.sl (List.map f l)
def idx{α:Type}(l:List α)(i:Int):Option α:=if 0≤i then l[Int.toNat i]? else none
instance(b n:Nat):Decidable (z3e b n):=inferInstanceAs (Decidable (_∧_))
theorem jK{α:Type}{c:Prop}[Decidable c]{b:Bool}{A B:Option α}{r:α}{A' B':Prop}(hb:b=true↔c)(h:(if c then A else B)=some r)(hA:c→A=some r→A')(hB:¬c→B=some r→B'):cond b A' B':=by
 by_cases hc:c
 ·rw[zq1 hc]at h;rw[hb.2 hc];exact hA hc h
 ·rw[zq0 hc]at h;have:b=false:=by cases b with|false=>rfl|true=>exact absurd (hb.1 rfl) hc
  rw[this];exact hB hc h
theorem wV{α:Type}{c:Prop}[Decidable c]{b:Bool}{A B:Option α}{r:α}{A' B':Prop}(hb:b=true↔c)(h:(if c then A else B)=some r)(hA:c→A=some r→A')(hB:¬c→B=some r→B'):cond (!b) B' A':=by
 have:=jK hb h hA hB;cases b<;>exact this
theorem z3i{α:Type}{P:Prop}[Decidable P]{A:Option α}{r:α}(h:(if P then A else none)=some r):P∧A=some r:=by
 by_cases hc:P
 ·rw[zq1 hc]at h;exact⟨hc,h⟩
 ·rw[zq0 hc]at h;cases h
theorem yS{α β:Type}{a:Option α}{k:α→Option β}{r:β}(h:(a>>=k)=some r):∃x,a=some x∧k x=some r:=by
 cases a with
 |none=>cases h
 |some x=>exact⟨x,rfl,h⟩
theorem z3k{α:Type}{e e':α}{P:α→Prop}(he:e=e')(h:P e'):∀r,r=e→P r:=fun r hr=>by rw[hr,he];exact h
theorem z7t{α:Type}{l:List α}{i:Int}{x:α}(h:idx l i=some x):0≤i:=by
 unfold idx at h;by_cases hc:0≤i
 ·exact hc
 ·rw[zq0 hc]at h;cases h
theorem z9q{α:Type}{l:List α}{i:Int}{x:α}(h:idx l i=some x):l[Int.toNat i]?=some x:=by
 have:=z7t h;unfold idx at h;rwa [zq1 this]at h
theorem z9i{α:Type}{f:α→D}{l:List α}{n:Nat}{x:α}(h:l[n]?=some x):(List.map f l)[n]?=some (f x):=by rw[List.getElem?_map,h];rfl
theorem z3j{α:Type}{f:α→D}{l:List α}{i:Int}{x:α}{d:D}(e:f x=d)(h:idx l i=some x):(List.map f l)[Int.toNat i]?=some d:=by rw[z9i (z9q h),e]
theorem uQ{α:Type}{f:α→D}{n:Nat}{l:List α}(h:∀x,(f x).cells.length=n):yB n (List.map f l):=fun y hy=>by
 obtain⟨x,-,rfl⟩:=List.mem_map.1 hy;exact h x
section
variable {I:Type} {R:I→Type}
abbrev Fam(R:I→Type):=(i:I)→Option (R i)
def FLe(f g:Fam R):Prop:=∀i r,f i=some r→g i=some r
structure Good{α:Type}(E:Fam R→Option α):Prop where
 mono:∀f g,FLe f g→∀r,E f=some r→E g=some r
 cont:∀(c:Nat→Fam R) (L:Fam R),(∀m n,m≤n→FLe (c m) (c n))→(∀i r,L i=some r→∃n,c n i=some r)→∀r,E L=some r→∃n,E (c n)=some r
theorem Good.const{α:Type}(x:Option α):Good (fun _:Fam R=>x):=⟨fun _ _ _ _ h=>h,fun _ _ _ _ _ h=>⟨0,h⟩⟩
theorem Good.call(i:I):Good (fun g:Fam R=>g i):=⟨fun _ _ h r=>h i r,fun _ _ _ h r=>h i r⟩
theorem Good.bind{α β:Type}{E:Fam R→Option α}{K:α→Fam R→Option β}(hE:Good E)(hK:∀x,Good (K x)):Good (fun g=>E g>>=fun x=>K x g):=by
 refine⟨fun f g hl r h=>?_,fun c L hi hL r h=>?_⟩
 ·obtain⟨x,h1,h2⟩:=yS h;show(E g).bind _=_;rw[hE.mono f g hl x h1];exact(hK x).mono f g hl r h2
 ·obtain⟨x,h1,h2⟩:=yS h;obtain⟨n,hn⟩:=hE.cont c L hi hL x h1;obtain⟨m,hm⟩:=(hK x).cont c L hi hL r h2;refine⟨max n m,?_⟩;show(E (c (max n m))).bind _=_;rw[hE.mono _ _ (hi n _ (Nat.le_max_left n m)) x hn];exact(hK x).mono _ _ (hi m _ (Nat.le_max_right n m)) r hm
theorem Good.ite{α:Type}{p:Prop}[Decidable p]{A B:Fam R→Option α}(hA:Good A)(hB:Good B):Good (fun g=>if p then A g else B g):=by
 by_cases h:p
 ·simpa only[zq1 h]using hA
 ·simpa only[zq0 h]using hB
def z0L(F:Fam R→Fam R):Nat→Fam R
 |0=>fun _=>none
 |n+1=>F (z0L F n)
open Classical in
noncomputable def z6a(F:Fam R→Fam R):Fam R:=fun i=>if h:∃n r,z0L F n i=some r then z0L F h.choose i else none
theorem z2S{F:Fam R→Fam R}(hF:∀i,Good (fun g=>F g i)):∀m n,m≤n→FLe (z0L F m) (z0L F n):=by
 have step:∀n,FLe (z0L F n) (z0L F (n+1)):=by
  intro n;induction n with
  |zero=>intro i r h;cases h
  |succ n ih=>intro i r h;exact(hF i).mono _ _ ih r h
 intro m n hmn;induction hmn with
 |refl=>exact fun _ _ h=>h
 |step _ ih=>exact fun i r h=>step _ i r (ih i r h)
theorem jA{F:Fam R→Fam R}(hF:∀i,Good (fun g=>F g i)){i:I}{r:R i}:z6a F i=some r↔∃n,z0L F n i=some r:=by
 unfold z6a;constructor
 ·intro h;split at h
  ·exact⟨_,h⟩
  ·cases h
 ·rintro⟨n,h⟩;have hx:∃n r,z0L F n i=some r:=⟨n,r,h⟩;rw[dif_pos hx];obtain⟨r',hr'⟩:=hx.choose_spec;have h1:=z2S hF _ _ (Nat.le_max_left n hx.choose) i r h;have h2:=z2S hF _ _ (Nat.le_max_right n hx.choose) i r' hr';rw[hr',←h2,h1]
theorem z6b{F:Fam R→Fam R}(hF:∀i,Good (fun g=>F g i))(i:I):z6a F i=F (z6a F) i:=by
 have hle:∀n,FLe (z0L F n) (z6a F):=fun n i r h=>(jA hF).2 ⟨n,h⟩;apply Option.ext;intro r;constructor
 ·intro h;obtain⟨n,hn⟩:=(jA hF).1 h;cases n with
  |zero=>cases hn
  |succ n=>exact(hF i).mono _ _ (hle n) r hn
 ·intro h;obtain⟨n,hn⟩:=(hF i).cont (z0L F) (z6a F) (z2S hF) (fun i r h=>(jA hF).1 h) r h;exact(jA hF).2 ⟨n+1,hn⟩
theorem z1q{F:Fam R→Fam R}(hF:∀i,Good (fun g=>F g i)){P:(i:I)→R i→Prop}(h:∀g:Fam R,(∀i r,g i=some r→P i r)→∀i r,F g i=some r→P i r):∀i r,z6a F i=some r→P i r:=by
 have step:∀n i r,z0L F n i=some r→P i r:=by
  intro n;induction n with
  |zero=>intro i r h;cases h
  |succ n ih=>exact h _ ih
 intro i r hr;obtain⟨n,hn⟩:=(jA hF).1 hr;exact step n i r hn
end
end Nt

