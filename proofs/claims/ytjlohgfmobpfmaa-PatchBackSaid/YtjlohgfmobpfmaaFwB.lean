import Derived.Test.YtjlohgfmobpfmaaFwA
import Derived.Deep.AppendSrc
import Derived.Deep.MidRow
namespace Nt
open Go
abbrev zJ(w:World)(b o:Nat):Option Value:=w.cell? ⟨b,o,none⟩
abbrev icy(w:World)(b o:Nat):Bool:=w.frozen? ⟨b,o,none⟩
inductive Key where
 |ar (k:Nat)
 |hp (id:Nat)
 |ho (id off:Nat)
 deriving DecidableEq
abbrev Kap:=Key→Option (Nat×Nat)
def Mut(M0:Nat→Nat→Prop)(κ:Kap)(b o:Nat):Prop:=M0 b o∨∃key lo,κ key=some (b,lo)∧lo≤o
mutual
inductive RelV(w:World)(M:Nat→Nat→Prop):Value→D→Prop
 |bool (b:Bool):RelV w M (.bool b) (.bool b)
 |int (k:IntKind) (n:Int):RelV w M (.int k n) (.int k n)
 |str (s:List UInt8):RelV w M (.string ⟨⟨s⟩⟩) (.str s)
 |nil:RelV w M (.slice none 0 0) (.sl [])
 |emp (a:Addr):RelV w M (.slice (some a) 0 0) (.sl [])
 |sl (b o cap:Nat) (xs:List D):RelC w M b o (yC xs)→xs.length≤cap→RelV w M (.slice (some ⟨b,o,none⟩) xs.length cap) (.sl xs)
 |agg (vs:List Value) (cs:List D):RelVs w M vs cs→RelV w M (.agg ⟨vs⟩) (.agg cs)
inductive RelVs(w:World)(M:Nat→Nat→Prop):List Value→List D→Prop
 |nil:RelVs w M [] []
 |cons (v:Value) (c:D) (vs:List Value) (cs:List D):c.sc=true→RelV w M v c→RelVs w M vs cs→RelVs w M (v::vs) (c::cs)
inductive RelC(w:World)(M:Nat→Nat→Prop):Nat→Nat→List D→Prop
 |nil (b o:Nat):RelC w M b o []
 |cons (b o:Nat) (v:Value) (c:D) (cs:List D):zJ w b o=some v→¬M b o→c.sc=true→RelV w M v c→RelC w M b (o+1) cs→RelC w M b o (c::cs)
end
structure Keeps(w:World)(M:Nat→Nat→Prop)(w':World)(M':Nat→Nat→Prop):Prop where
 cell:∀b o v,zJ w b o=some v→¬M b o→zJ w' b o=some v
 mu:∀b o v,zJ w b o=some v→¬M b o→¬M' b o
theorem Keeps.refl(w:World)(M:Nat→Nat→Prop):Keeps w M w M:=⟨fun _ _ _ h _=>h,fun _ _ _ _ h=>h⟩
theorem Keeps.trans{w1 w2 w3:World}{M1 M2 M3:Nat→Nat→Prop}(h:Keeps w1 M1 w2 M2)(g:Keeps w2 M2 w3 M3):Keeps w1 M1 w3 M3:=
 ⟨fun b o v hv hm=>g.cell b o v (h.cell b o v hv hm) (h.mu b o v hv hm),fun b o v hv hm=>g.mu b o v (h.cell b o v hv hm) (h.mu b o v hv hm)⟩
mutual
theorem RelV.keep{w w':World}{M M':Nat→Nat→Prop}(K:Keeps w M w' M'):∀{v:Value} {x:D},RelV w M v x→RelV w' M' v x
 |_,_,.bool b=>.bool b
 |_,_,.int k n=>.int k n
 |_,_,.str s=>.str s
 |_,_,.nil=>.nil
 |_,_,.emp a=>.emp a
 |_,_,.sl b o cap xs h hl=>.sl b o cap xs (RelC.keep K h) hl
 |_,_,.agg vs cs h=>.agg vs cs (RelVs.keep K h)
theorem RelVs.keep{w w':World}{M M':Nat→Nat→Prop}(K:Keeps w M w' M'):∀{v:List Value} {x:List D},RelVs w M v x→RelVs w' M' v x
 |_,_,.nil=>.nil
 |_,_,.cons v c vs cs hs h r=>.cons v c vs cs hs (RelV.keep K h) (RelVs.keep K r)
theorem RelC.keep{w w':World}{M M':Nat→Nat→Prop}(K:Keeps w M w' M'):∀{b o:Nat} {x:List D},RelC w M b o x→RelC w' M' b o x
 |_,_,_,.nil b o=>.nil b o
 |_,_,_,.cons b o v c cs hv hm hs h r=>.cons b o v c cs (K.cell b o v hv hm) (K.mu b o v hv hm) hs (RelV.keep K h) (RelC.keep K r)
end
def RightOK(w:World)(κ:Kap)(key:Key)(n:Nat)(v:Value)(xs:List D):Prop:=
 yB n xs∧(v=.slice none 0 0∨(∃a,v=.slice (some a) 0 0∧xs=[])∨∃b o cap,v=.slice (some ⟨b,o,none⟩) xs.length cap ∧
  (cap=xs.length∨(κ key=some (b,o+(yC xs).length)∧∀j,j<cap*n→(∃u,zJ w b (o+j)=some u)∧icy w b (o+j)=false)))
structure Env where
 ar:List (Nat×Nat×Option Ob)
 h:H
 hv:Nat
def Env.ob(E:Env)(k g:Nat):Option Ob:=
 match zC E.ar k with
 |(g',o)=>cond (Nat.beq g' g) o none
abbrev St.env(s:St):Env:=⟨s.ar,s.h,s.hv⟩
def Env.gen(E:Env)(k:Nat):Nat:=(zC E.ar k).1
theorem St.env_ob(s:St)(k g:Nat):s.env.ob k g=s.ob k g:=rfl
def Ob.shape:Ob→Nat×Nat×Nat
 |.agg _=>(0,0,0)
 |.box _=>(0,0,0)
 |.row n xs=>(1,n,xs.length)
 |.tok n l=>(2,n,l)
def Emp(v:Value):Prop:=v=.slice none 0 0∨∃a,v=.slice (some a) 0 0
theorem Emp.relV{w:World}{M:Nat→Nat→Prop}{v:Value}(h:Emp v):RelV w M v (.sl []):=by
 rcases h with rfl|⟨a,rfl⟩
 ·exact .nil
 ·exact .emp a
theorem Emp.right{w:World}{κ:Kap}{key:Key}{n:Nat}{v:Value}(h:Emp v):RightOK w κ key n v []:=⟨fun x hx=>by simp at hx,h.imp id fun⟨a,e⟩=>.inl ⟨a,e,rfl⟩⟩
theorem Emp.one{v:Value}(h:Emp v):v.oneCell'=true:=by
 rcases h with rfl|⟨a,rfl⟩<;>rfl
mutual
inductive RelS(w:World)(M:Nat→Nat→Prop)(κ:Kap)(E:Env):Value→Sv→Prop
 |undef (v:Value):RelS w M κ E v .undef
 |skp:RelS w M κ E Go.undef .skp
 |nilF:RelS w M κ E .nilFunc .nilF
 |bld (v:Value) (x:D) (nils:List (Nat×Nat)):RelV w M v x→(∀i n,(i,n)∈nils→∃(vs:List Value) (u:Value),v=.agg ⟨vs⟩∧vs[i]?=some u∧Emp u)→RelS w M κ E v (.bld x nils)
 |d (v:Value) (x:D):RelV w M v x→RelS w M κ E v (.d x)
 |nilS (v:Value):Emp v→RelS w M κ E v .nilS
 |right (v:Value) (k g n:Nat) (xs:List D):RelV w M v (.sl xs)→g≤E.gen k →
   (∀n' l,E.ob k g=some (.tok n' l)→n'=n∧xs.length≤l∧(l=xs.length→RightOK w κ (.ar k) n v xs))→RelS w M κ E v (.right k g n xs)
 |row (v:Value) (k g:Nat):g≤E.gen k →
   (∀n xs,E.ob k g=some (.row n xs)→∃b cap,v=.slice (some ⟨b,0,none⟩) xs.length cap∧κ (.ar k)=some (b,0)∧xs.length≤cap)→RelS w M κ E v (.row k g)
 |ref (v:Value) (k g off:Nat):g≤E.gen k →
   (∀ob,E.ob k g=some ob→ob.isTok=false→∃b,κ (.ar k)=some (b,0)∧v=.pointer (some ⟨b,off,none⟩))→RelS w M κ E v (.ref k g off)
 |rref (v:Value) (k g n i off:Nat):g≤E.gen k →
   (∀ob,E.ob k g=some ob→ob.isTok=false→∃b,κ (.ar k)=some (b,0)∧v=.pointer (some ⟨b,i*n+off,none⟩))→RelS w M κ E v (.rref k g n i off)
 |iel (b o:Nat) (x:D) (off:Nat):RelC w M b o x.cells→RelS w M κ E (.pointer (some ⟨b,o+off,none⟩)) (.iel x off)
 |hp (b id off:Nat):κ (.hp id)=some (b,0)→RelS w M κ E (.pointer (some ⟨b,off,none⟩)) (.hp id off)
 |lent (v:Value) (id off ver n:Nat) (xs:List D):RelV w M v (.sl xs)→ver≤E.hv →
   (E.hv=ver→∀b cs n' xs',κ (.hp id)=some (b,0)→E.h[id]?=some cs→cs[off]?=some (.own n' xs')→zJ w b off=some v)→RelS w M κ E v (.lent id off ver n xs)
 |fn (f:FuncId) (vs ws:List Value) (first cap:List Sv):vU first=true→vU cap=true→RelSs w M κ E vs first→RelSs w M κ E ws cap→RelS w M κ E (.func (.func f) ⟨vs⟩ ⟨ws⟩) (.fn f first cap)
 |tup (vs:List Value) (svs:List Sv):RelSs w M κ E vs svs→RelS w M κ E (.tuple ⟨vs⟩) (.tup svs)
 |cells (vs:List Value) (svs:List Sv):RelSs w M κ E vs svs→RelS w M κ E (.agg ⟨vs⟩) (.cells svs)
inductive RelSs(w:World)(M:Nat→Nat→Prop)(κ:Kap)(E:Env):List Value→List Sv→Prop
 |nil:RelSs w M κ E [] []
 |cons (v:Value) (s:Sv) (vs:List Value) (ss:List Sv):RelS w M κ E v s→RelSs w M κ E vs ss→RelSs w M κ E (v::vs) (s::ss)
end
theorem RelSs.len'{w:World}{κ:Kap}{M:Nat→Nat→Prop}{E:Env}:∀{vs:List Value} {xs:List Sv},RelSs w M κ E vs xs→vs.length=xs.length
 |_,_,.nil=>rfl
 |_,_,.cons _ _ _ _ _ h=>by simp[RelSs.len' h]
theorem RelSs.get'{w:World}{κ:Kap}{M:Nat→Nat→Prop}{E:Env}:∀{vs:List Value} {xs:List Sv},RelSs w M κ E vs xs→∀(i:Nat) (y:Sv),xs[i]?=some y→∃v,vs[i]?=some v∧RelS w M κ E v y
 |_,_,.nil,i,y,e=>by simp at e
 |_,_,.cons v x vs xs h r,0,y,e=>by simp at e;subst e;exact⟨v,rfl,h⟩
 |_,_,.cons v x vs xs h r,i+1,y,e=>by simpa using RelSs.get' r i y (by simpa using e)
def Box(w:World)(M:Nat→Nat→Prop)(b:Nat)(cs:List D):Prop:=
 ∀i c,cs[i]?=some c→∃v,zJ w b i=some v∧v.oneCell'=true∧c.sc=true∧RelV w M v c∧icy w b i=false
def RelOb(w:World)(M:Nat→Nat→Prop)(κ:Kap)(E:Env)(k:Nat):Ob→Prop
 |.agg x=>∃b,κ (.ar k)=some (b,0)∧Box w M b x.cells
 |.box cs=>∃b,κ (.ar k)=some (b,0)∧∀i c,cs[i]?=some c→∃v,zJ w b i=some v∧v.oneCell'=true∧RelS w M κ E v c∧icy w b i=false
 |.row n xs=>∃b,κ (.ar k)=some (b,0)∧Box w M b (yC xs)∧yB n xs
 |.tok _ _=>True
def RelHc(w:World)(M:Nat→Nat→Prop)(κ:Kap)(E:Env)(id off:Nat)(v:Value):Sv→Prop
 |.own n xs=>RelV w M v (.sl xs)∧RightOK w κ (.ho id off) n v xs
 |c=>c.plain=true∧RelS w M κ E v c
def RelH(w:World)(M:Nat→Nat→Prop)(κ:Kap)(E:Env):Prop:=
 ∀id cs,E.h[id]?=some cs→∃b,κ (.hp id)=some (b,0)∧∀i c,cs[i]?=some c→∃v,zJ w b i=some v∧v.oneCell'=true∧icy w b i=false∧RelHc w M κ E id i v c
structure Kept(B:Nat)(S:Nat→Prop)(w w':World):Prop where
 os:w'.os=w.os
 tape:w'.tape=w.tape
 output:w'.output=w.output
 size:w.heap.size≤w'.heap.size
 block:∀k,k<B→¬S k→w'.heap[k]?=w.heap[k]?
theorem Kept.refl(B:Nat)(S:Nat→Prop)(w:World):Kept B S w w:=⟨rfl,rfl,rfl,Nat.le_refl _,fun _ _ _=>rfl⟩
theorem Kept.trans{B:Nat}{S:Nat→Prop}{a b c:World}(h:Kept B S a b)(k:Kept B S b c):Kept B S a c:=
 ⟨k.os.trans h.os,k.tape.trans h.tape,k.output.trans h.output,Nat.le_trans h.size k.size,fun i hi hs=>(k.block i hi hs).trans (h.block i hi hs)⟩
structure Ctx where
 w0:World
 M0:Nat→Nat→Prop
 κ0:Kap
def Ctx.base(X:Ctx):Nat:=X.w0.heap.size
def Ctx.S(X:Ctx)(b:Nat):Prop:=∃key lo,X.κ0 key=some (b,lo)
structure Grows(w w':World):Prop where
 ex:∀b o v,zJ w b o=some v→∃v',zJ w' b o=some v'
 ic:∀b o v,zJ w b o=some v→icy w b o=false→icy w' b o=false
theorem Grows.refl(w:World):Grows w w:=⟨fun _ _ v h=>⟨v,h⟩,fun _ _ _ _ h=>h⟩
theorem Grows.trans{a b c:World}(h:Grows a b)(g:Grows b c):Grows a c:=
 ⟨fun x y v hv=>let ⟨v',h1⟩:=h.ex x y v hv;g.ex x y v' h1,fun x y v hv hi=>let ⟨v',h1⟩:=h.ex x y v hv;g.ic x y v' h1 (h.ic x y v hv hi)⟩
structure Rel(X:Ctx)(κ:Kap)(s:St)(a:Act)(w:World):Prop where
 m0:∀b o,X.M0 b o→b<X.base∧¬X.S b
 defs:a.defers=[]
 size:a.tmps.size=s.n
 kept:Kept X.base X.S X.w0 w
 k0:Keeps X.w0 (Mut X.M0 X.κ0) w (Mut X.M0 κ)
 g0:Grows X.w0 w
 kb:∀key b lo,κ key=some (b,lo)→b<w.heap.size∧(X.base≤b∨X.S b)
 ki:∀k1 k2 b l1 l2,κ k1=some (b,l1)→κ k2=some (b,l2)→k1=k2
 hn:∀id r,κ (.hp id)=some r→id<s.h.length
 hp0:∀id b,X.κ0 (.hp id)=some (b,0)→κ (.hp id)=some (b,0)
 slots:∀i,RelS w (Mut X.M0 κ) κ s.env (a.tmps.getD i undef) (s.get i)
 obs:∀k g ob,s.ob k g=some ob→RelOb w (Mut X.M0 κ) κ s.env k ob
 heap:RelH w (Mut X.M0 κ) κ s.env
structure Stays(w:World)(M:Nat→Nat→Prop)(κ:Kap)(E:Env)(w':World)(M':Nat→Nat→Prop)(κ':Kap)(E':Env):Prop where
 keeps:Keeps w M w' M'
 hp:∀id b,κ (.hp id)=some (b,0)→κ' (.hp id)=some (b,0)
 gen:∀k,E.gen k≤E'.gen k
 ob:∀k g ob',g≤E.gen k→E'.ob k g=some ob'→∃ob,E.ob k g=some ob∧(ob.shape=ob'.shape∧κ' (.ar k)=κ (.ar k)∨∃n l l',ob=.tok n l∧ob'=.tok n l'∧l<l')
 ex:∀b o v,zJ w b o=some v→∃v',zJ w' b o=some v'
 ic:∀b o v,zJ w b o=some v→icy w b o=false→icy w' b o=false
 hvle:E.hv≤E'.hv
 lent:E'.hv=E.hv→E'.h=E.h∧∀id b off v cs n xs,κ' (.hp id)=some (b,0)→E.h[id]?=some cs→cs[off]?=some (.own n xs)→κ (.hp id)=some (b,0)∧(zJ w b off=some v→zJ w' b off=some v)
theorem RightOK.stay {w w':World} {κ κ':Kap} {key:Key} {n:Nat} {v:Value} {xs:List D} (h:RightOK w κ key n v xs) (hk:κ' key=κ key)
  (ex:∀b o v,zJ w b o=some v→∃v',zJ w' b o=some v') (ic:∀b o v,zJ w b o=some v→icy w b o=false→icy w' b o=false):RightOK w' κ' key n v xs:=by
 obtain⟨hs,h|h|⟨b,o,cap,hv,h|⟨hk0,hc⟩⟩⟩:=h
 ·exact⟨hs,.inl h⟩
 ·exact⟨hs,.inr (.inl h)⟩
 ·exact⟨hs,.inr (.inr ⟨b,o,cap,hv,.inl h⟩)⟩
 ·exact⟨hs,.inr (.inr ⟨b,o,cap,hv,.inr ⟨by rw[hk];exact hk0,fun j hj=>let ⟨⟨u,hu⟩,hi⟩:=hc j hj;⟨ex _ _ u hu,ic _ _ u hu hi⟩⟩⟩)⟩
theorem z6T{ob:Ob}{n l:Nat}(h:ob.shape=(Ob.tok n l).shape):ob=.tok n l:=by
 cases ob<;>simp[Ob.shape]at h ⊢;exact h
theorem z6S{ob:Ob}{n:Nat}{xs:List D}(h:ob.shape=(Ob.row n xs).shape):∃ys,ob=.row n ys∧ys.length=xs.length:=by
 cases ob<;>simp[Ob.shape]at h ⊢;exact⟨_,⟨h.1,rfl⟩,h.2⟩
theorem z1Q{ob ob':Ob}(h:ob.shape=ob'.shape):ob.isTok=ob'.isTok:=by
 cases ob<;>cases ob'<;>simp[Ob.shape,Ob.isTok]at h ⊢
mutual
theorem RelS.stay{w w':World}{M M':Nat→Nat→Prop}{κ κ':Kap}{E E':Env}(T:Stays w M κ E w' M' κ' E'):∀{v:Value} {x:Sv},RelS w M κ E v x→RelS w' M' κ' E' v x
 |_,_,.undef v=>.undef v
 |_,_,.skp=>.skp
 |_,_,.nilF=>.nilF
 |_,_,.bld v x l h g=>.bld v x l (h.keep T.keeps) g
 |_,_,.d v x h=>.d v x (h.keep T.keeps)
 |_,_,.nilS v h=>.nilS v h
 |_,_,.right v k g n xs h hg hr=>.right v k g n xs (h.keep T.keeps) (Nat.le_trans hg (T.gen k)) (by
   intro n' l hob;obtain⟨ob,ho,hsh⟩:=T.ob k g _ hg hob;rcases hsh with⟨hsh,hk⟩|⟨n1,l1,l2,rfl,he,hlt⟩
   ·obtain rfl:=z6T hsh;obtain⟨h1,h2,h3⟩:=hr n' l ho;exact⟨h1,h2,fun e=>(h3 e).stay hk T.ex T.ic⟩
   ·cases he;obtain⟨h1,h2,-⟩:=hr n' l1 ho;exact⟨h1,by omega,fun e=>by omega⟩)
 |_,_,.row v k g hg h=>.row v k g (Nat.le_trans hg (T.gen k)) (by
   intro n xs hob;obtain⟨ob,ho,hsh⟩:=T.ob k g _ hg hob;rcases hsh with⟨hsh,hk⟩|⟨n1,l1,l2,rfl,he,hlt⟩
   ·obtain⟨ys,rfl,hl⟩:=z6S hsh;obtain⟨b,cap,hv,hkb,hc⟩:=h n ys ho;exact⟨b,cap,by rw[hv,hl],by rw[hk];exact hkb,by omega⟩
   ·cases he)
 |_,_,.ref v k g off hg h=>.ref v k g off (Nat.le_trans hg (T.gen k)) (by
   intro ob' hob hnt;obtain⟨ob,ho,hsh⟩:=T.ob k g _ hg hob;rcases hsh with⟨hsh,hk⟩|⟨n1,l1,l2,rfl,he,hlt⟩
   ·obtain⟨b,hb,hv⟩:=h ob ho (by rw[z1Q hsh];exact hnt);exact⟨b,by rw[hk];exact hb,hv⟩
   ·subst he;simp[Ob.isTok]at hnt)
 |_,_,.rref v k g n i off hg h=>.rref v k g n i off (Nat.le_trans hg (T.gen k)) (by
   intro ob' hob hnt;obtain⟨ob,ho,hsh⟩:=T.ob k g _ hg hob;rcases hsh with⟨hsh,hk⟩|⟨n1,l1,l2,rfl,he,hlt⟩
   ·obtain⟨b,hb,hv⟩:=h ob ho (by rw[z1Q hsh];exact hnt);exact⟨b,by rw[hk];exact hb,hv⟩
   ·subst he;simp[Ob.isTok]at hnt)
 |_,_,.iel b o x off h=>.iel b o x off (h.keep T.keeps)
 |_,_,.hp b id off h=>.hp b id off (T.hp id b h)
 |_,_,.lent v id off ver n xs h hle hl=>.lent v id off ver n xs (h.keep T.keeps) (Nat.le_trans hle T.hvle) (by
   intro hver b cs n' xs' hk hcs hown;by_cases e:E'.hv=E.hv
   ·obtain⟨eh,hc⟩:=T.lent e;rw[eh]at hcs;obtain⟨hk0,hcc⟩:=hc id b off v cs n' xs' hk hcs hown;exact hcc (hl (by rw[←e];exact hver) b cs n' xs' hk0 hcs hown)
   ·have:=T.hvle;exact absurd hver (by omega))
 |_,_,.fn f vs ws first cap p1 p2 h1 h2=>.fn f vs ws first cap p1 p2 (RelSs.stay T h1) (RelSs.stay T h2)
 |_,_,.tup vs svs h=>.tup vs svs (RelSs.stay T h)
 |_,_,.cells vs svs h=>.cells vs svs (RelSs.stay T h)
theorem RelSs.stay{w w':World}{M M':Nat→Nat→Prop}{κ κ':Kap}{E E':Env}(T:Stays w M κ E w' M' κ' E'):∀{v:List Value} {x:List Sv},RelSs w M κ E v x→RelSs w' M' κ' E' v x
 |_,_,.nil=>.nil
 |_,_,.cons v s vs ss h r=>.cons v s vs ss (RelS.stay T h) (RelSs.stay T r)
end
end Nt

