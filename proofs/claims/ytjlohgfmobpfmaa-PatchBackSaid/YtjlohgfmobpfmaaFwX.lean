import Derived.Test.YtjlohgfmobpfmaaFwW
namespace Nt
open Go
set_option linter.unusedVariables false
set_option linter.unusedSimpArgs false
structure Eqv(s s':St):Prop where
 n:s'.n=s.n
 get:∀i,s'.get i=s.get i
 ar:∀k,zC s'.ar k=zC s.ar k
 h:s'.h=s.h
 hv:s'.hv=s.hv
theorem Eqv.refl(s:St):Eqv s s:=⟨rfl,fun _=>rfl,fun _=>rfl,rfl,rfl⟩
theorem Eqv.trans{a b c:St}(h:Eqv a b)(g:Eqv b c):Eqv a c:=⟨g.n.trans h.n,fun i=>(g.get i).trans (h.get i),fun i=>(g.ar i).trans (h.ar i),g.h.trans h.h,g.hv.trans h.hv⟩
theorem Eqv.symm{a b:St}(h:Eqv a b):Eqv b a:=⟨h.n.symm,fun i=>(h.get i).symm,fun i=>(h.ar i).symm,h.h.symm,h.hv.symm⟩
theorem z7M(a b:List (Nat×Sv))(i:Nat):z1z (a++b) i=if(a.any fun x=>Nat.beq x.1 i)=true then z1z a i else z1z b i:=by
 induction a with
 |nil=>simp
 |cons x a ih=>
  obtain⟨j,v⟩:=x;rw[List.cons_append,vA,vA,List.any_cons];by_cases h:j=i
  ·subst h;simp
  ·simp only[zq0 h,ih,z1e h,Bool.false_or]
theorem z6x(a b:List (Nat×Nat×Option Ob))(i:Nat):zC (a++b) i=if(a.any fun x=>Nat.beq x.1 i)=true then zC a i else zC b i:=by
 induction a with
 |nil=>simp
 |cons x a ih=>
  obtain⟨j,v⟩:=x;rw[List.cons_append,zA,zA,List.any_cons];by_cases h:j=i
  ·subst h;simp
  ·simp only[zq0 h,ih,z1e h,Bool.false_or]
theorem uT(s:St)(p:zQ)(i:Nat):(s.app p).get i=if(p.puts.any fun x=>Nat.beq x.1 i)=true then z1z p.puts i else s.get i:=z7M _ _ _
theorem z0Y(s:St)(p:zQ)(i:Nat):zC (s.app p).ar i=if(p.ars.any fun x=>Nat.beq x.1 i)=true then zC p.ars i else zC s.ar i:=z6x _ _ _
theorem z0Z(s:St)(p:zQ):(s.app p).h=p.h.getD s.h:=rfl
theorem z1a(s:St)(p:zQ):(s.app p).hv=if p.h.isSome=true then s.hv+1 else s.hv:=by
 unfold St.app;cases p.h<;>rfl
theorem Eqv.app{s s':St}(h:Eqv s s')(p:zQ):Eqv (s.app p) (s'.app p):=
 ⟨h.n,fun i=>by rw[uT,uT,h.get],fun k=>by rw[z0Y,z0Y,h.ar],by rw[z0Z,z0Z,h.h],by rw[z1a,z1a,h.hv]⟩
section
variable {X:Ctx} {κ:Kap} {s s':St} {a:Act} {w:World}
theorem Eqv.ob(h:Eqv s s')(k g:Nat):s'.ob k g=s.ob k g:=yU (h.ar k) g
theorem Eqv.gen(h:Eqv s s')(k:Nat):s'.gen k=s.gen k:=z3L (h.ar k)
theorem Eqv.stays(h:Eqv s s'){M:Nat→Nat→Prop}:Stays w M κ s.env w M κ s'.env:=
 {keeps:=.refl _ _,hp:=fun _ _ h=>h,gen:=fun k=>Nat.le_of_eq (h.gen k).symm
  ob:=fun k g ob' _ ho=>⟨ob',by rw[←ho];exact(h.ob k g).symm,.inl ⟨rfl,rfl⟩⟩
  ex:=fun _ _ v h=>⟨v,h⟩,ic:=fun _ _ _ _ h=>h,hvle:=Nat.le_of_eq h.hv.symm
  lent:=fun _=>⟨h.h,fun _ _ _ _ _ _ _ hk _ _=>⟨hk,fun h=>h⟩⟩}
theorem Rel.eqv(R:Rel X κ s a w)(h:Eqv s s'):Rel X κ s' a w:=
 {m0:=R.m0,defs:=R.defs,size:=R.size.trans h.n.symm,kept:=R.kept,k0:=R.k0,g0:=R.g0,kb:=R.kb,ki:=R.ki,hp0:=R.hp0
  hn:=fun id r hr=>by rw[h.h];exact R.hn id r hr
  slots:=fun i=>by rw[h.get];exact(R.slots i).stay h.stays
  obs:=fun k g ob ho=>by rw[h.ob]at ho;exact RelOb.stay h.stays (R.obs k g ob ho) rfl (fun _ _ _=>rfl)
  heap:=RelH.stay h.stays R.heap h.h (fun _ _=>rfl) (fun _ _ _ _=>rfl)}
theorem Rel.skp(R:Rel X κ s a w)(d:Nat):Rel X κ (s.app (jI d .skp)) (a.put (some d) Go.undef) w:=by
 by_cases hd:d<s.n
 ·exact R.put hd .skp
 ·have:a.put (some d) Go.undef=a:=by
   have hd':¬d<a.tmps.size:=by rw[R.size];exact hd
   unfold Act.put;simp[Array.setIfInBounds,hd']
  rw[this];refine {m0:=R.m0,defs:=R.defs,size:=R.size,kept:=R.kept,k0:=R.k0,g0:=R.g0,kb:=R.kb,ki:=R.ki,hn:=R.hn,hp0:=R.hp0,slots:=fun i=>?_,obs:=R.obs,heap:=R.heap};rw[uT];split
  ·rename_i h
   have hi:i=d:=by
    simp[jI]at h;have h:z1z [(d,Sv.skp)] i≠.undef∨True:=.inr trivial
    rename_i h0
    simpa [jI,eq_comm]using h0
   subst hi;have:z1z (jI i .skp).puts i=.skp:=by
    show z1z [(i,Sv.skp)] i=_;rw[vA];simp
   rw[this];have hg:a.tmps.getD i Go.undef=Go.undef:=by
    have hd':¬i<a.tmps.size:=by rw[R.size];exact hd
    simp[Array.getD,hd']
   rw[hg];exact .skp
  ·exact R.slots i
theorem Eqv.told{d:Nat}{v:Sv}(h:s.get d=v):Eqv s (s.app (jI d v)):=
 ⟨rfl,fun i=>by
  show z1z ((d,v)::s.fr) i=_;rw[vA];split
  ·rename_i e;subst e;exact h.symm
  ·rfl,fun _=>rfl,rfl,rfl⟩
def z0g(o:Oper):zQ:=
 match o.dst with
 |some d=>jI d .skp
 |none=>⟨[],[],none⟩
def z5O(c:Cx)(ops:Array Oper)(i:Nat)(s:St)(p:zQ):Prop:=
 ∃o,ops[i]?=some o∧match o.guard with
  |none=>z3G c o s (·=p)
  |some (j,w)=>(∃g d b,ops[j]?=some g∧g.dst=some d∧s.get d=.d (.bool b)∧((b=w∧z3G c o s (·=p))∨(b≠w∧p=z0g o)))∨(∃g d,ops[j]?=some g∧g.dst=some d∧s.get d=.skp∧p=z0g o)
theorem Rel.skip(R:Rel X κ s a w)(o:Oper):Rel X κ (s.app (z0g o)) (a.put o.dst Go.undef) w:=by
 unfold z0g;cases o.dst with
 |none=>exact R.idle
 |some d=>exact R.skp d
theorem Rel.yields(R:Rel X κ s a w){ops:Array Oper}{j d:Nat}{g:Oper}{b:Bool}(hj:ops[j]?=some g)(hd:g.dst=some d)(h:s.get d=.d (.bool b)):yielded ops a.tmps j=some b:=by
 have hs:=R.slots d;rw[h]at hs;have hv:a.tmps.getD d Go.undef=.bool b:=by
  generalize a.tmps.getD d Go.undef=u at hs;cases hs with|d _ _ hs=>exact hs.bool_inv
 have:a.tmps[d]?=some (.bool b):=by
  cases ht:a.tmps[d]? with
  |none=>simp[Array.getD_eq_getD_getElem?,ht]at hv;exact absurd hv (by simp[Go.undef])
  |some v=>simp[Array.getD_eq_getD_getElem?,ht]at hv;rw[hv]
 simp[yielded,hj,hd,this]
theorem Rel.yieldsNot(R:Rel X κ s a w){ops:Array Oper}{j d:Nat}{g:Oper}(hj:ops[j]?=some g)(hd:g.dst=some d)(h:s.get d=.skp)(b:Bool):(yielded ops a.tmps j == some b)=false:=by
 have hs:=R.slots d;rw[h]at hs;have hv:a.tmps.getD d Go.undef=Go.undef:=by
  generalize a.tmps.getD d Go.undef=u at hs;cases hs;rfl
 have:∀b',a.tmps[d]?≠some (.bool b'):=fun b' ht=>by
  simp[Array.getD_eq_getD_getElem?,ht,Go.undef]at hv
 have hn:yielded ops a.tmps j=none:=by
  have hr:(g.dst.bind fun x=>a.tmps[x]?)=a.tmps[d]?:=by rw[hd];rfl
  have hy:yielded ops a.tmps j=match a.tmps[d]? with|some (.bool b)=>some b|_=>none:=by
   rw[←hr];unfold yielded;rw[hj];rfl
  rw[hy];split
  ·rename_i b' ht;exact absurd ht (this b')
  ·rfl
 rw[hn];rfl
theorem uO {c:Cx} (hT:∀f vs h rs h',c.trip f vs h rs h'→Trip c.P f vs h rs h') {ops:Array Oper} {i:Nat} {p:zQ} (R:Rel X κ s a w) (h:z5O c ops i s p) {K:Act→World→Prop} {Q:Exit→Act→World→Prop}
  (hK:∀κ' a' w',Rel X κ' (s.app p) a' w'→K a' w'):wpOp c.P ops Q i K a w:=by
 obtain⟨o,ho,h⟩:=h;have run:z3G c o s (·=p)→o.wp c.P a w K Q:=fun h=>z5s hT h R fun p' κ' a' w' e R'=>by subst e;exact hK _ _ _ R'
 unfold wpOp;rw[ho];cases hg:o.guard with
 |none=>
  rw[hg]at h;simp only[Region.wanted,hg,if_true];exact .inl (run h)
 |some jw=>
  obtain⟨j,wt⟩:=jw;rw[hg]at h;rcases h with⟨g,d,b,h1,h2,h3,h4⟩|⟨g,d,h1,h2,h3,rfl⟩
  case inr=>
   have hy:=R.yieldsNot h1 h2 h3 wt;simp only[Region.wanted,hg,hy];exact hK _ _ _ (R.skip o)
  have hy:=R.yields h1 h2 h3;simp only[Region.wanted,hg,hy];rcases h4 with⟨rfl,h4⟩|⟨hb,rfl⟩
  ·simp only[beq_self_eq_true,if_true];exact .inl (run h4)
  ·have:(some b == some wt)=false:=by simpa using hb
   simp only[this];exact hK _ _ _ (R.skip o)
theorem jU{c:Cx}(hT:∀f vs h rs h',c.trip f vs h rs h'→Trip c.P f vs h rs h'){ops:Array Oper}{Q:Exit→Act→World→Prop}{k:St→Prop}(hk:∀κ s a w,k s→Rel X κ s a w→Q .normal a w):
  ∀(l:List Oper) (i:Nat) (done:List (List Nat)) (fps:List (Nat×FP)) (κ:Kap) (s:St) (a:Act) (w:World),ops.toList.drop i=l→gO c ops false i done fps l s k→Rel X κ s a w→wpOps c.P ops Q (List.range' i l.length) a w
 |[],i,done,fps,κ,s,a,w,hl,h,R=>hk κ s a w h R
 |o::l,i,done,fps,κ,s,a,w,hl,h,R=>by
  have ho:ops[i]?=some o:=by
   have:=congrArg (·[0]?) hl;simpa using this
  have hl':ops.toList.drop (i+1)=l:=by
   have:=congrArg (List.drop 1) hl;simpa [Nat.add_comm]using this
  rw[List.length_cons,List.range'_succ,wpOps_cons];have run:∀{s1:St} {done:List (List Nat)} {fps:List (Nat×FP)},Eqv s s1→z3G c o s1 (fun p=>gO c ops false (i+1) done fps l (s1.app p) k)→(∀p,z3G c o s (·=p)→z5O c ops i s p)→wpOp c.P ops Q i (wpOps c.P ops Q (List.range' (i+1) l.length)) a w:=by
   intro s1 done fps e h hs;obtain⟨p,h1,-,h3⟩:=(z5Q c ops o s1).ex h;have h4:z3G c o s (·=p):=by rw[←z2i (c:=c) (ops:=ops) (o:=o) (s:=s) (s':=s1) ⟨e.n,fun i _=>e.get i,fun k _=>e.ar k,fun _=>⟨e.h,e.hv⟩,fun _=>e.h⟩];exact h3
   exact uO hT R (hs p h4) fun κ' a' w' R'=>jU hT hk l (i+1) _ _ κ' _ a' w' hl' h1 (R'.eqv (e.app p))
  unfold gO at h;simp only[cond_false,kIf,cond_true]at h;cases hg:o.guard with
  |none=>
   rw[hg]at h;exact run (.refl s) h fun p hp=>⟨o,ho,by rw[hg];exact hp⟩
  |some jw=>
   obtain⟨j,wt⟩:=jw;rw[hg]at h;dsimp only at h;split at h
   ·rename_i g hj
    split at h
    ·rename_i d hd
     have skip:∀{b:Bool} {done:List (List Nat)} {fps:List (Nat×FP)},s.get d=.d (.bool b)→b≠wt→gO c ops false (i+1) done fps l (match o.dst with|some d'=>(s.app (jI d (.d (.bool b)))).app (jI d' .skp)|none=>s.app (jI d (.d (.bool b)))) k →
       wpOp c.P ops Q i (wpOps c.P ops Q (List.range' (i+1) l.length)) a w:=by
      intro b done fps hb hne h;refine uO hT R ⟨o,ho,by rw[hg];exact .inl ⟨g,d,b,hj,hd,hb,.inr ⟨hne,rfl⟩⟩⟩ fun κ' a' w' R'=>?_;have e:Eqv (s.app (z0g o)) (match o.dst with|some d'=>(s.app (jI d (.d (.bool b)))).app (jI d' .skp)|none=>s.app (jI d (.d (.bool b)))):=by
       unfold z0g;cases o.dst with
       |none=>exact Eqv.told hb
       |some d'=>exact(Eqv.told hb).app _
      exact jU hT hk l (i+1) _ _ κ' _ a' w' hl' h (R'.eqv e)
     split at h
     ·rename_i hsk
      refine uO hT R ⟨o,ho,by rw[hg];exact .inr ⟨g,d,hj,hd,hsk,rfl⟩⟩ fun κ' a' w' R'=>?_;have e:Eqv (s.app (z0g o)) (match o.dst with|some d'=>s.app (jI d' .skp)|none=>s):=by
       unfold z0g;cases o.dst with
       |none=>exact⟨rfl,fun _=>rfl,fun _=>rfl,rfl,rfl⟩
       |some d'=>exact .refl _
      exact jU hT hk l (i+1) _ _ κ' _ a' w' hl' h (R'.eqv e)
     obtain⟨x,hx,h1⟩:=z2F h;rcases h1 with⟨rfl,h1⟩|⟨rfl,h1⟩
     ·cases wt with
      |true=>exact run (Eqv.told hx) h1 fun p hp=>⟨o,ho,by rw[hg];exact .inl ⟨g,d,true,hj,hd,hx,.inl ⟨rfl,hp⟩⟩⟩
      |false=>exact skip hx (by simp) h1
     ·cases wt with
      |false=>exact run (Eqv.told hx) h1 fun p hp=>⟨o,ho,by rw[hg];exact .inl ⟨g,d,false,hj,hd,hx,.inl ⟨rfl,hp⟩⟩⟩
      |true=>exact skip hx (by simp) h1
    ·exact h.elim
   ·exact h.elim
end
end Nt

