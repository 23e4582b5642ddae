import Derived.Test.YtjlohgfmobpfmaaFwJ
namespace Nt
open Go
set_option linter.unusedVariables false
set_option linter.unusedSimpArgs false
section
variable {P:Program} {X:Ctx} {κ:Kap} {s:St} {a:Act} {w:World}
theorem uC{α:Type}:∀(vs:List α) (cs:List α) (off:Nat),(setMany cs off vs).length=cs.length
 |[],cs,off=>rfl
 |v::r,cs,off=>by rw[setMany,uC r];simp
theorem vF{α:Type}:∀(vs:List α) (cs:List α) (off k:Nat),(setMany cs off vs)[k]?=if off≤k∧k<off+vs.length∧k<cs.length then vs[k-off]? else cs[k]?
 |[],cs,off,k=>by rw[setMany,zq0 (by simp;omega)]
 |v::r,cs,off,k=>by
  rw[setMany,vF r,List.length_set,List.length_cons];by_cases h:k=off
  ·subst h;rw[zq0 (by omega)];by_cases hl:k<cs.length
   ·rw[zq1 (by omega)];simp[hl]
   ·rw[zq0 (by omega),List.getElem?_set];simp[hl]
  ·by_cases h1:off+1≤k∧k<off+1+r.length∧k<cs.length
   ·rw[zq1 h1,zq1 (by omega),show k-off=(k-(off+1))+1 by omega,List.getElem?_cons_succ]
   ·rw[zq0 h1,zq0 (by omega),List.getElem?_set,zq0 (by omega)]
theorem RelVs.setMany{M:Nat→Nat→Prop}{vs us:List Value}{cs ds:List D}(h:RelVs w M vs cs)(g:RelVs w M us ds)(off:Nat):RelVs w M (Nt.setMany vs off us) (Nt.setMany cs off ds):=by
 have hl:=h.length;have gl:=g.length;refine RelVs.mk (by rw[uC,uC,hl]) (fun i v c hv hc=>?_);rw[vF]at hv hc;rw[gl,hl]at hv;split at hv
 ·rename_i e
  rw[zq1 e]at hc;obtain⟨v',q1,q2,q3⟩:=g.get _ c hc;rw[hv]at q1;injection q1 with q1;subst q1;exact⟨q2,q3⟩
 ·rename_i e
  rw[zq0 e]at hc;obtain⟨v',q1,q2,q3⟩:=h.get _ c hc;rw[hv]at q1;injection q1 with q1;subst q1;exact⟨q2,q3⟩
theorem z3J(off:Nat)(l:List Value)(vs:List Value):
  ((l.zipIdx 0).foldl (fun cs (x:Value×Nat)=>cs.setIfInBounds (off+x.2) x.1) (⟨vs⟩:Array Value))=⟨setMany vs off l⟩:=by
 obtain⟨h1,h2⟩:=Go.Great.foldl_set off l 0 ⟨vs⟩;apply Array.ext';apply List.ext_getElem?;intro k;have:=h2 k;rw[←Array.getElem?_toList]at this;rw[this];show _=(setMany vs off l)[k]?;rw[vF];simp
theorem RelV.cells{M:Nat→Nat→Prop}{v:Value}{x:D}(h:RelV w M v x):RelVs w M v.cells.toList x.cells:=by
 cases h with
 |agg vs cs h=>exact h
 |bool b=>exact .cons _ _ _ _ rfl (.bool b) .nil
 |int k n=>exact .cons _ _ _ _ rfl (.int k n) .nil
 |str u=>exact .cons _ _ _ _ rfl (.str u) .nil
 |nil=>exact .cons _ _ _ _ rfl .nil .nil
 |emp a=>exact .cons _ _ _ _ rfl (.emp a) .nil
 |sl b o cap xs h hl=>exact .cons _ _ _ _ rfl (.sl b o cap xs h hl) .nil
inductive z8F(w:World)(M:Nat→Nat→Prop)(κ:Kap)(E:Env):List (Nat×Value)→List (Nat×Sv)→Prop
 |nil:z8F w M κ E [] []
 |cons (i:Nat) (v:Value) (x:Sv) (vs:List (Nat×Value)) (xs:List (Nat×Sv)):RelS w M κ E v x→z8F w M κ E vs xs→z8F w M κ E ((i,v)::vs) ((i,x)::xs)
theorem z3d(R:Rel X κ s a w):∀ps:List (Nat×Operand),z8F w (Mut X.M0 κ) κ s.env (ps.map fun(i,x)=>(i,a.eval x)) (ps.map fun(i,x)=>(i,opv s x))
 |[]=>.nil
 |(i,x)::ps=>.cons i _ _ _ _ (R.opv x) (z3d R ps)
theorem z0f{α:Type}:∀(us:List α) (vs:List α) (off i:Nat),(i<off∨off+us.length≤i)→(setMany vs off us)[i]?=vs[i]?
 |[],vs,off,i,_=>rfl
 |u::us,vs,off,i,h=>by
  rw[setMany,z0f us _ (off+1) i (by simp at h;omega),List.getElem?_set_ne (by simp at h;omega)]
theorem gX{P:Program}{t:TypeId}{z:List Value}{ps:List (Nat×Sv)}:∀{fs:List Field} {i n:Nat},(i,n)∈z4t P t z ps fs→z[i]?=some (.slice none 0 0)∧z0y P t i ps=true
 |[],i,n,h=>by simp[z4t]at h
 |f::fs,i,n,h=>by
  unfold z4t at h;split at h
  ·cases hb:(z6m z[f.offset]? && z0y P t f.offset ps)with
   |false=>rw[hb]at h;exact gX h
   |true=>
    rw[hb]at h;rcases List.mem_cons.1 h with e|h
    ·injection e with e1 e2;subst e1;rw[Bool.and_eq_true]at hb;refine⟨?_,hb.2⟩;have:=hb.1;unfold z6m at this;split at this
     ·assumption
     ·cases this
    ·exact gX h
  ·exact gX h
theorem z4W {M:Nat→Nat→Prop} {E:Env} {t:TypeId} {fs:Array Field} (ht:P.underlying t=some (.struct fs)) {place:Nat→Option (Nat×Nat)}
  (hp:∀f fd n,fs[f]?=some fd→yO P fd.type=some n→place f=some (fd.offset,n)):
  ∀{ps:List (Nat×Sv)} {parts:List (Nat×Value)} {cs:List D} {vs:List Value} {k:List D→Prop},kFill P t ps cs k→z8F w M κ E parts ps→RelVs w M vs cs →
   ∃vs' cs',Instr.fill place ⟨vs⟩ parts=some ⟨vs'⟩∧RelVs w M vs' cs'∧k cs'∧∀i,z0y P t i ps=true→(∃u,vs[i]?=some u∧Emp u)→∃u,vs'[i]?=some u∧Emp u
 |[],_,cs,vs,k,h,.nil,hv=>⟨vs,cs,rfl,hv,h,fun _ _ h=>h⟩
 |(f,sv)::ps,_,cs,vs,k,h,.cons _ v _ parts _ hsv hps,hv=>by
  unfold kFill at h;obtain⟨fd,hf,h1⟩:=zD h;obtain⟨n,hn,h2⟩:=zD h1;obtain⟨x,hx,h3⟩:=yA h2 hsv;have hplace:place f=some (fd.offset,n):=by
   obtain⟨fs',g1,g2⟩:=z0t hf;rw[ht]at g1;injection g1 with g1;injection g1 with g1;subst g1;exact hp f fd n g2 hn
  have hxc:=hx.cells;have hgo:∀ds:List D,x.cells=ds→ds.length=n→fd.offset+n≤cs.length→kFill P t ps (setMany cs fd.offset ds) k →
    ∃vs' cs',Instr.fill place ⟨vs⟩ ((f,v)::parts)=some ⟨vs'⟩∧RelVs w M vs' cs'∧k cs'∧∀i,z0y P t i ((f,sv)::ps)=true→(∃u,vs[i]?=some u∧Emp u)→∃u,vs'[i]?=some u∧Emp u:=by
   intro ds hds hl hle hk;rw[hds]at hxc;have hvl:v.cells.size=n:=by have:=hxc.length;simp at this;omega
   obtain⟨vs',cs',q1,q2,q3,q4⟩:=z4W ht hp hk hps (hv.setMany hxc fd.offset);refine⟨vs',cs',?_,q2,q3,fun i hi hu=>?_⟩
   rotate_left
   ·simp only[z0y,hf,hn,Bool.and_eq_true,Bool.or_eq_true]at hi;refine q4 i hi.2 ?_;rcases hi.1 with h|⟨h1,h2⟩
    ·rw[z0f _ _ _ _ (by
      rcases h with h|h
      ·exact .inl (z3b h)
      ·have:=z7s h;exact .inr (by simp;omega))]
     exact hu
    ·have h2:=vX h2;subst h2;cases sv with
     |nilS=>
      cases hsv with|nilS _ he=>
      have hc1:v.cells.toList=[v]:=by rcases he with rfl|⟨a,rfl⟩<;>rfl
      obtain⟨u,hu1,-⟩:=hu;have hlt:=(List.getElem?_eq_some_iff.1 hu1).1;rw[hc1];exact⟨v,by simp[setMany,hlt],he⟩
     |_=>cases h1
   rw[Instr.fill,hplace];have e1:¬(v.cells.size≠n∨fd.offset+v.cells.size>vs.length):=by rw[hvl,hv.length];omega
   have e2:(v.cells.zipIdx.foldl (fun cs (x:Value×Nat)=>cs.setIfInBounds (fd.offset+x.2) x.1) (⟨vs⟩:Array Value))=⟨setMany vs fd.offset v.cells.toList⟩:=by
    rw[←z3J,←Array.foldl_toList];simp[Array.toList_zipIdx]
   simp only[];rw[zq0 (by simpa [hvl]using(by rw[hv.length];omega:¬(fd.offset+n>vs.length)))];rw[e2];exact q1
  rcases zT h3 with⟨ha,h4⟩|⟨ha,h4⟩
  ·cases x with
   |agg ds=>
    obtain⟨hl,h5⟩:=zG h4;obtain⟨hle,h6⟩:=zG h5;exact hgo ds rfl (vX hl) (z7s hle) h6
   |_=>exact h4.elim
  ·obtain⟨hn1,h5⟩:=zG h4;obtain⟨hsc,h6⟩:=zG h5;obtain⟨hlt,h7⟩:=zG h6;have hn1:=vX hn1;subst hn1;refine hgo [x] ?_ rfl (z3b hlt) h7;cases x<;>first|rfl|simp[D.sc]at hsc
theorem z1A:∀(fs:List Field),gZ P fs=true→∃places,fs.mapM (fun f=>(P.info? f.type).map fun i=>(f.offset,i.size))=some places∧places.length=fs.length∧∀(j:Nat) fd n,fs[j]?=some fd→yO P fd.type=some n→places[j]?=some (fd.offset,n)
 |[],_=>⟨[],rfl,rfl,by simp⟩
 |f::fs,h=>by
  simp only[gZ,Bool.and_eq_true]at h;obtain⟨i,hi⟩:=Option.isSome_iff_exists.1 h.1;obtain⟨pl,h1,h2,h3⟩:=z1A fs h.2;refine⟨(f.offset,i.size)::pl,by simp[List.mapM_cons,hi,h1],by simp[h2],fun j fd n hj hn=>?_⟩;cases j with
  |zero=>
   simp at hj;subst hj;obtain⟨i',d,g1,g2,g3⟩:=zY hn;rw[hi]at g1;injection g1 with g1;subst g1;subst g2;rfl
  |succ j=>simpa using h3 j fd n (by simpa using hj) hn
theorem z6o (R:Rel X κ s a w) {t:TypeId} {fs:Array Field} {ps:Array (Nat×Operand)} {k:List D→Prop} (ht:P.underlying t=some (.struct fs)) (hok:gZ P fs.toList=true)
  {z:Value} (hz:z1V P t=some z) {cs:List D} (hcs:wQ z.cells.toList=some cs) (hk:kFill P t (ps.toList.map fun(i,x)=>(i,opv s x)) cs k):
  ∃vs cs',(Instr.build t (ps.map fun(i,x)=>(i,a.eval x))).run P w=.ok (.agg ⟨vs⟩) w∧RelVs w (Mut X.M0 κ) vs cs'∧k cs'∧∀i,z0y P t i (ps.toList.map fun(i,x)=>(i,opv s x))=true→(∃u,z.cells.toList[i]?=some u∧Emp u)→∃u,vs[i]?=some u∧Emp u:=by
 obtain⟨it,hit,hzz⟩:∃it,P.info? t=some it∧it.zero=some z:=by
  unfold z1V at hz;split at hz
  ·exact⟨_,‹_›,hz⟩
  ·cases hz
 obtain⟨places,h1,h2,h3⟩:=z1A fs.toList hok;obtain⟨vs',cs',q1,q2,q3,q4⟩:=z4W (w:=w) (M:=Mut X.M0 κ) (κ:=κ) (E:=s.env) ht (place:=fun f=>places.toArray[f]?) (fun f fd n hf hn=>by
  have:=h3 f fd n (by simpa using hf) hn;simpa using this) hk (z3d R ps.toList) (wR hcs)
 refine⟨vs',cs',run_build w t _ _ ?_,q2,q3,q4⟩;unfold Program.built;simp only[hit,ht,hzz,h1];rw[←q1];congr 1;simp
theorem z3M{M:Nat→Nat→Prop}{E:Env}{e:TypeId}{n:Nat}:∀{i:Nat} {ps:List (Nat×Sv)} {parts:List (Nat×Value)} {k:List D→Prop},kElems P e n i ps k→z8F w M κ E parts ps →
  ∃(vs:List Value) (xs:List D),parts=(vs.zipIdx i).map (fun x=>(x.2,x.1))∧vs.length=ps.length∧(∀v∈vs,v.cells.size=n)∧RelVs w M (vs.flatMap fun v=>v.cells.toList) (yC xs)∧yB n xs∧xs.length=ps.length∧k xs
 |i,[],_,k,h,.nil=>⟨[],[],rfl,rfl,by simp,.nil,by simp[yB],rfl,h⟩
 |i,(j,sv)::ps,_,k,h,.cons _ v _ parts _ hsv hps=>by
  unfold kElems at h;obtain⟨hij,h1⟩:=zG h;obtain rfl:=vX hij;obtain⟨x,hx,h2⟩:=yA h1 hsv;have fin:x.cells.length=n→(kElems P e n (i+1) ps fun xs=>k (x::xs))→∃(vs:List Value) (xs:List D),(i,v)::parts=(vs.zipIdx i).map (fun x=>(x.2,x.1))∧vs.length=((i,sv)::ps).length∧(∀v∈vs,v.cells.size=n)∧RelVs w M (vs.flatMap fun v=>v.cells.toList) (yC xs)∧yB n xs∧xs.length=((i,sv)::ps).length∧k xs:=by
   intro hl hk;obtain⟨vs,xs,q1,q2,q3,q4,q5,q6,q7⟩:=z3M hk hps;have hxc:=hx.cells;refine⟨v::vs,x::xs,by rw[q1];simp,by simp[q2],?_,?_,?_,by simp[q6],q7⟩
   ·intro u hu;rcases List.mem_cons.1 hu with rfl|hu
    ·have:=hxc.length;simp at this;omega
    ·exact q3 u hu
   ·rw[List.flatMap_cons];refine RelVs.mk (by simp[yC,hxc.length,q4.length]) (fun m u c hu hc=>?_);simp only[yC]at hc;by_cases hm:m<x.cells.length
    ·rw[List.getElem?_append_left (by rw[hxc.length];exact hm)]at hu;rw[List.getElem?_append_left hm]at hc;obtain⟨v',g1,g2,g3⟩:=hxc.get m c hc;rw[hu]at g1;injection g1 with g1;subst g1;exact⟨g2,g3⟩
    ·rw[List.getElem?_append_right (by rw[hxc.length];omega),hxc.length]at hu;rw[List.getElem?_append_right (by omega)]at hc;obtain⟨v',g1,g2,g3⟩:=q4.get _ c hc;rw[hu]at g1;injection g1 with g1;subst g1;exact⟨g2,g3⟩
   ·intro y hy;rcases List.mem_cons.1 hy with rfl|hy
    ·exact hl
    ·exact q5 y hy
  rcases zT h2 with⟨ha,h3⟩|⟨ha,h3⟩
  ·obtain⟨cs,rfl,hl,h4⟩:=jP h3;exact fin hl h4
  ·obtain⟨hn,h4⟩:=zG h3;obtain rfl:=vX hn;obtain⟨hsc,h5⟩:=zG h4;exact fin (by cases x<;>first|rfl|simp[D.sc]at hsc) h5
end
end Nt

