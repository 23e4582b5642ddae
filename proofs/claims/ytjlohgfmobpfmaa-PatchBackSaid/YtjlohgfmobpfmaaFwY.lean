import Derived.Test.YtjlohgfmobpfmaaFwX
namespace Nt
open Go
set_option linter.unusedVariables false
set_option linter.unusedSimpArgs false
theorem Agree.of_eqv{f:FP}{s s':St}(e:Eqv s s'):Agree f s s':=⟨e.n,fun i _=>e.get i,fun k _=>e.ar k,fun _=>⟨e.h,e.hv⟩,fun _=>e.h⟩
theorem Agree.trans{f:FP}{a b c:St}(h:Agree f a b)(g:Agree f b c):Agree f a c:=
 ⟨g.n.trans h.n,fun i hi=>(g.get i hi).trans (h.get i hi),fun i hi=>(g.ar i hi).trans (h.ar i hi),fun e=>⟨(g.h e).1.trans (h.h e).1,(g.h e).2.trans (h.h e).2⟩,fun e=>(g.d e).trans (h.d e)⟩
structure Loc(c:Cx)(ops:Array Oper)(i:Nat)(f:FP)(s:St)(p:zQ):Prop where
 within:gJ f s p
 step:∀s',Agree f s s'→z5O c ops i s' p
theorem Loc.eqv{c:Cx}{ops:Array Oper}{i:Nat}{f:FP}{s s':St}{p:zQ}(h:Loc c ops i f s p)(e:Eqv s s'):Loc c ops i f s' p:=
 ⟨⟨h.within.1,h.within.2.1,fun hp=>by rw[e.h];exact h.within.2.2 hp⟩,fun s1 A=>h.step s1 ((Agree.of_eqv e).trans A)⟩
theorem z7y{a b:List Nat}:z7p a b=true↔∀x∈a,x ∉ b:=by
 induction a with
 |nil=>simp[z7p]
 |cons x a ih=>
  simp only[z7p,Bool.and_eq_true,Bool.not_eq_true',ih,List.forall_mem_cons];rw[←Bool.not_eq_true,hasIff]
theorem any_beq{α:Type}{l:List (Nat×α)}{i:Nat}:(l.any fun x=>Nat.beq x.1 i)=true↔∃x∈l,x.1=i:=by
 rw[List.any_eq_true];constructor
 ·rintro⟨x,h1,h2⟩;exact⟨x,h1,vX h2⟩
 ·rintro⟨x,h1,h2⟩;exact⟨x,h1,by rw[h2];exact Nat.beq_refl _⟩
structure z9b(a b:FP):Prop where
 wr:∀x∈a.ws,x ∉ b.rs
 ww:∀x∈a.ws,x ∉ b.ws
 rw:∀x∈b.ws,x ∉ a.rs
 awr:∀x∈a.wa,x ∉ b.ra
 aww:∀x∈a.wa,x ∉ b.wa
 arw:∀x∈b.wa,x ∉ a.ra
 h1:a.wh=true→b.rh=false∧b.wh=false∧b.rd=false∧b.wv=false
 h2:b.wh=true→a.rh=false∧a.rd=false∧a.wv=false
 h3:a.wv=true→b.rh=false
 h4:b.wv=true→a.rh=false
theorem z6l{a b:FP}(h:z0K a b=true):z9b a b:=by
 simp only[z0K,Bool.and_eq_true,z7y]at h;obtain⟨⟨⟨⟨⟨⟨⟨⟨⟨h1,h2⟩,h3⟩,h4⟩,h5⟩,h6⟩,h7⟩,h8⟩,h9⟩,h10⟩:=h;refine⟨h1,h2,h3,h4,h5,h6,fun e=>?_,fun e=>?_,fun e=>?_,fun e=>?_⟩
 ·simp[e]at h7;simp[h7]
 ·simp[e]at h8;simp[h8]
 ·simp[e]at h9;exact h9
 ·simp[e]at h10;exact h10
theorem z3p{f g:FP}{s:St}{p:zQ}(w:gJ f s p)(hr:∀x∈f.ws,x ∉ g.rs)(ha:∀x∈f.wa,x ∉ g.ra)(hh:f.wh=true→g.rh=false∧g.rd=false)(hv:f.wv=true→g.rh=false):Agree g s (s.app p):=by
 have hd:g.rd=true→(s.app p).h=s.h:=fun e=>by
  rw[z0Z];cases hp:p.h with
  |none=>rfl
  |some h' =>
   rcases w.2.2 (by rw[hp];rfl)with h|⟨-,h⟩
   ·rw[(hh h).2]at e;cases e
   ·rw[hp]at h;exact(Option.some.inj h)
 refine⟨rfl,fun i hi=>?_,fun k hk=>?_,fun e=>?_,hd⟩
 ·rw[uT,zq0];intro h;obtain⟨x,h1,h2⟩:=any_beq.1 h;exact hr _ (w.1 x h1) (by rw[h2];exact hi)
 ·rw[z0Y,zq0];intro h;obtain⟨x,h1,h2⟩:=any_beq.1 h;exact ha _ (w.2.1 x h1) (by rw[h2];exact hk)
 ·have:p.h.isSome=false:=by
   cases hp:p.h.isSome with
   |false=>rfl
   |true=>
    rcases w.2.2 hp with h|⟨h,-⟩
    ·have:=(hh h).1;rw[e]at this;cases this
    ·have:=hv h;rw[e]at this;cases this
  have hn:p.h=none:=by simpa using this
  exact⟨by rw[z0Z,hn];rfl,by rw[z1a,hn];rfl⟩
theorem z5k{g:FP}{s s':St}(A:Agree g s s'):Agree g s' s:=⟨A.n.symm,fun i hi=>(A.get i hi).symm,fun i hi=>(A.ar i hi).symm,fun e=>⟨(A.h e).1.symm,(A.h e).2.symm⟩,fun e=>(A.d e).symm⟩
theorem z8k{c:Cx}{ops:Array Oper}{i j:Nat}{fi fj:FP}{s:St}{p q:zQ}(hI:z0K fi fj=true)(hi:Loc c ops i fi s p)(hj:Loc c ops j fj (s.app p) q):
  Loc c ops j fj s q∧Loc c ops i fi (s.app q) p∧Eqv ((s.app p).app q) ((s.app q).app p):=by
 have I:=z6l hI;have A1:Agree fj s (s.app p):=z3p hi.within I.wr I.awr (fun e=>⟨(I.h1 e).1,(I.h1 e).2.2.1⟩) I.h3;have hp:p.h=none∨fi.wh=true∨(fi.wv=true∧p.h=some s.h):=by
  cases h:p.h with
  |none=>exact .inl rfl
  |some _=>rw[←h];exact .inr (hi.within.2.2 (by rw[h];rfl))
 have hph:fi.wh=true∨(s.app p).h=s.h:=by
  rcases hp with h|h|⟨-,h⟩
  ·exact .inr (by rw[z0Z,h];rfl)
  ·exact .inl h
  ·exact .inr (by rw[z0Z,h];rfl)
 have hjw:gJ fj s q:=⟨hj.within.1,hj.within.2.1,fun e=>by
  rcases hj.within.2.2 e with h|⟨h1,h2⟩
  ·exact .inl h
  ·rcases hph with h|h
   ·rw[(I.h1 h).2.2.2]at h1;cases h1
   ·rw[h]at h2;exact .inr ⟨h1,h2⟩⟩
 have hq:q.h=none∨fj.wh=true∨(fj.wv=true∧q.h=some s.h):=by
  cases h:q.h with
  |none=>exact .inl rfl
  |some _=>rw[←h];exact .inr (hjw.2.2 (by rw[h];rfl))
 have A2:Agree fi s (s.app q):=z3p hjw I.rw I.arw (fun e=>⟨(I.h2 e).1,(I.h2 e).2.1⟩) I.h4;have hiw:gJ fi (s.app q) p:=⟨hi.within.1,hi.within.2.1,fun e=>by
  rcases hi.within.2.2 e with h|⟨h1,h2⟩
  ·exact .inl h
  ·refine .inr ⟨h1,?_⟩;rw[h2,z0Z];rcases hq with h|h|⟨-,h⟩
   ·rw[h];rfl
   ·rw[(I.h2 h).2.2]at h1;cases h1
   ·rw[h];rfl⟩
 refine⟨⟨hjw,fun s' A=>hj.step s' ((z5k A1).trans A)⟩,⟨hiw,fun s' A=>hi.step s' (A2.trans A)⟩,rfl,fun i=>?_,fun k=>?_,?_,?_⟩
 ·rw[uT,uT,uT,uT];by_cases h1:(p.puts.any fun x=>Nat.beq x.1 i)=true
  ·have h2:¬(q.puts.any fun x=>Nat.beq x.1 i)=true:=fun h=>by
    obtain⟨x,a1,a2⟩:=any_beq.1 h1;obtain⟨y,b1,b2⟩:=any_beq.1 h;exact I.ww _ (hi.within.1 x a1) (by rw[a2,←b2];exact hj.within.1 y b1)
   simp only[zq1 h1,zq0 h2]
  ·simp only[zq0 h1]
 ·rw[z0Y,z0Y,z0Y,z0Y];by_cases h1:(p.ars.any fun x=>Nat.beq x.1 k)=true
  ·have h2:¬(q.ars.any fun x=>Nat.beq x.1 k)=true:=fun h=>by
    obtain⟨x,a1,a2⟩:=any_beq.1 h1;obtain⟨y,b1,b2⟩:=any_beq.1 h;exact I.aww _ (hi.within.2.1 x a1) (by rw[a2,←b2];exact hj.within.2.1 y b1)
   simp only[zq1 h1,zq0 h2]
  ·simp only[zq0 h1]
 ·rw[z0Z,z0Z,z0Z,z0Z];rcases hp with hp|hp|⟨hp1,hp⟩
  ·rw[hp];rfl
  ·have:q.h=none:=by
    rcases hq with h|h|⟨h,-⟩
    ·exact h
    ·rw[(I.h1 hp).2.1]at h;cases h
    ·rw[(I.h1 hp).2.2.2]at h;cases h
   rw[this];rfl
  ·rw[hp];rcases hq with h|h|⟨-,h⟩
   ·rw[h];rfl
   ·rw[(I.h2 h).2.2]at hp1;cases hp1
   ·rw[h]
 ·rw[z1a,z1a,z1a,z1a];split<;>split<;>rfl
def Tr(c:Cx)(ops:Array Oper):List (Nat×FP)→St→St→Prop
 |[],s,t=>Eqv s t
 |(i,f)::l,s,t=>∃p,Loc c ops i f s p∧Tr c ops l (s.app p) t
theorem Tr.eqv{c:Cx}{ops:Array Oper}:∀{l:List (Nat×FP)} {s s' t:St},Eqv s s'→Tr c ops l s t→Tr c ops l s' t
 |[],_,_,_,e,h=>e.symm.trans h
 |_::_,_,_,_,e,⟨p,h1,h2⟩=>⟨p,h1.eqv e,Tr.eqv (e.app p) h2⟩
theorem Tr.front{c:Cx}{ops:Array Oper}{j:Nat}{f:FP}{l2:List (Nat×FP)}:∀{l1:List (Nat×FP)} {s t:St},(∀x∈l1,z0K x.2 f=true)→Tr c ops (l1++(j,f)::l2) s t→∃p,Loc c ops j f s p∧Tr c ops (l1++l2) (s.app p) t
 |[],_,_,_,h=>h
 |(i,fi)::l1,s,t,hx,⟨p,h1,h2⟩=>by
  obtain⟨q,h3,h4⟩:=Tr.front (fun x hx'=>hx x (List.mem_cons_of_mem _ hx')) h2;obtain⟨g1,g2,g3⟩:=z8k (hx (i,fi) (by simp)) h1 h3;exact⟨q,g1,p,g2,h4.eqv g3⟩
inductive z0k(ops:Array Oper):Nat→Nat→Prop
 |one {i j:Nat} {o:Oper} {e:Edge}:ops[j]?=some o→e∈o.after.toList→z0H e=true→e.on=i→z0k ops i j
 |more {i k j:Nat} {o:Oper} {e:Edge}:z0k ops i k→ops[j]?=some o→e∈o.after.toList→z0H e=true→e.on=k→z0k ops i j
def z1Z(P:Program)(ops:Array Oper)(is:List Nat):Prop:=∀i∈is,∃o,ops[i]?=some o∧gI P o i=true
def z0T(ops:Array Oper)(l:List (Nat×FP)):Prop:=l.Pairwise fun a b=>z0k ops a.1 b.1∨z0K a.2 b.2=true
theorem z1H{pr:List Nat}{fp:FP}:∀{l:List (Nat×FP)},jH pr fp l=true→∀x∈l,x.1∈pr∨z0K x.2 fp=true
 |[],_,x,hx=>by simp at hx
 |(i,q)::r,h,x,hx=>by
  simp only[jH,Bool.and_eq_true,Bool.or_eq_true,hasIff]at h;rcases List.mem_cons.1 hx with rfl|hx
  ·exact h.1
  ·exact z1H h.2 x hx
theorem z4I:∀{l acc:List Nat} {x:Nat},x∈z9c acc l→x∈acc∨x∈l
 |[],acc,x,h=>.inl h
 |y::r,acc,x,h=>by
  rcases z4I (l:=r) h with h|h
  ·cases hh:has acc y with
   |true=>rw[hh]at h;exact .inl h
   |false=>
    rw[hh]at h;rcases List.mem_cons.1 h with rfl|h
    ·exact .inr (by simp)
    ·exact .inl h
  ·exact .inr (List.mem_cons_of_mem _ h)
theorem z2s{done:List (List Nat)}:∀{l:List Edge} {acc:List Nat} {x:Nat},x∈z6G done acc l→x∈acc∨∃e∈l,z0H e=true∧x∈e.on::done.getD e.on []
 |[],acc,x,h=>.inl h
 |e::r,acc,x,h=>by
  rcases z2s (l:=r) h with h|⟨e',he,h⟩
  ·cases hb:z0H e with
   |false=>rw[hb]at h;exact .inl h
   |true=>
    rw[hb]at h;rcases z4I h with h|h
    ·exact .inl h
    ·exact .inr ⟨e,by simp,hb,h⟩
  ·exact .inr ⟨e',List.mem_cons_of_mem _ he,h⟩
theorem z1M{ops:Array Oper}{done:List (List Nat)}{j:Nat}{o:Oper}(hj:ops[j]?=some o)(hd:∀k,∀x∈done.getD k [],z0k ops x k):∀x∈z2e done o,z0k ops x j:=fun x hx=>by
 rcases z2s hx with h|⟨e,he,hb,hx⟩
 ·simp at h
 ·rcases List.mem_cons.1 hx with rfl|hx
  ·exact .one hj he hb rfl
  ·exact .more (hd _ x hx) hj he hb rfl
theorem jB{ops:Array Oper}{o:Oper}{j:Nat}{w:Bool}{g:Oper}{d:Nat}(hg:o.guard=some (j,w))(hj:ops[j]?=some g)(hd:g.dst=some d):d∈gQ ops o:=by
 simp[gQ,hg,hj,hd]
theorem z2j{c:Cx}{ops:Array Oper}{k:St→Prop}:∀(l:List Oper) (i:Nat) (done:List (List Nat)) (fps:List (Nat×FP)) (s:St),ops.toList.drop i=l→done.length=i→(∀k,∀x∈done.getD k [],z0k ops x k) →
  gO c ops true i done fps l s k→∃tr t,tr.map Prod.fst=List.range' i l.length∧k t∧Tr c ops tr s t∧z0T ops tr∧(∀x∈tr,∀y∈fps,z0k ops y.1 x.1∨z0K y.2 x.2=true)∧z1Z c.P ops (List.range' i l.length)
 |[],i,done,fps,s,hl,hd,ha,h=>⟨[],s,rfl,h,.refl _,.nil,by simp,by simp[z1Z]⟩
 |o::l,i,done,fps,s,hl,hdl,ha,h=>by
  have ho:ops[i]?=some o:=by
   have:=congrArg (·[0]?) hl;simpa using this
  have hl':ops.toList.drop (i+1)=l:=by
   have:=congrArg (List.drop 1) hl;simpa [Nat.add_comm]using this
  have ha':∀k,∀x∈(done++[z2e done o]).getD k [],z0k ops x k:=fun k x hx=>by
   rw[List.getD_eq_getElem?_getD]at hx;rcases Nat.lt_trichotomy k i with h|h|h
   ·rw[List.getElem?_append_left (by omega),←List.getD_eq_getElem?_getD]at hx;exact ha k x hx
   ·subst h;rw[List.getElem?_append_right (by omega),hdl,Nat.sub_self]at hx;exact z1M ho ha x hx
   ·rw[List.getElem?_eq_none (by simp;omega)]at hx;simp at hx
  have go:∀{s1:St} {f:FP} {p:zQ},Eqv s s1→gI c.P o i=true→jH (z2e done o) f fps=true→Loc c ops i f s1 p→gO c ops true (i+1) (done++[z2e done o]) ((i,f)::fps) l (s1.app p) k →
    ∃tr t,tr.map Prod.fst=List.range' i (l.length+1)∧k t∧Tr c ops tr s t∧z0T ops tr∧(∀x∈tr,∀y∈fps,z0k ops y.1 x.1∨z0K y.2 x.2=true)∧z1Z c.P ops (List.range' i (l.length+1)):=by
   intro s1 f p e he hor hloc h;obtain⟨tr,t,h1,h2,h3,h4,h5,h6⟩:=z2j l (i+1) _ _ _ hl' (by simp[hdl]) ha' h;refine⟨(i,f)::tr,t,by simp[h1,List.range'_succ],h2,⟨p,hloc.eqv e.symm,h3.eqv (e.app p).symm⟩,?_,?_,?_⟩
   ·refine List.Pairwise.cons (fun x hx=>h5 x hx (i,f) (by simp)) h4
   ·intro x hx y hy;rcases List.mem_cons.1 hx with rfl|hx
    ·rcases z1H hor y hy with h|h
     ·exact .inl (z1M ho ha _ h)
     ·exact .inr h
    ·exact h5 x hx y (List.mem_cons_of_mem _ hy)
   ·intro x hx;rw[List.range'_succ]at hx;rcases List.mem_cons.1 hx with rfl|hx
    ·exact⟨o,ho,he⟩
    ·exact h6 x hx
  have run:∀{s1:St},Eqv s s1→(∀s' p,Agree (gP c ops o s1) s1 s'→z3G c o s' (·=p)→z5O c ops i s' p) →
    kIf (gI c.P o i && jH (z2e done o) (gP c ops o s1) fps) (z3G c o s1 fun p=>gO c ops true (i+1) (done++[z2e done o]) ((i,gP c ops o s1)::fps) l (s1.app p) k) →
    ∃tr t,tr.map Prod.fst=List.range' i (l.length+1)∧k t∧Tr c ops tr s t∧z0T ops tr∧(∀x∈tr,∀y∈fps,z0k ops y.1 x.1∨z0K y.2 x.2=true)∧z1Z c.P ops (List.range' i (l.length+1)):=by
   intro s1 e hs h;obtain⟨hb,h⟩:=zG h;simp only[Bool.and_eq_true]at hb;obtain⟨p,h1,h2,h3⟩:=(z5Q c ops o s1).ex h;exact go e hb.1 hb.2 ⟨h2,fun s' A=>hs s' p A (by rw[z2i A];exact h3)⟩ h1
  unfold gO at h;simp only[cond_true]at h;rw[List.length_cons];cases hg:o.guard with
  |none=>
   rw[hg]at h;exact run (.refl s) (fun s' p A hp=>⟨o,ho,by rw[hg];exact hp⟩) h
  |some jw=>
   obtain⟨j,wt⟩:=jw;rw[hg]at h;dsimp only at h;split at h
   ·rename_i g hj
    split at h
    ·rename_i d hd
     have skip:∀{b:Bool},s.get d=.d (.bool b)→b≠wt →
       kIf (gI c.P o i && jH (z2e done o) (z2m ops o) fps) (gO c ops true (i+1) (done++[z2e done o]) ((i,z2m ops o)::fps) l (match o.dst with|some d'=>(s.app (jI d (.d (.bool b)))).app (jI d' .skp)|none=>s.app (jI d (.d (.bool b)))) k) →
       ∃tr t,tr.map Prod.fst=List.range' i (l.length+1)∧k t∧Tr c ops tr s t∧z0T ops tr∧(∀x∈tr,∀y∈fps,z0k ops y.1 x.1∨z0K y.2 x.2=true)∧z1Z c.P ops (List.range' i (l.length+1)):=by
      intro b hb hne h;obtain⟨hb2,h⟩:=zG h;simp only[Bool.and_eq_true]at hb2;have e:(match o.dst with|some d'=>(s.app (jI d (.d (.bool b)))).app (jI d' .skp)|none=>s.app (jI d (.d (.bool b))))=(s.app (jI d (.d (.bool b)))).app (z0g o):=by
       unfold z0g;cases o.dst with
       |none=>rfl
       |some d'=>rfl
      rw[e]at h;refine go (Eqv.told hb) hb2.1 hb2.2 ⟨?_,fun s' A=>⟨o,ho,?_⟩⟩ h
      ·unfold z0g z2m;cases o.dst with
       |none=>exact⟨by simp,by simp,by simp⟩
       |some d'=>exact⟨by simp[jI],by simp[jI],by simp[jI]⟩
      ·rw[hg];refine .inl ⟨g,d,b,hj,hd,?_,.inr ⟨hne,rfl⟩⟩;rw[A.get d (jB hg hj hd),(Eqv.told hb).get d,hb]
     have told:∀{b:Bool} {s1:St},Eqv s s1→s.get d=.d (.bool b)→b=wt→∀s' p,Agree (gP c ops o s1) s1 s'→z3G c o s' (·=p)→z5O c ops i s' p:=by
      intro b s1 e hb hw s' p A hp;refine⟨o,ho,?_⟩;rw[hg];refine .inl ⟨g,d,b,hj,hd,?_,.inl ⟨hw,hp⟩⟩;rw[A.get d (List.mem_append_right _ (jB hg hj hd)),e.get d,hb]
     split at h
     ·rename_i hsk
      obtain⟨hb2,h⟩:=zG h;simp only[Bool.and_eq_true]at hb2;replace h:gO c ops true (i+1) (done++[z2e done o]) ((i,z2m ops o)::fps) l (s.app (z0g o)) k:=by
       revert h;unfold z0g;cases o.dst with
       |none=>exact id
       |some d'=>exact id
      refine go (.refl s) hb2.1 hb2.2 ⟨?_,fun s' A=>⟨o,ho,?_⟩⟩ h
      ·unfold z0g z2m;cases o.dst with
       |none=>exact⟨by simp,by simp,by simp⟩
       |some d'=>exact⟨by simp[jI],by simp[jI],by simp[jI]⟩
      ·rw[hg];refine .inr ⟨g,d,hj,hd,?_,rfl⟩;rw[A.get d (jB hg hj hd),hsk]
     obtain⟨x,hx,h1⟩:=z2F h;rcases h1 with⟨rfl,h1⟩|⟨rfl,h1⟩
     ·cases wt with
      |true=>exact run (Eqv.told hx) (told (Eqv.told hx) hx rfl) h1
      |false=>exact skip hx (by simp) h1
     ·cases wt with
      |false=>exact run (Eqv.told hx) (told (Eqv.told hx) hx rfl) h1
      |true=>exact skip hx (by simp) h1
    ·exact h.elim
   ·exact h.elim
structure Left(ops:Array Oper)(listed:Array Bool)(tr:List (Nat×FP)):Prop where
 size:listed.size=ops.size
 lt:∀x∈tr,x.1<ops.size
 left:∀i,i<ops.size→(listed.getD i true=false↔∃x∈tr,x.1=i)
 nodup:(tr.map Prod.fst).Pairwise (·<·)
 up:∀x∈tr,∀j,j<ops.size→z0k ops x.1 j→∃y∈tr,y.1=j
theorem gL(e:Edge):Region.binds .any e=z0H e:=by
 unfold Region.binds z0H;cases e.ground<;>rfl
theorem uU{P:Program}{o:Oper}{i:Nat}(h:gI P o i=true):∀e∈o.after.toList,z0H e=true→e.on<i:=fun e he hb=>by
 have:=List.all_eq_true.1 h e he;rw[hb]at this;exact z3b this
theorem z0a{P:Program}{ops:Array Oper}{listed:Array Bool}{tr:List (Nat×FP)}(L:Left ops listed tr)(hok:z1Z P ops (List.range ops.size))(i:Nat):
  i∈Region.ready .any ops listed↔(∃x∈tr,x.1=i)∧∀o,ops[i]?=some o→∀e∈o.after.toList,z0H e=true→¬∃y∈tr,y.1=e.on:=by
 unfold Region.ready;simp only[List.mem_filter,List.mem_range,Bool.and_eq_true,Bool.not_eq_true'];constructor
 ·rintro⟨hi,h1,h2⟩;refine⟨(L.left i hi).1 h1,fun o ho e he hb hy=>?_⟩;obtain⟨o',ho',hok'⟩:=hok i (by simpa using hi);rw[ho]at ho';injection ho' with ho';subst ho';have b1:=uU hok' e he hb;simp only[ho,Option.map_some,Option.getD_some,Array.all_eq_true_iff_forall_mem]at h2;have:=h2 e (by simpa using he);simp only[gL,hb,Bool.not_true,Bool.false_or]at this;have h3:=(L.left e.on (by omega)).2 hy;have hlt:e.on<listed.size:=by rw[L.size];omega
  simp[Array.getD_eq_getD_getElem?,Array.getElem?_eq_getElem hlt]at this h3;rw[this]at h3;cases h3
 ·rintro⟨⟨x,hx,rfl⟩,h2⟩;have hi:=L.lt x hx;refine⟨hi,(L.left _ hi).2 ⟨x,hx,rfl⟩,?_⟩;obtain⟨o,ho,hok'⟩:=hok x.1 (by simpa using hi);simp only[ho,Option.map_some,Option.getD_some,Array.all_eq_true_iff_forall_mem];intro e he;cases hb:z0H e with
  |false=>simp only[gL,hb,Bool.not_false,Bool.true_or]
  |true=>
   have b1:=uU hok' e (by simpa using he) hb;have hne:=h2 o ho e (by simpa using he) hb;have hlt:e.on<listed.size:=by rw[L.size];omega
   have:¬listed.getD e.on true=false:=fun h=>hne ((L.left e.on (by omega)).1 h);simp only[gL,hb,Bool.not_true,Bool.false_or];simp[Array.getD_eq_getD_getElem?,Array.getElem?_eq_getElem hlt]at this ⊢;exact this
theorem Left.take {P:Program} {ops:Array Oper} {listed:Array Bool} {l1 l2:List (Nat×FP)} {j:Nat} {f:FP} (L:Left ops listed (l1++(j,f)::l2)) (hok:z1Z P ops (List.range ops.size))
  (hr:j∈Region.ready .any ops listed):Left ops (listed.setIfInBounds j true) (l1++l2):=by
 have hj:=(z0a L hok j).1 hr;have hnd:=L.nodup;simp only[List.map_append,List.map_cons]at hnd;have hlt1:∀x∈l1,x.1<j:=fun x hx=>(List.pairwise_append.1 hnd).2.2 _ (List.mem_map_of_mem hx) _ (by simp);have hlt2:∀x∈l2,j<x.1:=fun x hx=>(List.pairwise_cons.1 (List.pairwise_append.1 hnd).2.1).1 _ (List.mem_map_of_mem hx);have hne:∀x∈l1++l2,x.1≠j:=fun x hx=>by
  rcases List.mem_append.1 hx with h|h
  ·have:=hlt1 x h;omega
  ·have:=hlt2 x h;omega
 have mem:∀x,x.1≠j→(x∈l1++(j,f)::l2↔x∈l1++l2):=fun x hx=>by
  simp only[List.mem_append,List.mem_cons];constructor
  ·rintro(h|rfl|h)
   ·exact .inl h
   ·exact absurd rfl hx
   ·exact .inr h
  ·rintro(h|h)
   ·exact .inl h
   ·exact .inr (.inr h)
 have hjs:j<ops.size:=L.lt (j,f) (by simp);refine⟨by simp[L.size],fun x hx=>L.lt x ((mem x (hne x hx)).2 hx),fun i hi=>?_,?_,fun x hx i hi ha=>?_⟩
 ·by_cases e:i=j
  ·subst e;have h1:(listed.setIfInBounds i true).getD i true=true:=by
    have:i<listed.size:=by rw[L.size];exact hi
    simp[Array.getD_eq_getD_getElem?,Array.getElem?_setIfInBounds_self,this]
   rw[h1];constructor
   ·intro h;cases h
   ·rintro⟨x,hx,e⟩;exact absurd e (hne x hx)
  ·have h1:(listed.setIfInBounds j true).getD i true=listed.getD i true:=by
    rw[Array.getD_eq_getD_getElem?,Array.getD_eq_getD_getElem?,Array.getElem?_setIfInBounds_ne (by omega)]
   rw[h1,L.left i hi];constructor
   ·rintro⟨x,hx,rfl⟩;exact⟨x,(mem x e).1 hx,rfl⟩
   ·rintro⟨x,hx,rfl⟩;exact⟨x,(mem x e).2 hx,rfl⟩
 ·rw[List.map_append];refine List.pairwise_append.2 ⟨(List.pairwise_append.1 hnd).1,(List.pairwise_cons.1 (List.pairwise_append.1 hnd).2.1).2,fun a ha b hb=>?_⟩;exact(List.pairwise_append.1 hnd).2.2 a ha b (List.mem_cons_of_mem _ hb)
 ·have hx':=(mem x (hne x hx)).2 hx;obtain⟨y,hy,e⟩:=L.up x hx' i hi ha;have:i≠j:=by
   rintro rfl;cases ha with
   |one ho he hb e'=>exact hj.2 _ ho _ he hb ⟨x,hx',e'.symm⟩
   |more hk ho he hb e' =>
    obtain⟨o',ho',hok'⟩:=hok i (by simpa using hi);rw[ho]at ho';injection ho' with ho';subst ho';have b1:=uU hok' _ he hb;obtain⟨z,hz,e2⟩:=L.up x hx' _ (by omega) hk;exact hj.2 _ ho _ he hb ⟨z,hz,by rw[e2,e']⟩
  exact⟨y,(mem y (by rw[e];exact this)).1 hy,e⟩
theorem Left.first{P:Program}{ops:Array Oper}{listed:Array Bool}{x:Nat×FP}{l:List (Nat×FP)}(L:Left ops listed (x::l))(hok:z1Z P ops (List.range ops.size)):x.1∈Region.ready .any ops listed:=by
 refine(z0a L hok x.1).2 ⟨⟨x,by simp,rfl⟩,fun o ho e he hb ⟨y,hy,e'⟩=>?_⟩;obtain⟨o',ho',hok'⟩:=hok x.1 (by simpa using L.lt x (by simp));rw[ho]at ho';injection ho' with ho';subst ho';have b1:=uU hok' e he hb;have hnd:=L.nodup;rw[List.map_cons]at hnd;rcases List.mem_cons.1 hy with rfl|hy
 ·omega
 ·have:=(List.pairwise_cons.1 hnd).1 _ (List.mem_map_of_mem hy);omega
theorem z3T{j:Nat}:∀{l:List (Nat×FP)},(∃x∈l,x.1=j)→∃l1 f l2,l=l1++(j,f)::l2
 |x::l,⟨y,hy,e⟩=>by
  rcases List.mem_cons.1 hy with rfl|hy
  ·obtain⟨i,f⟩:=y;exact⟨[],f,l,by cases e;rfl⟩
  ·obtain⟨l1,f,l2,rfl⟩:=z3T ⟨y,hy,e⟩;exact⟨x::l1,f,l2,rfl⟩
section
variable {X:Ctx} {c:Cx} {ops:Array Oper} {Q:Exit→Act→World→Prop}
theorem z4G(hT:∀f vs h rs h',c.trip f vs h rs h'→Trip c.P f vs h rs h')(hok:z1Z c.P ops (List.range ops.size)){t:St}(hQ:∀κ a w,Rel X κ t a w→Q .normal a w):
  ∀(n:Nat) (tr:List (Nat×FP)) (listed:Array Bool) (κ:Kap) (s:St) (a:Act) (w:World),tr.length=n→Left ops listed tr→z0T ops tr→Tr c ops tr s t→Rel X κ s a w→wpAny c.P .any ops Q n listed a w:=by
 intro n;induction n with
 |zero=>
  intro tr listed κ s a w hl L hord htr R;have:tr=[]:=List.length_eq_zero_iff.1 hl;subst this;refine⟨?_,hQ κ a w (R.eqv htr)⟩;rw[List.eq_nil_iff_forall_not_mem];intro i hi;obtain⟨⟨x,hx,-⟩,-⟩:=(z0a L hok i).1 hi;simp at hx
 |succ n ih=>
  intro tr listed κ s a w hl L hord htr R;refine⟨fun h=>?_,fun j hj=>?_⟩
  ·cases tr with
   |nil=>simp at hl
   |cons x l=>
    have:=L.first hok
    rw[h]at this;simp at this
  ·have hj':=(z0a L hok j).1 hj;obtain⟨l1,f,l2,rfl⟩:=z3T hj'.1;have hind:∀x∈l1,z0K x.2 f=true:=fun x hx=>by
    have hp:=(List.pairwise_append.1 hord).2.2 x hx (j,f) (by simp);rcases hp with h|h
    ·exfalso;have hlt:j<ops.size:=L.lt (j,f) (by simp);cases h with
     |one ho he hb e=>exact hj'.2 _ ho _ he hb ⟨x,List.mem_append_left _ hx,e.symm⟩
     |more hk ho he hb e=>
      obtain⟨o',ho',hok'⟩:=hok j (by simpa using hlt);rw[ho]at ho';injection ho' with ho';subst ho';have b1:=uU hok' _ he hb;obtain⟨z,hz,e2⟩:=L.up x (List.mem_append_left _ hx) _ (by omega) hk;exact hj'.2 _ ho _ he hb ⟨z,hz,by rw[e2,e]⟩
    ·exact h
   obtain⟨p,hp,hrest⟩:=Tr.front hind htr;refine uO hT R (hp.step s ⟨rfl,fun _ _=>rfl,fun _ _=>rfl,fun _=>⟨rfl,rfl⟩,fun _=>rfl⟩) fun κ' a' w' R'=>?_;refine ih (l1++l2) _ κ' _ a' w' (by simp at hl ⊢;omega) (L.take hok hj) ?_ hrest R';exact hord.sublist (by simp)
end
theorem Rel.drawn{X:Ctx}{κ:Kap}{s:St}{a:Act}{w:World}(R:Rel X κ s a w)(n:Nat):Rel X κ s a {w with drawn:=n}:=by
 have K:∀M,Keeps w M {w with drawn:=n} M:=fun M=>⟨fun _ _ _ h _=>h,fun _ _ _ _ h=>h⟩;have T:Stays w (Mut X.M0 κ) κ s.env {w with drawn:=n} (Mut X.M0 κ) κ s.env:=
  {keeps:=K _,hp:=fun _ _ h=>h,gen:=fun k=>Nat.le_refl _,ob:=fun k g ob' _ ho=>⟨ob',ho,.inl ⟨rfl,rfl⟩⟩,ex:=fun _ _ v h=>⟨v,h⟩,ic:=fun _ _ _ _ h=>h,hvle:=Nat.le_refl _
   lent:=fun _=>⟨rfl,fun _ _ _ _ _ _ _ hk _ _=>⟨hk,fun h=>h⟩⟩}
 exact {m0:=R.m0,defs:=R.defs,size:=R.size,kept:=⟨R.kept.os,R.kept.tape,R.kept.output,R.kept.size,R.kept.block⟩,k0:=R.k0.trans (K _),g0:=R.g0.trans ⟨fun _ _ v h=>⟨v,h⟩,fun _ _ _ _ h=>h⟩,kb:=R.kb,ki:=R.ki,hn:=R.hn,hp0:=R.hp0
        slots:=fun i=>(R.slots i).stay T,obs:=fun k g ob h=>RelOb.stay T (R.obs k g ob h) rfl (fun _ _ _=>rfl),heap:=RelH.stay T R.heap rfl (fun _ _=>rfl) (fun _ _ _ _=>rfl)}
theorem z6M {X:Ctx} {c:Cx} (hT:∀f vs h rs h',c.trip f vs h rs h'→Trip c.P f vs h rs h') {κ:Kap} {s:St} {a:Act} {w:World} {id:Nat} {ops:Array Oper} {draw:Bool} {Q:Exit→Act→World→Prop} {k:St→Prop}
  (h:gO c ops draw 0 [] [] ops.toList s k) (hk:∀κ s a w,k s→Rel X κ s a w→Q .normal a w) (R:Rel X κ s a w):(Code.region id ops draw).wp c.P Q a w:=by
 cases draw with
 |false=>
  refine wp_region ?_;have:=jU hT hk ops.toList 0 [] [] κ s a w rfl h R
  rwa [List.range_eq_range',←Array.length_toList]
 |true=>
  obtain⟨tr,t,h1,h2,h3,h4,-,h6⟩:=z2j ops.toList 0 [] [] s rfl rfl (by simp) h;have hok:z1Z c.P ops (List.range ops.size):=by rwa [List.range_eq_range',←Array.length_toList]
  refine wp_region_draw fun d=>?_;have hsch:(c.P.follows .mixedOrders || !Region.departs ops)=true:=by
   cases hd:Region.departs ops with
   |false=>simp
   |true=>
    unfold Region.departs at hd;obtain⟨o,ho,he⟩:=Array.any_eq_true'.1 hd;obtain⟨e,he1,he2⟩:=Array.any_eq_true'.1 he;obtain⟨i,hi,hio⟩:=Array.mem_iff_getElem.1 ho;obtain⟨o',ho',hok'⟩:=hok i (by simpa using hi);have:ops[i]?=some o:=by rw[Array.getElem?_eq_getElem hi,hio]
    rw[this]at ho';injection ho' with ho';subst ho';rw[gL]at he2;have h5:=List.all_eq_true.1 hok' e (by simpa using he1);have h6:z0H e=false:=by simpa using he2
    rw[h6]at h5;simp only[cond_false]at h5;rw[h5];rfl
  simp only[Region.schedule,hsch,if_true];refine wpAny_sound ops.size d _ a _ ?_;have hlen:tr.length=ops.size:=by
   have:=congrArg List.length h1;simpa using this
  have hmem:∀i,(∃x∈tr,x.1=i)↔i<ops.size:=fun i=>by
   have:i∈tr.map Prod.fst↔i<ops.size:=by rw[h1];simp
   rw[←this,List.mem_map]
  refine z4G hT hok (fun κ a w R=>hk κ t a w h2 R) ops.size tr _ κ s a _ hlen ?_ h4 h3 (R.drawn _);refine⟨by simp,fun x hx=>(hmem x.1).1 ⟨x,hx,rfl⟩,fun i hi=>?_,?_,fun x _ j hj _=>(hmem j).2 hj⟩
  ·rw[hmem];simp[Array.getD_eq_getD_getElem?,hi]
  ·rw[h1];have:List.range' 0 ops.toList.length=List.range ops.toList.length:=(List.range_eq_range').symm;rw[this];exact List.pairwise_lt_range
end Nt

