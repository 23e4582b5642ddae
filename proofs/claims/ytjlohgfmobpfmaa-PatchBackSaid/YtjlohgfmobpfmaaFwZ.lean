import Derived.Test.YtjlohgfmobpfmaaFwY
namespace Nt
open Go
set_option linter.unusedVariables false
set_option linter.unusedSimpArgs false
def KI.item:KI→Item
 |.code c=>.code c
 |.blk id=>.inBlock id
 |.loop b=>.inLoop b
 |.sc b=>.inScope b
def z4n(K:List KI):List Item:=K.map KI.item
def Runs(P:Program)(Q:Act→World→Prop)(K:List KI)(a:Act)(w:World):Prop:=
 ∀(b:Frame) (k:List Item) (cs:List Frame),∃e a' w',(e=.normal∨e=.ret)∧Q a' w'∧Arrives P (lone (b.at a (z4n K++k)) cs w) b k cs e a' w'
section
variable {P:Program} {Q:Act→World→Prop} {a:Act} {w:World} {K:List KI}
theorem Runs.step{K':List KI}{a':Act}(hs:∀(b:Frame) (k:List Item) (cs:List Frame),Go.step P (lone (b.at a (z4n K++k)) cs w)=.next (lone (b.at a (z4n K'++k)) cs w))(h:Runs P Q K' a w):Runs P Q K a w:=
 fun b k cs=>let ⟨e,a',w',h1,h2,h3⟩:=h b k cs;⟨e,a',w',h1,h2,.of_steps (.one (hs b k cs)) h3⟩
theorem Runs.nil(h:Q a w):Runs P Q [] a w:=fun b k cs=>⟨.normal,a,w,.inl rfl,h,(Steps.refl (P:=P) _:Steps P _ _)⟩
theorem Runs.ret(h:Q a w):Runs P Q (.code .ret::K) a w:=fun b k cs=>⟨.ret,a,w,.inr rfl,h,_,.one step_ret⟩
theorem Runs.code{c:Code}(h:c.wp P (fun e a w=>e=.normal∧Runs P Q K a w) a w):Runs P Q (.code c::K) a w:=fun b k cs=>by
 obtain⟨e,a1,w1,⟨rfl,h1⟩,h2⟩:=h b (z4n K++k) cs;obtain⟨e,a2,w2,h3,h4,h5⟩:=h1 b k cs;exact⟨e,a2,w2,h3,h4,.of_steps h2 h5⟩
theorem wF{id:Nat}:∀{K K':List KI},z5Y id K=some K'→∀k,exitTo id (z4n K++k)=some (z4n K'++k)
 |.blk j::K,K',h,k=>by
  unfold z5Y at h;show exitTo id (.inBlock j::(z4n K++k))=_;unfold exitTo;by_cases e:j=id
  ·subst e;simp at h;subst h;simp
  ·simp only[z1e e,cond_false]at h;simp only[zq2,e,if_false];exact wF h k
 |.code c::K,K',h,k=>wF (K:=K) h k
 |.loop c::K,K',h,k=>wF (K:=K) h k
 |.sc c::K,K',h,k=>wF (K:=K) h k
def z2B:List KI→List KI
 |.loop b::K=>.code b::.loop b::K
 |K=>K
theorem Runs.unroll_head(h:Runs P Q (z2B K) a w):Runs P Q K a w:=by
 cases K with
 |nil=>exact h
 |cons x K=>
  cases x with
  |loop b=>exact Runs.step (a':=a) (fun _ _ _=>step_inLoop) h
  |_=>exact h
end
theorem z7a{P:Program}{b:Frame}{a:Act}{k:List Item}{cs:List Frame}{w:World}{c:Code}:Go.step P (lone (b.at a (.code (.scope c)::k)) cs w)=.next (lone (b.at a (.code c::.inScope c::k)) cs w):=
 step_lone_go (by simp[stepG,stepG.exec,Frame.at])
theorem z4D{P:Program}{b:Frame}{a:Act}{k:List Item}{cs:List Frame}{w:World}{c:Code}:Go.step P (lone (b.at a (.inScope c::k)) cs w)=.next (lone (b.at a k) cs w):=
 step_lone_go (by simp[stepG,stepG.exec,Frame.at])
theorem z2r:∀{cs:List Sv},vU cs=true→∀(i:Nat) c,cs[i]?=some c→c.plain=true
 |[],_,i,c,h=>by simp at h
 |x::cs,hp,0,c,h=>by simp only[vU,Bool.and_eq_true]at hp;simp at h;subst h;exact hp.1
 |x::cs,hp,i+1,c,h=>by simp only[vU,Bool.and_eq_true]at hp;exact z2r hp.2 i c (by simpa using h)
theorem z1w{e:Nat×Option Ob}{g:Nat}{o:Ob}(h:gC e=(g,some o)):e=(g,some o)∧∀cs,o=.box cs→vU cs=true:=by
 obtain⟨g',o'⟩:=e;cases o' with
 |none=>injection h with _ h;cases h
 |some ob=>
  cases ob with
  |box cs=>
   change (g',cond (vU cs) (some (Ob.box cs)) none)=_ at h;cases hp:vU cs with
   |false=>rw[hp]at h;injection h with _ h;cases h
   |true=>rw[hp]at h;injection h with h1 h2;injection h2 with h2;subst h1;subst h2;exact⟨rfl,fun cs' e=>by injection e with e;subst e;exact hp⟩
  |_=>injection h with h1 h2;injection h2 with h2;subst h1;subst h2;exact⟨rfl,fun cs' e=>by cases e⟩
theorem z5B(e:Nat×Option Ob):(gC e).1=e.1:=by
 obtain⟨g',o'⟩:=e;cases o' with
 |none=>rfl
 |some ob=>cases ob<;>rfl
theorem z7i{e:Nat×Option Ob}{g n:Nat}(h:z7h e g n=true):e=(g,some (.tok n 0)):=by
 unfold z7h at h;split at h
 ·simp only[Bool.and_eq_true]at h;rw[vX h.1,vX h.2]
 ·cases h
section
variable {X:Ctx} {κ:Kap} {s:St} {a:Act} {w:World}
theorem vN(s:St):∀(l:List Lv) (k:Nat),(k ∉ jE l∧zC (zP s l) k=(0,none))∨(k∈jE l∧(zC (zP s l) k=gC (zC s.ar k)∨∃n,zC (zP s l) k=(s.gen k+1,some (.tok n 0))))
 |[],k=>.inl ⟨by simp[jE],rfl⟩
 |.s i::r,k=>vN s r k
 |.o i key n::r,k=>by
  have ih:=vN s r k;have:zP s (.o i key n::r)=(match s.get i with|.nilS=>(key,s.gen key+1,some (.tok n 0))|_=>(key,gC (zC s.ar key)))::zP s r:=rfl;rw[this];have hk:jE (.o i key n::r)=key::jE r:=rfl;rw[hk];by_cases e:key=k
  ·subst e;refine .inr ⟨by simp,?_⟩;split
   ·rw[zA,zq1 rfl];exact .inr ⟨n,rfl⟩
   ·rw[zA,zq1 rfl];exact .inl rfl
  ·have:zC ((match s.get i with|.nilS=>(key,s.gen key+1,some (.tok n 0))|_=>(key,gC (zC s.ar key)))::zP s r) k=zC (zP s r) k:=by
    split<;>rw[zA,zq0 e]
   rw[this];rcases ih with⟨h1,h2⟩|⟨h1,h2⟩
   ·exact .inl ⟨by simp[h1];exact fun h=>e h.symm,h2⟩
   ·exact .inr ⟨by simp[h1],h2⟩
 |.h _::r,k=>vN s r k
 |.a i::r,k=>by
  have ih:=vN s r k;have:zP s (.a i::r)=(i,gC (zC s.ar i))::zP s r:=rfl;rw[this];have hk:jE (.a i::r)=i::jE r:=rfl;rw[hk,zA];by_cases e:i=k
  ·subst e;exact .inr ⟨by simp,by rw[zq1 rfl];exact .inl rfl⟩
  ·rw[zq0 e];rcases ih with⟨h1,h2⟩|⟨h1,h2⟩
   ·exact .inl ⟨by simp[h1];exact fun h=>e h.symm,h2⟩
   ·exact .inr ⟨by simp[h1],h2⟩
theorem z8l{M:Nat→Nat→Prop}{E':Env}{ks:List Nat}(hA:∀k,k∈ks→zC E'.ar k=gC (zC s.ar k)∨∃n,zC E'.ar k=(s.gen k+1,some (.tok n 0))){v:Value}{x:Sv}(h:RelS w M κ s.env v x):RelS w M κ E' v (z8G ks x):=by
 have gen:∀k g,k∈ks→g≤s.gen k→g≤E'.gen k:=fun k g hk hg=>by
  unfold Env.gen;rcases hA k hk with h|⟨n,h⟩<;>rw[h]
  ·rw[z5B];exact hg
  ·show g≤s.gen k+1;omega
 have ob:∀k g o,k∈ks→g≤s.gen k→E'.ob k g=some o→s.env.ob k g=some o:=fun k g o hk hg ho=>by
  rw[ob_iff]at ho ⊢;rcases hA k hk with h|⟨n,h⟩<;>rw[h]at ho
  ·exact(z1w ho).1
  ·injection ho with h1 h2;omega
 cases h with
 |undef=>exact .undef _
 |skp=>exact .skp
 |nilF=>exact .nilF
 |bld _ _ _ h _=>exact .d _ _ h
 |d _ _ h=>exact .d _ _ h
 |nilS _ h=>exact .nilS _ h
 |right _ k g n xs h1 h2 h3=>
  show RelS w M κ E' v (cond (has ks k) (.right k g n xs) (.d (.sl xs)));cases hk:has ks k with
  |false=>exact .d _ _ h1
  |true=>
   have hk:=hasIff.1 hk;exact .right _ _ _ _ _ h1 (gen k g hk h2) (fun n' l ho=>h3 n' l (ob k g _ hk h2 ho))
 |row _ k g h2 h3=>
  show RelS w M κ E' v (cond (has ks k) (.row k g) .undef);cases hk:has ks k with
  |false=>exact .undef _
  |true=>
   have hk:=hasIff.1 hk;exact .row _ _ _ (gen k g hk h2) (fun n' l ho=>h3 n' l (ob k g _ hk h2 ho))
 |ref _ k g o h2 h3=>
  show RelS w M κ E' v (cond (has ks k) (.ref k g o) .undef);cases hk:has ks k with
  |false=>exact .undef _
  |true=>
   have hk:=hasIff.1 hk;exact .ref _ _ _ _ (gen k g hk h2) (fun o' ho=>h3 o' (ob k g _ hk h2 ho))
 |rref _ k g n i o h2 h3=>
  show RelS w M κ E' v (cond (has ks k) (.rref k g n i o) .undef);cases hk:has ks k with
  |false=>exact .undef _
  |true=>
   have hk:=hasIff.1 hk;exact .rref _ _ _ _ _ _ (gen k g hk h2) (fun o' ho=>h3 o' (ob k g _ hk h2 ho))
 |iel b o x off h=>exact .iel _ _ _ _ h
 |hp b id off h=>exact .hp _ _ _ h
 |lent _ id off ver n xs h _ _=>exact .d _ _ h
 |fn f vs ws first cap p1 p2 h1 h2=>exact .fn _ _ _ _ _ p1 p2 (RelSs.conv (.refl _ _) (fun _ _ h=>h) p1 h1) (RelSs.conv (.refl _ _) (fun _ _ h=>h) p2 h2)
 |tup vs svs h=>
  show RelS w M κ E' _ (cond (vU svs) (.tup svs) .undef);cases hp:vU svs with
  |false=>exact .undef _
  |true=>exact .tup _ _ (RelSs.conv (.refl _ _) (fun _ _ h=>h) hp h)
 |cells vs svs h=>exact .undef _
theorem Rel.restrict(R:Rel X κ s a w)(l:List Lv):Rel X κ (restrict s l) a w:=by
 have hlook:=vN s l;have hA:∀k,k∈jE l→zC (zP s l) k=gC (zC s.ar k)∨∃n,zC (zP s l) k=(s.gen k+1,some (.tok n 0)):=fun k hk=>by
  rcases hlook k with⟨h,-⟩|⟨-,h⟩
  ·exact absurd hk h
  ·exact h
 have cut:∀i,RelS w (Mut X.M0 κ) κ (Nt.restrict s l).env (a.tmps.getD i Go.undef) (z8G (jE l) (s.get i)):=fun i=>z8l (E':=(Nt.restrict s l).env) hA (R.slots i);have sl:∀(l':List Lv) i,RelS w (Mut X.M0 κ) κ (Nt.restrict s l).env (a.tmps.getD i Go.undef) (z1z (uF s (jE l) (zP s l) l') i):=by
  intro l';induction l' with
  |nil=>intro i;exact .undef _
  |cons x l' ih=>
   intro i;cases x with
   |s j=>
    show RelS _ _ _ _ _ (z1z ((j,z8G (jE l) (s.get j))::_) i);rw[vA];split
    ·rename_i e;subst e;exact cut j
    ·exact ih i
   |a j=>exact ih i
   |h n=>exact ih i
   |o j key n=>
    show RelS _ _ _ _ _ (z1z ((match s.get j with|.nilS=>(j,cond (z7h (zC (zP s l) key) (s.gen key+1) n) (.right key (s.gen key+1) n []) (.d (.sl [])))|v=>(j,z8G (jE l) v))::_) i);split
    ·rename_i hs
     rw[vA];split
     ·rename_i e;subst e
      have hv:=R.slots j;rw[hs]at hv;generalize a.tmps.getD j Go.undef=v at hv;cases hv with|nilS _ hemp=>
      cases hb:z7h (zC (zP s l) key) (s.gen key+1) n with
      |false=>exact .d _ _ hemp.relV
      |true=>
       have hb:=z7i hb;refine .right _ _ _ _ _ hemp.relV (by show s.gen key+1≤(zC (zP s l) key).1;rw[hb];exact Nat.le_refl _) (fun n' l' ho=>?_);rw[ob_iff]at ho;change zC (zP s l) key=_ at ho;rw[hb]at ho;injection ho with _ ho;injection ho with ho;injection ho with e1 e2;subst e1;subst e2;exact⟨rfl,Nat.le_refl _,fun _=>hemp.right⟩
     ·exact ih i
    ·rw[vA];split
     ·rename_i e;subst e;exact cut j
     ·exact ih i
 refine {m0:=R.m0,defs:=R.defs,size:=R.size,kept:=R.kept,k0:=R.k0,g0:=R.g0,kb:=R.kb,ki:=R.ki,hn:=R.hn,hp0:=R.hp0,slots:=fun i=>sl l i,obs:=fun k g ob h=>?_,heap:=fun id cs hc=>?_}
 ·have h:=ob_iff.1 (show(Nt.restrict s l).env.ob k g=some ob from h);change zC (zP s l) k=_ at h;rcases hlook k with⟨-,h1⟩|⟨-,h1|⟨n,h1⟩⟩<;>rw[h1]at h
  ·injection h with _ h;cases h
  ·obtain⟨h,hb⟩:=z1w h;have:=R.obs k g ob (show s.env.ob k g=some ob from ob_iff.2 h);cases ob with
   |agg x=>exact this
   |row n xs=>exact this
   |tok n l=>trivial
   |box cs=>
    obtain⟨b,q1,q2⟩:=this;refine⟨b,q1,fun i c hi=>?_⟩;obtain⟨v,r1,r2,r3,r4⟩:=q2 i c hi;exact⟨v,r1,r2,RelS.conv (.refl _ _) (fun _ _ h=>h) (z2r (hb cs rfl) i c hi) r3,r4⟩
  ·injection h with _ h;injection h with h;subst h;trivial
 ·obtain⟨b,h1,h2⟩:=R.heap id cs hc;refine⟨b,h1,fun i c hi=>?_⟩;obtain⟨v,g1,g2,g3,g4⟩:=h2 i c hi;exact⟨v,g1,g2,g3,RelHc.conv (.refl _ _) (.refl _) (fun _ _ h=>h) rfl g4⟩
end
section
variable {X:Ctx} {κ:Kap} {s:St} {a:Act} {w:World}
def z7o(κ:Kap)(n:Nat):Kap
 |.hp id=>if id<n then κ (.hp id)else none
 |.ho id off=>if id<n then κ (.ho id off)else none
 |k=>κ k
theorem uY{n:Nat}{k:Key}{q:Nat×Nat}(h:z7o κ n k=some q):κ k=some q:=by
 cases k with
 |ar i=>exact h
 |hp id=>
  change (if id<n then κ (.hp id)else none)=some q at h;split at h
  ·exact h
  ·cases h
 |ho id off=>
  change (if id<n then κ (.ho id off)else none)=some q at h;split at h
  ·exact h
  ·cases h
theorem vM(n:Nat)(M0:Nat→Nat→Prop):Keeps w (Mut M0 κ) w (Mut M0 (z7o κ n)):=
 ⟨fun b o v h _=>h,fun b o v _ hm hm'=>hm (hm'.elim .inl fun⟨k,lo,h,hlo⟩=>.inr ⟨k,lo,uY h,hlo⟩)⟩
theorem z2y(n:Nat):∀(fr:List (Nat×Sv)) (i:Nat),z1z (z5K n fr) i=cutH n (z1z fr i)
 |[],i=>by simp[z5K,z1z,cutH,hLt]
 |(j,v)::r,i=>by
  rw[z5K,vA,vA,z2y n r i];split<;>rfl
theorem jT(n:Nat):∀(ar:List (Nat×Nat×Option Ob)) (k:Nat),zC (z4e n ar) k=((zC ar k).1,(zC ar k).2.map (z5L n))
 |[],k=>rfl
 |(j,g,some o)::r,k=>by
  rw[z4e,zA,zA,jT n r k];split<;>rfl
 |(j,g,none)::r,k=>by
  rw[z4e,zA,zA,jT n r k];split<;>rfl
theorem z4f(n:Nat):∀(h:H) (m id:Nat),(z0u n h m)[id]?=if id<m then(h[id]?).map (z3B n)else none
 |h,0,id=>by simp[z0u]
 |[],m+1,id=>by simp[z0u]
 |cs::r,m+1,0=>by simp[z0u]
 |cs::r,m+1,id+1=>by
  rw[z0u,List.getElem?_cons_succ,z4f n r m id,List.getElem?_cons_succ];by_cases h:id<m
  ·rw[zq1 h,zq1 (by omega)]
  ·rw[zq0 h,zq0 (by omega)]
theorem z4g(n:Nat):∀(h:H) (m:Nat),(z0u n h m).length=min h.length m
 |h,0=>by simp[z0u]
 |[],m+1=>by simp[z0u]
 |cs::r,m+1=>by rw[z0u,List.length_cons,List.length_cons,z4g n r m];omega
theorem z1l(n:Nat):∀(cs:List Sv) (i:Nat) (c:Sv),(z3B n cs)[i]?=some c→∃x,cs[i]?=some x∧c=cutH n x
 |[],i,c,h=>by simp[z3B]at h
 |x::r,0,c,h=>by simp[z3B]at h;exact⟨x,rfl,h.symm⟩
 |x::r,i+1,c,h=>by simpa using z1l n r i c (by simpa [z3B]using h)
theorem z7k{n:Nat}{o:Ob}{m l:Nat}(h:z5L n o=.tok m l):o=.tok m l:=by cases o<;>first|exact h|cases h
theorem z7j{n:Nat}{o:Ob}{m:Nat}{xs:List D}(h:z5L n o=.row m xs):o=.row m xs:=by cases o<;>first|exact h|cases h
theorem z1W{n:Nat}{o:Ob}:(z5L n o).isTok=o.isTok:=by cases o<;>rfl
theorem z0Q(n k:Nat):(trim n s).env.gen k=s.gen k:=by
 show(zC (z4e n s.ar) k).1=_;rw[jT];rfl
theorem z1X{n k g:Nat}{o:Ob}(h:(trim n s).env.ob k g=some o):∃o',s.env.ob k g=some o'∧o=z5L n o':=by
 rw[ob_iff]at h;change zC (z4e n s.ar) k=_ at h;rw[jT]at h;injection h with h1 h2;cases ho:(zC s.ar k).2 with
 |none=>rw[ho]at h2;cases h2
 |some o' =>
  rw[ho]at h2;injection h2 with h2;exact⟨o',ob_iff.2 (by show zC s.ar k=(g,some o');rw[←h1,←ho]),h2.symm⟩
theorem z8m{n id off b:Nat}(hl:hLt n (.hp id off)=true)(h:κ (.hp id)=some (b,0)):z7o κ n (.hp id)=some (b,0):=by
 have hl:id<n:=z3b hl;show(if id<n then κ (.hp id)else none)=_;rw[zq1 hl];exact h
mutual
theorem RelS.cutT{n:Nat}{M0:Nat→Nat→Prop}{v:Value}{x:Sv}(hl:hLt n x=true)(h:RelS w (Mut M0 κ) κ s.env v x):RelS w (Mut M0 (z7o κ n)) (z7o κ n) (trim n s).env v x:=by
 cases h with
 |undef v=>exact .undef v
 |skp=>exact .skp
 |nilF=>exact .nilF
 |bld v x l h g=>exact .bld v x l (h.keep (vM n M0)) g
 |d v x h=>exact .d v x (h.keep (vM n M0))
 |nilS v h=>exact .nilS v h
 |right v k g m xs h hg hr=>exact .right v k g m xs (h.keep (vM n M0)) (by rw[z0Q];exact hg) (by
   intro n' l hob;obtain⟨o',ho,e⟩:=z1X hob;obtain rfl:=z7k e.symm;obtain⟨h1,h2,h3⟩:=hr n' l ho;exact⟨h1,h2,fun e=>(h3 e).stay rfl (fun _ _ v h=>⟨v,h⟩) (fun _ _ _ _ h=>h)⟩)
 |row v k g hg h=>exact .row v k g (by rw[z0Q];exact hg) (by
   intro m xs hob;obtain⟨o',ho,e⟩:=z1X hob;obtain rfl:=z7j e.symm;exact h m xs ho)
 |ref v k g off hg h=>exact .ref v k g off (by rw[z0Q];exact hg) (by
   intro ob' hob hnt;obtain⟨o',ho,rfl⟩:=z1X hob;exact h o' ho (by rw[←z1W (n:=n)];exact hnt))
 |rref v k g m i off hg h=>exact .rref v k g m i off (by rw[z0Q];exact hg) (by
   intro ob' hob hnt;obtain⟨o',ho,rfl⟩:=z1X hob;exact h o' ho (by rw[←z1W (n:=n)];exact hnt))
 |iel b o x off h=>exact .iel b o x off (h.keep (vM n M0))
 |hp b i off h=>exact .hp b i off (z8m hl h)
 |lent v id off ver m xs h hle hlt=>exact .lent v id off ver m xs (h.keep (vM n M0)) (Nat.le_trans hle (Nat.le_succ _)) (by
   intro e;change s.hv+1=ver at e;change ver≤s.hv at hle;omega)
 |fn f vs ws first cap p1 p2 h1 h2=>
  have hl:z7q n first=true∧z7q n cap=true:=by simpa only[hLt,Bool.and_eq_true]using hl
  exact .fn f vs ws first cap p1 p2 (RelSs.cutT hl.1 h1) (RelSs.cutT hl.2 h2)
 |tup vs svs h=>exact .tup vs svs (RelSs.cutT hl h)
 |cells vs svs h=>exact .cells vs svs (RelSs.cutT hl h)
theorem RelSs.cutT{n:Nat}{M0:Nat→Nat→Prop}{v:List Value}{x:List Sv}(hl:z7q n x=true)(h:RelSs w (Mut M0 κ) κ s.env v x):RelSs w (Mut M0 (z7o κ n)) (z7o κ n) (trim n s).env v x:=by
 cases h with
 |nil=>exact .nil
 |cons v y vs ys h r=>
  have hl:hLt n y=true∧z7q n ys=true:=by simpa only[z7q,Bool.and_eq_true]using hl
  exact .cons v y vs ys (RelS.cutT hl.1 h) (RelSs.cutT hl.2 r)
end
theorem RelS.cut{n:Nat}{M0:Nat→Nat→Prop}{v:Value}{x:Sv}(h:RelS w (Mut M0 κ) κ s.env v x):RelS w (Mut M0 (z7o κ n)) (z7o κ n) (Nt.trim n s).env v (Nt.cutH n x):=by
 unfold Nt.cutH;cases hl:hLt n x with
 |false=>
  cases x with
  |lent id off ver m xs=>cases h with|lent _ _ _ _ _ _ hx _ _=>exact .d _ _ (hx.keep (vM n M0))
  |_=>exact .undef _
 |true=>exact RelS.cutT hl h
theorem z5q{n:Nat}{x:Sv}(h:x.plain=true):(Nt.cutH n x).plain=true:=by
 unfold Nt.cutH;cases hLt n x with
 |false=>cases x<;>rfl
 |true=>exact h
theorem Rel.trim(R:Rel X κ s a w){n:Nat}(hX:∀id r,X.κ0 (.hp id)=some r→id<n):Rel X (z7o κ n) (Nt.trim n s) a w:=by
 refine {m0:=R.m0,defs:=R.defs,size:=R.size,kept:=R.kept,k0:=R.k0.trans (vM n X.M0),g0:=R.g0,kb:=fun key b lo h=>R.kb key b lo (uY h),ki:=fun k1 k2 b l1 l2 h1 h2=>R.ki k1 k2 b l1 l2 (uY h1) (uY h2),hn:=fun id r h=>?_,hp0:=fun id b h=>?_,slots:=fun i=>?_,obs:=fun k g ob h=>?_,heap:=fun id cs hc=>?_}
 ·show id<(z0u n s.h n).length;rw[z4g];have h1:=R.hn id r (uY h);change (if id<n then κ (.hp id)else none)=some r at h;split at h
  ·omega
  ·cases h
 ·show(if id<n then κ (.hp id)else none)=_;rw[zq1 (hX id _ h)];exact R.hp0 id b h
 ·show RelS _ _ _ _ _ (z1z (z5K n s.fr) i);rw[z2y];exact(R.slots i).cut
 ·obtain⟨o',ho,rfl⟩:=z1X (show(Nt.trim n s).env.ob k g=some ob from h);have:=R.obs k g o' ho;cases o' with
  |agg x=>
   obtain⟨b,h1,h2⟩:=this;refine⟨b,h1,fun i c hi=>?_⟩;obtain⟨v,r1,r2,r3,r4,r5⟩:=h2 i c hi;exact⟨v,r1,r2,r3,r4.keep (vM n X.M0),r5⟩
  |box cs=>
   obtain⟨b,h1,h2⟩:=this;refine⟨b,h1,fun i c hi=>?_⟩;obtain⟨x,hx,rfl⟩:=z1l n cs i c hi;obtain⟨v,r1,r2,r3,r4⟩:=h2 i x hx;exact⟨v,r1,r2,r3.cut,r4⟩
  |row m xs=>
   obtain⟨b,h1,h2,h3⟩:=this;refine⟨b,h1,fun i c hi=>?_,h3⟩;obtain⟨v,r1,r2,r3,r4,r5⟩:=h2 i c hi;exact⟨v,r1,r2,r3,r4.keep (vM n X.M0),r5⟩
  |tok m l=>trivial
 ·change (z0u n s.h n)[id]?=some cs at hc;rw[z4f]at hc;split at hc
  ·rename_i hid
   cases hs:s.h[id]? with
   |none=>rw[hs]at hc;cases hc
   |some cs0=>
    rw[hs]at hc;injection hc with hc;subst hc;obtain⟨b,h1,h2⟩:=R.heap id cs0 hs;refine⟨b,by show(if id<n then κ (.hp id)else none)=_;rw[zq1 hid];exact h1,fun i c hi=>?_⟩;obtain⟨x,hx,rfl⟩:=z1l n cs0 i c hi;obtain⟨v,g1,g2,g3,g4⟩:=h2 i x hx;refine⟨v,g1,g2,g3,?_⟩;cases x with
    |own m xs=>exact⟨g4.1.keep (vM n X.M0),g4.2.stay (by show(if id<n then κ (.ho id i)else none)=_;rw[zq1 hid]) (fun _ _ v h=>⟨v,h⟩) (fun _ _ _ _ h=>h)⟩
    |_=>
     have q1:=z5q (n:=n) g4.1;have q2:=g4.2.cut (n:=n);revert q1 q2;generalize hz:Nt.cutH n _=z;intro q1 q2;cases z with
     |own m xs=>simp[Sv.plain]at q1
     |_=>exact⟨q1,q2⟩
  ·cases hc
theorem Rel.trimL(R:Rel X κ s a w){c:Cx}{lv:List Lv}(hX:∀id r,X.κ0 (.hp id)=some r→id<c.nh):∃κ',Rel X κ' (Nt.trimL c lv s) a w:=by
 unfold Nt.trimL;split
 ·exact⟨_,R.trim fun id r h=>by have:=hX id r h;omega⟩
 ·exact⟨_,R⟩
end
def Fin(c:Cx)(X:Ctx)(a:Act)(w:World):Prop:=∃κ s,fin c s∧Rel X κ s a w
def Ok(c:Cx)(K:List KI)(s:St):Prop:=∀X κ a w,(∀id r,X.κ0 (.hp id)=some r→id<c.nh)→Rel X κ s a w→Runs c.P (Fin c X) (z2B K) a w
theorem Rel.frz1{X:Ctx}{κ:Kap}{s:St}{a:Act}{w:World}(R:Rel X κ s a w)(q i:Nat):∃κ',Rel X κ' (Nt.frz1 s q i) a w:=by
 unfold Nt.frz1;split
 ·rename_i g cs hq
  split
  ·rename_i k gk hi
   split
   ·rename_i n xs hk
    have hbox:s.env.ob q g=some (.box cs):=ob_iff.2 hq;have hne:q≠k:=by
     rintro rfl;have h1:s.env.ob q gk=some (.row n xs):=hk;have e:=(z3U hbox).symm.trans (z3U h1);subst e;rw[hbox]at h1;cases h1
    have T0:=Stays.drop R hk [];have R1:=R.drop hk (p:=⟨[],[(k,gk,none)],none⟩) rfl rfl (.inl ⟨rfl,rfl⟩);obtain⟨b,hb,hcs⟩:=R.obs q g _ hbox;obtain⟨u,g1,g2,g3,g4⟩:=hcs i _ hi;have hd:RelV w (Mut X.M0 (upK κ (.ar k) none)) u (.sl xs):=by
     cases g3 with
     |row _ _ _ q1 q2=>
      obtain⟨b1,cap,rfl,q3,q4⟩:=q2 _ _ hk;obtain⟨b',q5,q6,q7⟩:=R.obs _ _ _ hk;rw[q3]at q5;injection q5 with q5;injection q5 with q5 _;subst q5;refine .sl b1 0 cap xs (RelC.mk 0 fun j c hj=>?_) q4;obtain⟨v,f1,f2,f3,f4,f5⟩:=q6 j c hj;refine⟨v,by rw[Nat.zero_add];exact f1,?_,f3,f4.keep T0.keeps⟩;rintro(hm|⟨k',lo,hk',-⟩)
      ·exact R.notM0 (R.kb _ _ _ q3).2 _ hm
      ·by_cases e:k'=.ar k
       ·subst e;simp at hk'
       ·rw[zI _ _ e]at hk';exact e (R.ki _ _ _ _ _ hk' q3)
    have hlook:∀k' ,zC ((q,g,some (.box (cs.set i (.d (.sl xs)))))::(k,gk,none)::s.ar) k'=if q=k' then(g,some (.box (cs.set i (.d (.sl xs)))))else zC ((k,gk,none)::s.ar) k':=fun k'=>zA _ _ _ _;have hlk:∀k',zC ((k,gk,none)::s.ar) k'=if k=k' then(gk,none)else zC s.ar k':=fun k'=>zA _ _ _ _;have hqb:zC ((k,gk,none)::s.ar) q=(g,some (.box cs)):=by rw[hlk,zq0 (fun e=>hne e.symm)];exact hq
    have T:Stays w (Mut X.M0 (upK κ (.ar k) none)) (upK κ (.ar k) none) (s.app ⟨[],[(k,gk,none)],none⟩).env w (Mut X.M0 (upK κ (.ar k) none)) (upK κ (.ar k) none) ((s.app ⟨[],[(k,gk,none)],none⟩).app ⟨[],[(q,g,some (.box (cs.set i (.d (.sl xs)))))],none⟩).env:=
     {keeps:=.refl _ _,hp:=fun _ _ h=>h
      gen:=fun k'=>by
       show(zC ((k,gk,none)::s.ar) k').1≤(zC ((q,g,some (.box (cs.set i (.d (.sl xs)))))::(k,gk,none)::s.ar) k').1;rw[hlook];split
       ·rename_i e;subst e;rw[hqb];exact Nat.le_refl _
       ·exact Nat.le_refl _
      ob:=fun k' g' ob' _ h=>by
       rw[ob_iff]at h;change zC ((q,g,some (.box (cs.set i (.d (.sl xs)))))::(k,gk,none)::s.ar) k'=_ at h;rw[hlook]at h;split at h
       ·rename_i e;subst e
        injection h with h1 h2;injection h2 with h2;subst h1;subst h2;exact⟨_,ob_iff.2 hqb,.inl ⟨rfl,rfl⟩⟩
       ·exact⟨ob',ob_iff.2 h,.inl ⟨rfl,rfl⟩⟩
      ex:=fun _ _ v h=>⟨v,h⟩,ic:=fun _ _ _ _ h=>h,hvle:=Nat.le_refl _
      lent:=fun _=>⟨rfl,fun _ _ _ _ _ _ _ h _ _=>⟨h,fun h=>h⟩⟩}
    have hcs1:=R1.obs q g _ (show(s.app ⟨[],[(k,gk,none)],none⟩).env.ob q g=some (.box cs)from ob_iff.2 hqb);refine⟨upK κ (.ar k) none,R1.step (p:=⟨[],[(q,g,some (.box (cs.set i (.d (.sl xs)))))],none⟩) T (.refl _ _ _) R1.kb R1.ki R1.hn (.inl ⟨rfl,rfl⟩) (fun k' g' ob' h=>?_) (RelH.stay T R1.heap rfl (fun _ _=>rfl) (fun _ _ _ _=>rfl))⟩;have h':=ob_iff.1 (show((s.app ⟨[],[(k,gk,none)],none⟩).app ⟨[],[(q,g,some (.box (cs.set i (.d (.sl xs)))))],none⟩).env.ob k' g'=some ob' from h)
    change zC ((q,g,some (.box (cs.set i (.d (.sl xs)))))::(k,gk,none)::s.ar) k'=_ at h';rw[hlook]at h';split at h'
    ·rename_i e;subst e
     injection h' with h1 h2;injection h2 with h2;subst h1;subst h2;obtain⟨b1,hb1,hcs1⟩:=hcs1;have:b1=b:=by
      rw[zI _ _ (by intro e;injection e with e;exact hne e)]at hb1;rw[hb]at hb1;injection hb1 with hb1;injection hb1 with hb1;exact hb1.symm
     subst this;refine⟨b1,hb1,fun j c hj=>?_⟩;by_cases e:i=j
     ·subst e;have hlt:=(List.getElem?_eq_some_iff.1 hi).1;simp[hlt]at hj;subst hj;exact⟨u,g1,g2,.d _ _ hd,g4⟩
     ·rw[List.getElem?_set_ne e]at hj;obtain⟨v,f1,f2,f3,f4⟩:=hcs1 j c hj;exact⟨v,f1,f2,RelS.stay T f3,f4⟩
    ·exact RelOb.stay T (R1.obs k' g' ob' (show(s.app ⟨[],[(k,gk,none)],none⟩).env.ob k' g'=some ob' from ob_iff.2 h')) rfl (fun _ _ _=>rfl)
   ·exact⟨κ,R⟩
  ·exact⟨κ,R⟩
 ·exact⟨κ,R⟩
theorem Rel.frzs{X:Ctx}{a:Act}{w:World}:∀(l:List (Nat×Nat)) {κ:Kap} {s:St},Rel X κ s a w→∃κ',Rel X κ' (Nt.frzs s l) a w
 |[],κ,s,R=>⟨κ,R⟩
 |(q,i)::r,κ,s,R=>by
  obtain⟨κ1,R1⟩:=R.frz1 q i;exact Rel.frzs r R1
theorem yQ{c:Cx}(hT:∀f vs h rs h',c.trip f vs h rs h'→Trip c.P f vs h rs h'){X:Ctx}(hX:∀id r,X.κ0 (.hp id)=some r→id<c.nh):∀(n:Nat) (st:Bool) (K:List KI) (s:St) (κ:Kap) (a:Act) (w:World),evI c (Ok c) n st K s→Rel X κ s a w→Runs c.P (Fin c X) K a w
 |0,st,K,s,κ,a,w,h,R=>h.elim
 |n+1,st,K,s,κ,a,w,h,R=>by
  unfold evI at h;cases K with
  |nil=>exact Runs.nil ⟨κ,s,h,R⟩
  |cons x K=>
   cases x with
   |blk id=>exact Runs.step (a':=a) (fun _ _ _=>step_inBlock) (yQ hT hX n true K s κ a w h R)
   |sc b=>exact Runs.step (a':=a) (fun _ _ _=>z4D) (yQ hT hX n true K s κ a w h R)
   |loop b=>
    obtain⟨r,-,h1⟩:=zD h;obtain⟨lv,-,h2⟩:=zD h1;obtain⟨κ',R'⟩:=R.trimL (lv:=lv) hX;exact Runs.unroll_head (h2 X κ' a w hX (R'.restrict lv))
   |code co=>
    cases co with
    |skip=>exact Runs.step (a':=a) (fun _ _ _=>step_skip) (yQ hT hX n true K s κ a w h R)
    |seq p q=>exact Runs.step (K':=.code p::.code q::K) (a':=a) (fun _ _ _=>step_seq) (yQ hT hX n st _ s κ a w h R)
    |cond x p q=>
     obtain⟨d,hd,h1⟩:=z2F h;have hx:=R.opv x;rw[hd]at hx;generalize hu:a.eval x=u at hx;cases hx with|d _ _ hx=>
     rcases h1 with⟨rfl,h1⟩|⟨rfl,h1⟩
     ·exact Runs.step (K':=.code p::K) (a':=a) (fun _ _ _=>step_cond (t:=true) (by rw[hu,hx.bool_inv])) (yQ hT hX n true _ s κ a w h1 R)
     ·exact Runs.step (K':=.code q::K) (a':=a) (fun _ _ _=>step_cond (t:=false) (by rw[hu,hx.bool_inv])) (yQ hT hX n true _ s κ a w h1 R)
    |scope b=>exact Runs.step (K':=.code b::.sc b::K) (a':=a) (fun _ _ _=>z7a) (yQ hT hX n st _ s κ a w h R)
    |label l=>exact Runs.step (a':=a) (fun _ _ _=>step_label) (yQ hT hX n st K s κ a w h R)
    |block id b=>exact Runs.step (K':=.code b::.blk id::K) (a':=a) (fun _ _ _=>step_block) (yQ hT hX n st _ s κ a w h R)
    |loop b=>
     obtain⟨r,-,h1⟩:=zD h;obtain⟨lv,-,h2⟩:=zD h1;obtain⟨κ',R'⟩:=R.trimL (lv:=lv) hX;exact Runs.step (K':=.code b::.loop b::K) (a':=a) (fun _ _ _=>step_loop) (h2 X κ' a w hX (R'.restrict lv))
    |exit id=>
     obtain⟨K',hK,h1⟩:=zD h;exact Runs.step (K':=K') (a':=a) (fun _ k _=>step_exit (wF hK k)) (yQ hT hX n true K' s κ a w h1 R)
    |ret=>exact Runs.ret ⟨κ,s,h,R⟩
    |region id ops draw=>
     dsimp only at h;split at h
     ·rename_i lv hj
      obtain⟨κ',R'⟩:=R.trimL (lv:=lv) hX;exact h X κ' a w hX (R'.restrict lv)
     ·obtain⟨κ',R'⟩:=R.frzs (c.frz id);exact Runs.code (z6M hT h (fun κ' s' a' w' h' R'=>⟨rfl,yQ hT hX n true K s' κ' a' w' h' R'⟩) R')
    |_=>exact h.elim
theorem z7P{c:Cx}(hT:∀f vs h rs h',c.trip f vs h rs h'→Trip c.P f vs h rs h'){n:Nat}{K:List KI}{s:St}(h:evI c (Ok c) n false (z2B K) s):Ok c K s:=
 fun X κ a w hX R=>yQ hT hX n false _ s κ a w h R
section
variable {P:Program} {X:Ctx} {κ:Kap} {s:St} {a:Act} {w:World}
def z2d(κ:Kap)(r:Option Nat):Kap
 |.ar 0=>match r with
  |some r=>κ (.ar r)
  |none=>none
 |.ar _=>none
 |k=>κ k
theorem gY{r:Option Nat}{k:Key}{q:Nat×Nat}(h:z2d κ r k=some q):∃k',κ k'=some q∧(k'=k∨∃i,r=some i∧k=.ar 0∧k'=.ar i):=by
 cases k with
 |ar i=>
  cases i with
  |zero=>
   cases r with
   |none=>cases h
   |some r=>exact⟨_,h,.inr ⟨r,rfl,rfl,rfl⟩⟩
  |succ i=>cases h
 |hp id=>exact⟨_,h,.inl rfl⟩
 |ho id off=>exact⟨_,h,.inl rfl⟩
theorem z5F{r:Option Nat}{k:Key}{q:Nat×Nat}(h:z2d κ r k=some q):((∀i,k≠.ar i)∧κ k=some q)∨∃i,r=some i∧κ (.ar i)=some q:=by
 cases k with
 |ar i=>
  cases i with
  |zero=>
   cases r with
   |none=>cases h
   |some r=>exact .inr ⟨r,rfl,h⟩
  |succ i=>cases h
 |hp id=>exact .inl ⟨by simp,h⟩
 |ho id off=>exact .inl ⟨by simp,h⟩
theorem wS(κ:Kap)(M0:Nat→Nat→Prop)(r:Option Nat):Keeps w (Mut M0 κ) w (Mut M0 (z2d κ r)):=by
 refine⟨fun b o v h _=>h,fun b o v _ hm hm'=>hm ?_⟩;rcases hm' with h|⟨k,lo,h,hlo⟩
 ·exact .inl h
 ·obtain⟨k',h',-⟩:=gY h;exact .inr ⟨k',lo,h',hlo⟩
theorem Rel.after(R:Rel X κ s a w)(r:Option Nat)(hb:∀b,X.S b↔∃key lo,X.κ0 key=some (b,lo)):z3m X.w0 X.M0 X.κ0 s.h w (z2d κ r) where
 kept:=R.kept
 k0:=R.k0.trans (wS κ X.M0 r)
 g0:=R.g0
 kb:=fun key b lo h=>by
  obtain⟨k',h',-⟩:=gY h;exact R.kb k' b lo h'
 ki:=fun k1 k2 b l1 l2 h1 h2=>by
  obtain⟨k1',g1,e1⟩:=gY h1;obtain⟨k2',g2,e2⟩:=gY h2;have:=R.ki _ _ _ _ _ g1 g2;subst this;rcases e1 with e1|⟨i,-,e1,f1⟩<;>rcases e2 with e2|⟨j,-,e2,f2⟩
  ·rw[←e1,←e2]
  ·subst e1;subst e2;rw[f2]at h1;cases j with
   |zero=>exact f2
   |succ j=>cases h1
  ·subst e2;subst e1;rw[f1]at h2;cases i with
   |zero=>exact f1.symm
   |succ i=>cases h2
  ·rw[e1,e2]
 hn:=fun id q h=>R.hn id q h
 hp:=fun id b h=>R.hp0 id b h
 heap:=fun id cs hc=>by
  obtain⟨b,h1,h2⟩:=R.heap id cs hc;refine⟨b,h1,fun i c hi=>?_⟩;obtain⟨v,g1,g2,g3,g4⟩:=h2 i c hi;exact⟨v,g1,g2,g3,RelHc.conv (κ:=κ) (κ':=z2d κ r) (wS κ X.M0 r) (.refl _) (fun _ _ h=>h) rfl g4⟩
end
end Nt

