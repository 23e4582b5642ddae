import Derived.Test.YtjlohgfmobpfmaaFwB
namespace Nt
open Go
set_option linter.unusedVariables false
set_option linter.unusedSimpArgs false
theorem z1e{a b:Nat}(h:a≠b):Nat.beq a b=false:=by
 rw[←Bool.not_eq_true];intro e;exact h (Nat.eq_of_beq_eq_true e)
theorem zL{w w':World}{b:Nat}(h:w'.heap[b]?=w.heap[b]?)(o:Nat):zJ w' b o=zJ w b o:=by
 simp only[zJ,World.cell?,h]
theorem vH{w w':World}{b:Nat}(h:w'.heap[b]?=w.heap[b]?)(o:Nat):icy w' b o=icy w b o:=by
 simp only[icy,World.frozen?,h]
theorem yX{w:World}{b o:Nat}{v:Value}(h:zJ w b o=some v):b<w.heap.size:=by
 simp only[zJ,World.cell?]at h;rcases Nat.lt_or_ge b w.heap.size with hb|hb
 ·exact hb
 ·rw[Array.getElem?_eq_none hb]at h;simp at h
theorem vA(j:Nat)(v:Sv)(r:List (Nat×Sv))(i:Nat):z1z ((j,v)::r) i=if j=i then v else z1z r i:=by
 rw[z1z];by_cases h:j=i
 ·simp[h]
 ·have:Nat.beq j i=false:=z1e h;simp[h,this]
theorem zA(j:Nat)(v:Nat×Option Ob)(r:List (Nat×Nat×Option Ob))(i:Nat):zC ((j,v)::r) i=if j=i then v else zC r i:=by
 obtain⟨g,o⟩:=v;rw[zC];by_cases h:j=i
 ·simp[h]
 ·have:Nat.beq j i=false:=z1e h;simp[h,this]
theorem ob_iff{E:Env}{k g:Nat}{ob:Ob}:E.ob k g=some ob↔zC E.ar k=(g,some ob):=by
 unfold Env.ob;rcases h:zC E.ar k with⟨g',o⟩;by_cases e:g'=g
 ·subst e;simp
 ·have:Nat.beq g' g=false:=z1e e;simp[this,e]
theorem z3U{E:Env}{k g:Nat}{ob:Ob}(h:E.ob k g=some ob):E.gen k=g:=by
 unfold Env.gen;rw[ob_iff.1 h]
theorem z7C{a:Act}{d:Nat}{v:Value}(hd:d<a.tmps.size)(i:Nat):(a.put (some d) v).tmps.getD i undef=if d=i then v else a.tmps.getD i undef:=by
 simp only[Act.put,Array.getD_eq_getD_getElem?,Array.getElem?_setIfInBounds];by_cases h:d=i
 ·subst h;simp[hd]
 ·simp[h]
theorem Rel.step {X:Ctx} {κ:Kap} {s:St} {a:Act} {w:World} (R:Rel X κ s a w) {w':World} {κ':Kap} {p:zQ} {a':Act}
  (T:Stays w (Mut X.M0 κ) κ s.env w' (Mut X.M0 κ') κ' (s.app p).env)
  (hk:Kept X.base X.S w w')
  (kb:∀key b lo,κ' key=some (b,lo)→b<w'.heap.size∧(X.base≤b∨X.S b))
  (ki:∀k1 k2 b l1 l2,κ' k1=some (b,l1)→κ' k2=some (b,l2)→k1=k2)
  (hn:∀id r,κ' (.hp id)=some r→id<(s.app p).h.length)
  (sl:(p.puts=[]∧a'=a)∨∃d v sv,d<s.n∧p.puts=[(d,sv)]∧a'=a.put (some d) v∧RelS w' (Mut X.M0 κ') κ' (s.app p).env v sv)
  (obs:∀k g ob,(s.app p).ob k g=some ob→RelOb w' (Mut X.M0 κ') κ' (s.app p).env k ob)
  (heap:RelH w' (Mut X.M0 κ') κ' (s.app p).env):Rel X κ' (s.app p) a' w':=by
 refine⟨R.m0,?_,?_,R.kept.trans hk,R.k0.trans T.keeps,R.g0.trans ⟨T.ex,T.ic⟩,kb,ki,hn,fun id b h=>T.hp id b (R.hp0 id b h),?_,obs,heap⟩
 ·rcases sl with⟨-,rfl⟩|⟨d,v,sv,hd,hp,rfl,-⟩
  ·exact R.defs
  ·exact R.defs
 ·rcases sl with⟨-,rfl⟩|⟨d,v,sv,hd,hp,rfl,-⟩
  ·exact R.size
  ·simp[Act.put,St.app,R.size]
 ·intro i;rcases sl with⟨hp,rfl⟩|⟨d,v,sv,hd,hp,rfl,hv⟩
  ·have:(s.app p).get i=s.get i:=by simp[St.get,St.app,hp]
   rw[this];exact(R.slots i).stay T
  ·have e:(s.app p).get i=if d=i then sv else s.get i:=by
    simp only[St.get,St.app,hp,List.cons_append,List.nil_append,vA]
   rw[e,z7C (by rw[R.size];exact hd)];by_cases h:d=i
   ·rw[zq1 h,zq1 h];exact hv
   ·rw[zq0 h,zq0 h];exact(R.slots i).stay T
theorem Stays.refl{w:World}{M:Nat→Nat→Prop}{κ:Kap}{E:Env}:Stays w M κ E w M κ E:=
 {keeps:=.refl w M,hp:=fun _ _ h=>h,gen:=fun _=>Nat.le_refl _,ob:=fun k g ob' _ h=>⟨ob',h,.inl ⟨rfl,rfl⟩⟩,
  ex:=fun _ _ v h=>⟨v,h⟩,ic:=fun _ _ _ _ h=>h,hvle:=Nat.le_refl _,lent:=fun _=>⟨rfl,fun _ _ _ _ _ _ _ h _ _=>⟨h,fun h=>h⟩⟩}
theorem Rel.put {X:Ctx} {κ:Kap} {s:St} {a:Act} {w:World} (R:Rel X κ s a w) {d:Nat} (hd:d<s.n) {v:Value} {sv:Sv}
  (h:RelS w (Mut X.M0 κ) κ s.env v sv):Rel X κ (s.app (jI d sv)) (a.put (some d) v) w:=
 R.step (p:=jI d sv) Stays.refl (.refl _ _ _) R.kb R.ki R.hn (.inr ⟨d,v,sv,hd,rfl,rfl,h⟩) R.obs R.heap
theorem Rel.idle{X:Ctx}{κ:Kap}{s:St}{a:Act}{w:World}(R:Rel X κ s a w):Rel X κ (s.app ⟨[],[],none⟩) a w:=
 R.step (p:=⟨[],[],none⟩) Stays.refl (.refl _ _ _) R.kb R.ki R.hn (.inl ⟨rfl,rfl⟩) R.obs R.heap
theorem Box.stay{w w':World}{M M':Nat→Nat→Prop}{b:Nat}{cs:List D}(K:Keeps w M w' M')(hb:w'.heap[b]?=w.heap[b]?)(h:Box w M b cs):Box w' M' b cs:=by
 intro i c hc;obtain⟨v,h1,h2,h3,h4,h5⟩:=h i c hc;exact⟨v,by rw[zL hb];exact h1,h2,h3,h4.keep K,by rw[vH hb];exact h5⟩
theorem RelOb.stay {w w':World} {M M':Nat→Nat→Prop} {κ κ':Kap} {E E':Env} (T:Stays w M κ E w' M' κ' E') {k:Nat} {ob:Ob} (h:RelOb w M κ E k ob)
  (hk:κ' (.ar k)=κ (.ar k)) (hb:∀b lo,κ (.ar k)=some (b,lo)→w'.heap[b]?=w.heap[b]?):RelOb w' M' κ' E' k ob:=by
 cases ob with
 |agg x=>
  obtain⟨b,h1,h2⟩:=h;exact⟨b,by rw[hk];exact h1,h2.stay T.keeps (hb b 0 h1)⟩
 |box cs=>
  obtain⟨b,h1,h2⟩:=h;refine⟨b,by rw[hk];exact h1,fun i c hc=>?_⟩;obtain⟨v,g1,g2,g3,g4⟩:=h2 i c hc;exact⟨v,by rw[zL (hb b 0 h1)];exact g1,g2,g3.stay T,by rw[vH (hb b 0 h1)];exact g4⟩
 |row n xs=>
  obtain⟨b,h1,h2,h3⟩:=h;exact⟨b,by rw[hk];exact h1,h2.stay T.keeps (hb b 0 h1),h3⟩
 |tok n l=>trivial
theorem RelHc.stay {w w':World} {M M':Nat→Nat→Prop} {κ κ':Kap} {E E':Env} (T:Stays w M κ E w' M' κ' E') {id off:Nat} {v:Value} {c:Sv} (h:RelHc w M κ E id off v c)
  (hk:κ' (.ho id off)=κ (.ho id off)):RelHc w' M' κ' E' id off v c:=by
 cases c with
 |own n xs=>exact⟨h.1.keep T.keeps,h.2.stay hk T.ex T.ic⟩
 |_=>exact⟨h.1,RelS.stay T h.2⟩
theorem RelH.stay {w w':World} {M M':Nat→Nat→Prop} {κ κ':Kap} {E E':Env} (T:Stays w M κ E w' M' κ' E') (h:RelH w M κ E) (hh:E'.h=E.h)
  (ho:∀id off,κ' (.ho id off)=κ (.ho id off)) (hb:∀id b lo,κ (.hp id)=some (b,lo)→w'.heap[b]?=w.heap[b]?):RelH w' M' κ' E':=by
 intro id cs hc;rw[hh]at hc;obtain⟨b,h1,h2⟩:=h id cs hc;refine⟨b,T.hp id b h1,fun i c hi=>?_⟩;obtain⟨v,g1,g2,g3,g4⟩:=h2 i c hi;exact⟨v,by rw[zL (hb id b 0 h1)];exact g1,g2,by rw[vH (hb id b 0 h1)];exact g3,g4.stay T (ho id i)⟩
def upK(κ:Kap)(key:Key)(r:Option (Nat×Nat)):Kap:=fun k=>if k=key then r else κ k
@[simp] theorem yV(κ:Kap)(key:Key)(r:Option (Nat×Nat)):upK κ key r key=r:=by simp[upK]
theorem zI(κ:Kap){key k:Key}(r:Option (Nat×Nat))(h:k≠key):upK κ key r k=κ k:=by simp[upK,h]
def zH(w:World)(cs:Array Value)(e:TypeId):World:={w with heap:=w.heap.push (.cells cs e)}
theorem zV{w:World}{cs:Array Value}{e:TypeId}{b:Nat}(h:b<w.heap.size):(zH w cs e).heap[b]?=w.heap[b]?:=by
 show(w.heap.push _)[b]?=_;rw[Array.getElem?_push,zq0 (by omega)]
theorem uL{w:World}{cs:Array Value}{e:TypeId}:(zH w cs e).heap.size=w.heap.size+1:=by simp[zH]
theorem vI{w:World}{cs:Array Value}{e:TypeId}(i:Nat):zJ (zH w cs e) w.heap.size i=cs[i]?:=by
 have h:(zH w cs e).heap[w.heap.size]?=some (.cells cs e):=by
  show(w.heap.push _)[w.heap.size]?=_;simp
 simp[zJ,World.cell?,h]
theorem wH{w:World}{cs:Array Value}{e:TypeId}(i:Nat):icy (zH w cs e) w.heap.size i=false:=by
 have h:(zH w cs e).heap[w.heap.size]?=some (.cells cs e):=by
  show(w.heap.push _)[w.heap.size]?=_;simp
 simp[icy,World.frozen?,h]
theorem gW{B:Nat}{S:Nat→Prop}{w:World}{cs:Array Value}{e:TypeId}(h:B≤w.heap.size):Kept B S w (zH w cs e):=
 ⟨rfl,rfl,rfl,by simp[zH],fun _ hk _=>zV (by omega)⟩
theorem gD{X:Ctx}{κ:Kap}{s:St}{a:Act}{w:World}(R:Rel X κ s a w)(cs:Array Value)(e:TypeId)(key:Key)(lo:Nat):
  Keeps w (Mut X.M0 κ) (zH w cs e) (Mut X.M0 (upK κ key (some (w.heap.size,lo)))):=by
 refine⟨fun b o v h _=>by rw[zL (zV (yX h))];exact h,fun b o v h hm hm'=>hm ?_⟩;rcases hm' with h0|⟨k,l,hk,hl⟩
 ·exact .inl h0
 ·by_cases e:k=key
  ·subst e;simp at hk;have:=yX h;omega
  ·rw[zI _ _ e]at hk;exact .inr ⟨k,l,hk,hl⟩
theorem z1B{X:Ctx}{κ:Kap}{s:St}{a:Act}{w:World}(R:Rel X κ s a w)(cs:Array Value)(e:TypeId)(key:Key)(lo:Nat):
  ∀k b l,upK κ key (some (w.heap.size,lo)) k=some (b,l)→b<(zH w cs e).heap.size∧(X.base≤b∨X.S b):=by
 intro k b l hk;rw[uL];by_cases h:k=key
 ·subst h;simp at hk;have:=R.kept.size;exact⟨by omega,.inl (by unfold Ctx.base;omega)⟩
 ·rw[zI _ _ h]at hk;obtain⟨h1,h2⟩:=R.kb k b l hk;exact⟨by omega,h2⟩
theorem z1C{X:Ctx}{κ:Kap}{s:St}{a:Act}{w:World}(R:Rel X κ s a w)(key:Key)(lo:Nat):
  ∀k1 k2 b l1 l2,upK κ key (some (w.heap.size,lo)) k1=some (b,l1)→upK κ key (some (w.heap.size,lo)) k2=some (b,l2)→k1=k2:=by
 intro k1 k2 b l1 l2 h1 h2;by_cases e1:k1=key<;>by_cases e2:k2=key
 ·rw[e1,e2]
 ·subst e1;rw[zI _ _ e2]at h2;simp at h1;have:=(R.kb _ _ _ h2).1;omega
 ·subst e2;rw[zI _ _ e1]at h1;simp at h2;have:=(R.kb _ _ _ h1).1;omega
 ·rw[zI _ _ e1]at h1;rw[zI _ _ e2]at h2;exact R.ki k1 k2 b l1 l2 h1 h2
theorem Rel.newAr {X:Ctx} {κ:Kap} {s:St} {a:Act} {w:World} (R:Rel X κ s a w) {d:Nat} (hd:d<s.n) (cs:Array Value) (e:TypeId) (lo:Nat) (ob:Ob) (sv:Sv) (v:Value)
  (hob:∀κ' M' E',κ'=upK κ (.ar d) (some (w.heap.size,lo))→M'=Mut X.M0 κ'→E'=(s.app ⟨[(d,sv)],[(d,s.gen d+1,some ob)],none⟩).env→Keeps w (Mut X.M0 κ) (zH w cs e) M' →
   Stays w (Mut X.M0 κ) κ s.env (zH w cs e) M' κ' E'→RelOb (zH w cs e) M' κ' E' d ob∧RelS (zH w cs e) M' κ' E' v sv):
  ∃κ',Rel X κ' (s.app ⟨[(d,sv)],[(d,s.gen d+1,some ob)],none⟩) (a.put (some d) v) (zH w cs e):=by
 have K:=gD R cs e (.ar d) lo;have T:Stays w (Mut X.M0 κ) κ s.env (zH w cs e) (Mut X.M0 (upK κ (.ar d) (some (w.heap.size,lo)))) (upK κ (.ar d) (some (w.heap.size,lo)))
   (s.app ⟨[(d,sv)],[(d,s.gen d+1,some ob)],none⟩).env:=
  {keeps:=K
   hp:=fun id b h=>by rw[zI _ _ (by simp)];exact h
   gen:=fun k=>by
    show(zC s.ar k).1≤(zC ((d,s.gen d+1,some ob)::s.ar) k).1;rw[zA];split
    ·rename_i h;subst h;show s.gen d≤s.gen d+1;omega
    ·exact Nat.le_refl _
   ob:=fun k g ob' hg h=>by
    rw[ob_iff]at h;change zC ((d,s.gen d+1,some ob)::s.ar) k=(g,some ob')at h;rw[zA]at h;split at h
    ·rename_i e1;subst e1;injection h with h1 h2;change g≤s.gen d at hg;omega
    ·rename_i e1;exact⟨ob',ob_iff.2 h,.inl ⟨rfl,zI _ _ (by intro h;injection h with h;exact e1 h.symm)⟩⟩
   ex:=fun b o v h=>⟨v,by rw[zL (zV (yX h))];exact h⟩
   ic:=fun b o v h hi=>by rw[vH (zV (yX h))];exact hi
   hvle:=Nat.le_refl _
   lent:=fun _=>⟨rfl,fun id b off v cs n xs hk _ _=>⟨by rw[zI _ _ (by simp)]at hk;exact hk,fun h=>by rw[zL (zV (yX h))];exact h⟩⟩}
 obtain⟨h1,h2⟩:=hob _ _ _ rfl rfl rfl K T;refine⟨_,R.step T (gW R.kept.size) (z1B R cs e _ lo) (z1C R _ lo) (fun id r h=>by rw[zI _ _ (by simp)]at h;exact R.hn id r h) (.inr ⟨d,v,sv,hd,rfl,rfl,h2⟩) ?_ ?_⟩
 ·intro k g ob' h;have h':=ob_iff.1 (show(s.app ⟨[(d,sv)],[(d,s.gen d+1,some ob)],none⟩).env.ob k g=some ob' from h);change zC ((d,s.gen d+1,some ob)::s.ar) k=(g,some ob')at h';rw[zA]at h';split at h'
  ·rename_i e1;subst e1;injection h' with _ h';injection h' with h';subst h';exact h1
  ·rename_i e1
   have hne:Key.ar k≠.ar d:=by intro h;injection h with h;exact e1 h.symm
   exact RelOb.stay T (R.obs k g ob' (show s.env.ob k g=some ob' from ob_iff.2 h')) (zI _ _ hne) (fun b l hb=>zV (R.kb _ b l hb).1)
 ·exact RelH.stay T R.heap rfl (fun _ _=>zI _ _ (by simp)) (fun id b l hb=>zV (R.kb _ b l hb).1)
theorem vD{b b':Nat}(h:b'≠b):∀(vs:List Value) (o:Nat) (w:World),(w.setCells b o vs).heap[b']?=w.heap[b']?
 |[],_,_=>rfl
 |v::r,o,w=>by
  rw[World.setCells,vD h r];simp only[World.setCell,Array.getElem?_modify];rw[zq0 (by simpa using h.symm)]
theorem vJ{b:Nat}:∀(vs:List Value) (o:Nat) (w:World),(w.setCells b o vs).heap.size=w.heap.size
 |[],_,_=>rfl
 |v::r,o,w=>by rw[World.setCells,vJ r];simp[World.setCell]
theorem z1P{b:Nat}:∀(vs:List Value) (o:Nat) (w:World),(w.setCells b o vs).os=w.os∧(w.setCells b o vs).tape=w.tape∧(w.setCells b o vs).output=w.output
 |[],_,_=>⟨rfl,rfl,rfl⟩
 |v::r,o,w=>by rw[World.setCells];exact z1P r (o+1) _
theorem wL{B:Nat}{S:Nat→Prop}{b:Nat}(h:B≤b∨S b)(vs:List Value)(o:Nat)(w:World):Kept B S w (w.setCells b o vs):=by
 obtain⟨h1,h2,h3⟩:=z1P (b:=b) vs o w;refine⟨h1,h2,h3,by rw[vJ];exact Nat.le_refl _,fun k hk hs=>vD (fun e=>?_) vs o w⟩;subst e;rcases h with h|h
 ·omega
 ·exact hs h
theorem zS{b:Nat}(vs:List Value)(o:Nat)(w:World)(b' o':Nat):icy (w.setCells b o vs) b' o'=icy w b' o':=World.frozen?_setCells b vs o w _
theorem yL{b:Nat}(vs:List Value)(o:Nat)(w:World)(b' o':Nat)(h:b'≠b∨o'<o∨o+vs.length≤o'):zJ (w.setCells b o vs) b' o'=zJ w b' o':=by
 refine World.cell?_setCells_out b vs o w _ (fun h1 _=>?_);rcases h with h|h
 ·exact absurd h1 h
 ·exact h
theorem vP{b:Nat}(vs:List Value)(o:Nat)(w:World)(h:∀j,j<vs.length→∃u,zJ w b (o+j)=some u)(j:Nat)(hj:j<vs.length):zJ (w.setCells b o vs) b (o+j)=some vs[j]:=
 World.cell?_setCells_in b vs o w (fun j hj=>by obtain⟨u,hu⟩:=h j hj;exact Option.isSome_iff_exists.2 ⟨u,hu⟩) j hj
theorem uN{b:Nat}(vs:List Value)(o:Nat)(w:World)(h:∀j,j<vs.length→∃u,zJ w b (o+j)=some u)(b' o':Nat)(v:Value)(hv:zJ w b' o'=some v):∃v',zJ (w.setCells b o vs) b' o'=some v':=by
 by_cases e:b'=b∧o≤o'∧o'<o+vs.length
 ·obtain⟨rfl,h1,h2⟩:=e;have:=vP vs o w h (o'-o) (by omega);rw[show o+(o'-o)=o' by omega]at this;exact⟨_,this⟩
 ·exact⟨v,by rw[yL vs o w b' o' (by omega)];exact hv⟩
theorem Stays.touch {X:Ctx} {κ:Kap} {s:St} {a:Act} {w:World} (R:Rel X κ s a w) {key:Key} {b:Nat} (hκ:κ key=some (b,0)) (vs:List Value) (o:Nat)
  (hex:∀j,j<vs.length→∃u,zJ w b (o+j)=some u) {E':Env} (hgen:∀k,s.env.gen k≤E'.gen k)
  (hob:∀k g ob',E'.ob k g=some ob'→∃ob,s.env.ob k g=some ob∧ob.shape=ob'.shape)
  (hh:(E'.hv=s.hv∧E'.h=s.h∧∃k,key=.ar k)∨s.hv<E'.hv):Stays w (Mut X.M0 κ) κ s.env (w.setCells b o vs) (Mut X.M0 κ) κ E' :=
 {keeps:=⟨fun b' o' v h hm=>by
    have:b'≠b:=fun e=>hm (by subst e;exact .inr ⟨key,0,hκ,Nat.zero_le _⟩);rw[yL vs o w b' o' (.inl this)];exact h,fun _ _ _ _ h=>h⟩
  hp:=fun _ _ h=>h
  gen:=hgen
  ob:=fun k g ob' _ h=>by obtain⟨ob,h1,h2⟩:=hob k g ob' h;exact⟨ob,h1,.inl ⟨h2,rfl⟩⟩
  ex:=fun b' o' v h=>uN vs o w hex b' o' v h
  ic:=fun b' o' v h hi=>by rw[zS];exact hi
  hvle:=by rcases hh with⟨h,-⟩|h<;>(change s.hv≤E'.hv;omega)
  lent:=fun e=>by
   rcases hh with⟨-,h2,k,hk⟩|h
   ·refine⟨h2,fun id b' off v cs n xs hb _ _=>⟨hb,fun h=>?_⟩⟩;have:b'≠b:=fun e=>by
     subst e;have:=R.ki _ _ _ _ _ hb hκ;rw[hk]at this;cases this
    rw[yL vs o w b' off (.inl this)];exact h
   ·change E'.hv=s.hv at e;omega}
theorem vZ(xs ys:List D):yC (xs++ys)=yC xs++yC ys:=by
 induction xs with
 |nil=>rfl
 |cons x xs ih=>simp[yC,ih]
theorem yZ{n:Nat}{xs:List D}(h:yB n xs):(yC xs).length=xs.length*n:=by
 induction xs with
 |nil=>simp[yC]
 |cons x xs ih=>
  have h1:=h x (by simp);have h2:=ih (fun y hy=>h y (by simp[hy]));simp[yC,h1,h2,Nat.succ_mul,Nat.add_comm]
theorem z0D{n:Nat}{xs ys:List D}(h:yB n xs)(g:yB n ys):yB n (xs++ys):=fun x hx=>by
 rcases List.mem_append.1 hx with h1|h1
 ·exact h x h1
 ·exact g x h1
theorem Rel.setOb {X:Ctx} {κ:Kap} {s:St} {a:Act} {w:World} (R:Rel X κ s a w) {k g:Nat} {ob ob':Ob} (ho:s.ob k g=some ob) {b:Nat} (hκ:κ (.ar k)=some (b,0)) (hsh:ob.shape=ob'.shape)
  (vs:List Value) (o:Nat) (hex:∀j,j<vs.length→∃u,zJ w b (o+j)=some u)
  (hnew:∀E',E'=(s.app (z1Y k g (some ob'))).env→Stays w (Mut X.M0 κ) κ s.env (w.setCells b o vs) (Mut X.M0 κ) κ E'→RelOb (w.setCells b o vs) (Mut X.M0 κ) κ E' k ob'):
  Rel X κ (s.app (z1Y k g (some ob'))) a (w.setCells b o vs):=by
 have hl:=ob_iff.1 (show s.env.ob k g=some ob from ho);have T:Stays w (Mut X.M0 κ) κ s.env (w.setCells b o vs) (Mut X.M0 κ) κ (s.app (z1Y k g (some ob'))).env:=by
  refine Stays.touch R hκ vs o hex (fun k'=>?_) (fun k' g' ob1 h=>?_) (.inl ⟨rfl,rfl,k,rfl⟩)
  ·show(zC s.ar k').1≤(zC ((k,g,some ob')::s.ar) k').1;rw[zA];split
   ·rename_i e;subst e;change zC s.ar k=_ at hl;rw[hl];exact Nat.le_refl _
   ·exact Nat.le_refl _
  ·rw[ob_iff]at h;change zC ((k,g,some ob')::s.ar) k'=(g',some ob1)at h;rw[zA]at h;split at h
   ·rename_i e;subst e;injection h with h1 h2;injection h2 with h2;subst h1;subst h2;exact⟨ob,ho,hsh⟩
   ·exact⟨ob1,ob_iff.2 h,rfl⟩
 refine R.step T (wL (R.kb _ _ _ hκ).2 vs o w) (fun key b' lo h=>by rw[vJ];exact R.kb key b' lo h) R.ki R.hn (.inl ⟨rfl,rfl⟩) (fun k' g' ob1 h=>?_) ?_
 ·have h':=ob_iff.1 (show(s.app (z1Y k g (some ob'))).env.ob k' g'=some ob1 from h);change zC ((k,g,some ob')::s.ar) k'=(g',some ob1)at h';rw[zA]at h';split at h'
  ·rename_i e;subst e;injection h' with h1 h2;injection h2 with h2;subst h2;exact hnew _ rfl T
  ·rename_i e
   exact RelOb.stay T (R.obs k' g' ob1 (show s.env.ob k' g'=some ob1 from ob_iff.2 h')) rfl (fun b' lo hb=>vD (fun e'=>by subst e';have:=R.ki _ _ _ _ _ hb hκ;injection this with this;exact e this.symm) vs o w)
 ·exact RelH.stay T R.heap rfl (fun _ _=>rfl) (fun id b' lo hb=>vD (fun e'=>by subst e';have:=R.ki _ _ _ _ _ hb hκ;cases this) vs o w)
theorem RelC.append{w:World}{M:Nat→Nat→Prop}{b:Nat}{ys:List D}:∀{o:Nat} {xs:List D},RelC w M b o xs→RelC w M b (o+xs.length) ys→RelC w M b o (xs++ys)
 |_,_,.nil _ _,h=>by simpa using h
 |_,_,.cons b o v c cs hv hm hs h r,g=>.cons b o v c _ hv hm hs h (RelC.append r (by simpa [Nat.add_assoc,Nat.add_comm 1]using g))
theorem RelC.get{w:World}{M:Nat→Nat→Prop}{b:Nat}:∀{o:Nat} {xs:List D},RelC w M b o xs→∀i c,xs[i]?=some c→∃v,zJ w b (o+i)=some v∧¬M b (o+i)∧c.sc=true∧RelV w M v c
 |_,_,.nil _ _,i,c,h=>by simp at h
 |_,_,.cons b o v c cs hv hm hs h r,0,c',e=>by simp at e;subst e;exact⟨v,hv,hm,hs,h⟩
 |_,_,.cons b o v c cs hv hm hs h r,i+1,c',e=>by
  have:=RelC.get r i c' (by simpa using e);simpa [Nat.add_assoc,Nat.add_comm 1]using this
theorem RelC.mk{w:World}{M:Nat→Nat→Prop}{b:Nat}:∀{xs:List D} (o:Nat),(∀i c,xs[i]?=some c→∃v,zJ w b (o+i)=some v∧¬M b (o+i)∧c.sc=true∧RelV w M v c)→RelC w M b o xs
 |[],o,_=>.nil b o
 |c::cs,o,h=>by
  obtain⟨v,h1,h2,h3,h4⟩:=h 0 c rfl;exact .cons b o v c cs h1 h2 h3 h4 (RelC.mk (o+1) (fun i c' e=>by
   have:=h (i+1) c' (by simpa using e);simpa [Nat.add_assoc,Nat.add_comm 1]using this))
theorem RelV.one{w:World}{M:Nat→Nat→Prop}{v:Value}{x:D}(h:RelV w M v x)(hs:x.sc=true):v.oneCell'=true:=by
 cases h<;>first|rfl|simp[D.sc]at hs
theorem RelC.list{w:World}{M:Nat→Nat→Prop}{b o:Nat}{xs:List D}(h:RelC w M b o xs):
  ∃vs:List Value,vs.length=xs.length∧(∀(j:Nat) (u:Value),vs[j]?=some u→zJ w b (o+j)=some u)∧(∀u∈vs,u.oneCell'=true)∧∀(j:Nat) (u:Value) (c:D),vs[j]?=some u→xs[j]?=some c→c.sc=true∧RelV w M u c:=by
 induction xs generalizing o with
 |nil=>exact⟨[],rfl,by simp,by simp,by simp⟩
 |cons c cs ih=>
  cases h with
  |cons _ _ v _ _ hv hm hs h r=>
   obtain⟨vs,h1,h2,h3,h4⟩:=ih r;refine⟨v::vs,by simp[h1],?_,?_,?_⟩
   ·intro j u e;cases j with
    |zero=>simp at e;subst e;exact hv
    |succ j=>have:=h2 j u (by simpa using e);simpa [Nat.add_assoc,Nat.add_comm 1]using this
   ·intro u hu;rcases List.mem_cons.1 hu with rfl|hu
    ·exact h.one hs
    ·exact h3 u hu
   ·intro j u c' e e';cases j with
    |zero=>simp at e e';subst e;subst e';exact⟨hs,h⟩
    |succ j=>exact h4 j u c' (by simpa using e) (by simpa using e')
theorem Rel.notM0{X:Ctx}{κ:Kap}{s:St}{a:Act}{w:World}(R:Rel X κ s a w){b:Nat}(h:X.base≤b∨X.S b)(o:Nat):¬X.M0 b o:=fun hm=>by
 obtain⟨h1,h2⟩:=R.m0 b o hm;rcases h with h|h
 ·omega
 ·exact h2 h
structure z8J(X:Ctx)(κ:Kap)(w:World)(Kold Knew:Key)(n:Nat)(zs:List D)(κ':Kap)(v':Value)(w':World):Prop where
 kept:Kept X.base X.S w w'
 kb:∀key b lo,κ' key=some (b,lo)→b<w'.heap.size∧(X.base≤b∨X.S b)
 ki:∀k1 k2 b l1 l2,κ' k1=some (b,l1)→κ' k2=some (b,l2)→k1=k2
 other:∀key,key≠Kold→key≠Knew→κ' key=κ key
 old:Kold≠Knew→κ' Kold=none
 keeps:Keeps w (Mut X.M0 κ) w' (Mut X.M0 κ')
 ex:∀b o v,zJ w b o=some v→∃v',zJ w' b o=some v'
 ic:∀b o v,zJ w b o=some v→icy w b o=false→icy w' b o=false
 same:∀b,b<w.heap.size→(∀lo,κ Kold≠some (b,lo))→w'.heap[b]?=w.heap[b]?
 rel:RelV w' (Mut X.M0 κ') v' (.sl zs)
 right:RightOK w' κ' Knew n v' zs
end Nt

