import Derived.Test.YtcpblelppecabaaGreatPlain1
import Derived.Test.YtcpblelppecabaaGreatPlain2
import Derived.Test.YtcpblelppecabaaGreatWf
namespace Go.Proofs.YtcpblelppecabaaGreat.M
open Go Nt
set_option linter.unusedVariables false
set_option linter.unusedSimpArgs false
set_option linter.unusedSectionVars false
mutual
def nds:zA→List zA
 |⟨K,N,S,L,F,T⟩=>⟨K,N,S,L,F,T⟩::y8G L
def y8G:List zA→List zA
 |[]=>[]
 |x::r=>nds x++y8G r
end
theorem v9b(t:zA):nds t=t::y8G t.L:=by cases t;simp[nds]
theorem w0P(a b:List zA):y8G (a++b)=y8G a++y8G b:=by
 induction a with
 |nil=>simp[y8G]
 |cons x r ih=>simp[y8G,ih]
theorem v7W(a b:List zA):vX (a++b)=vX a+vX b:=by
 induction a with
 |nil=>simp[vX]
 |cons x r ih=>simp[vX,ih];omega
theorem w1Y:∀t:zA,(nds t).length=zH t:=by
 intro t;induction t using zA.ind with
 |h t ih=>
  have:∀l:List zA,(∀x∈l,(nds x).length=zH x)→(y8G l).length=vX l:=by
   intro l;induction l with
   |nil=>intro _;simp[y8G,vX]
   |cons x r ihr=>
    intro h;have:=ihr (fun y hy=>h y (by simp[hy]));simp[y8G,vX,h x (by simp),this]
  rw[v9b,jV,List.length_cons,this t.L ih];omega
theorem w2E:∀(n:Nat) (done q:List zA),vX q≤n→done.length+vX q≤1000000→∃r,quiet_all_L3 (done++q) (done.length:Int)=some r∧r.Perm (done++y8G q):=by
 intro n;induction n with
 |zero=>
  intro done q h1 h2;have hq:q=[]:=by
   cases q with
   |nil=>rfl
   |cons x r=>have:=z0x x;simp[vX]at h1;omega
  subst hq;rw[z6g];unfold gP;rw[List.append_nil,zq0 (by omega)];exact⟨done,rfl,by simp[y8G]⟩
 |succ n ih=>
  intro done q h1 h2;cases q with
  |nil=>
   rw[z6g];unfold gP;rw[List.append_nil,zq0 (by omega)];exact⟨done,rfl,by simp[y8G]⟩
  |cons x q=>
   have hx:=jV x;have hl:=z5I x.L;have hl2:=z5I q;have ha:=v7W q x.L;simp only[vX]at h1 h2;obtain⟨r,e1,e2⟩:=ih (done++[x]) (q++x.L) (by omega) (by simp;omega);rw[z6g];unfold gP;have hidx:idx (done++x::q) (done.length:Int)=some x:=by
    rw[wG (by simp)];simp
   rw[zq1 (by simp;omega),hidx,zB,zq1 (by unfold wN;simp;omega),z0y (by omega) (by omega)];have e3:done++x::q++x.L=(done++[x])++(q++x.L):=by simp
   have e4:((done.length:Int)+1)=(((done++[x]).length:Nat):Int):=by simp
   rw[e3,e4];refine⟨r,e1,e2.trans ?_⟩;rw[w0P,show y8G (x::q)=nds x++y8G q by simp[y8G],v9b];simp only[List.append_assoc,List.cons_append,List.nil_append];exact(List.Perm.cons x List.perm_append_comm).append_left done
def q1(x:zA):Bool:=
 if x.K=5∨x.K=6∨x.K=7∨x.K=8∨x.K=9∨x.K=11∨x.K=13∨x.K=14∨x.K=15 then true
 else if x.K=10 then(if x.N=12∨x.N=13 then(match x.L with|_::b::_=>decide (b.K=5) && !decide (b.N=0)|_=>false)else true)else false
theorem w2O(f:Bool→List zA→Int→Int→Option Bool)(v7:List zA)(v8 v9:Int)(x:zA)(h:v9<v8)(hi:idx v7 v9=some x):
  jK f true v7 v8 v9=if q1 x=true then f true v7 v8 (IntKind.wrap .i64 (v9+1))else some false:=by
 unfold jK;rw[zq1 h,hi,zB];unfold q1;by_cases h5:x.K=5
 ·simp[h5]
 by_cases h6:x.K=6
 ·simp[h6]
 by_cases h7:x.K=7
 ·simp[h7]
 by_cases h8:x.K=8
 ·simp[h8]
 by_cases h9:x.K=9
 ·simp[h9]
 by_cases h11:x.K=11
 ·simp[h11]
 by_cases h13:x.K=13
 ·simp[h13]
 by_cases h14:x.K=14
 ·simp[h14]
 by_cases h15:x.K=15
 ·simp[h15]
 by_cases h10:x.K=10
 ·simp only[h10];rcases hL:x.L with _|⟨a,_|⟨b,r⟩⟩
  ·by_cases n1:x.N=12
   ·simp[n1]
   ·by_cases n2:x.N=13<;>simp[n1,n2]
  ·by_cases n1:x.N=12
   ·simp[n1]
   ·by_cases n2:x.N=13<;>simp[n1,n2]
  ·have hb:idx (a::b::r) 1=some b:=rfl;have hl:¬((List.length (a::b::r):Int)<2):=by simp;omega
   by_cases n1:x.N=12
   ·simp only[n1,hb,zB,zq0 hl];by_cases k5:b.K=5<;>by_cases k0:b.N=0<;>simp[k5,k0]
   ·by_cases n2:x.N=13
    ·simp only[n2,hb,zB,zq0 hl];by_cases k5:b.K=5<;>by_cases k0:b.N=0<;>simp[k5,k0]
    ·simp[n1,n2]
 ·simp[h5,h6,h7,h8,h9,h10,h11,h13,h14,h15]
theorem w2P(l:List zA)(hl:l.length≤1000000):∀(k i:Nat),i+k=l.length→quiet_Quiet_L3 true l (l.length:Int) (i:Int)=some ((l.drop i).all q1):=by
 intro k;induction k with
 |zero=>
  intro i hi;rw[z6R];unfold jK;rw[zq0 (by omega),List.drop_eq_nil_of_le (by omega)];rfl
 |succ k ih=>
  intro i hi;rw[z6R,w2O _ _ _ _ l[i] (by omega) (wG (by omega)),List.drop_eq_getElem_cons (show i<l.length by omega),List.all_cons,z0y (by omega) (by omega),z3R];cases hq:q1 l[i]with
  |true=>rw[zq1 rfl,ih (i+1) (by omega)];simp
  |false=>rw[zq0 (by decide)];simp
theorem w0U{t:zA}(h:zH t≤1000):∃r,z9R t=some r∧r.Perm (nds t)∧z6f t=some ((nds t).all q1):=by
 obtain⟨r,e1,e2⟩:=w2E (zH t) [] [t] (by simp[vX]) (by simp[vX];omega);have e3:z9R t=some r:=e1;have e4:r.Perm (nds t):=by simpa [y8G]using e2
 have hlen:r.length=zH t:=by rw[e4.length_eq,w1Y]
 refine⟨r,e3,e4,?_⟩;unfold z6f;rw[e3,zB];have:=w2P r (by omega) r.length 0 (by omega);rw[show((0:Nat):Int)=0 from rfl]at this;rw[this,List.drop_zero,List.all_eq,List.all_eq];congr 1;simp only[e4.mem_iff]
def Qt(t:zA):Prop:=(nds t).all q1=true
theorem v6e:∀(l:List zA),(y8G l).all q1=true→∀x∈l,Qt x
 |[],_,x,hx=>by cases hx
 |y::r,h,x,hx=>by
  rw[y8G,List.all_append,Bool.and_eq_true]at h;rcases List.mem_cons.1 hx with rfl|hx
  ·exact h.1
  ·exact v6e r h.2 x hx
theorem Qt.inv{t:zA}(h:Qt t):q1 t=true∧∀x∈t.L,Qt x:=by
 unfold Qt at h;rw[v9b,List.all_cons,Bool.and_eq_true]at h;exact⟨h.1,v6e t.L h.2⟩
theorem v6f{m t:zA}{s:State}{o:Out}(k0:s.Kind=0)(h:∀f,0≤f→Run m (z1w m t (at_ s f)) o (at_ s f)):wT m (.E t) s o s 1:=
 ⟨by omega,by omega,fun f hf=>.pay _ _ _ _ k0 (show 0<f by omega) (h (f-1) (by omega))⟩
theorem y9r {m t a b:zA} {s s1 s2:State} {o1 o2:Out} {c1 c2:Int} (k:t.K=10) (hL:t.L=[a,b]) (k0:s.Kind=0) (h1:wT m (.E a) s o1 s1 c1) (k1:s1.Kind=0) (hn:¬(t.N=2∧o1.v.N=0)) (hn':¬(t.N=1∧o1.v.N≠0)) (h2:wT m (.E b) s1 o2 s2 c2) (k2:s2.Kind=0)
  {n:Int} (hq:t.N≠1→t.N≠2→z2m t.N o1.v.N o2.v.N=some (n,0)):wT m (.E t) s (if t.N=1∨t.N=2 then oV o2.v else oN n) s2 (1+c1+c2):=by
 have p1:=h1.1;have p2:=h2.1;refine⟨by omega,h2.2.1,fun f hf=>.pay _ _ _ _ k0 (show 0<f by omega) ?_⟩;show Run m (z1w m t (at_ s (f-1))) _ _;unfold z1w;rw[zq0 (by omega),zq0 (by omega),zq0 (by omega),zq0 (by omega),zq0 (by omega),zq1 k,hL];refine .call _ _ _ o1 (at_ s1 (f-1-c1)) _ _ (h1.2.2 (f-1) (by omega)) (run_on.2 (.inl ⟨k1,?_⟩));rw[zq0 hn,zq0 hn'];have g2:=h2.2.2 (f-1-c1) (by omega);rw[show f-1-c1-c2=f-(1+c1+c2)by omega]at g2;refine .call _ _ _ o2 _ _ _ g2 (run_on.2 (.inl ⟨k2,?_⟩))
 by_cases z:t.N=1∨t.N=2
 ·rw[zq1 z,zq1 z];exact .ret _ _
 ·rw[zq0 z,zq0 z,hq (by omega) (by omega)];exact run_opt.2 ⟨(n,0),rfl,by rw[zq1 rfl];exact .ret _ _⟩
theorem v8k{m t a b:zA}{s s1:State}{o1:Out}{c1:Int}(k:t.K=10)(hL:t.L=[a,b])(k0:s.Kind=0)(h1:wT m (.E a) s o1 s1 c1)(k1:s1.Kind=0)(hn:(t.N=2∧o1.v.N=0)∨(t.N=1∧o1.v.N≠0)):wT m (.E t) s (if t.N=2 then oN 0 else oN 1) s1 (1+c1):=by
 have p1:=h1.1;refine⟨by omega,h1.2.1,fun f hf=>.pay _ _ _ _ k0 (show 0<f by omega) ?_⟩;show Run m (z1w m t (at_ s (f-1))) _ _;unfold z1w;rw[zq0 (by omega),zq0 (by omega),zq0 (by omega),zq0 (by omega),zq0 (by omega),zq1 k,hL];have g1:=h1.2.2 (f-1) (by omega);rw[show f-1-c1=f-(1+c1)by omega]at g1;refine .call _ _ _ o1 _ _ _ g1 (run_on.2 (.inl ⟨k1,?_⟩));by_cases z:t.N=2∧o1.v.N=0
 ·rw[zq1 z,zq1 z.1];exact .ret _ _
 ·rw[zq0 z,zq1 (hn.resolve_left z),zq0 (by omega)];exact .ret _ _
theorem y8M{m:zA}(hm:ModOk m)(hms:zH m≤100000000)(hmw:zA.Wf m){N:Int}{Γ:List zA}{t τ:zA}{s:State}{f:Int}(hT:TE m Γ t τ):Qt t→zA.Wf t→zH t≤100000000→StOk m N Γ (at_ s f)→s.Kind=0→(zH t:Int)≤f→∃o c,wT m (.E t) s o s c∧c≤zH t:=by
 induction hT with
 |alone t τ _ _ _ hL h16 hA=>
  intro hq hw hts hs k0 hf;have pos:=z0x t;have q:=hq.inv.1;have fin:∀o,(∀f,0≤f→Run m (z1w m t (at_ s f)) o (at_ s f))→∃o c,wT m (.E t) s o s c∧c≤zH t:=fun o h=>⟨o,1,v6f k0 h,by omega⟩;cases hA with
  |num k=>exact⟨_,1,z3M (.inl k) k0,by omega⟩
  |tru k _=>exact⟨_,1,z3M (.inr k) k0,by omega⟩
  |loc n x k hN hn hx=>
   have hll:s.Locals.length=Γ.length:=hs.ll;have hlt:n<s.Locals.length:=by omega
   refine fin (oV (s.Locals[s.Locals.length-1-n]'(by omega))) fun f _=>?_;unfold z1w;rw[zq0 (by omega),zq1 k,hN];show Run m (P.opt (z5j s.Locals n) _) _ _;rw[y4X hlt];exact .ret _ _
  |coni d x k hd' hx h5=>
   obtain⟨n,hN,hdn,-⟩:=hd'.nat;refine fin (oN x.N) fun f _=>?_;unfold z1w;rw[zq0 (by omega),zq0 (by omega),zq0 (by omega),zq1 k,hN];show Run m (P.opt m.L[n]? _) _ _;rw[hdn];show Run m (P.opt d.L[0]? _) _ _;rw[hx];exact .ret _ _
  |conb d x k hd' hx h6=>
   obtain⟨n,hN,hdn,-⟩:=hd'.nat;refine fin (oN x.N) fun f _=>?_;unfold z1w;rw[zq0 (by omega),zq0 (by omega),zq0 (by omega),zq1 k,hN];show Run m (P.opt m.L[n]? _) _ _;rw[hdn];show Run m (P.opt d.L[0]? _) _ _;rw[hx];exact .ret _ _
  |glob d x k hd' hx=>
   obtain⟨n,hN,hdn,hdk⟩:=hd'.nat;have hgl:s.Globals.length=m.L.length:=hs.gl;have hlt:n<s.Globals.length:=by rw[hgl];exact(List.getElem?_eq_some_iff.1 hdn).1
   refine fin (oV s.Globals[n]) fun f _=>?_;unfold z1w;rw[zq0 (by omega),zq0 (by omega),zq1 k,hN];show Run m (P.opt (v0x s.Globals n) _) _ _;rw[y2r,List.getElem?_eq_getElem hlt];exact .ret _ _
  |read k=>
   unfold q1 at q;rw[zq0 (by omega),zq0 (by omega)]at q;cases q
 |rule t τ p hS hF hTo hne hpl hP hR ih=>
  intro hq hw hts hs k0 hf;have hte:=jV t;have q:=hq.inv.1;have sub:∀(i:Nat) x y,t.L[i]?=some x→p[i]?=some y→∃o c,wT m (.E x) s o s c∧c≤zH x∧Fit m y o.v∧VW o.v:=fun i x y hx hy=>by
   have hm':=List.mem_of_getElem? hx;have hsz:=zS hm';obtain⟨o,c,h1,h2⟩:=ih i x y hx hy (hq.inv.2 x hm') (hw.L_.2 x hm') (by omega) hs k0 (by omega);have h3:=(w1w hm hms hmw (hP i x y hx hy) (hw.L_.2 x hm') (by omega) hs (by omega) k0 h1).2;obtain⟨-,h4,h5⟩:=h3.resolve_right (by omega);exact⟨o,c,h1,h2,h4,h5⟩
  by_cases k10:t.K=10
  ·cases hR with
   |un _ k _ _=>omega
   |index _ _ _ k _ _ _ _ _=>omega
   |field _ _ _ k _ _ _ _=>omega
   |make _ k _ _=>omega
   |call _ _ _ _ k _ _ _=>omega
   |list _ _ k _ _ _=>omega
   |bin ta tb _ k hp h2=>
    obtain⟨a,b,hL⟩:∃a b,t.L=[a,b]:=w0H (by rw[←hpl,hp];rfl);have h2s:=z3S hL;obtain⟨oa,ca,ha1,ha2,ha3,ha4⟩:=sub 0 a ta (by rw[hL];rfl) (by rw[hp];rfl);obtain⟨ob,cb,hb1,hb2,hb3,hb4⟩:=sub 1 b tb (by rw[hL];rfl) (by rw[hp];rfl);by_cases hn:(t.N=2∧oa.v.N=0)∨(t.N=1∧oa.v.N≠0)
    ·exact⟨_,_,v8k k hL k0 ha1 k0 hn,by omega⟩
    ·refine⟨_,_,y9r k hL k0 ha1 k0 (fun h=>hn (.inl h)) (fun h=>hn (.inr h)) hb1 k0 (n:=(v6p t.N oa.v.N ob.v.N).1) (fun n1 n2=>?_),by omega⟩;rw[y2F _ _ _ (z9K ha4.N_) (z9K hb4.N_)];congr 1;refine Prod.ext rfl ?_;show(v6p t.N oa.v.N ob.v.N).2=0;unfold q1 at q;rw[zq0 (by omega),zq1 k]at q;unfold v6p;rw[zq0 n1,zq0 n2];split
     ·rfl
     split
     ·rfl
     split
     ·rfl
     split
     ·rfl
     have bnz:t.N=12∨t.N=13→ob.v.N≠0:=fun h=>by
      rw[zq1 h,hL]at q;simp only[Bool.and_eq_true,decide_eq_true_eq,Bool.not_eq_true',decide_eq_false_iff_not]at q;obtain⟨e1,-,-⟩:=jZ (z3M (m:=m) (t:=b) (s:=s) (.inl q.1) k0) hb1;rw[e1];exact q.2
     split
     ·rw[zq0 (bnz (by omega))]
     split
     ·rw[zq0 (bnz (by omega))]
     ·rfl
  ·have list:∀(l:List zA) (j:Nat),t.L.drop j=l→∃ol c,wT m (.L l) s ol s c∧c≤vX l∧ol.l.length=l.length∧∀(i:Nat) y v,p[j+i]?=some y→ol.l[i]?=some v→Fit m y v∧VW v:=by
    intro l;induction l with
    |nil=>intro j _;exact⟨o0,0,v3d (by omega),by simp[vX],rfl,fun i y v _ hv=>by simp at hv⟩
    |cons x r ihl=>
     intro j hj;have hlt:j<t.L.length:=by
      have:=congrArg List.length hj;simp at this;omega
     have e1:=List.drop_eq_getElem_cons hlt;rw[hj]at e1;injection e1 with e1 e2;obtain⟨o2,c2,h2,h3,h4,h5⟩:=ihl (j+1) e2.symm;have gp:=List.getElem?_eq_getElem (l:=p) (i:=j) (by omega);obtain⟨o1,c1,g1,g2,g3,g4⟩:=sub j x _ (by rw[e1];exact List.getElem?_eq_getElem hlt) gp;refine⟨_,_,y8F g1 h2,by simp only[vX];omega,by simp[h4],fun i y v hy hv=>?_⟩;cases i with
     |zero=>rw[Nat.add_zero,gp]at hy;cases hy;cases hv;exact⟨g3,g4⟩
     |succ i=>exact h5 i y v (by rw[show j+1+i=j+(i+1)by omega];exact hy) hv
   obtain⟨ol,cl,hl1,hl2,hl3,hl4⟩:=list t.L 0 rfl;have kinds:t.K=11∨t.K=12∨t.K=13∨t.K=14∨t.K=15∨t.K=16:=by cases hR<;>omega
   have fin:∀o,(∀f:Int,0≤f→Run m (if t.K=11 then .opt ol.l[0]? fun v=>.opt (z1D t.N v.N) fun n=>.ret (oN n) (at_ s f)
     else if t.K=12 then .opt ol.l[0]? fun v=>.opt ol.l[1]? fun i=>if i.N<0∨i.N≥(v.L.length:Int)then .ret o0 (z8J 2 (at_ s f))else .opt v.L[i.N.toNat]? fun x=>.ret (oV x) (at_ s f)
     else if t.K=13 then .opt ol.l[0]? fun v=>.opt v.L[(Int.tmod t.N 64).toNat]? fun x=>.ret (oV x) (at_ s f)
     else if t.K=16 then .call (.C t.N ol.l) (at_ s f) fun o s=>.ret (oV o.v) s
     else .ret (oV ⟨0,ol.l⟩) (at_ s f)) o (at_ s f))→∃o c,wT m (.E t) s o s c∧c≤zH t:=fun o h=>
    ⟨o,_,y8I (c2:=0) kinds k0 hl1 (Int.le_refl _) (by omega) (fun f hf=>by rw[Int.sub_zero];exact run_on.2 (.inl ⟨k0,h f hf⟩)),by omega⟩
   have val:∀(i:Nat) y,p[i]?=some y→∃v,ol.l[i]?=some v∧Fit m y v∧VW v:=fun i y hy=>by
    have hlt:i<ol.l.length:=by have:=(List.getElem?_eq_some_iff.1 hy).1;omega
    have g:=List.getElem?_eq_getElem hlt;obtain⟨h1,h2⟩:=hl4 i y _ (by rw[Nat.zero_add];exact hy) g;exact⟨_,g,h1,h2⟩
   unfold q1 at q;cases hR with
   |bin _ _ _ k _ _=>exact absurd k k10
   |un a k hp hN=>
    obtain⟨v,g1,hFv,hWv⟩:=val 0 τ (by rw[hp];rfl);refine fin (oN (v7N t.N v.N)) fun f _=>?_;rw[zq1 k,g1];show Run m (P.opt (z1D t.N v.N) _) _ _;rw[y0t];exact .ret _ _
   |index a b k hp ka la kb lb=>rw[zq0 (by omega),zq0 (by omega)]at q;cases q
   |call d ps r b k hd' hdL hfit=>rw[zq0 (by omega),zq0 (by omega)]at q;cases q
   |field a x n k hp ka la hfr=>
    obtain⟨v,g1,hFv,hWv⟩:=val 0 a (by rw[hp];rfl);obtain⟨d,fd,k',i,e1,e2,e3,e4,e5,e6,e7⟩:=hfr;have em:Int.tmod t.N 64=(i:Int):=by rw[Int.tmod_eq_emod_of_nonneg (by omega)];omega
    have hpp:=y2z ka e1 e2;have hpl':=hFv.inv.2.2.1;have hid:=(List.getElem?_eq_some_iff.1 e4).1;have hlt:i<v.L.length:=by rw[←hpl',hpp,zq3];exact hid
    refine fin (oV v.L[i]) fun f _=>?_;rw[zq0 (by omega),zq0 (by omega),zq1 k,g1];show Run m (P.opt v.L[(Int.tmod t.N 64).toNat]? _) _ _;rw[em];show Run m (P.opt v.L[i]? _) _ _;rw[List.getElem?_eq_getElem hlt];exact .ret _ _
   |make d k hd' hfit=>
    refine fin (oV ⟨0,ol.l⟩) fun f _=>?_;rw[zq0 (by omega),zq0 (by omega),zq0 (by omega),zq0 (by omega)];exact .ret _ _
   |list a r k hp hall hg=>
    refine fin (oV ⟨0,ol.l⟩) fun f _=>?_;rw[zq0 (by omega),zq0 (by omega),zq0 (by omega),zq0 (by omega)];exact .ret _ _
theorem w0W{m:zA}(hm:ModOk m)(hms:zH m≤100000000)(hmw:zA.Wf m){N c:Int}{Γ:List zA}{l e x y τ:zA}{s a:State}{o:Out}(k:l.K=23)(hL:l.L=[e,x,y])(exy:y=x)(hTe:TE m Γ e τ)(hq:Qt e)(hw:zA.Wf e)(hts:zH e≤400)(hs:StOk m N Γ (at_ s 1000))(k0:s.Kind=0)(h:wT m (.S x) s o a c):∃c',wT m (.S l) s o0 a c'∧c'≤1+zH e+c:=by
 obtain⟨oe,ce,h1,h2⟩:=y8M hm hms hmw hTe hq hw (by omega) hs k0 (by omega);subst exy;have:=z7U (m:=m) (t:=l) k hL k0 h1 k0 (o2:=o) (by rw[ite_self];exact h);exact⟨_,this,by omega⟩
theorem w0n{m:zA}(hm:ModOk m)(hms:zH m≤100000000)(hmw:zA.Wf m){N c:Int}{Γ:List zA}{l e x y τ:zA}{s a:State}{o:Out}(k:l.K=23)(hL:l.L=[e,x,y])(exy:y=x)(hTe:TE m Γ e τ)(hq:Qt e)(hw:zA.Wf e)(hts:zH e≤400)(hs:StOk m N Γ (at_ s 1000))(k0:s.Kind=0)(h:wT m (.S l) s o a c):∃o' c',wT m (.S x) s o' a c'∧c'≤c:=by
 obtain⟨oe,ce,h1,h2⟩:=y8M hm hms hmw hTe hq hw (by omega) hs k0 (by omega);obtain⟨o1,s1,c1,h3,h4⟩:=y8D k hL h k0;obtain⟨e1,e2,e3⟩:=jZ h1 h3;have p:=h3.1;rcases h4 with⟨k1,_⟩|⟨k1,o2,c2,h5,rfl⟩
 ·exact absurd (z0Q e2▸k0) k1
 ·subst exy;rw[ite_self]at h5;exact⟨o2,c2,z1g e2 h5,by omega⟩
theorem InsR.at{C:List Value}{a k:Nat}{s s':State}(h:InsR C a k s s')(c:Int):InsR C a k (at_ s c) (at_ s' c):=h.upd (fun σ=>{σ with Fuel:=c}) (fun _=>rfl) (fun _ _=>rfl)
theorem v5N{C:List Value}{f a:Nat}(hC:C.length≤1000){m:zA}{j j':Job}{s s' b:State}{o:Out}{c:Int}{Q:y7z}(hj:v0R C f a j (at_ s c) j' (at_ s' c) Q)(hQ:∀o s o' s',Q o s o' s'→s.Kind=s'.Kind∧s.Fuel=s'.Fuel)(h:wT m j s o b c):∃o' b',wT m j' s' o' b' c∧Q o (at_ b 0) o' b':=by
 have g:=h.2.2 c (Int.le_refl _);rw[Int.sub_self]at g;obtain⟨o',b',g',q⟩:=w2j (m:=m) (m':=m) (RJ:=v0R C f a) (fun j s j' s' Q hj=>w2X hC m j s j' s' Q hj) g Q _ (w2X hC m _ _ _ _ _ hj);obtain⟨e1,e2⟩:=hQ _ _ _ _ q;have e2:(0:Int)=b'.Fuel:=e2;have e1:b.Kind=b'.Kind:=e1;have hc:=y9B g' (by rw[←e1];exact h.2.1) (by omega);refine⟨o',b',?_,q⟩;have:(at_ s' c).Fuel-b'.Fuel=c:=by show c-b'.Fuel=c;omega
 rw[this]at hc;exact hc
theorem v1V{C:List Value}{f a:Nat}(hC:C.length≤1000){m:zA}{j j':Job}{s s' b:State}{o:Out}{c:Int}{Q:y7z}(hj:v0R C f a j (at_ s c) j' (at_ s' c) Q)(hQ:∀o s o' s',Q o s o' s'→s.Kind=s'.Kind∧s.Fuel=s'.Fuel)(h:wT m j' s' o b c):∃o' b',wT m j s o' b' c∧Q o' b' o (at_ b 0):=by
 have g:=h.2.2 c (Int.le_refl _);rw[Int.sub_self]at g;obtain⟨o',b',g',q⟩:=w1d (m:=m) (m':=m) (RJ:=v0R C f a) (fun j s j' s' Q hj=>w2X hC m j s j' s' Q hj) g Q _ (w2X hC m _ _ _ _ _ hj);obtain⟨e1,e2⟩:=hQ _ _ _ _ q;have e2:b'.Fuel=(0:Int):=e2;have e1:b'.Kind=b.Kind:=e1;have hc:=y9B g' (by rw[e1];exact h.2.1) (by omega);refine⟨o',b',?_,q⟩;have:(at_ s c).Fuel-b'.Fuel=c:=by show c-b'.Fuel=c;omega
 rw[this]at hc;exact hc
theorem w2z{C:List Value}{a k e:Nat}:∀o s o' s',QE C a k e o s o' s'→s.Kind=s'.Kind∧s.Fuel=s'.Fuel:=fun o s o' s' h=>⟨h.2.1.kind,h.2.1.locals.2.2.2.2.1.symm⟩
theorem w2A{C:List Value}{a k e:Nat}:∀o s o' s',QS C a k e o s o' s'→s.Kind=s'.Kind∧s.Fuel=s'.Fuel:=fun o s o' s' ⟨k',_,_,h⟩=>⟨h.kind,h.locals.2.2.2.2.1.symm⟩
theorem y2p{m t:zA}{s:State}{v:Value}(k:t.K=7)(h:z5j s.Locals t.N=some v)(k0:s.Kind=0):wT m (.E t) s (oV v) s 1:=by
 refine v6f k0 fun f _=>?_;unfold z1w;rw[zq0 (by omega),zq1 k];show Run m (P.opt (z5j s.Locals t.N) _) _ _;rw[h];exact .ret _ _
theorem v7L(A:List Value)(x y z:Value):z5j (A++[x,y]) 0=some y∧z5j (A++[x,y]) 1=some x∧z5j (A++[x,y,z]) 2=some x:=by
 unfold z5j;simp
theorem y2n{m t e:zA}{s s1:State}{o1:Out}{c1:Int}(k:t.K=20)(hL:t.L=[e])(k0:s.Kind=0)(h:wT m (.E e) s o1 s1 c1)(k1:s1.Kind=0):wT m (.S t) s o0 {s1 with Locals:=s1.Locals++[o1.v]} (1+c1):=by
 have p1:=h.1;refine⟨by omega,h.2.1,fun f hf=>.pay _ _ _ _ k0 (show 0<f by omega) ?_⟩;show Run m (z1x m t (at_ s (f-1))) _ _;unfold z1x;rw[zq0 (by omega),zq0 (by omega),zq0 (by omega),hL];have g:=h.2.2 (f-1) (by omega);rw[show f-1-c1=f-(1+c1)by omega]at g;refine .call _ _ _ o1 _ _ _ g (run_on.2 (.inl ⟨k1,?_⟩));rw[zq1 k];exact .ret _ _
theorem v8V{m t e:zA}{s a:State}{o:Out}{c:Int}(k:t.K=20)(hL:t.L=[e])(k0:s.Kind=0)(h:wT m (.S t) s o a c):∃o1 s1 c1,wT m (.E e) s o1 s1 c1∧c=1+c1∧((s1.Kind≠0∧at_ a 0=at_ s1 0)∨(s1.Kind=0∧at_ a 0=at_ {s1 with Locals:=s1.Locals++[o1.v]} 0)):=by
 obtain⟨hc,hr⟩:=v3N h k0;have hf:=y2g m t (at_ s (c-1)) k0;unfold z1x at hr hf;rw[zq0 (by omega),zq0 (by omega),zq0 (by omega),hL]at hr hf;obtain⟨o1,s1,c1,g1,-⟩:=z1C hr hf h.2.1 (Int.le_refl _);by_cases k1:s1.Kind=0
 ·obtain⟨-,e2,e3⟩:=jZ h (y2n (m:=m) k hL k0 g1 k1);exact⟨o1,s1,c1,g1,e3.symm,.inr ⟨k1,e2.symm⟩⟩
 ·obtain⟨-,e2,e3⟩:=jZ h (z1h (m:=m) (t:=t) ⟨by omega,by omega,by omega⟩ hL k0 g1 k1);exact⟨o1,s1,c1,g1,e3.symm,.inl ⟨k1,e2.symm⟩⟩
theorem v9v{m t a b:zA}{s s1:State}{o1:Out}{c1:Int}{v u:Value}(k:t.K=22)(hL:t.L=[a,b])(ka:a.K=7)(k0:s.Kind=0)(h:wT m (.E b) s o1 s1 c1)(k1:s1.Kind=0)(hl:z5j s1.Locals a.N=some u):
  wT m (.S t) s o0 {s1 with Locals:=(s1.Locals.reverse.set a.N.toNat o1.v).reverse} (1+c1):=by
 have p1:=h.1;refine⟨by omega,h.2.1,fun f hf=>.pay _ _ _ _ k0 (show 0<f by omega) ?_⟩;show Run m (z1x m t (at_ s (f-1))) _ _;unfold z1x;rw[zq0 (by omega),zq0 (by omega),zq1 k,hL];have g:=h.2.2 (f-1) (by omega);rw[show f-1-c1=f-(1+c1)by omega]at g;refine .call _ _ _ o1 _ _ _ g (run_on.2 (.inl ⟨k1,?_⟩));have hr:wP a=some a:=(RootR.here a (.inl (by omega))).eq;rw[hr];show Run m (if a.K=9 then _ else _) _ _;rw[zq0 (by omega)];refine run_opt.2 ⟨u,hl,?_⟩
 refine .call _ _ _ o0 (at_ s1 (f-(1+c1))) _ _ ?_ (run_on.2 (.inl ⟨k1,?_⟩))
 ·show Run m (if a.K=12 then _ else if a.K=13 then _ else _) _ _;rw[zq0 (by omega),zq0 (by omega)];exact .ret _ _
 ·refine run_opt.2 ⟨u,hl,run_opt.2 ⟨o1.v,?_,.ret _ _⟩⟩;rw[y1z];unfold z3k;rw[zq1 (by simp)]
theorem w1p{m x:zA}{n:Nat}{i hi:Int}{s:State}(k0:s.Kind=0)(h:i≥hi):wT m (.F n i hi x) s o0 s 1:=by
 refine⟨by omega,by omega,fun f hf=>.pay _ _ _ _ k0 (show 0<f by omega) ?_⟩;rw[zq1 h];exact .ret _ _
theorem v7Y{m x:zA}{n:Nat}{i hi:Int}{s:State}(k:s.Kind≠0)(k3:s.Kind≠3):wT m (.F n i hi x) s o0 s 0:=⟨Int.le_refl _,k3,fun f _=>by rw[Int.sub_zero];exact .ended _ _ k⟩
theorem v7Z{m x:zA}{n:Nat}{i hi:Int}{s s1 a:State}{o1 o2:Out}{c1 c2:Int}(k0:s.Kind=0)(h:¬i≥hi)(h1:wT m (.S x) {s with Locals:=s.Locals++[⟨i,[]⟩]} o1 s1 c1)(hl:n≤s1.Locals.length)(h2:wT m (.F n (IntKind.wrap .i64 (i+1)) hi x) {s1 with Locals:=s1.Locals.take n} o2 a c2):wT m (.F n i hi x) s o0 a (1+c1+c2):=by
 have p1:=h1.1;have p2:=h2.1;refine⟨by omega,h2.2.1,fun f hf=>.pay _ _ _ _ k0 (show 0<f by omega) ?_⟩;rw[zq0 h];have g2:=h2.2.2 (f-1-c1) (by omega);rw[show f-1-c1-c2=f-(1+c1+c2)by omega]at g2;refine .call _ _ _ o1 (at_ s1 (f-1-c1)) _ _ (h1.2.2 (f-1) (by omega)) ?_;unfold cut;rw[zq1 hl];exact .call _ _ _ o2 _ _ _ g2 (.ret _ _)
theorem w2x{m x:zA}{n:Nat}{i hi:Int}{s a:State}{o:Out}{c:Int}(k0:s.Kind=0)(h:wT m (.F n i hi x) s o a c):
  (i≥hi∧at_ a 0=at_ s 0∧c=1)∨(¬i≥hi∧∃o1 s1 c1 o2 c2,wT m (.S x) {s with Locals:=s.Locals++[⟨i,[]⟩]} o1 s1 c1∧n≤s1.Locals.length∧wT m (.F n (IntKind.wrap .i64 (i+1)) hi x) {s1 with Locals:=s1.Locals.take n} o2 a c2∧c=1+c1+c2):=by
 by_cases z:i≥hi
 ·obtain⟨-,e2,e3⟩:=jZ h (w1p (m:=m) (n:=n) (x:=x) k0 z);exact .inl ⟨z,e2.symm,e3.symm⟩
 ·right;have g:=h.2.2 c (Int.le_refl _);rw[Int.sub_self]at g;have hf:=z5m m (.F n i hi x) (at_ s c);rcases run_pay.1 g with q|q|q
  ·exact absurd k0 q.1
  ·exact absurd (congrArg State.Kind q.2.2.2) h.2.1
  ·obtain⟨q1,q2,q3⟩:=q;have hf':Fl {(at_ s c)with Fuel:=(at_ s c).Fuel-1} (if i≥hi then .ret o0 {(at_ s c)with Fuel:=(at_ s c).Fuel-1}else .call (.S x) {({(at_ s c)with Fuel:=(at_ s c).Fuel-1}:State)with Locals:=s.Locals++[⟨i,[]⟩]} fun _ s=>cut s n fun s=>.call (.F n (IntKind.wrap .i64 (i+1)) hi x) s fun _ s=>.ret o0 s):=by
    cases hf with|pay _ _ _ _ _ f3=>exact f3 {(at_ s c)with Fuel:=(at_ s c).Fuel-1} k0
   rw[zq0 z]at q3 hf';obtain⟨o1,s1,c1,g1,g2,g3,g4,g5⟩:=z1C q3 hf' h.2.1 (Int.le_refl _);have g2:s1.Fuel=c-1-c1:=g2;unfold cut at g4 g5;by_cases hl:n≤s1.Locals.length
   ·rw[zq1 hl]at g4 g5;have g6:Fl {s1 with Locals:=s1.Locals.take n} (.call (.F n (IntKind.wrap .i64 (i+1)) hi x) {s1 with Locals:=s1.Locals.take n} fun _ s=>.ret o0 s):=by
     cases g5 with|call _ _ _ _ _ _ b3=>exact .call _ _ _ _ (Int.le_refl _) id b3
    obtain⟨-,o2,hc2⟩:=z8d g4 g6 h.2.1;have hc2:wT m (.F n (IntKind.wrap .i64 (i+1)) hi x) {s1 with Locals:=s1.Locals.take n} o2 a s1.Fuel:=hc2;exact⟨z,o1,s1,c1,o2,_,g1,hl,hc2,by omega⟩
   ·rw[zq0 hl]at g4;exact absurd g4 v5x
theorem w1M{m t ea eb x:zA}{s a:State}{o:Out}{c:Int}(k:t.K=25)(hL:t.L=[ea,eb,x])(h:wT m (.S t) s o a c)(k0:s.Kind=0):
  ∃o1 s1 c1,wT m (.E ea) s o1 s1 c1∧((s1.Kind≠0∧at_ a 0=at_ s1 0∧c=1+c1)∨(s1.Kind=0∧∃o2 s2 c2,wT m (.E eb) s1 o2 s2 c2 ∧
   ((s2.Kind≠0∧at_ a 0=at_ s2 0∧c=1+c1+c2)∨(s2.Kind=0∧∃o3 c3,wT m (.F s2.Locals.length o1.v.N o2.v.N x) s2 o3 a c3∧c=1+c1+c2+c3)))):=by
 obtain⟨hc,hr⟩:=v3N h k0;have hf:=y2g m t (at_ s (c-1)) k0;unfold z1x at hr hf;rw[zq0 (by omega),zq0 (by omega),zq0 (by omega),hL]at hr hf;obtain⟨o1,s1,c1,g1,g2,g3,g4,g5⟩:=z1C hr hf h.2.1 (Int.le_refl _);have g2:s1.Fuel=c-1-c1:=g2;refine⟨o1,s1,c1,g1,?_⟩;rcases run_on.1 g4 with⟨k1,q⟩|⟨k1,-,q⟩
 ·right;have g5:=v8A g5 k1;rw[zq0 (by omega),zq0 (by omega),zq0 (by omega),zq0 (by omega),zq0 (by omega),zq1 k]at q g5;obtain⟨o2,s2,c2,b1,b2,b3,b4,b5⟩:=z1C q g5 h.2.1 (Int.le_refl _);refine⟨k1,o2,s2,c2,b1,?_⟩;rcases run_on.1 b4 with⟨k2,q2⟩|⟨k2,-,q2⟩
  ·right;have b5:=v8A b5 k2;obtain⟨-,o3,hc3⟩:=z8d q2 b5 h.2.1;exact⟨k2,o3,_,hc3,by omega⟩
  ·left;obtain⟨e1,e2⟩:=y7H q2;exact⟨k2,e1,by omega⟩
 ·left;obtain⟨e1,e2⟩:=y7H q;exact⟨k1,e1,by omega⟩
theorem v2P {m t ea eb x:zA} {s s1 s2 a:State} {o1 o2 o3:Out} {c1 c2 c3:Int} (k:t.K=25) (hL:t.L=[ea,eb,x]) (k0:s.Kind=0) (h1:wT m (.E ea) s o1 s1 c1) (k1:s1.Kind=0) (h2:wT m (.E eb) s1 o2 s2 c2)
  (h3:(s2.Kind≠0∧at_ a 0=at_ s2 0∧c3=0)∨(s2.Kind=0∧wT m (.F s2.Locals.length o1.v.N o2.v.N x) s2 o3 a c3)):wT m (.S t) s o0 a (1+c1+c2+c3):=by
 have p1:=h1.1;have p2:=h2.1;have run:∀(b:State) (d:Int) (f:Int),1+c1+c2≤f→Run m (.on (at_ s2 (f-1-c1-c2)) o0 (.call (.F s2.Locals.length o1.v.N o2.v.N x) (at_ s2 (f-1-c1-c2)) fun _ s=>.ret o0 s)) o0 b→Run m (z1x m t (at_ s (f-1))) o0 b:=fun b d f hf hr=>by
  unfold z1x;rw[zq0 (by omega),zq0 (by omega),zq0 (by omega),hL];refine .call _ _ _ o1 (at_ s1 (f-1-c1)) _ _ (h1.2.2 (f-1) (by omega)) (run_on.2 (.inl ⟨k1,?_⟩));rw[zq0 (by omega),zq0 (by omega),zq0 (by omega),zq0 (by omega),zq0 (by omega),zq1 k];exact .call _ _ _ o2 (at_ s2 (f-1-c1-c2)) _ _ (h2.2.2 (f-1-c1) (by omega)) hr
 rcases h3 with⟨k2,e,rfl⟩|⟨k2,h3⟩
 ·refine wK e.symm ⟨by omega,h2.2.1,fun f hf=>.pay _ _ _ _ k0 (show 0<f by omega) ?_⟩;refine run _ 0 f (by omega) (run_on.2 (.inr ⟨k2,rfl,?_⟩));show at_ s2 _=at_ s2 _;congr 1;omega
 ·have p3:=h3.1;refine⟨by omega,h3.2.1,fun f hf=>.pay _ _ _ _ k0 (show 0<f by omega) ?_⟩;refine run _ 0 f (by omega) (run_on.2 (.inl ⟨k2,?_⟩));have g3:=h3.2.2 (f-1-c1-c2) (by omega);rw[show f-1-c1-c2-c3=f-(1+c1+c2+c3)by omega]at g3;exact .call _ _ _ o3 _ _ _ g3 (.ret _ _)
abbrev tl(k:Int):zA:=⟨7,k,[],[],0,0⟩
abbrev ltT:zA:=⟨10,5,[],[tl 1,tl 0],0,0⟩
abbrev w2s:zA:=⟨10,9,[],[tl 2,⟨5,1,[],[],0,0⟩],0,0⟩
abbrev w2v(b:zA):zA:=⟨29,0,[],[⟨20,0,[],[tl 1],0,0⟩,b,⟨22,0,[],[tl 2,w2s],0,0⟩],0,0⟩
abbrev whT(b:zA):zA:=⟨24,0,[],[ltT,w2v b],0,0⟩
abbrev vN(i:Int):Value:=⟨i,[]⟩
theorem v0y{m:zA}{s:State}{A:List Value}{i h:Int}(k0:s.Kind=0)(hl:s.Locals=A++[vN i,vN h])(hi:InK .i64 i)(hh:InK .i64 h):wT m (.E ltT) s (oN (b01 (decide (i<h)))) s 3:=by
 have h1:wT m (.E (tl 1)) s (oV (vN i)) s 1:=y2p rfl (by rw[hl];exact(v7L A _ _ v0).2.1) k0;have h2:wT m (.E (tl 0)) s (oV (vN h)) s 1:=y2p rfl (by rw[hl];exact(v7L A _ _ v0).1) k0;exact y9r (t:=ltT) rfl rfl k0 h1 k0 (fun h=>by simp at h) (fun h=>by simp at h) h2 k0 (n:=b01 (decide (i<h))) (fun _ _=>by
  show z2m 5 i h=_;rw[y2F _ _ _ (z9K hi) (z9K hh)];rfl)
theorem w0g{m:zA}{s:State}{A:List Value}{i:Int}{h z:Value}(k0:s.Kind=0)(hl:s.Locals=A++[vN i,h,z])(hi:InK .i64 i):wT m (.E w2s) s (oN (IntKind.wrap .i64 (i+1))) s 3:=by
 have h1:wT m (.E (tl 2)) s (oV (vN i)) s 1:=y2p rfl (by rw[hl];exact(v7L A _ _ z).2.2) k0;have h2:wT m (.E ⟨5,1,[],[],0,0⟩) s (oN 1) s 1:=z3M (.inl rfl) k0;exact y9r (t:=w2s) rfl rfl k0 h1 k0 (fun h=>by simp at h) (fun h=>by simp at h) h2 k0 (n:=IntKind.wrap .i64 (i+1)) (fun _ _=>by
  show z2m 9 i 1=_;rw[y2F _ _ _ (z9K hi) (z9K (by rw[i64_iff];omega))];rfl)
theorem w3w(A:List Value)(x y z v:Value):((A++[x,y,z]).reverse.set (Int.toNat 2) v).reverse=A++[v,y,z]:=by simp
theorem v3s{m x:zA}{s b:State}{A:List Value}{o:Out}{i h cx:Int}(hn:NBS x)(hx:x.K=29)(k0:s.Kind=0)(hi:InK .i64 i)(hc:wT m (.S x) {s with Locals:=A++[vN i]} o b cx):
  A.length+1≤b.Locals.length∧∃d,d≤cx+7∧0≤d∧wT m (.S (w2v (rho 2 1 x 0))) {s with Locals:=A++[vN i,vN h]} o0 {b with Locals:=b.Locals.take A.length++[vN (if b.Kind=0 then IntKind.wrap .i64 (i+1)else i),vN h]} d:=by
 have pc:=hc.1;have ins:InsR [vN i,vN h] A.length 1 ({s with Locals:=A++[vN i]}:State) {s with Locals:=A++[vN i,vN h]++[vN i]}:=⟨A,[vN i],rfl,rfl,rfl,rfl⟩;have e0:bB x=0:=by unfold bB isB;rw[hx];rfl
 obtain⟨o',b',hc',k',hk',e',A',B',a1,a2,a3,a4⟩:=v5N (C:=[vN i,vN h]) (f:=1) (a:=A.length) (by simp) (.S x 0 1 _ _ hn (ins.at cx) (fun _=>rfl)) w2A hc;rw[e0]at e';have a3:b.Locals=A'++B':=a3;have hAl:A.length+1≤b.Locals.length:=by rw[a3];simp;omega
 refine⟨hAl,?_⟩;have htk:b.Locals.take A.length=A':=by rw[a3,←a1];simp
 rw[htk];have hlet:wT m (.S ⟨20,0,[],[tl 1],0,0⟩) {s with Locals:=A++[vN i,vN h]} o0 {s with Locals:=A++[vN i,vN h]++[vN i]} (1+1):=
  y2n (m:=m) (s:={s with Locals:=A++[vN i,vN h]}) (e:=tl 1) rfl rfl k0 (y2p rfl (v7L A _ _ v0).2.1 k0) k0
 have hb:b'={b with Fuel:=0,Locals:=A'++[vN i,vN h]++B'}:=a4;by_cases kb:b.Kind=0
 ·have ek:k'=1:=e' kb;obtain⟨z,rfl⟩:∃z,B'=[z]:=by
   match B',a2 with
   |[z],_=>exact⟨z,rfl⟩
   |[],h=>simp at h;omega
   |_::_::_,h=>simp at h;omega
  have hb':b'.Locals=A'++[vN i,vN h,z]:=by rw[hb];simp
  have kb':b'.Kind=0:=by rw[hb];exact kb
  have hset:=v9v (m:=m) (t:=⟨22,0,[],[tl 2,w2s],0,0⟩) (a:=tl 2) (b:=w2s) (s:=b') (v:=v0) (u:=vN i) rfl rfl rfl kb' (w0g kb' hb' hi) kb' (by rw[hb'];exact(v7L A' _ _ z).2.2);have hB:=uV hlet (uV hc' (uV hset (z4Z (m:=m) (by show b'.Kind≠3;omega))));have hbl:=z2L (m:=m) (t:=w2v (rho 2 1 x 0)) (s:={s with Locals:=A++[vN i,vN h]}) rfl k0 hB (by
   show(A++[vN i,vN h]).length≤(b'.Locals.reverse.set _ _).reverse.length;rw[hb'];simp;omega)
  rw[zq1 kb];refine⟨_,?_,?_,wK ?_ hbl⟩
  ·omega
  ·omega
  ·have e1:(b'.Locals.reverse.set (Int.toNat (tl 2).N) (oN (IntKind.wrap .i64 (i+1))).v).reverse=A'++[vN (IntKind.wrap .i64 (i+1)),vN h,z]:=by rw[hb'];exact w3w _ _ _ _ _
   show({b' with Fuel:=0,Locals:=((b'.Locals.reverse.set (Int.toNat (tl 2).N) (oN (IntKind.wrap .i64 (i+1))).v).reverse).take (A++[vN i,vN h]).length}:State)={b with Fuel:=0,Locals:=A'++[vN (IntKind.wrap .i64 (i+1)),vN h]};rw[e1];have e2:(A'++[vN (IntKind.wrap .i64 (i+1)),vN h,z]).take (A++[vN i,vN h]).length=A'++[vN (IntKind.wrap .i64 (i+1)),vN h]:=by
    rw[show(A++[vN i,vN h]).length=A'.length+2 by simp;omega,List.take_length_add_append];rfl
   rw[e2,hb]
 ·have kb':b'.Kind≠0:=by rw[hb];exact kb
  have hB:=uV hlet (uV hc' (uV (z4V (m:=m) (t:=⟨22,0,[],[tl 2,w2s],0,0⟩) kb' hc'.2.1) (z4Z (m:=m) hc'.2.1)));have hbl:=z2L (m:=m) (t:=w2v (rho 2 1 x 0)) (s:={s with Locals:=A++[vN i,vN h]}) rfl k0 hB (by
   show(A++[vN i,vN h]).length≤b'.Locals.length;rw[hb];simp;omega)
  rw[zq0 kb];refine⟨_,?_,?_,wK ?_ hbl⟩
  ·omega
  ·omega
  ·show({b' with Fuel:=0,Locals:=b'.Locals.take (A++[vN i,vN h]).length}:State)={b with Fuel:=0,Locals:=A'++[vN i,vN h]};have e2:b'.Locals.take (A++[vN i,vN h]).length=A'++[vN i,vN h]:=by
    rw[hb];show(A'++[vN i,vN h]++B').take _=_;rw[show(A++[vN i,vN h]).length=(A'++[vN i,vN h]).length by simp;omega,List.take_left'];rfl
   rw[e2,hb]
theorem v9p{m x:zA}{s b:State}{A:List Value}{o:Out}{i h c:Int}(hn:NBS x)(hx:x.K=29)(k0:s.Kind=0)(hc:wT m (.S (w2v (rho 2 1 x 0))) {s with Locals:=A++[vN i,vN h]} o b c):∃o1 b1 cx,wT m (.S x) {s with Locals:=A++[vN i]} o1 b1 cx∧cx+3≤c:=by
 obtain⟨o1,s1,h1,-,-⟩:=y6e (t:=w2v (rho 2 1 x 0)) rfl hc k0;obtain⟨o2,s2,c2,o3,c3,h2,h3,e1⟩:=z7Q h1;obtain⟨o4,s4,c4,o5,c5,h4,h5,e2⟩:=z7Q h3;have hlet:wT m (.S ⟨20,0,[],[tl 1],0,0⟩) {s with Locals:=A++[vN i,vN h]} o0 {s with Locals:=A++[vN i,vN h]++[vN i]} (1+1):=
  y2n (m:=m) (s:={s with Locals:=A++[vN i,vN h]}) (e:=tl 1) rfl rfl k0 (y2p rfl (v7L A _ _ v0).2.1 k0) k0
 obtain⟨-,e3,e4⟩:=jZ h2 hlet;have h4:=z1g e3.symm h4;have ins:InsR [vN i,vN h] A.length 1 ({s with Locals:=A++[vN i]}:State) {s with Locals:=A++[vN i,vN h]++[vN i]}:=⟨A,[vN i],rfl,rfl,rfl,rfl⟩;obtain⟨o',b',hc',-⟩:=v1V (C:=[vN i,vN h]) (f:=1) (a:=A.length) (by simp) (.S x 0 1 _ _ hn (ins.at c4) (fun _=>rfl)) w2A h4;have:=h5.1;exact⟨o',b',c4,hc',by omega⟩
theorem w0K{m x:zA}(hn:NBS x)(hx:x.K=29){h:Int}(hh:InK .i64 h):∀(g:Nat) (i:Int) (s a:State) (o:Out) (c:Int),c≤g→InK .i64 i→s.Kind=0→wT m (.F s.Locals.length i h x) s o a c →
  ∃a' c',wT m (.W (vN (b01 (decide (i<h)))) (whT (rho 2 1 x 0))) {s with Locals:=s.Locals++[vN i,vN h]} o0 a' c'∧c'≤12*c∧s.Locals.length≤a'.Locals.length∧at_ a 0=at_ {a' with Locals:=a'.Locals.take s.Locals.length} 0:=by
 intro g;induction g with
 |zero=>
  intro i s a o c hg hi k0 hc;rcases w2x k0 hc with⟨_,_,e⟩|⟨_,o1,s1,c1,o2,c2,h1,_,h2,e⟩
  ·omega
  ·have:=h1.1;have:=h2.1;omega
 |succ g ih=>
  intro i s a o c hg hi k0 hc;rcases w2x k0 hc with⟨z,e1,rfl⟩|⟨z,o1,s1,c1,o2,c2,h1,hl,h2,rfl⟩
  ·refine⟨{s with Locals:=s.Locals++[vN i,vN h]},0,y1X (by show s.Kind≠3;omega) (.inr ?_),by omega,by simp,?_⟩
   ·show b01 (decide (i<h))=0;rw[decide_eq_false (by omega)];rfl
   ·rw[e1];show at_ s 0=({s with Fuel:=0,Locals:=(s.Locals++[vN i,vN h]).take s.Locals.length}:State);rw[List.take_left' rfl]
  ·have p1:=h1.1;have p2:=h2.1;have hv:(vN (b01 (decide (i<h)))).N≠0:=by
    show b01 (decide (i<h))≠0;rw[decide_eq_true (by omega)];decide
   obtain⟨hl1,d,hd1,hd2,hr⟩:=v3s (h:=h) hn hx k0 hi h1;by_cases k1:s1.Kind=0
   ·rw[zq1 k1]at hr;have hlen:({s1 with Locals:=s1.Locals.take s.Locals.length}:State).Locals.length=s.Locals.length:=by simp;omega
    obtain⟨a',c',hW,hle,hl',ea⟩:=ih (IntKind.wrap .i64 (i+1)) {s1 with Locals:=s1.Locals.take s.Locals.length} a o2 c2 (by omega) (z4I _) k1 (by rw[hlen];exact h2);have hlt:=v0y (m:=m) (s:={s1 with Locals:=s1.Locals.take s.Locals.length++[vN (IntKind.wrap .i64 (i+1)),vN h]}) k1 rfl (z4I (i+1)) hh;have:=y5S (m:=m) (t:=whT (rho 2 1 x 0)) (s:={s with Locals:=s.Locals++[vN i,vN h]}) rfl k0 hv hr hlt hW;rw[hlen]at hl' ea;exact⟨a',_,this,by omega,hl',ea⟩
   ·rw[zq0 k1]at hr;obtain⟨-,e2,e3⟩:=jZ h2 (v7Y (m:=m) (x:=x) (n:=s.Locals.length) (i:=IntKind.wrap .i64 (i+1)) (hi:=h) (s:={s1 with Locals:=s1.Locals.take s.Locals.length}) k1 h1.2.1);have:=y5S (m:=m) (t:=whT (rho 2 1 x 0)) (s:={s with Locals:=s.Locals++[vN i,vN h]}) rfl k0 hv hr (y3V (m:=m) (t:=ltT) k1 hr.2.1) (y1X (m:=m) (t:=whT (rho 2 1 x 0)) (v:=o0.v) hr.2.1 (.inl k1));refine⟨_,_,this,by omega,by simp;omega,?_⟩;rw[←e2]
    show({s1 with Fuel:=0,Locals:=s1.Locals.take s.Locals.length}:State)={s1 with Fuel:=0,Locals:=(s1.Locals.take s.Locals.length++[vN i,vN h]).take s.Locals.length};rw[List.take_append_of_le_length (by rw[List.length_take];omega),List.take_of_length_le (l:=s1.Locals.take s.Locals.length) (by rw[List.length_take];omega)]
theorem v3e{m x:zA}{h:Int}{i:Int}{s a':State}(hi:InK .i64 i)(hs:s.Kind≠0∨(vN (b01 (decide (i<h)))).N=0)(k0:s.Kind=0)(e1:at_ a' 0=at_ {s with Locals:=s.Locals++[vN i,vN h]} 0):
  ∃a c,wT m (.F s.Locals.length i h x) s o0 a c∧c≤0+1∧s.Locals.length≤a'.Locals.length∧at_ a 0=at_ {a' with Locals:=a'.Locals.take s.Locals.length} 0:=by
 have hz:i≥h:=by
  rcases hs with hs|hs
  ·exact absurd k0 hs
  ·by_cases q:i<h
   ·have:b01 (decide (i<h))=0:=hs;rw[decide_eq_true q]at this;cases this
   ·omega
 refine⟨s,1,w1p k0 hz,by omega,by rw[y6U e1];simp,?_⟩;rw[z5H e1];show at_ s 0=({s with Fuel:=0,Locals:=(s.Locals++[vN i,vN h]).take s.Locals.length}:State);rw[List.take_left' rfl]
theorem w0L{m x:zA}(hn:NBS x)(hx:x.K=29){h:Int}(hh:InK .i64 h):∀(g:Nat) (i:Int) (s a':State) (o:Out) (c':Int),c'≤g→InK .i64 i→s.Kind=0→wT m (.W (vN (b01 (decide (i<h)))) (whT (rho 2 1 x 0))) {s with Locals:=s.Locals++[vN i,vN h]} o a' c' →
  ∃a c,wT m (.F s.Locals.length i h x) s o0 a c∧c≤c'+1∧s.Locals.length≤a'.Locals.length∧at_ a 0=at_ {a' with Locals:=a'.Locals.take s.Locals.length} 0:=by
 intro g;induction g with
 |zero=>
  intro i s a' o c' hg hi k0 hc;rcases w1A (t:=whT (rho 2 1 x 0)) rfl hc with⟨hs,e1,rfl⟩|⟨_,_,o1,s1,d1,o2,s2,d2,o3,d3,h1,h2,h3,e⟩
  ·exact v3e hi hs k0 e1
  ·have:=h1.1;have:=h2.1;have:=h3.1;have:=(v3N h1 k0).1;omega
 |succ g ih=>
  intro i s a' o c' hg hi k0 hc;rcases w1A (t:=whT (rho 2 1 x 0)) rfl hc with⟨hs,e1,rfl⟩|⟨_,hv,o1,s1,d1,o2,s2,d2,o3,d3,h1,h2,h3,e⟩
  ·exact v3e hi hs k0 e1
  ·have p1:=h1.1;have p2:=h2.1;have p3:=h3.1;have z:¬i≥h:=fun hz=>hv (by
    show b01 (decide (i<h))=0;rw[decide_eq_false (by omega)];rfl)
   obtain⟨ox,b,cx,hb,hcx⟩:=v9p (m:=m) (x:=x) (s:=s) (A:=s.Locals) (i:=i) (h:=h) hn hx k0 h1;have pb:=hb.1;obtain⟨hl1,d,hd1,hd2,hr⟩:=v3s (h:=h) hn hx k0 hi hb;obtain⟨-,e2,e3⟩:=jZ h1 hr;by_cases k1:b.Kind=0
   ·rw[zq1 k1]at hr e2;have hlen:({b with Locals:=b.Locals.take s.Locals.length}:State).Locals.length=s.Locals.length:=by simp;omega
    have h2':=z1g e2.symm h2;have hlt:=v0y (m:=m) (s:={b with Locals:=b.Locals.take s.Locals.length++[vN (IntKind.wrap .i64 (i+1)),vN h]}) k1 rfl (z4I (i+1)) hh;obtain⟨eo,e4,e5⟩:=jZ hlt h2';subst eo;have h3':=z1g e4 h3;obtain⟨a,c,hF,hle,hl',ea⟩:=ih (IntKind.wrap .i64 (i+1)) {b with Locals:=b.Locals.take s.Locals.length} a' o3 d3 (by omega) (z4I _) k1 h3';rw[hlen]at hF hl' ea;exact⟨a,_,v7Z k0 z hb (by omega) hF,by omega,hl',ea⟩
   ·rw[zq0 k1]at hr e2;have k2:s1.Kind≠0:=by rw[←z0Q e2];exact k1
    obtain⟨e4,e5,eo⟩:=y3U h2 k2;have k3:s2.Kind≠0:=by rw[z0Q e4];exact k2
    obtain⟨-,e6,e7⟩:=jZ h3 (y1X (m:=m) (t:=whT (rho 2 1 x 0)) (v:=o2.v) h2.2.1 (.inl k3));have hF:=v7Z k0 z hb (by omega) (v7Y (m:=m) (x:=x) (n:=s.Locals.length) (i:=IntKind.wrap .i64 (i+1)) (hi:=h) (s:={b with Locals:=b.Locals.take s.Locals.length}) k1 hb.2.1);have ea:at_ a' 0=at_ {b with Locals:=b.Locals.take s.Locals.length++[vN i,vN h]} 0:=e6.symm.trans (e4.trans e2.symm);refine⟨_,_,hF,by omega,?_,?_⟩
    ·rw[y6U ea];simp;omega
    ·rw[z5H ea];show({b with Fuel:=0,Locals:=b.Locals.take s.Locals.length}:State)={b with Fuel:=0,Locals:=(b.Locals.take s.Locals.length++[vN i,vN h]).take s.Locals.length};rw[List.take_append_of_le_length (by rw[List.length_take];omega),List.take_of_length_le (l:=b.Locals.take s.Locals.length) (by rw[List.length_take];omega)]
theorem v0m{m τ:zA}{v:Value}(h:Fit m τ v)(hk:τ.K=1):v=vN v.N:=y2M rfl (v5R h (.inl hk))
theorem v8J{C:List Value}{a:Nat}{s s':State}(h:InsR C a 0 s s'):s'={s with Locals:=s.Locals++C}:=by
 obtain⟨A,B,h1,h2,h3,rfl⟩:=h;have:B=[]:=List.length_eq_zero_iff.1 h2;subst this;rw[h3];simp
theorem v9c{C:List Value}(s:State):InsR C s.Locals.length 0 s {s with Locals:=s.Locals++C}:=⟨s.Locals,[],rfl,rfl,by simp,by simp⟩
theorem n20:(20:Int)≠29∧(20:Int)≠21∧(20:Int)≠22:=by decide
abbrev lpT(ea eb x:zA):zA:=⟨29,0,[],[⟨20,0,[],[ea],0,0⟩,⟨20,0,[],[rho 1 0 eb 0],0,0⟩,whT (rho 2 1 x 0)],0,0⟩
theorem w1K {m:zA} (hm:ModOk m) (hms:zH m≤100000000) (hmw:zA.Wf m) {N c:Int} {Γ:List zA} {l ea eb x τ σ:zA} {s a:State} {o:Out} (k:l.K=25) (hL:l.L=[ea,eb,x]) (hTa:TE m Γ ea τ) (hτ:τ.K=1) (hTb:TE m Γ eb σ) (hσ:σ.K=1) (hn:NBS x) (hx:x.K=29) (hΓ:Γ.length≤1000000000)
  (hw:zA.Wf l) (hts:zH l≤400) (hs:StOk m N Γ s) (hc:c≤s.Fuel) (k0:s.Kind=0) (h:wT m (.S l) s o a c):∃c',wT m (.S (lpT ea eb x)) s o0 a c'∧c'≤12*c:=by
 have h3s:=z0l hL;have wa:zA.Wf ea:=hw.L_.2 ea (by rw[hL];simp);have wb:zA.Wf eb:=hw.L_.2 eb (by rw[hL];simp);have hl0:s.Locals.length=Γ.length:=hs.ll;obtain⟨o1,s1,c1,h1,h2⟩:=w1M k hL h k0;have p1:=h1.1;have hc1:c1≤s.Fuel:=by
  have:=h.1;rcases h2 with⟨_,_,e⟩|⟨_,o2,s2,c2,h3,h4⟩
  ·omega
  ·have:=h3.1;rcases h4 with⟨_,_,e⟩|⟨_,o3,c3,h5,e⟩
   ·omega
   ·have:=h5.1;omega
 obtain⟨hs1,hE1⟩:=w1w hm hms hmw hTa wa (by omega) (f:=s.Fuel) hs hc1 k0 h1;have hl1:s1.Locals.length=Γ.length:=hs1.ll;rcases h2 with⟨k1,e1,rfl⟩|⟨k1,o2,s2,c2,h3,h4⟩
 ·have g1:=z1h (m:=m) (t:=⟨20,0,[],[ea],0,0⟩) n20 rfl k0 h1 k1;have hB:=uV g1 (uV (z4V (m:=m) (t:=⟨20,0,[],[rho 1 0 eb 0],0,0⟩) k1 h1.2.1) (uV (z4V (m:=m) (t:=whT (rho 2 1 x 0)) k1 h1.2.1) (z4Z (m:=m) h1.2.1)));have hb:=z2L (m:=m) (t:=lpT ea eb x) rfl k0 hB (by omega);rw[y5a (by omega)]at hb;exact⟨_,wK e1.symm hb,by omega⟩
 ·obtain⟨-,hF1,hW1⟩:=hE1.resolve_right (by omega);have ev1:=v0m hF1 hτ;have g1:=y2n (m:=m) (t:=⟨20,0,[],[ea],0,0⟩) rfl rfl k0 h1 k1;rw[ev1]at g1;have hnb:=hTb.nb hΓ;obtain⟨o2',s2',g2,q1,q2,-⟩:=v5N (C:=[vN o1.v.N]) (f:=0) (a:=s1.Locals.length) (by simp) (.E eb 0 0 _ _ hnb ((v9c (C:=[vN o1.v.N]) s1).at c2) (fun _=>rfl)) w2z h3;subst q1;have e2:=v8J q2;have p3:=h3.1;have hc2:c1+c2≤s.Fuel:=by
   rcases h4 with⟨_,_,e⟩|⟨_,o3,c3,h5,e⟩
   ·omega
   ·have:=h5.1;omega
  obtain⟨hs2,hE2⟩:=w1w hm hms hmw hTb wb (by omega) (f:=s.Fuel-c1) hs1 (by omega) k1 h3;have hl2:s2.Locals.length=Γ.length:=hs2.ll;have k2':s2'.Kind=s2.Kind:=by rw[e2]
  rcases h4 with⟨k2,e4,rfl⟩|⟨k2,o3,c3,h5,rfl⟩
  ·have g3:=z1h (m:=m) (t:=⟨20,0,[],[rho 1 0 eb 0],0,0⟩) (s:={s1 with Locals:=s1.Locals++[vN o1.v.N]}) n20 rfl k1 g2 (by rw[k2'];exact k2);have hB:=uV g1 (uV g3 (uV (z4V (m:=m) (t:=whT (rho 2 1 x 0)) (by rw[k2'];exact k2) g2.2.1) (z4Z (m:=m) g2.2.1)));have hb:=z2L (m:=m) (t:=lpT ea eb x) rfl k0 hB (by rw[e2];simp;omega);refine⟨_,wK ?_ hb,by omega⟩;rw[e4,e2];show({s2 with Fuel:=0,Locals:=(s2.Locals++[vN o1.v.N]).take s.Locals.length}:State)=_;rw[List.take_left' (by omega)]
  ·have p5:=h5.1;obtain⟨-,hF2,hW2⟩:=hE2.resolve_right (by omega);have ev2:=v0m hF2 hσ;have g3:=y2n (m:=m) (t:=⟨20,0,[],[rho 1 0 eb 0],0,0⟩) (s:={s1 with Locals:=s1.Locals++[vN o1.v.N]}) rfl rfl k1 g2 (by rw[k2'];exact k2);rw[ev2]at g3;have es:at_ {s2' with Locals:=s2'.Locals++[vN o2'.v.N]} 0=at_ {s2 with Locals:=s2.Locals++[vN o1.v.N,vN o2'.v.N]} 0:=by
    rw[e2];show({s2 with Fuel:=0,Locals:=s2.Locals++[vN o1.v.N]++[vN o2'.v.N]}:State)={s2 with Fuel:=0,Locals:=s2.Locals++[vN o1.v.N,vN o2'.v.N]};simp
   have g3:=wK es g3;obtain⟨a',c',hW,hle,hla,ea'⟩:=w0K (m:=m) hn hx hW2.N_ c3.toNat o1.v.N s2 a o3 c3 (by omega) hW1.N_ k2 h5;have hlt:=v0y (m:=m) (s:={s2 with Locals:=s2.Locals++[vN o1.v.N,vN o2'.v.N]}) k2 rfl hW1.N_ hW2.N_;have hwh:=z2T (m:=m) (t:=whT (rho 2 1 x 0)) (s:={s2 with Locals:=s2.Locals++[vN o1.v.N,vN o2'.v.N]}) rfl rfl k2 hlt k2 hW;have hB:=uV g1 (uV g3 (uV hwh (z4Z (m:=m) hwh.2.1)));have hb:=z2L (m:=m) (t:=lpT ea eb x) rfl k0 hB (by omega)
   rw[show s.Locals.length=s2.Locals.length by omega]at hb;exact⟨_,wK ea'.symm hb,by omega⟩
theorem w2a {m:zA} (hm:ModOk m) (hms:zH m≤100000000) (hmw:zA.Wf m) {N c:Int} {Γ:List zA} {l ea eb x τ σ:zA} {s a:State} {o:Out} (k:l.K=25) (hL:l.L=[ea,eb,x]) (hTa:TE m Γ ea τ) (hτ:τ.K=1) (hTb:TE m Γ eb σ) (hσ:σ.K=1) (hn:NBS x) (hx:x.K=29) (hΓ:Γ.length≤1000000000)
  (hw:zA.Wf l) (hts:zH l≤400) (hs:StOk m N Γ s) (hc:c≤s.Fuel) (k0:s.Kind=0) (h:wT m (.S (lpT ea eb x)) s o a c):∃c',wT m (.S l) s o0 a c'∧c'≤c:=by
 have h3s:=z0l hL;have wa:zA.Wf ea:=hw.L_.2 ea (by rw[hL];simp);have wb:zA.Wf eb:=hw.L_.2 eb (by rw[hL];simp);have hl0:s.Locals.length=Γ.length:=hs.ll;obtain⟨ob,sE,hB,hlE,eE⟩:=y6e (t:=lpT ea eb x) rfl h k0;obtain⟨oA,sA,cA,oR,cR,hA,hR,eR⟩:=z7Q hB;obtain⟨oC,sC,cC,oT,cT,hC,hT,eT⟩:=z7Q hR;obtain⟨oD,sD,cD,oN',cN,hD,hN,eN⟩:=z7Q hT;obtain⟨eZ,eZ0⟩:=v9d hN;have pA:=hA.1;have pC:=hC.1;have pD:=hD.1;obtain⟨o1,s1,c1,h1,ec1,h2⟩:=v8V (t:=⟨20,0,[],[ea],0,0⟩) rfl rfl k0 hA;have p1:=h1.1
 obtain⟨hs1,hE1⟩:=w1w hm hms hmw hTa wa (by omega) (f:=s.Fuel) hs (by omega) k0 h1;have hl1:s1.Locals.length=Γ.length:=hs1.ll;rcases h2 with⟨k1,e1⟩|⟨k1,e1⟩
 ·have kA:sA.Kind≠0:=by rw[z0Q e1];exact k1
  obtain⟨e2,-,-⟩:=z4T hC kA;have kC:sC.Kind≠0:=by rw[z0Q e2];exact kA
  obtain⟨e3,-,-⟩:=z4T hD kC;have:=z1h (m:=m) (t:=l) ⟨by omega,by omega,by omega⟩ hL k0 h1 k1;have ee:at_ sE 0=at_ s1 0:=eZ.trans (e3.trans (e2.trans e1));refine⟨_,wK ?_ this,by omega⟩;rw[eE,z5H ee,y5a (by omega)]
 ·obtain⟨-,hF1,hW1⟩:=hE1.resolve_right (by omega);have ev1:=v0m hF1 hτ;rw[ev1]at e1;have hC:=z1g e1 hC;obtain⟨o2,s2',c2,h3,ec2,h4⟩:=v8V (t:=⟨20,0,[],[rho 1 0 eb 0],0,0⟩) (s:={s1 with Locals:=s1.Locals++[vN o1.v.N]}) rfl rfl k1 hC;have p3:=h3.1;have hnb:=hTb.nb hΓ;obtain⟨o2',s2,g2,q1,q2,-⟩:=v1V (C:=[vN o1.v.N]) (f:=0) (a:=s1.Locals.length) (by simp) (.E eb 0 0 _ _ hnb ((v9c (C:=[vN o1.v.N]) s1).at c2) (fun _=>rfl)) w2z h3;subst q1;have e2:=v8J q2
  have e2:at_ s2' 0={s2 with Locals:=s2.Locals++[vN o1.v.N]}:=e2;obtain⟨hs2,hE2⟩:=w1w hm hms hmw hTb wb (by omega) (f:=s.Fuel-c1) hs1 (by omega) k1 g2;have hl2:s2.Locals.length=Γ.length:=hs2.ll;have k2':s2'.Kind=s2.Kind:=(congrArg State.Kind e2:(at_ s2' 0).Kind=_);rcases h4 with⟨k2,e3⟩|⟨k2,e3⟩
  ·have kC:sC.Kind≠0:=by rw[z0Q e3];exact k2
   obtain⟨e4,-,-⟩:=z4T hD kC;have k2s:s2.Kind≠0:=by rw[←k2'];exact k2
   have:=v2P (m:=m) (t:=l) k hL k0 h1 k1 g2 (a:=s2) (o3:=o0) (c3:=0) (.inl ⟨k2s,rfl,rfl⟩);refine⟨_,wK ?_ this,by omega⟩;have ee:at_ sE 0=at_ s2' 0:=eZ.trans (e4.trans e3);have ee2:at_ s2' 0=at_ {s2 with Locals:=s2.Locals++[vN o1.v.N]} 0:=(y7H e2).1;rw[eE,z5H (ee.trans ee2)];show at_ s2 0=({s2 with Fuel:=0,Locals:=(s2.Locals++[vN o1.v.N]).take s.Locals.length}:State);rw[List.take_left' (by omega)]
  ·have k2s:s2.Kind=0:=by rw[←k2'];exact k2
   obtain⟨-,hF2,hW2⟩:=hE2.resolve_right (by omega);have ev2:=v0m hF2 hσ;rw[ev2]at e3;have es:at_ {s2' with Locals:=s2'.Locals++[vN o2.v.N]} 0=at_ {s2 with Locals:=s2.Locals++[vN o1.v.N,vN o2.v.N]} 0:=by
    have:({(at_ s2' 0)with Locals:=(at_ s2' 0).Locals++[vN o2.v.N]}:State)={({s2 with Locals:=s2.Locals++[vN o1.v.N]}:State)with Locals:=s2.Locals++[vN o1.v.N]++[vN o2.v.N]}:=by rw[e2]
    have h0:s2.Fuel=0:=(y7H e2).2;show({(at_ s2' 0)with Locals:=(at_ s2' 0).Locals++[vN o2.v.N]}:State)=_;rw[this];show({s2 with Locals:=s2.Locals++[vN o1.v.N]++[vN o2.v.N]}:State)={s2 with Fuel:=0,Locals:=s2.Locals++[vN o1.v.N,vN o2.v.N]};rw[←h0];simp
   have hD:=z1g (e3.trans es) hD;have hlt:=v0y (m:=m) (s:={s2 with Locals:=s2.Locals++[vN o1.v.N,vN o2.v.N]}) k2s rfl hW1.N_ hW2.N_;obtain⟨o5,s5,c5,h5,h6⟩:=y7x (t:=whT (rho 2 1 x 0)) (s:={s2 with Locals:=s2.Locals++[vN o1.v.N,vN o2.v.N]}) rfl rfl hD k2s;obtain⟨e5,e6,e7⟩:=jZ hlt h5;subst e5;rcases h6 with⟨k5,_⟩|⟨k5,o6,c6,h7,ec6⟩
   ·exact absurd (by rw[z0Q e6];exact k2s) k5
   ·have p7:=h7.1;have h7:=z1g e6 h7;obtain⟨b,d,hF,hle,hlb,eb'⟩:=w0L (m:=m) hn hx hW2.N_ c6.toNat o1.v.N s2 sD o6 c6 (by omega) hW1.N_ k2s h7;have:=v2P (m:=m) (t:=l) k hL k0 h1 k1 g2 (a:=b) (o3:=o0) (c3:=d) (.inr ⟨k2s,hF⟩);refine⟨_,wK ?_ this,by omega⟩;rw[eb',eE,z5H eZ,show s.Locals.length=s2.Locals.length by omega]
def z6n(t:zA)(kind:Int)(parts from_:Nat):Bool:=decide (t.K=kind) && decide (t.N=0) && decide (t.S=[]) && decide (t.L.length=parts) && (t.L.drop from_).all fun x=>decide (x.K=29)
theorem v8K(l:List zA)(hl:l.length≤1000):∀(k i:Nat),i+k=l.length→flow_is_L4 l l.length i=some ((l.drop i).all fun x=>decide (x.K=29)):=by
 intro k;induction k with
 |zero=>
  intro i hi;rw[y2h];unfold z1P;rw[zq0 (show ¬(i:Int)<(l.length:Int)by omega),List.drop_eq_nil_of_le (show l.length≤i by omega)];rfl
 |succ k ih=>
  intro i hi;have hil:i<l.length:=by omega
  rw[y2h];unfold z1P;rw[zq1 (show(i:Int)<(l.length:Int)by omega),wG hil,zB,List.drop_eq_getElem_cons hil,List.all_cons];by_cases h:l[i].K=29
  ·rw[zq1 h,z0y (by omega) (by omega),z3R,ih (i+1) (by omega),decide_eq_true h];rfl
  ·rw[zq0 h,decide_eq_false h];rfl
theorem y8A(t:zA)(kind:Int)(parts blocks:Nat)(h:blocks≤parts)(h2:parts≤100):z6D t kind parts blocks=some (z6n t kind parts (parts-blocks)):=by
 unfold z6D z6n;by_cases h1:t.K=kind
 ·rw[zq1 h1,decide_eq_true h1];by_cases h2:t.N=0
  ·rw[zq1 h2,decide_eq_true h2];by_cases h3:t.S=[]
   ·rw[zq1 h3,decide_eq_true h3];by_cases h4:t.L.length=parts
    ·rw[zq1 (show(t.L.length:Int)=(parts:Int)by omega),decide_eq_true h4,zq1 (Nat.le_refl _),z0y (show -9223372036854775808≤(parts:Int)-(blocks:Int)by omega) (by omega),
      show(parts:Int)-(blocks:Int)=((parts-blocks:Nat):Int)by omega,zq1 (show(0:Int)≤((parts-blocks:Nat):Int)by omega),show Int.toNat ((parts-blocks:Nat):Int)=parts-blocks from rfl,zq1 (show parts-blocks≤t.L.length by omega),
      List.take_of_length_le (Nat.le_refl _)]
     have:=v8K (t.L.drop (parts-blocks)) (by simp;omega) (t.L.drop (parts-blocks)).length 0 (by omega);simpa using this
    ·rw[zq0 (show ¬(t.L.length:Int)=(parts:Int)by omega),decide_eq_false h4];simp
   ·rw[zq0 h3,decide_eq_false h3];simp
  ·rw[zq0 h2,decide_eq_false h2];simp
 ·rw[zq0 h1,decide_eq_false h1];simp
abbrev lf(k n:Int):zA:=⟨k,n,[],[],0,0⟩
def w3h(a b c:zA):zA:=
 ⟨29,0,[],[⟨20,0,[],[a],0,0⟩,⟨20,0,[],[w0b (z3c 1 0) b 0],0,0⟩,
  ⟨24,0,[],[⟨10,5,[],[lf 7 1,lf 7 0],0,0⟩,⟨29,0,[],[⟨20,0,[],[lf 7 1],0,0⟩,w0b (z3c 2 1) c 0,⟨22,0,[],[lf 7 2,⟨10,9,[],[lf 7 2,lf 5 1],0,0⟩],0,0⟩],0,0⟩],0,0⟩],0,0⟩
def w0J(t:zA):zA×Bool:=
 if z6n t 25 3 2=true then(match t.L with|[a,b,c]=>(w3h a b c,true)|_=>(zT,false))else(zT,false)
theorem v5A{t:zA}(h:z6n t 25 3 2=true):∃a b c,t.L=[a,b,c]:=by
 unfold z6n at h;simp only[Bool.and_eq_true,decide_eq_true_eq]at h;have:=h.1.2;rcases hL:t.L with _|⟨a,_|⟨b,_|⟨c,_|⟨d,r⟩⟩⟩⟩
 ·rw[hL]at this;simp at this
 ·rw[hL]at this;simp at this
 ·rw[hL]at this;simp at this
 ·exact⟨a,b,c,rfl⟩
 ·rw[hL]at this;simp at this
theorem w1W(t:zA)(w:zA.Wf t)(hs:zH t≤400):z9I t=some (w0J t):=by
 unfold z9I w0J;rw[show(3:Int)=((3:Nat):Int)from rfl,show(1:Int)=((1:Nat):Int)from rfl,y8A t 25 3 1 (by omega) (by omega),zB];cases h:z6n t 25 3 2 with
 |false=>rfl
 |true=>
  obtain⟨a,b,c,hL⟩:=v5A h;rw[jV,hL]at hs;simp only[vX]at hs;have e1:=y8Q (b:=1) (f:=0) (by unfold Bad;omega) (w.L_.2 b (by rw[hL];simp)) (by omega);have e2:=y8Q (b:=2) (f:=1) (by unfold Bad;omega) (w.L_.2 c (by rw[hL];simp)) (by omega);rw[w0M (by omega)]at e1 e2;have i1:idx [a,b,c] 1=some b:=rfl;have i2:idx [a,b,c] 2=some c:=rfl;rw[zq1 rfl,zq1 rfl,hL];simp only[show((1:Nat):Int)=1 from rfl,i1,i2,zB,e1,e2];rfl
theorem v9u(k n:Int):wH (lf k n) (lf k n)=some true:=by
 rw[y4e];unfold z2S;simp only[if_true];rw[z1E];unfold wE;simp only[if_true];rw[jS];unfold yJ;rfl
theorem v2M:z4j=some true:=by
 unfold z4j;have b0:z7k []=some (lf 29 0):=rfl;have e:y0e 24 [(zA.mk 6 0 ([]:List UInt8) [] 0 0),lf 29 0]=some ⟨24,0,[],[lf 6 0,lf 29 0],0,0⟩:=rfl;rw[b0,zB,e,zB,zB];unfold z4h;have i1:=y8A ⟨24,0,[],[lf 6 0,lf 29 0],0,0⟩ 23 3 2 (by omega) (by omega);have i2:=y8A ⟨24,0,[],[lf 6 0,lf 29 0],0,0⟩ 24 2 1 (by omega) (by omega);have s2:z6n ⟨24,0,[],[lf 6 0,lf 29 0],0,0⟩ 24 2 1=true:=by decide
 rw[s2]at i2;have hn:z0C ⟨⟨24,0,[],[lf 6 0,lf 29 0],0,0⟩,lf 29 0⟩=some true:=by
  unfold z0C z2Z z1B;have:idx [lf 6 0,lf 29 0] 0=some (lf 6 0):=rfl;simp only[this,zB,v9u,if_true]
 simp only[show((3:Nat):Int)=3 from rfl,show((2:Nat):Int)=2 from rfl,show((1:Nat):Int)=1 from rfl]at i1 i2;rw[i1,zB,i2,hn];rfl
theorem v6o(a:zA):∀b:zA,zH a≤1000000000→∃c,wH a b=some c∧(c=true↔wI a=wI b):=by
 induction a using zA.ind with
 |h a ih=>
  intro b h;have hl:=vK a;have loop:∀(k i:Nat),i+k=a.L.length→a.L.length=b.L.length→∃c,slices_EqualFunc_G120Same_L4 b.L a.L (a.L.length:Int) i=some c∧(c=true↔(a.L.drop i).map wI=(b.L.drop i).map wI):=by
   intro k;induction k with
   |zero=>
    intro i hi hab;rw[jS];unfold yJ;rw[zq0 (by omega),List.drop_eq_nil_of_le (by omega),List.drop_eq_nil_of_le (by omega)];exact⟨_,rfl,by simp⟩
   |succ k ihk=>
    intro i hi hab;have hlt:i<a.L.length:=by omega
    have hlt':i<b.L.length:=by omega
    have hm:=List.getElem_mem hlt;rw[jS];unfold yJ;obtain⟨c,e,hc⟩:=ih _ hm b.L[i] (by have:=zS hm;omega);rw[zq1 (by omega),wG hlt,zB,wG hlt',zB,e,zB,z1G (by omega),List.drop_eq_getElem_cons hlt,List.drop_eq_getElem_cons hlt',List.map_cons,List.map_cons];cases c with
    |true=>
     obtain⟨c',e',hc'⟩:=ihk (i+1) (by omega) hab;rw[zq1 rfl];exact⟨c',e',by rw[hc'];simp[hc.1 rfl]⟩
    |false=>
     rw[zq0 (by decide)];exact⟨false,rfl,by simp;intro h;exact absurd (hc.2 h) (by simp)⟩
  rw[y4e];unfold z2S;rw[z0M a,z0M b];by_cases h1:a.K=b.K
  ·rw[zq1 h1];by_cases h2:a.N=b.N
   ·rw[zq1 h2];by_cases h3:a.S=b.S
    ·rw[zq1 h3,z1E];unfold wE;by_cases h4:(List.length a.L:Int)=(List.length b.L:Int)
     ·rw[zq1 h4];obtain⟨c,e,hc⟩:=loop a.L.length 0 (by omega) (by omega);have e:slices_EqualFunc_G120Same_L4 b.L a.L (a.L.length:Int) 0=some c:=e;rw[e];exact⟨c,rfl,by rw[hc];simp[h1,h2,h3]⟩
     ·rw[zq0 h4];refine⟨_,rfl,by simp;intro _ _ _ hx;exact h4 (by have:=congrArg List.length hx;simp at this;omega)⟩
    ·rw[zq0 h3];exact⟨_,rfl,by simp;intro _ _ hx;exact absurd hx h3⟩
   ·rw[zq0 h2];exact⟨_,rfl,by simp;intro _ hx;exact absurd hx h2⟩
  ·rw[zq0 h1];exact⟨_,rfl,by simp;intro hx;exact absurd hx h1⟩
theorem z4g{t:zA}(h1:t.S=t.S)(h2:t.From=0)(h3:t.To=0)(h:∀x∈t.L,wI x=x):wI t=t:=by
 rw[z0M];exact z8e rfl rfl rfl ((List.map_congr_left h).trans (List.map_id' _)) h2.symm h3.symm
theorem TS.bare{m ρ:zA}(t:zA):∀Γ Γ',TS m ρ Γ t Γ'→wI t=t:=by
 induction t using zA.ind with
 |h t ih=>
  intro Γ Γ' hT;cases hT with
  |block _ Γ1 _ k _ hF hO hB=>
   refine z4g rfl hF hO fun x hx=>?_;obtain⟨Γ1,Γ2,h1,-⟩:=TB.mem t.L _ _ hB x hx;exact ih x hx Γ1 Γ2 h1
  |let_ _ _ e τ k _ hF hO hL hE=>exact z4g rfl hF hO (by rw[hL];intro x hx;rw[List.mem_singleton.1 hx];exact hE.bare.1)
  |new _ _ x k _ hF hO hL hg hn=>exact z4g rfl hF hO (by rw[hL];intro y hy;rw[List.mem_singleton.1 hy,←hn];exact w0l x)
  |print _ _ e τ k _ hF hO hL hE _ _=>exact z4g rfl hF hO (by rw[hL];intro x hx;rw[List.mem_singleton.1 hx];exact hE.bare.1)
  |ret _ _ e τ k _ hF hO hL hE _=>exact z4g rfl hF hO (by rw[hL];intro x hx;rw[List.mem_singleton.1 hx];exact hE.bare.1)
  |do_ _ _ e τ k _ hF hO hL _ hE=>exact z4g rfl hF hO (by rw[hL];intro x hx;rw[List.mem_singleton.1 hx];exact hE.bare.1)
  |set _ _ a b τ σ r k _ hF hO hL hA hB _ _ _=>
   refine z4g rfl hF hO (by
    rw[hL];intro x hx;simp only[List.mem_cons,List.not_mem_nil,or_false]at hx;rcases hx with rfl|rfl
    ·exact hA.bare.1
    ·exact hB.bare.1)
  |if_ _ _ e x y τ k _ hF hO hL hE _ _ _ _ hx hy=>
   have nx:=ih x (by rw[hL];simp) _ _ hx;have ny:=ih y (by rw[hL];simp) _ _ hy;refine z4g rfl hF hO (by
    rw[hL];intro z hz;simp only[List.mem_cons,List.not_mem_nil,or_false]at hz;rcases hz with rfl|rfl|rfl
    ·exact hE.bare.1
    ·exact nx
    ·exact ny)
  |while_ _ _ e x τ k _ hF hO hL hE _ _ _ hx=>
   have nx:=ih x (by rw[hL];simp) _ _ hx;refine z4g rfl hF hO (by
    rw[hL];intro z hz;simp only[List.mem_cons,List.not_mem_nil,or_false]at hz;rcases hz with rfl|rfl
    ·exact hE.bare.1
    ·exact nx)
  |for_ _ _ a b x τ σ k _ hF hO hL hA _ _ hB _ _ _ hx=>
   have nx:=ih x (by rw[hL];simp) _ _ hx;refine z4g rfl hF hO (by
    rw[hL];intro z hz;simp only[List.mem_cons,List.not_mem_nil,or_false]at hz;rcases hz with rfl|rfl|rfl
    ·exact hA.bare.1
    ·exact hB.bare.1
    ·exact nx)
theorem v6g{b f:Nat}(t:zA):∀d,wI t=t→wI (rho b f t d)=rho b f t d:=by
 induction t using zA.ind with
 |h t ih=>
  intro d h;have h0:=h;rw[z0M]at h0;have hF:t.From=0:=(congrArg zA.From h0).symm;have hO:t.To=0:=(congrArg zA.To h0).symm;have hLL:t.L.map wI=t.L:=congrArg zA.L h0;have hx:∀x∈t.L,wI x=x:=fun x hx=>by
   obtain⟨i,hi⟩:=List.getElem?_of_mem hx;have:=congrArg (·[i]?) hLL;simp only[List.getElem?_map,hi,Option.map_some]at this;exact Option.some.inj this
  by_cases k:t.K=7
  ·unfold rho;rw[z6F,zq1 k];unfold z3c;split
   ·exact h
   ·exact z4g rfl hF hO hx
  ·unfold rho;rw[z6F,zq0 k];refine z4g rfl hF hO fun y hy=>?_;have hy:y∈z8I (z3c (b:Int) (f:Int)) t t.L 0 (d:Int):=hy;obtain⟨i,hi⟩:=List.getElem?_of_mem hy;have hlt:i<t.L.length:=by have:=(List.getElem?_eq_some_iff.1 hi).1;rwa [y2s]at this
   rw[z9O _ _ _ _ _ _ hlt]at hi;have:=Option.some.inj hi;rw[←this,Nat.zero_add];exact ih _ (List.getElem_mem hlt) (d+inN t i) (hx _ (List.getElem_mem hlt))
theorem v7H(c:Ref25Rule)(hT:c.Types.length≤9223372036854775807∧∀x∈c.Types,zA.Wf x)(hM:zA.Wf c.M)(hL:zA.Wf c.L)(hR:zA.Wf c.R)(hS:State.Wf c.S):
  ∃b,z7j c=some b∧(b=false→c.Types.length≤40∧(∀x∈c.Types,zH x≤400)∧zH c.M≤400∧zH c.L≤400∧zH c.R≤400∧v3O c.S):=by
 have tail:∀(h:c.Types.length≤40→∀x∈c.Types,zH x≤400),∃b,(if(List.length c.Types:Int)>40 then some true else jP c.M>>=fun q2=>if q2=true then some true else jP c.L>>=fun q3=>if q3=true then some true else jP c.R>>=fun q4=>if q4=true then some true else z4v c.S>>=fun q5=>some q5)=some b ∧
   (b=false→c.Types.length≤40∧(∀x∈c.Types,zH x≤400)∧zH c.M≤400∧zH c.L≤400∧zH c.R≤400∧v3O c.S):=by
  intro h;have no:∀{P:Prop},∃b,some true=some b∧(b=false→P):=⟨_,rfl,fun h=>Bool.noConfusion h⟩;by_cases c1:(List.length c.Types:Int)>40
  ·rw[zq1 c1];exact no
  rw[zq0 c1];obtain⟨b1,e1,h1⟩:=y2m c.M hM;obtain⟨b2,e2,h2⟩:=y2m c.L hL;obtain⟨b3,e3,h3⟩:=y2m c.R hR;obtain⟨b4,e4,h4⟩:=v9C c.S hS;rw[e1,zB];cases b1 with
  |true=>rw[zq1 rfl];exact no
  |false=>
   rw[zq0 (by decide),e2,zB];cases b2 with
   |true=>rw[zq1 rfl];exact no
   |false=>
    rw[zq0 (by decide),e3,zB];cases b3 with
    |true=>rw[zq1 rfl];exact no
    |false=>
     rw[zq0 (by decide),e4,zB];exact⟨b4,rfl,fun hb=>⟨by omega,h (by omega),h1 rfl,h2 rfl,h3 rfl,h4 hb⟩⟩
 have loop:∀(k i:Nat),i+k=c.Types.length→(∀x∈c.Types.take i,zH x≤400)→∃b,vJ i c=some b∧(b=false→c.Types.length≤40∧(∀x∈c.Types,zH x≤400)∧zH c.M≤400∧zH c.L≤400∧zH c.R≤400∧v3O c.S):=by
  intro k;induction k with
  |zero=>
   intro i hi ht;rw[z8H];unfold z0k;rw[zq0 (by omega)];rw[List.take_of_length_le (by omega)]at ht;exact tail (fun _=>ht)
  |succ k ih=>
   intro i hi ht;have hlt:i<c.Types.length:=by omega
   rw[z8H];unfold z0k;rw[zq1 (by omega)];by_cases c4:(i:Int)<40
   ·obtain⟨b,eb,hb⟩:=y2m c.Types[i] (hT.2 _ (List.getElem_mem hlt));rw[zq1 c4,wG hlt,zB,eb,zB,v0P hlt hT.1];cases b with
    |true=>rw[zq1 rfl];exact⟨_,rfl,fun h=>Bool.noConfusion h⟩
    |false=>
     rw[zq0 (by decide)];refine ih (i+1) (by omega) fun x hx=>?_;rw[List.take_succ_eq_append_getElem hlt,List.mem_append]at hx;rcases hx with hx|hx
     ·exact ht x hx
     ·rw[List.mem_singleton.1 hx];exact hb rfl
   ·rw[zq0 c4];exact tail (fun h=>by omega)
 unfold z7j;exact loop c.Types.length 0 (by omega) (by simp)
structure v8c(c:Ref28Rule):Prop where
 n:c.Types.length≤40
 t:∀x∈c.Types,zH x≤400
 m:zH c.M≤400
 l:zH c.L≤400
 r:zH c.R≤400
 ret:zH c.Ret≤400
 s:v3O c.S
theorem v7I(c:Ref28Rule)(w:Ref28Rule.Wf c):∃b,z7m c=some b∧(b=false→v8c c):=by
 unfold z7m;obtain⟨b,e,h⟩:=v7H ({c with Rule:=0}) w.Types_ w.M_ w.L_ w.R_ w.S_;obtain⟨b2,e2,h2⟩:=y2m c.Ret w.Ret_;rw[e,zB];cases b with
 |true=>rw[zq1 rfl];exact⟨_,rfl,fun h=>Bool.noConfusion h⟩
 |false=>
  rw[zq0 (by decide),e2,zB];cases b2 with
  |true=>rw[zq1 rfl];exact⟨_,rfl,fun h=>Bool.noConfusion h⟩
  |false=>
   rw[zq0 (by decide)];obtain⟨h1,h3,h4,h5,h6,h7⟩:=h rfl;exact⟨_,rfl,fun _=>⟨h1,h3,h4,h5,h6,h2 rfl,h7⟩⟩
theorem v8w(c:Ref28Rule)(sm:v8c c)(t:zA)(hw:zA.Wf t)(ht:zH t≤400):∃b,z7l c t=some b∧(b=true→∃Γ',TS c.M c.Ret c.Types t Γ'∧t.K≠20∧t.K≠21):=by
 have n:=sm.n;have sr:=sm.ret;have smm:=sm.m;obtain⟨g,eg,hg⟩:=(v9I c.M c.Ret (by omega) t hw).2 400 c.Types smm sm.t (by omega) (by omega);unfold z7l;rw[eg,zB];by_cases c0:g.E=0
 ·rw[zq1 c0];obtain⟨b,eb,hb⟩:=y8J t g.T_ (by omega);rw[eb,zB];cases b with
  |false=>rw[zq0 (by decide)];exact⟨_,rfl,fun h=>Bool.noConfusion h⟩
  |true=>
   rw[zq1 rfl];obtain⟨Γ',-,-,-,hT⟩:=hg c0;by_cases k:t.K=20
   ·rw[zq1 k];exact⟨_,rfl,fun h=>Bool.noConfusion h⟩
   ·rw[zq0 k];refine⟨_,rfl,fun h=>⟨Γ',hT (hb.1 rfl),k,fun e=>?_⟩⟩;rw[e]at h;exact absurd h (by decide)
 ·rw[zq0 c0];exact⟨_,rfl,fun h=>Bool.noConfusion h⟩
inductive y1N(l r:zA):Prop
 |invert (e x y:zA):l.K=23→l.L=[e,x,y]→r=⟨23,0,[],[⟨11,2,[],[e],0,0⟩,y,x],0,0⟩→y1N l r
 |yes (e x y:zA):l.K=23→l.L=[e,x,y]→e.K=6→e.N=1→r=x→y1N l r
 |no (e x y:zA):l.K=23→l.L=[e,x,y]→e.K=6→e.N=0→r=y→y1N l r
 |same (e x y:zA):l.K=23→l.L=[e,x,y]→Qt e→y=x→r=x→y1N l r
 |never (e x:zA):l.K=24→l.L=[e,x]→e.K=6→e.N=0→r=⟨29,0,[],[],0,0⟩→y1N l r
 |once (e x:zA):l.K=24→l.L=[e,x]→r=⟨23,0,[],[e,⟨29,0,[],[x,l],0,0⟩,⟨29,0,[],[],0,0⟩],0,0⟩→y1N l r
 |count (a b x:zA):l.K=25→l.L=[a,b,x]→r=lpT a b x→y1N l r
theorem z5V{t:zA}(h:wI t=t):∀x∈t.L,wI x=x:=by
 have h0:=h;rw[z0M]at h0;have hLL:t.L.map wI=t.L:=congrArg zA.L h0;intro x hx;obtain⟨i,hi⟩:=List.getElem?_of_mem hx;have:=congrArg (·[i]?) hLL;simp only[List.getElem?_map,hi,Option.map_some]at this;exact Option.some.inj this
theorem v9y{t:zA}{K:Int}{n:Nat}(h:z6n t K 3 n=true):t.K=K∧∃a b c,t.L=[a,b,c]:=by
 unfold z6n at h;simp only[Bool.and_eq_true,decide_eq_true_eq]at h;exact⟨h.1.1.1.1,w2M (by have:=h.1.2;omega)⟩
theorem w2i{t:zA}{K:Int}{n:Nat}(h:z6n t K 2 n=true):t.K=K∧∃a b,t.L=[a,b]:=by
 unfold z6n at h;simp only[Bool.and_eq_true,decide_eq_true_eq]at h;exact⟨h.1.1.1.1,w0H (by have:=h.1.2;omega)⟩
theorem y3B(e:zA)(n:Int)(h:zH e≤1000000000):∃b,z2Z e n=some b∧(b=true→wI e=e→e.K=6∧e.N=n):=by
 obtain⟨c,ec,hc⟩:=v6o e (zA.mk 6 n [] [] 0 0) h;unfold z2Z;rw[ec];refine⟨c,rfl,fun h he=>?_⟩;have:=hc.1 h;rw[he]at this;rw[this];exact⟨rfl,rfl⟩
theorem y0g{r w:zA}(h:zH r≤1000000000):∃b,wH r w=some b∧(b=true→wI r=r→wI w=w→r=w):=by
 obtain⟨c,ec,hc⟩:=v6o r w h;exact⟨c,ec,fun hb h1 h2=>by rw[←h1,←h2];exact hc.1 hb⟩
theorem w0z(rule:Int)(l r:zA)(hw:zA.Wf l)(hl:zH l≤400)(hr:zH r≤400):∃b,z4h rule l r=some b∧(b=true→wI l=l→wI r=r→y1N l r):=by
 have no:∃b,some false=some b∧(b=true→wI l=l→wI r=r→y1N l r):=⟨_,rfl,fun h=>Bool.noConfusion h⟩;have bw:∀{K N:Int} {L:List zA},(∀x∈L,wI x=x)→wI ⟨K,N,[],L,0,0⟩=⟨K,N,[],L,0,0⟩:=fun h=>z4g rfl rfl rfl h;have is3:=y8A l 23 3 2 (by omega) (by omega);have is2:=y8A l 24 2 1 (by omega) (by omega);have is5:=y8A l 25 3 1 (by omega) (by omega);simp only[show((3:Nat):Int)=3 from rfl,show((2:Nat):Int)=2 from rfl,show((1:Nat):Int)=1 from rfl]at is3 is2 is5;unfold z4h;rw[is3,zB]
 have if_:∀(F:FlowUse→Option Bool),(∀e x y,l.K=23→l.L=[e,x,y]→∃b,F (FlowUse.mk l r)=some b∧(b=true→wI l=l→wI r=r→y1N l r)) →
   ∃b,(if z6n l 23 3 (3-2)=true then F (FlowUse.mk l r)>>=fun q=>some q else some false)=some b∧(b=true→wI l=l→wI r=r→y1N l r):=fun F h=>by
  by_cases c:z6n l 23 3 (3-2)=true
  ·rw[zq1 c];obtain⟨k,e,x,y,hL⟩:=v9y c;obtain⟨b,eb,hb⟩:=h e x y k hL;rw[eb];exact⟨b,rfl,hb⟩
  ·rw[zq0 c];exact no
 have wh_:∀(F:FlowUse→Option Bool),(∀e x,l.K=24→l.L=[e,x]→∃b,F (FlowUse.mk l r)=some b∧(b=true→wI l=l→wI r=r→y1N l r)) →
   ∃b,(z6D l 24 2 1>>=fun q6=>if q6=true then F (FlowUse.mk l r)>>=fun q=>some q else some false)=some b∧(b=true→wI l=l→wI r=r→y1N l r):=fun F h=>by
  rw[is2,zB];by_cases c:z6n l 24 2 (2-1)=true
  ·rw[zq1 c];obtain⟨k,e,x,hL⟩:=w2i c;obtain⟨b,eb,hb⟩:=h e x k hL;rw[eb];exact⟨b,rfl,hb⟩
  ·rw[zq0 c];exact no
 have sub3:∀{e x y:zA},l.L=[e,x,y]→zH e≤400∧zH x≤400∧zH y≤400:=fun h=>by have:=z0l h;omega
 have sub2:∀{e x:zA},l.L=[e,x]→zH e≤400∧zH x≤400:=fun h=>by have:=z3S h;omega
 by_cases h34:rule=34
 ·rw[zq1 h34];refine if_ z1Q fun e x y k hL=>?_;unfold z1Q;simp only[hL];rw[zq1 (by omega),zq1 (by simp),zq1 (by omega),show idx [e,x,y] 2=some y from rfl,show idx [e,x,y] 1=some x from rfl,zB,zB];obtain⟨b,eb,hb⟩:=y0g (r:=r) (w:=zA.mk 23 0 [] [(zA.mk 11 2 [] (List.drop 0 (List.take (Int.toNat 1) [e,x,y])) 0 0),y,x] 0 0) (by omega);rw[eb];refine⟨b,rfl,fun h h1 h2=>.invert e x y k hL (hb h h2 ?_)⟩;have hp:=z5V h1;rw[hL]at hp;refine bw fun z hz=>?_
  simp only[List.mem_cons,List.not_mem_nil,or_false]at hz;rcases hz with rfl|rfl|rfl
  ·exact bw fun z hz=>by
    have:z=e:=by simpa using hz
    rw[this];exact hp e (by simp)
  ·exact hp _ (by simp)
  ·exact hp _ (by simp)
 rw[zq0 h34];by_cases h35:rule=35
 ·rw[zq1 h35];refine if_ z4X fun e x y k hL=>?_;unfold z4X;simp only[hL];rw[show idx [e,x,y] 0=some e from rfl,show idx [e,x,y] 1=some x from rfl,zB];obtain⟨b,eb,hb⟩:=y3B e 1 (by have:=sub3 hL;omega);obtain⟨b2,eb2,hb2⟩:=y0g (r:=r) (w:=x) (by omega);rw[eb,zB];cases b with
  |false=>rw[zq0 (by decide)];exact no
  |true=>
   rw[zq1 rfl,zB,eb2];refine⟨b2,rfl,fun h h1 h2=>?_⟩;have hp:=z5V h1;rw[hL]at hp;obtain⟨a1,a2⟩:=hb rfl (hp e (by simp));exact .yes e x y k hL a1 a2 (hb2 h h2 (hp x (by simp)))
 rw[zq0 h35];by_cases h36:rule=36
 ·rw[zq1 h36];refine if_ z6b fun e x y k hL=>?_;unfold z6b;simp only[hL];rw[show idx [e,x,y] 0=some e from rfl,show idx [e,x,y] 2=some y from rfl,zB];obtain⟨b,eb,hb⟩:=y3B e 0 (by have:=sub3 hL;omega);obtain⟨b2,eb2,hb2⟩:=y0g (r:=r) (w:=y) (by omega);rw[eb,zB];cases b with
  |false=>rw[zq0 (by decide)];exact no
  |true=>
   rw[zq1 rfl,zB,eb2];refine⟨b2,rfl,fun h h1 h2=>?_⟩;have hp:=z5V h1;rw[hL]at hp;obtain⟨a1,a2⟩:=hb rfl (hp e (by simp));exact .no e x y k hL a1 a2 (hb2 h h2 (hp y (by simp)))
 rw[zq0 h36];by_cases h37:rule=37
 ·rw[zq1 h37];refine if_ z3L fun e x y k hL=>?_;unfold z3L z3J;simp only[hL];rw[show idx [e,x,y] 0=some e from rfl,show idx [e,x,y] 1=some x from rfl,show idx [e,x,y] 2=some y from rfl,zB];obtain⟨-,-,-,hq⟩:=w0U (t:=e) (by have:=sub3 hL;omega);obtain⟨b2,eb2,hb2⟩:=y0g (r:=x) (w:=y) (by have:=sub3 hL;omega);obtain⟨b3,eb3,hb3⟩:=y0g (r:=r) (w:=x) (by omega);rw[hq,zB];by_cases cq:(nds e).all q1=true
  ·rw[zq1 cq,zB,zB,eb2,zB];cases b2 with
   |false=>rw[zq0 (by decide)];exact no
   |true=>
    rw[zq1 rfl,zB,eb3];refine⟨b3,rfl,fun h h1 h2=>?_⟩;have hp:=z5V h1;rw[hL]at hp;exact .same e x y k hL cq (hb2 rfl (hp x (by simp)) (hp y (by simp))).symm (hb3 h h2 (hp x (by simp)))
  ·rw[zq0 cq];exact no
 rw[zq0 h37];by_cases h38:rule=38
 ·rw[zq1 h38];refine wh_ z0C fun e x k hL=>?_;unfold z0C z1B;simp only[hL];rw[show idx [e,x] 0=some e from rfl,zB];obtain⟨b,eb,hb⟩:=y3B e 0 (by have:=sub2 hL;omega);obtain⟨b2,eb2,hb2⟩:=y0g (r:=r) (w:=zA.mk 29 0 [] [] 0 0) (by omega);rw[eb,zB];cases b with
  |false=>rw[zq0 (by decide)];exact no
  |true=>
   rw[zq1 rfl,zB,eb2];refine⟨b2,rfl,fun h h1 h2=>?_⟩;have hp:=z5V h1;rw[hL]at hp;obtain⟨a1,a2⟩:=hb rfl (hp e (by simp));exact .never e x k hL a1 a2 (hb2 h h2 (bw (by simp)))
 rw[zq0 h38];by_cases h39:rule=39
 ·rw[zq1 h39];refine wh_ z3K fun e x k hL=>?_;unfold z3K z1B;simp only[hL];rw[show idx [e,x] 0=some e from rfl,show idx [e,x] 1=some x from rfl,zB,zB,zB,zB];obtain⟨b2,eb2,hb2⟩:=y0g (r:=r) (w:=zA.mk 23 0 [] [e,zA.mk 29 0 [] [x,l] 0 0,zA.mk 29 0 [] [] 0 0] 0 0) (by omega);rw[eb2];refine⟨b2,rfl,fun h h1 h2=>.once e x k hL (hb2 h h2 ?_)⟩;have hp:=z5V h1;rw[hL]at hp;refine bw fun z hz=>?_;simp only[List.mem_cons,List.not_mem_nil,or_false]at hz;rcases hz with rfl|rfl|rfl
  ·exact hp _ (by simp)
  ·refine bw fun z hz=>?_;simp only[List.mem_cons,List.not_mem_nil,or_false]at hz;rcases hz with rfl|rfl
   ·exact hp _ (by simp)
   ·exact h1
  ·exact bw (by simp)
 rw[zq0 h39];by_cases h40:rule=40
 ·rw[zq1 h40,is5,zB];by_cases c:z6n l 25 3 (3-1)=true
  ·rw[zq1 c];obtain⟨k,a,b',x,hL⟩:=v9y c;unfold z4H;simp only;have hlf:w0J l=(lpT a b' x,true):=by
    unfold w0J;rw[zq1 c,hL];rfl
   rw[w1W l hw hl,zB,hlf,zq1 rfl];obtain⟨b2,eb2,hb2⟩:=y0g (r:=r) (w:=lpT a b' x) (by omega);rw[eb2];refine⟨b2,rfl,fun h h1 h2=>.count a b' x k hL (hb2 h h2 ?_)⟩;have hp:=z5V h1;rw[hL]at hp;have leaf:∀{K N:Int},wI (⟨K,N,[],[],0,0⟩:zA)=⟨K,N,[],[],0,0⟩:=bw (by simp);refine bw fun z hz=>?_;simp only[List.mem_cons,List.not_mem_nil,or_false]at hz;rcases hz with rfl|rfl|rfl
   ·exact bw fun z hz=>by rw[List.mem_singleton.1 hz];exact hp a (by simp)
   ·exact bw fun z hz=>by rw[List.mem_singleton.1 hz];exact v6g b' 0 (hp b' (by simp))
   ·refine bw fun z hz=>?_;simp only[List.mem_cons,List.not_mem_nil,or_false]at hz;rcases hz with rfl|rfl
    ·rfl
    ·refine bw fun z hz=>?_;simp only[List.mem_cons,List.not_mem_nil,or_false]at hz;rcases hz with rfl|rfl|rfl
     ·rfl
     ·exact v6g x 0 (hp x (by simp))
     ·rfl
  ·rw[zq0 c];exact no
 rw[zq0 h40];exact no
theorem bnd{c c' K k0:Int}(h0:0≤c)(hK:k0≤K)(h:c'≤(c+1)*k0):c'≤(c+1)*K:=
 Int.le_trans h (Int.mul_le_mul_of_nonneg_left hK (by omega))
theorem v9z{m:zA}(hm:ModOk m)(hms:zH m≤400)(hmw:zA.Wf m){ρ:zA}{Γ Γ1 Γ2:List zA}{l r:zA}{s:State}(hl:TS m ρ Γ l Γ1)(hr:TS m ρ Γ r Γ2)(hlw:zA.Wf l)(hls:zH l≤400)(hrs:zH r≤400)(hs:StOk m 1000000000 Γ s)(k0:s.Kind=0)(hf:s.Fuel≤3000)(hL:Γ.length≤40)(hT:s.Trace.length≤1000)(side:y1N l r):
  (∀o a c,wT m (.S l) s o a c→c≤s.Fuel→∃o' c',wT m (.S r) s o' a c'∧c'≤(c+1)*(2+zH l+zH r)) ∧
  (∀o a c,wT m (.S r) s o a c→c≤s.Fuel→∃o' c',wT m (.S l) s o' a c'∧c'≤(c+1)*(2+zH r+zH l)):=by
 have pl:=z0x l;have pr:=z0x r;have hms':zH m≤100000000:=by omega
 cases side with
 |invert e x y k hLL er=>
  subst er;refine⟨fun o a c h hc=>?_,fun o a c h hc=>?_⟩
  ·have p:=h.1;exact⟨_,_,v6X (n:=⟨11,2,[],[e],0,0⟩) k hLL rfl rfl rfl rfl rfl k0 h,bnd p (k0:=2) (by omega) (by omega)⟩
  ·have p:=h.1;exact⟨_,_,v7Q (n:=⟨11,2,[],[e],0,0⟩) k hLL rfl rfl rfl rfl rfl k0 h,bnd p (k0:=2) (by omega) (by omega)⟩
 |yes e x y k hLL ke ne er=>
  subst er;refine⟨fun o a c h hc=>?_,fun o a c h hc=>?_⟩
  ·have p:=h.1;obtain⟨o',h'⟩:=w0o k hLL ke (by omega) k0 h;exact⟨_,_,h',bnd p (k0:=2) (by omega) (by omega)⟩
  ·have p:=h.1;exact⟨_,_,w0X k hLL ke (by omega) k0 h,bnd p (k0:=2) (by omega) (by omega)⟩
 |no e x y k hLL ke ne er=>
  subst er;refine⟨fun o a c h hc=>?_,fun o a c h hc=>?_⟩
  ·have p:=h.1;obtain⟨o',h'⟩:=v8m k hLL ke ne k0 h;exact⟨_,_,h',bnd p (k0:=2) (by omega) (by omega)⟩
  ·have p:=h.1;exact⟨_,_,v9n k hLL ke ne k0 h,bnd p (k0:=2) (by omega) (by omega)⟩
 |same e x y k hLL hq exy er=>
  subst er;have h3:=z0l hLL;have hew:zA.Wf e:=hlw.L_.2 e (by rw[hLL];simp);obtain⟨τ,hTe⟩:∃τ,TE m Γ e τ:=by
   cases hl with
   |if_ _ _ e' x' y' τ k' _ _ _ hL' hTe' =>
    rw[hLL]at hL';injection hL' with e1 _;subst e1;exact⟨τ,hTe'⟩
   |_=>omega
  have hs':StOk m 1000000000 Γ (at_ s 1000):=hs.fuel (by omega) (by omega) (by have:=hs.ll;omega) (by omega);refine⟨fun o a c h hc=>?_,fun o a c h hc=>?_⟩
  ·have p:=h.1;obtain⟨o',c',h',hle⟩:=w0n hm hms' hmw k hLL exy hTe hq hew (by omega) hs' k0 h;exact⟨_,_,h',bnd p (k0:=2) (by omega) (by omega)⟩
  ·have p:=h.1;obtain⟨c',h',hle⟩:=w0W hm hms' hmw k hLL exy hTe hq hew (by omega) hs' k0 h;refine⟨_,_,h',bnd p (k0:=2+(zH e:Int)) (by omega) ?_⟩;have:(zH e:Int)*1≤(zH e:Int)*(c+1):=Int.mul_le_mul_of_nonneg_left (by omega) (by omega);rw[Int.mul_add,Int.mul_comm (c+1) (zH e:Int)];omega
 |never e x k hLL ke ne er=>
  subst er;refine⟨fun o a c h hc=>?_,fun o a c h hc=>?_⟩
  ·have p:=h.1;obtain⟨-,e2,e3⟩:=jZ h (y7w (m:=m) k hLL ke ne k0);exact⟨_,_,wK e2 (z7I (m:=m) rfl rfl k0),bnd p (k0:=2) (by omega) (by omega)⟩
  ·have p:=h.1;obtain⟨-,e2,e3⟩:=jZ h (z7I (m:=m) rfl rfl k0);exact⟨_,_,wK e2 (y7w (m:=m) k hLL ke ne k0),bnd p (k0:=2) (by omega) (by omega)⟩
 |once e x k hLL er=>
  subst er;have h2:=z3S hLL;obtain⟨τ,hTe,hTx,hTl⟩:∃τ,TE m Γ e τ∧TS m ρ Γ x Γ∧TS m ρ Γ l Γ:=by
   have hl':=hl;cases hl with
   |while_ _ _ e' x' τ k' _ _ _ hL' hTe' _ _ _ hTx' =>
    rw[hLL]at hL';injection hL' with e1 e2;injection e2 with e2;subst e1;subst e2;exact⟨τ,hTe',hTx',hl'⟩
   |_=>omega
  refine⟨fun o a c h hc=>?_,fun o a c h hc=>?_⟩
  ·have p:=h.1;obtain⟨c',h',hle⟩:=v6Y hm hms' hmw (r:=⟨23,0,[],[e,⟨29,0,[],[x,l],0,0⟩,⟨29,0,[],[],0,0⟩],0,0⟩) (g:=⟨29,0,[],[x,l],0,0⟩) (z:=⟨29,0,[],[],0,0⟩) k hLL rfl rfl rfl rfl rfl rfl hTe hTl hlw hls hs hc k0 h;exact⟨_,_,h',bnd p (k0:=3) (by omega) (by omega)⟩
  ·have p:=h.1;obtain⟨c',h',hle⟩:=v7R hm hms' hmw (r:=⟨23,0,[],[e,⟨29,0,[],[x,l],0,0⟩,⟨29,0,[],[],0,0⟩],0,0⟩) (g:=⟨29,0,[],[x,l],0,0⟩) (z:=⟨29,0,[],[],0,0⟩) k hLL rfl rfl rfl rfl rfl rfl hTe hTx hTl hlw hls hs hc k0 h;exact⟨_,_,h',bnd p (k0:=2) (by omega) (by omega)⟩
 |count ea eb x k hLL er=>
  subst er;have h3:=z0l hLL;obtain⟨τ,σ,hTa,hτ,hTb,hσ,hx,hTx⟩:∃τ σ,TE m Γ ea τ∧τ.K=1∧TE m Γ eb σ∧σ.K=1∧x.K=29∧TS m ρ (Γ++[y8c]) x (Γ++[y8c]):=by
   cases hl with
   |for_ _ _ a' b' x' τ σ k' _ _ _ hL' hTa' hτ' _ hTb' hσ' _ hx' hTx' =>
    rw[hLL]at hL';injection hL' with e1 e2;injection e2 with e2 e3;injection e3 with e3;subst e1;subst e2;subst e3;exact⟨τ,σ,hTa',hτ',hTb',hσ',hx',hTx'⟩
   |_=>omega
  have hn:=TS.nb (by omega) x _ _ hTx (by simp;omega);have big:10≤zH (lpT ea eb x):=by simp only[lpT,zH,vX];omega
  refine⟨fun o a c h hc=>?_,fun o a c h hc=>?_⟩
  ·have p:=h.1;obtain⟨c',h',hle⟩:=w1K hm hms' hmw k hLL hTa hτ hTb hσ hn hx (by omega) hlw hls hs hc k0 h;exact⟨_,_,h',bnd p (k0:=12) (by omega) (by omega)⟩
  ·have p:=h.1;obtain⟨c',h',hle⟩:=w2a hm hms' hmw k hLL hTa hτ hTb hσ hn hx (by omega) hlw hls hs hc k0 h;exact⟨_,_,h',bnd p (k0:=2) (by omega) (by omega)⟩
theorem v2N(x0:Ref28Rule)(w0:Ref28Rule.Wf x0):z4J x0=some true:=by
 unfold z4J;obtain⟨b,e,hb⟩:=v7I x0 w0;rw[e,zB,v2M];simp only[zB];cases b with
 |true=>rw[zq1 rfl]
 |false=>
  have sm:=hb rfl;rw[zq0 (by decide)];obtain⟨b1,e1,h1⟩:=w0z x0.Rule x0.L x0.R w0.L_ sm.l sm.r;rw[e1,zB];cases b1 with
  |false=>rw[zq0 (by decide)]
  |true=>
   rw[zq1 rfl];have fin:z7n x0=some true:=by
    unfold z7n;have smm:=sm.m;have sml:=sm.l;have smr:=sm.r;have smn:=sm.n;have ss:=sm.s;obtain⟨b2,e2,h2⟩:=w0Z x0.M (by omega) w0.M_;rw[e2,zB];cases b2 with
    |false=>rw[zq0 (by decide)]
    |true=>
     have hm:=h2 rfl;obtain⟨b3,e3,h3⟩:=w1b x0.M x0.S hm (by omega);rw[zq1 rfl,e3,zB];cases b3 with
     |false=>rw[zq0 (by decide)]
     |true=>
      obtain⟨b4,e4,h4⟩:=w2f x0.M x0.Types x0.S.Locals (by omega) (fun x hx=>by have:=sm.t x hx;omega) w0.S_.Locals_.1;rw[zq1 rfl,e4,zB];cases b4 with
      |false=>rw[zq0 (by decide)]
      |true=>
       obtain⟨b5,e5,h5⟩:=v8w x0 sm x0.L w0.L_ sm.l;rw[zq1 rfl,e5,zB];cases b5 with
       |false=>rw[zq0 (by decide)]
       |true=>
        obtain⟨b6,e6,h6⟩:=v8w x0 sm x0.R w0.R_ sm.r;rw[zq1 rfl,e6,zB];cases b6 with
        |false=>rw[zq0 (by decide)]
        |true=>
         rw[zq1 rfl];obtain⟨Γ1,hl,-,-⟩:=h5 rfl;obtain⟨Γ2,hr,-,-⟩:=h6 rfl;have hfit:=h3 rfl;have hs:=w3m hm (by omega) (fun x hx=>by have:=sm.t x hx;omega) w0.S_ ss hfit (h4.1 rfl);have k0:=hfit.k;have hf:=ss.f;have ht:=ss.t;have side:=h1 rfl (TS.bare _ _ _ hl) (TS.bare _ _ _ hr);obtain⟨d1,d2⟩:=v9z hm smm w0.M_ hl hr w0.L_ sml smr hs k0 hf smn (by omega) side;rw[y8X hm (by omega) w0.M_ hl hr w0.L_ w0.R_ sml smr hs k0 hf (by omega) (by omega) d1,zB,zq1 rfl,
          y8X hm (by omega) w0.M_ hr hl w0.R_ w0.L_ smr sml hs k0 hf (by omega) (by omega) d2,zB]
   rw[fin,zB,zq1 rfl]
end Go.Proofs.YtcpblelppecabaaGreat.M

