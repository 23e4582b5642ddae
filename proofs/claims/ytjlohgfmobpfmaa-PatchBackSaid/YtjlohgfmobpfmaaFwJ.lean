import Derived.Test.YtjlohgfmobpfmaaFwI
import Derived.Laws.Slices
import Derived.Great.BuildSlice
import Derived.Laws.BytesString
import Derived.Laws.MakeOwn
import Derived.Laws.Tables
namespace Nt
open Go
set_option linter.unusedVariables false
set_option linter.unusedSimpArgs false
section
variable {P:Program} {X:Ctx} {κ:Kap} {s:St} {a:Act} {w:World}
theorem Stays.drop(R:Rel X κ s a w){r g:Nat}{ob:Ob}(ho:s.ob r g=some ob)(puts:List (Nat×Sv)):
  Stays w (Mut X.M0 κ) κ s.env w (Mut X.M0 (upK κ (.ar r) none)) (upK κ (.ar r) none) (s.app ⟨puts,[(r,g,none)],none⟩).env:=by
 have hl:=ob_iff.1 (show s.env.ob r g=some ob from ho)
 refine {keeps:=⟨fun _ _ _ h _=>h,fun b o v _ hm hm'=>hm ?_⟩,hp:=fun id b h=>by rw[zI _ _ (by simp)];exact h,gen:=fun k=>?_,ob:=fun k g' ob' _ h=>?_,ex:=fun _ _ v h=>⟨v,h⟩,ic:=fun _ _ _ _ h=>h,hvle:=Nat.le_refl _,
         lent:=fun _=>⟨rfl,fun id b off v cs n xs hk _ _=>⟨by rw[zI _ _ (by simp)]at hk;exact hk,fun h=>h⟩⟩}
 ·rcases hm' with h|⟨k,lo,hk,hlo⟩
  ·exact .inl h
  ·by_cases e:k=.ar r
   ·subst e;simp at hk
   ·rw[zI _ _ e]at hk;exact .inr ⟨k,lo,hk,hlo⟩
 ·show(zC s.ar k).1≤(zC ((r,g,none)::s.ar) k).1;rw[zA];split
  ·rename_i e;subst e;change zC s.ar r=_ at hl;rw[hl];exact Nat.le_refl _
  ·exact Nat.le_refl _
 ·rw[ob_iff]at h;change zC ((r,g,none)::s.ar) k=(g',some ob')at h;rw[zA]at h;split at h
  ·injection h with _ h;cases h
  ·rename_i e;exact⟨ob',ob_iff.2 h,.inl ⟨rfl,zI _ _ (by intro h;injection h with h;exact e h.symm)⟩⟩
theorem Rel.drop (R:Rel X κ s a w) {r g:Nat} {ob:Ob} (ho:s.ob r g=some ob) {p:zQ} {a':Act} (hp:p.ars=[(r,g,none)]) (hh:p.h=none)
  (sl:(p.puts=[]∧a'=a)∨∃d v sv,d<s.n∧p.puts=[(d,sv)]∧a'=a.put (some d) v∧RelS w (Mut X.M0 (upK κ (.ar r) none)) (upK κ (.ar r) none) (s.app p).env v sv):
  Rel X (upK κ (.ar r) none) (s.app p) a' w:=by
 obtain⟨puts,ars,h⟩:=p;simp only at hp hh sl;subst hp;subst hh;have T:=Stays.drop R ho puts;have hne:∀k b lo,upK κ (.ar r) none k=some (b,lo)→k≠.ar r∧κ k=some (b,lo):=fun k b lo h=>by
  by_cases e:k=.ar r
  ·subst e;simp at h
  ·rw[zI _ _ e]at h;exact⟨e,h⟩
 refine R.step T (.refl _ _ _) (fun key b lo h=>R.kb _ _ _ (hne _ _ _ h).2) (fun k1 k2 b l1 l2 h1 h2=>R.ki _ _ _ _ _ (hne _ _ _ h1).2 (hne _ _ _ h2).2) (fun id r h=>by rw[zI _ _ (by simp)]at h;exact R.hn id r h) sl (fun k g' ob' h=>?_) ?_
 ·have h':=ob_iff.1 (show(s.app ⟨puts,[(r,g,none)],none⟩).env.ob k g'=some ob' from h);change zC ((r,g,none)::s.ar) k=(g',some ob')at h';rw[zA]at h';split at h'
  ·injection h' with _ h';cases h'
  ·rename_i e
   exact RelOb.stay T (R.obs k g' ob' (show s.env.ob k g'=some ob' from ob_iff.2 h')) (zI _ _ (by intro h;injection h with h;exact e h.symm)) (fun _ _ _=>rfl)
 ·exact RelH.stay T R.heap rfl (fun _ _=>zI _ _ (by simp)) (fun _ _ _ _=>rfl)
theorem Rel.newTok(R:Rel X κ s a w){d:Nat}(hd:d<s.n){n:Nat}{xs:List D}{v:Value}(hv:RelV w (Mut X.M0 κ) v (.sl xs))(hr:RightOK w κ (.ar d) n v xs):
  Rel X κ (s.app ⟨[(d,.right d (s.gen d+1) n xs)],[(d,s.gen d+1,some (.tok n xs.length))],none⟩) (a.put (some d) v) w:=by
 have T:Stays w (Mut X.M0 κ) κ s.env w (Mut X.M0 κ) κ (s.app ⟨[(d,.right d (s.gen d+1) n xs)],[(d,s.gen d+1,some (.tok n xs.length))],none⟩).env:=
  {keeps:=.refl _ _,hp:=fun _ _ h=>h
   gen:=fun k=>by
    show(zC s.ar k).1≤(zC ((d,s.gen d+1,some (.tok n xs.length))::s.ar) k).1;rw[zA];split
    ·rename_i h;subst h;show s.gen d≤s.gen d+1;omega
    ·exact Nat.le_refl _
   ob:=fun k g ob' hg h=>by
    rw[ob_iff]at h;change zC ((d,s.gen d+1,some (.tok n xs.length))::s.ar) k=(g,some ob')at h;rw[zA]at h;split at h
    ·rename_i e1;subst e1;injection h with h1 h2;change g≤s.gen d at hg;omega
    ·exact⟨ob',ob_iff.2 h,.inl ⟨rfl,rfl⟩⟩
   ex:=fun _ _ v h=>⟨v,h⟩,ic:=fun _ _ _ _ h=>h,hvle:=Nat.le_refl _,lent:=fun _=>⟨rfl,fun _ _ _ _ _ _ _ h _ _=>⟨h,fun h=>h⟩⟩}
 refine R.step T (.refl _ _ _) R.kb R.ki R.hn (.inr ⟨d,v,_,hd,rfl,rfl,.right _ _ _ _ _ hv ?_ ?_⟩) (fun k g ob' h=>?_) (RelH.stay T R.heap rfl (fun _ _=>rfl) (fun _ _ _ _=>rfl))
 ·show s.gen d+1≤(zC ((d,s.gen d+1,some (.tok n xs.length))::s.ar) d).1;rw[zA,zq1 rfl];exact Nat.le_refl _
 ·intro n' l h;rw[ob_iff]at h;change zC ((d,s.gen d+1,some (.tok n xs.length))::s.ar) d=_ at h;rw[zA,zq1 rfl]at h;injection h with _ h;injection h with h;injection h with h1 h2;subst h1;subst h2;exact⟨rfl,Nat.le_refl _,fun _=>hr⟩
 ·have h':=ob_iff.1 (show(s.app ⟨[(d,.right d (s.gen d+1) n xs)],[(d,s.gen d+1,some (.tok n xs.length))],none⟩).env.ob k g=some ob' from h);change zC ((d,s.gen d+1,some (.tok n xs.length))::s.ar) k=(g,some ob')at h';rw[zA]at h';split at h'
  ·injection h' with _ h';injection h' with h';subst h';trivial
  ·exact RelOb.stay T (R.obs k g ob' (show s.env.ob k g=some ob' from ob_iff.2 h')) rfl (fun _ _ _=>rfl)
def z2C(u:Option Value)(dflt n:Nat):Prop:=(u=none∧n=dflt)∨∃kd i,u=some (.int kd i)∧0≤i∧i.toNat=n
theorem vS {M:Nat→Nat→Prop} {E:Env} {v:Option Sv} {u:Option Value} {dflt:Nat} {k:Nat→Prop} (h:kBound v dflt k)
  (hv:∀x,v=some x→∃y,u=some y∧RelS w M κ E y x) (hn:v=none→u=none):∃n,z2C u dflt n∧k n:=by
 cases v with
 |none=>exact⟨dflt,.inl ⟨hn rfl,rfl⟩,h⟩
 |some x=>
  obtain⟨y,rfl,hy⟩:=hv x rfl;obtain⟨z,hz,h1⟩:=yA h hy;obtain⟨kd,i,rfl,h0,h2⟩:=wK h1;exact⟨_,.inr ⟨kd,i,by rw[hz.int_inv],h0,rfl⟩,h2⟩
theorem z1g{b:Bool}{len cap l h:Nat}{ulo uhi:Option Value}(hh:z2C uhi len h)(h1:h≤cap)(hl:z2C ulo 0 l)(h2:l≤h):
  (Instr.sliceBounds b len cap ulo uhi none).run P w=.ok (l,h,cap) w:=by
 rcases hh with⟨rfl,rfl⟩|⟨kd,i,rfl,h0,rfl⟩<;>rcases hl with⟨rfl,rfl⟩|⟨kd',j,rfl,h0',rfl⟩
 ·simp[Instr.sliceBounds]
 ·simp[Instr.sliceBounds,run_sliceBound w kd' j h _ h0' (by omega)]
 ·simp[Instr.sliceBounds,run_sliceBound w kd i cap _ h0 (by omega)]
 ·simp[Instr.sliceBounds,run_sliceBound w kd i cap _ h0 (by omega),run_sliceBound w kd' j i.toNat _ h0' (by omega)]
theorem z4l{b:Bool}{len cap l h m:Nat}{ulo:Option Value}{kh km:IntKind}{ih im:Int}(h0:0≤ih)(h0m:0≤im)(hm:im.toNat=m)(hh:ih.toNat=h)(h1:h≤m)(h3:m≤cap)(hl:z2C ulo 0 l)(h2:l≤h):
  (Instr.sliceBounds b len cap ulo (some (.int kh ih)) (some (.int km im))).run P w=.ok (l,h,m) w:=by
 subst hm;subst hh;rcases hl with⟨rfl,rfl⟩|⟨kd',j,rfl,h0',rfl⟩
 ·simp[Instr.sliceBounds,run_sliceBound w km im cap _ h0m (by omega),run_sliceBound w kh ih im.toNat _ h0 (by omega)]
 ·simp[Instr.sliceBounds,run_sliceBound w km im cap _ h0m (by omega),run_sliceBound w kh ih im.toNat _ h0 (by omega),run_sliceBound w kd' j ih.toNat _ h0' (by omega)]
theorem z3H{n:Nat}:∀{xs:List D},yB n xs→∀l,yC (xs.drop l)=(yC xs).drop (l*n)
 |[],_,l=>by simp[yC]
 |x::xs,h,0=>by simp
 |x::xs,h,l+1=>by
  have h1:=h x (by simp);rw[List.drop_succ_cons,z3H (fun y hy=>h y (List.mem_cons_of_mem _ hy)),yC,Nat.succ_mul,Nat.add_comm,←h1,List.drop_append];simp
theorem z3I{n:Nat}:∀{xs:List D},yB n xs→∀l,yC (xs.take l)=(yC xs).take (l*n)
 |[],_,l=>by simp[yC]
 |x::xs,h,0=>by simp[yC]
 |x::xs,h,l+1=>by
  have h1:=h x (by simp);rw[List.take_succ_cons,yC,z3I (fun y hy=>h y (List.mem_cons_of_mem _ hy)),yC,Nat.succ_mul,Nat.add_comm,←h1,List.take_append];simp;exact(List.take_of_length_le (by omega)).symm
theorem RelC.drop{M:Nat→Nat→Prop}{b o:Nat}{cs:List D}(h:RelC w M b o cs)(l:Nat):RelC w M b (o+l) (cs.drop l):=
 RelC.mk _ fun i c hi=>by
  rw[List.getElem?_drop]at hi;have:=h.get _ c hi
  rwa [←Nat.add_assoc]at this
theorem RelC.take{M:Nat→Nat→Prop}{b o:Nat}{cs:List D}(h:RelC w M b o cs)(l:Nat):RelC w M b o (cs.take l):=
 RelC.mk _ fun i c hi=>by
  rw[List.getElem?_take]at hi;split at hi
  ·exact h.get _ c hi
  ·cases hi
theorem RelC.slice{M:Nat→Nat→Prop}{b o n:Nat}{xs:List D}(h:RelC w M b o (yC xs))(hs:yB n xs){l m cap:Nat}(hl:l≤m)(hm:m≤xs.length)(hc:m-l≤cap)(cond_:Prop)[Decidable cond_](hcond:cond_→m=l):
  RelV w M (.slice (if cond_ then some ⟨b,o,none⟩else some ⟨b,o+l*n,none⟩) (m-l) cap) (.sl ((xs.take m).drop l)):=by
 have hlen:((xs.take m).drop l).length=m-l:=by simp;omega
 by_cases e:cond_
 ·rw[zq1 e];have:=hcond e;have he:(xs.take m).drop l=[]:=List.length_eq_zero_iff.1 (by omega);have:=RelV.sl (w:=w) (M:=M) b o cap ((xs.take m).drop l) (by rw[he];exact .nil _ _) (by omega)
  rwa [hlen]at this
 ·rw[zq0 e];have hsz:yB n (xs.take m):=fun x hx=>hs x (List.mem_of_mem_take hx);have:=RelV.sl (w:=w) (M:=M) b (o+l*n) cap ((xs.take m).drop l) (by rw[z3H hsz,z3I hs];exact(h.take _).drop _) (by omega)
  rwa [hlen]at this
theorem vK {t e:TypeId} {n:Nat} {a0:Option Addr} {len cap l h m:Nat} {ulo uhi umx:Option Value} (ht:P.underlying t=some (.slice e)) (hn:yO P e=some n)
  (hb:(Instr.sliceBounds true len cap ulo uhi umx).run P w=.ok (l,h,m) w):
  (Instr.sliceAt t (.slice a0 len cap) ulo uhi umx).run P w=.ok (.slice (if m=l then a0 else a0.map (·.add (l*n))) (h-l) (m-l)) w:=by
 simp[Instr.sliceAt,Instr.slice,Sem.run_bind,run_underlying ht,hb,vC hn]
theorem z6t (R:Rel X κ s a w) {t:TypeId} {dst:Option Nat} {u:Value} {v:Sv} {ulo uhi umx:Option Value} {lo hi mx:Option Sv} {k:zQ→Prop}
  (hk:z0A P t s dst v lo hi mx k) (hv:RelS w (Mut X.M0 κ) κ s.env u v)
  (hlo:∀x,lo=some x→∃y,ulo=some y∧RelS w (Mut X.M0 κ) κ s.env y x) (nlo:lo=none→ulo=none)
  (hhi:∀x,hi=some x→∃y,uhi=some y∧RelS w (Mut X.M0 κ) κ s.env y x) (nhi:hi=none→uhi=none)
  (hmx:∀x,mx=some x→∃y,umx=some y∧RelS w (Mut X.M0 κ) κ s.env y x) (nmx:mx=none→umx=none):
  ∃u' p κ',(Instr.sliceAt t u ulo uhi umx).run P w=.ok u' w∧k p∧Rel X κ' (s.app p) (a.put dst u') w:=by
 unfold z0A at hk;split at hk
 ·rename_i ht
  cases mx with
  |some _=>exact hk.elim
  |none=>
   obtain rfl:=nmx rfl;obtain⟨x,hx,k1⟩:=yA hk hv;obtain⟨str,rfl,k2⟩:=uK k1;obtain rfl:=hx.str_inv;have hsz:(ByteArray.mk ⟨str⟩).size=str.length:=rfl;obtain⟨h,hb1,h1,k3⟩:=vS k2 hhi nhi;obtain⟨l,hb2,h2,k4⟩:=vS k3 hlo nlo;have k5:=yF k4;obtain⟨p,hp,hR⟩:=jQ R k5 (.d _ _ (.str _));refine⟨_,p,κ,?_,hp,hR⟩;have fin:(ByteArray.mk ⟨str⟩).extract l h=ByteArray.mk ⟨(str.take h).drop l⟩:=by
    apply ByteArray.ext;apply Array.ext';simp[List.extract_eq_take_drop,List.drop_take]
   have:=z1g (P:=P) (w:=w) (b:=false) (cap:=str.length) hb1 h1 hb2 h2;rw[run_sliceAt_string _ _ _ _ _ _ ht];simp[Instr.slice,Sem.run_bind,run_underlying ht,hsz,this,fin]
 ·rename_i e ht
  obtain⟨n,hn,k1⟩:=zD hk;obtain⟨x,hx,k2⟩:=yA k1 hv;obtain⟨xs,rfl,hs,k3⟩:=z1u k2;cases mx with
  |none=>
   obtain rfl:=nmx rfl;obtain⟨h,hb1,h1,k4⟩:=vS k3 hhi nhi;obtain⟨l,hb2,h2,k5⟩:=vS k4 hlo nlo;rcases hx.sl_inv with⟨rfl|⟨a0,rfl⟩,rfl⟩|⟨b,o,cap,rfl,hc,hl⟩
   rotate_left
   ·have hr:=vK (n:=n) (a0:=some a0) ht hn (z1g (P:=P) (w:=w) (b:=true) (len:=0) (cap:=0) hb1 h1 hb2 h2);have e1:h=0:=by simpa using h1
    have e2:l=0:=by omega
    subst e1;subst e2;have k6:=yF k5;obtain⟨p,hp,hR⟩:=jQ R k6 (.d _ _ (by simpa using RelV.emp a0));exact⟨_,p,κ,by simpa using hr,hp,hR⟩
   rotate_left
   ·have hr:=vK (n:=n) (a0:=none) ht hn (z1g (P:=P) (w:=w) (b:=true) (len:=0) (cap:=0) hb1 h1 hb2 h2);have e1:h=0:=by simpa using h1
    have e2:l=0:=by omega
    subst e1;subst e2;have k6:=yF k5;obtain⟨p,hp,hR⟩:=jQ R k6 (.d _ _ (by simpa using RelV.nil));exact⟨_,p,κ,by simpa using hr,hp,hR⟩
   ·have hr:=vK (n:=n) (a0:=some ⟨b,o,none⟩) ht hn (z1g (P:=P) (w:=w) (b:=true) (len:=xs.length) (cap:=cap) hb1 (by omega) hb2 h2);have hrel:=hc.slice hs (l:=l) (m:=h) (cap:=cap-l) h2 h1 (by omega) (cap=l) (by omega);have k6:=yF k5;obtain⟨p,hp,hR⟩:=jQ R k6 (.d _ _ hrel);refine⟨_,p,κ,?_,hp,hR⟩;rw[hr];congr 2;split<;>simp[z0l]
  |some mv=>
   obtain⟨um,rfl,hum⟩:=hmx mv rfl;cases hi with
   |none=>exact k3.elim
   |some hv' =>
   replace k3:kBound (some mv) 0 (fun m=>m≤xs.length∧kBound (some hv') xs.length fun h=>h=m∧kBound lo 0 fun l=>l≤h ∧
    nam ((xs.take h).drop l) fun ys=>newAr s dst (.tok n ys.length) (fun d g=>.right d g n ys) k):=k3
   obtain⟨uh,rfl,huh⟩:=hhi hv' rfl;obtain⟨m,hbm,hm,k4⟩:=vS (u:=some um) k3 hmx (by simp);obtain⟨h,hb1,h1,k5⟩:=vS (u:=some uh) k4 hhi (by simp);obtain⟨l,hb2,h2,k60⟩:=vS k5 hlo nlo;have k6:=yF k60;subst h1;rcases hbm with⟨hbm,-⟩|⟨km,im,hbm,hm0,hmt⟩
   ·cases hbm
   rcases hb1 with⟨hb1,-⟩|⟨kh,ih,hb1,hh0,hht⟩
   ·cases hb1
   injection hbm with hbm;subst hbm;injection hb1 with hb1;subst hb1;cases dst with
   |none=>exact k6.elim
   |some d=>
   obtain⟨hd,k7⟩:=zG k6;have hsz:yB n ((xs.take h).drop l):=fun x hx=>hs x (List.mem_of_mem_take (List.mem_of_mem_drop hx));have hlen:((xs.take h).drop l).length=h-l:=by simp;omega
   rcases hx.sl_inv with⟨rfl|⟨a0,rfl⟩,rfl⟩|⟨b,o,cap,rfl,hc,hl⟩
   rotate_left
   ·have hr:=vK (n:=n) (a0:=some a0) ht hn (z4l (P:=P) (w:=w) (b:=true) (kh:=kh) (km:=km) (len:=0) (cap:=0) hh0 hm0 hmt hht (Nat.le_refl _) (by simpa using hm) hb2 h2);have e1:h=0:=by simpa using hm
    have e2:l=0:=by omega
    subst e1;subst e2;refine⟨_,_,κ,by simpa using hr,k7,?_⟩;simpa using R.newTok (z3b hd) (n:=n) (xs:=[]) (.emp a0) ⟨fun x hx=>by simp at hx,.inr (.inl ⟨a0,rfl,rfl⟩)⟩
   rotate_left
   ·have hr:=vK (n:=n) (a0:=none) ht hn (z4l (P:=P) (w:=w) (b:=true) (kh:=kh) (km:=km) (len:=0) (cap:=0) hh0 hm0 hmt hht (Nat.le_refl _) (by simpa using hm) hb2 h2);have e1:h=0:=by simpa using hm
    have e2:l=0:=by omega
    subst e1;subst e2;refine⟨_,_,κ,by simpa using hr,k7,?_⟩;simpa using R.newTok (z3b hd) (n:=n) (xs:=[]) .nil ⟨fun x hx=>by simp at hx,.inl rfl⟩
   ·have hr:=vK (n:=n) (a0:=some ⟨b,o,none⟩) ht hn (z4l (P:=P) (w:=w) (b:=true) (kh:=kh) (km:=km) (len:=xs.length) (cap:=cap) hh0 hm0 hmt hht (Nat.le_refl _) (by omega) hb2 h2);have hrel:=hc.slice hs (l:=l) (m:=h) (cap:=h-l) h2 hm (Nat.le_refl _) (h=l) (fun e=>e);refine⟨_,_,κ,?_,k7,R.newTok (z3b hd) hrel ⟨hsz,.inr (.inr ?_)⟩⟩
    ·rw[hr];congr 2;split<;>simp[z0l]
    ·by_cases e:h=l
     ·rw[zq1 e];exact⟨b,o,h-l,by rw[hlen],.inl hlen.symm⟩
     ·rw[zq0 e];exact⟨b,o+l*n,h-l,by rw[hlen],.inl hlen.symm⟩
 ·rename_i m e ht
  obtain⟨n,hn,k1⟩:=zD hk;split at k1
  ·rename_i r g off
   obtain⟨ob,ho,k2⟩:=zD k1;cases ob with
   |row n' xs=>
    obtain⟨hnn,k3⟩:=zG k2;obtain⟨hoff,hm,k4⟩:=zG k3;obtain rfl:=vX hnn;obtain rfl:=vX hoff;subst hm;obtain⟨l,hb,h1,k50⟩:=vS k4 hlo nlo;have k5:=yF k50;obtain rfl:=nmx rfl;obtain rfl:=nhi rfl;cases hv with|ref _ _ _ _ hg hv=>
    obtain⟨b,hb1,rfl⟩:=hv _ ho rfl;obtain⟨b',hb2,hbox,hsz⟩:=R.obs r g _ ho;rw[hb1]at hb2;injection hb2 with hb2;injection hb2 with hb2;subst hb2;have hbd:=z1g (P:=P) (w:=w) (b:=false) (len:=xs.length) (cap:=xs.length) (uhi:=none) (.inl ⟨rfl,rfl⟩) (Nat.le_refl _) hb h1;have hr:(Instr.sliceAt t (.pointer (some ⟨b,0,none⟩)) ulo none none).run P w=.ok (.slice (if xs.length=l then some ⟨b,0,none⟩else some ⟨b,0+l*n,none⟩) (xs.length-l) (xs.length-l)) w:=by
     simp[Instr.sliceAt,Sem.run_bind,run_underlying ht,Instr.sureAddr,hbd,vC hn];split<;>simp[z0l]
    have hnm:∀o,¬Mut X.M0 (upK κ (.ar r) none) b o:=fun o hm=>by
     rcases hm with h0|⟨k',lo',hk',-⟩
     ·exact R.notM0 (R.kb _ _ _ hb1).2 o h0
     ·by_cases e:k'=.ar r
      ·subst e;simp at hk'
      ·rw[zI _ _ e]at hk';exact e (R.ki _ _ _ _ _ hk' hb1)
    have hcc:RelC w (Mut X.M0 (upK κ (.ar r) none)) b 0 (yC xs):=RelC.mk 0 fun i c hi=>by
     obtain⟨v,q1,-,q2,q3,-⟩:=hbox i c hi;rw[Nat.zero_add];exact⟨v,q1,hnm _,q2,q3.keep (Stays.drop R ho []).keeps⟩
    have hrel:=hcc.slice hsz (l:=l) (m:=xs.length) (cap:=xs.length-l) h1 (Nat.le_refl _) (Nat.le_refl _) (xs.length=l) (fun e=>e);rw[List.take_length]at hrel;cases dst with
    |none=>exact⟨_,_,_,hr,k5,R.drop ho rfl rfl (.inl ⟨rfl,rfl⟩)⟩
    |some d=>
     obtain⟨hd,k6⟩:=zG k5;exact⟨_,_,_,hr,k6,R.drop ho rfl rfl (.inr ⟨d,_,_,z3b hd,rfl,rfl,.d _ _ hrel⟩)⟩
   |_=>exact k2.elim
  ·exact k1.elim
 ·exact hk.elim
end
end Nt

