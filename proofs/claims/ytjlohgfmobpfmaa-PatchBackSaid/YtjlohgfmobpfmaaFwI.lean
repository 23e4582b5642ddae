import Derived.Test.YtjlohgfmobpfmaaFwG
namespace Nt
open Go
set_option linter.unusedVariables false
set_option linter.unusedSimpArgs false
section
variable {P:Program} {X:Ctx} {κ:Kap} {s:St} {a:Act} {w:World}
theorem z0t{t f:Nat}{fd:Field}(h:z1U P t f=some fd):∃fs,P.underlying t=some (.struct fs)∧fs[f]?=some fd:=by
 unfold z1U at h;split at h
 ·exact⟨_,‹_›,h⟩
 ·cases h
theorem uG{t e:Nat}(h:z1T P t=some e):P.underlying t=some (.slice e):=by
 unfold z1T at h;split at h
 ·injection h with h;subst h;assumption
 ·cases h
theorem z0l(b o n:Nat):(⟨b,o,none⟩:Addr).add n=⟨b,o+n,none⟩:=Addr.add_mid b o n
theorem uJ{t f:Nat}{fd:Field}{n b o:Nat}(h:z1U P t f=some fd)(hn:yO P fd.type=some n)(h0:n≠0):
  (Instr.fieldAt t (.pointer (some ⟨b,o,none⟩)) f).run P w=.ok (.pointer (some ⟨b,o+fd.offset,none⟩)) w:=by
 obtain⟨fs,h1,h2⟩:=z0t h;simp[Instr.fieldAt,Sem.run_bind,run_underlying h1,h2,Instr.sureAddr,fieldPlace,vC hn,h0,z0l]
theorem z3a{r g:Nat}(h:s.live r g=true):∃ob,s.ob r g=some ob∧ob.isTok=false:=by
 unfold St.live at h;split at h
 ·rename_i ob ho;exact⟨ob,ho,by simpa using h⟩
 ·cases h
theorem z2U{M:Nat→Nat→Prop}{t f:Nat}{u:Value}{v:Sv}{k:Sv→Prop}(hk:kFieldAddr P t s v f k)(hv:RelS w M κ s.env u v):
  ∃u' y,(Instr.fieldAt t u f).run P w=.ok u' w∧RelS w M κ s.env u' y∧k y:=by
 obtain⟨fd,hf,k1⟩:=zD hk;obtain⟨n,hn,k2⟩:=zD k1;rcases zT k2 with⟨-,k3⟩|⟨h0,k3⟩
 ·exact k3.elim
 have h0:n≠0:=fun e=>by subst e;simp at h0
 clear hk k1 k2;cases v with
 |ref r g off=>
  obtain⟨hl,k4⟩:=zG k3;obtain⟨ob,h1,h2⟩:=z3a hl;cases hv with|ref _ _ _ _ hg hv=>
  obtain⟨b,hb,rfl⟩:=hv ob h1 h2;exact⟨_,_,uJ hf hn h0,.ref _ _ _ _ hg (fun _ _ _=>⟨b,hb,rfl⟩),k4⟩
 |rref r g m i off=>
  obtain⟨hl,k4⟩:=zG k3;obtain⟨ob,h1,h2⟩:=z3a hl;cases hv with|rref _ _ _ _ _ _ hg hv=>
  obtain⟨b,hb,rfl⟩:=hv ob h1 h2;exact⟨_,_,uJ hf hn h0,.rref _ _ _ _ _ _ hg (fun _ _ _=>⟨b,hb,by rw[Nat.add_assoc]⟩),k4⟩
 |iel x off=>
  cases hv with|iel b o _ _ hv=>
  exact⟨_,_,uJ hf hn h0,by rw[Nat.add_assoc];exact .iel b o x _ hv,k3⟩
 |hp id off=>
  cases hv with|hp b _ _ hv=>
  exact⟨_,_,uJ hf hn h0,.hp b id _ hv,k3⟩
 |_=>exact k3.elim
theorem z4w{t:TypeId}{n i:Nat}{xs:List Value}{v:Value}(hs:yO P t=some n)(ha:uD P t=false)(h:xs[i]?=some v):(part t (⟨xs⟩:Array Value) i).run P w=.ok v w:=by
 obtain⟨j,d,h1,h2,h3⟩:=zY hs;unfold part;rw[Sem.run_bind,z0d h3,ha];simp[h]
theorem z7Q{t:TypeId}{n i:Nat}{xs:List Value}(hs:yO P t=some n)(ha:uD P t=true):(part t (⟨xs⟩:Array Value) i).run P w=.ok (.agg ⟨(xs.drop i).take n⟩) w:=by
 obtain⟨j,d,h1,h2,h3⟩:=zY hs;unfold part;rw[Sem.run_bind,z0d h3,ha];simp[vC hs]
theorem z6r{M:Nat→Nat→Prop}{E:Env}{t f:Nat}{u:Value}{v:Sv}{k:Sv→Prop}(hk:kField P t v f k)(hv:RelS w M κ E u v):
  ∃u' y,(Instr.field t u f).run P w=.ok u' w∧RelS w M κ E u' y∧k y:=by
 obtain⟨fd,hf,k1⟩:=zD hk;obtain⟨fs,h1,h2⟩:=z0t hf;obtain⟨x,hx,k2⟩:=yA k1 hv;cases x with
 |agg cs=>
  obtain⟨vs,rfl,hvs⟩:=hx.agg_inv;obtain⟨n,hn,k3⟩:=zD k2;have hr:(Instr.field t (.agg ⟨vs⟩) f).run P w=(part fd.type (⟨vs⟩:Array Value) fd.offset).run P w:=by
   simp[Instr.field,Sem.run_bind,run_underlying h1,h2,asAgg]
  rcases zT k3 with⟨ha,k4⟩|⟨ha,k4⟩
  ·obtain⟨cs',e,hl,k5⟩:=z3Q k4;injection e with e;subst e;exact⟨_,_,by rw[hr];exact z7Q hn ha,.d _ _ (.agg _ _ ((hvs.drop _).take _)),k5⟩
  ·obtain⟨c,hc,k5⟩:=zD k4;obtain⟨v,g1,-,g2⟩:=hvs.get _ c hc;exact⟨v,_,by rw[hr];exact z4w hn ha g1,.d _ _ g2,k5⟩
 |_=>exact k2.elim
theorem z7J{e:TypeId}{xs:List D}{i:Int}{k:D→Prop}(h:kIdx P e xs i k):0≤i∧∃x,xs[i.toNat]?=some x∧k x:=by
 obtain⟨h0,h⟩:=h;obtain⟨sh,-,h1⟩:=zD h;obtain⟨y,h2⟩:=z4m h1;exact⟨h0,y,h2⟩
theorem gR{t e:TypeId}{n b o len cap:Nat}{kd:IntKind}{i:Int}(ht:P.underlying t=some (.slice e))(hn:yO P e=some n)(h0:0≤i)(h1:i<len):
  (Instr.indexAt t (.slice (some ⟨b,o,none⟩) len cap) (.int kd i)).run P w=.ok (.pointer (some ⟨b,o+i.toNat*n,none⟩)) w:=by
 simp[Instr.indexAt,Sem.run_bind,asIntOf,run_underlying ht,h0,h1,vC hn,z0l]
theorem z2R{t e:TypeId}{n b o m:Nat}{kd:IntKind}{i:Int}(ht:P.underlying t=some (.array m e))(hn:yO P e=some n)(h0:0≤i)(h1:i<m):
  (Instr.indexAt t (.pointer (some ⟨b,o,none⟩)) (.int kd i)).run P w=.ok (.pointer (some ⟨b,o+i.toNat*n,none⟩)) w:=by
 simp[Instr.indexAt,Sem.run_bind,asIntOf,run_underlying ht,h0,h1,vC hn,z0l,Instr.sureAddr]
theorem z1t {M:Nat→Nat→Prop} {E:Env} {t:TypeId} {kd:IntKind} {i:Int} {u:Value} {v:Sv} {k:Sv→Prop}
  (hk:kOpt (z1T P t) fun e=>kOpt (yO P e) fun n=>kD v fun x=>kSl x fun xs=>yB n xs∧kIdx P e xs i fun y=>k (.iel y 0)) (hv:RelS w M κ E u v):
  ∃u' y,(Instr.indexAt t u (.int kd i)).run P w=.ok u' w∧RelS w M κ E u' y∧k y:=by
 obtain⟨e,he,k1⟩:=zD hk;obtain⟨n,hn,k2⟩:=zD k1;obtain⟨x,hx,k3⟩:=yA k2 hv;obtain⟨xs,rfl,hsz,k4⟩:=z1u k3;obtain⟨h0,y,hy,k5⟩:=z7J k4;have hi:=(List.getElem?_eq_some_iff.1 hy).1;rcases hx.sl_inv with⟨-,rfl⟩|⟨b,o,cap,rfl,hc,hl⟩
 ·simp at hy
 ·refine⟨_,_,gR (uG he) hn h0 (by omega),?_,k5⟩;have:=RelS.iel (κ:=κ) (E:=E) b (o+i.toNat*n) y 0 (hc.elem hsz hy);simpa using this
theorem z2W(R:Rel X κ s a w){t:TypeId}{u ui:Value}{v vi:Sv}{k:Sv→Prop}(hk:kIndexAddr P t s v vi k)(hv:RelS w (Mut X.M0 κ) κ s.env u v)(hi:RelS w (Mut X.M0 κ) κ s.env ui vi):
  ∃u' y,(Instr.indexAt t u ui).run P w=.ok u' w∧RelS w (Mut X.M0 κ) κ s.env u' y∧k y:=by
 obtain⟨ix,hix,k1⟩:=yA hk hi;obtain⟨kd,i,rfl,k2⟩:=wK k1;obtain rfl:=hix.int_inv;clear hk k1 hi;cases v with
 |row r g=>
  obtain⟨e,he,k3⟩:=zD k2;obtain⟨n,hn,k4⟩:=zD k3;obtain⟨ob,ho,k5⟩:=zD k4;cases ob with
  |row n' xs=>
   obtain⟨hnn,h0,h1,k6⟩:=zG k5;obtain rfl:=vX hnn;cases hv with|row _ _ _ hg hv=>
   obtain⟨b,cap,rfl,hb,hc⟩:=hv _ _ ho;refine⟨_,_,gR (uG he) hn h0 h1,.rref _ _ _ _ _ _ hg (fun ob' ho' ht'=>⟨b,hb,by simp⟩),k6⟩
  |_=>exact k5.elim
 |ref r g off=>
  obtain⟨ob,ho,k3⟩:=zD k2;cases ob with
  |row n' xs=>
   split at k3
   ·rename_i n2 ys m e heq hu
    injection heq with e1 e2;subst e1;subst e2;obtain⟨n,hn,k4⟩:=zD k3;obtain⟨hnn,k5⟩:=zG k4;obtain rfl:=vX hnn;obtain⟨hoff,k6⟩:=zG k5;obtain rfl:=vX hoff;obtain⟨hm,hml,h0,h1,k7⟩:=zG k6;cases hv with|ref _ _ _ _ hg hv=>
    obtain⟨b,hb,rfl⟩:=hv _ ho rfl;refine⟨_,_,z2R hu hn h0 (by omega),.rref _ _ _ _ _ _ hg (fun ob' ho' ht'=>⟨b,hb,by simp⟩),k7⟩
   ·exact k3.elim
  |_=>exact k3.elim
 |d x=>exact z1t k2 hv
 |nilS=>exact z1t k2 hv
 |right _ _ _ _=>exact z1t k2 hv
 |lent _ _ _ _ _=>exact z1t k2 hv
 |_=>exact z1t k2 hv
theorem z6s{M:Nat→Nat→Prop}{E:Env}{t:TypeId}{u ui:Value}{v vi:Sv}{k:Sv→Prop}(ht:P.underlying t=some .string)(hk:kIndex v vi k)(hv:RelS w M κ E u v)(hi:RelS w M κ E ui vi):
  ∃u' y,(Instr.index t u ui).run P w=.ok u' w∧RelS w M κ E u' y∧k y:=by
 obtain⟨x,hx,k1⟩:=yA hk hv;obtain⟨ix,hix,k2⟩:=yA k1 hi;obtain⟨kd,i,rfl,k3⟩:=wK k2;obtain⟨str,rfl,h0,k4⟩:=uK k3;obtain⟨c,hc,k5⟩:=k4;obtain rfl:=hix.int_inv;obtain rfl:=hx.str_inv;have k6:=yF k5;refine⟨_,_,?_,.d _ _ (.int .u8 c.toNat),k6⟩;have hlt:=(List.getElem?_eq_some_iff.1 hc).1;have:(ByteArray.mk ⟨str⟩)[i.toNat]?=some c:=by
  rw[←hc];simp only[getElem?_def];have hsz:(ByteArray.mk ⟨str⟩).size=str.length:=rfl;simp[hsz,hlt];rfl
 simp[Instr.index,Sem.run_bind,asIntOf,run_underlying ht,h0,this]
end
end Nt

