import Derived.Test.YtcpblelppecabaaFwG
namespace Nt
open Go
set_option linter.unusedVariables false
set_option linter.unusedSimpArgs false
section
variable {P:Program} {X:Ctx} {κ:Kap} {s:St} {a:Act} {w:World}
theorem z8Z{t f:Nat}{fd:Field}(h:y2d P t f=some fd):∃fs,P.underlying t=some (.struct fs)∧fs[f]?=some fd:=by
 unfold y2d at h;split at h
 ·exact⟨_,‹_›,h⟩
 ·cases h
theorem z4E{t e:Nat}(h:y2c P t=some e):P.underlying t=some (.slice e):=by
 unfold y2c at h;split at h
 ·injection h with h;subst h;assumption
 ·cases h
theorem z8L(b o n:Nat):(⟨b,o,none⟩:Addr).add n=⟨b,o+n,none⟩:=Addr.add_mid b o n
theorem z4X{t f:Nat}{fd:Field}{n b o:Nat}(h:y2d P t f=some fd)(hn:gK P fd.type=some n)(h0:n≠0):
  (Instr.fieldAt t (.pointer (some ⟨b,o,none⟩)) f).run P w=.ok (.pointer (some ⟨b,o+fd.offset,none⟩)) w:=by
 obtain⟨fs,h1,h2⟩:=z8Z h;simp[Instr.fieldAt,Sem.run_bind,run_underlying h1,h2,Instr.sureAddr,fieldPlace,z0E hn,h0,z8L]
theorem y4A{r g:Nat}(h:s.live r g=true):∃ob,s.ob r g=some ob∧ob.isTok=false:=by
 unfold St.live at h;split at h
 ·rename_i ob ho;exact⟨ob,ho,by simpa using h⟩
 ·cases h
theorem y4u{M:Nat→Nat→Prop}{t f:Nat}{u:Value}{v:Sv}{k:Sv→Prop}(hk:kFieldAddr P t s v f k)(hv:RelS w M κ s.env u v):
  ∃u' y,(Instr.fieldAt t u f).run P w=.ok u' w∧RelS w M κ s.env u' y∧k y:=by
 obtain⟨fd,hf,k1⟩:=zO hk;obtain⟨n,hn,k2⟩:=zO k1;rcases wV k2 with⟨-,k3⟩|⟨h0,k3⟩
 ·exact k3.elim
 have h0:n≠0:=fun e=>by subst e;simp at h0
 clear hk k1 k2;cases v with
 |ref r g off=>
  obtain⟨hl,k4⟩:=zQ k3;obtain⟨ob,h1,h2⟩:=y4A hl;cases hv with|ref _ _ _ _ hg hv=>
  obtain⟨b,hb,rfl⟩:=hv ob h1 h2;exact⟨_,_,z4X hf hn h0,.ref _ _ _ _ hg (fun _ _ _=>⟨b,hb,rfl⟩),k4⟩
 |rref r g m i off=>
  obtain⟨hl,k4⟩:=zQ k3;obtain⟨ob,h1,h2⟩:=y4A hl;cases hv with|rref _ _ _ _ _ _ hg hv=>
  obtain⟨b,hb,rfl⟩:=hv ob h1 h2;exact⟨_,_,z4X hf hn h0,.rref _ _ _ _ _ _ hg (fun _ _ _=>⟨b,hb,by rw[Nat.add_assoc]⟩),k4⟩
 |iel x off=>
  cases hv with|iel b o _ _ hv=>
  exact⟨_,_,z4X hf hn h0,by rw[Nat.add_assoc];exact .iel b o x _ hv,k3⟩
 |hp id off=>
  cases hv with|hp b _ _ hv=>
  exact⟨_,_,z4X hf hn h0,.hp b id _ hv,k3⟩
 |_=>exact k3.elim
theorem y8v{t:TypeId}{n i:Nat}{xs:List Value}{v:Value}(hs:gK P t=some n)(ha:z4e P t=false)(h:xs[i]?=some v):(part t (⟨xs⟩:Array Value) i).run P w=.ok v w:=by
 obtain⟨j,d,h1,h2,h3⟩:=uZ hs;unfold part;rw[Sem.run_bind,z8A h3,ha];simp[h]
theorem v2u{t:TypeId}{n i:Nat}{xs:List Value}(hs:gK P t=some n)(ha:z4e P t=true):(part t (⟨xs⟩:Array Value) i).run P w=.ok (.agg ⟨(xs.drop i).take n⟩) w:=by
 obtain⟨j,d,h1,h2,h3⟩:=uZ hs;unfold part;rw[Sem.run_bind,z8A h3,ha];simp[z0E hs]
theorem v0V{M:Nat→Nat→Prop}{E:Env}{t f:Nat}{u:Value}{v:Sv}{k:Sv→Prop}(hk:kField P t v f k)(hv:RelS w M κ E u v):
  ∃u' y,(Instr.field t u f).run P w=.ok u' w∧RelS w M κ E u' y∧k y:=by
 obtain⟨fd,hf,k1⟩:=zO hk;obtain⟨fs,h1,h2⟩:=z8Z hf;obtain⟨x,hx,k2⟩:=uR k1 hv;cases x with
 |agg cs=>
  obtain⟨vs,rfl,hvs⟩:=hx.agg_inv;obtain⟨n,hn,k3⟩:=zO k2;have hr:(Instr.field t (.agg ⟨vs⟩) f).run P w=(part fd.type (⟨vs⟩:Array Value) fd.offset).run P w:=by
   simp[Instr.field,Sem.run_bind,run_underlying h1,h2,asAgg]
  rcases wV k3 with⟨ha,k4⟩|⟨ha,k4⟩
  ·obtain⟨cs',e,hl,k5⟩:=y6A k4;injection e with e;subst e;exact⟨_,_,by rw[hr];exact v2u hn ha,.d _ _ (.agg _ _ ((hvs.drop _).take _)),k5⟩
  ·obtain⟨c,hc,k5⟩:=zO k4;obtain⟨v,g1,-,g2⟩:=hvs.get _ c hc;exact⟨v,_,by rw[hr];exact y8v hn ha g1,.d _ _ g2,k5⟩
 |_=>exact k2.elim
theorem v2n{e:TypeId}{xs:List D}{i:Int}{k:D→Prop}(h:kIdx P e xs i k):0≤i∧∃x,xs[i.toNat]?=some x∧k x:=by
 obtain⟨h0,h⟩:=h;obtain⟨sh,-,h1⟩:=zO h;obtain⟨y,h2⟩:=y8k h1;exact⟨h0,y,h2⟩
theorem z8n{t e:TypeId}{n b o len cap:Nat}{kd:IntKind}{i:Int}(ht:P.underlying t=some (.slice e))(hn:gK P e=some n)(h0:0≤i)(h1:i<len):
  (Instr.indexAt t (.slice (some ⟨b,o,none⟩) len cap) (.int kd i)).run P w=.ok (.pointer (some ⟨b,o+i.toNat*n,none⟩)) w:=by
 simp[Instr.indexAt,Sem.run_bind,asIntOf,run_underlying ht,h0,h1,z0E hn,z8L]
theorem y4r{t e:TypeId}{n b o m:Nat}{kd:IntKind}{i:Int}(ht:P.underlying t=some (.array m e))(hn:gK P e=some n)(h0:0≤i)(h1:i<m):
  (Instr.indexAt t (.pointer (some ⟨b,o,none⟩)) (.int kd i)).run P w=.ok (.pointer (some ⟨b,o+i.toNat*n,none⟩)) w:=by
 simp[Instr.indexAt,Sem.run_bind,asIntOf,run_underlying ht,h0,h1,z0E hn,z8L,Instr.sureAddr]
theorem y1D {M:Nat→Nat→Prop} {E:Env} {t:TypeId} {kd:IntKind} {i:Int} {u:Value} {v:Sv} {k:Sv→Prop}
  (hk:kOpt (y2c P t) fun e=>kOpt (gK P e) fun n=>kD v fun x=>kSl x fun xs=>zD n xs∧kIdx P e xs i fun y=>k (.iel y 0)) (hv:RelS w M κ E u v):
  ∃u' y,(Instr.indexAt t u (.int kd i)).run P w=.ok u' w∧RelS w M κ E u' y∧k y:=by
 obtain⟨e,he,k1⟩:=zO hk;obtain⟨n,hn,k2⟩:=zO k1;obtain⟨x,hx,k3⟩:=uR k2 hv;obtain⟨xs,rfl,hsz,k4⟩:=y1E k3;obtain⟨h0,y,hy,k5⟩:=v2n k4;have hi:=(List.getElem?_eq_some_iff.1 hy).1;rcases hx.sl_inv with⟨-,rfl⟩|⟨b,o,cap,rfl,hc,hl⟩
 ·simp at hy
 ·refine⟨_,_,z8n (z4E he) hn h0 (by omega),?_,k5⟩;have:=RelS.iel (κ:=κ) (E:=E) b (o+i.toNat*n) y 0 (hc.elem hsz hy);simpa using this
theorem y4w(R:Rel X κ s a w){t:TypeId}{u ui:Value}{v vi:Sv}{k:Sv→Prop}(hk:kIndexAddr P t s v vi k)(hv:RelS w (Mut X.M0 κ) κ s.env u v)(hi:RelS w (Mut X.M0 κ) κ s.env ui vi):
  ∃u' y,(Instr.indexAt t u ui).run P w=.ok u' w∧RelS w (Mut X.M0 κ) κ s.env u' y∧k y:=by
 obtain⟨ix,hix,k1⟩:=uR hk hi;obtain⟨kd,i,rfl,k2⟩:=z2Y k1;obtain rfl:=hix.int_inv;clear hk k1 hi;cases v with
 |row r g=>
  obtain⟨e,he,k3⟩:=zO k2;obtain⟨n,hn,k4⟩:=zO k3;obtain⟨ob,ho,k5⟩:=zO k4;cases ob with
  |row n' xs=>
   obtain⟨hnn,h0,h1,k6⟩:=zQ k5;obtain rfl:=z1Z hnn;cases hv with|row _ _ _ hg hv=>
   obtain⟨b,cap,rfl,hb,hc⟩:=hv _ _ ho;refine⟨_,_,z8n (z4E he) hn h0 h1,.rref _ _ _ _ _ _ hg (fun ob' ho' ht'=>⟨b,hb,by simp⟩),k6⟩
  |_=>exact k5.elim
 |ref r g off=>
  obtain⟨ob,ho,k3⟩:=zO k2;cases ob with
  |row n' xs=>
   split at k3
   ·rename_i n2 ys m e heq hu
    injection heq with e1 e2;subst e1;subst e2;obtain⟨n,hn,k4⟩:=zO k3;obtain⟨hnn,k5⟩:=zQ k4;obtain rfl:=z1Z hnn;obtain⟨hoff,k6⟩:=zQ k5;obtain rfl:=z1Z hoff;obtain⟨hm,hml,h0,h1,k7⟩:=zQ k6;cases hv with|ref _ _ _ _ hg hv=>
    obtain⟨b,hb,rfl⟩:=hv _ ho rfl;refine⟨_,_,y4r hu hn h0 (by omega),.rref _ _ _ _ _ _ hg (fun ob' ho' ht'=>⟨b,hb,by simp⟩),k7⟩
   ·exact k3.elim
  |_=>exact k3.elim
 |d x=>exact y1D k2 hv
 |nilS=>exact y1D k2 hv
 |right _ _ _ _=>exact y1D k2 hv
 |lent _ _ _ _ _=>exact y1D k2 hv
 |_=>exact y1D k2 hv
theorem v0W{M:Nat→Nat→Prop}{E:Env}{t:TypeId}{u ui:Value}{v vi:Sv}{k:Sv→Prop}(ht:P.underlying t=some .string)(hk:kIndex v vi k)(hv:RelS w M κ E u v)(hi:RelS w M κ E ui vi):
  ∃u' y,(Instr.index t u ui).run P w=.ok u' w∧RelS w M κ E u' y∧k y:=by
 obtain⟨x,hx,k1⟩:=uR hk hv;obtain⟨ix,hix,k2⟩:=uR k1 hi;obtain⟨kd,i,rfl,k3⟩:=z2Y k2;obtain⟨str,rfl,h0,k4⟩:=z5a k3;obtain⟨c,hc,k5⟩:=k4;obtain rfl:=hix.int_inv;obtain rfl:=hx.str_inv;have k6:=jU k5;refine⟨_,_,?_,.d _ _ (.int .u8 c.toNat),k6⟩;have hlt:=(List.getElem?_eq_some_iff.1 hc).1;have:(ByteArray.mk ⟨str⟩)[i.toNat]?=some c:=by
  rw[←hc];simp only[getElem?_def];have hsz:(ByteArray.mk ⟨str⟩).size=str.length:=rfl;simp[hsz,hlt];rfl
 simp[Instr.index,Sem.run_bind,asIntOf,run_underlying ht,h0,this]
end
end Nt

