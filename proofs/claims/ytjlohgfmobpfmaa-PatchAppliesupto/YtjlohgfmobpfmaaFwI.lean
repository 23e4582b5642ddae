import Derived.Test.YtjlohgfmobpfmaaFwG
namespace Nt
open Go
set_option linter.unusedVariables false
set_option linter.unusedSimpArgs false
section
variable {P:Program} {X:Ctx} {κ:Kap} {s:St} {a:Act} {w:World}
theorem z1x{t f:Nat}{fd:Field}(h:z3n P t f=some fd):∃fs,P.underlying t=some (.struct fs)∧fs[f]?=some fd:=by
 unfold z3n at h;split at h
 ·exact⟨_,‹_›,h⟩
 ·cases h
theorem jW{t e:Nat}(h:z3m P t=some e):P.underlying t=some (.slice e):=by
 unfold z3m at h;split at h
 ·injection h with h;subst h;assumption
 ·cases h
theorem z1n(b o n:Nat):(⟨b,o,none⟩:Addr).add n=⟨b,o+n,none⟩:=Addr.add_mid b o n
theorem gB{t f:Nat}{fd:Field}{n b o:Nat}(h:z3n P t f=some fd)(hn:vC P fd.type=some n)(h0:n≠0):
  (Instr.fieldAt t (.pointer (some ⟨b,o,none⟩)) f).run P w=.ok (.pointer (some ⟨b,o+fd.offset,none⟩)) w:=by
 obtain⟨fs,h1,h2⟩:=z1x h;simp[Instr.fieldAt,Sem.run_bind,run_underlying h1,h2,Instr.sureAddr,fieldPlace,vZ hn,h0,z1n]
theorem z4A{r g:Nat}(h:s.live r g=true):∃ob,s.ob r g=some ob∧ob.isTok=false:=by
 unfold St.live at h;split at h
 ·rename_i ob ho;exact⟨ob,ho,by simpa using h⟩
 ·cases h
theorem z4t{M:Nat→Nat→Prop}{t f:Nat}{u:Value}{v:Sv}{k:Sv→Prop}(hk:kFieldAddr P t s v f k)(hv:RelS w M κ s.env u v):
  ∃u' y,(Instr.fieldAt t u f).run P w=.ok u' w∧RelS w M κ s.env u' y∧k y:=by
 obtain⟨fd,hf,k1⟩:=zD hk;obtain⟨n,hn,k2⟩:=zD k1;rcases yF k2 with⟨-,k3⟩|⟨h0,k3⟩
 ·exact k3.elim
 have h0:n≠0:=fun e=>by subst e;simp at h0
 clear hk k1 k2;cases v with
 |ref r g off=>
  obtain⟨hl,k4⟩:=zF k3;obtain⟨ob,h1,h2⟩:=z4A hl;cases hv with|ref _ _ _ _ hg hv=>
  obtain⟨b,hb,rfl⟩:=hv ob h1 h2;exact⟨_,_,gB hf hn h0,.ref _ _ _ _ hg (fun _ _ _=>⟨b,hb,rfl⟩),k4⟩
 |rref r g m i off=>
  obtain⟨hl,k4⟩:=zF k3;obtain⟨ob,h1,h2⟩:=z4A hl;cases hv with|rref _ _ _ _ _ _ hg hv=>
  obtain⟨b,hb,rfl⟩:=hv ob h1 h2;exact⟨_,_,gB hf hn h0,.rref _ _ _ _ _ _ hg (fun _ _ _=>⟨b,hb,by rw[Nat.add_assoc]⟩),k4⟩
 |iel x off=>
  cases hv with|iel b o _ _ hv=>
  exact⟨_,_,gB hf hn h0,by rw[Nat.add_assoc];exact .iel b o x _ hv,k3⟩
 |hp id off=>
  cases hv with|hp b _ _ hv=>
  exact⟨_,_,gB hf hn h0,.hp b id _ hv,k3⟩
 |_=>exact k3.elim
theorem z5Z{t:TypeId}{n i:Nat}{xs:List Value}{v:Value}(hs:vC P t=some n)(ha:jQ P t=false)(h:xs[i]?=some v):(part t (⟨xs⟩:Array Value) i).run P w=.ok v w:=by
 obtain⟨j,d,h1,h2,h3⟩:=yK hs;unfold part;rw[Sem.run_bind,z1b h3,ha];simp[h]
theorem z9t{t:TypeId}{n i:Nat}{xs:List Value}(hs:vC P t=some n)(ha:jQ P t=true):(part t (⟨xs⟩:Array Value) i).run P w=.ok (.agg ⟨(xs.drop i).take n⟩) w:=by
 obtain⟨j,d,h1,h2,h3⟩:=yK hs;unfold part;rw[Sem.run_bind,z1b h3,ha];simp[vZ hs]
theorem z7S{M:Nat→Nat→Prop}{E:Env}{t f:Nat}{u:Value}{v:Sv}{k:Sv→Prop}(hk:kField P t v f k)(hv:RelS w M κ E u v):
  ∃u' y,(Instr.field t u f).run P w=.ok u' w∧RelS w M κ E u' y∧k y:=by
 obtain⟨fd,hf,k1⟩:=zD hk;obtain⟨fs,h1,h2⟩:=z1x hf;obtain⟨x,hx,k2⟩:=yM k1 hv;cases x with
 |agg cs=>
  obtain⟨vs,rfl,hvs⟩:=hx.agg_inv;obtain⟨n,hn,k3⟩:=zD k2;have hr:(Instr.field t (.agg ⟨vs⟩) f).run P w=(part fd.type (⟨vs⟩:Array Value) fd.offset).run P w:=by
   simp[Instr.field,Sem.run_bind,run_underlying h1,h2,asAgg]
  rcases yF k3 with⟨ha,k4⟩|⟨ha,k4⟩
  ·obtain⟨cs',e,hl,k5⟩:=z5q k4;injection e with e;subst e;exact⟨_,_,by rw[hr];exact z9t hn ha,.d _ _ (.agg _ _ ((hvs.drop _).take _)),k5⟩
  ·obtain⟨c,hc,k5⟩:=zD k4;obtain⟨v,g1,-,g2⟩:=hvs.get _ c hc;exact⟨v,_,by rw[hr];exact z5Z hn ha g1,.d _ _ g2,k5⟩
 |_=>exact k2.elim
theorem z9m{e:TypeId}{xs:List D}{i:Int}{k:D→Prop}(h:kIdx P e xs i k):0≤i∧∃x,xs[i.toNat]?=some x∧k x:=by
 obtain⟨h0,h⟩:=h;obtain⟨sh,-,h1⟩:=zD h;obtain⟨y,h2⟩:=z5P h1;exact⟨h0,y,h2⟩
theorem z0P{t e:TypeId}{n b o len cap:Nat}{kd:IntKind}{i:Int}(ht:P.underlying t=some (.slice e))(hn:vC P e=some n)(h0:0≤i)(h1:i<len):
  (Instr.indexAt t (.slice (some ⟨b,o,none⟩) len cap) (.int kd i)).run P w=.ok (.pointer (some ⟨b,o+i.toNat*n,none⟩)) w:=by
 simp[Instr.indexAt,Sem.run_bind,asIntOf,run_underlying ht,h0,h1,vZ hn,z1n]
theorem z4q{t e:TypeId}{n b o m:Nat}{kd:IntKind}{i:Int}(ht:P.underlying t=some (.array m e))(hn:vC P e=some n)(h0:0≤i)(h1:i<m):
  (Instr.indexAt t (.pointer (some ⟨b,o,none⟩)) (.int kd i)).run P w=.ok (.pointer (some ⟨b,o+i.toNat*n,none⟩)) w:=by
 simp[Instr.indexAt,Sem.run_bind,asIntOf,run_underlying ht,h0,h1,vZ hn,z1n,Instr.sureAddr]
theorem z2K {M:Nat→Nat→Prop} {E:Env} {t:TypeId} {kd:IntKind} {i:Int} {u:Value} {v:Sv} {k:Sv→Prop}
  (hk:kOpt (z3m P t) fun e=>kOpt (vC P e) fun n=>kD v fun x=>kSl x fun xs=>yB n xs∧kIdx P e xs i fun y=>k (.iel y 0)) (hv:RelS w M κ E u v):
  ∃u' y,(Instr.indexAt t u (.int kd i)).run P w=.ok u' w∧RelS w M κ E u' y∧k y:=by
 obtain⟨e,he,k1⟩:=zD hk;obtain⟨n,hn,k2⟩:=zD k1;obtain⟨x,hx,k3⟩:=yM k2 hv;obtain⟨xs,rfl,hsz,k4⟩:=z2L k3;obtain⟨h0,y,hy,k5⟩:=z9m k4;have hi:=(List.getElem?_eq_some_iff.1 hy).1;rcases hx.sl_inv with⟨-,rfl⟩|⟨b,o,cap,rfl,hc,hl⟩
 ·simp at hy
 ·refine⟨_,_,z0P (jW he) hn h0 (by omega),?_,k5⟩;have:=RelS.iel (κ:=κ) (E:=E) b (o+i.toNat*n) y 0 (hc.elem hsz hy);simpa using this
theorem z4v(R:Rel X κ s a w){t:TypeId}{u ui:Value}{v vi:Sv}{k:Sv→Prop}(hk:kIndexAddr P t s v vi k)(hv:RelS w (Mut X.M0 κ) κ s.env u v)(hi:RelS w (Mut X.M0 κ) κ s.env ui vi):
  ∃u' y,(Instr.indexAt t u ui).run P w=.ok u' w∧RelS w (Mut X.M0 κ) κ s.env u' y∧k y:=by
 obtain⟨ix,hix,k1⟩:=yM hk hi;obtain⟨kd,i,rfl,k2⟩:=uU k1;obtain rfl:=hix.int_inv;clear hk k1 hi;cases v with
 |row r g=>
  obtain⟨e,he,k3⟩:=zD k2;obtain⟨n,hn,k4⟩:=zD k3;obtain⟨ob,ho,k5⟩:=zD k4;cases ob with
  |row n' xs=>
   obtain⟨hnn,h0,h1,k6⟩:=zF k5;obtain rfl:=uA hnn;cases hv with|row _ _ _ hg hv=>
   obtain⟨b,cap,rfl,hb,hc⟩:=hv _ _ ho;refine⟨_,_,z0P (jW he) hn h0 h1,.rref _ _ _ _ _ _ hg (fun ob' ho' ht'=>⟨b,hb,by simp⟩),k6⟩
  |_=>exact k5.elim
 |ref r g off=>
  obtain⟨ob,ho,k3⟩:=zD k2;cases ob with
  |row n' xs=>
   split at k3
   ·rename_i n2 ys m e heq hu
    injection heq with e1 e2;subst e1;subst e2;obtain⟨n,hn,k4⟩:=zD k3;obtain⟨hnn,k5⟩:=zF k4;obtain rfl:=uA hnn;obtain⟨hoff,k6⟩:=zF k5;obtain rfl:=uA hoff;obtain⟨hm,hml,h0,h1,k7⟩:=zF k6;cases hv with|ref _ _ _ _ hg hv=>
    obtain⟨b,hb,rfl⟩:=hv _ ho rfl;refine⟨_,_,z4q hu hn h0 (by omega),.rref _ _ _ _ _ _ hg (fun ob' ho' ht'=>⟨b,hb,by simp⟩),k7⟩
   ·exact k3.elim
  |_=>exact k3.elim
 |d x=>exact z2K k2 hv
 |nilS=>exact z2K k2 hv
 |right _ _ _ _=>exact z2K k2 hv
 |lent _ _ _ _ _=>exact z2K k2 hv
 |_=>exact z2K k2 hv
theorem z7T{M:Nat→Nat→Prop}{E:Env}{t:TypeId}{u ui:Value}{v vi:Sv}{k:Sv→Prop}(ht:P.underlying t=some .string)(hk:kIndex v vi k)(hv:RelS w M κ E u v)(hi:RelS w M κ E ui vi):
  ∃u' y,(Instr.index t u ui).run P w=.ok u' w∧RelS w M κ E u' y∧k y:=by
 obtain⟨x,hx,k1⟩:=yM hk hv;obtain⟨ix,hix,k2⟩:=yM k1 hi;obtain⟨kd,i,rfl,k3⟩:=uU k2;obtain⟨str,rfl,h0,k4⟩:=gC k3;obtain⟨c,hc,k5⟩:=k4;obtain rfl:=hix.int_inv;obtain rfl:=hx.str_inv;have k6:=yR k5;refine⟨_,_,?_,.d _ _ (.int .u8 c.toNat),k6⟩;have hlt:=(List.getElem?_eq_some_iff.1 hc).1;have:(ByteArray.mk ⟨str⟩)[i.toNat]?=some c:=by
  rw[←hc];simp only[getElem?_def];have hsz:(ByteArray.mk ⟨str⟩).size=str.length:=rfl;simp[hsz,hlt];rfl
 simp[Instr.index,Sem.run_bind,asIntOf,run_underlying ht,h0,this]
end
end Nt

