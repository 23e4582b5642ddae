import Derived.Test.YtjlohgfmobpfmaaMod
import Derived.Test.YtjlohgfmobpfmaaEv
import Derived.Test.YtjlohgfmobpfmaaLay
import Derived.Test.YtjlohgfmobpfmaaFwZB
import Derived.RegionTactic
import Derived.ChangeAlike
import Derived.KernelRfl
import Derived.BigRegion
import Derived.BigQuiet
import Derived.Deep.QuietTactic
import Derived.Shelf.Strings.BuilderK
namespace Go.Proofs.Ytjlohgfmobpfmaa.M
open Go Nt Go.Proofs
set_option linter.unusedVariables false
set_option linter.unusedSimpArgs false
set_option linter.unnecessarySimpa false
set_option maxRecDepth 100000
open Go.RowKit Go.Shelf
abbrev vE(e:Edit):List Go.Value:=[.int .i64 e.From,.int .i64 e.To,.string ⟨⟨e.Text⟩⟩]
def cE:List Edit→List Go.Value
 |[]=>[]
 |e::r=>vE e++cE r
theorem z0u(l:List Edit):(cE l).length=l.length*3:=by
 induction l with
 |nil=>rfl
 |cons e r ih=>simp[cE,ih];omega
theorem z1D(a b:List Edit):cE (a++b)=cE a++cE b:=by
 induction a with
 |nil=>rfl
 |cons e r ih=>simp[cE,ih]
theorem z7w:∀(l:List Edit) (i:Nat) (h:i<l.length),(cE l)[i*3]?=some (.int .i64 l[i].From)∧(cE l)[i*3+1]?=some (.int .i64 l[i].To)∧(cE l)[i*3+2]?=some (.string ⟨⟨l[i].Text⟩⟩)
 |e::r,0,_=>⟨rfl,rfl,rfl⟩
 |e::r,i+1,h=>by
  have:=z7w r i (by simpa using h);simp only[cE,vE];rw[show(i+1)*3=i*3+3 by omega];simpa using this
abbrev Own(w:World)(base:Nat)(v:Go.Value)(xs:List Edit):Prop:=w.ownsRow base 37 3 v xs.length (cE xs)
theorem Own.get{w:World}{base:Nat}{v:Go.Value}{xs:List Edit}(h:Own w base v xs)(hx:0<xs.length):∃g cap cur,v=.slice (some ⟨g,0,none⟩) xs.length cap∧base≤g∧w.heap[g]?=some (.cells cur 37 (0,0))∧xs.length≤cap∧cap≤maxLen∧cur.size=cap*3∧cur.toList.take (xs.length*3)=cE xs:=by
 rcases h with⟨-,⟨rfl,h0⟩|⟨g,cap,cur,rfl,h1,h2,h3,h4,h5,h6⟩⟩
 ·omega
 ·exact⟨g,cap,cur,rfl,h1,h2,h3,h4,h5,h6⟩
theorem z0o{w:World}{g:Nat}{cur:Array Go.Value}{xs:List Edit}(h:w.heap[g]?=some (.cells cur 37 (0,0)))(h6:cur.toList.take (xs.length*3)=cE xs){i:Nat}(hi:i<xs.length):
  w.cell? ⟨g,i*3,none⟩=some (.int .i64 xs[i].From)∧w.cell? ⟨g,i*3+1,none⟩=some (.int .i64 xs[i].To)∧w.cell? ⟨g,i*3+2,none⟩=some (.string ⟨⟨xs[i].Text⟩⟩):=by
 obtain⟨c0,c1,c2⟩:=z7w xs i hi;have k:∀j,j<xs.length*3→cur[j]?=(cE xs)[j]?:=fun j hj=>by
  rw[←h6,List.getElem?_take_of_lt hj,←Array.getElem?_toList]
 refine⟨?_,?_,?_⟩
 ·rw[zA h,k _ (by omega)];exact c0
 ·rw[zA h,k _ (by omega)];exact c1
 ·rw[zA h,k _ (by omega)];exact c2
set_option maxHeartbeats 4000000 in
theorem y0a{w:World}{base:Nat}{v:Go.Value}{xs:List Edit}(h:Own w base v xs){i j:Nat}(hi:i<xs.length)(hj:j<xs.length)(hn:xs.length≤1000000):
  Calls Try.prog 45 #[v,.int .i64 i,.int .i64 j] w fun e w'=>e=.returned (.bool (decide (xs[i].From<xs[j].From)))∧w'=w.drew:=by
 obtain⟨g,cap,cur,rfl,h1,h2,h3,h4,h5,h6⟩:=h.get (by omega);obtain⟨a0,a1,a2⟩:=z0o h2 h6 hi;obtain⟨b0,b1,b2⟩:=z0o h2 h6 hj
 go_enter Try.func45,Try.ntmps45
 go_wp2
 go_region
 all_goals (go_wp2;go_ret;exact⟨rfl,rfl⟩)
def z7o(w:World)(g i:Nat)(e:Edit):World:=((w.setCell ⟨g,i*3,none⟩ (.int .i64 e.From)).setCell ⟨g,i*3+1,none⟩ (.int .i64 e.To)).setCell ⟨g,i*3+2,none⟩ (.string ⟨⟨e.Text⟩⟩)
theorem z9B:∀(l:List Edit) (i:Nat) (e:Edit),cE (l.set i e)=(((cE l).set (i*3) (.int .i64 e.From)).set (i*3+1) (.int .i64 e.To)).set (i*3+2) (.string ⟨⟨e.Text⟩⟩)
 |[],i,e=>by simp[cE]
 |x::r,0,e=>rfl
 |x::r,i+1,e=>by
  rw[List.set_cons_succ,cE,z9B r i e,cE,show(i+1)*3=i*3+3 by omega];rfl
theorem z8j{w:World}{g cap:Nat}{cur:Array Go.Value}{xs:List Edit}(h2:w.heap[g]?=some (.cells cur 37 (0,0)))(h5:cur.size=cap*3)(h6:cur.toList.take (xs.length*3)=cE xs)(i:Nat)(e:Edit):
  ∃cur',(z7o w g i e).heap[g]?=some (.cells cur' 37 (0,0))∧cur'.size=cap*3∧cur'.toList.take ((xs.set i e).length*3)=cE (xs.set i e):=by
 have s1:=heap_setCell_same w g (i*3) cur 37 (.int .i64 e.From) h2;have s2:=heap_setCell_same _ g (i*3+1) _ 37 (.int .i64 e.To) s1;have s3:=heap_setCell_same _ g (i*3+2) _ 37 (.string ⟨⟨e.Text⟩⟩) s2;refine⟨_,s3,by simp[h5],?_⟩;rw[z9B,List.length_set,←h6];simp only[Array.toList_setIfInBounds,List.take_set]
theorem z8i(w:World)(g i:Nat)(e:Edit)(k:Nat)(h:k≠g):(z7o w g i e).heap[k]?=w.heap[k]?:=by
 unfold z7o;rw[heap_setCell_other _ _ _ _ h,heap_setCell_other _ _ _ _ h,heap_setCell_other _ _ _ _ h]
theorem z9w(w:World)(g i:Nat)(e:Edit):(z7o w g i e).heap.size=w.heap.size:=by simp[z7o,World.setCell]
structure Fr(P:Nat→Prop)(w w':World):Prop where
 os:w'.os=w.os
 tape:w'.tape=w.tape
 output:w'.output=w.output
 size:w.heap.size≤w'.heap.size
 blk:∀k,k<w.heap.size→¬P k→w'.heap[k]?=w.heap[k]?
theorem Fr.refl(P:Nat→Prop)(w:World):Fr P w w:=⟨rfl,rfl,rfl,Nat.le_refl _,fun _ _ _=>rfl⟩
theorem Fr.trans{P Q:Nat→Prop}{a b c:World}(h:Fr P a b)(g:Fr Q b c)(hQ:∀k,k<a.heap.size→Q k→P k):Fr P a c:=
 ⟨g.os.trans h.os,g.tape.trans h.tape,g.output.trans h.output,Nat.le_trans h.size g.size,fun k hk hp=>(g.blk k (Nat.lt_of_lt_of_le hk h.size) fun q=>hp (hQ k hk q)).trans (h.blk k hk hp)⟩
theorem Fr.mono{P Q:Nat→Prop}{a b:World}(h:Fr P a b)(hQ:∀k,k<a.heap.size→P k→Q k):Fr Q a b:=⟨h.os,h.tape,h.output,h.size,fun k hk hp=>h.blk k hk fun p=>hp (hQ k hk p)⟩
theorem Fr.drew{P:Nat→Prop}{a b:World}(h:Fr P a b):Fr P a b.drew:=⟨h.os,h.tape,h.output,h.size,h.blk⟩
theorem Fr.put{w:World}(g i:Nat)(e:Edit):Fr (fun k=>k=g) w (z7o w g i e):=⟨rfl,rfl,rfl,by rw[z9w];exact Nat.le_refl _,fun k _ hk=>z8i w g i e k hk⟩
abbrev z1f(xs:List Edit)(i j:Nat)(hi:i<xs.length)(hj:j<xs.length):List Edit:=(xs.set i xs[j]).set j xs[i]
set_option maxHeartbeats 4000000 in
theorem y0l{w:World}{base:Nat}{v:Go.Value}{xs:List Edit}(h:Own w base v xs){i j:Nat}(hi:i<xs.length)(hj:j<xs.length)(hn:xs.length≤1000000):
  Calls Try.prog 46 #[v,.int .i64 i,.int .i64 j] w fun e w'=>∃v',e=.returned v'∧Own w' base v (z1f xs i j hi hj)∧Fr (fun k=>v.ownBlock=some k) w w':=by
 obtain⟨g,cap,cur,rfl,h1,h2,h3,h4,h5,h6⟩:=h.get (by omega);obtain⟨a0,a1,a2⟩:=z0o h2 h6 hi;obtain⟨b0,b1,b2⟩:=z0o h2 h6 hj;have z:∀k,w.frozen? ⟨g,k,none⟩=false:=fun k=>uM h2;have fin:∃v',Ending.returned (Value.tuple #[])=Ending.returned v'∧Own (z7o (z7o w g i xs[j]) g j xs[i]).drew base (.slice (some ⟨g,0,none⟩) xs.length cap) (z1f xs i j hi hj)∧Fr (fun k=>(Go.Value.slice (some ⟨g,0,none⟩) xs.length cap).ownBlock=some k) w (z7o (z7o w g i xs[j]) g j xs[i]).drew:=by
  obtain⟨c1,k2,k5,k6⟩:=z8j h2 h5 h6 i xs[j];obtain⟨c2,q2,q5,q6⟩:=z8j k2 k5 k6 j xs[i];have f1:Fr (fun k=>(Go.Value.slice (some ⟨g,0,none⟩) xs.length cap).ownBlock=some k) w (z7o (z7o w g i xs[j]) g j xs[i]):=
   ((Fr.put g i xs[j]).trans (Fr.put g j xs[i]) (fun k _ h=>h)).mono fun k _ hk=>by rw[hk];rfl
  have hl:(z1f xs i j hi hj).length=xs.length:=by simp[z1f]
  exact⟨_,rfl,⟨z0u _,.inr ⟨g,cap,c2,by rw[hl],h1,q2,by omega,h4,q5,q6⟩⟩,f1.drew⟩
 by_cases hij:i=j
 ·subst hij
  go_enter Try.func46,Try.ntmps46
  go_region
  all_goals (refine bodyPost_end (results_none rfl _ _ _) rfl ?_;exact fin)
 ·go_enter Try.func46,Try.ntmps46
  go_region
  all_goals (refine bodyPost_end (results_none rfl _ _ _) rfl ?_;exact fin)
theorem z8k(w:World)(p:Nat)(s:String):(receiverAt 57 (.val (.pointer (some ⟨p,0,none⟩))) false (some s)).run Try.prog w=(loadVar 55 ⟨p,0,none⟩).run Try.prog w:=by kernel_rfl
theorem z8l(w:World)(p:Nat)(s:String):(receiverAt 57 (.val (.pointer (some ⟨p,0,none⟩))) true (some s)).run Try.prog w=.ok (.pointer (some ⟨p,0,none⟩)) w:=by kernel_rfl
theorem z1c{P:Program}{t:TypeId}{v:Go.Value}{name:String}{i:TypeInfo}{f:FuncId}{b:Bool}{ty:TypeId}(n:Nat)(w:World)(hi:P.info? t=some i)(hm:i.methods.find? (·.name == name)=some ⟨name,ty,#[],some (f,b)⟩):
  (method (n + 1) t v name).run P w = ((receiverAt t (.val v) b (some ((name.splitOn ".").getLastD name))).run P w).andThen fun v w' => .ok (f, v) w' := by
 simp[method,typeInfo,hi,hm,follow]
theorem z7X{w:World}{p:Nat}{v:Go.Value}(hp:w.heap[p]?=some (.cells #[v] 55 (0,0))):(loadVar 55 ⟨p,0,none⟩).run Try.prog w=.ok v w:=by
 have hc:w.cell? ⟨p,0,none⟩=some v:=zA hp;simp[loadVar,hc]
theorem z0c {w : World} {p : Nat} {v : Go.Value} (hp : w.heap[p]? = some (.cells #[v] 55 (0, 0))) : (method 183 57 (.pointer (some ⟨p, 0, none⟩)) "Less").run Try.prog w = .ok (45, v) w := by
 obtain ⟨i, hi, hm⟩ : ∃ i, Try.prog.info? 57 = some i ∧ i.methods.find? (·.name == "Less") = some ⟨"Less", 69, #[], some (45, false)⟩ := ⟨_, rfl, by kernel_rfl⟩;rw[z1c 182 w hi hm,z8k,z7X hp];rfl
theorem z0d {w : World} {p : Nat} {v : Go.Value} (hp : w.heap[p]? = some (.cells #[v] 55 (0, 0))) : (method 183 57 (.pointer (some ⟨p, 0, none⟩)) "Swap").run Try.prog w = .ok (46, v) w := by
 obtain ⟨i, hi, hm⟩ : ∃ i, Try.prog.info? 57 = some i ∧ i.methods.find? (·.name == "Swap") = some ⟨"Swap", 64, #[], some (46, false)⟩ := ⟨_, rfl, by kernel_rfl⟩;rw[z1c 182 w hi hm,z8k,z7X hp];rfl
theorem z6C {w : World} {p : Nat} {v : Go.Value} (hp : w.heap[p]? = some (.cells #[v] 55 (0, 0))) : (method 183 57 (.pointer (some ⟨p, 0, none⟩)) "Len").run Try.prog w = .ok (22, v) w := by
 obtain ⟨i, hi, hm⟩ : ∃ i, Try.prog.info? 57 = some i ∧ i.methods.find? (·.name == "Len") = some ⟨"Len", 53, #[], some (22, false)⟩ := ⟨_, rfl, by kernel_rfl⟩;rw[z1c 182 w hi hm,z8k,z7X hp];rfl
theorem z8b (w : World) (p : Nat) : (method 183 57 (.pointer (some ⟨p, 0, none⟩)) "Push").run Try.prog w = .ok (48, .pointer (some ⟨p, 0, none⟩)) w := by
 obtain ⟨i, hi, hm⟩ : ∃ i, Try.prog.info? 57 = some i ∧ i.methods.find? (·.name == "Push") = some ⟨"Push", 62, #[], some (48, true)⟩ := ⟨_, rfl, by kernel_rfl⟩;rw[z1c 182 w hi hm,z8l];rfl
theorem z9q (w : World) (p : Nat) : (method 183 57 (.pointer (some ⟨p, 0, none⟩)) "Pop").run Try.prog w = .ok (47, .pointer (some ⟨p, 0, none⟩)) w := by
 obtain ⟨i, hi, hm⟩ : ∃ i, Try.prog.info? 57 = some i ∧ i.methods.find? (·.name == "Pop") = some ⟨"Pop", 66, #[], some (47, true)⟩ := ⟨_, rfl, by kernel_rfl⟩;rw[z1c 182 w hi hm,z8l];rfl
theorem z2Q{w:World}{base:Nat}{v:Go.Value}{xs:List Edit}(h:Own w base v xs){a b:Int}{i j:Nat}(ha:a=i)(hb:b=j)(hi:i<xs.length)(hj:j<xs.length)(hn:xs.length≤1000000):
  Calls Try.prog 45 #[v,.int .i64 a,.int .i64 b] w fun e w'=>e=.returned (.bool (decide (xs[i].From<xs[j].From)))∧w'=w.drew:=by
 subst ha;subst hb;exact y0a h hi hj hn
theorem z3l{w:World}{base:Nat}{v:Go.Value}{xs:List Edit}(h:Own w base v xs){a b:Int}{i j:Nat}(ha:a=i)(hb:b=j)(hi:i<xs.length)(hj:j<xs.length)(hn:xs.length≤1000000):
  Calls Try.prog 46 #[v,.int .i64 a,.int .i64 b] w fun e w'=>∃v',e=.returned v'∧Own w' base v (z1f xs i j hi hj)∧Fr (fun k=>v.ownBlock=some k) w w':=by
 subst ha;subst hb;exact y0l h hi hj hn
theorem z2I{xs:List Edit}{k:Nat}(h:k<xs.length)(z:Edit):xs.getD k z=xs[k]:=by rw[List.getD_eq_getElem?_getD,List.getElem?_eq_getElem h];rfl
theorem z2G{xs:List Edit}{k:Nat}(h:k<xs.length):fr xs k=xs[k].From:=by unfold fr;rw[z2I h]
theorem z5E{xs:List Edit}{i j:Nat}(hi:i<xs.length)(hj:j<xs.length):z1f xs i j hi hj=swF xs i j:=by unfold swF;rw[z2I hi,z2I hj]
theorem y0j(xs:List Edit)(i j:Nat):(swF xs i j).length=xs.length:=by simp[swF]
set_option maxHeartbeats 4000000 in
theorem y0T{w:World}{base p:Nat}{v:Go.Value}{xs:List Edit}(hp:w.heap[p]?=some (.cells #[v] 55 (0,0)))(h:Own w base v xs)(hv:v.ownBlock≠some p)(hn:xs.length≤1000000){j:Nat}(hj:j<xs.length){r:List Edit}(hr:∃n,j<n∧upF n xs j=r):
  Calls Try.prog 25 #[.iface 57 (.pointer (some ⟨p,0,none⟩)),.int .i64 j] w fun e w'=>e=.returned (.tuple #[])∧r.length=xs.length∧w'.heap[p]?=some (.cells #[v] 55 (0,0))∧Own w' base v r∧Fr (fun k=>v.ownBlock=some k) w w':=by
 go_enter Try.func25,Try.ntmps25
 go_wp2
 go_loopw [1] (fun jv wr=>∃(j:Nat) (ys:List Edit),jv=.int .i64 (j:Int)∧j<ys.length∧ys.length=xs.length∧wr.heap[p]?=some (.cells #[v] 55 (0,0))∧Own wr base v ys∧(∃n,j<n∧upF n ys j=r)∧Fr (fun k=>v.ownBlock=some k) w wr) (fun jv _=>(intOf jv).toNat)
 case atStart=>exact⟨j,xs,rfl,hj,rfl,hp,h,hr,Fr.refl _ _⟩
 case round=>
  obtain⟨j,ys,rfl,hj,hl,hp,h,⟨n,hjn,hr⟩,hf⟩:=hrel;obtain⟨n,rfl⟩:∃m,n=m+1:=⟨n-1,by omega⟩;rw[upF]at hr;by_cases h0:j=0
  ·subst h0;rw[zq1 rfl]at hr;subst hr
   go_wp2
   go_end0
   exact⟨rfl,hl,hp,h,hf⟩
  ·have hi:(j-1) / 2<ys.length:=by omega
   rw[zq0 h0,z2G hj,z2G hi]at hr;have ml:=z0c hp;have ei:((j:Int)-1) / 2=(((j-1) / 2:Nat):Int):=by omega
   have eo:∀k,k<wr.heap.size→wr.drew.heap[k]?=wr.heap[k]?:=fun _ _=>rfl;have e5:(((j-1:Nat):Int) / 2 == (j:Int))=false:=by rw[beq_eq_false_iff_ne];omega
   go_wp2_with fail
   refine(z2Q h (i:=j) (j:=(j-1) / 2) rfl (by omega) hj hi (by omega)).mono ?_;rintro e w1 ⟨rfl,rfl⟩;have ms:=z0d (w:=wr.drew) hp;generalize hb:decide (ys[j].From<ys[(j-1) / 2].From)=b;cases b with
   |true=>
    rw[zq1 (of_decide_eq_true hb),←z5E hi hj]at hr;clear hb
    go_wp2_with fail
    refine(z3l (w:=wr.drew) h (i:=(j-1) / 2) (j:=j) (by omega) rfl hi hj (by omega)).mono ?_;rintro e w2 ⟨v',rfl,h2,f2⟩;have hps:p<wr.heap.size:=(Array.getElem?_eq_some_iff.1 hp).1;have hp2:w2.heap[p]?=some (.cells #[v] 55 (0,0)):=(f2.blk p hps hv).trans hp
    go_wp2_with fail
    go_roundw
    case rel=>exact⟨(j-1) / 2,_,by go_num,by simp[z1f];omega,by simp[z1f];exact hl,hp2,h2,⟨n,by omega,hr⟩,hf.drew.trans f2 (fun _ _ h=>h)⟩
    case measure=>simp[intOf];omega
   |false=>
    rw[zq0 (of_decide_eq_false hb)]at hr;clear hb;subst hr
    go_wp2_with fail
    go_end0
    exact⟨rfl,hl,hp,h,hf.drew⟩
set_option maxHeartbeats 4000000 in
theorem z9T{w:World}{base p:Nat}{v:Go.Value}{xs:List Edit}(hp:w.heap[p]?=some (.cells #[v] 55 (0,0)))(h:Own w base v xs)(hv:v.ownBlock≠some p)(hn:xs.length≤1000000){i n:Nat}(hi:i<xs.length)(hnx:n≤xs.length){r:List Edit}(hr:∃f,n-i<f∧z4g f xs i n=r):
  Calls Try.prog 26 #[.iface 57 (.pointer (some ⟨p,0,none⟩)),.int .i64 i,.int .i64 n] w fun e w'=>∃b,e=.returned (.bool b)∧r.length=xs.length∧w'.heap[p]?=some (.cells #[v] 55 (0,0))∧Own w' base v r∧Fr (fun k=>v.ownBlock=some k) w w':=by
 go_enter Try.func26,Try.ntmps26
 go_wp2
 go_loopw [7] (fun iv wr=>∃(i:Nat) (ys:List Edit),iv=.int .i64 (i:Int)∧i<ys.length∧ys.length=xs.length∧wr.heap[p]?=some (.cells #[v] 55 (0,0))∧Own wr base v ys∧(∃f,n-i<f∧z4g f ys i n=r)∧Fr (fun k=>v.ownBlock=some k) w wr) (fun iv _=>xs.length-(intOf iv).toNat)
 case atStart=>exact⟨i,xs,rfl,hi,rfl,hp,h,hr,Fr.refl _ _⟩
 case round=>
  obtain⟨i,ys,rfl,hi,hl,hp,h,⟨f,hif,hr⟩,hf⟩:=hrel;obtain⟨f,rfl⟩:∃m,f=m+1:=⟨f-1,by omega⟩;rw[z4g]at hr;have hps:p<wr.heap.size:=(Array.getElem?_eq_some_iff.1 hp).1;by_cases h1:2*i+1<n
  ·rw[zq1 h1]at hr;have ml:=z0c hp;have d1:¬(2*(i:Int)+1≥(n:Int)):=by omega
   by_cases h2:2*i+2<n
   ·have hA:2*i+2<ys.length:=by omega
    have hB:2*i+1<ys.length:=by omega
    go_wp2_with fail
    refine(z2Q h (i:=2*i+2) (j:=2*i+1) (by omega) (by omega) hA hB (by omega)).mono ?_;rintro e w1 ⟨rfl,rfl⟩;generalize hc:decide (ys[2*i+2].From<ys[2*i+1].From)=c;rw[←z2G hA,←z2G hB]at hc;cases c with
    |true=>
     have hcc:2*i+2<n∧fr ys (2*i+2)<fr ys (2*i+1):=⟨h2,of_decide_eq_true hc⟩;rw[zq1 hcc]at hr;clear hc hcc;have hj:(2*i+2)<ys.length:=by omega
     rw[z2G hj,z2G hi,←z5E hi hj]at hr;have ml2:=z0c (w:=wr.drew) hp;have ms:=z0d (w:=wr.drew.drew) hp
     go_wp2_with fail
     refine(z2Q (w:=wr.drew) h (i:=(2*i+2)) (j:=i) (by omega) rfl hj hi (by omega)).mono ?_;rintro e w1 ⟨rfl,rfl⟩;generalize hb:decide (ys[(2*i+2)].From<ys[i].From)=b;cases b with
     |true=>
      rw[zq1 (of_decide_eq_true hb)]at hr;clear hb
      go_wp2_with fail
      refine(z3l (w:=wr.drew.drew) h (i:=i) (j:=(2*i+2)) rfl (by omega) hi hj (by omega)).mono ?_;rintro e w2 ⟨v',rfl,hs,f2⟩;have hp2:w2.heap[p]?=some (.cells #[v] 55 (0,0)):=(f2.blk p hps hv).trans hp;have f3:Fr (fun k=>v.ownBlock=some k) w w2:=(show Fr (fun k=>v.ownBlock=some k) w (wr.drew.drew)from⟨hf.os,hf.tape,hf.output,hf.size,hf.blk⟩).trans f2 (fun _ _ h=>h)
      go_wp2_with fail
      go_roundw
      case rel=>exact⟨(2*i+2),_,by go_num,by simp[z1f];omega,by simp[z1f];exact hl,hp2,hs,⟨f,by omega,hr⟩,f3⟩
      case measure=>simp[intOf];omega
     |false=>
      rw[zq0 (of_decide_eq_false hb)]at hr;clear hb;subst hr
      go_wp2_with fail
      go_ret
      exact⟨_,rfl,hl,hp,h,⟨hf.os,hf.tape,hf.output,hf.size,hf.blk⟩⟩
    |false=>
     have hcc:¬(2*i+2<n∧fr ys (2*i+2)<fr ys (2*i+1)):=fun c=>of_decide_eq_false hc c.2;rw[zq0 hcc]at hr;clear hc hcc;have hj:(2*i+1)<ys.length:=by omega
     rw[z2G hj,z2G hi,←z5E hi hj]at hr;have ml2:=z0c (w:=wr.drew) hp;have ms:=z0d (w:=wr.drew.drew) hp
     go_wp2_with fail
     refine(z2Q (w:=wr.drew) h (i:=(2*i+1)) (j:=i) (by omega) rfl hj hi (by omega)).mono ?_;rintro e w1 ⟨rfl,rfl⟩;generalize hb:decide (ys[(2*i+1)].From<ys[i].From)=b;cases b with
     |true=>
      rw[zq1 (of_decide_eq_true hb)]at hr;clear hb
      go_wp2_with fail
      refine(z3l (w:=wr.drew.drew) h (i:=i) (j:=(2*i+1)) rfl (by omega) hi hj (by omega)).mono ?_;rintro e w2 ⟨v',rfl,hs,f2⟩;have hp2:w2.heap[p]?=some (.cells #[v] 55 (0,0)):=(f2.blk p hps hv).trans hp;have f3:Fr (fun k=>v.ownBlock=some k) w w2:=(show Fr (fun k=>v.ownBlock=some k) w (wr.drew.drew)from⟨hf.os,hf.tape,hf.output,hf.size,hf.blk⟩).trans f2 (fun _ _ h=>h)
      go_wp2_with fail
      go_roundw
      case rel=>exact⟨(2*i+1),_,by go_num,by simp[z1f];omega,by simp[z1f];exact hl,hp2,hs,⟨f,by omega,hr⟩,f3⟩
      case measure=>simp[intOf];omega
     |false=>
      rw[zq0 (of_decide_eq_false hb)]at hr;clear hb;subst hr
      go_wp2_with fail
      go_ret
      exact⟨_,rfl,hl,hp,h,⟨hf.os,hf.tape,hf.output,hf.size,hf.blk⟩⟩
   ·rw[zq0 (fun(c:2*i+2<n∧fr ys (2*i+2)<fr ys (2*i+1))=>h2 c.1)]at hr;have hj:(2*i+1)<ys.length:=by omega
    rw[z2G hj,z2G hi,←z5E hi hj]at hr;have ml2:=z0c (w:=wr) hp;have ms:=z0d (w:=wr.drew) hp
    go_wp2_with fail
    refine(z2Q (w:=wr) h (i:=(2*i+1)) (j:=i) (by omega) rfl hj hi (by omega)).mono ?_;rintro e w1 ⟨rfl,rfl⟩;generalize hb:decide (ys[(2*i+1)].From<ys[i].From)=b;cases b with
    |true=>
     rw[zq1 (of_decide_eq_true hb)]at hr;clear hb
     go_wp2_with fail
     refine(z3l (w:=wr.drew) h (i:=i) (j:=(2*i+1)) rfl (by omega) hi hj (by omega)).mono ?_;rintro e w2 ⟨v',rfl,hs,f2⟩;have hp2:w2.heap[p]?=some (.cells #[v] 55 (0,0)):=(f2.blk p hps hv).trans hp;have f3:Fr (fun k=>v.ownBlock=some k) w w2:=(show Fr (fun k=>v.ownBlock=some k) w (wr.drew)from⟨hf.os,hf.tape,hf.output,hf.size,hf.blk⟩).trans f2 (fun _ _ h=>h)
     go_wp2_with fail
     go_roundw
     case rel=>exact⟨(2*i+1),_,by go_num,by simp[z1f];omega,by simp[z1f];exact hl,hp2,hs,⟨f,by omega,hr⟩,f3⟩
     case measure=>simp[intOf];omega
    |false=>
     rw[zq0 (of_decide_eq_false hb)]at hr;clear hb;subst hr
     go_wp2_with fail
     go_ret
     exact⟨_,rfl,hl,hp,h,⟨hf.os,hf.tape,hf.output,hf.size,hf.blk⟩⟩
  ·rw[zq0 h1]at hr;subst hr;have d1:2*(i:Int)+1≥(n:Int):=by omega
   go_wp2_with fail
   all_goals (go_ret;exact⟨_,rfl,hl,hp,h,hf⟩)
abbrev aE(e:Edit):Go.Value:=.agg #[.int .i64 e.From,.int .i64 e.To,.string ⟨⟨e.Text⟩⟩]
theorem z6n(x:Go.Value)(w:World):(Instr.typeAssert (.iface 37 x) 20 37 false).run Try.prog w=.ok x w:=by kernel_rfl
set_option maxHeartbeats 4000000 in
theorem z9v{w:World}{base p:Nat}{v:Go.Value}{xs:List Edit}(hp:w.heap[p]?=some (.cells #[v] 55 (0,0)))(h:Own w base v xs)(hv:v.ownBlock≠some p)(hbp:base≤p)(hn:xs.length+1≤1000000)(e:Edit):
  Calls Try.prog 48 #[.pointer (some ⟨p,0,none⟩),.iface 37 (aE e)] w fun en w'=>∃u v',en=.returned u∧w'.heap[p]?=some (.cells #[v'] 55 (0,0))∧Own w' base v' (xs++[e])∧v'.ownBlock≠some p∧(v'.ownBlock=v.ownBlock∨∃g,v'.ownBlock=some g∧w.heap.size≤g)∧Fr (fun k=>k=p∨v.ownBlock=some k) w w':=by
 have hps:p<w.heap.size:=(Array.getElem?_eq_some_iff.1 hp).1;have hc:w.cell? ⟨p,0,none⟩=some v:=zA hp;have hz:w.frozen? ⟨p,0,none⟩=false:=uM hp;obtain⟨i0,dd,hi,hz1,-⟩:=yK (P:=Try.prog) (t:=37) (n:=3) (by kernel_rfl);have hz2:=uJ (P:=Try.prog) (t:=37) (n:=32) (by kernel_rfl) hi;have hz0:=uK (P:=Try.prog) (t:=37) (z:=.agg #[.int .i64 0,.int .i64 0,.string ⟨#[]⟩]) (by kernel_rfl) hi;have ta:∀(x:Go.Value) (w:World),(Instr.typeAssert (.iface 37 x) 20 37 false).run Try.prog w=.ok x w:=z6n
 obtain⟨O,hO⟩:∃O,O=Obj.cells #[.int .i64 e.From,.int .i64 e.To,.string ⟨⟨e.Text⟩⟩] 37:=⟨_,rfl⟩;have hb1:Below w.heap.size w (w.alloc O).drew:=((Below.refl _ w).alloc (Nat.le_refl _) _).drew;have hsz1:(w.alloc O).drew.heap.size=w.heap.size+1:=Array.size_push ..;have hownD:((w.alloc O).drew).ownsRow base 37 3 v xs.length (cE xs):=wN h hb1;have e9:((w.alloc O).drew).heap[w.heap.size]?=some (.cells #[.int .i64 e.From,.int .i64 e.To,.string ⟨⟨e.Text⟩⟩] 37 (0,0)):=by
  rw[hO];exact Array.getElem?_push_size
 have hnews:∀j u,(vE e)[j]?=some u→((w.alloc O).drew).cell? ((⟨w.heap.size,0,none⟩:Addr).add j)=some u:=by
  intro j u hj
  match j,hj with
  |0,hj=>exact(zA e9).trans hj
  |1,hj=>exact(zA e9).trans hj
  |2,hj=>exact(zA e9).trans hj
 have hone:∀u∈vE e,u.oneCell'=true:=by
  intro u hu;simp only[vE,List.mem_cons,List.not_mem_nil,or_false]at hu;rcases hu with rfl|rfl|rfl<;>rfl
 have h63:xs.length+1≤maxLen:=by unfold maxLen;omega
 have hbb:base≤(w.alloc O).drew.heap.size:=by rw[hsz1];omega
 have hpD:((w.alloc O).drew).heap[p]?=some (.cells #[v] 55 (0,0)):=(hb1.block p hps).trans hp;rw[hO]at *
 go_enter Try.func48,Try.ntmps48
 go_region_law
  (refine z0y rfl (.tmp 7) (.tmp 10) 55 rfl base 37 i0 _ 3 32 Try.underlying55 hi hz0 hz1 hz2 rfl (by decide) v xs.length (cE xs) (by simp[Act.eval,Act.put]) hownD ⟨w.heap.size,0,none⟩ 1 1 (vE e) (by simp[Act.eval,Act.put]) rfl hnews hone h63 (by omega) hbb ?_
   intro v9 W9 hown9 hgrow9 hat9;have g2:W9.heap[p]?=some (.cells #[v] 55 (0,0)):=(hgrow9.block p (by omega) (fun e=>hv e.symm)).trans hpD;have f93:W9.cell? ⟨p,0,none⟩=some v:=zA g2;have f94:W9.frozen? ⟨p,0,none⟩=false:=uM g2;rcases hown9.2 with⟨-,h0⟩|⟨g9,cap9,cur9,rfl,hg90,hg91,hg92,hg93,hg94,hg95⟩
   ·exact absurd h0 (by omega))
 all_goals
  refine bodyPost_end (results_none rfl _ _ _) rfl ?_;have hpl:(xs++[e]).length=xs.length+1:=by simp
  have hgp:g9≠p:=by
   rcases hat9 with h9|h9
   ·intro e9;subst e9;exact hv h9.symm
   ·rw[hsz1]at h9;injection h9 with h9;simp only at h9;omega
  have hs:=heap_setCell_same W9 p 0 _ 55 (.slice (some ⟨g9,0,none⟩) (xs.length+1) cap9) g2;refine⟨_,.slice (some ⟨g9,0,none⟩) (xs.length+1) cap9,rfl,hs,⟨z0u _,.inr ⟨g9,cap9,cur9,by rw[hpl],hg90,?_,by omega,hg93,hg94,?_⟩⟩,?_,?_,?_⟩
  ·exact(heap_setCell_other _ _ _ _ hgp).trans hg91
  ·rw[hpl,hg95,z1D];rfl
  ·intro h9;injection h9 with h9;exact hgp h9
  ·rcases hat9 with h9|h9
   ·exact .inl h9
   ·rw[hsz1]at h9;exact .inr ⟨g9,rfl,by injection h9 with h9;simp only at h9;omega⟩
  ·refine⟨hgrow9.os,hgrow9.tape,hgrow9.output,?_,fun k hk hne=>?_⟩
   ·have h1:=hgrow9.size;rw[hsz1]at h1;have:(W9.setCell ⟨p,0,none⟩ (.slice (some ⟨g9,0,none⟩) (xs.length+1) cap9)).heap.size=W9.heap.size:=by simp[World.setCell]
    show w.heap.size≤(W9.setCell ⟨p,0,none⟩ (.slice (some ⟨g9,0,none⟩) (xs.length+1) cap9)).heap.size;omega
   ·exact(heap_setCell_other _ _ _ _ (fun e=>hne (.inl e))).trans ((hgrow9.block k (by omega) (fun e=>hne (.inr e.symm))).trans (hb1.block k hk))
theorem z6A{w:World}{base:Nat}{v:Go.Value}{xs:List Edit}(h:Own w base v xs)(hn:xs.length≤1000000):Calls Try.prog 22 #[v] w fun e w'=>e=.returned (.int .i64 xs.length)∧w'=w:=by
 obtain⟨ad,cap,rfl⟩:∃ad cap,v=.slice ad xs.length cap:=by
  rcases h.2 with⟨rfl,h0⟩|⟨g,cap,cur,rfl,-⟩
  ·rw[h0];exact⟨_,_,rfl⟩
  ·exact⟨_,_,rfl⟩
 go_enter Try.func22,Try.ntmps22
 go_wp2
 go_ret
 exact⟨rfl,rfl⟩
set_option maxHeartbeats 4000000 in
theorem y0c{w:World}{base p:Nat}{v:Go.Value}{ys:List Edit}{e:Edit}(hp:w.heap[p]?=some (.cells #[v] 55 (0,0)))(h:Own w base v (ys++[e]))(hv:v.ownBlock≠some p)(hn:ys.length+1≤1000000):
  Calls Try.prog 47 #[.pointer (some ⟨p,0,none⟩)] w fun en w'=>∃v',en=.returned (.iface 37 (aE e))∧w'.heap[p]?=some (.cells #[v'] 55 (0,0))∧Own w' base v' ys∧v'.ownBlock=v.ownBlock∧Fr (fun k=>k=p) w w':=by
 have hps:p<w.heap.size:=(Array.getElem?_eq_some_iff.1 hp).1;have hc:w.cell? ⟨p,0,none⟩=some v:=zA hp;have hz:w.frozen? ⟨p,0,none⟩=false:=uM hp;have hl:(ys++[e]).length=ys.length+1:=by simp
 obtain⟨g,cap,cur,rfl,h1,h2,h3,h4,h5,h6⟩:=h.get (by omega);have hgp:g≠p:=fun e=>hv (by rw[e];rfl);obtain⟨a0,a1,a2⟩:=z0o h2 h6 (i:=ys.length) (by omega);have ee:(ys++[e])[ys.length]'(by omega)=e:=by simp
 rw[ee]at a0 a1 a2;have hgs:g<w.heap.size:=(Array.getElem?_eq_some_iff.1 h2).1;rw[hl]at *;have e0:(((ys.length+1:Nat):Int)-1)=((ys.length:Nat):Int):=by omega
 go_enter Try.func47,Try.ntmps47
 go_wp2
 go_ret
 have hs:=heap_setCell_same w p 0 _ 55 (.slice (some ⟨g,0,none⟩) ys.length cap) hp;have hsz:(w.setCell ⟨p,0,none⟩ (.slice (some ⟨g,0,none⟩) ys.length cap)).heap.size=w.heap.size:=by simp[World.setCell]
 have up:∀k,k<w.heap.size→((w.setCell ⟨p,0,none⟩ (.slice (some ⟨g,0,none⟩) ys.length cap)).alloc (Obj.cells #[Value.int IntKind.i64 e.From,Value.int IntKind.i64 e.To,Value.string {data:={toList:=e.Text}}] 37)).heap[k]?=(w.setCell ⟨p,0,none⟩ (.slice (some ⟨g,0,none⟩) ys.length cap)).heap[k]?:=fun k hk=>Below.heap_alloc _ _ _ (by rw[hsz];exact hk)
 refine⟨rfl,.slice (some ⟨g,0,none⟩) ys.length cap,(up p hps).trans hs,⟨z0u _,.inr ⟨g,cap,cur,rfl,h1,?_,by omega,h4,h5,?_⟩⟩,rfl,⟨rfl,rfl,rfl,?_,fun k hk hne=>?_⟩⟩
 ·exact(up g hgs).trans ((heap_setCell_other _ _ _ _ hgp).trans h2)
 ·have:=congrArg (List.take (ys.length*3)) h6;rw[List.take_take,Nat.min_eq_left (by omega),z1D,List.take_append_of_le_length (by rw[z0u];omega),List.take_of_length_le (l:=cE ys) (by rw[z0u];omega)]at this;exact this
 ·show _≤(Array.push _ _).size;rw[Array.size_push,hsz];omega
 ·exact(up k hk).trans (heap_setCell_other _ _ _ _ hne)
set_option maxHeartbeats 4000000 in
theorem y0d{w:World}{base p:Nat}{v:Go.Value}{xs:List Edit}(hp:w.heap[p]?=some (.cells #[v] 55 (0,0)))(h:Own w base v xs)(hv:v.ownBlock≠some p)(hbp:base≤p)(hn:xs.length+1≤1000000)(e:Edit):
  Calls Try.prog 21 #[.iface 57 (.pointer (some ⟨p,0,none⟩)),.iface 37 (aE e)] w fun en w'=>∃u v',en=.returned u∧w'.heap[p]?=some (.cells #[v'] 55 (0,0))∧Own w' base v' (z5A xs e)∧(z5A xs e).length=xs.length+1∧v'.ownBlock≠some p∧(v'.ownBlock=v.ownBlock∨∃g,v'.ownBlock=some g∧w.heap.size≤g)∧Fr (fun k=>k=p∨v.ownBlock=some k) w w':=by
 have m1:=z8b w p
 go_enter Try.func21,Try.ntmps21
 go_wp2_with fail
 refine(z9v hp h hv hbp hn e).mono ?_;rintro en w1 ⟨u1,v1,rfl,hp1,ho1,hv1,hb1,f1⟩;have hl:(xs++[e]).length=xs.length+1:=by simp
 have m2:=z6C hp1;have e0:(((xs.length+1:Nat):Int)-1)=((xs.length:Nat):Int):=by omega
 go_wp2_with fail
 refine(z6A ho1 (by omega)).mono ?_;rintro en w2 ⟨rfl,rfl⟩;rw[hl]
 go_wp2_with fail
 refine(y0T hp1 ho1 hv1 (by omega) (j:=xs.length) (by omega) ⟨xs.length+1,by omega,rfl⟩).mono ?_;rintro en w3 ⟨rfl,hl3,hp3,ho3,f3⟩
 go_wp2_with fail
 go_end0
 refine⟨_,v1,rfl,hp3,ho3,hl3.trans hl,hv1,hb1,f1.trans f3 fun k hk h9=>?_⟩;rcases hb1 with h8|⟨g,h8,h7⟩
 ·exact .inr (h8.symm.trans h9)
 ·rw[h8]at h9;injection h9 with h9;omega
set_option maxHeartbeats 4000000 in
theorem y0E{w:World}{base p:Nat}{v:Go.Value}{xs:List Edit}(hp:w.heap[p]?=some (.cells #[v] 55 (0,0)))(h:Own w base v xs)(hv:v.ownBlock≠some p)(h0:0<xs.length)(hn:xs.length≤1000000):
  Calls Try.prog 23 #[.iface 57 (.pointer (some ⟨p,0,none⟩))] w fun en w'=>∃v' ys e,en=.returned (.iface 37 (aE e))∧z0s xs=ys++[e]∧ys.length+1=xs.length∧w'.heap[p]?=some (.cells #[v'] 55 (0,0))∧Own w' base v' ys∧v'.ownBlock=v.ownBlock∧Fr (fun k=>k=p∨v.ownBlock=some k) w w':=by
 have m1:=z6C hp;have e0:(((xs.length:Nat):Int)-1)=((xs.length-1:Nat):Int):=by omega
 have hps:p<w.heap.size:=(Array.getElem?_eq_some_iff.1 hp).1
 go_enter Try.func23,Try.ntmps23
 go_wp2_with fail
 refine(z6A h (by omega)).mono ?_;rintro en w1 ⟨rfl,rfl⟩;have m2:=z0d hp
 go_wp2_with fail
 refine(z3l h (i:=0) (j:=xs.length-1) rfl (by omega) h0 (by omega) (by omega)).mono ?_;rintro en w2 ⟨u2,rfl,ho2,f2⟩;rw[z5E h0 (by omega)]at ho2;have hp2:=(f2.blk p hps hv).trans hp;have hl2:=y0j xs 0 (xs.length-1)
 go_wp2_with fail
 refine(z9T hp2 ho2 hv (by omega) (i:=0) (n:=xs.length-1) (by omega) (by omega) ⟨xs.length+1,by omega,rfl⟩).mono ?_;rintro en w3 ⟨b3,rfl,hl3,hp3,ho3,f3⟩;have hpl:(z0s xs).length=xs.length:=hl3.trans hl2;obtain⟨ys,e,hye⟩:∃ys e,z0s xs=ys++[e]:=by
  have hne:z0s xs≠[]:=fun c=>by
   rw[c]at hpl;simp at hpl;omega
  exact⟨_,_,(List.dropLast_concat_getLast hne).symm⟩
 have hyl:ys.length+1=xs.length:=by
  rw[hye]at hpl;simp at hpl;omega
 have ho4:Own w3 base v (ys++[e]):=by rw[←hye];exact ho3
 have m3:=z9q w3 p
 go_wp2_with fail
 refine(y0c hp3 ho4 hv (by omega)).mono ?_;rintro en w4 ⟨v4,rfl,hp4,ho5,hv4,f4⟩
 go_wp2_with fail
 go_ret
 have f23:=f2.trans f3 (fun _ _ h=>h);refine⟨v4,ys,e,rfl,hye,hyl,hp4,ho5,hv4,(f23.mono fun k _ hk=>.inr hk).trans f4 fun k _ hk=>.inl hk⟩
theorem gV{w:World}{M:Nat→Nat→Prop}{b o:Nat}{l:List Edit}(hc:RelC w M b o (yN (l.map Edit.toD))){k:Nat}(hk:k<l.length):
  w.cell? ⟨b,o+k*3,none⟩=some (.int .i64 l[k].From)∧w.cell? ⟨b,o+k*3+1,none⟩=some (.int .i64 l[k].To)∧w.cell? ⟨b,o+k*3+2,none⟩=some (.string ⟨⟨l[k].Text⟩⟩):=by
 have hs:yB 3 (l.map Edit.toD):=vK (fun x=>by rw[Edit.toD_eq];rfl);have h:=hc.elem hs (i:=k) (x:=l[k].toD) (by rw[List.getElem?_map,List.getElem?_eq_getElem hk];rfl);rw[Edit.toD_eq]at h;cases h with
 |cons _ _ v0 _ _ c0 _ _ r0 h=>cases h with
 |cons _ _ v1 _ _ c1 _ _ r1 h=>cases h with
 |cons _ _ v2 _ _ c2 _ _ r2 h=>
  cases r0;cases r1;cases r2;exact⟨c0,c1,c2⟩
theorem Fr.below{P:Nat→Prop}{B:Nat}{a b c:World}(h:Below B a b)(f:Fr P b c)(hB:B≤b.heap.size)(hP:∀k,k<B→¬P k):Below B a c:=
 ⟨f.os.trans h.os,f.tape.trans h.tape,f.output.trans h.output,Nat.le_trans h.size f.size,fun k hk=>(f.blk k (by omega) (hP k hk)).trans (h.block k hk)⟩
theorem Own.lt{w:World}{base:Nat}{v:Go.Value}{xs:List Edit}(h:Own w base v xs){g:Nat}(hg:v.ownBlock=some g):base≤g∧g<w.heap.size:=World.ownsRow.lt h _ hg
theorem Own.fr{P:Nat→Prop}{w w':World}{base:Nat}{v:Go.Value}{xs:List Edit}(h:Own w base v xs)(f:Fr P w w')(hP:∀g,v.ownBlock=some g→¬P g):Own w' base v xs:=by
 rcases h with⟨h1,h2|⟨g,cap,cur,rfl,g1,g2,g3⟩⟩
 ·exact⟨h1,.inl h2⟩
 ·exact⟨h1,.inr ⟨g,cap,cur,rfl,g1,(f.blk g (Array.getElem?_eq_some_iff.1 g2).1 (hP g rfl)).trans g2,g3⟩⟩
theorem Fr.alloc(w:World)(o:Obj)(P:Nat→Prop):Fr P w (w.alloc o):=⟨rfl,rfl,rfl,by show _≤(Array.push _ _).size;rw[Array.size_push];omega,fun k hk _=>Below.heap_alloc w o k hk⟩
theorem y0F{w:World}{M:Nat→Nat→Prop}{κ:Kap}{x:Go.Value}{n:Int}{ys:List D}(h:RelV w M x (.sl ys)):ResRel w M κ (.tuple #[x,.int .i64 n]) [.d (.sl ys),.d (.int .i64 n)]:=
 ⟨[x,.int .i64 n],rfl,rfl,fun i u c hu hc=>by
  match i,hu,hc with
  |0,hu,hc=>cases hu;cases hc;exact⟨rfl,.d _ _ h⟩
  |1,hu,hc=>cases hu;cases hc;exact⟨rfl,.d _ _ (.int _ _)⟩,fun _ _ _ h=>by cases h⟩
theorem z8z(w:World)(M:Nat→Nat→Prop):∀l:List Edit,Stand w M (cE l) (yN (l.map Edit.toD))
 |[]=>⟨rfl,fun j u c h=>by simp[cE]at h⟩
 |e::r=>by
  have h:Stand w M (vE e) e.toD.cells:=by
   rw[Edit.toD_eq];refine⟨rfl,fun j u c hu hc=>?_⟩
   match j,hu,hc with
   |0,hu,hc=>cases hu;cases hc;exact⟨rfl,.int _ _⟩
   |1,hu,hc=>cases hu;cases hc;exact⟨rfl,.int _ _⟩
   |2,hu,hc=>cases hu;cases hc;exact⟨rfl,.str _⟩
  exact h.app (z8z w M r)
theorem z5x{w:World}{M:Nat→Nat→Prop}{base:Nat}{v:Go.Value}{l:List Edit}(h:Own w base v l)(hM:∀b o,base≤b→¬M b o):RelV w M v (.sl (l.map Edit.toD)):=by
 have h':w.ownsRow base 37 3 v (l.map Edit.toD).length (cE l):=by rw[zq3];exact h
 exact z5y h' (vK fun x=>Edit.sz x) (z8z w M l) (Keeps.refl _ _) hM
def z3j:Go.Value→Nat
 |.slice _ n _=>n
 |_=>0
set_option maxHeartbeats 4000000 in
theorem z3x(text:Str)(edits:List Edit)(r:List Edit×Int)(h:yW text edits=some r):Trip Try.prog 17 [.d (.str text),.d (.sl (List.map Edit.toD edits))] [] [.d (.sl (List.map Edit.toD r.1)),.d (.int .i64 r.2)] []:=by
 refine⟨⟨_,Try.func17,by rfl,by rfl⟩,fun w M0 κ vs B hv=>?_⟩;unfold yW at h;obtain⟨⟨hel,htl⟩,h⟩:=z1g h;cases hv with
 |cons v1 _ vs1 _ g1 hv=>
  cases hv with
  |cons v2 _ vs2 _ g2 hv=>
   cases hv;cases g1 with
   |d _ _ g1=>
    cases g1;cases g2 with
    |d _ _ g2=>
     obtain⟨ad,cap,rfl,hopen⟩:=z4G g2;rw[zq3]at *;have ta:∀(x:Go.Value) (w:World),(Instr.typeAssert (.iface 37 x) 20 37 false).run Try.prog w=.ok x w:=z6n;have hnil:Own w w.heap.size (.slice none 0 0) []:=⟨rfl,.inl ⟨rfl,rfl⟩⟩;have hp0:(w.alloc (Obj.cells #[Value.slice none 0 0] 55)).heap[w.heap.size]?=some (.cells #[Value.slice none 0 0] 55 (0,0)):=Array.getElem?_push_size;generalize hX:jO (List.length text) edits []=X at h;obtain⟨i0,dd,hi,hz1,-⟩:=yK (P:=Try.prog) (t:=37) (n:=3) (by kernel_rfl)
     have hz2:=uJ (P:=Try.prog) (t:=37) (n:=32) (by kernel_rfl) hi;have hz0:=uK (P:=Try.prog) (t:=37) (z:=.agg #[.int .i64 0,.int .i64 0,.string ⟨#[]⟩]) (by kernel_rfl) hi
     go_enter Try.func17,Try.ntmps17
     go_wp2_with fail
     go_loopw [14] (fun i wr=>∃(k:Nat) (v:Go.Value) (hs:List Edit),i=.int .i64 (k:Int)∧k≤edits.length∧wr.heap[w.heap.size]?=some (.cells #[v] 55 (0,0))∧Own wr w.heap.size v hs∧v.ownBlock≠some w.heap.size∧jO (List.length text) (edits.drop k) hs=X∧hs.length=k∧Below w.heap.size w wr) (fun i _=>edits.length-(intOf i).toNat)
     case atStart=>exact⟨0,_,[],rfl,Nat.zero_le _,hp0,hnil.fr (P:=fun _=>False) (Fr.alloc _ _ _) (fun _ _ h=>h),(fun h=>by cases h),hX,rfl,(Below.refl _ w).alloc (Nat.le_refl _) _⟩
     case round=>
      obtain⟨k,v,hs,rfl,hk,hp,ho,hv,hpa,hsl,hbw⟩:=hrel;have hps:w.heap.size<wr.heap.size:=(Array.getElem?_eq_some_iff.1 hp).1;by_cases hlt:k<edits.length
      ·obtain⟨b,o,rfl,hc⟩:=hopen (fun e=>by have:=congrArg List.length e;simp at this;rw[this]at hlt;simp at hlt);obtain⟨c0,c1,c2⟩:=gV hc hlt;have d0:=(hbw.cell (p:=⟨b,o+k*3,none⟩) (vS c0)).trans c0;have d1:=(hbw.cell (p:=⟨b,o+k*3+1,none⟩) (vS c1)).trans c1;have d2:=(hbw.cell (p:=⟨b,o+k*3+2,none⟩) (vS c2)).trans c2;rw[List.drop_eq_getElem_cons hlt,jO]at hpa;generalize edits[k]=e at *;by_cases x1:e.From<0
       ·rw[zq1 (.inl x1)]at hpa;subst hpa
        go_wp2_with fail
        go_ret2
        cases h;exact⟨_,rfl,κ,yY B (hbw.alloc hbw.size _),y0F .nil⟩
       ·by_cases x2:e.From>e.To
        ·rw[zq1 (.inr (.inl x2))]at hpa;subst hpa
         go_wp2_with fail
         go_ret2
         cases h;exact⟨_,rfl,κ,yY B (hbw.alloc hbw.size _),y0F .nil⟩
        ·by_cases x3:e.To>(List.length text:Int)
         ·rw[zq1 (.inr (.inr x3))]at hpa;subst hpa
          go_wp2_with fail
          go_ret2
          cases h;exact⟨_,rfl,κ,yY B (hbw.alloc hbw.size _),y0F .nil⟩
         ·rw[zq0 (fun c=>c.elim x1 fun c=>c.elim x2 x3)]at hpa
          go_wp2_with fail
          have hfa:=Fr.alloc wr (Obj.cells #[Value.int IntKind.i64 e.From,Value.int IntKind.i64 e.To,Value.string {data:={toList:=e.Text}}] 37) (fun _=>False);refine(y0d (w:=wr.alloc (Obj.cells #[Value.int IntKind.i64 e.From,Value.int IntKind.i64 e.To,Value.string {data:={toList:=e.Text}}] 37)) ((hfa.blk _ hps id).trans hp) (ho.fr hfa fun _ _=>id) hv (Nat.le_refl _) (by omega) e).mono ?_;rintro en w2 ⟨u2,v2,rfl,hp2,ho2,hl2,hv2,hb2,f2⟩
          have hbw2:Below w.heap.size w w2:=f2.below (hbw.alloc hbw.size _) (Nat.le_trans hbw.size hfa.size) fun k9 hk9 h9=>by
           rcases h9 with h9|h9
           ·omega
           ·have:=(ho.lt h9).1;omega
          clear hfa f2 hbw ho hp hb2
          go_wp2_with fail
          go_roundw
          case rel=>exact⟨k+1,v2,_,by go_num,hlt,hp2,ho2,hv2,hpa,by omega,hbw2⟩
          case measure=>simp[intOf];omega
      ·have hke:k=edits.length:=by omega
       subst hke;rw[List.drop_eq_nil_of_le (Nat.le_refl _),jO]at hpa;subst hpa;simp only at h;generalize hY:z3d (hs.length+1) hs []=Y at h
       go_wp2_with fail
       go_loopw [9] (fun vo9 w9=>∃(f:Nat) (v vo:Go.Value) (hs out:List Edit),vo9=vo∧w9.heap[w.heap.size]?=some (.cells #[v] 55 (0,0))∧Own w9 w.heap.size v hs∧v.ownBlock≠some w.heap.size∧Own w9 w.heap.size vo out∧vo.ownBlock≠some w.heap.size∧(∀g,vo.ownBlock=some g→v.ownBlock≠some g)∧z3d f hs out=Y∧hs.length<f∧hs.length+out.length=edits.length∧Below w.heap.size w w9) (fun vo _=>edits.length-z3j vo)
       case atStart=>exact⟨hs.length+1,v,_,hs,[],rfl,hp,ho,hv,⟨rfl,.inl ⟨rfl,rfl⟩⟩,(fun h=>by cases h),(fun g h=>by cases h),hY,by omega,by simpa using hsl,hbw⟩
       case round=>
        clear hY hp ho hv hbw hps hsl;obtain⟨f,v,vo,hs,out,hu9,hp,ho,hv,hoo,hvo,hne,hpo,hf,hlen,hbw⟩:=hrel;have hu9:=hu9.symm;subst hu9;obtain⟨f,rfl⟩:∃m,f=m+1:=⟨f-1,by omega⟩;rw[z3d]at hpo;have hps:w.heap.size<wr.heap.size:=(Array.getElem?_eq_some_iff.1 hp).1;have hc:wr.cell? ⟨w.heap.size,0,none⟩=some v:=zA hp;by_cases h0:hs.length=0
        ·rw[zq1 h0]at hpo;subst hpo;cases h
         go_wp2_with fail
         refine(z6A ho (by omega)).mono ?_;rintro en w2 ⟨rfl,rfl⟩;rw[h0]
         go_wp2_with fail
         go_ret2
         exact⟨_,rfl,κ,yY B hbw,y0F (z5x hoo fun b o hb=>z2H B hb)⟩
        ·rw[zq0 h0]at hpo
         go_wp2_with fail
         refine(z6A ho (by omega)).mono ?_;rintro en w2 ⟨rfl,rfl⟩;have hg0:(hs.length:Int)>0:=by omega
         go_wp2_with fail
         refine(y0E hp ho hv (by omega) (by omega)).mono ?_;rintro en w2 ⟨v2,ys,e,rfl,hye,hyl,hp2,ho2,hv2,f2⟩;have hE:(z0s hs).getD (hs.length-1) ⟨0,0,[]⟩=e:=by
          rw[hye,show hs.length-1=ys.length by omega,z2I (by simp)];simp
         have hT:(z0s hs).take (hs.length-1)=ys:=by
          rw[hye,show hs.length-1=ys.length by omega,List.take_left]
         rw[hE,hT]at hpo;have hoo2:=hoo.fr f2 (fun g hg c=>c.elim (fun c=>hvo (by rw[hg,c])) (fun c=>hne g hg c));have hbw2:Below w.heap.size w w2:=f2.below hbw hbw.size fun k9 hk9 h9=>by
          rcases h9 with h9|h9
          ·omega
          ·have:=(ho.lt h9).1;omega
         have hne2:∀g,vo.ownBlock=some g→v2.ownBlock≠some g:=by rw[hv2];exact hne
         have hv3:v2.ownBlock≠some w.heap.size:=by rw[hv2];exact hv
         clear f2 hp ho hoo hbw hne hc hv hv2 hE hT hye;by_cases ho0:out.length=0
         ·have ho1:out=[]:=List.eq_nil_of_length_eq_zero ho0;subst ho1;clear ho0;rw[zq0 (fun c=>absurd c.1 (by simp))]at hpo;obtain⟨ad9,cap9,rfl⟩:∃ad9 cap9,vo=.slice ad9 0 cap9:=by
           rcases hoo2.2 with⟨rfl,h⟩|⟨g,cap,cur,rfl,-⟩
           ·exact⟨_,_,rfl⟩
           ·exact⟨_,_,rfl⟩
          go_wp2_with fail
          go_quiet (fail)
          obtain⟨W,hW⟩:∃W,W=(w2.alloc (Obj.cells #[Value.int IntKind.i64 e.From,Value.int IntKind.i64 e.To,Value.string {data:={toList:=e.Text}}] 37)).drewN nq:=⟨_,rfl⟩;rw[←hW];have hfW:Fr (fun _=>False) w2 W:=by
           have:=Fr.alloc w2 (Obj.cells #[Value.int IntKind.i64 e.From,Value.int IntKind.i64 e.To,Value.string {data:={toList:=e.Text}}] 37) (fun _=>False);rw[hW];exact⟨this.os,this.tape,this.output,this.size,this.blk⟩
          have hsW:W.heap.size=w2.heap.size+1:=by rw[hW];exact Array.size_push ..
          have hcW:W.heap[w2.heap.size]?=some (.cells #[Value.int IntKind.i64 e.From,Value.int IntKind.i64 e.To,Value.string {data:={toList:=e.Text}}] 37 (0,0)):=by rw[hW];exact Array.getElem?_push_size
          clear hW;have q0:W.cell? ⟨w2.heap.size,0,none⟩=some (.int .i64 e.From):=zA hcW;have q1:W.cell? ⟨w2.heap.size,1,none⟩=some (.int .i64 e.To):=zA hcW;have q2:W.cell? ⟨w2.heap.size,2,none⟩=some (.string ⟨⟨e.Text⟩⟩):=zA hcW;have hpW:=(hfW.blk _ (by have:=(Array.getElem?_eq_some_iff.1 hp2).1;omega) id).trans hp2;have hoW:=ho2.fr hfW fun _ _=>id;have hooW:=hoo2.fr hfW fun _ _=>id;have hbW:=hfW.below hbw2 hbw2.size fun _ _=>id
          have hvW:∀g,v2.ownBlock=some g→g<W.heap.size:=fun g hg=>(hoW.lt hg).2;have hsb:=hbW.size;clear hfW hp2 ho2 hoo2 hbw2 hcW hsW;have hfa:=Fr.alloc W (Obj.cells #[Value.int IntKind.i64 e.From,Value.int IntKind.i64 e.To,Value.string {data:={toList:=e.Text}}] 37) (fun _=>False);have hp3:=(hfa.blk _ (Array.getElem?_eq_some_iff.1 hpW).1 id).trans hpW;have hoA:=hooW.fr hfa fun _ _=>id
          have hcA:(W.alloc (Obj.cells #[Value.int IntKind.i64 e.From,Value.int IntKind.i64 e.To,Value.string {data:={toList:=e.Text}}] 37)).heap[W.heap.size]?=some (.cells #[Value.int IntKind.i64 e.From,Value.int IntKind.i64 e.To,Value.string {data:={toList:=e.Text}}] 37 (0,0)):=Array.getElem?_push_size;have hszA:(W.alloc (Obj.cells #[Value.int IntKind.i64 e.From,Value.int IntKind.i64 e.To,Value.string {data:={toList:=e.Text}}] 37)).heap.size=W.heap.size+1:=Array.size_push ..
          go_wp2_with (at_builtin;refine wpList_append_own_at _ rfl _ _ 22 rfl w.heap.size 37 i0 (.agg #[.int .i64 0,.int .i64 0,.string ⟨#[]⟩]) 3 32 Try.underlying22 hi hz0 hz1 hz2 rfl (by decide) _ _ _ rfl hoA ⟨W.heap.size,0,none⟩ 1 1 (vE e) rfl rfl ?c1 ?c2 ?c3 ?c4 ?c5 ?_)
          case c1=>
           intro j u hj
           match j,hj with
           |0,hj=>exact(zA hcA).trans hj
           |1,hj=>exact(zA hcA).trans hj
           |2,hj=>exact(zA hcA).trans hj
          case c2=>
           intro u hu;simp only[vE,List.mem_cons,List.not_mem_nil,or_false]at hu;rcases hu with rfl|rfl|rfl<;>rfl
          case c3=>unfold maxLen;omega
          case c4=>omega
          case c5=>omega
          ·intro v9 w9 hown9 hgrow9 hnil9 hat9;have f9:Fr (fun k=>(Go.Value.slice ad9 0 cap9).ownBlock=some k) (W.alloc (Obj.cells #[Value.int IntKind.i64 e.From,Value.int IntKind.i64 e.To,Value.string {data:={toList:=e.Text}}] 37)) w9:=⟨hgrow9.os,hgrow9.tape,hgrow9.output,hgrow9.size,fun k hk hne=>hgrow9.block k hk fun e=>hne e.symm⟩;have hp4:=(f9.blk _ (Array.getElem?_eq_some_iff.1 hp3).1 hvo).trans hp3;have ho4:=(hoW.fr hfa fun _ _=>id).fr f9 fun g hg c=>hne2 g c hg
           have hb4:Below w.heap.size w w9:=f9.below (hbW.alloc hbW.size _) (by rw[hszA];omega) fun k hk c=>by have:=(hooW.lt c).1;omega
           have own9:Own w9 w.heap.size v9 (([]:List Edit)++[e]):=by
            unfold Own;rw[z1D,List.length_append];exact hown9
           have hvo9:v9.ownBlock≠some w.heap.size:=by
            rcases hat9 with h9|h9
            ·rw[h9];exact hvo
            ·rw[h9];intro c;injection c with c;omega
           have hne9:∀g,v9.ownBlock=some g→v2.ownBlock≠some g:=by
            intro g hg c;rcases hat9 with h9|h9
            ·exact hne2 g (h9.symm.trans hg) c
            ·rw[h9]at hg;injection hg with hg;have:=hvW g c;omega
           have hsl9:z3j v9=([]:List Edit).length+1:=by
            rcases own9.2 with⟨-,h9⟩|⟨g,cap,cur,rfl,-⟩
            ·simp at h9
            ·simp[z3j]
           clear f9 hgrow9 hown9 hat9 hnil9 hp3 hoA hcA hfa hpW hoW hooW hbW hne2
           go_wp2_with fail
           go_roundw
           case rel=>exact⟨f,v2,v9,ys,_,rfl,hp4,ho4,hv3,own9,hvo9,hne9,hpo,by omega,by simp at hlen ⊢;omega,hb4⟩
           case measure=>
            show edits.length-z3j v9<edits.length-z3j (Go.Value.slice ad9 0 cap9);rw[hsl9,show z3j (Go.Value.slice ad9 0 cap9)=([]:List Edit).length from rfl];omega
         ·obtain⟨g,cap9,cur,rfl,k1,k2,k3,k4,k5,k6⟩:=hoo2.get (by omega);obtain⟨-,b1,-⟩:=z0o k2 k6 (i:=out.length-1) (by omega);rw[z2I (by omega)]at hpo;have hfb:=Fr.alloc w2 (Obj.cells #[Value.int IntKind.i64 e.From,Value.int IntKind.i64 e.To,Value.string {data:={toList:=e.Text}}] 37) (fun _=>False);have b1':=(World.cell?_of_block (a:=⟨g,(out.length-1)*3+1,none⟩) (hfb.blk g (Array.getElem?_eq_some_iff.1 k2).1 id)).trans b1;have eL:((out.length:Int)-1)=((out.length-1:Nat):Int):=by omega
          have pL:decide (0<(out.length:Int))=true:=decide_eq_true (by omega);have pG:(out.length:Int)>0:=by omega
          have pN:0<out.length:=by omega
          have pD:decide (0<out.length)=true:=decide_eq_true pN;by_cases hle:e.From≤out[out.length-1].To
          ·rw[zq1 ⟨by omega,hle⟩]at hpo;subst hpo;cases h
           go_wp2_with fail
           go_quiet (fail)
           go_wp2_with fail
           go_ret2
           have hbq:Below w.heap.size w (w2.alloc (Obj.cells #[Value.int IntKind.i64 e.From,Value.int IntKind.i64 e.To,Value.string {data:={toList:=e.Text}}] 37)):=hbw2.alloc hbw2.size _;exact⟨_,rfl,κ,yY B ⟨hbq.os,hbq.tape,hbq.output,hbq.size,hbq.block⟩,y0F .nil⟩
          ·rw[zq0 (fun c=>hle c.2)]at hpo
           go_wp2_with fail
           go_quiet (fail)
           obtain⟨W,hW⟩:∃W,W=(w2.alloc (Obj.cells #[Value.int IntKind.i64 e.From,Value.int IntKind.i64 e.To,Value.string {data:={toList:=e.Text}}] 37)).drewN nq:=⟨_,rfl⟩;rw[←hW];have hfW:Fr (fun _=>False) w2 W:=by
            have:=Fr.alloc w2 (Obj.cells #[Value.int IntKind.i64 e.From,Value.int IntKind.i64 e.To,Value.string {data:={toList:=e.Text}}] 37) (fun _=>False);rw[hW];exact⟨this.os,this.tape,this.output,this.size,this.blk⟩
           have hsW:W.heap.size=w2.heap.size+1:=by rw[hW];exact Array.size_push ..
           have hcW:W.heap[w2.heap.size]?=some (.cells #[Value.int IntKind.i64 e.From,Value.int IntKind.i64 e.To,Value.string {data:={toList:=e.Text}}] 37 (0,0)):=by rw[hW];exact Array.getElem?_push_size
           clear hW;have q0:W.cell? ⟨w2.heap.size,0,none⟩=some (.int .i64 e.From):=zA hcW;have q1:W.cell? ⟨w2.heap.size,1,none⟩=some (.int .i64 e.To):=zA hcW;have q2:W.cell? ⟨w2.heap.size,2,none⟩=some (.string ⟨⟨e.Text⟩⟩):=zA hcW;have hpW:=(hfW.blk _ (by have:=(Array.getElem?_eq_some_iff.1 hp2).1;omega) id).trans hp2;have hoW:=ho2.fr hfW fun _ _=>id;have hooW:=hoo2.fr hfW fun _ _=>id;have hbW:=hfW.below hbw2 hbw2.size fun _ _=>id
           have hvW:∀g,v2.ownBlock=some g→g<W.heap.size:=fun g hg=>(hoW.lt hg).2;have hsb:=hbW.size;clear hfW hp2 ho2 hoo2 hbw2 hcW hsW;have hfa:=Fr.alloc W (Obj.cells #[Value.int IntKind.i64 e.From,Value.int IntKind.i64 e.To,Value.string {data:={toList:=e.Text}}] 37) (fun _=>False);have hp3:=(hfa.blk _ (Array.getElem?_eq_some_iff.1 hpW).1 id).trans hpW;have hoA:=hooW.fr hfa fun _ _=>id
           have hcA:(W.alloc (Obj.cells #[Value.int IntKind.i64 e.From,Value.int IntKind.i64 e.To,Value.string {data:={toList:=e.Text}}] 37)).heap[W.heap.size]?=some (.cells #[Value.int IntKind.i64 e.From,Value.int IntKind.i64 e.To,Value.string {data:={toList:=e.Text}}] 37 (0,0)):=Array.getElem?_push_size;have hszA:(W.alloc (Obj.cells #[Value.int IntKind.i64 e.From,Value.int IntKind.i64 e.To,Value.string {data:={toList:=e.Text}}] 37)).heap.size=W.heap.size+1:=Array.size_push ..
           go_wp2_with (at_builtin;refine wpList_append_own_at _ rfl _ _ 22 rfl w.heap.size 37 i0 (.agg #[.int .i64 0,.int .i64 0,.string ⟨#[]⟩]) 3 32 Try.underlying22 hi hz0 hz1 hz2 rfl (by decide) _ _ _ rfl hoA ⟨W.heap.size,0,none⟩ 1 1 (vE e) rfl rfl ?c1 ?c2 ?c3 ?c4 ?c5 ?_)
           case c1=>
            intro j u hj
            match j,hj with
            |0,hj=>exact(zA hcA).trans hj
            |1,hj=>exact(zA hcA).trans hj
            |2,hj=>exact(zA hcA).trans hj
           case c2=>
            intro u hu;simp only[vE,List.mem_cons,List.not_mem_nil,or_false]at hu;rcases hu with rfl|rfl|rfl<;>rfl
           case c3=>unfold maxLen;omega
           case c4=>omega
           case c5=>omega
           ·intro v9 w9 hown9 hgrow9 hnil9 hat9;have f9:Fr (fun k=>(Go.Value.slice (some ⟨g,0,none⟩) out.length cap9).ownBlock=some k) (W.alloc (Obj.cells #[Value.int IntKind.i64 e.From,Value.int IntKind.i64 e.To,Value.string {data:={toList:=e.Text}}] 37)) w9:=⟨hgrow9.os,hgrow9.tape,hgrow9.output,hgrow9.size,fun k hk hne=>hgrow9.block k hk fun e=>hne e.symm⟩;have hp4:=(f9.blk _ (Array.getElem?_eq_some_iff.1 hp3).1 hvo).trans hp3;have ho4:=(hoW.fr hfa fun _ _=>id).fr f9 fun g hg c=>hne2 g c hg
            have hb4:Below w.heap.size w w9:=f9.below (hbW.alloc hbW.size _) (by rw[hszA];omega) fun k hk c=>by have:=(hooW.lt c).1;omega
            have own9:Own w9 w.heap.size v9 (out++[e]):=by
             unfold Own;rw[z1D,List.length_append];exact hown9
            have hvo9:v9.ownBlock≠some w.heap.size:=by
             rcases hat9 with h9|h9
             ·rw[h9];exact hvo
             ·rw[h9];intro c;injection c with c;omega
            have hne9:∀g,v9.ownBlock=some g→v2.ownBlock≠some g:=by
             intro g hg c;rcases hat9 with h9|h9
             ·exact hne2 g (h9.symm.trans hg) c
             ·rw[h9]at hg;injection hg with hg;have:=hvW g c;omega
            have hsl9:z3j v9=out.length+1:=by
             rcases own9.2 with⟨-,h9⟩|⟨g,cap,cur,rfl,-⟩
             ·simp at h9
             ·simp[z3j]
            clear f9 hgrow9 hown9 hat9 hnil9 hp3 hoA hcA hfa hpW hoW hooW hbW hne2
            go_wp2_with fail
            go_roundw
            case rel=>exact⟨f,v2,v9,ys,_,rfl,hp4,ho4,hv3,own9,hvo9,hne9,hpo,by omega,by simp at hlen ⊢;omega,hb4⟩
            case measure=>
             show edits.length-z3j v9<edits.length-z3j (Go.Value.slice (some ⟨g,0,none⟩) out.length cap9);rw[hsl9,show z3j (Go.Value.slice (some ⟨g,0,none⟩) out.length cap9)=out.length from rfl];omega
open Go.RowKit Go.Shelf
theorem z7t{T e:TypeId}{B b:Nat}{bs:List Go.Value}{w w':World}{row:Option Nat}(h:Lib.IsBuilderF T e B b bs w)(hg:w.grownBy w' row)(hb:some b≠row)(hr:∀k,row=some k→∀cur fz,w.heap[k]?≠some (.cells cur e fz)):Lib.IsBuilderF T e B b bs w':=by
 have one:∀p,Lib.BuilderAtF T e B b p bs w→Lib.BuilderAtF T e B b p bs w':=fun p ⟨h1,v,h2,h3,h4⟩=>by
  have hlt:b<w.heap.size:=(Array.getElem?_eq_some_iff.1 h2).1;refine⟨h1,v,by rw[hg.block b hlt hb];exact h2,h3.kept hg ?_,h4⟩;rcases h3.2 with⟨rfl,-⟩|⟨g,cap,cur,fz,rfl,-,h5,-⟩
  ·exact .inl rfl
  ·exact .inr fun e=>hr g e.symm cur fz h5
 exact h.elim (fun x=>.inl (one _ x)) (fun x=>.inr (one _ x))
abbrev vR(e:Region):List Go.Value:=[.int .i64 e.FromP,.int .i64 e.ToP,.int .i64 e.FromQ,.int .i64 e.ToQ]
def cR:List Region→List Go.Value
 |[]=>[]
 |e::r=>vR e++cR r
theorem y0A(a b:List Region):cR (a++b)=cR a++cR b:=by
 induction a with
 |nil=>rfl
 |cons e r ih=>simp[cR,ih]
abbrev OwnR(w:World)(base:Nat)(v:Go.Value)(xs:List Region):Prop:=w.ownsRow base 39 4 v xs.length (cR xs)
theorem z8A(w:World)(M:Nat→Nat→Prop):∀l:List Region,Stand w M (cR l) (yN (l.map Region.toD))
 |[]=>⟨rfl,fun j u c h=>by simp[cR]at h⟩
 |e::r=>by
  have h:Stand w M (vR e) e.toD.cells:=by
   rw[Region.toD_eq];refine⟨rfl,fun j u c hu hc=>?_⟩
   match j,hu,hc with
   |0,hu,hc=>cases hu;cases hc;exact⟨rfl,.int _ _⟩
   |1,hu,hc=>cases hu;cases hc;exact⟨rfl,.int _ _⟩
   |2,hu,hc=>cases hu;cases hc;exact⟨rfl,.int _ _⟩
   |3,hu,hc=>cases hu;cases hc;exact⟨rfl,.int _ _⟩
  exact h.app (z8A w M r)
theorem z5Y{w:World}{M:Nat→Nat→Prop}{base:Nat}{v:Go.Value}{l:List Region}(h:OwnR w base v l)(hM:∀b o,base≤b→¬M b o):RelV w M v (.sl (l.map Region.toD)):=by
 have h':w.ownsRow base 39 4 v (l.map Region.toD).length (cR l):=by rw[zq3];exact h
 exact z5y h' (vK fun x=>Region.sz x) (z8A w M l) (Keeps.refl _ _) hM
theorem OwnR.kept{w w':World}{base:Nat}{v:Go.Value}{xs:List Region}{b:Nat}(h:OwnR w base v xs)(hv:v.ownBlock≠some b)(k:Lib.OthersKept 5 (some b) w w'):OwnR w' base v xs:=by
 rcases h with⟨h1,h2|⟨g,cap,cur,rfl,g1,g2,g3⟩⟩
 ·exact⟨h1,.inl h2⟩
 ·exact⟨h1,.inr ⟨g,cap,cur,rfl,g1,k g _ g2 (fun e=>hv (by rw[←e];rfl)) (fun c fz e=>by injection e with _ e;cases e),g3⟩⟩
theorem OwnR.ne5{w:World}{base:Nat}{v:Go.Value}{xs:List Region}(h:OwnR w base v xs):∀k,v.ownBlock=some k→∀cur fz,w.heap[k]?≠some (.cells cur 5 fz):=by
 intro k hk cur fz e;rcases h with⟨-,⟨rfl,-⟩|⟨g,cap,cur',rfl,-,g2,-⟩⟩
 ·cases hk
 ·injection hk with hk;subst hk;rw[g2]at e;injection e with e;injection e with _ e;cases e
theorem OwnR.ne37{w:World}{base:Nat}{v:Go.Value}{xs:List Region}(h:OwnR w base v xs){k:Nat}{c:Array Go.Value}{fz:Nat×Nat}(hk:w.heap[k]?=some (.cells c 37 fz)):v.ownBlock≠some k:=by
 intro e;rcases h with⟨-,⟨rfl,-⟩|⟨g,cap,cur',rfl,-,g2,-⟩⟩
 ·cases e
 ·injection e with e;subst e;rw[g2]at hk;injection hk with e;injection e with _ e;cases e
theorem z7D(s:List UInt8)(l h:Nat):(ByteArray.mk ⟨s⟩).extract l h=ByteArray.mk ⟨(s.take h).drop l⟩:=by
 apply ByteArray.ext;apply Array.ext';simp[List.extract_eq_take_drop,List.drop_take]
theorem z8v(w:World)(s:List UInt8)(i j:Int)(h0:0≤i)(h1:i≤j)(h2:j≤(s.length:Int)):(Instr.slice 9 (.string ⟨⟨s⟩⟩) (some (.int .i64 i)) (some (.int .i64 j)) none).run Try.prog w=.ok (.string ⟨⟨(s.take j.toNat).drop i.toNat⟩⟩) w:=by
 rw[run_slice_string w 9 ⟨⟨s⟩⟩ _ _ i j Try.underlying9 h0 h1 h2,z7D]
theorem z7j(w:World)(s:List UInt8)(i:Int)(h0:0≤i)(h2:i≤(s.length:Int)):(Instr.slice 9 (.string ⟨⟨s⟩⟩) (some (.int .i64 i)) none none).run Try.prog w=.ok (.string ⟨⟨s.drop i.toNat⟩⟩) w:=by
 rw[run_slice_string_from_if w 9 ⟨⟨s⟩⟩ _ i Try.underlying9,zq1 ⟨h0,h2⟩,z7D];congr 4;show(s.take s.length).drop i.toNat=_;rw[List.take_length]
theorem z6J(n:Int):IntKind.wrap .i64 n=wrap64 n:=by rw[IntKind.wrap_i64];unfold wrap64;omega
theorem y0K{w:World}{M:Nat→Nat→Prop}{κ:Kap}{x:Go.Value}{n:Int}{s:List UInt8}{ys:List D}(h:RelV w M x (.sl ys)):ResRel w M κ (.tuple #[.string ⟨⟨s⟩⟩,x,.int .i64 n]) [.d (.str s),.d (.sl ys),.d (.int .i64 n)]:=
 ⟨[.string ⟨⟨s⟩⟩,x,.int .i64 n],rfl,rfl,fun i u c hu hc=>by
  match i,hu,hc with
  |0,hu,hc=>cases hu;cases hc;exact⟨rfl,.d _ _ (.str _)⟩
  |1,hu,hc=>cases hu;cases hc;exact⟨rfl,.d _ _ h⟩
  |2,hu,hc=>cases hu;cases hc;exact⟨rfl,.d _ _ (.int _ _)⟩,fun _ _ _ h=>by cases h⟩
set_option maxHeartbeats 4000000 in
theorem gQ(text:Str)(edits:List Edit)(r:Str×List Region×Int)(h:zV text edits=some r):Trip Try.prog 15 [.d (.str text),.d (.sl (List.map Edit.toD edits))] [] [.d (.str r.1),.d (.sl (List.map Region.toD r.2.1)),.d (.int .i64 r.2.2)] []:=by
 refine⟨⟨_,Try.func15,by rfl,by rfl⟩,fun w M0 κ vs B hv=>?_⟩;unfold zV at h;obtain⟨q,hq,h⟩:=yA h;obtain⟨hql,h⟩:=z1g h;cases hv with
 |cons v1 _ vs1 _ g1 hv=>
  cases hv with
  |cons v2 _ vs2 _ g2 hv=>
   cases hv;cases g1 with
   |d _ _ g1=>
    cases g1;cases g2 with
    |d _ _ g2=>
     obtain⟨ad,cap,rfl,hopen⟩:=z4G g2;rw[zq3]at *
     go_enter Try.func15,Try.ntmps15
     go_wp2_with fail
     refine((z3x text edits q hq).2 w noM kN _ z5z (.cons _ _ _ _ (.d _ _ (.str _)) (.cons _ _ _ _ (.d _ _ (g2.keep (z9n (Below.refl _ w)))) .nil))).mono ?_;rintro e W1 ⟨v1,κ1,rfl,A1,hres⟩;obtain⟨l,en⟩:=q;have bel1:=z5J A1;obtain⟨x1,rfl,hx1⟩:∃x1,v1=.tuple #[x1,.int .i64 en]∧RelV W1 (Mut noM κ1) x1 (.sl (l.map Edit.toD)):=by
      obtain⟨vs,rfl,hl,hr,-⟩:=hres
      match vs,hl,hr with
      |[x,y],_,hr=>
       have r0:=(hr 0 x _ rfl rfl).2;have r1:=(hr 1 y _ rfl rfl).2;cases r0 with
       |d _ _ r0=>
        cases r1 with
        |d _ _ r1=>cases r1;exact⟨x,rfl,r0⟩
     obtain⟨ad1,cap1,rfl,hop1⟩:=z4G hx1;rw[zq3]at *;clear hres A1 hx1 hopen g2 hq;simp only at h hql;by_cases e0:en=0
     ·subst e0;rw[zq1 rfl]at h;generalize hS:yV (List.length text) l=S at h
      go_wp2_with fail
      go_loopw [9,33] (fun m i wr=>∃(k:Nat) (n:Int),i=.int .i64 (k:Int)∧m=.int .i64 n∧k≤l.length∧yV n (l.drop k)=S∧Below W1.heap.size W1 wr) (fun _ i _=>l.length-(intOf i).toNat)
      case atStart=>exact⟨0,_,rfl,rfl,Nat.zero_le _,hS,Below.refl _ _⟩
      case round=>
       obtain⟨k,n,rfl,rfl,hk,hsh,hbw⟩:=hrel;by_cases hlt:k<l.length
       ·obtain⟨b,o,rfl,hc⟩:=hop1 (fun e=>by have:=congrArg List.length e;simp at this;rw[this]at hlt;simp at hlt);obtain⟨c0,c1,c2⟩:=gV hc hlt;have d0:=(hbw.cell (p:=⟨b,o+k*3,none⟩) (vS c0)).trans c0;have d1:=(hbw.cell (p:=⟨b,o+k*3+1,none⟩) (vS c1)).trans c1;have d2:=(hbw.cell (p:=⟨b,o+k*3+2,none⟩) (vS c2)).trans c2;rw[List.drop_eq_getElem_cons hlt,yV,z6J,z6J]at hsh;generalize l[k]=e at *
        go_wp2_with fail
        go_roundw
        case rel=>exact⟨k+1,_,by go_num,rfl,hlt,hsh,hbw.alloc hbw.size _⟩
        case measure=>simp[intOf];omega
       ·have hke:k=l.length:=by omega
        subst hke;rw[List.drop_eq_nil_of_le (Nat.le_refl _),yV]at hsh;subst hsh;clear hlt hk;generalize hS:vI n l=S at h
        go_wp2_with fail
        go_loopw [9,47] (fun m i wr=>∃(k:Nat) (n:Int),i=.int .i64 (k:Int)∧m=.int .i64 n∧k≤l.length∧vI n (l.drop k)=S∧Below W1.heap.size W1 wr) (fun _ i _=>l.length-(intOf i).toNat)
        case atStart=>exact⟨0,_,rfl,rfl,Nat.zero_le _,hS,hbw⟩
        case round=>
         clear hbw;obtain⟨k,n,rfl,rfl,hk,hsh,hbw⟩:=hrel;by_cases hlt:k<l.length
         ·obtain⟨b,o,rfl,hc⟩:=hop1 (fun e=>by have:=congrArg List.length e;simp at this;rw[this]at hlt;simp at hlt);obtain⟨c0,c1,c2⟩:=gV hc hlt;have d0:=(hbw.cell (p:=⟨b,o+k*3,none⟩) (vS c0)).trans c0;have d1:=(hbw.cell (p:=⟨b,o+k*3+1,none⟩) (vS c1)).trans c1;have d2:=(hbw.cell (p:=⟨b,o+k*3+2,none⟩) (vS c2)).trans c2;rw[List.drop_eq_getElem_cons hlt,vI,z6J,z6J]at hsh;generalize l[k]=e at *;by_cases hgt:(List.length e.Text:Int)>wrap64 (8192-n)
          ·rw[zq1 hgt]at hsh;subst hsh;cases h
           go_wp2_with fail
           go_ret3
           exact⟨_,rfl,κ,yY B ((bel1.trans (hbw.mono bel1.size)).alloc (Nat.le_trans bel1.size hbw.size) _),y0K .nil⟩
          ·rw[zq0 hgt]at hsh
           go_wp2_with fail
           go_roundw
           case rel=>exact⟨k+1,_,by go_num,rfl,hlt,hsh,hbw.alloc hbw.size _⟩
           case measure=>simp[intOf];omega
         ·have hke:k=l.length:=by omega
          subst hke;rw[List.drop_eq_nil_of_le (Nat.le_refl _),vI]at hsh;subst hsh;simp only at h;by_cases hbig:n>8192
          ·rw[zq1 hbig]at h;cases h
           go_wp2_with fail
           go_ret3
           exact⟨_,rfl,κ,yY B (bel1.trans (hbw.mono bel1.size)),y0K .nil⟩
          ·rw[zq0 hbig]at h;obtain⟨pp,hpw,h⟩:=yA h;obtain⟨hfin,h⟩:=z1g h;have hI0:=Lib.IsBuilderF.of (Lib.fresh_isBuilder 48 5 wr);have hb0:Below W1.heap.size W1 (wr.alloc (.cells #[.pointer none,.slice none 0 0] 48)):=hbw.alloc hbw.size _;obtain⟨bb,hbb⟩:∃bb,bb=wr.heap.size:=⟨_,rfl⟩;have hbW:W1.heap.size≤bb:=by rw[hbb];exact hbw.size
           obtain⟨j1,dd1,hj,hy1,-⟩:=yK (P:=Try.prog) (t:=39) (n:=4) (by kernel_rfl);have hy2:=uJ (P:=Try.prog) (t:=39) (n:=32) (by kernel_rfl) hj;have hy0:=uK (P:=Try.prog) (t:=39) (z:=.agg #[.int .i64 0,.int .i64 0,.int .i64 0,.int .i64 0]) (by kernel_rfl) hj
           go_wp2_with fail
           rw[←hbb]at hI0 ⊢
           go_loopw [15,16,67] (fun v9 a9 i wr=>∃(k:Nat) (a:Int) (v:Go.Value) (acc:List UInt8) (rs:List Region),i=.int .i64 (k:Int)∧a9=.int .i64 a∧v9=v∧k≤l.length∧vY text (l.drop k) a acc rs=some pp∧Lib.IsBuilderF 48 5 bb bb (Lib.byteCells acc) wr∧OwnR wr bb v rs∧v.ownBlock≠some bb∧rs.length=k∧Below W1.heap.size W1 wr) (fun _ _ i _=>l.length-(intOf i).toNat)
           case atStart=>exact⟨0,0,_,[],[],rfl,rfl,rfl,Nat.zero_le _,hpw,hI0,⟨rfl,.inl ⟨rfl,rfl⟩⟩,(fun h=>by cases h),rfl,hb0⟩
           case round=>
            clear hI0 hb0 hbb hbw hpw;obtain⟨k,a,v,acc,rs,rfl,rfl,hv9,hk,hpw,hI,hO,hv,hrk,hbw⟩:=hrel;have hv9:=hv9.symm;subst hv9;have hbbs:bb<wr.heap.size:=by
             rcases hI with⟨h1,v,h2,-⟩|⟨h1,v,h2,-⟩<;>exact(Array.getElem?_eq_some_iff.1 h2).1
            by_cases hlt:k<l.length
            ·obtain⟨b,o,rfl,hc⟩:=hop1 (fun e=>by have:=congrArg List.length e;simp at this;rw[this]at hlt;simp at hlt);obtain⟨c0,c1,c2⟩:=gV hc hlt;have d0:=(hbw.cell (p:=⟨b,o+k*3,none⟩) (vS c0)).trans c0;have d1:=(hbw.cell (p:=⟨b,o+k*3+1,none⟩) (vS c1)).trans c1;have d2:=(hbw.cell (p:=⟨b,o+k*3+2,none⟩) (vS c2)).trans c2;rw[List.drop_eq_getElem_cons hlt,vY]at hpw;obtain⟨⟨p1,p2,p3,p4⟩,hpw⟩:=z1g hpw;generalize l[k]=e at *;have hsl:=fun W=>z8v W text a e.From p1 p2 p3
             generalize hp1s:(List.take (Int.toNat e.From) text).drop (Int.toNat a)=s1 at *;have hs1:(s1.length:Int)≤e.From-a:=by
              rw[←hp1s,List.length_drop,List.length_take];omega
             go_wp2_with fail
             have hI1:=z2s hI ((Below.refl _ wr).alloc (Nat.le_refl _) (Obj.cells #[Value.int IntKind.i64 e.From,Value.int IntKind.i64 e.To,Value.string {data:={toList:=e.Text}}] 37));have hO1:OwnR (wr.alloc (Obj.cells #[Value.int IntKind.i64 e.From,Value.int IntKind.i64 e.To,Value.string {data:={toList:=e.Text}}] 37)) bb v rs:=wN hO ((Below.refl _ wr).alloc (Nat.le_refl _) _)
             have hE1:(wr.alloc (Obj.cells #[Value.int IntKind.i64 e.From,Value.int IntKind.i64 e.To,Value.string {data:={toList:=e.Text}}] 37)).heap[wr.heap.size]?=some (.cells #[Value.int IntKind.i64 e.From,Value.int IntKind.i64 e.To,Value.string {data:={toList:=e.Text}}] 37 (0,0)):=Array.getElem?_push_size;have hsA:(wr.alloc (Obj.cells #[Value.int IntKind.i64 e.From,Value.int IntKind.i64 e.To,Value.string {data:={toList:=e.Text}}] 37)).heap.size=wr.heap.size+1:=Array.size_push ..
             refine(Any.Builder_WriteString_k (ρ:=z8S) z5R y0J bb bb _ ⟨⟨s1⟩⟩ _ hI1 (by rw[Lib.byteCells_length];show _+s1.length≤_;omega) (by rw[hsA];omega)).mono ?_;rintro e1 w2 ⟨rfl,hI2,bel2,ok2⟩;have hO2:=OwnR.kept hO1 hv ok2;have hE2:=ok2 _ _ hE1 (fun e=>by injection e with e;omega) (fun c fz e=>by injection e with _ e;cases e);have hb2:Below W1.heap.size W1 w2:=(hbw.alloc hbw.size _).trans (bel2.mono hbW);have q0:w2.cell? ⟨wr.heap.size,0,none⟩=some (.int .i64 e.From):=zA hE2
             have q1:w2.cell? ⟨wr.heap.size,1,none⟩=some (.int .i64 e.To):=zA hE2;have q2:w2.cell? ⟨wr.heap.size,2,none⟩=some (.string ⟨⟨e.Text⟩⟩):=zA hE2;have hI2':Lib.IsBuilderF 48 5 bb bb (Lib.byteCells (acc++s1)) w2:=by rw[Lib.byteCells_append];exact Or.inr hI2
             have hs2:=bel2.size;clear hI hI1 hO hO1 hE1 hI2 hbw bel2 ok2 hsl d0 d1 d2
             go_wp2_with fail
             refine(Any.Builder_Len_f (ρ:=z8S) z7O bb bb _ w2 hI2').mono ?_;rintro e1 w3 ⟨rfl,rfl⟩;rw[Lib.byteCells_length]
             go_wp2_with fail
             refine(Any.Builder_WriteString_k (ρ:=z8S) z5R y0J bb bb _ ⟨⟨e.Text⟩⟩ _ hI2' (by rw[Lib.byteCells_length,List.length_append];show _+e.Text.length≤_;omega) (by omega)).mono ?_;rintro e1 w4 ⟨rfl,hI4,bel4,ok4⟩;have hO4:=OwnR.kept hO2 hv ok4;have hE4:=ok4 _ _ hE2 (fun e=>by injection e with e;omega) (fun c fz e=>by injection e with _ e;cases e);have hb4:Below W1.heap.size W1 w4:=hb2.trans (bel4.mono hbW);have r0:w4.cell? ⟨wr.heap.size,0,none⟩=some (.int .i64 e.From):=zA hE4
             have r1:w4.cell? ⟨wr.heap.size,1,none⟩=some (.int .i64 e.To):=zA hE4;have r2:w4.cell? ⟨wr.heap.size,2,none⟩=some (.string ⟨⟨e.Text⟩⟩):=zA hE4;have hI4':Lib.IsBuilderF 48 5 bb bb (Lib.byteCells (acc++s1++e.Text)) w4:=by rw[Lib.byteCells_append];exact Or.inr hI4
             have hs4:=bel4.size;have hbb4:bb<w4.heap.size:=by omega
             clear hI2' hI4 hO2 hE2 hb2 bel4 ok4 q0 q1 q2;obtain⟨n1,hn1⟩:∃n1:Int,n1=((acc++s1).length:Int):=⟨_,rfl⟩;obtain⟨n2,hn2⟩:∃n2:Int,n2=((acc++s1++e.Text).length:Int):=⟨_,rfl⟩;rw[←hn1,←hn2]at hpw;have hlc:Calls Try.prog 19 #[.pointer (some ⟨bb,0,none⟩)] w4.drew (fun en w'=>∃v,en=.returned v∧(v=.int .i64 n2∧w'=w4.drew)):=by
              have hID:=z2s hI4' (uD w4 _);refine(Any.Builder_Len_f (ρ:=z8S) z7O bb bb _ w4.drew hID).mono ?_;rintro e1 w3 ⟨rfl,rfl⟩;rw[Lib.byteCells_length,hn2];exact⟨_,rfl,rfl,rfl⟩
             have hen:Nt.Enters Try.prog 19:=⟨_,Try.func19,by rfl,by rfl⟩;have hbE:Below w4.heap.size w4 (w4.alloc (Obj.cells #[.int .i64 e.From,.int .i64 e.To,.int .i64 n1,.int .i64 n2] 39)).drew:=((Below.refl _ w4).alloc (Nat.le_refl _) _).drew;have hszE:(w4.alloc (Obj.cells #[.int .i64 e.From,.int .i64 e.To,.int .i64 n1,.int .i64 n2] 39)).drew.heap.size=w4.heap.size+1:=Array.size_push ..;have hownD:=wN hO4 hbE
             have e9:((w4.alloc (Obj.cells #[.int .i64 e.From,.int .i64 e.To,.int .i64 n1,.int .i64 n2] 39)).drew).heap[w4.heap.size]?=some (.cells #[.int .i64 e.From,.int .i64 e.To,.int .i64 n1,.int .i64 n2] 39 (0,0)):=Array.getElem?_push_size;have hnews:∀j u,(vR ⟨e.From,e.To,n1,n2⟩)[j]?=some u→((w4.alloc (Obj.cells #[.int .i64 e.From,.int .i64 e.To,.int .i64 n1,.int .i64 n2] 39)).drew).cell? ((⟨w4.heap.size,0,none⟩:Addr).add j)=some u:=by
              intro j u hj
              match j,hj with
              |0,hj=>exact(zA e9).trans hj
              |1,hj=>exact(zA e9).trans hj
              |2,hj=>exact(zA e9).trans hj
              |3,hj=>exact(zA e9).trans hj
             have hone:∀u∈vR ⟨e.From,e.To,n1,n2⟩,u.oneCell'=true:=by
              intro u hu;simp only[vR,List.mem_cons,List.not_mem_nil,or_false]at hu;rcases hu with rfl|rfl|rfl|rfl<;>rfl
             have h63:rs.length+1≤maxLen:=by unfold maxLen;omega
             have hbb9:bb≤(w4.alloc (Obj.cells #[.int .i64 e.From,.int .i64 e.To,.int .i64 n1,.int .i64 n2] 39)).drew.heap.size:=by rw[hszE];omega
             have n1e:((acc.length:Int)+(s1.length:Int))=n1:=by rw[hn1,List.length_append];omega
             clear hn1 hn2
             go_wp2_with fail
             go_region_law (first
              |(refine z8C rfl 19 (.tmp 14) _ rfl hen (by simp[Act.eval,Act.put];exact hlc) ?_
                rintro vq W3 ⟨rfl,rfl⟩)
              |(refine z0y rfl (.tmp 81) (.tmp 89) 28 rfl bb 39 j1 _ 4 32 Try.underlying28 hj hy0 hy1 hy2 rfl (by decide) v rs.length (cR rs) (by simp[Act.eval,Act.put]) hownD ⟨w4.heap.size,0,none⟩ 1 1 (vR ⟨e.From,e.To,n1,n2⟩) (by simp[Act.eval,Act.put]) rfl hnews hone h63 (by omega) hbb9 ?_
                intro v9 W9 hown9 hgrow9 hat9))
             all_goals
              have own9:OwnR W9 bb v9 (rs++[⟨e.From,e.To,n1,n2⟩]):=by
               unfold OwnR;rw[y0A,List.length_append];exact hown9
              have hI9:=z7t (z2s hI4' hbE) hgrow9 (fun c=>hv c.symm) (OwnR.ne5 hownD);have hbW9:Below W1.heap.size W1 W9:=(hb4.trans (hbE.mono hb4.size)).grown hgrow9 (by rw[hszE];have:=hb4.size;omega) (fun k hk=>Nat.le_trans hbW (World.ownsRow.lt hO4 _ hk).1);have hv9:v9.ownBlock≠some bb:=by
               rcases hat9 with h9|h9
               ·rw[h9];exact hv
               ·rw[hszE]at h9;rw[h9];intro c;injection c with c;omega
              have hE9:=(hgrow9.block wr.heap.size (by rw[hszE];omega) (fun c=>OwnR.ne37 hO4 hE4 c.symm)).trans ((hbE.block _ (by omega)).trans hE4);have u0:W9.cell? ⟨wr.heap.size,0,none⟩=some (.int .i64 e.From):=zA hE9;have u1:W9.cell? ⟨wr.heap.size,1,none⟩=some (.int .i64 e.To):=zA hE9;have u2:W9.cell? ⟨wr.heap.size,2,none⟩=some (.string ⟨⟨e.Text⟩⟩):=zA hE9;have hrl:(rs++[(⟨e.From,e.To,n1,n2⟩:Region)]).length=k+1:=by simp[hrk]
              clear hown9 hgrow9 hat9 hE9 hownD hnews hone e9 hbE hszE hbb9 hI4' hO4 hE4 hb4 r0 r1 r2 hlc
              go_wp2_with fail
              go_roundw
              case rel=>exact⟨k+1,e.To,v9,acc++s1++e.Text,_,by go_num,rfl,rfl,hlt,hpw,hI9,own9,hv9,hrl,hbW9⟩
              case measure=>simp[intOf];omega
            ·have hke:k=l.length:=by omega
             subst hke;rw[List.drop_eq_nil_of_le (Nat.le_refl _),vY]at hpw;have hpp:=Option.some.inj hpw;subst hpp;cases h;simp only at hfin;obtain⟨p1,p2,p3⟩:=hfin;have hsl:=fun W=>z7j W text a p1 p2
             go_wp2_with fail
             refine(Any.Builder_WriteString_k (ρ:=z8S) z5R y0J bb bb _ ⟨⟨text.drop a.toNat⟩⟩ _ hI (by rw[Lib.byteCells_length];show _+(text.drop a.toNat).length≤_;rw[List.length_drop];omega) (by omega)).mono ?_;rintro e1 w2 ⟨rfl,hI2,bel2,ok2⟩;have hO2:=OwnR.kept hO hv ok2;have hI2':Lib.IsBuilderF 48 5 bb bb (Lib.byteCells (acc++text.drop a.toNat)) w2:=by rw[Lib.byteCells_append];exact Or.inr hI2
             have hs2:=bel2.size;have hb2:Below W1.heap.size W1 w2:=hbw.trans (bel2.mono hbW);clear hI hI2 hO hbw bel2 ok2 hsl
             go_wp2_with fail
             refine(Any.Builder_String_any_k (ρ:=z8S) z9W y0J bb bb _ w2 hI2' (by omega)).mono ?_;rintro e1 w3 ⟨rfl,hI3,bel3,ok3⟩;have hO3:=OwnR.kept hO2 hv ok3;have hb3:Below W1.heap.size W1 w3:=hb2.trans (bel3.mono hbW)
             go_wp2_with fail
             go_ret3
             exact⟨_,rfl,κ,yY B (bel1.trans (hb3.mono bel1.size)),y0K (z5Y hO3 fun b o hb=>z2H B (by have:=bel1.size;omega))⟩
     ·rw[zq0 e0]at h;cases h;have e1:¬(en == 0)=true:=by simpa using e0
      go_wp2_with fail
      go_ret3
      exact⟨_,rfl,κ,yY B bel1,y0K .nil⟩
theorem z0H(text:Str)(edits:List Edit)(r:Str×Int)(h:vX text edits=some r):Trip Try.prog 8 [.d (.str text),.d (.sl (List.map Edit.toD edits))] [] [.d (.str r.1),.d (.int .i64 r.2)] []:=by
 unfold vX at h;refine gI 1000 (by kernel_rfl) (by kernel_rfl) (by kernel_rfl) (by kernel_rfl) (by kernel_rfl) (z4h _ _ text edits _ _) ?_;obtain⟨q1,hq,h⟩:=yA h;refine⟨q1.1,List.map Region.toD q1.2.1,q1.2.2,⟨_,gQ _ _ _ hq⟩,?_⟩;cases h;exact⟨rfl,rfl⟩
theorem gP (r:Bool)(h:wG=some r):Trip Try.prog 7 [] [] [.d (.bool r)] []:=by
 unfold wG at h;refine gI 1000 (by kernel_rfl) (by kernel_rfl) (by kernel_rfl) (by kernel_rfl) (by kernel_rfl) (z5d _ _  _ _) ?_;obtain⟨q1,hq,h⟩:=yA h;refine⟨q1.1,q1.2,⟨_,z0H _ _ _ hq⟩,?_⟩;rintro _ rfl;refine vJ zq2 h (fun hc1 h=>?_) (fun hc1 h=>?_)
 ·rintro _ rfl;cases h;exact⟨rfl,rfl⟩
 ·cases h;exact⟨rfl,rfl⟩
theorem z4L(edits:List Edit)(r:Bool)(h:uI edits=some r):Trip Try.prog 6 [.d (.sl (List.map Edit.toD edits))] [] [.d (.bool r)] []:=by
 unfold uI at h;refine gI 1000 (by kernel_rfl) (by kernel_rfl) (by kernel_rfl) (by kernel_rfl) (by kernel_rfl) (z5e _ _ edits _ _) ?_;refine z3s (e':=(List.length edits:Int)) (by first|rfl|rw[zq3]) ?_;rintro _ rfl;cases h;exact⟨rfl,rfl⟩
theorem z2e(text:Str)(edits:List Edit)(r:List Region×Int)(h:wI text edits=some r):Trip Try.prog 9 [.d (.str text),.d (.sl (List.map Edit.toD edits))] [] [.d (.sl (List.map Region.toD r.1)),.d (.int .i64 r.2)] []:=by
 unfold wI at h;refine gI 1000 (by kernel_rfl) (by kernel_rfl) (by kernel_rfl) (by kernel_rfl) (by kernel_rfl) (z2A _ _ text edits _ _) ?_;obtain⟨q1,hq,h⟩:=yA h;refine⟨q1.1,List.map Region.toD q1.2.1,q1.2.2,⟨_,gQ _ _ _ hq⟩,?_⟩;cases h;exact⟨rfl,rfl⟩
def z2a:(i:vD)→wV i→Prop
 |.zL text l i,r=>Ok (wR (Trip Try.prog) [.d (.str r)] []) (kL Try.f11 3) ⟨38,[(0,.d (.str text)),(5,.d (.sl (List.map Edit.toD l))),(6,.d (.int .i64 i))],[],[],0⟩
theorem z1X:∀i r,z4l uX i=some r→z2a i r:=by
 refine uG gM fun g ih i=>?_;cases i with
 |zL text l i=>
  have y1d:∀(text:Str) (l:List Edit) (i:Int) (r:Str),g (vD.zL text l i)=some r→Ok (wR (Trip Try.prog) [.d (.str r)] []) (kL Try.f11 3) ⟨38,[(0,.d (.str text)),(5,.d (.sl (List.map Edit.toD l))),(6,.d (.int .i64 i))],[],[],0⟩:=fun text l i r h=>ih (.zL text l i) r h;intro r h;show Ok (wR (Trip Try.prog) [.d (.str r)] []) (kL Try.f11 3) ⟨38,[(0,.d (.str text)),(5,.d (.sl (List.map Edit.toD l))),(6,.d (.int .i64 i))],[],[],0⟩;replace h:yL (fun text l i=>g (vD.zL text l i)) text l i=some r:=h
  unfold yL at h;refine z7e 1000 (z2B _ _ text l i _ _) ?_;rintro _ rfl;refine vJ decide_eq_true_iff h (fun hc2 h=>?_) (fun hc2 h=>?_)
  ·obtain⟨x,hx,h⟩:=yA h;refine⟨vK (l:=l) (Edit.sz),z1W hx,x.From,x.To,x.Text,jG (Edit.toD_eq x) hx,?_⟩;obtain⟨hP,h⟩:=z1g h;refine⟨by first|exact hP|(simp only[zq3,List.length_cons,List.length_nil]at hP ⊢;exact hP),?_⟩;obtain⟨hP,h⟩:=z1g h;refine⟨by first|exact hP|(simp only[zq3,List.length_cons,List.length_nil]at hP ⊢;exact hP),?_⟩;obtain⟨hP,h⟩:=z1g h;refine⟨by first|exact hP|(simp only[zq3,List.length_cons,List.length_nil]at hP ⊢;exact hP),?_⟩;rintro _ rfl;obtain⟨x1,hx,h⟩:=yA h
   refine⟨vK (l:=l) (Edit.sz),z1W hx,x1.From,x1.To,x1.Text,jG (Edit.toD_eq x1) hx,?_⟩;obtain⟨hP,h⟩:=z1g h;refine⟨by first|exact hP|(simp only[zq3,List.length_cons,List.length_nil]at hP ⊢;exact hP),?_⟩;rintro _ rfl;obtain⟨x2,hx,h⟩:=yA h;refine⟨vK (l:=l) (Edit.sz),z1W hx,x2.From,x2.To,x2.Text,jG (Edit.toD_eq x2) hx,?_⟩;obtain⟨hP,h⟩:=z1g h;refine⟨by first|exact hP|(simp only[zq3,List.length_cons,List.length_nil]at hP ⊢;exact hP),?_⟩;obtain⟨hP,h⟩:=z1g h
   refine⟨by first|exact hP|(simp only[zq3,List.length_cons,List.length_nil]at hP ⊢;exact hP),?_⟩;obtain⟨hP,h⟩:=z1g h;refine⟨by first|exact hP|(simp only[zq3,List.length_cons,List.length_nil]at hP ⊢;exact hP),?_⟩;rintro _ rfl;obtain⟨hP,h⟩:=z1g h;refine⟨by first|exact hP|(simp only[zq3,List.length_cons,List.length_nil]at hP ⊢;exact hP),?_⟩;rintro _ rfl;rintro _ rfl;exact y1d _ _ _ _ h
  ·cases h;exact⟨rfl,rfl⟩
theorem z2f(text:Str)(l:List Edit)(i:Int)(r:Str)(h:zL text l i=some r):Ok (wR (Trip Try.prog) [.d (.str r)] []) (kL Try.f11 3) ⟨38,[(0,.d (.str text)),(5,.d (.sl (List.map Edit.toD l))),(6,.d (.int .i64 i))],[],[],0⟩:=z1X (.zL text l i) r h
open Go.RowKit Go.Shelf
theorem z7x:∀(l:List Edit) (m:Nat),cE (l.take m)=(cE l).take (m*3)
 |[],m=>by simp[cE]
 |e::r,0=>by simp[cE]
 |e::r,m+1=>by
  rw[List.take_succ_cons,cE,z7x r m,cE,show(m+1)*3=m*3+3 by omega];rfl
theorem z7v:∀(l:List Edit) (m:Nat),cE (l.drop m)=(cE l).drop (m*3)
 |[],m=>by simp[cE]
 |e::r,0=>by simp
 |e::r,m+1=>by
  rw[List.drop_succ_cons,z7v r m,cE,show(m+1)*3=m*3+3 by omega];rfl
theorem z6p(l:List Edit):∀u∈cE l,u.oneCell'=true:=by
 induction l with
 |nil=>intro u hu;cases hu
 |cons e r ih=>
  intro u hu;simp only[cE,vE,List.mem_append,List.mem_cons,List.not_mem_nil,or_false]at hu;rcases hu with(rfl|rfl|rfl)|hu
  ·rfl
  ·rfl
  ·rfl
  ·exact ih u hu
theorem Own.prefix{w:World}{base g cap m:Nat}{xs:List Edit}(h:Own w base (.slice (some ⟨g,0,none⟩) xs.length cap) xs)(hm:m≤xs.length):w.ownsRow base 37 3 (.slice (some ⟨g,0,none⟩) m cap) m (cE (xs.take m)):=by
 obtain⟨hl,⟨h0,-⟩|⟨g',cap',cur,h0,hb,hh,h1,h2,h3,h4⟩⟩:=h
 ·cases h0
 ·injection h0 with e1 e2 e3;injection e1 with e1;injection e1 with e1;subst e1;subst e3;refine⟨by rw[z0u,List.length_take];omega,.inr ⟨g,cap,cur,rfl,hb,hh,by omega,h2,h3,?_⟩⟩;rw[z7x,←h4,List.take_take,Nat.min_eq_left (by omega)]
theorem z5C{w:World}{base g n cap:Nat}{us:List Go.Value}(h:w.ownsRow base 37 3 (.slice (some ⟨g,0,none⟩) n cap) n us){j:Nat}{u:Go.Value}(hj:us[j]?=some u):w.cell? ⟨g,j,none⟩=some u:=by
 have:=h.cells (g:=g) rfl j u hj;by_cases h0:j=0
 ·subst h0;simpa [Addr.add]using this
 ·simpa [Addr.add,h0]using this
set_option maxHeartbeats 4000000 in
theorem jZ(edits r:List Edit)(h:vB edits=some r):Trip Try.prog 16 [.d (.sl (List.map Edit.toD edits))] [] [.d (.sl (List.map Edit.toD r))] []:=by
 refine⟨⟨_,Try.func16,by rfl,by rfl⟩,fun w M0 κ vs B hv=>?_⟩;unfold vB at h;obtain⟨hel,h⟩:=z1g h;have hgo0:=Option.some.inj h;clear h;cases hv with
 |cons v1 _ vs1 _ g1 hv=>
  cases hv;cases g1 with
  |d _ _ g1=>
   obtain⟨ad,cap,rfl,hopen⟩:=z4G g1;rw[zq3]at *;obtain⟨i0,dd,hi,hz1,-⟩:=yK (P:=Try.prog) (t:=37) (n:=3) (by kernel_rfl);have hz2:=uJ (P:=Try.prog) (t:=37) (n:=32) (by kernel_rfl) hi;have hz0:=uK (P:=Try.prog) (t:=37) (z:=.agg #[.int .i64 0,.int .i64 0,.string ⟨#[]⟩]) (by kernel_rfl) hi
   have hmade0:(w.alloc (.cells #[] 37)).ownsRow w.heap.size 37 3 (.slice (some ⟨w.heap.size,0,none⟩) 0 0) 0 []:=⟨rfl,.inr ⟨w.heap.size,0,#[],rfl,Nat.le_refl _,Array.getElem?_push_size,Nat.le_refl _,by unfold maxLen;omega,rfl,rfl⟩⟩
   go_enter Try.func16,Try.ntmps16
   go_wp2_with fail
   go_loopw [3,4] (fun o i wr=>∃(k:Nat) (acc:List Edit),i=.int .i64 (k:Int)∧k≤edits.length∧Own wr w.heap.size o acc∧o≠.slice none 0 0∧Below w.heap.size w wr∧zT (edits.drop k) acc=r∧acc.length≤k) (fun _ i _=>edits.length-(intOf i).toNat)
   case atStart=>exact⟨0,[],rfl,Nat.zero_le _,hmade0,by simp,(Below.refl _ _).alloc (Nat.le_refl _) _,hgo0,Nat.zero_le _⟩
   case round=>
    obtain⟨k,acc,rfl,hk,hown,hnn,hbw,hgo,hka⟩:=hrel;by_cases hlt:k<edits.length
    ·obtain⟨b,o,rfl,hc⟩:=hopen (fun e=>by have:=congrArg List.length e;simp at this;rw[this]at hlt;simp at hlt);obtain⟨c0,c1,c2⟩:=gV hc hlt;have hbs:b<w.heap.size:=vS c0;rw[List.drop_eq_getElem_cons hlt,zT]at hgo;generalize edits[k]=x at *;rcases hown.2 with⟨h9,-⟩|⟨g,cap9,cur,rfl,hbase,hb,h1,h2,h3',h4⟩
     ·exact absurd h9 hnn
     go_wp2_with fail
     go_loopw [5] (fun i wi=>∃(n:Nat),i=.int .i64 (n:Int)∧n≤acc.length∧Own wi w.heap.size (.slice (some ⟨g,0,none⟩) acc.length cap9) acc∧Below w.heap.size w wi∧zH acc x acc.length=zH acc x n) (fun i _=>(intOf i).toNat)
     case atStart=>exact⟨acc.length,rfl,Nat.le_refl _,hown,hbw,rfl⟩
     case round=>
      clear hown hbw hb;obtain⟨n,rfl,hn,hown4,hbw4,hat⟩:=hrel;have hmade:∀q,((wr.drewN q).alloc (.cells #[] 37)).ownsRow wr.heap.size 37 3 (.slice (some ⟨wr.heap.size,0,none⟩) 0 0) 0 []:=fun q=>⟨rfl,.inr ⟨wr.heap.size,0,#[],rfl,Nat.le_refl _,Array.getElem?_push_size,Nat.le_refl _,by unfold maxLen;omega,rfl,rfl⟩⟩;have f0:wr.cell? ⟨b,o+k*3,none⟩=some (.int .i64 x.From):=(zR (hbw4.block b hbs) _).trans c0;have f1:wr.cell? ⟨b,o+k*3+1,none⟩=some (.int .i64 x.To):=(zR (hbw4.block b hbs) _).trans c1
      have f2:wr.cell? ⟨b,o+k*3+2,none⟩=some (.string ⟨⟨x.Text⟩⟩):=(zR (hbw4.block b hbs) _).trans c2;cases n with
      |zero=>
       have hd:decide ((0:Int)<((0:Nat):Int))=false:=by decide
       go_wp2_with fail
       go_quiet (fail)
       have hmm:zH acc x acc.length=0:=hat;have hAc:∀j u,(cE (acc.drop 0))[j]?=some u→wr.cell? ((⟨g,0,none⟩:Addr).add j)=some u:=fun j u hj=>hown4.cells (g:=g) rfl j u (by simpa using hj);rw[hmm]at hgo;have hM:0≤acc.length:=by omega
       obtain⟨R,hR⟩:∃R,R=acc.drop 0:=⟨_,rfl⟩;have hRl:R.length=acc.length-0:=by rw[hR];simp
       rw[←hR]at hAc
       go_wp2_with (at_builtin;refine wpList_append_own _ rfl (.tmp 34) (.tmp 37) 22 rfl wr.heap.size 37 i0 (.agg #[.int .i64 0,.int .i64 0,.string ⟨#[]⟩]) 3 32 Try.underlying22 hi hz0 hz1 hz2 rfl (by decide) _ _ _ rfl (hmade _) _ _ _ (cE R) rfl ?_ ?_ ?_ ?_ ?_ ?_ ?_)
       ·simp[z0u,hRl]
       ·intro j u hj;exact yT (hAc j u hj) ((uE _ _ _).alloc (Nat.le_refl _) _)
       ·exact z6p _
       ·unfold maxLen;omega
       ·omega
       ·simp
       intro v7 w7 hown7 hgrow7 hnil7;have own7:w7.ownsRow wr.heap.size 37 3 v7 R.length (cE R):=by rw[hRl,hR];simpa [hR]using hown7
       have b7:Below wr.heap.size wr w7:=((uE wr _ _).alloc (Nat.le_refl _) _).grown hgrow7 (by simp) (fun j hj=>by have hj':some wr.heap.size=some j:=hj;cases hj';exact Nat.le_refl _);have own4:=Own.prefix (wN hown4 b7) hM;have bw7:=hbw4.trans (b7.mono (by have:=hbw4.size;omega));have f70:=yT f0 b7;have f71:=yT f1 b7;have f72:=yT f2 b7;have gw:g<wr.heap.size:=by
        have:=(World.ownsRow.lt hown4 g rfl).2;exact this
       rcases own7.2 with⟨h9,-⟩|⟨g7,cap7,cur7,rfl,hb7,-,-,-,-,-⟩
       ·exact absurd h9 hnil7
       have hg7:g7<w7.heap.size:=(own7.lt g7 rfl).2;have hp1:∀ob,(w7.drew.alloc ob).ownsRow w.heap.size 37 3 (.slice (some ⟨g,0,none⟩) 0 cap9) 0 (cE (acc.take 0)):=fun ob=>wN own4 ((uD _ _).alloc (Nat.le_refl _) _);have hcx:(w7.drew.alloc (.cells #[.int .i64 x.From,.int .i64 x.To,.string ⟨⟨x.Text⟩⟩] 37)).heap[w7.heap.size]?=some (.cells #[.int .i64 x.From,.int .i64 x.To,.string ⟨⟨x.Text⟩⟩] 37 (0,0)):=Array.getElem?_push_size
       have hc1:∀j u,(vE x)[j]?=some u→(w7.drew.alloc (.cells #[.int .i64 x.From,.int .i64 x.To,.string ⟨⟨x.Text⟩⟩] 37)).cell? ((⟨w7.heap.size,0,none⟩:Addr).add j)=some u:=by
        intro j u hj
        match j,hj with
        |0,hj=>exact(zA hcx).trans hj
        |1,hj=>exact(zA hcx).trans hj
        |2,hj=>exact(zA hcx).trans hj
       have hc2:∀w8,(w7.drew.alloc (.cells #[.int .i64 x.From,.int .i64 x.To,.string ⟨⟨x.Text⟩⟩] 37)).grownBy w8 (some g)→∀j u,(cE R)[j]?=some u→w8.cell? ((⟨g7,0,none⟩:Addr).add j)=some u:=fun w8 hg=>
        ((wN own7 ((uD _ _).alloc (Nat.le_refl _) (.cells #[.int .i64 x.From,.int .i64 x.To,.string ⟨⟨x.Text⟩⟩] 37))).kept hg (.inr (by simp[Value.ownBlock];omega))).cells (g:=g7) rfl
       have bd7:Below w.heap.size w (w7.drew.alloc (.cells #[.int .i64 x.From,.int .i64 x.To,.string ⟨⟨x.Text⟩⟩] 37)):=(bw7.trans (uD _ _)).alloc (by have:=bw7.size;exact this) _;have bd7s:w.heap.size≤(w7.drew.alloc (.cells #[.int .i64 x.From,.int .i64 x.To,.string ⟨⟨x.Text⟩⟩] 37)).heap.size:=by have:=bw7.size;simp;omega
       have hb63:0+1≤maxLen:=by unfold maxLen;omega
       have hb64:(0+1)*32≤140737488355328:=by omega
       have hb65:0+1+R.length≤maxLen:=by unfold maxLen;omega
       have hb66:(0+1+R.length)*32≤140737488355328:=by omega
       have hvo:∀u∈vE x,u.oneCell'=true:=by
        intro u hu;simp only[vE,List.mem_cons,List.not_mem_nil,or_false]at hu;rcases hu with rfl|rfl|rfl<;>rfl
       clear hown7 hgrow7 hnil7
       go_wp2_with fail
       go_region_law (first
        |(refine wZ rfl (.tmp 41) (.tmp 46) 22 rfl w.heap.size 37 i0 (.agg #[.int .i64 0,.int .i64 0,.string ⟨#[]⟩]) 3 32 Try.underlying22 hi hz0 hz1 hz2 rfl (by decide) (.slice (some ⟨g,0,none⟩) 0 cap9) 0 (cE (acc.take 0)) (by simp[Act.eval,Act.put]) (hp1 _) ⟨w7.heap.size,0,none⟩ 1 1 (vE x) (by simp[Act.eval,Act.put]) rfl hc1 hvo hb63 hb64 bd7s ?_;intro v8 w8 hown8 hgrow8 hnil8)
        |(refine wZ rfl (.tmp 47) (.tmp 48) 22 rfl w.heap.size 37 i0 (.agg #[.int .i64 0,.int .i64 0,.string ⟨#[]⟩]) 3 32 Try.underlying22 hi hz0 hz1 hz2 rfl (by decide) v8 (0+1) _ (by simp[Act.eval,Act.put]) hown8 ⟨g7,0,none⟩ R.length cap7 (cE R) (by simp[Act.eval,Act.put,hRl]) (z0u R) (hc2 w8 hgrow8) (z6p R) hb65 hb66 (by have:=hgrow8.size;exact Nat.le_trans bd7s this) ?_;intro v9 w9 hown9 hgrow9 hnil9))
       go_wp2
       have hnn9:v9≠.slice none 0 0:=fun e=>by
        have h8:=(hnil9.1 e).1;have:=(hnil8.1 h8).1;cases this
       have own9:Own w9 w.heap.size v9 (acc.take 0++[x]++R):=by
        have e9:(acc.take 0++[x]++R).length=0+1+R.length:=by simp;omega
        unfold Own;rw[e9,z1D,z1D];exact hown9
       have bd8:Below w.heap.size w w8:=bd7.grown hgrow8 bd7s (fun j hj=>by have hj':some g=some j:=hj;cases hj';exact hbase);have bd9:Below w.heap.size w w9:=bd8.grown hgrow9 bd8.size (fun j hj=>(hown8.lt j hj).1);have hlen9:(acc.take 0++[x]++R).length≤k+1:=by simp;omega
       rw[←hR]at hgo;clear hown8 hgrow8 hnil8 hown9 hgrow9 hnil9
       go_roundw
       case rel=>exact⟨k+1,acc.take 0++[x]++R,by go_num,hlt,own9,hnn9,bd9,hgo,hlen9⟩
       case measure=>simp[intOf];omega
      |succ n=>
       have hd:(0:Int)<((n+1:Nat):Int):=by omega
       have hx:((n+1:Nat):Int)-1=(n:Int):=by omega
       obtain⟨y0,-,-⟩:=z7w acc n (by omega);have f3:wr.cell? ⟨g,n*3,none⟩=some (.int .i64 acc[n].From):=z5C hown4 y0;have hgd:fr acc n=acc[n].From:=z2G (by omega);by_cases hgt:x.From<acc[n].From
       ·have hat2:zH acc x acc.length=zH acc x n:=by
         rw[hat];show(if fr acc n>x.From then _ else _)=_;rw[hgd,zq1 hgt]
        go_wp2_with fail
        go_quiet (fail)
        go_wp2_with fail
        go_roundw
        case rel=>exact⟨n,by go_num,by omega,wN hown4 (uE _ _ _),hbw4.trans (uE _ _ _),hat2⟩
        case measure=>simp[intOf]
       ·have hat2:zH acc x acc.length=n+1:=by
         rw[hat];show(if fr acc n>x.From then _ else _)=_;rw[hgd,zq0 hgt]
        obtain⟨A,hA,hAc⟩:∃A:Addr,(if cap9=n+1 then some (⟨g,0,none⟩:Addr)else some ⟨g,(n+1)*3,none⟩)=some A∧∀j u,(cE (acc.drop (n+1)))[j]?=some u→wr.cell? (A.add j)=some u:=by
         by_cases h9:cap9=n+1
         ·refine⟨_,by rw[zq1 h9],fun j u hj=>?_⟩;have:acc.drop (n+1)=[]:=List.drop_eq_nil_of_le (by omega);rw[this]at hj;simp[cE]at hj
         ·refine⟨_,by rw[zq0 h9],fun j u hj=>?_⟩;rw[z7v,List.getElem?_drop]at hj;have:=z5C hown4 (j:=(n+1)*3+j) (u:=u) hj;by_cases h0:j=0
          ·subst h0;simpa [Addr.add]using this
          ·simpa [Addr.add,h0]using this
        go_wp2_with fail
        go_quiet (fail)
        have hmm:zH acc x acc.length=(n+1):=hat2;have hcc:(0:Int)≤(n:Int)+1:=by omega
        have hcd:(n:Int)+1≤(cap9:Int):=by omega
        rw[hmm]at hgo;have hM:(n+1)≤acc.length:=by omega
        obtain⟨R,hR⟩:∃R,R=acc.drop (n+1):=⟨_,rfl⟩;have hRl:R.length=acc.length-(n+1):=by rw[hR];simp
        rw[←hR]at hAc
        go_wp2_with (at_builtin;refine wpList_append_own _ rfl (.tmp 34) (.tmp 37) 22 rfl wr.heap.size 37 i0 (.agg #[.int .i64 0,.int .i64 0,.string ⟨#[]⟩]) 3 32 Try.underlying22 hi hz0 hz1 hz2 rfl (by decide) _ _ _ rfl (hmade _) _ _ _ (cE R) rfl ?_ ?_ ?_ ?_ ?_ ?_ ?_)
        ·simp[z0u,hRl]
        ·intro j u hj;exact yT (hAc j u hj) ((uE _ _ _).alloc (Nat.le_refl _) _)
        ·exact z6p _
        ·unfold maxLen;omega
        ·omega
        ·simp
        intro v7 w7 hown7 hgrow7 hnil7;have own7:w7.ownsRow wr.heap.size 37 3 v7 R.length (cE R):=by rw[hRl,hR];simpa [hR]using hown7
        have b7:Below wr.heap.size wr w7:=((uE wr _ _).alloc (Nat.le_refl _) _).grown hgrow7 (by simp) (fun j hj=>by have hj':some wr.heap.size=some j:=hj;cases hj';exact Nat.le_refl _);have own4:=Own.prefix (wN hown4 b7) hM;have bw7:=hbw4.trans (b7.mono (by have:=hbw4.size;omega));have f70:=yT f0 b7;have f71:=yT f1 b7;have f72:=yT f2 b7;have gw:g<wr.heap.size:=by
         have:=(World.ownsRow.lt hown4 g rfl).2;exact this
        rcases own7.2 with⟨h9,-⟩|⟨g7,cap7,cur7,rfl,hb7,-,-,-,-,-⟩
        ·exact absurd h9 hnil7
        have hg7:g7<w7.heap.size:=(own7.lt g7 rfl).2;have hp1:∀ob,(w7.drew.alloc ob).ownsRow w.heap.size 37 3 (.slice (some ⟨g,0,none⟩) (n+1) cap9) (n+1) (cE (acc.take (n+1))):=fun ob=>wN own4 ((uD _ _).alloc (Nat.le_refl _) _);have hcx:(w7.drew.alloc (.cells #[.int .i64 x.From,.int .i64 x.To,.string ⟨⟨x.Text⟩⟩] 37)).heap[w7.heap.size]?=some (.cells #[.int .i64 x.From,.int .i64 x.To,.string ⟨⟨x.Text⟩⟩] 37 (0,0)):=Array.getElem?_push_size
        have hc1:∀j u,(vE x)[j]?=some u→(w7.drew.alloc (.cells #[.int .i64 x.From,.int .i64 x.To,.string ⟨⟨x.Text⟩⟩] 37)).cell? ((⟨w7.heap.size,0,none⟩:Addr).add j)=some u:=by
         intro j u hj
         match j,hj with
         |0,hj=>exact(zA hcx).trans hj
         |1,hj=>exact(zA hcx).trans hj
         |2,hj=>exact(zA hcx).trans hj
        have hc2:∀w8,(w7.drew.alloc (.cells #[.int .i64 x.From,.int .i64 x.To,.string ⟨⟨x.Text⟩⟩] 37)).grownBy w8 (some g)→∀j u,(cE R)[j]?=some u→w8.cell? ((⟨g7,0,none⟩:Addr).add j)=some u:=fun w8 hg=>
         ((wN own7 ((uD _ _).alloc (Nat.le_refl _) (.cells #[.int .i64 x.From,.int .i64 x.To,.string ⟨⟨x.Text⟩⟩] 37))).kept hg (.inr (by simp[Value.ownBlock];omega))).cells (g:=g7) rfl
        have bd7:Below w.heap.size w (w7.drew.alloc (.cells #[.int .i64 x.From,.int .i64 x.To,.string ⟨⟨x.Text⟩⟩] 37)):=(bw7.trans (uD _ _)).alloc (by have:=bw7.size;exact this) _;have bd7s:w.heap.size≤(w7.drew.alloc (.cells #[.int .i64 x.From,.int .i64 x.To,.string ⟨⟨x.Text⟩⟩] 37)).heap.size:=by have:=bw7.size;simp;omega
        have hb63:(n+1)+1≤maxLen:=by unfold maxLen;omega
        have hb64:((n+1)+1)*32≤140737488355328:=by omega
        have hb65:(n+1)+1+R.length≤maxLen:=by unfold maxLen;omega
        have hb66:((n+1)+1+R.length)*32≤140737488355328:=by omega
        have hvo:∀u∈vE x,u.oneCell'=true:=by
         intro u hu;simp only[vE,List.mem_cons,List.not_mem_nil,or_false]at hu;rcases hu with rfl|rfl|rfl<;>rfl
        clear hown7 hgrow7 hnil7
        go_wp2_with fail
        go_region_law (first
         |(refine wZ rfl (.tmp 41) (.tmp 46) 22 rfl w.heap.size 37 i0 (.agg #[.int .i64 0,.int .i64 0,.string ⟨#[]⟩]) 3 32 Try.underlying22 hi hz0 hz1 hz2 rfl (by decide) (.slice (some ⟨g,0,none⟩) (n+1) cap9) (n+1) (cE (acc.take (n+1))) (by simp[Act.eval,Act.put]) (hp1 _) ⟨w7.heap.size,0,none⟩ 1 1 (vE x) (by simp[Act.eval,Act.put]) rfl hc1 hvo hb63 hb64 bd7s ?_;intro v8 w8 hown8 hgrow8 hnil8)
         |(refine wZ rfl (.tmp 47) (.tmp 48) 22 rfl w.heap.size 37 i0 (.agg #[.int .i64 0,.int .i64 0,.string ⟨#[]⟩]) 3 32 Try.underlying22 hi hz0 hz1 hz2 rfl (by decide) v8 ((n+1)+1) _ (by simp[Act.eval,Act.put]) hown8 ⟨g7,0,none⟩ R.length cap7 (cE R) (by simp[Act.eval,Act.put,hRl]) (z0u R) (hc2 w8 hgrow8) (z6p R) hb65 hb66 (by have:=hgrow8.size;exact Nat.le_trans bd7s this) ?_;intro v9 w9 hown9 hgrow9 hnil9))
        go_wp2
        have hnn9:v9≠.slice none 0 0:=fun e=>by
         have h8:=(hnil9.1 e).1;have:=(hnil8.1 h8).1;cases this
        have own9:Own w9 w.heap.size v9 (acc.take (n+1)++[x]++R):=by
         have e9:(acc.take (n+1)++[x]++R).length=(n+1)+1+R.length:=by simp;omega
         unfold Own;rw[e9,z1D,z1D];exact hown9
        have bd8:Below w.heap.size w w8:=bd7.grown hgrow8 bd7s (fun j hj=>by have hj':some g=some j:=hj;cases hj';exact hbase);have bd9:Below w.heap.size w w9:=bd8.grown hgrow9 bd8.size (fun j hj=>(hown8.lt j hj).1);have hlen9:(acc.take (n+1)++[x]++R).length≤k+1:=by simp;omega
        rw[←hR]at hgo;clear hown8 hgrow8 hnil8 hown9 hgrow9 hnil9
        go_roundw
        case rel=>exact⟨k+1,acc.take (n+1)++[x]++R,by go_num,hlt,own9,hnn9,bd9,hgo,hlen9⟩
        case measure=>simp[intOf];omega
    ·have hke:k=edits.length:=by omega
     subst hke;rw[List.drop_eq_nil_of_le (Nat.le_refl _),zT]at hgo;subst hgo
     go_wp2_with fail
     go_ret
     exact⟨_,κ,rfl,yY B hbw,rfl,.d _ _ (z5x hown fun b o hb=>z2H B hb)⟩
theorem z4M(text:Str)(edits:List Edit)(r:Str)(h:uW text edits=some r):Trip Try.prog 11 [.d (.str text),.d (.sl (List.map Edit.toD edits))] [] [.d (.str r)] []:=by
 unfold uW at h;refine gI 1000 (by kernel_rfl) (by kernel_rfl) (by kernel_rfl) (by kernel_rfl) (by kernel_rfl) (z5f _ _ text edits _ _) ?_;obtain⟨q1,hq,h⟩:=yA h;refine⟨List.map Edit.toD q1,⟨_,jZ _ _ hq⟩,?_⟩;refine z3s (e':=(List.length q1:Int)) (by first|rfl|rw[zq3]) ?_;rintro _ rfl;exact z2f _ _ _ _ h
def z1L:(i:yS)→wP i→Prop
 |.zI l size i,r=>Ok (zW (Trip Try.prog) [.d (.int .i64 r)] []) (kL Try.f10 15) ⟨102,[(6,.d (.sl (List.map Edit.toD l))),(7,.d (.int .i64 size)),(9,.d (.int .i64 i))],[],[],0⟩
theorem z1K:∀i r,z4l uQ i=some r→z1L i r:=by
 refine uG gJ fun g ih i=>?_;cases i with
 |zI l size i=>
  have y1e:∀(l:List Edit) (size:Int) (i:Int) (r:Int),g (yS.zI l size i)=some r→Ok (zW (Trip Try.prog) [.d (.int .i64 r)] []) (kL Try.f10 15) ⟨102,[(6,.d (.sl (List.map Edit.toD l))),(7,.d (.int .i64 size)),(9,.d (.int .i64 i))],[],[],0⟩:=fun l size i r h=>ih (.zI l size i) r h;intro r h;show Ok (zW (Trip Try.prog) [.d (.int .i64 r)] []) (kL Try.f10 15) ⟨102,[(6,.d (.sl (List.map Edit.toD l))),(7,.d (.int .i64 size)),(9,.d (.int .i64 i))],[],[],0⟩
  replace h:yI (fun l size i=>g (yS.zI l size i)) l size i=some r:=h;unfold yI at h;refine z7e 1000 (z1O _ _ l size i _ _) ?_;refine z3s (e':=(List.length l:Int)) (by first|rfl|rw[zq3]) ?_;rintro _ rfl;refine vJ decide_eq_true_iff h (fun hc3 h=>?_) (fun hc3 h=>?_)
  ·obtain⟨x,hx,h⟩:=yA h;refine⟨vK (l:=l) (Edit.sz),z1W hx,x.From,x.To,x.Text,jG (Edit.toD_eq x) hx,?_⟩;rintro _ rfl;rintro _ rfl;rintro _ rfl;refine vJ decide_eq_true_iff h (fun hc4 h=>?_) (fun hc4 h=>?_)
   ·cases h;exact⟨rfl,rfl⟩
   ·rintro _ rfl;exact y1e _ _ _ _ h
  ·rintro _ rfl;refine vJ decide_eq_true_iff h (fun hc5 h=>?_) (fun hc5 h=>?_)
   ·cases h;exact⟨rfl,rfl⟩
   ·cases h;exact⟨rfl,rfl⟩
theorem z1M(l:List Edit)(size:Int)(i:Int)(r:Int)(h:zI l size i=some r):Ok (zW (Trip Try.prog) [.d (.int .i64 r)] []) (kL Try.f10 15) ⟨102,[(6,.d (.sl (List.map Edit.toD l))),(7,.d (.int .i64 size)),(9,.d (.int .i64 i))],[],[],0⟩:=z1K (.zI l size i) r h
def z2c:(i:vG)→wX i→Prop
 |.zG l size i,r=>Ok (zW (Trip Try.prog) [.d (.int .i64 r)] []) (kL Try.f10 9) ⟨102,[(6,.d (.sl (List.map Edit.toD l))),(7,.d (.int .i64 size)),(8,.d (.int .i64 i))],[],[],0⟩
theorem z1Z:∀i r,z4l uZ i=some r→z2c i r:=by
 refine uG gO fun g ih i=>?_;cases i with
 |zG l size i=>
  have y1g:∀(l:List Edit) (size:Int) (i:Int) (r:Int),g (vG.zG l size i)=some r→Ok (zW (Trip Try.prog) [.d (.int .i64 r)] []) (kL Try.f10 9) ⟨102,[(6,.d (.sl (List.map Edit.toD l))),(7,.d (.int .i64 size)),(8,.d (.int .i64 i))],[],[],0⟩:=fun l size i r h=>ih (.zG l size i) r h;intro r h;show Ok (zW (Trip Try.prog) [.d (.int .i64 r)] []) (kL Try.f10 9) ⟨102,[(6,.d (.sl (List.map Edit.toD l))),(7,.d (.int .i64 size)),(8,.d (.int .i64 i))],[],[],0⟩
  replace h:zX (fun l size i=>g (vG.zG l size i)) l size i=some r:=h;unfold zX at h;refine z7e 1000 (z2D _ _ l size i _ _) ?_;refine z3s (e':=(List.length l:Int)) (by first|rfl|rw[zq3]) ?_;rintro _ rfl;refine vJ decide_eq_true_iff h (fun hc6 h=>?_) (fun hc6 h=>?_)
  ·rintro _ rfl;refine vJ decide_eq_true_iff h (fun hc7 h=>?_) (fun hc7 h=>?_)
   ·obtain⟨x,hx,h⟩:=yA h;refine⟨vK (l:=l) (Edit.sz),z1W hx,x.From,x.To,x.Text,jG (Edit.toD_eq x) hx,?_⟩;rintro _ rfl;obtain⟨x1,hx,h⟩:=yA h;refine⟨vK (l:=l) (Edit.sz),z1W hx,x1.From,x1.To,x1.Text,jG (Edit.toD_eq x1) hx,?_⟩;rintro _ rfl;refine vJ decide_eq_true_iff h (fun hc8 h=>?_) (fun hc8 h=>?_)
    ·cases h;exact⟨rfl,rfl⟩
    ·obtain⟨x2,hx,h⟩:=yA h;refine⟨vK (l:=l) (Edit.sz),z1W hx,x2.From,x2.To,x2.Text,jG (Edit.toD_eq x2) hx,?_⟩;obtain⟨x3,hx,h⟩:=yA h;refine⟨vK (l:=l) (Edit.sz),z1W hx,x3.From,x3.To,x3.Text,jG (Edit.toD_eq x3) hx,?_⟩;rintro _ rfl;rintro _ rfl;rintro _ rfl;exact y1g _ _ _ _ h
   ·obtain⟨x4,hx,h⟩:=yA h;refine⟨vK (l:=l) (Edit.sz),z1W hx,x4.From,x4.To,x4.Text,jG (Edit.toD_eq x4) hx,?_⟩;obtain⟨x5,hx,h⟩:=yA h;refine⟨vK (l:=l) (Edit.sz),z1W hx,x5.From,x5.To,x5.Text,jG (Edit.toD_eq x5) hx,?_⟩;rintro _ rfl;rintro _ rfl;rintro _ rfl;exact y1g _ _ _ _ h
  ·exact z1M _ _ _ _ h
theorem z2h(l:List Edit)(size:Int)(i:Int)(r:Int)(h:zG l size i=some r):Ok (zW (Trip Try.prog) [.d (.int .i64 r)] []) (kL Try.f10 9) ⟨102,[(6,.d (.sl (List.map Edit.toD l))),(7,.d (.int .i64 size)),(8,.d (.int .i64 i))],[],[],0⟩:=z1Z (.zG l size i) r h
def z2b:(i:vF)→wW i→Prop
 |.zK text edits i,r=>Ok (zW (Trip Try.prog) [.d (.int .i64 r)] []) (kL Try.f10 2) ⟨102,[(0,.d (.str text)),(1,.d (.sl (List.map Edit.toD edits))),(5,.d (.int .i64 i))],[],[],0⟩
theorem z1Y:∀i r,z4l uY i=some r→z2b i r:=by
 refine uG gN fun g ih i=>?_;cases i with
 |zK text edits i=>
  have y1f:∀(text:Str) (edits:List Edit) (i:Int) (r:Int),g (vF.zK text edits i)=some r→Ok (zW (Trip Try.prog) [.d (.int .i64 r)] []) (kL Try.f10 2) ⟨102,[(0,.d (.str text)),(1,.d (.sl (List.map Edit.toD edits))),(5,.d (.int .i64 i))],[],[],0⟩:=fun text edits i r h=>ih (.zK text edits i) r h;intro r h;show Ok (zW (Trip Try.prog) [.d (.int .i64 r)] []) (kL Try.f10 2) ⟨102,[(0,.d (.str text)),(1,.d (.sl (List.map Edit.toD edits))),(5,.d (.int .i64 i))],[],[],0⟩
  replace h:yG (fun text edits i=>g (vF.zK text edits i)) text edits i=some r:=h;unfold yG at h;refine z7e 1000 (z2C _ _ text edits i _ _) ?_;refine z3s (e':=(List.length edits:Int)) (by first|rfl|rw[zq3]) ?_;rintro _ rfl;refine vJ decide_eq_true_iff h (fun hc9 h=>?_) (fun hc9 h=>?_)
  ·obtain⟨x,hx,h⟩:=yA h;refine⟨vK (l:=edits) (Edit.sz),z1W hx,x.From,x.To,x.Text,jG (Edit.toD_eq x) hx,?_⟩;rintro _ rfl;refine vJ decide_eq_true_iff h (fun hc10 h=>?_) (fun hc10 h=>?_)
   ·cases h;exact⟨rfl,rfl⟩
   ·obtain⟨x1,hx,h⟩:=yA h;refine⟨vK (l:=edits) (Edit.sz),z1W hx,x1.From,x1.To,x1.Text,jG (Edit.toD_eq x1) hx,?_⟩;obtain⟨x2,hx,h⟩:=yA h;refine⟨vK (l:=edits) (Edit.sz),z1W hx,x2.From,x2.To,x2.Text,jG (Edit.toD_eq x2) hx,?_⟩;rintro _ rfl;refine vJ decide_eq_true_iff h (fun hc11 h=>?_) (fun hc11 h=>?_)
    ·cases h;exact⟨rfl,rfl⟩
    ·obtain⟨x3,hx,h⟩:=yA h;refine⟨vK (l:=edits) (Edit.sz),z1W hx,x3.From,x3.To,x3.Text,jG (Edit.toD_eq x3) hx,?_⟩;rintro _ rfl;rintro _ rfl;refine vJ decide_eq_true_iff h (fun hc12 h=>?_) (fun hc12 h=>?_)
     ·cases h;exact⟨rfl,rfl⟩
     ·rintro _ rfl;exact y1f _ _ _ _ h
  ·obtain⟨q1,hq,h⟩:=yA h;refine⟨List.map Edit.toD q1,⟨_,jZ _ _ hq⟩,?_⟩;rintro _ rfl;exact z2h _ _ _ _ h
theorem z2g(text:Str)(edits:List Edit)(i:Int)(r:Int)(h:zK text edits i=some r):Ok (zW (Trip Try.prog) [.d (.int .i64 r)] []) (kL Try.f10 2) ⟨102,[(0,.d (.str text)),(1,.d (.sl (List.map Edit.toD edits))),(5,.d (.int .i64 i))],[],[],0⟩:=z1Y (.zK text edits i) r h
theorem z4N(text:Str)(edits:List Edit)(r:Int)(h:wJ text edits=some r):Trip Try.prog 10 [.d (.str text),.d (.sl (List.map Edit.toD edits))] [] [.d (.int .i64 r)] []:=by
 unfold wJ at h;refine gI 1000 (by kernel_rfl) (by kernel_rfl) (by kernel_rfl) (by kernel_rfl) (by kernel_rfl) (z5g _ _ text edits _ _) ?_;exact z2g _ _ _ _ h
def z1l:(i:yQ)→wC i→Prop
 |.zJ l out more i,r=>Ok (vQ (Trip Try.prog) [.d (.sl (List.map Region.toD r))] []) (kL Try.f13 5) ⟨67,[(3,.d (.sl (List.map Edit.toD l))),(4,.right 10 1 4 (List.map Region.toD out)),(5,.d (.int .i64 more)),(6,.d (.int .i64 i))],[(10,1,some (.tok 4 (List.length (List.map Region.toD out))))],[],0⟩
theorem z1k:∀i r,z4l uC i=some r→z1l i r:=by
 refine uG jR fun g ih i=>?_;cases i with
 |zJ l out more i=>
  have y1h:∀(l:List Edit) (out:List Region) (more:Int) (i:Int) (r:List Region),g (yQ.zJ l out more i)=some r→Ok (vQ (Trip Try.prog) [.d (.sl (List.map Region.toD r))] []) (kL Try.f13 5) ⟨67,[(3,.d (.sl (List.map Edit.toD l))),(4,.right 10 1 4 (List.map Region.toD out)),(5,.d (.int .i64 more)),(6,.d (.int .i64 i))],[(10,1,some (.tok 4 (List.length (List.map Region.toD out))))],[],0⟩:=fun l out more i r h=>ih (.zJ l out more i) r h;intro r h
  show Ok (vQ (Trip Try.prog) [.d (.sl (List.map Region.toD r))] []) (kL Try.f13 5) ⟨67,[(3,.d (.sl (List.map Edit.toD l))),(4,.right 10 1 4 (List.map Region.toD out)),(5,.d (.int .i64 more)),(6,.d (.int .i64 i))],[(10,1,some (.tok 4 (List.length (List.map Region.toD out))))],[],0⟩;replace h:yD (fun l out more i=>g (yQ.zJ l out more i)) l out more i=some r:=h;unfold yD at h;refine z7e 1000 (z1q _ _ l out more i _ _) ?_;refine z3s (e':=(List.length l:Int)) (by first|rfl|rw[zq3]) ?_;rintro _ rfl
  refine vJ decide_eq_true_iff h (fun hc13 h=>?_) (fun hc13 h=>?_)
  ·obtain⟨x,hx,h⟩:=yA h;refine⟨vK (l:=l) (Edit.sz),z1W hx,x.From,x.To,x.Text,jG (Edit.toD_eq x) hx,?_⟩;rintro _ rfl;obtain⟨x1,hx,h⟩:=yA h;refine⟨vK (l:=l) (Edit.sz),z1W hx,x1.From,x1.To,x1.Text,jG (Edit.toD_eq x1) hx,?_⟩;rintro _ rfl;obtain⟨x2,hx,h⟩:=yA h;refine⟨vK (l:=l) (Edit.sz),z1W hx,x2.From,x2.To,x2.Text,jG (Edit.toD_eq x2) hx,?_⟩;obtain⟨x3,hx,h⟩:=yA h;refine⟨vK (l:=l) (Edit.sz),z1W hx,x3.From,x3.To,x3.Text,jG (Edit.toD_eq x3) hx,?_⟩;rintro _ rfl;rintro _ rfl;rintro _ rfl
   obtain⟨x4,hx,h⟩:=yA h;refine⟨vK (l:=l) (Edit.sz),z1W hx,x4.From,x4.To,x4.Text,jG (Edit.toD_eq x4) hx,?_⟩;obtain⟨x5,hx,h⟩:=yA h;refine⟨vK (l:=l) (Edit.sz),z1W hx,x5.From,x5.To,x5.Text,jG (Edit.toD_eq x5) hx,?_⟩;obtain⟨x6,hx,h⟩:=yA h;refine⟨vK (l:=l) (Edit.sz),z1W hx,x6.From,x6.To,x6.Text,jG (Edit.toD_eq x6) hx,?_⟩;rintro _ rfl;refine⟨by simp[yB,D.cells],?_⟩;refine⟨by first|rfl|decide|simp only[zq3,List.length_cons,List.length_nil,List.map_append,List.length_append],?_⟩;obtain⟨hP,h⟩:=z1g h
   refine⟨by first|exact hP|(simp only[zq3,List.length_cons,List.length_nil]at hP ⊢;exact hP),?_⟩;refine z3s (e':=List.map Region.toD (out++[(Region.mk x4.From x5.To (IntKind.wrap .i64 (x.From+more)) (IntKind.wrap .i64 (x6.To+(IntKind.wrap .i64 (more+(IntKind.wrap .i64 ((List.length x1.Text:Int)-(IntKind.wrap .i64 (x2.To-x3.From)))))))))])) (by first|rfl|simp only[List.map_append,List.map_cons,List.map_nil,List.map_take,List.map_drop,List.map_set,List.map_replicate,zq3,Region.toD_eq]) ?_
   rintro _ rfl;exact y1h _ _ _ _ _ h
  ·cases h;exact⟨rfl,rfl⟩
theorem z1m(l:List Edit)(out:List Region)(more:Int)(i:Int)(r:List Region)(h:zJ l out more i=some r):Ok (vQ (Trip Try.prog) [.d (.sl (List.map Region.toD r))] []) (kL Try.f13 5) ⟨67,[(3,.d (.sl (List.map Edit.toD l))),(4,.right 10 1 4 (List.map Region.toD out)),(5,.d (.int .i64 more)),(6,.d (.int .i64 i))],[(10,1,some (.tok 4 (List.length (List.map Region.toD out))))],[],0⟩:=z1k (.zJ l out more i) r h
theorem z3y(edits:List Edit)(r:List Region)(h:wU edits=some r):Trip Try.prog 13 [.d (.sl (List.map Edit.toD edits))] [] [.d (.sl (List.map Region.toD r))] []:=by
 unfold wU at h;refine gI 1000 (by kernel_rfl) (by kernel_rfl) (by kernel_rfl) (by kernel_rfl) (by kernel_rfl) (z3A _ _ edits _ _) ?_;obtain⟨q1,hq,h⟩:=yA h;refine⟨List.map Edit.toD q1,⟨_,jZ _ _ hq⟩,?_⟩;exact z1m _ _ _ _ _ h
def z3w:(i:vP)→uL i→Prop
 |.zP a b i,r=>Ok (uF (Trip Try.prog) [.d (.bool r)] []) (kL Try.f12 4) ⟨26,[(0,.d (.sl (List.map Region.toD a))),(1,.d (.sl (List.map Region.toD b))),(5,.d (.int .i64 i))],[],[],0⟩
theorem z3v:∀i r,z4l jN i=some r→z3w i r:=by
 refine uG z0t fun g ih i=>?_;cases i with
 |zP a b i=>
  have y1i:∀(a:List Region) (b:List Region) (i:Int) (r:Bool),g (vP.zP a b i)=some r→Ok (uF (Trip Try.prog) [.d (.bool r)] []) (kL Try.f12 4) ⟨26,[(0,.d (.sl (List.map Region.toD a))),(1,.d (.sl (List.map Region.toD b))),(5,.d (.int .i64 i))],[],[],0⟩:=fun a b i r h=>ih (.zP a b i) r h;intro r h;show Ok (uF (Trip Try.prog) [.d (.bool r)] []) (kL Try.f12 4) ⟨26,[(0,.d (.sl (List.map Region.toD a))),(1,.d (.sl (List.map Region.toD b))),(5,.d (.int .i64 i))],[],[],0⟩
  replace h:yP (fun a b i=>g (vP.zP a b i)) a b i=some r:=h;unfold yP at h;refine z7e 1000 (z3B _ _ a b i _ _) ?_;refine z3s (e':=(List.length a:Int)) (by first|rfl|rw[zq3]) ?_;rintro _ rfl;refine vJ decide_eq_true_iff h (fun hc14 h=>?_) (fun hc14 h=>?_)
  ·obtain⟨x,hx,h⟩:=yA h;refine⟨vK (l:=a) (Region.sz),z1W hx,x.FromP,x.ToP,x.FromQ,x.ToQ,jG (Region.toD_eq x) hx,?_⟩;obtain⟨x1,hx,h⟩:=yA h;refine⟨vK (l:=b) (Region.sz),z1W hx,x1.FromP,x1.ToP,x1.FromQ,x1.ToQ,jG (Region.toD_eq x1) hx,?_⟩;rintro _ rfl;rintro _ rfl;rintro _ rfl;rintro _ rfl;refine z3r (z9z zq2 (z9z zq2 (z9z zq2 (z9z zq2 (by simp))))) h (fun hc15 h=>?_) (fun hc15 h=>?_)
   ·rintro _ rfl;exact y1i _ _ _ _ h
   ·cases h;exact⟨rfl,rfl⟩
  ·cases h;exact⟨rfl,rfl⟩
theorem z3z(a:List Region)(b:List Region)(i:Int)(r:Bool)(h:zP a b i=some r):Ok (uF (Trip Try.prog) [.d (.bool r)] []) (kL Try.f12 4) ⟨26,[(0,.d (.sl (List.map Region.toD a))),(1,.d (.sl (List.map Region.toD b))),(5,.d (.int .i64 i))],[],[],0⟩:=z3v (.zP a b i) r h
theorem z5I(a:List Region)(b:List Region)(r:Bool)(h:jU a b=some r):Trip Try.prog 12 [.d (.sl (List.map Region.toD a)),.d (.sl (List.map Region.toD b))] [] [.d (.bool r)] []:=by
 unfold jU at h;refine gI 1000 (by kernel_rfl) (by kernel_rfl) (by kernel_rfl) (by kernel_rfl) (by kernel_rfl) (z5O _ _ a b _ _) ?_;refine z3s (e':=(List.length a:Int)) (by first|rfl|rw[zq3]) ?_;refine z3s (e':=(List.length b:Int)) (by first|rfl|rw[zq3]) ?_;rintro _ rfl;refine z3r zq2 h (fun hc16 h=>?_) (fun hc16 h=>?_)
 ·exact z3z _ _ _ _ h
 ·cases h;exact⟨rfl,rfl⟩
theorem z0A(text:Str)(edits:List Edit)(r:Bool)(h:wF text edits=some r):Trip Try.prog 3 [.d (.str text),.d (.sl (List.map Edit.toD edits))] [] [.d (.bool r)] []:=by
 unfold wF at h;refine gI 1000 (by kernel_rfl) (by kernel_rfl) (by kernel_rfl) (by kernel_rfl) (by kernel_rfl) (z0D _ _ text edits _ _) ?_;obtain⟨q1,hq,h⟩:=yA h;refine⟨q1,⟨_,z4L _ _ hq⟩,?_⟩;refine vJ Iff.rfl h (fun hc17 h=>?_) (fun hc17 h=>?_)
 ·obtain⟨q2,hq,h⟩:=yA h;refine⟨q2,⟨_,gP _ hq⟩,?_⟩;cases h;exact⟨rfl,rfl⟩
 ·obtain⟨q3,hq,h⟩:=yA h;refine⟨q3.1,q3.2,⟨_,z0H _ _ _ hq⟩,?_⟩;obtain⟨q4,hq,h⟩:=yA h;refine⟨List.map Region.toD q4.1,q4.2,⟨_,z2e _ _ _ hq⟩,?_⟩;obtain⟨q5,hq,h⟩:=yA h;refine⟨q5,⟨_,z4N _ _ _ hq⟩,?_⟩;rintro _ rfl;refine z3r zq2 h (fun hc18 h=>?_) (fun hc18 h=>?_)
  ·rintro _ rfl;refine z3r zq2 h (fun hc19 h=>?_) (fun hc19 h=>?_)
   ·rintro _ rfl;refine z3r zq2 h (fun hc20 h=>?_) (fun hc20 h=>?_)
    ·obtain⟨q7,hq,h⟩:=yA h;refine⟨q7,⟨_,z4M _ _ _ hq⟩,?_⟩;rintro _ rfl;refine vJ zq2 h (fun hc21 h=>?_) (fun hc21 h=>?_)
     ·obtain⟨q8,hq,h⟩:=yA h;refine⟨List.map Region.toD q8,⟨_,z3y _ _ hq⟩,?_⟩;obtain⟨q9,hq,h⟩:=yA h;refine⟨q9,⟨_,z5I _ _ _ hq⟩,?_⟩;refine vJ Iff.rfl h (fun hc22 h=>?_) (fun hc22 h=>?_)
      ·obtain⟨q10,hq,h⟩:=yA h;refine⟨q10,⟨_,gP _ hq⟩,?_⟩;cases h;exact⟨rfl,rfl⟩
      ·cases h;exact⟨rfl,rfl⟩
     ·cases h;exact⟨rfl,rfl⟩
    ·rintro _ rfl;refine vJ zq2 h (fun hc23 h=>?_) (fun hc23 h=>?_)
     ·refine z3s (e':=(List.length q4.1:Int)) (by first|rfl|rw[zq3]) ?_;rintro _ rfl;refine vJ zq2 h (fun hc24 h=>?_) (fun hc24 h=>?_)
      ·obtain⟨q6,hq,h⟩:=yA h;refine⟨q6,⟨_,gP _ hq⟩,?_⟩;cases h;exact⟨rfl,rfl⟩
      ·cases h;exact⟨rfl,rfl⟩
     ·cases h;exact⟨rfl,rfl⟩
   ·cases h;exact⟨rfl,rfl⟩
  ·cases h;exact⟨rfl,rfl⟩
end Go.Proofs.Ytjlohgfmobpfmaa.M

