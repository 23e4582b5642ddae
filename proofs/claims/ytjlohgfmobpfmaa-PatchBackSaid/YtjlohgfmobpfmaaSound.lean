import Derived.Test.YtjlohgfmobpfmaaMod
import Derived.Test.YtjlohgfmobpfmaaEv
import Derived.Test.YtjlohgfmobpfmaaLay
import Derived.Test.YtjlohgfmobpfmaaFwZB
import Derived.RegionTactic
import Derived.ChangeAlike
import Derived.KernelRfl
import Derived.BigRegion
import Derived.BigQuiet
import Derived.Deep.QuietTactic
import Derived.Shelf.Strings.BuilderK
namespace Go.Proofs.Ytjlohgfmobpfmaa.M
open Go Nt Go.Proofs
set_option linter.unusedVariables false
set_option linter.unusedSimpArgs false
set_option linter.unnecessarySimpa false
set_option maxRecDepth 100000
open Go.RowKit Go.Shelf
abbrev vE(e:Edit):List Go.Value:=[.int .i64 e.From,.int .i64 e.To,.string ⟨⟨e.Text⟩⟩]
def cE:List Edit→List Go.Value
 |[]=>[]
 |e::r=>vE e++cE r
theorem z3x(l:List Edit):(cE l).length=l.length*3:=by
 induction l with
 |nil=>rfl
 |cons e r ih=>simp[cE,ih];omega
theorem z4N(a b:List Edit):cE (a++b)=cE a++cE b:=by
 induction a with
 |nil=>rfl
 |cons e r ih=>simp[cE,ih]
theorem z7W:∀(l:List Edit) (i:Nat) (h:i<l.length),(cE l)[i*3]?=some (.int .i64 l[i].From)∧(cE l)[i*3+1]?=some (.int .i64 l[i].To)∧(cE l)[i*3+2]?=some (.string ⟨⟨l[i].Text⟩⟩)
 |e::r,0,_=>⟨rfl,rfl,rfl⟩
 |e::r,i+1,h=>by
  have:=z7W r i (by simpa using h);simp only[cE,vE];rw[show(i+1)*3=i*3+3 by omega];simpa using this
abbrev Own(w:World)(base:Nat)(v:Go.Value)(xs:List Edit):Prop:=w.ownsRow base 37 3 v xs.length (cE xs)
theorem Own.get{w:World}{base:Nat}{v:Go.Value}{xs:List Edit}(h:Own w base v xs)(hx:0<xs.length):∃g cap cur,v=.slice (some ⟨g,0,none⟩) xs.length cap∧base≤g∧w.heap[g]?=some (.cells cur 37 (0,0))∧xs.length≤cap∧cap≤maxLen∧cur.size=cap*3∧cur.toList.take (xs.length*3)=cE xs:=by
 rcases h with⟨-,⟨rfl,h0⟩|⟨g,cap,cur,rfl,h1,h2,h3,h4,h5,h6⟩⟩
 ·omega
 ·exact⟨g,cap,cur,rfl,h1,h2,h3,h4,h5,h6⟩
theorem jR{w:World}{g:Nat}{cur:Array Go.Value}{xs:List Edit}(h:w.heap[g]?=some (.cells cur 37 (0,0)))(h6:cur.toList.take (xs.length*3)=cE xs){i:Nat}(hi:i<xs.length):
  w.cell? ⟨g,i*3,none⟩=some (.int .i64 xs[i].From)∧w.cell? ⟨g,i*3+1,none⟩=some (.int .i64 xs[i].To)∧w.cell? ⟨g,i*3+2,none⟩=some (.string ⟨⟨xs[i].Text⟩⟩):=by
 obtain⟨c0,c1,c2⟩:=z7W xs i hi;have k:∀j,j<xs.length*3→cur[j]?=(cE xs)[j]?:=fun j hj=>by
  rw[←h6,List.getElem?_take_of_lt hj,←Array.getElem?_toList]
 refine⟨?_,?_,?_⟩
 ·rw[zB h,k _ (by omega)];exact c0
 ·rw[zB h,k _ (by omega)];exact c1
 ·rw[zB h,k _ (by omega)];exact c2
set_option maxHeartbeats 4000000 in
theorem z8t{w:World}{base:Nat}{v:Go.Value}{xs:List Edit}(h:Own w base v xs){i j:Nat}(hi:i<xs.length)(hj:j<xs.length)(hn:xs.length≤1000000):
  Calls Try.prog 45 #[v,.int .i64 i,.int .i64 j] w fun e w'=>e=.returned (.bool (decide (xs[i].From<xs[j].From)))∧w'=w.drew:=by
 obtain⟨g,cap,cur,rfl,h1,h2,h3,h4,h5,h6⟩:=h.get (by omega);obtain⟨a0,a1,a2⟩:=jR h2 h6 hi;obtain⟨b0,b1,b2⟩:=jR h2 h6 hj
 go_enter Try.func45,Try.ntmps45
 go_wp2
 go_region
 all_goals (go_wp2;go_ret;exact⟨rfl,rfl⟩)
def z5N(w:World)(g i:Nat)(e:Edit):World:=((w.setCell ⟨g,i*3,none⟩ (.int .i64 e.From)).setCell ⟨g,i*3+1,none⟩ (.int .i64 e.To)).setCell ⟨g,i*3+2,none⟩ (.string ⟨⟨e.Text⟩⟩)
theorem z7X:∀(l:List Edit) (i:Nat) (e:Edit),cE (l.set i e)=(((cE l).set (i*3) (.int .i64 e.From)).set (i*3+1) (.int .i64 e.To)).set (i*3+2) (.string ⟨⟨e.Text⟩⟩)
 |[],i,e=>by simp[cE]
 |x::r,0,e=>rfl
 |x::r,i+1,e=>by
  rw[List.set_cons_succ,cE,z7X r i e,cE,show(i+1)*3=i*3+3 by omega];rfl
theorem z6J{w:World}{g cap:Nat}{cur:Array Go.Value}{xs:List Edit}(h2:w.heap[g]?=some (.cells cur 37 (0,0)))(h5:cur.size=cap*3)(h6:cur.toList.take (xs.length*3)=cE xs)(i:Nat)(e:Edit):
  ∃cur',(z5N w g i e).heap[g]?=some (.cells cur' 37 (0,0))∧cur'.size=cap*3∧cur'.toList.take ((xs.set i e).length*3)=cE (xs.set i e):=by
 have s1:=heap_setCell_same w g (i*3) cur 37 (.int .i64 e.From) h2;have s2:=heap_setCell_same _ g (i*3+1) _ 37 (.int .i64 e.To) s1;have s3:=heap_setCell_same _ g (i*3+2) _ 37 (.string ⟨⟨e.Text⟩⟩) s2;refine⟨_,s3,by simp[h5],?_⟩;rw[z7X,List.length_set,←h6];simp only[Array.toList_setIfInBounds,List.take_set]
theorem z6I(w:World)(g i:Nat)(e:Edit)(k:Nat)(h:k≠g):(z5N w g i e).heap[k]?=w.heap[k]?:=by
 unfold z5N;rw[heap_setCell_other _ _ _ _ h,heap_setCell_other _ _ _ _ h,heap_setCell_other _ _ _ _ h]
theorem z7T(w:World)(g i:Nat)(e:Edit):(z5N w g i e).heap.size=w.heap.size:=by simp[z5N,World.setCell]
structure Fr(P:Nat→Prop)(w w':World):Prop where
 os:w'.os=w.os
 tape:w'.tape=w.tape
 output:w'.output=w.output
 size:w.heap.size≤w'.heap.size
 blk:∀k,k<w.heap.size→¬P k→w'.heap[k]?=w.heap[k]?
theorem Fr.refl(P:Nat→Prop)(w:World):Fr P w w:=⟨rfl,rfl,rfl,Nat.le_refl _,fun _ _ _=>rfl⟩
theorem Fr.trans{P Q:Nat→Prop}{a b c:World}(h:Fr P a b)(g:Fr Q b c)(hQ:∀k,k<a.heap.size→Q k→P k):Fr P a c:=
 ⟨g.os.trans h.os,g.tape.trans h.tape,g.output.trans h.output,Nat.le_trans h.size g.size,fun k hk hp=>(g.blk k (Nat.lt_of_lt_of_le hk h.size) fun q=>hp (hQ k hk q)).trans (h.blk k hk hp)⟩
theorem Fr.mono{P Q:Nat→Prop}{a b:World}(h:Fr P a b)(hQ:∀k,k<a.heap.size→P k→Q k):Fr Q a b:=⟨h.os,h.tape,h.output,h.size,fun k hk hp=>h.blk k hk fun p=>hp (hQ k hk p)⟩
theorem Fr.drew{P:Nat→Prop}{a b:World}(h:Fr P a b):Fr P a b.drew:=⟨h.os,h.tape,h.output,h.size,h.blk⟩
theorem Fr.put{w:World}(g i:Nat)(e:Edit):Fr (fun k=>k=g) w (z5N w g i e):=⟨rfl,rfl,rfl,by rw[z7T];exact Nat.le_refl _,fun k _ hk=>z6I w g i e k hk⟩
abbrev z0h(xs:List Edit)(i j:Nat)(hi:i<xs.length)(hj:j<xs.length):List Edit:=(xs.set i xs[j]).set j xs[i]
set_option maxHeartbeats 4000000 in
theorem z8D{w:World}{base:Nat}{v:Go.Value}{xs:List Edit}(h:Own w base v xs){i j:Nat}(hi:i<xs.length)(hj:j<xs.length)(hn:xs.length≤1000000):
  Calls Try.prog 46 #[v,.int .i64 i,.int .i64 j] w fun e w'=>∃v',e=.returned v'∧Own w' base v (z0h xs i j hi hj)∧Fr (fun k=>v.ownBlock=some k) w w':=by
 obtain⟨g,cap,cur,rfl,h1,h2,h3,h4,h5,h6⟩:=h.get (by omega);obtain⟨a0,a1,a2⟩:=jR h2 h6 hi;obtain⟨b0,b1,b2⟩:=jR h2 h6 hj;have z:∀k,w.frozen? ⟨g,k,none⟩=false:=fun k=>wC h2;have fin:∃v',Ending.returned (Value.tuple #[])=Ending.returned v'∧Own (z5N (z5N w g i xs[j]) g j xs[i]).drew base (.slice (some ⟨g,0,none⟩) xs.length cap) (z0h xs i j hi hj)∧Fr (fun k=>(Go.Value.slice (some ⟨g,0,none⟩) xs.length cap).ownBlock=some k) w (z5N (z5N w g i xs[j]) g j xs[i]).drew:=by
  obtain⟨c1,k2,k5,k6⟩:=z6J h2 h5 h6 i xs[j];obtain⟨c2,q2,q5,q6⟩:=z6J k2 k5 k6 j xs[i];have f1:Fr (fun k=>(Go.Value.slice (some ⟨g,0,none⟩) xs.length cap).ownBlock=some k) w (z5N (z5N w g i xs[j]) g j xs[i]):=
   ((Fr.put g i xs[j]).trans (Fr.put g j xs[i]) (fun k _ h=>h)).mono fun k _ hk=>by rw[hk];rfl
  have hl:(z0h xs i j hi hj).length=xs.length:=by simp[z0h]
  exact⟨_,rfl,⟨z3x _,.inr ⟨g,cap,c2,by rw[hl],h1,q2,by omega,h4,q5,q6⟩⟩,f1.drew⟩
 by_cases hij:i=j
 ·subst hij
  go_enter Try.func46,Try.ntmps46
  go_region
  all_goals (refine bodyPost_end (results_none rfl _ _ _) rfl ?_;exact fin)
 ·go_enter Try.func46,Try.ntmps46
  go_region
  all_goals (refine bodyPost_end (results_none rfl _ _ _) rfl ?_;exact fin)
theorem z6K(w:World)(p:Nat)(s:String):(receiverAt 57 (.val (.pointer (some ⟨p,0,none⟩))) false (some s)).run Try.prog w=(loadVar 55 ⟨p,0,none⟩).run Try.prog w:=by kernel_rfl
theorem z6L(w:World)(p:Nat)(s:String):(receiverAt 57 (.val (.pointer (some ⟨p,0,none⟩))) true (some s)).run Try.prog w=.ok (.pointer (some ⟨p,0,none⟩)) w:=by kernel_rfl
theorem z0e{P:Program}{t:TypeId}{v:Go.Value}{name:String}{i:TypeInfo}{f:FuncId}{b:Bool}{ty:TypeId}(n:Nat)(w:World)(hi:P.info? t=some i)(hm:i.methods.find? (·.name == name)=some ⟨name,ty,#[],some (f,b)⟩):
  (method (n + 1) t v name).run P w = ((receiverAt t (.val v) b (some ((name.splitOn ".").getLastD name))).run P w).andThen fun v w' => .ok (f, v) w' := by
 simp[method,typeInfo,hi,hm,follow]
theorem z6w{w:World}{p:Nat}{v:Go.Value}(hp:w.heap[p]?=some (.cells #[v] 55 (0,0))):(loadVar 55 ⟨p,0,none⟩).run Try.prog w=.ok v w:=by
 have hc:w.cell? ⟨p,0,none⟩=some v:=zB hp;simp[loadVar,hc]
theorem jF {w : World} {p : Nat} {v : Go.Value} (hp : w.heap[p]? = some (.cells #[v] 55 (0, 0))) : (method 183 57 (.pointer (some ⟨p, 0, none⟩)) "Less").run Try.prog w = .ok (45, v) w := by
 obtain ⟨i, hi, hm⟩ : ∃ i, Try.prog.info? 57 = some i ∧ i.methods.find? (·.name == "Less") = some ⟨"Less", 69, #[], some (45, false)⟩ := ⟨_, rfl, by kernel_rfl⟩;rw[z0e 182 w hi hm,z6K,z6w hp];rfl
theorem jG {w : World} {p : Nat} {v : Go.Value} (hp : w.heap[p]? = some (.cells #[v] 55 (0, 0))) : (method 183 57 (.pointer (some ⟨p, 0, none⟩)) "Swap").run Try.prog w = .ok (46, v) w := by
 obtain ⟨i, hi, hm⟩ : ∃ i, Try.prog.info? 57 = some i ∧ i.methods.find? (·.name == "Swap") = some ⟨"Swap", 64, #[], some (46, false)⟩ := ⟨_, rfl, by kernel_rfl⟩;rw[z0e 182 w hi hm,z6K,z6w hp];rfl
theorem z5b {w : World} {p : Nat} {v : Go.Value} (hp : w.heap[p]? = some (.cells #[v] 55 (0, 0))) : (method 183 57 (.pointer (some ⟨p, 0, none⟩)) "Len").run Try.prog w = .ok (22, v) w := by
 obtain ⟨i, hi, hm⟩ : ∃ i, Try.prog.info? 57 = some i ∧ i.methods.find? (·.name == "Len") = some ⟨"Len", 53, #[], some (22, false)⟩ := ⟨_, rfl, by kernel_rfl⟩;rw[z0e 182 w hi hm,z6K,z6w hp];rfl
theorem z6A (w : World) (p : Nat) : (method 183 57 (.pointer (some ⟨p, 0, none⟩)) "Push").run Try.prog w = .ok (48, .pointer (some ⟨p, 0, none⟩)) w := by
 obtain ⟨i, hi, hm⟩ : ∃ i, Try.prog.info? 57 = some i ∧ i.methods.find? (·.name == "Push") = some ⟨"Push", 62, #[], some (48, true)⟩ := ⟨_, rfl, by kernel_rfl⟩;rw[z0e 182 w hi hm,z6L];rfl
theorem z7N (w : World) (p : Nat) : (method 183 57 (.pointer (some ⟨p, 0, none⟩)) "Pop").run Try.prog w = .ok (47, .pointer (some ⟨p, 0, none⟩)) w := by
 obtain ⟨i, hi, hm⟩ : ∃ i, Try.prog.info? 57 = some i ∧ i.methods.find? (·.name == "Pop") = some ⟨"Pop", 66, #[], some (47, true)⟩ := ⟨_, rfl, by kernel_rfl⟩;rw[z0e 182 w hi hm,z6L];rfl
theorem z1y{w:World}{base:Nat}{v:Go.Value}{xs:List Edit}(h:Own w base v xs){a b:Int}{i j:Nat}(ha:a=i)(hb:b=j)(hi:i<xs.length)(hj:j<xs.length)(hn:xs.length≤1000000):
  Calls Try.prog 45 #[v,.int .i64 a,.int .i64 b] w fun e w'=>e=.returned (.bool (decide (xs[i].From<xs[j].From)))∧w'=w.drew:=by
 subst ha;subst hb;exact z8t h hi hj hn
theorem z1S{w:World}{base:Nat}{v:Go.Value}{xs:List Edit}(h:Own w base v xs){a b:Int}{i j:Nat}(ha:a=i)(hb:b=j)(hi:i<xs.length)(hj:j<xs.length)(hn:xs.length≤1000000):
  Calls Try.prog 46 #[v,.int .i64 a,.int .i64 b] w fun e w'=>∃v',e=.returned v'∧Own w' base v (z0h xs i j hi hj)∧Fr (fun k=>v.ownBlock=some k) w w':=by
 subst ha;subst hb;exact z8D h hi hj hn
theorem z1r{xs:List Edit}{k:Nat}(h:k<xs.length)(z:Edit):xs.getD k z=xs[k]:=by rw[List.getD_eq_getElem?_getD,List.getElem?_eq_getElem h];rfl
theorem z2b{xs:List Edit}{k:Nat}(h:k<xs.length):fr xs k=xs[k].From:=by unfold fr;rw[z1r h]
theorem z4d{xs:List Edit}{i j:Nat}(hi:i<xs.length)(hj:j<xs.length):z0h xs i j hi hj=swF xs i j:=by unfold swF;rw[z1r hi,z1r hj]
theorem z8B(xs:List Edit)(i j:Nat):(swF xs i j).length=xs.length:=by simp[swF]
set_option maxHeartbeats 4000000 in
theorem z9h{w:World}{base p:Nat}{v:Go.Value}{xs:List Edit}(hp:w.heap[p]?=some (.cells #[v] 55 (0,0)))(h:Own w base v xs)(hv:v.ownBlock≠some p)(hn:xs.length≤1000000){j:Nat}(hj:j<xs.length){r:List Edit}(hr:∃n,j<n∧upF n xs j=r):
  Calls Try.prog 25 #[.iface 57 (.pointer (some ⟨p,0,none⟩)),.int .i64 j] w fun e w'=>e=.returned (.tuple #[])∧r.length=xs.length∧w'.heap[p]?=some (.cells #[v] 55 (0,0))∧Own w' base v r∧Fr (fun k=>v.ownBlock=some k) w w':=by
 go_enter Try.func25,Try.ntmps25
 go_wp2
 go_loopw [1] (fun jv wr=>∃(j:Nat) (ys:List Edit),jv=.int .i64 (j:Int)∧j<ys.length∧ys.length=xs.length∧wr.heap[p]?=some (.cells #[v] 55 (0,0))∧Own wr base v ys∧(∃n,j<n∧upF n ys j=r)∧Fr (fun k=>v.ownBlock=some k) w wr) (fun jv _=>(intOf jv).toNat)
 case atStart=>exact⟨j,xs,rfl,hj,rfl,hp,h,hr,Fr.refl _ _⟩
 case round=>
  obtain⟨j,ys,rfl,hj,hl,hp,h,⟨n,hjn,hr⟩,hf⟩:=hrel;obtain⟨n,rfl⟩:∃m,n=m+1:=⟨n-1,by omega⟩;rw[upF]at hr;by_cases h0:j=0
  ·subst h0;rw[zq1 rfl]at hr;subst hr
   go_wp2
   go_end0
   exact⟨rfl,hl,hp,h,hf⟩
  ·have hi:(j-1) / 2<ys.length:=by omega
   rw[zq0 h0,z2b hj,z2b hi]at hr;have ml:=jF hp;have ei:((j:Int)-1) / 2=(((j-1) / 2:Nat):Int):=by omega
   have eo:∀k,k<wr.heap.size→wr.drew.heap[k]?=wr.heap[k]?:=fun _ _=>rfl;have e5:(((j-1:Nat):Int) / 2 == (j:Int))=false:=by rw[beq_eq_false_iff_ne];omega
   go_wp2_with fail
   refine(z1y h (i:=j) (j:=(j-1) / 2) rfl (by omega) hj hi (by omega)).mono ?_;rintro e w1 ⟨rfl,rfl⟩;have ms:=jG (w:=wr.drew) hp;generalize hb:decide (ys[j].From<ys[(j-1) / 2].From)=b;cases b with
   |true=>
    rw[zq1 (of_decide_eq_true hb),←z4d hi hj]at hr;clear hb
    go_wp2_with fail
    refine(z1S (w:=wr.drew) h (i:=(j-1) / 2) (j:=j) (by omega) rfl hi hj (by omega)).mono ?_;rintro e w2 ⟨v',rfl,h2,f2⟩;have hps:p<wr.heap.size:=(Array.getElem?_eq_some_iff.1 hp).1;have hp2:w2.heap[p]?=some (.cells #[v] 55 (0,0)):=(f2.blk p hps hv).trans hp
    go_wp2_with fail
    go_roundw
    case rel=>exact⟨(j-1) / 2,_,by go_num,by simp[z0h];omega,by simp[z0h];exact hl,hp2,h2,⟨n,by omega,hr⟩,hf.drew.trans f2 (fun _ _ h=>h)⟩
    case measure=>simp[intOf];omega
   |false=>
    rw[zq0 (of_decide_eq_false hb)]at hr;clear hb;subst hr
    go_wp2_with fail
    go_end0
    exact⟨rfl,hl,hp,h,hf.drew⟩
set_option maxHeartbeats 4000000 in
theorem z8n{w:World}{base p:Nat}{v:Go.Value}{xs:List Edit}(hp:w.heap[p]?=some (.cells #[v] 55 (0,0)))(h:Own w base v xs)(hv:v.ownBlock≠some p)(hn:xs.length≤1000000){i n:Nat}(hi:i<xs.length)(hnx:n≤xs.length){r:List Edit}(hr:∃f,n-i<f∧z2I f xs i n=r):
  Calls Try.prog 26 #[.iface 57 (.pointer (some ⟨p,0,none⟩)),.int .i64 i,.int .i64 n] w fun e w'=>∃b,e=.returned (.bool b)∧r.length=xs.length∧w'.heap[p]?=some (.cells #[v] 55 (0,0))∧Own w' base v r∧Fr (fun k=>v.ownBlock=some k) w w':=by
 go_enter Try.func26,Try.ntmps26
 go_wp2
 go_loopw [7] (fun iv wr=>∃(i:Nat) (ys:List Edit),iv=.int .i64 (i:Int)∧i<ys.length∧ys.length=xs.length∧wr.heap[p]?=some (.cells #[v] 55 (0,0))∧Own wr base v ys∧(∃f,n-i<f∧z2I f ys i n=r)∧Fr (fun k=>v.ownBlock=some k) w wr) (fun iv _=>xs.length-(intOf iv).toNat)
 case atStart=>exact⟨i,xs,rfl,hi,rfl,hp,h,hr,Fr.refl _ _⟩
 case round=>
  obtain⟨i,ys,rfl,hi,hl,hp,h,⟨f,hif,hr⟩,hf⟩:=hrel;obtain⟨f,rfl⟩:∃m,f=m+1:=⟨f-1,by omega⟩;rw[z2I]at hr;have hps:p<wr.heap.size:=(Array.getElem?_eq_some_iff.1 hp).1;by_cases h1:2*i+1<n
  ·rw[zq1 h1]at hr;have ml:=jF hp;have d1:¬(2*(i:Int)+1≥(n:Int)):=by omega
   by_cases h2:2*i+2<n
   ·have hA:2*i+2<ys.length:=by omega
    have hB:2*i+1<ys.length:=by omega
    go_wp2_with fail
    refine(z1y h (i:=2*i+2) (j:=2*i+1) (by omega) (by omega) hA hB (by omega)).mono ?_;rintro e w1 ⟨rfl,rfl⟩;generalize hc:decide (ys[2*i+2].From<ys[2*i+1].From)=c;rw[←z2b hA,←z2b hB]at hc;cases c with
    |true=>
     have hcc:2*i+2<n∧fr ys (2*i+2)<fr ys (2*i+1):=⟨h2,of_decide_eq_true hc⟩;rw[zq1 hcc]at hr;clear hc hcc;have hj:(2*i+2)<ys.length:=by omega
     rw[z2b hj,z2b hi,←z4d hi hj]at hr;have ml2:=jF (w:=wr.drew) hp;have ms:=jG (w:=wr.drew.drew) hp
     go_wp2_with fail
     refine(z1y (w:=wr.drew) h (i:=(2*i+2)) (j:=i) (by omega) rfl hj hi (by omega)).mono ?_;rintro e w1 ⟨rfl,rfl⟩;generalize hb:decide (ys[(2*i+2)].From<ys[i].From)=b;cases b with
     |true=>
      rw[zq1 (of_decide_eq_true hb)]at hr;clear hb
      go_wp2_with fail
      refine(z1S (w:=wr.drew.drew) h (i:=i) (j:=(2*i+2)) rfl (by omega) hi hj (by omega)).mono ?_;rintro e w2 ⟨v',rfl,hs,f2⟩;have hp2:w2.heap[p]?=some (.cells #[v] 55 (0,0)):=(f2.blk p hps hv).trans hp;have f3:Fr (fun k=>v.ownBlock=some k) w w2:=(show Fr (fun k=>v.ownBlock=some k) w (wr.drew.drew)from⟨hf.os,hf.tape,hf.output,hf.size,hf.blk⟩).trans f2 (fun _ _ h=>h)
      go_wp2_with fail
      go_roundw
      case rel=>exact⟨(2*i+2),_,by go_num,by simp[z0h];omega,by simp[z0h];exact hl,hp2,hs,⟨f,by omega,hr⟩,f3⟩
      case measure=>simp[intOf];omega
     |false=>
      rw[zq0 (of_decide_eq_false hb)]at hr;clear hb;subst hr
      go_wp2_with fail
      go_ret
      exact⟨_,rfl,hl,hp,h,⟨hf.os,hf.tape,hf.output,hf.size,hf.blk⟩⟩
    |false=>
     have hcc:¬(2*i+2<n∧fr ys (2*i+2)<fr ys (2*i+1)):=fun c=>of_decide_eq_false hc c.2;rw[zq0 hcc]at hr;clear hc hcc;have hj:(2*i+1)<ys.length:=by omega
     rw[z2b hj,z2b hi,←z4d hi hj]at hr;have ml2:=jF (w:=wr.drew) hp;have ms:=jG (w:=wr.drew.drew) hp
     go_wp2_with fail
     refine(z1y (w:=wr.drew) h (i:=(2*i+1)) (j:=i) (by omega) rfl hj hi (by omega)).mono ?_;rintro e w1 ⟨rfl,rfl⟩;generalize hb:decide (ys[(2*i+1)].From<ys[i].From)=b;cases b with
     |true=>
      rw[zq1 (of_decide_eq_true hb)]at hr;clear hb
      go_wp2_with fail
      refine(z1S (w:=wr.drew.drew) h (i:=i) (j:=(2*i+1)) rfl (by omega) hi hj (by omega)).mono ?_;rintro e w2 ⟨v',rfl,hs,f2⟩;have hp2:w2.heap[p]?=some (.cells #[v] 55 (0,0)):=(f2.blk p hps hv).trans hp;have f3:Fr (fun k=>v.ownBlock=some k) w w2:=(show Fr (fun k=>v.ownBlock=some k) w (wr.drew.drew)from⟨hf.os,hf.tape,hf.output,hf.size,hf.blk⟩).trans f2 (fun _ _ h=>h)
      go_wp2_with fail
      go_roundw
      case rel=>exact⟨(2*i+1),_,by go_num,by simp[z0h];omega,by simp[z0h];exact hl,hp2,hs,⟨f,by omega,hr⟩,f3⟩
      case measure=>simp[intOf];omega
     |false=>
      rw[zq0 (of_decide_eq_false hb)]at hr;clear hb;subst hr
      go_wp2_with fail
      go_ret
      exact⟨_,rfl,hl,hp,h,⟨hf.os,hf.tape,hf.output,hf.size,hf.blk⟩⟩
   ·rw[zq0 (fun(c:2*i+2<n∧fr ys (2*i+2)<fr ys (2*i+1))=>h2 c.1)]at hr;have hj:(2*i+1)<ys.length:=by omega
    rw[z2b hj,z2b hi,←z4d hi hj]at hr;have ml2:=jF (w:=wr) hp;have ms:=jG (w:=wr.drew) hp
    go_wp2_with fail
    refine(z1y (w:=wr) h (i:=(2*i+1)) (j:=i) (by omega) rfl hj hi (by omega)).mono ?_;rintro e w1 ⟨rfl,rfl⟩;generalize hb:decide (ys[(2*i+1)].From<ys[i].From)=b;cases b with
    |true=>
     rw[zq1 (of_decide_eq_true hb)]at hr;clear hb
     go_wp2_with fail
     refine(z1S (w:=wr.drew) h (i:=i) (j:=(2*i+1)) rfl (by omega) hi hj (by omega)).mono ?_;rintro e w2 ⟨v',rfl,hs,f2⟩;have hp2:w2.heap[p]?=some (.cells #[v] 55 (0,0)):=(f2.blk p hps hv).trans hp;have f3:Fr (fun k=>v.ownBlock=some k) w w2:=(show Fr (fun k=>v.ownBlock=some k) w (wr.drew)from⟨hf.os,hf.tape,hf.output,hf.size,hf.blk⟩).trans f2 (fun _ _ h=>h)
     go_wp2_with fail
     go_roundw
     case rel=>exact⟨(2*i+1),_,by go_num,by simp[z0h];omega,by simp[z0h];exact hl,hp2,hs,⟨f,by omega,hr⟩,f3⟩
     case measure=>simp[intOf];omega
    |false=>
     rw[zq0 (of_decide_eq_false hb)]at hr;clear hb;subst hr
     go_wp2_with fail
     go_ret
     exact⟨_,rfl,hl,hp,h,⟨hf.os,hf.tape,hf.output,hf.size,hf.blk⟩⟩
  ·rw[zq0 h1]at hr;subst hr;have d1:2*(i:Int)+1≥(n:Int):=by omega
   go_wp2_with fail
   all_goals (go_ret;exact⟨_,rfl,hl,hp,h,hf⟩)
abbrev aE(e:Edit):Go.Value:=.agg #[.int .i64 e.From,.int .i64 e.To,.string ⟨⟨e.Text⟩⟩]
theorem z4K(x:Go.Value)(w:World):(Instr.typeAssert (.iface 37 x) 20 37 false).run Try.prog w=.ok x w:=by kernel_rfl
set_option maxHeartbeats 4000000 in
theorem z7S{w:World}{base p:Nat}{v:Go.Value}{xs:List Edit}(hp:w.heap[p]?=some (.cells #[v] 55 (0,0)))(h:Own w base v xs)(hv:v.ownBlock≠some p)(hbp:base≤p)(hn:xs.length+1≤1000000)(e:Edit):
  Calls Try.prog 48 #[.pointer (some ⟨p,0,none⟩),.iface 37 (aE e)] w fun en w'=>∃u v',en=.returned u∧w'.heap[p]?=some (.cells #[v'] 55 (0,0))∧Own w' base v' (xs++[e])∧v'.ownBlock≠some p∧(v'.ownBlock=v.ownBlock∨∃g,v'.ownBlock=some g∧w.heap.size≤g)∧Fr (fun k=>k=p∨v.ownBlock=some k) w w':=by
 have hps:p<w.heap.size:=(Array.getElem?_eq_some_iff.1 hp).1;have hc:w.cell? ⟨p,0,none⟩=some v:=zB hp;have hz:w.frozen? ⟨p,0,none⟩=false:=wC hp;obtain⟨i0,dd,hi,hz1,-⟩:=zY (P:=Try.prog) (t:=37) (n:=3) (by kernel_rfl);have hz2:=wU (P:=Try.prog) (t:=37) (n:=32) (by kernel_rfl) hi;have hz0:=wM (P:=Try.prog) (t:=37) (z:=.agg #[.int .i64 0,.int .i64 0,.string ⟨#[]⟩]) (by kernel_rfl) hi;have ta:∀(x:Go.Value) (w:World),(Instr.typeAssert (.iface 37 x) 20 37 false).run Try.prog w=.ok x w:=z4K
 obtain⟨O,hO⟩:∃O,O=Obj.cells #[.int .i64 e.From,.int .i64 e.To,.string ⟨⟨e.Text⟩⟩] 37:=⟨_,rfl⟩;have hb1:Below w.heap.size w (w.alloc O).drew:=((Below.refl _ w).alloc (Nat.le_refl _) _).drew;have hsz1:(w.alloc O).drew.heap.size=w.heap.size+1:=Array.size_push ..;have hownD:((w.alloc O).drew).ownsRow base 37 3 v xs.length (cE xs):=z1K h hb1;have e9:((w.alloc O).drew).heap[w.heap.size]?=some (.cells #[.int .i64 e.From,.int .i64 e.To,.string ⟨⟨e.Text⟩⟩] 37 (0,0)):=by
  rw[hO];exact Array.getElem?_push_size
 have hnews:∀j u,(vE e)[j]?=some u→((w.alloc O).drew).cell? ((⟨w.heap.size,0,none⟩:Addr).add j)=some u:=by
  intro j u hj
  match j,hj with
  |0,hj=>exact(zB e9).trans hj
  |1,hj=>exact(zB e9).trans hj
  |2,hj=>exact(zB e9).trans hj
 have hone:∀u∈vE e,u.oneCell'=true:=by
  intro u hu;simp only[vE,List.mem_cons,List.not_mem_nil,or_false]at hu;rcases hu with rfl|rfl|rfl<;>rfl
 have h63:xs.length+1≤maxLen:=by unfold maxLen;omega
 have hbb:base≤(w.alloc O).drew.heap.size:=by rw[hsz1];omega
 have hpD:((w.alloc O).drew).heap[p]?=some (.cells #[v] 55 (0,0)):=(hb1.block p hps).trans hp;rw[hO]at *
 go_enter Try.func48,Try.ntmps48
 go_region_law
  (refine gE rfl (.tmp 7) (.tmp 10) 55 rfl base 37 i0 _ 3 32 Try.underlying55 hi hz0 hz1 hz2 rfl (by decide) v xs.length (cE xs) (by simp[Act.eval,Act.put]) hownD ⟨w.heap.size,0,none⟩ 1 1 (vE e) (by simp[Act.eval,Act.put]) rfl hnews hone h63 (by omega) hbb ?_
   intro v9 W9 hown9 hgrow9 hat9;have g2:W9.heap[p]?=some (.cells #[v] 55 (0,0)):=(hgrow9.block p (by omega) (fun e=>hv e.symm)).trans hpD;have f93:W9.cell? ⟨p,0,none⟩=some v:=zB g2;have f94:W9.frozen? ⟨p,0,none⟩=false:=wC g2;rcases hown9.2 with⟨-,h0⟩|⟨g9,cap9,cur9,rfl,hg90,hg91,hg92,hg93,hg94,hg95⟩
   ·exact absurd h0 (by omega))
 all_goals
  refine bodyPost_end (results_none rfl _ _ _) rfl ?_;have hpl:(xs++[e]).length=xs.length+1:=by simp
  have hgp:g9≠p:=by
   rcases hat9 with h9|h9
   ·intro e9;subst e9;exact hv h9.symm
   ·rw[hsz1]at h9;injection h9 with h9;simp only at h9;omega
  have hs:=heap_setCell_same W9 p 0 _ 55 (.slice (some ⟨g9,0,none⟩) (xs.length+1) cap9) g2;refine⟨_,.slice (some ⟨g9,0,none⟩) (xs.length+1) cap9,rfl,hs,⟨z3x _,.inr ⟨g9,cap9,cur9,by rw[hpl],hg90,?_,by omega,hg93,hg94,?_⟩⟩,?_,?_,?_⟩
  ·exact(heap_setCell_other _ _ _ _ hgp).trans hg91
  ·rw[hpl,hg95,z4N];rfl
  ·intro h9;injection h9 with h9;exact hgp h9
  ·rcases hat9 with h9|h9
   ·exact .inl h9
   ·rw[hsz1]at h9;exact .inr ⟨g9,rfl,by injection h9 with h9;simp only at h9;omega⟩
  ·refine⟨hgrow9.os,hgrow9.tape,hgrow9.output,?_,fun k hk hne=>?_⟩
   ·have h1:=hgrow9.size;rw[hsz1]at h1;have:(W9.setCell ⟨p,0,none⟩ (.slice (some ⟨g9,0,none⟩) (xs.length+1) cap9)).heap.size=W9.heap.size:=by simp[World.setCell]
    show w.heap.size≤(W9.setCell ⟨p,0,none⟩ (.slice (some ⟨g9,0,none⟩) (xs.length+1) cap9)).heap.size;omega
   ·exact(heap_setCell_other _ _ _ _ (fun e=>hne (.inl e))).trans ((hgrow9.block k (by omega) (fun e=>hne (.inr e.symm))).trans (hb1.block k hk))
theorem z4Z{w:World}{base:Nat}{v:Go.Value}{xs:List Edit}(h:Own w base v xs)(hn:xs.length≤1000000):Calls Try.prog 22 #[v] w fun e w'=>e=.returned (.int .i64 xs.length)∧w'=w:=by
 obtain⟨ad,cap,rfl⟩:∃ad cap,v=.slice ad xs.length cap:=by
  rcases h.2 with⟨rfl,h0⟩|⟨g,cap,cur,rfl,-⟩
  ·rw[h0];exact⟨_,_,rfl⟩
  ·exact⟨_,_,rfl⟩
 go_enter Try.func22,Try.ntmps22
 go_wp2
 go_ret
 exact⟨rfl,rfl⟩
set_option maxHeartbeats 4000000 in
theorem z8v{w:World}{base p:Nat}{v:Go.Value}{ys:List Edit}{e:Edit}(hp:w.heap[p]?=some (.cells #[v] 55 (0,0)))(h:Own w base v (ys++[e]))(hv:v.ownBlock≠some p)(hn:ys.length+1≤1000000):
  Calls Try.prog 47 #[.pointer (some ⟨p,0,none⟩)] w fun en w'=>∃v',en=.returned (.iface 37 (aE e))∧w'.heap[p]?=some (.cells #[v'] 55 (0,0))∧Own w' base v' ys∧v'.ownBlock=v.ownBlock∧Fr (fun k=>k=p) w w':=by
 have hps:p<w.heap.size:=(Array.getElem?_eq_some_iff.1 hp).1;have hc:w.cell? ⟨p,0,none⟩=some v:=zB hp;have hz:w.frozen? ⟨p,0,none⟩=false:=wC hp;have hl:(ys++[e]).length=ys.length+1:=by simp
 obtain⟨g,cap,cur,rfl,h1,h2,h3,h4,h5,h6⟩:=h.get (by omega);have hgp:g≠p:=fun e=>hv (by rw[e];rfl);obtain⟨a0,a1,a2⟩:=jR h2 h6 (i:=ys.length) (by omega);have ee:(ys++[e])[ys.length]'(by omega)=e:=by simp
 rw[ee]at a0 a1 a2;have hgs:g<w.heap.size:=(Array.getElem?_eq_some_iff.1 h2).1;rw[hl]at *;have e0:(((ys.length+1:Nat):Int)-1)=((ys.length:Nat):Int):=by omega
 go_enter Try.func47,Try.ntmps47
 go_wp2
 go_ret
 have hs:=heap_setCell_same w p 0 _ 55 (.slice (some ⟨g,0,none⟩) ys.length cap) hp;have hsz:(w.setCell ⟨p,0,none⟩ (.slice (some ⟨g,0,none⟩) ys.length cap)).heap.size=w.heap.size:=by simp[World.setCell]
 have up:∀k,k<w.heap.size→((w.setCell ⟨p,0,none⟩ (.slice (some ⟨g,0,none⟩) ys.length cap)).alloc (Obj.cells #[Value.int IntKind.i64 e.From,Value.int IntKind.i64 e.To,Value.string {data:={toList:=e.Text}}] 37)).heap[k]?=(w.setCell ⟨p,0,none⟩ (.slice (some ⟨g,0,none⟩) ys.length cap)).heap[k]?:=fun k hk=>Below.heap_alloc _ _ _ (by rw[hsz];exact hk)
 refine⟨rfl,.slice (some ⟨g,0,none⟩) ys.length cap,(up p hps).trans hs,⟨z3x _,.inr ⟨g,cap,cur,rfl,h1,?_,by omega,h4,h5,?_⟩⟩,rfl,⟨rfl,rfl,rfl,?_,fun k hk hne=>?_⟩⟩
 ·exact(up g hgs).trans ((heap_setCell_other _ _ _ _ hgp).trans h2)
 ·have:=congrArg (List.take (ys.length*3)) h6;rw[List.take_take,Nat.min_eq_left (by omega),z4N,List.take_append_of_le_length (by rw[z3x];omega),List.take_of_length_le (l:=cE ys) (by rw[z3x];omega)]at this;exact this
 ·show _≤(Array.push _ _).size;rw[Array.size_push,hsz];omega
 ·exact(up k hk).trans (heap_setCell_other _ _ _ _ hne)
set_option maxHeartbeats 4000000 in
theorem z8w{w:World}{base p:Nat}{v:Go.Value}{xs:List Edit}(hp:w.heap[p]?=some (.cells #[v] 55 (0,0)))(h:Own w base v xs)(hv:v.ownBlock≠some p)(hbp:base≤p)(hn:xs.length+1≤1000000)(e:Edit):
  Calls Try.prog 21 #[.iface 57 (.pointer (some ⟨p,0,none⟩)),.iface 37 (aE e)] w fun en w'=>∃u v',en=.returned u∧w'.heap[p]?=some (.cells #[v'] 55 (0,0))∧Own w' base v' (z3Z xs e)∧(z3Z xs e).length=xs.length+1∧v'.ownBlock≠some p∧(v'.ownBlock=v.ownBlock∨∃g,v'.ownBlock=some g∧w.heap.size≤g)∧Fr (fun k=>k=p∨v.ownBlock=some k) w w':=by
 have m1:=z6A w p
 go_enter Try.func21,Try.ntmps21
 go_wp2_with fail
 refine(z7S hp h hv hbp hn e).mono ?_;rintro en w1 ⟨u1,v1,rfl,hp1,ho1,hv1,hb1,f1⟩;have hl:(xs++[e]).length=xs.length+1:=by simp
 have m2:=z5b hp1;have e0:(((xs.length+1:Nat):Int)-1)=((xs.length:Nat):Int):=by omega
 go_wp2_with fail
 refine(z4Z ho1 (by omega)).mono ?_;rintro en w2 ⟨rfl,rfl⟩;rw[hl]
 go_wp2_with fail
 refine(z9h hp1 ho1 hv1 (by omega) (j:=xs.length) (by omega) ⟨xs.length+1,by omega,rfl⟩).mono ?_;rintro en w3 ⟨rfl,hl3,hp3,ho3,f3⟩
 go_wp2_with fail
 go_end0
 refine⟨_,v1,rfl,hp3,ho3,hl3.trans hl,hv1,hb1,f1.trans f3 fun k hk h9=>?_⟩;rcases hb1 with h8|⟨g,h8,h7⟩
 ·exact .inr (h8.symm.trans h9)
 ·rw[h8]at h9;injection h9 with h9;omega
set_option maxHeartbeats 4000000 in
theorem z8S{w:World}{base p:Nat}{v:Go.Value}{xs:List Edit}(hp:w.heap[p]?=some (.cells #[v] 55 (0,0)))(h:Own w base v xs)(hv:v.ownBlock≠some p)(h0:0<xs.length)(hn:xs.length≤1000000):
  Calls Try.prog 23 #[.iface 57 (.pointer (some ⟨p,0,none⟩))] w fun en w'=>∃v' ys e,en=.returned (.iface 37 (aE e))∧gA xs=ys++[e]∧ys.length+1=xs.length∧w'.heap[p]?=some (.cells #[v'] 55 (0,0))∧Own w' base v' ys∧v'.ownBlock=v.ownBlock∧Fr (fun k=>k=p∨v.ownBlock=some k) w w':=by
 have m1:=z5b hp;have e0:(((xs.length:Nat):Int)-1)=((xs.length-1:Nat):Int):=by omega
 have hps:p<w.heap.size:=(Array.getElem?_eq_some_iff.1 hp).1
 go_enter Try.func23,Try.ntmps23
 go_wp2_with fail
 refine(z4Z h (by omega)).mono ?_;rintro en w1 ⟨rfl,rfl⟩;have m2:=jG hp
 go_wp2_with fail
 refine(z1S h (i:=0) (j:=xs.length-1) rfl (by omega) h0 (by omega) (by omega)).mono ?_;rintro en w2 ⟨u2,rfl,ho2,f2⟩;rw[z4d h0 (by omega)]at ho2;have hp2:=(f2.blk p hps hv).trans hp;have hl2:=z8B xs 0 (xs.length-1)
 go_wp2_with fail
 refine(z8n hp2 ho2 hv (by omega) (i:=0) (n:=xs.length-1) (by omega) (by omega) ⟨xs.length+1,by omega,rfl⟩).mono ?_;rintro en w3 ⟨b3,rfl,hl3,hp3,ho3,f3⟩;have hpl:(gA xs).length=xs.length:=hl3.trans hl2;obtain⟨ys,e,hye⟩:∃ys e,gA xs=ys++[e]:=by
  have hne:gA xs≠[]:=fun c=>by
   rw[c]at hpl;simp at hpl;omega
  exact⟨_,_,(List.dropLast_concat_getLast hne).symm⟩
 have hyl:ys.length+1=xs.length:=by
  rw[hye]at hpl;simp at hpl;omega
 have ho4:Own w3 base v (ys++[e]):=by rw[←hye];exact ho3
 have m3:=z7N w3 p
 go_wp2_with fail
 refine(z8v hp3 ho4 hv (by omega)).mono ?_;rintro en w4 ⟨v4,rfl,hp4,ho5,hv4,f4⟩
 go_wp2_with fail
 go_ret
 have f23:=f2.trans f3 (fun _ _ h=>h);refine⟨v4,ys,e,rfl,hye,hyl,hp4,ho5,hv4,(f23.mono fun k _ hk=>.inr hk).trans f4 fun k _ hk=>.inl hk⟩
theorem gN{w:World}{M:Nat→Nat→Prop}{b o:Nat}{l:List Edit}(hc:RelC w M b o (yC (l.map Edit.toD))){k:Nat}(hk:k<l.length):
  w.cell? ⟨b,o+k*3,none⟩=some (.int .i64 l[k].From)∧w.cell? ⟨b,o+k*3+1,none⟩=some (.int .i64 l[k].To)∧w.cell? ⟨b,o+k*3+2,none⟩=some (.string ⟨⟨l[k].Text⟩⟩):=by
 have hs:yB 3 (l.map Edit.toD):=uQ (fun x=>by rw[Edit.toD_eq];rfl);have h:=hc.elem hs (i:=k) (x:=l[k].toD) (by rw[List.getElem?_map,List.getElem?_eq_getElem hk];rfl);rw[Edit.toD_eq]at h;cases h with
 |cons _ _ v0 _ _ c0 _ _ r0 h=>cases h with
 |cons _ _ v1 _ _ c1 _ _ r1 h=>cases h with
 |cons _ _ v2 _ _ c2 _ _ r2 h=>
  cases r0;cases r1;cases r2;exact⟨c0,c1,c2⟩
theorem Fr.below{P:Nat→Prop}{B:Nat}{a b c:World}(h:Below B a b)(f:Fr P b c)(hB:B≤b.heap.size)(hP:∀k,k<B→¬P k):Below B a c:=
 ⟨f.os.trans h.os,f.tape.trans h.tape,f.output.trans h.output,Nat.le_trans h.size f.size,fun k hk=>(f.blk k (by omega) (hP k hk)).trans (h.block k hk)⟩
theorem Own.lt{w:World}{base:Nat}{v:Go.Value}{xs:List Edit}(h:Own w base v xs){g:Nat}(hg:v.ownBlock=some g):base≤g∧g<w.heap.size:=World.ownsRow.lt h _ hg
theorem Own.fr{P:Nat→Prop}{w w':World}{base:Nat}{v:Go.Value}{xs:List Edit}(h:Own w base v xs)(f:Fr P w w')(hP:∀g,v.ownBlock=some g→¬P g):Own w' base v xs:=by
 rcases h with⟨h1,h2|⟨g,cap,cur,rfl,g1,g2,g3⟩⟩
 ·exact⟨h1,.inl h2⟩
 ·exact⟨h1,.inr ⟨g,cap,cur,rfl,g1,(f.blk g (Array.getElem?_eq_some_iff.1 g2).1 (hP g rfl)).trans g2,g3⟩⟩
theorem Fr.alloc(w:World)(o:Obj)(P:Nat→Prop):Fr P w (w.alloc o):=⟨rfl,rfl,rfl,by show _≤(Array.push _ _).size;rw[Array.size_push];omega,fun k hk _=>Below.heap_alloc w o k hk⟩
theorem z8T{w:World}{M:Nat→Nat→Prop}{κ:Kap}{x:Go.Value}{n:Int}{ys:List D}(h:RelV w M x (.sl ys)):ResRel w M κ (.tuple #[x,.int .i64 n]) [.d (.sl ys),.d (.int .i64 n)]:=
 ⟨[x,.int .i64 n],rfl,rfl,fun i u c hu hc=>by
  match i,hu,hc with
  |0,hu,hc=>cases hu;cases hc;exact⟨rfl,.d _ _ h⟩
  |1,hu,hc=>cases hu;cases hc;exact⟨rfl,.d _ _ (.int _ _)⟩,fun _ _ _ h=>by cases h⟩
theorem z6Y(w:World)(M:Nat→Nat→Prop):∀l:List Edit,Stand w M (cE l) (yC (l.map Edit.toD))
 |[]=>⟨rfl,fun j u c h=>by simp[cE]at h⟩
 |e::r=>by
  have h:Stand w M (vE e) e.toD.cells:=by
   rw[Edit.toD_eq];refine⟨rfl,fun j u c hu hc=>?_⟩
   match j,hu,hc with
   |0,hu,hc=>cases hu;cases hc;exact⟨rfl,.int _ _⟩
   |1,hu,hc=>cases hu;cases hc;exact⟨rfl,.int _ _⟩
   |2,hu,hc=>cases hu;cases hc;exact⟨rfl,.str _⟩
  exact h.app (z6Y w M r)
theorem z6E{w:World}{M:Nat→Nat→Prop}{base:Nat}{v:Go.Value}{l:List Edit}(h:Own w base v l)(hM:∀b o,base≤b→¬M b o):RelV w M v (.sl (l.map Edit.toD)):=by
 have h':w.ownsRow base 37 3 v (l.map Edit.toD).length (cE l):=by rw[zq3];exact h
 exact z3W h' (uQ fun x=>Edit.sz x) (z6Y w M l) (Keeps.refl _ _) hM
def z1R:Go.Value→Nat
 |.slice _ n _=>n
 |_=>0
set_option maxHeartbeats 4000000 in
theorem z2a(text:Str)(edits:List Edit)(r:List Edit×Int)(h:yK text edits=some r):Trip Try.prog 17 [.d (.str text),.d (.sl (List.map Edit.toD edits))] [] [.d (.sl (List.map Edit.toD r.1)),.d (.int .i64 r.2)] []:=by
 refine⟨⟨_,Try.func17,by rfl,by rfl⟩,fun w M0 κ vs B hv=>?_⟩;unfold yK at h;obtain⟨⟨hel,htl⟩,h⟩:=z3i h;cases hv with
 |cons v1 _ vs1 _ g1 hv=>
  cases hv with
  |cons v2 _ vs2 _ g2 hv=>
   cases hv;cases g1 with
   |d _ _ g1=>
    cases g1;cases g2 with
    |d _ _ g2=>
     obtain⟨ad,cap,rfl,hopen⟩:=z4C g2;rw[zq3]at *;have ta:∀(x:Go.Value) (w:World),(Instr.typeAssert (.iface 37 x) 20 37 false).run Try.prog w=.ok x w:=z4K;have hnil:Own w w.heap.size (.slice none 0 0) []:=⟨rfl,.inl ⟨rfl,rfl⟩⟩;have hp0:(w.alloc (Obj.cells #[Value.slice none 0 0] 55)).heap[w.heap.size]?=some (.cells #[Value.slice none 0 0] 55 (0,0)):=Array.getElem?_push_size;generalize hX:uA (List.length text) edits []=X at h;obtain⟨i0,dd,hi,hz1,-⟩:=zY (P:=Try.prog) (t:=37) (n:=3) (by kernel_rfl)
     have hz2:=wU (P:=Try.prog) (t:=37) (n:=32) (by kernel_rfl) hi;have hz0:=wM (P:=Try.prog) (t:=37) (z:=.agg #[.int .i64 0,.int .i64 0,.string ⟨#[]⟩]) (by kernel_rfl) hi
     go_enter Try.func17,Try.ntmps17
     go_wp2_with fail
     go_loopw [14] (fun i wr=>∃(k:Nat) (v:Go.Value) (hs:List Edit),i=.int .i64 (k:Int)∧k≤edits.length∧wr.heap[w.heap.size]?=some (.cells #[v] 55 (0,0))∧Own wr w.heap.size v hs∧v.ownBlock≠some w.heap.size∧uA (List.length text) (edits.drop k) hs=X∧hs.length=k∧Below w.heap.size w wr) (fun i _=>edits.length-(intOf i).toNat)
     case atStart=>exact⟨0,_,[],rfl,Nat.zero_le _,hp0,hnil.fr (P:=fun _=>False) (Fr.alloc _ _ _) (fun _ _ h=>h),(fun h=>by cases h),hX,rfl,(Below.refl _ w).alloc (Nat.le_refl _) _⟩
     case round=>
      obtain⟨k,v,hs,rfl,hk,hp,ho,hv,hpa,hsl,hbw⟩:=hrel;have hps:w.heap.size<wr.heap.size:=(Array.getElem?_eq_some_iff.1 hp).1;by_cases hlt:k<edits.length
      ·obtain⟨b,o,rfl,hc⟩:=hopen (fun e=>by have:=congrArg List.length e;simp at this;rw[this]at hlt;simp at hlt);obtain⟨c0,c1,c2⟩:=gN hc hlt;have d0:=(hbw.cell (p:=⟨b,o+k*3,none⟩) (yY c0)).trans c0;have d1:=(hbw.cell (p:=⟨b,o+k*3+1,none⟩) (yY c1)).trans c1;have d2:=(hbw.cell (p:=⟨b,o+k*3+2,none⟩) (yY c2)).trans c2;rw[List.drop_eq_getElem_cons hlt,uA]at hpa;generalize edits[k]=e at *;by_cases x1:e.From<0
       ·rw[zq1 (.inl x1)]at hpa;subst hpa
        go_wp2_with fail
        go_ret2
        cases h;exact⟨_,rfl,κ,yT B (hbw.alloc hbw.size _),z8T .nil⟩
       ·by_cases x2:e.From>e.To
        ·rw[zq1 (.inr (.inl x2))]at hpa;subst hpa
         go_wp2_with fail
         go_ret2
         cases h;exact⟨_,rfl,κ,yT B (hbw.alloc hbw.size _),z8T .nil⟩
        ·by_cases x3:e.To>(List.length text:Int)
         ·rw[zq1 (.inr (.inr x3))]at hpa;subst hpa
          go_wp2_with fail
          go_ret2
          cases h;exact⟨_,rfl,κ,yT B (hbw.alloc hbw.size _),z8T .nil⟩
         ·rw[zq0 (fun c=>c.elim x1 fun c=>c.elim x2 x3)]at hpa
          go_wp2_with fail
          have hfa:=Fr.alloc wr (Obj.cells #[Value.int IntKind.i64 e.From,Value.int IntKind.i64 e.To,Value.string {data:={toList:=e.Text}}] 37) (fun _=>False);refine(z8w (w:=wr.alloc (Obj.cells #[Value.int IntKind.i64 e.From,Value.int IntKind.i64 e.To,Value.string {data:={toList:=e.Text}}] 37)) ((hfa.blk _ hps id).trans hp) (ho.fr hfa fun _ _=>id) hv (Nat.le_refl _) (by omega) e).mono ?_;rintro en w2 ⟨u2,v2,rfl,hp2,ho2,hl2,hv2,hb2,f2⟩
          have hbw2:Below w.heap.size w w2:=f2.below (hbw.alloc hbw.size _) (Nat.le_trans hbw.size hfa.size) fun k9 hk9 h9=>by
           rcases h9 with h9|h9
           ·omega
           ·have:=(ho.lt h9).1;omega
          clear hfa f2 hbw ho hp hb2
          go_wp2_with fail
          go_roundw
          case rel=>exact⟨k+1,v2,_,by go_num,hlt,hp2,ho2,hv2,hpa,by omega,hbw2⟩
          case measure=>simp[intOf];omega
      ·have hke:k=edits.length:=by omega
       subst hke;rw[List.drop_eq_nil_of_le (Nat.le_refl _),uA]at hpa;subst hpa;simp only at h;generalize hY:z1L (hs.length+1) hs []=Y at h
       go_wp2_with fail
       go_loopw [9] (fun vo9 w9=>∃(f:Nat) (v vo:Go.Value) (hs out:List Edit),vo9=vo∧w9.heap[w.heap.size]?=some (.cells #[v] 55 (0,0))∧Own w9 w.heap.size v hs∧v.ownBlock≠some w.heap.size∧Own w9 w.heap.size vo out∧vo.ownBlock≠some w.heap.size∧(∀g,vo.ownBlock=some g→v.ownBlock≠some g)∧z1L f hs out=Y∧hs.length<f∧hs.length+out.length=edits.length∧Below w.heap.size w w9) (fun vo _=>edits.length-z1R vo)
       case atStart=>exact⟨hs.length+1,v,_,hs,[],rfl,hp,ho,hv,⟨rfl,.inl ⟨rfl,rfl⟩⟩,(fun h=>by cases h),(fun g h=>by cases h),hY,by omega,by simpa using hsl,hbw⟩
       case round=>
        clear hY hp ho hv hbw hps hsl;obtain⟨f,v,vo,hs,out,hu9,hp,ho,hv,hoo,hvo,hne,hpo,hf,hlen,hbw⟩:=hrel;have hu9:=hu9.symm;subst hu9;obtain⟨f,rfl⟩:∃m,f=m+1:=⟨f-1,by omega⟩;rw[z1L]at hpo;have hps:w.heap.size<wr.heap.size:=(Array.getElem?_eq_some_iff.1 hp).1;have hc:wr.cell? ⟨w.heap.size,0,none⟩=some v:=zB hp;by_cases h0:hs.length=0
        ·rw[zq1 h0]at hpo;subst hpo;cases h
         go_wp2_with fail
         refine(z4Z ho (by omega)).mono ?_;rintro en w2 ⟨rfl,rfl⟩;rw[h0]
         go_wp2_with fail
         go_ret2
         exact⟨_,rfl,κ,yT B hbw,z8T (z6E hoo fun b o hb=>z3K B hb)⟩
        ·rw[zq0 h0]at hpo
         go_wp2_with fail
         refine(z4Z ho (by omega)).mono ?_;rintro en w2 ⟨rfl,rfl⟩;have hg0:(hs.length:Int)>0:=by omega
         go_wp2_with fail
         refine(z8S hp ho hv (by omega) (by omega)).mono ?_;rintro en w2 ⟨v2,ys,e,rfl,hye,hyl,hp2,ho2,hv2,f2⟩;have hE:(gA hs).getD (hs.length-1) ⟨0,0,[]⟩=e:=by
          rw[hye,show hs.length-1=ys.length by omega,z1r (by simp)];simp
         have hT:(gA hs).take (hs.length-1)=ys:=by
          rw[hye,show hs.length-1=ys.length by omega,List.take_left]
         rw[hE,hT]at hpo;have hoo2:=hoo.fr f2 (fun g hg c=>c.elim (fun c=>hvo (by rw[hg,c])) (fun c=>hne g hg c));have hbw2:Below w.heap.size w w2:=f2.below hbw hbw.size fun k9 hk9 h9=>by
          rcases h9 with h9|h9
          ·omega
          ·have:=(ho.lt h9).1;omega
         have hne2:∀g,vo.ownBlock=some g→v2.ownBlock≠some g:=by rw[hv2];exact hne
         have hv3:v2.ownBlock≠some w.heap.size:=by rw[hv2];exact hv
         clear f2 hp ho hoo hbw hne hc hv hv2 hE hT hye;by_cases ho0:out.length=0
         ·have ho1:out=[]:=List.eq_nil_of_length_eq_zero ho0;subst ho1;clear ho0;rw[zq0 (fun c=>absurd c.1 (by simp))]at hpo;obtain⟨ad9,cap9,rfl⟩:∃ad9 cap9,vo=.slice ad9 0 cap9:=by
           rcases hoo2.2 with⟨rfl,h⟩|⟨g,cap,cur,rfl,-⟩
           ·exact⟨_,_,rfl⟩
           ·exact⟨_,_,rfl⟩
          go_wp2_with fail
          go_quiet (fail)
          obtain⟨W,hW⟩:∃W,W=(w2.alloc (Obj.cells #[Value.int IntKind.i64 e.From,Value.int IntKind.i64 e.To,Value.string {data:={toList:=e.Text}}] 37)).drewN nq:=⟨_,rfl⟩;rw[←hW];have hfW:Fr (fun _=>False) w2 W:=by
           have:=Fr.alloc w2 (Obj.cells #[Value.int IntKind.i64 e.From,Value.int IntKind.i64 e.To,Value.string {data:={toList:=e.Text}}] 37) (fun _=>False);rw[hW];exact⟨this.os,this.tape,this.output,this.size,this.blk⟩
          have hsW:W.heap.size=w2.heap.size+1:=by rw[hW];exact Array.size_push ..
          have hcW:W.heap[w2.heap.size]?=some (.cells #[Value.int IntKind.i64 e.From,Value.int IntKind.i64 e.To,Value.string {data:={toList:=e.Text}}] 37 (0,0)):=by rw[hW];exact Array.getElem?_push_size
          clear hW;have q0:W.cell? ⟨w2.heap.size,0,none⟩=some (.int .i64 e.From):=zB hcW;have q1:W.cell? ⟨w2.heap.size,1,none⟩=some (.int .i64 e.To):=zB hcW;have q2:W.cell? ⟨w2.heap.size,2,none⟩=some (.string ⟨⟨e.Text⟩⟩):=zB hcW;have hpW:=(hfW.blk _ (by have:=(Array.getElem?_eq_some_iff.1 hp2).1;omega) id).trans hp2;have hoW:=ho2.fr hfW fun _ _=>id;have hooW:=hoo2.fr hfW fun _ _=>id;have hbW:=hfW.below hbw2 hbw2.size fun _ _=>id
          have hvW:∀g,v2.ownBlock=some g→g<W.heap.size:=fun g hg=>(hoW.lt hg).2;have hsb:=hbW.size;clear hfW hp2 ho2 hoo2 hbw2 hcW hsW;have hfa:=Fr.alloc W (Obj.cells #[Value.int IntKind.i64 e.From,Value.int IntKind.i64 e.To,Value.string {data:={toList:=e.Text}}] 37) (fun _=>False);have hp3:=(hfa.blk _ (Array.getElem?_eq_some_iff.1 hpW).1 id).trans hpW;have hoA:=hooW.fr hfa fun _ _=>id
          have hcA:(W.alloc (Obj.cells #[Value.int IntKind.i64 e.From,Value.int IntKind.i64 e.To,Value.string {data:={toList:=e.Text}}] 37)).heap[W.heap.size]?=some (.cells #[Value.int IntKind.i64 e.From,Value.int IntKind.i64 e.To,Value.string {data:={toList:=e.Text}}] 37 (0,0)):=Array.getElem?_push_size;have hszA:(W.alloc (Obj.cells #[Value.int IntKind.i64 e.From,Value.int IntKind.i64 e.To,Value.string {data:={toList:=e.Text}}] 37)).heap.size=W.heap.size+1:=Array.size_push ..
          go_wp2_with (at_builtin;refine wpList_append_own_at _ rfl _ _ 22 rfl w.heap.size 37 i0 (.agg #[.int .i64 0,.int .i64 0,.string ⟨#[]⟩]) 3 32 Try.underlying22 hi hz0 hz1 hz2 rfl (by decide) _ _ _ rfl hoA ⟨W.heap.size,0,none⟩ 1 1 (vE e) rfl rfl ?c1 ?c2 ?c3 ?c4 ?c5 ?_)
          case c1=>
           intro j u hj
           match j,hj with
           |0,hj=>exact(zB hcA).trans hj
           |1,hj=>exact(zB hcA).trans hj
           |2,hj=>exact(zB hcA).trans hj
          case c2=>
           intro u hu;simp only[vE,List.mem_cons,List.not_mem_nil,or_false]at hu;rcases hu with rfl|rfl|rfl<;>rfl
          case c3=>unfold maxLen;omega
          case c4=>omega
          case c5=>omega
          ·intro v9 w9 hown9 hgrow9 hnil9 hat9;have f9:Fr (fun k=>(Go.Value.slice ad9 0 cap9).ownBlock=some k) (W.alloc (Obj.cells #[Value.int IntKind.i64 e.From,Value.int IntKind.i64 e.To,Value.string {data:={toList:=e.Text}}] 37)) w9:=⟨hgrow9.os,hgrow9.tape,hgrow9.output,hgrow9.size,fun k hk hne=>hgrow9.block k hk fun e=>hne e.symm⟩;have hp4:=(f9.blk _ (Array.getElem?_eq_some_iff.1 hp3).1 hvo).trans hp3;have ho4:=(hoW.fr hfa fun _ _=>id).fr f9 fun g hg c=>hne2 g c hg
           have hb4:Below w.heap.size w w9:=f9.below (hbW.alloc hbW.size _) (by rw[hszA];omega) fun k hk c=>by have:=(hooW.lt c).1;omega
           have own9:Own w9 w.heap.size v9 (([]:List Edit)++[e]):=by
            unfold Own;rw[z4N,List.length_append];exact hown9
           have hvo9:v9.ownBlock≠some w.heap.size:=by
            rcases hat9 with h9|h9
            ·rw[h9];exact hvo
            ·rw[h9];intro c;injection c with c;omega
           have hne9:∀g,v9.ownBlock=some g→v2.ownBlock≠some g:=by
            intro g hg c;rcases hat9 with h9|h9
            ·exact hne2 g (h9.symm.trans hg) c
            ·rw[h9]at hg;injection hg with hg;have:=hvW g c;omega
           have hsl9:z1R v9=([]:List Edit).length+1:=by
            rcases own9.2 with⟨-,h9⟩|⟨g,cap,cur,rfl,-⟩
            ·simp at h9
            ·simp[z1R]
           clear f9 hgrow9 hown9 hat9 hnil9 hp3 hoA hcA hfa hpW hoW hooW hbW hne2
           go_wp2_with fail
           go_roundw
           case rel=>exact⟨f,v2,v9,ys,_,rfl,hp4,ho4,hv3,own9,hvo9,hne9,hpo,by omega,by simp at hlen ⊢;omega,hb4⟩
           case measure=>
            show edits.length-z1R v9<edits.length-z1R (Go.Value.slice ad9 0 cap9);rw[hsl9,show z1R (Go.Value.slice ad9 0 cap9)=([]:List Edit).length from rfl];omega
         ·obtain⟨g,cap9,cur,rfl,k1,k2,k3,k4,k5,k6⟩:=hoo2.get (by omega);obtain⟨-,b1,-⟩:=jR k2 k6 (i:=out.length-1) (by omega);rw[z1r (by omega)]at hpo;have hfb:=Fr.alloc w2 (Obj.cells #[Value.int IntKind.i64 e.From,Value.int IntKind.i64 e.To,Value.string {data:={toList:=e.Text}}] 37) (fun _=>False);have b1':=(World.cell?_of_block (a:=⟨g,(out.length-1)*3+1,none⟩) (hfb.blk g (Array.getElem?_eq_some_iff.1 k2).1 id)).trans b1;have eL:((out.length:Int)-1)=((out.length-1:Nat):Int):=by omega
          have pL:decide (0<(out.length:Int))=true:=decide_eq_true (by omega);have pG:(out.length:Int)>0:=by omega
          have pN:0<out.length:=by omega
          have pD:decide (0<out.length)=true:=decide_eq_true pN;by_cases hle:e.From≤out[out.length-1].To
          ·rw[zq1 ⟨by omega,hle⟩]at hpo;subst hpo;cases h
           go_wp2_with fail
           go_quiet (fail)
           go_wp2_with fail
           go_ret2
           have hbq:Below w.heap.size w (w2.alloc (Obj.cells #[Value.int IntKind.i64 e.From,Value.int IntKind.i64 e.To,Value.string {data:={toList:=e.Text}}] 37)):=hbw2.alloc hbw2.size _;exact⟨_,rfl,κ,yT B ⟨hbq.os,hbq.tape,hbq.output,hbq.size,hbq.block⟩,z8T .nil⟩
          ·rw[zq0 (fun c=>hle c.2)]at hpo
           go_wp2_with fail
           go_quiet (fail)
           obtain⟨W,hW⟩:∃W,W=(w2.alloc (Obj.cells #[Value.int IntKind.i64 e.From,Value.int IntKind.i64 e.To,Value.string {data:={toList:=e.Text}}] 37)).drewN nq:=⟨_,rfl⟩;rw[←hW];have hfW:Fr (fun _=>False) w2 W:=by
            have:=Fr.alloc w2 (Obj.cells #[Value.int IntKind.i64 e.From,Value.int IntKind.i64 e.To,Value.string {data:={toList:=e.Text}}] 37) (fun _=>False);rw[hW];exact⟨this.os,this.tape,this.output,this.size,this.blk⟩
           have hsW:W.heap.size=w2.heap.size+1:=by rw[hW];exact Array.size_push ..
           have hcW:W.heap[w2.heap.size]?=some (.cells #[Value.int IntKind.i64 e.From,Value.int IntKind.i64 e.To,Value.string {data:={toList:=e.Text}}] 37 (0,0)):=by rw[hW];exact Array.getElem?_push_size
           clear hW;have q0:W.cell? ⟨w2.heap.size,0,none⟩=some (.int .i64 e.From):=zB hcW;have q1:W.cell? ⟨w2.heap.size,1,none⟩=some (.int .i64 e.To):=zB hcW;have q2:W.cell? ⟨w2.heap.size,2,none⟩=some (.string ⟨⟨e.Text⟩⟩):=zB hcW;have hpW:=(hfW.blk _ (by have:=(Array.getElem?_eq_some_iff.1 hp2).1;omega) id).trans hp2;have hoW:=ho2.fr hfW fun _ _=>id;have hooW:=hoo2.fr hfW fun _ _=>id;have hbW:=hfW.below hbw2 hbw2.size fun _ _=>id
           have hvW:∀g,v2.ownBlock=some g→g<W.heap.size:=fun g hg=>(hoW.lt hg).2;have hsb:=hbW.size;clear hfW hp2 ho2 hoo2 hbw2 hcW hsW;have hfa:=Fr.alloc W (Obj.cells #[Value.int IntKind.i64 e.From,Value.int IntKind.i64 e.To,Value.string {data:={toList:=e.Text}}] 37) (fun _=>False);have hp3:=(hfa.blk _ (Array.getElem?_eq_some_iff.1 hpW).1 id).trans hpW;have hoA:=hooW.fr hfa fun _ _=>id
           have hcA:(W.alloc (Obj.cells #[Value.int IntKind.i64 e.From,Value.int IntKind.i64 e.To,Value.string {data:={toList:=e.Text}}] 37)).heap[W.heap.size]?=some (.cells #[Value.int IntKind.i64 e.From,Value.int IntKind.i64 e.To,Value.string {data:={toList:=e.Text}}] 37 (0,0)):=Array.getElem?_push_size;have hszA:(W.alloc (Obj.cells #[Value.int IntKind.i64 e.From,Value.int IntKind.i64 e.To,Value.string {data:={toList:=e.Text}}] 37)).heap.size=W.heap.size+1:=Array.size_push ..
           go_wp2_with (at_builtin;refine wpList_append_own_at _ rfl _ _ 22 rfl w.heap.size 37 i0 (.agg #[.int .i64 0,.int .i64 0,.string ⟨#[]⟩]) 3 32 Try.underlying22 hi hz0 hz1 hz2 rfl (by decide) _ _ _ rfl hoA ⟨W.heap.size,0,none⟩ 1 1 (vE e) rfl rfl ?c1 ?c2 ?c3 ?c4 ?c5 ?_)
           case c1=>
            intro j u hj
            match j,hj with
            |0,hj=>exact(zB hcA).trans hj
            |1,hj=>exact(zB hcA).trans hj
            |2,hj=>exact(zB hcA).trans hj
           case c2=>
            intro u hu;simp only[vE,List.mem_cons,List.not_mem_nil,or_false]at hu;rcases hu with rfl|rfl|rfl<;>rfl
           case c3=>unfold maxLen;omega
           case c4=>omega
           case c5=>omega
           ·intro v9 w9 hown9 hgrow9 hnil9 hat9;have f9:Fr (fun k=>(Go.Value.slice (some ⟨g,0,none⟩) out.length cap9).ownBlock=some k) (W.alloc (Obj.cells #[Value.int IntKind.i64 e.From,Value.int IntKind.i64 e.To,Value.string {data:={toList:=e.Text}}] 37)) w9:=⟨hgrow9.os,hgrow9.tape,hgrow9.output,hgrow9.size,fun k hk hne=>hgrow9.block k hk fun e=>hne e.symm⟩;have hp4:=(f9.blk _ (Array.getElem?_eq_some_iff.1 hp3).1 hvo).trans hp3;have ho4:=(hoW.fr hfa fun _ _=>id).fr f9 fun g hg c=>hne2 g c hg
            have hb4:Below w.heap.size w w9:=f9.below (hbW.alloc hbW.size _) (by rw[hszA];omega) fun k hk c=>by have:=(hooW.lt c).1;omega
            have own9:Own w9 w.heap.size v9 (out++[e]):=by
             unfold Own;rw[z4N,List.length_append];exact hown9
            have hvo9:v9.ownBlock≠some w.heap.size:=by
             rcases hat9 with h9|h9
             ·rw[h9];exact hvo
             ·rw[h9];intro c;injection c with c;omega
            have hne9:∀g,v9.ownBlock=some g→v2.ownBlock≠some g:=by
             intro g hg c;rcases hat9 with h9|h9
             ·exact hne2 g (h9.symm.trans hg) c
             ·rw[h9]at hg;injection hg with hg;have:=hvW g c;omega
            have hsl9:z1R v9=out.length+1:=by
             rcases own9.2 with⟨-,h9⟩|⟨g,cap,cur,rfl,-⟩
             ·simp at h9
             ·simp[z1R]
            clear f9 hgrow9 hown9 hat9 hnil9 hp3 hoA hcA hfa hpW hoW hooW hbW hne2
            go_wp2_with fail
            go_roundw
            case rel=>exact⟨f,v2,v9,ys,_,rfl,hp4,ho4,hv3,own9,hvo9,hne9,hpo,by omega,by simp at hlen ⊢;omega,hb4⟩
            case measure=>
             show edits.length-z1R v9<edits.length-z1R (Go.Value.slice (some ⟨g,0,none⟩) out.length cap9);rw[hsl9,show z1R (Go.Value.slice (some ⟨g,0,none⟩) out.length cap9)=out.length from rfl];omega
open Go.RowKit Go.Shelf
theorem z5U{T e:TypeId}{B b:Nat}{bs:List Go.Value}{w w':World}{row:Option Nat}(h:Lib.IsBuilderF T e B b bs w)(hg:w.grownBy w' row)(hb:some b≠row)(hr:∀k,row=some k→∀cur fz,w.heap[k]?≠some (.cells cur e fz)):Lib.IsBuilderF T e B b bs w':=by
 have one:∀p,Lib.BuilderAtF T e B b p bs w→Lib.BuilderAtF T e B b p bs w':=fun p ⟨h1,v,h2,h3,h4⟩=>by
  have hlt:b<w.heap.size:=(Array.getElem?_eq_some_iff.1 h2).1;refine⟨h1,v,by rw[hg.block b hlt hb];exact h2,h3.kept hg ?_,h4⟩;rcases h3.2 with⟨rfl,-⟩|⟨g,cap,cur,fz,rfl,-,h5,-⟩
  ·exact .inl rfl
  ·exact .inr fun e=>hr g e.symm cur fz h5
 exact h.elim (fun x=>.inl (one _ x)) (fun x=>.inr (one _ x))
abbrev vR(e:Region):List Go.Value:=[.int .i64 e.FromP,.int .i64 e.ToP,.int .i64 e.FromQ,.int .i64 e.ToQ]
def cR:List Region→List Go.Value
 |[]=>[]
 |e::r=>vR e++cR r
theorem z8M(a b:List Region):cR (a++b)=cR a++cR b:=by
 induction a with
 |nil=>rfl
 |cons e r ih=>simp[cR,ih]
abbrev OwnR(w:World)(base:Nat)(v:Go.Value)(xs:List Region):Prop:=w.ownsRow base 39 4 v xs.length (cR xs)
theorem z6Z(w:World)(M:Nat→Nat→Prop):∀l:List Region,Stand w M (cR l) (yC (l.map Region.toD))
 |[]=>⟨rfl,fun j u c h=>by simp[cR]at h⟩
 |e::r=>by
  have h:Stand w M (vR e) e.toD.cells:=by
   rw[Region.toD_eq];refine⟨rfl,fun j u c hu hc=>?_⟩
   match j,hu,hc with
   |0,hu,hc=>cases hu;cases hc;exact⟨rfl,.int _ _⟩
   |1,hu,hc=>cases hu;cases hc;exact⟨rfl,.int _ _⟩
   |2,hu,hc=>cases hu;cases hc;exact⟨rfl,.int _ _⟩
   |3,hu,hc=>cases hu;cases hc;exact⟨rfl,.int _ _⟩
  exact h.app (z6Z w M r)
theorem z4v{w:World}{M:Nat→Nat→Prop}{base:Nat}{v:Go.Value}{l:List Region}(h:OwnR w base v l)(hM:∀b o,base≤b→¬M b o):RelV w M v (.sl (l.map Region.toD)):=by
 have h':w.ownsRow base 39 4 v (l.map Region.toD).length (cR l):=by rw[zq3];exact h
 exact z3W h' (uQ fun x=>Region.sz x) (z6Z w M l) (Keeps.refl _ _) hM
theorem OwnR.kept{w w':World}{base:Nat}{v:Go.Value}{xs:List Region}{b:Nat}(h:OwnR w base v xs)(hv:v.ownBlock≠some b)(k:Lib.OthersKept 5 (some b) w w'):OwnR w' base v xs:=by
 rcases h with⟨h1,h2|⟨g,cap,cur,rfl,g1,g2,g3⟩⟩
 ·exact⟨h1,.inl h2⟩
 ·exact⟨h1,.inr ⟨g,cap,cur,rfl,g1,k g _ g2 (fun e=>hv (by rw[←e];rfl)) (fun c fz e=>by injection e with _ e;cases e),g3⟩⟩
theorem OwnR.ne5{w:World}{base:Nat}{v:Go.Value}{xs:List Region}(h:OwnR w base v xs):∀k,v.ownBlock=some k→∀cur fz,w.heap[k]?≠some (.cells cur 5 fz):=by
 intro k hk cur fz e;rcases h with⟨-,⟨rfl,-⟩|⟨g,cap,cur',rfl,-,g2,-⟩⟩
 ·cases hk
 ·injection hk with hk;subst hk;rw[g2]at e;injection e with e;injection e with _ e;cases e
theorem OwnR.ne37{w:World}{base:Nat}{v:Go.Value}{xs:List Region}(h:OwnR w base v xs){k:Nat}{c:Array Go.Value}{fz:Nat×Nat}(hk:w.heap[k]?=some (.cells c 37 fz)):v.ownBlock≠some k:=by
 intro e;rcases h with⟨-,⟨rfl,-⟩|⟨g,cap,cur',rfl,-,g2,-⟩⟩
 ·cases e
 ·injection e with e;subst e;rw[g2]at hk;injection hk with e;injection e with _ e;cases e
theorem z5Z(s:List UInt8)(l h:Nat):(ByteArray.mk ⟨s⟩).extract l h=ByteArray.mk ⟨(s.take h).drop l⟩:=by
 apply ByteArray.ext;apply Array.ext';simp[List.extract_eq_take_drop,List.drop_take]
theorem z6V(w:World)(s:List UInt8)(i j:Int)(h0:0≤i)(h1:i≤j)(h2:j≤(s.length:Int)):(Instr.slice 9 (.string ⟨⟨s⟩⟩) (some (.int .i64 i)) (some (.int .i64 j)) none).run Try.prog w=.ok (.string ⟨⟨(s.take j.toNat).drop i.toNat⟩⟩) w:=by
 rw[run_slice_string w 9 ⟨⟨s⟩⟩ _ _ i j Try.underlying9 h0 h1 h2,z5Z]
theorem z5I(w:World)(s:List UInt8)(i:Int)(h0:0≤i)(h2:i≤(s.length:Int)):(Instr.slice 9 (.string ⟨⟨s⟩⟩) (some (.int .i64 i)) none none).run Try.prog w=.ok (.string ⟨⟨s.drop i.toNat⟩⟩) w:=by
 rw[run_slice_string_from_if w 9 ⟨⟨s⟩⟩ _ i Try.underlying9,zq1 ⟨h0,h2⟩,z5Z];congr 4;show(s.take s.length).drop i.toNat=_;rw[List.take_length]
theorem z5i(n:Int):IntKind.wrap .i64 n=wrap64 n:=by rw[IntKind.wrap_i64];unfold wrap64;omega
theorem z8Y{w:World}{M:Nat→Nat→Prop}{κ:Kap}{x:Go.Value}{n:Int}{s:List UInt8}{ys:List D}(h:RelV w M x (.sl ys)):ResRel w M κ (.tuple #[.string ⟨⟨s⟩⟩,x,.int .i64 n]) [.d (.str s),.d (.sl ys),.d (.int .i64 n)]:=
 ⟨[.string ⟨⟨s⟩⟩,x,.int .i64 n],rfl,rfl,fun i u c hu hc=>by
  match i,hu,hc with
  |0,hu,hc=>cases hu;cases hc;exact⟨rfl,.d _ _ (.str _)⟩
  |1,hu,hc=>cases hu;cases hc;exact⟨rfl,.d _ _ h⟩
  |2,hu,hc=>cases hu;cases hc;exact⟨rfl,.d _ _ (.int _ _)⟩,fun _ _ _ h=>by cases h⟩
set_option maxHeartbeats 4000000 in
theorem wO(text:Str)(edits:List Edit)(r:Str×List Region×Int)(h:zN text edits=some r):Trip Try.prog 15 [.d (.str text),.d (.sl (List.map Edit.toD edits))] [] [.d (.str r.1),.d (.sl (List.map Region.toD r.2.1)),.d (.int .i64 r.2.2)] []:=by
 refine⟨⟨_,Try.func15,by rfl,by rfl⟩,fun w M0 κ vs B hv=>?_⟩;unfold zN at h;obtain⟨q,hq,h⟩:=yS h;obtain⟨hql,h⟩:=z3i h;cases hv with
 |cons v1 _ vs1 _ g1 hv=>
  cases hv with
  |cons v2 _ vs2 _ g2 hv=>
   cases hv;cases g1 with
   |d _ _ g1=>
    cases g1;cases g2 with
    |d _ _ g2=>
     obtain⟨ad,cap,rfl,hopen⟩:=z4C g2;rw[zq3]at *
     go_enter Try.func15,Try.ntmps15
     go_wp2_with fail
     refine((z2a text edits q hq).2 w noM kN _ z3Y (.cons _ _ _ _ (.d _ _ (.str _)) (.cons _ _ _ _ (.d _ _ (g2.keep (z7K (Below.refl _ w)))) .nil))).mono ?_;rintro e W1 ⟨v1,κ1,rfl,A1,hres⟩;obtain⟨l,en⟩:=q;have bel1:=z4h A1;obtain⟨x1,rfl,hx1⟩:∃x1,v1=.tuple #[x1,.int .i64 en]∧RelV W1 (Mut noM κ1) x1 (.sl (l.map Edit.toD)):=by
      obtain⟨vs,rfl,hl,hr,-⟩:=hres
      match vs,hl,hr with
      |[x,y],_,hr=>
       have r0:=(hr 0 x _ rfl rfl).2;have r1:=(hr 1 y _ rfl rfl).2;cases r0 with
       |d _ _ r0=>
        cases r1 with
        |d _ _ r1=>cases r1;exact⟨x,rfl,r0⟩
     obtain⟨ad1,cap1,rfl,hop1⟩:=z4C hx1;rw[zq3]at *;clear hres A1 hx1 hopen g2 hq;simp only at h hql;by_cases e0:en=0
     ·subst e0;rw[zq1 rfl]at h;generalize hS:yJ (List.length text) l=S at h
      go_wp2_with fail
      go_loopw [9,33] (fun m i wr=>∃(k:Nat) (n:Int),i=.int .i64 (k:Int)∧m=.int .i64 n∧k≤l.length∧yJ n (l.drop k)=S∧Below W1.heap.size W1 wr) (fun _ i _=>l.length-(intOf i).toNat)
      case atStart=>exact⟨0,_,rfl,rfl,Nat.zero_le _,hS,Below.refl _ _⟩
      case round=>
       obtain⟨k,n,rfl,rfl,hk,hsh,hbw⟩:=hrel;by_cases hlt:k<l.length
       ·obtain⟨b,o,rfl,hc⟩:=hop1 (fun e=>by have:=congrArg List.length e;simp at this;rw[this]at hlt;simp at hlt);obtain⟨c0,c1,c2⟩:=gN hc hlt;have d0:=(hbw.cell (p:=⟨b,o+k*3,none⟩) (yY c0)).trans c0;have d1:=(hbw.cell (p:=⟨b,o+k*3+1,none⟩) (yY c1)).trans c1;have d2:=(hbw.cell (p:=⟨b,o+k*3+2,none⟩) (yY c2)).trans c2;rw[List.drop_eq_getElem_cons hlt,yJ,z5i,z5i]at hsh;generalize l[k]=e at *
        go_wp2_with fail
        go_roundw
        case rel=>exact⟨k+1,_,by go_num,rfl,hlt,hsh,hbw.alloc hbw.size _⟩
        case measure=>simp[intOf];omega
       ·have hke:k=l.length:=by omega
        subst hke;rw[List.drop_eq_nil_of_le (Nat.le_refl _),yJ]at hsh;subst hsh;clear hlt hk;generalize hS:yR n l=S at h
        go_wp2_with fail
        go_loopw [9,47] (fun m i wr=>∃(k:Nat) (n:Int),i=.int .i64 (k:Int)∧m=.int .i64 n∧k≤l.length∧yR n (l.drop k)=S∧Below W1.heap.size W1 wr) (fun _ i _=>l.length-(intOf i).toNat)
        case atStart=>exact⟨0,_,rfl,rfl,Nat.zero_le _,hS,hbw⟩
        case round=>
         clear hbw;obtain⟨k,n,rfl,rfl,hk,hsh,hbw⟩:=hrel;by_cases hlt:k<l.length
         ·obtain⟨b,o,rfl,hc⟩:=hop1 (fun e=>by have:=congrArg List.length e;simp at this;rw[this]at hlt;simp at hlt);obtain⟨c0,c1,c2⟩:=gN hc hlt;have d0:=(hbw.cell (p:=⟨b,o+k*3,none⟩) (yY c0)).trans c0;have d1:=(hbw.cell (p:=⟨b,o+k*3+1,none⟩) (yY c1)).trans c1;have d2:=(hbw.cell (p:=⟨b,o+k*3+2,none⟩) (yY c2)).trans c2;rw[List.drop_eq_getElem_cons hlt,yR,z5i,z5i]at hsh;generalize l[k]=e at *;by_cases hgt:(List.length e.Text:Int)>wrap64 (8192-n)
          ·rw[zq1 hgt]at hsh;subst hsh;cases h
           go_wp2_with fail
           go_ret3
           exact⟨_,rfl,κ,yT B ((bel1.trans (hbw.mono bel1.size)).alloc (Nat.le_trans bel1.size hbw.size) _),z8Y .nil⟩
          ·rw[zq0 hgt]at hsh
           go_wp2_with fail
           go_roundw
           case rel=>exact⟨k+1,_,by go_num,rfl,hlt,hsh,hbw.alloc hbw.size _⟩
           case measure=>simp[intOf];omega
         ·have hke:k=l.length:=by omega
          subst hke;rw[List.drop_eq_nil_of_le (Nat.le_refl _),yR]at hsh;subst hsh;simp only at h;by_cases hbig:n>8192
          ·rw[zq1 hbig]at h;cases h
           go_wp2_with fail
           go_ret3
           exact⟨_,rfl,κ,yT B (bel1.trans (hbw.mono bel1.size)),z8Y .nil⟩
          ·rw[zq0 hbig]at h;obtain⟨pp,hpw,h⟩:=yS h;obtain⟨hfin,h⟩:=z3i h;have hI0:=Lib.IsBuilderF.of (Lib.fresh_isBuilder 48 5 wr);have hb0:Below W1.heap.size W1 (wr.alloc (.cells #[.pointer none,.slice none 0 0] 48)):=hbw.alloc hbw.size _;obtain⟨bb,hbb⟩:∃bb,bb=wr.heap.size:=⟨_,rfl⟩;have hbW:W1.heap.size≤bb:=by rw[hbb];exact hbw.size
           obtain⟨j1,dd1,hj,hy1,-⟩:=zY (P:=Try.prog) (t:=39) (n:=4) (by kernel_rfl);have hy2:=wU (P:=Try.prog) (t:=39) (n:=32) (by kernel_rfl) hj;have hy0:=wM (P:=Try.prog) (t:=39) (z:=.agg #[.int .i64 0,.int .i64 0,.int .i64 0,.int .i64 0]) (by kernel_rfl) hj
           go_wp2_with fail
           rw[←hbb]at hI0 ⊢
           go_loopw [15,16,67] (fun v9 a9 i wr=>∃(k:Nat) (a:Int) (v:Go.Value) (acc:List UInt8) (rs:List Region),i=.int .i64 (k:Int)∧a9=.int .i64 a∧v9=v∧k≤l.length∧vB text (l.drop k) a acc rs=some pp∧Lib.IsBuilderF 48 5 bb bb (Lib.byteCells acc) wr∧OwnR wr bb v rs∧v.ownBlock≠some bb∧rs.length=k∧Below W1.heap.size W1 wr) (fun _ _ i _=>l.length-(intOf i).toNat)
           case atStart=>exact⟨0,0,_,[],[],rfl,rfl,rfl,Nat.zero_le _,hpw,hI0,⟨rfl,.inl ⟨rfl,rfl⟩⟩,(fun h=>by cases h),rfl,hb0⟩
           case round=>
            clear hI0 hb0 hbb hbw hpw;obtain⟨k,a,v,acc,rs,rfl,rfl,hv9,hk,hpw,hI,hO,hv,hrk,hbw⟩:=hrel;have hv9:=hv9.symm;subst hv9;have hbbs:bb<wr.heap.size:=by
             rcases hI with⟨h1,v,h2,-⟩|⟨h1,v,h2,-⟩<;>exact(Array.getElem?_eq_some_iff.1 h2).1
            by_cases hlt:k<l.length
            ·obtain⟨b,o,rfl,hc⟩:=hop1 (fun e=>by have:=congrArg List.length e;simp at this;rw[this]at hlt;simp at hlt);obtain⟨c0,c1,c2⟩:=gN hc hlt;have d0:=(hbw.cell (p:=⟨b,o+k*3,none⟩) (yY c0)).trans c0;have d1:=(hbw.cell (p:=⟨b,o+k*3+1,none⟩) (yY c1)).trans c1;have d2:=(hbw.cell (p:=⟨b,o+k*3+2,none⟩) (yY c2)).trans c2;rw[List.drop_eq_getElem_cons hlt,vB]at hpw;obtain⟨⟨p1,p2,p3,p4⟩,hpw⟩:=z3i hpw;generalize l[k]=e at *;have hsl:=fun W=>z6V W text a e.From p1 p2 p3
             generalize hp1s:(List.take (Int.toNat e.From) text).drop (Int.toNat a)=s1 at *;have hs1:(s1.length:Int)≤e.From-a:=by
              rw[←hp1s,List.length_drop,List.length_take];omega
             go_wp2_with fail
             have hI1:=z1f hI ((Below.refl _ wr).alloc (Nat.le_refl _) (Obj.cells #[Value.int IntKind.i64 e.From,Value.int IntKind.i64 e.To,Value.string {data:={toList:=e.Text}}] 37));have hO1:OwnR (wr.alloc (Obj.cells #[Value.int IntKind.i64 e.From,Value.int IntKind.i64 e.To,Value.string {data:={toList:=e.Text}}] 37)) bb v rs:=z1K hO ((Below.refl _ wr).alloc (Nat.le_refl _) _)
             have hE1:(wr.alloc (Obj.cells #[Value.int IntKind.i64 e.From,Value.int IntKind.i64 e.To,Value.string {data:={toList:=e.Text}}] 37)).heap[wr.heap.size]?=some (.cells #[Value.int IntKind.i64 e.From,Value.int IntKind.i64 e.To,Value.string {data:={toList:=e.Text}}] 37 (0,0)):=Array.getElem?_push_size;have hsA:(wr.alloc (Obj.cells #[Value.int IntKind.i64 e.From,Value.int IntKind.i64 e.To,Value.string {data:={toList:=e.Text}}] 37)).heap.size=wr.heap.size+1:=Array.size_push ..
             refine(Any.Builder_WriteString_k (ρ:=z7r) z4o z8X bb bb _ ⟨⟨s1⟩⟩ _ hI1 (by rw[Lib.byteCells_length];show _+s1.length≤_;omega) (by rw[hsA];omega)).mono ?_;rintro e1 w2 ⟨rfl,hI2,bel2,ok2⟩;have hO2:=OwnR.kept hO1 hv ok2;have hE2:=ok2 _ _ hE1 (fun e=>by injection e with e;omega) (fun c fz e=>by injection e with _ e;cases e);have hb2:Below W1.heap.size W1 w2:=(hbw.alloc hbw.size _).trans (bel2.mono hbW);have q0:w2.cell? ⟨wr.heap.size,0,none⟩=some (.int .i64 e.From):=zB hE2
             have q1:w2.cell? ⟨wr.heap.size,1,none⟩=some (.int .i64 e.To):=zB hE2;have q2:w2.cell? ⟨wr.heap.size,2,none⟩=some (.string ⟨⟨e.Text⟩⟩):=zB hE2;have hI2':Lib.IsBuilderF 48 5 bb bb (Lib.byteCells (acc++s1)) w2:=by rw[Lib.byteCells_append];exact Or.inr hI2
             have hs2:=bel2.size;clear hI hI1 hO hO1 hE1 hI2 hbw bel2 ok2 hsl d0 d1 d2
             go_wp2_with fail
             refine(Any.Builder_Len_f (ρ:=z7r) z6n bb bb _ w2 hI2').mono ?_;rintro e1 w3 ⟨rfl,rfl⟩;rw[Lib.byteCells_length]
             go_wp2_with fail
             refine(Any.Builder_WriteString_k (ρ:=z7r) z4o z8X bb bb _ ⟨⟨e.Text⟩⟩ _ hI2' (by rw[Lib.byteCells_length,List.length_append];show _+e.Text.length≤_;omega) (by omega)).mono ?_;rintro e1 w4 ⟨rfl,hI4,bel4,ok4⟩;have hO4:=OwnR.kept hO2 hv ok4;have hE4:=ok4 _ _ hE2 (fun e=>by injection e with e;omega) (fun c fz e=>by injection e with _ e;cases e);have hb4:Below W1.heap.size W1 w4:=hb2.trans (bel4.mono hbW);have r0:w4.cell? ⟨wr.heap.size,0,none⟩=some (.int .i64 e.From):=zB hE4
             have r1:w4.cell? ⟨wr.heap.size,1,none⟩=some (.int .i64 e.To):=zB hE4;have r2:w4.cell? ⟨wr.heap.size,2,none⟩=some (.string ⟨⟨e.Text⟩⟩):=zB hE4;have hI4':Lib.IsBuilderF 48 5 bb bb (Lib.byteCells (acc++s1++e.Text)) w4:=by rw[Lib.byteCells_append];exact Or.inr hI4
             have hs4:=bel4.size;have hbb4:bb<w4.heap.size:=by omega
             clear hI2' hI4 hO2 hE2 hb2 bel4 ok4 q0 q1 q2;obtain⟨n1,hn1⟩:∃n1:Int,n1=((acc++s1).length:Int):=⟨_,rfl⟩;obtain⟨n2,hn2⟩:∃n2:Int,n2=((acc++s1++e.Text).length:Int):=⟨_,rfl⟩;rw[←hn1,←hn2]at hpw;have hlc:Calls Try.prog 19 #[.pointer (some ⟨bb,0,none⟩)] w4.drew (fun en w'=>∃v,en=.returned v∧(v=.int .i64 n2∧w'=w4.drew)):=by
              have hID:=z1f hI4' (z5o w4 _);refine(Any.Builder_Len_f (ρ:=z7r) z6n bb bb _ w4.drew hID).mono ?_;rintro e1 w3 ⟨rfl,rfl⟩;rw[Lib.byteCells_length,hn2];exact⟨_,rfl,rfl,rfl⟩
             have hen:Nt.Enters Try.prog 19:=⟨_,Try.func19,by rfl,by rfl⟩;have hbE:Below w4.heap.size w4 (w4.alloc (Obj.cells #[.int .i64 e.From,.int .i64 e.To,.int .i64 n1,.int .i64 n2] 39)).drew:=((Below.refl _ w4).alloc (Nat.le_refl _) _).drew;have hszE:(w4.alloc (Obj.cells #[.int .i64 e.From,.int .i64 e.To,.int .i64 n1,.int .i64 n2] 39)).drew.heap.size=w4.heap.size+1:=Array.size_push ..;have hownD:=z1K hO4 hbE
             have e9:((w4.alloc (Obj.cells #[.int .i64 e.From,.int .i64 e.To,.int .i64 n1,.int .i64 n2] 39)).drew).heap[w4.heap.size]?=some (.cells #[.int .i64 e.From,.int .i64 e.To,.int .i64 n1,.int .i64 n2] 39 (0,0)):=Array.getElem?_push_size;have hnews:∀j u,(vR ⟨e.From,e.To,n1,n2⟩)[j]?=some u→((w4.alloc (Obj.cells #[.int .i64 e.From,.int .i64 e.To,.int .i64 n1,.int .i64 n2] 39)).drew).cell? ((⟨w4.heap.size,0,none⟩:Addr).add j)=some u:=by
              intro j u hj
              match j,hj with
              |0,hj=>exact(zB e9).trans hj
              |1,hj=>exact(zB e9).trans hj
              |2,hj=>exact(zB e9).trans hj
              |3,hj=>exact(zB e9).trans hj
             have hone:∀u∈vR ⟨e.From,e.To,n1,n2⟩,u.oneCell'=true:=by
              intro u hu;simp only[vR,List.mem_cons,List.not_mem_nil,or_false]at hu;rcases hu with rfl|rfl|rfl|rfl<;>rfl
             have h63:rs.length+1≤maxLen:=by unfold maxLen;omega
             have hbb9:bb≤(w4.alloc (Obj.cells #[.int .i64 e.From,.int .i64 e.To,.int .i64 n1,.int .i64 n2] 39)).drew.heap.size:=by rw[hszE];omega
             have n1e:((acc.length:Int)+(s1.length:Int))=n1:=by rw[hn1,List.length_append];omega
             clear hn1 hn2
             go_wp2_with fail
             go_region_law (first
              |(refine z7b rfl 19 (.tmp 14) _ rfl hen (by simp[Act.eval,Act.put];exact hlc) ?_
                rintro vq W3 ⟨rfl,rfl⟩)
              |(refine gE rfl (.tmp 81) (.tmp 89) 28 rfl bb 39 j1 _ 4 32 Try.underlying28 hj hy0 hy1 hy2 rfl (by decide) v rs.length (cR rs) (by simp[Act.eval,Act.put]) hownD ⟨w4.heap.size,0,none⟩ 1 1 (vR ⟨e.From,e.To,n1,n2⟩) (by simp[Act.eval,Act.put]) rfl hnews hone h63 (by omega) hbb9 ?_
                intro v9 W9 hown9 hgrow9 hat9))
             all_goals
              have own9:OwnR W9 bb v9 (rs++[⟨e.From,e.To,n1,n2⟩]):=by
               unfold OwnR;rw[z8M,List.length_append];exact hown9
              have hI9:=z5U (z1f hI4' hbE) hgrow9 (fun c=>hv c.symm) (OwnR.ne5 hownD);have hbW9:Below W1.heap.size W1 W9:=(hb4.trans (hbE.mono hb4.size)).grown hgrow9 (by rw[hszE];have:=hb4.size;omega) (fun k hk=>Nat.le_trans hbW (World.ownsRow.lt hO4 _ hk).1);have hv9:v9.ownBlock≠some bb:=by
               rcases hat9 with h9|h9
               ·rw[h9];exact hv
               ·rw[hszE]at h9;rw[h9];intro c;injection c with c;omega
              have hE9:=(hgrow9.block wr.heap.size (by rw[hszE];omega) (fun c=>OwnR.ne37 hO4 hE4 c.symm)).trans ((hbE.block _ (by omega)).trans hE4);have u0:W9.cell? ⟨wr.heap.size,0,none⟩=some (.int .i64 e.From):=zB hE9;have u1:W9.cell? ⟨wr.heap.size,1,none⟩=some (.int .i64 e.To):=zB hE9;have u2:W9.cell? ⟨wr.heap.size,2,none⟩=some (.string ⟨⟨e.Text⟩⟩):=zB hE9;have hrl:(rs++[(⟨e.From,e.To,n1,n2⟩:Region)]).length=k+1:=by simp[hrk]
              clear hown9 hgrow9 hat9 hE9 hownD hnews hone e9 hbE hszE hbb9 hI4' hO4 hE4 hb4 r0 r1 r2 hlc
              go_wp2_with fail
              go_roundw
              case rel=>exact⟨k+1,e.To,v9,acc++s1++e.Text,_,by go_num,rfl,rfl,hlt,hpw,hI9,own9,hv9,hrl,hbW9⟩
              case measure=>simp[intOf];omega
            ·have hke:k=l.length:=by omega
             subst hke;rw[List.drop_eq_nil_of_le (Nat.le_refl _),vB]at hpw;have hpp:=Option.some.inj hpw;subst hpp;cases h;simp only at hfin;obtain⟨p1,p2,p3⟩:=hfin;have hsl:=fun W=>z5I W text a p1 p2
             go_wp2_with fail
             refine(Any.Builder_WriteString_k (ρ:=z7r) z4o z8X bb bb _ ⟨⟨text.drop a.toNat⟩⟩ _ hI (by rw[Lib.byteCells_length];show _+(text.drop a.toNat).length≤_;rw[List.length_drop];omega) (by omega)).mono ?_;rintro e1 w2 ⟨rfl,hI2,bel2,ok2⟩;have hO2:=OwnR.kept hO hv ok2;have hI2':Lib.IsBuilderF 48 5 bb bb (Lib.byteCells (acc++text.drop a.toNat)) w2:=by rw[Lib.byteCells_append];exact Or.inr hI2
             have hs2:=bel2.size;have hb2:Below W1.heap.size W1 w2:=hbw.trans (bel2.mono hbW);clear hI hI2 hO hbw bel2 ok2 hsl
             go_wp2_with fail
             refine(Any.Builder_String_any_k (ρ:=z7r) z8p z8X bb bb _ w2 hI2' (by omega)).mono ?_;rintro e1 w3 ⟨rfl,hI3,bel3,ok3⟩;have hO3:=OwnR.kept hO2 hv ok3;have hb3:Below W1.heap.size W1 w3:=hb2.trans (bel3.mono hbW)
             go_wp2_with fail
             go_ret3
             exact⟨_,rfl,κ,yT B (bel1.trans (hb3.mono bel1.size)),z8Y (z4v hO3 fun b o hb=>z3K B (by have:=bel1.size;omega))⟩
     ·rw[zq0 e0]at h;cases h;have e1:¬(en == 0)=true:=by simpa using e0
      go_wp2_with fail
      go_ret3
      exact⟨_,rfl,κ,yT B bel1,z8Y .nil⟩
theorem uI(text:Str)(edits:List Edit)(r:Str×Int)(h:zZ text edits=some r):Trip Try.prog 8 [.d (.str text),.d (.sl (List.map Edit.toD edits))] [] [.d (.str r.1),.d (.int .i64 r.2)] []:=by
 unfold zZ at h;refine z0v 1000 (by kernel_rfl) (by kernel_rfl) (by kernel_rfl) (by kernel_rfl) (by kernel_rfl) (z2J _ _ text edits _ _) ?_;obtain⟨q1,hq,h⟩:=yS h;refine⟨q1.1,List.map Region.toD q1.2.1,q1.2.2,⟨_,wO _ _ _ hq⟩,?_⟩;cases h;exact⟨rfl,rfl⟩
theorem wW (r:Bool)(h:vT=some r):Trip Try.prog 7 [] [] [.d (.bool r)] []:=by
 unfold vT at h;refine z0v 1000 (by kernel_rfl) (by kernel_rfl) (by kernel_rfl) (by kernel_rfl) (by kernel_rfl) (z3D _ _  _ _) ?_;obtain⟨q1,hq,h⟩:=yS h;refine⟨q1.1,q1.2,⟨_,uI _ _ _ hq⟩,?_⟩;rintro _ rfl;refine jK zq2 h (fun hc1 h=>?_) (fun hc1 h=>?_)
 ·rintro _ rfl;cases h;exact⟨rfl,rfl⟩
 ·cases h;exact⟨rfl,rfl⟩
def jX:(i:zU)→yP i→Prop
 |.zF r_ q i,r=>Ok (yG (Trip Try.prog) [.d (.bool r)] []) (kL Try.f5 13) ⟨149,[(11,.d (.sl (List.map Region.toD r_))),(13,.d (.sl (List.map Region.toD q))),(15,.d (.int .i64 i))],[],[],0⟩
theorem jW:∀i r,z6a vL i=some r→jX i r:=by
 refine z1q wJ fun g ih i=>?_;cases i with
 |zF r_ q i=>
  have z9r:∀(r_:List Region) (q:List Region) (i:Int) (r:Bool),g (zU.zF r_ q i)=some r→Ok (yG (Trip Try.prog) [.d (.bool r)] []) (kL Try.f5 13) ⟨149,[(11,.d (.sl (List.map Region.toD r_))),(13,.d (.sl (List.map Region.toD q))),(15,.d (.int .i64 i))],[],[],0⟩:=fun r_ q i r h=>ih (.zF r_ q i) r h;intro r h;show Ok (yG (Trip Try.prog) [.d (.bool r)] []) (kL Try.f5 13) ⟨149,[(11,.d (.sl (List.map Region.toD r_))),(13,.d (.sl (List.map Region.toD q))),(15,.d (.int .i64 i))],[],[],0⟩
  replace h:zO (fun r_ q i=>g (zU.zF r_ q i)) r_ q i=some r:=h;unfold zO at h;refine z8R 1000 (jZ _ _ r_ q i _ _) ?_;refine z3k (e':=(List.length r_:Int)) (by first|rfl|rw[zq3]) ?_;rintro _ rfl;refine jK decide_eq_true_iff h (fun hc2 h=>?_) (fun hc2 h=>?_)
  ·obtain⟨x,hx,h⟩:=yS h;refine⟨uQ (l:=q) (Region.sz),z7t hx,x.FromP,x.ToP,x.FromQ,x.ToQ,z3j (Region.toD_eq x) hx,?_⟩;obtain⟨x1,hx,h⟩:=yS h;refine⟨uQ (l:=r_) (Region.sz),z7t hx,x1.FromP,x1.ToP,x1.FromQ,x1.ToQ,z3j (Region.toD_eq x1) hx,?_⟩;rintro _ rfl;refine wV zq2 h (fun hc3 h=>?_) (fun hc3 h=>?_)
   ·obtain⟨x2,hx,h⟩:=yS h;refine⟨uQ (l:=q) (Region.sz),z7t hx,x2.FromP,x2.ToP,x2.FromQ,x2.ToQ,z3j (Region.toD_eq x2) hx,?_⟩;obtain⟨x3,hx,h⟩:=yS h;refine⟨uQ (l:=r_) (Region.sz),z7t hx,x3.FromP,x3.ToP,x3.FromQ,x3.ToQ,z3j (Region.toD_eq x3) hx,?_⟩;rintro _ rfl;refine wV zq2 h (fun hc4 h=>?_) (fun hc4 h=>?_)
    ·obtain⟨x4,hx,h⟩:=yS h;refine⟨uQ (l:=q) (Region.sz),z7t hx,x4.FromP,x4.ToP,x4.FromQ,x4.ToQ,z3j (Region.toD_eq x4) hx,?_⟩;obtain⟨x5,hx,h⟩:=yS h;refine⟨uQ (l:=r_) (Region.sz),z7t hx,x5.FromP,x5.ToP,x5.FromQ,x5.ToQ,z3j (Region.toD_eq x5) hx,?_⟩;rintro _ rfl;refine wV zq2 h (fun hc5 h=>?_) (fun hc5 h=>?_)
     ·obtain⟨x6,hx,h⟩:=yS h;refine⟨uQ (l:=q) (Region.sz),z7t hx,x6.FromP,x6.ToP,x6.FromQ,x6.ToQ,z3j (Region.toD_eq x6) hx,?_⟩;obtain⟨x7,hx,h⟩:=yS h;refine⟨uQ (l:=r_) (Region.sz),z7t hx,x7.FromP,x7.ToP,x7.FromQ,x7.ToQ,z3j (Region.toD_eq x7) hx,?_⟩;rintro _ rfl;refine wV zq2 h (fun hc6 h=>?_) (fun hc6 h=>?_)
      ·rintro _ rfl;exact z9r _ _ _ _ h
      ·cases h;exact⟨rfl,rfl⟩
     ·cases h;exact⟨rfl,rfl⟩
    ·cases h;exact⟨rfl,rfl⟩
   ·cases h;exact⟨rfl,rfl⟩
  ·obtain⟨q1,hq,h⟩:=yS h;refine⟨q1,⟨_,wW _ hq⟩,?_⟩;cases h;exact⟨rfl,rfl⟩
theorem jY(r_:List Region)(q:List Region)(i:Int)(r:Bool)(h:zF r_ q i=some r):Ok (yG (Trip Try.prog) [.d (.bool r)] []) (kL Try.f5 13) ⟨149,[(11,.d (.sl (List.map Region.toD r_))),(13,.d (.sl (List.map Region.toD q))),(15,.d (.int .i64 i))],[],[],0⟩:=jW (.zF r_ q i) r h
theorem z3n(edits:List Edit)(r:Bool)(h:wA edits=some r):Trip Try.prog 6 [.d (.sl (List.map Edit.toD edits))] [] [.d (.bool r)] []:=by
 unfold wA at h;refine z0v 1000 (by kernel_rfl) (by kernel_rfl) (by kernel_rfl) (by kernel_rfl) (by kernel_rfl) (z3E _ _ edits _ _) ?_;refine z3k (e':=(List.length edits:Int)) (by first|rfl|rw[zq3]) ?_;rintro _ rfl;cases h;exact⟨rfl,rfl⟩
def z0S:(i:I_patch_Back_L6)→vV i→Prop
 |.patch_Back_L6 text out v22 v23 v24,r=>Ok (vQ (Trip Try.prog) [.d (.sl (List.map Edit.toD r.1)),.d (.int .i64 r.2)] []) (kL Try.f14 6) ⟨44,[(0,.d (.str text)),(9,.right 9 1 3 (List.map Edit.toD out)),(22,.d (.sl (List.map Region.toD v22))),(23,.d (.int .i64 v23)),(24,.d (.int .i64 v24))],[(9,1,some (.tok 3 (List.length (List.map Edit.toD out))))],[],0⟩
theorem z0R:∀i r,z6a wN i=some r→z0S i r:=by
 refine z1q uR fun g ih i=>?_;cases i with
 |patch_Back_L6 text out v22 v23 v24=>
  have z9s:∀(text:Str) (out:List Edit) (v22:List Region) (v23:Int) (v24:Int) (r:List Edit×Int),g (I_patch_Back_L6.patch_Back_L6 text out v22 v23 v24)=some r→Ok (vQ (Trip Try.prog) [.d (.sl (List.map Edit.toD r.1)),.d (.int .i64 r.2)] []) (kL Try.f14 6) ⟨44,[(0,.d (.str text)),(9,.right 9 1 3 (List.map Edit.toD out)),(22,.d (.sl (List.map Region.toD v22))),(23,.d (.int .i64 v23)),(24,.d (.int .i64 v24))],[(9,1,some (.tok 3 (List.length (List.map Edit.toD out))))],[],0⟩:=fun text out v22 v23 v24 r h=>ih (.patch_Back_L6 text out v22 v23 v24) r h
  intro r h;show Ok (vQ (Trip Try.prog) [.d (.sl (List.map Edit.toD r.1)),.d (.int .i64 r.2)] []) (kL Try.f14 6) ⟨44,[(0,.d (.str text)),(9,.right 9 1 3 (List.map Edit.toD out)),(22,.d (.sl (List.map Region.toD v22))),(23,.d (.int .i64 v23)),(24,.d (.int .i64 v24))],[(9,1,some (.tok 3 (List.length (List.map Edit.toD out))))],[],0⟩;replace h:zX (fun text out v22 v23 v24=>g (I_patch_Back_L6.patch_Back_L6 text out v22 v23 v24)) text out v22 v23 v24=some r:=h;unfold zX at h
  refine z8R 1000 (z1m _ _ text out v22 v23 v24 _ _) ?_;rintro _ rfl;refine jK decide_eq_true_iff h (fun hc7 h=>?_) (fun hc7 h=>?_)
  ·obtain⟨x,hx,h⟩:=yS h;refine⟨uQ (l:=v22) (Region.sz),z7t hx,x.FromP,x.ToP,x.FromQ,x.ToQ,z3j (Region.toD_eq x) hx,?_⟩;obtain⟨hP,h⟩:=z3i h;refine⟨by first|exact hP|(simp only[zq3,List.length_cons,List.length_nil]at hP ⊢;exact hP),?_⟩;obtain⟨hP,h⟩:=z3i h;refine⟨by first|exact hP|(simp only[zq3,List.length_cons,List.length_nil]at hP ⊢;exact hP),?_⟩;obtain⟨hP,h⟩:=z3i h;refine⟨by first|exact hP|(simp only[zq3,List.length_cons,List.length_nil]at hP ⊢;exact hP),?_⟩;obtain⟨hP,h⟩:=z3i h
   refine⟨by first|exact hP|(simp only[zq3,List.length_cons,List.length_nil]at hP ⊢;exact hP),?_⟩;rintro _ rfl;refine⟨by simp[yB,D.cells],?_⟩;refine⟨by first|rfl|decide|simp only[zq3,List.length_cons,List.length_nil,List.map_append,List.length_append],?_⟩;obtain⟨hP,h⟩:=z3i h;refine⟨by first|exact hP|(simp only[zq3,List.length_cons,List.length_nil]at hP ⊢;exact hP),?_⟩
   refine z3k (e':=List.map Edit.toD (out++[(Edit.mk x.FromQ x.ToQ (List.drop (Int.toNat x.FromP) (List.take (Int.toNat x.ToP) text)))])) (by first|rfl|simp only[List.map_append,List.map_cons,List.map_nil,List.map_take,List.map_drop,List.map_set,List.map_replicate,zq3,Edit.toD_eq]) ?_;rintro _ rfl;exact z9s _ _ _ _ _ _ h
  ·cases h;exact⟨rfl,rfl⟩
theorem z0U(text:Str)(out:List Edit)(v22:List Region)(v23:Int)(v24:Int)(r:List Edit×Int)(h:patch_Back_L6 text out v22 v23 v24=some r):Ok (vQ (Trip Try.prog) [.d (.sl (List.map Edit.toD r.1)),.d (.int .i64 r.2)] []) (kL Try.f14 6) ⟨44,[(0,.d (.str text)),(9,.right 9 1 3 (List.map Edit.toD out)),(22,.d (.sl (List.map Region.toD v22))),(23,.d (.int .i64 v23)),(24,.d (.int .i64 v24))],[(9,1,some (.tok 3 (List.length (List.map Edit.toD out))))],[],0⟩:=z0R (.patch_Back_L6 text out v22 v23 v24) r h
theorem z3o(text:Str)(edits:List Edit)(r:List Edit×Int)(h:wB text edits=some r):Trip Try.prog 14 [.d (.str text),.d (.sl (List.map Edit.toD edits))] [] [.d (.sl (List.map Edit.toD r.1)),.d (.int .i64 r.2)] []:=by
 unfold wB at h;refine z0v 1000 (by kernel_rfl) (by kernel_rfl) (by kernel_rfl) (by kernel_rfl) (by kernel_rfl) (z3F _ _ text edits _ _) ?_;obtain⟨q1,hq,h⟩:=yS h;refine⟨q1.1,List.map Region.toD q1.2.1,q1.2.2,⟨_,wO _ _ _ hq⟩,?_⟩;rintro _ rfl;refine wV zq2 h (fun hc8 h=>?_) (fun hc8 h=>?_)
 ·refine z3k (e':=(List.length q1.2.1:Int)) (by first|rfl|rw[zq3]) ?_;exact z0U _ _ _ _ _ _ h
 ·cases h;exact⟨rfl,rfl⟩
theorem uS(text:Str)(edits:List Edit)(r:List Region×Int)(h:yI text edits=some r):Trip Try.prog 9 [.d (.str text),.d (.sl (List.map Edit.toD edits))] [] [.d (.sl (List.map Region.toD r.1)),.d (.int .i64 r.2)] []:=by
 unfold yI at h;refine z0v 1000 (by kernel_rfl) (by kernel_rfl) (by kernel_rfl) (by kernel_rfl) (by kernel_rfl) (z1n _ _ text edits _ _) ?_;obtain⟨q1,hq,h⟩:=yS h;refine⟨q1.1,List.map Region.toD q1.2.1,q1.2.2,⟨_,wO _ _ _ hq⟩,?_⟩;cases h;exact⟨rfl,rfl⟩
theorem z0G(text:Str)(edits:List Edit)(r:Bool)(h:wD text edits=some r):Trip Try.prog 5 [.d (.str text),.d (.sl (List.map Edit.toD edits))] [] [.d (.bool r)] []:=by
 unfold wD at h;refine z0v 1000 (by kernel_rfl) (by kernel_rfl) (by kernel_rfl) (by kernel_rfl) (by kernel_rfl) (z0I _ _ text edits _ _) ?_;obtain⟨q1,hq,h⟩:=yS h;refine⟨q1,⟨_,z3n _ _ hq⟩,?_⟩;refine jK Iff.rfl h (fun hc9 h=>?_) (fun hc9 h=>?_)
 ·obtain⟨q2,hq,h⟩:=yS h;refine⟨q2,⟨_,wW _ hq⟩,?_⟩;cases h;exact⟨rfl,rfl⟩
 ·rintro _ rfl;rintro _ rfl;refine jK decide_eq_true_iff h (fun hc10 h=>?_) (fun hc10 h=>?_)
  ·obtain⟨q3,hq,h⟩:=yS h;refine⟨q3,⟨_,wW _ hq⟩,?_⟩;cases h;exact⟨rfl,rfl⟩
  ·obtain⟨q4,hq,h⟩:=yS h;refine⟨q4.1,q4.2,⟨_,uI _ _ _ hq⟩,?_⟩;obtain⟨q5,hq,h⟩:=yS h;refine⟨List.map Edit.toD q5.1,q5.2,⟨_,z3o _ _ _ hq⟩,?_⟩;rintro _ rfl;refine wV zq2 h (fun hc11 h=>?_) (fun hc11 h=>?_)
   ·obtain⟨q7,hq,h⟩:=yS h;refine⟨q7.1,q7.2,⟨_,uI _ _ _ hq⟩,?_⟩;obtain⟨q8,hq,h⟩:=yS h;refine⟨List.map Region.toD q8.1,q8.2,⟨_,uS _ _ _ hq⟩,?_⟩;obtain⟨q9,hq,h⟩:=yS h;refine⟨List.map Region.toD q9.1,q9.2,⟨_,uS _ _ _ hq⟩,?_⟩;rintro _ rfl;refine wV zq2 h (fun hc12 h=>?_) (fun hc12 h=>?_)
    ·rintro _ rfl;refine wV zq2 h (fun hc13 h=>?_) (fun hc13 h=>?_)
     ·rintro _ rfl;refine wV zq2 h (fun hc14 h=>?_) (fun hc14 h=>?_)
      ·refine z3k (e':=(List.length q9.1:Int)) (by first|rfl|rw[zq3]) ?_;refine z3k (e':=(List.length q8.1:Int)) (by first|rfl|rw[zq3]) ?_;rintro _ rfl;refine wV zq2 h (fun hc15 h=>?_) (fun hc15 h=>?_)
       ·refine z3k (e':=(List.length q8.1:Int)) (by first|rfl|rw[zq3]) ?_;refine z3k (e':=(List.length edits:Int)) (by first|rfl|rw[zq3]) ?_;rintro _ rfl;refine wV zq2 h (fun hc16 h=>?_) (fun hc16 h=>?_)
        ·exact jY _ _ _ _ h
        ·cases h;exact⟨rfl,rfl⟩
       ·cases h;exact⟨rfl,rfl⟩
      ·cases h;exact⟨rfl,rfl⟩
     ·cases h;exact⟨rfl,rfl⟩
    ·cases h;exact⟨rfl,rfl⟩
   ·rintro _ rfl;refine jK zq2 h (fun hc17 h=>?_) (fun hc17 h=>?_)
    ·refine z3k (e':=(List.length q5.1:Int)) (by first|rfl|rw[zq3]) ?_;rintro _ rfl;refine jK zq2 h (fun hc18 h=>?_) (fun hc18 h=>?_)
     ·obtain⟨q6,hq,h⟩:=yS h;refine⟨q6,⟨_,wW _ hq⟩,?_⟩;cases h;exact⟨rfl,rfl⟩
     ·cases h;exact⟨rfl,rfl⟩
    ·cases h;exact⟨rfl,rfl⟩
end Go.Proofs.Ytjlohgfmobpfmaa.M

