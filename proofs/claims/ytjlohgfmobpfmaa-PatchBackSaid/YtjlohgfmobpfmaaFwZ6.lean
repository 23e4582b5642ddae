import Derived.Test.YtjlohgfmobpfmaaFwZ5
import Derived.Deep.Slices
import Derived.WalkKit
import Derived.ProofKit
import Derived.OpenShut
import Derived.ShutString
import Derived.ChangeOld
import Derived.Below
import Derived.Carry
import Derived.SizedLaws
import Derived.Deep.CondSized
namespace Nt
open Go Go.RowKit
open Go.ChangeShapes Go.WideShapes Go.ChangeAt
set_option linter.unusedVariables false
set_option linter.unusedSimpArgs false
mutual
def gM{H:Type}:DataW H→Nat
 |.lit (.string bytes)=>bytes.length+1
 |.lit _=>1
 |.nil=>1
 |.ptr d=>gM d+1
 |.slice elems spare=>uW elems+uW spare+1
 |.agg parts=>uW parts+1
 |.iface _ d=>gM d+1
 |.map _=>1
 |.held _=>1
def uW{H:Type}:List (DataW H)→Nat
 |[]=>0
 |d::r=>gM d+uW r
end
mutual
def D.bulk:D→Nat
 |.str s=>s.length+1
 |.sl xs=>vO xs+1
 |.agg cs=>vO cs
 |.bool _=>1
 |.int _ _=>1
def vO:List D→Nat
 |[]=>0
 |x::r=>x.bulk+vO r
end
theorem wX:∀(a b:List D),vO (a++b)=vO a+vO b
 |[],b=>by simp[vO]
 |x::a,b=>by rw[List.cons_append,vO,vO,wX a b];omega
theorem z2h{H:Type}:∀{ys:List (DataW H)} {css:List (List D)},css.length=ys.length→(∀(i:Nat) c y,css[i]?=some c→ys[i]?=some y→vO c≤gM y)→vO css.flatten≤uW ys
 |[],[],_,_=>by simp[vO,uW]
 |y::ys,c::css,hl,h=>by
  have h1:=z2h (ys:=ys) (css:=css) (by simpa using hl) fun i c y hc hy=>h (i+1) c y (by simpa using hc) (by simpa using hy);have h2:=h 0 c y rfl rfl;rw[List.flatten_cons,wX,uW];omega
 |[],_::_,hl,_=>by simp at hl
 |_::_,[],hl,_=>by simp at hl
def mkD(P:Program)(t:TypeId)(cs:List D):D:=
 match uD P t,cs with
 |true,cs=>.agg cs
 |false,[c]=>c
 |false,_=>.agg cs
theorem z5c(P:Program)(t:TypeId)(cs:List D):(mkD P t cs).bulk=vO cs:=by
 unfold mkD;split
 ·simp[D.bulk]
 ·simp[vO]
 ·simp[D.bulk]
theorem z3v(P:Program)(t:TypeId):∀(css:List (List D)),vO (css.map (mkD P t))=vO css.flatten
 |[]=>rfl
 |c::css=>by rw[List.map_cons,vO,z5c,List.flatten_cons,wX,z3v P t css]
def z7u(H:TypeId→List D→Prop):List Field→List D→Prop
 |[],cs=>cs=[]
 |f::fs,cs=>∃c r,cs=c++r∧H f.type c∧z7u H fs r
def HasTy(P:Program):Nat→TypeId→List D→Prop
 |0,_,_=>False
 |n+1,t,cs=>match P.underlying t with
  |some .bool=>∃b,cs=[.bool b]
  |some (.int k)=>∃i,cs=[.int k i]∧k.min≤i∧i≤k.max
  |some .string=>∃s,cs=[.str s]∧s.length≤9223372036854775807
  |some (.slice e)=>∃css:List (List D),cs=[.sl (css.map (mkD P e))]∧css.length≤9223372036854775807∧∀c∈css,HasTy P n e c
  |some (.struct fs)=>z7u (HasTy P n) fs.toList cs
  |_=>False
theorem z5a{α β γ:Type}{f:α→γ}{g:β→γ}{W:β→Prop}:∀{l:List α},(∀a∈l,∃b,f a=g b∧W b)→∃r:List β,l.map f=r.map g∧r.length=l.length∧∀b∈r,W b
 |[],_=>⟨[],rfl,rfl,by simp⟩
 |a::l,h=>by
  obtain⟨b,h1,h2⟩:=h a (by simp);obtain⟨r,h3,h4,h5⟩:=z5a (l:=l) fun a ha=>h a (by simp[ha]);exact⟨b::r,by simp[h1,h3],by simp[h4],fun x hx=>by
   rcases List.mem_cons.1 hx with rfl|hx
   ·exact h2
   ·exact h5 x hx⟩
theorem HasTy.bool{P:Program}{n:Nat}{t:TypeId}{cs:List D}(h:HasTy P n t cs)(ht:P.underlying t=some .bool):∃b,cs=[.bool b]:=by
 cases n with
 |zero=>exact h.elim
 |succ n=>simp only[HasTy,ht]at h;exact h
theorem HasTy.int{P:Program}{n:Nat}{t:TypeId}{cs:List D}{k:IntKind}(h:HasTy P n t cs)(ht:P.underlying t=some (.int k)):∃i,cs=[.int k i]∧k.min≤i∧i≤k.max:=by
 cases n with
 |zero=>exact h.elim
 |succ n=>simp only[HasTy,ht]at h;exact h
theorem HasTy.str{P:Program}{n:Nat}{t:TypeId}{cs:List D}(h:HasTy P n t cs)(ht:P.underlying t=some .string):∃s,cs=[.str s]∧s.length≤9223372036854775807:=by
 cases n with
 |zero=>exact h.elim
 |succ n=>simp only[HasTy,ht]at h;exact h
theorem HasTy.sl{P:Program}{n:Nat}{t e:TypeId}{cs:List D}(h:HasTy P n t cs)(ht:P.underlying t=some (.slice e)):
  ∃m,m<n∧∃css:List (List D),cs=[.sl (css.map (mkD P e))]∧css.length≤9223372036854775807∧∀c∈css,HasTy P m e c:=by
 cases n with
 |zero=>exact h.elim
 |succ n=>simp only[HasTy,ht]at h;exact⟨n,Nat.lt_succ_self n,h⟩
theorem HasTy.struct{P:Program}{n:Nat}{t:TypeId}{cs:List D}{fs:Array Field}(h:HasTy P n t cs)(ht:P.underlying t=some (.struct fs)):
  ∃m,m<n∧z7u (HasTy P m) fs.toList cs:=by
 cases n with
 |zero=>exact h.elim
 |succ n=>simp only[HasTy,ht]at h;exact⟨n,Nat.lt_succ_self n,h⟩
abbrev InK(k:IntKind)(n:Int):Prop:=k.min≤n∧n≤k.max
theorem z8e{P:Program}{t:TypeId}{c:D}(h:uD P t=false):mkD P t [c]=c:=by unfold mkD;rw[h]
theorem z8u{P:Program}{t:TypeId}{cs:List D}(h:uD P t=true):mkD P t cs=.agg cs:=by unfold mkD;rw[h]
theorem HasTy.dStr{P:Program}{n:Nat}{t:TypeId}{cs:List D}(h:HasTy P n t cs)(ht:P.underlying t=some .string)(ha:uD P t=false):∃s,mkD P t cs=.str s∧s.length≤9223372036854775807:=by
 obtain⟨s,rfl,w⟩:=h.str ht;exact⟨s,z8e ha,w⟩
theorem HasTy.dSl {P:Program} {n:Nat} {t e:TypeId} {cs:List D} {α:Type} {g:α→D} {W:α→Prop} (h:HasTy P n t cs) (ht:P.underlying t=some (.slice e)) (ha:uD P t=false)
  (he:∀m c,m<n→HasTy P m e c→∃x,mkD P e c=g x∧W x):∃l:List α,mkD P t cs=eS g l∧l.length≤9223372036854775807∧∀x∈l,W x:=by
 obtain⟨m,hm,css,rfl,hl,hall⟩:=h.sl ht;have:∀c∈css,∃x,mkD P e c=g x∧W x:=fun c hc=>he m c hm (hall c hc);obtain⟨l,h1,h2,h3⟩:=z5a this;exact⟨l,by rw[z8e ha,h1],by omega,h3⟩
def z7g(P:Program):Nat→List Field→Bool
 |_,[]=>true
 |i,f::fs=>Nat.beq f.offset i && z7g P (i+P.cellsOf f.type) fs
def z8I(P:Program):List Field→Nat
 |[]=>0
 |f::fs=>P.cellsOf f.type+z8I P fs
def z0m(P:Program)(l:List TypeId):Bool:=
 l.all fun t=>match P.underlying t with
  |some .bool=>Nat.beq (P.cellsOf t) 1 && !uD P t
  |some (.int _)=>Nat.beq (P.cellsOf t) 1 && !uD P t
  |some .string=>Nat.beq (P.cellsOf t) 1 && !uD P t
  |some (.slice e)=>has l e && Nat.blt 0 (P.cellsOf e) && Nat.beq (P.cellsOf t) 1 && !uD P t
  |some (.struct fs)=>fs.toList.all (fun f=>has l f.type) && z7g P 0 fs.toList && Nat.beq (P.cellsOf t) (z8I P fs.toList) && uD P t
  |_=>false
theorem z8o{l:List Nat}{i:Nat}(h:has l i=true):i∈l:=by
 induction l with
 |nil=>cases h
 |cons j r ih=>
  simp only[has,Bool.or_eq_true]at h;rcases h with h|h
  ·rw[vX h];simp
  ·exact List.mem_cons_of_mem _ (ih h)
theorem z1j{P:Program}{l:List TypeId}(h:z0m P l=true){t:TypeId}(ht:has l t=true):(match P.underlying t with
  |some .bool=>Nat.beq (P.cellsOf t) 1 && !uD P t
  |some (.int _)=>Nat.beq (P.cellsOf t) 1 && !uD P t
  |some .string=>Nat.beq (P.cellsOf t) 1 && !uD P t
  |some (.slice e)=>has l e && Nat.blt 0 (P.cellsOf e) && Nat.beq (P.cellsOf t) 1 && !uD P t
  |some (.struct fs)=>fs.toList.all (fun f=>has l f.type) && z7g P 0 fs.toList && Nat.beq (P.cellsOf t) (z8I P fs.toList) && uD P t
  |_=>false)=true:=List.all_eq_true.1 h t (z8o ht)
theorem z9f(b o:Nat):¬Mut noM noK b o:=z9e b o
section
variable {H:Type} {enc:TypeId×Value→H} {P:Program} {w:World} {held:Bool}
theorem RelVs.append:∀{vs us:List Value} {cs ds:List D},RelVs w (Mut noM noK) vs cs→RelVs w (Mut noM noK) us ds→RelVs w (Mut noM noK) (vs++us) (cs++ds)
 |_,_,_,_,.nil,g=>g
 |_,_,_,_,.cons v c vs cs hs h r,g=>.cons v c _ _ hs h (RelVs.append r g)
theorem z2k{n:Nat}{l:List TypeId}(ih:∀t vs x,has l t=true→DataW.trod enc P w 0 (fun _=>true) held n t vs=some x→∃cs,HasTy P n t cs∧RelVs w (Mut noM noK) vs cs∧cs.length=P.cellsOf t∧vO cs≤gM x.1):
  ∀(fs:List Field) (i:Nat) (vs:List Value) (ys:List (DataW H×List MemPlace)),ys.length=fs.length→fs.all (fun f=>has l f.type)=true→z7g P i fs=true→vs.length=i+z8I P fs →
   (∀(j:Nat) f,fs[j]?=some f→DataW.trod enc P w 0 (fun _=>true) held n f.type ((vs.drop f.offset).take (P.cellsOf f.type))=ys[j]?)→∃cs,z7u (HasTy P n) fs cs∧RelVs w (Mut noM noK) (vs.drop i) cs∧vO cs≤uW (ys.map (·.1))
 |[],i,vs,ys,_,_,_,hl,_=>⟨[],rfl,by
   have:vs.drop i=[]:=List.drop_eq_nil_of_le (by simp[z8I]at hl;omega);rw[this];exact .nil,by simp[vO]⟩
 |f::fs,i,vs,[],hy,_,_,_,_=>by simp at hy
 |f::fs,i,vs,y::ys,hy,ha,ht,hl,hx=>by
  simp only[List.all_cons,Bool.and_eq_true]at ha;simp only[z7g,Bool.and_eq_true]at ht;have hoff:=vX ht.1;simp only[z8I]at hl;have hx1:=hx 0 f rfl;obtain⟨c,h1,h2,h3,hb⟩:=ih _ _ _ ha.1 hx1;obtain⟨r,h4,h5,hb2⟩:=z2k ih fs (i+P.cellsOf f.type) vs ys (by simpa using hy) ha.2 ht.2 (by omega) fun j g hg=>hx (j+1) g (by simpa using hg);refine⟨c++r,⟨c,r,rfl,h1,h4⟩,?_,by rw[wX,List.map_cons,uW];omega⟩;have hsplit:vs.drop i=(vs.drop f.offset).take (P.cellsOf f.type)++vs.drop (i+P.cellsOf f.type):=by
   rw[hoff,←List.drop_drop,List.take_append_drop]
  rw[hsplit];exact h2.append h5
theorem z6B{t:TypeId}{cs:List D}(hs:∀c∈cs,c.sc=true)(h:uD P t=false→cs.length=1):(mkD P t cs).cells=cs:=by
 unfold mkD;cases ha:uD P t with
 |true=>rfl
 |false=>
  have:=h ha
  match cs,this with
  |[c],_=>
   have:=hs c (by simp);cases c<;>first|rfl|simp[D.sc]at this
theorem RelVs.scs{M:Nat→Nat→Prop}:∀{vs:List Value} {cs:List D},RelVs w M vs cs→∀c∈cs,c.sc=true
 |_,_,.nil=>by simp
 |_,_,.cons v c vs cs hs h r=>fun x hx=>by
  rcases List.mem_cons.1 hx with rfl|hx
  ·exact hs
  ·exact RelVs.scs r x hx
theorem z5E{k:IntKind}{n:Int}(h:(Lit.int k n).wf=true):k.min≤n∧n≤k.max:=by simpa [Lit.wf]using h
theorem z5g{l:List TypeId}(hc:z0m P l=true){t:TypeId}(ht:has l t=true)(ha:uD P t=false):P.cellsOf t=1:=by
 have:=z1j hc ht;split at this
 ·exact vX ((Bool.and_eq_true _ _).mp this).1
 ·exact vX ((Bool.and_eq_true _ _).mp this).1
 ·exact vX ((Bool.and_eq_true _ _).mp this).1
 ·simp only[Bool.and_eq_true]at this;exact vX this.1.2
 ·simp only[Bool.and_eq_true,ha]at this;exact absurd this.2 (by simp)
 ·cases this
theorem z4Q{α:Type}{n:Nat}:∀(css:List α) (g:α→D) (k:α→List D),(∀c∈css,(g c).cells=k c)→yC (css.map g)=css.flatMap k
 |[],_,_,_=>rfl
 |c::r,g,k,h=>by
  rw[List.map_cons,yC,h c (by simp),List.flatMap_cons,z4Q (n:=n) r g k fun x hx=>h x (by simp[hx])]
theorem z1i{α:Type}{p:Nat→α→Prop}:∀{n:Nat},(∀i,i<n→∃x,p i x)→∃l:List α,l.length=n∧∀i x,l[i]?=some x→p i x
 |0,_=>⟨[],rfl,by simp⟩
 |n+1,h=>by
  obtain⟨l,h1,h2⟩:=z1i (n:=n) fun i hi=>h i (by omega);obtain⟨x,hx⟩:=h n (by omega);refine⟨l++[x],by simp[h1],fun i y hy=>?_⟩;rw[List.getElem?_append]at hy;split at hy
  ·exact h2 i y hy
  ·have:i=n:=by
    have:=(List.getElem?_eq_some_iff.1 hy).1;simp at this;omega
   subst this;rw[h1]at hy;simp at hy;subst hy;exact hx
theorem z1O{b:Nat}:∀(css:List (List D)) (o:Nat) (m:Nat),(∀i c,css[i]?=some c→c.length=m∧RelC w (Mut noM noK) b (o+i*m) c)→RelC w (Mut noM noK) b o css.flatten
 |[],o,m,_=>.nil _ _
 |c::r,o,m,h=>by
  obtain⟨h1,h2⟩:=h 0 c rfl;rw[List.flatten_cons];refine RelC.append (by simpa using h2) ?_;rw[h1];refine z1O r (o+m) m fun i d hd=>?_;obtain⟨h3,h4⟩:=h (i+1) d (by simpa using hd);refine⟨h3,?_⟩;rw[show o+m+i*m=o+(i+1)*m by rw[Nat.add_mul];omega];exact h4
theorem z3h{l:List TypeId}(hc:z0m P l=true):∀(n:Nat) (t:TypeId) (vs:List Value) (x:DataW H×List MemPlace),has l t=true→DataW.trod enc P w 0 (fun _=>true) held n t vs=some x →
  ∃cs,HasTy P n t cs∧RelVs w (Mut noM noK) vs cs∧cs.length=P.cellsOf t∧vO cs≤gM x.1
 |0,t,vs,x,_,h=>by simp[DataW.trod]at h
 |n+1,t,vs,x,ht,h=>by
  have hcl:=z1j hc ht;split at hcl
  ·rename_i hu
   obtain⟨b,rfl,rfl⟩:=DataW.trod_bool hu h;simp only[Bool.and_eq_true]at hcl;exact⟨[.bool b],by simp only[HasTy,hu];exact⟨b,rfl⟩,.cons _ _ _ _ rfl (.bool b) .nil,(vX hcl.1).symm,by simp[vO,D.bulk,gM]⟩
  ·rename_i k hu
   obtain⟨i,rfl,rfl,hw⟩:=DataW.trod_int hu h;simp only[Bool.and_eq_true]at hcl;exact⟨[.int k i],by simp only[HasTy,hu];exact⟨i,rfl,z5E hw⟩,.cons _ _ _ _ rfl (.int k i) .nil,(vX hcl.1).symm,by simp[vO,D.bulk,gM]⟩
  ·rename_i hu
   obtain⟨s,rfl,rfl,hw⟩:=DataW.trod_string hu h;simp only[Bool.and_eq_true]at hcl;refine⟨[.str s.data.toList],by simp only[HasTy,hu];exact⟨_,rfl,by have:maxLen=9223372036854775807:=rfl;rw[this]at hw;exact hw⟩,.cons _ _ _ _ rfl ?_ .nil,(vX hcl.1).symm,by simp[vO,D.bulk,gM]⟩;have:=RelV.str (w:=w) (M:=Mut noM noK) s.data.toList;simpa using this
  ·rename_i e hu
   simp only[Bool.and_eq_true]at hcl;obtain⟨⟨⟨he,hpos⟩,h1⟩,hna⟩:=hcl;have hpos:=z3b hpos;rcases DataW.trod_slice hu h with⟨rfl,rfl⟩|⟨a,len,cap,elems,rest,k,hk,rfl,rfl,-,hl,hm,hlen,hel,hsp,-⟩
   ·exact⟨[.sl []],by simp only[HasTy,hu];exact⟨[],rfl,by simp,by simp⟩,.cons _ _ _ _ rfl .nil .nil,(vX h1).symm,by simp[vO,D.bulk,gM]⟩
   ·injection hk with hk;subst hk;have hone:∀i,i<len→∃c:List D,∃us,w.cells? 0 (a.add (i*P.cellsOf e)) (P.cellsOf e)=some us∧HasTy P n e c∧RelVs w (Mut noM noK) us c∧c.length=P.cellsOf e∧∀y,elems[i]?=some y→vO c≤gM y.1:=fun i hi=>by
     have hi':i<elems.length:=by omega
     have:=hel i hi;rw[List.getElem?_eq_getElem hi']at this;obtain⟨us,g1,g2⟩:=Option.bind_eq_some_iff.1 this;obtain⟨c,g3,g4,g5,g6⟩:=z3h hc n e us _ he g2;exact⟨c,us,g1,g3,g4,g5,fun y hy=>by rw[List.getElem?_eq_getElem hi']at hy;injection hy with hy;rw[←hy];exact g6⟩
    obtain⟨css,q1,q2⟩:=z1i hone;have hty:∀c∈css,HasTy P n e c:=fun c hc'=>by
     obtain⟨i,hi,hfi⟩:=List.getElem_of_mem hc';obtain⟨us,-,g,-⟩:=q2 i c (by rw[List.getElem?_eq_getElem hi,hfi]);exact g
    have hT:HasTy P (n+1) t [.sl (css.map (mkD P e))]:=by
     simp only[HasTy,hu];exact⟨css,rfl,by have:maxLen=9223372036854775807:=rfl;rw[this]at hm;omega,hty⟩
    have hbk:vO [.sl (css.map (mkD P e))]≤gM (DataW.slice (elems.map (·.1)) (rest.map (·.1))):=by
     have:=z2h (ys:=elems.map (·.1)) (css:=css) (by simp[q1,hlen]) fun i c y hc hy=>by
      obtain⟨us,-,-,-,-,g⟩:=q2 i c hc;rw[List.getElem?_map]at hy;cases hz:elems[i]? with
      |none=>rw[hz]at hy;cases hy
      |some z=>rw[hz]at hy;injection hy with hy;rw[←hy];exact g z hz
     simp only[vO,D.bulk,gM,z3v];omega
    refine⟨_,hT,.cons _ _ _ _ rfl ?_ .nil,(vX h1).symm,hbk⟩;by_cases h0:cap=0
    ·subst h0;have hl0:len=0:=by omega
     subst hl0;have:css=[]:=List.length_eq_zero_iff.1 q1;subst this;exact .emp a
    ·have hcell:∃u,w.cell? a=some u:=by
      by_cases hl0:0<len
      ·obtain⟨c,us,g1,-,-,g5,-⟩:=hone 0 hl0;obtain⟨-,g6,g7⟩:=World.cells?_some g1;have:=g7 0 hpos;rw[Nat.zero_mul]at this;rw[List.getElem?_eq_getElem (by omega)]at this;exact⟨_,by simpa [Addr.add]using this⟩
      ·obtain⟨r1,r2⟩:=hsp rfl;have hr:0<rest.length:=by omega
       have:=r2 0 (by omega);rw[List.getElem?_eq_getElem hr]at this;obtain⟨us,g1,-⟩:=Option.bind_eq_some_iff.1 this;obtain⟨-,g6,g7⟩:=World.cells?_some g1;have:=g7 0 hpos;have hl0:len=0:=by omega
       subst hl0;rw[show(0+0)*P.cellsOf e=0 by simp]at this;rw[List.getElem?_eq_getElem (by omega)]at this;exact⟨_,by simpa [Addr.add]using this⟩
     obtain⟨b,o,sp⟩:=a;have hspot:sp=none:=by
      obtain⟨u,hu'⟩:=hcell;cases sp with
      |none=>rfl
      |some s=>
       unfold World.cell? at hu';split at hu'<;>simp at hu'
     subst hspot;have hcells:∀c∈css,(mkD P e c).cells=c:=fun c hc'=>by
      obtain⟨i,hi,hfi⟩:=List.getElem_of_mem hc';obtain⟨us,-,-,g,g5,-⟩:=q2 i c (by rw[List.getElem?_eq_getElem hi,hfi]);exact z6B g.scs fun ha=>by rw[g5];exact z5g hc he ha
     have hflat:yC (css.map (mkD P e))=css.flatten:=by
      rw[z4Q (n:=0) css (mkD P e) id hcells];simp[List.flatMap_id]
     have hrel:RelC w (Mut noM noK) b o (yC (css.map (mkD P e))):=by
      rw[hflat];refine z1O css o (P.cellsOf e) fun i c hi=>?_;obtain⟨us,g1,-,g4,g5,-⟩:=q2 i c hi;obtain⟨-,g6,g7⟩:=World.cells?_some g1;refine⟨g5,RelC.mk _ fun j d hj=>?_⟩;obtain⟨v,y1,y2,y3⟩:=g4.get j d hj;have hj':j<P.cellsOf e:=by rw[←g5];exact(List.getElem?_eq_some_iff.1 hj).1
      have:=g7 j hj';rw[y1]at this;have hadd:((⟨b,o,none⟩:Addr).add (i*P.cellsOf e)).add j=⟨b,o+i*P.cellsOf e+j,none⟩:=by
       rw[Addr.add_mid,Addr.add_mid]
      rw[hadd]at this;exact⟨v,this,z9f _ _,y2,y3⟩
     have:=RelV.sl (w:=w) (M:=Mut noM noK) b o cap (css.map (mkD P e)) hrel (by simp;omega);simpa [q1]using this
  ·rename_i fs hu
   simp only[Bool.and_eq_true]at hcl;obtain⟨⟨⟨hall,htile⟩,hsum⟩,hagg⟩:=hcl;obtain⟨xs,k,hk,rfl,hlen,hxl,hf⟩:=DataW.trod_struct hu h;injection hk with hk;subst hk;obtain⟨cs,h1,h2,h3⟩:=z2k (l:=l) (fun t vs x ht hx=>z3h hc n t vs x ht hx) fs.toList 0 vs xs (by simpa using hxl) hall htile (by rw[hlen,vX hsum];omega) (fun j f hf'=>hf j f (by rw[←Array.getElem?_toList];exact hf'));refine⟨cs,by simp only[HasTy,hu];exact h1,by simpa using h2,?_,by simp only[gM];omega⟩;have:=h2.length;simp at this;omega
  ·cases hcl
def z0x(P:Program):List TypeId→List D→Prop
 |[],[]=>True
 |t::ts,x::xs=>(∃n c,HasTy P n t c∧x=mkD P t c)∧z0x P ts xs
 |_,_=>False
theorem z3q{t:TypeId}{ts:List TypeId}{xs:List D}(h:z0x P (t::ts) xs):∃x r,xs=x::r∧(∃n c,HasTy P n t c∧x=mkD P t c)∧z0x P ts r:=by
 cases xs with
 |nil=>exact h.elim
 |cons x r=>exact⟨x,r,rfl,h.1,h.2⟩
theorem z7v{xs:List D}(h:z0x P [] xs):xs=[]:=by
 cases xs with
 |nil=>rfl
 |cons x r=>exact h.elim
theorem z8i{l:List TypeId}(hc:z0m P l=true){t:TypeId}{v:Value}{base:Nat}(ht:has l t=true)(hval:Value.okWide P w .any base t v){c:List D}(h:RelVs w (Mut noM noK) v.cells.toList c)(hlen:c.length=P.cellsOf t):
  RelV w (Mut noM noK) v (mkD P t c):=by
 have hcl:=z1j hc ht;have one:uD P t=false→(∀cs,v≠.agg cs)→RelV w (Mut noM noK) v (mkD P t c):=fun ha hv=>by
  have h1:=z5g hc ht ha;have hvc:v.cells.toList=[v]:=by
   cases v<;>first|rfl|exact absurd rfl (hv _)
  rw[hvc]at h;unfold mkD;rw[ha];cases h with
  |cons _ c _ cs hs hr h2=>cases h2;exact hr
 split at hcl
 ·rename_i hu
  simp only[Bool.and_eq_true,Bool.not_eq_true']at hcl;refine one hcl.2 fun cs hv=>?_;subst hv;simp[Value.okWide,hu,Cell.okWide,Cell.ok]at hval
 ·rename_i hu
  simp only[Bool.and_eq_true,Bool.not_eq_true']at hcl;refine one hcl.2 fun cs hv=>?_;subst hv;simp[Value.okWide,hu,Cell.okWide,Cell.ok]at hval
 ·rename_i hu
  simp only[Bool.and_eq_true,Bool.not_eq_true']at hcl;refine one hcl.2 fun cs hv=>?_;subst hv;simp[Value.okWide,hu,Cell.okWide,Cell.ok]at hval
 ·rename_i e hu
  simp only[Bool.and_eq_true,Bool.not_eq_true']at hcl;refine one hcl.2 fun cs hv=>?_;subst hv;simp[Value.okWide,hu,Cell.okWide,Cell.ok]at hval
 ·rename_i fs hu
  simp only[Bool.and_eq_true]at hcl;simp only[Value.okWide,hu]at hval;obtain⟨cs,rfl,-,-⟩:=hval;unfold mkD;rw[hcl.2];have:=RelV.agg (w:=w) (M:=Mut noM noK) cs.toList c h;simpa using this
 ·cases hcl
theorem z4J{l:List TypeId}(hc:z0m P l=true){base:Nat}:∀{ts:List TypeId} {vs:List Value} {ds:List (DataW H)} {ps:List MemPlace},(∀t∈ts,has l t=true)→DataW.TrodAll enc P w 0 (fun _=>true) held ts vs ds ps →
  (∀(j:Nat) t v,ts[j]?=some t→vs[j]?=some v→Value.okWide P w .any base t v)→∃xs:List D,z0x P ts xs∧RelSs w (Mut noM noK) noK ⟨[],[],0⟩ vs (xs.map .d)∧ds.length=ts.length∧vs.length=ts.length∧vO xs≤uW ds
 |[],[],[],_,_,_,_=>⟨[],trivial,.nil,rfl,rfl,by simp[vO]⟩
 |t::ts,v::vs,d::ds,ps,hm,h,hval=>by
  obtain⟨p,q,⟨n,h1⟩,h2,-⟩:=h;obtain⟨xs,g1,g2,g3,g4,gb⟩:=z4J hc (ts:=ts) (fun t ht=>hm t (by simp[ht])) h2 fun j t v ht hv=>hval (j+1) t v (by simpa using ht) (by simpa using hv);obtain⟨c,g5,g6,g7,g8⟩:=z3h hc n t _ _ (hm t (by simp)) h1;exact⟨mkD P t c::xs,⟨⟨n,c,g5,rfl⟩,g1⟩,.cons _ _ _ _ (.d _ _ (z8i hc (hm t (by simp)) (hval 0 t v rfl rfl) g6 g7)) g2,by simp[g3],by simp[g4],by simp only[vO,uW,z5c]at g8 ⊢;omega⟩
 |[],_::_,_,_,_,h,_=>by cases h
 |[],[],_::_,_,_,h,_=>by cases h
 |_::_,[],_,_,_,h,_=>by cases h
 |_::_,_::_,[],_,_,h,_=>by cases h
theorem z3r(hl:laidOutB P=true){W W':World}(hb:Below W.heap.size W W'):∀{ts:List TypeId} {vs:List Value} {ds:List (DataW H)} {ps:List MemPlace},(∀t∈ts,P.readableRec t=true∧t<P.types.size) →
  DataW.TrodAll enc P W 0 (fun _=>true) true ts vs ds ps→DataW.TrodAll enc P W' 0 (fun b=>decide (b<W.heap.size)) true ts vs ds ps
 |[],[],[],_,_,h=>h
 |t::ts,v::vs,d::ds,ps,hm,h=>by
  obtain⟨p,q,h1,h2,h3⟩:=h;obtain⟨n,hn⟩:=h1;refine⟨p,q,Below.trod hl (hm t (by simp)).1 (hm t (by simp)).2 ⟨n,hn⟩ hb (fun x hx=>DataW.trod_lt n _ _ _ hn x hx),z3r hl hb (fun t ht=>hm t (by simp[ht])) h2,h3⟩
 |[],_::_,_,_,_,h=>by cases h
 |[],[],_::_,_,_,h=>by cases h
 |_::_,[],_,_,_,h=>by cases h
 |_::_,_::_,[],_,_,h=>by cases h
end
theorem z5D {H:Type} {enc:TypeId×Value→H} {C:Checked} {os:Os} {f:FuncId} {fn:Func} {s:ChangeSpec} {conds:List PathCond} {bt:TypeId} (l:List TypeId) (hc:z0m C.prog l=true)
  (own:ownKnob C.prog.godebug=none) (started:os.Started) (noInit:C.prog.inits.idxOf? f=none) (hfn:C.prog.funcs[f]?=some fn)
  (witness:∃(w:World) (tape:Tape) (i:Input),w.os=os∧(w.forCall tape i).Shaped C.prog∧i.vars=[]∧Input.okWide C.prog (w.forCall tape i) .any w.heap.size f i ∧
   s.pre6 enc C.prog fn conds false (w.forCall tape i).memory i.args∧({}:Assume).holds C.prog (lone (Frame.enter C.prog f i.args .normal) [] (w.forCall tape i)))
  (hps:fn.params.toList.all (fun t=>has l t && C.prog.readableRec t && decide (t<C.prog.types.size))=true) (hlaid:laidOutB C.prog=true) (hres:fn.resultTypes=#[bt]) (hbt:C.prog.underlying bt=some .bool) (hvars:s.vars=[])
  (hs:∀ds:List (DataW H),ds.length=fn.params.size→(s.fn H ds).results=[.lit (.bool true)]∧(s.fn H ds).args=ds∧(s.fn H ds).vars=[])
  (main:∀xs,z0x C.prog fn.params.toList xs→∃h',Trip C.prog f (xs.map .d) [] [.d (.bool true)] h'):
  ReturnsInHanded {} C os f .any (s.pre6 enc C.prog fn conds false) (s.post enc C.prog fn false true false false):=by
 refine returnsInHanded_of_change_sized own started noInit hfn witness ?_;intro W base args ds gs before hval hW _ _ _;have hp:=List.all_eq_true.1 hps;have hp1:∀t∈fn.params.toList,has l t=true:=fun t ht=>by have:=hp t ht;simp only[Bool.and_eq_true]at this;exact this.1.1
 have hp2:∀t∈fn.params.toList,C.prog.readableRec t=true∧t<C.prog.types.size:=fun t ht=>by
  have:=hp t ht;simp only[Bool.and_eq_true,decide_eq_true_eq]at this;exact⟨this.1.2,this.2⟩
 have hW':=hW;obtain⟨p,q,hA,hV,rfl,hfz,hnd⟩:=hW;obtain⟨xs,h1,h2,h3,h4,-⟩:=z4J hc hp1 hA fun j t v ht hv=>hval j t v (by simpa using ht) (by simpa using hv);obtain⟨h',hT⟩:=main xs h1;have hgs:gs=[]∧q=[]:=by
  rw[hvars]at hV;cases gs with
  |nil=>exact⟨rfl,hV⟩
  |cons g gs=>cases hV
 obtain⟨rfl,rfl⟩:=hgs;have hcall:=hT.callsB W args.toList (by simpa using h2);have hcall':Calls C.prog f args W fun e W'=>e=.returned (.bool true)∧Below W.heap.size W W':=hcall;refine hcall'.mono fun e W' ⟨he,bel⟩=>?_;subst he;obtain⟨e1,e2,e3⟩:=hs ds (by simpa using h3);refine⟨_,rfl,ds,[],p++[],[],p,[],hW',?_,?_,?_,bel.frame _,fun h=>by cases h⟩
 ·rw[List.append_nil,e1,hres];exact⟨[],[],⟨1,by simp[DataW.trod,hbt,Value.resultList,Value.cells]⟩,rfl,rfl⟩
 ·rw[List.append_nil,e2];exact z3r hlaid bel hp2 hA
 ·rw[List.append_nil,e3,hvars];rfl
end Nt

