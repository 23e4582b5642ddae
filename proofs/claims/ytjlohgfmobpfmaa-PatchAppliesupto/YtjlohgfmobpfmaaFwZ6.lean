import Derived.Test.YtjlohgfmobpfmaaFwZ5
import Derived.Deep.Slices
import Derived.WalkKit
import Derived.ProofKit
import Derived.OpenShut
import Derived.ShutString
import Derived.ChangeOld
import Derived.Below
import Derived.Carry
import Derived.SizedLaws
import Derived.Deep.CondSized
namespace Nt
open Go Go.RowKit
open Go.ChangeShapes Go.WideShapes Go.ChangeAt
set_option linter.unusedVariables false
set_option linter.unusedSimpArgs false
mutual
def jA{H:Type}:DataW H→Nat
 |.lit (.string bytes)=>bytes.length+1
 |.lit _=>1
 |.nil=>1
 |.ptr d=>jA d+1
 |.slice elems spare=>uT elems+uT spare+1
 |.agg parts=>uT parts+1
 |.iface _ d=>jA d+1
 |.map _=>1
 |.held _=>1
def uT{H:Type}:List (DataW H)→Nat
 |[]=>0
 |d::r=>jA d+uT r
end
mutual
def D.bulk:D→Nat
 |.str s=>s.length+1
 |.sl xs=>vL xs+1
 |.agg cs=>vL cs
 |.bool _=>1
 |.int _ _=>1
def vL:List D→Nat
 |[]=>0
 |x::r=>x.bulk+vL r
end
theorem jJ:∀(a b:List D),vL (a++b)=vL a+vL b
 |[],b=>by simp[vL]
 |x::a,b=>by rw[List.cons_append,vL,vL,jJ a b];omega
theorem z6o{x:D}:∀{l:List D},x∈l→x.bulk≤vL l
 |y::l,h=>by
  rw[vL];rcases List.mem_cons.1 h with rfl|h
  ·omega
  ·have:=z6o h;omega
theorem z3H{H:Type}:∀{ys:List (DataW H)} {css:List (List D)},css.length=ys.length→(∀(i:Nat) c y,css[i]?=some c→ys[i]?=some y→vL c≤jA y)→vL css.flatten≤uT ys
 |[],[],_,_=>by simp[vL,uT]
 |y::ys,c::css,hl,h=>by
  have h1:=z3H (ys:=ys) (css:=css) (by simpa using hl) fun i c y hc hy=>h (i+1) c y (by simpa using hc) (by simpa using hy);have h2:=h 0 c y rfl rfl;rw[List.flatten_cons,jJ,uT];omega
 |[],_::_,hl,_=>by simp at hl
 |_::_,[],hl,_=>by simp at hl
def mkD(P:Program)(t:TypeId)(cs:List D):D:=
 match jQ P t,cs with
 |true,cs=>.agg cs
 |false,[c]=>c
 |false,_=>.agg cs
theorem z6D(P:Program)(t:TypeId)(cs:List D):(mkD P t cs).bulk=vL cs:=by
 unfold mkD;split
 ·simp[D.bulk]
 ·simp[vL]
 ·simp[D.bulk]
theorem z4V(P:Program)(t:TypeId):∀(css:List (List D)),vL (css.map (mkD P t))=vL css.flatten
 |[]=>rfl
 |c::css=>by rw[List.map_cons,vL,z6D,List.flatten_cons,jJ,z4V P t css]
def z8U(H:TypeId→List D→Prop):List Field→List D→Prop
 |[],cs=>cs=[]
 |f::fs,cs=>∃c r,cs=c++r∧H f.type c∧z8U H fs r
def HasTy(P:Program):Nat→TypeId→List D→Prop
 |0,_,_=>False
 |n+1,t,cs=>match P.underlying t with
  |some .bool=>∃b,cs=[.bool b]
  |some (.int k)=>∃i,cs=[.int k i]∧k.min≤i∧i≤k.max
  |some .string=>∃s,cs=[.str s]∧s.length≤9223372036854775807
  |some (.slice e)=>∃css:List (List D),cs=[.sl (css.map (mkD P e))]∧css.length≤9223372036854775807∧∀c∈css,HasTy P n e c
  |some (.struct fs)=>z8U (HasTy P n) fs.toList cs
  |_=>False
theorem z6B{α β γ:Type}{f:α→γ}{g:β→γ}{W:β→Prop}:∀{l:List α},(∀a∈l,∃b,f a=g b∧W b)→∃r:List β,l.map f=r.map g∧r.length=l.length∧∀b∈r,W b
 |[],_=>⟨[],rfl,rfl,by simp⟩
 |a::l,h=>by
  obtain⟨b,h1,h2⟩:=h a (by simp);obtain⟨r,h3,h4,h5⟩:=z6B (l:=l) fun a ha=>h a (by simp[ha]);exact⟨b::r,by simp[h1,h3],by simp[h4],fun x hx=>by
   rcases List.mem_cons.1 hx with rfl|hx
   ·exact h2
   ·exact h5 x hx⟩
theorem HasTy.bool{P:Program}{n:Nat}{t:TypeId}{cs:List D}(h:HasTy P n t cs)(ht:P.underlying t=some .bool):∃b,cs=[.bool b]:=by
 cases n with
 |zero=>exact h.elim
 |succ n=>simp only[HasTy,ht]at h;exact h
theorem HasTy.int{P:Program}{n:Nat}{t:TypeId}{cs:List D}{k:IntKind}(h:HasTy P n t cs)(ht:P.underlying t=some (.int k)):∃i,cs=[.int k i]∧k.min≤i∧i≤k.max:=by
 cases n with
 |zero=>exact h.elim
 |succ n=>simp only[HasTy,ht]at h;exact h
theorem HasTy.str{P:Program}{n:Nat}{t:TypeId}{cs:List D}(h:HasTy P n t cs)(ht:P.underlying t=some .string):∃s,cs=[.str s]∧s.length≤9223372036854775807:=by
 cases n with
 |zero=>exact h.elim
 |succ n=>simp only[HasTy,ht]at h;exact h
theorem HasTy.sl{P:Program}{n:Nat}{t e:TypeId}{cs:List D}(h:HasTy P n t cs)(ht:P.underlying t=some (.slice e)):
  ∃m,m<n∧∃css:List (List D),cs=[.sl (css.map (mkD P e))]∧css.length≤9223372036854775807∧∀c∈css,HasTy P m e c:=by
 cases n with
 |zero=>exact h.elim
 |succ n=>simp only[HasTy,ht]at h;exact⟨n,Nat.lt_succ_self n,h⟩
theorem HasTy.struct{P:Program}{n:Nat}{t:TypeId}{cs:List D}{fs:Array Field}(h:HasTy P n t cs)(ht:P.underlying t=some (.struct fs)):
  ∃m,m<n∧z8U (HasTy P m) fs.toList cs:=by
 cases n with
 |zero=>exact h.elim
 |succ n=>simp only[HasTy,ht]at h;exact⟨n,Nat.lt_succ_self n,h⟩
abbrev InK(k:IntKind)(n:Int):Prop:=k.min≤n∧n≤k.max
theorem z9I{P:Program}{t:TypeId}{c:D}(h:jQ P t=false):mkD P t [c]=c:=by unfold mkD;rw[h]
theorem y0b{P:Program}{t:TypeId}{cs:List D}(h:jQ P t=true):mkD P t cs=.agg cs:=by unfold mkD;rw[h]
theorem HasTy.dStr{P:Program}{n:Nat}{t:TypeId}{cs:List D}(h:HasTy P n t cs)(ht:P.underlying t=some .string)(ha:jQ P t=false):∃s,mkD P t cs=.str s∧s.length≤9223372036854775807:=by
 obtain⟨s,rfl,w⟩:=h.str ht;exact⟨s,z9I ha,w⟩
theorem HasTy.dSl {P:Program} {n:Nat} {t e:TypeId} {cs:List D} {α:Type} {g:α→D} {W:α→Prop} (h:HasTy P n t cs) (ht:P.underlying t=some (.slice e)) (ha:jQ P t=false)
  (he:∀m c,m<n→HasTy P m e c→∃x,mkD P e c=g x∧W x):∃l:List α,mkD P t cs=eS g l∧l.length≤9223372036854775807∧∀x∈l,W x:=by
 obtain⟨m,hm,css,rfl,hl,hall⟩:=h.sl ht;have:∀c∈css,∃x,mkD P e c=g x∧W x:=fun c hc=>he m c hm (hall c hc);obtain⟨l,h1,h2,h3⟩:=z6B this;exact⟨l,by rw[z9I ha,h1],by omega,h3⟩
def z8H(P:Program):Nat→List Field→Bool
 |_,[]=>true
 |i,f::fs=>Nat.beq f.offset i && z8H P (i+P.cellsOf f.type) fs
def y0q(P:Program):List Field→Nat
 |[]=>0
 |f::fs=>P.cellsOf f.type+y0q P fs
def z1o(P:Program)(l:List TypeId):Bool:=
 l.all fun t=>match P.underlying t with
  |some .bool=>Nat.beq (P.cellsOf t) 1 && !jQ P t
  |some (.int _)=>Nat.beq (P.cellsOf t) 1 && !jQ P t
  |some .string=>Nat.beq (P.cellsOf t) 1 && !jQ P t
  |some (.slice e)=>has l e && Nat.blt 0 (P.cellsOf e) && Nat.beq (P.cellsOf t) 1 && !jQ P t
  |some (.struct fs)=>fs.toList.all (fun f=>has l f.type) && z8H P 0 fs.toList && Nat.beq (P.cellsOf t) (y0q P fs.toList) && jQ P t
  |_=>false
theorem z9U{l:List Nat}{i:Nat}(h:has l i=true):i∈l:=by
 induction l with
 |nil=>cases h
 |cons j r ih=>
  simp only[has,Bool.or_eq_true]at h;rcases h with h|h
  ·rw[uA h];simp
  ·exact List.mem_cons_of_mem _ (ih h)
theorem z2x{P:Program}{l:List TypeId}(h:z1o P l=true){t:TypeId}(ht:has l t=true):(match P.underlying t with
  |some .bool=>Nat.beq (P.cellsOf t) 1 && !jQ P t
  |some (.int _)=>Nat.beq (P.cellsOf t) 1 && !jQ P t
  |some .string=>Nat.beq (P.cellsOf t) 1 && !jQ P t
  |some (.slice e)=>has l e && Nat.blt 0 (P.cellsOf e) && Nat.beq (P.cellsOf t) 1 && !jQ P t
  |some (.struct fs)=>fs.toList.all (fun f=>has l f.type) && z8H P 0 fs.toList && Nat.beq (P.cellsOf t) (y0q P fs.toList) && jQ P t
  |_=>false)=true:=List.all_eq_true.1 h t (z9U ht)
theorem y0R(b o:Nat):¬Mut noM noK b o:=y0Q b o
section
variable {H:Type} {enc:TypeId×Value→H} {P:Program} {w:World} {held:Bool}
theorem RelVs.append:∀{vs us:List Value} {cs ds:List D},RelVs w (Mut noM noK) vs cs→RelVs w (Mut noM noK) us ds→RelVs w (Mut noM noK) (vs++us) (cs++ds)
 |_,_,_,_,.nil,g=>g
 |_,_,_,_,.cons v c vs cs hs h r,g=>.cons v c _ _ hs h (RelVs.append r g)
theorem z3K{n:Nat}{l:List TypeId}(ih:∀t vs x,has l t=true→DataW.trod enc P w 0 (fun _=>true) held n t vs=some x→∃cs,HasTy P n t cs∧RelVs w (Mut noM noK) vs cs∧cs.length=P.cellsOf t∧vL cs≤jA x.1):
  ∀(fs:List Field) (i:Nat) (vs:List Value) (ys:List (DataW H×List MemPlace)),ys.length=fs.length→fs.all (fun f=>has l f.type)=true→z8H P i fs=true→vs.length=i+y0q P fs →
   (∀(j:Nat) f,fs[j]?=some f→DataW.trod enc P w 0 (fun _=>true) held n f.type ((vs.drop f.offset).take (P.cellsOf f.type))=ys[j]?)→∃cs,z8U (HasTy P n) fs cs∧RelVs w (Mut noM noK) (vs.drop i) cs∧vL cs≤uT (ys.map (·.1))
 |[],i,vs,ys,_,_,_,hl,_=>⟨[],rfl,by
   have:vs.drop i=[]:=List.drop_eq_nil_of_le (by simp[y0q]at hl;omega);rw[this];exact .nil,by simp[vL]⟩
 |f::fs,i,vs,[],hy,_,_,_,_=>by simp at hy
 |f::fs,i,vs,y::ys,hy,ha,ht,hl,hx=>by
  simp only[List.all_cons,Bool.and_eq_true]at ha;simp only[z8H,Bool.and_eq_true]at ht;have hoff:=uA ht.1;simp only[y0q]at hl;have hx1:=hx 0 f rfl;obtain⟨c,h1,h2,h3,hb⟩:=ih _ _ _ ha.1 hx1;obtain⟨r,h4,h5,hb2⟩:=z3K ih fs (i+P.cellsOf f.type) vs ys (by simpa using hy) ha.2 ht.2 (by omega) fun j g hg=>hx (j+1) g (by simpa using hg);refine⟨c++r,⟨c,r,rfl,h1,h4⟩,?_,by rw[jJ,List.map_cons,uT];omega⟩;have hsplit:vs.drop i=(vs.drop f.offset).take (P.cellsOf f.type)++vs.drop (i+P.cellsOf f.type):=by
   rw[hoff,←List.drop_drop,List.take_append_drop]
  rw[hsplit];exact h2.append h5
theorem z8c{t:TypeId}{cs:List D}(hs:∀c∈cs,c.sc=true)(h:jQ P t=false→cs.length=1):(mkD P t cs).cells=cs:=by
 unfold mkD;cases ha:jQ P t with
 |true=>rfl
 |false=>
  have:=h ha
  match cs,this with
  |[c],_=>
   have:=hs c (by simp);cases c<;>first|rfl|simp[D.sc]at this
theorem RelVs.scs{M:Nat→Nat→Prop}:∀{vs:List Value} {cs:List D},RelVs w M vs cs→∀c∈cs,c.sc=true
 |_,_,.nil=>by simp
 |_,_,.cons v c vs cs hs h r=>fun x hx=>by
  rcases List.mem_cons.1 hx with rfl|hx
  ·exact hs
  ·exact RelVs.scs r x hx
theorem z7d{k:IntKind}{n:Int}(h:(Lit.int k n).wf=true):k.min≤n∧n≤k.max:=by simpa [Lit.wf]using h
theorem z6H{l:List TypeId}(hc:z1o P l=true){t:TypeId}(ht:has l t=true)(ha:jQ P t=false):P.cellsOf t=1:=by
 have:=z2x hc ht;split at this
 ·exact uA ((Bool.and_eq_true _ _).mp this).1
 ·exact uA ((Bool.and_eq_true _ _).mp this).1
 ·exact uA ((Bool.and_eq_true _ _).mp this).1
 ·simp only[Bool.and_eq_true]at this;exact uA this.1.2
 ·simp only[Bool.and_eq_true,ha]at this;exact absurd this.2 (by simp)
 ·cases this
theorem z6r{α:Type}{n:Nat}:∀(css:List α) (g:α→D) (k:α→List D),(∀c∈css,(g c).cells=k c)→yN (css.map g)=css.flatMap k
 |[],_,_,_=>rfl
 |c::r,g,k,h=>by
  rw[List.map_cons,yN,h c (by simp),List.flatMap_cons,z6r (n:=n) r g k fun x hx=>h x (by simp[hx])]
theorem z2w{α:Type}{p:Nat→α→Prop}:∀{n:Nat},(∀i,i<n→∃x,p i x)→∃l:List α,l.length=n∧∀i x,l[i]?=some x→p i x
 |0,_=>⟨[],rfl,by simp⟩
 |n+1,h=>by
  obtain⟨l,h1,h2⟩:=z2w (n:=n) fun i hi=>h i (by omega);obtain⟨x,hx⟩:=h n (by omega);refine⟨l++[x],by simp[h1],fun i y hy=>?_⟩;rw[List.getElem?_append]at hy;split at hy
  ·exact h2 i y hy
  ·have:i=n:=by
    have:=(List.getElem?_eq_some_iff.1 hy).1;simp at this;omega
   subst this;rw[h1]at hy;simp at hy;subst hy;exact hx
theorem z3g{b:Nat}:∀(css:List (List D)) (o:Nat) (m:Nat),(∀i c,css[i]?=some c→c.length=m∧RelC w (Mut noM noK) b (o+i*m) c)→RelC w (Mut noM noK) b o css.flatten
 |[],o,m,_=>.nil _ _
 |c::r,o,m,h=>by
  obtain⟨h1,h2⟩:=h 0 c rfl;rw[List.flatten_cons];refine RelC.append (by simpa using h2) ?_;rw[h1];refine z3g r (o+m) m fun i d hd=>?_;obtain⟨h3,h4⟩:=h (i+1) d (by simpa using hd);refine⟨h3,?_⟩;rw[show o+m+i*m=o+(i+1)*m by rw[Nat.add_mul];omega];exact h4
theorem z4I{l:List TypeId}(hc:z1o P l=true):∀(n:Nat) (t:TypeId) (vs:List Value) (x:DataW H×List MemPlace),has l t=true→DataW.trod enc P w 0 (fun _=>true) held n t vs=some x →
  ∃cs,HasTy P n t cs∧RelVs w (Mut noM noK) vs cs∧cs.length=P.cellsOf t∧vL cs≤jA x.1
 |0,t,vs,x,_,h=>by simp[DataW.trod]at h
 |n+1,t,vs,x,ht,h=>by
  have hcl:=z2x hc ht;split at hcl
  ·rename_i hu
   obtain⟨b,rfl,rfl⟩:=DataW.trod_bool hu h;simp only[Bool.and_eq_true]at hcl;exact⟨[.bool b],by simp only[HasTy,hu];exact⟨b,rfl⟩,.cons _ _ _ _ rfl (.bool b) .nil,(uA hcl.1).symm,by simp[vL,D.bulk,jA]⟩
  ·rename_i k hu
   obtain⟨i,rfl,rfl,hw⟩:=DataW.trod_int hu h;simp only[Bool.and_eq_true]at hcl;exact⟨[.int k i],by simp only[HasTy,hu];exact⟨i,rfl,z7d hw⟩,.cons _ _ _ _ rfl (.int k i) .nil,(uA hcl.1).symm,by simp[vL,D.bulk,jA]⟩
  ·rename_i hu
   obtain⟨s,rfl,rfl,hw⟩:=DataW.trod_string hu h;simp only[Bool.and_eq_true]at hcl;refine⟨[.str s.data.toList],by simp only[HasTy,hu];exact⟨_,rfl,by have:maxLen=9223372036854775807:=rfl;rw[this]at hw;exact hw⟩,.cons _ _ _ _ rfl ?_ .nil,(uA hcl.1).symm,by simp[vL,D.bulk,jA]⟩;have:=RelV.str (w:=w) (M:=Mut noM noK) s.data.toList;simpa using this
  ·rename_i e hu
   simp only[Bool.and_eq_true]at hcl;obtain⟨⟨⟨he,hpos⟩,h1⟩,hna⟩:=hcl;have hpos:=z4B hpos;rcases DataW.trod_slice hu h with⟨rfl,rfl⟩|⟨a,len,cap,elems,rest,k,hk,rfl,rfl,-,hl,hm,hlen,hel,hsp,-⟩
   ·exact⟨[.sl []],by simp only[HasTy,hu];exact⟨[],rfl,by simp,by simp⟩,.cons _ _ _ _ rfl .nil .nil,(uA h1).symm,by simp[vL,D.bulk,jA]⟩
   ·injection hk with hk;subst hk;have hone:∀i,i<len→∃c:List D,∃us,w.cells? 0 (a.add (i*P.cellsOf e)) (P.cellsOf e)=some us∧HasTy P n e c∧RelVs w (Mut noM noK) us c∧c.length=P.cellsOf e∧∀y,elems[i]?=some y→vL c≤jA y.1:=fun i hi=>by
     have hi':i<elems.length:=by omega
     have:=hel i hi;rw[List.getElem?_eq_getElem hi']at this;obtain⟨us,g1,g2⟩:=Option.bind_eq_some_iff.1 this;obtain⟨c,g3,g4,g5,g6⟩:=z4I hc n e us _ he g2;exact⟨c,us,g1,g3,g4,g5,fun y hy=>by rw[List.getElem?_eq_getElem hi']at hy;injection hy with hy;rw[←hy];exact g6⟩
    obtain⟨css,q1,q2⟩:=z2w hone;have hty:∀c∈css,HasTy P n e c:=fun c hc'=>by
     obtain⟨i,hi,hfi⟩:=List.getElem_of_mem hc';obtain⟨us,-,g,-⟩:=q2 i c (by rw[List.getElem?_eq_getElem hi,hfi]);exact g
    have hT:HasTy P (n+1) t [.sl (css.map (mkD P e))]:=by
     simp only[HasTy,hu];exact⟨css,rfl,by have:maxLen=9223372036854775807:=rfl;rw[this]at hm;omega,hty⟩
    have hbk:vL [.sl (css.map (mkD P e))]≤jA (DataW.slice (elems.map (·.1)) (rest.map (·.1))):=by
     have:=z3H (ys:=elems.map (·.1)) (css:=css) (by simp[q1,hlen]) fun i c y hc hy=>by
      obtain⟨us,-,-,-,-,g⟩:=q2 i c hc;rw[List.getElem?_map]at hy;cases hz:elems[i]? with
      |none=>rw[hz]at hy;cases hy
      |some z=>rw[hz]at hy;injection hy with hy;rw[←hy];exact g z hz
     simp only[vL,D.bulk,jA,z4V];omega
    refine⟨_,hT,.cons _ _ _ _ rfl ?_ .nil,(uA h1).symm,hbk⟩;by_cases h0:cap=0
    ·subst h0;have hl0:len=0:=by omega
     subst hl0;have:css=[]:=List.length_eq_zero_iff.1 q1;subst this;exact .emp a
    ·have hcell:∃u,w.cell? a=some u:=by
      by_cases hl0:0<len
      ·obtain⟨c,us,g1,-,-,g5,-⟩:=hone 0 hl0;obtain⟨-,g6,g7⟩:=World.cells?_some g1;have:=g7 0 hpos;rw[Nat.zero_mul]at this;rw[List.getElem?_eq_getElem (by omega)]at this;exact⟨_,by simpa [Addr.add]using this⟩
      ·obtain⟨r1,r2⟩:=hsp rfl;have hr:0<rest.length:=by omega
       have:=r2 0 (by omega);rw[List.getElem?_eq_getElem hr]at this;obtain⟨us,g1,-⟩:=Option.bind_eq_some_iff.1 this;obtain⟨-,g6,g7⟩:=World.cells?_some g1;have:=g7 0 hpos;have hl0:len=0:=by omega
       subst hl0;rw[show(0+0)*P.cellsOf e=0 by simp]at this;rw[List.getElem?_eq_getElem (by omega)]at this;exact⟨_,by simpa [Addr.add]using this⟩
     obtain⟨b,o,sp⟩:=a;have hspot:sp=none:=by
      obtain⟨u,hu'⟩:=hcell;cases sp with
      |none=>rfl
      |some s=>
       unfold World.cell? at hu';split at hu'<;>simp at hu'
     subst hspot;have hcells:∀c∈css,(mkD P e c).cells=c:=fun c hc'=>by
      obtain⟨i,hi,hfi⟩:=List.getElem_of_mem hc';obtain⟨us,-,-,g,g5,-⟩:=q2 i c (by rw[List.getElem?_eq_getElem hi,hfi]);exact z8c g.scs fun ha=>by rw[g5];exact z6H hc he ha
     have hflat:yN (css.map (mkD P e))=css.flatten:=by
      rw[z6r (n:=0) css (mkD P e) id hcells];simp[List.flatMap_id]
     have hrel:RelC w (Mut noM noK) b o (yN (css.map (mkD P e))):=by
      rw[hflat];refine z3g css o (P.cellsOf e) fun i c hi=>?_;obtain⟨us,g1,-,g4,g5,-⟩:=q2 i c hi;obtain⟨-,g6,g7⟩:=World.cells?_some g1;refine⟨g5,RelC.mk _ fun j d hj=>?_⟩;obtain⟨v,y1,y2,y3⟩:=g4.get j d hj;have hj':j<P.cellsOf e:=by rw[←g5];exact(List.getElem?_eq_some_iff.1 hj).1
      have:=g7 j hj';rw[y1]at this;have hadd:((⟨b,o,none⟩:Addr).add (i*P.cellsOf e)).add j=⟨b,o+i*P.cellsOf e+j,none⟩:=by
       rw[Addr.add_mid,Addr.add_mid]
      rw[hadd]at this;exact⟨v,this,y0R _ _,y2,y3⟩
     have:=RelV.sl (w:=w) (M:=Mut noM noK) b o cap (css.map (mkD P e)) hrel (by simp;omega);simpa [q1]using this
  ·rename_i fs hu
   simp only[Bool.and_eq_true]at hcl;obtain⟨⟨⟨hall,htile⟩,hsum⟩,hagg⟩:=hcl;obtain⟨xs,k,hk,rfl,hlen,hxl,hf⟩:=DataW.trod_struct hu h;injection hk with hk;subst hk;obtain⟨cs,h1,h2,h3⟩:=z3K (l:=l) (fun t vs x ht hx=>z4I hc n t vs x ht hx) fs.toList 0 vs xs (by simpa using hxl) hall htile (by rw[hlen,uA hsum];omega) (fun j f hf'=>hf j f (by rw[←Array.getElem?_toList];exact hf'));refine⟨cs,by simp only[HasTy,hu];exact h1,by simpa using h2,?_,by simp only[jA];omega⟩;have:=h2.length;simp at this;omega
  ·cases hcl
def z1A(P:Program):List TypeId→List D→Prop
 |[],[]=>True
 |t::ts,x::xs=>(∃n c,HasTy P n t c∧x=mkD P t c)∧z1A P ts xs
 |_,_=>False
theorem z4Q{t:TypeId}{ts:List TypeId}{xs:List D}(h:z1A P (t::ts) xs):∃x r,xs=x::r∧(∃n c,HasTy P n t c∧x=mkD P t c)∧z1A P ts r:=by
 cases xs with
 |nil=>exact h.elim
 |cons x r=>exact⟨x,r,rfl,h.1,h.2⟩
theorem z8X{xs:List D}(h:z1A P [] xs):xs=[]:=by
 cases xs with
 |nil=>rfl
 |cons x r=>exact h.elim
theorem z9N{l:List TypeId}(hc:z1o P l=true){t:TypeId}{v:Value}{base:Nat}(ht:has l t=true)(hval:Value.okWide P w .any base t v){c:List D}(h:RelVs w (Mut noM noK) v.cells.toList c)(hlen:c.length=P.cellsOf t):
  RelV w (Mut noM noK) v (mkD P t c):=by
 have hcl:=z2x hc ht;have one:jQ P t=false→(∀cs,v≠.agg cs)→RelV w (Mut noM noK) v (mkD P t c):=fun ha hv=>by
  have h1:=z6H hc ht ha;have hvc:v.cells.toList=[v]:=by
   cases v<;>first|rfl|exact absurd rfl (hv _)
  rw[hvc]at h;unfold mkD;rw[ha];cases h with
  |cons _ c _ cs hs hr h2=>cases h2;exact hr
 split at hcl
 ·rename_i hu
  simp only[Bool.and_eq_true,Bool.not_eq_true']at hcl;refine one hcl.2 fun cs hv=>?_;subst hv;simp[Value.okWide,hu,Cell.okWide,Cell.ok]at hval
 ·rename_i hu
  simp only[Bool.and_eq_true,Bool.not_eq_true']at hcl;refine one hcl.2 fun cs hv=>?_;subst hv;simp[Value.okWide,hu,Cell.okWide,Cell.ok]at hval
 ·rename_i hu
  simp only[Bool.and_eq_true,Bool.not_eq_true']at hcl;refine one hcl.2 fun cs hv=>?_;subst hv;simp[Value.okWide,hu,Cell.okWide,Cell.ok]at hval
 ·rename_i e hu
  simp only[Bool.and_eq_true,Bool.not_eq_true']at hcl;refine one hcl.2 fun cs hv=>?_;subst hv;simp[Value.okWide,hu,Cell.okWide,Cell.ok]at hval
 ·rename_i fs hu
  simp only[Bool.and_eq_true]at hcl;simp only[Value.okWide,hu]at hval;obtain⟨cs,rfl,-,-⟩:=hval;unfold mkD;rw[hcl.2];have:=RelV.agg (w:=w) (M:=Mut noM noK) cs.toList c h;simpa using this
 ·cases hcl
theorem z6m{l:List TypeId}(hc:z1o P l=true){base:Nat}:∀{ts:List TypeId} {vs:List Value} {ds:List (DataW H)} {ps:List MemPlace},(∀t∈ts,has l t=true)→DataW.TrodAll enc P w 0 (fun _=>true) held ts vs ds ps →
  (∀(j:Nat) t v,ts[j]?=some t→vs[j]?=some v→Value.okWide P w .any base t v)→∃xs:List D,z1A P ts xs∧RelSs w (Mut noM noK) noK ⟨[],[],0⟩ vs (xs.map .d)∧ds.length=ts.length∧vs.length=ts.length∧vL xs≤uT ds
 |[],[],[],_,_,_,_=>⟨[],trivial,.nil,rfl,rfl,by simp[vL]⟩
 |t::ts,v::vs,d::ds,ps,hm,h,hval=>by
  obtain⟨p,q,⟨n,h1⟩,h2,-⟩:=h;obtain⟨xs,g1,g2,g3,g4,gb⟩:=z6m hc (ts:=ts) (fun t ht=>hm t (by simp[ht])) h2 fun j t v ht hv=>hval (j+1) t v (by simpa using ht) (by simpa using hv);obtain⟨c,g5,g6,g7,g8⟩:=z4I hc n t _ _ (hm t (by simp)) h1;exact⟨mkD P t c::xs,⟨⟨n,c,g5,rfl⟩,g1⟩,.cons _ _ _ _ (.d _ _ (z9N hc (hm t (by simp)) (hval 0 t v rfl rfl) g6 g7)) g2,by simp[g3],by simp[g4],by simp only[vL,uT,z6D]at g8 ⊢;omega⟩
 |[],_::_,_,_,_,h,_=>by cases h
 |[],[],_::_,_,_,h,_=>by cases h
 |_::_,[],_,_,_,h,_=>by cases h
 |_::_,_::_,[],_,_,h,_=>by cases h
theorem z4R(hl:laidOutB P=true){W W':World}(hb:Below W.heap.size W W'):∀{ts:List TypeId} {vs:List Value} {ds:List (DataW H)} {ps:List MemPlace},(∀t∈ts,P.readableRec t=true∧t<P.types.size) →
  DataW.TrodAll enc P W 0 (fun _=>true) true ts vs ds ps→DataW.TrodAll enc P W' 0 (fun b=>decide (b<W.heap.size)) true ts vs ds ps
 |[],[],[],_,_,h=>h
 |t::ts,v::vs,d::ds,ps,hm,h=>by
  obtain⟨p,q,h1,h2,h3⟩:=h;obtain⟨n,hn⟩:=h1;refine⟨p,q,Below.trod hl (hm t (by simp)).1 (hm t (by simp)).2 ⟨n,hn⟩ hb (fun x hx=>DataW.trod_lt n _ _ _ hn x hx),z4R hl hb (fun t ht=>hm t (by simp[ht])) h2,h3⟩
 |[],_::_,_,_,_,h=>by cases h
 |[],[],_::_,_,_,h=>by cases h
 |_::_,[],_,_,_,h=>by cases h
 |_::_,_::_,[],_,_,h=>by cases h
end
theorem z2P {H:Type} {enc:TypeId×Value→H} {C:Checked} {os:Os} {f:FuncId} {fn:Func} {s:OpenSpec} {kk:(H:Type)→List (DataW H)→Bool} {F:Stop.Interp} {conds:List PathCond} {bt:TypeId} {n:Nat} (hk:s.cond=some kk)
  (hkn:∀ds:List (DataW H),kk H ds=true→uT ds≤n) (l:List TypeId) (hc:z1o C.prog l=true)
  (own:ownKnob C.prog.godebug=none) (started:os.Started) (noInit:C.prog.inits.idxOf? f=none) (hfn:C.prog.funcs[f]?=some fn)
  (witness:∃(w:World) (tape:Tape) (i:Input),w.os=os∧(w.forCall tape i).Shaped C.prog∧i.vars=[]∧Input.okWide C.prog (w.forCall tape i) .any w.heap.size f i ∧
   s.pre6 enc C.prog fn conds false (w.forCall tape i).memory i.args∧({}:Assume).holds C.prog (lone (Frame.enter C.prog f i.args .normal) [] (w.forCall tape i)))
  (hps:fn.params.toList.all (fun t=>has l t && C.prog.readableRec t && decide (t<C.prog.types.size))=true) (hlaid:laidOutB C.prog=true) (hres:fn.resultTypes=#[bt]) (hbt:C.prog.underlying bt=some .bool) (hvars:s.vars=[]) (hvars':(s.at F).vars=[])
  (hs:∀ds:List (DataW H),ds.length=fn.params.size→((s.at F).fn H ds).results=[.lit (.bool true)]∧((s.at F).fn H ds).args=ds∧((s.at F).fn H ds).vars=[])
  (main:∀xs,z1A C.prog fn.params.toList xs→vL xs≤n→∃h',Trip C.prog f (xs.map .d) [] [.d (.bool true)] h'):
  ReturnsInHanded {} C os f .any (s.pre6 enc C.prog fn conds false) ((s.at F).post enc C.prog fn false true false false):=by
 refine returnsInHanded_of_cond_sized hk own started noInit hfn witness ?_;intro W base args ds gs before hval hW _ hkk _ _;have hp:=List.all_eq_true.1 hps;have hp1:∀t∈fn.params.toList,has l t=true:=fun t ht=>by have:=hp t ht;simp only[Bool.and_eq_true]at this;exact this.1.1
 have hp2:∀t∈fn.params.toList,C.prog.readableRec t=true∧t<C.prog.types.size:=fun t ht=>by
  have:=hp t ht;simp only[Bool.and_eq_true,decide_eq_true_eq]at this;exact⟨this.1.2,this.2⟩
 have hW':=hW;obtain⟨p,q,hA,hV,rfl,hfz,hnd⟩:=hW;obtain⟨xs,h1,h2,h3,h4,h5⟩:=z6m hc hp1 hA fun j t v ht hv=>hval j t v (by simpa using ht) (by simpa using hv);have hgs:gs=[]∧q=[]:=by
  rw[hvars]at hV;cases gs with
  |nil=>exact⟨rfl,hV⟩
  |cons g gs=>cases hV
 obtain⟨rfl,rfl⟩:=hgs;obtain⟨h',hT⟩:=main xs h1 (Nat.le_trans h5 (hkn ds (by simpa using hkk)));have hcall:=hT.callsB W args.toList (by simpa using h2);have hcall':Calls C.prog f args W fun e W'=>e=.returned (.bool true)∧Below W.heap.size W W':=hcall;refine hcall'.mono fun e W' ⟨he,bel⟩=>?_;subst he;obtain⟨e1,e2,e3⟩:=hs ds (by simpa using h3);refine⟨_,rfl,ds,[],p++[],[],p,[],(by rw[hvars'];rw[hvars]at hW';exact hW'),?_,?_,?_,bel.frame _,fun h=>by cases h⟩
 ·rw[List.append_nil,e1,hres];exact⟨[],[],⟨1,by simp[DataW.trod,hbt,Value.resultList,Value.cells]⟩,rfl,rfl⟩
 ·rw[List.append_nil,e2];exact z4R hlaid bel hp2 hA
 ·rw[List.append_nil,e3,hvars'];rfl
end Nt

