import Derived.Test.YtcpblelppecabaaFwU
namespace Nt
open Go
set_option linter.unusedVariables false
set_option linter.unusedSimpArgs false
def Wi(dst:Option Nat)(K:List Nat)(b:Bool)(p:wG):Prop:=
 (∀x∈p.puts,dst=some x.1)∧(∀x∈p.ars,x.1∈K)∧(p.h.isSome=true→b=true)
theorem Wi.weaken{dst:Option Nat}{K K':List Nat}{b b':Bool}{p:wG}(h:Wi dst K b p)(hK:∀x∈K,x∈K')(hb:b=true→b'=true):Wi dst K' b' p:=
 ⟨h.1,fun x hx=>hK _ (h.2.1 x hx),fun e=>hb (h.2.2 e)⟩
theorem At.weaken{α:Type}{W W':α→Prop}{F:(α→Prop)→Prop}(h:At W F)(hw:∀y,W y→W' y):At W' F:=
 ⟨h.mono,fun hk=>let ⟨y,a,b,c⟩:=h.ex hk;⟨y,a,hw y b,c⟩⟩
section
variable {P:Program} {s:St}
theorem wM{dst:Option Nat}{v:Sv}{K:List Nat}{b:Bool}:At (Wi dst K b) (z4G s dst v):=by
 cases dst with
 |none=>exact At.ret ⟨by simp,by simp,by simp⟩
 |some d=>exact At.kIf (At.ret ⟨by simp[z6L],by simp[z6L],by simp[z6L]⟩)
theorem uU{dst:Option Nat}{ob:Ob}{v:Nat→Nat→Sv}{K:List Nat}{b:Bool}(hK:∀d,dst=some d→d∈K):At (Wi dst K b) (newAr s dst ob v):=by
 cases dst with
 |none=>exact At.bot
 |some d=>exact At.kIf (At.ret ⟨by simp,by simpa using hK d rfl,by simp⟩)
theorem v1W{dst:Option Nat}{r g:Nat}{ob:Ob}{v:Sv}{K:List Nat}{b:Bool}(hK:r∈K):At (Wi dst K b) (v1f s dst r g ob v):=by
 cases dst with
 |none=>exact At.bot
 |some d=>exact At.kIf (At.ret ⟨by simp,by simpa using hK,by simp⟩)
theorem y3G{dst:Option Nat}{cs:List Sv}{K:List Nat}:At (Wi dst K true) (newHp s dst cs):=by
 cases dst with
 |none=>exact At.bot
 |some d=>exact At.kIf (At.ret ⟨by simp,by simp,by simp⟩)
def hpS:Sv→Bool
 |.hp _ _=>true
 |.lent _ _ _ _ _=>true
 |_=>false
theorem v0z{t:TypeId}{a v:Sv}{K:List Nat}{b:Bool}(ha:∀k∈uF a,k∈K)(hv:∀k∈uF v,k∈K)(hb:hpS a=true→b=true):At (Wi none K b) (z6I P t s a v):=by
 refine At.kOpt fun n=>?_;cases a with
 |ref r g off=>
  have hp:∀o,Wi none K b (y2j r g o):=fun o=>⟨by simp[y2j],by simpa [y2j]using ha r (by simp[uF]),by simp[y2j]⟩;refine At.kOpt fun ob=>?_;cases ob with
  |agg x=>
   refine At.cond ?_ (At.kIf (At.kIf (At.kKeep fun w=>At.kData fun y=>At.ret (hp _))));cases v with
   |cells ws=>exact At.kCs fun cs=>At.kIf (At.ret (hp _))
   |_=>exact At.kCs fun cs=>At.kIf (At.kD fun y=>At.kCs fun ds=>At.kIf (At.ret (hp _)))
  |box cs=>exact At.cond At.bot (At.kIf (At.kIf (At.kKeep fun w=>At.ret (hp _))))
  |_=>exact At.bot
 |rref r g m i off=>
  have hp:∀o,Wi none K b (y2j r g o):=fun o=>⟨by simp[y2j],by simpa [y2j]using ha r (by simp[uF]),by simp[y2j]⟩;refine At.kOpt fun ob=>?_;cases ob with
  |row n' xs=>exact At.kIf (At.kIf (At.kIf (At.and (At.cond (At.kD fun y=>At.kWhole (At.nam fun _=>At.ret (hp _))) (At.kIf (At.kKeep fun w=>At.kData fun y=>At.nam fun _=>At.ret (hp _)))))))
  |_=>exact At.bot
 |hp id off=>
  have hb:=hb rfl;subst hb;refine At.kOpt fun cs=>At.cond (At.kIf (At.kBld fun ws=>At.ret ⟨by simp,by simp,by simp⟩)) (At.kIf (At.kIf ?_));cases v with
  |right r g m xs=>
   refine At.kOpt fun ob=>?_;cases ob with
   |tok m' l=>exact At.kIf (At.and (At.ret ⟨by simp,by simpa using hv r (by simp[uF]),by simp⟩))
   |_=>exact At.bot
  |_=>exact At.kKeep fun w=>At.ret ⟨by simp,by simp,by simp⟩
 |_=>exact At.bot
theorem v0y{t:TypeId}{dst:Option Nat}{v:Sv}{lo hi mx:Option Sv}{K:List Nat}{b:Bool}(hv:∀k∈uF v,k∈K)(hK:∀d,dst=some d→d∈K):At (Wi dst K b) (z9u P t s dst v lo hi mx):=by
 unfold z9u;split
 ·cases mx with
  |none=>exact At.kD fun x=>At.kStr fun u=>At.kBound fun h=>At.and (At.kBound fun l=>At.and (At.nam fun _=>wM))
  |some _=>exact At.bot
 ·refine At.kOpt fun n=>At.kD fun x=>At.kSl fun xs=>At.and ?_;cases mx with
  |none=>exact At.kBound fun h=>At.and (At.kBound fun l=>At.and (At.nam fun _=>wM))
  |some m=>
   cases hi with
   |none=>exact At.bot
   |some h=>
    show At _ (fun k=>kBound (some m) 0 fun m=>m≤xs.length∧kBound (some h) xs.length fun h=>h=m∧kBound lo 0 fun l=>l≤h ∧
     nam ((xs.take h).drop l) fun ys=>newAr s dst (.tok n ys.length) (fun d g=>.right d g n ys) k)
    exact At.kBound fun m=>At.and (At.kBound fun h=>At.and (At.kBound fun l=>At.and (At.nam fun _=>uU hK)))
 ·refine At.kOpt fun n=>?_;split
  ·rename_i r g off
   refine At.kOpt fun ob=>?_;cases ob with
   |row n' xs=>
    refine At.kIf (At.kIf (At.and (At.kBound fun l=>At.and (At.nam fun ys=>?_))));exact At.map (V:=Wi dst [] false) wM fun p hp=>⟨hp.1,by simpa using hv r (by simp[uF]),by simp⟩
   |_=>exact At.bot
  ·exact At.bot
 ·exact At.bot
theorem y0S{dst:Option Nat}{rs:List Sv}{h:Option H}{K:List Nat}{b:Bool}(hK:∀d,dst=some d→d∈K)(hb:h.isSome=true→b=true):At (Wi dst K b) (z3W s dst rs h):=by
 unfold z3W;split
 ·exact At.map (V:=Wi dst K false) (uU hK) fun p hp=>⟨hp.1,hp.2.1,hb⟩
 ·exact At.map (V:=Wi dst K false) (uU hK) fun p hp=>⟨hp.1,hp.2.1,hb⟩
 ·exact At.kOpt fun q=>At.map (V:=Wi dst K false) (uU hK) fun p hp=>⟨hp.1,hp.2.1,hb⟩
 ·exact At.map (V:=Wi dst K false) wM fun p hp=>⟨hp.1,hp.2.1,hb⟩
 ·exact At.map (V:=Wi dst K false) wM fun p hp=>⟨hp.1,hp.2.1,hb⟩
theorem v1V{c:Cx}{dst:Option Nat}{f:FuncId}{vs:List Sv}{K:List Nat}{b:Bool}(hK:∀d,dst=some d→d∈K)(hb:c.pur f=false→b=true):At (Wi dst K b) (y2H c s dst f vs):=by
 refine At.kArgs fun ys=>?_;cases hp:c.pur f with
 |true=>exact At.kIf (At.exR fun rs=>At.kIf (At.and (y0S hK (by simp))))
 |false=>exact At.exR fun rs=>At.cond (At.and (y0S hK (fun _=>hb hp))) (At.exH fun h'=>At.and (y0S hK (fun _=>hb hp)))
theorem y7v{c:Cx}{dst:Option Nat}{f:FuncId}{vs:List Sv}{K:List Nat}(hK:∀d,dst=some d→d∈K)(hp:c.pur f=false)(hr:c.ro f=true):At (fun p=>Wi dst K true p∧p.h=some s.h) (y2H c s dst f vs):=by
 refine At.kArgs fun ys=>?_;rw[hp,hr];refine At.exR fun rs=>At.and ?_;unfold z3W;split
 ·exact At.map (V:=Wi dst K false) (uU hK) fun p hp=>⟨⟨hp.1,hp.2.1,by simp⟩,rfl⟩
 ·exact At.map (V:=Wi dst K false) (uU hK) fun p hp=>⟨⟨hp.1,hp.2.1,by simp⟩,rfl⟩
 ·exact At.kOpt fun q=>At.map (V:=Wi dst K false) (uU hK) fun p hp=>⟨⟨hp.1,hp.2.1,by simp⟩,rfl⟩
 ·exact At.map (V:=Wi dst K false) wM fun p hp=>⟨⟨hp.1,hp.2.1,by simp⟩,rfl⟩
 ·exact At.map (V:=Wi dst K false) wM fun p hp=>⟨⟨hp.1,hp.2.1,by simp⟩,rfl⟩
theorem y9n{t:TypeId}{rw:Bool}{dst:Option Nat}{v x:Sv}{K:List Nat}{b:Bool}(hK:∀d,dst=some d→d∈K)(hv:∀k∈uF v,k∈K)(hb:hpS v=true→b=true):At (Wi dst K b) (z7Q P t s rw dst v x):=by
 refine At.kOpt fun e=>At.kOpt fun n=>At.kOpt fun bb=>At.kOpt fun z=>At.kIf (At.kD fun y=>At.kSl fun ys=>At.and ?_);cases v with
 |nilS=>exact At.and (At.cond (At.and (uU hK)) (uU hK))
 |right r g n' xs=>
  refine At.kIf ?_;split
  ·exact At.kIf (At.and (At.and (At.nam fun _=>v1W (hv r (by simp[uF])))))
  ·exact At.bot
 |lent id off ver n' xs=>
  have hb:=hb rfl;subst hb;refine At.kIf (At.kIf (At.kOpt fun cs=>At.kOpt fun u=>?_));cases u with
  |own n'' xs'=>exact At.kIf (At.and (At.and (At.nam fun _=>At.map (V:=Wi dst K false) (uU hK) fun p hp=>⟨hp.1,hp.2.1,by simp⟩)))
  |_=>exact At.bot
 |_=>exact At.bot
def z3F(vs:List Sv):List Nat:=vs.flatMap uF
theorem y5p{β:Type}{W:β→Prop}:∀{vs:List Sv} {s:St} {F:List (Nat×Nat×Option Ob)→List Sv→(β→Prop)→Prop},
  (∀ps us,(∀x∈ps,x.1∈z3F vs)→(∀x∈z3F us,x∈z3F vs)→At W (F ps us))→At W (fun k=>y9V s vs fun ps us=>F ps us k)
 |[],s,F,h=>h [] [] (by simp) (fun _ h=>h)
 |v::r,s,F,h=>by
  by_cases hrow:∃a g,v=.row a g
  ·obtain⟨a,g,rfl⟩:=hrow;refine At.kOpt fun ob=>?_;cases ob with
   |row n xs=>
    refine y5p (F:=fun ps us=>F (ps++[(a,g,none)]) (.d (.sl xs)::us)) fun ps us h1 h2=>h _ _ (fun x hx=>?_) (fun x hx=>?_)
    ·rcases List.mem_append.1 hx with hx|hx
     ·exact List.mem_append_right _ (h1 x hx)
     ·simp at hx;subst hx;simp[z3F,uF]
    ·simp only[z3F,List.flatMap_cons,uF,List.nil_append]at hx;exact List.mem_append_right _ (h2 x hx)
   |_=>exact At.bot
  ·have:(fun k=>y9V s (v::r) fun ps us=>F ps us k)=fun k=>y9V s r fun ps us=>F ps (v::us) k:=by
    funext k;cases v with
    |row a g=>exact absurd ⟨a,g,rfl⟩ hrow
    |_=>rfl
   rw[this];refine y5p (F:=fun ps us=>F ps (v::us)) fun ps us h1 h2=>h _ _ (fun x hx=>List.mem_append_right _ (h1 x hx)) (fun x hx=>?_);simp only[z3F,List.flatMap_cons]at hx ⊢;rcases List.mem_append.1 hx with hx|hx
   ·exact List.mem_append_left _ hx
   ·exact List.mem_append_right _ (h2 x hx)
theorem y9o{t:TypeId}{a v:Sv}{K:List Nat}{b:Bool}(ha:∀k∈uF a,k∈K)(hv:∀k∈uF v,k∈K)(hb:hpS a=true→b=true):At (Wi none K b) (y1F P t s a v):=by
 have hvs:∀x∈z3F [v],x∈K:=fun x hx=>hv x (by simpa [z3F]using hx);refine y5p (W:=Wi none K b) (F:=fun ps us (k:wG→Prop)=>match us with|[y]=>z6I P t (s.app ⟨[],ps,none⟩) a y fun p=>k ⟨p.puts,p.ars++ps,p.h⟩|_=>False) fun ps us h1 h2=>?_;split
 ·rename_i y
  exact At.map (V:=Wi none K b) (v0z ha (fun k hk=>hvs k (h2 k (by simpa [z3F]using hk))) hb) fun p hp=>⟨hp.1,fun x hx=>by
   rcases List.mem_append.1 hx with hx|hx
   ·exact hp.2.1 x hx
   ·exact hvs _ (h1 x hx),hp.2.2⟩
 ·exact At.bot
theorem y5q{c:Cx}{dst:Option Nat}{f:FuncId}{first vs cap:List Sv}{K:List Nat}{b:Bool}(hK:∀d,dst=some d→d∈K)(hv:∀k∈z3F vs,k∈K)(hb:c.pur f=false→b=true):At (Wi dst K b) (y6x c s dst f first vs cap):=
 y5p (W:=Wi dst K b) (F:=fun ps us (k:wG→Prop)=>y2H c (s.app ⟨[],ps,none⟩) dst f (first++us++cap) fun p=>k ⟨p.puts,p.ars++ps,p.h⟩) fun ps us h1 h2=>
  At.map (V:=Wi dst K b) (v1V hK hb) fun p hp=>⟨hp.1,fun x hx=>by
   rcases List.mem_append.1 hx with hx|hx
   ·exact hp.2.1 x hx
   ·exact hv _ (h1 x hx),hp.2.2⟩
theorem y5r{c:Cx}{dst:Option Nat}{f:FuncId}{first vs cap:List Sv}{K:List Nat}(hK:∀d,dst=some d→d∈K)(hv:∀k∈z3F vs,k∈K)(hp:c.pur f=false)(hr:c.ro f=true):
  At (fun p=>Wi dst K true p∧p.h=some s.h) (y6x c s dst f first vs cap):=
 y5p (W:=fun p=>Wi dst K true p∧p.h=some s.h) (F:=fun ps us (k:wG→Prop)=>y2H c (s.app ⟨[],ps,none⟩) dst f (first++us++cap) fun p=>k ⟨p.puts,p.ars++ps,p.h⟩) fun ps us h1 h2=>
  At.map (V:=fun p=>Wi dst K true p∧p.h=some s.h) (y7v (s:=s.app ⟨[],ps,none⟩) hK hp hr) fun p hp=>⟨⟨hp.1.1,fun x hx=>by
   rcases List.mem_append.1 hx with hx|hx
   ·exact hp.1.2.1 x hx
   ·exact hv _ (h1 x hx),fun _=>rfl⟩,hp.2⟩
theorem y1H(v:Value):uF (z1V v)=[]∧hpS (z1V v)=false:=by
 unfold z1V;split
 ·exact⟨rfl,rfl⟩
 ·exact⟨rfl,rfl⟩
 ·split<;>exact⟨rfl,rfl⟩
theorem z4j{o:Oper}{x:Operand}(hx:x∈o.op.operands.toList){k:Nat}(hk:k∈uF (opv s x)):k∈(z2X o).flatMap (fun i=>uF (s.get i))++o.dst.toList:=by
 cases x with
 |tmp t=>
  refine List.mem_append_left _ (List.mem_flatMap.2 ⟨t,?_,hk⟩);exact List.mem_filterMap.2 ⟨_,hx,rfl⟩
 |const v=>simp[opv,(y1H v).1]at hk
 |func f=>simp[opv,uF]at hk
 |global g=>simp[opv,uF]at hk
theorem v0P{v:Sv}(h:hpS v=true):v1L v=true:=by cases v<;>first|rfl|simp[hpS]at h
theorem y4q{o:Oper}{x:Operand}(hx:x∈o.op.operands.toList)(h:hpS (opv s x)=true):(z2X o).any (fun i=>v1L (s.get i))=true:=by
 cases x with
 |tmp t=>exact List.any_eq_true.2 ⟨t,List.mem_filterMap.2 ⟨_,hx,rfl⟩,v0P h⟩
 |const v=>simp[opv,(y1H v).2]at h
 |func f=>simp[opv,hpS]at h
 |global g=>simp[opv,hpS]at h
def z8f(f:FP)(s:St)(p:wG):Prop:=(∀x∈p.puts,x.1∈f.ws)∧(∀x∈p.ars,x.1∈f.wa)∧(p.h.isSome=true→f.wh=true∨(f.wv=true∧p.h=some s.h))
theorem Wi.within{dst:Option Nat}{K:List Nat}{b:Bool}{p:wG}{f:FP}(h:Wi dst K b p)(h1:∀d,dst=some d→d∈f.ws)(h2:∀k∈K,k∈f.wa)(h3:b=true→f.wh=true):z8f f s p:=
 ⟨fun x hx=>h1 _ (h.1 x hx),fun x hx=>h2 _ (h.2.1 x hx),fun e=>.inl (h3 (h.2.2 e))⟩
theorem hasIff{l:List Nat}{i:Nat}:has l i=true↔i∈l:=by
 induction l with
 |nil=>simp[has]
 |cons j r ih=>
  simp only[has,Bool.or_eq_true,ih,List.mem_cons];constructor
  ·rintro(h|h)
   ·exact .inl (z1Z h).symm
   ·exact .inr h
  ·rintro(h|h)
   ·exact .inl (by subst h;exact Nat.beq_refl _)
   ·exact .inr h
end
end Nt

