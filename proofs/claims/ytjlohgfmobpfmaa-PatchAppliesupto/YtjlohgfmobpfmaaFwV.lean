import Derived.Test.YtjlohgfmobpfmaaFwU
namespace Nt
open Go
set_option linter.unusedVariables false
set_option linter.unusedSimpArgs false
def Wi(dst:Option Nat)(K:List Nat)(b:Bool)(p:zZ):Prop:=
 (∀x∈p.puts,dst=some x.1)∧(∀x∈p.ars,x.1∈K)∧(p.h.isSome=true→b=true)
theorem Wi.weaken{dst:Option Nat}{K K':List Nat}{b b':Bool}{p:zZ}(h:Wi dst K b p)(hK:∀x∈K,x∈K')(hb:b=true→b'=true):Wi dst K' b' p:=
 ⟨h.1,fun x hx=>hK _ (h.2.1 x hx),fun e=>hb (h.2.2 e)⟩
theorem At.weaken{α:Type}{W W':α→Prop}{F:(α→Prop)→Prop}(h:At W F)(hw:∀y,W y→W' y):At W' F:=
 ⟨h.mono,fun hk=>let ⟨y,a,b,c⟩:=h.ex hk;⟨y,a,hw y b,c⟩⟩
section
variable {P:Program} {s:St}
theorem yC{dst:Option Nat}{v:Sv}{K:List Nat}{b:Bool}:At (Wi dst K b) (jX s dst v):=by
 cases dst with
 |none=>exact At.ret ⟨by simp,by simp,by simp⟩
 |some d=>exact At.kIf (At.ret ⟨by simp[z0f],by simp[z0f],by simp[z0f]⟩)
theorem yO{dst:Option Nat}{ob:Ob}{v:Nat→Nat→Sv}{K:List Nat}{b:Bool}(hK:∀d,dst=some d→d∈K):At (Wi dst K b) (newAr s dst ob v):=by
 cases dst with
 |none=>exact At.bot
 |some d=>exact At.kIf (At.ret ⟨by simp,by simpa using hK d rfl,by simp⟩)
theorem z8Z{dst:Option Nat}{r g:Nat}{ob:Ob}{v:Sv}{K:List Nat}{b:Bool}(hK:r∈K):At (Wi dst K b) (z8d s dst r g ob v):=by
 cases dst with
 |none=>exact At.bot
 |some d=>exact At.kIf (At.ret ⟨by simp,by simpa using hK,by simp⟩)
theorem z4b{dst:Option Nat}{cs:List Sv}{K:List Nat}:At (Wi dst K true) (newHp s dst cs):=by
 cases dst with
 |none=>exact At.bot
 |some d=>exact At.kIf (At.ret ⟨by simp,by simp,by simp⟩)
def hpS:Sv→Bool
 |.hp _ _=>true
 |.lent _ _ _ _ _=>true
 |_=>false
theorem z7s{t:TypeId}{a v:Sv}{K:List Nat}{b:Bool}(ha:∀k∈yJ a,k∈K)(hv:∀k∈yJ v,k∈K)(hb:hpS a=true→b=true):At (Wi none K b) (z0a P t s a v):=by
 refine At.kOpt fun n=>?_;cases a with
 |ref r g off=>
  have hp:∀o,Wi none K b (z3t r g o):=fun o=>⟨by simp[z3t],by simpa [z3t]using ha r (by simp[yJ]),by simp[z3t]⟩;refine At.kOpt fun ob=>?_;cases ob with
  |agg x=>
   refine At.cond ?_ (At.kIf (At.kIf (At.kKeep fun w=>At.kData fun y=>At.ret (hp _))));cases v with
   |cells ws=>exact At.kCs fun cs=>At.kIf (At.ret (hp _))
   |_=>exact At.kCs fun cs=>At.kIf (At.kD fun y=>At.kCs fun ds=>At.kIf (At.ret (hp _)))
  |box cs=>exact At.cond At.bot (At.kIf (At.kIf (At.kKeep fun w=>At.ret (hp _))))
  |_=>exact At.bot
 |rref r g m i off=>
  have hp:∀o,Wi none K b (z3t r g o):=fun o=>⟨by simp[z3t],by simpa [z3t]using ha r (by simp[yJ]),by simp[z3t]⟩;refine At.kOpt fun ob=>?_;cases ob with
  |row n' xs=>exact At.kIf (At.kIf (At.kIf (At.and (At.cond (At.kD fun y=>At.kWhole (At.nam fun _=>At.ret (hp _))) (At.kIf (At.kKeep fun w=>At.kData fun y=>At.nam fun _=>At.ret (hp _)))))))
  |_=>exact At.bot
 |hp id off=>
  have hb:=hb rfl;subst hb;refine At.kOpt fun cs=>At.cond (At.kIf (At.kBld fun ws=>At.ret ⟨by simp,by simp,by simp⟩)) (At.kIf (At.kIf ?_));cases v with
  |right r g m xs=>
   refine At.kOpt fun ob=>?_;cases ob with
   |tok m' l=>exact At.kIf (At.and (At.ret ⟨by simp,by simpa using hv r (by simp[yJ]),by simp⟩))
   |_=>exact At.bot
  |_=>exact At.kKeep fun w=>At.ret ⟨by simp,by simp,by simp⟩
 |_=>exact At.bot
theorem z7r{t:TypeId}{dst:Option Nat}{v:Sv}{lo hi mx:Option Sv}{K:List Nat}{b:Bool}(hv:∀k∈yJ v,k∈K)(hK:∀d,dst=some d→d∈K):At (Wi dst K b) (z1E P t s dst v lo hi mx):=by
 unfold z1E;split
 ·cases mx with
  |none=>exact At.kD fun x=>At.kStr fun u=>At.kBound fun h=>At.and (At.kBound fun l=>At.and (At.nam fun _=>yC))
  |some _=>exact At.bot
 ·refine At.kOpt fun n=>At.kD fun x=>At.kSl fun xs=>At.and ?_;cases mx with
  |none=>exact At.kBound fun h=>At.and (At.kBound fun l=>At.and (At.nam fun _=>yC))
  |some m=>
   cases hi with
   |none=>exact At.bot
   |some h=>
    show At _ (fun k=>kBound (some m) 0 fun m=>m≤xs.length∧kBound (some h) xs.length fun h=>h=m∧kBound lo 0 fun l=>l≤h ∧
     nam ((xs.take h).drop l) fun ys=>newAr s dst (.tok n ys.length) (fun d g=>.right d g n ys) k)
    exact At.kBound fun m=>At.and (At.kBound fun h=>At.and (At.kBound fun l=>At.and (At.nam fun _=>yO hK)))
 ·refine At.kOpt fun n=>?_;split
  ·rename_i r g off
   refine At.kOpt fun ob=>?_;cases ob with
   |row n' xs=>
    refine At.kIf (At.kIf (At.and (At.kBound fun l=>At.and (At.nam fun ys=>?_))));exact At.map (V:=Wi dst [] false) yC fun p hp=>⟨hp.1,by simpa using hv r (by simp[yJ]),by simp⟩
   |_=>exact At.bot
  ·exact At.bot
 ·exact At.bot
theorem z2o{dst:Option Nat}{rs:List Sv}{h:Option H}{K:List Nat}{b:Bool}(hK:∀d,dst=some d→d∈K)(hb:h.isSome=true→b=true):At (Wi dst K b) (jM s dst rs h):=by
 unfold jM;split
 ·exact At.map (V:=Wi dst K false) (yO hK) fun p hp=>⟨hp.1,hp.2.1,hb⟩
 ·exact At.map (V:=Wi dst K false) (yO hK) fun p hp=>⟨hp.1,hp.2.1,hb⟩
 ·exact At.kOpt fun q=>At.map (V:=Wi dst K false) (yO hK) fun p hp=>⟨hp.1,hp.2.1,hb⟩
 ·exact At.map (V:=Wi dst K false) yC fun p hp=>⟨hp.1,hp.2.1,hb⟩
 ·exact At.map (V:=Wi dst K false) yC fun p hp=>⟨hp.1,hp.2.1,hb⟩
theorem z8Y{c:Cx}{dst:Option Nat}{f:FuncId}{vs:List Sv}{K:List Nat}{b:Bool}(hK:∀d,dst=some d→d∈K)(hb:c.pur f=false→b=true):At (Wi dst K b) (z3C c s dst f vs):=by
 refine At.kArgs fun ys=>?_;cases hp:c.pur f with
 |true=>exact At.kIf (At.exR fun rs=>At.kIf (At.and (z2o hK (by simp))))
 |false=>exact At.exR fun rs=>At.cond (At.and (z2o hK (fun _=>hb hp))) (At.exH fun h'=>At.and (z2o hK (fun _=>hb hp)))
theorem z5M{c:Cx}{dst:Option Nat}{f:FuncId}{vs:List Sv}{K:List Nat}(hK:∀d,dst=some d→d∈K)(hp:c.pur f=false)(hr:c.ro f=true):At (fun p=>Wi dst K true p∧p.h=some s.h) (z3C c s dst f vs):=by
 refine At.kArgs fun ys=>?_;rw[hp,hr];refine At.exR fun rs=>At.and ?_;unfold jM;split
 ·exact At.map (V:=Wi dst K false) (yO hK) fun p hp=>⟨⟨hp.1,hp.2.1,by simp⟩,rfl⟩
 ·exact At.map (V:=Wi dst K false) (yO hK) fun p hp=>⟨⟨hp.1,hp.2.1,by simp⟩,rfl⟩
 ·exact At.kOpt fun q=>At.map (V:=Wi dst K false) (yO hK) fun p hp=>⟨⟨hp.1,hp.2.1,by simp⟩,rfl⟩
 ·exact At.map (V:=Wi dst K false) yC fun p hp=>⟨⟨hp.1,hp.2.1,by simp⟩,rfl⟩
 ·exact At.map (V:=Wi dst K false) yC fun p hp=>⟨⟨hp.1,hp.2.1,by simp⟩,rfl⟩
theorem z6N{t:TypeId}{rw:Bool}{dst:Option Nat}{v x:Sv}{K:List Nat}{b:Bool}(hK:∀d,dst=some d→d∈K)(hv:∀k∈yJ v,k∈K)(hb:hpS v=true→b=true):At (Wi dst K b) (z0E P t s rw dst v x):=by
 refine At.kOpt fun e=>At.kOpt fun n=>At.kOpt fun bb=>At.kOpt fun z=>At.kIf (At.kD fun y=>At.kSl fun ys=>At.and ?_);cases v with
 |nilS=>exact At.and (At.cond (At.and (yO hK)) (yO hK))
 |right r g n' xs=>
  refine At.kIf ?_;split
  ·exact At.kIf (At.and (At.and (At.nam fun _=>z8Z (hv r (by simp[yJ])))))
  ·exact At.bot
 |lent id off ver n' xs=>
  have hb:=hb rfl;subst hb;refine At.kIf (At.kIf (At.kOpt fun cs=>At.kOpt fun u=>?_));cases u with
  |own n'' xs'=>exact At.kIf (At.and (At.and (At.nam fun _=>At.map (V:=Wi dst K false) (yO hK) fun p hp=>⟨hp.1,hp.2.1,by simp⟩)))
  |_=>exact At.bot
 |_=>exact At.bot
def jF(vs:List Sv):List Nat:=vs.flatMap yJ
theorem z4S{β:Type}{W:β→Prop}:∀{vs:List Sv} {s:St} {F:List (Nat×Nat×Option Ob)→List Sv→(β→Prop)→Prop},
  (∀ps us,(∀x∈ps,x.1∈jF vs)→(∀x∈jF us,x∈jF vs)→At W (F ps us))→At W (fun k=>z6Y s vs fun ps us=>F ps us k)
 |[],s,F,h=>h [] [] (by simp) (fun _ h=>h)
 |v::r,s,F,h=>by
  by_cases hrow:∃a g,v=.row a g
  ·obtain⟨a,g,rfl⟩:=hrow;refine At.kOpt fun ob=>?_;cases ob with
   |row n xs=>
    refine z4S (F:=fun ps us=>F (ps++[(a,g,none)]) (.d (.sl xs)::us)) fun ps us h1 h2=>h _ _ (fun x hx=>?_) (fun x hx=>?_)
    ·rcases List.mem_append.1 hx with hx|hx
     ·exact List.mem_append_right _ (h1 x hx)
     ·simp at hx;subst hx;simp[jF,yJ]
    ·simp only[jF,List.flatMap_cons,yJ,List.nil_append]at hx;exact List.mem_append_right _ (h2 x hx)
   |_=>exact At.bot
  ·have:(fun k=>z6Y s (v::r) fun ps us=>F ps us k)=fun k=>z6Y s r fun ps us=>F ps (v::us) k:=by
    funext k;cases v with
    |row a g=>exact absurd ⟨a,g,rfl⟩ hrow
    |_=>rfl
   rw[this];refine z4S (F:=fun ps us=>F ps (v::us)) fun ps us h1 h2=>h _ _ (fun x hx=>List.mem_append_right _ (h1 x hx)) (fun x hx=>?_);simp only[jF,List.flatMap_cons]at hx ⊢;rcases List.mem_append.1 hx with hx|hx
   ·exact List.mem_append_left _ hx
   ·exact List.mem_append_right _ (h2 x hx)
theorem z6O{t:TypeId}{a v:Sv}{K:List Nat}{b:Bool}(ha:∀k∈yJ a,k∈K)(hv:∀k∈yJ v,k∈K)(hb:hpS a=true→b=true):At (Wi none K b) (z2M P t s a v):=by
 have hvs:∀x∈jF [v],x∈K:=fun x hx=>hv x (by simpa [jF]using hx);refine z4S (W:=Wi none K b) (F:=fun ps us (k:zZ→Prop)=>match us with|[y]=>z0a P t (s.app ⟨[],ps,none⟩) a y fun p=>k ⟨p.puts,p.ars++ps,p.h⟩|_=>False) fun ps us h1 h2=>?_;split
 ·rename_i y
  exact At.map (V:=Wi none K b) (z7s ha (fun k hk=>hvs k (h2 k (by simpa [jF]using hk))) hb) fun p hp=>⟨hp.1,fun x hx=>by
   rcases List.mem_append.1 hx with hx|hx
   ·exact hp.2.1 x hx
   ·exact hvs _ (h1 x hx),hp.2.2⟩
 ·exact At.bot
theorem z4T{c:Cx}{dst:Option Nat}{f:FuncId}{first vs cap:List Sv}{K:List Nat}{b:Bool}(hK:∀d,dst=some d→d∈K)(hv:∀k∈jF vs,k∈K)(hb:c.pur f=false→b=true):At (Wi dst K b) (z5n c s dst f first vs cap):=
 z4S (W:=Wi dst K b) (F:=fun ps us (k:zZ→Prop)=>z3C c (s.app ⟨[],ps,none⟩) dst f (first++us++cap) fun p=>k ⟨p.puts,p.ars++ps,p.h⟩) fun ps us h1 h2=>
  At.map (V:=Wi dst K b) (z8Y hK hb) fun p hp=>⟨hp.1,fun x hx=>by
   rcases List.mem_append.1 hx with hx|hx
   ·exact hp.2.1 x hx
   ·exact hv _ (h1 x hx),hp.2.2⟩
theorem z4U{c:Cx}{dst:Option Nat}{f:FuncId}{first vs cap:List Sv}{K:List Nat}(hK:∀d,dst=some d→d∈K)(hv:∀k∈jF vs,k∈K)(hp:c.pur f=false)(hr:c.ro f=true):
  At (fun p=>Wi dst K true p∧p.h=some s.h) (z5n c s dst f first vs cap):=
 z4S (W:=fun p=>Wi dst K true p∧p.h=some s.h) (F:=fun ps us (k:zZ→Prop)=>z3C c (s.app ⟨[],ps,none⟩) dst f (first++us++cap) fun p=>k ⟨p.puts,p.ars++ps,p.h⟩) fun ps us h1 h2=>
  At.map (V:=fun p=>Wi dst K true p∧p.h=some s.h) (z5M (s:=s.app ⟨[],ps,none⟩) hK hp hr) fun p hp=>⟨⟨hp.1.1,fun x hx=>by
   rcases List.mem_append.1 hx with hx|hx
   ·exact hp.1.2.1 x hx
   ·exact hv _ (h1 x hx),fun _=>rfl⟩,hp.2⟩
theorem z2O(v:Value):yJ (wY v)=[]∧hpS (wY v)=false:=by
 unfold wY;split
 ·exact⟨rfl,rfl⟩
 ·exact⟨rfl,rfl⟩
 ·split<;>exact⟨rfl,rfl⟩
theorem jS{o:Oper}{x:Operand}(hx:x∈o.op.operands.toList){k:Nat}(hk:k∈yJ (opv s x)):k∈(uS o).flatMap (fun i=>yJ (s.get i))++o.dst.toList:=by
 cases x with
 |tmp t=>
  refine List.mem_append_left _ (List.mem_flatMap.2 ⟨t,?_,hk⟩);exact List.mem_filterMap.2 ⟨_,hx,rfl⟩
 |const v=>simp[opv,(z2O v).1]at hk
 |func f=>simp[opv,yJ]at hk
 |global g=>simp[opv,yJ]at hk
theorem z7L{v:Sv}(h:hpS v=true):z8N v=true:=by cases v<;>first|rfl|simp[hpS]at h
theorem z4p{o:Oper}{x:Operand}(hx:x∈o.op.operands.toList)(h:hpS (opv s x)=true):(uS o).any (fun i=>z8N (s.get i))=true:=by
 cases x with
 |tmp t=>exact List.any_eq_true.2 ⟨t,List.mem_filterMap.2 ⟨_,hx,rfl⟩,z7L h⟩
 |const v=>simp[opv,(z2O v).2]at h
 |func f=>simp[opv,hpS]at h
 |global g=>simp[opv,hpS]at h
def z0I(f:FP)(s:St)(p:zZ):Prop:=(∀x∈p.puts,x.1∈f.ws)∧(∀x∈p.ars,x.1∈f.wa)∧(p.h.isSome=true→f.wh=true∨(f.wv=true∧p.h=some s.h))
theorem Wi.within{dst:Option Nat}{K:List Nat}{b:Bool}{p:zZ}{f:FP}(h:Wi dst K b p)(h1:∀d,dst=some d→d∈f.ws)(h2:∀k∈K,k∈f.wa)(h3:b=true→f.wh=true):z0I f s p:=
 ⟨fun x hx=>h1 _ (h.1 x hx),fun x hx=>h2 _ (h.2.1 x hx),fun e=>.inl (h3 (h.2.2 e))⟩
theorem hasIff{l:List Nat}{i:Nat}:has l i=true↔i∈l:=by
 induction l with
 |nil=>simp[has]
 |cons j r ih=>
  simp only[has,Bool.or_eq_true,ih,List.mem_cons];constructor
  ·rintro(h|h)
   ·exact .inl (uA h).symm
   ·exact .inr h
  ·rintro(h|h)
   ·exact .inl (by subst h;exact Nat.beq_refl _)
   ·exact .inr h
end
end Nt

