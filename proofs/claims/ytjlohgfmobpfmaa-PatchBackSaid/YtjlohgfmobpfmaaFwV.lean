import Derived.Test.YtjlohgfmobpfmaaFwU
namespace Nt
open Go
set_option linter.unusedVariables false
set_option linter.unusedSimpArgs false
def Wi(dst:Option Nat)(K:List Nat)(b:Bool)(p:zQ):Prop:=
 (∀x∈p.puts,dst=some x.1)∧(∀x∈p.ars,x.1∈K)∧(p.h.isSome=true→b=true)
theorem Wi.weaken{dst:Option Nat}{K K':List Nat}{b b':Bool}{p:zQ}(h:Wi dst K b p)(hK:∀x∈K,x∈K')(hb:b=true→b'=true):Wi dst K' b' p:=
 ⟨h.1,fun x hx=>hK _ (h.2.1 x hx),fun e=>hb (h.2.2 e)⟩
theorem At.weaken{α:Type}{W W':α→Prop}{F:(α→Prop)→Prop}(h:At W F)(hw:∀y,W y→W' y):At W' F:=
 ⟨h.mono,fun hk=>let ⟨y,a,b,c⟩:=h.ex hk;⟨y,a,hw y b,c⟩⟩
section
variable {P:Program} {s:St}
theorem zR{dst:Option Nat}{v:Sv}{K:List Nat}{b:Bool}:At (Wi dst K b) (uH s dst v):=by
 cases dst with
 |none=>exact At.ret ⟨by simp,by simp,by simp⟩
 |some d=>exact At.kIf (At.ret ⟨by simp[jI],by simp[jI],by simp[jI]⟩)
theorem yD{dst:Option Nat}{ob:Ob}{v:Nat→Nat→Sv}{K:List Nat}{b:Bool}(hK:∀d,dst=some d→d∈K):At (Wi dst K b) (newAr s dst ob v):=by
 cases dst with
 |none=>exact At.bot
 |some d=>exact At.kIf (At.ret ⟨by simp,by simpa using hK d rfl,by simp⟩)
theorem z7x{dst:Option Nat}{r g:Nat}{ob:Ob}{v:Sv}{K:List Nat}{b:Bool}(hK:r∈K):At (Wi dst K b) (z6C s dst r g ob v):=by
 cases dst with
 |none=>exact At.bot
 |some d=>exact At.kIf (At.ret ⟨by simp,by simpa using hK,by simp⟩)
theorem z2E{dst:Option Nat}{cs:List Sv}{K:List Nat}:At (Wi dst K true) (newHp s dst cs):=by
 cases dst with
 |none=>exact At.bot
 |some d=>exact At.kIf (At.ret ⟨by simp,by simp,by simp⟩)
def hpS:Sv→Bool
 |.hp _ _=>true
 |.lent _ _ _ _ _=>true
 |_=>false
theorem z5S{t:TypeId}{a v:Sv}{K:List Nat}{b:Bool}(ha:∀k∈zW a,k∈K)(hv:∀k∈zW v,k∈K)(hb:hpS a=true→b=true):At (Wi none K b) (jD P t s a v):=by
 refine At.kOpt fun n=>?_;cases a with
 |ref r g off=>
  have hp:∀o,Wi none K b (z1Y r g o):=fun o=>⟨by simp[z1Y],by simpa [z1Y]using ha r (by simp[zW]),by simp[z1Y]⟩;refine At.kOpt fun ob=>?_;cases ob with
  |agg x=>
   refine At.cond ?_ (At.kIf (At.kIf (At.kKeep fun w=>At.kData fun y=>At.ret (hp _))));cases v with
   |cells ws=>exact At.kCs fun cs=>At.kIf (At.ret (hp _))
   |_=>exact At.kCs fun cs=>At.kIf (At.kD fun y=>At.kCs fun ds=>At.kIf (At.ret (hp _)))
  |box cs=>exact At.cond At.bot (At.kIf (At.kIf (At.kKeep fun w=>At.ret (hp _))))
  |_=>exact At.bot
 |rref r g m i off=>
  have hp:∀o,Wi none K b (z1Y r g o):=fun o=>⟨by simp[z1Y],by simpa [z1Y]using ha r (by simp[zW]),by simp[z1Y]⟩;refine At.kOpt fun ob=>?_;cases ob with
  |row n' xs=>exact At.kIf (At.kIf (At.kIf (At.and (At.cond (At.kD fun y=>At.kWhole (At.nam fun _=>At.ret (hp _))) (At.kIf (At.kKeep fun w=>At.kData fun y=>At.nam fun _=>At.ret (hp _)))))))
  |_=>exact At.bot
 |hp id off=>
  have hb:=hb rfl;subst hb;refine At.kOpt fun cs=>At.cond (At.kIf (At.kBld fun ws=>At.ret ⟨by simp,by simp,by simp⟩)) (At.kIf (At.kIf ?_));cases v with
  |right r g m xs=>
   refine At.kOpt fun ob=>?_;cases ob with
   |tok m' l=>exact At.kIf (At.and (At.ret ⟨by simp,by simpa using hv r (by simp[zW]),by simp⟩))
   |_=>exact At.bot
  |_=>exact At.kKeep fun w=>At.ret ⟨by simp,by simp,by simp⟩
 |_=>exact At.bot
theorem z5R{t:TypeId}{dst:Option Nat}{v:Sv}{lo hi mx:Option Sv}{K:List Nat}{b:Bool}(hv:∀k∈zW v,k∈K)(hK:∀d,dst=some d→d∈K):At (Wi dst K b) (z0A P t s dst v lo hi mx):=by
 unfold z0A;split
 ·cases mx with
  |none=>exact At.kD fun x=>At.kStr fun u=>At.kBound fun h=>At.and (At.kBound fun l=>At.and (At.nam fun _=>zR))
  |some _=>exact At.bot
 ·refine At.kOpt fun n=>At.kD fun x=>At.kSl fun xs=>At.and ?_;cases mx with
  |none=>exact At.kBound fun h=>At.and (At.kBound fun l=>At.and (At.nam fun _=>zR))
  |some m=>
   cases hi with
   |none=>exact At.bot
   |some h=>
    show At _ (fun k=>kBound (some m) 0 fun m=>m≤xs.length∧kBound (some h) xs.length fun h=>h=m∧kBound lo 0 fun l=>l≤h ∧
     nam ((xs.take h).drop l) fun ys=>newAr s dst (.tok n ys.length) (fun d g=>.right d g n ys) k)
    exact At.kBound fun m=>At.and (At.kBound fun h=>At.and (At.kBound fun l=>At.and (At.nam fun _=>yD hK)))
 ·refine At.kOpt fun n=>?_;split
  ·rename_i r g off
   refine At.kOpt fun ob=>?_;cases ob with
   |row n' xs=>
    refine At.kIf (At.kIf (At.and (At.kBound fun l=>At.and (At.nam fun ys=>?_))));exact At.map (V:=Wi dst [] false) zR fun p hp=>⟨hp.1,by simpa using hv r (by simp[zW]),by simp⟩
   |_=>exact At.bot
  ·exact At.bot
 ·exact At.bot
theorem z1b{dst:Option Nat}{rs:List Sv}{h:Option H}{K:List Nat}{b:Bool}(hK:∀d,dst=some d→d∈K)(hb:h.isSome=true→b=true):At (Wi dst K b) (wZ s dst rs h):=by
 unfold wZ;split
 ·exact At.map (V:=Wi dst K false) (yD hK) fun p hp=>⟨hp.1,hp.2.1,hb⟩
 ·exact At.map (V:=Wi dst K false) (yD hK) fun p hp=>⟨hp.1,hp.2.1,hb⟩
 ·exact At.kOpt fun q=>At.map (V:=Wi dst K false) (yD hK) fun p hp=>⟨hp.1,hp.2.1,hb⟩
 ·exact At.map (V:=Wi dst K false) zR fun p hp=>⟨hp.1,hp.2.1,hb⟩
 ·exact At.map (V:=Wi dst K false) zR fun p hp=>⟨hp.1,hp.2.1,hb⟩
theorem z7w{c:Cx}{dst:Option Nat}{f:FuncId}{vs:List Sv}{K:List Nat}{b:Bool}(hK:∀d,dst=some d→d∈K)(hb:c.pur f=false→b=true):At (Wi dst K b) (z2c c s dst f vs):=by
 refine At.kArgs fun ys=>?_;cases hp:c.pur f with
 |true=>exact At.kIf (At.exR fun rs=>At.kIf (At.and (z1b hK (by simp))))
 |false=>exact At.exR fun rs=>At.cond (At.and (z1b hK (fun _=>hb hp))) (At.exH fun h'=>At.and (z1b hK (fun _=>hb hp)))
theorem z4k{c:Cx}{dst:Option Nat}{f:FuncId}{vs:List Sv}{K:List Nat}(hK:∀d,dst=some d→d∈K)(hp:c.pur f=false)(hr:c.ro f=true):At (fun p=>Wi dst K true p∧p.h=some s.h) (z2c c s dst f vs):=by
 refine At.kArgs fun ys=>?_;rw[hp,hr];refine At.exR fun rs=>At.and ?_;unfold wZ;split
 ·exact At.map (V:=Wi dst K false) (yD hK) fun p hp=>⟨⟨hp.1,hp.2.1,by simp⟩,rfl⟩
 ·exact At.map (V:=Wi dst K false) (yD hK) fun p hp=>⟨⟨hp.1,hp.2.1,by simp⟩,rfl⟩
 ·exact At.kOpt fun q=>At.map (V:=Wi dst K false) (yD hK) fun p hp=>⟨⟨hp.1,hp.2.1,by simp⟩,rfl⟩
 ·exact At.map (V:=Wi dst K false) zR fun p hp=>⟨⟨hp.1,hp.2.1,by simp⟩,rfl⟩
 ·exact At.map (V:=Wi dst K false) zR fun p hp=>⟨⟨hp.1,hp.2.1,by simp⟩,rfl⟩
theorem z5m{t:TypeId}{rw:Bool}{dst:Option Nat}{v x:Sv}{K:List Nat}{b:Bool}(hK:∀d,dst=some d→d∈K)(hv:∀k∈zW v,k∈K)(hb:hpS v=true→b=true):At (Wi dst K b) (gG P t s rw dst v x):=by
 refine At.kOpt fun e=>At.kOpt fun n=>At.kOpt fun bb=>At.kOpt fun z=>At.kIf (At.kD fun y=>At.kSl fun ys=>At.and ?_);cases v with
 |nilS=>exact At.and (At.cond (At.and (yD hK)) (yD hK))
 |right r g n' xs=>
  refine At.kIf ?_;split
  ·exact At.kIf (At.and (At.and (At.nam fun _=>z7x (hv r (by simp[zW])))))
  ·exact At.bot
 |lent id off ver n' xs=>
  have hb:=hb rfl;subst hb;refine At.kIf (At.kIf (At.kOpt fun cs=>At.kOpt fun u=>?_));cases u with
  |own n'' xs'=>exact At.kIf (At.and (At.and (At.nam fun _=>At.map (V:=Wi dst K false) (yD hK) fun p hp=>⟨hp.1,hp.2.1,by simp⟩)))
  |_=>exact At.bot
 |_=>exact At.bot
def wT(vs:List Sv):List Nat:=vs.flatMap zW
theorem z3s{β:Type}{W:β→Prop}:∀{vs:List Sv} {s:St} {F:List (Nat×Nat×Option Ob)→List Sv→(β→Prop)→Prop},
  (∀ps us,(∀x∈ps,x.1∈wT vs)→(∀x∈wT us,x∈wT vs)→At W (F ps us))→At W (fun k=>z5y s vs fun ps us=>F ps us k)
 |[],s,F,h=>h [] [] (by simp) (fun _ h=>h)
 |v::r,s,F,h=>by
  by_cases hrow:∃a g,v=.row a g
  ·obtain⟨a,g,rfl⟩:=hrow;refine At.kOpt fun ob=>?_;cases ob with
   |row n xs=>
    refine z3s (F:=fun ps us=>F (ps++[(a,g,none)]) (.d (.sl xs)::us)) fun ps us h1 h2=>h _ _ (fun x hx=>?_) (fun x hx=>?_)
    ·rcases List.mem_append.1 hx with hx|hx
     ·exact List.mem_append_right _ (h1 x hx)
     ·simp at hx;subst hx;simp[wT,zW]
    ·simp only[wT,List.flatMap_cons,zW,List.nil_append]at hx;exact List.mem_append_right _ (h2 x hx)
   |_=>exact At.bot
  ·have:(fun k=>z5y s (v::r) fun ps us=>F ps us k)=fun k=>z5y s r fun ps us=>F ps (v::us) k:=by
    funext k;cases v with
    |row a g=>exact absurd ⟨a,g,rfl⟩ hrow
    |_=>rfl
   rw[this];refine z3s (F:=fun ps us=>F ps (v::us)) fun ps us h1 h2=>h _ _ (fun x hx=>List.mem_append_right _ (h1 x hx)) (fun x hx=>?_);simp only[wT,List.flatMap_cons]at hx ⊢;rcases List.mem_append.1 hx with hx|hx
   ·exact List.mem_append_left _ hx
   ·exact List.mem_append_right _ (h2 x hx)
theorem z5n{t:TypeId}{a v:Sv}{K:List Nat}{b:Bool}(ha:∀k∈zW a,k∈K)(hv:∀k∈zW v,k∈K)(hb:hpS a=true→b=true):At (Wi none K b) (z1v P t s a v):=by
 have hvs:∀x∈wT [v],x∈K:=fun x hx=>hv x (by simpa [wT]using hx);refine z3s (W:=Wi none K b) (F:=fun ps us (k:zQ→Prop)=>match us with|[y]=>jD P t (s.app ⟨[],ps,none⟩) a y fun p=>k ⟨p.puts,p.ars++ps,p.h⟩|_=>False) fun ps us h1 h2=>?_;split
 ·rename_i y
  exact At.map (V:=Wi none K b) (z5S ha (fun k hk=>hvs k (h2 k (by simpa [wT]using hk))) hb) fun p hp=>⟨hp.1,fun x hx=>by
   rcases List.mem_append.1 hx with hx|hx
   ·exact hp.2.1 x hx
   ·exact hvs _ (h1 x hx),hp.2.2⟩
 ·exact At.bot
theorem z3t{c:Cx}{dst:Option Nat}{f:FuncId}{first vs cap:List Sv}{K:List Nat}{b:Bool}(hK:∀d,dst=some d→d∈K)(hv:∀k∈wT vs,k∈K)(hb:c.pur f=false→b=true):At (Wi dst K b) (z3N c s dst f first vs cap):=
 z3s (W:=Wi dst K b) (F:=fun ps us (k:zQ→Prop)=>z2c c (s.app ⟨[],ps,none⟩) dst f (first++us++cap) fun p=>k ⟨p.puts,p.ars++ps,p.h⟩) fun ps us h1 h2=>
  At.map (V:=Wi dst K b) (z7w hK hb) fun p hp=>⟨hp.1,fun x hx=>by
   rcases List.mem_append.1 hx with hx|hx
   ·exact hp.2.1 x hx
   ·exact hv _ (h1 x hx),hp.2.2⟩
theorem z3u{c:Cx}{dst:Option Nat}{f:FuncId}{first vs cap:List Sv}{K:List Nat}(hK:∀d,dst=some d→d∈K)(hv:∀k∈wT vs,k∈K)(hp:c.pur f=false)(hr:c.ro f=true):
  At (fun p=>Wi dst K true p∧p.h=some s.h) (z3N c s dst f first vs cap):=
 z3s (W:=fun p=>Wi dst K true p∧p.h=some s.h) (F:=fun ps us (k:zQ→Prop)=>z2c c (s.app ⟨[],ps,none⟩) dst f (first++us++cap) fun p=>k ⟨p.puts,p.ars++ps,p.h⟩) fun ps us h1 h2=>
  At.map (V:=fun p=>Wi dst K true p∧p.h=some s.h) (z4k (s:=s.app ⟨[],ps,none⟩) hK hp hr) fun p hp=>⟨⟨hp.1.1,fun x hx=>by
   rcases List.mem_append.1 hx with hx|hx
   ·exact hp.1.2.1 x hx
   ·exact hv _ (h1 x hx),fun _=>rfl⟩,hp.2⟩
theorem z1x(v:Value):zW (vW v)=[]∧hpS (vW v)=false:=by
 unfold vW;split
 ·exact⟨rfl,rfl⟩
 ·exact⟨rfl,rfl⟩
 ·split<;>exact⟨rfl,rfl⟩
theorem uE{o:Oper}{x:Operand}(hx:x∈o.op.operands.toList){k:Nat}(hk:k∈zW (opv s x)):k∈(wI o).flatMap (fun i=>zW (s.get i))++o.dst.toList:=by
 cases x with
 |tmp t=>
  refine List.mem_append_left _ (List.mem_flatMap.2 ⟨t,?_,hk⟩);exact List.mem_filterMap.2 ⟨_,hx,rfl⟩
 |const v=>simp[opv,(z1x v).1]at hk
 |func f=>simp[opv,zW]at hk
 |global g=>simp[opv,zW]at hk
theorem z6j{v:Sv}(h:hpS v=true):z7m v=true:=by cases v<;>first|rfl|simp[hpS]at h
theorem z2Q{o:Oper}{x:Operand}(hx:x∈o.op.operands.toList)(h:hpS (opv s x)=true):(wI o).any (fun i=>z7m (s.get i))=true:=by
 cases x with
 |tmp t=>exact List.any_eq_true.2 ⟨t,List.mem_filterMap.2 ⟨_,hx,rfl⟩,z6j h⟩
 |const v=>simp[opv,(z1x v).2]at h
 |func f=>simp[opv,hpS]at h
 |global g=>simp[opv,hpS]at h
def gJ(f:FP)(s:St)(p:zQ):Prop:=(∀x∈p.puts,x.1∈f.ws)∧(∀x∈p.ars,x.1∈f.wa)∧(p.h.isSome=true→f.wh=true∨(f.wv=true∧p.h=some s.h))
theorem Wi.within{dst:Option Nat}{K:List Nat}{b:Bool}{p:zQ}{f:FP}(h:Wi dst K b p)(h1:∀d,dst=some d→d∈f.ws)(h2:∀k∈K,k∈f.wa)(h3:b=true→f.wh=true):gJ f s p:=
 ⟨fun x hx=>h1 _ (h.1 x hx),fun x hx=>h2 _ (h.2.1 x hx),fun e=>.inl (h3 (h.2.2 e))⟩
theorem hasIff{l:List Nat}{i:Nat}:has l i=true↔i∈l:=by
 induction l with
 |nil=>simp[has]
 |cons j r ih=>
  simp only[has,Bool.or_eq_true,ih,List.mem_cons];constructor
  ·rintro(h|h)
   ·exact .inl (vX h).symm
   ·exact .inr h
  ·rintro(h|h)
   ·exact .inl (by subst h;exact Nat.beq_refl _)
   ·exact .inr h
end
end Nt

