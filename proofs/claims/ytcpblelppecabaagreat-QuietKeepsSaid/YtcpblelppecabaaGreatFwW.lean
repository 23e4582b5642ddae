import Derived.Test.YtcpblelppecabaaGreatFwV
namespace Nt
open Go
set_option linter.unusedVariables false
set_option linter.unusedSimpArgs false
section
variable {P:Program} {s s':St}
theorem v3M(c:Cx)(ops:Array Oper)(o:Oper)(s:St):At (z9Z (y0f c ops o s) s) (y8X c o s):=by
 have hdst:∀d,o.dst=some d→d∈(y0f c ops o s).ws:=fun d hd=>by simp[y0f,hd]
 have y1g:∀{F:(uA→Prop)→Prop},At (Wi o.dst [] false) F→At (z9Z (y0f c ops o s) s) F:=fun h=>h.weaken fun p hp=>hp.within hdst (by simp) (by simp);have hks:∀{n:Nat},wN c s o=n→n≠0→(y0f c ops o s).wa=(z4f o).flatMap (fun i=>jB (s.get i))++o.dst.toList:=fun h hn=>by
  have:Nat.beq (wN c s o) 0=false:=y3u (by omega);simp[y0f,this]
 have hdk:∀d,o.dst=some d→d∈(z4f o).flatMap (fun i=>jB (s.get i))++o.dst.toList:=fun d hd=>by simp[hd]
 have fin1:∀{F:(uA→Prop)→Prop} {n:Nat},wN c s o=n→n≠0→At (Wi o.dst ((z4f o).flatMap (fun i=>jB (s.get i))++o.dst.toList) false) F→At (z9Z (y0f c ops o s) s) F:=fun h hn g=>
  g.weaken fun p hp=>hp.within hdst (fun k hk=>by rw[hks h hn];exact hk) (by simp)
 have fin2:∀{F:(uA→Prop)→Prop},wN c s o=2→(y0f c ops o s).wh=true→At (Wi o.dst ((z4f o).flatMap (fun i=>jB (s.get i))++o.dst.toList) true) F→At (z9Z (y0f c ops o s) s) F:=fun h hw g=>
  g.weaken fun p hp=>hp.within hdst (fun k hk=>by rw[hks h (by omega)];exact hk) (fun _=>hw)
 unfold y8X;cases ho:o.op with
 |move x=>exact y1g uG
 |assign x=>exact y1g uG
 |pick x a b=>exact y1g (At.brS uG uG)
 |alloc t=>
  refine At.kOpt fun z=>At.kIf ?_;cases hd:o.dst with
  |none=>exact At.bot
  |some d=>
   dsimp only;rw[←hd];cases hg:c.glob d with
   |true=>
    have hc:wN c s o=2:=by simp[wN,ho,hd,hg]
    exact fin2 hc (by simp[y0f,hc,ho]) y6m
   |false=>
    have hc:wN c s o=1:=by simp[wN,ho,hd,hg]
    show At _ (fun k=>match c.P.underlying t with
     |some (.array _ e)=>kOpt (z0t c.P e) fun n=>kIf (Nat.beq n 1) (kOpt (z4M z.cells.toList) fun ds=>newAr s o.dst (.row 1 ds) (fun d g=>.ref d g 0) k)
     |some (.struct _)=>match z4M z.cells.toList with
      |some ds=>newAr s o.dst (.agg (.agg ds)) (fun d g=>.ref d g 0) k
      |none=>newAr s o.dst (.box (z.cells.toList.map z2U)) (fun d g=>.ref d g 0) k
     |_=>newAr s o.dst (.box (z.cells.toList.map z2U)) (fun d g=>.ref d g 0) k)
    split
    ·exact At.kOpt fun n=>At.kIf (At.kOpt fun ds=>fin1 hc (by simp) (jX hdk))
    ·split
     ·exact fin1 hc (by simp) (jX hdk)
     ·exact fin1 hc (by simp) (jX hdk)
    ·exact fin1 hc (by simp) (jX hdk)
 |box t v=>
  cases hd:o.dst with
  |none=>exact At.bot
  |some d=>
   dsimp only;rw[←hd];cases hg:c.glob d with
   |true=>
    have hc:wN c s o=2:=by simp[wN,ho,hd,hg]
    simp only[cond_true];exact At.cond (At.kOpt fun n=>At.kBld fun ws=>fin2 hc (by simp[y0f,hc,ho]) y6m) (At.kKeep fun w=>fin2 hc (by simp[y0f,hc,ho]) y6m)
   |false=>
    have hc:wN c s o=1:=by simp[wN,ho,hd,hg]
    simp only[cond_false];exact At.cond (At.kOpt fun n=>At.kD fun x=>At.kWhole (fin1 hc (by simp) (jX hdk))) (At.kKeep fun w=>fin1 hc (by simp) (jX hdk))
 |build t ps=>
  dsimp only;split
  ·exact At.kIf (At.kOpt fun z=>At.kOpt fun cs=>At.kFill fun cs=>y1g uG)
  ·exact At.bot
 |buildSlice t len ps=>
  have hc:wN c s o=1:=by simp[wN,ho]
  exact At.kOpt fun e=>At.kOpt fun n=>At.kOpt fun z=>At.kIf (At.kIf (At.kElems fun xs=>fin1 hc (by simp) (jX hdk)))
 |load t a=>exact At.kLoad fun v=>y1g uG
 |store t a v=>
  have hc:wN c s o=2:=by simp[wN,ho]
  cases hd:o.dst with
  |some d=>exact At.bot
  |none=>
   have h:=v2r (P:=c.P) (s:=s) (t:=t) (a:=opv s a) (v:=opv s v) (K:=(z4f o).flatMap (fun i=>jB (s.get i))++o.dst.toList) (b:=(z4f o).any fun i=>v5j (s.get i))
    (fun k hk=>z5x (by simp[ho,Op.operands]) hk) (fun k hk=>z5x (by simp[ho,Op.operands]) hk) (fun h=>y6U (by simp[ho,Op.operands]) h)
   refine h.weaken fun p hp=>hp.within (by simp) (fun k hk=>by rw[hks hc (by simp)];exact hk) (fun h=>by simp[y0f,hc,h])
 |nilCheck x=>
  dsimp only;split<;>first|exact y1g uG|exact At.kIf (y1g uG)|exact At.bot
 |binOp op t x y z=>
  cases op<;>first|exact At.kEqOp fun b=>y1g uG|exact At.kD fun a=>At.kD fun b=>At.kBin fun r=>y1g uG
 |unOp op t x=>
  refine At.kD fun a=>?_;cases op<;>first|exact At.kI fun i n=>At.nam fun _=>y1g uG|(cases a<;>first|exact y1g uG|exact At.bot)|exact At.bot
 |convert src dst x=>
  dsimp only;split
  ·exact At.kD fun a=>At.kI fun _ n=>At.nam fun _=>y1g uG
  ·exact At.kD fun a=>At.kStr fun u=>y1g uG
  ·split
   ·exact At.kD fun a=>At.kSl fun xs=>At.toBytes fun u=>y1g uG
   ·exact At.bot
  ·exact At.bot
 |makeFunc f first cap=>
  cases f<;>first|exact At.kArgs fun xs=>At.kArgs fun ys=>y1g uG|exact At.bot
 |makeSlice t l m=>
  have hc:wN c s o=1:=by simp[wN,ho]
  exact At.kOpt fun e=>At.kOpt fun n=>At.kOpt fun b=>At.kOpt fun z=>At.kD fun lx=>At.kI fun _ l=>At.kD fun mx=>At.kI fun _ m=>At.and (At.cond
   (At.kOpt fun ds=>At.kIf (At.nam fun _=>fin1 hc (by simp) (jX hdk))) (At.kOpt fun x=>At.kIf (At.nam fun _=>fin1 hc (by simp) (jX hdk))))
 |slice t x lo hi mx=>
  have hc:wN c s o=1:=by simp[wN,ho]
  exact fin1 hc (by simp) (v3N (fun k hk=>z5x (by simp[ho,Op.operands]) hk) hdk)
 |fieldAddr t x f=>exact At.kFieldAddr fun v=>y1g uG
 |field t x f=>exact At.kField fun v=>y1g uG
 |indexAddr t x i=>exact At.kIndexAddr fun v=>y1g uG
 |index t x i=>
  dsimp only;split
  ·exact At.kIndex fun v=>y1g uG
  ·exact At.bot
 |extract t i=>
  dsimp only;split
  ·exact At.kOpt fun v=>y1g uG
  ·exact At.bot
 |call cl=>
  dsimp only;unfold v4o;cases hcal:cl.callee with
  |value f=>
   dsimp only;cases hf:opv s f with
   |fn g first cap=>
    have hkeys:∀k∈z4Q (cl.args.toList.map (opv s)),k∈(z4f o).flatMap (fun i=>jB (s.get i))++o.dst.toList:=fun k hk=>by
     obtain⟨v,hv,hk⟩:=List.mem_flatMap.1 hk;obtain⟨x,hx,rfl⟩:=List.mem_map.1 hv;exact z5x (by simp[ho,Op.operands,Call.operands];exact .inr (by simpa using hx)) hk
    cases hp:c.pur g with
    |true=>
     have hc:wN c s o=1:=by simp[wN,ho,hcal,hf,hp]
     exact fin1 hc (by simp) (y8a hdk hkeys (by simp[hp]))
    |false=>
     cases hr:c.ro g with
     |true=>
      have hc:wN c s o=1:=by simp[wN,ho,hcal,hf,hp,hr]
      have hro:v6o c s o=true:=by simp[v6o,ho,hcal,hf,hp,hr]
      exact(y8b (s:=s) hdk hkeys hp hr).weaken fun p q=>⟨fun x hx=>hdst _ (q.1.1 x hx),fun x hx=>by rw[hks hc (by simp)];exact q.1.2.1 x hx,fun _=>.inr ⟨by simp[y0f,hro],q.2⟩⟩
     |false=>
     have hc:wN c s o=2:=by simp[wN,ho,hcal,hf,hp,hr]
     refine fin2 hc ?_ (y8a hdk hkeys (by simp));simp only[y0f,hc,ho];cases cl;simp at hcal;simp[hcal]
   |_=>exact At.bot
  |builtin b=>
   cases b with
   |len=>
    dsimp only;split
    ·exact At.kLen fun v=>y1g uG
    ·exact At.bot
   |append=>
    have hc:wN c s o=2:=by simp[wN,ho,hcal]
    dsimp only;split
    ·rename_i x y t u hx ht
     split
     ·have hmem:x∈o.op.operands.toList:=by simp[ho,Op.operands,Call.operands,hx]
      have h:=v2q (rw:=match o.dst with|some d=>c.glob d|none=>false) (P:=c.P) (s:=s) (t:=t) (dst:=o.dst) (v:=opv s x) (x:=opv s y) (K:=(z4f o).flatMap (fun i=>jB (s.get i))++o.dst.toList) (b:=(z4f o).any fun i=>v5j (s.get i))
       hdk (fun k hk=>z5x hmem hk) (fun h=>y6U hmem h)
      exact h.weaken fun p hp=>hp.within hdst (fun k hk=>by rw[hks hc (by simp)];exact hk) (fun h=>by simp[y0f,hc,h])
     ·exact At.bot
    ·exact At.bot
   |max=>
    dsimp only;split
    ·exact At.kD fun a=>At.kD fun b=>At.kI fun _ _=>At.kI fun _ _=>At.kIf (At.nam fun _=>y1g uG)
    ·exact At.bot
   |min=>
    dsimp only;split
    ·exact At.kD fun a=>At.kD fun b=>At.kI fun _ _=>At.kI fun _ _=>At.kIf (At.nam fun _=>y1g uG)
    ·exact At.bot
   |_=>exact At.bot
  |_=>exact At.bot
 |_=>exact At.bot
theorem z0H{r:Nat}(h:zQ s'.ar r=zQ s.ar r)(g:Nat):s'.ob r g=s.ob r g:=by simp[St.ob,h]
theorem y9f{r:Nat}(h:zQ s'.ar r=zQ s.ar r):s'.gen r=s.gen r:=by simp[St.gen,h]
theorem y1j{r:Nat}(h:zQ s'.ar r=zQ s.ar r)(g:Nat):s'.live r g=s.live r g:=by simp[St.live,z0H h]
theorem vY{dst:Option Nat}{v:Sv}(hn:s'.n=s.n):z5W s' dst v=z5W s dst v:=by funext k;cases dst<;>simp[z5W,hn]
theorem z0l{dst:Option Nat}{ob:Ob}{v:Nat→Nat→Sv}(hn:s'.n=s.n)(hd:∀d,dst=some d→zQ s'.ar d=zQ s.ar d):newAr s' dst ob v=newAr s dst ob v:=by
 funext k;cases dst with
 |none=>rfl
 |some d=>simp[newAr,hn,y9f (hd d rfl)]
theorem y4n{dst:Option Nat}{r g:Nat}{ob:Ob}{v:Sv}(hn:s'.n=s.n):v4C s' dst r g ob v=v4C s dst r g ob v:=by funext k;cases dst<;>simp[v4C,hn]
theorem y4i{dst:Option Nat}{cs:List Sv}(hn:s'.n=s.n)(hh:s'.h=s.h):newHp s' dst cs=newHp s dst cs:=by funext k;cases dst<;>simp[newHp,hn,hh]
theorem v1h{t:TypeId}{v:Sv}{k:Sv→Prop}(ha:∀r∈jB v,zQ s'.ar r=zQ s.ar r)(hh:hpS v=true→s'.h=s.h)(hw:∀id off,v=.hp id off→(∃cs n xs,s.h[id]?=some cs∧cs[off]?=some (.own n xs))→s'.hv=s.hv):kLoad P t s' v k=kLoad P t s v k:=by
 cases v with
 |ref r g off=>simp[kLoad,z0H (ha r (by simp[jB]))]
 |rref r g m i off=>simp[kLoad,z0H (ha r (by simp[jB]))]
 |hp id off=>
  have h1:=hh rfl;simp only[kLoad,h1];cases hc:s.h[id]? with
  |none=>rfl
  |some cs=>
   have hl:∀v,cs[off]?=some v→y1H id off s'.hv v=y1H id off s.hv v:=fun v hv=>by
    cases v with
    |own n xs=>simp[y1H,hw id off rfl ⟨cs,n,xs,hc,hv⟩]
    |_=>rfl
   have:∀n,kBoxT P t n cs off (y1H id off s'.hv) k=kBoxT P t n cs off (y1H id off s.hv) k:=fun n=>by
    unfold kBoxT;congr 1;cases hv:cs[off]? with
    |none=>rfl
    |some v=>show k _=k _;rw[hl v hv]
   show(kOpt (z0t P t) fun n=>kBoxT P t n cs off (y1H id off s'.hv) k)=kOpt (z0t P t) fun n=>kBoxT P t n cs off (y1H id off s.hv) k;simp only[this]
 |_=>rfl
theorem y9p{t:TypeId}{a v:Sv}{k:uA→Prop}(ha:∀r∈jB a,zQ s'.ar r=zQ s.ar r)(hv:∀r∈jB v,zQ s'.ar r=zQ s.ar r)(hh:s'.h=s.h):z8a P t s' a v k=z8a P t s a v k:=by
 cases a with
 |ref r g off=>
  cases v with
  |cells ws=>
   have hok:∀c∈ws,y4l s' c=y4l s c:=fun c hc=>by
    cases c with
    |row k g'=>simp only[y4l,z0H (hv k (by simp only[jB,List.mem_flatMap];exact⟨_,hc,by simp[v8a]⟩))]
    |_=>rfl
   have hall:ws.all (y4l s')=ws.all (y4l s):=by
    rw[Bool.eq_iff_iff,List.all_eq_true,List.all_eq_true];exact⟨fun h c hc=>by rw[←hok c hc];exact h c hc,fun h c hc=>by rw[hok c hc];exact h c hc⟩
   simp[z8a,z0H (ha r (by simp[jB])),hall]
  |_=>simp[z8a,z0H (ha r (by simp[jB]))]
 |rref r g m i off=>simp[z8a,z0H (ha r (by simp[jB]))]
 |hp id off=>
  cases v with
  |right r g m xs=>simp[z8a,hh,z0H (hv r (by simp[jB]))]
  |_=>simp[z8a,hh]
 |_=>rfl
theorem y2r{t:TypeId}{v:Sv}{f:Nat}{k:Sv→Prop}(ha:∀r∈jB v,zQ s'.ar r=zQ s.ar r):kFieldAddr P t s' v f k=kFieldAddr P t s v f k:=by
 cases v with
 |ref r g off=>simp[kFieldAddr,y1j (ha r (by simp[jB]))]
 |rref r g m i off=>simp[kFieldAddr,y1j (ha r (by simp[jB]))]
 |_=>rfl
theorem y2s{t:TypeId}{v i:Sv}{k:Sv→Prop}(ha:∀r∈jB v,zQ s'.ar r=zQ s.ar r):kIndexAddr P t s' v i k=kIndexAddr P t s v i k:=by
 cases v with
 |row r g=>simp[kIndexAddr,z0H (ha r (by simp[jB]))]
 |ref r g off=>simp[kIndexAddr,z0H (ha r (by simp[jB]))]
 |_=>rfl
theorem v3m{t:TypeId}{v:Sv}{k:Sv→Prop}(ha:∀r∈jB v,zQ s'.ar r=zQ s.ar r):kLen P t s' v k=kLen P t s v k:=by
 unfold kLen;split
 ·cases v with
  |row r g=>simp[z0H (ha r (by simp[jB]))]
  |_=>rfl
 ·rfl
 ·rfl
theorem y1L{dst:Option Nat}{rs:List Sv}{h:Option H}(hn:s'.n=s.n)(hd:∀d,dst=some d→zQ s'.ar d=zQ s.ar d):z5i s' dst rs h=z5i s dst rs h:=by
 funext k;unfold z5i;split
 ·rw[z0l hn hd]
 ·rw[z0l hn hd]
 ·simp only[z0l hn hd]
 ·rw[vY hn]
 ·rw[vY hn]
theorem v1g{c:Cx}{dst:Option Nat}{f:FuncId}{vs:List Sv}(hn:s'.n=s.n)(hd:∀d,dst=some d→zQ s'.ar d=zQ s.ar d)(hh:c.pur f=false→s'.h=s.h):y5l c s' dst f vs=y5l c s dst f vs:=by
 funext k;unfold y5l;cases hp:c.pur f with
 |true=>simp only[y1L hn hd];rfl
 |false=>simp only[y1L hn hd,hh hp]
theorem y9o{t:TypeId}{dst:Option Nat}{v:Sv}{lo hi mx:Option Sv}{k:uA→Prop}(hn:s'.n=s.n)(hd:∀d,dst=some d→zQ s'.ar d=zQ s.ar d)(ha:∀r∈jB v,zQ s'.ar r=zQ s.ar r):
  y1G P t s' dst v lo hi mx k=y1G P t s dst v lo hi mx k:=by
 unfold y1G;split
 ·simp only[vY hn]
 ·have h2:∀xs,y7e s' dst lo hi xs k=y7e s dst lo hi xs k:=fun xs=>by simp only[y7e,vY hn]
  have h3:∀n xs,y7f n s' dst lo hi mx xs k=y7f n s dst lo hi mx xs k:=fun n xs=>by simp only[y7f,z0l hn hd]
  simp only[h2,h3]
 ·cases v with
  |ref r g off=>
   cases mx<;>cases hi<;>first|rfl|simp only[z0H (ha r (by simp[jB])),vY hn]
  |_=>rfl
 ·rfl
theorem y7a{t:TypeId}{rw:Bool}{dst:Option Nat}{v x:Sv}{k:uA→Prop}(hn:s'.n=s.n)(hd:∀d,dst=some d→zQ s'.ar d=zQ s.ar d)(ha:∀r∈jB v,zQ s'.ar r=zQ s.ar r)(hh:s'.h=s.h∧s'.hv=s.hv):
  z9D P t s' rw dst v x k=z9D P t s rw dst v x k:=by
 cases v with
 |right r g n xs=>simp only[z9D,z0H (ha r (by simp[jB])),z0l hn hd,y4n hn,hh.1,hh.2]
 |_=>simp only[z9D,z0l hn hd,y4n hn,hh.1,hh.2]
theorem y0k(ps:List (Nat×Nat×Option Ob)){a b:List (Nat×Nat×Option Ob)}{r:Nat}(h:zQ a r=zQ b r):zQ (ps++a) r=zQ (ps++b) r:=by
 induction ps with
 |nil=>exact h
 |cons x ps ih=>
  obtain⟨j,v⟩:=x;rw[List.cons_append,List.cons_append,zN,zN,ih]
theorem z8w:∀{vs:List Sv} {s s':St} {G G':List (Nat×Nat×Option Ob)→List Sv→Prop},(∀r∈z4Q vs,zQ s'.ar r=zQ s.ar r)→(∀ps us,(∀x∈z4Q us,x∈z4Q vs)→G' ps us=G ps us)→v3l s' vs G'=v3l s vs G
 |[],s,s',G,G',_,h=>h [] [] (fun _ h=>h)
 |v::r,s,s',G,G',ha,h=>by
  have har:∀x∈z4Q r,zQ s'.ar x=zQ s.ar x:=fun x hx=>ha x (List.mem_append_right _ hx);by_cases hrow:∃a g,v=.row a g
  ·obtain⟨a,g,rfl⟩:=hrow;have ho:s'.ob a g=s.ob a g:=z0H (ha a (by simp[z4Q,jB])) g;show kOpt (s'.ob a g) _=kOpt (s.ob a g) _;rw[ho];congr 1;funext ob;cases ob with
   |row n xs=>
    refine z8w (fun x hx=>y0k [(a,g,none)] (har x hx)) (fun ps us hu=>h _ _ fun x hx=>?_);simp only[z4Q,List.flatMap_cons,jB,List.nil_append]at hx;exact List.mem_append_right _ (hu x hx)
   |_=>rfl
  ·have e:∀(s:St) (G:List (Nat×Nat×Option Ob)→List Sv→Prop),v3l s (v::r) G=v3l s r fun ps us=>G ps (v::us):=fun s G=>by
    cases v with
    |row a g=>exact absurd ⟨a,g,rfl⟩ hrow
    |_=>rfl
   rw[e,e];refine z8w har (fun ps us hu=>h _ _ fun x hx=>?_);simp only[z4Q,List.flatMap_cons]at hx ⊢;rcases List.mem_append.1 hx with hx|hx
   ·exact List.mem_append_left _ hx
   ·exact List.mem_append_right _ (hu x hx)
theorem y7g{t:TypeId}{a v:Sv}{k:uA→Prop}(ha:∀r∈jB a,zQ s'.ar r=zQ s.ar r)(hv:∀r∈jB v,zQ s'.ar r=zQ s.ar r)(hh:s'.h=s.h):y4b P t s' a v k=y4b P t s a v k:=by
 refine z8w (fun r hr=>hv r (by simpa [z4Q]using hr)) fun ps us hu=>?_;split
 ·rename_i y
  exact y9p (fun r hr=>y0k ps (ha r hr)) (fun r hr=>y0k ps (hv r (by simpa [z4Q]using hu r (by simpa [z4Q]using hr)))) hh
 ·rfl
theorem y9l{c:Cx}{dst:Option Nat}{f:FuncId}{first vs cap:List Sv}{k:uA→Prop}(hn:s'.n=s.n)(hd:∀d,dst=some d→zQ s'.ar d=zQ s.ar d)(hv:∀r∈z4Q vs,zQ s'.ar r=zQ s.ar r)(hh:c.pur f=false→s'.h=s.h):
  y9k c s' dst f first vs cap k=y9k c s dst f first vs cap k:=
 z8w hv fun ps us _=>by rw[v1g (s:=s.app ⟨[],ps,none⟩) (s':=s'.app ⟨[],ps,none⟩) hn (fun d h=>y0k ps (hd d h)) hh]
structure Agree(f:FP)(s s':St):Prop where
 n:s'.n=s.n
 get:∀i∈f.rs,s'.get i=s.get i
 ar:∀k∈f.ra,zQ s'.ar k=zQ s.ar k
 h:f.rh=true→s'.h=s.h∧s'.hv=s.hv
 d:f.rd=true→s'.h=s.h
theorem y5E{c:Cx}{ops:Array Oper}{o:Oper}(A:Agree (y0f c ops o s) s s')(k:uA→Prop):y8X c o s' k=y8X c o s k:=by
 have hop:∀x∈o.op.operands.toList,opv s' x=opv s x:=fun x hx=>by
  cases x with
  |tmp t=>exact A.get t (by simp only[y0f];exact List.mem_append_left _ (List.mem_filterMap.2 ⟨_,hx,rfl⟩))
  |_=>rfl
 have hn:=A.n;have hd:∀d,o.dst=some d→zQ s'.ar d=zQ s.ar d:=fun d h=>A.ar d (by simp[y0f,h]);have ha:∀x∈o.op.operands.toList,∀r∈jB (opv s x),zQ s'.ar r=zQ s.ar r:=fun x hx r hr=>A.ar r (by simp only[y0f];exact z5x hx hr);have hh:v4y o=true→∀x∈o.op.operands.toList,hpS (opv s x)=true→s'.h=s.h:=fun hm x hx h=>A.d (by simp only[y0f,y6U hx h,hm,Bool.true_and,Bool.true_or]);have h2:wN c s o=2→s'.h=s.h∧s'.hv=s.hv:=fun h=>A.h (by simp[y0f,h])
 have mapc:∀xs:List Operand,(∀x∈xs,x∈o.op.operands.toList)→xs.map (opv s')=xs.map (opv s):=fun xs h=>List.map_congr_left fun x hx=>hop x (h x hx);have optc:∀x:Option Operand,(∀y,x=some y→y∈o.op.operands.toList)→x.map (opv s')=x.map (opv s):=fun x h=>by
  cases x with
  |none=>rfl
  |some y=>simp[hop y (h y rfl)]
 unfold y8X;cases ho:o.op with
 |move x=>simp only[hop x (by simp[ho,Op.operands]),vY hn]
 |assign x=>simp only[hop x (by simp[ho,Op.operands]),vY hn]
 |pick x a b=>simp only[hop x (by simp[ho,Op.operands]),hop a (by simp[ho,Op.operands]),hop b (by simp[ho,Op.operands]),vY hn]
 |alloc t=>
  cases hd':o.dst with
  |none=>rfl
  |some d=>
   simp only[];rw[←hd'];cases hg:c.glob d with
   |true=>
    have hc:wN c s o=2:=by simp[wN,ho,hd',hg]
    simp only[y4i hn (h2 hc).1];rfl
   |false=>simp only[z0l hn hd];rfl
 |box t v=>
  cases hd':o.dst with
  |none=>rfl
  |some d=>
   simp only[hop v (by simp[ho,Op.operands])];rw[←hd'];cases hg:c.glob d with
   |true=>
    have hc:wN c s o=2:=by simp[wN,ho,hd',hg]
    simp only[y4i hn (h2 hc).1];rfl
   |false=>simp only[z0l hn hd];rfl
 |build t ps=>
  have:(ps.toList.map fun(i,x)=>(i,opv s' x))=ps.toList.map fun(i,x)=>(i,opv s x):=List.map_congr_left fun⟨i,x⟩ hx=>by
   show(i,opv s' x)=(i,opv s x);rw[hop x (by simp[ho,Op.operands];exact⟨i,by simpa using hx⟩)]
  simp only[this,vY hn]
 |buildSlice t len ps=>
  have:(ps.toList.map fun(i,x)=>(i,opv s' x))=ps.toList.map fun(i,x)=>(i,opv s x):=List.map_congr_left fun⟨i,x⟩ hx=>by
   show(i,opv s' x)=(i,opv s x);rw[hop x (by simp[ho,Op.operands];exact⟨i,by simpa using hx⟩)]
  simp only[this,z0l hn hd]
 |load t a=>simp only[hop a (by simp[ho,Op.operands]),vY hn,v1h (ha a (by simp[ho,Op.operands])) (hh (by simp[v4y,ho]) a (by simp[ho,Op.operands])) (fun id off hv ⟨cs,n,xs,h1,h2⟩=>(A.h (by
   have hs:v4V s o=false:=by simp[v4V,ho,hv,h1,h2]
   have hr:v6o c s o=false:=by simp[v6o,ho]
   have hu:=y6U (s:=s) (o:=o) (x:=a) (by simp[ho,Op.operands]) (by rw[hv];rfl);simp[y0f,hs,hr,hu,v4y,ho])).2)]
 |store t a v=>
  have hc:wN c s o=2:=by simp[wN,ho]
  simp only[hop a (by simp[ho,Op.operands]),hop v (by simp[ho,Op.operands]),y7g (ha a (by simp[ho,Op.operands])) (ha v (by simp[ho,Op.operands])) (h2 hc).1]
 |nilCheck x=>
  simp only[hop x (by simp[ho,Op.operands])];have:=ha x (by simp[ho,Op.operands]);split
  ·simp only[vY hn]
  ·rename_i r g f h
   rw[h]at this;simp only[vY hn,y1j (this r (by simp[jB]))]
  ·simp only[vY hn]
  ·simp only[vY hn]
  ·rfl
 |binOp op t x y z=>cases op<;>simp only[hop x (by simp[ho,Op.operands]),hop y (by simp[ho,Op.operands]),vY hn]
 |unOp op t x=>cases op<;>simp only[hop x (by simp[ho,Op.operands]),vY hn]
 |convert src dst x=>simp only[hop x (by simp[ho,Op.operands]),vY hn]
 |makeFunc f first cap=>
  have h1:=mapc first.toList (fun x hx=>by simp[ho,Op.operands];exact .inl (by simpa using hx))
  have h2:=mapc cap.toList (fun x hx=>by simp[ho,Op.operands];exact .inr (by simpa using hx));simp only[h1,h2,vY hn]
 |makeSlice t l m=>simp only[hop l (by simp[ho,Op.operands]),hop m (by simp[ho,Op.operands]),z0l hn hd]
 |slice t x lo hi mx=>
  have e1:=optc lo (fun y h=>by subst h;simp[ho,Op.operands]);have e2:=optc hi (fun y h=>by subst h;simp[ho,Op.operands]);have e3:=optc mx (fun y h=>by subst h;simp[ho,Op.operands]);simp only[hop x (by simp[ho,Op.operands]),e1,e2,e3,y9o hn hd (ha x (by simp[ho,Op.operands]))]
 |fieldAddr t x f=>simp only[hop x (by simp[ho,Op.operands]),vY hn,y2r (ha x (by simp[ho,Op.operands]))]
 |field t x f=>simp only[hop x (by simp[ho,Op.operands]),vY hn]
 |indexAddr t x i=>simp only[hop x (by simp[ho,Op.operands]),hop i (by simp[ho,Op.operands]),vY hn,y2s (ha x (by simp[ho,Op.operands]))]
 |index t x i=>simp only[hop x (by simp[ho,Op.operands]),hop i (by simp[ho,Op.operands]),vY hn]
 |extract t i=>simp only[hop t (by simp[ho,Op.operands]),vY hn]
 |call cl=>
  have hargs:∀x∈cl.args.toList,x∈o.op.operands.toList:=fun x hx=>by simp[ho,Op.operands,Call.operands];exact .inr (by simpa using hx)
  simp only[];unfold v4o;cases hcal:cl.callee with
  |value f=>
   have hf:f∈o.op.operands.toList:=by simp[ho,Op.operands,Call.operands,hcal]
   simp only[hop f hf,mapc cl.args.toList hargs];cases hfv:opv s f with
   |fn g first cap=>
    simp only[];exact y9l hn hd (fun r hr=>by
     obtain⟨v,hv,hk⟩:=List.mem_flatMap.1 hr;obtain⟨x,hx,rfl⟩:=List.mem_map.1 hv;exact ha x (hargs x hx) r hk) (fun hp=>by
      cases hr:c.ro g with
      |false=>exact(h2 (by simp[wN,ho,hcal,hfv,hp,hr])).1
      |true=>exact A.d (by simp[y0f,v6o,ho,hcal,hfv,hp,hr]))
   |_=>rfl
  |builtin b=>
   cases b with
   |len=>
    simp only[];split
    ·rename_i x t hx ht
     have hm:=hargs x (by simp[hx]);simp only[hop x hm,vY hn,v3m (ha x hm)]
    ·rfl
   |append=>
    have hc:wN c s o=2:=by simp[wN,ho,hcal]
    simp only[];split
    ·rename_i x y t u hx ht
     have hm:=hargs x (by simp[hx]);simp only[hop x hm,hop y (hargs y (by simp[hx])),y7a hn hd (ha x hm) (h2 hc)]
    ·rfl
   |max=>
    simp only[];split
    ·rename_i x y hx
     simp only[hop x (hargs x (by simp[hx])),hop y (hargs y (by simp[hx])),vY hn]
    ·rfl
   |min=>
    simp only[];split
    ·rename_i x y hx
     simp only[hop x (hargs x (by simp[hx])),hop y (hargs y (by simp[hx])),vY hn]
    ·rfl
   |_=>rfl
  |_=>rfl
 |_=>rfl
end
end Nt

