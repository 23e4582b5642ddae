import Derived.Test.YtcpblelppecabaaGreatFwV
namespace Nt
open Go
set_option linter.unusedVariables false
set_option linter.unusedSimpArgs false
section
variable {P:Program} {s s':St}
theorem v8h(c:Cx)(ops:Array Oper)(o:Oper)(s:St):At (y1Y (y2i c ops o s) s) (v2G c o s):=by
 have hdst:∀d,o.dst=some d→d∈(y2i c ops o s).ws:=fun d hd=>by simp[y2i,hd]
 have y3t:∀{F:(uL→Prop)→Prop},At (Wi o.dst [] false) F→At (y1Y (y2i c ops o s) s) F:=fun h=>h.weaken fun p hp=>hp.within hdst (by simp) (by simp);have hks:∀{n:Nat},wW c s o=n→n≠0→(y2i c ops o s).wa=(z5l o).flatMap (fun i=>jO (s.get i))++o.dst.toList:=fun h hn=>by
  have:Nat.beq (wW c s o) 0=false:=y6d (by omega);simp[y2i,this]
 have hdk:∀d,o.dst=some d→d∈(z5l o).flatMap (fun i=>jO (s.get i))++o.dst.toList:=fun d hd=>by simp[hd]
 have fin1:∀{F:(uL→Prop)→Prop} {n:Nat},wW c s o=n→n≠0→At (Wi o.dst ((z5l o).flatMap (fun i=>jO (s.get i))++o.dst.toList) false) F→At (y1Y (y2i c ops o s) s) F:=fun h hn g=>
  g.weaken fun p hp=>hp.within hdst (fun k hk=>by rw[hks h hn];exact hk) (by simp)
 have fin2:∀{F:(uL→Prop)→Prop},wW c s o=2→(y2i c ops o s).wh=true→At (Wi o.dst ((z5l o).flatMap (fun i=>jO (s.get i))++o.dst.toList) true) F→At (y1Y (y2i c ops o s) s) F:=fun h hw g=>
  g.weaken fun p hp=>hp.within hdst (fun k hk=>by rw[hks h (by omega)];exact hk) (fun _=>hw)
 unfold v2G;cases ho:o.op with
 |move x=>exact y3t uT
 |assign x=>exact y3t uT
 |pick x a b=>exact y3t (At.brS uT uT)
 |alloc t=>
  refine At.kOpt fun z=>At.kIf ?_;cases hd:o.dst with
  |none=>exact At.bot
  |some d=>
   dsimp only;rw[←hd];cases hg:c.glob d with
   |true=>
    have hc:wW c s o=2:=by simp[wW,ho,hd,hg]
    exact fin2 hc (by simp[y2i,hc,ho]) y9q
   |false=>
    have hc:wW c s o=1:=by simp[wW,ho,hd,hg]
    show At _ (fun k=>match c.P.underlying t with
     |some (.array _ e)=>kOpt (z0L c.P e) fun n=>kIf (Nat.beq n 1) (kOpt (z5Y z.cells.toList) fun ds=>newAr s o.dst (.row 1 ds) (fun d g=>.ref d g 0) k)
     |some (.struct _)=>match z5Y z.cells.toList with
      |some ds=>newAr s o.dst (.agg (.agg ds)) (fun d g=>.ref d g 0) k
      |none=>newAr s o.dst (.box (z.cells.toList.map z3I)) (fun d g=>.ref d g 0) k
     |_=>newAr s o.dst (.box (z.cells.toList.map z3I)) (fun d g=>.ref d g 0) k)
    split
    ·exact At.kOpt fun n=>At.kIf (At.kOpt fun ds=>fin1 hc (by simp) (gN hdk))
    ·split
     ·exact fin1 hc (by simp) (gN hdk)
     ·exact fin1 hc (by simp) (gN hdk)
    ·exact fin1 hc (by simp) (gN hdk)
 |box t v=>
  cases hd:o.dst with
  |none=>exact At.bot
  |some d=>
   dsimp only;rw[←hd];cases hg:c.glob d with
   |true=>
    have hc:wW c s o=2:=by simp[wW,ho,hd,hg]
    simp only[cond_true];exact At.cond (At.kOpt fun n=>At.kBld fun ws=>fin2 hc (by simp[y2i,hc,ho]) y9q) (At.kKeep fun w=>fin2 hc (by simp[y2i,hc,ho]) y9q)
   |false=>
    have hc:wW c s o=1:=by simp[wW,ho,hd,hg]
    simp only[cond_false];exact At.cond (At.kOpt fun n=>At.kD fun x=>At.kWhole (fin1 hc (by simp) (gN hdk))) (At.kKeep fun w=>fin1 hc (by simp) (gN hdk))
 |build t ps=>
  dsimp only;split
  ·exact At.kIf (At.kOpt fun z=>At.kOpt fun cs=>At.kFill fun cs=>y3t uT)
  ·exact At.bot
 |buildSlice t len ps=>
  have hc:wW c s o=1:=by simp[wW,ho]
  exact At.kOpt fun e=>At.kOpt fun n=>At.kOpt fun z=>At.kIf (At.kIf (At.kElems fun xs=>fin1 hc (by simp) (gN hdk)))
 |load t a=>exact At.kLoad fun v=>y3t uT
 |store t a v=>
  have hc:wW c s o=2:=by simp[wW,ho]
  cases hd:o.dst with
  |some d=>exact At.bot
  |none=>
   have h:=v6G (P:=c.P) (s:=s) (t:=t) (a:=opv s a) (v:=opv s v) (K:=(z5l o).flatMap (fun i=>jO (s.get i))++o.dst.toList) (b:=(z5l o).any fun i=>v9T (s.get i))
    (fun k hk=>z6Q (by simp[ho,Op.operands]) hk) (fun k hk=>z6Q (by simp[ho,Op.operands]) hk) (fun h=>v0j (by simp[ho,Op.operands]) h)
   refine h.weaken fun p hp=>hp.within (by simp) (fun k hk=>by rw[hks hc (by simp)];exact hk) (fun h=>by simp[y2i,hc,h])
 |nilCheck x=>
  dsimp only;split<;>first|exact y3t uT|exact At.kIf (y3t uT)|exact At.bot
 |binOp op t x y z=>
  cases op<;>first|exact At.kEqOp fun b=>y3t uT|exact At.kD fun a=>At.kD fun b=>At.kBin fun r=>y3t uT
 |unOp op t x=>
  refine At.kD fun a=>?_;cases op<;>first|exact At.kI fun i n=>At.nam fun _=>y3t uT|(cases a<;>first|exact y3t uT|exact At.bot)|exact At.bot
 |convert src dst x=>
  dsimp only;split
  ·exact At.kD fun a=>At.kI fun _ n=>At.nam fun _=>y3t uT
  ·exact At.kD fun a=>At.kStr fun u=>y3t uT
  ·split
   ·exact At.kD fun a=>At.kSl fun xs=>At.toBytes fun u=>y3t uT
   ·exact At.bot
  ·exact At.bot
 |makeFunc f first cap=>
  cases f<;>first|exact At.kArgs fun xs=>At.kArgs fun ys=>y3t uT|exact At.bot
 |makeSlice t l m=>
  have hc:wW c s o=1:=by simp[wW,ho]
  exact At.kOpt fun e=>At.kOpt fun n=>At.kOpt fun b=>At.kOpt fun z=>At.kD fun lx=>At.kI fun _ l=>At.kD fun mx=>At.kI fun _ m=>At.and (At.cond
   (At.kOpt fun ds=>At.kIf (At.nam fun _=>fin1 hc (by simp) (gN hdk))) (At.kOpt fun x=>At.kIf (At.nam fun _=>fin1 hc (by simp) (gN hdk))))
 |slice t x lo hi mx=>
  have hc:wW c s o=1:=by simp[wW,ho]
  exact fin1 hc (by simp) (v8i (fun k hk=>z6Q (by simp[ho,Op.operands]) hk) hdk)
 |fieldAddr t x f=>exact At.kFieldAddr fun v=>y3t uT
 |field t x f=>exact At.kField fun v=>y3t uT
 |indexAddr t x i=>exact At.kIndexAddr fun v=>y3t uT
 |index t x i=>
  dsimp only;split
  ·exact At.kIndex fun v=>y3t uT
  ·exact At.bot
 |extract t i=>
  dsimp only;split
  ·exact At.kOpt fun v=>y3t uT
  ·exact At.bot
 |call cl=>
  dsimp only;unfold v8N;cases hcal:cl.callee with
  |value f=>
   dsimp only;cases hf:opv s f with
   |fn g first cap=>
    have hkeys:∀k∈z6e (cl.args.toList.map (opv s)),k∈(z5l o).flatMap (fun i=>jO (s.get i))++o.dst.toList:=fun k hk=>by
     obtain⟨v,hv,hk⟩:=List.mem_flatMap.1 hk;obtain⟨x,hx,rfl⟩:=List.mem_map.1 hv;exact z6Q (by simp[ho,Op.operands,Call.operands];exact .inr (by simpa using hx)) hk
    cases hp:c.pur g with
    |true=>
     have hc:wW c s o=1:=by simp[wW,ho,hcal,hf,hp]
     exact fin1 hc (by simp) (v1t hdk hkeys (by simp[hp]))
    |false=>
     cases hr:c.ro g with
     |true=>
      have hc:wW c s o=1:=by simp[wW,ho,hcal,hf,hp,hr]
      have hro:w1s c s o=true:=by simp[w1s,ho,hcal,hf,hp,hr]
      exact(v1u (s:=s) hdk hkeys hp hr).weaken fun p q=>⟨fun x hx=>hdst _ (q.1.1 x hx),fun x hx=>by rw[hks hc (by simp)];exact q.1.2.1 x hx,fun _=>.inr ⟨by simp[y2i,hro],q.2⟩⟩
     |false=>
     have hc:wW c s o=2:=by simp[wW,ho,hcal,hf,hp,hr]
     refine fin2 hc ?_ (v1t hdk hkeys (by simp));simp only[y2i,hc,ho];cases cl;simp at hcal;simp[hcal]
   |_=>exact At.bot
  |builtin b=>
   cases b with
   |len=>
    dsimp only;split
    ·exact At.kLen fun v=>y3t uT
    ·exact At.bot
   |append=>
    have hc:wW c s o=2:=by simp[wW,ho,hcal]
    dsimp only;split
    ·rename_i x y t u hx ht
     split
     ·have hmem:x∈o.op.operands.toList:=by simp[ho,Op.operands,Call.operands,hx]
      have h:=v6F (rw:=match o.dst with|some d=>c.glob d|none=>false) (P:=c.P) (s:=s) (t:=t) (dst:=o.dst) (v:=opv s x) (x:=opv s y) (K:=(z5l o).flatMap (fun i=>jO (s.get i))++o.dst.toList) (b:=(z5l o).any fun i=>v9T (s.get i))
       hdk (fun k hk=>z6Q hmem hk) (fun h=>v0j hmem h)
      exact h.weaken fun p hp=>hp.within hdst (fun k hk=>by rw[hks hc (by simp)];exact hk) (fun h=>by simp[y2i,hc,h])
     ·exact At.bot
    ·exact At.bot
   |max=>
    dsimp only;split
    ·exact At.kD fun a=>At.kD fun b=>At.kI fun _ _=>At.kI fun _ _=>At.kIf (At.nam fun _=>y3t uT)
    ·exact At.bot
   |min=>
    dsimp only;split
    ·exact At.kD fun a=>At.kD fun b=>At.kI fun _ _=>At.kI fun _ _=>At.kIf (At.nam fun _=>y3t uT)
    ·exact At.bot
   |_=>exact At.bot
  |_=>exact At.bot
 |_=>exact At.bot
theorem z1i{r:Nat}(h:zV s'.ar r=zV s.ar r)(g:Nat):s'.ob r g=s.ob r g:=by simp[St.ob,h]
theorem v2R{r:Nat}(h:zV s'.ar r=zV s.ar r):s'.gen r=s.gen r:=by simp[St.gen,h]
theorem y3w{r:Nat}(h:zV s'.ar r=zV s.ar r)(g:Nat):s'.live r g=s.live r g:=by simp[St.live,z1i h]
theorem wF{dst:Option Nat}{v:Sv}(hn:s'.n=s.n):z7s s' dst v=z7s s dst v:=by funext k;cases dst<;>simp[z7s,hn]
theorem z0D{dst:Option Nat}{ob:Ob}{v:Nat→Nat→Sv}(hn:s'.n=s.n)(hd:∀d,dst=some d→zV s'.ar d=zV s.ar d):newAr s' dst ob v=newAr s dst ob v:=by
 funext k;cases dst with
 |none=>rfl
 |some d=>simp[newAr,hn,v2R (hd d rfl)]
theorem y7d{dst:Option Nat}{r g:Nat}{ob:Ob}{v:Sv}(hn:s'.n=s.n):v9e s' dst r g ob v=v9e s dst r g ob v:=by funext k;cases dst<;>simp[v9e,hn]
theorem y6Y{dst:Option Nat}{cs:List Sv}(hn:s'.n=s.n)(hh:s'.h=s.h):newHp s' dst cs=newHp s dst cs:=by funext k;cases dst<;>simp[newHp,hn,hh]
theorem v5j{t:TypeId}{v:Sv}{k:Sv→Prop}(ha:∀r∈jO v,zV s'.ar r=zV s.ar r)(hh:hpS v=true→s'.h=s.h)(hw:∀id off,v=.hp id off→(∃cs n xs,s.h[id]?=some cs∧cs[off]?=some (.own n xs))→s'.hv=s.hv):kLoad P t s' v k=kLoad P t s v k:=by
 cases v with
 |ref r g off=>simp[kLoad,z1i (ha r (by simp[jO]))]
 |rref r g m i off=>simp[kLoad,z1i (ha r (by simp[jO]))]
 |hp id off=>
  have h1:=hh rfl;simp only[kLoad,h1];cases hc:s.h[id]? with
  |none=>rfl
  |some cs=>
   have hl:∀v,cs[off]?=some v→y3X id off s'.hv v=y3X id off s.hv v:=fun v hv=>by
    cases v with
    |own n xs=>simp[y3X,hw id off rfl ⟨cs,n,xs,hc,hv⟩]
    |_=>rfl
   have:∀n,kBoxT P t n cs off (y3X id off s'.hv) k=kBoxT P t n cs off (y3X id off s.hv) k:=fun n=>by
    unfold kBoxT;congr 1;cases hv:cs[off]? with
    |none=>rfl
    |some v=>show k _=k _;rw[hl v hv]
   show(kOpt (z0L P t) fun n=>kBoxT P t n cs off (y3X id off s'.hv) k)=kOpt (z0L P t) fun n=>kBoxT P t n cs off (y3X id off s.hv) k;simp only[this]
 |_=>rfl
theorem v3b{t:TypeId}{a v:Sv}{k:uL→Prop}(ha:∀r∈jO a,zV s'.ar r=zV s.ar r)(hv:∀r∈jO v,zV s'.ar r=zV s.ar r)(hh:s'.h=s.h):z9M P t s' a v k=z9M P t s a v k:=by
 cases a with
 |ref r g off=>
  cases v with
  |cells ws=>
   have hok:∀c∈ws,y7b s' c=y7b s c:=fun c hc=>by
    cases c with
    |row k g'=>simp only[y7b,z1i (hv k (by simp only[jO,List.mem_flatMap];exact⟨_,hc,by simp[w3q]⟩))]
    |_=>rfl
   have hall:ws.all (y7b s')=ws.all (y7b s):=by
    rw[Bool.eq_iff_iff,List.all_eq_true,List.all_eq_true];exact⟨fun h c hc=>by rw[←hok c hc];exact h c hc,fun h c hc=>by rw[hok c hc];exact h c hc⟩
   simp[z9M,z1i (ha r (by simp[jO])),hall]
  |_=>simp[z9M,z1i (ha r (by simp[jO]))]
 |rref r g m i off=>simp[z9M,z1i (ha r (by simp[jO]))]
 |hp id off=>
  cases v with
  |right r g m xs=>simp[z9M,hh,z1i (hv r (by simp[jO]))]
  |_=>simp[z9M,hh]
 |_=>rfl
theorem y4S{t:TypeId}{v:Sv}{f:Nat}{k:Sv→Prop}(ha:∀r∈jO v,zV s'.ar r=zV s.ar r):kFieldAddr P t s' v f k=kFieldAddr P t s v f k:=by
 cases v with
 |ref r g off=>simp[kFieldAddr,y3w (ha r (by simp[jO]))]
 |rref r g m i off=>simp[kFieldAddr,y3w (ha r (by simp[jO]))]
 |_=>rfl
theorem y4T{t:TypeId}{v i:Sv}{k:Sv→Prop}(ha:∀r∈jO v,zV s'.ar r=zV s.ar r):kIndexAddr P t s' v i k=kIndexAddr P t s v i k:=by
 cases v with
 |row r g=>simp[kIndexAddr,z1i (ha r (by simp[jO]))]
 |ref r g off=>simp[kIndexAddr,z1i (ha r (by simp[jO]))]
 |_=>rfl
theorem v7D{t:TypeId}{v:Sv}{k:Sv→Prop}(ha:∀r∈jO v,zV s'.ar r=zV s.ar r):kLen P t s' v k=kLen P t s v k:=by
 unfold kLen;split
 ·cases v with
  |row r g=>simp[z1i (ha r (by simp[jO]))]
  |_=>rfl
 ·rfl
 ·rfl
theorem y4c{dst:Option Nat}{rs:List Sv}{h:Option H}(hn:s'.n=s.n)(hd:∀d,dst=some d→zV s'.ar d=zV s.ar d):z6x s' dst rs h=z6x s dst rs h:=by
 funext k;unfold z6x;split
 ·rw[z0D hn hd]
 ·rw[z0D hn hd]
 ·simp only[z0D hn hd]
 ·rw[wF hn]
 ·rw[wF hn]
theorem v5i{c:Cx}{dst:Option Nat}{f:FuncId}{vs:List Sv}(hn:s'.n=s.n)(hd:∀d,dst=some d→zV s'.ar d=zV s.ar d)(hh:c.pur f=false→s'.h=s.h):y8d c s' dst f vs=y8d c s dst f vs:=by
 funext k;unfold y8d;cases hp:c.pur f with
 |true=>simp only[y4c hn hd];rfl
 |false=>simp only[y4c hn hd,hh hp]
theorem v3a{t:TypeId}{dst:Option Nat}{v:Sv}{lo hi mx:Option Sv}{k:uL→Prop}(hn:s'.n=s.n)(hd:∀d,dst=some d→zV s'.ar d=zV s.ar d)(ha:∀r∈jO v,zV s'.ar r=zV s.ar r):
  y3W P t s' dst v lo hi mx k=y3W P t s dst v lo hi mx k:=by
 unfold y3W;split
 ·simp only[wF hn]
 ·have h2:∀xs,v0s s' dst lo hi xs k=v0s s dst lo hi xs k:=fun xs=>by simp only[v0s,wF hn]
  have h3:∀n xs,v0t n s' dst lo hi mx xs k=v0t n s dst lo hi mx xs k:=fun n xs=>by simp only[v0t,z0D hn hd]
  simp only[h2,h3]
 ·cases v with
  |ref r g off=>
   cases mx<;>cases hi<;>first|rfl|simp only[z1i (ha r (by simp[jO])),wF hn]
  |_=>rfl
 ·rfl
theorem v0o{t:TypeId}{rw:Bool}{dst:Option Nat}{v x:Sv}{k:uL→Prop}(hn:s'.n=s.n)(hd:∀d,dst=some d→zV s'.ar d=zV s.ar d)(ha:∀r∈jO v,zV s'.ar r=zV s.ar r)(hh:s'.h=s.h∧s'.hv=s.hv):
  y1v P t s' rw dst v x k=y1v P t s rw dst v x k:=by
 cases v with
 |right r g n xs=>simp only[y1v,z1i (ha r (by simp[jO])),z0D hn hd,y7d hn,hh.1,hh.2]
 |_=>simp only[y1v,z0D hn hd,y7d hn,hh.1,hh.2]
theorem y2q(ps:List (Nat×Nat×Option Ob)){a b:List (Nat×Nat×Option Ob)}{r:Nat}(h:zV a r=zV b r):zV (ps++a) r=zV (ps++b) r:=by
 induction ps with
 |nil=>exact h
 |cons x ps ih=>
  obtain⟨j,v⟩:=x;rw[List.cons_append,List.cons_append,zP,zP,ih]
theorem y0l:∀{vs:List Sv} {s s':St} {G G':List (Nat×Nat×Option Ob)→List Sv→Prop},(∀r∈z6e vs,zV s'.ar r=zV s.ar r)→(∀ps us,(∀x∈z6e us,x∈z6e vs)→G' ps us=G ps us)→v7C s' vs G'=v7C s vs G
 |[],s,s',G,G',_,h=>h [] [] (fun _ h=>h)
 |v::r,s,s',G,G',ha,h=>by
  have har:∀x∈z6e r,zV s'.ar x=zV s.ar x:=fun x hx=>ha x (List.mem_append_right _ hx);by_cases hrow:∃a g,v=.row a g
  ·obtain⟨a,g,rfl⟩:=hrow;have ho:s'.ob a g=s.ob a g:=z1i (ha a (by simp[z6e,jO])) g;show kOpt (s'.ob a g) _=kOpt (s.ob a g) _;rw[ho];congr 1;funext ob;cases ob with
   |row n xs=>
    refine y0l (fun x hx=>y2q [(a,g,none)] (har x hx)) (fun ps us hu=>h _ _ fun x hx=>?_);simp only[z6e,List.flatMap_cons,jO,List.nil_append]at hx;exact List.mem_append_right _ (hu x hx)
   |_=>rfl
  ·have e:∀(s:St) (G:List (Nat×Nat×Option Ob)→List Sv→Prop),v7C s (v::r) G=v7C s r fun ps us=>G ps (v::us):=fun s G=>by
    cases v with
    |row a g=>exact absurd ⟨a,g,rfl⟩ hrow
    |_=>rfl
   rw[e,e];refine y0l har (fun ps us hu=>h _ _ fun x hx=>?_);simp only[z6e,List.flatMap_cons]at hx ⊢;rcases List.mem_append.1 hx with hx|hx
   ·exact List.mem_append_left _ hx
   ·exact List.mem_append_right _ (hu x hx)
theorem v0u{t:TypeId}{a v:Sv}{k:uL→Prop}(ha:∀r∈jO a,zV s'.ar r=zV s.ar r)(hv:∀r∈jO v,zV s'.ar r=zV s.ar r)(hh:s'.h=s.h):y6R P t s' a v k=y6R P t s a v k:=by
 refine y0l (fun r hr=>hv r (by simpa [z6e]using hr)) fun ps us hu=>?_;split
 ·rename_i y
  exact v3b (fun r hr=>y2q ps (ha r hr)) (fun r hr=>y2q ps (hv r (by simpa [z6e]using hu r (by simpa [z6e]using hr)))) hh
 ·rfl
theorem v2X{c:Cx}{dst:Option Nat}{f:FuncId}{first vs cap:List Sv}{k:uL→Prop}(hn:s'.n=s.n)(hd:∀d,dst=some d→zV s'.ar d=zV s.ar d)(hv:∀r∈z6e vs,zV s'.ar r=zV s.ar r)(hh:c.pur f=false→s'.h=s.h):
  v2W c s' dst f first vs cap k=v2W c s dst f first vs cap k:=
 y0l hv fun ps us _=>by rw[v5i (s:=s.app ⟨[],ps,none⟩) (s':=s'.app ⟨[],ps,none⟩) hn (fun d h=>y2q ps (hd d h)) hh]
structure Agree(f:FP)(s s':St):Prop where
 n:s'.n=s.n
 get:∀i∈f.rs,s'.get i=s.get i
 ar:∀k∈f.ra,zV s'.ar k=zV s.ar k
 h:f.rh=true→s'.h=s.h∧s'.hv=s.hv
 d:f.rd=true→s'.h=s.h
theorem y8w{c:Cx}{ops:Array Oper}{o:Oper}(A:Agree (y2i c ops o s) s s')(k:uL→Prop):v2G c o s' k=v2G c o s k:=by
 have hop:∀x∈o.op.operands.toList,opv s' x=opv s x:=fun x hx=>by
  cases x with
  |tmp t=>exact A.get t (by simp only[y2i];exact List.mem_append_left _ (List.mem_filterMap.2 ⟨_,hx,rfl⟩))
  |_=>rfl
 have hn:=A.n;have hd:∀d,o.dst=some d→zV s'.ar d=zV s.ar d:=fun d h=>A.ar d (by simp[y2i,h]);have ha:∀x∈o.op.operands.toList,∀r∈jO (opv s x),zV s'.ar r=zV s.ar r:=fun x hx r hr=>A.ar r (by simp only[y2i];exact z6Q hx hr);have hh:v8Y o=true→∀x∈o.op.operands.toList,hpS (opv s x)=true→s'.h=s.h:=fun hm x hx h=>A.d (by simp only[y2i,v0j hx h,hm,Bool.true_and,Bool.true_or]);have h2:wW c s o=2→s'.h=s.h∧s'.hv=s.hv:=fun h=>A.h (by simp[y2i,h])
 have mapc:∀xs:List Operand,(∀x∈xs,x∈o.op.operands.toList)→xs.map (opv s')=xs.map (opv s):=fun xs h=>List.map_congr_left fun x hx=>hop x (h x hx);have optc:∀x:Option Operand,(∀y,x=some y→y∈o.op.operands.toList)→x.map (opv s')=x.map (opv s):=fun x h=>by
  cases x with
  |none=>rfl
  |some y=>simp[hop y (h y rfl)]
 unfold v2G;cases ho:o.op with
 |move x=>simp only[hop x (by simp[ho,Op.operands]),wF hn]
 |assign x=>simp only[hop x (by simp[ho,Op.operands]),wF hn]
 |pick x a b=>simp only[hop x (by simp[ho,Op.operands]),hop a (by simp[ho,Op.operands]),hop b (by simp[ho,Op.operands]),wF hn]
 |alloc t=>
  cases hd':o.dst with
  |none=>rfl
  |some d=>
   simp only[];rw[←hd'];cases hg:c.glob d with
   |true=>
    have hc:wW c s o=2:=by simp[wW,ho,hd',hg]
    simp only[y6Y hn (h2 hc).1];rfl
   |false=>simp only[z0D hn hd];rfl
 |box t v=>
  cases hd':o.dst with
  |none=>rfl
  |some d=>
   simp only[hop v (by simp[ho,Op.operands])];rw[←hd'];cases hg:c.glob d with
   |true=>
    have hc:wW c s o=2:=by simp[wW,ho,hd',hg]
    simp only[y6Y hn (h2 hc).1];rfl
   |false=>simp only[z0D hn hd];rfl
 |build t ps=>
  have:(ps.toList.map fun(i,x)=>(i,opv s' x))=ps.toList.map fun(i,x)=>(i,opv s x):=List.map_congr_left fun⟨i,x⟩ hx=>by
   show(i,opv s' x)=(i,opv s x);rw[hop x (by simp[ho,Op.operands];exact⟨i,by simpa using hx⟩)]
  simp only[this,wF hn]
 |buildSlice t len ps=>
  have:(ps.toList.map fun(i,x)=>(i,opv s' x))=ps.toList.map fun(i,x)=>(i,opv s x):=List.map_congr_left fun⟨i,x⟩ hx=>by
   show(i,opv s' x)=(i,opv s x);rw[hop x (by simp[ho,Op.operands];exact⟨i,by simpa using hx⟩)]
  simp only[this,z0D hn hd]
 |load t a=>simp only[hop a (by simp[ho,Op.operands]),wF hn,v5j (ha a (by simp[ho,Op.operands])) (hh (by simp[v8Y,ho]) a (by simp[ho,Op.operands])) (fun id off hv ⟨cs,n,xs,h1,h2⟩=>(A.h (by
   have hs:v9D s o=false:=by simp[v9D,ho,hv,h1,h2]
   have hr:w1s c s o=false:=by simp[w1s,ho]
   have hu:=v0j (s:=s) (o:=o) (x:=a) (by simp[ho,Op.operands]) (by rw[hv];rfl);simp[y2i,hs,hr,hu,v8Y,ho])).2)]
 |store t a v=>
  have hc:wW c s o=2:=by simp[wW,ho]
  simp only[hop a (by simp[ho,Op.operands]),hop v (by simp[ho,Op.operands]),v0u (ha a (by simp[ho,Op.operands])) (ha v (by simp[ho,Op.operands])) (h2 hc).1]
 |nilCheck x=>
  simp only[hop x (by simp[ho,Op.operands])];have:=ha x (by simp[ho,Op.operands]);split
  ·simp only[wF hn]
  ·rename_i r g f h
   rw[h]at this;simp only[wF hn,y3w (this r (by simp[jO]))]
  ·simp only[wF hn]
  ·simp only[wF hn]
  ·rfl
 |binOp op t x y z=>cases op<;>simp only[hop x (by simp[ho,Op.operands]),hop y (by simp[ho,Op.operands]),wF hn]
 |unOp op t x=>cases op<;>simp only[hop x (by simp[ho,Op.operands]),wF hn]
 |convert src dst x=>simp only[hop x (by simp[ho,Op.operands]),wF hn]
 |makeFunc f first cap=>
  have h1:=mapc first.toList (fun x hx=>by simp[ho,Op.operands];exact .inl (by simpa using hx))
  have h2:=mapc cap.toList (fun x hx=>by simp[ho,Op.operands];exact .inr (by simpa using hx));simp only[h1,h2,wF hn]
 |makeSlice t l m=>simp only[hop l (by simp[ho,Op.operands]),hop m (by simp[ho,Op.operands]),z0D hn hd]
 |slice t x lo hi mx=>
  have e1:=optc lo (fun y h=>by subst h;simp[ho,Op.operands]);have e2:=optc hi (fun y h=>by subst h;simp[ho,Op.operands]);have e3:=optc mx (fun y h=>by subst h;simp[ho,Op.operands]);simp only[hop x (by simp[ho,Op.operands]),e1,e2,e3,v3a hn hd (ha x (by simp[ho,Op.operands]))]
 |fieldAddr t x f=>simp only[hop x (by simp[ho,Op.operands]),wF hn,y4S (ha x (by simp[ho,Op.operands]))]
 |field t x f=>simp only[hop x (by simp[ho,Op.operands]),wF hn]
 |indexAddr t x i=>simp only[hop x (by simp[ho,Op.operands]),hop i (by simp[ho,Op.operands]),wF hn,y4T (ha x (by simp[ho,Op.operands]))]
 |index t x i=>simp only[hop x (by simp[ho,Op.operands]),hop i (by simp[ho,Op.operands]),wF hn]
 |extract t i=>simp only[hop t (by simp[ho,Op.operands]),wF hn]
 |call cl=>
  have hargs:∀x∈cl.args.toList,x∈o.op.operands.toList:=fun x hx=>by simp[ho,Op.operands,Call.operands];exact .inr (by simpa using hx)
  simp only[];unfold v8N;cases hcal:cl.callee with
  |value f=>
   have hf:f∈o.op.operands.toList:=by simp[ho,Op.operands,Call.operands,hcal]
   simp only[hop f hf,mapc cl.args.toList hargs];cases hfv:opv s f with
   |fn g first cap=>
    simp only[];exact v2X hn hd (fun r hr=>by
     obtain⟨v,hv,hk⟩:=List.mem_flatMap.1 hr;obtain⟨x,hx,rfl⟩:=List.mem_map.1 hv;exact ha x (hargs x hx) r hk) (fun hp=>by
      cases hr:c.ro g with
      |false=>exact(h2 (by simp[wW,ho,hcal,hfv,hp,hr])).1
      |true=>exact A.d (by simp[y2i,w1s,ho,hcal,hfv,hp,hr]))
   |_=>rfl
  |builtin b=>
   cases b with
   |len=>
    simp only[];split
    ·rename_i x t hx ht
     have hm:=hargs x (by simp[hx]);simp only[hop x hm,wF hn,v7D (ha x hm)]
    ·rfl
   |append=>
    have hc:wW c s o=2:=by simp[wW,ho,hcal]
    simp only[];split
    ·rename_i x y t u hx ht
     have hm:=hargs x (by simp[hx]);simp only[hop x hm,hop y (hargs y (by simp[hx])),v0o hn hd (ha x hm) (h2 hc)]
    ·rfl
   |max=>
    simp only[];split
    ·rename_i x y hx
     simp only[hop x (hargs x (by simp[hx])),hop y (hargs y (by simp[hx])),wF hn]
    ·rfl
   |min=>
    simp only[];split
    ·rename_i x y hx
     simp only[hop x (hargs x (by simp[hx])),hop y (hargs y (by simp[hx])),wF hn]
    ·rfl
   |_=>rfl
  |_=>rfl
 |_=>rfl
end
end Nt

