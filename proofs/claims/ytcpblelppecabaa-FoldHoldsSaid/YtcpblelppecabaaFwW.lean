import Derived.Test.YtcpblelppecabaaFwV
namespace Nt
open Go
set_option linter.unusedVariables false
set_option linter.unusedSimpArgs false
section
variable {P:Program} {s s':St}
theorem v0x(c:Cx)(ops:Array Oper)(o:Oper)(s:St):At (z8f (z8l c ops o s) s) (y6m c o s):=by
 have hdst:∀d,o.dst=some d→d∈(z8l c ops o s).ws:=fun d hd=>by simp[z8l,hd]
 have z8T:∀{F:(wG→Prop)→Prop},At (Wi o.dst [] false) F→At (z8f (z8l c ops o s) s) F:=fun h=>h.weaken fun p hp=>hp.within hdst (by simp) (by simp);have hks:∀{n:Nat},vU c s o=n→n≠0→(z8l c ops o s).wa=(z2X o).flatMap (fun i=>uF (s.get i))++o.dst.toList:=fun h hn=>by
  have:Nat.beq (vU c s o) 0=false:=y0V (by omega);simp[z8l,this]
 have hdk:∀d,o.dst=some d→d∈(z2X o).flatMap (fun i=>uF (s.get i))++o.dst.toList:=fun d hd=>by simp[hd]
 have fin1:∀{F:(wG→Prop)→Prop} {n:Nat},vU c s o=n→n≠0→At (Wi o.dst ((z2X o).flatMap (fun i=>uF (s.get i))++o.dst.toList) false) F→At (z8f (z8l c ops o s) s) F:=fun h hn g=>
  g.weaken fun p hp=>hp.within hdst (fun k hk=>by rw[hks h hn];exact hk) (by simp)
 have fin2:∀{F:(wG→Prop)→Prop},vU c s o=2→(z8l c ops o s).wh=true→At (Wi o.dst ((z2X o).flatMap (fun i=>uF (s.get i))++o.dst.toList) true) F→At (z8f (z8l c ops o s) s) F:=fun h hw g=>
  g.weaken fun p hp=>hp.within hdst (fun k hk=>by rw[hks h (by omega)];exact hk) (fun _=>hw)
 unfold y6m;cases ho:o.op with
 |move x=>exact z8T wM
 |assign x=>exact z8T wM
 |pick x a b=>exact z8T (At.brS wM wM)
 |alloc t=>
  refine At.kOpt fun z=>At.kIf ?_;cases hd:o.dst with
  |none=>exact At.bot
  |some d=>
   dsimp only;rw[←hd];cases hg:c.glob d with
   |true=>
    have hc:vU c s o=2:=by simp[vU,ho,hd,hg]
    exact fin2 hc (by simp[z8l,hc,ho]) y3G
   |false=>
    have hc:vU c s o=1:=by simp[vU,ho,hd,hg]
    show At _ (fun k=>match c.P.underlying t with
     |some (.array _ e)=>kOpt (gK c.P e) fun n=>kIf (Nat.beq n 1) (kOpt (z3B z.cells.toList) fun ds=>newAr s o.dst (.row 1 ds) (fun d g=>.ref d g 0) k)
     |some (.struct _)=>match z3B z.cells.toList with
      |some ds=>newAr s o.dst (.agg (.agg ds)) (fun d g=>.ref d g 0) k
      |none=>newAr s o.dst (.box (z.cells.toList.map z1V)) (fun d g=>.ref d g 0) k
     |_=>newAr s o.dst (.box (z.cells.toList.map z1V)) (fun d g=>.ref d g 0) k)
    split
    ·exact At.kOpt fun n=>At.kIf (At.kOpt fun ds=>fin1 hc (by simp) (uU hdk))
    ·split
     ·exact fin1 hc (by simp) (uU hdk)
     ·exact fin1 hc (by simp) (uU hdk)
    ·exact fin1 hc (by simp) (uU hdk)
 |box t v=>
  cases hd:o.dst with
  |none=>exact At.bot
  |some d=>
   dsimp only;rw[←hd];cases hg:c.glob d with
   |true=>
    have hc:vU c s o=2:=by simp[vU,ho,hd,hg]
    simp only[cond_true];exact At.cond (At.kOpt fun n=>At.kBld fun ws=>fin2 hc (by simp[z8l,hc,ho]) y3G) (At.kKeep fun w=>fin2 hc (by simp[z8l,hc,ho]) y3G)
   |false=>
    have hc:vU c s o=1:=by simp[vU,ho,hd,hg]
    simp only[cond_false];exact At.cond (At.kOpt fun n=>At.kD fun x=>At.kWhole (fin1 hc (by simp) (uU hdk))) (At.kKeep fun w=>fin1 hc (by simp) (uU hdk))
 |build t ps=>
  dsimp only;split
  ·exact At.kIf (At.kOpt fun z=>At.kOpt fun cs=>At.kFill fun cs=>z8T wM)
  ·exact At.bot
 |buildSlice t len ps=>
  have hc:vU c s o=1:=by simp[vU,ho]
  exact At.kOpt fun e=>At.kOpt fun n=>At.kOpt fun z=>At.kIf (At.kIf (At.kElems fun xs=>fin1 hc (by simp) (uU hdk)))
 |load t a=>exact At.kLoad fun v=>z8T wM
 |store t a v=>
  have hc:vU c s o=2:=by simp[vU,ho]
  cases hd:o.dst with
  |some d=>exact At.bot
  |none=>
   have h:=y9o (P:=c.P) (s:=s) (t:=t) (a:=opv s a) (v:=opv s v) (K:=(z2X o).flatMap (fun i=>uF (s.get i))++o.dst.toList) (b:=(z2X o).any fun i=>v1L (s.get i))
    (fun k hk=>z4j (by simp[ho,Op.operands]) hk) (fun k hk=>z4j (by simp[ho,Op.operands]) hk) (fun h=>y4q (by simp[ho,Op.operands]) h)
   refine h.weaken fun p hp=>hp.within (by simp) (fun k hk=>by rw[hks hc (by simp)];exact hk) (fun h=>by simp[z8l,hc,h])
 |nilCheck x=>
  dsimp only;split<;>first|exact z8T wM|exact At.kIf (z8T wM)|exact At.bot
 |binOp op t x y z=>
  cases op<;>first|exact At.kEqOp fun b=>z8T wM|exact At.kD fun a=>At.kD fun b=>At.kBin fun r=>z8T wM
 |unOp op t x=>
  refine At.kD fun a=>?_;cases op<;>first|exact At.kI fun i n=>At.nam fun _=>z8T wM|(cases a<;>first|exact z8T wM|exact At.bot)|exact At.bot
 |convert src dst x=>
  dsimp only;split
  ·exact At.kD fun a=>At.kI fun _ n=>At.nam fun _=>z8T wM
  ·exact At.kD fun a=>At.kStr fun u=>z8T wM
  ·split
   ·exact At.kD fun a=>At.kSl fun xs=>At.toBytes fun u=>z8T wM
   ·exact At.bot
  ·exact At.bot
 |makeFunc f first cap=>
  cases f<;>first|exact At.kArgs fun xs=>At.kArgs fun ys=>z8T wM|exact At.bot
 |makeSlice t l m=>
  have hc:vU c s o=1:=by simp[vU,ho]
  exact At.kOpt fun e=>At.kOpt fun n=>At.kOpt fun b=>At.kOpt fun z=>At.kD fun lx=>At.kI fun _ l=>At.kD fun mx=>At.kI fun _ m=>At.and (At.cond
   (At.kOpt fun ds=>At.kIf (At.nam fun _=>fin1 hc (by simp) (uU hdk))) (At.kOpt fun x=>At.kIf (At.nam fun _=>fin1 hc (by simp) (uU hdk))))
 |slice t x lo hi mx=>
  have hc:vU c s o=1:=by simp[vU,ho]
  exact fin1 hc (by simp) (v0y (fun k hk=>z4j (by simp[ho,Op.operands]) hk) hdk)
 |fieldAddr t x f=>exact At.kFieldAddr fun v=>z8T wM
 |field t x f=>exact At.kField fun v=>z8T wM
 |indexAddr t x i=>exact At.kIndexAddr fun v=>z8T wM
 |index t x i=>
  dsimp only;split
  ·exact At.kIndex fun v=>z8T wM
  ·exact At.bot
 |extract t i=>
  dsimp only;split
  ·exact At.kOpt fun v=>z8T wM
  ·exact At.bot
 |call cl=>
  dsimp only;unfold v0T;cases hcal:cl.callee with
  |value f=>
   dsimp only;cases hf:opv s f with
   |fn g first cap=>
    have hkeys:∀k∈z3F (cl.args.toList.map (opv s)),k∈(z2X o).flatMap (fun i=>uF (s.get i))++o.dst.toList:=fun k hk=>by
     obtain⟨v,hv,hk⟩:=List.mem_flatMap.1 hk;obtain⟨x,hx,rfl⟩:=List.mem_map.1 hv;exact z4j (by simp[ho,Op.operands,Call.operands];exact .inr (by simpa using hx)) hk
    cases hp:c.pur g with
    |true=>
     have hc:vU c s o=1:=by simp[vU,ho,hcal,hf,hp]
     exact fin1 hc (by simp) (y5q hdk hkeys (by simp[hp]))
    |false=>
     cases hr:c.ro g with
     |true=>
      have hc:vU c s o=1:=by simp[vU,ho,hcal,hf,hp,hr]
      have hro:v2H c s o=true:=by simp[v2H,ho,hcal,hf,hp,hr]
      exact(y5r (s:=s) hdk hkeys hp hr).weaken fun p q=>⟨fun x hx=>hdst _ (q.1.1 x hx),fun x hx=>by rw[hks hc (by simp)];exact q.1.2.1 x hx,fun _=>.inr ⟨by simp[z8l,hro],q.2⟩⟩
     |false=>
     have hc:vU c s o=2:=by simp[vU,ho,hcal,hf,hp,hr]
     refine fin2 hc ?_ (y5q hdk hkeys (by simp));simp only[z8l,hc,ho];cases cl;simp at hcal;simp[hcal]
   |_=>exact At.bot
  |builtin b=>
   cases b with
   |len=>
    dsimp only;split
    ·exact At.kLen fun v=>z8T wM
    ·exact At.bot
   |append=>
    have hc:vU c s o=2:=by simp[vU,ho,hcal]
    dsimp only;split
    ·rename_i x y t u hx ht
     split
     ·have hmem:x∈o.op.operands.toList:=by simp[ho,Op.operands,Call.operands,hx]
      have h:=y9n (rw:=match o.dst with|some d=>c.glob d|none=>false) (P:=c.P) (s:=s) (t:=t) (dst:=o.dst) (v:=opv s x) (x:=opv s y) (K:=(z2X o).flatMap (fun i=>uF (s.get i))++o.dst.toList) (b:=(z2X o).any fun i=>v1L (s.get i))
       hdk (fun k hk=>z4j hmem hk) (fun h=>y4q hmem h)
      exact h.weaken fun p hp=>hp.within hdst (fun k hk=>by rw[hks hc (by simp)];exact hk) (fun h=>by simp[z8l,hc,h])
     ·exact At.bot
    ·exact At.bot
   |max=>
    dsimp only;split
    ·exact At.kD fun a=>At.kD fun b=>At.kI fun _ _=>At.kI fun _ _=>At.kIf (At.nam fun _=>z8T wM)
    ·exact At.bot
   |min=>
    dsimp only;split
    ·exact At.kD fun a=>At.kD fun b=>At.kI fun _ _=>At.kI fun _ _=>At.kIf (At.nam fun _=>z8T wM)
    ·exact At.bot
   |_=>exact At.bot
  |_=>exact At.bot
 |_=>exact At.bot
theorem z0h{r:Nat}(h:zN s'.ar r=zN s.ar r)(g:Nat):s'.ob r g=s.ob r g:=by simp[St.ob,h]
theorem y6u{r:Nat}(h:zN s'.ar r=zN s.ar r):s'.gen r=s.gen r:=by simp[St.gen,h]
theorem z8W{r:Nat}(h:zN s'.ar r=zN s.ar r)(g:Nat):s'.live r g=s.live r g:=by simp[St.live,z0h h]
theorem vI{dst:Option Nat}{v:Sv}(hn:s'.n=s.n):z4G s' dst v=z4G s dst v:=by funext k;cases dst<;>simp[z4G,hn]
theorem gF{dst:Option Nat}{ob:Ob}{v:Nat→Nat→Sv}(hn:s'.n=s.n)(hd:∀d,dst=some d→zN s'.ar d=zN s.ar d):newAr s' dst ob v=newAr s dst ob v:=by
 funext k;cases dst with
 |none=>rfl
 |some d=>simp[newAr,hn,y6u (hd d rfl)]
theorem y1R{dst:Option Nat}{r g:Nat}{ob:Ob}{v:Sv}(hn:s'.n=s.n):v1f s' dst r g ob v=v1f s dst r g ob v:=by funext k;cases dst<;>simp[v1f,hn]
theorem y1M{dst:Option Nat}{cs:List Sv}(hn:s'.n=s.n)(hh:s'.h=s.h):newHp s' dst cs=newHp s dst cs:=by funext k;cases dst<;>simp[newHp,hn,hh]
theorem y8s{t:TypeId}{v:Sv}{k:Sv→Prop}(ha:∀r∈uF v,zN s'.ar r=zN s.ar r)(hh:hpS v=true→s'.h=s.h)(hw:∀id off,v=.hp id off→(∃cs n xs,s.h[id]?=some cs∧cs[off]?=some (.own n xs))→s'.hv=s.hv):kLoad P t s' v k=kLoad P t s v k:=by
 cases v with
 |ref r g off=>simp[kLoad,z0h (ha r (by simp[uF]))]
 |rref r g m i off=>simp[kLoad,z0h (ha r (by simp[uF]))]
 |hp id off=>
  have h1:=hh rfl;simp only[kLoad,h1];cases hc:s.h[id]? with
  |none=>rfl
  |some cs=>
   have hl:∀v,cs[off]?=some v→z9v id off s'.hv v=z9v id off s.hv v:=fun v hv=>by
    cases v with
    |own n xs=>simp[z9v,hw id off rfl ⟨cs,n,xs,hc,hv⟩]
    |_=>rfl
   have:∀n,kBoxT P t n cs off (z9v id off s'.hv) k=kBoxT P t n cs off (z9v id off s.hv) k:=fun n=>by
    unfold kBoxT;congr 1;cases hv:cs[off]? with
    |none=>rfl
    |some v=>show k _=k _;rw[hl v hv]
   show(kOpt (gK P t) fun n=>kBoxT P t n cs off (z9v id off s'.hv) k)=kOpt (gK P t) fun n=>kBoxT P t n cs off (z9v id off s.hv) k;simp only[this]
 |_=>rfl
theorem y6C{t:TypeId}{a v:Sv}{k:wG→Prop}(ha:∀r∈uF a,zN s'.ar r=zN s.ar r)(hv:∀r∈uF v,zN s'.ar r=zN s.ar r)(hh:s'.h=s.h):z6I P t s' a v k=z6I P t s a v k:=by
 cases a with
 |ref r g off=>
  cases v with
  |cells ws=>
   have hok:∀c∈ws,y1P s' c=y1P s c:=fun c hc=>by
    cases c with
    |row k g'=>simp only[y1P,z0h (hv k (by simp only[uF,List.mem_flatMap];exact⟨_,hc,by simp[v4c]⟩))]
    |_=>rfl
   have hall:ws.all (y1P s')=ws.all (y1P s):=by
    rw[Bool.eq_iff_iff,List.all_eq_true,List.all_eq_true];exact⟨fun h c hc=>by rw[←hok c hc];exact h c hc,fun h c hc=>by rw[hok c hc];exact h c hc⟩
   simp[z6I,z0h (ha r (by simp[uF])),hall]
  |_=>simp[z6I,z0h (ha r (by simp[uF]))]
 |rref r g m i off=>simp[z6I,z0h (ha r (by simp[uF]))]
 |hp id off=>
  cases v with
  |right r g m xs=>simp[z6I,hh,z0h (hv r (by simp[uF]))]
  |_=>simp[z6I,hh]
 |_=>rfl
theorem z9Z{t:TypeId}{v:Sv}{f:Nat}{k:Sv→Prop}(ha:∀r∈uF v,zN s'.ar r=zN s.ar r):kFieldAddr P t s' v f k=kFieldAddr P t s v f k:=by
 cases v with
 |ref r g off=>simp[kFieldAddr,z8W (ha r (by simp[uF]))]
 |rref r g m i off=>simp[kFieldAddr,z8W (ha r (by simp[uF]))]
 |_=>rfl
theorem y0a{t:TypeId}{v i:Sv}{k:Sv→Prop}(ha:∀r∈uF v,zN s'.ar r=zN s.ar r):kIndexAddr P t s' v i k=kIndexAddr P t s v i k:=by
 cases v with
 |row r g=>simp[kIndexAddr,z0h (ha r (by simp[uF]))]
 |ref r g off=>simp[kIndexAddr,z0h (ha r (by simp[uF]))]
 |_=>rfl
theorem y9W{t:TypeId}{v:Sv}{k:Sv→Prop}(ha:∀r∈uF v,zN s'.ar r=zN s.ar r):kLen P t s' v k=kLen P t s v k:=by
 unfold kLen;split
 ·cases v with
  |row r g=>simp[z0h (ha r (by simp[uF]))]
  |_=>rfl
 ·rfl
 ·rfl
theorem z9w{dst:Option Nat}{rs:List Sv}{h:Option H}(hn:s'.n=s.n)(hd:∀d,dst=some d→zN s'.ar d=zN s.ar d):z3W s' dst rs h=z3W s dst rs h:=by
 funext k;unfold z3W;split
 ·rw[gF hn hd]
 ·rw[gF hn hd]
 ·simp only[gF hn hd]
 ·rw[vI hn]
 ·rw[vI hn]
theorem y8r{c:Cx}{dst:Option Nat}{f:FuncId}{vs:List Sv}(hn:s'.n=s.n)(hd:∀d,dst=some d→zN s'.ar d=zN s.ar d)(hh:c.pur f=false→s'.h=s.h):y2H c s' dst f vs=y2H c s dst f vs:=by
 funext k;unfold y2H;cases hp:c.pur f with
 |true=>simp only[z9w hn hd];rfl
 |false=>simp only[z9w hn hd,hh hp]
theorem y6B{t:TypeId}{dst:Option Nat}{v:Sv}{lo hi mx:Option Sv}{k:wG→Prop}(hn:s'.n=s.n)(hd:∀d,dst=some d→zN s'.ar d=zN s.ar d)(ha:∀r∈uF v,zN s'.ar r=zN s.ar r):
  z9u P t s' dst v lo hi mx k=z9u P t s dst v lo hi mx k:=by
 unfold z9u;split
 ·simp only[vI hn]
 ·have h2:∀xs,y4x s' dst lo hi xs k=y4x s dst lo hi xs k:=fun xs=>by simp only[y4x,vI hn]
  have h3:∀n xs,y4y n s' dst lo hi mx xs k=y4y n s dst lo hi mx xs k:=fun n xs=>by simp only[y4y,gF hn hd]
  simp only[h2,h3]
 ·cases v with
  |ref r g off=>
   cases mx<;>cases hi<;>first|rfl|simp only[z0h (ha r (by simp[uF])),vI hn]
  |_=>rfl
 ·rfl
theorem y4t{t:TypeId}{rw:Bool}{dst:Option Nat}{v x:Sv}{k:wG→Prop}(hn:s'.n=s.n)(hd:∀d,dst=some d→zN s'.ar d=zN s.ar d)(ha:∀r∈uF v,zN s'.ar r=zN s.ar r)(hh:s'.h=s.h∧s'.hv=s.hv):
  z7Q P t s' rw dst v x k=z7Q P t s rw dst v x k:=by
 cases v with
 |right r g n xs=>simp only[z7Q,z0h (ha r (by simp[uF])),gF hn hd,y1R hn,hh.1,hh.2]
 |_=>simp only[z7Q,gF hn hd,y1R hn,hh.1,hh.2]
theorem z8q(ps:List (Nat×Nat×Option Ob)){a b:List (Nat×Nat×Option Ob)}{r:Nat}(h:zN a r=zN b r):zN (ps++a) r=zN (ps++b) r:=by
 induction ps with
 |nil=>exact h
 |cons x ps ih=>
  obtain⟨j,v⟩:=x;rw[List.cons_append,List.cons_append,zJ,zJ,ih]
theorem z7a:∀{vs:List Sv} {s s':St} {G G':List (Nat×Nat×Option Ob)→List Sv→Prop},(∀r∈z3F vs,zN s'.ar r=zN s.ar r)→(∀ps us,(∀x∈z3F us,x∈z3F vs)→G' ps us=G ps us)→y9V s' vs G'=y9V s vs G
 |[],s,s',G,G',_,h=>h [] [] (fun _ h=>h)
 |v::r,s,s',G,G',ha,h=>by
  have har:∀x∈z3F r,zN s'.ar x=zN s.ar x:=fun x hx=>ha x (List.mem_append_right _ hx);by_cases hrow:∃a g,v=.row a g
  ·obtain⟨a,g,rfl⟩:=hrow;have ho:s'.ob a g=s.ob a g:=z0h (ha a (by simp[z3F,uF])) g;show kOpt (s'.ob a g) _=kOpt (s.ob a g) _;rw[ho];congr 1;funext ob;cases ob with
   |row n xs=>
    refine z7a (fun x hx=>z8q [(a,g,none)] (har x hx)) (fun ps us hu=>h _ _ fun x hx=>?_);simp only[z3F,List.flatMap_cons,uF,List.nil_append]at hx;exact List.mem_append_right _ (hu x hx)
   |_=>rfl
  ·have e:∀(s:St) (G:List (Nat×Nat×Option Ob)→List Sv→Prop),y9V s (v::r) G=y9V s r fun ps us=>G ps (v::us):=fun s G=>by
    cases v with
    |row a g=>exact absurd ⟨a,g,rfl⟩ hrow
    |_=>rfl
   rw[e,e];refine z7a har (fun ps us hu=>h _ _ fun x hx=>?_);simp only[z3F,List.flatMap_cons]at hx ⊢;rcases List.mem_append.1 hx with hx|hx
   ·exact List.mem_append_left _ hx
   ·exact List.mem_append_right _ (hu x hx)
theorem y4z{t:TypeId}{a v:Sv}{k:wG→Prop}(ha:∀r∈uF a,zN s'.ar r=zN s.ar r)(hv:∀r∈uF v,zN s'.ar r=zN s.ar r)(hh:s'.h=s.h):y1F P t s' a v k=y1F P t s a v k:=by
 refine z7a (fun r hr=>hv r (by simpa [z3F]using hr)) fun ps us hu=>?_;split
 ·rename_i y
  exact y6C (fun r hr=>z8q ps (ha r hr)) (fun r hr=>z8q ps (hv r (by simpa [z3F]using hu r (by simpa [z3F]using hr)))) hh
 ·rfl
theorem y6y{c:Cx}{dst:Option Nat}{f:FuncId}{first vs cap:List Sv}{k:wG→Prop}(hn:s'.n=s.n)(hd:∀d,dst=some d→zN s'.ar d=zN s.ar d)(hv:∀r∈z3F vs,zN s'.ar r=zN s.ar r)(hh:c.pur f=false→s'.h=s.h):
  y6x c s' dst f first vs cap k=y6x c s dst f first vs cap k:=
 z7a hv fun ps us _=>by rw[y8r (s:=s.app ⟨[],ps,none⟩) (s':=s'.app ⟨[],ps,none⟩) hn (fun d h=>z8q ps (hd d h)) hh]
structure Agree(f:FP)(s s':St):Prop where
 n:s'.n=s.n
 get:∀i∈f.rs,s'.get i=s.get i
 ar:∀k∈f.ra,zN s'.ar k=zN s.ar k
 h:f.rh=true→s'.h=s.h∧s'.hv=s.hv
 d:f.rd=true→s'.h=s.h
theorem y2W{c:Cx}{ops:Array Oper}{o:Oper}(A:Agree (z8l c ops o s) s s')(k:wG→Prop):y6m c o s' k=y6m c o s k:=by
 have hop:∀x∈o.op.operands.toList,opv s' x=opv s x:=fun x hx=>by
  cases x with
  |tmp t=>exact A.get t (by simp only[z8l];exact List.mem_append_left _ (List.mem_filterMap.2 ⟨_,hx,rfl⟩))
  |_=>rfl
 have hn:=A.n;have hd:∀d,o.dst=some d→zN s'.ar d=zN s.ar d:=fun d h=>A.ar d (by simp[z8l,h]);have ha:∀x∈o.op.operands.toList,∀r∈uF (opv s x),zN s'.ar r=zN s.ar r:=fun x hx r hr=>A.ar r (by simp only[z8l];exact z4j hx hr);have hh:v1b o=true→∀x∈o.op.operands.toList,hpS (opv s x)=true→s'.h=s.h:=fun hm x hx h=>A.d (by simp only[z8l,y4q hx h,hm,Bool.true_and,Bool.true_or]);have h2:vU c s o=2→s'.h=s.h∧s'.hv=s.hv:=fun h=>A.h (by simp[z8l,h])
 have mapc:∀xs:List Operand,(∀x∈xs,x∈o.op.operands.toList)→xs.map (opv s')=xs.map (opv s):=fun xs h=>List.map_congr_left fun x hx=>hop x (h x hx);have optc:∀x:Option Operand,(∀y,x=some y→y∈o.op.operands.toList)→x.map (opv s')=x.map (opv s):=fun x h=>by
  cases x with
  |none=>rfl
  |some y=>simp[hop y (h y rfl)]
 unfold y6m;cases ho:o.op with
 |move x=>simp only[hop x (by simp[ho,Op.operands]),vI hn]
 |assign x=>simp only[hop x (by simp[ho,Op.operands]),vI hn]
 |pick x a b=>simp only[hop x (by simp[ho,Op.operands]),hop a (by simp[ho,Op.operands]),hop b (by simp[ho,Op.operands]),vI hn]
 |alloc t=>
  cases hd':o.dst with
  |none=>rfl
  |some d=>
   simp only[];rw[←hd'];cases hg:c.glob d with
   |true=>
    have hc:vU c s o=2:=by simp[vU,ho,hd',hg]
    simp only[y1M hn (h2 hc).1];rfl
   |false=>simp only[gF hn hd];rfl
 |box t v=>
  cases hd':o.dst with
  |none=>rfl
  |some d=>
   simp only[hop v (by simp[ho,Op.operands])];rw[←hd'];cases hg:c.glob d with
   |true=>
    have hc:vU c s o=2:=by simp[vU,ho,hd',hg]
    simp only[y1M hn (h2 hc).1];rfl
   |false=>simp only[gF hn hd];rfl
 |build t ps=>
  have:(ps.toList.map fun(i,x)=>(i,opv s' x))=ps.toList.map fun(i,x)=>(i,opv s x):=List.map_congr_left fun⟨i,x⟩ hx=>by
   show(i,opv s' x)=(i,opv s x);rw[hop x (by simp[ho,Op.operands];exact⟨i,by simpa using hx⟩)]
  simp only[this,vI hn]
 |buildSlice t len ps=>
  have:(ps.toList.map fun(i,x)=>(i,opv s' x))=ps.toList.map fun(i,x)=>(i,opv s x):=List.map_congr_left fun⟨i,x⟩ hx=>by
   show(i,opv s' x)=(i,opv s x);rw[hop x (by simp[ho,Op.operands];exact⟨i,by simpa using hx⟩)]
  simp only[this,gF hn hd]
 |load t a=>simp only[hop a (by simp[ho,Op.operands]),vI hn,y8s (ha a (by simp[ho,Op.operands])) (hh (by simp[v1b,ho]) a (by simp[ho,Op.operands])) (fun id off hv ⟨cs,n,xs,h1,h2⟩=>(A.h (by
   have hs:v1y s o=false:=by simp[v1y,ho,hv,h1,h2]
   have hr:v2H c s o=false:=by simp[v2H,ho]
   have hu:=y4q (s:=s) (o:=o) (x:=a) (by simp[ho,Op.operands]) (by rw[hv];rfl);simp[z8l,hs,hr,hu,v1b,ho])).2)]
 |store t a v=>
  have hc:vU c s o=2:=by simp[vU,ho]
  simp only[hop a (by simp[ho,Op.operands]),hop v (by simp[ho,Op.operands]),y4z (ha a (by simp[ho,Op.operands])) (ha v (by simp[ho,Op.operands])) (h2 hc).1]
 |nilCheck x=>
  simp only[hop x (by simp[ho,Op.operands])];have:=ha x (by simp[ho,Op.operands]);split
  ·simp only[vI hn]
  ·rename_i r g f h
   rw[h]at this;simp only[vI hn,z8W (this r (by simp[uF]))]
  ·simp only[vI hn]
  ·simp only[vI hn]
  ·rfl
 |binOp op t x y z=>cases op<;>simp only[hop x (by simp[ho,Op.operands]),hop y (by simp[ho,Op.operands]),vI hn]
 |unOp op t x=>cases op<;>simp only[hop x (by simp[ho,Op.operands]),vI hn]
 |convert src dst x=>simp only[hop x (by simp[ho,Op.operands]),vI hn]
 |makeFunc f first cap=>
  have h1:=mapc first.toList (fun x hx=>by simp[ho,Op.operands];exact .inl (by simpa using hx))
  have h2:=mapc cap.toList (fun x hx=>by simp[ho,Op.operands];exact .inr (by simpa using hx));simp only[h1,h2,vI hn]
 |makeSlice t l m=>simp only[hop l (by simp[ho,Op.operands]),hop m (by simp[ho,Op.operands]),gF hn hd]
 |slice t x lo hi mx=>
  have e1:=optc lo (fun y h=>by subst h;simp[ho,Op.operands]);have e2:=optc hi (fun y h=>by subst h;simp[ho,Op.operands]);have e3:=optc mx (fun y h=>by subst h;simp[ho,Op.operands]);simp only[hop x (by simp[ho,Op.operands]),e1,e2,e3,y6B hn hd (ha x (by simp[ho,Op.operands]))]
 |fieldAddr t x f=>simp only[hop x (by simp[ho,Op.operands]),vI hn,z9Z (ha x (by simp[ho,Op.operands]))]
 |field t x f=>simp only[hop x (by simp[ho,Op.operands]),vI hn]
 |indexAddr t x i=>simp only[hop x (by simp[ho,Op.operands]),hop i (by simp[ho,Op.operands]),vI hn,y0a (ha x (by simp[ho,Op.operands]))]
 |index t x i=>simp only[hop x (by simp[ho,Op.operands]),hop i (by simp[ho,Op.operands]),vI hn]
 |extract t i=>simp only[hop t (by simp[ho,Op.operands]),vI hn]
 |call cl=>
  have hargs:∀x∈cl.args.toList,x∈o.op.operands.toList:=fun x hx=>by simp[ho,Op.operands,Call.operands];exact .inr (by simpa using hx)
  simp only[];unfold v0T;cases hcal:cl.callee with
  |value f=>
   have hf:f∈o.op.operands.toList:=by simp[ho,Op.operands,Call.operands,hcal]
   simp only[hop f hf,mapc cl.args.toList hargs];cases hfv:opv s f with
   |fn g first cap=>
    simp only[];exact y6y hn hd (fun r hr=>by
     obtain⟨v,hv,hk⟩:=List.mem_flatMap.1 hr;obtain⟨x,hx,rfl⟩:=List.mem_map.1 hv;exact ha x (hargs x hx) r hk) (fun hp=>by
      cases hr:c.ro g with
      |false=>exact(h2 (by simp[vU,ho,hcal,hfv,hp,hr])).1
      |true=>exact A.d (by simp[z8l,v2H,ho,hcal,hfv,hp,hr]))
   |_=>rfl
  |builtin b=>
   cases b with
   |len=>
    simp only[];split
    ·rename_i x t hx ht
     have hm:=hargs x (by simp[hx]);simp only[hop x hm,vI hn,y9W (ha x hm)]
    ·rfl
   |append=>
    have hc:vU c s o=2:=by simp[vU,ho,hcal]
    simp only[];split
    ·rename_i x y t u hx ht
     have hm:=hargs x (by simp[hx]);simp only[hop x hm,hop y (hargs y (by simp[hx])),y4t hn hd (ha x hm) (h2 hc)]
    ·rfl
   |max=>
    simp only[];split
    ·rename_i x y hx
     simp only[hop x (hargs x (by simp[hx])),hop y (hargs y (by simp[hx])),vI hn]
    ·rfl
   |min=>
    simp only[];split
    ·rename_i x y hx
     simp only[hop x (hargs x (by simp[hx])),hop y (hargs y (by simp[hx])),vI hn]
    ·rfl
   |_=>rfl
  |_=>rfl
 |_=>rfl
end
end Nt

