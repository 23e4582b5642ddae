import Derived.Test.YtjlohgfmobpfmaaFwV
namespace Nt
open Go
set_option linter.unusedVariables false
set_option linter.unusedSimpArgs false
section
variable {P:Program} {s s':St}
theorem z7q(c:Cx)(ops:Array Oper)(o:Oper)(s:St):At (z0I (z0N c ops o s) s) (z5h c o s):=by
 have hdst:∀d,o.dst=some d→d∈(z0N c ops o s).ws:=fun d hd=>by simp[z0N,hd]
 have z1r:∀{F:(zZ→Prop)→Prop},At (Wi o.dst [] false) F→At (z0I (z0N c ops o s) s) F:=fun h=>h.weaken fun p hp=>hp.within hdst (by simp) (by simp);have hks:∀{n:Nat},zU c s o=n→n≠0→(z0N c ops o s).wa=(uS o).flatMap (fun i=>yJ (s.get i))++o.dst.toList:=fun h hn=>by
  have:Nat.beq (zU c s o) 0=false:=z2r (by omega);simp[z0N,this]
 have hdk:∀d,o.dst=some d→d∈(uS o).flatMap (fun i=>yJ (s.get i))++o.dst.toList:=fun d hd=>by simp[hd]
 have fin1:∀{F:(zZ→Prop)→Prop} {n:Nat},zU c s o=n→n≠0→At (Wi o.dst ((uS o).flatMap (fun i=>yJ (s.get i))++o.dst.toList) false) F→At (z0I (z0N c ops o s) s) F:=fun h hn g=>
  g.weaken fun p hp=>hp.within hdst (fun k hk=>by rw[hks h hn];exact hk) (by simp)
 have fin2:∀{F:(zZ→Prop)→Prop},zU c s o=2→(z0N c ops o s).wh=true→At (Wi o.dst ((uS o).flatMap (fun i=>yJ (s.get i))++o.dst.toList) true) F→At (z0I (z0N c ops o s) s) F:=fun h hw g=>
  g.weaken fun p hp=>hp.within hdst (fun k hk=>by rw[hks h (by omega)];exact hk) (fun _=>hw)
 unfold z5h;cases ho:o.op with
 |move x=>exact z1r yC
 |assign x=>exact z1r yC
 |pick x a b=>exact z1r (At.brS yC yC)
 |alloc t=>
  refine At.kOpt fun z=>At.kIf ?_;cases hd:o.dst with
  |none=>exact At.bot
  |some d=>
   dsimp only;rw[←hd];cases hg:c.glob d with
   |true=>
    have hc:zU c s o=2:=by simp[zU,ho,hd,hg]
    exact fin2 hc (by simp[z0N,hc,ho]) z4b
   |false=>
    have hc:zU c s o=1:=by simp[zU,ho,hd,hg]
    show At _ (fun k=>match c.P.underlying t with
     |some (.array _ e)=>kOpt (vC c.P e) fun n=>kIf (Nat.beq n 1) (kOpt (jC z.cells.toList) fun ds=>newAr s o.dst (.row 1 ds) (fun d g=>.ref d g 0) k)
     |some (.struct _)=>match jC z.cells.toList with
      |some ds=>newAr s o.dst (.agg (.agg ds)) (fun d g=>.ref d g 0) k
      |none=>newAr s o.dst (.box (z.cells.toList.map wY)) (fun d g=>.ref d g 0) k
     |_=>newAr s o.dst (.box (z.cells.toList.map wY)) (fun d g=>.ref d g 0) k)
    split
    ·exact At.kOpt fun n=>At.kIf (At.kOpt fun ds=>fin1 hc (by simp) (yO hdk))
    ·split
     ·exact fin1 hc (by simp) (yO hdk)
     ·exact fin1 hc (by simp) (yO hdk)
    ·exact fin1 hc (by simp) (yO hdk)
 |box t v=>
  cases hd:o.dst with
  |none=>exact At.bot
  |some d=>
   dsimp only;rw[←hd];cases hg:c.glob d with
   |true=>
    have hc:zU c s o=2:=by simp[zU,ho,hd,hg]
    simp only[cond_true];exact At.cond (At.kOpt fun n=>At.kBld fun ws=>fin2 hc (by simp[z0N,hc,ho]) z4b) (At.kKeep fun w=>fin2 hc (by simp[z0N,hc,ho]) z4b)
   |false=>
    have hc:zU c s o=1:=by simp[zU,ho,hd,hg]
    simp only[cond_false];exact At.cond (At.kOpt fun n=>At.kD fun x=>At.kWhole (fin1 hc (by simp) (yO hdk))) (At.kKeep fun w=>fin1 hc (by simp) (yO hdk))
 |build t ps=>
  dsimp only;split
  ·exact At.kIf (At.kOpt fun z=>At.kOpt fun cs=>At.kFill fun cs=>z1r yC)
  ·exact At.bot
 |buildSlice t len ps=>
  have hc:zU c s o=1:=by simp[zU,ho]
  exact At.kOpt fun e=>At.kOpt fun n=>At.kOpt fun z=>At.kIf (At.kIf (At.kElems fun xs=>fin1 hc (by simp) (yO hdk)))
 |load t a=>exact At.kLoad fun v=>z1r yC
 |store t a v=>
  have hc:zU c s o=2:=by simp[zU,ho]
  cases hd:o.dst with
  |some d=>exact At.bot
  |none=>
   have h:=z6O (P:=c.P) (s:=s) (t:=t) (a:=opv s a) (v:=opv s v) (K:=(uS o).flatMap (fun i=>yJ (s.get i))++o.dst.toList) (b:=(uS o).any fun i=>z8N (s.get i))
    (fun k hk=>jS (by simp[ho,Op.operands]) hk) (fun k hk=>jS (by simp[ho,Op.operands]) hk) (fun h=>z4p (by simp[ho,Op.operands]) h)
   refine h.weaken fun p hp=>hp.within (by simp) (fun k hk=>by rw[hks hc (by simp)];exact hk) (fun h=>by simp[z0N,hc,h])
 |nilCheck x=>
  dsimp only;split<;>first|exact z1r yC|exact At.kIf (z1r yC)|exact At.bot
 |binOp op t x y z=>
  cases op<;>first|exact At.kEqOp fun b=>z1r yC|exact At.kD fun a=>At.kD fun b=>At.kBin fun r=>z1r yC
 |unOp op t x=>
  refine At.kD fun a=>?_;cases op<;>first|exact At.kI fun i n=>At.nam fun _=>z1r yC|(cases a<;>first|exact z1r yC|exact At.bot)|exact At.bot
 |convert src dst x=>
  dsimp only;split
  ·exact At.kD fun a=>At.kI fun _ n=>At.nam fun _=>z1r yC
  ·exact At.kD fun a=>At.kStr fun u=>z1r yC
  ·split
   ·exact At.kD fun a=>At.kSl fun xs=>At.toBytes fun u=>z1r yC
   ·exact At.bot
  ·exact At.bot
 |makeFunc f first cap=>
  cases f<;>first|exact At.kArgs fun xs=>At.kArgs fun ys=>z1r yC|exact At.bot
 |makeSlice t l m=>
  have hc:zU c s o=1:=by simp[zU,ho]
  exact At.kOpt fun e=>At.kOpt fun n=>At.kOpt fun b=>At.kOpt fun z=>At.kD fun lx=>At.kI fun _ l=>At.kD fun mx=>At.kI fun _ m=>At.and (At.cond
   (At.kOpt fun ds=>At.kIf (At.nam fun _=>fin1 hc (by simp) (yO hdk))) (At.kOpt fun x=>At.kIf (At.nam fun _=>fin1 hc (by simp) (yO hdk))))
 |slice t x lo hi mx=>
  have hc:zU c s o=1:=by simp[zU,ho]
  exact fin1 hc (by simp) (z7r (fun k hk=>jS (by simp[ho,Op.operands]) hk) hdk)
 |fieldAddr t x f=>exact At.kFieldAddr fun v=>z1r yC
 |field t x f=>exact At.kField fun v=>z1r yC
 |indexAddr t x i=>exact At.kIndexAddr fun v=>z1r yC
 |index t x i=>
  dsimp only;split
  ·exact At.kIndex fun v=>z1r yC
  ·exact At.bot
 |extract t i=>
  dsimp only;split
  ·exact At.kOpt fun v=>z1r yC
  ·exact At.bot
 |call cl=>
  dsimp only;unfold z7Q;cases hcal:cl.callee with
  |value f=>
   dsimp only;cases hf:opv s f with
   |fn g first cap=>
    have hkeys:∀k∈jF (cl.args.toList.map (opv s)),k∈(uS o).flatMap (fun i=>yJ (s.get i))++o.dst.toList:=fun k hk=>by
     obtain⟨v,hv,hk⟩:=List.mem_flatMap.1 hk;obtain⟨x,hx,rfl⟩:=List.mem_map.1 hv;exact jS (by simp[ho,Op.operands,Call.operands];exact .inr (by simpa using hx)) hk
    cases hp:c.pur g with
    |true=>
     have hc:zU c s o=1:=by simp[zU,ho,hcal,hf,hp]
     exact fin1 hc (by simp) (z4T hdk hkeys (by simp[hp]))
    |false=>
     cases hr:c.ro g with
     |true=>
      have hc:zU c s o=1:=by simp[zU,ho,hcal,hf,hp,hr]
      have hro:z9F c s o=true:=by simp[z9F,ho,hcal,hf,hp,hr]
      exact(z4U (s:=s) hdk hkeys hp hr).weaken fun p q=>⟨fun x hx=>hdst _ (q.1.1 x hx),fun x hx=>by rw[hks hc (by simp)];exact q.1.2.1 x hx,fun _=>.inr ⟨by simp[z0N,hro],q.2⟩⟩
     |false=>
     have hc:zU c s o=2:=by simp[zU,ho,hcal,hf,hp,hr]
     refine fin2 hc ?_ (z4T hdk hkeys (by simp));simp only[z0N,hc,ho];cases cl;simp at hcal;simp[hcal]
   |_=>exact At.bot
  |builtin b=>
   cases b with
   |len=>
    dsimp only;split
    ·exact At.kLen fun v=>z1r yC
    ·exact At.bot
   |append=>
    have hc:zU c s o=2:=by simp[zU,ho,hcal]
    dsimp only;split
    ·rename_i x y t u hx ht
     split
     ·have hmem:x∈o.op.operands.toList:=by simp[ho,Op.operands,Call.operands,hx]
      have h:=z6N (rw:=match o.dst with|some d=>c.glob d|none=>false) (P:=c.P) (s:=s) (t:=t) (dst:=o.dst) (v:=opv s x) (x:=opv s y) (K:=(uS o).flatMap (fun i=>yJ (s.get i))++o.dst.toList) (b:=(uS o).any fun i=>z8N (s.get i))
       hdk (fun k hk=>jS hmem hk) (fun h=>z4p hmem h)
      exact h.weaken fun p hp=>hp.within hdst (fun k hk=>by rw[hks hc (by simp)];exact hk) (fun h=>by simp[z0N,hc,h])
     ·exact At.bot
    ·exact At.bot
   |max=>
    dsimp only;split
    ·exact At.kD fun a=>At.kD fun b=>At.kI fun _ _=>At.kI fun _ _=>At.kIf (At.nam fun _=>z1r yC)
    ·exact At.bot
   |min=>
    dsimp only;split
    ·exact At.kD fun a=>At.kD fun b=>At.kI fun _ _=>At.kI fun _ _=>At.kIf (At.nam fun _=>z1r yC)
    ·exact At.bot
   |_=>exact At.bot
  |_=>exact At.bot
 |_=>exact At.bot
theorem vM{r:Nat}(h:zC s'.ar r=zC s.ar r)(g:Nat):s'.ob r g=s.ob r g:=by simp[St.ob,h]
theorem z5l{r:Nat}(h:zC s'.ar r=zC s.ar r):s'.gen r=s.gen r:=by simp[St.gen,h]
theorem z1u{r:Nat}(h:zC s'.ar r=zC s.ar r)(g:Nat):s'.live r g=s.live r g:=by simp[St.live,vM h]
theorem zS{dst:Option Nat}{v:Sv}(hn:s'.n=s.n):jX s' dst v=jX s dst v:=by funext k;cases dst<;>simp[jX,hn]
theorem vA{dst:Option Nat}{ob:Ob}{v:Nat→Nat→Sv}(hn:s'.n=s.n)(hd:∀d,dst=some d→zC s'.ar d=zC s.ar d):newAr s' dst ob v=newAr s dst ob v:=by
 funext k;cases dst with
 |none=>rfl
 |some d=>simp[newAr,hn,z5l (hd d rfl)]
theorem z3a{dst:Option Nat}{r g:Nat}{ob:Ob}{v:Sv}(hn:s'.n=s.n):z8d s' dst r g ob v=z8d s dst r g ob v:=by funext k;cases dst<;>simp[z8d,hn]
theorem z2V{dst:Option Nat}{cs:List Sv}(hn:s'.n=s.n)(hh:s'.h=s.h):newHp s' dst cs=newHp s dst cs:=by funext k;cases dst<;>simp[newHp,hn,hh]
theorem z5V{t:TypeId}{v:Sv}{k:Sv→Prop}(ha:∀r∈yJ v,zC s'.ar r=zC s.ar r)(hh:hpS v=true→s'.h=s.h)(hw:∀id off,v=.hp id off→(∃cs n xs,s.h[id]?=some cs∧cs[off]?=some (.own n xs))→s'.hv=s.hv):kLoad P t s' v k=kLoad P t s v k:=by
 cases v with
 |ref r g off=>simp[kLoad,vM (ha r (by simp[yJ]))]
 |rref r g m i off=>simp[kLoad,vM (ha r (by simp[yJ]))]
 |hp id off=>
  have h1:=hh rfl;simp only[kLoad,h1];cases hc:s.h[id]? with
  |none=>rfl
  |some cs=>
   have hl:∀v,cs[off]?=some v→z1F id off s'.hv v=z1F id off s.hv v:=fun v hv=>by
    cases v with
    |own n xs=>simp[z1F,hw id off rfl ⟨cs,n,xs,hc,hv⟩]
    |_=>rfl
   have:∀n,kBoxT P t n cs off (z1F id off s'.hv) k=kBoxT P t n cs off (z1F id off s.hv) k:=fun n=>by
    unfold kBoxT;congr 1;cases hv:cs[off]? with
    |none=>rfl
    |some v=>show k _=k _;rw[hl v hv]
   show(kOpt (vC P t) fun n=>kBoxT P t n cs off (z1F id off s'.hv) k)=kOpt (vC P t) fun n=>kBoxT P t n cs off (z1F id off s.hv) k;simp only[this]
 |_=>rfl
theorem z5s{t:TypeId}{a v:Sv}{k:zZ→Prop}(ha:∀r∈yJ a,zC s'.ar r=zC s.ar r)(hv:∀r∈yJ v,zC s'.ar r=zC s.ar r)(hh:s'.h=s.h):z0a P t s' a v k=z0a P t s a v k:=by
 cases a with
 |ref r g off=>
  cases v with
  |cells ws=>
   have hok:∀c∈ws,z2Y s' c=z2Y s c:=fun c hc=>by
    cases c with
    |row k g'=>simp only[z2Y,vM (hv k (by simp only[yJ,List.mem_flatMap];exact⟨_,hc,by simp[y0X]⟩))]
    |_=>rfl
   have hall:ws.all (z2Y s')=ws.all (z2Y s):=by
    rw[Bool.eq_iff_iff,List.all_eq_true,List.all_eq_true];exact⟨fun h c hc=>by rw[←hok c hc];exact h c hc,fun h c hc=>by rw[hok c hc];exact h c hc⟩
   simp[z0a,vM (ha r (by simp[yJ])),hall]
  |_=>simp[z0a,vM (ha r (by simp[yJ]))]
 |rref r g m i off=>simp[z0a,vM (ha r (by simp[yJ]))]
 |hp id off=>
  cases v with
  |right r g m xs=>simp[z0a,hh,vM (hv r (by simp[yJ]))]
  |_=>simp[z0a,hh]
 |_=>rfl
theorem z1S{t:TypeId}{v:Sv}{f:Nat}{k:Sv→Prop}(ha:∀r∈yJ v,zC s'.ar r=zC s.ar r):kFieldAddr P t s' v f k=kFieldAddr P t s v f k:=by
 cases v with
 |ref r g off=>simp[kFieldAddr,z1u (ha r (by simp[yJ]))]
 |rref r g m i off=>simp[kFieldAddr,z1u (ha r (by simp[yJ]))]
 |_=>rfl
theorem z1T{t:TypeId}{v i:Sv}{k:Sv→Prop}(ha:∀r∈yJ v,zC s'.ar r=zC s.ar r):kIndexAddr P t s' v i k=kIndexAddr P t s v i k:=by
 cases v with
 |row r g=>simp[kIndexAddr,vM (ha r (by simp[yJ]))]
 |ref r g off=>simp[kIndexAddr,vM (ha r (by simp[yJ]))]
 |_=>rfl
theorem z6Z{t:TypeId}{v:Sv}{k:Sv→Prop}(ha:∀r∈yJ v,zC s'.ar r=zC s.ar r):kLen P t s' v k=kLen P t s v k:=by
 unfold kLen;split
 ·cases v with
  |row r g=>simp[vM (ha r (by simp[yJ]))]
  |_=>rfl
 ·rfl
 ·rfl
theorem z1G{dst:Option Nat}{rs:List Sv}{h:Option H}(hn:s'.n=s.n)(hd:∀d,dst=some d→zC s'.ar d=zC s.ar d):jM s' dst rs h=jM s dst rs h:=by
 funext k;unfold jM;split
 ·rw[vA hn hd]
 ·rw[vA hn hd]
 ·simp only[vA hn hd]
 ·rw[zS hn]
 ·rw[zS hn]
theorem z5U{c:Cx}{dst:Option Nat}{f:FuncId}{vs:List Sv}(hn:s'.n=s.n)(hd:∀d,dst=some d→zC s'.ar d=zC s.ar d)(hh:c.pur f=false→s'.h=s.h):z3C c s' dst f vs=z3C c s dst f vs:=by
 funext k;unfold z3C;cases hp:c.pur f with
 |true=>simp only[z1G hn hd];rfl
 |false=>simp only[z1G hn hd,hh hp]
theorem z5r{t:TypeId}{dst:Option Nat}{v:Sv}{lo hi mx:Option Sv}{k:zZ→Prop}(hn:s'.n=s.n)(hd:∀d,dst=some d→zC s'.ar d=zC s.ar d)(ha:∀r∈yJ v,zC s'.ar r=zC s.ar r):
  z1E P t s' dst v lo hi mx k=z1E P t s dst v lo hi mx k:=by
 unfold z1E;split
 ·simp only[zS hn]
 ·have h2:∀xs,z4w s' dst lo hi xs k=z4w s dst lo hi xs k:=fun xs=>by simp only[z4w,zS hn]
  have h3:∀n xs,z4x n s' dst lo hi mx xs k=z4x n s dst lo hi mx xs k:=fun n xs=>by simp only[z4x,vA hn hd]
  simp only[h2,h3]
 ·cases v with
  |ref r g off=>
   cases mx<;>cases hi<;>first|rfl|simp only[vM (ha r (by simp[yJ])),zS hn]
  |_=>rfl
 ·rfl
theorem z4s{t:TypeId}{rw:Bool}{dst:Option Nat}{v x:Sv}{k:zZ→Prop}(hn:s'.n=s.n)(hd:∀d,dst=some d→zC s'.ar d=zC s.ar d)(ha:∀r∈yJ v,zC s'.ar r=zC s.ar r)(hh:s'.h=s.h∧s'.hv=s.hv):
  z0E P t s' rw dst v x k=z0E P t s rw dst v x k:=by
 cases v with
 |right r g n xs=>simp only[z0E,vM (ha r (by simp[yJ])),vA hn hd,z3a hn,hh.1,hh.2]
 |_=>simp only[z0E,vA hn hd,z3a hn,hh.1,hh.2]
theorem z0S(ps:List (Nat×Nat×Option Ob)){a b:List (Nat×Nat×Option Ob)}{r:Nat}(h:zC a r=zC b r):zC (ps++a) r=zC (ps++b) r:=by
 induction ps with
 |nil=>exact h
 |cons x ps ih=>
  obtain⟨j,v⟩:=x;rw[List.cons_append,List.cons_append,zB,zB,ih]
theorem z0l:∀{vs:List Sv} {s s':St} {G G':List (Nat×Nat×Option Ob)→List Sv→Prop},(∀r∈jF vs,zC s'.ar r=zC s.ar r)→(∀ps us,(∀x∈jF us,x∈jF vs)→G' ps us=G ps us)→z6Y s' vs G'=z6Y s vs G
 |[],s,s',G,G',_,h=>h [] [] (fun _ h=>h)
 |v::r,s,s',G,G',ha,h=>by
  have har:∀x∈jF r,zC s'.ar x=zC s.ar x:=fun x hx=>ha x (List.mem_append_right _ hx);by_cases hrow:∃a g,v=.row a g
  ·obtain⟨a,g,rfl⟩:=hrow;have ho:s'.ob a g=s.ob a g:=vM (ha a (by simp[jF,yJ])) g;show kOpt (s'.ob a g) _=kOpt (s.ob a g) _;rw[ho];congr 1;funext ob;cases ob with
   |row n xs=>
    refine z0l (fun x hx=>z0S [(a,g,none)] (har x hx)) (fun ps us hu=>h _ _ fun x hx=>?_);simp only[jF,List.flatMap_cons,yJ,List.nil_append]at hx;exact List.mem_append_right _ (hu x hx)
   |_=>rfl
  ·have e:∀(s:St) (G:List (Nat×Nat×Option Ob)→List Sv→Prop),z6Y s (v::r) G=z6Y s r fun ps us=>G ps (v::us):=fun s G=>by
    cases v with
    |row a g=>exact absurd ⟨a,g,rfl⟩ hrow
    |_=>rfl
   rw[e,e];refine z0l har (fun ps us hu=>h _ _ fun x hx=>?_);simp only[jF,List.flatMap_cons]at hx ⊢;rcases List.mem_append.1 hx with hx|hx
   ·exact List.mem_append_left _ hx
   ·exact List.mem_append_right _ (hu x hx)
theorem z4y{t:TypeId}{a v:Sv}{k:zZ→Prop}(ha:∀r∈yJ a,zC s'.ar r=zC s.ar r)(hv:∀r∈yJ v,zC s'.ar r=zC s.ar r)(hh:s'.h=s.h):z2M P t s' a v k=z2M P t s a v k:=by
 refine z0l (fun r hr=>hv r (by simpa [jF]using hr)) fun ps us hu=>?_;split
 ·rename_i y
  exact z5s (fun r hr=>z0S ps (ha r hr)) (fun r hr=>z0S ps (hv r (by simpa [jF]using hu r (by simpa [jF]using hr)))) hh
 ·rfl
theorem z5o{c:Cx}{dst:Option Nat}{f:FuncId}{first vs cap:List Sv}{k:zZ→Prop}(hn:s'.n=s.n)(hd:∀d,dst=some d→zC s'.ar d=zC s.ar d)(hv:∀r∈jF vs,zC s'.ar r=zC s.ar r)(hh:c.pur f=false→s'.h=s.h):
  z5n c s' dst f first vs cap k=z5n c s dst f first vs cap k:=
 z0l hv fun ps us _=>by rw[z5U (s:=s.app ⟨[],ps,none⟩) (s':=s'.app ⟨[],ps,none⟩) hn (fun d h=>z0S ps (hd d h)) hh]
structure Agree(f:FP)(s s':St):Prop where
 n:s'.n=s.n
 get:∀i∈f.rs,s'.get i=s.get i
 ar:∀k∈f.ra,zC s'.ar k=zC s.ar k
 h:f.rh=true→s'.h=s.h∧s'.hv=s.hv
 d:f.rd=true→s'.h=s.h
theorem z3I{c:Cx}{ops:Array Oper}{o:Oper}(A:Agree (z0N c ops o s) s s')(k:zZ→Prop):z5h c o s' k=z5h c o s k:=by
 have hop:∀x∈o.op.operands.toList,opv s' x=opv s x:=fun x hx=>by
  cases x with
  |tmp t=>exact A.get t (by simp only[z0N];exact List.mem_append_left _ (List.mem_filterMap.2 ⟨_,hx,rfl⟩))
  |_=>rfl
 have hn:=A.n;have hd:∀d,o.dst=some d→zC s'.ar d=zC s.ar d:=fun d h=>A.ar d (by simp[z0N,h]);have ha:∀x∈o.op.operands.toList,∀r∈yJ (opv s x),zC s'.ar r=zC s.ar r:=fun x hx r hr=>A.ar r (by simp only[z0N];exact jS hx hr);have hh:z8a o=true→∀x∈o.op.operands.toList,hpS (opv s x)=true→s'.h=s.h:=fun hm x hx h=>A.d (by simp only[z0N,z4p hx h,hm,Bool.true_and,Bool.true_or]);have h2:zU c s o=2→s'.h=s.h∧s'.hv=s.hv:=fun h=>A.h (by simp[z0N,h])
 have mapc:∀xs:List Operand,(∀x∈xs,x∈o.op.operands.toList)→xs.map (opv s')=xs.map (opv s):=fun xs h=>List.map_congr_left fun x hx=>hop x (h x hx);have optc:∀x:Option Operand,(∀y,x=some y→y∈o.op.operands.toList)→x.map (opv s')=x.map (opv s):=fun x h=>by
  cases x with
  |none=>rfl
  |some y=>simp[hop y (h y rfl)]
 unfold z5h;cases ho:o.op with
 |move x=>simp only[hop x (by simp[ho,Op.operands]),zS hn]
 |assign x=>simp only[hop x (by simp[ho,Op.operands]),zS hn]
 |pick x a b=>simp only[hop x (by simp[ho,Op.operands]),hop a (by simp[ho,Op.operands]),hop b (by simp[ho,Op.operands]),zS hn]
 |alloc t=>
  cases hd':o.dst with
  |none=>rfl
  |some d=>
   simp only[];rw[←hd'];cases hg:c.glob d with
   |true=>
    have hc:zU c s o=2:=by simp[zU,ho,hd',hg]
    simp only[z2V hn (h2 hc).1];rfl
   |false=>simp only[vA hn hd];rfl
 |box t v=>
  cases hd':o.dst with
  |none=>rfl
  |some d=>
   simp only[hop v (by simp[ho,Op.operands])];rw[←hd'];cases hg:c.glob d with
   |true=>
    have hc:zU c s o=2:=by simp[zU,ho,hd',hg]
    simp only[z2V hn (h2 hc).1];rfl
   |false=>simp only[vA hn hd];rfl
 |build t ps=>
  have:(ps.toList.map fun(i,x)=>(i,opv s' x))=ps.toList.map fun(i,x)=>(i,opv s x):=List.map_congr_left fun⟨i,x⟩ hx=>by
   show(i,opv s' x)=(i,opv s x);rw[hop x (by simp[ho,Op.operands];exact⟨i,by simpa using hx⟩)]
  simp only[this,zS hn]
 |buildSlice t len ps=>
  have:(ps.toList.map fun(i,x)=>(i,opv s' x))=ps.toList.map fun(i,x)=>(i,opv s x):=List.map_congr_left fun⟨i,x⟩ hx=>by
   show(i,opv s' x)=(i,opv s x);rw[hop x (by simp[ho,Op.operands];exact⟨i,by simpa using hx⟩)]
  simp only[this,vA hn hd]
 |load t a=>simp only[hop a (by simp[ho,Op.operands]),zS hn,z5V (ha a (by simp[ho,Op.operands])) (hh (by simp[z8a,ho]) a (by simp[ho,Op.operands])) (fun id off hv ⟨cs,n,xs,h1,h2⟩=>(A.h (by
   have hs:z8w s o=false:=by simp[z8w,ho,hv,h1,h2]
   have hr:z9F c s o=false:=by simp[z9F,ho]
   have hu:=z4p (s:=s) (o:=o) (x:=a) (by simp[ho,Op.operands]) (by rw[hv];rfl);simp[z0N,hs,hr,hu,z8a,ho])).2)]
 |store t a v=>
  have hc:zU c s o=2:=by simp[zU,ho]
  simp only[hop a (by simp[ho,Op.operands]),hop v (by simp[ho,Op.operands]),z4y (ha a (by simp[ho,Op.operands])) (ha v (by simp[ho,Op.operands])) (h2 hc).1]
 |nilCheck x=>
  simp only[hop x (by simp[ho,Op.operands])];have:=ha x (by simp[ho,Op.operands]);split
  ·simp only[zS hn]
  ·rename_i r g f h
   rw[h]at this;simp only[zS hn,z1u (this r (by simp[yJ]))]
  ·simp only[zS hn]
  ·simp only[zS hn]
  ·rfl
 |binOp op t x y z=>cases op<;>simp only[hop x (by simp[ho,Op.operands]),hop y (by simp[ho,Op.operands]),zS hn]
 |unOp op t x=>cases op<;>simp only[hop x (by simp[ho,Op.operands]),zS hn]
 |convert src dst x=>simp only[hop x (by simp[ho,Op.operands]),zS hn]
 |makeFunc f first cap=>
  have h1:=mapc first.toList (fun x hx=>by simp[ho,Op.operands];exact .inl (by simpa using hx))
  have h2:=mapc cap.toList (fun x hx=>by simp[ho,Op.operands];exact .inr (by simpa using hx));simp only[h1,h2,zS hn]
 |makeSlice t l m=>simp only[hop l (by simp[ho,Op.operands]),hop m (by simp[ho,Op.operands]),vA hn hd]
 |slice t x lo hi mx=>
  have e1:=optc lo (fun y h=>by subst h;simp[ho,Op.operands]);have e2:=optc hi (fun y h=>by subst h;simp[ho,Op.operands]);have e3:=optc mx (fun y h=>by subst h;simp[ho,Op.operands]);simp only[hop x (by simp[ho,Op.operands]),e1,e2,e3,z5r hn hd (ha x (by simp[ho,Op.operands]))]
 |fieldAddr t x f=>simp only[hop x (by simp[ho,Op.operands]),zS hn,z1S (ha x (by simp[ho,Op.operands]))]
 |field t x f=>simp only[hop x (by simp[ho,Op.operands]),zS hn]
 |indexAddr t x i=>simp only[hop x (by simp[ho,Op.operands]),hop i (by simp[ho,Op.operands]),zS hn,z1T (ha x (by simp[ho,Op.operands]))]
 |index t x i=>simp only[hop x (by simp[ho,Op.operands]),hop i (by simp[ho,Op.operands]),zS hn]
 |extract t i=>simp only[hop t (by simp[ho,Op.operands]),zS hn]
 |call cl=>
  have hargs:∀x∈cl.args.toList,x∈o.op.operands.toList:=fun x hx=>by simp[ho,Op.operands,Call.operands];exact .inr (by simpa using hx)
  simp only[];unfold z7Q;cases hcal:cl.callee with
  |value f=>
   have hf:f∈o.op.operands.toList:=by simp[ho,Op.operands,Call.operands,hcal]
   simp only[hop f hf,mapc cl.args.toList hargs];cases hfv:opv s f with
   |fn g first cap=>
    simp only[];exact z5o hn hd (fun r hr=>by
     obtain⟨v,hv,hk⟩:=List.mem_flatMap.1 hr;obtain⟨x,hx,rfl⟩:=List.mem_map.1 hv;exact ha x (hargs x hx) r hk) (fun hp=>by
      cases hr:c.ro g with
      |false=>exact(h2 (by simp[zU,ho,hcal,hfv,hp,hr])).1
      |true=>exact A.d (by simp[z0N,z9F,ho,hcal,hfv,hp,hr]))
   |_=>rfl
  |builtin b=>
   cases b with
   |len=>
    simp only[];split
    ·rename_i x t hx ht
     have hm:=hargs x (by simp[hx]);simp only[hop x hm,zS hn,z6Z (ha x hm)]
    ·rfl
   |append=>
    have hc:zU c s o=2:=by simp[zU,ho,hcal]
    simp only[];split
    ·rename_i x y t u hx ht
     have hm:=hargs x (by simp[hx]);simp only[hop x hm,hop y (hargs y (by simp[hx])),z4s hn hd (ha x hm) (h2 hc)]
    ·rfl
   |max=>
    simp only[];split
    ·rename_i x y hx
     simp only[hop x (hargs x (by simp[hx])),hop y (hargs y (by simp[hx])),zS hn]
    ·rfl
   |min=>
    simp only[];split
    ·rename_i x y hx
     simp only[hop x (hargs x (by simp[hx])),hop y (hargs y (by simp[hx])),zS hn]
    ·rfl
   |_=>rfl
  |_=>rfl
 |_=>rfl
end
end Nt

