import Derived.Test.YtjlohgfmobpfmaaFwV
namespace Nt
open Go
set_option linter.unusedVariables false
set_option linter.unusedSimpArgs false
section
variable {P:Program} {s s':St}
theorem z5Q(c:Cx)(ops:Array Oper)(o:Oper)(s:St):At (gJ (gP c ops o s) s) (z3G c o s):=by
 have hdst:∀d,o.dst=some d→d∈(gP c ops o s).ws:=fun d hd=>by simp[gP,hd]
 have z0o:∀{F:(zQ→Prop)→Prop},At (Wi o.dst [] false) F→At (gJ (gP c ops o s) s) F:=fun h=>h.weaken fun p hp=>hp.within hdst (by simp) (by simp);have hks:∀{n:Nat},zM c s o=n→n≠0→(gP c ops o s).wa=(wI o).flatMap (fun i=>zW (s.get i))++o.dst.toList:=fun h hn=>by
  have:Nat.beq (zM c s o) 0=false:=z1e (by omega);simp[gP,this]
 have hdk:∀d,o.dst=some d→d∈(wI o).flatMap (fun i=>zW (s.get i))++o.dst.toList:=fun d hd=>by simp[hd]
 have fin1:∀{F:(zQ→Prop)→Prop} {n:Nat},zM c s o=n→n≠0→At (Wi o.dst ((wI o).flatMap (fun i=>zW (s.get i))++o.dst.toList) false) F→At (gJ (gP c ops o s) s) F:=fun h hn g=>
  g.weaken fun p hp=>hp.within hdst (fun k hk=>by rw[hks h hn];exact hk) (by simp)
 have fin2:∀{F:(zQ→Prop)→Prop},zM c s o=2→(gP c ops o s).wh=true→At (Wi o.dst ((wI o).flatMap (fun i=>zW (s.get i))++o.dst.toList) true) F→At (gJ (gP c ops o s) s) F:=fun h hw g=>
  g.weaken fun p hp=>hp.within hdst (fun k hk=>by rw[hks h (by omega)];exact hk) (fun _=>hw)
 unfold z3G;cases ho:o.op with
 |move x=>exact z0o zR
 |assign x=>exact z0o zR
 |pick x a b=>exact z0o (At.brS zR zR)
 |alloc t=>
  refine At.kOpt fun z=>At.kIf ?_;cases hd:o.dst with
  |none=>exact At.bot
  |some d=>
   dsimp only;rw[←hd];cases hg:c.glob d with
   |true=>
    have hc:zM c s o=2:=by simp[zM,ho,hd,hg]
    exact fin2 hc (by simp[gP,hc,ho]) z2E
   |false=>
    have hc:zM c s o=1:=by simp[zM,ho,hd,hg]
    show At _ (fun k=>match c.P.underlying t with
     |some (.array _ e)=>kOpt (yO c.P e) fun n=>kIf (Nat.beq n 1) (kOpt (wQ z.cells.toList) fun ds=>newAr s o.dst (.row 1 ds) (fun d g=>.ref d g 0) k)
     |some (.struct _)=>match wQ z.cells.toList with
      |some ds=>newAr s o.dst (.agg (.agg ds)) (fun d g=>.ref d g 0) k
      |none=>newAr s o.dst (.box (z.cells.toList.map vW)) (fun d g=>.ref d g 0) k
     |_=>newAr s o.dst (.box (z.cells.toList.map vW)) (fun d g=>.ref d g 0) k)
    split
    ·exact At.kOpt fun n=>At.kIf (At.kOpt fun ds=>fin1 hc (by simp) (yD hdk))
    ·split
     ·exact fin1 hc (by simp) (yD hdk)
     ·exact fin1 hc (by simp) (yD hdk)
    ·exact fin1 hc (by simp) (yD hdk)
 |box t v=>
  cases hd:o.dst with
  |none=>exact At.bot
  |some d=>
   dsimp only;rw[←hd];cases hg:c.glob d with
   |true=>
    have hc:zM c s o=2:=by simp[zM,ho,hd,hg]
    simp only[cond_true];exact At.cond (At.kOpt fun n=>At.kBld fun ws=>fin2 hc (by simp[gP,hc,ho]) z2E) (At.kKeep fun w=>fin2 hc (by simp[gP,hc,ho]) z2E)
   |false=>
    have hc:zM c s o=1:=by simp[zM,ho,hd,hg]
    simp only[cond_false];exact At.cond (At.kOpt fun n=>At.kD fun x=>At.kWhole (fin1 hc (by simp) (yD hdk))) (At.kKeep fun w=>fin1 hc (by simp) (yD hdk))
 |build t ps=>
  dsimp only;split
  ·exact At.kIf (At.kOpt fun z=>At.kOpt fun cs=>At.kFill fun cs=>z0o zR)
  ·exact At.bot
 |buildSlice t len ps=>
  have hc:zM c s o=1:=by simp[zM,ho]
  exact At.kOpt fun e=>At.kOpt fun n=>At.kOpt fun z=>At.kIf (At.kIf (At.kElems fun xs=>fin1 hc (by simp) (yD hdk)))
 |load t a=>exact At.kLoad fun v=>z0o zR
 |store t a v=>
  have hc:zM c s o=2:=by simp[zM,ho]
  cases hd:o.dst with
  |some d=>exact At.bot
  |none=>
   have h:=z5n (P:=c.P) (s:=s) (t:=t) (a:=opv s a) (v:=opv s v) (K:=(wI o).flatMap (fun i=>zW (s.get i))++o.dst.toList) (b:=(wI o).any fun i=>z7m (s.get i))
    (fun k hk=>uE (by simp[ho,Op.operands]) hk) (fun k hk=>uE (by simp[ho,Op.operands]) hk) (fun h=>z2Q (by simp[ho,Op.operands]) h)
   refine h.weaken fun p hp=>hp.within (by simp) (fun k hk=>by rw[hks hc (by simp)];exact hk) (fun h=>by simp[gP,hc,h])
 |nilCheck x=>
  dsimp only;split<;>first|exact z0o zR|exact At.kIf (z0o zR)|exact At.bot
 |binOp op t x y z=>
  cases op<;>first|exact At.kEqOp fun b=>z0o zR|exact At.kD fun a=>At.kD fun b=>At.kBin fun r=>z0o zR
 |unOp op t x=>
  refine At.kD fun a=>?_;cases op<;>first|exact At.kI fun i n=>At.nam fun _=>z0o zR|(cases a<;>first|exact z0o zR|exact At.bot)|exact At.bot
 |convert src dst x=>
  dsimp only;split
  ·exact At.kD fun a=>At.kI fun _ n=>At.nam fun _=>z0o zR
  ·exact At.kD fun a=>At.kStr fun u=>z0o zR
  ·split
   ·exact At.kD fun a=>At.kSl fun xs=>At.toBytes fun u=>z0o zR
   ·exact At.bot
  ·exact At.bot
 |makeFunc f first cap=>
  cases f<;>first|exact At.kArgs fun xs=>At.kArgs fun ys=>z0o zR|exact At.bot
 |makeSlice t l m=>
  have hc:zM c s o=1:=by simp[zM,ho]
  exact At.kOpt fun e=>At.kOpt fun n=>At.kOpt fun b=>At.kOpt fun z=>At.kD fun lx=>At.kI fun _ l=>At.kD fun mx=>At.kI fun _ m=>At.and (At.cond
   (At.kOpt fun ds=>At.kIf (At.nam fun _=>fin1 hc (by simp) (yD hdk))) (At.kOpt fun x=>At.kIf (At.nam fun _=>fin1 hc (by simp) (yD hdk))))
 |slice t x lo hi mx=>
  have hc:zM c s o=1:=by simp[zM,ho]
  exact fin1 hc (by simp) (z5R (fun k hk=>uE (by simp[ho,Op.operands]) hk) hdk)
 |fieldAddr t x f=>exact At.kFieldAddr fun v=>z0o zR
 |field t x f=>exact At.kField fun v=>z0o zR
 |indexAddr t x i=>exact At.kIndexAddr fun v=>z0o zR
 |index t x i=>
  dsimp only;split
  ·exact At.kIndex fun v=>z0o zR
  ·exact At.bot
 |extract t i=>
  dsimp only;split
  ·exact At.kOpt fun v=>z0o zR
  ·exact At.bot
 |call cl=>
  dsimp only;unfold z6p;cases hcal:cl.callee with
  |value f=>
   dsimp only;cases hf:opv s f with
   |fn g first cap=>
    have hkeys:∀k∈wT (cl.args.toList.map (opv s)),k∈(wI o).flatMap (fun i=>zW (s.get i))++o.dst.toList:=fun k hk=>by
     obtain⟨v,hv,hk⟩:=List.mem_flatMap.1 hk;obtain⟨x,hx,rfl⟩:=List.mem_map.1 hv;exact uE (by simp[ho,Op.operands,Call.operands];exact .inr (by simpa using hx)) hk
    cases hp:c.pur g with
    |true=>
     have hc:zM c s o=1:=by simp[zM,ho,hcal,hf,hp]
     exact fin1 hc (by simp) (z3t hdk hkeys (by simp[hp]))
    |false=>
     cases hr:c.ro g with
     |true=>
      have hc:zM c s o=1:=by simp[zM,ho,hcal,hf,hp,hr]
      have hro:z8b c s o=true:=by simp[z8b,ho,hcal,hf,hp,hr]
      exact(z3u (s:=s) hdk hkeys hp hr).weaken fun p q=>⟨fun x hx=>hdst _ (q.1.1 x hx),fun x hx=>by rw[hks hc (by simp)];exact q.1.2.1 x hx,fun _=>.inr ⟨by simp[gP,hro],q.2⟩⟩
     |false=>
     have hc:zM c s o=2:=by simp[zM,ho,hcal,hf,hp,hr]
     refine fin2 hc ?_ (z3t hdk hkeys (by simp));simp only[gP,hc,ho];cases cl;simp at hcal;simp[hcal]
   |_=>exact At.bot
  |builtin b=>
   cases b with
   |len=>
    dsimp only;split
    ·exact At.kLen fun v=>z0o zR
    ·exact At.bot
   |append=>
    have hc:zM c s o=2:=by simp[zM,ho,hcal]
    dsimp only;split
    ·rename_i x y t u hx ht
     split
     ·have hmem:x∈o.op.operands.toList:=by simp[ho,Op.operands,Call.operands,hx]
      have h:=z5m (rw:=match o.dst with|some d=>c.glob d|none=>false) (P:=c.P) (s:=s) (t:=t) (dst:=o.dst) (v:=opv s x) (x:=opv s y) (K:=(wI o).flatMap (fun i=>zW (s.get i))++o.dst.toList) (b:=(wI o).any fun i=>z7m (s.get i))
       hdk (fun k hk=>uE hmem hk) (fun h=>z2Q hmem h)
      exact h.weaken fun p hp=>hp.within hdst (fun k hk=>by rw[hks hc (by simp)];exact hk) (fun h=>by simp[gP,hc,h])
     ·exact At.bot
    ·exact At.bot
   |max=>
    dsimp only;split
    ·exact At.kD fun a=>At.kD fun b=>At.kI fun _ _=>At.kI fun _ _=>At.kIf (At.nam fun _=>z0o zR)
    ·exact At.bot
   |min=>
    dsimp only;split
    ·exact At.kD fun a=>At.kD fun b=>At.kI fun _ _=>At.kI fun _ _=>At.kIf (At.nam fun _=>z0o zR)
    ·exact At.bot
   |_=>exact At.bot
  |_=>exact At.bot
 |_=>exact At.bot
theorem yU{r:Nat}(h:zC s'.ar r=zC s.ar r)(g:Nat):s'.ob r g=s.ob r g:=by simp[St.ob,h]
theorem z3L{r:Nat}(h:zC s'.ar r=zC s.ar r):s'.gen r=s.gen r:=by simp[St.gen,h]
theorem z0q{r:Nat}(h:zC s'.ar r=zC s.ar r)(g:Nat):s'.live r g=s.live r g:=by simp[St.live,yU h]
theorem zK{dst:Option Nat}{v:Sv}(hn:s'.n=s.n):uH s' dst v=uH s dst v:=by funext k;cases dst<;>simp[uH,hn]
theorem yN{dst:Option Nat}{ob:Ob}{v:Nat→Nat→Sv}(hn:s'.n=s.n)(hd:∀d,dst=some d→zC s'.ar d=zC s.ar d):newAr s' dst ob v=newAr s dst ob v:=by
 funext k;cases dst with
 |none=>rfl
 |some d=>simp[newAr,hn,z3L (hd d rfl)]
theorem z1I{dst:Option Nat}{r g:Nat}{ob:Ob}{v:Sv}(hn:s'.n=s.n):z6C s' dst r g ob v=z6C s dst r g ob v:=by funext k;cases dst<;>simp[z6C,hn]
theorem z1D{dst:Option Nat}{cs:List Sv}(hn:s'.n=s.n)(hh:s'.h=s.h):newHp s' dst cs=newHp s dst cs:=by funext k;cases dst<;>simp[newHp,hn,hh]
theorem z4s{t:TypeId}{v:Sv}{k:Sv→Prop}(ha:∀r∈zW v,zC s'.ar r=zC s.ar r)(hh:hpS v=true→s'.h=s.h)(hw:∀id off,v=.hp id off→(∃cs n xs,s.h[id]?=some cs∧cs[off]?=some (.own n xs))→s'.hv=s.hv):kLoad P t s' v k=kLoad P t s v k:=by
 cases v with
 |ref r g off=>simp[kLoad,yU (ha r (by simp[zW]))]
 |rref r g m i off=>simp[kLoad,yU (ha r (by simp[zW]))]
 |hp id off=>
  have h1:=hh rfl;simp only[kLoad,h1];cases hc:s.h[id]? with
  |none=>rfl
  |some cs=>
   have hl:∀v,cs[off]?=some v→z0B id off s'.hv v=z0B id off s.hv v:=fun v hv=>by
    cases v with
    |own n xs=>simp[z0B,hw id off rfl ⟨cs,n,xs,hc,hv⟩]
    |_=>rfl
   have:∀n,kBoxT P t n cs off (z0B id off s'.hv) k=kBoxT P t n cs off (z0B id off s.hv) k:=fun n=>by
    unfold kBoxT;congr 1;cases hv:cs[off]? with
    |none=>rfl
    |some v=>show k _=k _;rw[hl v hv]
   show(kOpt (yO P t) fun n=>kBoxT P t n cs off (z0B id off s'.hv) k)=kOpt (yO P t) fun n=>kBoxT P t n cs off (z0B id off s.hv) k;simp only[this]
 |_=>rfl
theorem z3S{t:TypeId}{a v:Sv}{k:zQ→Prop}(ha:∀r∈zW a,zC s'.ar r=zC s.ar r)(hv:∀r∈zW v,zC s'.ar r=zC s.ar r)(hh:s'.h=s.h):jD P t s' a v k=jD P t s a v k:=by
 cases a with
 |ref r g off=>
  cases v with
  |cells ws=>
   have hok:∀c∈ws,z1G s' c=z1G s c:=fun c hc=>by
    cases c with
    |row k g'=>simp only[z1G,yU (hv k (by simp only[zW,List.mem_flatMap];exact⟨_,hc,by simp[z9l]⟩))]
    |_=>rfl
   have hall:ws.all (z1G s')=ws.all (z1G s):=by
    rw[Bool.eq_iff_iff,List.all_eq_true,List.all_eq_true];exact⟨fun h c hc=>by rw[←hok c hc];exact h c hc,fun h c hc=>by rw[hok c hc];exact h c hc⟩
   simp[jD,yU (ha r (by simp[zW])),hall]
  |_=>simp[jD,yU (ha r (by simp[zW]))]
 |rref r g m i off=>simp[jD,yU (ha r (by simp[zW]))]
 |hp id off=>
  cases v with
  |right r g m xs=>simp[jD,hh,yU (hv r (by simp[zW]))]
  |_=>simp[jD,hh]
 |_=>rfl
theorem z0M{t:TypeId}{v:Sv}{f:Nat}{k:Sv→Prop}(ha:∀r∈zW v,zC s'.ar r=zC s.ar r):kFieldAddr P t s' v f k=kFieldAddr P t s v f k:=by
 cases v with
 |ref r g off=>simp[kFieldAddr,z0q (ha r (by simp[zW]))]
 |rref r g m i off=>simp[kFieldAddr,z0q (ha r (by simp[zW]))]
 |_=>rfl
theorem z0N{t:TypeId}{v i:Sv}{k:Sv→Prop}(ha:∀r∈zW v,zC s'.ar r=zC s.ar r):kIndexAddr P t s' v i k=kIndexAddr P t s v i k:=by
 cases v with
 |row r g=>simp[kIndexAddr,yU (ha r (by simp[zW]))]
 |ref r g off=>simp[kIndexAddr,yU (ha r (by simp[zW]))]
 |_=>rfl
theorem z5z{t:TypeId}{v:Sv}{k:Sv→Prop}(ha:∀r∈zW v,zC s'.ar r=zC s.ar r):kLen P t s' v k=kLen P t s v k:=by
 unfold kLen;split
 ·cases v with
  |row r g=>simp[yU (ha r (by simp[zW]))]
  |_=>rfl
 ·rfl
 ·rfl
theorem z0C{dst:Option Nat}{rs:List Sv}{h:Option H}(hn:s'.n=s.n)(hd:∀d,dst=some d→zC s'.ar d=zC s.ar d):wZ s' dst rs h=wZ s dst rs h:=by
 funext k;unfold wZ;split
 ·rw[yN hn hd]
 ·rw[yN hn hd]
 ·simp only[yN hn hd]
 ·rw[zK hn]
 ·rw[zK hn]
theorem z4r{c:Cx}{dst:Option Nat}{f:FuncId}{vs:List Sv}(hn:s'.n=s.n)(hd:∀d,dst=some d→zC s'.ar d=zC s.ar d)(hh:c.pur f=false→s'.h=s.h):z2c c s' dst f vs=z2c c s dst f vs:=by
 funext k;unfold z2c;cases hp:c.pur f with
 |true=>simp only[z0C hn hd];rfl
 |false=>simp only[z0C hn hd,hh hp]
theorem z3R{t:TypeId}{dst:Option Nat}{v:Sv}{lo hi mx:Option Sv}{k:zQ→Prop}(hn:s'.n=s.n)(hd:∀d,dst=some d→zC s'.ar d=zC s.ar d)(ha:∀r∈zW v,zC s'.ar r=zC s.ar r):
  z0A P t s' dst v lo hi mx k=z0A P t s dst v lo hi mx k:=by
 unfold z0A;split
 ·simp only[zK hn]
 ·have h2:∀xs,z2X s' dst lo hi xs k=z2X s dst lo hi xs k:=fun xs=>by simp only[z2X,zK hn]
  have h3:∀n xs,z2Y n s' dst lo hi mx xs k=z2Y n s dst lo hi mx xs k:=fun n xs=>by simp only[z2Y,yN hn hd]
  simp only[h2,h3]
 ·cases v with
  |ref r g off=>
   cases mx<;>cases hi<;>first|rfl|simp only[yU (ha r (by simp[zW])),zK hn]
  |_=>rfl
 ·rfl
theorem z2T{t:TypeId}{rw:Bool}{dst:Option Nat}{v x:Sv}{k:zQ→Prop}(hn:s'.n=s.n)(hd:∀d,dst=some d→zC s'.ar d=zC s.ar d)(ha:∀r∈zW v,zC s'.ar r=zC s.ar r)(hh:s'.h=s.h∧s'.hv=s.hv):
  gG P t s' rw dst v x k=gG P t s rw dst v x k:=by
 cases v with
 |right r g n xs=>simp only[gG,yU (ha r (by simp[zW])),yN hn hd,z1I hn,hh.1,hh.2]
 |_=>simp only[gG,yN hn hd,z1I hn,hh.1,hh.2]
theorem gU(ps:List (Nat×Nat×Option Ob)){a b:List (Nat×Nat×Option Ob)}{r:Nat}(h:zC a r=zC b r):zC (ps++a) r=zC (ps++b) r:=by
 induction ps with
 |nil=>exact h
 |cons x ps ih=>
  obtain⟨j,v⟩:=x;rw[List.cons_append,List.cons_append,zA,zA,ih]
theorem jO:∀{vs:List Sv} {s s':St} {G G':List (Nat×Nat×Option Ob)→List Sv→Prop},(∀r∈wT vs,zC s'.ar r=zC s.ar r)→(∀ps us,(∀x∈wT us,x∈wT vs)→G' ps us=G ps us)→z5y s' vs G'=z5y s vs G
 |[],s,s',G,G',_,h=>h [] [] (fun _ h=>h)
 |v::r,s,s',G,G',ha,h=>by
  have har:∀x∈wT r,zC s'.ar x=zC s.ar x:=fun x hx=>ha x (List.mem_append_right _ hx);by_cases hrow:∃a g,v=.row a g
  ·obtain⟨a,g,rfl⟩:=hrow;have ho:s'.ob a g=s.ob a g:=yU (ha a (by simp[wT,zW])) g;show kOpt (s'.ob a g) _=kOpt (s.ob a g) _;rw[ho];congr 1;funext ob;cases ob with
   |row n xs=>
    refine jO (fun x hx=>gU [(a,g,none)] (har x hx)) (fun ps us hu=>h _ _ fun x hx=>?_);simp only[wT,List.flatMap_cons,zW,List.nil_append]at hx;exact List.mem_append_right _ (hu x hx)
   |_=>rfl
  ·have e:∀(s:St) (G:List (Nat×Nat×Option Ob)→List Sv→Prop),z5y s (v::r) G=z5y s r fun ps us=>G ps (v::us):=fun s G=>by
    cases v with
    |row a g=>exact absurd ⟨a,g,rfl⟩ hrow
    |_=>rfl
   rw[e,e];refine jO har (fun ps us hu=>h _ _ fun x hx=>?_);simp only[wT,List.flatMap_cons]at hx ⊢;rcases List.mem_append.1 hx with hx|hx
   ·exact List.mem_append_left _ hx
   ·exact List.mem_append_right _ (hu x hx)
theorem z2Z{t:TypeId}{a v:Sv}{k:zQ→Prop}(ha:∀r∈zW a,zC s'.ar r=zC s.ar r)(hv:∀r∈zW v,zC s'.ar r=zC s.ar r)(hh:s'.h=s.h):z1v P t s' a v k=z1v P t s a v k:=by
 refine jO (fun r hr=>hv r (by simpa [wT]using hr)) fun ps us hu=>?_;split
 ·rename_i y
  exact z3S (fun r hr=>gU ps (ha r hr)) (fun r hr=>gU ps (hv r (by simpa [wT]using hu r (by simpa [wT]using hr)))) hh
 ·rfl
theorem z3O{c:Cx}{dst:Option Nat}{f:FuncId}{first vs cap:List Sv}{k:zQ→Prop}(hn:s'.n=s.n)(hd:∀d,dst=some d→zC s'.ar d=zC s.ar d)(hv:∀r∈wT vs,zC s'.ar r=zC s.ar r)(hh:c.pur f=false→s'.h=s.h):
  z3N c s' dst f first vs cap k=z3N c s dst f first vs cap k:=
 jO hv fun ps us _=>by rw[z4r (s:=s.app ⟨[],ps,none⟩) (s':=s'.app ⟨[],ps,none⟩) hn (fun d h=>gU ps (hd d h)) hh]
structure Agree(f:FP)(s s':St):Prop where
 n:s'.n=s.n
 get:∀i∈f.rs,s'.get i=s.get i
 ar:∀k∈f.ra,zC s'.ar k=zC s.ar k
 h:f.rh=true→s'.h=s.h∧s'.hv=s.hv
 d:f.rd=true→s'.h=s.h
theorem z2i{c:Cx}{ops:Array Oper}{o:Oper}(A:Agree (gP c ops o s) s s')(k:zQ→Prop):z3G c o s' k=z3G c o s k:=by
 have hop:∀x∈o.op.operands.toList,opv s' x=opv s x:=fun x hx=>by
  cases x with
  |tmp t=>exact A.get t (by simp only[gP];exact List.mem_append_left _ (List.mem_filterMap.2 ⟨_,hx,rfl⟩))
  |_=>rfl
 have hn:=A.n;have hd:∀d,o.dst=some d→zC s'.ar d=zC s.ar d:=fun d h=>A.ar d (by simp[gP,h]);have ha:∀x∈o.op.operands.toList,∀r∈zW (opv s x),zC s'.ar r=zC s.ar r:=fun x hx r hr=>A.ar r (by simp only[gP];exact uE hx hr);have hh:z6z o=true→∀x∈o.op.operands.toList,hpS (opv s x)=true→s'.h=s.h:=fun hm x hx h=>A.d (by simp only[gP,z2Q hx h,hm,Bool.true_and,Bool.true_or]);have h2:zM c s o=2→s'.h=s.h∧s'.hv=s.hv:=fun h=>A.h (by simp[gP,h])
 have mapc:∀xs:List Operand,(∀x∈xs,x∈o.op.operands.toList)→xs.map (opv s')=xs.map (opv s):=fun xs h=>List.map_congr_left fun x hx=>hop x (h x hx);have optc:∀x:Option Operand,(∀y,x=some y→y∈o.op.operands.toList)→x.map (opv s')=x.map (opv s):=fun x h=>by
  cases x with
  |none=>rfl
  |some y=>simp[hop y (h y rfl)]
 unfold z3G;cases ho:o.op with
 |move x=>simp only[hop x (by simp[ho,Op.operands]),zK hn]
 |assign x=>simp only[hop x (by simp[ho,Op.operands]),zK hn]
 |pick x a b=>simp only[hop x (by simp[ho,Op.operands]),hop a (by simp[ho,Op.operands]),hop b (by simp[ho,Op.operands]),zK hn]
 |alloc t=>
  cases hd':o.dst with
  |none=>rfl
  |some d=>
   simp only[];rw[←hd'];cases hg:c.glob d with
   |true=>
    have hc:zM c s o=2:=by simp[zM,ho,hd',hg]
    simp only[z1D hn (h2 hc).1];rfl
   |false=>simp only[yN hn hd];rfl
 |box t v=>
  cases hd':o.dst with
  |none=>rfl
  |some d=>
   simp only[hop v (by simp[ho,Op.operands])];rw[←hd'];cases hg:c.glob d with
   |true=>
    have hc:zM c s o=2:=by simp[zM,ho,hd',hg]
    simp only[z1D hn (h2 hc).1];rfl
   |false=>simp only[yN hn hd];rfl
 |build t ps=>
  have:(ps.toList.map fun(i,x)=>(i,opv s' x))=ps.toList.map fun(i,x)=>(i,opv s x):=List.map_congr_left fun⟨i,x⟩ hx=>by
   show(i,opv s' x)=(i,opv s x);rw[hop x (by simp[ho,Op.operands];exact⟨i,by simpa using hx⟩)]
  simp only[this,zK hn]
 |buildSlice t len ps=>
  have:(ps.toList.map fun(i,x)=>(i,opv s' x))=ps.toList.map fun(i,x)=>(i,opv s x):=List.map_congr_left fun⟨i,x⟩ hx=>by
   show(i,opv s' x)=(i,opv s x);rw[hop x (by simp[ho,Op.operands];exact⟨i,by simpa using hx⟩)]
  simp only[this,yN hn hd]
 |load t a=>simp only[hop a (by simp[ho,Op.operands]),zK hn,z4s (ha a (by simp[ho,Op.operands])) (hh (by simp[z6z,ho]) a (by simp[ho,Op.operands])) (fun id off hv ⟨cs,n,xs,h1,h2⟩=>(A.h (by
   have hs:z6W s o=false:=by simp[z6W,ho,hv,h1,h2]
   have hr:z8b c s o=false:=by simp[z8b,ho]
   have hu:=z2Q (s:=s) (o:=o) (x:=a) (by simp[ho,Op.operands]) (by rw[hv];rfl);simp[gP,hs,hr,hu,z6z,ho])).2)]
 |store t a v=>
  have hc:zM c s o=2:=by simp[zM,ho]
  simp only[hop a (by simp[ho,Op.operands]),hop v (by simp[ho,Op.operands]),z2Z (ha a (by simp[ho,Op.operands])) (ha v (by simp[ho,Op.operands])) (h2 hc).1]
 |nilCheck x=>
  simp only[hop x (by simp[ho,Op.operands])];have:=ha x (by simp[ho,Op.operands]);split
  ·simp only[zK hn]
  ·rename_i r g f h
   rw[h]at this;simp only[zK hn,z0q (this r (by simp[zW]))]
  ·simp only[zK hn]
  ·simp only[zK hn]
  ·rfl
 |binOp op t x y z=>cases op<;>simp only[hop x (by simp[ho,Op.operands]),hop y (by simp[ho,Op.operands]),zK hn]
 |unOp op t x=>cases op<;>simp only[hop x (by simp[ho,Op.operands]),zK hn]
 |convert src dst x=>simp only[hop x (by simp[ho,Op.operands]),zK hn]
 |makeFunc f first cap=>
  have h1:=mapc first.toList (fun x hx=>by simp[ho,Op.operands];exact .inl (by simpa using hx))
  have h2:=mapc cap.toList (fun x hx=>by simp[ho,Op.operands];exact .inr (by simpa using hx));simp only[h1,h2,zK hn]
 |makeSlice t l m=>simp only[hop l (by simp[ho,Op.operands]),hop m (by simp[ho,Op.operands]),yN hn hd]
 |slice t x lo hi mx=>
  have e1:=optc lo (fun y h=>by subst h;simp[ho,Op.operands]);have e2:=optc hi (fun y h=>by subst h;simp[ho,Op.operands]);have e3:=optc mx (fun y h=>by subst h;simp[ho,Op.operands]);simp only[hop x (by simp[ho,Op.operands]),e1,e2,e3,z3R hn hd (ha x (by simp[ho,Op.operands]))]
 |fieldAddr t x f=>simp only[hop x (by simp[ho,Op.operands]),zK hn,z0M (ha x (by simp[ho,Op.operands]))]
 |field t x f=>simp only[hop x (by simp[ho,Op.operands]),zK hn]
 |indexAddr t x i=>simp only[hop x (by simp[ho,Op.operands]),hop i (by simp[ho,Op.operands]),zK hn,z0N (ha x (by simp[ho,Op.operands]))]
 |index t x i=>simp only[hop x (by simp[ho,Op.operands]),hop i (by simp[ho,Op.operands]),zK hn]
 |extract t i=>simp only[hop t (by simp[ho,Op.operands]),zK hn]
 |call cl=>
  have hargs:∀x∈cl.args.toList,x∈o.op.operands.toList:=fun x hx=>by simp[ho,Op.operands,Call.operands];exact .inr (by simpa using hx)
  simp only[];unfold z6p;cases hcal:cl.callee with
  |value f=>
   have hf:f∈o.op.operands.toList:=by simp[ho,Op.operands,Call.operands,hcal]
   simp only[hop f hf,mapc cl.args.toList hargs];cases hfv:opv s f with
   |fn g first cap=>
    simp only[];exact z3O hn hd (fun r hr=>by
     obtain⟨v,hv,hk⟩:=List.mem_flatMap.1 hr;obtain⟨x,hx,rfl⟩:=List.mem_map.1 hv;exact ha x (hargs x hx) r hk) (fun hp=>by
      cases hr:c.ro g with
      |false=>exact(h2 (by simp[zM,ho,hcal,hfv,hp,hr])).1
      |true=>exact A.d (by simp[gP,z8b,ho,hcal,hfv,hp,hr]))
   |_=>rfl
  |builtin b=>
   cases b with
   |len=>
    simp only[];split
    ·rename_i x t hx ht
     have hm:=hargs x (by simp[hx]);simp only[hop x hm,zK hn,z5z (ha x hm)]
    ·rfl
   |append=>
    have hc:zM c s o=2:=by simp[zM,ho,hcal]
    simp only[];split
    ·rename_i x y t u hx ht
     have hm:=hargs x (by simp[hx]);simp only[hop x hm,hop y (hargs y (by simp[hx])),z2T hn hd (ha x hm) (h2 hc)]
    ·rfl
   |max=>
    simp only[];split
    ·rename_i x y hx
     simp only[hop x (hargs x (by simp[hx])),hop y (hargs y (by simp[hx])),zK hn]
    ·rfl
   |min=>
    simp only[];split
    ·rename_i x y hx
     simp only[hop x (hargs x (by simp[hx])),hop y (hargs y (by simp[hx])),zK hn]
    ·rfl
   |_=>rfl
  |_=>rfl
 |_=>rfl
end
end Nt

