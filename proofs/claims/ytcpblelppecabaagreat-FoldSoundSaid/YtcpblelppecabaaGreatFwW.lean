import Derived.Test.YtcpblelppecabaaGreatFwV
namespace Nt
open Go
set_option linter.unusedVariables false
set_option linter.unusedSimpArgs false
section
variable {P:Program} {s s':St}
theorem v6H(c:Cx)(ops:Array Oper)(o:Oper)(s:St):At (y1q (y1x c ops o s) s) (v1h c o s):=by
 have hdst:∀d,o.dst=some d→d∈(y1x c ops o s).ws:=fun d hd=>by simp[y1x,hd]
 have y2w:∀{F:(uQ→Prop)→Prop},At (Wi o.dst [] false) F→At (y1q (y1x c ops o s) s) F:=fun h=>h.weaken fun p hp=>hp.within hdst (by simp) (by simp);have hks:∀{n:Nat},wZ c s o=n→n≠0→(y1x c ops o s).wa=(z5b o).flatMap (fun i=>jV (s.get i))++o.dst.toList:=fun h hn=>by
  have:Nat.beq (wZ c s o) 0=false:=y4Z (by omega);simp[y1x,this]
 have hdk:∀d,o.dst=some d→d∈(z5b o).flatMap (fun i=>jV (s.get i))++o.dst.toList:=fun d hd=>by simp[hd]
 have fin1:∀{F:(uQ→Prop)→Prop} {n:Nat},wZ c s o=n→n≠0→At (Wi o.dst ((z5b o).flatMap (fun i=>jV (s.get i))++o.dst.toList) false) F→At (y1q (y1x c ops o s) s) F:=fun h hn g=>
  g.weaken fun p hp=>hp.within hdst (fun k hk=>by rw[hks h hn];exact hk) (by simp)
 have fin2:∀{F:(uQ→Prop)→Prop},wZ c s o=2→(y1x c ops o s).wh=true→At (Wi o.dst ((z5b o).flatMap (fun i=>jV (s.get i))++o.dst.toList) true) F→At (y1q (y1x c ops o s) s) F:=fun h hw g=>
  g.weaken fun p hp=>hp.within hdst (fun k hk=>by rw[hks h (by omega)];exact hk) (fun _=>hw)
 unfold v1h;cases ho:o.op with
 |move x=>exact y2w uY
 |assign x=>exact y2w uY
 |pick x a b=>exact y2w (At.brS uY uY)
 |alloc t=>
  refine At.kOpt fun z=>At.kIf ?_;cases hd:o.dst with
  |none=>exact At.bot
  |some d=>
   dsimp only;rw[←hd];cases hg:c.glob d with
   |true=>
    have hc:wZ c s o=2:=by simp[wZ,ho,hd,hg]
    exact fin2 hc (by simp[y1x,hc,ho]) y8g
   |false=>
    have hc:wZ c s o=1:=by simp[wZ,ho,hd,hg]
    show At _ (fun k=>match c.P.underlying t with
     |some (.array _ e)=>kOpt (z0Q c.P e) fun n=>kIf (Nat.beq n 1) (kOpt (z5N z.cells.toList) fun ds=>newAr s o.dst (.row 1 ds) (fun d g=>.ref d g 0) k)
     |some (.struct _)=>match z5N z.cells.toList with
      |some ds=>newAr s o.dst (.agg (.agg ds)) (fun d g=>.ref d g 0) k
      |none=>newAr s o.dst (.box (z.cells.toList.map z3H)) (fun d g=>.ref d g 0) k
     |_=>newAr s o.dst (.box (z.cells.toList.map z3H)) (fun d g=>.ref d g 0) k)
    split
    ·exact At.kOpt fun n=>At.kIf (At.kOpt fun ds=>fin1 hc (by simp) (gW hdk))
    ·split
     ·exact fin1 hc (by simp) (gW hdk)
     ·exact fin1 hc (by simp) (gW hdk)
    ·exact fin1 hc (by simp) (gW hdk)
 |box t v=>
  cases hd:o.dst with
  |none=>exact At.bot
  |some d=>
   dsimp only;rw[←hd];cases hg:c.glob d with
   |true=>
    have hc:wZ c s o=2:=by simp[wZ,ho,hd,hg]
    simp only[cond_true];exact At.cond (At.kOpt fun n=>At.kBld fun ws=>fin2 hc (by simp[y1x,hc,ho]) y8g) (At.kKeep fun w=>fin2 hc (by simp[y1x,hc,ho]) y8g)
   |false=>
    have hc:wZ c s o=1:=by simp[wZ,ho,hd,hg]
    simp only[cond_false];exact At.cond (At.kOpt fun n=>At.kD fun x=>At.kWhole (fin1 hc (by simp) (gW hdk))) (At.kKeep fun w=>fin1 hc (by simp) (gW hdk))
 |build t ps=>
  dsimp only;split
  ·exact At.kIf (At.kOpt fun z=>At.kOpt fun cs=>At.kFill fun cs=>y2w uY)
  ·exact At.bot
 |buildSlice t len ps=>
  have hc:wZ c s o=1:=by simp[wZ,ho]
  exact At.kOpt fun e=>At.kOpt fun n=>At.kOpt fun z=>At.kIf (At.kIf (At.kElems fun xs=>fin1 hc (by simp) (gW hdk)))
 |load t a=>exact At.kLoad fun v=>y2w uY
 |store t a v=>
  have hc:wZ c s o=2:=by simp[wZ,ho]
  cases hd:o.dst with
  |some d=>exact At.bot
  |none=>
   have h:=v5l (P:=c.P) (s:=s) (t:=t) (a:=opv s a) (v:=opv s v) (K:=(z5b o).flatMap (fun i=>jV (s.get i))++o.dst.toList) (b:=(z5b o).any fun i=>v8k (s.get i))
    (fun k hk=>z6D (by simp[ho,Op.operands]) hk) (fun k hk=>z6D (by simp[ho,Op.operands]) hk) (fun h=>y8Z (by simp[ho,Op.operands]) h)
   refine h.weaken fun p hp=>hp.within (by simp) (fun k hk=>by rw[hks hc (by simp)];exact hk) (fun h=>by simp[y1x,hc,h])
 |nilCheck x=>
  dsimp only;split<;>first|exact y2w uY|exact At.kIf (y2w uY)|exact At.bot
 |binOp op t x y z=>
  cases op<;>first|exact At.kEqOp fun b=>y2w uY|exact At.kD fun a=>At.kD fun b=>At.kBin fun r=>y2w uY
 |unOp op t x=>
  refine At.kD fun a=>?_;cases op<;>first|exact At.kI fun i n=>At.nam fun _=>y2w uY|(cases a<;>first|exact y2w uY|exact At.bot)|exact At.bot
 |convert src dst x=>
  dsimp only;split
  ·exact At.kD fun a=>At.kI fun _ n=>At.nam fun _=>y2w uY
  ·exact At.kD fun a=>At.kStr fun u=>y2w uY
  ·split
   ·exact At.kD fun a=>At.kSl fun xs=>At.toBytes fun u=>y2w uY
   ·exact At.bot
  ·exact At.bot
 |makeFunc f first cap=>
  cases f<;>first|exact At.kArgs fun xs=>At.kArgs fun ys=>y2w uY|exact At.bot
 |makeSlice t l m=>
  have hc:wZ c s o=1:=by simp[wZ,ho]
  exact At.kOpt fun e=>At.kOpt fun n=>At.kOpt fun b=>At.kOpt fun z=>At.kD fun lx=>At.kI fun _ l=>At.kD fun mx=>At.kI fun _ m=>At.and (At.cond
   (At.kOpt fun ds=>At.kIf (At.nam fun _=>fin1 hc (by simp) (gW hdk))) (At.kOpt fun x=>At.kIf (At.nam fun _=>fin1 hc (by simp) (gW hdk))))
 |slice t x lo hi mx=>
  have hc:wZ c s o=1:=by simp[wZ,ho]
  exact fin1 hc (by simp) (v6I (fun k hk=>z6D (by simp[ho,Op.operands]) hk) hdk)
 |fieldAddr t x f=>exact At.kFieldAddr fun v=>y2w uY
 |field t x f=>exact At.kField fun v=>y2w uY
 |indexAddr t x i=>exact At.kIndexAddr fun v=>y2w uY
 |index t x i=>
  dsimp only;split
  ·exact At.kIndex fun v=>y2w uY
  ·exact At.bot
 |extract t i=>
  dsimp only;split
  ·exact At.kOpt fun v=>y2w uY
  ·exact At.bot
 |call cl=>
  dsimp only;unfold v7l;cases hcal:cl.callee with
  |value f=>
   dsimp only;cases hf:opv s f with
   |fn g first cap=>
    have hkeys:∀k∈z5T (cl.args.toList.map (opv s)),k∈(z5b o).flatMap (fun i=>jV (s.get i))++o.dst.toList:=fun k hk=>by
     obtain⟨v,hv,hk⟩:=List.mem_flatMap.1 hk;obtain⟨x,hx,rfl⟩:=List.mem_map.1 hv;exact z6D (by simp[ho,Op.operands,Call.operands];exact .inr (by simpa using hx)) hk
    cases hp:c.pur g with
    |true=>
     have hc:wZ c s o=1:=by simp[wZ,ho,hcal,hf,hp]
     exact fin1 hc (by simp) (v0e hdk hkeys (by simp[hp]))
    |false=>
     cases hr:c.ro g with
     |true=>
      have hc:wZ c s o=1:=by simp[wZ,ho,hcal,hf,hp,hr]
      have hro:v9E c s o=true:=by simp[v9E,ho,hcal,hf,hp,hr]
      exact(v0f (s:=s) hdk hkeys hp hr).weaken fun p q=>⟨fun x hx=>hdst _ (q.1.1 x hx),fun x hx=>by rw[hks hc (by simp)];exact q.1.2.1 x hx,fun _=>.inr ⟨by simp[y1x,hro],q.2⟩⟩
     |false=>
     have hc:wZ c s o=2:=by simp[wZ,ho,hcal,hf,hp,hr]
     refine fin2 hc ?_ (v0e hdk hkeys (by simp));simp only[y1x,hc,ho];cases cl;simp at hcal;simp[hcal]
   |_=>exact At.bot
  |builtin b=>
   cases b with
   |len=>
    dsimp only;split
    ·exact At.kLen fun v=>y2w uY
    ·exact At.bot
   |append=>
    have hc:wZ c s o=2:=by simp[wZ,ho,hcal]
    dsimp only;split
    ·rename_i x y t u hx ht
     split
     ·have hmem:x∈o.op.operands.toList:=by simp[ho,Op.operands,Call.operands,hx]
      have h:=v5k (rw:=match o.dst with|some d=>c.glob d|none=>false) (P:=c.P) (s:=s) (t:=t) (dst:=o.dst) (v:=opv s x) (x:=opv s y) (K:=(z5b o).flatMap (fun i=>jV (s.get i))++o.dst.toList) (b:=(z5b o).any fun i=>v8k (s.get i))
       hdk (fun k hk=>z6D hmem hk) (fun h=>y8Z hmem h)
      exact h.weaken fun p hp=>hp.within hdst (fun k hk=>by rw[hks hc (by simp)];exact hk) (fun h=>by simp[y1x,hc,h])
     ·exact At.bot
    ·exact At.bot
   |max=>
    dsimp only;split
    ·exact At.kD fun a=>At.kD fun b=>At.kI fun _ _=>At.kI fun _ _=>At.kIf (At.nam fun _=>y2w uY)
    ·exact At.bot
   |min=>
    dsimp only;split
    ·exact At.kD fun a=>At.kD fun b=>At.kI fun _ _=>At.kI fun _ _=>At.kIf (At.nam fun _=>y2w uY)
    ·exact At.bot
   |_=>exact At.bot
  |_=>exact At.bot
 |_=>exact At.bot
theorem z1l{r:Nat}(h:zS s'.ar r=zS s.ar r)(g:Nat):s'.ob r g=s.ob r g:=by simp[St.ob,h]
theorem v1u{r:Nat}(h:zS s'.ar r=zS s.ar r):s'.gen r=s.gen r:=by simp[St.gen,h]
theorem y2A{r:Nat}(h:zS s'.ar r=zS s.ar r)(g:Nat):s'.live r g=s.live r g:=by simp[St.live,z1l h]
theorem wD{dst:Option Nat}{v:Sv}(hn:s'.n=s.n):z7e s' dst v=z7e s dst v:=by funext k;cases dst<;>simp[z7e,hn]
theorem z0I{dst:Option Nat}{ob:Ob}{v:Nat→Nat→Sv}(hn:s'.n=s.n)(hd:∀d,dst=some d→zS s'.ar d=zS s.ar d):newAr s' dst ob v=newAr s dst ob v:=by
 funext k;cases dst with
 |none=>rfl
 |some d=>simp[newAr,hn,v1u (hd d rfl)]
theorem y5W{dst:Option Nat}{r g:Nat}{ob:Ob}{v:Sv}(hn:s'.n=s.n):v7z s' dst r g ob v=v7z s dst r g ob v:=by funext k;cases dst<;>simp[v7z,hn]
theorem y5R{dst:Option Nat}{cs:List Sv}(hn:s'.n=s.n)(hh:s'.h=s.h):newHp s' dst cs=newHp s dst cs:=by funext k;cases dst<;>simp[newHp,hn,hh]
theorem v3X{t:TypeId}{v:Sv}{k:Sv→Prop}(ha:∀r∈jV v,zS s'.ar r=zS s.ar r)(hh:hpS v=true→s'.h=s.h)(hw:∀id off,v=.hp id off→(∃cs n xs,s.h[id]?=some cs∧cs[off]?=some (.own n xs))→s'.hv=s.hv):kLoad P t s' v k=kLoad P t s v k:=by
 cases v with
 |ref r g off=>simp[kLoad,z1l (ha r (by simp[jV]))]
 |rref r g m i off=>simp[kLoad,z1l (ha r (by simp[jV]))]
 |hp id off=>
  have h1:=hh rfl;simp only[kLoad,h1];cases hc:s.h[id]? with
  |none=>rfl
  |some cs=>
   have hl:∀v,cs[off]?=some v→y3d id off s'.hv v=y3d id off s.hv v:=fun v hv=>by
    cases v with
    |own n xs=>simp[y3d,hw id off rfl ⟨cs,n,xs,hc,hv⟩]
    |_=>rfl
   have:∀n,kBoxT P t n cs off (y3d id off s'.hv) k=kBoxT P t n cs off (y3d id off s.hv) k:=fun n=>by
    unfold kBoxT;congr 1;cases hv:cs[off]? with
    |none=>rfl
    |some v=>show k _=k _;rw[hl v hv]
   show(kOpt (z0Q P t) fun n=>kBoxT P t n cs off (y3d id off s'.hv) k)=kOpt (z0Q P t) fun n=>kBoxT P t n cs off (y3d id off s.hv) k;simp only[this]
 |_=>rfl
theorem v1D{t:TypeId}{a v:Sv}{k:uQ→Prop}(ha:∀r∈jV a,zS s'.ar r=zS s.ar r)(hv:∀r∈jV v,zS s'.ar r=zS s.ar r)(hh:s'.h=s.h):z9m P t s' a v k=z9m P t s a v k:=by
 cases a with
 |ref r g off=>
  cases v with
  |cells ws=>
   have hok:∀c∈ws,y5U s' c=y5U s c:=fun c hc=>by
    cases c with
    |row k g'=>simp only[y5U,z1l (hv k (by simp only[jV,List.mem_flatMap];exact⟨_,hc,by simp[w1q]⟩))]
    |_=>rfl
   have hall:ws.all (y5U s')=ws.all (y5U s):=by
    rw[Bool.eq_iff_iff,List.all_eq_true,List.all_eq_true];exact⟨fun h c hc=>by rw[←hok c hc];exact h c hc,fun h c hc=>by rw[hok c hc];exact h c hc⟩
   simp[z9m,z1l (ha r (by simp[jV])),hall]
  |_=>simp[z9m,z1l (ha r (by simp[jV]))]
 |rref r g m i off=>simp[z9m,z1l (ha r (by simp[jV]))]
 |hp id off=>
  cases v with
  |right r g m xs=>simp[z9m,hh,z1l (hv r (by simp[jV]))]
  |_=>simp[z9m,hh]
 |_=>rfl
theorem y3Q{t:TypeId}{v:Sv}{f:Nat}{k:Sv→Prop}(ha:∀r∈jV v,zS s'.ar r=zS s.ar r):kFieldAddr P t s' v f k=kFieldAddr P t s v f k:=by
 cases v with
 |ref r g off=>simp[kFieldAddr,y2A (ha r (by simp[jV]))]
 |rref r g m i off=>simp[kFieldAddr,y2A (ha r (by simp[jV]))]
 |_=>rfl
theorem y3R{t:TypeId}{v i:Sv}{k:Sv→Prop}(ha:∀r∈jV v,zS s'.ar r=zS s.ar r):kIndexAddr P t s' v i k=kIndexAddr P t s v i k:=by
 cases v with
 |row r g=>simp[kIndexAddr,z1l (ha r (by simp[jV]))]
 |ref r g off=>simp[kIndexAddr,z1l (ha r (by simp[jV]))]
 |_=>rfl
theorem v6k{t:TypeId}{v:Sv}{k:Sv→Prop}(ha:∀r∈jV v,zS s'.ar r=zS s.ar r):kLen P t s' v k=kLen P t s v k:=by
 unfold kLen;split
 ·cases v with
  |row r g=>simp[z1l (ha r (by simp[jV]))]
  |_=>rfl
 ·rfl
 ·rfl
theorem y3h{dst:Option Nat}{rs:List Sv}{h:Option H}(hn:s'.n=s.n)(hd:∀d,dst=some d→zS s'.ar d=zS s.ar d):z6n s' dst rs h=z6n s dst rs h:=by
 funext k;unfold z6n;split
 ·rw[z0I hn hd]
 ·rw[z0I hn hd]
 ·simp only[z0I hn hd]
 ·rw[wD hn]
 ·rw[wD hn]
theorem v3W{c:Cx}{dst:Option Nat}{f:FuncId}{vs:List Sv}(hn:s'.n=s.n)(hd:∀d,dst=some d→zS s'.ar d=zS s.ar d)(hh:c.pur f=false→s'.h=s.h):y6X c s' dst f vs=y6X c s dst f vs:=by
 funext k;unfold y6X;cases hp:c.pur f with
 |true=>simp only[y3h hn hd];rfl
 |false=>simp only[y3h hn hd,hh hp]
theorem v1C{t:TypeId}{dst:Option Nat}{v:Sv}{lo hi mx:Option Sv}{k:uQ→Prop}(hn:s'.n=s.n)(hd:∀d,dst=some d→zS s'.ar d=zS s.ar d)(ha:∀r∈jV v,zS s'.ar r=zS s.ar r):
  y3c P t s' dst v lo hi mx k=y3c P t s dst v lo hi mx k:=by
 unfold y3c;split
 ·simp only[wD hn]
 ·have h2:∀xs,y9j s' dst lo hi xs k=y9j s dst lo hi xs k:=fun xs=>by simp only[y9j,wD hn]
  have h3:∀n xs,y9k n s' dst lo hi mx xs k=y9k n s dst lo hi mx xs k:=fun n xs=>by simp only[y9k,z0I hn hd]
  simp only[h2,h3]
 ·cases v with
  |ref r g off=>
   cases mx<;>cases hi<;>first|rfl|simp only[z1l (ha r (by simp[jV])),wD hn]
  |_=>rfl
 ·rfl
theorem y9f{t:TypeId}{rw:Bool}{dst:Option Nat}{v x:Sv}{k:uQ→Prop}(hn:s'.n=s.n)(hd:∀d,dst=some d→zS s'.ar d=zS s.ar d)(ha:∀r∈jV v,zS s'.ar r=zS s.ar r)(hh:s'.h=s.h∧s'.hv=s.hv):
  y0V P t s' rw dst v x k=y0V P t s rw dst v x k:=by
 cases v with
 |right r g n xs=>simp only[y0V,z1l (ha r (by simp[jV])),z0I hn hd,y5W hn,hh.1,hh.2]
 |_=>simp only[y0V,z0I hn hd,y5W hn,hh.1,hh.2]
theorem y1C(ps:List (Nat×Nat×Option Ob)){a b:List (Nat×Nat×Option Ob)}{r:Nat}(h:zS a r=zS b r):zS (ps++a) r=zS (ps++b) r:=by
 induction ps with
 |nil=>exact h
 |cons x ps ih=>
  obtain⟨j,v⟩:=x;rw[List.cons_append,List.cons_append,zQ,zQ,ih]
theorem z9K:∀{vs:List Sv} {s s':St} {G G':List (Nat×Nat×Option Ob)→List Sv→Prop},(∀r∈z5T vs,zS s'.ar r=zS s.ar r)→(∀ps us,(∀x∈z5T us,x∈z5T vs)→G' ps us=G ps us)→v6j s' vs G'=v6j s vs G
 |[],s,s',G,G',_,h=>h [] [] (fun _ h=>h)
 |v::r,s,s',G,G',ha,h=>by
  have har:∀x∈z5T r,zS s'.ar x=zS s.ar x:=fun x hx=>ha x (List.mem_append_right _ hx);by_cases hrow:∃a g,v=.row a g
  ·obtain⟨a,g,rfl⟩:=hrow;have ho:s'.ob a g=s.ob a g:=z1l (ha a (by simp[z5T,jV])) g;show kOpt (s'.ob a g) _=kOpt (s.ob a g) _;rw[ho];congr 1;funext ob;cases ob with
   |row n xs=>
    refine z9K (fun x hx=>y1C [(a,g,none)] (har x hx)) (fun ps us hu=>h _ _ fun x hx=>?_);simp only[z5T,List.flatMap_cons,jV,List.nil_append]at hx;exact List.mem_append_right _ (hu x hx)
   |_=>rfl
  ·have e:∀(s:St) (G:List (Nat×Nat×Option Ob)→List Sv→Prop),v6j s (v::r) G=v6j s r fun ps us=>G ps (v::us):=fun s G=>by
    cases v with
    |row a g=>exact absurd ⟨a,g,rfl⟩ hrow
    |_=>rfl
   rw[e,e];refine z9K har (fun ps us hu=>h _ _ fun x hx=>?_);simp only[z5T,List.flatMap_cons]at hx ⊢;rcases List.mem_append.1 hx with hx|hx
   ·exact List.mem_append_left _ hx
   ·exact List.mem_append_right _ (hu x hx)
theorem y9l{t:TypeId}{a v:Sv}{k:uQ→Prop}(ha:∀r∈jV a,zS s'.ar r=zS s.ar r)(hv:∀r∈jV v,zS s'.ar r=zS s.ar r)(hh:s'.h=s.h):y5K P t s' a v k=y5K P t s a v k:=by
 refine z9K (fun r hr=>hv r (by simpa [z5T]using hr)) fun ps us hu=>?_;split
 ·rename_i y
  exact v1D (fun r hr=>y1C ps (ha r hr)) (fun r hr=>y1C ps (hv r (by simpa [z5T]using hu r (by simpa [z5T]using hr)))) hh
 ·rfl
theorem v1z{c:Cx}{dst:Option Nat}{f:FuncId}{first vs cap:List Sv}{k:uQ→Prop}(hn:s'.n=s.n)(hd:∀d,dst=some d→zS s'.ar d=zS s.ar d)(hv:∀r∈z5T vs,zS s'.ar r=zS s.ar r)(hh:c.pur f=false→s'.h=s.h):
  v1y c s' dst f first vs cap k=v1y c s dst f first vs cap k:=
 z9K hv fun ps us _=>by rw[v3W (s:=s.app ⟨[],ps,none⟩) (s':=s'.app ⟨[],ps,none⟩) hn (fun d h=>y1C ps (hd d h)) hh]
structure Agree(f:FP)(s s':St):Prop where
 n:s'.n=s.n
 get:∀i∈f.rs,s'.get i=s.get i
 ar:∀k∈f.ra,zS s'.ar k=zS s.ar k
 h:f.rh=true→s'.h=s.h∧s'.hv=s.hv
 d:f.rd=true→s'.h=s.h
theorem y7r{c:Cx}{ops:Array Oper}{o:Oper}(A:Agree (y1x c ops o s) s s')(k:uQ→Prop):v1h c o s' k=v1h c o s k:=by
 have hop:∀x∈o.op.operands.toList,opv s' x=opv s x:=fun x hx=>by
  cases x with
  |tmp t=>exact A.get t (by simp only[y1x];exact List.mem_append_left _ (List.mem_filterMap.2 ⟨_,hx,rfl⟩))
  |_=>rfl
 have hn:=A.n;have hd:∀d,o.dst=some d→zS s'.ar d=zS s.ar d:=fun d h=>A.ar d (by simp[y1x,h]);have ha:∀x∈o.op.operands.toList,∀r∈jV (opv s x),zS s'.ar r=zS s.ar r:=fun x hx r hr=>A.ar r (by simp only[y1x];exact z6D hx hr);have hh:v7v o=true→∀x∈o.op.operands.toList,hpS (opv s x)=true→s'.h=s.h:=fun hm x hx h=>A.d (by simp only[y1x,y8Z hx h,hm,Bool.true_and,Bool.true_or]);have h2:wZ c s o=2→s'.h=s.h∧s'.hv=s.hv:=fun h=>A.h (by simp[y1x,h])
 have mapc:∀xs:List Operand,(∀x∈xs,x∈o.op.operands.toList)→xs.map (opv s')=xs.map (opv s):=fun xs h=>List.map_congr_left fun x hx=>hop x (h x hx);have optc:∀x:Option Operand,(∀y,x=some y→y∈o.op.operands.toList)→x.map (opv s')=x.map (opv s):=fun x h=>by
  cases x with
  |none=>rfl
  |some y=>simp[hop y (h y rfl)]
 unfold v1h;cases ho:o.op with
 |move x=>simp only[hop x (by simp[ho,Op.operands]),wD hn]
 |assign x=>simp only[hop x (by simp[ho,Op.operands]),wD hn]
 |pick x a b=>simp only[hop x (by simp[ho,Op.operands]),hop a (by simp[ho,Op.operands]),hop b (by simp[ho,Op.operands]),wD hn]
 |alloc t=>
  cases hd':o.dst with
  |none=>rfl
  |some d=>
   simp only[];rw[←hd'];cases hg:c.glob d with
   |true=>
    have hc:wZ c s o=2:=by simp[wZ,ho,hd',hg]
    simp only[y5R hn (h2 hc).1];rfl
   |false=>simp only[z0I hn hd];rfl
 |box t v=>
  cases hd':o.dst with
  |none=>rfl
  |some d=>
   simp only[hop v (by simp[ho,Op.operands])];rw[←hd'];cases hg:c.glob d with
   |true=>
    have hc:wZ c s o=2:=by simp[wZ,ho,hd',hg]
    simp only[y5R hn (h2 hc).1];rfl
   |false=>simp only[z0I hn hd];rfl
 |build t ps=>
  have:(ps.toList.map fun(i,x)=>(i,opv s' x))=ps.toList.map fun(i,x)=>(i,opv s x):=List.map_congr_left fun⟨i,x⟩ hx=>by
   show(i,opv s' x)=(i,opv s x);rw[hop x (by simp[ho,Op.operands];exact⟨i,by simpa using hx⟩)]
  simp only[this,wD hn]
 |buildSlice t len ps=>
  have:(ps.toList.map fun(i,x)=>(i,opv s' x))=ps.toList.map fun(i,x)=>(i,opv s x):=List.map_congr_left fun⟨i,x⟩ hx=>by
   show(i,opv s' x)=(i,opv s x);rw[hop x (by simp[ho,Op.operands];exact⟨i,by simpa using hx⟩)]
  simp only[this,z0I hn hd]
 |load t a=>simp only[hop a (by simp[ho,Op.operands]),wD hn,v3X (ha a (by simp[ho,Op.operands])) (hh (by simp[v7v,ho]) a (by simp[ho,Op.operands])) (fun id off hv ⟨cs,n,xs,h1,h2⟩=>(A.h (by
   have hs:v7W s o=false:=by simp[v7W,ho,hv,h1,h2]
   have hr:v9E c s o=false:=by simp[v9E,ho]
   have hu:=y8Z (s:=s) (o:=o) (x:=a) (by simp[ho,Op.operands]) (by rw[hv];rfl);simp[y1x,hs,hr,hu,v7v,ho])).2)]
 |store t a v=>
  have hc:wZ c s o=2:=by simp[wZ,ho]
  simp only[hop a (by simp[ho,Op.operands]),hop v (by simp[ho,Op.operands]),y9l (ha a (by simp[ho,Op.operands])) (ha v (by simp[ho,Op.operands])) (h2 hc).1]
 |nilCheck x=>
  simp only[hop x (by simp[ho,Op.operands])];have:=ha x (by simp[ho,Op.operands]);split
  ·simp only[wD hn]
  ·rename_i r g f h
   rw[h]at this;simp only[wD hn,y2A (this r (by simp[jV]))]
  ·simp only[wD hn]
  ·simp only[wD hn]
  ·rfl
 |binOp op t x y z=>cases op<;>simp only[hop x (by simp[ho,Op.operands]),hop y (by simp[ho,Op.operands]),wD hn]
 |unOp op t x=>cases op<;>simp only[hop x (by simp[ho,Op.operands]),wD hn]
 |convert src dst x=>simp only[hop x (by simp[ho,Op.operands]),wD hn]
 |makeFunc f first cap=>
  have h1:=mapc first.toList (fun x hx=>by simp[ho,Op.operands];exact .inl (by simpa using hx))
  have h2:=mapc cap.toList (fun x hx=>by simp[ho,Op.operands];exact .inr (by simpa using hx));simp only[h1,h2,wD hn]
 |makeSlice t l m=>simp only[hop l (by simp[ho,Op.operands]),hop m (by simp[ho,Op.operands]),z0I hn hd]
 |slice t x lo hi mx=>
  have e1:=optc lo (fun y h=>by subst h;simp[ho,Op.operands]);have e2:=optc hi (fun y h=>by subst h;simp[ho,Op.operands]);have e3:=optc mx (fun y h=>by subst h;simp[ho,Op.operands]);simp only[hop x (by simp[ho,Op.operands]),e1,e2,e3,v1C hn hd (ha x (by simp[ho,Op.operands]))]
 |fieldAddr t x f=>simp only[hop x (by simp[ho,Op.operands]),wD hn,y3Q (ha x (by simp[ho,Op.operands]))]
 |field t x f=>simp only[hop x (by simp[ho,Op.operands]),wD hn]
 |indexAddr t x i=>simp only[hop x (by simp[ho,Op.operands]),hop i (by simp[ho,Op.operands]),wD hn,y3R (ha x (by simp[ho,Op.operands]))]
 |index t x i=>simp only[hop x (by simp[ho,Op.operands]),hop i (by simp[ho,Op.operands]),wD hn]
 |extract t i=>simp only[hop t (by simp[ho,Op.operands]),wD hn]
 |call cl=>
  have hargs:∀x∈cl.args.toList,x∈o.op.operands.toList:=fun x hx=>by simp[ho,Op.operands,Call.operands];exact .inr (by simpa using hx)
  simp only[];unfold v7l;cases hcal:cl.callee with
  |value f=>
   have hf:f∈o.op.operands.toList:=by simp[ho,Op.operands,Call.operands,hcal]
   simp only[hop f hf,mapc cl.args.toList hargs];cases hfv:opv s f with
   |fn g first cap=>
    simp only[];exact v1z hn hd (fun r hr=>by
     obtain⟨v,hv,hk⟩:=List.mem_flatMap.1 hr;obtain⟨x,hx,rfl⟩:=List.mem_map.1 hv;exact ha x (hargs x hx) r hk) (fun hp=>by
      cases hr:c.ro g with
      |false=>exact(h2 (by simp[wZ,ho,hcal,hfv,hp,hr])).1
      |true=>exact A.d (by simp[y1x,v9E,ho,hcal,hfv,hp,hr]))
   |_=>rfl
  |builtin b=>
   cases b with
   |len=>
    simp only[];split
    ·rename_i x t hx ht
     have hm:=hargs x (by simp[hx]);simp only[hop x hm,wD hn,v6k (ha x hm)]
    ·rfl
   |append=>
    have hc:wZ c s o=2:=by simp[wZ,ho,hcal]
    simp only[];split
    ·rename_i x y t u hx ht
     have hm:=hargs x (by simp[hx]);simp only[hop x hm,hop y (hargs y (by simp[hx])),y9f hn hd (ha x hm) (h2 hc)]
    ·rfl
   |max=>
    simp only[];split
    ·rename_i x y hx
     simp only[hop x (hargs x (by simp[hx])),hop y (hargs y (by simp[hx])),wD hn]
    ·rfl
   |min=>
    simp only[];split
    ·rename_i x y hx
     simp only[hop x (hargs x (by simp[hx])),hop y (hargs y (by simp[hx])),wD hn]
    ·rfl
   |_=>rfl
  |_=>rfl
 |_=>rfl
end
end Nt

