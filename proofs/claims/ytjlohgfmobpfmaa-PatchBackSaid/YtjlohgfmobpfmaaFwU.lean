import Derived.Test.YtjlohgfmobpfmaaFwT
namespace Nt
open Go
set_option linter.unusedVariables false
set_option linter.unusedSimpArgs false
structure At{α:Type}(W:α→Prop)(F:(α→Prop)→Prop):Prop where
 mono:∀{k k':α→Prop},(∀y,k y→k' y)→F k→F k'
 ex:∀{k:α→Prop},F k→∃y,k y∧W y∧F (·=y)
section
variable {α β:Type} {W:β→Prop}
theorem At.ret{y:β}(h:W y):At W (fun k=>k y):=⟨fun hk h=>hk _ h,fun hk=>⟨y,hk,h,rfl⟩⟩
theorem At.bot:At W (fun _=>False):=⟨fun _ h=>h,fun h=>h.elim⟩
theorem At.and{p:Prop}{F:(β→Prop)→Prop}(h:At W F):At W (fun k=>p∧F k):=
 ⟨fun hk ⟨h1,h2⟩=>⟨h1,h.mono hk h2⟩,fun⟨h1,h2⟩=>let ⟨y,a,b,c⟩:=h.ex h2;⟨y,a,b,h1,c⟩⟩
theorem At.or{F G:(β→Prop)→Prop}(f:At W F)(g:At W G):At W (fun k=>F k∨G k):=
 ⟨fun hk h=>h.elim (fun h=>.inl (f.mono hk h)) fun h=>.inr (g.mono hk h),fun h=>h.elim (fun h=>let ⟨y,a,b,c⟩:=f.ex h;⟨y,a,b,.inl c⟩) fun h=>let ⟨y,a,b,c⟩:=g.ex h;⟨y,a,b,.inr c⟩⟩
theorem At.exi{F:α→(β→Prop)→Prop}(h:∀x,At W (F x)):At W (fun k=>∃x,F x k):=
 ⟨fun hk ⟨x,h2⟩=>⟨x,(h x).mono hk h2⟩,fun⟨x,h2⟩=>let ⟨y,a,b,c⟩:=(h x).ex h2;⟨y,a,b,x,c⟩⟩
theorem At.bind{V:α→Prop}{G:(α→Prop)→Prop}{F:α→(β→Prop)→Prop}(g:At V G)(h:∀x,At W (F x)):At W (fun k=>G fun x=>F x k):=
 ⟨fun hk h1=>g.mono (fun x h2=>(h x).mono hk h2) h1,
  fun h1=>let ⟨x,a,_,b⟩:=g.ex h1;let ⟨y,c,d,e⟩:=(h x).ex a;⟨y,c,d,g.mono (fun x' hx=>by subst hx;exact e) b⟩⟩
theorem At.map{V:α→Prop}{G:(α→Prop)→Prop}{f:α→β}(g:At V G)(h:∀x,V x→W (f x)):At W (fun k=>G fun x=>k (f x)):=
 ⟨fun hk h1=>g.mono (fun x h2=>hk _ h2) h1,fun h1=>let ⟨x,a,v,b⟩:=g.ex h1;⟨f x,a,h x v,g.mono (fun x' hx=>by subst hx;rfl) b⟩⟩
theorem At.cond{b:Bool}{F G:(β→Prop)→Prop}(f:At W F)(g:At W G):At W (fun k=>cond b (F k) (G k)):=by
 cases b
 ·exact g
 ·exact f
theorem At.nam{e:α}{F:α→(β→Prop)→Prop}(h:∀x,At W (F x)):At W (fun k=>nam e fun x=>F x k):=
 ⟨fun hk h1 r hr=>(h r).mono hk (h1 r hr),fun h1=>let ⟨y,a,b,c⟩:=(h e).ex (h1 e rfl);⟨y,a,b,fun r hr=>by subst hr;exact c⟩⟩
theorem At.exS{sh:Sh}{F:D→(β→Prop)→Prop}(f:∀y,At W (F y)):At W (fun k=>exS sh fun y=>F y k):=by
 cases sh<;>exact At.exi fun _=>f _
theorem At.exSs:∀{l:List Sh} {F:List D→(β→Prop)→Prop},(∀y,At W (F y))→At W (fun k=>exSs l fun y=>F y k)
 |[],F,f=>f _
 |sh::r,F,f=>At.exS (F:=fun x k=>Nt.exSs r fun xs=>F (x::xs) k) fun x=>At.exSs (F:=fun xs k=>F (x::xs) k) fun _=>f _
theorem At.exD{sh:Shp}{F:D→(β→Prop)→Prop}(f:∀y,At W (F y)):At W (fun k=>exD sh fun y=>F y k):=by
 cases sh with
 |one sh=>exact At.exS f
 |many l=>exact At.exSs fun cs=>f _
theorem At.exLike{x:D}{F:D→(β→Prop)→Prop}(f:∀y,At W (F y)):At W (fun k=>exLike x fun y=>F y k):=by
 cases x<;>exact At.exi fun _=>f _
theorem At.kIf{b:Bool}{F:(β→Prop)→Prop}(f:At W F):At W (fun k=>kIf b (F k)):=At.cond f At.bot
theorem At.kOpt{x:Option α}{F:α→(β→Prop)→Prop}(f:∀y,At W (F y)):At W (fun k=>kOpt x fun y=>F y k):=by
 cases x
 ·exact At.bot
 ·exact f _
theorem At.kD{v:Sv}{F:D→(β→Prop)→Prop}(f:∀y,At W (F y)):At W (fun k=>kD v fun y=>F y k):=by
 cases v<;>first|exact f _|exact At.bot
theorem At.kDs:∀{vs:List Sv} {F:List D→(β→Prop)→Prop},(∀y,At W (F y))→At W (fun k=>kDs vs fun y=>F y k)
 |[],F,f=>f _
 |v::r,F,f=>At.kD (F:=fun x k=>Nt.kDs r fun xs=>F (x::xs) k) fun x=>At.kDs (F:=fun xs k=>F (x::xs) k) fun xs=>f _
theorem At.kB{x:D}{F G:(β→Prop)→Prop}(f:At W F)(g:At W G):At W (fun k=>kB x (F k) (G k)):=by
 cases x<;>first|exact At.cond f g|exact At.bot
theorem At.brS{x:Sv}{F G:(β→Prop)→Prop}(f:At W F)(g:At W G):At W (fun k=>brS x (F k) (G k)):=by
 cases x<;>first|exact At.kB f g|exact At.bot
theorem At.kI{x:D}{F:IntKind→Int→(β→Prop)→Prop}(f:∀i n,At W (F i n)):At W (fun k=>kI x fun i n=>F i n k):=by
 cases x<;>first|exact f _ _|exact At.bot
theorem At.kSl{x:D}{F:List D→(β→Prop)→Prop}(f:∀y,At W (F y)):At W (fun k=>kSl x fun y=>F y k):=by
 cases x<;>first|exact f _|exact At.bot
theorem At.kStr{x:D}{F:List UInt8→(β→Prop)→Prop}(f:∀y,At W (F y)):At W (fun k=>kStr x fun y=>F y k):=by
 cases x<;>first|exact f _|exact At.bot
theorem At.kCs{x:D}{F:List D→(β→Prop)→Prop}(f:∀y,At W (F y)):At W (fun k=>kCs x fun y=>F y k):=by
 cases x<;>first|exact f _|exact At.bot
theorem At.kCell{x:D}{o:Nat}{F:D→(β→Prop)→Prop}(f:∀y,At W (F y)):At W (fun k=>kCell x o fun y=>F y k):=At.kOpt f
theorem At.kWhole{n:Nat}{x:D}{F:(β→Prop)→Prop}(f:At W F):At W (fun k=>kWhole n x (F k)):=by
 cases x<;>first|exact At.kIf f|exact At.bot
theorem At.kPart{x:D}{o n:Nat}{F:D→(β→Prop)→Prop}(f:∀y,At W (F y)):At W (fun k=>kPart x o n fun y=>F y k):=by
 cases x<;>first|exact At.kIf (f _)|exact At.bot
theorem At.kIdx{P:Program}{e:TypeId}{xs:List D}{i:Int}{F:D→(β→Prop)→Prop}(f:∀y,At W (F y)):At W (fun k=>kIdx P e xs i fun y=>F y k):=At.and (At.kOpt fun _=>At.exD fun _=>At.and (f _))
theorem At.kEq{n:Nat}{x y:D}{F:Bool→(β→Prop)→Prop}(f:∀y,At W (F y)):At W (fun k=>kEq n x y fun y=>F y k):=by
 unfold Nt.kEq;split
 ·exact At.nam f
 ·exact At.kIf (At.nam f)
 ·exact At.nam f
 ·exact At.bot
theorem At.intBin{op:BinOp}{i:IntKind}{a b:Int}{F:D→(β→Prop)→Prop}(f:∀y,At W (F y)):At W (fun k=>intBin op i a b fun y=>F y k):=by
 cases op<;>first|exact At.nam fun _=>f _|exact At.and (At.nam fun _=>f _)|exact At.bot
theorem At.strBin{op:BinOp}{a b:List UInt8}{F:D→(β→Prop)→Prop}(f:∀y,At W (F y)):At W (fun k=>strBin op a b fun y=>F y k):=by
 cases op<;>first|exact At.nam fun _=>f _|exact At.and (At.nam fun _=>f _)|exact At.bot
theorem At.shiftBin{op:BinOp}{i:IntKind}{a b:Int}{F:D→(β→Prop)→Prop}(f:∀y,At W (F y)):At W (fun k=>shiftBin op i a b fun y=>F y k):=by
 cases op<;>first|exact At.and (At.nam fun _=>f _)|exact At.bot
theorem At.kBin{op:BinOp}{x y:D}{F:D→(β→Prop)→Prop}(f:∀y,At W (F y)):At W (fun k=>kBin op x y fun y=>F y k):=by
 cases op<;>first
  |exact At.bot
  |exact At.kI fun _ _=>At.kI fun _ _=>At.shiftBin f
  |(cases x<;>first|exact At.kI fun _ _=>At.kIf (At.intBin f)|exact At.kStr fun _=>At.strBin f|exact At.bot)
theorem At.eqCells:∀{ks:List Nat} {a b:List D} {F:Bool→(β→Prop)→Prop},(∀y,At W (F y))→At W (fun k=>eqCells ks a b fun y=>F y k)
 |[],[],[],F,f=>f _
 |n::ks,x::a,y::b,F,f=>At.kEq (F:=fun e k=>Nt.eqCells ks a b fun r=>F (e && r) k) fun e=>At.eqCells (F:=fun r k=>F (e && r) k) fun r=>f _
 |[],_::_,_,F,f=>At.bot
 |[],[],_::_,F,f=>At.bot
 |_::_,[],_,F,f=>At.bot
 |_::_,_::_,[],F,f=>At.bot
theorem At.kEqOpD{P:Program}{t:TypeId}{x y:Sv}{F:Bool→(β→Prop)→Prop}(f:∀y,At W (F y)):At W (fun k=>kEqOpD P t x y fun y=>F y k):=by
 refine At.kD fun a=>At.kD fun b=>At.cond ?_ (At.kEq f);split
 ·exact At.kIf (At.kOpt fun ks=>At.kCs fun _=>At.kCs fun _=>At.eqCells f)
 ·exact At.bot
theorem At.kEqOp{P:Program}{t:TypeId}{x y:Sv}{F:Bool→(β→Prop)→Prop}(f:∀y,At W (F y)):At W (fun k=>kEqOp P t x y fun y=>F y k):=by
 unfold Nt.kEqOp;split
 ·split
  ·exact At.kIf (f _)
  ·exact At.kIf (f _)
  ·exact At.bot
 ·exact At.kEqOpD f
theorem At.kKeep{v:Sv}{F:Sv→(β→Prop)→Prop}(f:∀y,At W (F y)):At W (fun k=>kKeep v fun y=>F y k):=by
 cases v<;>first|exact f _|exact At.kIf (f _)|exact At.bot
theorem At.kData{v:Sv}{F:D→(β→Prop)→Prop}(f:∀y,At W (F y)):At W (fun k=>kData v fun y=>F y k):=by
 cases v<;>first|exact f _|exact At.bot
theorem At.kPartT{P:Program}{t n:Nat}{x:D}{o:Nat}{F:D→(β→Prop)→Prop}(f:∀y,At W (F y)):At W (fun k=>kPartT P t n x o fun y=>F y k):=
 At.cond (At.cond (At.kWhole (f _)) (At.kPart f)) (At.kCell f)
theorem At.kBoxT{P:Program}{t n:Nat}{cs:List Sv}{o:Nat}{ld:Sv→Sv}{F:Sv→(β→Prop)→Prop}(f:∀y,At W (F y)):At W (fun k=>kBoxT P t n cs o ld fun y=>F y k):=
 At.cond (At.kIf (At.kDs fun _=>f _)) (At.kOpt fun _=>f _)
theorem At.kLoad{P:Program}{t:TypeId}{s:St}{v:Sv}{F:Sv→(β→Prop)→Prop}(f:∀y,At W (F y)):At W (fun k=>kLoad P t s v fun y=>F y k):=by
 refine At.kOpt fun n=>?_;cases v with
 |ref r g off=>
  refine At.kOpt fun ob=>?_;cases ob with
  |agg x=>exact At.kPartT fun _=>f _
  |box cs=>exact At.kBoxT f
  |_=>exact At.bot
 |rref r g m i off=>
  refine At.kOpt fun ob=>?_;cases ob with
  |row n' xs=>exact At.kIf (At.exi fun _=>At.and (At.kOpt fun _=>At.exD fun _=>At.and (f _)))
  |_=>exact At.bot
 |iel x off=>exact At.kPartT fun _=>f _
 |hp id off=>exact At.kOpt fun _=>At.kBoxT f
 |_=>exact At.bot
theorem At.kCells{n:Nat}{x:D}{F:List Sv→(β→Prop)→Prop}(f:∀y,At W (F y)):At W (fun k=>kCells n x fun y=>F y k):=by
 cases x<;>first|exact At.kIf (f _)|exact At.bot
theorem At.kBld{n:Nat}{v:Sv}{F:List Sv→(β→Prop)→Prop}(f:∀y,At W (F y)):At W (fun k=>kBld n v fun y=>F y k):=by
 cases v with
 |bld x l=>exact At.kCells (F:=fun ws k=>F (z4u l ws) k) fun _=>f _
 |_=>simp only[Nt.kBld];exact At.kD fun _=>At.kCells f
theorem At.kFieldAddr{P:Program}{t:TypeId}{s:St}{v:Sv}{i:Nat}{F:Sv→(β→Prop)→Prop}(f:∀y,At W (F y)):At W (fun k=>kFieldAddr P t s v i fun y=>F y k):=by
 refine At.kOpt fun n=>At.kOpt fun m=>At.cond At.bot ?_;cases v<;>first|exact f _|exact At.kIf (f _)|exact At.bot
theorem At.kField{P:Program}{t:TypeId}{v:Sv}{i:Nat}{F:Sv→(β→Prop)→Prop}(f:∀y,At W (F y)):At W (fun k=>kField P t v i fun y=>F y k):=by
 refine At.kOpt fun n=>At.kD fun x=>?_;cases x<;>first|exact At.kOpt fun _=>At.cond (At.kPart fun _=>f _) (At.kCell fun _=>f _)|exact At.bot
theorem At.kIndexAddr{P:Program}{t:TypeId}{s:St}{v i:Sv}{F:Sv→(β→Prop)→Prop}(f:∀y,At W (F y)):At W (fun k=>kIndexAddr P t s v i fun y=>F y k):=by
 refine At.kD fun ix=>At.kI fun _ i=>?_;have data:∀v,At W (fun k=>Nt.kOpt (z1T P t) fun e=>Nt.kOpt (yO P e) fun n=>Nt.kD v fun x=>Nt.kSl x fun xs=>yB n xs∧Nt.kIdx P e xs i fun y=>F (.iel y 0) k):=fun v=>
  At.kOpt fun e=>At.kOpt fun n=>At.kD fun x=>At.kSl fun xs=>At.and (At.kIdx fun y=>f _)
 cases v with
 |row r g=>
  refine At.kOpt fun e=>At.kOpt fun n=>At.kOpt fun ob=>?_;cases ob with
  |row n' xs=>exact At.kIf (At.and (At.and (f _)))
  |_=>exact At.bot
 |ref r g off=>
  refine At.kOpt fun ob=>?_;split
  ·exact At.kOpt fun n=>At.kIf (At.kIf (At.kIf (At.and (At.and (At.and (f _))))))
  ·exact At.bot
 |d x=>exact data (.d x)
 |nilS=>exact data .nilS
 |right k g n xs=>exact data (.right k g n xs)
 |lent a b c d e=>exact data (.lent a b c d e)
 |rref a b c d e=>exact data (.rref a b c d e)
 |iel a b=>exact data (.iel a b)
 |hp a b=>exact data (.hp a b)
 |own a b=>exact data (.own a b)
 |fn a b c=>exact data (.fn a b c)
 |tup a=>exact data (.tup a)
 |undef=>exact data .undef
 |skp=>exact data .skp
 |nilF=>exact data .nilF
 |bld a b=>exact data (.bld a b)
 |wr a b=>exact data (.wr a b)
 |cells a=>exact data (.cells a)
theorem At.kIndex{v i:Sv}{F:Sv→(β→Prop)→Prop}(f:∀y,At W (F y)):At W (fun k=>kIndex v i fun y=>F y k):=
 At.kD fun _=>At.kD fun _=>At.kI fun _ _=>At.kStr fun _=>At.and (At.exi fun _=>At.and (At.nam fun _=>f _))
theorem At.kBound{v:Option Sv}{d:Nat}{F:Nat→(β→Prop)→Prop}(f:∀y,At W (F y)):At W (fun k=>kBound v d fun y=>F y k):=by
 cases v with
 |none=>exact f _
 |some v=>exact At.kD fun _=>At.kI fun _ _=>At.and (f _)
theorem At.kFill{P:Program}{t:TypeId}:∀{ps:List (Nat×Sv)} {cs:List D} {F:List D→(β→Prop)→Prop},(∀y,At W (F y))→At W (fun k=>kFill P t ps cs fun y=>F y k)
 |[],cs,F,f=>f _
 |(i,v)::r,cs,F,f=>by
  refine At.kOpt fun fd=>At.kOpt fun n=>At.kD fun x=>At.cond ?_ (At.kIf (At.kIf (At.kIf (At.kFill f))));cases x<;>first|exact At.kIf (At.kIf (At.kFill f))|exact At.bot
theorem At.kElems{P:Program}{e n:Nat}:∀{ps:List (Nat×Sv)} {i:Nat} {F:List D→(β→Prop)→Prop},(∀y,At W (F y))→At W (fun k=>kElems P e n i ps fun y=>F y k)
 |[],i,F,f=>f _
 |(j,v)::r,i,F,f=>At.kIf (At.kD fun x=>At.cond (At.kWhole (At.kElems (F:=fun xs k=>F (x::xs) k) fun _=>f _)) (At.kIf (At.kIf (At.kElems (F:=fun xs k=>F (x::xs) k) fun _=>f _))))
theorem At.kArg{v:Sv}{F:Sv→(β→Prop)→Prop}(f:∀y,At W (F y)):At W (fun k=>kArg v fun y=>F y k):=by
 cases v<;>first|exact f _|exact At.bot
theorem At.kArgs:∀{vs:List Sv} {F:List Sv→(β→Prop)→Prop},(∀y,At W (F y))→At W (fun k=>kArgs vs fun y=>F y k)
 |[],F,f=>f _
 |v::r,F,f=>At.kArg (F:=fun x k=>Nt.kArgs r fun xs=>F (x::xs) k) fun x=>At.kArgs (F:=fun xs k=>F (x::xs) k) fun _=>f _
theorem At.exFn:∀{gs:List Nat} {F:Nat→(β→Prop)→Prop},(∀y,At W (F y))→At W (fun k=>exFn gs fun y=>F y k)
 |[],F,f=>At.bot
 |g::r,F,f=>At.or (f g) (At.exFn f)
theorem At.kCw{cs:List D}{i n:Nat}{F:Sv→(β→Prop)→Prop}(f:∀y,At W (F y)):At W (fun k=>kCw cs i n fun y=>F y k):=by
 unfold Nt.kCw;split
 ·exact f _
 ·exact At.bot
theorem At.exR:∀{ks:List RK} {F:List Sv→(β→Prop)→Prop},(∀y,At W (F y))→At W (fun k=>exR ks fun y=>F y k)
 |[],F,f=>f _
 |.d sh::r,F,f=>At.exD (F:=fun x k=>Nt.exR r fun l=>F (.d x::l) k) fun x=>At.exR (F:=fun l k=>F (.d x::l) k) fun _=>f _
 |.own n::r,F,f=>At.exi fun x=>At.exR (F:=fun l k=>F (.own n x::l) k) fun _=>f _
 |.hp::r,F,f=>At.exi fun i=>At.exi fun o=>At.exR (F:=fun l k=>F (.hp i o::l) k) fun _=>f _
 |.fns gs::r,F,f=>At.exFn (F:=fun g k=>Nt.exR r fun l=>F (.fn g [] []::l) k) fun g=>At.exR (F:=fun l k=>F (.fn g [] []::l) k) fun _=>f _
 |.wr n::r,F,f=>At.exi fun x=>At.exR (F:=fun l k=>F (.wr n x::l) k) fun _=>f _
 |.cw sh i n::r,F,f=>At.exSs (F:=fun cs k=>Nt.kCw cs i n fun v=>Nt.exR r fun l=>F (v::l) k) fun cs=>At.kCw (F:=fun v k=>Nt.exR r fun l=>F (v::l) k) fun v=>At.exR (F:=fun l k=>F (v::l) k) fun _=>f _
theorem At.exC:∀{cs:List Sv} {F:List Sv→(β→Prop)→Prop},(∀y,At W (F y))→At W (fun k=>exC cs fun y=>F y k)
 |[],F,f=>f _
 |c::r,F,f=>by
  cases c with
  |d y=>exact At.exLike (F:=fun x k=>Nt.exC r fun l=>F (.d x::l) k) fun x=>At.exC (F:=fun l k=>F (.d x::l) k) fun _=>f _
  |own n xs=>exact At.exi fun x=>At.exC (F:=fun l k=>F (.own n x::l) k) fun _=>f _
  |nilS=>exact At.exC (F:=fun l k=>F (.nilS::l) k) fun _=>f _
  |right a b c d=>exact At.exC (F:=fun l k=>F (.right a b c d::l) k) fun _=>f _
  |row a b=>exact At.exC (F:=fun l k=>F (.row a b::l) k) fun _=>f _
  |ref a b c=>exact At.exC (F:=fun l k=>F (.ref a b c::l) k) fun _=>f _
  |rref a b c d e=>exact At.exC (F:=fun l k=>F (.rref a b c d e::l) k) fun _=>f _
  |iel a b=>exact At.exC (F:=fun l k=>F (.iel a b::l) k) fun _=>f _
  |hp a b=>exact At.exC (F:=fun l k=>F (.hp a b::l) k) fun _=>f _
  |lent a b c d e=>exact At.exC (F:=fun l k=>F (.lent a b c d e::l) k) fun _=>f _
  |fn a b c=>exact At.exC (F:=fun l k=>F (.fn a b c::l) k) fun _=>f _
  |tup a=>exact At.exC (F:=fun l k=>F (.tup a::l) k) fun _=>f _
  |undef=>exact At.exC (F:=fun l k=>F (.undef::l) k) fun _=>f _
  |skp=>exact At.exC (F:=fun l k=>F (.skp::l) k) fun _=>f _
  |nilF=>exact At.exC (F:=fun l k=>F (.nilF::l) k) fun _=>f _
  |bld a b=>exact At.exC (F:=fun l k=>F (.bld a b::l) k) fun _=>f _
  |wr a b=>exact At.exC (F:=fun l k=>F (.wr a b::l) k) fun _=>f _
  |cells a=>exact At.exC (F:=fun l k=>F (.cells a::l) k) fun _=>f _
theorem At.exH:∀{h:H} {F:H→(β→Prop)→Prop},(∀y,At W (F y))→At W (fun k=>exH h fun y=>F y k)
 |[],F,f=>f _
 |cs::r,F,f=>At.exC (F:=fun ds k=>Nt.exH r fun l=>F (ds::l) k) fun ds=>At.exH (F:=fun l k=>F (ds::l) k) fun _=>f _
theorem At.toBytes{xs:List D}{F:List UInt8→(β→Prop)→Prop}(f:∀y,At W (F y)):At W (fun k=>toBytes xs fun y=>F y k):=At.exi fun u=>At.and (f u)
theorem At.kLen{P:Program}{t:TypeId}{s:St}{v:Sv}{F:Sv→(β→Prop)→Prop}(f:∀y,At W (F y)):At W (fun k=>kLen P t s v fun y=>F y k):=by
 unfold Nt.kLen;split
 ·cases v with
  |row r g=>
   refine At.kOpt fun ob=>?_;cases ob<;>first|exact At.nam fun _=>f _|exact At.bot
  |_=>exact At.kD fun _=>At.kSl fun _=>At.nam fun _=>f _
 ·exact At.kD fun _=>At.kStr fun _=>At.nam fun _=>f _
 ·exact At.bot
end
end Nt

