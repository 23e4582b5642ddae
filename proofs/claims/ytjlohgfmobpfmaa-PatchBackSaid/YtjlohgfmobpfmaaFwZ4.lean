import Derived.Test.YtjlohgfmobpfmaaFwZ3
namespace Nt
open Go Go.RowKit
set_option linter.unusedVariables false
abbrev noM:Nat→Nat→Prop:=fun _ _=>False
abbrev noK:Kap:=fun _=>none
theorem z9e(b o:Nat):¬Mut noM noK b o:=by
 rintro(h|⟨k,lo,h,-⟩)
 ·exact h
 ·cases h
theorem Trip.calls{P:Program}{f:FuncId}{args rs:List Sv}{h':H}(t:Trip P f args [] rs h')(W:World)(vs:List Value)(hv:RelSs W (Mut noM noK) noK ⟨[],[],0⟩ vs args):
  Calls P f ⟨vs⟩ W fun e W'=>∃v κ',e=.returned v∧Below W.heap.size W W'∧Keeps W (Mut noM noK) W' (Mut noM κ')∧ResRel W' (Mut noM κ') κ' v rs:=by
 have B:Before W noM noK []:=⟨fun b o h=>h.elim,fun _ _ _ h=>(by cases h),fun _ _ _ _ _ h=>(by cases h),fun _ _ h=>(by cases h),fun _=>rfl,fun id cs h=>(by simp at h)⟩;refine(t.2 W noM noK vs B hv).mono ?_;rintro e W' ⟨v,κ',he,A,hr⟩;exact⟨v,κ',he,⟨A.kept.os,A.kept.tape,A.kept.output,A.kept.size,fun k hk=>A.kept.block k hk (fun⟨_,_,h⟩=>by cases h)⟩,A.k0,hr⟩
theorem Trip.callsB{P:Program}{f:FuncId}{args:List Sv}{h':H}{b:Bool}(t:Trip P f args [] [.d (.bool b)] h')(W:World)(vs:List Value)(hv:RelSs W (Mut noM noK) noK ⟨[],[],0⟩ vs args):
  Calls P f ⟨vs⟩ W fun e W'=>e=.returned (.bool b)∧Below W.heap.size W W':=by
 refine(t.calls W vs hv).mono ?_;rintro e W' ⟨v,κ',rfl,bel,-,hr⟩;refine⟨?_,bel⟩;cases hr.2 with|d _ _ h=>rw[h.bool_inv]
end Nt

