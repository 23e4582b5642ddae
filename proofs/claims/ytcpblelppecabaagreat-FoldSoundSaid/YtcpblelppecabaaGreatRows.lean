/-
  NARROWER THAN 'FOR EVERY INPUT', by the rows' own cells (each row's printed sentence says how): QuietKeeps: loops · QuietTurns: loops · FoldSound: loops · FlowSound: loops · BlockSound: loops · AlgebraSound: loops · LogicSound: loops · LogicTurns: loops · CallsSound: loops · CallsHold: loops · CallsOwn: loops.
  DERIVED. THE GIVEN ROWS OF THIS SEAT. 11 by the template 'for every input the law returns true; each argument reads behind the call as it read before'; 0 by the template 'total and deterministic' (their statements: YtcpblelppecabaaGreatTotals.lean).
  GIVEN WITH THE SEED: the statements are not yours to turn. If you find one false, say at which input.
  Laid BY PROGRAM, IN A SANDBOX (cutbox-rows.mjs): the forced cells as the released guide's own fill.sh prints them over the translation 41b22fb130e5047d… (all of the seat's roots in one cut). By AI agents, Wed Nov 11 2026. No macro, syntax, notation, axiom, sorry.
-/
import Derived.Test.YtcpblelppecabaaGreatChecked
import GoSem.Claim
import GoSem.ClaimJoined
import GoSem.ClaimMapViews
import Derived.JoinedTies
import Derived.KernelRfl
namespace Go.Proofs.YtcpblelppecabaaGreat
/- THE CELL 'sum', in the pinned program and in every row, IS THE sha256 OF THE DUMP (.gsa) THAT YtcpblelppecabaaGreatProg.lean LOADS. Nothing in Lean hashes anything: it is a label: what it is worth is what the hold of that sum in a sandbox is worth. -/
noncomputable def Tryz.pinned : Pinned := { name := "ytcpblelppecabaagreat", sum := "41b22fb130e5047d9f972c75c03503020cbe64a2598c6524ecc6501875bd3d6a", checked := Tryz.checked }
namespace Rows
def none {H : Type} : Left H := { results := [], args := [] }

/-- 'notarylaw24.QuietKeeps': WHATEVER THE INPUT: true; the input reads as it did. -/
def quietKeepsSpec : ChangeSpec := { name := "quietKeeps", fn := fun _ => fun
  | [d] => { results := [.lit (.bool true)], args := [d] }
  | _ => none }
def quietKeepsRow : OpenClaim := { program := "ytcpblelppecabaagreat", sum := "41b22fb130e5047d9f972c75c03503020cbe64a2598c6524ecc6501875bd3d6a", func := "notary/notarylaw24.QuietKeeps", spec := "quietKeeps", recurses := true, loops := true, apart := false }
def QuietKeepsSaid : Prop := quietKeepsRow.holds Tryz.pinned (OpenSpec.ofChange quietKeepsSpec)

/-- ITS FALSE NEIGHBOUR: 'it returns false'. Refute it at one input. -/
def quietKeepsWrong : ChangeSpec := { name := "quietKeeps", fn := fun _ => fun
  | [d] => { results := [.lit (.bool false)], args := [d] }
  | _ => none }
def QuietKeepsWrongFalsely : Prop := quietKeepsRow.holds Tryz.pinned (OpenSpec.ofChange quietKeepsWrong)

/-- 'notarylaw24.QuietTurns': WHATEVER THE INPUT: true; the input reads as it did. -/
def quietTurnsSpec : ChangeSpec := { name := "quietTurns", fn := fun _ => fun
  | [d] => { results := [.lit (.bool true)], args := [d] }
  | _ => none }
def quietTurnsRow : OpenClaim := { program := "ytcpblelppecabaagreat", sum := "41b22fb130e5047d9f972c75c03503020cbe64a2598c6524ecc6501875bd3d6a", func := "notary/notarylaw24.QuietTurns", spec := "quietTurns", inPlace := ["slices.overlaps[int]"], unfollowed := true, recurses := true, loops := true, apart := false }
def QuietTurnsSaid : Prop := quietTurnsRow.holds Tryz.pinned (OpenSpec.ofChange quietTurnsSpec)

/-- ITS FALSE NEIGHBOUR: 'it returns false'. Refute it at one input. -/
def quietTurnsWrong : ChangeSpec := { name := "quietTurns", fn := fun _ => fun
  | [d] => { results := [.lit (.bool false)], args := [d] }
  | _ => none }
def QuietTurnsWrongFalsely : Prop := quietTurnsRow.holds Tryz.pinned (OpenSpec.ofChange quietTurnsWrong)

/-- 'notarylaw27.FoldSound': WHATEVER THE INPUT: true; the input reads as it did. -/
def foldSoundSpec : ChangeSpec := { name := "foldSound", fn := fun _ => fun
  | [d] => { results := [.lit (.bool true)], args := [d] }
  | _ => none }
def foldSoundRow : OpenClaim := { program := "ytcpblelppecabaagreat", sum := "41b22fb130e5047d9f972c75c03503020cbe64a2598c6524ecc6501875bd3d6a", func := "notary/notarylaw27.FoldSound", spec := "foldSound", unfollowed := true, recurses := true, loops := true, apart := false }
def FoldSoundSaid : Prop := foldSoundRow.holds Tryz.pinned (OpenSpec.ofChange foldSoundSpec)

/-- ITS FALSE NEIGHBOUR: 'it returns false'. Refute it at one input. -/
def foldSoundWrong : ChangeSpec := { name := "foldSound", fn := fun _ => fun
  | [d] => { results := [.lit (.bool false)], args := [d] }
  | _ => none }
def FoldSoundWrongFalsely : Prop := foldSoundRow.holds Tryz.pinned (OpenSpec.ofChange foldSoundWrong)

/-- 'notarylaw28.FlowSound': WHATEVER THE INPUT: true; the input reads as it did. -/
def flowSoundSpec : ChangeSpec := { name := "flowSound", fn := fun _ => fun
  | [d] => { results := [.lit (.bool true)], args := [d] }
  | _ => none }
def flowSoundRow : OpenClaim := { program := "ytcpblelppecabaagreat", sum := "41b22fb130e5047d9f972c75c03503020cbe64a2598c6524ecc6501875bd3d6a", func := "notary/notarylaw28.FlowSound", spec := "flowSound", unfollowed := true, recurses := true, loops := true, apart := false }
def FlowSoundSaid : Prop := flowSoundRow.holds Tryz.pinned (OpenSpec.ofChange flowSoundSpec)

/-- ITS FALSE NEIGHBOUR: 'it returns false'. Refute it at one input. -/
def flowSoundWrong : ChangeSpec := { name := "flowSound", fn := fun _ => fun
  | [d] => { results := [.lit (.bool false)], args := [d] }
  | _ => none }
def FlowSoundWrongFalsely : Prop := flowSoundRow.holds Tryz.pinned (OpenSpec.ofChange flowSoundWrong)

/-- 'notarylaw29.BlockSound': WHATEVER THE INPUT: true; the input reads as it did. -/
def blockSoundSpec : ChangeSpec := { name := "blockSound", fn := fun _ => fun
  | [d] => { results := [.lit (.bool true)], args := [d] }
  | _ => none }
def blockSoundRow : OpenClaim := { program := "ytcpblelppecabaagreat", sum := "41b22fb130e5047d9f972c75c03503020cbe64a2598c6524ecc6501875bd3d6a", func := "notary/notarylaw29.BlockSound", spec := "blockSound", unfollowed := true, recurses := true, loops := true, apart := false }
def BlockSoundSaid : Prop := blockSoundRow.holds Tryz.pinned (OpenSpec.ofChange blockSoundSpec)

/-- ITS FALSE NEIGHBOUR: 'it returns false'. Refute it at one input. -/
def blockSoundWrong : ChangeSpec := { name := "blockSound", fn := fun _ => fun
  | [d] => { results := [.lit (.bool false)], args := [d] }
  | _ => none }
def BlockSoundWrongFalsely : Prop := blockSoundRow.holds Tryz.pinned (OpenSpec.ofChange blockSoundWrong)

/-- 'notarylaw25.AlgebraSound': WHATEVER THE INPUT: true; the input reads as it did. -/
def algebraSoundSpec : ChangeSpec := { name := "algebraSound", fn := fun _ => fun
  | [d] => { results := [.lit (.bool true)], args := [d] }
  | _ => none }
def algebraSoundRow : OpenClaim := { program := "ytcpblelppecabaagreat", sum := "41b22fb130e5047d9f972c75c03503020cbe64a2598c6524ecc6501875bd3d6a", func := "notary/notarylaw25.AlgebraSound", spec := "algebraSound", inPlace := ["slices.overlaps[int]"], unfollowed := true, recurses := true, loops := true, apart := false }
def AlgebraSoundSaid : Prop := algebraSoundRow.holds Tryz.pinned (OpenSpec.ofChange algebraSoundSpec)

/-- ITS FALSE NEIGHBOUR: 'it returns false'. Refute it at one input. -/
def algebraSoundWrong : ChangeSpec := { name := "algebraSound", fn := fun _ => fun
  | [d] => { results := [.lit (.bool false)], args := [d] }
  | _ => none }
def AlgebraSoundWrongFalsely : Prop := algebraSoundRow.holds Tryz.pinned (OpenSpec.ofChange algebraSoundWrong)

/-- 'notarylaw26.LogicSound': WHATEVER THE INPUT: true; the input reads as it did. -/
def logicSoundSpec : ChangeSpec := { name := "logicSound", fn := fun _ => fun
  | [d] => { results := [.lit (.bool true)], args := [d] }
  | _ => none }
def logicSoundRow : OpenClaim := { program := "ytcpblelppecabaagreat", sum := "41b22fb130e5047d9f972c75c03503020cbe64a2598c6524ecc6501875bd3d6a", func := "notary/notarylaw26.LogicSound", spec := "logicSound", inPlace := ["slices.overlaps[int]"], unfollowed := true, recurses := true, loops := true, apart := false }
def LogicSoundSaid : Prop := logicSoundRow.holds Tryz.pinned (OpenSpec.ofChange logicSoundSpec)

/-- ITS FALSE NEIGHBOUR: 'it returns false'. Refute it at one input. -/
def logicSoundWrong : ChangeSpec := { name := "logicSound", fn := fun _ => fun
  | [d] => { results := [.lit (.bool false)], args := [d] }
  | _ => none }
def LogicSoundWrongFalsely : Prop := logicSoundRow.holds Tryz.pinned (OpenSpec.ofChange logicSoundWrong)

/-- 'notarylaw26.LogicTurns': WHATEVER THE INPUT: true; the input reads as it did. -/
def logicTurnsSpec : ChangeSpec := { name := "logicTurns", fn := fun _ => fun
  | [d1, d2, d3] => { results := [.lit (.bool true)], args := [d1, d2, d3] }
  | _ => none }
def logicTurnsRow : OpenClaim := { program := "ytcpblelppecabaagreat", sum := "41b22fb130e5047d9f972c75c03503020cbe64a2598c6524ecc6501875bd3d6a", func := "notary/notarylaw26.LogicTurns", spec := "logicTurns", inPlace := ["slices.overlaps[int]"], unfollowed := true, recurses := true, loops := true, apart := false }
def LogicTurnsSaid : Prop := logicTurnsRow.holds Tryz.pinned (OpenSpec.ofChange logicTurnsSpec)

/-- ITS FALSE NEIGHBOUR: 'it returns false'. Refute it at one input. -/
def logicTurnsWrong : ChangeSpec := { name := "logicTurns", fn := fun _ => fun
  | [d1, d2, d3] => { results := [.lit (.bool false)], args := [d1, d2, d3] }
  | _ => none }
def LogicTurnsWrongFalsely : Prop := logicTurnsRow.holds Tryz.pinned (OpenSpec.ofChange logicTurnsWrong)

/-- 'notarylaw31.CallsSound': WHATEVER THE INPUT: true; the input reads as it did. -/
def callsSoundSpec : ChangeSpec := { name := "callsSound", fn := fun _ => fun
  | [d] => { results := [.lit (.bool true)], args := [d] }
  | _ => none }
def callsSoundRow : OpenClaim := { program := "ytcpblelppecabaagreat", sum := "41b22fb130e5047d9f972c75c03503020cbe64a2598c6524ecc6501875bd3d6a", func := "notary/notarylaw31.CallsSound", spec := "callsSound", inPlace := ["slices.overlaps[int]"], unfollowed := true, recurses := true, loops := true, apart := false }
def CallsSoundSaid : Prop := callsSoundRow.holds Tryz.pinned (OpenSpec.ofChange callsSoundSpec)

/-- ITS FALSE NEIGHBOUR: 'it returns false'. Refute it at one input. -/
def callsSoundWrong : ChangeSpec := { name := "callsSound", fn := fun _ => fun
  | [d] => { results := [.lit (.bool false)], args := [d] }
  | _ => none }
def CallsSoundWrongFalsely : Prop := callsSoundRow.holds Tryz.pinned (OpenSpec.ofChange callsSoundWrong)

/-- 'notarylaw31.CallsHold': WHATEVER THE INPUT: true; the input reads as it did. -/
def callsHoldSpec : ChangeSpec := { name := "callsHold", fn := fun _ => fun
  | [d1, d2] => { results := [.lit (.bool true)], args := [d1, d2] }
  | _ => none }
def callsHoldRow : OpenClaim := { program := "ytcpblelppecabaagreat", sum := "41b22fb130e5047d9f972c75c03503020cbe64a2598c6524ecc6501875bd3d6a", func := "notary/notarylaw31.CallsHold", spec := "callsHold", inPlace := ["slices.overlaps[int]"], unfollowed := true, recurses := true, loops := true, apart := false }
def CallsHoldSaid : Prop := callsHoldRow.holds Tryz.pinned (OpenSpec.ofChange callsHoldSpec)

/-- ITS FALSE NEIGHBOUR: 'it returns false'. Refute it at one input. -/
def callsHoldWrong : ChangeSpec := { name := "callsHold", fn := fun _ => fun
  | [d1, d2] => { results := [.lit (.bool false)], args := [d1, d2] }
  | _ => none }
def CallsHoldWrongFalsely : Prop := callsHoldRow.holds Tryz.pinned (OpenSpec.ofChange callsHoldWrong)

/-- 'notarylaw31.CallsOwn': WHATEVER THE INPUT: true; the input reads as it did. -/
def callsOwnSpec : ChangeSpec := { name := "callsOwn", fn := fun _ => fun
  | [d] => { results := [.lit (.bool true)], args := [d] }
  | _ => none }
def callsOwnRow : OpenClaim := { program := "ytcpblelppecabaagreat", sum := "41b22fb130e5047d9f972c75c03503020cbe64a2598c6524ecc6501875bd3d6a", func := "notary/notarylaw31.CallsOwn", spec := "callsOwn", inPlace := ["slices.overlaps[int]"], unfollowed := true, recurses := true, loops := true, apart := false }
def CallsOwnSaid : Prop := callsOwnRow.holds Tryz.pinned (OpenSpec.ofChange callsOwnSpec)

/-- ITS FALSE NEIGHBOUR: 'it returns false'. Refute it at one input. -/
def callsOwnWrong : ChangeSpec := { name := "callsOwn", fn := fun _ => fun
  | [d] => { results := [.lit (.bool false)], args := [d] }
  | _ => none }
def CallsOwnWrongFalsely : Prop := callsOwnRow.holds Tryz.pinned (OpenSpec.ofChange callsOwnWrong)

/- THE SECOND FORM. 'bulk': how many values and letters a reading holds, each counted each time it is reached (what is shared counts as often as it is met; a slice's spare places count too). A statement '..UptoSaid' is the law's where the arguments, and the package variables that the reading takes, are together of bulk at most 1048576: NARROWER than '..Said'. Prove '..Said' where nothing that the law and all that it calls make is longer than what came in: it says more and counts as full. Else prove '..UptoSaid'. A law counts once. -/
mutual
def uptoBulk {H : Type} : DataW H → Nat
  | .lit (.string bytes) => bytes.length + 1
  | .lit _ => 1
  | .nil => 1
  | .ptr d => uptoBulk d + 1
  | .slice elems spare => uptoBulkAll elems + uptoBulkAll spare + 1
  | .agg parts => uptoBulkAll parts + 1
  | .iface _ d => uptoBulk d + 1
  | .map entries => uptoBulkEntries entries + 1
  | .held _ => 1
def uptoBulkAll {H : Type} : List (DataW H) → Nat
  | [] => 0
  | d :: r => uptoBulk d + uptoBulkAll r
def uptoBulkEntries {H : Type} : List (Lit × DataW H) → Nat
  | [] => 0
  | x :: r => uptoBulkEntry x + uptoBulkEntries r
def uptoBulkEntry {H : Type} : Lit × DataW H → Nat
  | (.string bytes, d) => bytes.length + uptoBulk d + 1
  | (_, d) => uptoBulk d + 1
 end
def uptoSmall : (H : Type) → List (DataW H) → Bool := fun _ ds => decide (uptoBulkAll ds ≤ 1048576)
def OpenSpec.upto (s : _root_.Go.ChangeSpec) : _root_.Go.OpenSpec := { _root_.Go.OpenSpec.ofChange s with cond := some uptoSmall }

/-- 'notarylaw24.QuietKeeps', WHERE WHAT IT READS IS OF BULK AT MOST 1048576: true; the input reads as it did. -/
def quietKeepsUptoRow : OpenClaim := { program := "ytcpblelppecabaagreat", sum := "41b22fb130e5047d9f972c75c03503020cbe64a2598c6524ecc6501875bd3d6a", func := "notary/notarylaw24.QuietKeeps", spec := "quietKeeps", recurses := true, loops := true, apart := false, narrowed := true }
def QuietKeepsUptoSaid : Prop := quietKeepsUptoRow.holds Tryz.pinned (OpenSpec.upto quietKeepsSpec)

/-- 'notarylaw24.QuietTurns', WHERE WHAT IT READS IS OF BULK AT MOST 1048576: true; the input reads as it did. -/
def quietTurnsUptoRow : OpenClaim := { program := "ytcpblelppecabaagreat", sum := "41b22fb130e5047d9f972c75c03503020cbe64a2598c6524ecc6501875bd3d6a", func := "notary/notarylaw24.QuietTurns", spec := "quietTurns", inPlace := ["slices.overlaps[int]"], unfollowed := true, recurses := true, loops := true, apart := false, narrowed := true }
def QuietTurnsUptoSaid : Prop := quietTurnsUptoRow.holds Tryz.pinned (OpenSpec.upto quietTurnsSpec)

/-- 'notarylaw27.FoldSound', WHERE WHAT IT READS IS OF BULK AT MOST 1048576: true; the input reads as it did. -/
def foldSoundUptoRow : OpenClaim := { program := "ytcpblelppecabaagreat", sum := "41b22fb130e5047d9f972c75c03503020cbe64a2598c6524ecc6501875bd3d6a", func := "notary/notarylaw27.FoldSound", spec := "foldSound", unfollowed := true, recurses := true, loops := true, apart := false, narrowed := true }
def FoldSoundUptoSaid : Prop := foldSoundUptoRow.holds Tryz.pinned (OpenSpec.upto foldSoundSpec)

/-- 'notarylaw28.FlowSound', WHERE WHAT IT READS IS OF BULK AT MOST 1048576: true; the input reads as it did. -/
def flowSoundUptoRow : OpenClaim := { program := "ytcpblelppecabaagreat", sum := "41b22fb130e5047d9f972c75c03503020cbe64a2598c6524ecc6501875bd3d6a", func := "notary/notarylaw28.FlowSound", spec := "flowSound", unfollowed := true, recurses := true, loops := true, apart := false, narrowed := true }
def FlowSoundUptoSaid : Prop := flowSoundUptoRow.holds Tryz.pinned (OpenSpec.upto flowSoundSpec)

/-- 'notarylaw29.BlockSound', WHERE WHAT IT READS IS OF BULK AT MOST 1048576: true; the input reads as it did. -/
def blockSoundUptoRow : OpenClaim := { program := "ytcpblelppecabaagreat", sum := "41b22fb130e5047d9f972c75c03503020cbe64a2598c6524ecc6501875bd3d6a", func := "notary/notarylaw29.BlockSound", spec := "blockSound", unfollowed := true, recurses := true, loops := true, apart := false, narrowed := true }
def BlockSoundUptoSaid : Prop := blockSoundUptoRow.holds Tryz.pinned (OpenSpec.upto blockSoundSpec)

/-- 'notarylaw25.AlgebraSound', WHERE WHAT IT READS IS OF BULK AT MOST 1048576: true; the input reads as it did. -/
def algebraSoundUptoRow : OpenClaim := { program := "ytcpblelppecabaagreat", sum := "41b22fb130e5047d9f972c75c03503020cbe64a2598c6524ecc6501875bd3d6a", func := "notary/notarylaw25.AlgebraSound", spec := "algebraSound", inPlace := ["slices.overlaps[int]"], unfollowed := true, recurses := true, loops := true, apart := false, narrowed := true }
def AlgebraSoundUptoSaid : Prop := algebraSoundUptoRow.holds Tryz.pinned (OpenSpec.upto algebraSoundSpec)

/-- 'notarylaw26.LogicSound', WHERE WHAT IT READS IS OF BULK AT MOST 1048576: true; the input reads as it did. -/
def logicSoundUptoRow : OpenClaim := { program := "ytcpblelppecabaagreat", sum := "41b22fb130e5047d9f972c75c03503020cbe64a2598c6524ecc6501875bd3d6a", func := "notary/notarylaw26.LogicSound", spec := "logicSound", inPlace := ["slices.overlaps[int]"], unfollowed := true, recurses := true, loops := true, apart := false, narrowed := true }
def LogicSoundUptoSaid : Prop := logicSoundUptoRow.holds Tryz.pinned (OpenSpec.upto logicSoundSpec)

/-- 'notarylaw26.LogicTurns', WHERE WHAT IT READS IS OF BULK AT MOST 1048576: true; the input reads as it did. -/
def logicTurnsUptoRow : OpenClaim := { program := "ytcpblelppecabaagreat", sum := "41b22fb130e5047d9f972c75c03503020cbe64a2598c6524ecc6501875bd3d6a", func := "notary/notarylaw26.LogicTurns", spec := "logicTurns", inPlace := ["slices.overlaps[int]"], unfollowed := true, recurses := true, loops := true, apart := false, narrowed := true }
def LogicTurnsUptoSaid : Prop := logicTurnsUptoRow.holds Tryz.pinned (OpenSpec.upto logicTurnsSpec)

/-- 'notarylaw31.CallsSound', WHERE WHAT IT READS IS OF BULK AT MOST 1048576: true; the input reads as it did. -/
def callsSoundUptoRow : OpenClaim := { program := "ytcpblelppecabaagreat", sum := "41b22fb130e5047d9f972c75c03503020cbe64a2598c6524ecc6501875bd3d6a", func := "notary/notarylaw31.CallsSound", spec := "callsSound", inPlace := ["slices.overlaps[int]"], unfollowed := true, recurses := true, loops := true, apart := false, narrowed := true }
def CallsSoundUptoSaid : Prop := callsSoundUptoRow.holds Tryz.pinned (OpenSpec.upto callsSoundSpec)

/-- 'notarylaw31.CallsHold', WHERE WHAT IT READS IS OF BULK AT MOST 1048576: true; the input reads as it did. -/
def callsHoldUptoRow : OpenClaim := { program := "ytcpblelppecabaagreat", sum := "41b22fb130e5047d9f972c75c03503020cbe64a2598c6524ecc6501875bd3d6a", func := "notary/notarylaw31.CallsHold", spec := "callsHold", inPlace := ["slices.overlaps[int]"], unfollowed := true, recurses := true, loops := true, apart := false, narrowed := true }
def CallsHoldUptoSaid : Prop := callsHoldUptoRow.holds Tryz.pinned (OpenSpec.upto callsHoldSpec)

/-- 'notarylaw31.CallsOwn', WHERE WHAT IT READS IS OF BULK AT MOST 1048576: true; the input reads as it did. -/
def callsOwnUptoRow : OpenClaim := { program := "ytcpblelppecabaagreat", sum := "41b22fb130e5047d9f972c75c03503020cbe64a2598c6524ecc6501875bd3d6a", func := "notary/notarylaw31.CallsOwn", spec := "callsOwn", inPlace := ["slices.overlaps[int]"], unfollowed := true, recurses := true, loops := true, apart := false, narrowed := true }
def CallsOwnUptoSaid : Prop := callsOwnUptoRow.holds Tryz.pinned (OpenSpec.upto callsOwnSpec)

end Rows
end Go.Proofs.YtcpblelppecabaaGreat
