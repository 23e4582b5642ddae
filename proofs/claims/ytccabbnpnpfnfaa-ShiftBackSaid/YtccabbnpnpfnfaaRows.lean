/-
  NARROWER THAN 'FOR EVERY INPUT', by the rows' own cells (each row's printed sentence says how): ShiftMoves: loops · ShiftBack: loops · ShiftPuts: loops.
  DERIVED. THE GIVEN ROWS OF THIS SEAT. 3 by the template 'for every input the law returns true; each argument reads behind the call as it read before'; 0 by the template 'total and deterministic' (their statements: YtccabbnpnpfnfaaTotals.lean).
  GIVEN WITH THE SEED: the statements are not yours to turn. If you find one false, say at which input.
  Laid BY PROGRAM, IN A SANDBOX (cutbox-rows.mjs): the forced cells as the released guide's own fill.sh prints them over the translation f30079d19bc32b89… (all of the seat's roots in one cut). By AI agents, Wed Nov 11 2026. No macro, syntax, notation, axiom, sorry.
-/
import Derived.Test.YtccabbnpnpfnfaaChecked
import GoSem.Claim
import GoSem.ClaimJoined
import GoSem.ClaimMapViews
import Derived.JoinedTies
import Derived.KernelRfl
namespace Go.Proofs.Ytccabbnpnpfnfaa
/- THE CELL 'sum', in the pinned program and in every row, IS THE sha256 OF THE DUMP (.gsa) THAT YtccabbnpnpfnfaaProg.lean LOADS. Nothing in Lean hashes anything: it is a label: what it is worth is what the hold of that sum in a sandbox is worth. -/
noncomputable def Try.pinned : Pinned := { name := "ytccabbnpnpfnfaa", sum := "f30079d19bc32b89e428a476e51708329eb71ae3b577111498f85c22034ff2f5", checked := Try.checked }
namespace Rows
def none {H : Type} : Left H := { results := [], args := [] }

/-- 'notarylaw14.ShiftMoves': WHATEVER THE INPUT: true; the input reads as it did. -/
def shiftMovesSpec : ChangeSpec := { name := "shiftMoves", fn := fun _ => fun
  | [d1, d2, d3] => { results := [.lit (.bool true)], args := [d1, d2, d3] }
  | _ => none }
def shiftMovesRow : OpenClaim := { program := "ytccabbnpnpfnfaa", sum := "f30079d19bc32b89e428a476e51708329eb71ae3b577111498f85c22034ff2f5", func := "notary/notarylaw14.ShiftMoves", spec := "shiftMoves", unfollowed := true, recurses := true, loops := true, apart := false }
def ShiftMovesSaid : Prop := shiftMovesRow.holds Try.pinned (OpenSpec.ofChange shiftMovesSpec)

/-- ITS FALSE NEIGHBOUR: 'it returns false'. Refute it at one input. -/
def shiftMovesWrong : ChangeSpec := { name := "shiftMoves", fn := fun _ => fun
  | [d1, d2, d3] => { results := [.lit (.bool false)], args := [d1, d2, d3] }
  | _ => none }
def ShiftMovesWrongFalsely : Prop := shiftMovesRow.holds Try.pinned (OpenSpec.ofChange shiftMovesWrong)

/-- 'notarylaw14.ShiftBack': WHATEVER THE INPUT: true; the input reads as it did. -/
def shiftBackSpec : ChangeSpec := { name := "shiftBack", fn := fun _ => fun
  | [d1, d2, d3] => { results := [.lit (.bool true)], args := [d1, d2, d3] }
  | _ => none }
def shiftBackRow : OpenClaim := { program := "ytccabbnpnpfnfaa", sum := "f30079d19bc32b89e428a476e51708329eb71ae3b577111498f85c22034ff2f5", func := "notary/notarylaw14.ShiftBack", spec := "shiftBack", unfollowed := true, recurses := true, loops := true, apart := false }
def ShiftBackSaid : Prop := shiftBackRow.holds Try.pinned (OpenSpec.ofChange shiftBackSpec)

/-- ITS FALSE NEIGHBOUR: 'it returns false'. Refute it at one input. -/
def shiftBackWrong : ChangeSpec := { name := "shiftBack", fn := fun _ => fun
  | [d1, d2, d3] => { results := [.lit (.bool false)], args := [d1, d2, d3] }
  | _ => none }
def ShiftBackWrongFalsely : Prop := shiftBackRow.holds Try.pinned (OpenSpec.ofChange shiftBackWrong)

/-- 'notarylaw14.ShiftPuts': WHATEVER THE INPUT: true; the input reads as it did. -/
def shiftPutsSpec : ChangeSpec := { name := "shiftPuts", fn := fun _ => fun
  | [d1, d2, d3] => { results := [.lit (.bool true)], args := [d1, d2, d3] }
  | _ => none }
def shiftPutsRow : OpenClaim := { program := "ytccabbnpnpfnfaa", sum := "f30079d19bc32b89e428a476e51708329eb71ae3b577111498f85c22034ff2f5", func := "notary/notarylaw14.ShiftPuts", spec := "shiftPuts", unfollowed := true, recurses := true, loops := true, apart := false }
def ShiftPutsSaid : Prop := shiftPutsRow.holds Try.pinned (OpenSpec.ofChange shiftPutsSpec)

/-- ITS FALSE NEIGHBOUR: 'it returns false'. Refute it at one input. -/
def shiftPutsWrong : ChangeSpec := { name := "shiftPuts", fn := fun _ => fun
  | [d1, d2, d3] => { results := [.lit (.bool false)], args := [d1, d2, d3] }
  | _ => none }
def ShiftPutsWrongFalsely : Prop := shiftPutsRow.holds Try.pinned (OpenSpec.ofChange shiftPutsWrong)

/- THE SECOND FORM. 'bulk': how many values and letters a reading holds, each counted each time it is reached (what is shared counts as often as it is met; a slice's spare places count too). A statement '..UptoSaid' is the law's where the arguments, and the package variables that the reading takes, are together of bulk at most 1048576: NARROWER than '..Said'. Prove '..Said' where nothing that the law and all that it calls make is longer than what came in: it says more and counts as full. Else prove '..UptoSaid'. A law counts once. -/
mutual
def uptoBulk {H : Type} : DataW H → Nat
  | .lit (.string bytes) => bytes.length + 1
  | .lit _ => 1
  | .nil => 1
  | .ptr d => uptoBulk d + 1
  | .slice elems spare => uptoBulkAll elems + uptoBulkAll spare + 1
  | .agg parts => uptoBulkAll parts + 1
  | .iface _ d => uptoBulk d + 1
  | .map entries => uptoBulkEntries entries + 1
  | .held _ => 1
def uptoBulkAll {H : Type} : List (DataW H) → Nat
  | [] => 0
  | d :: r => uptoBulk d + uptoBulkAll r
def uptoBulkEntries {H : Type} : List (Lit × DataW H) → Nat
  | [] => 0
  | x :: r => uptoBulkEntry x + uptoBulkEntries r
def uptoBulkEntry {H : Type} : Lit × DataW H → Nat
  | (.string bytes, d) => bytes.length + uptoBulk d + 1
  | (_, d) => uptoBulk d + 1
 end
def uptoSmall : (H : Type) → List (DataW H) → Bool := fun _ ds => decide (uptoBulkAll ds ≤ 1048576)
def OpenSpec.upto (s : _root_.Go.ChangeSpec) : _root_.Go.OpenSpec := { _root_.Go.OpenSpec.ofChange s with cond := some uptoSmall }

/-- 'notarylaw14.ShiftMoves', WHERE WHAT IT READS IS OF BULK AT MOST 1048576: true; the input reads as it did. -/
def shiftMovesUptoRow : OpenClaim := { program := "ytccabbnpnpfnfaa", sum := "f30079d19bc32b89e428a476e51708329eb71ae3b577111498f85c22034ff2f5", func := "notary/notarylaw14.ShiftMoves", spec := "shiftMoves", unfollowed := true, recurses := true, loops := true, apart := false, narrowed := true }
def ShiftMovesUptoSaid : Prop := shiftMovesUptoRow.holds Try.pinned (OpenSpec.upto shiftMovesSpec)

/-- 'notarylaw14.ShiftBack', WHERE WHAT IT READS IS OF BULK AT MOST 1048576: true; the input reads as it did. -/
def shiftBackUptoRow : OpenClaim := { program := "ytccabbnpnpfnfaa", sum := "f30079d19bc32b89e428a476e51708329eb71ae3b577111498f85c22034ff2f5", func := "notary/notarylaw14.ShiftBack", spec := "shiftBack", unfollowed := true, recurses := true, loops := true, apart := false, narrowed := true }
def ShiftBackUptoSaid : Prop := shiftBackUptoRow.holds Try.pinned (OpenSpec.upto shiftBackSpec)

/-- 'notarylaw14.ShiftPuts', WHERE WHAT IT READS IS OF BULK AT MOST 1048576: true; the input reads as it did. -/
def shiftPutsUptoRow : OpenClaim := { program := "ytccabbnpnpfnfaa", sum := "f30079d19bc32b89e428a476e51708329eb71ae3b577111498f85c22034ff2f5", func := "notary/notarylaw14.ShiftPuts", spec := "shiftPuts", unfollowed := true, recurses := true, loops := true, apart := false, narrowed := true }
def ShiftPutsUptoSaid : Prop := shiftPutsUptoRow.holds Try.pinned (OpenSpec.upto shiftPutsSpec)

end Rows
end Go.Proofs.Ytccabbnpnpfnfaa
