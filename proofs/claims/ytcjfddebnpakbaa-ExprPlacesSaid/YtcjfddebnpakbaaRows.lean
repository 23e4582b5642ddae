/-
  No cell of these rows narrows 'for every input' (looked for: loops, veiled, ifaces, maps, wideKeys, modest, calm, conditions, laid).
  DERIVED. THE GIVEN ROWS OF THIS SEAT. 4 by the template 'for every input the law returns true; each argument reads behind the call as it read before'; 0 by the template 'total and deterministic' (their statements: YtcjfddebnpakbaaTotals.lean).
  GIVEN WITH THE SEED: the statements are not yours to turn. If you find one false, say at which input.
  Laid BY PROGRAM, IN A SANDBOX (cutbox-rows.mjs): the forced cells as the released guide's own fill.sh prints them over the translation d9cc3d912b5663f7… (all of the seat's roots in one cut). By AI agents, Wed Nov 11 2026. No macro, syntax, notation, axiom, sorry.
-/
import Derived.Test.YtcjfddebnpakbaaChecked
import GoSem.Claim
import GoSem.ClaimJoined
import GoSem.ClaimMapViews
import Derived.JoinedTies
import Derived.KernelRfl
namespace Go.Proofs.Ytcjfddebnpakbaa
/- THE CELL 'sum', in the pinned program and in every row, IS THE sha256 OF THE DUMP (.gsa) THAT YtcjfddebnpakbaaProg.lean LOADS. Nothing in Lean hashes anything: it is a label: what it is worth is what the hold of that sum in a sandbox is worth. -/
noncomputable def Try.pinned : Pinned := { name := "ytcjfddebnpakbaa", sum := "d9cc3d912b5663f73cdabe9fe78080b8ca96a5443e6af8dbdda650a9a9c616c3", checked := Try.checked }
namespace Rows
def none {H : Type} : Left H := { results := [], args := [] }

/-- 'notarylaw07.ExprReads': WHATEVER THE INPUT: true; the input reads as it did. -/
def exprReadsSpec : ChangeSpec := { name := "exprReads", fn := fun _ => fun
  | [d1, d2] => { results := [.lit (.bool true)], args := [d1, d2] }
  | _ => none }
def exprReadsRow : OpenClaim := { program := "ytcjfddebnpakbaa", sum := "d9cc3d912b5663f73cdabe9fe78080b8ca96a5443e6af8dbdda650a9a9c616c3", func := "notary/notarylaw07.ExprReads", spec := "exprReads", unfollowed := true, recurses := true, apart := false }
def ExprReadsSaid : Prop := exprReadsRow.holds Try.pinned (OpenSpec.ofChange exprReadsSpec)

/-- ITS FALSE NEIGHBOUR: 'it returns false'. Refute it at one input. -/
def exprReadsWrong : ChangeSpec := { name := "exprReads", fn := fun _ => fun
  | [d1, d2] => { results := [.lit (.bool false)], args := [d1, d2] }
  | _ => none }
def ExprReadsWrongFalsely : Prop := exprReadsRow.holds Try.pinned (OpenSpec.ofChange exprReadsWrong)

/-- 'notarylaw07.ExprPlaces': WHATEVER THE INPUT: true; the input reads as it did. -/
def exprPlacesSpec : ChangeSpec := { name := "exprPlaces", fn := fun _ => fun
  | [d] => { results := [.lit (.bool true)], args := [d] }
  | _ => none }
def exprPlacesRow : OpenClaim := { program := "ytcjfddebnpakbaa", sum := "d9cc3d912b5663f73cdabe9fe78080b8ca96a5443e6af8dbdda650a9a9c616c3", func := "notary/notarylaw07.ExprPlaces", spec := "exprPlaces", unfollowed := true, recurses := true, apart := false }
def ExprPlacesSaid : Prop := exprPlacesRow.holds Try.pinned (OpenSpec.ofChange exprPlacesSpec)

/-- ITS FALSE NEIGHBOUR: 'it returns false'. Refute it at one input. -/
def exprPlacesWrong : ChangeSpec := { name := "exprPlaces", fn := fun _ => fun
  | [d] => { results := [.lit (.bool false)], args := [d] }
  | _ => none }
def ExprPlacesWrongFalsely : Prop := exprPlacesRow.holds Try.pinned (OpenSpec.ofChange exprPlacesWrong)

/-- 'notarylaw07.ExprApart': WHATEVER THE INPUT: true; the input reads as it did. -/
def exprApartSpec : ChangeSpec := { name := "exprApart", fn := fun _ => fun
  | [d1, d2, d3] => { results := [.lit (.bool true)], args := [d1, d2, d3] }
  | _ => none }
def exprApartRow : OpenClaim := { program := "ytcjfddebnpakbaa", sum := "d9cc3d912b5663f73cdabe9fe78080b8ca96a5443e6af8dbdda650a9a9c616c3", func := "notary/notarylaw07.ExprApart", spec := "exprApart", unfollowed := true, recurses := true, apart := false }
def ExprApartSaid : Prop := exprApartRow.holds Try.pinned (OpenSpec.ofChange exprApartSpec)

/-- ITS FALSE NEIGHBOUR: 'it returns false'. Refute it at one input. -/
def exprApartWrong : ChangeSpec := { name := "exprApart", fn := fun _ => fun
  | [d1, d2, d3] => { results := [.lit (.bool false)], args := [d1, d2, d3] }
  | _ => none }
def ExprApartWrongFalsely : Prop := exprApartRow.holds Try.pinned (OpenSpec.ofChange exprApartWrong)

/-- 'notarylaw07.ExprTypes': WHATEVER THE INPUT: true; the input reads as it did. -/
def exprTypesSpec : ChangeSpec := { name := "exprTypes", fn := fun _ => fun
  | [d1, d2] => { results := [.lit (.bool true)], args := [d1, d2] }
  | _ => none }
def exprTypesRow : OpenClaim := { program := "ytcjfddebnpakbaa", sum := "d9cc3d912b5663f73cdabe9fe78080b8ca96a5443e6af8dbdda650a9a9c616c3", func := "notary/notarylaw07.ExprTypes", spec := "exprTypes", unfollowed := true, recurses := true, apart := false }
def ExprTypesSaid : Prop := exprTypesRow.holds Try.pinned (OpenSpec.ofChange exprTypesSpec)

/-- ITS FALSE NEIGHBOUR: 'it returns false'. Refute it at one input. -/
def exprTypesWrong : ChangeSpec := { name := "exprTypes", fn := fun _ => fun
  | [d1, d2] => { results := [.lit (.bool false)], args := [d1, d2] }
  | _ => none }
def ExprTypesWrongFalsely : Prop := exprTypesRow.holds Try.pinned (OpenSpec.ofChange exprTypesWrong)

/- THE SECOND FORM. 'bulk': how many values and letters a reading holds, each counted each time it is reached (what is shared counts as often as it is met; a slice's spare places count too). A statement '..UptoSaid' is the law's where the arguments, and the package variables that the reading takes, are together of bulk at most 1048576: NARROWER than '..Said'. Prove '..Said' where nothing that the law and all that it calls make is longer than what came in: it says more and counts as full. Else prove '..UptoSaid'. A law counts once. -/
mutual
def uptoBulk {H : Type} : DataW H → Nat
  | .lit (.string bytes) => bytes.length + 1
  | .lit _ => 1
  | .nil => 1
  | .ptr d => uptoBulk d + 1
  | .slice elems spare => uptoBulkAll elems + uptoBulkAll spare + 1
  | .agg parts => uptoBulkAll parts + 1
  | .iface _ d => uptoBulk d + 1
  | .map entries => uptoBulkEntries entries + 1
  | .held _ => 1
def uptoBulkAll {H : Type} : List (DataW H) → Nat
  | [] => 0
  | d :: r => uptoBulk d + uptoBulkAll r
def uptoBulkEntries {H : Type} : List (Lit × DataW H) → Nat
  | [] => 0
  | x :: r => uptoBulkEntry x + uptoBulkEntries r
def uptoBulkEntry {H : Type} : Lit × DataW H → Nat
  | (.string bytes, d) => bytes.length + uptoBulk d + 1
  | (_, d) => uptoBulk d + 1
 end
def uptoSmall : (H : Type) → List (DataW H) → Bool := fun _ ds => decide (uptoBulkAll ds ≤ 1048576)
def OpenSpec.upto (s : _root_.Go.ChangeSpec) : _root_.Go.OpenSpec := { _root_.Go.OpenSpec.ofChange s with cond := some uptoSmall }

/-- 'notarylaw07.ExprReads', WHERE WHAT IT READS IS OF BULK AT MOST 1048576: true; the input reads as it did. -/
def exprReadsUptoRow : OpenClaim := { program := "ytcjfddebnpakbaa", sum := "d9cc3d912b5663f73cdabe9fe78080b8ca96a5443e6af8dbdda650a9a9c616c3", func := "notary/notarylaw07.ExprReads", spec := "exprReads", unfollowed := true, recurses := true, apart := false, narrowed := true }
def ExprReadsUptoSaid : Prop := exprReadsUptoRow.holds Try.pinned (OpenSpec.upto exprReadsSpec)

/-- 'notarylaw07.ExprPlaces', WHERE WHAT IT READS IS OF BULK AT MOST 1048576: true; the input reads as it did. -/
def exprPlacesUptoRow : OpenClaim := { program := "ytcjfddebnpakbaa", sum := "d9cc3d912b5663f73cdabe9fe78080b8ca96a5443e6af8dbdda650a9a9c616c3", func := "notary/notarylaw07.ExprPlaces", spec := "exprPlaces", unfollowed := true, recurses := true, apart := false, narrowed := true }
def ExprPlacesUptoSaid : Prop := exprPlacesUptoRow.holds Try.pinned (OpenSpec.upto exprPlacesSpec)

/-- 'notarylaw07.ExprApart', WHERE WHAT IT READS IS OF BULK AT MOST 1048576: true; the input reads as it did. -/
def exprApartUptoRow : OpenClaim := { program := "ytcjfddebnpakbaa", sum := "d9cc3d912b5663f73cdabe9fe78080b8ca96a5443e6af8dbdda650a9a9c616c3", func := "notary/notarylaw07.ExprApart", spec := "exprApart", unfollowed := true, recurses := true, apart := false, narrowed := true }
def ExprApartUptoSaid : Prop := exprApartUptoRow.holds Try.pinned (OpenSpec.upto exprApartSpec)

/-- 'notarylaw07.ExprTypes', WHERE WHAT IT READS IS OF BULK AT MOST 1048576: true; the input reads as it did. -/
def exprTypesUptoRow : OpenClaim := { program := "ytcjfddebnpakbaa", sum := "d9cc3d912b5663f73cdabe9fe78080b8ca96a5443e6af8dbdda650a9a9c616c3", func := "notary/notarylaw07.ExprTypes", spec := "exprTypes", unfollowed := true, recurses := true, apart := false, narrowed := true }
def ExprTypesUptoSaid : Prop := exprTypesUptoRow.holds Try.pinned (OpenSpec.upto exprTypesSpec)

end Rows
end Go.Proofs.Ytcjfddebnpakbaa
