import Derived.Test.YthbhgdooeeapjaaFwZ7
import Derived.Test.YthbhgdooeeapjaaProg
import Derived.KernelRfl
namespace Go.Proofs.Ythbhgdooeeapjaa.M
open Go Nt Go.Proofs Go.Shelf
set_option maxRecDepth 100000
abbrev y7W : Ren := ⟨fun n => cond (Nat.beq n 156) 50 (cond (Nat.beq n 165) 68 (cond (Nat.beq n 166) 28 (cond (Nat.beq n 169) 30 (cond (Nat.beq n 240) 63 (cond (Nat.beq n 241) 77 (cond (Nat.beq n 276) 75 (cond (Nat.beq n 277) 81 (n)))))))), fun n => cond (Nat.beq n 0) 0 (cond (Nat.beq n 3) 3 (cond (Nat.beq n 4) 4 (cond (Nat.beq n 5) 5 (cond (Nat.beq n 9) 9 (cond (Nat.beq n 20) 20 (cond (Nat.beq n 31) 44 (cond (Nat.beq n 37) 54 (cond (Nat.beq n 70) 53 (cond (Nat.beq n 72) 56 (cond (Nat.beq n 75) 58 (cond (Nat.beq n 76) 59 (cond (Nat.beq n 80) 48 (cond (Nat.beq n 127) 88 (cond (Nat.beq n 164) 92 (n))))))))))))))), fun n => n⟩
theorem y8b : Lays.n156 Try.prog y7W := {
  mixed := by kernel_rfl
  f156 := by kernel_rfl
  f165 := by kernel_rfl
  f166 := by kernel_rfl
  f169 := by kernel_rfl
  f240 := by kernel_rfl
  f241 := by kernel_rfl
  f276 := by kernel_rfl
  f277 := by kernel_rfl
  t0 := Try.underlying0
  a0 := Try.isAgg0
  z0 := Try.sizeOf0
  v0 := Try.zeroValue0
  t3 := Try.underlying3
  a3 := Try.isAgg3
  z3 := Try.sizeOf3
  v3 := Try.zeroValue3
  t4 := Try.underlying4
  a4 := Try.isAgg4
  z4 := Try.sizeOf4
  v4 := Try.zeroValue4
  t9 := Try.underlying9
  a9 := Try.isAgg9
  z9 := Try.sizeOf9
  v9 := Try.zeroValue9
  t20 := Try.underlying20
  a20 := Try.isAgg20
  z20 := Try.sizeOf20
  v20 := Try.zeroValue20
  t31 := Try.underlying44
  a31 := Try.isAgg44
  z31 := Try.sizeOf44
  v31 := Try.zeroValue44
  t37 := Try.underlying54
  a37 := Try.isAgg54
  z37 := Try.sizeOf54
  v37 := Try.zeroValue54
  t70 := Try.underlying53
  a70 := Try.isAgg53
  z70 := Try.sizeOf53
  v70 := Try.zeroValue53
  t72 := Try.underlying56
  a72 := Try.isAgg56
  z72 := Try.sizeOf56
  v72 := Try.zeroValue56
  t75 := Try.underlying58
  a75 := Try.isAgg58
  z75 := Try.sizeOf58
  v75 := Try.zeroValue58
  t76 := Try.underlying59
  a76 := Try.isAgg59
  z76 := Try.sizeOf59
  v76 := Try.zeroValue59
  t127 := Try.underlying88
  a127 := Try.isAgg88
  z127 := Try.sizeOf88
  v127 := Try.zeroValue88
  t164 := Try.underlying92
  a164 := Try.isAgg92
  z164 := Try.sizeOf92
  v164 := Try.zeroValue92 }
theorem y8a : Builder.Extra Try.prog y7W := {
  sizeBuilder := by kernel_rfl
  liesBuilder := by kernel_rfl
  t5 := Try.underlying5
  a5 := Try.isAgg5
  z5 := Try.sizeOf5
  v5 := Try.zeroValue5
  infoByte := by kernel_rfl
  cellsByte := by kernel_rfl
  sizeByte := by kernel_rfl
  neB5 := by decide }
end Go.Proofs.Ythbhgdooeeapjaa.M

