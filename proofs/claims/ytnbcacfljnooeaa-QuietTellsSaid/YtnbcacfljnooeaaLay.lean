import Derived.Shelf.Sort.Plain
import Derived.Shelf.Slices.CompactI
import Derived.Shelf.Slices.In.SortNone
import Derived.Test.YtnbcacfljnooeaaFwZ9
import Derived.Test.YtnbcacfljnooeaaProg
import Derived.KernelRfl
namespace Go.Proofs.Ytnbcacfljnooeaa.M
open Go Nt Go.Proofs Go.Shelf
set_option maxRecDepth 100000
abbrev z8O : Ren := ⟨fun n => cond (Nat.beq n 125) 44 (cond (Nat.beq n 128) 59 (cond (Nat.beq n 129) 60 (cond (Nat.beq n 189) 30 (cond (Nat.beq n 215) 67 (cond (Nat.beq n 216) 56 (cond (Nat.beq n 257) 43 (cond (Nat.beq n 294) 50 (cond (Nat.beq n 295) 51 (cond (Nat.beq n 296) 52 (cond (Nat.beq n 297) 53 (cond (Nat.beq n 298) 54 (cond (Nat.beq n 299) 55 (cond (Nat.beq n 300) 57 (cond (Nat.beq n 301) 58 (cond (Nat.beq n 328) 62 (cond (Nat.beq n 329) 63 (cond (Nat.beq n 330) 64 (cond (Nat.beq n 331) 65 (cond (Nat.beq n 332) 66 (cond (Nat.beq n 343) 69 (n))))))))))))))))))))), fun n => cond (Nat.beq n 0) 0 (cond (Nat.beq n 3) 3 (cond (Nat.beq n 4) 4 (cond (Nat.beq n 5) 5 (cond (Nat.beq n 9) 9 (cond (Nat.beq n 28) 32 (cond (Nat.beq n 46) 54 (cond (Nat.beq n 51) 71 (cond (Nat.beq n 53) 73 (cond (Nat.beq n 131) 68 (cond (Nat.beq n 182) 62 (cond (Nat.beq n 183) 63 (cond (Nat.beq n 218) 75 (cond (Nat.beq n 222) 79 (cond (Nat.beq n 228) 84 (cond (Nat.beq n 229) 85 (n)))))))))))))))), fun n => n⟩
theorem z7p : Lays.n189 Try.prog z8O := {
  mixed := by kernel_rfl
  f125 := by kernel_rfl
  f128 := by kernel_rfl
  f129 := by kernel_rfl
  f189 := by kernel_rfl
  f215 := by kernel_rfl
  f216 := by kernel_rfl
  f257 := by kernel_rfl
  f294 := by kernel_rfl
  f295 := by kernel_rfl
  f296 := by kernel_rfl
  f297 := by kernel_rfl
  f298 := by kernel_rfl
  f299 := by kernel_rfl
  f300 := by kernel_rfl
  f301 := by kernel_rfl
  f328 := by kernel_rfl
  f329 := by kernel_rfl
  f330 := by kernel_rfl
  f331 := by kernel_rfl
  f332 := by kernel_rfl
  f343 := by kernel_rfl
  t0 := Try.underlying0
  a0 := Try.isAgg0
  z0 := Try.sizeOf0
  v0 := Try.zeroValue0
  t3 := Try.underlying3
  a3 := Try.isAgg3
  z3 := Try.sizeOf3
  v3 := Try.zeroValue3
  t4 := Try.underlying4
  a4 := Try.isAgg4
  z4 := Try.sizeOf4
  v4 := Try.zeroValue4
  t5 := Try.underlying5
  a5 := Try.isAgg5
  z5 := Try.sizeOf5
  v5 := Try.zeroValue5
  t9 := Try.underlying9
  a9 := Try.isAgg9
  z9 := Try.sizeOf9
  v9 := Try.zeroValue9
  t28 := Try.underlying32
  a28 := Try.isAgg32
  z28 := Try.sizeOf32
  v28 := Try.zeroValue32
  t46 := Try.underlying54
  a46 := Try.isAgg54
  z46 := Try.sizeOf54
  v46 := Try.zeroValue54
  t51 := Try.underlying71
  a51 := Try.isAgg71
  z51 := Try.sizeOf71
  v51 := Try.zeroValue71
  t53 := Try.underlying73
  a53 := Try.isAgg73
  z53 := Try.sizeOf73
  v53 := Try.zeroValue73
  t131 := Try.underlying68
  a131 := Try.isAgg68
  z131 := Try.sizeOf68
  v131 := Try.zeroValue68
  t182 := Try.underlying62
  a182 := Try.isAgg62
  z182 := Try.sizeOf62
  v182 := Try.zeroValue62
  t183 := Try.underlying63
  a183 := Try.isAgg63
  z183 := Try.sizeOf63
  v183 := Try.zeroValue63
  t218 := Try.underlying75
  a218 := Try.isAgg75
  z218 := Try.sizeOf75
  v218 := Try.zeroValue75
  t222 := Try.underlying79
  a222 := Try.isAgg79
  z222 := Try.sizeOf79
  v222 := Try.zeroValue79
  t228 := Try.underlying84
  a228 := Try.isAgg84
  z228 := Try.sizeOf84
  v228 := Try.zeroValue84
  t229 := Try.underlying85
  a229 := Try.isAgg85
  z229 := Try.sizeOf85
  v229 := Try.zeroValue85 }
abbrev z9j : Ren := ⟨fun n => cond (Nat.beq n 20) 31 (n), fun n => cond (Nat.beq n 0) 0 (cond (Nat.beq n 3) 3 (cond (Nat.beq n 4) 4 (cond (Nat.beq n 22) 32 (n)))), fun n => n⟩
theorem jlay20 : Lays2.n20 Try.prog z9j := {
  mixed := by kernel_rfl
  f20 := by kernel_rfl
  t0 := Try.underlying0
  a0 := Try.isAgg0
  z0 := Try.sizeOf0
  v0 := Try.zeroValue0
  t3 := Try.underlying3
  a3 := Try.isAgg3
  z3 := Try.sizeOf3
  v3 := Try.zeroValue3
  t4 := Try.underlying4
  a4 := Try.isAgg4
  z4 := Try.sizeOf4
  v4 := Try.zeroValue4
  t22 := Try.underlying32
  a22 := Try.isAgg32
  z22 := Try.sizeOf32
  v22 := Try.zeroValue32
  i3 := by kernel_rfl }
end Go.Proofs.Ytnbcacfljnooeaa.M

