import Derived.Shelf.Sort.Plain
import Derived.Shelf.Slices.CompactI
import Derived.Shelf.Slices.In.SortNone
import Derived.Test.YtcpblelppecabaaGreatFwZ9
import Derived.Test.YtcpblelppecabaaGreatProg
import Derived.KernelRfl
namespace Go.Proofs.YtcpblelppecabaaGreat.M
open Go Nt Go.Proofs Go.Shelf
set_option maxRecDepth 100000
abbrev v6L:Ren:=⟨fun n=>cond (Nat.beq n 125) 163 (cond (Nat.beq n 128) 227 (cond (Nat.beq n 129) 228 (cond (Nat.beq n 189) 101 (cond (Nat.beq n 215) 254 (cond (Nat.beq n 216) 215 (cond (Nat.beq n 257) 162 (cond (Nat.beq n 294) 219 (cond (Nat.beq n 295) 220 (cond (Nat.beq n 296) 221 (cond (Nat.beq n 297) 222 (cond (Nat.beq n 298) 223 (cond (Nat.beq n 299) 224 (cond (Nat.beq n 300) 225 (cond (Nat.beq n 301) 226 (cond (Nat.beq n 328) 255 (cond (Nat.beq n 329) 256 (cond (Nat.beq n 330) 257 (cond (Nat.beq n 331) 258 (cond (Nat.beq n 332) 259 (cond (Nat.beq n 343) 265 (n))))))))))))))))))))),fun n=>cond (Nat.beq n 0) 0 (cond (Nat.beq n 3) 3 (cond (Nat.beq n 4) 4 (cond (Nat.beq n 5) 5 (cond (Nat.beq n 9) 9 (cond (Nat.beq n 28) 49 (cond (Nat.beq n 46) 172 (cond (Nat.beq n 51) 212 (cond (Nat.beq n 53) 180 (cond (Nat.beq n 131) 162 (cond (Nat.beq n 182) 205 (cond (Nat.beq n 183) 206 (cond (Nat.beq n 218) 242 (cond (Nat.beq n 222) 246 (cond (Nat.beq n 228) 254 (cond (Nat.beq n 229) 222 (n)))))))))))))))),fun n=>n⟩
theorem v4m:Lays.n189 Tryz.prog v6L:={
 mixed:=by kernel_rfl
 f125:=by kernel_rfl
 f128:=by kernel_rfl
 f129:=by kernel_rfl
 f189:=by kernel_rfl
 f215:=by kernel_rfl
 f216:=by kernel_rfl
 f257:=by kernel_rfl
 f294:=by kernel_rfl
 f295:=by kernel_rfl
 f296:=by kernel_rfl
 f297:=by kernel_rfl
 f298:=by kernel_rfl
 f299:=by kernel_rfl
 f300:=by kernel_rfl
 f301:=by kernel_rfl
 f328:=by kernel_rfl
 f329:=by kernel_rfl
 f330:=by kernel_rfl
 f331:=by kernel_rfl
 f332:=by kernel_rfl
 f343:=by kernel_rfl
 t0:=Tryz.underlying0
 a0:=Tryz.isAgg0
 z0:=Tryz.sizeOf0
 v0:=Tryz.zeroValue0
 t3:=Tryz.underlying3
 a3:=Tryz.isAgg3
 z3:=Tryz.sizeOf3
 v3:=Tryz.zeroValue3
 t4:=Tryz.underlying4
 a4:=Tryz.isAgg4
 z4:=Tryz.sizeOf4
 v4:=Tryz.zeroValue4
 t5:=Tryz.underlying5
 a5:=Tryz.isAgg5
 z5:=Tryz.sizeOf5
 v5:=Tryz.zeroValue5
 t9:=Tryz.underlying9
 a9:=Tryz.isAgg9
 z9:=Tryz.sizeOf9
 v9:=Tryz.zeroValue9
 t28:=Tryz.underlying49
 a28:=Tryz.isAgg49
 z28:=Tryz.sizeOf49
 v28:=Tryz.zeroValue49
 t46:=Tryz.underlying172
 a46:=Tryz.isAgg172
 z46:=Tryz.sizeOf172
 v46:=Tryz.zeroValue172
 t51:=Tryz.underlying212
 a51:=Tryz.isAgg212
 z51:=Tryz.sizeOf212
 v51:=Tryz.zeroValue212
 t53:=Tryz.underlying180
 a53:=Tryz.isAgg180
 z53:=Tryz.sizeOf180
 v53:=Tryz.zeroValue180
 t131:=Tryz.underlying162
 a131:=Tryz.isAgg162
 z131:=Tryz.sizeOf162
 v131:=Tryz.zeroValue162
 t182:=Tryz.underlying205
 a182:=Tryz.isAgg205
 z182:=Tryz.sizeOf205
 v182:=Tryz.zeroValue205
 t183:=Tryz.underlying206
 a183:=Tryz.isAgg206
 z183:=Tryz.sizeOf206
 v183:=Tryz.zeroValue206
 t218:=Tryz.underlying242
 a218:=Tryz.isAgg242
 z218:=Tryz.sizeOf242
 v218:=Tryz.zeroValue242
 t222:=Tryz.underlying246
 a222:=Tryz.isAgg246
 z222:=Tryz.sizeOf246
 v222:=Tryz.zeroValue246
 t228:=Tryz.underlying254
 a228:=Tryz.isAgg254
 z228:=Tryz.sizeOf254
 v228:=Tryz.zeroValue254
 t229:=Tryz.underlying222
 a229:=Tryz.isAgg222
 z229:=Tryz.sizeOf222
 v229:=Tryz.zeroValue222}
abbrev v7x:Ren:=⟨fun n=>cond (Nat.beq n 20) 102 (n),fun n=>cond (Nat.beq n 0) 0 (cond (Nat.beq n 3) 3 (cond (Nat.beq n 4) 4 (cond (Nat.beq n 22) 49 (n)))),fun n=>n⟩
theorem jlay20:Lays2.n20 Tryz.prog v7x:={
 mixed:=by kernel_rfl
 f20:=by kernel_rfl
 t0:=Tryz.underlying0
 a0:=Tryz.isAgg0
 z0:=Tryz.sizeOf0
 v0:=Tryz.zeroValue0
 t3:=Tryz.underlying3
 a3:=Tryz.isAgg3
 z3:=Tryz.sizeOf3
 v3:=Tryz.zeroValue3
 t4:=Tryz.underlying4
 a4:=Tryz.isAgg4
 z4:=Tryz.sizeOf4
 v4:=Tryz.zeroValue4
 t22:=Tryz.underlying49
 a22:=Tryz.isAgg49
 z22:=Tryz.sizeOf49
 v22:=Tryz.zeroValue49
 i3:=by kernel_rfl}
end Go.Proofs.YtcpblelppecabaaGreat.M

