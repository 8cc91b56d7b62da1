/-
  The library's sort lies at this translation: written by the kit's program lay-plain.mjs.
-/
import Derived.Ground.SlsfProg
import Derived.Shelf.SlSortCmp.NoneTotal
import Derived.Shelf.Sort.Plain
import Derived.Ground.NamesProg
import Derived.Test.YtlifmigihfancaaProg
namespace Go.Proofs
open Go.Shelf
def Try.sortO_ren : Go.Shelf.Ren := ⟨fun | 189 => 152 | 125 => 143 | 257 => 218 | 128 => 215 | 129 => 216 | 294 => 241 | 295 => 242 | 296 => 243 | 297 => 244 | 298 => 245 | 299 => 246 | 216 => 247 | 300 => 248 | 301 => 249 | 328 => 272 | 329 => 237 | 330 => 238 | 331 => 273 | 332 => 274 | 215 => 144 | 343 => 282 | n => n, fun | 28 => 25 | 3 => 3 | 46 => 143 | 0 => 0 | 51 => 193 | 53 => 159 | 4 => 4 | 183 => 186 | 182 => 185 | 131 => 190 | 5 => 5 | 9 => 9 | 218 => 209 | 222 => 213 | 228 => 234 | 229 => 111 | n => n, fun | n => n⟩
theorem Try.sortO : Go.Proofs.Lays.n189 Try.prog Try.sortO_ren := {
  mixed := by kernel_rfl
  f125 := Try.func143.trans (congrArg some (by kernel_rfl))
  f128 := Try.func215.trans (congrArg some (by kernel_rfl))
  f129 := Try.func216.trans (congrArg some (by kernel_rfl))
  f189 := Try.func152.trans (congrArg some (by kernel_rfl))
  f215 := Try.func144.trans (congrArg some (by kernel_rfl))
  f216 := Try.func247.trans (congrArg some (by kernel_rfl))
  f257 := Try.func218.trans (congrArg some (by kernel_rfl))
  f294 := Try.func241.trans (congrArg some (by kernel_rfl))
  f295 := Try.func242.trans (congrArg some (by kernel_rfl))
  f296 := Try.func243.trans (congrArg some (by kernel_rfl))
  f297 := Try.func244.trans (congrArg some (by kernel_rfl))
  f298 := Try.func245.trans (congrArg some (by kernel_rfl))
  f299 := Try.func246.trans (congrArg some (by kernel_rfl))
  f300 := Try.func248.trans (congrArg some (by kernel_rfl))
  f301 := Try.func249.trans (congrArg some (by kernel_rfl))
  f328 := Try.func272.trans (congrArg some (by kernel_rfl))
  f329 := Try.func237.trans (congrArg some (by kernel_rfl))
  f330 := Try.func238.trans (congrArg some (by kernel_rfl))
  f331 := Try.func273.trans (congrArg some (by kernel_rfl))
  f332 := Try.func274.trans (congrArg some (by kernel_rfl))
  f343 := Try.func282.trans (congrArg some (by kernel_rfl))
  t0 := Try.underlying0
  a0 := Try.isAgg0
  z0 := Try.sizeOf0
  v0 := Try.zeroValue0
  t3 := Try.underlying3
  a3 := Try.isAgg3
  z3 := Try.sizeOf3
  v3 := Try.zeroValue3
  t4 := Try.underlying4
  a4 := Try.isAgg4
  z4 := Try.sizeOf4
  v4 := Try.zeroValue4
  t5 := Try.underlying5
  a5 := Try.isAgg5
  z5 := Try.sizeOf5
  v5 := Try.zeroValue5
  t9 := Try.underlying9
  a9 := Try.isAgg9
  z9 := Try.sizeOf9
  v9 := Try.zeroValue9
  t28 := Try.underlying25
  a28 := Try.isAgg25
  z28 := Try.sizeOf25
  v28 := Try.zeroValue25
  t46 := Try.underlying143
  a46 := Try.isAgg143
  z46 := Try.sizeOf143
  v46 := Try.zeroValue143
  t51 := Try.underlying193
  a51 := Try.isAgg193
  z51 := Try.sizeOf193
  v51 := Try.zeroValue193
  t53 := Try.underlying159
  a53 := Try.isAgg159
  z53 := Try.sizeOf159
  v53 := Try.zeroValue159
  t131 := Try.underlying190
  a131 := Try.isAgg190
  z131 := Try.sizeOf190
  v131 := Try.zeroValue190
  t182 := Try.underlying185
  a182 := Try.isAgg185
  z182 := Try.sizeOf185
  v182 := Try.zeroValue185
  t183 := Try.underlying186
  a183 := Try.isAgg186
  z183 := Try.sizeOf186
  v183 := Try.zeroValue186
  t218 := Try.underlying209
  a218 := Try.isAgg209
  z218 := Try.sizeOf209
  v218 := Try.zeroValue209
  t222 := Try.underlying213
  a222 := Try.isAgg213
  z222 := Try.sizeOf213
  v222 := Try.zeroValue213
  t228 := Try.underlying234
  a228 := Try.isAgg234
  z228 := Try.sizeOf234
  v228 := Try.zeroValue234
  t229 := Try.underlying111
  a229 := Try.isAgg111
  z229 := Try.sizeOf111
  v229 := Try.zeroValue111 }
end Go.Proofs
