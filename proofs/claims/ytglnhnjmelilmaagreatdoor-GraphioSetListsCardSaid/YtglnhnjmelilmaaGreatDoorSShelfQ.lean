/- DERIVED: THE SHELF's CONTRACTS AT THIS DUMP, IN PLAIN WORDS (tools/lay-plain.mjs out of .. -/
import Derived.Shelf.Strings.SlTrimAscii
import Derived.Test.YtglnhnjmelilmaaGreatDoorProg
set_option linter.all false
namespace Go.Proofs
open Go.Shelf
def Tryz.laysTrimL_ren : Go.Shelf.Ren := ⟨fun | 161 => 182 | 231 => 216 | 227 => 217 | 233 => 218 | 235 => 219 | 228 => 242 | 197 => 214 | 151 => 243 | 260 => 241 | 152 => 255 | 137 => 259 | 119 => 260 | 224 => 239 | 225 => 238 | 217 => 237 | 266 => 253 | n => n, fun | 9 => 9 | 4 => 4 | 3 => 3 | 5 => 5 | 117 => 270 | 116 => 269 | 0 => 0 | 124 => 273 | 105 => 264 | 21 => 21 | 119 => 310 | 46 => 234 | 139 => 313 | 138 => 312 | n => n, fun | 3 => 6 | 4 => 7 | n => n⟩
theorem Tryz.laysTrimL : Go.Proofs.Lays.n161 Tryz.prog Tryz.laysTrimL_ren := {
 mixed := by kernel_rfl
 f119 := Tryz.func260.trans (congrArg some (by kernel_rfl))
 f137 := Tryz.func259.trans (congrArg some (by kernel_rfl))
 f151 := Tryz.func243.trans (congrArg some (by kernel_rfl))
 f152 := Tryz.func255.trans (congrArg some (by kernel_rfl))
 f161 := Tryz.func182.trans (congrArg some (by kernel_rfl))
 f197 := Tryz.func214.trans (congrArg some (by kernel_rfl))
 f217 := Tryz.func237.trans (congrArg some (by kernel_rfl))
 f224 := Tryz.func239.trans (congrArg some (by kernel_rfl))
 f225 := Tryz.func238.trans (congrArg some (by kernel_rfl))
 f227 := Tryz.func217.trans (congrArg some (by kernel_rfl))
 f228 := Tryz.func242.trans (congrArg some (by kernel_rfl))
 f231 := Tryz.func216.trans (congrArg some (by kernel_rfl))
 f233 := Tryz.func218.trans (congrArg some (by kernel_rfl))
 f235 := Tryz.func219.trans (congrArg some (by kernel_rfl))
 f260 := Tryz.func241.trans (congrArg some (by kernel_rfl))
 f266 := Tryz.func253.trans (congrArg some (by kernel_rfl))
 t0 := Tryz.underlying0
 a0 := Tryz.isAgg0
 z0 := Tryz.sizeOf0
 v0 := Tryz.zeroValue0
 t3 := Tryz.underlying3
 a3 := Tryz.isAgg3
 z3 := Tryz.sizeOf3
 v3 := Tryz.zeroValue3
 t4 := Tryz.underlying4
 a4 := Tryz.isAgg4
 z4 := Tryz.sizeOf4
 v4 := Tryz.zeroValue4
 t5 := Tryz.underlying5
 a5 := Tryz.isAgg5
 z5 := Tryz.sizeOf5
 v5 := Tryz.zeroValue5
 t9 := Tryz.underlying9
 a9 := Tryz.isAgg9
 z9 := Tryz.sizeOf9
 v9 := Tryz.zeroValue9
 t21 := Tryz.underlying21
 a21 := Tryz.isAgg21
 z21 := Tryz.sizeOf21
 v21 := Tryz.zeroValue21
 t46 := Tryz.underlying234
 a46 := Tryz.isAgg234
 z46 := Tryz.sizeOf234
 v46 := Tryz.zeroValue234
 t105 := Tryz.underlying264
 a105 := Tryz.isAgg264
 z105 := Tryz.sizeOf264
 v105 := Tryz.zeroValue264
 t116 := Tryz.underlying269
 a116 := Tryz.isAgg269
 z116 := Tryz.sizeOf269
 t117 := Tryz.underlying270
 a117 := Tryz.isAgg270
 z117 := Tryz.sizeOf270
 v117 := Tryz.zeroValue270
 t119 := Tryz.underlying310
 a119 := Tryz.isAgg310
 z119 := Tryz.sizeOf310
 t124 := Tryz.underlying273
 a124 := Tryz.isAgg273
 z124 := Tryz.sizeOf273
 v124 := Tryz.zeroValue273
 t138 := Tryz.underlying312
 a138 := Tryz.isAgg312
 z138 := Tryz.sizeOf312
 v138 := Tryz.zeroValue312
 t139 := Tryz.underlying313
 a139 := Tryz.isAgg313
 z139 := Tryz.sizeOf313
 v139 := Tryz.zeroValue313
 g3 := by kernel_rfl
 g4 := by kernel_rfl }
end Go.Proofs
