/- DERIVED: THE SHELF's CONTRACTS AT THIS DUMP, IN PLAIN WORDS (tools/lay-plain.mjs out of .. -/
import Derived.Shelf.LaysM
import Derived.Test.YtglnhnjmelilmaaGreatDoorProg
import Derived.Test.YtglnhnjmelilmaaGreatDoorSIa
import Derived.Test.YtglnhnjmelilmaaGreatDoorSWw
import Derived.Shelf.Strings.Split
import Derived.Shelf.Strings.Cut
set_option linter.all false
namespace Go.Proofs
open Go.Shelf
def Tryz.laysSplitM_ren : Go.Shelf.Ren := ⟨fun | 146 => 74 | 221 => 127 | 268 => 179 | 138 => 180 | 143 => 181 | 195 => 213 | 197 => 214 | 218 => 215 | 219 => 211 | 260 => 241 | 217 => 237 | 225 => 238 | 224 => 239 | 267 => 240 | 266 => 253 | 314 => 254 | n => n, fun | 9 => 9 | 31 => 146 | 3 => 3 | 4 => 4 | 0 => 0 | 105 => 264 | 21 => 21 | 5 => 5 | 46 => 234 | 119 => 310 | 139 => 313 | 138 => 312 | 146 => 308 | 51 => 256 | n => n, fun | 1 => 2 | 3 => 6 | 4 => 7 | n => n⟩
theorem Tryz.laysSplitM : Go.Proofs.LaysM.n146 Tryz.prog Tryz.laysSplitM_ren := {
 mixed := by kernel_rfl
 f138 := Tryz.func180.trans (congrArg some (by kernel_rfl))
 f143 := Tryz.func181.trans (congrArg some (by kernel_rfl))
 f146 := Tryz.func74.trans (congrArg some (by kernel_rfl))
 f195 := Tryz.func213.trans (congrArg some (by kernel_rfl))
 f197 := Tryz.func214.trans (congrArg some (by kernel_rfl))
 f217 := Tryz.func237.trans (congrArg some (by kernel_rfl))
 f218 := Tryz.func215.trans (congrArg some (by kernel_rfl))
 f219 := Tryz.func211.trans (congrArg some (by kernel_rfl))
 f221 := Tryz.func127.trans (congrArg some (by kernel_rfl))
 f224 := Tryz.func239.trans (congrArg some (by kernel_rfl))
 f225 := Tryz.func238.trans (congrArg some (by kernel_rfl))
 f260 := Tryz.func241.trans (congrArg some (by kernel_rfl))
 f266 := Tryz.func253.trans (congrArg some (by kernel_rfl))
 f267 := Tryz.func240.trans (congrArg some (by kernel_rfl))
 f268 := Tryz.func179.trans (congrArg some (by kernel_rfl))
 f314 := Tryz.func254.trans (congrArg some (by kernel_rfl))
 t0 := Tryz.underlying0
 a0 := Tryz.isAgg0
 z0 := Tryz.sizeOf0
 v0 := Tryz.zeroValue0
 t3 := Tryz.underlying3
 a3 := Tryz.isAgg3
 z3 := Tryz.sizeOf3
 v3 := Tryz.zeroValue3
 t4 := Tryz.underlying4
 a4 := Tryz.isAgg4
 z4 := Tryz.sizeOf4
 v4 := Tryz.zeroValue4
 t5 := Tryz.underlying5
 a5 := Tryz.isAgg5
 z5 := Tryz.sizeOf5
 v5 := Tryz.zeroValue5
 t9 := Tryz.underlying9
 a9 := Tryz.isAgg9
 z9 := Tryz.sizeOf9
 v9 := Tryz.zeroValue9
 t21 := Tryz.underlying21
 a21 := Tryz.isAgg21
 z21 := Tryz.sizeOf21
 v21 := Tryz.zeroValue21
 t31 := Tryz.underlying146
 a31 := Tryz.isAgg146
 z31 := Tryz.sizeOf146
 v31 := Tryz.zeroValue146
 t46 := Tryz.underlying234
 a46 := Tryz.isAgg234
 z46 := Tryz.sizeOf234
 v46 := Tryz.zeroValue234
 t51 := Tryz.underlying256
 a51 := Tryz.isAgg256
 z51 := Tryz.sizeOf256
 v51 := Tryz.zeroValue256
 t105 := Tryz.underlying264
 a105 := Tryz.isAgg264
 z105 := Tryz.sizeOf264
 v105 := Tryz.zeroValue264
 t119 := Tryz.underlying310
 a119 := Tryz.isAgg310
 z119 := Tryz.sizeOf310
 t138 := Tryz.underlying312
 a138 := Tryz.isAgg312
 z138 := Tryz.sizeOf312
 v138 := Tryz.zeroValue312
 t139 := Tryz.underlying313
 a139 := Tryz.isAgg313
 z139 := Tryz.sizeOf313
 v139 := Tryz.zeroValue313
 t146 := Tryz.underlying308
 a146 := Tryz.isAgg308
 z146 := Tryz.sizeOf308
 v146 := Tryz.zeroValue308
 g1 := by kernel_rfl
 g3 := by kernel_rfl
 g4 := by kernel_rfl
 i0 := by kernel_rfl
 i3 := by kernel_rfl
 i4 := by kernel_rfl
 i5 := by kernel_rfl
 i9 := by kernel_rfl
 i21 := by kernel_rfl
 i31 := by kernel_rfl
 i46 := by kernel_rfl
 i51 := by kernel_rfl
 i105 := by kernel_rfl
 i138 := by kernel_rfl
 i139 := by kernel_rfl
 i146 := by kernel_rfl
 m1 := by kernel_rfl
 s1_3 := fun w h => Go.Proofs.cell_of_shapedOpen_int (zero := #[.int .i64 0]) (t := 3) h (of_decide_eq_true (by kernel_rfl)) (by kernel_rfl) rfl (by kernel_rfl) (by kernel_rfl) Tryz.underlying3
 m3 := by kernel_rfl
 m4 := by kernel_rfl }
def Tryz.laysCutM_ren : Go.Shelf.Ren := ⟨fun | 145 => 122 | 220 => 177 | 219 => 211 | 217 => 237 | 225 => 238 | 224 => 239 | 267 => 240 | 266 => 253 | 314 => 254 | n => n, fun | 9 => 9 | 4 => 4 | 59 => 205 | 3 => 3 | 5 => 5 | 46 => 234 | 146 => 308 | 51 => 256 | n => n, fun | 1 => 2 | n => n⟩
theorem Tryz.laysCutM : Go.Proofs.LaysM.n145 Tryz.prog Tryz.laysCutM_ren := {
 mixed := by kernel_rfl
 f145 := Tryz.func122.trans (congrArg some (by kernel_rfl))
 f217 := Tryz.func237.trans (congrArg some (by kernel_rfl))
 f219 := Tryz.func211.trans (congrArg some (by kernel_rfl))
 f220 := Tryz.func177.trans (congrArg some (by kernel_rfl))
 f224 := Tryz.func239.trans (congrArg some (by kernel_rfl))
 f225 := Tryz.func238.trans (congrArg some (by kernel_rfl))
 f266 := Tryz.func253.trans (congrArg some (by kernel_rfl))
 f267 := Tryz.func240.trans (congrArg some (by kernel_rfl))
 f314 := Tryz.func254.trans (congrArg some (by kernel_rfl))
 t3 := Tryz.underlying3
 a3 := Tryz.isAgg3
 z3 := Tryz.sizeOf3
 v3 := Tryz.zeroValue3
 t4 := Tryz.underlying4
 a4 := Tryz.isAgg4
 z4 := Tryz.sizeOf4
 v4 := Tryz.zeroValue4
 t5 := Tryz.underlying5
 a5 := Tryz.isAgg5
 z5 := Tryz.sizeOf5
 v5 := Tryz.zeroValue5
 t9 := Tryz.underlying9
 a9 := Tryz.isAgg9
 z9 := Tryz.sizeOf9
 v9 := Tryz.zeroValue9
 t46 := Tryz.underlying234
 a46 := Tryz.isAgg234
 z46 := Tryz.sizeOf234
 v46 := Tryz.zeroValue234
 t51 := Tryz.underlying256
 a51 := Tryz.isAgg256
 z51 := Tryz.sizeOf256
 v51 := Tryz.zeroValue256
 t59 := Tryz.underlying205
 a59 := Tryz.isAgg205
 z59 := Tryz.sizeOf205
 v59 := Tryz.zeroValue205
 t146 := Tryz.underlying308
 a146 := Tryz.isAgg308
 z146 := Tryz.sizeOf308
 v146 := Tryz.zeroValue308
 g1 := by kernel_rfl
 i3 := by kernel_rfl
 i4 := by kernel_rfl
 i5 := by kernel_rfl
 i9 := by kernel_rfl
 i46 := by kernel_rfl
 i51 := by kernel_rfl
 i59 := by kernel_rfl
 i146 := by kernel_rfl
 m1 := by kernel_rfl
 s1_3 := fun w h => Go.Proofs.cell_of_shapedOpen_int (zero := #[.int .i64 0]) (t := 3) h (of_decide_eq_true (by kernel_rfl)) (by kernel_rfl) rfl (by kernel_rfl) (by kernel_rfl) Tryz.underlying3 }
end Go.Proofs
namespace Go.Proofs.YtglnhnjmelilmaaGreatDoor
open Go Go.RowKit Go.Pal Go.Shelf
attribute [local go_sem] Oper.semAt_some
def Mxl (w : World) : Prop := ∀ W, Below w.heap.size w W → ∃ m, W.cell? ⟨2, 0, none⟩ = some (.int .i64 m)
theorem Mxl.on {w w' : World} (h : Mxl w) (hb : Below w.heap.size w w') : Mxl w' := fun W hW => h W (hb.trans (hW.mono hb.size))
def strLen : Value → Nat | .string b => b.size | _ => 0
theorem strLen_str (s : List UInt8) : strLen (.string ⟨s.toArray⟩) = s.length := by simp [strLen, ByteArray.size]
end Go.Proofs.YtglnhnjmelilmaaGreatDoor
