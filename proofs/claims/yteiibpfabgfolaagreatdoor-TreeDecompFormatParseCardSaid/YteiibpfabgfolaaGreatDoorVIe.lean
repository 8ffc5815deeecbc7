/- DERIVED: THE SHELF's CONTRACTS AT THIS DUMP, IN PLAIN WORDS (tools/lay-plain.mjs out of .. -/
import Derived.Shelf.LaysM
import Derived.Test.YteiibpfabgfolaaGreatDoorProg
import Derived.Test.YteiibpfabgfolaaGreatDoorVIa
import Derived.Test.YteiibpfabgfolaaGreatDoorVWw
import Derived.Shelf.Strings.Split
import Derived.Shelf.Strings.Cut
set_option linter.all false
namespace Go.Proofs
open Go.Shelf
def Tryz.laysCutM_ren : Go.Shelf.Ren := ⟨fun | 145 => 28 | 220 => 62 | 219 => 111 | 217 => 132 | 225 => 133 | 224 => 134 | 267 => 135 | 266 => 163 | 314 => 164 | n => n, fun | 9 => 9 | 4 => 4 | 59 => 75 | 3 => 3 | 5 => 5 | 46 => 167 | 146 => 209 | 51 => 204 | n => n, fun | 1 => 0 | n => n⟩
theorem Tryz.laysCutM : Go.Proofs.LaysM.n145 Tryz.prog Tryz.laysCutM_ren := {
 mixed := by kernel_rfl
 f145 := Tryz.func28.trans (congrArg some (by kernel_rfl))
 f217 := Tryz.func132.trans (congrArg some (by kernel_rfl))
 f219 := Tryz.func111.trans (congrArg some (by kernel_rfl))
 f220 := Tryz.func62.trans (congrArg some (by kernel_rfl))
 f224 := Tryz.func134.trans (congrArg some (by kernel_rfl))
 f225 := Tryz.func133.trans (congrArg some (by kernel_rfl))
 f266 := Tryz.func163.trans (congrArg some (by kernel_rfl))
 f267 := Tryz.func135.trans (congrArg some (by kernel_rfl))
 f314 := Tryz.func164.trans (congrArg some (by kernel_rfl))
 t3 := Tryz.underlying3
 a3 := Tryz.isAgg3
 z3 := Tryz.sizeOf3
 v3 := Tryz.zeroValue3
 t4 := Tryz.underlying4
 a4 := Tryz.isAgg4
 z4 := Tryz.sizeOf4
 v4 := Tryz.zeroValue4
 t5 := Tryz.underlying5
 a5 := Tryz.isAgg5
 z5 := Tryz.sizeOf5
 v5 := Tryz.zeroValue5
 t9 := Tryz.underlying9
 a9 := Tryz.isAgg9
 z9 := Tryz.sizeOf9
 v9 := Tryz.zeroValue9
 t46 := Tryz.underlying167
 a46 := Tryz.isAgg167
 z46 := Tryz.sizeOf167
 v46 := Tryz.zeroValue167
 t51 := Tryz.underlying204
 a51 := Tryz.isAgg204
 z51 := Tryz.sizeOf204
 v51 := Tryz.zeroValue204
 t59 := Tryz.underlying75
 a59 := Tryz.isAgg75
 z59 := Tryz.sizeOf75
 v59 := Tryz.zeroValue75
 t146 := Tryz.underlying209
 a146 := Tryz.isAgg209
 z146 := Tryz.sizeOf209
 v146 := Tryz.zeroValue209
 g1 := by kernel_rfl
 i3 := by kernel_rfl
 i4 := by kernel_rfl
 i5 := by kernel_rfl
 i9 := by kernel_rfl
 i46 := by kernel_rfl
 i51 := by kernel_rfl
 i59 := by kernel_rfl
 i146 := by kernel_rfl
 m1 := by kernel_rfl
 s1_3 := fun w h => Go.Proofs.cell_of_shapedOpen_int (zero := #[.int .i64 0]) (t := 3) h (of_decide_eq_true (by kernel_rfl)) (by kernel_rfl) rfl (by kernel_rfl) (by kernel_rfl) Tryz.underlying3 }
end Go.Proofs
namespace Go.Proofs.YteiibpfabgfolaaGreatDoor
open Go Go.RowKit Go.Pal Go.Shelf
attribute [local go_sem] Oper.semAt_some
def Mxl (w : World) : Prop := ∀ W, Below w.heap.size w W → ∃ m, W.cell? ⟨0, 0, none⟩ = some (.int .i64 m)
theorem Mxl.on {w w' : World} (h : Mxl w) (hb : Below w.heap.size w w') : Mxl w' := fun W hW => h W (hb.trans (hW.mono hb.size))
theorem cut1_any (c : UInt8) (s : List UInt8) (hs : s.length ≤ 8388608) (w : World) (hM : Mxl w) :
   Calls Tryz.prog 28 #[.string ⟨s.toArray⟩, .string ⟨#[c]⟩] w fun e w' => e = .returned (.tuple #[.string ⟨(Lib.cut s [c]).1.toArray⟩, .string ⟨(Lib.cut s [c]).2.1.toArray⟩, .bool (Lib.cut s [c]).2.2]) ∧ Below w.heap.size w w' := by
 have hsz : (⟨s.toArray⟩ : ByteArray).size = s.length := by simp [ByteArray.size]
 obtain ⟨m, hm⟩ := hM w (Below.refl _ _)
 refine (Any.strings_Cut (ρ := Tryz.laysCutM_ren) { Tryz.laysCutM with } ⟨s.toArray⟩ ⟨#[c]⟩ m w (by omega) hm).mono ?_
 rintro e w' ⟨rfl, n, rfl⟩
 exact ⟨by simp, ⟨rfl, rfl, rfl, Nat.le_refl _, fun _ _ => rfl⟩⟩
def strLen : Value → Nat | .string b => b.size | _ => 0
theorem strLen_str (s : List UInt8) : strLen (.string ⟨s.toArray⟩) = s.length := by simp [strLen, ByteArray.size]
end Go.Proofs.YteiibpfabgfolaaGreatDoor
