/- Plain: a keyword and numbers as bytes. DERIVED: THE SHELF's CONTRACTS AT THIS DUMP, IN .. -/
import Derived.Test.YteiibpfabgfolaaGreatDoorVGp
import Derived.Lib.ItoaLen
import Derived.Shelf.Strings.BuilderK
import Derived.Shelf.Strings.OnBuilder
import Derived.Shelf.Strings.Cut
import Derived.Shelf.Strings.Prefix
import Derived.Shelf.Small.Wraps
import Derived.Shelf.Strconv.Itoa3
import Derived.Test.YteiibpfabgfolaaGreatDoorProg
import Derived.Test.YteiibpfabgfolaaGreatDoorVR1g
import Derived.Test.YteiibpfabgfolaaGreatDoorVOwS
import Derived.Lib.AppendIntMem
set_option linter.all false
namespace Go.Pal
open Go
theorem inI_of {n : Int} (h0 : -1048576 ≤ n) (h1 : n ≤ 1048576) : InI n := ⟨by omega, by omega⟩
end Go.Pal
namespace Go.Proofs
open Go.Shelf
def Tryz.laysString_ren : Go.Shelf.Ren := ⟨fun | 169 => 25 | n => n, fun | 70 => 62 | 9 => 9 | 0 => 0 | 72 => 65 | 37 => 63 | 127 => 118 | 3 => 3 | 5 => 5 | n => n, fun | n => n⟩
theorem Tryz.laysString : Go.Proofs.Lays.n169 Tryz.prog Tryz.laysString_ren := {
 mixed := by kernel_rfl
 f169 := Tryz.func25.trans (congrArg some (by kernel_rfl))
 t0 := Tryz.underlying0
 a0 := Tryz.isAgg0
 z0 := Tryz.sizeOf0
 v0 := Tryz.zeroValue0
 t3 := Tryz.underlying3
 a3 := Tryz.isAgg3
 z3 := Tryz.sizeOf3
 v3 := Tryz.zeroValue3
 t9 := Tryz.underlying9
 a9 := Tryz.isAgg9
 z9 := Tryz.sizeOf9
 v9 := Tryz.zeroValue9
 t37 := Tryz.underlying63
 a37 := Tryz.isAgg63
 z37 := Tryz.sizeOf63
 v37 := Tryz.zeroValue63
 t70 := Tryz.underlying62
 a70 := Tryz.isAgg62
 z70 := Tryz.sizeOf62
 v70 := Tryz.zeroValue62
 t72 := Tryz.underlying65
 a72 := Tryz.isAgg65
 z72 := Tryz.sizeOf65
 v72 := Tryz.zeroValue65
 t127 := Tryz.underlying118
 a127 := Tryz.isAgg118
 z127 := Tryz.sizeOf118
 v127 := Tryz.zeroValue118 }
theorem Tryz.extraString : Builder.Extra Tryz.prog Tryz.laysString_ren := {
 sizeBuilder := by kernel_rfl
 liesBuilder := by kernel_rfl
 t5 := Tryz.underlying5
 a5 := Tryz.isAgg5
 z5 := Tryz.sizeOf5
 v5 := Tryz.zeroValue5
 infoByte := by kernel_rfl
 cellsByte := by kernel_rfl
 sizeByte := by kernel_rfl
 neB5 := by decide }
def Tryz.laysJoin_ren : Go.Shelf.Ren := ⟨fun | 156 => 60 | 165 => 110 | 166 => 22 | 169 => 25 | 240 => 58 | 241 => 131 | 276 => 108 | 277 => 162 | n => n, fun | 31 => 116 | 9 => 9 | 3 => 3 | 4 => 4 | 0 => 0 | 20 => 20 | 72 => 65 | 76 => 68 | 70 => 62 | 37 => 63 | 75 => 67 | 127 => 118 | 164 => 155 | 5 => 5 | 80 => 71 | n => n, fun | n => n⟩
theorem Tryz.laysJoin : Go.Proofs.Lays.n156 Tryz.prog Tryz.laysJoin_ren := {
 mixed := by kernel_rfl
 f156 := Tryz.func60.trans (congrArg some (by kernel_rfl))
 f165 := Tryz.func110.trans (congrArg some (by kernel_rfl))
 f166 := Tryz.func22.trans (congrArg some (by kernel_rfl))
 f169 := Tryz.func25.trans (congrArg some (by kernel_rfl))
 f240 := Tryz.func58.trans (congrArg some (by kernel_rfl))
 f241 := Tryz.func131.trans (congrArg some (by kernel_rfl))
 f276 := Tryz.func108.trans (congrArg some (by kernel_rfl))
 f277 := Tryz.func162.trans (congrArg some (by kernel_rfl))
 t0 := Tryz.underlying0
 a0 := Tryz.isAgg0
 z0 := Tryz.sizeOf0
 v0 := Tryz.zeroValue0
 t3 := Tryz.underlying3
 a3 := Tryz.isAgg3
 z3 := Tryz.sizeOf3
 v3 := Tryz.zeroValue3
 t4 := Tryz.underlying4
 a4 := Tryz.isAgg4
 z4 := Tryz.sizeOf4
 v4 := Tryz.zeroValue4
 t9 := Tryz.underlying9
 a9 := Tryz.isAgg9
 z9 := Tryz.sizeOf9
 v9 := Tryz.zeroValue9
 t20 := Tryz.underlying20
 a20 := Tryz.isAgg20
 z20 := Tryz.sizeOf20
 v20 := Tryz.zeroValue20
 t31 := Tryz.underlying116
 a31 := Tryz.isAgg116
 z31 := Tryz.sizeOf116
 v31 := Tryz.zeroValue116
 t37 := Tryz.underlying63
 a37 := Tryz.isAgg63
 z37 := Tryz.sizeOf63
 v37 := Tryz.zeroValue63
 t70 := Tryz.underlying62
 a70 := Tryz.isAgg62
 z70 := Tryz.sizeOf62
 v70 := Tryz.zeroValue62
 t72 := Tryz.underlying65
 a72 := Tryz.isAgg65
 z72 := Tryz.sizeOf65
 v72 := Tryz.zeroValue65
 t75 := Tryz.underlying67
 a75 := Tryz.isAgg67
 z75 := Tryz.sizeOf67
 v75 := Tryz.zeroValue67
 t76 := Tryz.underlying68
 a76 := Tryz.isAgg68
 z76 := Tryz.sizeOf68
 v76 := Tryz.zeroValue68
 t127 := Tryz.underlying118
 a127 := Tryz.isAgg118
 z127 := Tryz.sizeOf118
 v127 := Tryz.zeroValue118
 t164 := Tryz.underlying155
 a164 := Tryz.isAgg155
 z164 := Tryz.sizeOf155
 v164 := Tryz.zeroValue155 }
theorem Tryz.extraJoin : Builder.Extra Tryz.prog Tryz.laysJoin_ren := {
 sizeBuilder := by kernel_rfl
 liesBuilder := by kernel_rfl
 t5 := Tryz.underlying5
 a5 := Tryz.isAgg5
 z5 := Tryz.sizeOf5
 v5 := Tryz.zeroValue5
 infoByte := by kernel_rfl
 cellsByte := by kernel_rfl
 sizeByte := by kernel_rfl
 neB5 := by decide }
def Tryz.laysCutPrefix_ren : Go.Shelf.Ren := ⟨fun | 103 => 64 | 210 => 114 | 206 => 141 | n => n, fun | 9 => 9 | 4 => 4 | 24 => 120 | 3 => 3 | n => n, fun | n => n⟩
theorem Tryz.laysCutPrefix : Go.Proofs.Lays.n103 Tryz.prog Tryz.laysCutPrefix_ren := {
 mixed := by kernel_rfl
 f103 := Tryz.func64.trans (congrArg some (by kernel_rfl))
 f206 := Tryz.func141.trans (congrArg some (by kernel_rfl))
 f210 := Tryz.func114.trans (congrArg some (by kernel_rfl))
 t3 := Tryz.underlying3
 a3 := Tryz.isAgg3
 z3 := Tryz.sizeOf3
 v3 := Tryz.zeroValue3
 t4 := Tryz.underlying4
 a4 := Tryz.isAgg4
 z4 := Tryz.sizeOf4
 v4 := Tryz.zeroValue4
 t9 := Tryz.underlying9
 a9 := Tryz.isAgg9
 z9 := Tryz.sizeOf9
 v9 := Tryz.zeroValue9
 t24 := Tryz.underlying120
 a24 := Tryz.isAgg120
 z24 := Tryz.sizeOf120
 v24 := Tryz.zeroValue120 }
def Tryz.laysItoa_ren : Go.Shelf.Ren := ⟨fun | 171 => 23 | 243 => 59 | 246 => 109 | 283 => 127 | 284 => 128 | 285 => 129 | 286 => 130 | 129 => 157 | 317 => 158 | 318 => 159 | 319 => 160 | 320 => 161 | 337 => 184 | 338 => 121 | n => n, fun | 3 => 3 | 9 => 9 | 2 => 2 | 4 => 4 | 171 => 172 | 0 => 0 | 53 => 49 | 37 => 63 | 5 => 5 | 173 => 174 | 212 => 206 | 51 => 204 | 20 => 20 | 213 => 207 | 46 => 167 | 232 => 242 | 233 => 194 | n => n, fun | 17 => 2 | 18 => 5 | 19 => 1 | n => n⟩
theorem Tryz.laysItoa : Go.Proofs.LaysM.n171 Tryz.prog Tryz.laysItoa_ren := {
 mixed := by kernel_rfl
 f129 := Tryz.func157.trans (congrArg some (by kernel_rfl))
 f171 := Tryz.func23.trans (congrArg some (by kernel_rfl))
 f243 := Tryz.func59.trans (congrArg some (by kernel_rfl))
 f246 := Tryz.func109.trans (congrArg some (by kernel_rfl))
 f283 := Tryz.func127.trans (congrArg some (by kernel_rfl))
 f284 := Tryz.func128.trans (congrArg some (by kernel_rfl))
 f285 := Tryz.func129.trans (congrArg some (by kernel_rfl))
 f286 := Tryz.func130.trans (congrArg some (by kernel_rfl))
 f317 := Tryz.func158.trans (congrArg some (by kernel_rfl))
 f318 := Tryz.func159.trans (congrArg some (by kernel_rfl))
 f319 := Tryz.func160.trans (congrArg some (by kernel_rfl))
 f320 := Tryz.func161.trans (congrArg some (by kernel_rfl))
 f337 := Tryz.func184.trans (congrArg some (by kernel_rfl))
 f338 := Tryz.func121.trans (congrArg some (by kernel_rfl))
 t0 := Tryz.underlying0
 a0 := Tryz.isAgg0
 z0 := Tryz.sizeOf0
 v0 := Tryz.zeroValue0
 t2 := Tryz.underlying2
 a2 := Tryz.isAgg2
 z2 := Tryz.sizeOf2
 v2 := Tryz.zeroValue2
 t3 := Tryz.underlying3
 a3 := Tryz.isAgg3
 z3 := Tryz.sizeOf3
 v3 := Tryz.zeroValue3
 t4 := Tryz.underlying4
 a4 := Tryz.isAgg4
 z4 := Tryz.sizeOf4
 v4 := Tryz.zeroValue4
 t5 := Tryz.underlying5
 a5 := Tryz.isAgg5
 z5 := Tryz.sizeOf5
 v5 := Tryz.zeroValue5
 t9 := Tryz.underlying9
 a9 := Tryz.isAgg9
 z9 := Tryz.sizeOf9
 v9 := Tryz.zeroValue9
 t20 := Tryz.underlying20
 a20 := Tryz.isAgg20
 z20 := Tryz.sizeOf20
 v20 := Tryz.zeroValue20
 t37 := Tryz.underlying63
 a37 := Tryz.isAgg63
 z37 := Tryz.sizeOf63
 v37 := Tryz.zeroValue63
 t46 := Tryz.underlying167
 a46 := Tryz.isAgg167
 z46 := Tryz.sizeOf167
 v46 := Tryz.zeroValue167
 t51 := Tryz.underlying204
 a51 := Tryz.isAgg204
 z51 := Tryz.sizeOf204
 v51 := Tryz.zeroValue204
 t53 := Tryz.underlying49
 a53 := Tryz.isAgg49
 z53 := Tryz.sizeOf49
 v53 := Tryz.zeroValue49
 t171 := Tryz.underlying172
 a171 := Tryz.isAgg172
 z171 := Tryz.sizeOf172
 v171 := Tryz.zeroValue172
 t173 := Tryz.underlying174
 a173 := Tryz.isAgg174
 z173 := Tryz.sizeOf174
 v173 := Tryz.zeroValue174
 t212 := Tryz.underlying206
 a212 := Tryz.isAgg206
 z212 := Tryz.sizeOf206
 v212 := Tryz.zeroValue206
 t213 := Tryz.underlying207
 a213 := Tryz.isAgg207
 z213 := Tryz.sizeOf207
 t232 := Tryz.underlying242
 a232 := Tryz.isAgg242
 z232 := Tryz.sizeOf242
 v232 := Tryz.zeroValue242
 t233 := Tryz.underlying194
 a233 := Tryz.isAgg194
 z233 := Tryz.sizeOf194
 v233 := Tryz.zeroValue194
 g17 := by kernel_rfl
 g18 := by kernel_rfl
 g19 := by kernel_rfl
 i0 := by kernel_rfl
 i2 := by kernel_rfl
 i3 := by kernel_rfl
 i4 := by kernel_rfl
 i5 := by kernel_rfl
 i9 := by kernel_rfl
 i20 := by kernel_rfl
 i37 := by kernel_rfl
 i46 := by kernel_rfl
 i51 := by kernel_rfl
 i53 := by kernel_rfl
 i171 := by kernel_rfl
 i173 := by kernel_rfl
 i212 := by kernel_rfl
 i232 := by kernel_rfl
 i233 := by kernel_rfl
 m17 := by kernel_rfl
 m18 := by kernel_rfl
 m19 := by kernel_rfl }
end Go.Proofs
namespace Go.Pal
open Go Go.RowKit
end Go.Pal
namespace Go.Proofs.YteiibpfabgfolaaGreatDoor
open Go Go.RowKit Go.Pal Go.Shelf
theorem str_add {w : World} (x y : List UInt8) (h : x.length + y.length ≤ 9223372036854775807) : (Op.stringOp .add ⟨x.toArray⟩ ⟨y.toArray⟩).run Tryz.prog w = .ok (.string ⟨(x ++ y).toArray⟩) w := by
 rw [run_string_add_sum w _ _ (by simpa [ByteArray.size] using h), ByteArray.mk_append_mk]
def Pow (w : World) : Prop := ∀ W, Below w.heap.size w W → Lib.TabIs Tryz.prog W "internal/strconv.uint64pow10" .u64 Lib.pow10Tab
theorem Pow.on {w w' : World} (h : Pow w) (hb : Below w.heap.size w w') : Pow w' := fun W hW => h W (hb.trans (hW.mono hb.size))
theorem itoa_any (n : Int) (hn : InI n) (w : World) (ht : Pow w) : Calls Tryz.prog 23 #[.int .i64 n] w fun e w' => e = .returned (.string ⟨(Lib.itoa n).toArray⟩) ∧ Below w.heap.size w w' := by
 refine (Any.strconv_Itoa Tryz.laysItoa n hn.1 hn.2 w (ht w (Below.refl _ _))).mono ?_
 rintro e w' ⟨rfl, k, os, rfl⟩
 exact ⟨rfl, Lib.below_grow _ w (Nat.le_refl _) k os⟩
def IsB (B b : Nat) (bs : List UInt8) (w : World) : Prop := Lib.IsBuilderF 65 5 B b (Lib.byteCells bs) w
theorem isB_fresh (w : World) : IsB w.heap.size w.heap.size [] (w.alloc (.cells #[.pointer none, .slice none 0 0] 65)) := Lib.IsBuilderF.of (Lib.fresh_isBuilder 65 5 w)
theorem IsB.below {B b C : Nat} {bs : List UInt8} {w w' : World} (h : IsB B b bs w) (hb : Below C w w') (hC : w.heap.size ≤ C) : IsB B b bs w' := by
 have key : ∀ p, Lib.BuilderAtF 65 5 B b p (Lib.byteCells bs) w → Lib.BuilderAtF 65 5 B b p (Lib.byteCells bs) w' := by
   rintro p ⟨h1, v, h2, h3, h4⟩
   have hlt := (Array.getElem?_eq_some_iff.1 h2).1
   refine ⟨h1, v, (hb.block b (by omega)).trans h2, ⟨h3.1, ?_⟩, h4⟩
   rcases h3.2 with h5 | ⟨g, cap, cur, fz, h5, h6, h7, h8⟩
   · exact .inl h5
   · have hg := (Array.getElem?_eq_some_iff.1 h7).1
     exact .inr ⟨g, cap, cur, fz, h5, h6, (hb.block g (by omega)).trans h7, h8⟩
 exact h.imp (key _) (key _)
theorem write_any (B b : Nat) (bs s : List UInt8) (w : World) (h : IsB B b bs w) (hlen : bs.length + s.length ≤ 140737488355328) (hB : B ≤ w.heap.size) :
   Calls Tryz.prog 22 #[.pointer (some ⟨b, 0, none⟩), .string ⟨s.toArray⟩] w fun e w' => e = .returned (.tuple #[.int .i64 (s.length : Int), .nilIface]) ∧ IsB B b (bs ++ s) w' ∧ Below B w w' ∧ Lib.OthersKept 5 (some b) w w' := by
 refine (Any.Builder_WriteString_k (ρ := Tryz.laysJoin_ren) { Tryz.laysJoin with } Tryz.extraJoin B b (Lib.byteCells bs) ⟨s.toArray⟩ w h (by simpa [Lib.byteCells, ByteArray.size] using hlen) hB).mono ?_
 rintro e w' ⟨rfl, h1, h2, h3⟩
 refine ⟨by simp [ByteArray.size], .inr ?_, h2, h3⟩
 have e1 : Lib.byteCells (bs ++ s) = Lib.byteCells bs ++ Lib.strCells ⟨s.toArray⟩ := by simp [Lib.byteCells, Lib.strCells]
 rw [e1]
 exact h1
theorem built_any (B b : Nat) (bs : List UInt8) (w : World) (h : IsB B b bs w) (hB : B ≤ w.heap.size) :
   Calls Tryz.prog 25 #[.pointer (some ⟨b, 0, none⟩)] w fun e w' => e = .returned (.string ⟨bs.toArray⟩) ∧ Below B w w' :=
 (Any.Builder_String_any_k Tryz.laysString Tryz.extraString B b bs w h hB).mono fun e w' ⟨h1, _, h2, _⟩ => ⟨h1, h2⟩
end Go.Proofs.YteiibpfabgfolaaGreatDoor
namespace Go.Pal
open Go Go.RowKit
theorem Rd.at {α : Type} {enc : α → Array Value} {k B : Nat} {w : World} {v : Value} {l : List α} (h : Rd enc k B w v l) {i : Nat} (hi : i < l.length) :
   ∃ b off c x, v = .slice (some ⟨b, off, none⟩) l.length c ∧ b < B ∧ l[i]? = some x ∧ ∀ w', Below B w w' → ∀ j u, (enc x)[j]? = some u → w'.cell? ⟨b, off + i * k + j, none⟩ = some u := by
 obtain ⟨a, c, rfl, hr⟩ := h
 rcases hr with hr | ⟨b, off, rfl, hb, hc⟩
 · rw [hr] at hi; simp at hi
 · exact ⟨b, off, c, _, rfl, hb, List.getElem?_eq_getElem hi, fun w' hw j u hu => (hw.cell (p := ⟨b, off + i * k + j, none⟩) hb).trans (hc i _ (List.getElem?_eq_getElem hi) j u hu)⟩
theorem Rd.sl {α : Type} {enc : α → Array Value} {k B : Nat} {w : World} {v : Value} {l : List α} (h : Rd enc k B w v l) : ∃ a c, v = .slice a l.length c := by
 obtain ⟨a, c, rfl, -⟩ := h
 exact ⟨a, c, rfl⟩
theorem Rd.nil {α : Type} {enc : α → Array Value} {k B : Nat} {w : World} : Rd enc k B w (.slice none 0 0) ([] : List α) := ⟨none, 0, rfl, .inl rfl⟩
def strC (l : List UInt8) : Array Value := #[.string ⟨l.toArray⟩]
end Go.Pal
namespace Go.Proofs.YteiibpfabgfolaaGreatDoor
open Go Go.RowKit Go.Pal Go.Shelf
attribute [local go_sem] Oper.semAt_some
def elStr : ElT Tryz.prog 9 1 strC where
 bytes := 16
 zero := .string ⟨#[]⟩
 info := by kernel_rfl
 zc := rfl
 pos := by decide
 small := by decide
 size _ := rfl
 one x u hu := by simp [strC] at hu; subst hu; rfl
abbrev OwnStr := OwnR 9 1 strC
@[go_sem ↓ high] theorem bs_s1 (l : List UInt8) (w : World) : (Instr.buildSlice 116 1 #[(0, .string ⟨l.toArray⟩)]).run Tryz.prog w = .ok (.slice (some ⟨w.heap.size, 0, none⟩) 1 1) (w.alloc (.cells #[.string ⟨l.toArray⟩] 9)) := by kernel_rfl
@[go_sem ↓ high] theorem str_addl {w : World} (x y : List UInt8) (hx : x.length ≤ 8388608) (hy : y.length ≤ 8388608) : (Op.stringOp .add ⟨x.toArray⟩ ⟨y.toArray⟩).run Tryz.prog w = .ok (.string ⟨(x ++ y).toArray⟩) w := str_add x y (by omega)
end Go.Proofs.YteiibpfabgfolaaGreatDoor
