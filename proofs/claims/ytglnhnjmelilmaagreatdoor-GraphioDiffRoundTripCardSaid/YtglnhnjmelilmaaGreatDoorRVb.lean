/- Plain: a keyword and numbers as bytes. DERIVED: THE SHELF's CONTRACTS AT THIS DUMP, IN .. -/
import Derived.Test.YtglnhnjmelilmaaGreatDoorRGp
import Derived.Lib.ItoaLen
import Derived.Shelf.Strings.BuilderK
import Derived.Shelf.Strings.OnBuilder
import Derived.Shelf.Strings.Cut
import Derived.Shelf.Strings.Prefix
import Derived.Shelf.Small.Wraps
import Derived.Shelf.Strconv.Itoa3
import Derived.Test.YtglnhnjmelilmaaGreatDoorProg
import Derived.Test.YtglnhnjmelilmaaGreatDoorRR1g
import Derived.Test.YtglnhnjmelilmaaGreatDoorRGrf
import Derived.Lib.AppendIntMem
set_option linter.all false
namespace Go.Pal
open Go
def spNum (n : Int) : List UInt8 := 32 :: Lib.itoa n
def lineB (s : List UInt8) (ns : List Int) : List UInt8 := s ++ ns.flatMap spNum
theorem spNum_len {n : Int} (h : InI n) : (spNum n).length ≤ 22 := by
 unfold spNum
 have := Lib.itoa_length_le n h.1 h.2
 simp only [List.length_cons]
 omega
theorem lineB_len {s : List UInt8} : ∀ {ns : List Int}, (∀ n ∈ ns, InI n) → (lineB s ns).length ≤ s.length + 22 * ns.length
 | [], _ => by simp [lineB]
 | n :: r, h => by
   have ih := lineB_len (s := s) (ns := r) fun m hm => h m (by simp [hm])
   have h1 := spNum_len (h n (by simp))
   unfold lineB at ih ⊢
   simp only [List.flatMap_cons, List.length_append, List.length_cons] at ih ⊢
   omega
theorem lineB_snoc (s : List UInt8) (ns : List Int) (n : Int) : lineB s (ns ++ [n]) = lineB s ns ++ spNum n := by
 simp [lineB]
theorem flatMap_len {α : Type} {f : α → List UInt8} {b : Nat} : ∀ {l : List α}, (∀ x ∈ l, (f x).length ≤ b) → (l.flatMap f).length ≤ b * l.length
 | [], _ => by simp
 | x :: r, h => by
   have ih := flatMap_len (f := f) (b := b) (l := r) fun y hy => h y (by simp [hy])
   have h1 := h x (by simp)
   simp only [List.flatMap_cons, List.length_append, List.length_cons]
   rw [Nat.mul_add]
   omega
theorem inI_of {n : Int} (h0 : -1048576 ≤ n) (h1 : n ≤ 1048576) : InI n := ⟨by omega, by omega⟩
end Go.Pal
namespace Go.Proofs
open Go.Shelf
def Tryz.laysString_ren : Go.Shelf.Ren := ⟨fun | 169 => 62 | n => n, fun | 70 => 119 | 9 => 9 | 0 => 0 | 72 => 122 | 37 => 120 | 127 => 204 | 3 => 3 | 5 => 5 | n => n, fun | n => n⟩
theorem Tryz.laysString : Go.Proofs.Lays.n169 Tryz.prog Tryz.laysString_ren := {
 mixed := by kernel_rfl
 f169 := Tryz.func62.trans (congrArg some (by kernel_rfl))
 t0 := Tryz.underlying0
 a0 := Tryz.isAgg0
 z0 := Tryz.sizeOf0
 v0 := Tryz.zeroValue0
 t3 := Tryz.underlying3
 a3 := Tryz.isAgg3
 z3 := Tryz.sizeOf3
 v3 := Tryz.zeroValue3
 t9 := Tryz.underlying9
 a9 := Tryz.isAgg9
 z9 := Tryz.sizeOf9
 v9 := Tryz.zeroValue9
 t37 := Tryz.underlying120
 a37 := Tryz.isAgg120
 z37 := Tryz.sizeOf120
 v37 := Tryz.zeroValue120
 t70 := Tryz.underlying119
 a70 := Tryz.isAgg119
 z70 := Tryz.sizeOf119
 v70 := Tryz.zeroValue119
 t72 := Tryz.underlying122
 a72 := Tryz.isAgg122
 z72 := Tryz.sizeOf122
 v72 := Tryz.zeroValue122
 t127 := Tryz.underlying204
 a127 := Tryz.isAgg204
 z127 := Tryz.sizeOf204
 v127 := Tryz.zeroValue204 }
theorem Tryz.extraString : Builder.Extra Tryz.prog Tryz.laysString_ren := {
 sizeBuilder := by kernel_rfl
 liesBuilder := by kernel_rfl
 t5 := Tryz.underlying5
 a5 := Tryz.isAgg5
 z5 := Tryz.sizeOf5
 v5 := Tryz.zeroValue5
 infoByte := by kernel_rfl
 cellsByte := by kernel_rfl
 sizeByte := by kernel_rfl
 neB5 := by decide }
def Tryz.laysJoin_ren : Go.Shelf.Ren := ⟨fun | 156 => 72 | 165 => 125 | 166 => 60 | 169 => 62 | 240 => 118 | 241 => 178 | 276 => 175 | 277 => 212 | n => n, fun | 31 => 146 | 9 => 9 | 3 => 3 | 4 => 4 | 0 => 0 | 20 => 20 | 72 => 122 | 76 => 129 | 70 => 119 | 37 => 120 | 75 => 128 | 127 => 204 | 164 => 235 | 5 => 5 | 80 => 135 | n => n, fun | n => n⟩
theorem Tryz.laysJoin : Go.Proofs.Lays.n156 Tryz.prog Tryz.laysJoin_ren := {
 mixed := by kernel_rfl
 f156 := Tryz.func72.trans (congrArg some (by kernel_rfl))
 f165 := Tryz.func125.trans (congrArg some (by kernel_rfl))
 f166 := Tryz.func60.trans (congrArg some (by kernel_rfl))
 f169 := Tryz.func62.trans (congrArg some (by kernel_rfl))
 f240 := Tryz.func118.trans (congrArg some (by kernel_rfl))
 f241 := Tryz.func178.trans (congrArg some (by kernel_rfl))
 f276 := Tryz.func175.trans (congrArg some (by kernel_rfl))
 f277 := Tryz.func212.trans (congrArg some (by kernel_rfl))
 t0 := Tryz.underlying0
 a0 := Tryz.isAgg0
 z0 := Tryz.sizeOf0
 v0 := Tryz.zeroValue0
 t3 := Tryz.underlying3
 a3 := Tryz.isAgg3
 z3 := Tryz.sizeOf3
 v3 := Tryz.zeroValue3
 t4 := Tryz.underlying4
 a4 := Tryz.isAgg4
 z4 := Tryz.sizeOf4
 v4 := Tryz.zeroValue4
 t9 := Tryz.underlying9
 a9 := Tryz.isAgg9
 z9 := Tryz.sizeOf9
 v9 := Tryz.zeroValue9
 t20 := Tryz.underlying20
 a20 := Tryz.isAgg20
 z20 := Tryz.sizeOf20
 v20 := Tryz.zeroValue20
 t31 := Tryz.underlying146
 a31 := Tryz.isAgg146
 z31 := Tryz.sizeOf146
 v31 := Tryz.zeroValue146
 t37 := Tryz.underlying120
 a37 := Tryz.isAgg120
 z37 := Tryz.sizeOf120
 v37 := Tryz.zeroValue120
 t70 := Tryz.underlying119
 a70 := Tryz.isAgg119
 z70 := Tryz.sizeOf119
 v70 := Tryz.zeroValue119
 t72 := Tryz.underlying122
 a72 := Tryz.isAgg122
 z72 := Tryz.sizeOf122
 v72 := Tryz.zeroValue122
 t75 := Tryz.underlying128
 a75 := Tryz.isAgg128
 z75 := Tryz.sizeOf128
 v75 := Tryz.zeroValue128
 t76 := Tryz.underlying129
 a76 := Tryz.isAgg129
 z76 := Tryz.sizeOf129
 v76 := Tryz.zeroValue129
 t127 := Tryz.underlying204
 a127 := Tryz.isAgg204
 z127 := Tryz.sizeOf204
 v127 := Tryz.zeroValue204
 t164 := Tryz.underlying235
 a164 := Tryz.isAgg235
 z164 := Tryz.sizeOf235
 v164 := Tryz.zeroValue235 }
theorem Tryz.extraJoin : Builder.Extra Tryz.prog Tryz.laysJoin_ren := {
 sizeBuilder := by kernel_rfl
 liesBuilder := by kernel_rfl
 t5 := Tryz.underlying5
 a5 := Tryz.isAgg5
 z5 := Tryz.sizeOf5
 v5 := Tryz.zeroValue5
 infoByte := by kernel_rfl
 cellsByte := by kernel_rfl
 sizeByte := by kernel_rfl
 neB5 := by decide }
def Tryz.laysItoa_ren : Go.Shelf.Ren := ⟨fun | 171 => 93 | 243 => 163 | 246 => 187 | 283 => 220 | 284 => 221 | 285 => 222 | 286 => 223 | 129 => 202 | 317 => 244 | 318 => 245 | 319 => 246 | 320 => 247 | 337 => 256 | 338 => 186 | n => n, fun | 3 => 3 | 9 => 9 | 2 => 2 | 4 => 4 | 171 => 275 | 0 => 0 | 53 => 77 | 37 => 120 | 5 => 5 | 173 => 277 | 212 => 297 | 51 => 256 | 20 => 20 | 213 => 298 | 46 => 234 | 232 => 321 | 233 => 274 | n => n, fun | 17 => 3 | 18 => 8 | 19 => 1 | n => n⟩
theorem Tryz.laysItoa : Go.Proofs.LaysM.n171 Tryz.prog Tryz.laysItoa_ren := {
 mixed := by kernel_rfl
 f129 := Tryz.func202.trans (congrArg some (by kernel_rfl))
 f171 := Tryz.func93.trans (congrArg some (by kernel_rfl))
 f243 := Tryz.func163.trans (congrArg some (by kernel_rfl))
 f246 := Tryz.func187.trans (congrArg some (by kernel_rfl))
 f283 := Tryz.func220.trans (congrArg some (by kernel_rfl))
 f284 := Tryz.func221.trans (congrArg some (by kernel_rfl))
 f285 := Tryz.func222.trans (congrArg some (by kernel_rfl))
 f286 := Tryz.func223.trans (congrArg some (by kernel_rfl))
 f317 := Tryz.func244.trans (congrArg some (by kernel_rfl))
 f318 := Tryz.func245.trans (congrArg some (by kernel_rfl))
 f319 := Tryz.func246.trans (congrArg some (by kernel_rfl))
 f320 := Tryz.func247.trans (congrArg some (by kernel_rfl))
 f337 := Tryz.func256.trans (congrArg some (by kernel_rfl))
 f338 := Tryz.func186.trans (congrArg some (by kernel_rfl))
 t0 := Tryz.underlying0
 a0 := Tryz.isAgg0
 z0 := Tryz.sizeOf0
 v0 := Tryz.zeroValue0
 t2 := Tryz.underlying2
 a2 := Tryz.isAgg2
 z2 := Tryz.sizeOf2
 v2 := Tryz.zeroValue2
 t3 := Tryz.underlying3
 a3 := Tryz.isAgg3
 z3 := Tryz.sizeOf3
 v3 := Tryz.zeroValue3
 t4 := Tryz.underlying4
 a4 := Tryz.isAgg4
 z4 := Tryz.sizeOf4
 v4 := Tryz.zeroValue4
 t5 := Tryz.underlying5
 a5 := Tryz.isAgg5
 z5 := Tryz.sizeOf5
 v5 := Tryz.zeroValue5
 t9 := Tryz.underlying9
 a9 := Tryz.isAgg9
 z9 := Tryz.sizeOf9
 v9 := Tryz.zeroValue9
 t20 := Tryz.underlying20
 a20 := Tryz.isAgg20
 z20 := Tryz.sizeOf20
 v20 := Tryz.zeroValue20
 t37 := Tryz.underlying120
 a37 := Tryz.isAgg120
 z37 := Tryz.sizeOf120
 v37 := Tryz.zeroValue120
 t46 := Tryz.underlying234
 a46 := Tryz.isAgg234
 z46 := Tryz.sizeOf234
 v46 := Tryz.zeroValue234
 t51 := Tryz.underlying256
 a51 := Tryz.isAgg256
 z51 := Tryz.sizeOf256
 v51 := Tryz.zeroValue256
 t53 := Tryz.underlying77
 a53 := Tryz.isAgg77
 z53 := Tryz.sizeOf77
 v53 := Tryz.zeroValue77
 t171 := Tryz.underlying275
 a171 := Tryz.isAgg275
 z171 := Tryz.sizeOf275
 v171 := Tryz.zeroValue275
 t173 := Tryz.underlying277
 a173 := Tryz.isAgg277
 z173 := Tryz.sizeOf277
 v173 := Tryz.zeroValue277
 t212 := Tryz.underlying297
 a212 := Tryz.isAgg297
 z212 := Tryz.sizeOf297
 v212 := Tryz.zeroValue297
 t213 := Tryz.underlying298
 a213 := Tryz.isAgg298
 z213 := Tryz.sizeOf298
 t232 := Tryz.underlying321
 a232 := Tryz.isAgg321
 z232 := Tryz.sizeOf321
 v232 := Tryz.zeroValue321
 t233 := Tryz.underlying274
 a233 := Tryz.isAgg274
 z233 := Tryz.sizeOf274
 v233 := Tryz.zeroValue274
 g17 := by kernel_rfl
 g18 := by kernel_rfl
 g19 := by kernel_rfl
 i0 := by kernel_rfl
 i2 := by kernel_rfl
 i3 := by kernel_rfl
 i4 := by kernel_rfl
 i5 := by kernel_rfl
 i9 := by kernel_rfl
 i20 := by kernel_rfl
 i37 := by kernel_rfl
 i46 := by kernel_rfl
 i51 := by kernel_rfl
 i53 := by kernel_rfl
 i171 := by kernel_rfl
 i173 := by kernel_rfl
 i212 := by kernel_rfl
 i232 := by kernel_rfl
 i233 := by kernel_rfl
 m17 := by kernel_rfl
 m18 := by kernel_rfl
 m19 := by kernel_rfl }
end Go.Proofs
namespace Go.Pal
open Go Go.RowKit
theorem OwnR.others {α : Type} {e : TypeId} {k : Nat} {enc : α → Array Value} {B b : Nat} {u T : TypeId} {w w' : World} {v : Value} {l : List α} (h : OwnR e k enc B w v l) (hk : Lib.OthersKept u (some b) w w') (hu : e ≠ u) (hT : e ≠ T) (hb : ∃ c fz, w.heap[b]? = some (.cells c T fz)) : OwnR e k enc B w' v l := by
 refine ⟨h.1, ?_⟩
 rcases h.2 with h2 | ⟨g, cap, cur, h1, hB, hg, h3⟩
 · exact .inl h2
 · refine .inr ⟨g, cap, cur, h1, hB, hk g _ hg ?_ ?_, h3⟩
   · rintro hgb
     cases hgb
     obtain ⟨c, fz, hc⟩ := hb
     rw [hg] at hc
     simp only [Option.some.injEq, Obj.cells.injEq] at hc
     exact hT hc.2.1
   · intro c fz e'
     simp only [Obj.cells.injEq] at e'
     exact hu e'.2.1
end Go.Pal
namespace Go.Proofs.YtglnhnjmelilmaaGreatDoor
open Go Go.RowKit Go.Pal Go.Shelf
theorem str_add {w : World} (x y : List UInt8) (h : x.length + y.length ≤ 9223372036854775807) : (Op.stringOp .add ⟨x.toArray⟩ ⟨y.toArray⟩).run Tryz.prog w = .ok (.string ⟨(x ++ y).toArray⟩) w := by
 rw [run_string_add_sum w _ _ (by simpa [ByteArray.size] using h), ByteArray.mk_append_mk]
theorem wpList_strAdd {ops : Array Oper} {rest : List Oper} {o : Oper} {a : Act} {Q : Exit → Act → World → Prop} {w : World} (hg : o.guard = none) (p q : Operand) (t s : TypeId) (ho : o.op = .binOp .add t p q s) (x y : List UInt8) (hp : a.eval p = .string ⟨x.toArray⟩) (hq : a.eval q = .string ⟨y.toArray⟩) (h : x.length + y.length ≤ 9223372036854775807)
   (hK : wpList Tryz.prog ops Q rest (a.put o.dst (.string ⟨(x ++ y).toArray⟩)) w) : wpList Tryz.prog ops Q (o :: rest) a w := by
 refine wpList_plain hg fun K' hK' => ?_
 unfold Oper.wp
 simp [execOp, ho, hp, hq, binOp, eqGuard, str_add x y h, Result.andThen]
 exact hK' _ _ hK
def Pow (w : World) : Prop := ∀ W, Below w.heap.size w W → Lib.TabIs Tryz.prog W "internal/strconv.uint64pow10" .u64 Lib.pow10Tab
theorem Pow.on {w w' : World} (h : Pow w) (hb : Below w.heap.size w w') : Pow w' := fun W hW => h W (hb.trans (hW.mono hb.size))
theorem itoa_any (n : Int) (hn : InI n) (w : World) (ht : Pow w) : Calls Tryz.prog 93 #[.int .i64 n] w fun e w' => e = .returned (.string ⟨(Lib.itoa n).toArray⟩) ∧ Below w.heap.size w w' := by
 refine (Any.strconv_Itoa Tryz.laysItoa n hn.1 hn.2 w (ht w (Below.refl _ _))).mono ?_
 rintro e w' ⟨rfl, k, os, rfl⟩
 exact ⟨rfl, Lib.below_grow _ w (Nat.le_refl _) k os⟩
def IsB (B b : Nat) (bs : List UInt8) (w : World) : Prop := Lib.IsBuilderF 122 5 B b (Lib.byteCells bs) w
theorem isB_fresh (w : World) : IsB w.heap.size w.heap.size [] (w.alloc (.cells #[.pointer none, .slice none 0 0] 122)) := Lib.IsBuilderF.of (Lib.fresh_isBuilder 122 5 w)
theorem IsB.tag {B b : Nat} {bs : List UInt8} {w : World} (h : IsB B b bs w) : ∃ c fz, w.heap[b]? = some (.cells c 122 fz) := by
 rcases h with ⟨-, v, hb, -⟩ | ⟨-, v, hb, -⟩
 · exact ⟨_, _, hb⟩
 · exact ⟨_, _, hb⟩
theorem IsB.below {B b C : Nat} {bs : List UInt8} {w w' : World} (h : IsB B b bs w) (hb : Below C w w') (hC : w.heap.size ≤ C) : IsB B b bs w' := by
 have key : ∀ p, Lib.BuilderAtF 122 5 B b p (Lib.byteCells bs) w → Lib.BuilderAtF 122 5 B b p (Lib.byteCells bs) w' := by
   rintro p ⟨h1, v, h2, h3, h4⟩
   have hlt := (Array.getElem?_eq_some_iff.1 h2).1
   refine ⟨h1, v, (hb.block b (by omega)).trans h2, ⟨h3.1, ?_⟩, h4⟩
   rcases h3.2 with h5 | ⟨g, cap, cur, fz, h5, h6, h7, h8⟩
   · exact .inl h5
   · have hg := (Array.getElem?_eq_some_iff.1 h7).1
     exact .inr ⟨g, cap, cur, fz, h5, h6, (hb.block g (by omega)).trans h7, h8⟩
 exact h.imp (key _) (key _)
theorem write_any (B b : Nat) (bs s : List UInt8) (w : World) (h : IsB B b bs w) (hlen : bs.length + s.length ≤ 140737488355328) (hB : B ≤ w.heap.size) :
   Calls Tryz.prog 60 #[.pointer (some ⟨b, 0, none⟩), .string ⟨s.toArray⟩] w fun e w' => e = .returned (.tuple #[.int .i64 (s.length : Int), .nilIface]) ∧ IsB B b (bs ++ s) w' ∧ Below B w w' ∧ Lib.OthersKept 5 (some b) w w' := by
 refine (Any.Builder_WriteString_k (ρ := Tryz.laysJoin_ren) { Tryz.laysJoin with } Tryz.extraJoin B b (Lib.byteCells bs) ⟨s.toArray⟩ w h (by simpa [Lib.byteCells, ByteArray.size] using hlen) hB).mono ?_
 rintro e w' ⟨rfl, h1, h2, h3⟩
 refine ⟨by simp [ByteArray.size], .inr ?_, h2, h3⟩
 have e1 : Lib.byteCells (bs ++ s) = Lib.byteCells bs ++ Lib.strCells ⟨s.toArray⟩ := by simp [Lib.byteCells, Lib.strCells]
 rw [e1]
 exact h1
theorem built_any (B b : Nat) (bs : List UInt8) (w : World) (h : IsB B b bs w) (hB : B ≤ w.heap.size) :
   Calls Tryz.prog 62 #[.pointer (some ⟨b, 0, none⟩)] w fun e w' => e = .returned (.string ⟨bs.toArray⟩) ∧ Below B w w' :=
 (Any.Builder_String_any_k Tryz.laysString Tryz.extraString B b bs w h hB).mono fun e w' ⟨h1, _, h2, _⟩ => ⟨h1, h2⟩
set_option maxRecDepth 10000 in
set_option maxHeartbeats 2000000 in
theorem line_any (s : List UInt8) (hs : s.length ≤ 100) (ns : List Int) (hn : ∀ n ∈ ns, InI n) (hl : ns.length ≤ 100) (v : Value) (w : World) (hv : RdL w v ns) (ht : Pow w) :
   Calls Tryz.prog 48 #[.string ⟨s.toArray⟩, v] w fun e w' => e = .returned (.string ⟨(lineB s ns).toArray⟩) ∧ Below w.heap.size w w' := by
 have HV := Lib.hid hv
 have HN := Lib.hid hn
 have HT := Lib.hid ht
 have HS := Lib.hid hs
 obtain ⟨a, c, rfl, -⟩ := hv
 clear hn ht hs
 go_enter Tryz.func48, Tryz.ntmps48
 go_wp2_with fail
 go_loopw [0, 9] (fun sv i wr => ∃ k : Nat, k ≤ ns.length ∧ i = .int .i64 (k : Int) ∧ sv = .string ⟨(lineB s (ns.take k)).toArray⟩ ∧ Below w.heap.size w wr) (fun _ i _ => ns.length - (intOf i).toNat)
 case atStart => exact ⟨0, by omega, rfl, by simp [lineB], Below.refl _ _⟩
 case round =>
   obtain ⟨k, hk, rfl, rfl, hb⟩ := hrel
   have HB := Lib.hid hb
   clear hb
   by_cases hlt : k < ns.length
   · obtain ⟨b, off, c', z, h1, hz, hc⟩ := HV.out.at hlt
     simp only [Value.slice.injEq] at h1
     obtain ⟨rfl, -, rfl⟩ := h1
     have c0 := hc wr HB.out
     have hzi := HN.out z (List.mem_of_getElem? hz)
     have hlz := Lib.itoa_length_le z hzi.1 hzi.2
     have hls := lineB_len (s := s) (ns := ns.take k) fun n hn => HN.out n (List.mem_of_mem_take hn)
     rw [List.length_take] at hls
     have hss := HS.out
     have HE := Lib.hid (show lineB s (ns.take (k + 1)) = lineB s (ns.take k) ++ spNum z by rw [List.take_add_one, hz]; exact lineB_snoc _ _ _)
     have HZ := Lib.hid hzi
     obtain ⟨acc, hacc⟩ : ∃ acc, acc = lineB s (ns.take k) := ⟨_, rfl⟩
     rw [← hacc] at HE hls ⊢
     have hal : acc.length ≤ 10000 := by omega
     clear hz hc hzi hacc hls
     go_wp2_with fail
     refine (itoa_any z HZ.out wr (HT.out.on HB.out)).mono ?_
     rintro r w2 ⟨rfl, hb2⟩
     have HB2 := Lib.hid (HB.out.trans (hb2.mono HB.out.size))
     clear hb2 c0
     go_wp2_with (first | (refine wpList_strAdd rfl _ _ _ _ rfl [32] (Lib.itoa z) rfl rfl (by simp; omega) ?_) | (refine wpList_strAdd rfl _ _ _ _ rfl acc _ rfl rfl (by simp; omega) ?_))
     go_roundw
     case rel => exact ⟨k + 1, by omega, by go_num, by rw [HE.out]; rfl, HB2.out⟩
     case measure => simp [intOf]; omega
   · have hkn : k = ns.length := by omega
     subst hkn
     go_wp2_with fail
     go_ret
     exact ⟨by first | rfl | (rw [List.take_length]; rfl), HB.out⟩
end Go.Proofs.YtglnhnjmelilmaaGreatDoor
namespace Go.Pal
open Go Go.RowKit
theorem Rd.at {α : Type} {enc : α → Array Value} {k B : Nat} {w : World} {v : Value} {l : List α} (h : Rd enc k B w v l) {i : Nat} (hi : i < l.length) :
   ∃ b off c x, v = .slice (some ⟨b, off, none⟩) l.length c ∧ b < B ∧ l[i]? = some x ∧ ∀ w', Below B w w' → ∀ j u, (enc x)[j]? = some u → w'.cell? ⟨b, off + i * k + j, none⟩ = some u := by
 obtain ⟨a, c, rfl, hr⟩ := h
 rcases hr with hr | ⟨b, off, rfl, hb, hc⟩
 · rw [hr] at hi; simp at hi
 · exact ⟨b, off, c, _, rfl, hb, List.getElem?_eq_getElem hi, fun w' hw j u hu => (hw.cell (p := ⟨b, off + i * k + j, none⟩) hb).trans (hc i _ (List.getElem?_eq_getElem hi) j u hu)⟩
theorem Rd.sl {α : Type} {enc : α → Array Value} {k B : Nat} {w : World} {v : Value} {l : List α} (h : Rd enc k B w v l) : ∃ a c, v = .slice a l.length c := by
 obtain ⟨a, c, rfl, -⟩ := h
 exact ⟨a, c, rfl⟩
theorem Rd.nil {α : Type} {enc : α → Array Value} {k B : Nat} {w : World} : Rd enc k B w (.slice none 0 0) ([] : List α) := ⟨none, 0, rfl, .inl rfl⟩
def noHit {α : Type} (q : α → Bool) (l : List α) (k : Nat) : Prop := ∀ (j : Nat) y, j < k → l[j]? = some y → q y = false
def strC (l : List UInt8) : Array Value := #[.string ⟨l.toArray⟩]
end Go.Pal
namespace Go.Proofs.YtglnhnjmelilmaaGreatDoor
open Go Go.RowKit Go.Pal Go.Shelf
attribute [local go_sem] Oper.semAt_some
def elStr : ElT Tryz.prog 9 1 strC where
 bytes := 16
 zero := .string ⟨#[]⟩
 info := by kernel_rfl
 zc := rfl
 pos := by decide
 small := by decide
 size _ := rfl
 one x u hu := by simp [strC] at hu; subst hu; rfl
abbrev OwnStr := OwnR 9 1 strC
@[go_sem ↓ high] theorem bs_s1 (l : List UInt8) (w : World) : (Instr.buildSlice 146 1 #[(0, .string ⟨l.toArray⟩)]).run Tryz.prog w = .ok (.slice (some ⟨w.heap.size, 0, none⟩) 1 1) (w.alloc (.cells #[.string ⟨l.toArray⟩] 9)) := by kernel_rfl
@[go_sem ↓ high] theorem str_addl {w : World} (x y : List UInt8) (hx : x.length ≤ 8388608) (hy : y.length ≤ 8388608) : (Op.stringOp .add ⟨x.toArray⟩ ⟨y.toArray⟩).run Tryz.prog w = .ok (.string ⟨(x ++ y).toArray⟩) w := str_add x y (by omega)
end Go.Proofs.YtglnhnjmelilmaaGreatDoor
