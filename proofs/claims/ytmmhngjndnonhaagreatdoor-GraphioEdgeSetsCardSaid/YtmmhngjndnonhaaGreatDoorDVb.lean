/-
  Strings: concatenation, Itoa, a builder of the call's own; graphio's line.
  Walk: FormatGraph.
-/
import Derived.Test.YtmmhngjndnonhaaGreatDoorDVa
import Derived.Test.YtmmhngjndnonhaaGreatDoorDR1
import Derived.Test.YtmmhngjndnonhaaGreatDoorDOwn
import Derived.Test.YtmmhngjndnonhaaGreatDoorDShelfT
import Derived.Lib.AppendIntMem
import Derived.Test.YtmmhngjndnonhaaGreatDoorDGrH
import Derived.Test.YtmmhngjndnonhaaGreatDoorDTyR
set_option linter.unusedSimpArgs false
set_option linter.unusedVariables false
namespace Go.Pal
open Go Go.RowKit
theorem OwnR.others {α : Type} {e : TypeId} {k : Nat} {enc : α → Array Value} {B b : Nat} {u T : TypeId} {w w' : World} {v : Value} {l : List α} (h : OwnR e k enc B w v l) (hk : Lib.OthersKept u (some b) w w') (hu : e ≠ u) (hT : e ≠ T) (hb : ∃ c fz, w.heap[b]? = some (.cells c T fz)) : OwnR e k enc B w' v l := by
  refine ⟨h.1, ?_⟩
  rcases h.2 with h2 | ⟨g, cap, cur, h1, hB, hg, h3⟩
  · exact .inl h2
  · refine .inr ⟨g, cap, cur, h1, hB, hk g _ hg ?_ ?_, h3⟩
    · rintro hgb
      cases hgb
      obtain ⟨c, fz, hc⟩ := hb
      rw [hg] at hc
      simp only [Option.some.injEq, Obj.cells.injEq] at hc
      exact hT hc.2.1
    · intro c fz e'
      simp only [Obj.cells.injEq] at e'
      exact hu e'.2.1
theorem byteCells_one (l : List UInt8) : ∀ u ∈ Lib.byteCells l, u.oneCell' = true := by
  intro u hu
  obtain ⟨b, -, rfl⟩ := List.mem_map.1 hu
  rfl
end Go.Pal
namespace Go.Proofs.YtmmhngjndnonhaaGreatDoor
open Go Go.RowKit Go.Pal Go.Shelf

/-- Two strings put together. -/
theorem str_add {w : World} (x y : List UInt8) (h : x.length + y.length ≤ 9223372036854775807) : (Op.stringOp .add ⟨x.toArray⟩ ⟨y.toArray⟩).run Tryz.prog w = .ok (.string ⟨(x ++ y).toArray⟩) w := by
  rw [run_string_add_sum w _ _ (by simpa [ByteArray.size] using h), ByteArray.mk_append_mk]
theorem wpList_strAdd {ops : Array Oper} {rest : List Oper} {o : Oper} {a : Act} {Q : Exit → Act → World → Prop} {w : World} (hg : o.guard = none) (p q : Operand) (t s : TypeId) (ho : o.op = .binOp .add t p q s) (x y : List UInt8) (hp : a.eval p = .string ⟨x.toArray⟩) (hq : a.eval q = .string ⟨y.toArray⟩) (h : x.length + y.length ≤ 9223372036854775807)
    (hK : wpList Tryz.prog ops Q rest (a.put o.dst (.string ⟨(x ++ y).toArray⟩)) w) : wpList Tryz.prog ops Q (o :: rest) a w := by
  refine wpList_plain hg fun K' hK' => ?_
  unfold Oper.wp
  simp [execOp, ho, hp, hq, binOp, eqGuard, str_add x y h, Result.andThen]
  exact hK' _ _ hK

/-- The table of powers of ten, whatever is made from here on. -/
def Pow (w : World) : Prop := ∀ W, Below w.heap.size w W → Lib.TabIs Tryz.prog W "internal/strconv.uint64pow10" .u64 Lib.pow10Tab
theorem Pow.on {w w' : World} (h : Pow w) (hb : Below w.heap.size w w') : Pow w' := fun W hW => h W (hb.trans (hW.mono hb.size))
theorem itoa_any (n : Int) (hn : InI n) (w : World) (ht : Pow w) : Calls Tryz.prog 85 #[.int .i64 n] w fun e w' => e = .returned (.string ⟨(Lib.itoa n).toArray⟩) ∧ Below w.heap.size w w' := by
  refine (Any.strconv_Itoa Tryz.laysItoa n hn.1 hn.2 w (ht w (Below.refl _ _))).mono ?_
  rintro e w' ⟨rfl, k, os, rfl⟩
  exact ⟨rfl, Lib.below_grow _ w (Nat.le_refl _) k os⟩
/-- A builder of the call's own in block b, holding bytes. -/
def IsB (B b : Nat) (bs : List UInt8) (w : World) : Prop := Lib.IsBuilderF 169 5 B b (Lib.byteCells bs) w
theorem isB_fresh (w : World) : IsB w.heap.size w.heap.size [] (w.alloc (.cells #[.pointer none, .slice none 0 0] 169)) := Lib.IsBuilderF.of (Lib.fresh_isBuilder 169 5 w)
theorem IsB.tag {B b : Nat} {bs : List UInt8} {w : World} (h : IsB B b bs w) : ∃ c fz, w.heap[b]? = some (.cells c 169 fz) := by
  rcases h with ⟨-, v, hb, -⟩ | ⟨-, v, hb, -⟩
  · exact ⟨_, _, hb⟩
  · exact ⟨_, _, hb⟩
theorem IsB.below {B b C : Nat} {bs : List UInt8} {w w' : World} (h : IsB B b bs w) (hb : Below C w w') (hC : w.heap.size ≤ C) : IsB B b bs w' := by
  have key : ∀ p, Lib.BuilderAtF 169 5 B b p (Lib.byteCells bs) w → Lib.BuilderAtF 169 5 B b p (Lib.byteCells bs) w' := by
    rintro p ⟨h1, v, h2, h3, h4⟩
    have hlt := (Array.getElem?_eq_some_iff.1 h2).1
    refine ⟨h1, v, (hb.block b (by omega)).trans h2, ⟨h3.1, ?_⟩, h4⟩
    rcases h3.2 with h5 | ⟨g, cap, cur, fz, h5, h6, h7, h8⟩
    · exact .inl h5
    · have hg := (Array.getElem?_eq_some_iff.1 h7).1
      exact .inr ⟨g, cap, cur, fz, h5, h6, (hb.block g (by omega)).trans h7, h8⟩
  exact h.imp (key _) (key _)
theorem write_any (B b : Nat) (bs s : List UInt8) (w : World) (h : IsB B b bs w) (hlen : bs.length + s.length ≤ 140737488355328) (hB : B ≤ w.heap.size) :
    Calls Tryz.prog 95 #[.pointer (some ⟨b, 0, none⟩), .string ⟨s.toArray⟩] w fun e w' => e = .returned (.tuple #[.int .i64 (s.length : Int), .nilIface]) ∧ IsB B b (bs ++ s) w' ∧ Below B w w' ∧ Lib.OthersKept 5 (some b) w w' := by
  refine (Any.Builder_WriteString_k (ρ := Tryz.laysJoin_ren) { Tryz.laysJoin with } Tryz.extraJoin B b (Lib.byteCells bs) ⟨s.toArray⟩ w h (by simpa [Lib.byteCells, ByteArray.size] using hlen) hB).mono ?_
  rintro e w' ⟨rfl, h1, h2, h3⟩
  refine ⟨by simp [ByteArray.size], .inr ?_, h2, h3⟩
  have e1 : Lib.byteCells (bs ++ s) = Lib.byteCells bs ++ Lib.strCells ⟨s.toArray⟩ := by simp [Lib.byteCells, Lib.strCells]
  rw [e1]
  exact h1
theorem built_any (B b : Nat) (bs : List UInt8) (w : World) (h : IsB B b bs w) (hB : B ≤ w.heap.size) :
    Calls Tryz.prog 97 #[.pointer (some ⟨b, 0, none⟩)] w fun e w' => e = .returned (.string ⟨bs.toArray⟩) ∧ Below B w w' :=
  (Any.Builder_String_any_k Tryz.laysString Tryz.extraString B b bs w h hB).mono fun e w' ⟨h1, _, h2, _⟩ => ⟨h1, h2⟩
set_option maxRecDepth 10000 in
set_option maxHeartbeats 2000000 in
theorem line_any (s : List UInt8) (hs : s.length ≤ 100) (ns : List Int) (hn : ∀ n ∈ ns, InI n) (hl : ns.length ≤ 100) (v : Value) (w : World) (hv : RdL w v ns) (ht : Pow w) :
    Calls Tryz.prog 96 #[.string ⟨s.toArray⟩, v] w fun e w' => e = .returned (.string ⟨(lineB s ns).toArray⟩) ∧ Below w.heap.size w w' := by
  have HV := Lib.hid hv
  have HN := Lib.hid hn
  have HT := Lib.hid ht
  have HS := Lib.hid hs
  obtain ⟨a, c, rfl, -⟩ := hv
  clear hn ht hs
  go_enter Tryz.func96, Tryz.ntmps96
  go_wp2_with fail
  go_loopw [0, 9] (fun sv i wr => ∃ k : Nat, k ≤ ns.length ∧ i = .int .i64 (k : Int) ∧ sv = .string ⟨(lineB s (ns.take k)).toArray⟩ ∧ Below w.heap.size w wr) (fun _ i _ => ns.length - (intOf i).toNat)
  case atStart => exact ⟨0, by omega, rfl, by simp [lineB], Below.refl _ _⟩
  case round =>
    obtain ⟨k, hk, rfl, rfl, hb⟩ := hrel
    have HB := Lib.hid hb
    clear hb
    by_cases hlt : k < ns.length
    · obtain ⟨b, off, c', z, h1, hz, hc⟩ := HV.out.at hlt
      simp only [Value.slice.injEq] at h1
      obtain ⟨rfl, -, rfl⟩ := h1
      have c0 := hc wr HB.out
      have hzi := HN.out z (List.mem_of_getElem? hz)
      have hlz := Lib.itoa_length_le z hzi.1 hzi.2
      have hls := lineB_len (s := s) (ns := ns.take k) fun n hn => HN.out n (List.mem_of_mem_take hn)
      rw [List.length_take] at hls
      have hss := HS.out
      have HE := Lib.hid (show lineB s (ns.take (k + 1)) = lineB s (ns.take k) ++ spNum z by rw [List.take_add_one, hz]; exact lineB_snoc _ _ _)
      have HZ := Lib.hid hzi
      obtain ⟨acc, hacc⟩ : ∃ acc, acc = lineB s (ns.take k) := ⟨_, rfl⟩
      rw [← hacc] at HE hls ⊢
      have hal : acc.length ≤ 10000 := by omega
      clear hz hc hzi hacc hls
      go_wp2_with fail
      refine (itoa_any z HZ.out wr (HT.out.on HB.out)).mono ?_
      rintro r w2 ⟨rfl, hb2⟩
      have HB2 := Lib.hid (HB.out.trans (hb2.mono HB.out.size))
      clear hb2 c0
      go_wp2_with (first | (refine wpList_strAdd rfl _ _ _ _ rfl [32] (Lib.itoa z) rfl rfl (by simp; omega) ?_) | (refine wpList_strAdd rfl _ _ _ _ rfl acc _ rfl rfl (by simp; omega) ?_))
      go_roundw
      case rel => exact ⟨k + 1, by omega, by go_num, by rw [HE.out]; rfl, HB2.out⟩
      case measure => simp [intOf]; omega
    · have hkn : k = ns.length := by omega
      subst hkn
      go_wp2_with fail
      go_ret
      exact ⟨by first | rfl | (rw [List.take_length]; rfl), HB.out⟩
end Go.Proofs.YtmmhngjndnonhaaGreatDoor
namespace Go.Pal
open Go Go.RowKit
theorem rdl_lit3 (w : World) (t : TypeId) (a b c : Int) (k : Nat) : RdL (w.alloc (.cells #[.int .i64 a, .int .i64 b, .int .i64 c] t)) (.slice (some ⟨w.heap.size, 0, none⟩) 3 k) [a, b, c] := by
  refine ⟨_, k, rfl, .inr ⟨w.heap.size, 0, rfl, by simp, fun i z hz => ?_⟩⟩
  rw [Nat.zero_add, cell?_row (row?_alloc_at _ _ _ _ rfl)]
  match i, hz with
  | 0, hz => simp at hz; subst hz; rfl
  | 1, hz => simp at hz; subst hz; rfl
  | 2, hz => simp at hz; subst hz; rfl
  | i + 3, hz => simp at hz
theorem rdl_lit4 (w : World) (t : TypeId) (a b c d : Int) (k : Nat) : RdL (w.alloc (.cells #[.int .i64 a, .int .i64 b, .int .i64 c, .int .i64 d] t)) (.slice (some ⟨w.heap.size, 0, none⟩) 4 k) [a, b, c, d] := by
  refine ⟨_, k, rfl, .inr ⟨w.heap.size, 0, rfl, by simp, fun i z hz => ?_⟩⟩
  rw [Nat.zero_add, cell?_row (row?_alloc_at _ _ _ _ rfl)]
  match i, hz with
  | 0, hz => simp at hz; subst hz; rfl
  | 1, hz => simp at hz; subst hz; rfl
  | 2, hz => simp at hz; subst hz; rfl
  | 3, hz => simp at hz; subst hz; rfl
  | i + 4, hz => simp at hz
end Go.Pal
namespace Go.Proofs.YtmmhngjndnonhaaGreatDoor
open Go Go.RowKit Go.Pal Go.Shelf

@[go_sem ↓ high] theorem loadVXc (a : Addr) : loadVar 92 a = loadLater 92 a := rfl
@[go_sem ↓ high] theorem storeVXc (a : Addr) (v : Value) : storeVar 92 a v = storeLater 92 a v := rfl
@[go_sem] theorem loadVXc_run (w : World) (a : Addr) : (loadLater 92 a).run Tryz.prog w = rowLoad Tryz.prog 92 a w := rfl
@[go_sem] theorem storeVXc_run (w : World) (a : Addr) (v : Value) : (storeLater 92 a v).run Tryz.prog w = rowStore Tryz.prog 92 a v w := rfl
@[go_sem] theorem loadVXc_at (w : World) (g : Nat) : rowLoad Tryz.prog 92 ⟨g, 0, none⟩ w = match row? w g with
      | some c => if c.size = 3 then .ok (.agg c) w else laterLoad Tryz.prog 92 ⟨g, 0, none⟩ w
      | none => laterLoad Tryz.prog 92 ⟨g, 0, none⟩ w := load_row Tryz.isAgg92 Tryz.sizeOf92 w g
@[go_sem] theorem storeVXc_at (w : World) (g : Nat) (d : Array Value) : rowStore Tryz.prog 92 ⟨g, 0, none⟩ (.agg d) w = match row? w g with
      | some c => if c.size = 3 ∧ d.size = 3 ∧ allOne d = true then .ok () (w.setRow g d) else laterStore Tryz.prog 92 ⟨g, 0, none⟩ (.agg d) w
      | none => laterStore Tryz.prog 92 ⟨g, 0, none⟩ (.agg d) w := store_row Tryz.sizeOf92 w g d
@[go_sem ↓ high] theorem zeroVXc (w : World) : (zeroValue 92).run Tryz.prog w = .ok (.agg #[.int .i64 0, .int .u8 0, .int .i64 0]) w := by kernel_rfl
@[go_sem ↓ high] theorem loadEXc (a : Addr) : loadVar 98 a = loadLater 98 a := rfl
@[go_sem ↓ high] theorem storeEXc (a : Addr) (v : Value) : storeVar 98 a v = storeLater 98 a v := rfl
@[go_sem] theorem loadEXc_run (w : World) (a : Addr) : (loadLater 98 a).run Tryz.prog w = rowLoad Tryz.prog 98 a w := rfl
@[go_sem] theorem storeEXc_run (w : World) (a : Addr) (v : Value) : (storeLater 98 a v).run Tryz.prog w = rowStore Tryz.prog 98 a v w := rfl
@[go_sem] theorem loadEXc_at (w : World) (g : Nat) : rowLoad Tryz.prog 98 ⟨g, 0, none⟩ w = match row? w g with
      | some c => if c.size = 4 then .ok (.agg c) w else laterLoad Tryz.prog 98 ⟨g, 0, none⟩ w
      | none => laterLoad Tryz.prog 98 ⟨g, 0, none⟩ w := load_row Tryz.isAgg98 Tryz.sizeOf98 w g
@[go_sem] theorem storeEXc_at (w : World) (g : Nat) (d : Array Value) : rowStore Tryz.prog 98 ⟨g, 0, none⟩ (.agg d) w = match row? w g with
      | some c => if c.size = 4 ∧ d.size = 4 ∧ allOne d = true then .ok () (w.setRow g d) else laterStore Tryz.prog 98 ⟨g, 0, none⟩ (.agg d) w
      | none => laterStore Tryz.prog 98 ⟨g, 0, none⟩ (.agg d) w := store_row Tryz.sizeOf98 w g d
@[go_sem ↓ high] theorem zeroEXc (w : World) : (zeroValue 98).run Tryz.prog w = .ok (.agg #[.int .i64 0, .int .i64 0, .int .u8 0, .int .i64 0]) w := by kernel_rfl
@[go_sem ↓ high] theorem bs_i3 (a b c : Int) (w : World) : (Instr.buildSlice 47 3 #[(0, .int .i64 a), (1, .int .i64 b), (2, .int .i64 c)]).run Tryz.prog w = .ok (.slice (some ⟨w.heap.size, 0, none⟩) 3 3) (w.alloc (.cells #[.int .i64 a, .int .i64 b, .int .i64 c] 3)) := by kernel_rfl
@[go_sem ↓ high] theorem bs_i4 (a b c d : Int) (w : World) : (Instr.buildSlice 47 4 #[(0, .int .i64 a), (1, .int .i64 b), (2, .int .i64 c), (3, .int .i64 d)]).run Tryz.prog w = .ok (.slice (some ⟨w.heap.size, 0, none⟩) 4 4) (w.alloc (.cells #[.int .i64 a, .int .i64 b, .int .i64 c, .int .i64 d] 3)) := by kernel_rfl
theorem zeroB (w : World) : (zeroValue 169).run Tryz.prog w = .ok (.agg #[.pointer none, .slice none 0 0]) w := Tryz.zeroValue169 w
set_option maxRecDepth 10000 in
set_option maxHeartbeats 4000000 in
theorem format_any (g bV bE : Nat) (G : Gr) (hG : G.Ok) (w : World) (h : GOk w g bV bE G) (ht : Pow w) :
    Calls Tryz.prog 42 #[.pointer (some ⟨g, 0, none⟩)] w fun e w' => e = .returned (.string ⟨G.text.toArray⟩) ∧ Below w.heap.size w w' := by
  have HG := Lib.hid hG
  have H0 := Lib.hid h
  have HT := Lib.hid ht
  have hlV := hG.len
  have hlE := hG.most
  obtain ⟨LV, hLV⟩ : ∃ LV, LV = G.V.length := ⟨_, rfl⟩
  obtain ⟨LE, hLE⟩ : ∃ LV, LV = G.E.length := ⟨_, rfl⟩
  have HLV := Lib.hid hLV
  have HLE := Lib.hid hLE
  rw [← hLV] at hlV
  rw [← hLE] at hlE
  clear h hG ht hLV hLE
  go_enter Tryz.func42, Tryz.ntmps42
  go_wp2_with fail
  obtain ⟨W0, hW0⟩ : ∃ W0, W0 = w.alloc (.cells #[.pointer none, .slice none 0 0] 169) := ⟨_, rfl⟩
  have hI0 : IsB w.heap.size w.heap.size [] W0 := by rw [hW0]; exact isB_fresh w
  have hB0 : Below w.heap.size w W0 := by rw [hW0]; exact (Below.refl _ w).alloc (Nat.le_refl _) _
  rw [← hW0]
  clear hW0
  refine (gvertices_any g bV bE G HG.out W0 (H0.out.below hB0)).mono ?_
  rintro e w1 ⟨vV, rfl, hO1, hb1⟩
  have hI1 := hI0.below hb1 (Nat.le_refl _)
  have hs0 := hB0.size
  have HI1 := Lib.hid hI1
  have HB1 := Lib.hid (hB0.trans (hb1.mono hs0))
  have HO1 := Lib.hid (hO1.lower hs0)
  obtain ⟨qa, qc, rfl⟩ := hO1.sl
  rw [← HLV.out] at HO1 ⊢
  clear hI0 hB0 hI1 hO1 hb1 hs0
  go_wp2_with fail
  go_loopw [11] (fun i wr => ∃ k : Nat, k ≤ LV ∧ i = .int .i64 (k : Int) ∧ IsB w.heap.size w.heap.size ((G.V.take k).flatMap vLine) wr ∧ OwnV w.heap.size wr (.slice qa LV qc) G.V ∧ Below w.heap.size w wr) (fun i _ => LV - (intOf i).toNat)
  case atStart => exact ⟨0, by omega, rfl, by simpa using HI1.out, HO1.out, HB1.out⟩
  case round =>
    obtain ⟨k, hk, rfl, hI, hO, hb⟩ := hrel
    have HI := Lib.hid hI
    have HO := Lib.hid hO
    have HB := Lib.hid hb
    have hs := hb.size
    have htl := Gr.textV_len HG.out k
    by_cases hlt : k < LV
    · obtain ⟨b, off, c', y, h1, hbb, hy, hc⟩ := (show Rd vtxA 3 wr.heap.size wr _ G.V from hO.rd elV).at (by rw [← HLV.out]; exact hlt)
      simp only [Value.slice.injEq] at h1
      obtain ⟨rfl, -, rfl⟩ := h1
      have hym := List.mem_of_getElem? hy
      have hid := HG.out.ids y hym
      obtain ⟨ht1, ht2, ht3⟩ := HG.out.thV y hym
      have HE := Lib.hid (flatMap_take_snoc (f := vLine) hy)
      have HL := Lib.hid (vLine_len HG.out hym)
      obtain ⟨yi, yl, yw⟩ := y
      simp only at hid ht1 ht2 ht3
      have HN : Hid (∀ n ∈ [yi, (yl : Int), yw], InI n) := Lib.hid (by
        intro n hn
        simp only [List.mem_cons, List.not_mem_nil, or_false] at hn
        rcases hn with rfl | rfl | rfl
        · exact inI_of (by omega) (by omega)
        · exact inI_of (by omega) (by omega)
        · exact inI_of (by omega) (by omega))
      have jl : rowLoad Tryz.prog 92 ⟨b, off + k * 3, none⟩ wr = .ok (.agg #[.int .i64 yi, .int .u8 (yl : Int), .int .i64 yw]) wr := load_cells Tryz.isAgg92 Tryz.sizeOf92 wr b _ _ rfl fun j u hu => hc wr (Below.refl _ _) j u hu
      have hwr : wrap64 (yl : Int) = (yl : Int) := by unfold wrap64; omega
      have hrt : row? (wr.alloc (.cells #[.int .i64 yi, .int .u8 (yl : Int), .int .i64 yw] 92)) wr.heap.size = some #[.int .i64 yi, .int .u8 (yl : Int), .int .i64 yw] := row?_alloc_at _ _ _ _ rfl
      obtain ⟨acc, hacc⟩ : ∃ acc, acc = (G.V.take k).flatMap vLine := ⟨_, rfl⟩
      rw [← hacc] at HI HE htl
      clear hI hO hb hbb hy hc hym hid ht1 ht2 ht3 hacc
      go_wp2_with fail
      generalize hW2 : World.alloc (World.alloc wr _) _ = W2
      have hB2 : Below wr.heap.size wr W2 := by rw [← hW2]; exact ((Below.refl _ wr).alloc (Nat.le_refl _) _).alloc (by simp) _
      have hR2 : RdL W2 (.slice (some ⟨wr.heap.size + 1, 0, none⟩) 3 3) [yi, (yl : Int), yw] := by
        rw [← hW2]
        have := rdl_lit3 (wr.alloc (.cells #[.int .i64 yi, .int .u8 (yl : Int), .int .i64 yw] 92)) 3 yi (yl : Int) yw 3
        simpa using this
      clear hW2 jl hrt
      refine (line_any [118, 101, 114, 116, 101, 120] (by simp) [yi, (yl : Int), yw] HN.out (by simp) _ W2 hR2 (HT.out.on (HB.out.trans (hB2.mono hs)))).mono ?_
      rintro r w3 ⟨rfl, hb3⟩
      have hb03 : Below wr.heap.size wr w3 := hB2.trans (hb3.mono hB2.size)
      have HB3 := Lib.hid hb03
      have hll : (lineB [118, 101, 114, 116, 101, 120] [yi, (yl : Int), yw]).length + 1 ≤ 73 := by
        have := HL.out
        unfold vLine at this
        simpa using this
      have HVL : Hid (vLine (yi, yl, yw) = lineB [118, 101, 114, 116, 101, 120] [yi, (yl : Int), yw] ++ [10]) := Lib.hid rfl
      obtain ⟨ll, hlleq⟩ : ∃ ll, ll = lineB [118, 101, 114, 116, 101, 120] [yi, (yl : Int), yw] := ⟨_, rfl⟩
      rw [← hlleq] at hll HVL ⊢
      clear hB2 hR2 hb3 hb03 hlleq
      go_wp2_with (refine wpList_strAdd rfl _ _ _ _ rfl ll [10] rfl rfl (by simp; omega) ?_)
      refine (write_any w.heap.size w.heap.size acc (ll ++ [10]) w3 (HI.out.below HB3.out (Nat.le_refl _)) (by simp; omega) (by have := HB3.out.size; omega)).mono ?_
      rintro r w4 ⟨rfl, hI4, hb4, hk4⟩
      have hO4 := (HO.out.below HB3.out (Nat.le_refl _)).others hk4 (by decide) (by decide) (HI.out.below HB3.out (Nat.le_refl _)).tag
      have HI4 := Lib.hid hI4
      have HO4 := Lib.hid hO4
      have HB4 := Lib.hid ((HB.out.trans (HB3.out.mono hs)).trans hb4)
      clear hI4 hO4 hb4 hk4
      go_wp2_with fail
      go_roundw
      case rel => exact ⟨k + 1, by omega, by go_num, by rw [HE.out, HVL.out]; exact HI4.out, HO4.out, HB4.out⟩
      case measure => simp [intOf]; omega
    · have hkn : LV = k := by omega
      subst hkn
      rw [show G.V.take LV = G.V by rw [HLV.out, List.take_length]] at HI htl
      clear hI hO hb
      obtain ⟨accV, haccV⟩ : ∃ acc, acc = G.V.flatMap vLine := ⟨_, rfl⟩
      rw [← haccV] at HI htl
      have HACC := Lib.hid haccV
      clear haccV
      go_wp2_with fail
      refine (gedges_any g bV bE G HG.out wr (H0.out.below HB.out)).mono ?_
      rintro e w5 ⟨vE, rfl, hO5, hb5⟩
      have HI5 := Lib.hid (HI.out.below hb5 (Nat.le_refl _))
      have HB5 := Lib.hid (HB.out.trans (hb5.mono hs))
      have HO5 := Lib.hid (hO5.lower hs)
      obtain ⟨ra, rc, rfl⟩ := hO5.sl
      rw [← HLE.out] at HO5 ⊢
      clear hO5 hb5 HO HI
      go_wp2_with fail
      obtain ⟨Wm, hWm⟩ : ∃ Wm, Wm = wr := ⟨_, rfl⟩
      clear hWm
      go_loopw [30] (fun i wr => ∃ k : Nat, k ≤ LE ∧ i = .int .i64 (k : Int) ∧ IsB w.heap.size w.heap.size (accV ++ (G.E.take k).flatMap eLine) wr ∧ OwnE w.heap.size wr (.slice ra LE rc) G.E ∧ Below w.heap.size w wr) (fun i _ => LE - (intOf i).toNat)
      case atStart => exact ⟨0, by omega, rfl, by simpa using HI5.out, HO5.out, HB5.out⟩
      case round =>
        obtain ⟨k, hk, rfl, hI, hO, hb⟩ := hrel
        have HI := Lib.hid hI
        have HO := Lib.hid hO
        have HB := Lib.hid hb
        have hs := hb.size
        have htlE := Gr.textE_len HG.out k
        by_cases hlt : k < LE
        · obtain ⟨b, off, c', y, h1, hbb, hy, hc⟩ := (show Rd edgA 4 wr.heap.size wr _ G.E from hO.rd elE).at (by rw [← HLE.out]; exact hlt)
          simp only [Value.slice.injEq] at h1
          obtain ⟨rfl, -, rfl⟩ := h1
          have hym := List.mem_of_getElem? hy
          have hid := HG.out.endsI y hym
          obtain ⟨ht1, ht2, ht3⟩ := HG.out.thE y hym
          have HE := Lib.hid (flatMap_take_snoc (f := eLine) hy)
          have HL := Lib.hid (eLine_len HG.out hym)
          obtain ⟨⟨yu, yv⟩, yl, yw⟩ := y
          simp only at hid ht1 ht2 ht3
          have HN : Hid (∀ n ∈ [yu, yv, (yl : Int), yw], InI n) := Lib.hid (by
            intro n hn
            simp only [List.mem_cons, List.not_mem_nil, or_false] at hn
            rcases hn with rfl | rfl | rfl | rfl
            · exact inI_of (by omega) (by omega)
            · exact inI_of (by omega) (by omega)
            · exact inI_of (by omega) (by omega)
            · exact inI_of (by omega) (by omega))
          have jl : rowLoad Tryz.prog 98 ⟨b, off + k * 4, none⟩ wr = .ok (.agg #[.int .i64 yu, .int .i64 yv, .int .u8 (yl : Int), .int .i64 yw]) wr := load_cells Tryz.isAgg98 Tryz.sizeOf98 wr b _ _ rfl fun j u hu => hc wr (Below.refl _ _) j u hu
          have hwr : wrap64 (yl : Int) = (yl : Int) := by unfold wrap64; omega
          have hrt : row? (wr.alloc (.cells #[.int .i64 yu, .int .i64 yv, .int .u8 (yl : Int), .int .i64 yw] 98)) wr.heap.size = some #[.int .i64 yu, .int .i64 yv, .int .u8 (yl : Int), .int .i64 yw] := row?_alloc_at _ _ _ _ rfl
          obtain ⟨acc, hacc⟩ : ∃ acc, acc = accV ++ (G.E.take k).flatMap eLine := ⟨_, rfl⟩
          have hal : acc.length ≤ 200000 := by rw [hacc, List.length_append]; omega
          have HE2 : Hid (accV ++ (G.E.take (k + 1)).flatMap eLine = acc ++ eLine ((yu, yv), yl, yw)) := Lib.hid (by rw [HE.out, hacc, List.append_assoc])
          rw [← hacc] at HI
          clear hI hO hb hbb hy hc hym hid ht1 ht2 ht3 hacc HE htlE
          go_wp2_with fail
          generalize hW2 : World.alloc (World.alloc wr _) _ = W2
          have hB2 : Below wr.heap.size wr W2 := by rw [← hW2]; exact ((Below.refl _ wr).alloc (Nat.le_refl _) _).alloc (by simp) _
          have hR2 : RdL W2 (.slice (some ⟨wr.heap.size + 1, 0, none⟩) 4 4) [yu, yv, (yl : Int), yw] := by
            rw [← hW2]
            have := rdl_lit4 (wr.alloc (.cells #[.int .i64 yu, .int .i64 yv, .int .u8 (yl : Int), .int .i64 yw] 98)) 3 yu yv (yl : Int) yw 4
            simpa using this
          clear hW2 jl hrt
          refine (line_any [101, 100, 103, 101] (by simp) [yu, yv, (yl : Int), yw] HN.out (by simp) _ W2 hR2 (HT.out.on (HB.out.trans (hB2.mono hs)))).mono ?_
          rintro r w3 ⟨rfl, hb3⟩
          have hb03 : Below wr.heap.size wr w3 := hB2.trans (hb3.mono hB2.size)
          have HB3 := Lib.hid hb03
          have hll : (lineB [101, 100, 103, 101] [yu, yv, (yl : Int), yw]).length + 1 ≤ 93 := by
            have := HL.out
            unfold eLine at this
            simpa using this
          have HVL : Hid (eLine ((yu, yv), yl, yw) = lineB [101, 100, 103, 101] [yu, yv, (yl : Int), yw] ++ [10]) := Lib.hid rfl
          obtain ⟨ll, hlleq⟩ : ∃ ll, ll = lineB [101, 100, 103, 101] [yu, yv, (yl : Int), yw] := ⟨_, rfl⟩
          rw [← hlleq] at hll HVL ⊢
          clear hB2 hR2 hb3 hb03 hlleq
          go_wp2_with (refine wpList_strAdd rfl _ _ _ _ rfl ll [10] rfl rfl (by simp; omega) ?_)
          refine (write_any w.heap.size w.heap.size acc (ll ++ [10]) w3 (HI.out.below HB3.out (Nat.le_refl _)) (by simp; omega) (by have := HB3.out.size; omega)).mono ?_
          rintro r w4 ⟨rfl, hI4, hb4, hk4⟩
          have hO4 := (HO.out.below HB3.out (Nat.le_refl _)).others hk4 (by decide) (by decide) (HI.out.below HB3.out (Nat.le_refl _)).tag
          have HI4 := Lib.hid hI4
          have HO4 := Lib.hid hO4
          have HB4 := Lib.hid ((HB.out.trans (HB3.out.mono hs)).trans hb4)
          clear hI4 hO4 hb4 hk4
          go_wp2_with fail
          go_roundw
          case rel => exact ⟨k + 1, by omega, by go_num, by rw [HE2.out, HVL.out]; exact HI4.out, HO4.out, HB4.out⟩
          case measure => simp [intOf]; omega
        · have hkn : LE = k := by omega
          subst hkn
          rw [show G.E.take LE = G.E by rw [HLE.out, List.take_length]] at HI
          have HTx : Hid (accV ++ G.E.flatMap eLine = G.text) := Lib.hid (by rw [HACC.out]; rfl)
          rw [HTx.out] at HI
          clear hI hO hb
          go_wp2_with fail
          refine (built_any w.heap.size w.heap.size G.text wr HI.out hs).mono ?_
          rintro r w6 ⟨rfl, hb6⟩
          have HB6 := Lib.hid (HB.out.trans hb6)
          clear hb6
          go_wp2_with fail
          go_ret
          exact ⟨rfl, HB6.out⟩
end Go.Proofs.YtmmhngjndnonhaaGreatDoor
