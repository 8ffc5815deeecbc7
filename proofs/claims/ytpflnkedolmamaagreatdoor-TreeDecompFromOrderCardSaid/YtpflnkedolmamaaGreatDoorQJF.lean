/-
  Walks: graph.Build of a graph's own vertices and edges, the law's From.
-/
import Derived.Test.YtpflnkedolmamaaGreatDoorQJE
namespace Go.Proofs.YtpflnkedolmamaaGreatDoor
open Go Go.RowKit Go.Pal
attribute [local go_sem] Oper.semAt_some

@[go_sem ↓ high] theorem loadVX (a : Addr) : loadVar 146 a = loadLater 146 a := rfl
@[go_sem ↓ high] theorem storeVX (a : Addr) (v : Value) : storeVar 146 a v = storeLater 146 a v := rfl
@[go_sem] theorem loadVX_run (w : World) (a : Addr) : (loadLater 146 a).run Tryz.prog w = rowLoad Tryz.prog 146 a w := rfl
@[go_sem] theorem storeVX_run (w : World) (a : Addr) (v : Value) : (storeLater 146 a v).run Tryz.prog w = rowStore Tryz.prog 146 a v w := rfl
@[go_sem] theorem loadVX_at (w : World) (g : Nat) : rowLoad Tryz.prog 146 ⟨g, 0, none⟩ w = match row? w g with
      | some c => if c.size = 3 then .ok (.agg c) w else laterLoad Tryz.prog 146 ⟨g, 0, none⟩ w
      | none => laterLoad Tryz.prog 146 ⟨g, 0, none⟩ w := load_row Tryz.isAgg146 Tryz.sizeOf146 w g
@[go_sem] theorem storeVX_at (w : World) (g : Nat) (d : Array Value) : rowStore Tryz.prog 146 ⟨g, 0, none⟩ (.agg d) w = match row? w g with
      | some c => if c.size = 3 ∧ d.size = 3 ∧ allOne d = true then .ok () (w.setRow g d) else laterStore Tryz.prog 146 ⟨g, 0, none⟩ (.agg d) w
      | none => laterStore Tryz.prog 146 ⟨g, 0, none⟩ (.agg d) w := store_row Tryz.sizeOf146 w g d
@[go_sem ↓ high] theorem zeroVX (w : World) : (zeroValue 146).run Tryz.prog w = .ok (.agg #[.int .i64 0, .int .u8 0, .int .i64 0]) w := by kernel_rfl
@[go_sem ↓ high] theorem loadEX (a : Addr) : loadVar 127 a = loadLater 127 a := rfl
@[go_sem ↓ high] theorem storeEX (a : Addr) (v : Value) : storeVar 127 a v = storeLater 127 a v := rfl
@[go_sem] theorem loadEX_run (w : World) (a : Addr) : (loadLater 127 a).run Tryz.prog w = rowLoad Tryz.prog 127 a w := rfl
@[go_sem] theorem storeEX_run (w : World) (a : Addr) (v : Value) : (storeLater 127 a v).run Tryz.prog w = rowStore Tryz.prog 127 a v w := rfl
@[go_sem] theorem loadEX_at (w : World) (g : Nat) : rowLoad Tryz.prog 127 ⟨g, 0, none⟩ w = match row? w g with
      | some c => if c.size = 4 then .ok (.agg c) w else laterLoad Tryz.prog 127 ⟨g, 0, none⟩ w
      | none => laterLoad Tryz.prog 127 ⟨g, 0, none⟩ w := load_row Tryz.isAgg127 Tryz.sizeOf127 w g
@[go_sem] theorem storeEX_at (w : World) (g : Nat) (d : Array Value) : rowStore Tryz.prog 127 ⟨g, 0, none⟩ (.agg d) w = match row? w g with
      | some c => if c.size = 4 ∧ d.size = 4 ∧ allOne d = true then .ok () (w.setRow g d) else laterStore Tryz.prog 127 ⟨g, 0, none⟩ (.agg d) w
      | none => laterStore Tryz.prog 127 ⟨g, 0, none⟩ (.agg d) w := store_row Tryz.sizeOf127 w g d
@[go_sem ↓ high] theorem zeroEX (w : World) : (zeroValue 127).run Tryz.prog w = .ok (.agg #[.int .i64 0, .int .i64 0, .int .u8 0, .int .i64 0]) w := by kernel_rfl
@[go_sem ↓ high] theorem b_EdV (u l t : Int) (w : World) : (Instr.build 95 #[(0, .int .i64 0), (1, .int .i64 u), (3, .int .u8 l), (4, .int .i64 t)]).run Tryz.prog w = .ok (.agg #[.int .i64 0, .int .i64 u, .int .i64 0, .int .u8 l, .int .i64 t]) w := by kernel_rfl
@[go_sem ↓ high] theorem b_EdE (u v l t : Int) (w : World) : (Instr.build 95 #[(0, .int .i64 2), (1, .int .i64 u), (2, .int .i64 v), (3, .int .u8 l), (4, .int .i64 t)]).run Tryz.prog w = .ok (.agg #[.int .i64 2, .int .i64 u, .int .i64 v, .int .u8 l, .int .i64 t]) w := by kernel_rfl
set_option maxRecDepth 10000 in
set_option maxHeartbeats 4000000 in
theorem gbuild_any (G : Gr) (hG : G.Ok) (va ve : Value) (w : World) (hv : Rd vtxA 3 w.heap.size w va G.V) (he : Rd edgA 4 w.heap.size w ve G.E) :
    Calls Tryz.prog 116 #[va, ve] w fun r w' => ∃ g bV bE, r = .returned (.tuple #[.pointer (some ⟨g, 0, none⟩), .int .i64 0]) ∧ GOk w' g bV bE G ∧ (w.heap.size ≤ g ∧ w.heap.size ≤ bV ∧ w.heap.size ≤ bE) ∧ Below w.heap.size w w' := by
  have HV := Lib.hid hv
  have HE := Lib.hid he
  have HG := Lib.hid hG
  have hlV := hG.len
  have hlE := hG.most
  obtain ⟨aV, cV, rfl⟩ := hv.sl
  obtain ⟨aE, cE, rfl⟩ := he.sl
  clear hv he hG
  obtain ⟨LV, hLV⟩ : ∃ LV, LV = G.V.length := ⟨_, rfl⟩
  obtain ⟨LE, hLE⟩ : ∃ LV, LV = G.E.length := ⟨_, rfl⟩
  have HLV := Lib.hid hLV
  have HLE := Lib.hid hLE
  rw [← hLV] at HV hlV ⊢
  rw [← hLE] at HE hlE ⊢
  clear hLV hLE
  go_enter Tryz.func116, Tryz.ntmps116
  go_wp2_with fail
  refine (gnew_ok w).mono ?_
  rintro e w1 ⟨g, bV, bE, rfl, hG1, hg0, hV0, hE0, hb1⟩
  have HG1 := Lib.hid hG1
  have HB1 := Lib.hid hb1
  clear hG1 hb1
  go_wp2_with fail
  go_loopw [16] (fun i wr => ∃ k : Nat, k ≤ LV ∧ i = .int .i64 (k : Int) ∧ GOk wr g bV bE (G.vPart k) ∧ Below w.heap.size w wr) (fun i _ => LV - (intOf i).toNat)
  case atStart => exact ⟨0, by omega, rfl, HG1.out, HB1.out⟩
  case round =>
    obtain ⟨k, hk, rfl, hGk, hb⟩ := hrel
    have HGk := Lib.hid hGk
    have HB := Lib.hid hb
    have hs := hb.size
    clear hGk hb
    by_cases hlt : k < LV
    · obtain ⟨b, off, c', y, h1, hb, hy, hc⟩ := HV.out.at (by rw [← HLV.out]; exact hlt)
      simp only [Value.slice.injEq] at h1
      obtain ⟨rfl, -, rfl⟩ := h1
      have hwf := vEd_wf HG.out (List.mem_of_getElem? hy)
      have hwr := Gr.v_wrong HG.out hy
      have hap := Gr.v_app HG.out hy
      obtain ⟨yi, yl, yw⟩ := y
      have HAp := Lib.hid fun W (hW : GOk W g bV bE (G.vPart k)) => gapply_any (vEd (yi, yl, yw)) hwf (.inl rfl) g bV bE (G.vPart k) (Gr.vPart_ok HG.out k) W hW
      rw [hwr, hap, show edC (vEd (yi, yl, yw)) = #[.int .i64 0, .int .i64 yi, .int .i64 0, .int .u8 (yl : Int), .int .i64 yw] from rfl] at HAp
      have jl : rowLoad Tryz.prog 146 ⟨b, off + k * 3, none⟩ wr = .ok (.agg #[.int .i64 yi, .int .u8 (yl : Int), .int .i64 yw]) wr := load_cells Tryz.isAgg146 Tryz.sizeOf146 wr b _ _ rfl fun j u hu => hc wr HB.out j u hu
      have hrt : row? (wr.alloc (.cells #[.int .i64 yi, .int .u8 (yl : Int), .int .i64 yw] 146)) wr.heap.size = some #[.int .i64 yi, .int .u8 (yl : Int), .int .i64 yw] := row?_alloc_at _ _ _ _ rfl
      clear hwf hwr hap hy hc
      go_wp2_with fail
      refine (HAp.out _ (HGk.out.below ((Below.refl _ wr).alloc (Nat.le_refl _) _))).mono ?_
      rintro r w2 ⟨rfl, hG2, hS2⟩
      have HB2 := Lib.hid ((HB.out.alloc hs _).trans (hS2.below (by simp; omega) fun j hj => by omega))
      have HG2 := Lib.hid hG2
      clear hG2 hS2 HAp jl hrt
      go_wp2_with fail
      go_roundw
      case rel => exact ⟨k + 1, by omega, by go_num, HG2.out, HB2.out⟩
      case measure => simp [intOf]; omega
    · have hkn : LV = k := by omega
      subst hkn
      have he0 : G.vPart LV = G.ePart 0 := by simp [Gr.vPart, Gr.ePart, HLV.out]
      rw [he0] at HGk
      clear he0
      go_wp2_with fail
      go_loopw [35] (fun i wr => ∃ k : Nat, k ≤ LE ∧ i = .int .i64 (k : Int) ∧ GOk wr g bV bE (G.ePart k) ∧ Below w.heap.size w wr) (fun i _ => LE - (intOf i).toNat)
      case atStart => exact ⟨0, by omega, rfl, HGk.out, HB.out⟩
      case round =>
        obtain ⟨k, hk, rfl, hGk, hb⟩ := hrel
        have HGk := Lib.hid hGk
        have HB := Lib.hid hb
        have hs := hb.size
        clear hGk hb
        by_cases hlt : k < LE
        · obtain ⟨b, off, c', y, h1, hb, hy, hc⟩ := HE.out.at (by rw [← HLE.out]; exact hlt)
          simp only [Value.slice.injEq] at h1
          obtain ⟨rfl, -, rfl⟩ := h1
          have hwf := eEd_wf HG.out (List.mem_of_getElem? hy)
          have hwr := Gr.e_wrong HG.out hy
          have hap := Gr.e_app HG.out hy
          obtain ⟨⟨yu, yv⟩, yl, yw⟩ := y
          have HAp := Lib.hid fun W (hW : GOk W g bV bE (G.ePart k)) => gapply_any (eEd ((yu, yv), yl, yw)) hwf (.inr rfl) g bV bE (G.ePart k) (Gr.ePart_ok HG.out k) W hW
          rw [hwr, hap, show edC (eEd ((yu, yv), yl, yw)) = #[.int .i64 2, .int .i64 yu, .int .i64 yv, .int .u8 (yl : Int), .int .i64 yw] from rfl] at HAp
          have jl : rowLoad Tryz.prog 127 ⟨b, off + k * 4, none⟩ wr = .ok (.agg #[.int .i64 yu, .int .i64 yv, .int .u8 (yl : Int), .int .i64 yw]) wr := load_cells Tryz.isAgg127 Tryz.sizeOf127 wr b _ _ rfl fun j u hu => hc wr HB.out j u hu
          have hrt : row? (wr.alloc (.cells #[.int .i64 yu, .int .i64 yv, .int .u8 (yl : Int), .int .i64 yw] 127)) wr.heap.size = some #[.int .i64 yu, .int .i64 yv, .int .u8 (yl : Int), .int .i64 yw] := row?_alloc_at _ _ _ _ rfl
          clear hwf hwr hap hy hc
          go_wp2_with fail
          refine (HAp.out _ (HGk.out.below ((Below.refl _ wr).alloc (Nat.le_refl _) _))).mono ?_
          rintro r w2 ⟨rfl, hG2, hS2⟩
          have HB2 := Lib.hid ((HB.out.alloc hs _).trans (hS2.below (by simp; omega) fun j hj => by omega))
          have HG2 := Lib.hid hG2
          clear hG2 hS2 HAp jl hrt
          go_wp2_with fail
          go_roundw
          case rel => exact ⟨k + 1, by omega, by go_num, HG2.out, HB2.out⟩
          case measure => simp [intOf]; omega
        · have hkn : LE = k := by omega
          subst hkn
          have he0 : G.ePart LE = G := by simp [Gr.ePart, HLE.out]
          rw [he0] at HGk
          clear he0
          go_wp2_with fail
          go_ret2
          exact ⟨g, bV, bE, rfl, HGk.out, ⟨hg0, hV0, hE0⟩, HB.out⟩
@[go_sem ↓ high] theorem buildSlice_vX (a b c : Int) (w : World) : (Instr.buildSlice 144 1 #[(0, .agg #[.int .i64 a, .int .u8 b, .int .i64 c])]).run Tryz.prog w = .ok (.slice (some ⟨w.heap.size, 0, none⟩) 1 1) (w.alloc (.cells #[.int .i64 a, .int .u8 b, .int .i64 c] 146)) := by kernel_rfl
@[go_sem ↓ high] theorem buildSlice_eX (a b c d : Int) (w : World) : (Instr.buildSlice 124 1 #[(0, .agg #[.int .i64 a, .int .i64 b, .int .u8 c, .int .i64 d])]).run Tryz.prog w = .ok (.slice (some ⟨w.heap.size, 0, none⟩) 1 1) (w.alloc (.cells #[.int .i64 a, .int .i64 b, .int .u8 c, .int .i64 d] 127)) := by kernel_rfl
set_option maxRecDepth 10000 in
set_option maxHeartbeats 4000000 in
theorem from_any (G : Gr) (hG : G.Ok) (vV vE : Value) (w : World) (h : RefG w vV vE G) :
    Calls Tryz.prog 62 #[.agg #[vV, vE]] w fun r w' => ∃ g bV bE, r = .returned (.pointer (some ⟨g, 0, none⟩)) ∧ GOk w' g bV bE G ∧ (w.heap.size ≤ g ∧ w.heap.size ≤ bV ∧ w.heap.size ≤ bE) ∧ Below w.heap.size w w' := by
  obtain ⟨hv, he⟩ := h
  have HV := Lib.hid hv
  have HE := Lib.hid he
  have HG := Lib.hid hG
  have hlV := hG.len
  have hlE := hG.most
  obtain ⟨aV, cV, rfl⟩ := hv.sl
  obtain ⟨aE, cE, rfl⟩ := he.sl
  clear hv he hG
  obtain ⟨LV, hLV⟩ : ∃ LV, LV = G.V.length := ⟨_, rfl⟩
  obtain ⟨LE, hLE⟩ : ∃ LV, LV = G.E.length := ⟨_, rfl⟩
  have HLV := Lib.hid hLV
  have HLE := Lib.hid hLE
  rw [← hLV] at HV hlV ⊢
  rw [← hLE] at HE hlE ⊢
  clear hLV hLE
  go_enter Tryz.func62, Tryz.ntmps62
  go_wp2_with fail
  obtain ⟨W0, hW0⟩ : ∃ W0, W0 = w.alloc (.cells #[.slice aV LV cV, .slice aE LE cE] 44) := ⟨_, rfl⟩
  have r2 : row? W0 w.heap.size = some #[.slice aV LV cV, .slice aE LE cE] := by rw [hW0]; exact row?_alloc_at _ _ _ _ rfl
  have hB0 : Below w.heap.size w W0 := by rw [hW0]; exact (Below.refl _ w).alloc (Nat.le_refl _) _
  have hs0 : w.heap.size < W0.heap.size := by rw [hW0]; simp
  have HR2 := Lib.hid r2
  have HB0 := Lib.hid hB0
  rw [← hW0]
  clear hW0 r2 hB0
  go_loopw [3, 5] (fun vv i wr => ∃ k : Nat, k ≤ LV ∧ i = .int .i64 (k : Int) ∧ OwnV W0.heap.size wr vv (G.V.take k) ∧ Below W0.heap.size W0 wr) (fun _ i _ => LV - (intOf i).toNat)
  case atStart => exact ⟨0, by omega, rfl, OwnR.nil _ _, Below.refl _ _⟩
  case round =>
    obtain ⟨k, hk, rfl, hO, hb⟩ := hrel
    have HO := Lib.hid hO
    have HB := Lib.hid hb
    have HBw := Lib.hid (HB0.out.trans (hb.mono HB0.out.size))
    have hs := hb.size
    have hr2 := (row?_below hb hs0).trans HR2.out
    have k20 := cell?_row (i := 0) hr2
    have k21 := cell?_row (i := 1) hr2
    simp at k20 k21
    obtain ⟨qa, ca, rfl⟩ := hO.sl
    clear hO hb
    by_cases hlt : k < LV
    · obtain ⟨b, off, c', y, h1, hb, hy, hc⟩ := HV.out.at (by rw [← HLV.out]; exact hlt)
      simp only [Value.slice.injEq] at h1
      obtain ⟨rfl, -, rfl⟩ := h1
      obtain ⟨yi, yl, yw⟩ := y
      have hll : (G.V.take k).length = k := by rw [List.length_take, ← HLV.out]; omega
      have hac := take_snoc hy
      obtain ⟨acc, ha⟩ : ∃ acc, acc = G.V.take k := ⟨_, rfl⟩
      rw [← ha] at HO hll hac ⊢
      have HAC := Lib.hid hac
      have jl : rowLoad Tryz.prog 104 ⟨b, off + k * 3, none⟩ wr = .ok (.agg #[.int .i64 yi, .int .u8 (yl : Int), .int .i64 yw]) wr := load_cells Tryz.isAgg104 Tryz.sizeOf104 wr b _ _ rfl fun j u hu => hc wr HBw.out j u hu
      clear ha hac hy hc
      go_wp2_with (at_builtin; refine wpList_appO elV 144 Tryz.underlying144 rfl _ _ rfl W0.heap.size _ acc rfl (HO.out.below (C := wr.heap.size) ((Below.refl _ wr).alloc (Nat.le_refl _) _) (Nat.le_refl _)) wr.heap.size (yi, yl, yw) _ rfl (row?_alloc_at _ _ _ _ rfl) (by omega) (by simp; omega) ?_)
      intro v5 w5 hO5 hb5 hg5 hl5
      obtain ⟨q5, c5, rfl⟩ := hO5.sl
      have HO5 := Lib.hid hO5
      have HB5 := Lib.hid ((HB.out.alloc hs _).trans hb5)
      clear hO5 hb5 hg5 hl5 jl hr2
      go_wp2_with fail
      go_roundw
      case rel => exact ⟨k + 1, by omega, by go_num, by rw [HAC.out]; exact HO5.out, HB5.out⟩
      case measure => simp [intOf]; omega
    · have hkn : LV = k := by omega
      subst hkn
      rw [show G.V.take LV = G.V by rw [HLV.out, List.take_length]] at HO ⊢
      rw [← HLV.out]
      go_wp2_with fail
      obtain ⟨W1, hW1⟩ : ∃ W1, W1 = wr := ⟨_, rfl⟩
      rw [← hW1] at HO HB HBw hr2 hs ⊢
      clear hW1 k20 k21
      have HR2 := Lib.hid hr2
      clear hr2
      go_loopw [4, 6] (fun vv i wr => ∃ k : Nat, k ≤ LE ∧ i = .int .i64 (k : Int) ∧ OwnE W1.heap.size wr vv (G.E.take k) ∧ Below W1.heap.size W1 wr) (fun _ i _ => LE - (intOf i).toNat)
      case atStart => exact ⟨0, by omega, rfl, OwnR.nil _ _, Below.refl _ _⟩
      case round =>
        obtain ⟨k, hk, rfl, hO2, hb⟩ := hrel
        have HO2 := Lib.hid hO2
        have HB2 := Lib.hid hb
        have HBw2 := Lib.hid (HBw.out.trans (hb.mono HBw.out.size))
        have hs2 := hb.size
        have hr2 := (row?_below hb (by omega)).trans HR2.out
        have k21 := cell?_row (i := 1) hr2
        simp at k21
        obtain ⟨qb, cb, rfl⟩ := hO2.sl
        clear hO2 hb
        by_cases hlt : k < LE
        · obtain ⟨b, off, c', y, h1, hb, hy, hc⟩ := HE.out.at (by rw [← HLE.out]; exact hlt)
          simp only [Value.slice.injEq] at h1
          obtain ⟨rfl, -, rfl⟩ := h1
          obtain ⟨⟨yu, yv⟩, yl, yw⟩ := y
          have hll : (G.E.take k).length = k := by rw [List.length_take, ← HLE.out]; omega
          have hac := take_snoc hy
          obtain ⟨acc, ha⟩ : ∃ acc, acc = G.E.take k := ⟨_, rfl⟩
          rw [← ha] at HO2 hll hac ⊢
          have HAC := Lib.hid hac
          have jl : rowLoad Tryz.prog 133 ⟨b, off + k * 4, none⟩ wr = .ok (.agg #[.int .i64 yu, .int .i64 yv, .int .u8 (yl : Int), .int .i64 yw]) wr := load_cells Tryz.isAgg133 Tryz.sizeOf133 wr b _ _ rfl fun j u hu => hc wr HBw2.out j u hu
          clear ha hac hy hc
          go_wp2_with (at_builtin; refine wpList_appO elE 124 Tryz.underlying124 rfl _ _ rfl W1.heap.size _ acc rfl (HO2.out.below (C := wr.heap.size) ((Below.refl _ wr).alloc (Nat.le_refl _) _) (Nat.le_refl _)) wr.heap.size ((yu, yv), yl, yw) _ rfl (row?_alloc_at _ _ _ _ rfl) (by omega) (by simp; omega) ?_)
          intro v5 w5 hO5 hb5 hg5 hl5
          obtain ⟨q5, c5, rfl⟩ := hO5.sl
          have HO5 := Lib.hid hO5
          have HB5 := Lib.hid ((HB2.out.alloc hs2 _).trans hb5)
          clear hO5 hb5 hg5 hl5 jl hr2
          go_wp2_with fail
          go_roundw
          case rel => exact ⟨k + 1, by omega, by go_num, by rw [HAC.out]; exact HO5.out, HB5.out⟩
          case measure => simp [intOf]; omega
        · have hkn : LE = k := by omega
          subst hkn
          rw [show G.E.take LE = G.E by rw [HLE.out, List.take_length]] at HO2 ⊢
          have HBu := Lib.hid (gbuild_any G HG.out _ _ wr ((HO.out.below HB2.out (Nat.le_refl _)).rd elV) (HO2.out.rd elE))
          rw [← HLV.out] at HBu
          clear hr2
          go_wp2_with fail
          refine HBu.out.mono ?_
          rintro r w7 ⟨g, bV, bE, rfl, hG7, ⟨hg0, hV0, hE0⟩, hb7⟩
          have HG7 := Lib.hid hG7
          have HB7 := Lib.hid (HBw2.out.trans (hb7.mono HBw2.out.size))
          clear hG7 hb7 HBu
          go_wp2_with fail
          go_ret
          exact ⟨g, bV, bE, rfl, HG7.out, ⟨by omega, by omega, by omega⟩, HB7.out⟩
end Go.Proofs.YtpflnkedolmamaaGreatDoor
