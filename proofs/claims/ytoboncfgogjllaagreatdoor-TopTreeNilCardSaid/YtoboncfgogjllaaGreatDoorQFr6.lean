/-
  Walks of package frame: what reads a frame.
  Walks of package frame: SubtreeSize, HeavyChild, LightChildren, Bags, Len, Root.
  Walks of package frame: Parent, Bag, Adhesion, Root.
-/
import Derived.Test.YtoboncfgogjllaaGreatDoorQFrame5
namespace Go.Proofs.YtoboncfgogjllaaGreatDoor
open Go Go.RowKit Go.Pal Go.Shelf

/-- The cells of a frame. -/
theorem FrameOk.cells {w : World} {gf : Nat} {T : List Bg} {t : Tr} (h : FrameOk w gf T t) : ∃ gT cT gN gM N m, FSt gf gT cT gN gM T.length N m w ∧ Rd bagA 17 w.heap.size w (.slice (some ⟨gT, 0, none⟩) T.length cT) T ∧ Done 0 w N t 0 ∧
    w.cell? ⟨gf, 0, none⟩ = some (.slice (some ⟨gT, 0, none⟩) T.length cT) ∧ w.cell? ⟨gf, 1, none⟩ = some (.slice (some ⟨gN, 0, none⟩) T.length T.length) := by
  obtain ⟨gT, cT, gN, gM, N, m, h1, h2, h3⟩ := h
  have e1 : w.cell? ⟨gf, 0, none⟩ = _ := cell?_row (i := 0) h1.frame
  have e2 : w.cell? ⟨gf, 1, none⟩ = _ := cell?_row (i := 1) h1.frame
  exact ⟨gT, cT, gN, gM, N, m, h1, h2, h3, e1, e2⟩

set_option maxHeartbeats 400000 in
theorem is_any (gf : Nat) (T : List Bg) (t : Tr) (w : World) (h : FrameOk w gf T t) (b : Int) :
    Calls Tryz.prog 64 #[.pointer (some ⟨gf, 0, none⟩), .int .i64 b] w fun e w' => e = .returned (.bool (decide (0 ≤ b) && decide (b < T.length))) ∧ w' = w := by
  obtain ⟨gT, cT, gN, gM, N, m, -, -, -, e1, -⟩ := h.cells
  by_cases h0 : 0 ≤ b
  · have h0' : decide (0 ≤ b) = true := decide_eq_true h0
    have H0 := Lib.hid h0
    clear h0
    go_enter Tryz.func64, Tryz.ntmps64
    go_wp2
    go_ret
    exact ⟨by rw [h0']; rfl, rfl⟩
  · have h0' : decide (0 ≤ b) = false := decide_eq_false h0
    have H0 := Lib.hid h0
    clear h0
    go_enter Tryz.func64, Tryz.ntmps64
    go_wp2
    go_ret
    exact ⟨rfl, rfl⟩

theorem Done.sub {B : Nat} {w : World} {N : Nat → Nd} {t u : Tr} {d : Nat} (h : Done B w N t d) (hs : Sub t u) : ∃ d', Done B w N u d' := by
  induction hs with
  | self => exact ⟨d, h⟩
  | @kid u k _ hk ih =>
    obtain ⟨d', h'⟩ := ih
    cases h' with
    | mk b ks _ _ _ _ _ _ hks => exact ⟨d' + 1, hks k hk⟩
@[go_sem ↓ high] theorem loadNode (a : Addr) : loadVar 149 a = loadLater 149 a := rfl
@[go_sem ↓ high] theorem storeNode (a : Addr) (v : Value) : storeVar 149 a v = storeLater 149 a v := rfl
@[go_sem] theorem loadNode_run (w : World) (a : Addr) : (loadLater 149 a).run Tryz.prog w = rowLoad Tryz.prog 149 a w := rfl
@[go_sem] theorem storeNode_run (w : World) (a : Addr) (v : Value) : (storeLater 149 a v).run Tryz.prog w = rowStore Tryz.prog 149 a v w := rfl
@[go_sem] theorem storeNode_at (w : World) (g : Nat) (d : Array Value) : rowStore Tryz.prog 149 ⟨g, 0, none⟩ (.agg d) w = match row? w g with
      | some c => if c.size = 5 ∧ d.size = 5 ∧ allOne d = true then .ok () (w.setRow g d) else laterStore Tryz.prog 149 ⟨g, 0, none⟩ (.agg d) w
      | none => laterStore Tryz.prog 149 ⟨g, 0, none⟩ (.agg d) w := store_row Tryz.sizeOf149 w g d
@[go_sem ↓ high] theorem zeroNode (w : World) : (zeroValue 149).run Tryz.prog w = .ok (.agg nd0.cells) w := by rw [Tryz.zeroValue149]; rfl

set_option maxRecDepth 10000 in
set_option maxHeartbeats 1000000 in
/-- The derived data of a bag. -/
theorem of_any (gf : Nat) (T : List Bg) (t : Tr) (w : World) (h : FrameOk w gf T t) (hf : Fits T.length (kidsTo T T.length) t) (u : Tr) (hu : Sub t u) :
    Calls Tryz.prog 108 #[.pointer (some ⟨gf, 0, none⟩), .int .i64 (u.lab : Int)] w fun e w' => ∃ kv lv d, e = .returned (.agg #[kv, lv, .int .i64 (u.sz : Int), .int .i64 (Tr.hLab (Tr.hvL u.ks)), .int .i64 d]) ∧
      OwnI 0 w' lv ((u.ks.map fun t => (t.lab : Int)).filter fun k => !(k == Tr.hLab (Tr.hvL u.ks))) ∧ Below w.heap.size w w' := by
  have HI := Lib.hid (is_any gf T t)
  have HW := Lib.hid h
  obtain ⟨gT, cT, gN, gM, N, m, hF, -, hD, e1, e2⟩ := h.cells
  have hul := (hf.sub hu).lab
  obtain ⟨d, hd⟩ := hD.sub hu
  have hnode : ∃ q1 m1 c1 q2 m2 c2, N u.lab = { kids := .slice q1 m1 c1, light := .slice q2 m2 c2, size := u.sz, heavy := Tr.hLab (Tr.hvL u.ks), deep := d } ∧ OwnI 0 w (.slice q2 m2 c2) ((u.ks.map fun t => (t.lab : Int)).filter fun k => !(k == Tr.hLab (Tr.hvL u.ks))) := by
    cases hd with
    | mk b ks _ hs hh hd hk hl _ =>
      obtain ⟨q1, m1, c1, h1⟩ := hk.slice
      obtain ⟨q2, m2, c2, h2⟩ := hl.slice
      rw [h2] at hl
      refine ⟨q1, m1, c1, q2, m2, c2, ?_, hl⟩
      show N b = { kids := .slice q1 m1 c1, light := .slice q2 m2 c2, size := ((Tr.node b ks).sz : Int), heavy := Tr.hLab (Tr.hvL ks), deep := (d : Int) }
      have hsz : ((Tr.node b ks).sz : Int) = 1 + (Tr.szs ks : Int) := by simp [Tr.sz]
      rw [hsz, ← hs, ← hh, ← hd, ← h1, ← h2]
  obtain ⟨q1, m1, c1, q2, m2, c2, hN, hO⟩ := hnode
  have hl : rowLoad Tryz.prog 149 ⟨gN, u.lab * 5, none⟩ (w.alloc (.cells nd0.cells 149)) = .ok (.agg #[.slice q1 m1 c1, .slice q2 m2 c2, .int .i64 (u.sz : Int), .int .i64 (Tr.hLab (Tr.hvL u.ks)), .int .i64 (d : Int)]) (w.alloc (.cells nd0.cells 149)) :=
    load_cells Tryz.isAgg149 Tryz.sizeOf149 _ gN _ _ rfl fun j v hv => by
      have hj : j < 5 := (Array.getElem?_eq_some_iff.1 hv).1
      have := cell?_row (i := u.lab * 5 + j) (row_on hF.nodes ((Below.refl _ w).alloc (Nat.le_refl _) (.cells nd0.cells 149)))
      rw [nodeC_get _ hul hj, hN] at this
      rw [this, Array.getD_eq_getD_getElem?]
      show some (((#[Value.slice q1 m1 c1, .slice q2 m2 c2, .int .i64 (u.sz : Int), .int .i64 (Tr.hLab (Tr.hvL u.ks)), .int .i64 (d : Int)] : Array Value)[j]?).getD _) = _
      rw [hv]
      rfl
  have hb := (Below.refl w.heap.size w).alloc (Nat.le_refl _) (.cells nd0.cells 149)
  have hgf := row?_lt hF.frame
  have hin : (decide ((0 : Int) ≤ (u.lab : Int)) && decide ((u.lab : Int) < (T.length : Int))) = true := by simp; omega
  have HO := Lib.hid hO
  have hok := HI.out (w.alloc (.cells nd0.cells 149)) (HW.out.below hb) (u.lab : Int)
  rw [hin] at hok
  have HOK := Lib.hid hok
  clear hO hF hD hd hN hok hin
  have hall : allOne #[.slice q1 m1 c1, .slice q2 m2 c2, .int .i64 (u.sz : Int), .int .i64 (Tr.hLab (Tr.hvL u.ks)), .int .i64 (d : Int)] = true := by simp [allOne, Value.oneCell']
  have hsz0 : nd0.cells.size = 5 := rfl
  go_enter Tryz.func108, Tryz.ntmps108
  go_wp2_with fail
  refine HOK.out.mono ?_
  rintro e w1 ⟨rfl, rfl⟩
  go_wp2
  refine ret_row _ #[.slice q1 m1 c1, .slice q2 m2 c2, .int .i64 (u.sz : Int), .int .i64 (Tr.hLab (Tr.hvL u.ks)), .int .i64 (d : Int)] rfl Tryz.isAgg149 Tryz.sizeOf149 rfl rfl (by simp [go_sem]) rfl ?_
  exact ⟨_, _, _, rfl, HO.out.alloc _, (Below.refl _ w).alloc (Nat.le_refl _) _⟩
end Go.Proofs.YtoboncfgogjllaaGreatDoor
namespace Go.Proofs.YtoboncfgogjllaaGreatDoor
open Go Go.RowKit Go.Pal Go.Shelf

@[go_sem] theorem nodeField1 (a b c d e : Value) (w : World) : (Instr.field 149 (.agg #[a, b, c, d, e]) 1).run Tryz.prog w = .ok b w := by kernel_rfl
@[go_sem] theorem nodeField2 (a b c d e : Value) (w : World) : (Instr.field 149 (.agg #[a, b, c, d, e]) 2).run Tryz.prog w = .ok c w := by kernel_rfl
@[go_sem] theorem nodeField3 (a b c d e : Value) (w : World) : (Instr.field 149 (.agg #[a, b, c, d, e]) 3).run Tryz.prog w = .ok d w := by kernel_rfl

set_option maxRecDepth 10000 in
set_option maxHeartbeats 1000000 in
theorem of_none (gf : Nat) (T : List Bg) (t : Tr) (w : World) (h : FrameOk w gf T t) :
    Calls Tryz.prog 108 #[.pointer (some ⟨gf, 0, none⟩), .int .i64 (-1)] w fun e w' => e = .returned (.agg #[.slice none 0 0, .slice none 0 0, .int .i64 0, .int .i64 (-1), .int .i64 0]) ∧ Below w.heap.size w w' := by
  have hb := (Below.refl w.heap.size w).alloc (Nat.le_refl _) (.cells nd0.cells 149)
  have hok := is_any gf T t _ (h.below hb) (-1)
  have hin : (decide ((0 : Int) ≤ -1) && decide ((-1 : Int) < (T.length : Int))) = false := by simp
  rw [hin] at hok
  have HOK := Lib.hid hok
  clear hok hin h
  have hall : allOne #[.slice none 0 0, .slice none 0 0, .int .i64 0, .int .i64 (-1), .int .i64 0] = true := by simp [allOne, Value.oneCell']
  have hsz0 : nd0.cells.size = 5 := rfl
  have hnd : nd0.cells = #[.slice none 0 0, .slice none 0 0, .int .i64 0, .int .i64 0, .int .i64 0] := rfl
  go_enter Tryz.func108, Tryz.ntmps108
  go_wp2_with fail
  refine HOK.out.mono ?_
  rintro e w1 ⟨rfl, rfl⟩
  go_wp2
  refine ret_row _ #[.slice none 0 0, .slice none 0 0, .int .i64 0, .int .i64 (-1), .int .i64 0] rfl Tryz.isAgg149 Tryz.sizeOf149 rfl rfl (by simp [go_sem]) rfl ?_
  exact ⟨rfl, (Below.refl _ w).alloc (Nat.le_refl _) _⟩

set_option maxRecDepth 10000 in
theorem size_any (gf : Nat) (T : List Bg) (t : Tr) (w : World) (h : FrameOk w gf T t) (hf : Fits T.length (kidsTo T T.length) t) (u : Tr) (hu : Sub t u) :
    Calls Tryz.prog 59 #[.pointer (some ⟨gf, 0, none⟩), .int .i64 (u.lab : Int)] w fun e w' => e = .returned (.int .i64 (u.sz : Int)) ∧ Below w.heap.size w w' := by
  have HO := Lib.hid (of_any gf T t w h hf u hu)
  clear h hf hu
  go_enter Tryz.func59, Tryz.ntmps59
  go_wp2_with fail
  refine HO.out.mono ?_
  rintro e w1 ⟨kv, lv, d, rfl, -, hb⟩
  go_wp2
  go_ret
  exact ⟨rfl, hb⟩
set_option maxRecDepth 10000 in
theorem size_none (gf : Nat) (T : List Bg) (t : Tr) (w : World) (h : FrameOk w gf T t) :
    Calls Tryz.prog 59 #[.pointer (some ⟨gf, 0, none⟩), .int .i64 (-1)] w fun e w' => e = .returned (.int .i64 0) ∧ Below w.heap.size w w' := by
  have HO := Lib.hid (of_none gf T t w h)
  clear h
  go_enter Tryz.func59, Tryz.ntmps59
  go_wp2_with fail
  refine HO.out.mono ?_
  rintro e w1 ⟨rfl, hb⟩
  go_wp2
  go_ret
  exact ⟨rfl, hb⟩
set_option maxRecDepth 10000 in
theorem heavy_any (gf : Nat) (T : List Bg) (t : Tr) (w : World) (h : FrameOk w gf T t) (hf : Fits T.length (kidsTo T T.length) t) (u : Tr) (hu : Sub t u) :
    Calls Tryz.prog 60 #[.pointer (some ⟨gf, 0, none⟩), .int .i64 (u.lab : Int)] w fun e w' => e = .returned (.int .i64 (Tr.hLab (Tr.hvL u.ks))) ∧ Below w.heap.size w w' := by
  have HO := Lib.hid (of_any gf T t w h hf u hu)
  clear h hf hu
  go_enter Tryz.func60, Tryz.ntmps60
  go_wp2_with fail
  refine HO.out.mono ?_
  rintro e w1 ⟨kv, lv, d, rfl, -, hb⟩
  go_wp2
  go_ret
  exact ⟨rfl, hb⟩
set_option maxRecDepth 10000 in
theorem light_any (gf : Nat) (T : List Bg) (t : Tr) (w : World) (h : FrameOk w gf T t) (hf : Fits T.length (kidsTo T T.length) t) (u : Tr) (hu : Sub t u) (hlen : u.ks.length ≤ 65536) :
    Calls Tryz.prog 106 #[.pointer (some ⟨gf, 0, none⟩), .int .i64 (u.lab : Int)] w fun e w' => ∃ v', e = .returned v' ∧ OwnI w.heap.size w' v' ((u.ks.map fun t => (t.lab : Int)).filter fun k => !(k == Tr.hLab (Tr.hvL u.ks))) ∧ Below w.heap.size w w' := by
  have HO := Lib.hid (of_any gf T t w h hf u hu)
  clear h hf hu
  go_enter Tryz.func106, Tryz.ntmps106
  go_wp2_with fail
  refine HO.out.mono ?_
  rintro e w1 ⟨kv, lv, d, rfl, hl, hb⟩
  have Hl := Lib.hid hl; clear hl
  go_wp2_with fail
  refine (cloneI_any 0 _ lv w1 Hl.out (Nat.le_trans (List.length_filter_le _ _) (by simpa using hlen))).mono ?_
  rintro e w2 ⟨v2, rfl, hO, hb2⟩
  go_wp2
  go_ret
  exact ⟨v2, rfl, hO.mono hb.size, hb.trans (hb2.mono hb.size)⟩
set_option maxHeartbeats 400000 in
theorem bags_any (gf : Nat) (T : List Bg) (t : Tr) (w : World) (h : FrameOk w gf T t) (hne : T ≠ []) (hlen : T.length ≤ 65536) :
    Calls Tryz.prog 66 #[.pointer (some ⟨gf, 0, none⟩)] w fun e w' => ∃ g c, e = .returned (.slice (some ⟨g, 0, none⟩) T.length c) ∧ w.heap.size ≤ g ∧ Rd bagA 17 w'.heap.size w' (.slice (some ⟨g, 0, none⟩) T.length c) T ∧ Below w.heap.size w w' := by
  obtain ⟨gT, cT, gN, gM, N, m, -, hR, -, e1, -⟩ := h.cells
  have HC := Lib.hid (tClone_any T _ w hR hne hlen)
  clear h hR hne
  go_enter Tryz.func66, Tryz.ntmps66
  go_wp2_with fail
  refine HC.out.mono ?_
  rintro e w1 ⟨g, c, rfl, hg, hr, hb⟩
  go_wp2
  go_ret
  exact ⟨g, c, rfl, hg, hr, hb⟩
theorem flen_any (gf : Nat) (T : List Bg) (t : Tr) (w : World) (h : FrameOk w gf T t) (hne : T ≠ []) (hlen : T.length ≤ 65536) :
    Calls Tryz.prog 29 #[.pointer (some ⟨gf, 0, none⟩)] w fun e w' => e = .returned (.int .i64 (T.length : Int)) ∧ Below w.heap.size w w' := by
  have HC := Lib.hid (bags_any gf T t w h hne hlen)
  clear h hne
  go_enter Tryz.func29, Tryz.ntmps29
  go_wp2_with fail
  refine HC.out.mono ?_
  rintro e w1 ⟨g, c, rfl, hg, hr, hb⟩
  go_wp2
  go_ret
  exact ⟨rfl, hb⟩
end Go.Proofs.YtoboncfgogjllaaGreatDoor
namespace Go.Proofs.YtoboncfgogjllaaGreatDoor
open Go Go.RowKit Go.Pal Go.Shelf

set_option maxRecDepth 10000 in
set_option maxHeartbeats 400000 in
theorem parent_any (gf : Nat) (T : List Bg) (t : Tr) (w : World) (h : FrameOk w gf T t) (b : Nat) (x : Bg) (hx : T[b]? = some x) :
    Calls Tryz.prog 109 #[.pointer (some ⟨gf, 0, none⟩), .int .i64 (b : Int)] w fun e w' => e = .returned (.int .i64 x.1) ∧ w' = w := by
  have hok := is_any gf T t w h (b : Int)
  have hbl : b < T.length := (List.getElem?_eq_some_iff.1 hx).1
  have hin : (decide ((0 : Int) ≤ (b : Int)) && decide ((b : Int) < (T.length : Int))) = true := by simp; omega
  rw [hin] at hok
  have HOK := Lib.hid hok
  obtain ⟨gT, cT, gN, gM, N, m, -, hR, -, e1, -⟩ := h.cells
  obtain ⟨a', c', h1, h2⟩ := hR
  simp only [Value.slice.injEq] at h1
  obtain ⟨h1, -, -⟩ := h1
  rcases h2 with h2 | ⟨b', o', h3, h4, h5⟩
  · rw [h2] at hbl; simp at hbl
  rw [h3] at h1
  simp only [Option.some.injEq, Addr.mk.injEq] at h1
  obtain ⟨h6, h7, -⟩ := h1
  subst h6 h7
  have hc := h5 b x hx 0 _ (bagA_zero x)
  simp only [Nat.zero_add, Nat.add_zero] at hc
  clear hok hin h h5 hx
  go_enter Tryz.func109, Tryz.ntmps109
  go_wp2_with fail
  refine HOK.out.mono ?_
  rintro e w1 ⟨rfl, rfl⟩
  go_wp2
  go_ret
  exact ⟨rfl, rfl⟩
theorem parent_none (gf : Nat) (T : List Bg) (t : Tr) (w : World) (h : FrameOk w gf T t) :
    Calls Tryz.prog 109 #[.pointer (some ⟨gf, 0, none⟩), .int .i64 (-1)] w fun e w' => e = .returned (.int .i64 (-1)) ∧ w' = w := by
  have hok := is_any gf T t w h (-1)
  have hin : (decide ((0 : Int) ≤ -1) && decide ((-1 : Int) < (T.length : Int))) = false := by simp
  rw [hin] at hok
  have HOK := Lib.hid hok
  clear hok hin h
  go_enter Tryz.func109, Tryz.ntmps109
  go_wp2_with fail
  refine HOK.out.mono ?_
  rintro e w1 ⟨rfl, rfl⟩
  go_wp2
  go_ret
  exact ⟨rfl, rfl⟩

set_option maxRecDepth 10000 in
set_option maxHeartbeats 400000 in
theorem bag_any (gf : Nat) (T : List Bg) (t : Tr) (w : World) (h : FrameOk w gf T t) (b : Nat) (x : Bg) (hx : T[b]? = some x) :
    Calls Tryz.prog 73 #[.pointer (some ⟨gf, 0, none⟩), .int .i64 (b : Int)] w fun e w' => e = .returned (.agg (words x.2)) ∧ Below w.heap.size w w' := by
  have hb := (Below.refl w.heap.size w).alloc (Nat.le_refl _) (.cells (words 0) 40)
  have hW := h.below hb
  have hok := is_any gf T t _ hW (b : Int)
  have hbl : b < T.length := (List.getElem?_eq_some_iff.1 hx).1
  have hin : (decide ((0 : Int) ≤ (b : Int)) && decide ((b : Int) < (T.length : Int))) = true := by simp; omega
  rw [hin] at hok
  have HOK := Lib.hid hok
  obtain ⟨gT, cT, gN, gM, N, m, hF, hR, -, e1, -⟩ := h.cells
  have hgf := row?_lt hF.frame
  obtain ⟨a', c', h1, h2⟩ := hR
  simp only [Value.slice.injEq] at h1
  obtain ⟨h1, -, -⟩ := h1
  rcases h2 with h2 | ⟨b', o', h3, h4, h5⟩
  · rw [h2] at hbl; simp at hbl
  rw [h3] at h1
  simp only [Option.some.injEq, Addr.mk.injEq] at h1
  obtain ⟨h6, h7, -⟩ := h1
  subst h6 h7
  have hl := (tree_load h5 hb h4 hx).2.1
  simp only [Nat.zero_add] at hl
  clear hok hin h h5 hx hW hF
  go_enter Tryz.func73, Tryz.ntmps73
  go_wp2_with fail
  refine HOK.out.mono ?_
  rintro e w1 ⟨rfl, rfl⟩
  go_wp2
  refine ret_row _ (words x.2) rfl Tryz.isAgg40 Tryz.sizeOf40 rfl rfl ?_ (by simp only [words_size]) ?_
  · first | (simp [go_sem]; done) | (simp [go_sem, *]; done)
  refine ⟨rfl, ?_⟩
  (repeat' (first | (with_reducible exact Below.refl _ _) | (with_reducible assumption) | (with_reducible refine Below.alloc ?_ ?_ _) | (with_reducible refine Below.drew ?_) | (with_reducible refine Below.setCell ?_ ?_ _) | (with_reducible refine below_setRow ?_ ?_ _) | (with_reducible exact Nat.le_refl _) | omega | (simp; done) | (simp; omega) | (simp at *; omega)))
set_option maxRecDepth 10000 in
set_option maxHeartbeats 400000 in
theorem bag_none (gf : Nat) (T : List Bg) (t : Tr) (w : World) (h : FrameOk w gf T t) :
    Calls Tryz.prog 73 #[.pointer (some ⟨gf, 0, none⟩), .int .i64 (-1)] w fun e w' => e = .returned (.agg (words 0)) ∧ Below w.heap.size w w' := by
  have hb := (Below.refl w.heap.size w).alloc (Nat.le_refl _) (.cells (words 0) 40)
  have hok := is_any gf T t _ (h.below hb) (-1)
  have hin : (decide ((0 : Int) ≤ -1) && decide ((-1 : Int) < (T.length : Int))) = false := by simp
  rw [hin] at hok
  have HOK := Lib.hid hok
  clear hok hin h hb
  go_enter Tryz.func73, Tryz.ntmps73
  go_wp2_with fail
  refine HOK.out.mono ?_
  rintro e w1 ⟨rfl, rfl⟩
  go_wp2
  refine ret_row _ (words 0) rfl Tryz.isAgg40 Tryz.sizeOf40 rfl rfl ?_ (by simp only [words_size]) ?_
  · first | (simp [go_sem]; done) | (simp [go_sem, *]; done)
  refine ⟨rfl, ?_⟩
  (repeat' (first | (with_reducible exact Below.refl _ _) | (with_reducible assumption) | (with_reducible refine Below.alloc ?_ ?_ _) | (with_reducible refine Below.drew ?_) | (with_reducible refine Below.setCell ?_ ?_ _) | (with_reducible refine below_setRow ?_ ?_ _) | (with_reducible exact Nat.le_refl _) | omega | (simp; done) | (simp; omega) | (simp at *; omega)))
end Go.Proofs.YtoboncfgogjllaaGreatDoor
