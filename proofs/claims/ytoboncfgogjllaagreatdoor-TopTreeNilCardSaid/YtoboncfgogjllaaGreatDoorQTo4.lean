/-
  Walks of package toptree: below, chain$1.
  Walks of package toptree: item.
-/
import Derived.Test.YtoboncfgogjllaaGreatDoorQTop3
namespace Go.Proofs.YtoboncfgogjllaaGreatDoor
open Go Go.RowKit Go.Pal Go.Shelf

theorem sub_sz {t u : Tr} (h : Sub t u) : u.sz ≤ t.sz := by
  induction h with
  | self => exact Nat.le_refl _
  | @kid u k _ hk ih =>
    have := Tr.szs_le hk
    cases u
    simp only [Tr.ks, Tr.sz] at *
    omega
theorem hsize_le {t : Tr} : (match Tr.hvL t.ks with | none => 0 | some h => h.sz) ≤ t.sz := by
  cases h : Tr.hvL t.ks with
  | none => simp
  | some x =>
    have := Tr.szs_le (Tr.hvL_mem h)
    cases t
    simp only [Tr.ks, Tr.sz] at *
    omega

set_option maxRecDepth 10000 in
set_option maxHeartbeats 400000 in
theorem below_of (gf gb : Nat) (T : List Bg) (t : Tr) (hV : Valid T t) (w : World) (hF : FrameOk w gf T t) (hp : w.cell? ⟨gb, 0, none⟩ = some (.pointer (some ⟨gf, 0, none⟩))) (hgb : gb < w.heap.size) (u : Tr) (hu : Sub t u) :
    Calls Tryz.prog 63 #[.pointer (some ⟨gb, 0, none⟩), .int .i64 (u.lab : Int)] w fun e w' => e = .returned (.agg (words (belS T u))) ∧ Below w.heap.size w w' := by
  have hb0 := (Below.refl w.heap.size w).alloc (Nat.le_refl _) (.cells (words 0) 40)
  have hF0 := hF.below hb0
  have hp0 := (hb0.cell (p := ⟨gb, 0, none⟩) hgb).trans hp
  have HF0 := Lib.hid hF0
  have HV := Lib.hid hV
  have HU := Lib.hid hu
  clear hF hp hF0 hV hu
  go_enter Tryz.func63, Tryz.ntmps63
  go_wp2_with fail
  refine (heavy_any gf T t _ HF0.out HV.out.fits u HU.out).mono ?_
  rintro e w1 ⟨rfl, hb1⟩
  have hs1 := hb1.size
  simp only [World.size_alloc] at hs1
  have hr1 : row? w1 w.heap.size = some (words 0) := (row?_below hb1 (by simp)).trans (row?_alloc_at _ _ _ _ rfl)
  have hp1 := (hb1.cell (p := ⟨gb, 0, none⟩) (by simp; omega)).trans hp0
  have HF1 := Lib.hid (HF0.out.below hb1)
  have HB1 := Lib.hid (hb0.trans (hb1.mono (by simp)))
  clear hb1 hp0 hb0 HF0
  cases hh : Tr.hvL u.ks with
  | none =>
    have hbel : belS T u = 0 := by unfold belS; rw [hh]
    simp only [Tr.hLab]
    go_wp2_with fail
    refine ret_row _ (words 0) rfl Tryz.isAgg40 Tryz.sizeOf40 rfl rfl ?_ (by simp only [words_size]) ?_
    · first | (simp [go_sem]; done) | (simp [go_sem, *]; done)
    exact ⟨by rw [hbel], below_setRow HB1.out (Nat.le_refl _) _⟩
  | some x =>
    have hbel : belS T u = adhS T x.lab := by unfold belS; rw [hh]
    simp only [Tr.hLab]
    have hx := HU.out.kid (Tr.hvL_mem hh)
    have hxl := (HV.out.fits.sub hx).lab
    have hcond : ¬ ((x.lab : Int) < 0) := by omega
    clear hh hx
    go_wp2_with fail
    refine (adhesion_any gf T t HV.out w1 HF1.out x.lab hxl).mono ?_
    rintro e w2 ⟨rfl, hb2⟩
    have hs2 := hb2.size
    have hr2 := (row?_below hb2 (by omega)).trans hr1
    have HB2 := Lib.hid (HB1.out.trans (hb2.mono (by omega)))
    clear hb2 hr1
    go_wp2_with fail
    refine ret_row _ (words (adhS T x.lab)) rfl Tryz.isAgg40 Tryz.sizeOf40 rfl rfl ?_ (by simp only [words_size]) ?_
    · first | (simp [go_sem]; done) | (simp [go_sem, *]; done)
    exact ⟨by rw [hbel], below_setRow HB2.out (Nat.le_refl _) _⟩

set_option maxRecDepth 10000 in
set_option maxHeartbeats 400000 in
theorem chain1_any (gf gb g1 : Nat) (T : List Bg) (t : Tr) (hV : Valid T t) (w : World) (hF : FrameOk w gf T t) (hp : w.cell? ⟨gb, 0, none⟩ = some (.pointer (some ⟨gf, 0, none⟩))) (hgb : gb < w.heap.size) (hq : w.cell? ⟨g1, 0, none⟩ = some (.pointer (some ⟨gb, 0, none⟩))) (hg1 : g1 < w.heap.size) (u : Tr) (hu : Sub t u) (hts : t.sz ≤ 65536) :
    Calls Tryz.prog 58 #[.int .i64 (u.lab : Int), .pointer (some ⟨g1, 0, none⟩)] w fun e w' => e = .returned (.int .i64 (u.wt : Int)) ∧ Below w.heap.size w w' := by
  have F : ∀ W, Below w.heap.size w W → W.cell? ⟨gb, 0, none⟩ = some (.pointer (some ⟨gf, 0, none⟩)) ∧ W.cell? ⟨g1, 0, none⟩ = some (.pointer (some ⟨gb, 0, none⟩)) ∧ FrameOk W gf T t := fun W h => ⟨(h.cell (p := ⟨gb, 0, none⟩) hgb).trans hp, (h.cell (p := ⟨g1, 0, none⟩) hg1).trans hq, hF.below h⟩
  obtain ⟨hs, hhs⟩ : ∃ n, n = (match Tr.hvL u.ks with | none => 0 | some h => h.sz) := ⟨_, rfl⟩
  have hle : hs ≤ u.sz := by rw [hhs]; exact hsize_le
  have hwt : u.wt = u.sz - hs := by rw [hhs]; rfl
  have hsz := sub_sz hu
  have c1 : ∀ W, Below w.heap.size w W → Calls Tryz.prog 59 #[.pointer (some ⟨gf, 0, none⟩), .int .i64 (u.lab : Int)] W fun e w' => e = .returned (.int .i64 (u.sz : Int)) ∧ Below w.heap.size w w' := fun W h =>
    (size_any gf T t W (F W h).2.2 hV.fits u hu).mono fun e w' ⟨h1, h2⟩ => ⟨h1, h.trans (h2.mono h.size)⟩
  have c2 : ∀ W, Below w.heap.size w W → Calls Tryz.prog 60 #[.pointer (some ⟨gf, 0, none⟩), .int .i64 (u.lab : Int)] W fun e w' => e = .returned (.int .i64 (Tr.hLab (Tr.hvL u.ks))) ∧ Below w.heap.size w w' := fun W h =>
    (heavy_any gf T t W (F W h).2.2 hV.fits u hu).mono fun e w' ⟨h1, h2⟩ => ⟨h1, h.trans (h2.mono h.size)⟩
  have c3 : ∀ W, Below w.heap.size w W → Calls Tryz.prog 59 #[.pointer (some ⟨gf, 0, none⟩), .int .i64 (Tr.hLab (Tr.hvL u.ks))] W fun e w' => e = .returned (.int .i64 (hs : Int)) ∧ Below w.heap.size w w' := fun W h => by
    rw [hhs]
    cases hh : Tr.hvL u.ks with
    | none => exact (size_none gf T t W (F W h).2.2).mono fun e w' ⟨h1, h2⟩ => ⟨h1, h.trans (h2.mono h.size)⟩
    | some x => exact (size_any gf T t W (F W h).2.2 hV.fits x (hu.kid (Tr.hvL_mem hh))).mono fun e w' ⟨h1, h2⟩ => ⟨h1, h.trans (h2.mono h.size)⟩
  have HFF := Lib.hid F
  have C1 := Lib.hid c1
  have C2 := Lib.hid c2
  have C3 := Lib.hid c3
  clear F c1 c2 c3 hF hp hq hV hhs
  go_enter Tryz.func58, Tryz.ntmps58
  go_wp2_with fail
  refine wp_region_free_tail (fun W => Below w.heap.size w W) 18 (by kernel_rfl) (by kernel_rfl) (Below.refl _ _).drew ?_
  simp only [List.take_succ_cons, List.take_zero, List.drop_succ_cons, List.drop_zero]
  repeat (apply wpFree_still; (intro w hw; obtain ⟨k1, k2, -⟩ := HFF.out _ hw; clear hw; go_simp; (try go_ints); (first | with_reducible rfl | (go_simp; with_reducible rfl))); with_reducible rfl; (intro K hK; go_simp; (try go_ints); refine hK _ ?_; clear hK K))
  apply wpFree_call
  · intro w hw; go_simp; first | with_reducible rfl | with_reducible exact ⟨rfl, rfl⟩
  · with_reducible rfl
  · intro w hw; exact C1.out w hw
  intro K hK; go_simp; (try go_ints); refine hK _ ?_; clear hK K
  repeat (apply wpFree_still; (intro w hw; obtain ⟨k1, k2, -⟩ := HFF.out _ hw; clear hw; go_simp; (try go_ints); (first | with_reducible rfl | (go_simp; with_reducible rfl))); with_reducible rfl; (intro K hK; go_simp; (try go_ints); refine hK _ ?_; clear hK K))
  apply wpFree_call
  · intro w hw; go_simp; first | with_reducible rfl | with_reducible exact ⟨rfl, rfl⟩
  · with_reducible rfl
  · intro w hw; exact C2.out w hw
  intro K hK; go_simp; (try go_ints); refine hK _ ?_; clear hK K
  repeat (apply wpFree_still; (intro w hw; obtain ⟨k1, k2, -⟩ := HFF.out _ hw; clear hw; go_simp; (try go_ints); (first | with_reducible rfl | (go_simp; with_reducible rfl))); with_reducible rfl; (intro K hK; go_simp; (try go_ints); refine hK _ ?_; clear hK K))
  apply wpFree_call
  · intro w hw; go_simp; first | with_reducible rfl | with_reducible exact ⟨rfl, rfl⟩
  · with_reducible rfl
  · intro w hw; exact C3.out w hw
  intro K hK; go_simp; (try go_ints); refine hK _ ?_; clear hK K
  repeat (apply wpFree_still; (intro w hw; obtain ⟨k1, k2, -⟩ := HFF.out _ hw; clear hw; go_simp; (try go_ints); (first | with_reducible rfl | (go_simp; with_reducible rfl))); with_reducible rfl; (intro K hK; go_simp; (try go_ints); refine hK _ ?_; clear hK K))
  with_reducible refine wpFree_nil ?_
  intro w' hw'
  go_wp2_with fail
  go_ret
  refine ⟨?_, hw'⟩
  rw [hwt]
  go_num
end Go.Proofs.YtoboncfgogjllaaGreatDoor
namespace Go.Proofs.YtoboncfgogjllaaGreatDoor
open Go Go.RowKit Go.Pal Go.Shelf

/-- What chain, group and item promise. -/
def Grew (w0 : World) (gf gb : Nat) (w : World) (sv : Value) (N : List TN) (fl : List TNd) (e : Ending) (w' : World) : Prop :=
  e = .returned (.int .i64 ((N.length + fl.length - 1 : Nat) : Int)) ∧ ∃ sv' M, BSt w0 gf gb w' sv' (N ++ M) ∧ M.map TN.nd = fl ∧ Stp gb w sv w' sv'
def labI (l : List Tr) : List Int := l.map fun t => (t.lab : Int)
def GrpOk (w0 : World) (gf gb b : Nat) (l : List Tr) (c : Ct) : Prop := ∀ w sv N v, BSt w0 gf gb w sv N → RdI (fun k => k ≠ gb ∧ some k ≠ sv.ownBlock) w v (labI l) → N.length + c.sz ≤ 100000 →
  Calls Tryz.prog 107 #[.pointer (some ⟨gb, 0, none⟩), .int .i64 (b : Int), v] w (Grew w0 gf gb w sv N (c.flat N.length))
theorem lights_lab (u : Tr) : ((u.ks.map fun t => (t.lab : Int)).filter fun k => !(k == Tr.hLab (Tr.hvL u.ks))) = labI u.lights := by
  unfold labI Tr.lights
  rw [List.filter_map]
  rfl
theorem bagS_of {T : List Bg} {b : Nat} {x : Bg} (h : T[b]? = some x) : bagS T b = x.2 := by simp [bagS, h]

theorem wpList_bTN0 {ops : Array Oper} {rest : List Oper} {o : Oper} {a : Act} {Q : Exit → Act → World → Prop} {w : World} (hg : o.guard = none) (kz : Int) (xb xs : Operand) (ho : o.op = .build 42 #[(0, .const (.int .i64 kz)), (1, xb), (3, xs)])
    (b : Int) (S : Nat) (hb : a.eval xb = .int .i64 b) (hs : a.eval xs = .agg (words S)) (h : wpList Tryz.prog ops Q rest (a.put o.dst (.agg (cellsZ kz b (.slice none 0 0) S))) w) : wpList Tryz.prog ops Q (o :: rest) a w := by
  refine wpList_plain hg fun K hK => ?_
  unfold Oper.wp execOp
  have hc : a.eval (.const (.int .i64 kz)) = .int .i64 kz := rfl
  simp only [ho, List.map_toArray, List.map_cons, List.map_nil, hc, hb, hs, Sem.run_bind, build_TN0, Result.andThen_ok]
  exact hK _ _ h
theorem wpList_bTN1 {ops : Array Oper} {rest : List Oper} {o : Oper} {a : Act} {Q : Exit → Act → World → Prop} {w : World} (hg : o.guard = none) (kz : Int) (xb xk xs : Operand) (ho : o.op = .build 42 #[(0, .const (.int .i64 kz)), (1, xb), (2, xk), (3, xs)])
    (b : Int) (q : Option Addr) (n c : Nat) (S : Nat) (hb : a.eval xb = .int .i64 b) (hk : a.eval xk = .slice q n c) (hs : a.eval xs = .agg (words S)) (h : wpList Tryz.prog ops Q rest (a.put o.dst (.agg (cellsZ kz b (.slice q n c) S))) w) : wpList Tryz.prog ops Q (o :: rest) a w := by
  refine wpList_plain hg fun K hK => ?_
  unfold Oper.wp execOp
  have hc : a.eval (.const (.int .i64 kz)) = .int .i64 kz := rfl
  simp only [ho, List.map_toArray, List.map_cons, List.map_nil, hc, hb, hk, hs, Sem.run_bind, build_TN1, Result.andThen_ok]
  exact hK _ _ h
theorem add_z (w0 : World) (gf gb : Nat) (w : World) (sv : Value) (N : List TN) (h : BSt w0 gf gb w sv N) (kind bag S : Nat) (kz : Int) (hk : (kind : Int) = kz) (kids : List Nat) (kv : Value) (hx : KidR w gb sv.ownBlock ⟨⟨kind, bag, kids, S⟩, kv⟩) (hlen : N.length < 100000) :
    Calls Tryz.prog 61 #[.pointer (some ⟨gb, 0, none⟩), .agg (cellsZ kz (bag : Int) kv S)] w fun e w' => e = .returned (.int .i64 (N.length : Int)) ∧ ∃ sv', BSt w0 gf gb w' sv' (N ++ [⟨⟨kind, bag, kids, S⟩, kv⟩]) ∧ Stp gb w sv w' sv' := by
  subst hk
  exact add_any w0 gf gb w sv N h ⟨⟨kind, bag, kids, S⟩, kv⟩ hx hlen

set_option maxRecDepth 10000 in
set_option maxHeartbeats 400000 in
theorem item0_any (w0 : World) (gf gb : Nat) (T : List Bg) (t : Tr) (hV : Valid T t) (hF0 : FrameOk w0 gf T t) (hts : t.sz ≤ 65536) (u : Tr) (hu : Sub t u) (hl : u.lights = []) (w : World) (sv : Value) (N : List TN) (h : BSt w0 gf gb w sv N) (hlen : N.length + 2 ≤ 100000) :
    Calls Tryz.prog 56 #[.pointer (some ⟨gb, 0, none⟩), .int .i64 (u.lab : Int)] w (Grew w0 gf gb w sv N ((Ct.node 2 u.lab (adhS T u.lab ||| belS T u) [.node 0 u.lab (bagS T u.lab) []]).flat N.length)) := by
  have hul := (hV.fits.sub hu).lab
  obtain ⟨x, hx⟩ : ∃ x, T[u.lab]? = some x := ⟨_, List.getElem?_eq_getElem hul⟩
  have hF := hF0.below h.below
  have kp := h.ptr
  have hgb := h.gb_lt
  have HV := Lib.hid hV
  have HF0 := Lib.hid hF0
  have HU := Lib.hid hu
  have HS := Lib.hid h
  have HF := Lib.hid hF
  have HL := Lib.hid hl
  clear hV hF0 hu h hF hl
  go_enter Tryz.func56, Tryz.ntmps56
  go_wp2_with fail
  refine (bag_any gf T t w HF.out u.lab x hx).mono ?_
  rintro e w1 ⟨rfl, hb1⟩
  rw [← bagS_of hx]
  have HS1 := Lib.hid (HS.out.keep hb1)
  have kp1 := HS1.out.ptr
  have HB1 := Lib.hid hb1
  clear hb1 kp HF hx
  go_wp2_with (refine wpList_bTN0 rfl _ _ _ rfl (u.lab : Int) (bagS T u.lab) rfl rfl ?_)
  refine (add_z w0 gf gb w1 sv N HS1.out 0 u.lab (bagS T u.lab) 0 rfl [] (.slice none 0 0) ⟨none, 0, rfl, .inl ⟨rfl, rfl⟩⟩ (by omega)).mono ?_
  rintro e w2 ⟨rfl, sv2, hS2, hp2⟩
  have HS2 := Lib.hid hS2
  have HP2 := Lib.hid ((Stp.of_below HB1.out).trans hp2)
  have HF2 := Lib.hid (HF0.out.below hS2.below)
  have kp2 := hS2.ptr
  have hgb2 := hS2.gb_lt
  clear hS2 hp2 kp1 HS1 HB1
  go_wp2_with fail
  obtain ⟨W3, hW3⟩ : ∃ W3, W3 = w2.alloc (Obj.cells #[.int .i64 (N.length : Int)] 3) := ⟨_, rfl⟩
  have hB3 : Below w2.heap.size w2 W3 := by rw [hW3]; exact (Below.refl _ w2).alloc (Nat.le_refl _) _
  have hs3 : W3.heap.size = w2.heap.size + 1 := by rw [hW3]; simp
  have hr3 : row? W3 w2.heap.size = some #[.int .i64 (N.length : Int)] := by rw [hW3]; simp [go_sem]
  have HS3 := Lib.hid (HS2.out.keep hB3)
  have HP3 := Lib.hid (HP2.out.trans (Stp.of_below hB3))
  have HF3 := Lib.hid (HF2.out.below hB3)
  have hob2 : ∀ k, sv2.ownBlock = some k → k < w2.heap.size := fun k hk => HS2.out.own.lt k hk
  rw [← hW3]
  clear hW3 hB3 HS2 HP2 HF2 kp2
  refine (light_any gf T t W3 HF3.out HV.out.fits u HU.out (by have := Tr.length_le_szs u.ks; have := sub_sz HU.out; cases u; simp only [Tr.ks, Tr.sz] at *; omega)).mono ?_
  rintro e w4 ⟨lv, rfl, hO4, hb4⟩
  rw [lights_lab, HL.out] at hO4
  obtain ⟨q4, n4, c4, rfl⟩ := hO4.slice
  have hn4 := hO4.len
  simp only [labI, List.map_nil, List.length_nil] at hn4
  subst hn4
  have hs4 := hb4.size
  have hr4 := (row?_below hb4 (by omega)).trans hr3
  have HS4 := Lib.hid (HS3.out.keep hb4)
  have HP4 := Lib.hid (HP3.out.trans (Stp.of_below hb4))
  have HF4 := Lib.hid (HF3.out.below hb4)
  have kp4 := HS4.out.ptr
  clear hO4 hb4 hr3 HS3 HP3 HF3
  go_wp2_with fail
  refine (adhesion_any gf T t HV.out w4 HF4.out u.lab hul).mono ?_
  rintro e w5 ⟨rfl, hb5⟩
  have hs5 := hb5.size
  have hr5 := (row?_below hb5 (by omega)).trans hr4
  have HS5 := Lib.hid (HS4.out.keep hb5)
  have HP5 := Lib.hid (HP4.out.trans (Stp.of_below hb5))
  have HF5 := Lib.hid (HF4.out.below hb5)
  have kp5 := HS5.out.ptr
  clear hb5 hr4 HS4 HP4 HF4 kp4
  go_wp2_with fail
  refine (below_of gf gb T t HV.out w5 HF5.out kp5 HS5.out.gb_lt u HU.out).mono ?_
  rintro e w6 ⟨rfl, hb6⟩
  have hs6 := hb6.size
  have hr6 := (row?_below hb6 (by omega)).trans hr5
  have HS6 := Lib.hid (HS5.out.keep hb6)
  have HP6 := Lib.hid (HP5.out.trans (Stp.of_below hb6))
  clear hb6 hr5 HS5 HP5 HF5 kp5
  go_wp2_with fail
  refine (union_any _ _ w6).mono ?_
  rintro e w7 ⟨rfl, hb7⟩
  have hs7 := hb7.size
  have hr7 := (row?_below hb7 (by omega)).trans hr6
  have HS7 := Lib.hid (HS6.out.keep hb7)
  have HP7 := Lib.hid (HP6.out.trans (Stp.of_below hb7))
  clear hb7 hr6 HS6 HP6
  go_wp2_with (refine wpList_bTN1 rfl _ _ _ _ rfl (u.lab : Int) _ _ _ _ rfl rfl rfl ?_)
  refine (add_z w0 gf gb w7 sv2 _ HS7.out 2 u.lab _ 2 rfl [N.length] _ ⟨_, _, rfl, .inr ⟨w2.heap.size, rfl, by omega, by omega, ?_, ?_⟩⟩ (by simp; omega)).mono ?_
  · intro e
    have := hob2 _ e.symm
    omega
  · intro i z hz
    rw [cell?_row hr7]
    match i, hz with
    | 0, hz => simp at hz; subst hz; rfl
  rintro e w8 ⟨rfl, sv8, hS8, hp8⟩
  have HS8 := Lib.hid hS8
  have HP8 := Lib.hid (HP7.out.trans hp8)
  clear hS8 hp8 HP7 HS7
  go_wp2_with fail
  go_ret
  refine ⟨?_, sv8, [⟨⟨0, u.lab, [], bagS T u.lab⟩, .slice none 0 0⟩, ⟨⟨2, u.lab, [N.length], adhS T u.lab ||| belS T u⟩, .slice (some ⟨w2.heap.size, 0, none⟩) 1 1⟩], ?_, ?_, HP8.out⟩
  · simp [Ct.flat, Ct.flats]
  · have := HS8.out
    rwa [List.append_assoc] at this
  · simp [Ct.flat, Ct.flats, Ct.tops, Ct.sz, Ct.szs]
end Go.Proofs.YtoboncfgogjllaaGreatDoor
