/-
  Walks of package toptree: New.
-/
import Derived.Test.YtoboncfgogjllaaGreatDoorQTop11
import Derived.Test.YtoboncfgogjllaaGreatDoorQPlain
namespace Go.Proofs.YtoboncfgogjllaaGreatDoor
open Go Go.RowKit Go.Pal Go.Shelf

theorem BSt.start (w : World) (gf : Nat) : BSt w gf w.heap.size (w.alloc (.cells #[.pointer (some ⟨gf, 0, none⟩), .slice none 0 0] 72)) (.slice none 0 0) [] :=
  ⟨(Below.refl _ _).alloc (Nat.le_refl _) _, Nat.le_refl _, row?_alloc_at _ _ _ _ rfl, World.ownsRow_nil _ _ _ _, by simp [Value.ownBlock], fun x hx => by cases hx⟩
@[go_sem ↓ high] theorem zeroTN (w : World) : (zeroValue 42).run Tryz.prog w = .ok (.agg tn0.cells) w := by rw [Tryz.zeroValue42]; rfl

@[go_sem] theorem storeTN_at (w : World) (g : Nat) (d : Array Value) : rowStore Tryz.prog 42 ⟨g, 0, none⟩ (.agg d) w = match row? w g with
      | some c => if c.size = 19 ∧ d.size = 19 ∧ allOne d = true then .ok () (w.setRow g d) else laterStore Tryz.prog 42 ⟨g, 0, none⟩ (.agg d) w
      | none => laterStore Tryz.prog 42 ⟨g, 0, none⟩ (.agg d) w := store_row Tryz.sizeOf42 w g d
attribute [go_sem] TN.cells_size
theorem TN.cell0 (x : TN) : x.cells[0]? = some (.int .i64 (x.nd.kind : Int)) := by
  unfold TN.cells
  rw [Array.getElem?_append_left (by simp)]
  rfl
theorem TN.cell1 (x : TN) : x.cells[1]? = some (.int .i64 (x.nd.bag : Int)) := by
  unfold TN.cells
  rw [Array.getElem?_append_left (by simp)]
  rfl
theorem TN.cell2 (x : TN) : x.cells[2]? = some x.kv := by
  unfold TN.cells
  rw [Array.getElem?_append_left (by simp)]
  rfl
theorem tnC_get {N : List TN} {k j : Nat} {x : TN} {u : Value} (hx : N[k]? = some x) (hu : x.cells[j]? = some u) : (tnC N)[k * 19 + j]? = some u := by
  induction N generalizing k with
  | nil => simp at hx
  | cons y N ih =>
    have hj : j < 19 := by have := (Array.getElem?_eq_some_iff.1 hu).1; rwa [TN.cells_size] at this
    rw [show tnC (y :: N) = y.cells.toList ++ tnC N from rfl]
    cases k with
    | zero =>
      simp at hx
      subst hx
      rw [List.getElem?_append_left (by rw [Array.length_toList, TN.cells_size]; omega), Nat.zero_mul, Nat.zero_add]
      simpa using hu
    | succ k =>
      rw [List.getElem?_append_right (by rw [Array.length_toList, TN.cells_size]; omega), Array.length_toList, TN.cells_size, show (k + 1) * 19 + j - 19 = k * 19 + j by omega]
      exact ih (by simpa using hx)
theorem OwnN.cells {B : Nat} {w : World} {q : Option Addr} {n c k : Nat} {N : List TN} {x : TN} (h : OwnN B w (.slice q n c) N) (hx : N[k]? = some x) :
    ∃ g, q = some ⟨g, 0, none⟩ ∧ B ≤ g ∧ g < w.heap.size ∧ ∀ j u, x.cells[j]? = some u → w.cell? ⟨g, k * 19 + j, none⟩ = some u := by
  rcases h.2 with ⟨h1, h2⟩ | ⟨g, cap, cur, h1, hB, hg, _⟩
  · simp at h2; subst h2; simp at hx
  · simp only [Value.slice.injEq] at h1
    obtain ⟨rfl, -, -⟩ := h1
    refine ⟨g, rfl, hB, (Array.getElem?_eq_some_iff.1 hg).1, fun j u hu => ?_⟩
    have := World.ownsRow.cells (base := B) h (g := g) rfl _ _ (tnC_get hx hu)
    have e : (⟨g, 0, none⟩ : Addr).add (k * 19 + j) = ⟨g, k * 19 + j, none⟩ := by unfold Addr.add; split <;> simp_all
    rwa [e] at this
theorem TN.allOne (x : TN) (h : ∃ q n c, x.kv = .slice q n c) : allOne x.cells = true := by
  unfold Go.Pal.allOne
  rw [Array.all_eq_true_iff_forall_mem]
  exact fun v hv => x.one h v (by simpa using hv)

theorem OwnN.mono {B B' : Nat} {w : World} {v : Value} {N : List TN} (h : OwnN B w v N) (hB : B' ≤ B) : OwnN B' w v N := by
  obtain ⟨h1, h2⟩ := h
  refine ⟨h1, h2.imp id ?_⟩
  rintro ⟨g, cap, cur, hv, hb, r⟩
  exact ⟨g, cap, cur, hv, by omega, r⟩
/-- A tree of clusters that lies in memory. -/
def TtOk (w : World) (gt gf : Nat) (T : List Bg) (t : Tr) (fl : List TNd) : Prop :=
  ∃ q cap gu gl N, N.map TN.nd = fl ∧ row? w gt = some #[.pointer (some ⟨gf, 0, none⟩), .slice q fl.length cap, .slice (some ⟨gu, 0, none⟩) fl.length fl.length, .slice (some ⟨gl, 0, none⟩) T.length T.length] ∧
    OwnN 0 w (.slice q fl.length cap) N ∧ row? w gu = some (rowI (upsTo fl fl.length) fl.length) ∧ row? w gl = some (rowI (leafsTo fl fl.length) T.length) ∧ FrameOk w gf T t ∧ ∀ x ∈ N, ∃ gb ob, KidR w gb ob x
theorem TtOk.below {w w' : World} {gt gf : Nat} {T : List Bg} {t : Tr} {fl : List TNd} (h : TtOk w gt gf T t fl) (hb : Below w.heap.size w w') : TtOk w' gt gf T t fl := by
  obtain ⟨q, cap, gu, gl, N, h1, h2, h3, h4, h5, h6, h7⟩ := h
  refine ⟨q, cap, gu, gl, N, h1, (row?_below hb (row?_lt h2)).trans h2, h3.same fun g hg => hb.block g (h3.lt g hg), (row?_below hb (row?_lt h4)).trans h4, (row?_below hb (row?_lt h5)).trans h5, h6.below hb, fun x hx => ?_⟩
  obtain ⟨gb, ob, h⟩ := h7 x hx
  exact ⟨gb, ob, h.keep hb.size fun k hk _ h2 => ⟨hb.block k hk, h2⟩⟩

set_option maxRecDepth 10000 in
set_option maxHeartbeats 4000000 in
theorem ttNew_any (T : List Bg) (t : Tr) (hV : Valid T t) (hts : t.sz ≤ 65536) (gf : Nat) (w : World) (hF : FrameOk w gf T t) (l : List Tr) (hp : HPath t l) (c : Ct) (hc : Cl T .chain l c) (hcs : c.sz ≤ 100000) :
    Calls Tryz.prog 5 #[.pointer (some ⟨gf, 0, none⟩)] w fun e w' => ∃ gt, e = .returned (.tuple #[.pointer (some ⟨gt, 0, none⟩), .int .i64 0]) ∧ TtOk w' gt gf T t (c.flat 0) ∧ Below w.heap.size w w' := by
  have HV := Lib.hid hV
  have HF := Lib.hid hF
  have HP := Lib.hid hp
  have hbs := BSt.start w gf
  have HB0 := Lib.hid hbs
  have HCh : Hid (ChainOk w gf w.heap.size l c) := Lib.hid (cl_any w gf w.heap.size T t hV hF hts hc (hpath_sub hp .self) (Nat.le_trans hp.length_le hts))
  have HC := Lib.hid hc
  clear hV hF hp hbs hc
  go_enter Tryz.func5, Tryz.ntmps5
  go_wp2_with fail
  obtain ⟨W, hW⟩ : ∃ W, W = w.alloc (Obj.cells #[.pointer (some ⟨gf, 0, none⟩), .slice none 0 0] 72) := ⟨_, rfl⟩
  have hBW : Below w.heap.size w W := by rw [hW]; exact (Below.refl _ w).alloc (Nat.le_refl _) _
  have hsW : W.heap.size = w.heap.size + 1 := by rw [hW]; simp
  rw [← hW] at HB0 ⊢
  have HFW := Lib.hid (HF.out.below hBW)
  have HBW := Lib.hid hBW
  clear hW hBW
  refine (froot_any gf T t HV.out W HFW.out).mono ?_
  rintro e w1 ⟨rfl, hb1⟩
  have hs1 := hb1.size
  have HB1 := Lib.hid (HBW.out.trans (hb1.mono (by omega)))
  have HS1 := Lib.hid (HB0.out.keep hb1)
  have HF1 := Lib.hid (HFW.out.below hb1)
  clear hb1 HBW HB0 HFW
  go_wp2_with fail
  refine (hpath_any gf T t HV.out w1 HF1.out t .self l HP.out (Nat.le_trans HP.out.length_le hts)).mono ?_
  rintro e w2 ⟨v2, rfl, hO2, hb2⟩
  have hs2 := hb2.size
  have hrd : RdI (fun k => k ≠ w.heap.size ∧ some k ≠ (Value.slice none 0 0).ownBlock) w2 v2 (labI l) := hO2.rdI (fun e => by cases HP.out <;> simp at e) (fun k hk _ => ⟨by omega, by simp [Value.ownBlock]⟩)
  have HB2 := Lib.hid (HB1.out.trans (hb2.mono (by omega)))
  have HS2 := Lib.hid (HS1.out.keep hb2)
  have HRD := Lib.hid hrd
  clear hb2 hO2 hrd HS1 HB1 HF1
  go_wp2_with fail
  refine (HCh.out w2 (.slice none 0 0) [] v2 HS2.out HRD.out (by simpa using hcs)).mono ?_
  rintro e w3 ⟨rfl, sv, N, hS3, hN, hp3⟩
  rw [List.nil_append] at hS3
  have hs3 := hp3.same.size
  have hlen : N.length = c.sz := by
    have := congrArg List.length hN
    rwa [List.length_map, Ct.flat_length] at this
  have hpos := c.sz_pos
  have hN0 : N.map TN.nd = c.flat 0 := hN
  have HN := Lib.hid hN0
  clear hN0
  have HF3 := Lib.hid (HF.out.below hS3.below)
  have HB3 := Lib.hid hS3.below
  have hr3 := hS3.row
  obtain ⟨q, cap, hsv⟩ := hS3.slice
  subst hsv
  have HO3 := Lib.hid hS3.own
  have HK3 := Lib.hid hS3.kids
  have HS3 := Lib.hid hS3
  rw [hlen] at hr3
  clear hS3 hN hp3 HS2 HRD HCh HB2
  go_wp2_with fail
  have hne : T ≠ [] := fun e => by have := HV.out.pos; rw [e] at this; simp at this
  have hTl := HV.out.le
  have hmk := run_make1 (P := Tryz.prog) (t := 31) Tryz.underlying31 infoInt rfl T.length (by omega) (by omega)
  refine wp_region_mix (fun W => row? W w.heap.size = some #[.pointer (some ⟨gf, 0, none⟩), .slice q c.sz cap]) 17 [(0, true), (1, true), (2, true), (3, true), (4, true), (6, true), (7, true), (8, true), (9, true), (10, true), (12, true), (5, false), (11, false), (13, false), (14, false), (15, true), (16, false)] (by kernel_rfl) (by kernel_rfl) hr3 ?_
  repeat (apply wpPlan_still rfl rfl; (intro w hw; have k1 := cell?_row (i := 1) hw; simp at k1; clear hw; go_simp; (try go_ints); (first | with_reducible rfl | (go_simp; with_reducible rfl))); (intro K hK; go_simp; (try go_ints); refine hK _ _ ?_; clear hK K))
  apply wpPlan_act rfl rfl
  intro K hK
  unfold Oper.wp
  go_simp
  obtain ⟨W4, hW4⟩ : ∃ W4, W4 = (w3.alloc (Obj.cells #[.int .i64 (-1)] 3)).drew := ⟨_, rfl⟩
  have hB4 : Below w3.heap.size w3 W4 := by rw [hW4]; exact ((Below.refl _ w3).alloc (Nat.le_refl _) _).drew
  have hs4 : W4.heap.size = w3.heap.size + 1 := by rw [hW4]; simp
  have hc4 : W4.cell? ⟨w3.heap.size, 0, none⟩ = some (.int .i64 (-1)) := by
    have : row? W4 w3.heap.size = some #[.int .i64 (-1)] := by rw [hW4]; exact row?_alloc_at _ _ _ _ rfl
    rw [cell?_row this]; rfl
  have hgbl := row?_lt hr3
  have hr4 := (row?_below hB4 hgbl).trans hr3
  rw [← hW4]
  refine hK _ _ hr4 ?_
  clear hK K hW4
  apply wpPlan_act rfl rfl
  intro K hK
  unfold Oper.wp
  go_simp
  refine (repeat_any (-1) w3.heap.size 1 c.sz W4 hc4 (by omega) hpos hcs).mono ?_
  rintro e w5 ⟨gu, rfl, hgu, hru5, hb5⟩
  have hs5 := hb5.size
  have hr5 := (row?_below hb5 (by omega)).trans hr4
  refine hK _ _ hr5 ?_
  have hgu5 := row?_lt hru5
  have HB5 := Lib.hid (hB4.trans (hb5.mono (by omega)))
  have HF5 := Lib.hid ((HF3.out.below hB4).below hb5)
  clear hK K hb5 hB4 hc4 hr4
  apply wpPlan_act rfl rfl
  intro K hK
  unfold Oper.wp
  go_simp
  refine (flen_any gf T t w5 HF5.out hne (by omega)).mono ?_
  rintro e w6 ⟨rfl, hb6⟩
  have hs6 := hb6.size
  have hr6 := (row?_below hb6 (by omega)).trans hr5
  have hru6 := (row?_below hb6 hgu5).trans hru5
  refine hK _ _ hr6 ?_
  have HB6 := Lib.hid (HB5.out.trans (hb6.mono (by omega)))
  clear hK K hb6 hr5 hru5 HB5 HF5
  apply wpPlan_act rfl rfl
  intro K hK
  unfold Oper.wp
  go_simp
  obtain ⟨W7, hW7⟩ : ∃ W7, W7 = w6.alloc (Obj.cells (Array.replicate T.length (.int .i64 0)) 3) := ⟨_, rfl⟩
  have hB7 : Below w6.heap.size w6 W7 := by rw [hW7]; exact (Below.refl _ w6).alloc (Nat.le_refl _) _
  have hs7 : W7.heap.size = w6.heap.size + 1 := by rw [hW7]; simp
  have hrl7 : row? W7 w6.heap.size = some (Array.replicate T.length (.int .i64 0)) := by rw [hW7]; exact row?_alloc_at _ _ _ _ rfl
  have hr7 := (row?_below hB7 (by omega)).trans hr6
  have hru7 := (row?_below hB7 (by omega)).trans hru6
  rw [← hW7]
  refine hK _ _ hr7 ?_
  have HB7 := Lib.hid (HB6.out.trans (hB7.mono (by omega)))
  clear hK K hB7 hW7 hr6 hru6 HB6 hmk
  obtain ⟨gt, hgt⟩ : ∃ g, W7.heap.size = g := ⟨_, rfl⟩
  have hgt1 : w6.heap.size < gt := by omega
  clear hs7
  repeat (apply wpPlan_still rfl rfl; (intro w hw; skip; go_simp; (try go_ints); (first | with_reducible rfl | (go_simp; with_reducible rfl))); (intro K hK; go_simp; (try go_ints); refine hK _ _ ?_; clear hK K))
  apply wpPlan_act rfl rfl
  intro K hK
  unfold Oper.wp
  go_simp
  obtain ⟨W8, hW8⟩ : ∃ W8, W8 = W7.alloc (Obj.cells #[.pointer (some ⟨gf, 0, none⟩), .slice q c.sz cap, .slice (some ⟨gu, 0, none⟩) c.sz c.sz, .slice (some ⟨w6.heap.size, 0, none⟩) T.length T.length] 76) := ⟨_, rfl⟩
  have hB8 : Below W7.heap.size W7 W8 := by rw [hW8]; exact (Below.refl _ W7).alloc (Nat.le_refl _) _
  have hs8 : gt < W8.heap.size := by rw [hW8]; simp; omega
  have hrt8 : row? W8 gt = some #[.pointer (some ⟨gf, 0, none⟩), .slice q c.sz cap, .slice (some ⟨gu, 0, none⟩) c.sz c.sz, .slice (some ⟨w6.heap.size, 0, none⟩) T.length T.length] := by rw [hW8]; exact row?_alloc_at _ _ _ _ hgt.symm
  have hr8 := (row?_below hB8 (by omega)).trans hr7
  have hru8 := (row?_below hB8 (by omega)).trans hru7
  have hrl8 := (row?_below hB8 (by omega)).trans hrl7
  rw [← hW8]
  refine hK _ _ hr8 ?_
  have HB8 := Lib.hid (HB7.out.trans (hB8.mono (by omega)))
  clear hK K hB8 hW8 hr7 hru7 hrl7 HB7 hr8
  refine wpPlan_nil ?_
  simp only [List.drop_succ_cons, List.drop_zero]
  have k8 := cell?_row (i := 1) hrt8
  simp at k8
  go_wp2_with fail
  have hsame8 : Same (fun k => k ≠ gu ∧ k ≠ w6.heap.size) W8 W8 := Same.refl _ _
  have hru8' : row? W8 gu = some (rowI (upsTo (c.flat 0) 0) c.sz) := by rw [hru8]; exact congrArg some (rowI_const (-1) c.sz).symm
  have hrl8' : row? W8 w6.heap.size = some (rowI (leafsTo (c.flat 0) 0) T.length) := by rw [hrl8]; exact congrArg some (rowI_const 0 T.length).symm
  clear hru8 hrl8
  go_loopw [43] (fun i wr => ∃ k : Nat, k ≤ c.sz ∧ i = .int .i64 (k : Int) ∧ row? wr gu = some (rowI (upsTo (c.flat 0) k) c.sz) ∧ row? wr w6.heap.size = some (rowI (leafsTo (c.flat 0) k) T.length) ∧ Same (fun k => k ≠ gu ∧ k ≠ w6.heap.size) W8 wr) (fun i _ => c.sz - (intOf i).toNat)
  case atStart => exact ⟨0, by omega, rfl, hru8', hrl8', hsame8⟩
  case round =>
    obtain ⟨k, hk, rfl, hru, hrl, hsm⟩ := hrel
    have hrt : row? wr gt = _ := (row?_congr (hsm.block gt hs8 ⟨by omega, by omega⟩)).trans hrt8
    have hsr := hsm.size
    by_cases hlt : k < c.sz
    · obtain ⟨x, hx⟩ : ∃ x, N[k]? = some x := ⟨_, List.getElem?_eq_getElem (by omega)⟩
      obtain ⟨g, rfl, hgB, hgl, hgc⟩ := HO3.out.cells hx
      have hgc' : ∀ j u, x.cells[j]? = some u → wr.cell? ⟨g, k * 19 + j, none⟩ = some u := fun j u hu => (World.cell?_of_block (hsm.block g (by omega) ⟨by omega, by omega⟩)).trans ((HB8.out.cell (p := ⟨g, k * 19 + j, none⟩) hgl).trans (hgc j u hu))
      have hload : rowLoad Tryz.prog 42 ⟨g, k * 19, none⟩ wr = .ok (.agg x.cells) wr := load_cells Tryz.isAgg42 Tryz.sizeOf42 wr g _ x.cells x.cells_size hgc'
      obtain ⟨ka, kc, hkv, hkr⟩ := HK3.out x (List.mem_of_getElem? hx)
      have hone := x.allOne ⟨_, _, _, hkv⟩
      have e9 : (wr.alloc (Obj.cells x.cells 42)).cell? ⟨wr.heap.size, 2, none⟩ = some (.slice ka x.nd.kids.length kc) := by
        rw [cell?_row (row?_alloc_at _ _ _ _ rfl), x.cell2, hkv]
      have HKR := Lib.hid hkr
      have HX := Lib.hid hx
      clear hgc hgc' hkr hx
      go_wp2_with fail
      have hgl8 := row?_lt hrl8'
      have hgu8 := row?_lt hru8'
      have hfk : (c.flat 0)[k]? = some x.nd := by rw [← HN.out, List.getElem?_map, HX.out]; rfl
      have hxk : x.nd.kids.length ≤ c.sz := Ct.flat_kidn 0 c x.nd (List.mem_of_getElem? hfk)
      obtain ⟨W9, hW9⟩ : ∃ W9, W9 = wr.alloc (Obj.cells x.cells 42) := ⟨_, rfl⟩
      have hs9 : wr.heap.size < W9.heap.size := by rw [hW9]; simp
      have hB9 : Below wr.heap.size wr W9 := by rw [hW9]; exact (Below.refl _ wr).alloc (Nat.le_refl _) _
      have hr9 : row? W9 wr.heap.size = some x.cells := by rw [hW9]; exact row?_alloc_at _ _ _ _ rfl
      have hru9 : row? W9 gu = some (rowI (setKids (upsTo (c.flat 0) k) k (x.nd.kids.take 0)) c.sz) := (row?_below hB9 (by omega)).trans hru
      have hrl9 := (row?_below hB9 (by omega)).trans hrl
      have hrt9 := (row?_below hB9 (by omega)).trans hrt
      have hsm9 : Same (fun k => k ≠ gu ∧ k ≠ w6.heap.size) W8 W9 := hsm.trans (((Same.of_below hB9).mono fun k hk _ => hk))
      have hpb : ∀ p ∈ x.nd.kids, p < c.sz := fun p hp => by
        have := Ct.flat_kids 0 c k x.nd hfk p hp
        omega
      rw [← hW9]
      have HSM9 := Lib.hid hsm9
      have HB9 := Lib.hid hB9
      have HPB := Lib.hid hpb
      clear hW9 hB9 hsm9 e9 hload hpb hru hrl hrt hone
      obtain ⟨wo, hwo⟩ : ∃ x, x = wr := ⟨_, rfl⟩
      subst hwo
      go_loopw [51] (fun i wr => ∃ j : Nat, j ≤ x.nd.kids.length ∧ i = .int .i64 (j : Int) ∧ row? wr gu = some (rowI (setKids (upsTo (c.flat 0) k) k (x.nd.kids.take j)) c.sz) ∧ Same (fun k => k ≠ gu) W9 wr) (fun i _ => x.nd.kids.length - (intOf i).toNat)
      case atStart => exact ⟨0, by omega, rfl, hru9, Same.refl _ _⟩
      case round =>
        obtain ⟨j, hj, rfl, hruq, hsq⟩ := hrel
        have hsqs := hsq.size
        have hrtq := (row?_congr (hsq.block gt (by omega) (by omega))).trans hrt9
        by_cases hjl : j < x.nd.kids.length
        · obtain ⟨p, hp⟩ : ∃ p, x.nd.kids[j]? = some p := ⟨_, List.getElem?_eq_getElem hjl⟩
          have hpc := HPB.out p (List.mem_of_getElem? hp)
          rcases HKR.out with ⟨h1, -⟩ | ⟨kb, rfl, hkb1, -, -, hkb2⟩
          · rw [h1] at hjl; simp at hjl
          have hcell : wr.cell? ⟨kb, j, none⟩ = some (.int .i64 (p : Int)) := (World.cell?_of_block (hsq.block kb (by omega) (by omega))).trans ((HB9.out.cell (p := ⟨kb, j, none⟩) (by show kb < _; omega)).trans ((World.cell?_of_block (hsm.block kb (by omega) ⟨by omega, by omega⟩)).trans ((HB8.out.cell (p := ⟨kb, j, none⟩) hkb1).trans (hkb2 j p hp))))
          have kt := cell?_row (i := 2) hrtq
          simp at kt
          have hfz := frozen?_row (i := p) hruq
          have kp : wr.cell? ⟨gu, p, none⟩ = _ := cell?_row (i := p) hruq
          rw [rowI_get _ hpc] at kp
          have hnx : setKids (upsTo (c.flat 0) k) k (x.nd.kids.take (j + 1)) = updI (setKids (upsTo (c.flat 0) k) k (x.nd.kids.take j)) p k := by
            rw [List.take_add_one, hp]
            exact setKids_snoc _ _ _ _
          have HNX := Lib.hid hnx
          clear hp hkb2 hnx
          go_wp2_with fail
          go_roundw
          case rel =>
            refine ⟨j + 1, by omega, by go_num, ?_, hsq.trans (Same.setCell _ _ _ _ (by simp))⟩
            rw [row?_setCell_same, hruq, HNX.out]
            exact congrArg some (rowI_set _ _ _ _)
          case measure => simp [intOf]; omega
        · have hjn : j = x.nd.kids.length := by omega
          subst hjn
          rw [List.take_of_length_le (Nat.le_refl _)] at hruq
          have hbag : x.nd.bag < T.length := Ct.flat_bags T.length 0 c (HC.out.bagsLt (fun u ⟨r, hr, hs⟩ => (HV.out.fits.sub ((hpath_sub HP.out .self r hr).trans hs)).lab) (fun b hb => by cases hb)) x.nd (List.mem_of_getElem? hfk)
          have hr7q := (row?_congr (hsq.block wo.heap.size (by omega) (by omega))).trans hr9
          have e0 : wr.cell? ⟨wo.heap.size, 0, none⟩ = some (.int .i64 (x.nd.kind : Int)) := (cell?_row hr7q).trans x.cell0
          have e1 : wr.cell? ⟨wo.heap.size, 1, none⟩ = some (.int .i64 (x.nd.bag : Int)) := (cell?_row hr7q).trans x.cell1
          have hrlq : row? wr w6.heap.size = _ := (row?_congr (hsq.block w6.heap.size (by omega) (by omega))).trans hrl9
          have kl := cell?_row (i := 3) hrtq
          simp at kl
          have hups : upsTo (c.flat 0) (k + 1) = setKids (upsTo (c.flat 0) k) k x.nd.kids := by rw [upsTo, hfk]
          have hsmq : Same (fun k => k ≠ gu ∧ k ≠ w6.heap.size) W8 wr := HSM9.out.trans ⟨hsq.os, hsq.tape, hsq.output, hsq.size, fun k hk h => hsq.block k hk h.1⟩
          have HUP := Lib.hid hups
          have HFK := Lib.hid hfk
          clear hups hfk hr7q
          by_cases hk0 : x.nd.kind = 0
          · have hleaf : leafsTo (c.flat 0) (k + 1) = updI (leafsTo (c.flat 0) k) x.nd.bag k := by rw [leafsTo, HFK.out]; simp [hk0]
            have HLF := Lib.hid hleaf
            rw [hk0] at e0
            have hfz := frozen?_row (i := x.nd.bag) hrlq
            have kp : wr.cell? ⟨w6.heap.size, x.nd.bag, none⟩ = _ := cell?_row (i := x.nd.bag) hrlq
            rw [rowI_get _ hbag] at kp
            clear hleaf hk0
            go_wp2_with fail
            refine wp_region_free_tail (fun w' => w' = wr.drew) 8 (by kernel_rfl) (by kernel_rfl) rfl ?_
            simp only [List.take_succ_cons, List.take_zero, List.drop_succ_cons, List.drop_zero]
            repeat (apply wpFree_still; (intro w hw; subst hw; go_simp; (try go_ints); (first | with_reducible rfl | (go_simp; with_reducible rfl))); with_reducible rfl; (intro K hK; go_simp; (try go_ints); refine hK _ ?_; clear hK K))
            with_reducible refine wpFree_nil ?_
            rintro w' rfl
            go_wp2_with fail
            go_roundw
            case rel =>
              refine ⟨k + 1, by omega, by go_num, ?_, ?_, (hsmq.trans (Same.setCell _ _ _ _ (by simp))).trans (Same.drew _ _)⟩
              · rw [row?_drew, row?_setCell_other _ _ _ _ _ (by omega), hruq, HUP.out]
              · rw [row?_drew, row?_setCell_same, hrlq, HLF.out]
                exact congrArg some (rowI_set _ _ _ _)
            case measure => simp [intOf]; omega
          · have hleaf : leafsTo (c.flat 0) (k + 1) = leafsTo (c.flat 0) k := by rw [leafsTo, HFK.out]; simp [hk0]
            have HLF := Lib.hid hleaf
            have hk0' : ¬ ((x.nd.kind : Int) = 0) := by omega
            clear hleaf
            go_wp2_with fail
            go_roundw
            case rel => exact ⟨k + 1, by omega, by go_num, by rw [hruq, HUP.out], by rw [hrlq, HLF.out], hsmq⟩
            case measure => simp [intOf]; omega
    · have hkn : k = c.sz := by omega
      subst hkn
      go_wp2_with fail
      go_ret2
      have hfl : (c.flat 0).length = c.sz := Ct.flat_length 0 c
      have hg3 : ∀ g, (Value.slice q N.length cap).ownBlock = some g → g < w3.heap.size := fun g hg => HO3.out.lt g hg
      have h38 : ∀ g, g < w3.heap.size → wr.heap[g]? = w3.heap[g]? := fun g hg => (hsm.block g (by omega) ⟨by omega, by omega⟩).trans (HB8.out.block g hg)
      have hb3 : Below w3.heap.size w3 wr := ⟨hsm.os.trans HB8.out.os, hsm.tape.trans HB8.out.tape, hsm.output.trans HB8.out.output, by omega, h38⟩
      refine ⟨gt, rfl, ⟨q, cap, gu, w6.heap.size, N, HN.out, ?_, ?_, ?_, ?_, HF3.out.below hb3, ?_⟩, HB3.out.trans (hb3.mono HB3.out.size)⟩
      · rw [hfl]; exact hrt
      · rw [hfl, ← hlen]; exact (HO3.out.same fun g hg => h38 g (hg3 g hg)).mono (Nat.zero_le _)
      · rw [hfl]; exact hru
      · rw [hfl]; exact hrl
      · exact fun x hx => ⟨_, _, (HK3.out x hx).keep (by omega) fun k hk _ h2 => ⟨h38 k hk, h2⟩⟩
end Go.Proofs.YtoboncfgogjllaaGreatDoor
