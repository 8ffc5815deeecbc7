/-
  Walks of package toptree: item of a bag with light kids.
  Walks of package toptree: chain.
-/
import Derived.Test.YtoboncfgogjllaaGreatDoorQTo4
namespace Go.Proofs.YtoboncfgogjllaaGreatDoor
open Go Go.RowKit Go.Pal Go.Shelf

theorem ownI_one {B : Nat} {w : World} {g : Nat} {z : Int} (hg : w.heap[g]? = some (.cells #[.int .i64 z] 3 (0, 0))) (hB : B ≤ g) : OwnI B w (.slice (some ⟨g, 0, none⟩) 1 1) [z] :=
  ⟨rfl, .inr ⟨g, 1, #[.int .i64 z], rfl, hB, hg, Nat.le_refl _, by decide, rfl, rfl⟩⟩
theorem OwnI.rdI {B : Nat} {A : Nat → Prop} {w : World} {v : Value} {ns : List Int} (h : OwnI B w v ns) (hne : ns ≠ []) (hA : ∀ k, B ≤ k → k < w.heap.size → A k) : RdI A w v ns := by
  obtain ⟨q, n, c, rfl⟩ := h.slice
  have hl := h.len
  subst hl
  obtain ⟨z, hz⟩ : ∃ z, ns[0]? = some z := by cases ns with
    | nil => exact absurd rfl hne
    | cons z _ => exact ⟨z, rfl⟩
  obtain ⟨g, rfl, hB, hg, -⟩ := h.cell hz
  refine ⟨g, 0, c, rfl, ?_, hA g hB hg, hg, fun i z hz => ?_⟩
  · rcases h.2 with ⟨h1, h2⟩ | ⟨g', cap, cur, h1, _, _, h3, _⟩
    · omega
    · simp only [Value.slice.injEq] at h1
      obtain ⟨-, -, rfl⟩ := h1
      exact h3
  · obtain ⟨g', h1, -, -, h2⟩ := h.cell hz
    simp only [Option.some.injEq, Addr.mk.injEq] at h1
    obtain ⟨rfl, -, -⟩ := h1
    rwa [Nat.zero_add]

/-- One integer appended to a full row: the result lies in a block of its own. -/
theorem wp_appF {o : Oper} {a : Act} {K : Act → World → Prop} {Q : Exit → Act → World → Prop} {w : World} (s x : Operand)
    (ho : o.op = .call { callee := .builtin .append, args := #[s, x], argTypes := #[31, 31] }) (B g0 : Nat) (ns : List Int) (hs : a.eval s = .slice (some ⟨g0, 0, none⟩) ns.length ns.length) (hown : OwnI B w (.slice (some ⟨g0, 0, none⟩) ns.length ns.length) ns)
    (g : Nat) (z : Int) (c : Nat) (hx : a.eval x = .slice (some ⟨g, 0, none⟩) 1 c) (hg : w.cell? ⟨g, 0, none⟩ = some (.int .i64 z)) (hlen : ns.length < 1000000) (hB : B ≤ w.heap.size)
    (h : ∀ v' w', OwnI w.heap.size w' v' (ns ++ [z]) → Below w.heap.size w w' → K (a.put o.dst v') w') : o.wp Tryz.prog a w K Q := by
  obtain ⟨i0, hi, hz0, hz1, hz2⟩ := info_parts infoInt
  have hnews : ∀ j u, [Value.int .i64 z][j]? = some u → w.cell? ((⟨g, 0, none⟩ : Addr).add j) = some u := fun j u hj => by
    cases j with
    | zero => simp at hj; subst hj; simpa [Addr.add] using hg
    | succ j => simp at hj
  obtain ⟨v', w', hr, h2, h3, h4⟩ := run_append_own2 (P := Tryz.prog) w B 31 o.type 3 i0 (.int .i64 0) 1 8 Tryz.underlying31 hi hz0 hz1 hz2 rfl (by decide) _ ns.length (ns.map (Value.int .i64)) hown ⟨g, 0, none⟩ 1 c (by decide) [.int .i64 z] rfl
    hnews (fun u hu => by simp at hu; subst hu; rfl) (by unfold maxLen; omega) (by omega) hB
  have hgr := run_append_grow (P := Tryz.prog) w 31 o.type 3 i0 (.int .i64 0) Tryz.underlying31 hi hz0 ⟨g0, 0, none⟩ ns.length ns.length (ns.map (Value.int .i64)) (by rw [hz1]; simp) (World.ownsRow.cells (base := B) hown (g := g0) rfl) ⟨g, 0, none⟩ 1 c [.int .i64 z] (by rw [hz1]; rfl) hnews (by omega) (by omega) (growslice_fits (by omega) (by rw [hz2]; omega))
  have hb : Below w.heap.size w w' := by
    rw [hr] at hgr
    simp only [Result.ok.injEq] at hgr
    rw [hgr.2]
    exact ((Below.refl _ w).drew).alloc (Nat.le_refl _) _
  have ho2 : OwnI w.heap.size w' v' (ns ++ [z]) := by
    have h5 : OwnI B w' v' (ns ++ [z]) := by unfold OwnI; simpa using h2
    obtain ⟨h6, h7⟩ := h5
    refine ⟨h6, h7.imp id ?_⟩
    rintro ⟨k, cap, cur, hv, _, r⟩
    refine ⟨k, cap, cur, hv, ?_, r⟩
    rw [hr] at hgr
    simp only [Result.ok.injEq] at hgr
    rw [hgr.1] at hv
    simp only [Value.slice.injEq, Option.some.injEq, Addr.mk.injEq] at hv
    omega
  unfold Oper.wp execOp
  simp only [ho, resolve, invoke, builtin, Sem.run_bind, Sem.run_pure, Result.andThen_ok, List.map_toArray, List.map_cons, List.map_nil, hs, hx, hr]
  exact h v' w' ho2 hb
theorem wpList_appF {ops : Array Oper} {rest : List Oper} {o : Oper} {a : Act} {Q : Exit → Act → World → Prop} {w : World} (hgd : o.guard = none) (s x : Operand)
    (ho : o.op = .call { callee := .builtin .append, args := #[s, x], argTypes := #[31, 31] }) (B g0 : Nat) (ns : List Int) (hs : a.eval s = .slice (some ⟨g0, 0, none⟩) ns.length ns.length) (hown : OwnI B w (.slice (some ⟨g0, 0, none⟩) ns.length ns.length) ns)
    (g : Nat) (z : Int) (c : Nat) (hx : a.eval x = .slice (some ⟨g, 0, none⟩) 1 c) (hg : w.cell? ⟨g, 0, none⟩ = some (.int .i64 z)) (hlen : ns.length < 1000000) (hB : B ≤ w.heap.size)
    (h : ∀ v' w', OwnI w.heap.size w' v' (ns ++ [z]) → Below w.heap.size w w' → wpList Tryz.prog ops Q rest (a.put o.dst v') w') : wpList Tryz.prog ops Q (o :: rest) a w :=
  wpList_plain hgd fun _ hK => wp_appF s x ho B g0 ns hs hown g z c hx hg hlen hB fun v' w' h1 h2 => hK _ _ (h v' w' h1 h2)

set_option maxRecDepth 10000 in
set_option maxHeartbeats 400000 in
theorem item1_any (w0 : World) (gf gb : Nat) (T : List Bg) (t : Tr) (hV : Valid T t) (hF0 : FrameOk w0 gf T t) (hts : t.sz ≤ 65536) (u : Tr) (hu : Sub t u) (hl : u.lights ≠ []) (c1 : Ct) (hG : GrpOk w0 gf gb u.lab u.lights c1) (w : World) (sv : Value) (N : List TN) (h : BSt w0 gf gb w sv N) (hlen : N.length + 2 + c1.sz ≤ 100000) :
    Calls Tryz.prog 56 #[.pointer (some ⟨gb, 0, none⟩), .int .i64 (u.lab : Int)] w (Grew w0 gf gb w sv N ((Ct.node 2 u.lab (adhS T u.lab ||| belS T u) [.node 0 u.lab (bagS T u.lab) [], c1]).flat N.length)) := by
  have hul := (hV.fits.sub hu).lab
  obtain ⟨x, hx⟩ : ∃ x, T[u.lab]? = some x := ⟨_, List.getElem?_eq_getElem hul⟩
  have hF := hF0.below h.below
  have kp := h.ptr
  have hgb := h.gb_lt
  have HV := Lib.hid hV
  have HF0 := Lib.hid hF0
  have HU := Lib.hid hu
  have HS := Lib.hid h
  have HF := Lib.hid hF
  have HL := Lib.hid hl
  have HG := Lib.hid hG
  clear hV hF0 hu h hF hl hG
  go_enter Tryz.func56, Tryz.ntmps56
  go_wp2_with fail
  refine (bag_any gf T t w HF.out u.lab x hx).mono ?_
  rintro e w1 ⟨rfl, hb1⟩
  rw [← bagS_of hx]
  have HS1 := Lib.hid (HS.out.keep hb1)
  have kp1 := HS1.out.ptr
  have HB1 := Lib.hid hb1
  clear hb1 kp HF hx
  go_wp2_with (refine wpList_bTN0 rfl _ _ _ rfl (u.lab : Int) (bagS T u.lab) rfl rfl ?_)
  refine (add_z w0 gf gb w1 sv N HS1.out 0 u.lab (bagS T u.lab) 0 rfl [] (.slice none 0 0) ⟨none, 0, rfl, .inl ⟨rfl, rfl⟩⟩ (by omega)).mono ?_
  rintro e w2 ⟨rfl, sv2, hS2, hp2⟩
  have HS2 := Lib.hid hS2
  have HP2 := Lib.hid ((Stp.of_below HB1.out).trans hp2)
  have HF2 := Lib.hid (HF0.out.below hS2.below)
  have kp2 := hS2.ptr
  have hgb2 := hS2.gb_lt
  clear hS2 hp2 kp1 HS1 HB1
  go_wp2_with fail
  obtain ⟨W3, hW3⟩ : ∃ W3, W3 = w2.alloc (Obj.cells #[.int .i64 (N.length : Int)] 3) := ⟨_, rfl⟩
  have hB3 : Below w2.heap.size w2 W3 := by rw [hW3]; exact (Below.refl _ w2).alloc (Nat.le_refl _) _
  have hs3 : W3.heap.size = w2.heap.size + 1 := by rw [hW3]; simp
  have hg3 : W3.heap[w2.heap.size]? = some (.cells #[.int .i64 (N.length : Int)] 3 (0, 0)) := by rw [hW3]; exact heap_alloc_new _ _
  have hr3 : row? W3 w2.heap.size = some #[.int .i64 (N.length : Int)] := by rw [hW3]; simp [go_sem]
  have HS3 := Lib.hid (HS2.out.keep hB3)
  have HP3 := Lib.hid (HP2.out.trans (Stp.of_below hB3))
  have HF3 := Lib.hid (HF2.out.below hB3)
  have hob2 : ∀ k, sv2.ownBlock = some k → k < w2.heap.size := fun k hk => HS2.out.own.lt k hk
  rw [← hW3]
  clear hW3 hB3 HS2 HP2 HF2 kp2
  refine (light_any gf T t W3 HF3.out HV.out.fits u HU.out (by have := Tr.length_le_szs u.ks; have := sub_sz HU.out; cases u; simp only [Tr.ks, Tr.sz] at *; omega)).mono ?_
  rintro e w4 ⟨lv, rfl, hO4, hb4⟩
  rw [lights_lab] at hO4
  have hll : (labI u.lights).length ≤ u.ks.length := by unfold labI Tr.lights; rw [List.length_map]; exact List.length_filter_le _ _
  have hlp : 0 < (labI u.lights).length := by unfold labI; rw [List.length_map]; exact List.length_pos_iff.2 HL.out
  obtain ⟨q4, n4, c4, rfl⟩ := hO4.slice
  have hn4 := hO4.len
  subst hn4
  have hs4 := hb4.size
  have hg4 := (hb4.block w2.heap.size (by omega)).trans hg3
  have HS4 := Lib.hid (HS3.out.keep hb4)
  have HP4 := Lib.hid (HP3.out.trans (Stp.of_below hb4))
  have kp4 := HS4.out.ptr
  have hrd := hO4.rdI (A := fun k => k ≠ gb ∧ some k ≠ sv2.ownBlock) (fun e => by rw [e] at hlp; simp at hlp) (fun k hk _ => ⟨by omega, fun e => by have := hob2 k e.symm; omega⟩)
  have hcond : ((0 : Int) < ((labI u.lights).length : Int)) := by omega
  clear hO4 hb4 hg3 hr3 HS3 HP3 HF3
  go_wp2_with fail
  refine (HG.out w4 sv2 _ _ HS4.out hrd (by simp; omega)).mono ?_
  rintro e w5 ⟨rfl, sv5, M, hS5, hM, hp5⟩
  have hix : ((N ++ [(⟨⟨0, u.lab, [], bagS T u.lab⟩, .slice none 0 0⟩ : TN)]).length + (c1.flat (N ++ [(⟨⟨0, u.lab, [], bagS T u.lab⟩, .slice none 0 0⟩ : TN)]).length).length - 1 : Nat) = N.length + c1.sz := by
    rw [Ct.flat_length]; simp
  rw [hix]
  have hs5 := hp5.same.size
  have hg5 := (hp5.same.block w2.heap.size (by omega) ⟨by omega, fun e => by have := hob2 _ e.symm; omega⟩).trans hg4
  have hO5 := ownI_one hg5 (Nat.le_refl _)
  have HM := Lib.hid hM
  have HS5 := Lib.hid hS5
  have HP5 := Lib.hid (HP4.out.trans hp5)
  have HO5 := Lib.hid hO5
  clear hix hrd hg4 hS5 hM hp5 HS4 HP4 kp4 hcond hg5 hO5
  go_wp2_with (at_builtin; refine wpList_appF rfl _ _ rfl w2.heap.size w2.heap.size [(N.length : Int)] rfl (HO5.out.alloc _) _ ((N.length + c1.sz : Nat) : Int) _ rfl ?c1 ?c2 ?c3 ?_)
  case c1 => simp [go_sem]
  case c2 => simp
  case c3 => simp; omega
  intro v6 w6 hO6 hb6
  have hb6' := ((Below.refl w5.heap.size w5).alloc (Nat.le_refl _) (.cells #[.int .i64 ((N.length + c1.sz : Nat) : Int)] 3)).trans (hb6.mono (by simp))
  have hs6 := hb6'.size
  have hsv5 : ∀ k, sv5.ownBlock = some k → k < w5.heap.size := fun k hk => HS5.out.own.lt k hk
  have hgb5 := HS5.out.gb_lt
  have HS6 := Lib.hid (HS5.out.keep hb6')
  have HP6 := Lib.hid (HP5.out.trans (Stp.of_below hb6'))
  have HF6 := Lib.hid (HF0.out.below HS6.out.below)
  have kp6 := HS6.out.ptr
  have HO6 := Lib.hid (OwnI.mono hO6 (B' := w5.heap.size) (by simp))
  obtain ⟨q6, n6, c6, rfl⟩ := hO6.slice
  have hn6 := hO6.len
  subst hn6
  clear hO6 hb6 hb6' HS5 HP5 HO5
  go_wp2_with fail
  refine (adhesion_any gf T t HV.out w6 HF6.out u.lab hul).mono ?_
  rintro e w7 ⟨rfl, hb7⟩
  have hs7 := hb7.size
  have HS7 := Lib.hid (HS6.out.keep hb7)
  have HP7 := Lib.hid (HP6.out.trans (Stp.of_below hb7))
  have HF7 := Lib.hid (HF6.out.below hb7)
  have HO7 : Hid (OwnI _ w7 _ _) := Lib.hid (HO6.out.same fun g hg => hb7.block g (HO6.out.lt g hg))
  have kp7 := HS7.out.ptr
  clear hb7 HS6 HP6 HF6 kp6 HO6
  go_wp2_with fail
  refine (below_of gf gb T t HV.out w7 HF7.out kp7 HS7.out.gb_lt u HU.out).mono ?_
  rintro e w8 ⟨rfl, hb8⟩
  have hs8 := hb8.size
  have HS8 := Lib.hid (HS7.out.keep hb8)
  have HP8 := Lib.hid (HP7.out.trans (Stp.of_below hb8))
  have HO8 : Hid (OwnI _ w8 _ _) := Lib.hid (HO7.out.same fun g hg => hb8.block g (HO7.out.lt g hg))
  clear hb8 HS7 HP7 HF7 kp7 HO7
  go_wp2_with fail
  refine (union_any _ _ w8).mono ?_
  rintro e w9 ⟨rfl, hb9⟩
  have hs9 := hb9.size
  have HS9 := Lib.hid (HS8.out.keep hb9)
  have HP9 := Lib.hid (HP8.out.trans (Stp.of_below hb9))
  have HO9 : Hid (OwnI _ w9 _ _) := Lib.hid (HO8.out.same fun g hg => hb9.block g (HO8.out.lt g hg))
  clear hb9 HS8 HP8 HO8
  go_wp2_with (refine wpList_bTN1 rfl _ _ _ _ rfl (u.lab : Int) _ _ _ _ rfl rfl rfl ?_)
  have hml : M.length = c1.sz := by
    have := congrArg List.length HM.out
    rwa [List.length_map, Ct.flat_length] at this
  refine (add_z w0 gf gb w9 sv5 _ HS9.out 2 u.lab _ 2 rfl [N.length, N.length + c1.sz] _ ⟨_, _, rfl, .inr ?_⟩ (by simp; omega)).mono ?_
  · obtain ⟨g, rfl, h1, h2, -⟩ := HO9.out.cell (j := 0) rfl
    refine ⟨g, rfl, h2, by omega, fun e => by have := hsv5 _ e.symm; omega, fun i z hz => ?_⟩
    have hz' : ([(N.length : Int)] ++ [((N.length + c1.sz : Nat) : Int)])[i]? = some (z : Int) := by
      match i, hz with
      | 0, hz => simp at hz; subst hz; rfl
      | 1, hz => simp at hz; subst hz; rfl
    obtain ⟨g', h3, -, -, h4⟩ := HO9.out.cell hz'
    simp only [Option.some.injEq, Addr.mk.injEq] at h3
    obtain ⟨rfl, -, -⟩ := h3
    exact h4
  rintro e w10 ⟨rfl, sv10, hS10, hp10⟩
  have HS10 := Lib.hid hS10
  have HP10 := Lib.hid (HP9.out.trans hp10)
  clear hS10 hp10 HP9 HS9
  go_wp2_with fail
  go_ret
  refine ⟨?_, sv10, [⟨⟨0, u.lab, [], bagS T u.lab⟩, .slice none 0 0⟩] ++ M ++ [⟨⟨2, u.lab, [N.length, N.length + c1.sz], adhS T u.lab ||| belS T u⟩, .slice q6 2 c6⟩], ?_, ?_, HP10.out⟩
  · simp [Ct.flat, Ct.flats, Ct.flat_length, Ct.sz, Ct.szs]
  · have := HS10.out
    simpa [List.append_assoc] using this
  · simp [Ct.flat, Ct.flats, Ct.tops, Ct.sz, Ct.szs, HM.out]
end Go.Proofs.YtoboncfgogjllaaGreatDoor
namespace Go.Proofs.YtoboncfgogjllaaGreatDoor
open Go Go.RowKit Go.Pal Go.Shelf

def ItemOk (w0 : World) (gf gb b : Nat) (c : Ct) : Prop := ∀ w sv N, BSt w0 gf gb w sv N → N.length + c.sz ≤ 100000 →
  Calls Tryz.prog 56 #[.pointer (some ⟨gb, 0, none⟩), .int .i64 (b : Int)] w (Grew w0 gf gb w sv N (c.flat N.length))
def ChainOk (w0 : World) (gf gb : Nat) (l : List Tr) (c : Ct) : Prop := ∀ w sv N v, BSt w0 gf gb w sv N → RdI (fun k => k ≠ gb ∧ some k ≠ sv.ownBlock) w v (labI l) → N.length + c.sz ≤ 100000 →
  Calls Tryz.prog 25 #[.pointer (some ⟨gb, 0, none⟩), v] w (Grew w0 gf gb w sv N (c.flat N.length))

theorem Grew.of_stp {w0 : World} {gf gb : Nat} {w w1 : World} {sv sv1 : Value} {N : List TN} {fl : List TNd} {e : Ending} {w' : World} (h : Grew w0 gf gb w1 sv1 N fl e w') (hp : Stp gb w sv w1 sv1) : Grew w0 gf gb w sv N fl e w' := by
  obtain ⟨h1, sv', M, h2, h3, h4⟩ := h
  exact ⟨h1, sv', M, h2, h3, hp.trans h4⟩

set_option maxRecDepth 10000 in
set_option maxHeartbeats 400000 in
theorem chain_one (w0 : World) (gf gb : Nat) (u : Tr) (c1 : Ct) (hI : ItemOk w0 gf gb u.lab c1) : ChainOk w0 gf gb [u] c1 := by
  intro w sv N v h hv hlen
  obtain ⟨b, off, c, rfl, hnc, ⟨hA1, hA2⟩, hbB, hc⟩ := hv
  have hc0 := hc 0 (u.lab : Int) rfl
  rw [Nat.add_zero] at hc0
  have hone : (labI [u]).length = 1 := rfl
  rw [hone]
  have hgb := h.gb_lt
  have HI := Lib.hid hI
  have HS := Lib.hid h
  clear hI h hc hnc hone
  go_enter Tryz.func25, Tryz.ntmps25
  go_wp2_with fail
  obtain ⟨W, hW⟩ : ∃ W, W = w.alloc (Obj.cells #[.pointer (some ⟨gb, 0, none⟩)] 69) := ⟨_, rfl⟩
  have hBW : Below w.heap.size w W := by rw [hW]; exact (Below.refl _ w).alloc (Nat.le_refl _) _
  have hrW : row? W w.heap.size = some #[.pointer (some ⟨gb, 0, none⟩)] := by rw [hW]; simp [go_sem]
  have k1 : W.cell? ⟨w.heap.size, 0, none⟩ = _ := cell?_row (i := 0) hrW
  simp at k1
  have k2 := (hBW.cell (p := ⟨b, off, none⟩) hbB).trans hc0
  rw [← hW]
  have HBW := Lib.hid hBW
  clear hW hBW hrW hc0
  refine wp_region_free_tail (fun w' => w' = W.drew) 4 (by kernel_rfl) (by kernel_rfl) rfl ?_
  simp only [List.take_succ_cons, List.take_zero, List.drop_succ_cons, List.drop_zero]
  repeat (apply wpFree_still; (intro w hw; subst hw; go_simp; (try go_ints); (first | with_reducible rfl | (go_simp; with_reducible rfl))); with_reducible rfl; (intro K hK; go_simp; (try go_ints); refine hK _ ?_; clear hK K))
  with_reducible refine wpFree_nil ?_
  rintro w' rfl
  go_wp2_with fail
  have hBd := HBW.out.drew
  refine (HI.out W.drew sv N (HS.out.keep hBd) hlen).mono ?_
  rintro e w' hg
  obtain ⟨rfl, hg2⟩ := hg.of_stp (Stp.of_below hBd)
  have HG2 := Lib.hid hg2
  clear hg hg2
  go_wp2_with fail
  go_ret
  exact ⟨rfl, HG2.out⟩
end Go.Proofs.YtoboncfgogjllaaGreatDoor
