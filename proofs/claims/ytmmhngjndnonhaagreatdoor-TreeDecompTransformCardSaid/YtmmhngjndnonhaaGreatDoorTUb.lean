/- Walks of the reference: Part. Walks of the reference: Order (vertices by the depths of .. -/
import Derived.Test.YtmmhngjndnonhaaGreatDoorTRef3
import Derived.Test.YtmmhngjndnonhaaGreatDoorTLp
import Derived.Test.YtmmhngjndnonhaaGreatDoorTLm
import Derived.Test.YtmmhngjndnonhaaGreatDoorTHE
import Derived.Test.YtmmhngjndnonhaaGreatDoorTJpl
import Derived.Test.YtmmhngjndnonhaaGreatDoorTRef1
set_option maxHeartbeats 2000000
set_option maxRecDepth 10000
set_option linter.all false
namespace Go.Proofs.YtmmhngjndnonhaaGreatDoor
open Go Go.RowKit Go.Pal
attribute [local go_sem] Oper.semAt_some
theorem rpart_any (T : List Bg) (I : Nat) (v vi : Value) (w : World) (hv : RefT w v T) (hi : RdS w vi I) (hlen : T.length ≤ 65536) (hS : ∀ x ∈ T, IsSet x.2) :
   Calls Tryz.prog 28 #[v, vi] w fun e w' => ∃ v', e = .returned v' ∧ RefT w' v' (resT T I) ∧ Below w.heap.size w w' := by
 have HV := Lib.hid hv
 have HI := Lib.hid hi
 have HS := Lib.hid hS
 have hlR := resT_len T I
 have HG := Lib.hid fun k => resT_get T I k
 obtain ⟨R, hR⟩ : ∃ R, R = resT T I := ⟨_, rfl⟩
 rw [← hR] at hlR HG ⊢
 obtain ⟨a, c, rfl, -⟩ := hv
 obtain ⟨ai, ci, rfl, -⟩ := hi.1
 clear hS hi hR
 go_enter Tryz.func28, Tryz.ntmps28
 go_wp2_with fail
 go_loopw [5, 6] (fun v i wr => ∃ k : Nat, k ≤ T.length ∧ i = .int .i64 (k : Int) ∧ (∃ L, OwnRB w.heap.size wr v L ∧ Built (fun k => some k ≠ v.ownBlock) wr L (R.take k)) ∧ Below w.heap.size w wr) (fun _ i _ => T.length - (intOf i).toNat)
 case atStart => exact ⟨0, by omega, rfl, ⟨[], World.ownsRow_nil _ _ _ _, rfl, fun i x y hx => by simp at hx⟩, Below.refl _ _⟩
 case round =>
   obtain ⟨k, hk, rfl, ⟨L, hO, hB⟩, hb⟩ := hrel
   have hsz := hb.size
   have HO := Lib.hid hO
   have HBu := Lib.hid hB
   have HB1 := Lib.hid hb
   have hll := hB.1
   rw [List.length_take, Nat.min_eq_left (by omega)] at hll
   by_cases hlt : k < T.length
   · obtain ⟨b, off, c', p, S, q0, cap0, hv', hx, hSx, hc⟩ := HV.out.at hlt
     simp only [Value.slice.injEq] at hv'
     obtain ⟨rfl, -, rfl⟩ := hv'
     have hgk := HG.out k
     rw [hx] at hgk
     have HX : Hid (R[k]? = some (p, S &&& I)) := Lib.hid hgk
     have HSI : Hid (IsSet (S &&& I)) := Lib.hid fun n hn => by
       rw [Nat.testBit_and, Bool.and_eq_true] at hn
       exact hSx n hn.1
     have HLD := Lib.hid hc
     obtain ⟨u3, hu3⟩ : ∃ u3 : Value, u3 = u5 := ⟨_, rfl⟩
     clear hx hc hO hB hb hgk hSx hu3
     go_wp2_with fail
     refine wp_region_mix (fun W => Below w.heap.size w W) 15 [(0, true), (1, true), (2, true), (3, true), (4, true), (5, true), (6, true), (7, true), (8, true), (9, true), (10, true), (11, true), (12, false), (13, true), (14, false)] (by kernel_rfl) (by kernel_rfl) HB1.out.drew ?_
     repeat (apply wpPlan_still rfl rfl; (intro w hw; obtain ⟨k1, k2, k3⟩ := HLD.out _ hw; clear hw; go_simp; (try go_ints); (first | with_reducible rfl | (go_simp; with_reducible rfl))); (intro K hK; go_simp; (try go_ints); refine hK _ _ ?_; clear hK K))
     apply wpPlan_act rfl rfl
     intro K hK
     unfold Oper.wp
     go_simp
     refine (rand_any S I _ _ wr.drew (HLD.out wr.drew HB1.out.drew).2.2 ⟨HI.out.1.below HB1.out.drew, HI.out.2⟩).mono ?_
     rintro e w2 ⟨v2, rfl, hO2, hb2⟩
     have hs2 := hb2.size
     simp only [World.size_drew] at hO2 hb2 hs2
     have hB2 : Below w.heap.size w w2 := HB1.out.drew.trans (hb2.mono hsz)
     replace hb2 : Below wr.heap.size wr w2 := ((Below.refl _ wr).drew).trans hb2
     have hbl : ∀ k, k < wr.heap.size → w2.heap[k]? = wr.heap[k]? := fun k hk => hb2.block k hk
     refine hK _ _ hB2 ?_
     clear hK K
     have hO3 := HO.out.below hb2 (Nat.le_refl _)
     have hA3 := HBu.out.keep (A' := fun k => some k ≠ u5.ownBlock) hs2 fun k hk hA => ⟨hbl k hk, hA⟩
     obtain ⟨q, cap, rfl⟩ := hO2.sl
     have HO3 := Lib.hid hO3
     have HA3 := Lib.hid hA3
     have HR3 := Lib.hid hO2
     have HB2 := Lib.hid hB2
     have hs3 := hB2.size
     clear hO3 hA3 hO2 hb2 hbl hB2
     repeat (apply wpPlan_still rfl rfl; (intro w hw; clear hw; go_simp; (try go_ints); (first | with_reducible rfl | (go_simp; with_reducible rfl))); (intro K hK; go_simp; (try go_ints); refine hK _ _ ?_; clear hK K))
     apply wpPlan_act rfl rfl
     intro K hK
     unfold Oper.wp
     go_simp
     refine hK _ _ (HB2.out.alloc hs3 _) ?_
     clear hK K
     refine wpPlan_nil ?_
     simp only [List.drop_succ_cons, List.drop_zero]
     go_wp2_with (at_builtin; refine wpList_appRB rfl _ _ rfl w.heap.size _ L rfl (HO3.out.alloc _) w2.heap.size p q _ cap _ rfl (row?_alloc_at _ _ _ _ rfl) (by omega) (by simp; omega) ?_)
     intro v4 w4 hO4 hg4 hv4 hb4
     have hst : R.take (k + 1) = R.take k ++ [(p, S &&& I)] := by rw [List.take_add_one, HX.out]; rfl
     have hu3 := HO3.out.lt
     have hbu := HA3.out
     have hA4 : Built (fun k => some k ≠ v4.ownBlock) w4 (L ++ [(p, .slice q (elemsI (S &&& I)).length cap)]) (R.take (k + 1)) := by
       rw [hst]
       have step : ∀ j, j < w2.heap.size → some j ≠ u5.ownBlock → w4.heap[j]? = w2.heap[j]? ∧ some j ≠ v4.ownBlock := fun j hj hA => by
         refine ⟨(hg4.block j (by simp; omega) hA).trans (Below.heap_alloc _ _ j hj), ?_⟩
         rcases hv4 with e | e
         · rw [e]; exact hA
         · rw [e]; simp; omega
       have hsz4 : w2.heap.size ≤ w4.heap.size := by have := hb4.size; simp at this; omega
       refine (hbu.keep hsz4 step).snoc (HR3.out.keep hsz4 fun j hj hA => step j hj ?_) HSI.out
       intro e
       have := HO.out.lt j e.symm
       have : wr.heap.size ≤ j := hA
       omega
     have HO4 := Lib.hid hO4
     have HA4 := Lib.hid hA4
     have HB4 := Lib.hid ((HB2.out.alloc hs3 _).trans hb4)
     clear hO4 hA4 hg4 hv4 hb4 hu3 hbu hst
     go_wp2_with fail
     go_roundw
     case rel => exact ⟨k + 1, by omega, by go_num, ⟨_, HO4.out, HA4.out⟩, HB4.out⟩
     case measure => simp [intOf]; omega
   · have hkn : k = R.length := by omega
     subst hkn
     rw [List.take_length] at HBu
     clear hO hB hb
     go_wp2_with fail
     go_ret
     exact ⟨_, rfl, Built.ref HO.out HBu.out, HB1.out⟩
end Go.Proofs.YtmmhngjndnonhaaGreatDoor
namespace Go.Pal
open Go
def dTop (T : List Bg) (z : Int) : Nat := deepAt T ((topsL T z.toNat).headD 0)
def ordIn (T : List Bg) (ids : List Int) (d k : Nat) : List Int := (ids.take k).filter fun z => decide (dTop T z = d)
def ordTo (T : List Bg) (ids : List Int) (n k : Nat) : List Int := (List.range k).flatMap fun j => ordIn T ids (n - j) ids.length
theorem ordIn_succ {T : List Bg} {ids : List Int} {d k : Nat} {z : Int} (h : ids[k]? = some z) : ordIn T ids d (k + 1) = ordIn T ids d k ++ if dTop T z = d then [z] else [] := by
 unfold ordIn
 rw [take_snoc h, List.filter_append]
 congr 1
 by_cases e : dTop T z = d <;> simp [e]
theorem ordTo_succ (T : List Bg) (ids : List Int) (n k : Nat) : ordTo T ids n (k + 1) = ordTo T ids n k ++ ordIn T ids (n - k) ids.length := by
 unfold ordTo
 rw [List.range_succ, List.flatMap_append]
 simp
theorem ordIn_len (T : List Bg) (ids : List Int) (d k : Nat) : (ordIn T ids d k).length ≤ ids.length := by
 unfold ordIn
 exact Nat.le_trans (List.length_filter_le _ _) (by rw [List.length_take]; omega)
theorem ordTo_len (T : List Bg) (ids : List Int) (n k : Nat) : (ordTo T ids n k).length ≤ k * ids.length := by
 induction k with
 | zero => simp [ordTo]
 | succ k ih =>
   rw [ordTo_succ, List.length_append, Nat.add_mul, Nat.one_mul]
   have := ordIn_len T ids (n - k) ids.length
   omega
end Go.Pal
namespace Go.Proofs.YtmmhngjndnonhaaGreatDoor
open Go Go.RowKit Go.Pal
attribute [local go_sem] Oper.semAt_some
theorem rorder_any (T : List Bg) (hP : ParIn T) (hlen : T.length ≤ 60) (G : Gr) (hG : G.Ok) (hGl : G.V.length ≤ 1000) (v vV vE : Value) (w : World) (hv : RefT w v T) (hR : RefG w vV vE G) (hTop : ∀ z ∈ G.ids', topsL T z.toNat ≠ []) :
   Calls Tryz.prog 33 #[v, .agg #[vV, vE]] w fun e w' => ∃ v', e = .returned v' ∧ OwnI w.heap.size w' v' (ordTo T G.ids' T.length (T.length + 1)) ∧ Below w.heap.size w w' := by
 have HX := Lib.hid hv
 have HPI := Lib.hid hP
 have HV := Lib.hid hR.1
 have HTop := Lib.hid hTop
 have HId := Lib.hid hG.ids_range
 have hil : G.ids'.length = G.V.length := by rw [Gr.ids', List.length_map]
 have HGet := Lib.hid (show ∀ (k : Nat) (x : Int × Th), G.V[k]? = some x → G.ids'[k]? = some x.1 from fun k x h => by rw [Gr.ids', List.getElem?_map, h]; rfl)
 obtain ⟨a, c, rfl, -⟩ := hv
 obtain ⟨aV, cV, rfl⟩ := hR.1.sl
 obtain ⟨aE, cE, rfl⟩ := hR.2.sl
 obtain ⟨ids, hids⟩ : ∃ ids, ids = G.ids' := ⟨_, rfl⟩
 rw [← hids] at HTop HId HGet hil ⊢
 obtain ⟨N, hN⟩ : ∃ N, N = G.V.length := ⟨_, rfl⟩
 obtain ⟨NE, hNE⟩ : ∃ N, N = G.E.length := ⟨_, rfl⟩
 have HNl := Lib.hid hN
 rw [← hN] at hGl hil ⊢
 rw [← hNE]
 clear hP hR hTop hids hG hN hNE
 go_enter Tryz.func33, Tryz.ntmps33
 go_wp2_with fail
 obtain ⟨W0, hW0⟩ : ∃ W0, W0 = w.alloc (.cells #[.slice aV N cV, .slice aE NE cE] 27) := ⟨_, rfl⟩
 have hB0 : Below w.heap.size w W0 := by rw [hW0]; exact (Below.refl _ w).alloc (Nat.le_refl _) _
 have hr0 : row? W0 w.heap.size = some #[.slice aV N cV, .slice aE NE cE] := by rw [hW0]; exact row?_alloc_at _ _ _ _ rfl
 rw [← hW0]
 obtain ⟨q, hq⟩ : ∃ q, q = w.heap.size := ⟨_, rfl⟩
 have hl0 : q < W0.heap.size := by rw [hq]; exact row?_lt hr0
 have HB0 := Lib.hid hB0
 have HR0 : Hid (row? W0 q = some #[.slice aV N cV, .slice aE NE cE]) := Lib.hid (by rw [hq]; exact hr0)
 have hq2 : q ≤ w.heap.size := by omega
 rw [← hq]
 clear hW0 hB0 hr0 hq
 go_loopw [5, 6, 7] (fun v d _ wr => ∃ k : Nat, k ≤ T.length + 1 ∧ d = .int .i64 ((T.length : Int) - (k : Int)) ∧ OwnI W0.heap.size wr v (ordTo T ids T.length k) ∧ Below W0.heap.size W0 wr) (fun _ d _ _ => (intOf d + 1).toNat)
 case atStart => exact ⟨0, by omega, by first | rfl | go_num, OwnI.nil _ _, Below.refl _ _⟩
 case round =>
   obtain ⟨k, hk, rfl, hO, hb⟩ := hrel
   have HO := Lib.hid hO
   have HB := Lib.hid hb
   have hsz := hb.size
   obtain ⟨acc, hacc⟩ : ∃ acc, acc = ordTo T ids T.length k := ⟨_, rfl⟩
   have HAl : Hid (acc.length ≤ 62 * 1000) := Lib.hid (by
     rw [hacc]
     have h1 := ordTo_len T ids T.length k
     have h2 : k * ids.length ≤ 62 * 1000 := Nat.mul_le_mul (by omega) (by omega)
     omega)
   have HSt := Lib.hid (ordTo_succ T ids T.length k)
   rw [← hacc] at HO HSt
   clear hO hb
   obtain ⟨wo, rfl⟩ : ∃ wo : World, wo = wr := ⟨_, rfl⟩
   by_cases hlt : k ≤ T.length
   · obtain ⟨d, hd⟩ : ∃ d : Nat, d = T.length - k := ⟨_, rfl⟩
     have hdi : (T.length : Int) - (k : Int) = (d : Int) := by omega
     have d1 : d + k ≤ T.length := by omega
     have d2 : T.length ≤ d + k := by omega
     have HSt2 : Hid (ordTo T ids T.length (k + 1) = acc ++ ordIn T ids d ids.length) := Lib.hid (by rw [HSt.out, hd])
     rw [hdi]
     clear hacc hd HSt
     go_wp2_with fail
     go_loopw [5, 7] (fun v i wr => ∃ j : Nat, j ≤ N ∧ i = .int .i64 (j : Int) ∧ OwnI W0.heap.size wr v (acc ++ ordIn T ids d j) ∧ Below W0.heap.size W0 wr) (fun _ i _ => N - (intOf i).toNat)
     case atStart => exact ⟨0, by omega, rfl, by simpa [ordIn] using HO.out, HB.out⟩
     case round =>
       obtain ⟨j, hj, rfl, hO2, hb2⟩ := hrel
       have HO2 := Lib.hid hO2
       have HB2 := Lib.hid hb2
       have hsz2 := hb2.size
       have HBw := Lib.hid (HB0.out.trans (hb2.mono HB0.out.size))
       have hszw := HBw.out.size
       have hwr : q < wr.heap.size := by omega
       have hrr := (row?_below hb2 hl0).trans HR0.out
       have c1 := cell?_row (i := 0) hrr
       simp at c1
       have HRr := Lib.hid hrr
       have hol := ordIn_len T ids d j
       clear hO2 hb2 hrr
       by_cases hlj : j < N
       · obtain ⟨b, off, c', x, h1, hbb, hx, hcx⟩ := HV.out.at (show j < G.V.length by rw [← HNl.out]; exact hlj)
         rw [← HNl.out] at h1
         simp only [Value.slice.injEq] at h1
         obtain ⟨rfl, -, rfl⟩ := h1
         have c0 := hcx wr HBw.out 0 (.int .i64 x.1) rfl
         simp only [Nat.add_zero] at c0
         have hC0 := Lib.hid fun W (hw : Below w.heap.size w W) => hcx W hw 0 (.int .i64 x.1) rfl
         have hgi := HGet.out j x hx
         obtain ⟨h0, h10⟩ := HId.out x.1 (List.mem_of_getElem? hgi)
         have hne := HTop.out x.1 (List.mem_of_getElem? hgi)
         have HIn := Lib.hid (ordIn_succ (T := T) (d := d) hgi)
         obtain ⟨z, hz⟩ : ∃ z : Nat, x.1 = (z : Int) := ⟨x.1.toNat, by omega⟩
         rw [hz] at c0 hC0 hne HIn
         rw [Int.toNat_natCast] at hne
         obtain ⟨tp, rest, htl⟩ : ∃ tp rest, topsL T z = tp :: rest := by
           cases h : topsL T z with
           | nil => exact absurd h hne
           | cons y r => exact ⟨y, r, rfl⟩
         have htpl : tp < T.length := by
           have : tp ∈ topsL T z := by rw [htl]; simp
           unfold topsL at this
           exact List.mem_range.1 (List.mem_filter.1 this).1
         have hdt : dTop T (z : Int) = deepAt T tp := by
           unfold dTop
           rw [Int.toNat_natCast, htl]
           rfl
         have HTp := Lib.hid (rtops_any T (.slice a T.length c) wr (HX.out.below HBw.out) HPI.out (by omega) z)
         have htt : topsTo T z T.length = (tp : Int) :: rest.map fun i : Nat => (i : Int) := by rw [topsTo_all, htl]; rfl
         rw [htt] at HTp
         rw [hdt] at HIn
         obtain ⟨dz, hdz⟩ : ∃ dz, dz = deepAt T tp := ⟨_, rfl⟩
         rw [← hdz] at HIn
         have HDz := Lib.hid hdz
         clear hcx hx hbb hgi hne htl hdt htt hdz h0 h10 hz
         go_wp2_with fail
         refine HTp.out.mono ?_
         rintro e w2 ⟨v2, rfl, hT2, hb3⟩
         obtain ⟨q2, n2, c2, rfl⟩ := hT2.slice
         have hn2 := hT2.len
         obtain ⟨g2, rfl, hg2, hgl2, ct⟩ := hT2.cell (j := 0) (z := (tp : Int)) rfl
         have hn3 : 0 < n2 := by rw [hn2]; simp
         have hn4 : (0 : Int) < (n2 : Int) := by omega
         have HB3 := Lib.hid hb3
         have hs3 := hb3.size
         have HD2 := Lib.hid (rdepth_any T (.slice a T.length c) w2 (HX.out.below (HBw.out.trans (hb3.mono HBw.out.size))) HPI.out (by omega) tp htpl)
         rw [← HDz.out] at HD2
         clear hT2 hb3 hn2 HTp
         go_wp2_with fail
         refine HD2.out.mono ?_
         rintro e w3 ⟨rfl, hb4⟩
         have HB4 := Lib.hid (HB3.out.trans (hb4.mono HB3.out.size))
         have hs4 := HB4.out.size
         have HB5 := Lib.hid (HB2.out.trans (HB4.out.mono HB2.out.size))
         have hO4 := HO2.out.below HB4.out (Nat.le_refl _)
         have hr4 := (row?_below HB4.out hwr).trans HRr.out
         have c4 := cell?_row (i := 0) hr4
         simp at c4
         have c5 := hC0.out w3 (HB0.out.trans (HB5.out.mono HB0.out.size))
         simp only [Nat.add_zero] at c5
         have HO4 := Lib.hid hO4
         have hsz3 := HB5.out.size
         clear hb4 hO4 hr4 HD2 c1 c0 ct
         by_cases he : dz = d
         · subst he
           rw [if_pos rfl] at HIn
           have HO := HO4
           obtain ⟨ac2, hac2⟩ : ∃ ac2, ac2 = acc ++ ordIn T ids dz j := ⟨_, rfl⟩
           rw [← hac2] at HO
           have HAc := Lib.hid hac2
           have hal : ac2.length ≤ 64000 := by rw [hac2, List.length_append]; have := HAl.out; omega
           clear hac2
           go_wp2_with (at_builtin; refine wpList_appT rfl 47 undI _ _ rfl (W0.heap.size) _ (ac2) rfl (HO.out.alloc _) _ ((z : Int)) _ rfl (by simp [go_sem]) (by first | omega | (simp; omega)) (by simp; omega) ?_)
           intro v' w2 hO2 hb2
           obtain ⟨q2, cap2, rfl⟩ := hO2.sl
           have HO2 := Lib.hid hO2
           have HB2 := Lib.hid (((HB5.out).alloc (hsz3) _).trans hb2)
           clear hO2 hb2
           go_wp2_with fail
           go_roundw
           case rel => exact ⟨j + 1, by omega, by go_num, by rw [HIn.out, ← List.append_assoc, ← HAc.out]; exact HO2.out, HB2.out⟩
           case measure => (simp [intOf]; try omega)
         · rw [if_neg he, List.append_nil] at HIn
           have he2 : ((dz : Int) == (d : Int)) = false := by rw [beq_eq_false_iff_ne]; omega
           go_wp2_with fail
           go_roundw
           case rel => exact ⟨j + 1, by omega, by go_num, by rw [HIn.out]; exact HO4.out, HB5.out⟩
           case measure => (simp [intOf]; try omega)
       · have hjn : j = ids.length := by omega
         rw [hjn] at HO2
         rw [← HSt2.out] at HO2
         go_wp2_with fail
         go_roundw
         case rel => exact ⟨k + 1, by omega, by go_num, HO2.out, HB2.out⟩
         case measure => (simp [intOf]; try omega)
   · have hkn : k = T.length + 1 := by omega
     subst hkn
     have HOf : Hid (OwnI W0.heap.size wo u5 (ordTo T ids T.length (T.length + 1))) := Lib.hid (by have := HO.out; rw [hacc] at this; exact this)
     have hneg : ¬ (0 : Int) ≤ (T.length : Int) - ((T.length + 1 : Nat) : Int) := by omega
     have hneg2 : decide ((0 : Int) ≤ (T.length : Int) - ((T.length + 1 : Nat) : Int)) = false := decide_eq_false hneg
     clear hacc
     go_wp2_with fail
     go_ret
     exact ⟨_, rfl, HOf.out.lower HB0.out.size, HB0.out.trans (HB.out.mono HB0.out.size)⟩
end Go.Proofs.YtmmhngjndnonhaaGreatDoor
namespace Go.Pal
open Go Go.RowKit
theorem refC_at {L : List (Int × Value)} {j : Nat} {u : Value} (h : (refC L)[j]? = some u) : ∃ i y, L[i]? = some y ∧ ((j = i * 2 ∧ u = .int .i64 y.1) ∨ (j = i * 2 + 1 ∧ u = y.2)) := by
 have hj := (List.getElem?_eq_some_iff.1 h).1
 rw [refC_length] at hj
 have hi : j / 2 < L.length := by omega
 have hy : L[j / 2]? = some L[j / 2] := List.getElem?_eq_getElem hi
 obtain ⟨h1, h2⟩ := refC_get hy
 refine ⟨j / 2, _, hy, ?_⟩
 rcases Nat.mod_two_eq_zero_or_one j with e | e
 · have ej : j = j / 2 * 2 := by omega
   rw [← ej, h] at h1
   exact .inl ⟨ej, Option.some.inj h1⟩
 · have ej : j = j / 2 * 2 + 1 := by omega
   rw [← ej, h] at h2
   exact .inr ⟨ej, Option.some.inj h2⟩
def BagsAt (w : World) (b off : Nat) (L : List (Int × Value)) : Prop := ∀ (i : Nat) (y : Int × Value), L[i]? = some y → w.cell? ⟨b, off + i * 2, none⟩ = some (.int .i64 y.1) ∧ w.cell? ⟨b, off + i * 2 + 1, none⟩ = some y.2
structure RowB (w : World) (g : Nat) (L : List (Int × Value)) : Prop where
 lt : g < w.heap.size
 cell : ∀ (i : Nat) (y : Int × Value), L[i]? = some y → w.cell? ⟨g, i * 2, none⟩ = some (.int .i64 y.1) ∧ w.cell? ⟨g, i * 2 + 1, none⟩ = some y.2 ∧ w.frozen? ⟨g, i * 2, none⟩ = false ∧ w.frozen? ⟨g, i * 2 + 1, none⟩ = false
theorem frozenB_of_block {w w' : World} {g i : Nat} (h : w'.heap[g]? = w.heap[g]?) : w'.frozen? ⟨g, i, none⟩ = w.frozen? ⟨g, i, none⟩ := by
 unfold World.frozen?
 simp only [h]
theorem RowB.congr {w w' : World} {g : Nat} {L : List (Int × Value)} (h : RowB w g L) (hb : w'.heap[g]? = w.heap[g]?) : RowB w' g L := by
 have hlt := h.lt
 refine ⟨?_, fun i y hy => ?_⟩
 · have : w.heap[g]? = some w.heap[g] := Array.getElem?_eq_getElem hlt
   rw [this] at hb
   exact (Array.getElem?_eq_some_iff.1 hb).1
 · obtain ⟨h1, h2, h3, h4⟩ := h.cell i y hy
   exact ⟨(World.cell?_of_block hb).trans h1, (World.cell?_of_block hb).trans h2, (frozenB_of_block hb).trans h3, (frozenB_of_block hb).trans h4⟩
theorem RowB.drew {w : World} {g : Nat} {L : List (Int × Value)} (h : RowB w g L) : RowB w.drew g L := h.congr rfl
theorem RowB.below {w w' : World} {g : Nat} {L : List (Int × Value)} (h : RowB w g L) (hb : Below w.heap.size w w') : RowB w' g L := h.congr (hb.block g h.lt)
theorem RowB.at0 {w : World} {g : Nat} {L : List (Int × Value)} (h : RowB w g L) : BagsAt w g 0 L := fun i y hy => by
 obtain ⟨h1, h2, -, -⟩ := h.cell i y hy
 rw [Nat.zero_add]
 exact ⟨h1, h2⟩
theorem RowB.atDrop {w : World} {g : Nat} {L : List (Int × Value)} (h : RowB w g L) (k : Nat) : BagsAt w g (k * 2) (L.drop k) := fun i y hy => by
 rw [List.getElem?_drop] at hy
 obtain ⟨h1, h2, -, -⟩ := h.cell (k + i) y hy
 rw [show k * 2 + i * 2 = (k + i) * 2 by omega]
 exact ⟨h1, h2⟩
theorem RowB.atTake {w : World} {g : Nat} {L : List (Int × Value)} (h : RowB w g L) (k : Nat) : BagsAt w g 0 (L.take k) := fun i y hy => by
 have hk : i < k := by
   have := (List.getElem?_eq_some_iff.1 hy).1
   rw [List.length_take] at this
   omega
 rw [List.getElem?_take, if_pos hk] at hy
 exact h.at0 i y hy
theorem RowB.setP {w : World} {g : Nat} {L : List (Int × Value)} (h : RowB w g L) {i : Nat} {y : Int × Value} (hy : L[i]? = some y) (p : Int) : RowB (w.setCell ⟨g, i * 2, none⟩ (.int .i64 p)) g (L.set i (p, y.2)) := by
 refine ⟨by have := h.lt; simpa using this, fun j z hz => ?_⟩
 have hi := (List.getElem?_eq_some_iff.1 hy).1
 rw [World.frozen?_setCell, World.frozen?_setCell]
 by_cases e : i = j
 · subst e
   rw [List.getElem?_set_self hi] at hz
   cases hz
   obtain ⟨h1, h2, h3, h4⟩ := h.cell i y hy
   exact ⟨World.cell?_setCell_same _ _ _ h1, (World.cell?_setCell_other _ _ _ _ (by intro e'; have := (Addr.mk.inj e').2.1; omega)).trans h2, h3, h4⟩
 · rw [List.getElem?_set_ne e] at hz
   obtain ⟨h1, h2, h3, h4⟩ := h.cell j z hz
   exact ⟨(World.cell?_setCell_other _ _ _ _ (by intro e'; have := (Addr.mk.inj e').2.1; omega)).trans h1, (World.cell?_setCell_other _ _ _ _ (by intro e'; have := (Addr.mk.inj e').2.1; omega)).trans h2, h3, h4⟩
theorem RowB.setS {w : World} {g : Nat} {L : List (Int × Value)} (h : RowB w g L) {i : Nat} {y : Int × Value} (hy : L[i]? = some y) (v : Value) : RowB (w.setCell ⟨g, i * 2 + 1, none⟩ v) g (L.set i (y.1, v)) := by
 refine ⟨by have := h.lt; simpa using this, fun j z hz => ?_⟩
 have hi := (List.getElem?_eq_some_iff.1 hy).1
 rw [World.frozen?_setCell, World.frozen?_setCell]
 by_cases e : i = j
 · subst e
   rw [List.getElem?_set_self hi] at hz
   cases hz
   obtain ⟨h1, h2, h3, h4⟩ := h.cell i y hy
   exact ⟨(World.cell?_setCell_other _ _ _ _ (by intro e'; have := (Addr.mk.inj e').2.1; omega)).trans h1, World.cell?_setCell_same _ _ _ h2, h3, h4⟩
 · rw [List.getElem?_set_ne e] at hz
   obtain ⟨h1, h2, h3, h4⟩ := h.cell j z hz
   exact ⟨(World.cell?_setCell_other _ _ _ _ (by intro e'; have := (Addr.mk.inj e').2.1; omega)).trans h1, (World.cell?_setCell_other _ _ _ _ (by intro e'; have := (Addr.mk.inj e').2.1; omega)).trans h2, h3, h4⟩
end Go.Pal
namespace Go.Proofs.YtmmhngjndnonhaaGreatDoor
open Go Go.RowKit Go.Pal
theorem OwnRB.row {B : Nat} {w : World} {v : Value} {L : List (Int × Value)} (h : OwnRB B w v L) (hne : L ≠ []) : ∃ g c, v = .slice (some ⟨g, 0, none⟩) L.length c ∧ B ≤ g ∧ RowB w g L := by
 rcases h.2 with ⟨rfl, h2⟩ | ⟨g, cap, cur, rfl, hB, hg, -⟩
 · exact absurd (List.length_eq_zero_iff.1 h2) hne
 · refine ⟨g, cap, rfl, hB, (Array.getElem?_eq_some_iff.1 hg).1, fun i y hy => ?_⟩
   obtain ⟨c1, c2⟩ := refC_get hy
   have k1 := World.ownsRow.cells (base := B) h (g := g) rfl _ _ c1
   have k2 := World.ownsRow.cells (base := B) h (g := g) rfl _ _ c2
   have a1 : (⟨g, 0, none⟩ : Addr).add (i * 2) = ⟨g, i * 2, none⟩ := by unfold Addr.add; split <;> simp_all
   have a2 : (⟨g, 0, none⟩ : Addr).add (i * 2 + 1) = ⟨g, i * 2 + 1, none⟩ := by unfold Addr.add; split <;> simp_all
   rw [a1] at k1
   rw [a2] at k2
   exact ⟨k1, k2, frozen_of_row w g _ cur _ hg, frozen_of_row w g _ cur _ hg⟩
theorem wp_appRL {o : Oper} {a : Act} {K : Act → World → Prop} {Q : Exit → Act → World → Prop} {w : World} (s x : Operand)
   (ho : o.op = .call { callee := .builtin .append, args := #[s, x], argTypes := #[52, 52] }) (B : Nat) (v : Value) (L : List (Int × Value)) (hs : a.eval s = v) (hown : OwnRB B w v L)
   (b off c : Nat) (M : List (Int × Value)) (hx : a.eval x = .slice (some ⟨b, off, none⟩) M.length c) (hc : BagsAt w b off M) (h1 : ∀ y ∈ M, ∃ q n cap, y.2 = .slice q n cap) (hlen : L.length + M.length < 1000000) (hB : B ≤ w.heap.size)
   (h : ∀ v' w', OwnRB B w' v' (L ++ M) → w.grownBy w' v.ownBlock → Below B w w' → K (a.put o.dst v') w') : o.wp Tryz.prog a w K Q := by
 obtain ⟨i0, hi, hz0, hz1, hz2⟩ := info_parts infoRB
 obtain ⟨v', w', hr, h2, h3, -⟩ := run_append_own (P := Tryz.prog) w B 52 o.type 130 i0 _ 2 32 Tryz.underlying52 hi hz0 hz1 hz2 rfl (by decide) v L.length (refC L) hown ⟨b, off, none⟩ M.length c (refC M) (refC_length M)
   (fun j u hj => by
     have : (⟨b, off, none⟩ : Addr).add j = ⟨b, off + j, none⟩ := by unfold Addr.add; split <;> simp_all
     rw [this]
     obtain ⟨i, y, hy, h4 | h4⟩ := refC_at hj
     · rw [h4.1, h4.2]; exact (hc i y hy).1
     · rw [h4.1, h4.2, ← Nat.add_assoc]; exact (hc i y hy).2) (fun u hu => by
     obtain ⟨j, hj⟩ := List.mem_iff_getElem?.1 hu
     obtain ⟨i, y, hy, h4 | h4⟩ := refC_at hj
     · rw [h4.2]; rfl
     · obtain ⟨q, n, cap, e⟩ := h1 y (List.mem_of_getElem? hy)
       rw [h4.2, e]; rfl) (by unfold maxLen; omega) (by omega) hB
 unfold Oper.wp execOp
 simp only [ho, resolve, invoke, builtin, Sem.run_bind, Sem.run_pure, Result.andThen_ok, List.map_toArray, List.map_cons, List.map_nil, hs, hx, hr]
 refine h v' w' ?_ h3 ((Below.refl B w).grown h3 hB hown.block)
 unfold OwnRB
 rw [List.length_append, refC_append]
 exact h2
theorem wpList_appRL {ops : Array Oper} {rest : List Oper} {o : Oper} {a : Act} {Q : Exit → Act → World → Prop} {w : World} (hgd : o.guard = none) (s x : Operand)
   (ho : o.op = .call { callee := .builtin .append, args := #[s, x], argTypes := #[52, 52] }) (B : Nat) (v : Value) (L : List (Int × Value)) (hs : a.eval s = v) (hown : OwnRB B w v L)
   (b off c : Nat) (M : List (Int × Value)) (hx : a.eval x = .slice (some ⟨b, off, none⟩) M.length c) (hc : BagsAt w b off M) (h1 : ∀ y ∈ M, ∃ q n cap, y.2 = .slice q n cap) (hlen : L.length + M.length < 1000000) (hB : B ≤ w.heap.size)
   (h : ∀ v' w', OwnRB B w' v' (L ++ M) → w.grownBy w' v.ownBlock → Below B w w' → wpList Tryz.prog ops Q rest (a.put o.dst v') w') : wpList Tryz.prog ops Q (o :: rest) a w :=
 wpList_plain hgd fun _ hK => wp_appRL s x ho B v L hs hown b off c M hx hc h1 hlen hB fun v' w' h1 h2 h3 => hK _ _ (h v' w' h1 h2 h3)
theorem OwnRB.empty {B : Nat} {w : World} (hB : B ≤ w.heap.size) : OwnRB B (w.alloc (.cells #[] 130)) (.slice (some ⟨w.heap.size, 0, none⟩) 0 0) [] :=
 ⟨rfl, .inr ⟨w.heap.size, 0, #[], rfl, hB, World.alloc_heap_new _ _, Nat.le_refl _, by decide, rfl, rfl⟩⟩
theorem refT_bags {w : World} {v : Value} {T : List Bg} (h : RefT w v T) (hne : T ≠ []) : ∃ b off c L, v = .slice (some ⟨b, off, none⟩) T.length c ∧ b < w.heap.size ∧ BagsAt w b off L ∧ Built (fun k => k < w.heap.size) w L T := by
 obtain ⟨a, c, rfl, h⟩ := h
 rcases h with h | ⟨b, off, rfl, hb, hc⟩
 · exact absurd h hne
 · have hex : ∀ i : Nat, ∃ y : Int × Value, ∀ x, T[i]? = some x → w.cell? ⟨b, off + i * 2, none⟩ = some (.int .i64 y.1) ∧ w.cell? ⟨b, off + i * 2 + 1, none⟩ = some y.2 ∧ y.1 = x.1 ∧ RdS w y.2 x.2 := fun i => by
     cases hT : T[i]? with
     | none => exact ⟨(0, undef), fun x hx => by cases hx⟩
     | some x =>
       obtain ⟨h1, hv, h2, h3⟩ := hc i x hT
       exact ⟨(x.1, hv), fun x' hx' => by cases hx'; exact ⟨h1, h2, rfl, h3⟩⟩
   obtain ⟨f, hf⟩ := Classical.axiomOfChoice hex
   have hget : ∀ i y, ((List.range T.length).map f)[i]? = some y → i < T.length ∧ y = f i := fun i y hy => by
     have hi := (List.getElem?_eq_some_iff.1 hy).1
     simp at hi
     rw [List.getElem?_map, List.getElem?_range hi] at hy
     exact ⟨hi, (Option.some.inj hy).symm⟩
   refine ⟨b, off, c, (List.range T.length).map f, rfl, hb, fun i y hy => ?_, by simp, fun i x y hx hy => ?_⟩
   · obtain ⟨hi, rfl⟩ := hget i y hy
     obtain ⟨h1, h2, -, -⟩ := hf i T[i] (List.getElem?_eq_getElem hi)
     exact ⟨h1, h2⟩
   · obtain ⟨hi, rfl⟩ := hget i y hy
     obtain ⟨-, -, h3, h4⟩ := hf i x hx
     exact ⟨h3, h4.1.rda, h4.2⟩
theorem Built.slices {A : Nat → Prop} {w : World} {L : List (Int × Value)} {T : List Bg} (h : Built A w L T) : ∀ y ∈ L, ∃ q n cap, y.2 = .slice q n cap := fun y hy => by
 obtain ⟨i, hi, rfl⟩ := List.mem_iff_getElem.1 hy
 have hi2 : i < T.length := by rw [← h.1]; exact hi
 have hT : T[i]? = some T[i] := List.getElem?_eq_getElem hi2
 obtain ⟨a, c, e⟩ := (h.2 i _ _ hT (List.getElem?_eq_getElem hi)).2.1.sl
 exact ⟨_, _, _, e⟩
theorem rowB_ref {A : Nat → Prop} {w : World} {g c : Nat} {L : List (Int × Value)} {T : List Bg} (hR : RowB w g L) (h : Built A w L T) : RefT w (.slice (some ⟨g, 0, none⟩) T.length c) T := by
 refine ⟨_, c, rfl, .inr ⟨g, 0, rfl, hR.lt, fun i x hx => ?_⟩⟩
 have hi : i < L.length := by rw [h.1]; exact (List.getElem?_eq_some_iff.1 hx).1
 have hy : L[i]? = some L[i] := List.getElem?_eq_getElem hi
 obtain ⟨e1, e2, e3⟩ := h.2 i x _ hx hy
 obtain ⟨h1, h2⟩ := hR.at0 i _ hy
 exact ⟨by rw [h1, e1], _, h2, e2.rdl, e3⟩
end Go.Proofs.YtmmhngjndnonhaaGreatDoor
namespace Go.Proofs.YtmmhngjndnonhaaGreatDoor
open Go Go.RowKit Go.Pal
attribute [local go_sem] Oper.semAt_some
theorem above_own (T : List Bg) (v : Value) (w : World) (hv : RefT w v T) (hP : ParIn T) (hlen : T.length ≤ 65536) (i : Nat) (hi : i < T.length) :
   Calls Tryz.prog 61 #[v, .int .i64 (i : Int)] w fun e w' => ∃ v', e = .returned (.tuple #[v', .bool (climb T (T.length + 1) (upI T (i : Int))).isSome]) ∧ OwnI w.heap.size w' v' ((climb T (T.length + 1) (upI T (i : Int))).getD []) ∧ Below w.heap.size w w' := by
 have HV := Lib.hid hv
 have HP := Lib.hid hP
 obtain ⟨b, off, c, p, S, q, cap, rfl, hx, hS, hc⟩ := hv.at hi
 obtain ⟨k1, k2, -⟩ := hc w (Below.refl _ _)
 obtain ⟨hp0, hp1⟩ := hP i _ hx
 simp only at hp0 hp1
 have hup := upI_of hx
 have HUP := Lib.hid hup
 obtain ⟨N, hN⟩ : ∃ N, N = T.length + 1 := ⟨_, rfl⟩
 rw [← hN]
 have HN := Lib.hid hN
 have hNl : N ≤ 65537 := by omega
 clear hx hc hv hP hup k2 hN
 go_enter Tryz.func61, Tryz.ntmps61
 go_wp2_with fail
 go_loopw [1, 6] (fun a v wr => ∃ (k : Nat) (z : Int) (out : List Int), k ≤ N ∧ out.length = k ∧ a = .int .i64 z ∧ z < (T.length : Int) ∧ -1 ≤ z ∧ climb T N (upI T (i : Int)) = (climb T (N - k) z).map (out ++ ·) ∧ OwnI w.heap.size wr v out ∧ Below w.heap.size w wr) (fun _ v _ => N - vLen v)
 case atStart => exact ⟨0, p, [], by omega, rfl, rfl, hp1, hp0, by rw [HUP.out]; cases climb T N p <;> simp, World.ownsRow_nil _ _ _ _, Below.refl _ _⟩
 case round =>
   obtain ⟨k, z, out, hk, hlo, rfl, hz1, hz0, hcl, hO, hb⟩ := hrel
   have hsz := hb.size
   have HO := Lib.hid hO
   have HB1 := Lib.hid hb
   obtain ⟨q1, c1, rfl⟩ := hO.sl
   have HCL := Lib.hid hcl
   have HLO := Lib.hid hlo
   have hlo2 : out.length ≤ N := by omega
   have hN := HN.out
   clear hO hb hcl k1
   by_cases hz : z < 0
   · have e : climb T (N - k) z = some [] := by cases N - k <;> simp [climb, hz]
     have hcl := HCL.out
     rw [e] at hcl
     simp at hcl
     have HCL2 := Lib.hid hcl
     have hnz : ¬ (0 ≤ z) := by omega
     clear hcl e hlo hN
     go_wp2_with fail
     go_ret2
     refine ⟨.slice q1 out.length c1, ?_, ?_, HB1.out⟩
     · rw [HCL2.out]; rfl
     · rw [HCL2.out]; exact HO.out
   · have hz2 : 0 ≤ z := by omega
     by_cases hkn : k = N
     · have hgt : (T.length : Int) < (out.length : Int) := by omega
       have hgt2 : T.length < out.length := by omega
       have e : climb T (N - k) z = none := by rw [hkn, Nat.sub_self]; simp [climb, hz]
       have hcl := HCL.out
       rw [e] at hcl
       simp at hcl
       have HCL2 := Lib.hid hcl
       clear hcl e hlo hkn hk hN
       go_wp2_with fail
       go_ret2
       refine ⟨.slice none 0 0, ?_, ?_, HB1.out⟩
       · rw [HCL2.out]; rfl
       · rw [HCL2.out]; exact World.ownsRow_nil _ _ _ _
     · have hgt : ¬ (T.length : Int) < (out.length : Int) := by omega
       have hol : out.length < N := by omega
       have hgt2 : ¬ T.length < out.length := by omega
       obtain ⟨j, rfl⟩ : ∃ j : Nat, z = (j : Int) := ⟨z.toNat, by omega⟩
       have hj : j < T.length := by omega
       obtain ⟨b2, off2, c2, p2, S2, q2, cap2, hv2, hx2, hS2, hc2⟩ := HV.out.at hj
       simp only [Value.slice.injEq, Option.some.injEq, Addr.mk.injEq] at hv2
       obtain ⟨⟨rfl, rfl, -⟩, -, rfl⟩ := hv2
       obtain ⟨hp20, hp21⟩ := HP.out j _ hx2
       simp only at hp20 hp21
       have e : climb T (N - k) (j : Int) = (climb T (N - (k + 1)) p2).map ((j : Int) :: ·) := by
         rw [show N - k = N - (k + 1) + 1 by omega, climb, if_neg hz, upI_of hx2]
       have hcl := HCL.out
       rw [e] at hcl
       have HCL2 := Lib.hid hcl
       have HC2 := Lib.hid hc2
       clear hcl e hlo hx2 hc2 HCL hN
       go_wp2_with (at_builtin; refine wpList_appT rfl 47 undI _ _ rfl (w.heap.size) _ (out) rfl (HO.out.alloc _) _ ((j : Int)) _ rfl (by simp [go_sem]) (by first | omega | (simp; omega)) (by simp; omega) ?_)
       intro v' w2 hO2 hb2
       obtain ⟨q2, cap2, rfl⟩ := hO2.sl
       have HO2 := Lib.hid hO2
       have HB2 := Lib.hid (((HB1.out).alloc (hsz) _).trans hb2)
       clear hO2 hb2
       obtain ⟨k1, k2, -⟩ := HC2.out w2 HB2.out
       clear HC2 k2
       go_wp2_with fail
       go_roundw
       case rel =>
         refine ⟨k + 1, p2, out ++ [(j : Int)], by omega, by rw [List.length_append, HLO.out]; rfl, rfl, hp21, hp20, ?_, HO2.out, HB2.out⟩
         rw [HCL2.out]
         cases climb T (N - (k + 1)) p2 <;> simp
       case measure => simp [vLen]; omega
end Go.Proofs.YtmmhngjndnonhaaGreatDoor
namespace Go.Pal
open Go
theorem elemsI_diff {A B : Nat} (hA : IsSet A) (hB : IsSet B) : ((elemsI A).filter fun z => decide (z ∉ elemsI B)) = elemsI (sDiff A B) := by
 refine elemsI_of (isSet_diff hA) (List.Pairwise.filter _ (elemsI_sorted A)) (fun x hx => ?_) fun m => ?_
 · obtain ⟨k, hk, rfl⟩ := List.mem_map.1 (List.mem_filter.1 hx).1
   omega
 · rw [List.mem_filter, mem_elemsI hA, decide_eq_true_eq, mem_elemsI hB, sDiff_testBit]
   cases A.testBit m <;> cases B.testBit m <;> simp
theorem elemsI_len_zero {S : Nat} (hS : IsSet S) : (elemsI S).length = 0 ↔ S = 0 := by
 constructor
 · intro h
   apply Nat.eq_of_testBit_eq
   intro n
   rw [Nat.zero_testBit]
   cases hb : S.testBit n with
   | false => rfl
   | true =>
     have := (mem_elemsI hS).2 hb
     rw [List.length_eq_zero_iff.1 h] at this
     simp at this
 · rintro rfl
   rw [elemsI_zero]
   rfl
end Go.Pal
namespace Go.Proofs.YtmmhngjndnonhaaGreatDoor
open Go Go.RowKit Go.Pal
attribute [local go_sem] Oper.semAt_some
theorem rminus_any (A B : Nat) (va vb : Value) (w : World) (ha : RdS w va A) (hb : RdS w vb B) :
   Calls Tryz.prog 148 #[va, vb] w fun e w' => ∃ v', e = .returned v' ∧ RdA (fun k => w.heap.size ≤ k) w' v' (elemsI (sDiff A B)) ∧ Below w.heap.size w w' := by
 obtain ⟨ha, hA⟩ := ha
 obtain ⟨hb, hB⟩ := hb
 have hla := elemsI_length A
 have hlb := elemsI_length B
 have hres := elemsI_diff hA hB
 obtain ⟨xs, has⟩ : ∃ l, l = elemsI A := ⟨_, rfl⟩
 obtain ⟨bs, hbs⟩ : ∃ l, l = elemsI B := ⟨_, rfl⟩
 rw [← has] at ha hla hres
 rw [← hbs] at hb hlb hres
 have HA := Lib.hid ha
 have HBV := Lib.hid hb
 have HRES := Lib.hid hres
 obtain ⟨a, c, rfl, -⟩ := ha
 obtain ⟨a2, c2, rfl, -⟩ := hb
 clear has hbs hA hB hres
 go_enter Tryz.func148, Tryz.ntmps148
 go_wp2_with fail
 go_loopw [5, 6] (fun v i wr => ∃ k : Nat, k ≤ xs.length ∧ i = .int .i64 (k : Int) ∧ OwnI w.heap.size wr v ((xs.take k).filter fun z => decide (z ∉ bs)) ∧ Below w.heap.size w wr) (fun _ i _ => xs.length - (intOf i).toNat)
 case atStart => exact ⟨0, by omega, rfl, OwnI.empty (Nat.le_refl _), (Below.refl _ _).alloc (Nat.le_refl _) _⟩
 case round =>
   obtain ⟨k, hk, rfl, hO, hb⟩ := hrel
   have hsz := hb.size
   have HO := Lib.hid hO
   have HB1 := Lib.hid hb
   clear hO hb
   by_cases hlt : k < xs.length
   · obtain ⟨b, off, c', z, hv, hz, hc⟩ := HA.out.at hlt
     simp only [Value.slice.injEq] at hv
     obtain ⟨rfl, -, rfl⟩ := hv
     have hcell := hc wr HB1.out
     have hst : (xs.take (k + 1)).filter (fun z => decide (z ∉ bs)) = (xs.take k).filter (fun z => decide (z ∉ bs)) ++ if z ∉ bs then [z] else [] := by
       rw [List.take_add_one, hz, List.filter_append]
       congr 1
       by_cases h : z ∈ bs <;> simp [h]
     have HST := Lib.hid hst
     have hbl := HBV.out.below HB1.out
     have hlf : ((xs.take k).filter fun z => decide (z ∉ bs)).length ≤ k := Nat.le_trans (List.length_filter_le _ _) (List.length_take_le _ _)
     obtain ⟨acc, hacc⟩ : ∃ acc, acc = (xs.take k).filter fun z => decide (z ∉ bs) := ⟨_, rfl⟩
     rw [← hacc] at HST HO hlf
     clear hc hz hst hacc
     by_cases hm : z ∉ bs
     · rw [if_pos hm] at HST
       have hc2 : Hid (Calls Tryz.prog 81 #[.slice a2 bs.length c2, .int .i64 z] wr fun e w' => e = .returned (.bool false) ∧ w' = wr) := Lib.hid ((rhas_any _ _ _ wr hbl (by omega)).mono fun e w' h => by rw [decide_eq_false hm] at h; exact h)
       clear hbl hm
       go_wp2_with fail
       refine hc2.out.mono ?_
       rintro e w1 ⟨rfl, rfl⟩
       clear hc2
       go_wp2_with (at_builtin; refine wpList_appT rfl 68 undR _ _ rfl (w.heap.size) _ (acc) rfl (HO.out.alloc _) _ (z) _ rfl (by simp [go_sem]) (by first | omega | (simp; omega)) (by simp; omega) ?_)
       intro v' w2 hO2 hb2
       obtain ⟨q2, cap2, rfl⟩ := hO2.sl
       have HO2 := Lib.hid hO2
       have HB2 := Lib.hid (((HB1.out).alloc (hsz) _).trans hb2)
       clear hO2 hb2
       go_wp2_with fail
       go_roundw
       case rel => exact ⟨k + 1, by omega, by go_num, by rw [HST.out]; exact HO2.out, HB2.out⟩
       case measure => simp [intOf]; omega
     · rw [if_neg hm, List.append_nil] at HST
       have hc2 : Hid (Calls Tryz.prog 81 #[.slice a2 bs.length c2, .int .i64 z] wr fun e w' => e = .returned (.bool true) ∧ w' = wr) := Lib.hid ((rhas_any _ _ _ wr hbl (by omega)).mono fun e w' h => by rw [decide_eq_true (Classical.byContradiction hm)] at h; exact h)
       clear hbl hm
       go_wp2_with fail
       refine hc2.out.mono ?_
       rintro e w1 ⟨rfl, rfl⟩
       clear hc2
       go_wp2_with fail
       go_roundw
       case rel => exact ⟨k + 1, by omega, by go_num, by rw [HST.out]; exact HO.out, HB1.out⟩
       case measure => simp [intOf]; omega
   · have hkn : k = xs.length := by omega
     subst hkn
     rw [List.take_length, HRES.out] at HO
     go_wp2_with fail
     go_ret
     exact ⟨_, rfl, HO.out.rda, HB1.out⟩
theorem rwithin_any (A B : Nat) (va vb : Value) (w : World) (ha : RdS w va A) (hb : RdS w vb B) :
   Calls Tryz.prog 77 #[va, vb] w fun e w' => e = .returned (.bool (decide (sDiff A B = 0))) ∧ Below w.heap.size w w' := by
 have HM := Lib.hid (rminus_any A B va vb w ha hb)
 have hd := elemsI_len_zero (isSet_diff (T := B) ha.2)
 obtain ⟨a, c, rfl, -⟩ := ha.1
 obtain ⟨a2, c2, rfl, -⟩ := hb.1
 obtain ⟨D, hD⟩ : ∃ D, D = sDiff A B := ⟨_, rfl⟩
 rw [← hD] at HM hd ⊢
 clear hb ha hD
 go_enter Tryz.func77, Tryz.ntmps77
 go_wp2_with fail
 refine HM.out.mono ?_
 rintro e w1 ⟨v1, rfl, hv1, hb1⟩
 obtain ⟨a1, c1, rfl⟩ := hv1.sl
 have HB1 := Lib.hid hb1
 have he : ((((elemsI D).length : Nat) : Int) == 0) = decide (D = 0) := by
   rw [Bool.eq_iff_iff, beq_iff_eq, decide_eq_true_eq, ← hd]
   omega
 have HE := Lib.hid he
 clear hb1 hv1 HM hd he
 go_wp2_with fail
 go_ret
 refine ⟨?_, HB1.out⟩
 rw [← HE.out]
 first | rfl | (congr 2)
end Go.Proofs.YtmmhngjndnonhaaGreatDoor
