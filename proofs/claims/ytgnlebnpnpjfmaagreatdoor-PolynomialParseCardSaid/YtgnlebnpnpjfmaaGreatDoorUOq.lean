/- Walk of package polynomial: read (the walk). Parse of package polynomial: plain helpers; .. -/
import Derived.Test.YtgnlebnpnpjfmaaGreatDoorUOm
set_option maxRecDepth 100000
set_option linter.all false
namespace Go.Proofs.YtgnlebnpnpjfmaaGreatDoor
open Go Go.RowKit Go.Pal Go.Shelf
attribute [local go_sem] Oper.semAt_some str_from
def LeftW (WB : Nat) (L : List (List UInt8)) (v : Value) (rem : List (List UInt8)) : Prop :=
 (rem = [] ∧ ∃ a, v = .slice a 0 0) ∨ (rem ≠ [] ∧ ∃ j, v = .slice (some ⟨WB, j, none⟩) rem.length rem.length ∧ L.drop j = rem)
def wordsR (L : List (List UInt8)) : Array Value := (L.map fun p => Value.string ⟨p.toArray⟩).toArray
theorem wordsR_get {L : List (List UInt8)} {i : Nat} {p : List UInt8} (h : L[i]? = some p) : (wordsR L)[i]? = some (.string ⟨p.toArray⟩) := by simp [wordsR, h]
def cutL (a : Option Addr) (m : Nat) : Value := .slice (if m = 0 then a else a.map (·.add 1)) m m
theorem wpList_cut1 {ops : Array Oper} {rest : List Oper} {o : Oper} {a : Act} {Q : Exit → Act → World → Prop} {w : World} (hg : o.guard = none) (p : Operand) (ho : o.op = Op.slice 86 p (some (.const (.int .i64 1))) none none) (b : Option Addr) (m : Nat) (hp : a.eval p = .slice b (m + 1) (m + 1))
   (hK : wpList Tryz.prog ops Q rest (a.put o.dst (cutL b m)) w) : wpList Tryz.prog ops Q (o :: rest) a w := by
 refine wpList_plain hg fun K' hK' => ?_
 have hr : (Instr.slice 86 (.slice b (m + 1) (m + 1)) (some (.int .i64 1)) none none).run Tryz.prog w = .ok (cutL b m) w := by
   have h1 : (1 : Int) ≤ (m : Int) + 1 := by omega
   simp [Instr.slice, Instr.sliceBounds, Instr.sliceBound, asIntOf, run_underlying Tryz.underlying86, Tryz.sizeOf9, Result.andThen, cutL]
   rw [if_pos h1]
   simp
 unfold Oper.wp
 have he : a.eval (.const (.int .i64 1)) = .int .i64 1 := rfl
 have hr' : (Instr.sliceAt 86 (.slice b (m + 1) (m + 1)) (some (.int .i64 1)) none none).run Tryz.prog w = .ok (cutL b m) w := by
   simp only [Instr.sliceAt, Sem.run_bind, run_underlying Tryz.underlying86, Result.andThen]
   exact hr
 simp [execOp, ho, hp, he, hr', Result.andThen]
 exact hK' _ _ hK
theorem LeftW.cut {WB j : Nat} {L : List (List UInt8)} {x : List UInt8} {r : List (List UInt8)} (h : L.drop j = x :: r) : LeftW WB L (cutL (some ⟨WB, j, none⟩) r.length) r := by
 have h2 : L.drop (j + 1) = r := by
   have := congrArg (List.drop 1) h
   rw [List.drop_drop] at this
   simpa using this
 unfold cutL
 cases r with
 | nil => exact .inl ⟨rfl, _, rfl⟩
 | cons y s => exact .inr ⟨by simp, j + 1, rfl, h2⟩
set_option maxHeartbeats 4000000 in
theorem pread_any (t : List UInt8) (hl : t.length ≤ 70000) (w : World) (hE : Env w) :
   Calls Tryz.prog 52 #[.string ⟨t.toArray⟩] w fun e w' => Below w.heap.size w w' ∧ ((∃ x w0, readT t = some x ∧ e = .returned (.tuple #[.string ⟨w0.toArray⟩, .agg (pwA x.1), .bool true]) ∧ numS w0 = true ∧ dval 0 w0 = x.2 ∧ w0.length ≤ t.length) ∨
     (readT t = none ∧ ∃ (s : List UInt8) (a b : Int), e = .returned (.tuple #[.string ⟨s.toArray⟩, .agg #[.int .i64 a, .int .i64 b], .bool false]))) := by
 have hS := split_any 32 t (by omega) (w.alloc (.cells #[.int .i64 0, .int .i64 0] 90)) (hE.on ((Below.refl _ _).alloc (Nat.le_refl _) _))
 obtain ⟨L, hL⟩ : ∃ L, L = partsA 32 [] t := ⟨_, rfl⟩
 have hne : L ≠ [] := by rw [hL]; exact partsA_ne _ _ _
 rw [← hL, World.size_alloc] at hS
 obtain ⟨h0, R, hLR⟩ : ∃ h0 R, L = h0 :: R := by
   cases L with
   | nil => exact absurd rfl hne
   | cons a r => exact ⟨a, r, rfl⟩
 have HS := Lib.hid hS
 have HL := Lib.hid hL
 have HWL := Lib.hid (show (∀ x ∈ L, x.length ≤ t.length) ∧ L.length ≤ t.length + 1 from by rw [hL]; exact ⟨fun x hx => by have := partsA_len x hx; simpa using this, partsA_count 32 t []⟩)
 have HLR := Lib.hid hLR
 have HE := Lib.hid hE
 obtain ⟨n, hn⟩ : ∃ n, n = L.length := ⟨_, rfl⟩
 have hnR : n = R.length + 1 := by rw [hn, hLR]; rfl
 rw [← hn] at HS
 clear hS hL hne hLR hE
 go_enter Tryz.func52, Tryz.ntmps52
 go_wp2_with fail
 refine HS.out.mono ?_
 rintro e w1 ⟨rfl, hrw, hb1, hs1⟩
 have hrs := (row?_below hb1 (by simp)).trans (row?_alloc_at w #[Value.int .i64 0, .int .i64 0] 90 w.heap.size rfl)
 have hbw1 : Below w.heap.size w w1 := ((Below.refl w.heap.size w).alloc (Nat.le_refl _) _).trans (hb1.mono (by simp))
 have HRS := Lib.hid hrs
 have HRW := Lib.hid (show row? w1 (w.heap.size + 1) = some (wordsR L) from hrw)
 have HB1 := Lib.hid hbw1
 have HN := Lib.hid hnR
 have HLEN := Lib.hid (show h0.length ≤ t.length ∧ h0.length ≤ 8388608 from by have := HWL.out.1 h0 (by rw [HLR.out]; simp); omega)
 have hn0 : ¬ n = 0 := by omega
 have hn1 : 0 < n := by omega
 have k0 : (w1.alloc (.cells #[.int .i64 0, .int .i64 0] 90)).cell? ⟨w.heap.size + 1, 0, none⟩ = some (.string ⟨h0.toArray⟩) := by
   have h := (row?_alloc_past w1 (.cells #[.int .i64 0, .int .i64 0] 90) (w.heap.size + 1) hs1).trans hrw
   refine (cell?_row (i := 0) h).trans ?_
   exact wordsR_get (by rw [HLR.out]; rfl)
 clear hrs hrw hb1 hbw1 HS hn hnR
 go_wp2_with fail
 have hbK : Below w1.heap.size w1 (w1.alloc (.cells #[.int .i64 0, .int .i64 0] 90)) := (Below.refl _ _).alloc (Nat.le_refl _) _
 refine (pnumber_any h0 HLEN.out.2 _).mono ?_
 rintro e w2 ⟨rfl, hb2⟩
 obtain ⟨K, hK⟩ : ∃ K, K = w1.heap.size := ⟨_, rfl⟩
 have hb12 := hbK.trans (hb2.mono hbK.size)
 have rK := (row?_below hb2 (by rw [hK]; simp)).trans (row?_alloc_at w1 #[Value.int .i64 0, .int .i64 0] 90 K hK)
 have rS := (row?_below hb12 (row?_lt HRS.out)).trans HRS.out
 have rW := (row?_below hb12 (row?_lt HRW.out)).trans HRW.out
 have hbw2 := HB1.out.trans (hb12.mono HB1.out.size)
 have hsK : w.heap.size + 1 < K := by rw [hK]; exact hs1
 have hK2 : K < w2.heap.size := row?_lt rK
 rw [← hK]
 have HB2 := Lib.hid hbw2
 have HKs := Lib.hid hK
 cases hnum : numS h0 with
 | false =>
   have HBAD := Lib.hid (show readT t = none from readT_nonum (by rw [← HL.out, HLR.out]; exact hnum))
   clear hb2 hb12 hbK hnum hK k0 rW hbw2
   go_wp2_with fail
   refine wp_region_mixZ (fun W => W = (w2).drew) (fun _ => True) 2 [(0, true), (1, true), (2, false), (3, true)] (by kernel_rfl) (by kernel_rfl) rfl ?_
   apply wpPlanZ_old rfl rfl (by kernel_rfl)
   · intro w hw
     subst hw
     go_simp
     (try go_ints)
     first | with_reducible rfl | (go_simp; with_reducible rfl)
   intro K hK
   go_simp
   (try go_ints)
   refine hK _ _ ?_
   clear hK K
   repeat ((first | apply wpPlanZ_free rfl rfl | apply wpPlanZ_freeG rfl rfl); (intro w; go_simp; (try go_ints); (first | with_reducible rfl | (go_simp; with_reducible rfl))); (intro K hK; go_simp; (try go_ints); refine hK _ _ ?_; clear hK K))
   apply wpPlanZ_act rfl rfl (by decide)
   intro K' hK'
   unfold Oper.wp
   go_simp
   refine hK' _ _ trivial ?_
   clear hK' K'
   repeat ((first | apply wpPlanZ_free rfl rfl | apply wpPlanZ_freeG rfl rfl); (intro w; go_simp; (try go_ints); (first | with_reducible rfl | (go_simp; with_reducible rfl))); (intro K hK; go_simp; (try go_ints); refine hK _ _ ?_; clear hK K))
   refine wpPlanZ_nil ?_
   go_wp2_with fail
   refine ret_tct w.heap.size #[.int .i64 0, .int .i64 0] rfl Tryz.isAgg90 Tryz.sizeOf90 rfl rfl (row?_setRow_same _ _ _ (by show (row? (w2) w.heap.size).isSome = true; rw [rS]; rfl)) rfl ?_
   exact ⟨below_setRow (HB2).out.drew (Nat.le_refl _) _, .inr ⟨HBAD.out, [], _, _, rfl⟩⟩
 | true =>
   have HNUM := Lib.hid hnum
   have hnr := HN.out
   subst hnr
   clear hb2 hb12 hbK hnum hK k0 hbw2
   go_wp2_with (refine wpList_cut1 rfl _ rfl (some ⟨w.heap.size + 1, 0, none⟩) R.length rfl ?_)
   obtain ⟨T, hT⟩ : ∃ T, T = w2.heap.size := ⟨_, rfl⟩
   rw [← hT]
   obtain ⟨W1, hW1⟩ : ∃ W1, w2.alloc (.cells #[.string ⟨#[120, 94]⟩, .pointer (some ⟨K, 0, none⟩), .string ⟨#[121, 94]⟩, .pointer (some ⟨K, 1, none⟩)] 132) = W1 := ⟨_, rfl⟩
   have hbT : Below w2.heap.size w2 W1 := by rw [← hW1]; exact (Below.refl _ _).alloc (Nat.le_refl _) _
   have qT : row? W1 T = some #[.string ⟨#[120, 94]⟩, .pointer (some ⟨K, 0, none⟩), .string ⟨#[121, 94]⟩, .pointer (some ⟨K, 1, none⟩)] := by rw [← hW1]; exact row?_alloc_at _ _ _ _ hT
   have qK := (row?_below hbT hK2).trans rK
   have qS := (row?_below hbT (row?_lt rS)).trans rS
   have qW := (row?_below hbT (row?_lt rW)).trans rW
   have hbw := HB2.out.trans (hbT.mono HB2.out.size)
   have hKT : K < T := by omega
   have hTW : T < W1.heap.size := row?_lt qT
   rw [hW1]
   have HC := Lib.hid fun W (hs : Same (fun j => j ≠ K) W1 W) => show row? W T = some #[.string ⟨#[120, 94]⟩, .pointer (some ⟨K, 0, none⟩), .string ⟨#[121, 94]⟩, .pointer (some ⟨K, 1, none⟩)] ∧ row? W (w.heap.size + 1) = some (wordsR L) ∧ row? W w.heap.size = some #[.int .i64 0, .int .i64 0] ∧ Below w.heap.size w W from
     ⟨(row?_congr (hs.block _ hTW (by omega))).trans qT, (row?_congr (hs.block _ (by omega) (by omega))).trans qW, (row?_congr (hs.block _ (by omega) (by omega))).trans qS, hbw.trans (hs.below (by omega) fun j hj => by omega)⟩
   have HL0 := Lib.hid (show LeftW (w.heap.size + 1) L (cutL (some ⟨w.heap.size + 1, 0, none⟩) R.length) R from LeftW.cut (j := 0) (x := h0) (by rw [HLR.out]; rfl))
   have HK0 := Lib.hid qK
   have HST := Lib.hid (show StR L 0 0 0 R from .inl ⟨rfl, rfl, rfl, by rw [HLR.out]; rfl⟩)
   clear hT hW1 hbT qT qK qS qW hbw rK rS rW HRS HRW
   go_loopw [7, 27] (fun lv i wr => ∃ (k a b : Nat) (rem : List (List UInt8)), k ≤ 2 ∧ i = .int .i64 (k : Int) ∧ LeftW (w.heap.size + 1) L lv rem ∧ StR L k a b rem ∧ (∀ x ∈ rem, x ∈ L) ∧ row? wr K = some #[.int .i64 (a : Int), .int .i64 (b : Int)] ∧ Same (fun j => j ≠ K) W1 wr) (fun _ i _ => 2 - (intOf i).toNat)
   case atStart => exact ⟨0, 0, 0, R, by omega, rfl, HL0.out, HST.out, fun x hx => by rw [HLR.out]; exact List.mem_cons_of_mem _ hx, HK0.out, Same.refl _ _⟩
   case round =>
     obtain ⟨k, a, b, rem, hk, rfl, hlw, hst, hsub, hrk, hsm⟩ := hrel
     obtain ⟨gT, gW, rS, hbl⟩ := HC.out wr hsm
     have hsz := hsm.size
     have HST1 := Lib.hid hst
     have HSUB := Lib.hid hsub
     have HSM := Lib.hid hsm
     have HBL := Lib.hid hbl
     have HGW := Lib.hid gW
     clear HL0 HK0 HST hst hsub hsm hbl gW
     have hKr := row?_lt hrk
     rcases Nat.lt_or_ge k 2 with hk2 | hk2
     · have hdk : decide (k < 2) = true := decide_eq_true hk2
       have jl : rowLoad Tryz.prog 132 ⟨T, k * 2, none⟩ wr = .ok (.agg #[.string ⟨[chR k, 94].toArray⟩, .pointer (some ⟨K, k, none⟩)]) wr := load_cells Tryz.isAgg132 Tryz.sizeOf132 wr T _ _ rfl fun j u hu => by
         rw [cell?_row gT]
         obtain rfl | rfl : k = 0 ∨ k = 1 := by omega
         · rcases j with _ | _ | j
           · exact hu
           · exact hu
           · simp at hu
         · rcases j with _ | _ | j
           · exact hu
           · exact hu
           · simp at hu
       rcases hlw with ⟨rfl, la, rfl⟩ | ⟨hne, j, rfl, hdrop⟩
       · have hrl : ([] : List (List UInt8)).length = 0 := rfl
         go_wp2_with fail
         have HSTN := Lib.hid (show StR L (k + 1) a b [] from by
           have h := HST1.out.step hk2 (v := 0) (rem' := []) rfl
           rwa [(HST1.out.zero hk2).1, (HST1.out.zero hk2).2] at h)
         have hbA : Below wr.heap.size wr (wr.alloc (.cells #[.string ⟨[chR k, 94].toArray⟩, .pointer (some ⟨K, k, none⟩)] 132)) := (Below.refl _ _).alloc (Nat.le_refl _) _
         have HRK := Lib.hid ((row?_below hbA hKr).trans hrk)
         have HSN := Lib.hid (HSM.out.trans ((Same.of_below hbA).mono fun j hj _ => hj))
         clear hbA jl
         refine wp_region_mix (fun W => W = (wr.alloc (.cells #[.string ⟨[chR k, 94].toArray⟩, .pointer (some ⟨K, k, none⟩)] 132)).drew) 11 [(0, true), (1, true), (2, true), (3, true), (4, true), (5, true), (6, true), (7, true), (8, true), (9, false), (10, true)] (by kernel_rfl) (by kernel_rfl) rfl ?_
         repeat (first | (apply wpPlan_still rfl rfl; (intro w hw; subst hw; go_simp; (try go_ints); (first | with_reducible rfl | (go_simp; with_reducible rfl))); (intro K hK; go_simp; (try go_ints); refine hK _ _ ?_; clear hK K)) | (apply wpPlan_stillG rfl rfl; (intro w hw; subst hw; go_simp; (try go_ints); (first | with_reducible rfl | (go_simp; with_reducible rfl))); (intro K hK; go_simp; (try go_ints); refine hK _ _ ?_; clear hK K)) | (apply wpPlan_skip rfl rfl; (intro K hK; go_simp; (try go_ints); refine hK _ _ ?_; clear hK K)))
         refine wpPlan_skipA ?_ rfl rfl ?_
         · rfl
         intro K' hK'
         go_simp
         refine hK' _ _ ?_
         clear hK' K'
         repeat (first | (apply wpPlan_still rfl rfl; (intro w hw; subst hw; go_simp; (try go_ints); (first | with_reducible rfl | (go_simp; with_reducible rfl))); (intro K hK; go_simp; (try go_ints); refine hK _ _ ?_; clear hK K)) | (apply wpPlan_stillG rfl rfl; (intro w hw; subst hw; go_simp; (try go_ints); (first | with_reducible rfl | (go_simp; with_reducible rfl))); (intro K hK; go_simp; (try go_ints); refine hK _ _ ?_; clear hK K)) | (apply wpPlan_skip rfl rfl; (intro K hK; go_simp; (try go_ints); refine hK _ _ ?_; clear hK K)))
         refine wpPlan_nil ?_
         simp only [List.drop_succ_cons, List.drop_zero]
         go_wp2_with fail
         go_roundw
         case rel => exact ⟨k + 1, a, b, [], by omega, by go_num, .inl ⟨rfl, la, rfl⟩, HSTN.out, by simp, HRK.out, HSN.out.trans (Same.drew _ _)⟩
         case measure => simp [intOf]; omega
       · obtain ⟨wd, r, rfl⟩ : ∃ wd r, rem = wd :: r := by
           cases rem with
           | nil => exact absurd rfl hne
           | cons x y => exact ⟨x, y, rfl⟩
         have hlj : L[j]? = some wd := by
           have := congrArg (fun l : List (List UInt8) => l[0]?) hdrop
           simpa using this
         have HDR := Lib.hid hdrop
         have hwl := HWL.out.1 wd (HSUB.out wd (by simp))
         have hbA : Below wr.heap.size wr (wr.alloc (.cells #[.string ⟨[chR k, 94].toArray⟩, .pointer (some ⟨K, k, none⟩)] 132)) := (Below.refl _ _).alloc (Nat.le_refl _) _
         obtain ⟨WX, hWX⟩ : ∃ WX, wr.alloc (.cells #[.string ⟨[chR k, 94].toArray⟩, .pointer (some ⟨K, k, none⟩)] 132) = WX := ⟨_, rfl⟩
         rw [hWX] at hbA
         have x0 : row? WX wr.heap.size = some #[.string ⟨[chR k, 94].toArray⟩, .pointer (some ⟨K, k, none⟩)] := by rw [← hWX]; exact row?_alloc_at _ _ _ _ rfl
         have kw : WX.cell? ⟨w.heap.size + 1, j, none⟩ = some (.string ⟨wd.toArray⟩) := (cell?_row ((row?_below hbA (row?_lt HGW.out)).trans HGW.out)).trans (wordsR_get hlj)
         have kx : WX.cell? ⟨wr.heap.size, 0, none⟩ = some (.string ⟨[chR k, 94].toArray⟩) := cell?_row (i := 0) x0
         have HRK := Lib.hid ((row?_below hbA hKr).trans hrk)
         have HRS2 := Lib.hid ((row?_below hbA (row?_lt rS)).trans rS)
         have HX0 := Lib.hid x0
         have HSN := Lib.hid (HSM.out.trans ((Same.of_below hbA).mono fun j hj _ => hj))
         have HBX := Lib.hid (HBL.out.trans (hbA.mono HBL.out.size))
         have HWX := Lib.hid hWX
         have hrl : (wd :: r).length = r.length + 1 := rfl
         rw [hrl]
         clear hne hdrop hlj hbA x0 hWX hrk rS gT hrl
         go_wp2_with fail
         rw [HWX.out]
         clear jl
         refine wp_region_mix (fun W => W = WX.drew) 11 [(0, true), (1, true), (2, true), (3, true), (4, true), (5, true), (6, true), (7, true), (8, true), (9, false), (10, true)] (by kernel_rfl) (by kernel_rfl) rfl ?_
         repeat (first | (apply wpPlan_still rfl rfl; (intro w hw; subst hw; go_simp; (try go_ints); (first | with_reducible rfl | (go_simp; with_reducible rfl))); (intro K hK; go_simp; (try go_ints); refine hK _ _ ?_; clear hK K)) | (apply wpPlan_stillG rfl rfl; (intro w hw; subst hw; go_simp; (try go_ints); (first | with_reducible rfl | (go_simp; with_reducible rfl))); (intro K hK; go_simp; (try go_ints); refine hK _ _ ?_; clear hK K)) | (apply wpPlan_skip rfl rfl; (intro K hK; go_simp; (try go_ints); refine hK _ _ ?_; clear hK K)))
         refine wpPlan_actG rfl rfl ?_
         intro K' hK'
         unfold Oper.wp
         go_simp
         refine (prefix_any wd [chR k, 94] _).mono ?_
         rintro e w3 ⟨rfl, rfl⟩
         refine hK' _ _ rfl ?_
         clear hK' K'
         repeat (first | (apply wpPlan_still rfl rfl; (intro w hw; subst hw; go_simp; (try go_ints); (first | with_reducible rfl | (go_simp; with_reducible rfl))); (intro K hK; go_simp; (try go_ints); refine hK _ _ ?_; clear hK K)) | (apply wpPlan_stillG rfl rfl; (intro w hw; subst hw; go_simp; (try go_ints); (first | with_reducible rfl | (go_simp; with_reducible rfl))); (intro K hK; go_simp; (try go_ints); refine hK _ _ ?_; clear hK K)) | (apply wpPlan_skip rfl rfl; (intro K hK; go_simp; (try go_ints); refine hK _ _ ?_; clear hK K)))
         refine wpPlan_nil ?_
         simp only [List.drop_succ_cons, List.drop_zero]
         cases hpre : [chR k, 94].isPrefixOf wd with
         | false =>
           have HSTN := Lib.hid (show StR L (k + 1) a b (wd :: r) from by
             have h := HST1.out.step hk2 (v := 0) (rem' := wd :: r) (by rw [powW_cons, hpre]; rfl)
             rwa [(HST1.out.zero hk2).1, (HST1.out.zero hk2).2] at h)
           clear hpre
           go_wp2_with fail
           go_roundw
           case rel => exact ⟨k + 1, a, b, wd :: r, by omega, by go_num, .inr ⟨by simp, j, rfl, HDR.out⟩, HSTN.out, HSUB.out, HRK.out, HSN.out.trans (Same.drew _ _)⟩
           case measure => simp [intOf]; omega
         | true =>
           have h2w : 2 ≤ wd.length := (List.isPrefixOf_iff_prefix.1 hpre).length_le
           have h2i : (2 : Int) ≤ (wd.length : Int) := by omega
           have HPRE := Lib.hid hpre
           have hnum2 := Lib.hid fun W => pnumber_any (wd.drop 2) (by simp; omega) W
           clear hpre
           go_wp2_with fail
           refine wp_region_mix (fun W => W = WX.drew.drew) 7 [(0, true), (1, true), (2, true), (3, true), (4, true), (5, true), (6, true)] (by kernel_rfl) (by kernel_rfl) rfl ?_
           repeat (apply wpPlan_still rfl rfl; (intro w hw; subst hw; go_simp; (try go_ints); (first | with_reducible rfl | (go_simp; with_reducible rfl))); (intro K hK; go_simp; (try go_ints); refine hK _ _ ?_; clear hK K))
           refine wpPlan_nil ?_
           simp only [List.drop_succ_cons, List.drop_zero]
           go_wp2_with fail
           refine (hnum2.out _).mono ?_
           rintro e w4 ⟨rfl, hb4⟩
           obtain ⟨dg, hdg⟩ : ∃ dg, dg = wd.drop 2 := ⟨_, rfl⟩
           have hb4' : Below WX.heap.size WX w4 := (Below.refl _ _).drew.drew.trans hb4
           have rS := (row?_below hb4' (row?_lt HRS2.out)).trans HRS2.out
           have rK := (row?_below hb4' (row?_lt HRK.out)).trans HRK.out
           have r9 := (row?_below hb4' (row?_lt HX0.out)).trans HX0.out
           have hw9 := row?_lt r9
           have k9 : w4.cell? ⟨wr.heap.size, 1, none⟩ = some (.pointer (some ⟨K, k, none⟩)) := cell?_row (i := 1) r9
           have HB4 := Lib.hid (HBX.out.trans (hb4'.mono HBX.out.size))
           have HS4 := Lib.hid (HSN.out.trans ((Same.of_below hb4').mono fun j hj _ => hj))
           have HE4 := Lib.hid (HE.out.on HB4.out)
           have hlen4 : dg.length = wd.length - 2 := by rw [hdg]; simp
           have hpw : powW (chR k) (wd :: r) = if numS dg && decide (dg.length ≤ 9) then some (dval 0 dg, r) else none := by rw [powW_cons, HPRE.out, hdg]; rfl
           have HPW := Lib.hid hpw
           rw [← hdg]
           clear hb4 hb4' hpw hnum2 r9 kw kx
           cases hn2 : numS dg with
           | false =>
             have HBAD := Lib.hid (show readT t = none from StR.bad (by rw [← HL.out]; exact HST1.out) hk2 (by rw [HPW.out, hn2]; rfl))
             clear hn2 hdg
             go_wp2_with fail
             refine wp_region_mixZ (fun W => W = (w4).drew) (fun _ => True) 2 [(0, true), (1, true), (2, false), (3, true)] (by kernel_rfl) (by kernel_rfl) rfl ?_
             apply wpPlanZ_old rfl rfl (by kernel_rfl)
             · intro w hw
               subst hw
               go_simp
               (try go_ints)
               first | with_reducible rfl | (go_simp; with_reducible rfl)
             intro K hK
             go_simp
             (try go_ints)
             refine hK _ _ ?_
             clear hK K
             repeat ((first | apply wpPlanZ_free rfl rfl | apply wpPlanZ_freeG rfl rfl); (intro w; go_simp; (try go_ints); (first | with_reducible rfl | (go_simp; with_reducible rfl))); (intro K hK; go_simp; (try go_ints); refine hK _ _ ?_; clear hK K))
             apply wpPlanZ_act rfl rfl (by decide)
             intro K' hK'
             unfold Oper.wp
             go_simp
             refine hK' _ _ trivial ?_
             clear hK' K'
             repeat ((first | apply wpPlanZ_free rfl rfl | apply wpPlanZ_freeG rfl rfl); (intro w; go_simp; (try go_ints); (first | with_reducible rfl | (go_simp; with_reducible rfl))); (intro K hK; go_simp; (try go_ints); refine hK _ _ ?_; clear hK K))
             refine wpPlanZ_nil ?_
             go_wp2_with fail
             refine ret_tct w.heap.size #[.int .i64 (a : Int), .int .i64 (b : Int)] rfl Tryz.isAgg90 Tryz.sizeOf90 rfl rfl (row?_setRow_same _ _ _ (by show (row? (w4) w.heap.size).isSome = true; rw [rS]; rfl)) rfl ?_
             exact ⟨below_setRow (HB4).out.drew (Nat.le_refl _) _, .inr ⟨HBAD.out, [], _, _, rfl⟩⟩
           | true =>
             rcases Nat.lt_or_ge 9 dg.length with h9 | h9
             · have HBAD := Lib.hid (show readT t = none from StR.bad (by rw [← HL.out]; exact HST1.out) hk2 (by rw [HPW.out, decide_eq_false (by omega)]; simp))
               have hd9 : decide (9 < dg.length) = true := decide_eq_true h9
               clear hn2 hdg
               go_wp2_with fail
               refine wp_region_mixZ (fun W => W = (w4).drew) (fun _ => True) 2 [(0, true), (1, true), (2, false), (3, true)] (by kernel_rfl) (by kernel_rfl) rfl ?_
               apply wpPlanZ_old rfl rfl (by kernel_rfl)
               · intro w hw
                 subst hw
                 go_simp
                 (try go_ints)
                 first | with_reducible rfl | (go_simp; with_reducible rfl)
               intro K hK
               go_simp
               (try go_ints)
               refine hK _ _ ?_
               clear hK K
               repeat ((first | apply wpPlanZ_free rfl rfl | apply wpPlanZ_freeG rfl rfl); (intro w; go_simp; (try go_ints); (first | with_reducible rfl | (go_simp; with_reducible rfl))); (intro K hK; go_simp; (try go_ints); refine hK _ _ ?_; clear hK K))
               apply wpPlanZ_act rfl rfl (by decide)
               intro K' hK'
               unfold Oper.wp
               go_simp
               refine hK' _ _ trivial ?_
               clear hK' K'
               repeat ((first | apply wpPlanZ_free rfl rfl | apply wpPlanZ_freeG rfl rfl); (intro w; go_simp; (try go_ints); (first | with_reducible rfl | (go_simp; with_reducible rfl))); (intro K hK; go_simp; (try go_ints); refine hK _ _ ?_; clear hK K))
               refine wpPlanZ_nil ?_
               go_wp2_with fail
               refine ret_tct w.heap.size #[.int .i64 (a : Int), .int .i64 (b : Int)] rfl Tryz.isAgg90 Tryz.sizeOf90 rfl rfl (row?_setRow_same _ _ _ (by show (row? (w4) w.heap.size).isSome = true; rw [rS]; rfl)) rfl ?_
               exact ⟨below_setRow (HB4).out.drew (Nat.le_refl _) _, .inr ⟨HBAD.out, [], _, _, rfl⟩⟩
             · have hd9 : decide (9 < dg.length) = false := decide_eq_false (by omega)
               have HPV := Lib.hid (show powW (chR k) (wd :: r) = some (dval 0 dg, r) by rw [HPW.out, hn2, decide_eq_true h9]; rfl)
               have HAT := Lib.hid fun W (hE : Env W) => atoiD_any dg hn2 h9 W hE
               clear hn2 hdg
               go_wp2_with fail
               have HK9 := Lib.hid fun W (hb : Below w4.heap.size w4 W) => (World.cell?_of_block (hb.block wr.heap.size hw9)).trans k9
               have HRK4 := Lib.hid rK
               have HRS4 := Lib.hid rS
               clear rK rS k9
               refine wp_region_mixZ (fun W => Below w4.heap.size w4 W) (fun _ => True) 8 [(0, true), (1, true), (2, true), (3, false), (4, true), (5, true), (6, true), (7, true), (8, false)] (by kernel_rfl) (by kernel_rfl) (Below.refl _ _).drew ?_
               repeat ((first | apply wpPlanZ_free rfl rfl | apply wpPlanZ_freeG rfl rfl); (intro w; go_simp; (try go_ints); (first | with_reducible rfl | (go_simp; with_reducible rfl))); (intro K hK; go_simp; (try go_ints); refine hK _ _ ?_; clear hK K))
               apply wpPlanZ_old rfl rfl (by kernel_rfl)
               · intro w hw
                 have k1 := HK9.out w hw; clear hw
                 go_simp
                 (try go_ints)
                 first | with_reducible rfl | (go_simp; with_reducible rfl)
               intro K hK
               go_simp
               (try go_ints)
               refine hK _ _ ?_
               clear hK K
               repeat ((first | apply wpPlanZ_free rfl rfl | apply wpPlanZ_freeG rfl rfl); (intro w; go_simp; (try go_ints); (first | with_reducible rfl | (go_simp; with_reducible rfl))); (intro K hK; go_simp; (try go_ints); refine hK _ _ ?_; clear hK K))
               apply wpPlanZ_act1 rfl rfl (by decide)
               intro K' hK'
               unfold Oper.wp
               go_simp
               refine (HAT.out _ (HE4.out.on (Below.refl _ _).drew)).mono ?_
               rintro e w5 ⟨rfl, hb5⟩
               have hb5' : Below w4.heap.size w4 w5 := (Below.refl _ _).drew.trans hb5
               refine hK' _ _ hb5' ?_
               clear hK' K' hb5
               have rK5 := (row?_below hb5' (row?_lt HRK4.out)).trans HRK4.out
               have rS5 := (row?_below hb5' (row?_lt HRS4.out)).trans HRS4.out
               have cK5 : ∃ z : Int, w5.cell? ⟨K, k, none⟩ = some (.int .i64 z) := by
                 obtain rfl | rfl : k = 0 ∨ k = 1 := by omega
                 · exact ⟨_, cell?_row (i := 0) rK5⟩
                 · exact ⟨_, cell?_row (i := 1) rK5⟩
               obtain ⟨z, cK⟩ := cK5
               have fK : w5.frozen? ⟨K, k, none⟩ = false := frozen?_row rK5
               have HB5 := Lib.hid hb5'
               have HRK5 := Lib.hid rK5
               clear hb5' rK5 rS5
               repeat ((first | apply wpPlanZ_free rfl rfl | apply wpPlanZ_freeG rfl rfl); (intro w; go_simp; (try go_ints); (first | with_reducible rfl | (go_simp; with_reducible rfl))); (intro K hK; go_simp; (try go_ints); refine hK _ _ ?_; clear hK K))
               apply wpPlanZ_act rfl rfl (by decide)
               intro K' hK'
               unfold Oper.wp
               go_simp
               refine hK' _ _ trivial ?_
               clear hK' K'
               refine wpPlanZ_nil ?_
               have HSTN := Lib.hid (HST1.out.step hk2 HPV.out)
               have HRKN := Lib.hid (show row? (w5.setCell ⟨K, k, none⟩ (.int .i64 (dval 0 dg : Int))) K = some #[.int .i64 ((if k = 0 then dval 0 dg else a : Nat) : Int), .int .i64 ((if k = 0 then b else dval 0 dg : Nat) : Int)] from by
                 rw [row?_setCell_same, HRK5.out]
                 obtain rfl | rfl : k = 0 ∨ k = 1 := by omega
                 · rfl
                 · rfl)
               have HSN5 := Lib.hid ((HS4.out.trans ((Same.of_below HB5.out).mono fun j hj _ => hj)).trans (Same.setCell (fun j => j ≠ K) w5 ⟨K, k, none⟩ (.int .i64 (dval 0 dg : Int)) (by simp)))
               clear cK fK
               go_wp2_with (refine wpList_cut1 rfl _ rfl (some ⟨w.heap.size + 1, j, none⟩) r.length rfl ?_)
               go_roundw
               case rel => exact ⟨k + 1, _, _, r, by omega, by go_num, LeftW.cut HDR.out, HSTN.out, fun x hx => HSUB.out x (List.mem_cons_of_mem _ hx), HRKN.out, HSN5.out⟩
               case measure => simp [intOf]; omega
     · have hk3 : k = 2 := by omega
       subst hk3
       have hdk : decide (((2 : Nat) : Int) < 2) = false := by decide
       have kw : wr.cell? ⟨w.heap.size + 1, 0, none⟩ = some (.string ⟨h0.toArray⟩) := (cell?_row (i := 0) HGW.out).trans (wordsR_get (by rw [HLR.out]; rfl))
       have hhd : (partsA 32 [] t).head?.getD [] = h0 := by rw [← HL.out, HLR.out]; rfl
       have hrt := StR.done (t := t) (by rw [← HL.out]; exact HST1.out) (by rw [hhd]; exact HNUM.out)
       rw [hhd] at hrt
       have HRT := Lib.hid hrt
       have hsr : (row? wr w.heap.size).isSome = true := by rw [rS]; rfl
       have HSR := Lib.hid hsr
       clear hhd hrt gT hsr
       rcases hlw with ⟨rfl, la, rfl⟩ | ⟨hne, j, rfl, hdrop⟩
       · have hrl : ([] : List (List UInt8)).length = 0 := rfl
         go_wp2_with fail
         refine wp_region_mixZ (fun W => W = wr.drew) (fun _ => True) 8 [(0, true), (1, true), (2, true), (3, true), (4, true), (5, true), (6, true), (7, true), (8, false), (9, true)] (by kernel_rfl) (by kernel_rfl) rfl ?_
         repeat ((first | apply wpPlanZ_free rfl rfl | apply wpPlanZ_freeG rfl rfl); (intro w; go_simp; (try go_ints); (first | with_reducible rfl | (go_simp; with_reducible rfl))); (intro K hK; go_simp; (try go_ints); refine hK _ _ ?_; clear hK K))
         apply wpPlanZ_old rfl rfl (by kernel_rfl)
         · intro w hw
           subst hw
           go_simp
           (try go_ints)
           first | with_reducible rfl | (go_simp; with_reducible rfl)
         intro K hK
         go_simp
         (try go_ints)
         refine hK _ _ ?_
         clear hK K
         apply wpPlanZ_old rfl rfl (by kernel_rfl)
         · intro w hw
           subst hw
           go_simp
           (try go_ints)
           first | with_reducible rfl | (go_simp; with_reducible rfl)
         intro K hK
         go_simp
         (try go_ints)
         refine hK _ _ ?_
         clear hK K
         repeat ((first | apply wpPlanZ_free rfl rfl | apply wpPlanZ_freeG rfl rfl); (intro w; go_simp; (try go_ints); (first | with_reducible rfl | (go_simp; with_reducible rfl))); (intro K hK; go_simp; (try go_ints); refine hK _ _ ?_; clear hK K))
         apply wpPlanZ_act rfl rfl (by decide)
         intro K' hK'
         unfold Oper.wp
         go_simp
         refine hK' _ _ trivial ?_
         clear hK' K'
         repeat ((first | apply wpPlanZ_free rfl rfl | apply wpPlanZ_freeG rfl rfl); (intro w; go_simp; (try go_ints); (first | with_reducible rfl | (go_simp; with_reducible rfl))); (intro K hK; go_simp; (try go_ints); refine hK _ _ ?_; clear hK K))
         refine wpPlanZ_nil ?_
         go_wp2_with fail
         refine ret_tct w.heap.size (pwA (a, b)) rfl Tryz.isAgg90 Tryz.sizeOf90 rfl rfl (row?_setRow_same _ _ _ HSR.out) rfl ?_
         exact ⟨below_setRow HBL.out.drew (Nat.le_refl _) _, .inl ⟨((a, b), dval 0 h0), h0, by rw [HRT.out]; simp, rfl, HNUM.out, rfl, HLEN.out.1⟩⟩
       · have hnr : rem.length ≠ 0 := fun e => hne (List.length_eq_zero_iff.1 e)
         have hbq : ((rem.length : Int) == 0) = false := by rw [beq_eq_false_iff_ne]; omega
         have HNE := Lib.hid hne
         clear hne hdrop
         go_wp2_with fail
         refine wp_region_mixZ (fun W => W = wr.drew) (fun _ => True) 8 [(0, true), (1, true), (2, true), (3, true), (4, true), (5, true), (6, true), (7, true), (8, false), (9, true)] (by kernel_rfl) (by kernel_rfl) rfl ?_
         repeat ((first | apply wpPlanZ_free rfl rfl | apply wpPlanZ_freeG rfl rfl); (intro w; go_simp; (try go_ints); (first | with_reducible rfl | (go_simp; with_reducible rfl))); (intro K hK; go_simp; (try go_ints); refine hK _ _ ?_; clear hK K))
         apply wpPlanZ_old rfl rfl (by kernel_rfl)
         · intro w hw
           subst hw
           go_simp
           (try go_ints)
           first | with_reducible rfl | (go_simp; with_reducible rfl)
         intro K hK
         go_simp
         (try go_ints)
         refine hK _ _ ?_
         clear hK K
         apply wpPlanZ_old rfl rfl (by kernel_rfl)
         · intro w hw
           subst hw
           go_simp
           (try go_ints)
           first | with_reducible rfl | (go_simp; with_reducible rfl)
         intro K hK
         go_simp
         (try go_ints)
         refine hK _ _ ?_
         clear hK K
         repeat ((first | apply wpPlanZ_free rfl rfl | apply wpPlanZ_freeG rfl rfl); (intro w; go_simp; (try go_ints); (first | with_reducible rfl | (go_simp; with_reducible rfl))); (intro K hK; go_simp; (try go_ints); refine hK _ _ ?_; clear hK K))
         apply wpPlanZ_act rfl rfl (by decide)
         intro K' hK'
         unfold Oper.wp
         go_simp
         refine hK' _ _ trivial ?_
         clear hK' K'
         repeat ((first | apply wpPlanZ_free rfl rfl | apply wpPlanZ_freeG rfl rfl); (intro w; go_simp; (try go_ints); (first | with_reducible rfl | (go_simp; with_reducible rfl))); (intro K hK; go_simp; (try go_ints); refine hK _ _ ?_; clear hK K))
         refine wpPlanZ_nil ?_
         go_wp2_with fail
         refine ret_tct w.heap.size (pwA (a, b)) rfl Tryz.isAgg90 Tryz.sizeOf90 rfl rfl (row?_setRow_same _ _ _ HSR.out) rfl ?_
         exact ⟨below_setRow HBL.out.drew (Nat.le_refl _) _, .inr ⟨by rw [HRT.out, if_neg HNE.out], h0, _, _, rfl⟩⟩
end Go.Proofs.YtgnlebnpnpjfmaaGreatDoor
namespace Go.Pal
open Go Go.RowKit
def NumsOk (ns : List (List UInt8)) (acc : Pol) : Prop := ns.map (dval 0) = acc.map (·.2) ∧ ∀ x ∈ ns, numS x = true ∧ x.length ≤ 7000
theorem NumsOk.nil : NumsOk [] [] := ⟨rfl, by simp⟩
theorem NumsOk.snoc {ns : List (List UInt8)} {acc : Pol} (h : NumsOk ns acc) {w0 : List UInt8} {x : Ex × Nat} (h1 : numS w0 = true) (h2 : dval 0 w0 = x.2) (h3 : w0.length ≤ 7000) : NumsOk (ns ++ [w0]) (acc ++ [x]) := by
 refine ⟨by rw [List.map_append, List.map_append, h.1]; simp [h2], fun y hy => ?_⟩
 rcases List.mem_append.1 hy with h' | h'
 · exact h.2 y h'
 · rw [List.mem_singleton.1 h']; exact ⟨h1, h3⟩
theorem NumsOk.len {ns : List (List UInt8)} {acc : Pol} (h : NumsOk ns acc) : ns.length = acc.length := by
 have := congrArg List.length h.1
 simpa using this
theorem NumsOk.get {ns : List (List UInt8)} {acc : Pol} (h : NumsOk ns acc) {i : Nat} {x : Ex × Nat} (hx : acc[i]? = some x) : ∃ w0, ns[i]? = some w0 ∧ numS w0 = true ∧ w0.length ≤ 7000 ∧ dval 0 w0 = x.2 := by
 have h1 : (ns.map (dval 0))[i]? = some x.2 := by rw [h.1, List.getElem?_map, hx]; rfl
 rw [List.getElem?_map] at h1
 obtain ⟨w0, h2, h3⟩ := Option.map_eq_some_iff.1 h1
 have := h.2 w0 (List.mem_of_getElem? h2)
 exact ⟨w0, h2, this.1, this.2, h3⟩
theorem wt_le {M : Nat} : ∀ {p : Pol}, (∀ x ∈ p, x.2 ≤ M) → wt p ≤ p.length * M
 | [], _ => Nat.zero_le _
 | x :: r, h => by
   have h1 := wt_le (p := r) fun y hy => h y (by simp [hy])
   have h2 := h x (by simp)
   have : wt (x :: r) = x.2 + wt r := by unfold wt; rw [lin]; omega
   rw [this, List.length_cons, Nat.add_mul, Nat.one_mul]
   omega
theorem nextP_snoc (acc : Pol) (y x : Ex × Nat) : nextP (acc ++ [y]) x = ltX y.1 x.1 := by unfold nextP; simp
theorem nextP_nil (x : Ex × Nat) : nextP [] x = true := rfl
end Go.Pal
namespace Go.Proofs.YtgnlebnpnpjfmaaGreatDoor
open Go Go.RowKit Go.Pal Go.Sort
theorem cmpX_neg (x y : Ex) : decide (0 ≤ cmpX x y) = !ltX x y := by
 have h := ltOf_cmpX x y
 unfold ltOf at h
 rw [← h]
 by_cases h0 : cmpX x y < 0
 · rw [decide_eq_false (by omega), decide_eq_true h0]; rfl
 · rw [decide_eq_true (by omega), decide_eq_false h0]; rfl
theorem far_big (acc : Pol) : (acc.map (·.1)).any bigX = farP acc := by
 unfold farP
 rw [List.any_map]
 rfl
theorem nums_fitN {acc : Pol} (N : Nat) (hN : 13 + 4 * N ≤ fitK) (h : ∀ x ∈ acc, ∃ w0 : List UInt8, numS w0 = true ∧ w0.length ≤ N ∧ dval 0 w0 = x.2) (hl : acc.length ≤ 8000) : Fit (wt acc) := by
 have h1 : ∀ x ∈ acc, x.2 ≤ 2 ^ (4 * N) := fun x hx => by
   obtain ⟨w0, h1, h2, h3⟩ := h x hx
   rw [← h3]
   refine Nat.le_trans (Nat.le_of_lt (dval_lt w0 (numS_iff.1 h1).2.2)) ?_
   rw [Nat.pow_mul]
   exact Nat.le_trans (Nat.pow_le_pow_left (by decide : 10 ≤ 2 ^ 4) _) (Nat.pow_le_pow_right (by decide) h2)
 have h2 := wt_le h1
 refine fit_of (k := 13 + 4 * N) ?_ hN
 rw [Nat.pow_add]
 have h8 : acc.length < 2 ^ 13 := by
   have : (2 : Nat) ^ 13 = 8192 := by decide
   omega
 exact Nat.lt_of_le_of_lt h2 (Nat.mul_lt_mul_of_pos_right h8 (Nat.pow_pos (by decide)))
theorem nums_fit {acc : Pol} (h : ∀ x ∈ acc, ∃ w0 : List UInt8, numS w0 = true ∧ w0.length ≤ 7000 ∧ dval 0 w0 = x.2) (hl : acc.length ≤ 8000) : Fit (wt acc) := nums_fitN 7000 (by unfold fitK; decide) h hl
theorem own_apart {B C : Nat} {w : World} {v u : Value} {ls : List (List UInt8)} {xs : List Ex} (h : OwnStr B w v ls) (k : OwnX C w u xs) : ∀ g, v.ownBlock = some g → u.ownBlock ≠ some g := by
 intro g hg hu
 rcases h.2 with ⟨rfl, -⟩ | ⟨b, cap, cur, rfl, -, hb, -⟩
 · cases hg
 · rcases k.2 with ⟨rfl, -⟩ | ⟨b', cap', cur', rfl, -, hb', -⟩
   · cases hu
   · cases hg
     cases hu
     rw [hb] at hb'
     simp at hb'
end Go.Proofs.YtgnlebnpnpjfmaaGreatDoor
