/- Walks: the reference's Where, Width, Depth, Deep, Fits of a tree of bags; slices.Max; the .. -/
import Derived.Test.YtmmhngjndnonhaaGreatDoorTLq
import Derived.Test.YtmmhngjndnonhaaGreatDoorTLp
import Derived.Test.YtmmhngjndnonhaaGreatDoorTJx
import Derived.Test.YtmmhngjndnonhaaGreatDoorTSt
set_option maxHeartbeats 4000000
set_option maxRecDepth 10000
set_option linter.all false
namespace Go.Pal
open Go
theorem hasI_mem {S : Nat} (hS : IsSet S) (n : Int) : decide (n ∈ elemsI S) = hasI S n := by
 rw [Bool.eq_iff_iff, decide_eq_true_eq]
 constructor
 · intro h
   obtain ⟨m, hm, rfl⟩ := List.mem_map.1 (show n ∈ (elems S).map fun i : Nat => (i : Int) from h)
   exact hasI_nat ((mem_elems hS).1 hm) (elems_lt hm)
 · intro h
   have h0 : 0 ≤ n ∧ n < 1024 := by
     unfold hasI at h
     rw [Bool.and_eq_true, decide_eq_true_eq] at h
     exact h.1
   have h1 := hasI_bit h
   have h2 := (mem_elemsI hS (n := n.toNat)).2 h1
   rwa [Int.toNat_of_nonneg h0.1] at h2
end Go.Pal
namespace Go.Proofs.YtmmhngjndnonhaaGreatDoor
open Go Go.RowKit Go.Pal
attribute [local go_sem] Oper.semAt_some
theorem rwhere_any (T : List Bg) (n : Int) (v : Value) (w : World) (hv : RefT w v T) (hlen : T.length ≤ 65536) :
   Calls Tryz.prog 80 #[v, .int .i64 n] w fun e w' => ∃ v', e = .returned v' ∧ OwnI w.heap.size w' v' (whereTo T n T.length) ∧ Below w.heap.size w w' := by
 have HV := Lib.hid hv
 obtain ⟨a, c, rfl, -⟩ := hv
 go_enter Tryz.func80, Tryz.ntmps80
 go_wp2_with fail
 go_loopw [5, 6] (fun v i wr => ∃ k : Nat, k ≤ T.length ∧ i = .int .i64 (k : Int) ∧ OwnI w.heap.size wr v (whereTo T n k) ∧ Below w.heap.size w wr) (fun _ i _ => T.length - (intOf i).toNat)
 case atStart => exact ⟨0, by omega, rfl, World.ownsRow_nil _ _ _ _, Below.refl _ _⟩
 case round =>
   obtain ⟨k, hk, rfl, hO, hb⟩ := hrel
   have hsz := hb.size
   have HO := Lib.hid hO
   have HB1 := Lib.hid hb
   clear hO hb
   by_cases hlt : k < T.length
   · obtain ⟨b2, off, c2, p, S, q, cap, hv2, hx, hS, hc⟩ := HV.out.at hlt
     simp only [Value.slice.injEq] at hv2
     obtain ⟨rfl, -, rfl⟩ := hv2
     obtain ⟨k1, k2, k3⟩ := hc wr HB1.out
     have hst := whereTo_succ T n k
     rw [bagN_of hx] at hst
     have hkl := whereTo_len T n k
     have hel := elemsI_length S
     have hh := rhas_any (elemsI S) (.slice q (elemsI S).length cap) n wr k3.1 (by omega)
     rw [hasI_mem hS] at hh
     obtain ⟨hb, hhb⟩ : ∃ hb, hb = hasI S n := ⟨_, rfl⟩
     simp only at hst
     rw [← hhb] at hh hst
     have HH := Lib.hid hh
     obtain ⟨acc, hacc⟩ : ∃ acc, acc = whereTo T n k := ⟨_, rfl⟩
     rw [← hacc] at hst HO hkl
     have HST := Lib.hid hst
     clear hx hc k1 k3 hacc hst hh hhb
     go_wp2_with fail
     refine HH.out.mono ?_
     rintro e w1 ⟨rfl, rfl⟩
     clear k2
     cases hb with
     | true =>
       go_wp2_with (at_builtin; refine wpList_appT rfl 47 undI _ _ rfl (w.heap.size) _ (acc) rfl (HO.out.alloc _) _ ((k : Int)) _ rfl (by simp [go_sem]) (by first | omega | (simp; omega)) (by simp; omega) ?_)
       intro v' w2 hO2 hb2
       obtain ⟨q2, cap2, rfl⟩ := hO2.sl
       have HO2 := Lib.hid hO2
       have HB2 := Lib.hid (((HB1.out).alloc (hsz) _).trans hb2)
       clear hO2 hb2
       go_wp2_with fail
       go_roundw
       case rel => exact ⟨k + 1, by omega, by go_num, by rw [HST.out]; simp only [if_true]; exact HO2.out, HB2.out⟩
       case measure => simp [intOf]; omega
     | false =>
       go_wp2_with fail
       go_roundw
       case rel => exact ⟨k + 1, by omega, by go_num, by rw [HST.out]; simp only [Bool.false_eq_true, if_false]; exact HO.out, HB1.out⟩
       case measure => simp [intOf]; omega
   · have hkn : k = T.length := by omega
     subst hkn
     go_wp2_with fail
     go_ret
     exact ⟨_, rfl, HO.out, HB1.out⟩
theorem rdepth_any (T : List Bg) (v : Value) (w : World) (hv : RefT w v T) (hP : ParIn T) (hlen : T.length ≤ 65536) (i : Nat) (hi : i < T.length) :
   Calls Tryz.prog 82 #[v, .int .i64 (i : Int)] w fun e w' => e = .returned (.int .i64 (deepAt T i : Int)) ∧ Below w.heap.size w w' := by
 have HA := Lib.hid (above_any T v w hv hP hlen i hi)
 obtain ⟨a, c, rfl, -⟩ := hv
 have hd : deepAt T i = ((climb T (T.length + 1) (upI T (i : Int))).getD []).length := rfl
 have HD := Lib.hid hd
 clear hd
 go_enter Tryz.func82, Tryz.ntmps82
 go_wp2_with fail
 refine HA.out.mono ?_
 rintro e w1 ⟨v1, rfl, hv1, hb1⟩
 obtain ⟨q1, c1, rfl, -⟩ := hv1
 rw [← HD.out]
 have HB1 := Lib.hid hb1
 clear hb1
 go_wp2_with fail
 go_ret
 exact ⟨rfl, HB1.out⟩
theorem tcg_bad (n : Int) (hn : n ≠ 0) (v : Value) (g : Nat) (w : World) (hv : ∃ a m c, v = .slice a m c) (hck : Calls Tryz.prog 64 #[v] w fun e w' => e = .returned (.int .i64 n) ∧ Below w.heap.size w w') :
   Calls Tryz.prog 60 #[v, .pointer (some ⟨g, 0, none⟩)] w fun e w' => e = .returned (.int .i64 n) ∧ Below w.heap.size w w' := by
 have HC := Lib.hid hck
 obtain ⟨a, m, c, rfl⟩ := hv
 have h2 : (n != 0) = true := by simpa using hn
 have h3 : (n == 0) = false := by simpa using hn
 clear hck
 go_enter Tryz.func60, Tryz.ntmps60
 go_wp2_with fail
 refine HC.out.mono ?_
 rintro e w1 ⟨rfl, hb1⟩
 have HB1 := Lib.hid hb1
 clear hb1
 go_wp2_with fail
 go_ret
 exact ⟨rfl, HB1.out⟩
theorem tcg_all (T : List Bg) (hS : ∀ x ∈ T, IsSet x.2) (g bV bE : Nat) (G : Gr) (hG : G.Ok) (v : Value) (w : World) (hv : Rd bagA 17 w.heap.size w v T) (hlen : T.length ≤ 1024) (h : GOk w g bV bE G) :
   Calls Tryz.prog 60 #[v, .pointer (some ⟨g, 0, none⟩)] w fun e w' => e = .returned (.int .i64 (rFitsN G T)) ∧ Below w.heap.size w w' := by
 have hck := fun W (hb : Below w.heap.size w W) => tcheck_any T hS v W ((hv.below hb (Nat.le_refl _)).mono hb.size) hlen
 by_cases h0 : rCheckN T = 0
 · rw [fits_eq hG h0]
   simp only [h0] at hck
   exact checkGraph_any T hS g bV bE G hG v w hv (by omega) h hck
 · have hF : rFitsN G T = rCheckN T := by unfold rFitsN; rw [if_pos h0]
   rw [hF]
   obtain ⟨a, c, rfl⟩ := hv.sl
   exact tcg_bad _ h0 _ g w ⟨_, _, _, rfl⟩ (hck w (Below.refl _ _))
theorem rfits_any (G : Gr) (hG : G.Ok) (T : List Bg) (hSet : ∀ x ∈ T, IsSet x.2) (hPr : ∀ x ∈ T, -9223372036854775808 ≤ x.1 ∧ x.1 ≤ 9223372036854775807) (v vV vE : Value) (w : World) (hv : RefT w v T) (hlen : T.length ≤ 65536)
   (hV : Rd vtxA 3 w.heap.size w vV G.V) (hE : Rd edgA 4 w.heap.size w vE G.E)
   (hWh : ∀ n W, Below w.heap.size w W → Calls Tryz.prog 80 #[v, .int .i64 n] W fun e w' => ∃ v', e = .returned v' ∧ OwnI W.heap.size w' v' (whereTo T n T.length) ∧ Below W.heap.size W w') :
   Calls Tryz.prog 31 #[v, .agg #[vV, vE]] w fun e w' => e = .returned (.int .i64 (rFitsN G T)) ∧ Below w.heap.size w w' := by
 have HX := Lib.hid hv
 have HV := Lib.hid hV
 have HE := Lib.hid hE
 have HWh := Lib.hid hWh
 have HSet := Lib.hid hSet
 have HPr := Lib.hid hPr
 have hlV := hG.len
 have hlE := hG.most
 obtain ⟨a, c, rfl, -⟩ := hv
 obtain ⟨aV, cV, rfl⟩ := hV.sl
 obtain ⟨aE, cE, rfl⟩ := hE.sl
 obtain ⟨R, hR⟩ : ∃ R, R = rFitsN G T := ⟨_, rfl⟩
 have HR := Lib.hid hR
 rw [← hR]
 clear hV hE hWh hSet hPr hR hG
 go_enter Tryz.func31, Tryz.ntmps31
 go_wp2_with fail
 obtain ⟨W0, hW0⟩ : ∃ W0, W0 = w.alloc (.cells #[.slice aV G.V.length cV, .slice aE G.E.length cE] 27) := ⟨_, rfl⟩
 have hB0 : Below w.heap.size w W0 := by rw [hW0]; exact (Below.refl _ w).alloc (Nat.le_refl _) _
 have hr0 : row? W0 w.heap.size = some #[.slice aV G.V.length cV, .slice aE G.E.length cE] := by rw [hW0]; exact row?_alloc_at _ _ _ _ rfl
 have hs0 : w.heap.size < W0.heap.size := by rw [hW0]; simp
 rw [← hW0]
 clear hW0
 refine (rcheck_any T _ W0 (HX.out.below hB0) hlen HPr.out).mono ?_
 rintro e w1 ⟨rfl, hb1⟩
 have HB1 := Lib.hid (hB0.trans (hb1.mono hB0.size))
 have HR1 := Lib.hid ((row?_below hb1 hs0).trans hr0)
 have hs1 := hb1.size
 have hw1 : w.heap.size < w1.heap.size := by omega
 clear hB0 hr0 hb1
 by_cases h0 : rCheckN T = 0
 · have H0 := Lib.hid h0
   rw [h0]
   go_wp2_with fail
   go_loopw [6] (fun i wr => ∃ k : Nat, k ≤ G.V.length ∧ i = .int .i64 (k : Int) ∧ (G.V.take k).all (fun p => decide ((whereTo T p.1 T.length).length ≠ 0)) = true ∧ Below w1.heap.size w1 wr) (fun i _ => G.V.length - (intOf i).toNat)
   case atStart => exact ⟨0, by omega, rfl, rfl, Below.refl _ _⟩
   case round =>
     obtain ⟨k, hk, rfl, hall, hb⟩ := hrel
     have HAll := Lib.hid hall
     have HB := Lib.hid hb
     have HBw := Lib.hid (HB1.out.trans (hb.mono HB1.out.size))
     have hs := hb.size
     have hwr : w.heap.size < wr.heap.size := by omega
     have hr := (row?_below hb hw1).trans HR1.out
     have c1 := cell?_row (i := 0) hr
     have c2 := cell?_row (i := 1) hr
     simp at c1 c2
     clear hall hb hr
     by_cases hlt : k < G.V.length
     · obtain ⟨b, off, c', x, h1, hbb, hx, hcx⟩ := HV.out.at hlt
       simp only [Value.slice.injEq] at h1
       obtain ⟨rfl, -, rfl⟩ := h1
       have c0 := hcx wr HBw.out 0 (.int .i64 x.1) rfl
       simp only [Nat.add_zero] at c0
       have HWx := Lib.hid (HWh.out x.1 wr HBw.out)
       obtain ⟨xi, hxi⟩ : ∃ xi, xi = x.1 := ⟨_, rfl⟩
       have HST := Lib.hid (show (G.V.take (k + 1)).all (fun p => decide ((whereTo T p.1 T.length).length ≠ 0)) = decide ((whereTo T xi T.length).length ≠ 0) by
         rw [take_snoc hx, List.all_append, HAll.out, hxi]; simp)
       rw [← hxi] at c0 HWx
       have HFa := Lib.hid (show (whereTo T xi T.length).length = 0 → G.V.all (fun p => decide ((whereTo T p.1 T.length).length ≠ 0)) = false from fun h => all_false hx (by rw [← hxi]; simpa using h))
       have hwl := whereTo_len T xi T.length
       obtain ⟨L, hL⟩ : ∃ L, L = whereTo T xi T.length := ⟨_, rfl⟩
       rw [← hL] at HWx HST HFa hwl
       clear hcx hx hbb hxi hL
       go_wp2_with fail
       refine HWx.out.mono ?_
       rintro e w2 ⟨v2, rfl, hO, hb2⟩
       obtain ⟨q2, n2, c3, rfl⟩ := hO.slice
       have hn2 := hO.len
       subst hn2
       have HB2 := Lib.hid (HB.out.trans (hb2.mono hs))
       clear hO hb2 c0 c1 c2 HWx
       by_cases hz : L.length = 0
       · have HE9 : Hid (R = 9) := Lib.hid (by rw [HR.out]; unfold rFitsN; rw [if_neg (by rw [H0.out]; simp), if_pos (HFa.out hz)])
         rw [hz]
         go_wp2_with fail
         go_ret
         exact ⟨by rw [HE9.out]; rfl, HB1.out.trans (HB2.out.mono HB1.out.size)⟩
       · have hz1 : (L.length == 0) = false := by simpa using hz
         have hz2 : ((L.length : Int) == 0) = false := by rw [beq_eq_false_iff_ne]; omega
         have HST2 : Hid ((G.V.take (k + 1)).all (fun p => decide ((whereTo T p.1 T.length).length ≠ 0)) = true) := Lib.hid (by rw [HST.out]; simpa using hz)
         go_wp2_with fail
         go_roundw
         case rel => exact ⟨k + 1, by omega, by go_num, HST2.out, HB2.out⟩
         case measure => simp [intOf]; omega
     · have hkn : k = G.V.length := by omega
       subst hkn
       have hVa := HAll.out
       rw [List.take_length] at hVa
       have HVa := Lib.hid hVa
       obtain ⟨wo, rfl⟩ : ∃ wo : World, wo = wr := ⟨_, rfl⟩
       clear hVa hlt hk
       go_wp2_with fail
       clear c1 c2
       go_loopw [7, 8, 9] (fun i _ _ wr => ∃ k : Nat, k ≤ G.E.length ∧ i = .int .i64 (k : Int) ∧ (G.E.take k).all (fun e => T.any (holdE e)) = true ∧ Below w1.heap.size w1 wr) (fun i _ _ _ => G.E.length - (intOf i).toNat)
       case atStart => exact ⟨0, by omega, rfl, rfl, HB.out⟩
       case round =>
         obtain ⟨k, hk, rfl, hall, hb⟩ := hrel
         have HAllE := Lib.hid hall
         have HBe := Lib.hid hb
         have HBwe := Lib.hid (HB1.out.trans (hb.mono HB1.out.size))
         have hse := hb.size
         have hwe : w.heap.size < wr.heap.size := by omega
         have hr := (row?_below hb hw1).trans HR1.out
         have c1 := cell?_row (i := 0) hr
         have c2 := cell?_row (i := 1) hr
         simp at c1 c2
         clear hall hb hr
         by_cases hlt : k < G.E.length
         · obtain ⟨b, off, c', x, h1, hbb, hx, hcx⟩ := HE.out.at hlt
           simp only [Value.slice.injEq] at h1
           obtain ⟨rfl, -, rfl⟩ := h1
           have HX0 := Lib.hid hx
           have HCX := Lib.hid hcx
           obtain ⟨wo2, rfl⟩ : ∃ wo2 : World, wo2 = wr := ⟨_, rfl⟩
           clear hcx hx hbb
           go_wp2_with fail
           clear c1 c2
           go_loopw [8, 9] (fun th j wq => ∃ m : Nat, m ≤ T.length ∧ j = .int .i64 (m : Int) ∧ th = .bool ((T.take m).any (holdE x)) ∧ Below w1.heap.size w1 wq) (fun _ j _ => T.length - (intOf j).toNat)
           case atStart => exact ⟨0, by omega, rfl, rfl, HBe.out⟩
           case round =>
             obtain ⟨m, hm, rfl, rfl, hbq⟩ := hrel
             obtain ⟨wq, rfl⟩ : ∃ wq : World, wq = wr := ⟨_, rfl⟩
             have HBq := Lib.hid hbq
             have HBwq := Lib.hid (HB1.out.trans (hbq.mono HB1.out.size))
             have hsq := hbq.size
             by_cases hlm : m < T.length
             · obtain ⟨b2, off2, c2', p, S, q, cap, hv2, hy, hS, hcy⟩ := HX.out.at hlm
               simp only [Value.slice.injEq] at hv2
               obtain ⟨rfl, -, rfl⟩ := hv2
               have HF := Lib.hid fun W (hw : Below wq.heap.size wq W) => (⟨(hcy W (HBwq.out.trans (hw.mono HBwq.out.size))).2.1, (row?_below (HBq.out.trans (hw.mono hsq)) hw1).trans HR1.out, (cell?_row (i := 1) ((row?_below (HBq.out.trans (hw.mono hsq)) hw1).trans HR1.out)).trans rfl, by have := HCX.out W (HBwq.out.trans (hw.mono HBwq.out.size)) 0 (.int .i64 x.1.1) rfl; simpa using this, HCX.out W (HBwq.out.trans (hw.mono HBwq.out.size)) 1 (.int .i64 x.1.2) rfl⟩ : W.cell? ⟨b2, off2 + m * 2 + 1, none⟩ = some (.slice q (elemsI S).length cap) ∧ row? W w.heap.size = some #[.slice aV G.V.length cV, .slice (some ⟨b, off, none⟩) G.E.length cE] ∧ W.cell? ⟨w.heap.size, 1, none⟩ = some (.slice (some ⟨b, off, none⟩) G.E.length cE) ∧ W.cell? ⟨b, off + k * 4, none⟩ = some (.int .i64 x.1.1) ∧ W.cell? ⟨b, off + k * 4 + 1, none⟩ = some (.int .i64 x.1.2))
               have hel := elemsI_length S
               have hh := fun n W (hw : Below wq.heap.size wq W) => rhas_any (elemsI S) (.slice q (elemsI S).length cap) n W (hcy W (HBwq.out.trans (hw.mono HBwq.out.size))).2.2.1 (by omega)
               simp only [hasI_mem hS] at hh
               have hst : (T.take (m + 1)).any (holdE x) = ((T.take m).any (holdE x) || (hasI S x.1.1 && hasI S x.1.2)) := by
                 rw [take_snoc hy, List.any_append]; simp [holdE]
               obtain ⟨tv, htv⟩ : ∃ tv, tv = (T.take m).any (holdE x) := ⟨_, rfl⟩
               rw [← htv] at hst ⊢
               have hh1 := hh x.1.1
               have hh2 := hh x.1.2
               obtain ⟨e1, he1⟩ : ∃ e1, e1 = hasI S x.1.1 := ⟨_, rfl⟩
               obtain ⟨e2, he2⟩ : ∃ e2, e2 = hasI S x.1.2 := ⟨_, rfl⟩
               rw [← he1] at hh1 hst
               rw [← he2] at hh2 hst
               obtain ⟨xu, hxu⟩ : ∃ xu, xu = x.1.1 := ⟨_, rfl⟩
               obtain ⟨xv, hxv⟩ : ∃ xv, xv = x.1.2 := ⟨_, rfl⟩
               rw [← hxu] at hh1 HF
               rw [← hxv] at hh2 HF
               have HH1 := Lib.hid hh1
               have HH2 := Lib.hid hh2
               have HST := Lib.hid hst
               clear hcy hy hbq hh hh1 hh2 hst htv he1 he2 hxu hxv
               cases tv with
               | true =>
                 go_wp2_with fail
                 refine wp_region_free (fun w' => Below wq.heap.size wq w') (by kernel_rfl) (by kernel_rfl) (Below.refl _ _).drew ?_
                 repeat (first | ((first | apply wpFree_still (hg := rfl) | apply wpFree_stillG rfl); (intro w hw; obtain ⟨k1, k2, k3, k4, k5⟩ := HF.out _ hw; clear hw; go_simp; (try go_ints); (first | with_reducible rfl | (go_simp; with_reducible rfl))); (intro K hK; go_simp; (try go_ints); refine hK _ ?_; clear hK K)) | (apply wpFree_skip rfl; (intro K hK; go_simp; (try go_ints); refine hK _ ?_; clear hK K)))
                 with_reducible refine wpFree_nil ?_
                 intro w2 hb2
                 have HB2 := Lib.hid (HBq.out.trans (hb2.mono hsq))
                 clear hb2
                 go_wp2_with fail
                 go_roundw
                 case rel => exact ⟨m + 1, by omega, by go_num, by rw [HST.out]; rfl, HB2.out⟩
                 case measure => simp [intOf]; omega
               | false =>
                 cases e1 with
                 | false =>
                   go_wp2_with fail
                   refine wp_region_free (fun w' => Below wq.heap.size wq w') (by kernel_rfl) (by kernel_rfl) (Below.refl _ _).drew ?_
                   repeat (first | ((first | apply wpFree_still (hg := rfl) | apply wpFree_stillG rfl); (intro w hw; obtain ⟨k1, k2, k3, k4, k5⟩ := HF.out _ hw; clear hw; go_simp; (try go_ints); (first | with_reducible rfl | (go_simp; with_reducible rfl))); (intro K hK; go_simp; (try go_ints); refine hK _ ?_; clear hK K)) | (apply wpFree_skip rfl; (intro K hK; go_simp; (try go_ints); refine hK _ ?_; clear hK K)))
                   apply wpFree_callG rfl
                   · intro w hw; go_simp; first | with_reducible rfl | with_reducible exact ⟨rfl, rfl⟩
                   · intro w hw; refine ((HH1).out w hw).mono ?_; rintro e w' ⟨h1, rfl⟩; exact ⟨h1, hw⟩
                   intro K hK; go_simp; (try go_ints); refine hK _ ?_; clear hK K
                   repeat (first | ((first | apply wpFree_still (hg := rfl) | apply wpFree_stillG rfl); (intro w hw; obtain ⟨k1, k2, k3, k4, k5⟩ := HF.out _ hw; clear hw; go_simp; (try go_ints); (first | with_reducible rfl | (go_simp; with_reducible rfl))); (intro K hK; go_simp; (try go_ints); refine hK _ ?_; clear hK K)) | (apply wpFree_skip rfl; (intro K hK; go_simp; (try go_ints); refine hK _ ?_; clear hK K)))
                   with_reducible refine wpFree_nil ?_
                   intro w2 hb2
                   have HB2 := Lib.hid (HBq.out.trans (hb2.mono hsq))
                   clear hb2
                   go_wp2_with fail
                   go_roundw
                   case rel => exact ⟨m + 1, by omega, by go_num, by rw [HST.out]; rfl, HB2.out⟩
                   case measure => simp [intOf]; omega
                 | true =>
                   cases e2 with
                   | true =>
                     go_wp2_with fail
                     refine wp_region_free (fun w' => Below wq.heap.size wq w') (by kernel_rfl) (by kernel_rfl) (Below.refl _ _).drew ?_
                     repeat (first | ((first | apply wpFree_still (hg := rfl) | apply wpFree_stillG rfl); (intro w hw; obtain ⟨k1, k2, k3, k4, k5⟩ := HF.out _ hw; clear hw; go_simp; (try go_ints); (first | with_reducible rfl | (go_simp; with_reducible rfl))); (intro K hK; go_simp; (try go_ints); refine hK _ ?_; clear hK K)) | (apply wpFree_skip rfl; (intro K hK; go_simp; (try go_ints); refine hK _ ?_; clear hK K)))
                     apply wpFree_callG rfl
                     · intro w hw; go_simp; first | with_reducible rfl | with_reducible exact ⟨rfl, rfl⟩
                     · intro w hw; refine ((HH1).out w hw).mono ?_; rintro e w' ⟨h1, rfl⟩; exact ⟨h1, hw⟩
                     intro K hK; go_simp; (try go_ints); refine hK _ ?_; clear hK K
                     repeat (first | ((first | apply wpFree_still (hg := rfl) | apply wpFree_stillG rfl); (intro w hw; obtain ⟨k1, k2, k3, k4, k5⟩ := HF.out _ hw; clear hw; go_simp; (try go_ints); (first | with_reducible rfl | (go_simp; with_reducible rfl))); (intro K hK; go_simp; (try go_ints); refine hK _ ?_; clear hK K)) | (apply wpFree_skip rfl; (intro K hK; go_simp; (try go_ints); refine hK _ ?_; clear hK K)))
                     apply wpFree_callG rfl
                     · intro w hw; go_simp; first | with_reducible rfl | with_reducible exact ⟨rfl, rfl⟩
                     · intro w hw; refine ((HH2).out w hw).mono ?_; rintro e w' ⟨h1, rfl⟩; exact ⟨h1, hw⟩
                     intro K hK; go_simp; (try go_ints); refine hK _ ?_; clear hK K
                     repeat (first | ((first | apply wpFree_still (hg := rfl) | apply wpFree_stillG rfl); (intro w hw; obtain ⟨k1, k2, k3, k4, k5⟩ := HF.out _ hw; clear hw; go_simp; (try go_ints); (first | with_reducible rfl | (go_simp; with_reducible rfl))); (intro K hK; go_simp; (try go_ints); refine hK _ ?_; clear hK K)) | (apply wpFree_skip rfl; (intro K hK; go_simp; (try go_ints); refine hK _ ?_; clear hK K)))
                     with_reducible refine wpFree_nil ?_
                     intro w2 hb2
                     have HB2 := Lib.hid (HBq.out.trans (hb2.mono hsq))
                     clear hb2
                     go_wp2_with fail
                     go_roundw
                     case rel => exact ⟨m + 1, by omega, by go_num, by rw [HST.out]; rfl, HB2.out⟩
                     case measure => simp [intOf]; omega
                   | false =>
                     go_wp2_with fail
                     refine wp_region_free (fun w' => Below wq.heap.size wq w') (by kernel_rfl) (by kernel_rfl) (Below.refl _ _).drew ?_
                     repeat (first | ((first | apply wpFree_still (hg := rfl) | apply wpFree_stillG rfl); (intro w hw; obtain ⟨k1, k2, k3, k4, k5⟩ := HF.out _ hw; clear hw; go_simp; (try go_ints); (first | with_reducible rfl | (go_simp; with_reducible rfl))); (intro K hK; go_simp; (try go_ints); refine hK _ ?_; clear hK K)) | (apply wpFree_skip rfl; (intro K hK; go_simp; (try go_ints); refine hK _ ?_; clear hK K)))
                     apply wpFree_callG rfl
                     · intro w hw; go_simp; first | with_reducible rfl | with_reducible exact ⟨rfl, rfl⟩
                     · intro w hw; refine ((HH1).out w hw).mono ?_; rintro e w' ⟨h1, rfl⟩; exact ⟨h1, hw⟩
                     intro K hK; go_simp; (try go_ints); refine hK _ ?_; clear hK K
                     repeat (first | ((first | apply wpFree_still (hg := rfl) | apply wpFree_stillG rfl); (intro w hw; obtain ⟨k1, k2, k3, k4, k5⟩ := HF.out _ hw; clear hw; go_simp; (try go_ints); (first | with_reducible rfl | (go_simp; with_reducible rfl))); (intro K hK; go_simp; (try go_ints); refine hK _ ?_; clear hK K)) | (apply wpFree_skip rfl; (intro K hK; go_simp; (try go_ints); refine hK _ ?_; clear hK K)))
                     apply wpFree_callG rfl
                     · intro w hw; go_simp; first | with_reducible rfl | with_reducible exact ⟨rfl, rfl⟩
                     · intro w hw; refine ((HH2).out w hw).mono ?_; rintro e w' ⟨h1, rfl⟩; exact ⟨h1, hw⟩
                     intro K hK; go_simp; (try go_ints); refine hK _ ?_; clear hK K
                     repeat (first | ((first | apply wpFree_still (hg := rfl) | apply wpFree_stillG rfl); (intro w hw; obtain ⟨k1, k2, k3, k4, k5⟩ := HF.out _ hw; clear hw; go_simp; (try go_ints); (first | with_reducible rfl | (go_simp; with_reducible rfl))); (intro K hK; go_simp; (try go_ints); refine hK _ ?_; clear hK K)) | (apply wpFree_skip rfl; (intro K hK; go_simp; (try go_ints); refine hK _ ?_; clear hK K)))
                     with_reducible refine wpFree_nil ?_
                     intro w2 hb2
                     have HB2 := Lib.hid (HBq.out.trans (hb2.mono hsq))
                     clear hb2
                     go_wp2_with fail
                     go_roundw
                     case rel => exact ⟨m + 1, by omega, by go_num, by rw [HST.out]; rfl, HB2.out⟩
                     case measure => simp [intOf]; omega
             · have hmn : m = T.length := by omega
               subst hmn
               rw [List.take_length]
               obtain ⟨tv, htv⟩ : ∃ tv, tv = T.any (holdE x) := ⟨_, rfl⟩
               have HTV := Lib.hid htv
               rw [← htv]
               clear htv hbq
               cases tv with
               | true =>
                 have HST : Hid ((G.E.take (k + 1)).all (fun e => T.any (holdE e)) = true) := Lib.hid (by rw [take_snoc HX0.out, List.all_append, HAllE.out]; simp [← HTV.out])
                 go_wp2_with fail
                 go_roundw
                 case rel => exact ⟨k + 1, by omega, by go_num, HST.out, HBq.out⟩
                 case measure => simp [intOf]; omega
               | false =>
                 have HE23 : Hid (R = 23) := Lib.hid (by rw [HR.out]; unfold rFitsN; rw [if_neg (by rw [H0.out]; simp), if_neg (by rw [HVa.out]; simp), if_pos (all_false HX0.out HTV.out.symm)])
                 go_wp2_with fail
                 go_ret
                 exact ⟨by rw [HE23.out]; rfl, HBwq.out⟩
         · have hkn : k = G.E.length := by omega
           subst hkn
           have hEa := HAllE.out
           rw [List.take_length] at hEa
           have HE0 : Hid (R = 0) := Lib.hid (by rw [HR.out]; unfold rFitsN; rw [if_neg (by rw [H0.out]; simp), if_neg (by rw [HVa.out]; simp), if_neg (by rw [hEa]; simp)])
           clear hEa
           go_wp2_with fail
           go_ret
           exact ⟨by rw [HE0.out]; rfl, HBwe.out⟩
 · have HE0 : Hid (R = rCheckN T) := Lib.hid (by rw [HR.out]; unfold rFitsN; rw [if_pos h0])
   have h2 : (rCheckN T != 0) = true := by simpa using h0
   have h3 : (rCheckN T == 0) = false := by simpa using h0
   go_wp2_with fail
   go_ret
   exact ⟨by rw [HE0.out]; rfl, HB1.out⟩
end Go.Proofs.YtmmhngjndnonhaaGreatDoor
