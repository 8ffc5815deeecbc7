/- Walk of the reference's polynomials: Add. -/
import Derived.Test.YtgnlebnpnpjfmaaGreatDoorUOo
set_option linter.all false
namespace Go.Pal
theorem atT_step {k : Ex} {p : Pol} {i : Nat} {x : Ex × Nat} (h : i ≤ atT k p) (hx : p[i]? = some x) (hl : ltX x.1 k = true) : i + 1 ≤ atT k p := by
 rcases Nat.lt_or_ge i (atT k p) with h1 | h1
 · exact h1
 · have : i = atT k p := by omega
   subst this
   rw [atT_at hx] at hl
   cases hl
theorem atT_stop {k : Ex} {p : Pol} {i : Nat} {x : Ex × Nat} (h : i ≤ atT k p) (hx : p[i]? = some x) (hl : ltX x.1 k = false) : i = atT k p := by
 rcases Nat.lt_or_ge i (atT k p) with h1 | h1
 · rw [atT_lt h1 hx] at hl
   cases hl
 · omega
theorem atT_end {k : Ex} {p : Pol} {i : Nat} (h : i ≤ atT k p) (hi : p.length ≤ i) : i = atT k p := by
 have := atT_le k p
 omega
end Go.Pal
namespace Go.Proofs.YtgnlebnpnpjfmaaGreatDoor
open Go Go.RowKit Go.Pal
attribute [local go_sem] Oper.semAt_some
theorem refV_same {w w' : World} {v : Value} {n g : Nat} (h : RefV w v n) (hs : Same (fun j => some g ≠ some j) w w') (hg : ∀ x : Int, w.cell? ⟨g, 0, none⟩ ≠ some (.int .i64 x)) : RefV w' v n :=
 RdN.same h hs (fun j hj x => by cases hj; exact hg x)
theorem tells_set {w : World} {L : List (Sl × Ex)} {P : Pol} (h : Tells w L P) {k : Nat} {s : Sl} {e : Ex} {m m' : Nat} {s' : Sl} (hL : L[k]? = some (s, e)) (hP : P[k]? = some (e, m)) (hv : RefV w (slV s') m') : Tells w (L.set k (s', e)) (P.set k (e, m')) := by
 refine ⟨?_, fun i x y hx hy => ?_⟩
 · rw [List.map_set, List.map_set, h.1]
 · rw [List.getElem?_set] at hx hy
   split at hx
   · rename_i hik
     rw [if_pos hik] at hy
     split at hx
     · split at hy
       · cases hx; cases hy; exact hv
       · cases hy
     · cases hx
   · rename_i hik
     rw [if_neg hik] at hy
     exact h.2 i x y hx hy
set_option maxRecDepth 100000 in
set_option maxHeartbeats 8000000 in
theorem qadd_any (p q : Pol) (vp vq : Value) (w : World) (hp : RefP w vp p) (hq : RefP w vq q) (hpos : ∀ x ∈ q, 0 < x.2) (hf : Fit (wt p + wt q)) (hlen : p.length + q.length ≤ 100000) :
   Calls Tryz.prog 19 #[vp, vq] w fun e w' => ∃ v', e = .returned v' ∧ RefP w' v' (padd p q) ∧ Below w.heap.size w w' := by
 obtain ⟨Lp, hrp, htp, hnp⟩ := hp
 obtain ⟨Lq, hrq, htq, hnq⟩ := hq
 have hlp := htp.len
 have hlq := htq.len
 obtain ⟨aq, cq, rfl⟩ := hrq.sl
 rw [hlq] at hrq
 have HRP := Lib.hid hrp
 have HTP := Lib.hid htp
 have HNP := Lib.hid hnp
 have HRQ := Lib.hid hrq
 have HTQ := Lib.hid htq
 have HPOS := Lib.hid hpos
 have HF := Lib.hid hf
 rw [hlq]
 clear hrp htp hnp hrq htq hnq hpos hf
 have ho0 := own_none w
 have HO0 := Lib.hid ho0
 clear ho0
 have hbE : Below w.heap.size w (w.alloc (.cells #[] 104)) := (Below.refl _ _).alloc (Nat.le_refl _) _
 have HBE := Lib.hid hbE
 clear hbE
 go_enter Tryz.func19, Tryz.ntmps19
 go_wp2_with (at_builtin; refine wpList_appL elT 29 Tryz.underlying29 rfl _ _ rfl w.heap.size _ _ ([] : List (Sl × Ex)) Lp rfl HO0.out rfl _ (HRP.out.below HBE.out (Nat.le_refl _)) HNP.out (by simp; omega) (by simp <;> omega) ?_)
 intro v5 w1 hO5 hb5 hg5
 have HO5 := Lib.hid hO5
 have HB5 := Lib.hid (HBE.out.trans hb5)
 have HT5 := Lib.hid (show Tells w1 ([] ++ Lp) p from HTP.out.below (HBE.out.trans hb5))
 clear hO5 hb5 hg5 HO0
 go_wp2_with fail
 go_loopw [5, 6] (fun v5 i wr => ∃ (j : Nat) (L : List (Sl × Ex)), j ≤ q.length ∧ i = .int .i64 (j : Int) ∧ OwnT w.heap.size wr v5 L ∧ Tells wr L (padd p (q.take j)) ∧ Below w.heap.size w wr) (fun _ i _ => q.length - (intOf i).toNat)
 case atStart => exact ⟨0, _, Nat.zero_le _, rfl, HO5.out, HT5.out, HB5.out⟩
 case round =>
   obtain ⟨j, L, hj, rfl, hO, hT, hb⟩ := hrel
   obtain ⟨a5, c5, rfl⟩ := hO.sl
   have hLl := hT.len
   have HO := Lib.hid hO
   have HT := Lib.hid hT
   have HB := Lib.hid hb
   have hsz := hb.size
   clear hO hT hb HO5 HT5 HB5
   rcases Nat.lt_or_ge j q.length with hj2 | hj2
   · obtain ⟨⟨ke, n⟩, hqj⟩ : ∃ x, q[j]? = some x := ⟨_, List.getElem?_eq_getElem hj2⟩
     obtain ⟨bq, offq, cq', sx, hsl, hbB, hsx, hcc⟩ := HRQ.out.at (i := j) (by rw [hlq]; exact hj2)
     rw [hlq] at hsl
     simp only [Value.slice.injEq] at hsl
     obtain ⟨rfl, -, rfl⟩ := hsl
     obtain ⟨sq, kq⟩ := sx
     have hkq : kq = ke := by
       have h1 := congrArg (fun l : List Ex => l[j]?) HTQ.out.1
       simp only [List.getElem?_map, hsx, hqj] at h1
       exact Option.some.inj h1
     subst hkq
     have HQX := Lib.hid hcc
     have HQC := Lib.hid fun W (h : Below w.heap.size w W) => And.intro (hcc W h 0 (slV sq) rfl) (And.intro (hcc W h 1 (.int .i64 (kq.1 : Int)) rfl) (hcc W h 2 (.int .i64 (kq.2 : Int)) rfl))
     have HRV := Lib.hid (HTQ.out.2 j _ _ hsx hqj)
     have HQJ := Lib.hid hqj
     obtain ⟨P, hP⟩ : ∃ P, P = padd p (q.take j) := ⟨_, rfl⟩
     have hNX : padd p (q.take (j + 1)) = insT (kq, n) P := by
       rw [List.take_add_one, hqj, hP, padd_append]
       show addT _ _ = _
       unfold addT
       rw [if_neg (by have := HPOS.out _ (List.mem_of_getElem? hqj); simp only at this ⊢; omega)]
     rw [← hP] at HT hLl
     have HNX := Lib.hid hNX
     have hPl : P.length + (q.length - j) ≤ 100000 := by
       rw [hP]
       have := padd_len p (q.take j)
       simp at this
       omega
     have HPW := Lib.hid (show wt P + n ≤ wt p + wt q from by
       rw [hP, wt_padd]
       have : wt (q.take j) + n ≤ wt q := wt_step (r1 := []) (r2 := q.drop (j + 1)) (k := kq) (by rw [List.nil_append, ← drop_get hqj, List.take_append_drop])
       omega)
     have hdj : decide (j < q.length) = true := decide_eq_true hj2
     clear hsx hcc hbB hqj hNX hP
     go_wp2_with fail
     rename World => Wo
     go_loopw [7] (fun i wi => ∃ k : Nat, k ≤ atT kq P ∧ i = .int .i64 (k : Int) ∧ Below Wo.heap.size Wo wi) (fun i _ => P.length - (intOf i).toNat)
     case atStart => exact ⟨0, Nat.zero_le _, rfl, Below.refl _ _⟩
     case round =>
       obtain ⟨k, hk, rfl, hbi⟩ := hrel
       have HBI := Lib.hid hbi
       have hbw := HB.out.trans (hbi.mono hsz)
       obtain ⟨q0', q1, q2⟩ := HQC.out _ hbw
       have q0 : wr.cell? ⟨bq, offq + j * 3, none⟩ = some (.slice sq.1 sq.2.1 sq.2.2) := q0'
       clear q0'
       have HOi := Lib.hid (HO.out.below hbi (Nat.le_refl _))
       have HTi := Lib.hid (HT.out.below hbi)
       have HBW := Lib.hid hbw
       clear hbi hbw
       rcases Nat.lt_or_ge k P.length with hkl | hkl
       · obtain ⟨⟨kk, mk⟩, hPk⟩ : ∃ x, P[k]? = some x := ⟨_, List.getElem?_eq_getElem hkl⟩
         obtain ⟨⟨sk, k3⟩, hLk⟩ : ∃ x, L[k]? = some x := ⟨_, List.getElem?_eq_getElem (by omega)⟩
         have hk3 : k3 = kk := by
           have h1 := congrArg (fun l : List Ex => l[k]?) HTi.out.1
           simp only [List.getElem?_map, hLk, hPk] at h1
           exact Option.some.inj h1
         subst hk3
         have hLn : L ≠ [] := fun e => by rw [e] at hLk; simp at hLk
         have ho := HOi.out
         obtain ⟨b5, c5', hsl, hB5, hb5l⟩ := ho.addr hLn
         simp only [Value.slice.injEq] at hsl
         obtain ⟨rfl, -, rfl⟩ := hsl
         have c0 : wr.cell? ⟨b5, k * 3, none⟩ = some (.slice sk.1 sk.2.1 sk.2.2) := ho.cellAt elT hLk (j := 0) rfl
         have c1 : wr.cell? ⟨b5, k * 3 + 1, none⟩ = some (.int .i64 (k3.1 : Int)) := ho.cellAt elT hLk (j := 1) rfl
         have c2 : wr.cell? ⟨b5, k * 3 + 2, none⟩ = some (.int .i64 (k3.2 : Int)) := ho.cellAt elT hLk (j := 2) rfl
         have HLK := Lib.hid (And.intro hLk hPk)
         have HRK := Lib.hid (HTi.out.2 k _ _ hLk hPk)
         have hdk : decide (k < P.length) = true := decide_eq_true hkl
         clear hPk hLk ho
         rcases Nat.lt_trichotomy k3.1 kq.1 with hA | hA | hA
         · have dA : decide (k3.1 < kq.1) = true := decide_eq_true hA
           have hk1 := atT_step hk HLK.out.2 (by rw [ltX_iff]; exact .inl hA)
           go_wp2_with fail
           refine wp_region_mix (fun W => W = wr.drew) 42 [(0, true), (1, true), (2, true), (3, true), (4, true), (5, true), (6, true), (7, true), (8, true), (9, true), (10, true), (11, true), (12, true), (13, true), (14, true), (15, true), (16, true), (17, true), (18, true), (19, true), (20, true), (21, true), (22, true), (23, true), (24, true), (25, true), (26, true), (27, true), (28, true), (29, true), (30, true), (31, true), (32, true), (33, true), (34, true), (35, true), (36, true), (37, true), (38, true), (39, true), (40, true), (41, true)] (by kernel_rfl) (by kernel_rfl) rfl ?_
           repeat (first | (apply wpPlan_still rfl rfl; (intro w hw; subst hw; go_simp; (try go_ints); (first | with_reducible rfl | (go_simp; with_reducible rfl))); (intro K hK; go_simp; (try go_ints); refine hK _ _ ?_; clear hK K)) | (apply wpPlan_stillG rfl rfl; (intro w hw; subst hw; go_simp; (try go_ints); (first | with_reducible rfl | (go_simp; with_reducible rfl))); (intro K hK; go_simp; (try go_ints); refine hK _ _ ?_; clear hK K)) | (apply wpPlan_skip rfl rfl; (intro K hK; go_simp; (try go_ints); refine hK _ _ ?_; clear hK K)))
           refine wpPlan_nil ?_
           simp only [List.drop_succ_cons, List.drop_zero]
           go_wp2_with fail
           go_roundw
           case rel => exact ⟨k + 1, hk1, by go_num, HBI.out.drew⟩
           case measure => simp [intOf]; omega
         · have dA : decide (k3.1 < kq.1) = false := decide_eq_false (by omega)
           have eA : ((k3.1 : Int) == (kq.1 : Int)) = true := by rw [beq_iff_eq]; omega
           rcases Nat.lt_trichotomy k3.2 kq.2 with hB | hB | hB
           · have dB : decide (k3.2 < kq.2) = true := decide_eq_true hB
             have hk1 := atT_step hk HLK.out.2 (by rw [ltX_iff]; exact .inr ⟨hA, hB⟩)
             go_wp2_with fail
             refine wp_region_mix (fun W => W = wr.drew) 42 [(0, true), (1, true), (2, true), (3, true), (4, true), (5, true), (6, true), (7, true), (8, true), (9, true), (10, true), (11, true), (12, true), (13, true), (14, true), (15, true), (16, true), (17, true), (18, true), (19, true), (20, true), (21, true), (22, true), (23, true), (24, true), (25, true), (26, true), (27, true), (28, true), (29, true), (30, true), (31, true), (32, true), (33, true), (34, true), (35, true), (36, true), (37, true), (38, true), (39, true), (40, true), (41, true)] (by kernel_rfl) (by kernel_rfl) rfl ?_
             repeat (first | (apply wpPlan_still rfl rfl; (intro w hw; subst hw; go_simp; (try go_ints); (first | with_reducible rfl | (go_simp; with_reducible rfl))); (intro K hK; go_simp; (try go_ints); refine hK _ _ ?_; clear hK K)) | (apply wpPlan_stillG rfl rfl; (intro w hw; subst hw; go_simp; (try go_ints); (first | with_reducible rfl | (go_simp; with_reducible rfl))); (intro K hK; go_simp; (try go_ints); refine hK _ _ ?_; clear hK K)) | (apply wpPlan_skip rfl rfl; (intro K hK; go_simp; (try go_ints); refine hK _ _ ?_; clear hK K)))
             refine wpPlan_nil ?_
             simp only [List.drop_succ_cons, List.drop_zero]
             go_wp2_with fail
             go_roundw
             case rel => exact ⟨k + 1, hk1, by go_num, HBI.out.drew⟩
             case measure => simp [intOf]; omega
           · have dB : decide (k3.2 < kq.2) = false := decide_eq_false (by omega)
             have eB : ((k3.2 : Int) == (kq.2 : Int)) = true := by rw [beq_iff_eq]; omega
             have hke : k3 = kq := Prod.ext hA hB
             have hka := atT_stop hk HLK.out.2 (by rw [hke]; exact ltX_irr kq)
             have HNP := Lib.hid (show padd p (q.take (j + 1)) = P.set k (k3, mk + n) by
               rw [HNX.out]
               have h := insT_hit (k := kq) (n := n) (m := mk) (p := P) (by rw [← hka, HLK.out.2, hke])
               rw [h, ← hka, hke])
             have HMK := Lib.hid (show Fit mk ∧ Fit n from ⟨HF.out.mono (by have h2 : mk ≤ wt P := wt_mem (List.mem_of_getElem? HLK.out.2); have := HPW.out; omega), HF.out.mono (by have := HPW.out; omega)⟩)
             have HKE := Lib.hid hke
             have HKA := Lib.hid hka
             clear hke hka
             go_wp2_with fail
             refine wp_region_mix (fun W => W = wr.drew) 42 [(0, true), (1, true), (2, true), (3, true), (4, true), (5, true), (6, true), (7, true), (8, true), (9, true), (10, true), (11, true), (12, true), (13, true), (14, true), (15, true), (16, true), (17, true), (18, true), (19, true), (20, true), (21, true), (22, true), (23, true), (24, true), (25, true), (26, true), (27, true), (28, true), (29, true), (30, true), (31, true), (32, true), (33, true), (34, true), (35, true), (36, true), (37, true), (38, true), (39, true), (40, true), (41, true)] (by kernel_rfl) (by kernel_rfl) rfl ?_
             repeat (first | (apply wpPlan_still rfl rfl; (intro w hw; subst hw; go_simp; (try go_ints); (first | with_reducible rfl | (go_simp; with_reducible rfl))); (intro K hK; go_simp; (try go_ints); refine hK _ _ ?_; clear hK K)) | (apply wpPlan_stillG rfl rfl; (intro w hw; subst hw; go_simp; (try go_ints); (first | with_reducible rfl | (go_simp; with_reducible rfl))); (intro K hK; go_simp; (try go_ints); refine hK _ _ ?_; clear hK K)) | (apply wpPlan_skip rfl rfl; (intro K hK; go_simp; (try go_ints); refine hK _ _ ?_; clear hK K)))
             refine wpPlan_nil ?_
             simp only [List.drop_succ_cons, List.drop_zero]
             go_wp2_with fail
             refine wp_region_mix (fun W => W = wr.drew.drew) 29 [(0, true), (1, true), (2, true), (3, true), (4, true), (5, true), (6, true), (7, true), (8, true), (9, true), (10, true), (11, true), (12, true), (13, true), (14, true), (15, true), (16, true), (17, true), (18, true), (19, true), (20, true), (21, true), (22, true), (23, true), (24, true), (25, true), (26, true), (27, true), (28, true)] (by kernel_rfl) (by kernel_rfl) rfl ?_
             repeat (first | (apply wpPlan_still rfl rfl; (intro w hw; subst hw; go_simp; (try go_ints); (first | with_reducible rfl | (go_simp; with_reducible rfl))); (intro K hK; go_simp; (try go_ints); refine hK _ _ ?_; clear hK K)) | (apply wpPlan_stillG rfl rfl; (intro w hw; subst hw; go_simp; (try go_ints); (first | with_reducible rfl | (go_simp; with_reducible rfl))); (intro K hK; go_simp; (try go_ints); refine hK _ _ ?_; clear hK K)) | (apply wpPlan_skip rfl rfl; (intro K hK; go_simp; (try go_ints); refine hK _ _ ?_; clear hK K)))
             refine wpPlan_nil ?_
             simp only [List.drop_succ_cons, List.drop_zero]
             go_wp2_with fail
             have hHC := fun W (h : Below wr.heap.size wr W) => show W.cell? ⟨b5, k * 3, none⟩ = some (.slice sk.1 sk.2.1 sk.2.2) ∧ W.cell? ⟨bq, offq + j * 3, none⟩ = some (.slice sq.1 sq.2.1 sq.2.2) from
               ⟨(World.cell?_of_block (h.block b5 hb5l)).trans c0, ((HQC.out W (HBW.out.trans (h.mono HBW.out.size))).1)⟩
             have HC9 := Lib.hid hHC
             have HVQ := Lib.hid (HRV.out.below HBW.out)
             clear hHC
             refine wp_region_mix (fun W => Below wr.heap.size wr W) 15 [(0, true), (1, true), (2, true), (3, true), (4, true), (5, true), (6, true), (7, true), (8, true), (9, true), (10, true), (11, true), (12, false), (13, true), (14, true)] (by kernel_rfl) (by kernel_rfl) (Below.refl _ _).drew.drew.drew ?_
             repeat (apply wpPlan_still rfl rfl; (intro w hw; obtain ⟨k1, k2⟩ := HC9.out w hw; clear hw; go_simp; (try go_ints); (first | with_reducible rfl | (go_simp; with_reducible rfl))); (intro K hK; go_simp; (try go_ints); refine hK _ _ ?_; clear hK K))
             apply wpPlan_act rfl rfl
             intro K' hK'
             unfold Oper.wp
             go_simp
             refine (dadd_any mk n _ _ _ (RefV.below HRK.out (Below.refl _ _).drew.drew.drew) (RefV.below HVQ.out (Below.refl _ _).drew.drew.drew) HMK.out.1 HMK.out.2).mono ?_
             rintro e w5 ⟨v6, rfl, hv6, hb6⟩
             have hb7 : Below wr.heap.size wr w5 := (Below.refl _ _).drew.drew.drew.trans hb6
             refine hK' _ _ hb7 ?_
             clear hK' K' hb6
             obtain ⟨na, nc, hvs, -, -⟩ := id hv6
             obtain ⟨nl, hnl⟩ : ∃ l, l = (digB 10 (mk + n)).length := ⟨_, rfl⟩
             rw [← hnl] at hvs
             subst hvs
             have ho5 := OwnR.below HOi.out hb7 (Nat.le_refl _)
             have kc : w5.cell? ⟨b5, k * 3, none⟩ = some (.slice sk.1 sk.2.1 sk.2.2) := (HC9.out w5 hb7).1
             have kf : w5.frozen? ⟨b5, k * 3, none⟩ = false := ho5.frozen _
             have hLn0 : 0 < L.length := by omega
             have kz : ∃ s0 : Sl, w5.cell? ⟨b5, 0, none⟩ = some (slV s0) := ⟨L[0].1, by
               have h := ho5.cellAt elT (i := 0) (j := 0) (x := L[0]) (u := slV L[0].1) (List.getElem?_eq_getElem hLn0) rfl
               simpa using h⟩
             obtain ⟨s0, kz⟩ := kz
             have hsm : Same (fun q => some b5 ≠ some q) w5 (w5.setCell ⟨b5, k * 3, none⟩ (.slice na nl nc)) := Same.setCell _ _ _ _ (fun h => h rfl)
             have hno : ∀ x : Int, w5.cell? ⟨b5, 0, none⟩ ≠ some (.int .i64 x) := fun x e => by rw [kz] at e; simp [slV] at e
             have HOF := Lib.hid (show OwnT w.heap.size (w5.setCell ⟨b5, k * 3, none⟩ (.slice na nl nc)) (.slice (some ⟨b5, 0, none⟩) L.length c5) (L.set k ((na, nl, nc), k3)) from OwnR.setCell elT ho5 (j := 0) (y := ((na, nl, nc), k3)) HLK.out.1 (by decide) rfl)
             have ht5 : Tells (w5.setCell ⟨b5, k * 3, none⟩ (.slice na nl nc)) L P := ⟨HTi.out.1, fun i x y hx hy => refV_same ((HTi.out.2 i x y hx hy).below hb7) hsm hno⟩
             have HTF := Lib.hid (tells_set ht5 (s' := (na, nl, nc)) HLK.out.1 HLK.out.2 (refV_same hv6 hsm hno))
             have HBF := Lib.hid (show Below w.heap.size w (w5.setCell ⟨b5, k * 3, none⟩ (.slice na nl nc)) from (HBW.out.trans (hb7.mono HBW.out.size)).setCell (by show w.heap.size ≤ b5; exact hB5) _)
             clear hv6 hnl hb7 ho5 kz hsm hno ht5
             repeat (apply wpPlan_still rfl rfl; (intro w hw; obtain ⟨k1, k2⟩ := HC9.out w hw; clear hw; go_simp; (try go_ints); (first | with_reducible rfl | (go_simp; with_reducible rfl))); (intro K hK; go_simp; (try go_ints); refine hK _ _ ?_; clear hK K))
             refine wpPlan_nil ?_
             simp only [List.drop_succ_cons, List.drop_zero]
             go_wp2_with fail
             go_roundw
             case rel => exact ⟨j + 1, L.set k ((na, nl, nc), k3), by omega, by go_num, by have h := HOF.out; rw [hLl] at h; exact h, by rw [HNP.out]; exact HTF.out, HBF.out⟩
             case measure => simp [intOf]; omega
           · have dB : decide (k3.2 < kq.2) = false := decide_eq_false (by omega)
             have eB : ((k3.2 : Int) == (kq.2 : Int)) = false := by rw [beq_eq_false_iff_ne]; omega
             have hka := atT_stop hk HLK.out.2 (by
               have : ¬ (ltX k3 kq = true) := by rw [ltX_iff]; omega
               simpa using this)
             have HNQ := Lib.hid (show padd p (q.take (j + 1)) = P.take k ++ (kq, n) :: P.drop k by
               rw [HNX.out, insT_miss (k := kq) (n := n) (p := P) (fun x hx => by
                 rw [← hka, HLK.out.2] at hx
                 cases hx
                 intro e
                 simp only at e
                 rw [e] at hB
                 omega), ← hka])
             clear hka
             go_wp2_with fail
             refine wp_region_mix (fun W => W = wr.drew) 42 [(0, true), (1, true), (2, true), (3, true), (4, true), (5, true), (6, true), (7, true), (8, true), (9, true), (10, true), (11, true), (12, true), (13, true), (14, true), (15, true), (16, true), (17, true), (18, true), (19, true), (20, true), (21, true), (22, true), (23, true), (24, true), (25, true), (26, true), (27, true), (28, true), (29, true), (30, true), (31, true), (32, true), (33, true), (34, true), (35, true), (36, true), (37, true), (38, true), (39, true), (40, true), (41, true)] (by kernel_rfl) (by kernel_rfl) rfl ?_
             repeat (first | (apply wpPlan_still rfl rfl; (intro w hw; subst hw; go_simp; (try go_ints); (first | with_reducible rfl | (go_simp; with_reducible rfl))); (intro K hK; go_simp; (try go_ints); refine hK _ _ ?_; clear hK K)) | (apply wpPlan_stillG rfl rfl; (intro w hw; subst hw; go_simp; (try go_ints); (first | with_reducible rfl | (go_simp; with_reducible rfl))); (intro K hK; go_simp; (try go_ints); refine hK _ _ ?_; clear hK K)) | (apply wpPlan_skip rfl rfl; (intro K hK; go_simp; (try go_ints); refine hK _ _ ?_; clear hK K)))
             refine wpPlan_nil ?_
             simp only [List.drop_succ_cons, List.drop_zero]
             go_wp2_with fail
             refine wp_region_mix (fun W => W = wr.drew.drew) 29 [(0, true), (1, true), (2, true), (3, true), (4, true), (5, true), (6, true), (7, true), (8, true), (9, true), (10, true), (11, true), (12, true), (13, true), (14, true), (15, true), (16, true), (17, true), (18, true), (19, true), (20, true), (21, true), (22, true), (23, true), (24, true), (25, true), (26, true), (27, true), (28, true)] (by kernel_rfl) (by kernel_rfl) rfl ?_
             repeat (first | (apply wpPlan_still rfl rfl; (intro w hw; subst hw; go_simp; (try go_ints); (first | with_reducible rfl | (go_simp; with_reducible rfl))); (intro K hK; go_simp; (try go_ints); refine hK _ _ ?_; clear hK K)) | (apply wpPlan_stillG rfl rfl; (intro w hw; subst hw; go_simp; (try go_ints); (first | with_reducible rfl | (go_simp; with_reducible rfl))); (intro K hK; go_simp; (try go_ints); refine hK _ _ ?_; clear hK K)) | (apply wpPlan_skip rfl rfl; (intro K hK; go_simp; (try go_ints); refine hK _ _ ?_; clear hK K)))
             refine wpPlan_nil ?_
             simp only [List.drop_succ_cons, List.drop_zero]
             go_wp2_with fail
             have HP0 := Lib.hid trivial
             obtain ⟨X0, hX0⟩ : ∃ X, wr.drew.drew.drew = X := ⟨_, rfl⟩
             have b0r : Below wr.heap.size wr X0 := by rw [← hX0]; exact (Below.refl _ _).drew.drew.drew
             have oL := OwnR.below HOi.out b0r (Nat.le_refl _)
             have tL := HTi.out.below b0r
             have vL := RefV.below (RefV.below HRV.out HBW.out) b0r
             have bw0 : Below w.heap.size w X0 := HBW.out.trans (b0r.mono HBW.out.size)
             have hkL : k ≤ L.length := by have := atT_le kq P; omega
             have RT := Lib.hid (own_take oL hkL)
             have rd0 := own_drop oL hkL
             rw [hLl, show Option.map (fun x : Addr => x.add (k * 3)) (some ⟨b5, 0, none⟩) = (some ⟨b5, k * 3, none⟩ : Option Addr) from (by simp [Addr.add]; intro h; omega)] at rd0
             have RD := Lib.hid rd0
             have hcap := own_cap oL
             have hshp := own_shape oL
             have hTn := Lib.hid (show (Value.slice (some ⟨b5, 0, none⟩) k c5 = .slice none 0 0 ∨ ∃ ad n c, Value.slice (some ⟨b5, 0, none⟩) k c5 = .slice (some ad) n c) from by
               rcases hshp with ⟨h1, h2⟩ | ⟨ad, h1⟩
               · exact .inl (by rw [h1, h2, show k = 0 by omega])
               · exact .inr ⟨ad, _, _, by rw [h1]⟩)
             have hDn := Lib.hid (show (Value.slice (if c5 = k then (some ⟨b5, 0, none⟩) else ((some ⟨b5, k * 3, none⟩ : Option Addr))) (P.length - k) (c5 - k) = .slice none 0 0 ∨ ∃ ad n c, Value.slice (if c5 = k then (some ⟨b5, 0, none⟩) else ((some ⟨b5, k * 3, none⟩ : Option Addr))) (P.length - k) (c5 - k) = .slice (some ad) n c) from by
               first
               | (refine .inl ?_; simp [HP0.out]; done)
               | (
                 rcases hshp with ⟨h1, h2⟩ | ⟨ad, h1⟩
                 · exact .inl (by rw [h1, h2, show k = 0 by omega, show P.length - 0 = 0 by omega]; rfl)
                 · refine .inr ?_
                   have h3 : ∃ ad2, (some ⟨b5, k * 3, none⟩ : Option Addr) = some ad2 := by rw [← show Option.map (fun x : Addr => x.add (k * 3)) (some ⟨b5, 0, none⟩) = (some ⟨b5, k * 3, none⟩ : Option Addr) from (by simp [Addr.add]; intro h; omega), h1]; exact ⟨_, rfl⟩
                   obtain ⟨ad2, h3⟩ := h3
                   rw [h1, h3]
                   split
                   · exact ⟨ad, _, _, rfl⟩
                   · exact ⟨ad2, _, _, rfl⟩))
             have hkc : ((k : Nat) : Int) ≤ ((c5 : Nat) : Int) := by omega
             have hkp : ((k : Nat) : Int) ≤ (P.length : Int) := by omega
             have HTN := Lib.hid (tells_ins (k := k) (n := n) (s := sq) (e := kq) tL (by omega) vL)
             have HBW0 := Lib.hid bw0
             have HJQ := Lib.hid fun W (h : Below w.heap.size w W) => show rowLoad Tryz.prog 104 ⟨bq, offq + j * 3, none⟩ W = .ok (.agg #[.slice sq.1 sq.2.1 sq.2.2, .int .i64 (kq.1 : Int), .int .i64 (kq.2 : Int)]) W from
               load_cells Tryz.isAgg104 Tryz.sizeOf104 W bq _ (tA (sq, kq)) rfl fun i u hu => HQX.out W h i u hu
             have HXL := Lib.hid (And.intro oL vL)
             clear oL tL vL b0r bw0 rd0 hshp
             refine wp_region_mixT (fun W => Below w.heap.size w W) 15 (.read 1 (.read 2 (.read 3 (.read 5 (.read 6 (.read 7 (.read 8 (.read 11 (.read 12 (.read 13 (.fork 0 9 (.fork 4 9 (.act 9 (.act 10 (.act 14 .done))) (.act 4 (.act 10 (.act 14 .done)))) (.act 0 (.act 4 (.act 10 (.act 14 .done))))))))))))))) (by kernel_rfl) (by kernel_rfl) (by rw [hX0]; exact HBW0.out) ?_
             repeat (apply wpPlanT_still rfl rfl; (intro w hw; have k1 := HJQ.out w hw; clear hw; go_simp; (try go_ints); (first | with_reducible rfl | (go_simp; with_reducible rfl))); (intro K hK; go_simp; (try go_ints); refine hK _ _ ?_; clear hK K))
             try rw [hX0]
             clear hX0
             have b0 : Below X0.heap.size X0 X0 := Below.refl _ _
             refine wpPlanT_fork ?_ ?_
             · apply wpPlanT_act rfl rfl
               intro K hK
               unfold Oper.wp
               go_simp
               obtain ⟨Xa, hXa⟩ : ∃ X, X0.alloc (.cells #[] 104) = X := ⟨_, rfl⟩
               have bba : Below X0.heap.size X0 Xa := by rw [← hXa]; exact (Below.refl _ _).alloc (Nat.le_refl _) _
               have ba : Below X0.heap.size X0 Xa := b0.trans (bba.mono b0.size)
               have za : Xa.heap.size = X0.heap.size + 1 := by rw [← hXa]; simp
               have oa : OwnT X0.heap.size Xa (.slice (some ⟨X0.heap.size, 0, none⟩) 0 0) [] := by rw [← hXa]; exact (own_none X0).lower b0.size
               try rw [hXa]
               refine hK _ _ (HBW0.out.trans (ba.mono HBW0.out.size)) ?_
               clear hK K hXa
               refine wpPlanT_fork ?_ ?_
               · apply wpPlanT_act rfl rfl
                 intro K hK
                 refine wp_appL elT 29 Tryz.underlying29 _ _ rfl X0.heap.size _ _ ([] : List (Sl × Ex)) (L.take (k)) rfl oa rfl _ (RT.out.below ba (Nat.le_refl _)) hTn.out (by simp <;> omega) ba.size ?_
                 intro vb Xb ob bbb ggb
                 have bb : Below X0.heap.size X0 Xb := ba.trans bbb
                 have zb := bbb.size
                 refine hK _ _ (HBW0.out.trans (bb.mono HBW0.out.size)) ?_
                 clear hK K
                 apply wpPlanT_act rfl rfl
                 intro K hK
                 unfold Oper.wp
                 go_simp
                 obtain ⟨Xc, hXc⟩ : ∃ X, Xb.alloc (.cells #[.slice sq.1 sq.2.1 sq.2.2, .int .i64 (kq.1 : Int), .int .i64 (kq.2 : Int)] 104) = X := ⟨_, rfl⟩
                 have bbc : Below Xb.heap.size Xb Xc := by rw [← hXc]; exact (Below.refl _ _).alloc (Nat.le_refl _) _
                 have bc : Below X0.heap.size X0 Xc := bb.trans (bbc.mono bb.size)
                 have zc : Xc.heap.size = Xb.heap.size + 1 := by rw [← hXc]; simp
                 have gc : row? Xc Xb.heap.size = some (tA (sq, kq)) := by rw [← hXc]; exact row?_alloc_at _ _ _ _ rfl
                 try rw [hXc]
                 refine hK _ _ (HBW0.out.trans (bc.mono HBW0.out.size)) ?_
                 clear hK K hXc
                 have oc := ob.below bbc (Nat.le_refl _)
                 apply wpPlanT_act rfl rfl
                 intro K hK
                 refine wp_appO elT 29 Tryz.underlying29 _ _ rfl X0.heap.size _ ([] ++ L.take (k)) rfl oc (Xb.heap.size) (sq, kq) _ rfl gc (by simp <;> omega) bc.size ?_
                 intro vd Xd od bbd ggd hhd
                 have bd : Below X0.heap.size X0 Xd := bc.trans bbd
                 refine hK _ _ (HBW0.out.trans (bd.mono HBW0.out.size)) ?_
                 clear hK K
                 apply wpPlanT_act rfl rfl
                 intro K hK
                 refine wp_appL elT 29 Tryz.underlying29 _ _ rfl X0.heap.size _ _ ([] ++ L.take (k) ++ [(sq, kq)]) (L.drop (k)) rfl od rfl _ (RD.out.below bd (Nat.le_refl _)) hDn.out (by simp <;> omega) bd.size ?_
                 intro ve Xe oe bbe gge
                 have be : Below X0.heap.size X0 Xe := bd.trans bbe
                 refine hK _ _ (HBW0.out.trans (be.mono HBW0.out.size)) ?_
                 clear hK K
                 refine wpPlanT_done ?_
                 simp only [List.drop_succ_cons, List.drop_zero]
                 have HOF := Lib.hid (oe.lower (B' := w.heap.size) HBW0.out.size)
                 have HTF := Lib.hid (HTN.out.below be)
                 have HBF := Lib.hid (HBW0.out.trans (be.mono HBW0.out.size))
                 go_wp2_with fail
                 go_roundw
                 case rel => exact ⟨j + 1, _, by omega, by go_num, HOF.out, by rw [HNQ.out]; exact HTF.out, HBF.out⟩
                 case measure => simp [intOf]; omega
               · have ZA := Lib.hid za
                 clear za
                 apply wpPlanT_act rfl rfl
                 intro K hK
                 unfold Oper.wp
                 go_simp
                 obtain ⟨Xb, hXb⟩ : ∃ X, Xa.alloc (.cells #[.slice sq.1 sq.2.1 sq.2.2, .int .i64 (kq.1 : Int), .int .i64 (kq.2 : Int)] 104) = X := ⟨_, rfl⟩
                 have bbb : Below Xa.heap.size Xa Xb := by rw [← hXb]; exact (Below.refl _ _).alloc (Nat.le_refl _) _
                 have bb : Below X0.heap.size X0 Xb := ba.trans (bbb.mono ba.size)
                 have zb : Xb.heap.size = Xa.heap.size + 1 := by rw [← hXb]; simp
                 have gb : row? Xb Xa.heap.size = some (tA (sq, kq)) := by rw [← hXb]; exact row?_alloc_at _ _ _ _ rfl
                 try rw [hXb]
                 refine hK _ _ (HBW0.out.trans (bb.mono HBW0.out.size)) ?_
                 clear hK K hXb
                 have za := ZA.out
                 clear zb
                 have ob := oa.below bbb (Nat.le_refl _)
                 apply wpPlanT_act rfl rfl
                 intro K hK
                 refine wp_appL elT 29 Tryz.underlying29 _ _ rfl X0.heap.size _ _ ([] : List (Sl × Ex)) (L.take (k)) rfl ob rfl _ (RT.out.below bb (Nat.le_refl _)) hTn.out (by simp <;> omega) bb.size ?_
                 intro vc Xc oc bbc ggc
                 have bc : Below X0.heap.size X0 Xc := bb.trans bbc
                 have zc := bbc.size
                 refine hK _ _ (HBW0.out.trans (bc.mono HBW0.out.size)) ?_
                 clear hK K
                 have gb' := (grown_row ggc (fun e => by have h : X0.heap.size = Xa.heap.size := Option.some.inj e; omega) (row?_lt gb)).trans gb
                 apply wpPlanT_act rfl rfl
                 intro K hK
                 refine wp_appO elT 29 Tryz.underlying29 _ _ rfl X0.heap.size _ ([] ++ L.take (k)) rfl oc (Xa.heap.size) (sq, kq) _ rfl gb' (by simp <;> omega) bc.size ?_
                 intro vd Xd od bbd ggd hhd
                 have bd : Below X0.heap.size X0 Xd := bc.trans bbd
                 refine hK _ _ (HBW0.out.trans (bd.mono HBW0.out.size)) ?_
                 clear hK K
                 apply wpPlanT_act rfl rfl
                 intro K hK
                 refine wp_appL elT 29 Tryz.underlying29 _ _ rfl X0.heap.size _ _ ([] ++ L.take (k) ++ [(sq, kq)]) (L.drop (k)) rfl od rfl _ (RD.out.below bd (Nat.le_refl _)) hDn.out (by simp <;> omega) bd.size ?_
                 intro ve Xe oe bbe gge
                 have be : Below X0.heap.size X0 Xe := bd.trans bbe
                 refine hK _ _ (HBW0.out.trans (be.mono HBW0.out.size)) ?_
                 clear hK K
                 refine wpPlanT_done ?_
                 simp only [List.drop_succ_cons, List.drop_zero]
                 have HOF := Lib.hid (oe.lower (B' := w.heap.size) HBW0.out.size)
                 have HTF := Lib.hid (HTN.out.below be)
                 have HBF := Lib.hid (HBW0.out.trans (be.mono HBW0.out.size))
                 go_wp2_with fail
                 go_roundw
                 case rel => exact ⟨j + 1, _, by omega, by go_num, HOF.out, by rw [HNQ.out]; exact HTF.out, HBF.out⟩
                 case measure => simp [intOf]; omega
             · apply wpPlanT_act rfl rfl
               intro K hK
               unfold Oper.wp
               go_simp
               obtain ⟨Xa, hXa⟩ : ∃ X, X0.alloc (.cells #[.slice sq.1 sq.2.1 sq.2.2, .int .i64 (kq.1 : Int), .int .i64 (kq.2 : Int)] 104) = X := ⟨_, rfl⟩
               have bba : Below X0.heap.size X0 Xa := by rw [← hXa]; exact (Below.refl _ _).alloc (Nat.le_refl _) _
               have ba : Below X0.heap.size X0 Xa := b0.trans (bba.mono b0.size)
               have za : Xa.heap.size = X0.heap.size + 1 := by rw [← hXa]; simp
               have ga : row? Xa X0.heap.size = some (tA (sq, kq)) := by rw [← hXa]; exact row?_alloc_at _ _ _ _ rfl
               try rw [hXa]
               refine hK _ _ (HBW0.out.trans (ba.mono HBW0.out.size)) ?_
               clear hK K hXa
               have ZA := Lib.hid za
               clear za
               apply wpPlanT_act rfl rfl
               intro K hK
               unfold Oper.wp
               go_simp
               obtain ⟨Xb, hXb⟩ : ∃ X, Xa.alloc (.cells #[] 104) = X := ⟨_, rfl⟩
               have bbb : Below Xa.heap.size Xa Xb := by rw [← hXb]; exact (Below.refl _ _).alloc (Nat.le_refl _) _
               have bb : Below X0.heap.size X0 Xb := ba.trans (bbb.mono ba.size)
               have zb : Xb.heap.size = Xa.heap.size + 1 := by rw [← hXb]; simp
               have ob : OwnT X0.heap.size Xb (.slice (some ⟨Xa.heap.size, 0, none⟩) 0 0) [] := by rw [← hXb]; exact (own_none Xa).lower ba.size
               try rw [hXb]
               refine hK _ _ (HBW0.out.trans (bb.mono HBW0.out.size)) ?_
               clear hK K hXb
               have za := ZA.out
               clear zb
               have ga1 := (row?_below bbb (row?_lt ga)).trans ga
               apply wpPlanT_act rfl rfl
               intro K hK
               refine wp_appL elT 29 Tryz.underlying29 _ _ rfl X0.heap.size _ _ ([] : List (Sl × Ex)) (L.take (k)) rfl ob rfl _ (RT.out.below bb (Nat.le_refl _)) hTn.out (by simp <;> omega) bb.size ?_
               intro vc Xc oc bbc ggc
               have bc : Below X0.heap.size X0 Xc := bb.trans bbc
               have zc := bbc.size
               refine hK _ _ (HBW0.out.trans (bc.mono HBW0.out.size)) ?_
               clear hK K
               have ga' := (grown_row ggc (fun e => by have h : Xa.heap.size = X0.heap.size := Option.some.inj e; omega) (row?_lt ga1)).trans ga1
               apply wpPlanT_act rfl rfl
               intro K hK
               refine wp_appO elT 29 Tryz.underlying29 _ _ rfl X0.heap.size _ ([] ++ L.take (k)) rfl oc (X0.heap.size) (sq, kq) _ rfl ga' (by simp <;> omega) bc.size ?_
               intro vd Xd od bbd ggd hhd
               have bd : Below X0.heap.size X0 Xd := bc.trans bbd
               refine hK _ _ (HBW0.out.trans (bd.mono HBW0.out.size)) ?_
               clear hK K
               apply wpPlanT_act rfl rfl
               intro K hK
               refine wp_appL elT 29 Tryz.underlying29 _ _ rfl X0.heap.size _ _ ([] ++ L.take (k) ++ [(sq, kq)]) (L.drop (k)) rfl od rfl _ (RD.out.below bd (Nat.le_refl _)) hDn.out (by simp <;> omega) bd.size ?_
               intro ve Xe oe bbe gge
               have be : Below X0.heap.size X0 Xe := bd.trans bbe
               refine hK _ _ (HBW0.out.trans (be.mono HBW0.out.size)) ?_
               clear hK K
               refine wpPlanT_done ?_
               simp only [List.drop_succ_cons, List.drop_zero]
               have HOF := Lib.hid (oe.lower (B' := w.heap.size) HBW0.out.size)
               have HTF := Lib.hid (HTN.out.below be)
               have HBF := Lib.hid (HBW0.out.trans (be.mono HBW0.out.size))
               go_wp2_with fail
               go_roundw
               case rel => exact ⟨j + 1, _, by omega, by go_num, HOF.out, by rw [HNQ.out]; exact HTF.out, HBF.out⟩
               case measure => simp [intOf]; omega
         · have dA : decide (k3.1 < kq.1) = false := decide_eq_false (by omega)
           have eA : ((k3.1 : Int) == (kq.1 : Int)) = false := by rw [beq_eq_false_iff_ne]; omega
           have hka := atT_stop hk HLK.out.2 (by
             have : ¬ (ltX k3 kq = true) := by rw [ltX_iff]; omega
             simpa using this)
           have HNQ := Lib.hid (show padd p (q.take (j + 1)) = P.take k ++ (kq, n) :: P.drop k by
             rw [HNX.out, insT_miss (k := kq) (n := n) (p := P) (fun x hx => by
               rw [← hka, HLK.out.2] at hx
               cases hx
               intro e
               simp only at e
               rw [e] at hA
               omega), ← hka])
           clear hka
           go_wp2_with fail
           refine wp_region_mix (fun W => W = wr.drew) 42 [(0, true), (1, true), (2, true), (3, true), (4, true), (5, true), (6, true), (7, true), (8, true), (9, true), (10, true), (11, true), (12, true), (13, true), (14, true), (15, true), (16, true), (17, true), (18, true), (19, true), (20, true), (21, true), (22, true), (23, true), (24, true), (25, true), (26, true), (27, true), (28, true), (29, true), (30, true), (31, true), (32, true), (33, true), (34, true), (35, true), (36, true), (37, true), (38, true), (39, true), (40, true), (41, true)] (by kernel_rfl) (by kernel_rfl) rfl ?_
           repeat (first | (apply wpPlan_still rfl rfl; (intro w hw; subst hw; go_simp; (try go_ints); (first | with_reducible rfl | (go_simp; with_reducible rfl))); (intro K hK; go_simp; (try go_ints); refine hK _ _ ?_; clear hK K)) | (apply wpPlan_stillG rfl rfl; (intro w hw; subst hw; go_simp; (try go_ints); (first | with_reducible rfl | (go_simp; with_reducible rfl))); (intro K hK; go_simp; (try go_ints); refine hK _ _ ?_; clear hK K)) | (apply wpPlan_skip rfl rfl; (intro K hK; go_simp; (try go_ints); refine hK _ _ ?_; clear hK K)))
           refine wpPlan_nil ?_
           simp only [List.drop_succ_cons, List.drop_zero]
           go_wp2_with fail
           refine wp_region_mix (fun W => W = wr.drew.drew) 29 [(0, true), (1, true), (2, true), (3, true), (4, true), (5, true), (6, true), (7, true), (8, true), (9, true), (10, true), (11, true), (12, true), (13, true), (14, true), (15, true), (16, true), (17, true), (18, true), (19, true), (20, true), (21, true), (22, true), (23, true), (24, true), (25, true), (26, true), (27, true), (28, true)] (by kernel_rfl) (by kernel_rfl) rfl ?_
           repeat (first | (apply wpPlan_still rfl rfl; (intro w hw; subst hw; go_simp; (try go_ints); (first | with_reducible rfl | (go_simp; with_reducible rfl))); (intro K hK; go_simp; (try go_ints); refine hK _ _ ?_; clear hK K)) | (apply wpPlan_stillG rfl rfl; (intro w hw; subst hw; go_simp; (try go_ints); (first | with_reducible rfl | (go_simp; with_reducible rfl))); (intro K hK; go_simp; (try go_ints); refine hK _ _ ?_; clear hK K)) | (apply wpPlan_skip rfl rfl; (intro K hK; go_simp; (try go_ints); refine hK _ _ ?_; clear hK K)))
           refine wpPlan_nil ?_
           simp only [List.drop_succ_cons, List.drop_zero]
           go_wp2_with fail
           have HP0 := Lib.hid trivial
           obtain ⟨X0, hX0⟩ : ∃ X, wr.drew.drew.drew = X := ⟨_, rfl⟩
           have b0r : Below wr.heap.size wr X0 := by rw [← hX0]; exact (Below.refl _ _).drew.drew.drew
           have oL := OwnR.below HOi.out b0r (Nat.le_refl _)
           have tL := HTi.out.below b0r
           have vL := RefV.below (RefV.below HRV.out HBW.out) b0r
           have bw0 : Below w.heap.size w X0 := HBW.out.trans (b0r.mono HBW.out.size)
           have hkL : k ≤ L.length := by have := atT_le kq P; omega
           have RT := Lib.hid (own_take oL hkL)
           have rd0 := own_drop oL hkL
           rw [hLl, show Option.map (fun x : Addr => x.add (k * 3)) (some ⟨b5, 0, none⟩) = (some ⟨b5, k * 3, none⟩ : Option Addr) from (by simp [Addr.add]; intro h; omega)] at rd0
           have RD := Lib.hid rd0
           have hcap := own_cap oL
           have hshp := own_shape oL
           have hTn := Lib.hid (show (Value.slice (some ⟨b5, 0, none⟩) k c5 = .slice none 0 0 ∨ ∃ ad n c, Value.slice (some ⟨b5, 0, none⟩) k c5 = .slice (some ad) n c) from by
             rcases hshp with ⟨h1, h2⟩ | ⟨ad, h1⟩
             · exact .inl (by rw [h1, h2, show k = 0 by omega])
             · exact .inr ⟨ad, _, _, by rw [h1]⟩)
           have hDn := Lib.hid (show (Value.slice (if c5 = k then (some ⟨b5, 0, none⟩) else ((some ⟨b5, k * 3, none⟩ : Option Addr))) (P.length - k) (c5 - k) = .slice none 0 0 ∨ ∃ ad n c, Value.slice (if c5 = k then (some ⟨b5, 0, none⟩) else ((some ⟨b5, k * 3, none⟩ : Option Addr))) (P.length - k) (c5 - k) = .slice (some ad) n c) from by
             first
             | (refine .inl ?_; simp [HP0.out]; done)
             | (
               rcases hshp with ⟨h1, h2⟩ | ⟨ad, h1⟩
               · exact .inl (by rw [h1, h2, show k = 0 by omega, show P.length - 0 = 0 by omega]; rfl)
               · refine .inr ?_
                 have h3 : ∃ ad2, (some ⟨b5, k * 3, none⟩ : Option Addr) = some ad2 := by rw [← show Option.map (fun x : Addr => x.add (k * 3)) (some ⟨b5, 0, none⟩) = (some ⟨b5, k * 3, none⟩ : Option Addr) from (by simp [Addr.add]; intro h; omega), h1]; exact ⟨_, rfl⟩
                 obtain ⟨ad2, h3⟩ := h3
                 rw [h1, h3]
                 split
                 · exact ⟨ad, _, _, rfl⟩
                 · exact ⟨ad2, _, _, rfl⟩))
           have hkc : ((k : Nat) : Int) ≤ ((c5 : Nat) : Int) := by omega
           have hkp : ((k : Nat) : Int) ≤ (P.length : Int) := by omega
           have HTN := Lib.hid (tells_ins (k := k) (n := n) (s := sq) (e := kq) tL (by omega) vL)
           have HBW0 := Lib.hid bw0
           have HJQ := Lib.hid fun W (h : Below w.heap.size w W) => show rowLoad Tryz.prog 104 ⟨bq, offq + j * 3, none⟩ W = .ok (.agg #[.slice sq.1 sq.2.1 sq.2.2, .int .i64 (kq.1 : Int), .int .i64 (kq.2 : Int)]) W from
             load_cells Tryz.isAgg104 Tryz.sizeOf104 W bq _ (tA (sq, kq)) rfl fun i u hu => HQX.out W h i u hu
           have HXL := Lib.hid (And.intro oL vL)
           clear oL tL vL b0r bw0 rd0 hshp
           refine wp_region_mixT (fun W => Below w.heap.size w W) 15 (.read 1 (.read 2 (.read 3 (.read 5 (.read 6 (.read 7 (.read 8 (.read 11 (.read 12 (.read 13 (.fork 0 9 (.fork 4 9 (.act 9 (.act 10 (.act 14 .done))) (.act 4 (.act 10 (.act 14 .done)))) (.act 0 (.act 4 (.act 10 (.act 14 .done))))))))))))))) (by kernel_rfl) (by kernel_rfl) (by rw [hX0]; exact HBW0.out) ?_
           repeat (apply wpPlanT_still rfl rfl; (intro w hw; have k1 := HJQ.out w hw; clear hw; go_simp; (try go_ints); (first | with_reducible rfl | (go_simp; with_reducible rfl))); (intro K hK; go_simp; (try go_ints); refine hK _ _ ?_; clear hK K))
           try rw [hX0]
           clear hX0
           have b0 : Below X0.heap.size X0 X0 := Below.refl _ _
           refine wpPlanT_fork ?_ ?_
           · apply wpPlanT_act rfl rfl
             intro K hK
             unfold Oper.wp
             go_simp
             obtain ⟨Xa, hXa⟩ : ∃ X, X0.alloc (.cells #[] 104) = X := ⟨_, rfl⟩
             have bba : Below X0.heap.size X0 Xa := by rw [← hXa]; exact (Below.refl _ _).alloc (Nat.le_refl _) _
             have ba : Below X0.heap.size X0 Xa := b0.trans (bba.mono b0.size)
             have za : Xa.heap.size = X0.heap.size + 1 := by rw [← hXa]; simp
             have oa : OwnT X0.heap.size Xa (.slice (some ⟨X0.heap.size, 0, none⟩) 0 0) [] := by rw [← hXa]; exact (own_none X0).lower b0.size
             try rw [hXa]
             refine hK _ _ (HBW0.out.trans (ba.mono HBW0.out.size)) ?_
             clear hK K hXa
             refine wpPlanT_fork ?_ ?_
             · apply wpPlanT_act rfl rfl
               intro K hK
               refine wp_appL elT 29 Tryz.underlying29 _ _ rfl X0.heap.size _ _ ([] : List (Sl × Ex)) (L.take (k)) rfl oa rfl _ (RT.out.below ba (Nat.le_refl _)) hTn.out (by simp <;> omega) ba.size ?_
               intro vb Xb ob bbb ggb
               have bb : Below X0.heap.size X0 Xb := ba.trans bbb
               have zb := bbb.size
               refine hK _ _ (HBW0.out.trans (bb.mono HBW0.out.size)) ?_
               clear hK K
               apply wpPlanT_act rfl rfl
               intro K hK
               unfold Oper.wp
               go_simp
               obtain ⟨Xc, hXc⟩ : ∃ X, Xb.alloc (.cells #[.slice sq.1 sq.2.1 sq.2.2, .int .i64 (kq.1 : Int), .int .i64 (kq.2 : Int)] 104) = X := ⟨_, rfl⟩
               have bbc : Below Xb.heap.size Xb Xc := by rw [← hXc]; exact (Below.refl _ _).alloc (Nat.le_refl _) _
               have bc : Below X0.heap.size X0 Xc := bb.trans (bbc.mono bb.size)
               have zc : Xc.heap.size = Xb.heap.size + 1 := by rw [← hXc]; simp
               have gc : row? Xc Xb.heap.size = some (tA (sq, kq)) := by rw [← hXc]; exact row?_alloc_at _ _ _ _ rfl
               try rw [hXc]
               refine hK _ _ (HBW0.out.trans (bc.mono HBW0.out.size)) ?_
               clear hK K hXc
               have oc := ob.below bbc (Nat.le_refl _)
               apply wpPlanT_act rfl rfl
               intro K hK
               refine wp_appO elT 29 Tryz.underlying29 _ _ rfl X0.heap.size _ ([] ++ L.take (k)) rfl oc (Xb.heap.size) (sq, kq) _ rfl gc (by simp <;> omega) bc.size ?_
               intro vd Xd od bbd ggd hhd
               have bd : Below X0.heap.size X0 Xd := bc.trans bbd
               refine hK _ _ (HBW0.out.trans (bd.mono HBW0.out.size)) ?_
               clear hK K
               apply wpPlanT_act rfl rfl
               intro K hK
               refine wp_appL elT 29 Tryz.underlying29 _ _ rfl X0.heap.size _ _ ([] ++ L.take (k) ++ [(sq, kq)]) (L.drop (k)) rfl od rfl _ (RD.out.below bd (Nat.le_refl _)) hDn.out (by simp <;> omega) bd.size ?_
               intro ve Xe oe bbe gge
               have be : Below X0.heap.size X0 Xe := bd.trans bbe
               refine hK _ _ (HBW0.out.trans (be.mono HBW0.out.size)) ?_
               clear hK K
               refine wpPlanT_done ?_
               simp only [List.drop_succ_cons, List.drop_zero]
               have HOF := Lib.hid (oe.lower (B' := w.heap.size) HBW0.out.size)
               have HTF := Lib.hid (HTN.out.below be)
               have HBF := Lib.hid (HBW0.out.trans (be.mono HBW0.out.size))
               go_wp2_with fail
               go_roundw
               case rel => exact ⟨j + 1, _, by omega, by go_num, HOF.out, by rw [HNQ.out]; exact HTF.out, HBF.out⟩
               case measure => simp [intOf]; omega
             · have ZA := Lib.hid za
               clear za
               apply wpPlanT_act rfl rfl
               intro K hK
               unfold Oper.wp
               go_simp
               obtain ⟨Xb, hXb⟩ : ∃ X, Xa.alloc (.cells #[.slice sq.1 sq.2.1 sq.2.2, .int .i64 (kq.1 : Int), .int .i64 (kq.2 : Int)] 104) = X := ⟨_, rfl⟩
               have bbb : Below Xa.heap.size Xa Xb := by rw [← hXb]; exact (Below.refl _ _).alloc (Nat.le_refl _) _
               have bb : Below X0.heap.size X0 Xb := ba.trans (bbb.mono ba.size)
               have zb : Xb.heap.size = Xa.heap.size + 1 := by rw [← hXb]; simp
               have gb : row? Xb Xa.heap.size = some (tA (sq, kq)) := by rw [← hXb]; exact row?_alloc_at _ _ _ _ rfl
               try rw [hXb]
               refine hK _ _ (HBW0.out.trans (bb.mono HBW0.out.size)) ?_
               clear hK K hXb
               have za := ZA.out
               clear zb
               have ob := oa.below bbb (Nat.le_refl _)
               apply wpPlanT_act rfl rfl
               intro K hK
               refine wp_appL elT 29 Tryz.underlying29 _ _ rfl X0.heap.size _ _ ([] : List (Sl × Ex)) (L.take (k)) rfl ob rfl _ (RT.out.below bb (Nat.le_refl _)) hTn.out (by simp <;> omega) bb.size ?_
               intro vc Xc oc bbc ggc
               have bc : Below X0.heap.size X0 Xc := bb.trans bbc
               have zc := bbc.size
               refine hK _ _ (HBW0.out.trans (bc.mono HBW0.out.size)) ?_
               clear hK K
               have gb' := (grown_row ggc (fun e => by have h : X0.heap.size = Xa.heap.size := Option.some.inj e; omega) (row?_lt gb)).trans gb
               apply wpPlanT_act rfl rfl
               intro K hK
               refine wp_appO elT 29 Tryz.underlying29 _ _ rfl X0.heap.size _ ([] ++ L.take (k)) rfl oc (Xa.heap.size) (sq, kq) _ rfl gb' (by simp <;> omega) bc.size ?_
               intro vd Xd od bbd ggd hhd
               have bd : Below X0.heap.size X0 Xd := bc.trans bbd
               refine hK _ _ (HBW0.out.trans (bd.mono HBW0.out.size)) ?_
               clear hK K
               apply wpPlanT_act rfl rfl
               intro K hK
               refine wp_appL elT 29 Tryz.underlying29 _ _ rfl X0.heap.size _ _ ([] ++ L.take (k) ++ [(sq, kq)]) (L.drop (k)) rfl od rfl _ (RD.out.below bd (Nat.le_refl _)) hDn.out (by simp <;> omega) bd.size ?_
               intro ve Xe oe bbe gge
               have be : Below X0.heap.size X0 Xe := bd.trans bbe
               refine hK _ _ (HBW0.out.trans (be.mono HBW0.out.size)) ?_
               clear hK K
               refine wpPlanT_done ?_
               simp only [List.drop_succ_cons, List.drop_zero]
               have HOF := Lib.hid (oe.lower (B' := w.heap.size) HBW0.out.size)
               have HTF := Lib.hid (HTN.out.below be)
               have HBF := Lib.hid (HBW0.out.trans (be.mono HBW0.out.size))
               go_wp2_with fail
               go_roundw
               case rel => exact ⟨j + 1, _, by omega, by go_num, HOF.out, by rw [HNQ.out]; exact HTF.out, HBF.out⟩
               case measure => simp [intOf]; omega
           · apply wpPlanT_act rfl rfl
             intro K hK
             unfold Oper.wp
             go_simp
             obtain ⟨Xa, hXa⟩ : ∃ X, X0.alloc (.cells #[.slice sq.1 sq.2.1 sq.2.2, .int .i64 (kq.1 : Int), .int .i64 (kq.2 : Int)] 104) = X := ⟨_, rfl⟩
             have bba : Below X0.heap.size X0 Xa := by rw [← hXa]; exact (Below.refl _ _).alloc (Nat.le_refl _) _
             have ba : Below X0.heap.size X0 Xa := b0.trans (bba.mono b0.size)
             have za : Xa.heap.size = X0.heap.size + 1 := by rw [← hXa]; simp
             have ga : row? Xa X0.heap.size = some (tA (sq, kq)) := by rw [← hXa]; exact row?_alloc_at _ _ _ _ rfl
             try rw [hXa]
             refine hK _ _ (HBW0.out.trans (ba.mono HBW0.out.size)) ?_
             clear hK K hXa
             have ZA := Lib.hid za
             clear za
             apply wpPlanT_act rfl rfl
             intro K hK
             unfold Oper.wp
             go_simp
             obtain ⟨Xb, hXb⟩ : ∃ X, Xa.alloc (.cells #[] 104) = X := ⟨_, rfl⟩
             have bbb : Below Xa.heap.size Xa Xb := by rw [← hXb]; exact (Below.refl _ _).alloc (Nat.le_refl _) _
             have bb : Below X0.heap.size X0 Xb := ba.trans (bbb.mono ba.size)
             have zb : Xb.heap.size = Xa.heap.size + 1 := by rw [← hXb]; simp
             have ob : OwnT X0.heap.size Xb (.slice (some ⟨Xa.heap.size, 0, none⟩) 0 0) [] := by rw [← hXb]; exact (own_none Xa).lower ba.size
             try rw [hXb]
             refine hK _ _ (HBW0.out.trans (bb.mono HBW0.out.size)) ?_
             clear hK K hXb
             have za := ZA.out
             clear zb
             have ga1 := (row?_below bbb (row?_lt ga)).trans ga
             apply wpPlanT_act rfl rfl
             intro K hK
             refine wp_appL elT 29 Tryz.underlying29 _ _ rfl X0.heap.size _ _ ([] : List (Sl × Ex)) (L.take (k)) rfl ob rfl _ (RT.out.below bb (Nat.le_refl _)) hTn.out (by simp <;> omega) bb.size ?_
             intro vc Xc oc bbc ggc
             have bc : Below X0.heap.size X0 Xc := bb.trans bbc
             have zc := bbc.size
             refine hK _ _ (HBW0.out.trans (bc.mono HBW0.out.size)) ?_
             clear hK K
             have ga' := (grown_row ggc (fun e => by have h : Xa.heap.size = X0.heap.size := Option.some.inj e; omega) (row?_lt ga1)).trans ga1
             apply wpPlanT_act rfl rfl
             intro K hK
             refine wp_appO elT 29 Tryz.underlying29 _ _ rfl X0.heap.size _ ([] ++ L.take (k)) rfl oc (X0.heap.size) (sq, kq) _ rfl ga' (by simp <;> omega) bc.size ?_
             intro vd Xd od bbd ggd hhd
             have bd : Below X0.heap.size X0 Xd := bc.trans bbd
             refine hK _ _ (HBW0.out.trans (bd.mono HBW0.out.size)) ?_
             clear hK K
             apply wpPlanT_act rfl rfl
             intro K hK
             refine wp_appL elT 29 Tryz.underlying29 _ _ rfl X0.heap.size _ _ ([] ++ L.take (k) ++ [(sq, kq)]) (L.drop (k)) rfl od rfl _ (RD.out.below bd (Nat.le_refl _)) hDn.out (by simp <;> omega) bd.size ?_
             intro ve Xe oe bbe gge
             have be : Below X0.heap.size X0 Xe := bd.trans bbe
             refine hK _ _ (HBW0.out.trans (be.mono HBW0.out.size)) ?_
             clear hK K
             refine wpPlanT_done ?_
             simp only [List.drop_succ_cons, List.drop_zero]
             have HOF := Lib.hid (oe.lower (B' := w.heap.size) HBW0.out.size)
             have HTF := Lib.hid (HTN.out.below be)
             have HBF := Lib.hid (HBW0.out.trans (be.mono HBW0.out.size))
             go_wp2_with fail
             go_roundw
             case rel => exact ⟨j + 1, _, by omega, by go_num, HOF.out, by rw [HNQ.out]; exact HTF.out, HBF.out⟩
             case measure => simp [intOf]; omega
       · have hdk : decide (k < P.length) = false := decide_eq_false (by omega)
         have hka := atT_end hk hkl
         have HNQ := Lib.hid (show padd p (q.take (j + 1)) = P.take k ++ (kq, n) :: P.drop k by
           rw [HNX.out, insT_miss (k := kq) (n := n) (p := P) (fun x hx => by
             rw [← hka, List.getElem?_eq_none hkl] at hx
             cases hx), ← hka])
         clear hka hkl
         have hform : (a5 = none ∧ c5 = 0) ∨ ∃ b5, a5 = some ⟨b5, 0, none⟩ := by
           rcases HOi.out.2 with ⟨h1, -⟩ | ⟨g, cap, cur, h1, -⟩
           · simp only [Value.slice.injEq] at h1; exact .inl ⟨h1.1, h1.2.2⟩
           · simp only [Value.slice.injEq] at h1; exact .inr ⟨_, h1.1⟩
         rcases hform with ⟨rfl, rfl⟩ | ⟨b5, rfl⟩
         · have hP0 : P.length = 0 := by
             have := own_cap HOi.out
             omega
           have hk0 : k = 0 := by
             have := atT_le kq P
             omega
           subst hk0
           have HP0 := Lib.hid hP0
           clear hP0
           go_wp2_with fail
           refine wp_region_mix (fun W => W = wr.drew) 42 [(0, true), (1, true), (2, true), (3, true), (4, true), (5, true), (6, true), (7, true), (8, true), (9, true), (10, true), (11, true), (12, true), (13, true), (14, true), (15, true), (16, true), (17, true), (18, true), (19, true), (20, true), (21, true), (22, true), (23, true), (24, true), (25, true), (26, true), (27, true), (28, true), (29, true), (30, true), (31, true), (32, true), (33, true), (34, true), (35, true), (36, true), (37, true), (38, true), (39, true), (40, true), (41, true)] (by kernel_rfl) (by kernel_rfl) rfl ?_
           repeat (first | (apply wpPlan_still rfl rfl; (intro w hw; subst hw; go_simp; (try go_ints); (first | with_reducible rfl | (go_simp; with_reducible rfl))); (intro K hK; go_simp; (try go_ints); refine hK _ _ ?_; clear hK K)) | (apply wpPlan_stillG rfl rfl; (intro w hw; subst hw; go_simp; (try go_ints); (first | with_reducible rfl | (go_simp; with_reducible rfl))); (intro K hK; go_simp; (try go_ints); refine hK _ _ ?_; clear hK K)) | (apply wpPlan_skip rfl rfl; (intro K hK; go_simp; (try go_ints); refine hK _ _ ?_; clear hK K)))
           refine wpPlan_nil ?_
           simp only [List.drop_succ_cons, List.drop_zero]
           go_wp2_with fail
           refine wp_region_mix (fun W => W = wr.drew.drew) 29 [(0, true), (1, true), (2, true), (3, true), (4, true), (5, true), (6, true), (7, true), (8, true), (9, true), (10, true), (11, true), (12, true), (13, true), (14, true), (15, true), (16, true), (17, true), (18, true), (19, true), (20, true), (21, true), (22, true), (23, true), (24, true), (25, true), (26, true), (27, true), (28, true)] (by kernel_rfl) (by kernel_rfl) rfl ?_
           repeat (first | (apply wpPlan_still rfl rfl; (intro w hw; subst hw; go_simp; (try go_ints); (first | with_reducible rfl | (go_simp; with_reducible rfl))); (intro K hK; go_simp; (try go_ints); refine hK _ _ ?_; clear hK K)) | (apply wpPlan_stillG rfl rfl; (intro w hw; subst hw; go_simp; (try go_ints); (first | with_reducible rfl | (go_simp; with_reducible rfl))); (intro K hK; go_simp; (try go_ints); refine hK _ _ ?_; clear hK K)) | (apply wpPlan_skip rfl rfl; (intro K hK; go_simp; (try go_ints); refine hK _ _ ?_; clear hK K)))
           refine wpPlan_nil ?_
           simp only [List.drop_succ_cons, List.drop_zero]
           go_wp2_with fail
           obtain ⟨X0, hX0⟩ : ∃ X, wr.drew.drew.drew = X := ⟨_, rfl⟩
           have b0r : Below wr.heap.size wr X0 := by rw [← hX0]; exact (Below.refl _ _).drew.drew.drew
           have oL := OwnR.below HOi.out b0r (Nat.le_refl _)
           have tL := HTi.out.below b0r
           have vL := RefV.below (RefV.below HRV.out HBW.out) b0r
           have bw0 : Below w.heap.size w X0 := HBW.out.trans (b0r.mono HBW.out.size)
           have hkL : 0 ≤ L.length := by have := atT_le kq P; omega
           have RT := Lib.hid (own_take oL hkL)
           have rd0 := own_drop oL hkL
           rw [hLl, show Option.map (fun x : Addr => x.add (0 * 3)) (none) = (none : Option Addr) from rfl] at rd0
           have RD := Lib.hid rd0
           have hcap := own_cap oL
           have hshp := own_shape oL
           have hTn := Lib.hid (show (Value.slice (none) 0 0 = .slice none 0 0 ∨ ∃ ad n c, Value.slice (none) 0 0 = .slice (some ad) n c) from by
             rcases hshp with ⟨h1, h2⟩ | ⟨ad, h1⟩
             · exact .inl (by rw [h1, h2, show 0 = 0 by omega])
             · exact .inr ⟨ad, _, _, by rw [h1]⟩)
           have hDn := Lib.hid (show (Value.slice (if 0 = 0 then (none) else ((none : Option Addr))) (P.length - 0) (0 - 0) = .slice none 0 0 ∨ ∃ ad n c, Value.slice (if 0 = 0 then (none) else ((none : Option Addr))) (P.length - 0) (0 - 0) = .slice (some ad) n c) from by
             first
             | (refine .inl ?_; simp [HP0.out]; done)
             | (
               rcases hshp with ⟨h1, h2⟩ | ⟨ad, h1⟩
               · exact .inl (by rw [h1, h2, show 0 = 0 by omega, show P.length - 0 = 0 by omega]; rfl)
               · refine .inr ?_
                 have h3 : ∃ ad2, (none : Option Addr) = some ad2 := by rw [← show Option.map (fun x : Addr => x.add (0 * 3)) (none) = (none : Option Addr) from rfl, h1]; exact ⟨_, rfl⟩
                 obtain ⟨ad2, h3⟩ := h3
                 rw [h1, h3]
                 split
                 · exact ⟨ad, _, _, rfl⟩
                 · exact ⟨ad2, _, _, rfl⟩))
           have hkc : ((0 : Nat) : Int) ≤ ((0 : Nat) : Int) := by omega
           have hkp : ((0 : Nat) : Int) ≤ (P.length : Int) := by omega
           have HTN := Lib.hid (tells_ins (k := 0) (n := n) (s := sq) (e := kq) tL (by omega) vL)
           have HBW0 := Lib.hid bw0
           have HJQ := Lib.hid fun W (h : Below w.heap.size w W) => show rowLoad Tryz.prog 104 ⟨bq, offq + j * 3, none⟩ W = .ok (.agg #[.slice sq.1 sq.2.1 sq.2.2, .int .i64 (kq.1 : Int), .int .i64 (kq.2 : Int)]) W from
             load_cells Tryz.isAgg104 Tryz.sizeOf104 W bq _ (tA (sq, kq)) rfl fun i u hu => HQX.out W h i u hu
           have HXL := Lib.hid (And.intro oL vL)
           clear oL tL vL b0r bw0 rd0 hshp
           refine wp_region_mixT (fun W => Below w.heap.size w W) 15 (.read 1 (.read 2 (.read 3 (.read 5 (.read 6 (.read 7 (.read 8 (.read 11 (.read 12 (.read 13 (.fork 0 9 (.fork 4 9 (.act 9 (.act 10 (.act 14 .done))) (.act 4 (.act 10 (.act 14 .done)))) (.act 0 (.act 4 (.act 10 (.act 14 .done))))))))))))))) (by kernel_rfl) (by kernel_rfl) (by rw [hX0]; exact HBW0.out) ?_
           repeat (apply wpPlanT_still rfl rfl; (intro w hw; have k1 := HJQ.out w hw; clear hw; go_simp; (try go_ints); (first | with_reducible rfl | (go_simp; with_reducible rfl))); (intro K hK; go_simp; (try go_ints); refine hK _ _ ?_; clear hK K))
           try rw [hX0]
           clear hX0
           have b0 : Below X0.heap.size X0 X0 := Below.refl _ _
           refine wpPlanT_fork ?_ ?_
           · apply wpPlanT_act rfl rfl
             intro K hK
             unfold Oper.wp
             go_simp
             obtain ⟨Xa, hXa⟩ : ∃ X, X0.alloc (.cells #[] 104) = X := ⟨_, rfl⟩
             have bba : Below X0.heap.size X0 Xa := by rw [← hXa]; exact (Below.refl _ _).alloc (Nat.le_refl _) _
             have ba : Below X0.heap.size X0 Xa := b0.trans (bba.mono b0.size)
             have za : Xa.heap.size = X0.heap.size + 1 := by rw [← hXa]; simp
             have oa : OwnT X0.heap.size Xa (.slice (some ⟨X0.heap.size, 0, none⟩) 0 0) [] := by rw [← hXa]; exact (own_none X0).lower b0.size
             try rw [hXa]
             refine hK _ _ (HBW0.out.trans (ba.mono HBW0.out.size)) ?_
             clear hK K hXa
             refine wpPlanT_fork ?_ ?_
             · apply wpPlanT_act rfl rfl
               intro K hK
               refine wp_appL elT 29 Tryz.underlying29 _ _ rfl X0.heap.size _ _ ([] : List (Sl × Ex)) (L.take (0)) rfl oa rfl _ (RT.out.below ba (Nat.le_refl _)) hTn.out (by simp <;> omega) ba.size ?_
               intro vb Xb ob bbb ggb
               have bb : Below X0.heap.size X0 Xb := ba.trans bbb
               have zb := bbb.size
               refine hK _ _ (HBW0.out.trans (bb.mono HBW0.out.size)) ?_
               clear hK K
               apply wpPlanT_act rfl rfl
               intro K hK
               unfold Oper.wp
               go_simp
               obtain ⟨Xc, hXc⟩ : ∃ X, Xb.alloc (.cells #[.slice sq.1 sq.2.1 sq.2.2, .int .i64 (kq.1 : Int), .int .i64 (kq.2 : Int)] 104) = X := ⟨_, rfl⟩
               have bbc : Below Xb.heap.size Xb Xc := by rw [← hXc]; exact (Below.refl _ _).alloc (Nat.le_refl _) _
               have bc : Below X0.heap.size X0 Xc := bb.trans (bbc.mono bb.size)
               have zc : Xc.heap.size = Xb.heap.size + 1 := by rw [← hXc]; simp
               have gc : row? Xc Xb.heap.size = some (tA (sq, kq)) := by rw [← hXc]; exact row?_alloc_at _ _ _ _ rfl
               try rw [hXc]
               refine hK _ _ (HBW0.out.trans (bc.mono HBW0.out.size)) ?_
               clear hK K hXc
               have oc := ob.below bbc (Nat.le_refl _)
               apply wpPlanT_act rfl rfl
               intro K hK
               refine wp_appO elT 29 Tryz.underlying29 _ _ rfl X0.heap.size _ ([] ++ L.take (0)) rfl oc (Xb.heap.size) (sq, kq) _ rfl gc (by simp <;> omega) bc.size ?_
               intro vd Xd od bbd ggd hhd
               have bd : Below X0.heap.size X0 Xd := bc.trans bbd
               refine hK _ _ (HBW0.out.trans (bd.mono HBW0.out.size)) ?_
               clear hK K
               apply wpPlanT_act rfl rfl
               intro K hK
               refine wp_appL elT 29 Tryz.underlying29 _ _ rfl X0.heap.size _ _ ([] ++ L.take (0) ++ [(sq, kq)]) (L.drop (0)) rfl od rfl _ (RD.out.below bd (Nat.le_refl _)) hDn.out (by simp <;> omega) bd.size ?_
               intro ve Xe oe bbe gge
               have be : Below X0.heap.size X0 Xe := bd.trans bbe
               refine hK _ _ (HBW0.out.trans (be.mono HBW0.out.size)) ?_
               clear hK K
               refine wpPlanT_done ?_
               simp only [List.drop_succ_cons, List.drop_zero]
               have HOF := Lib.hid (oe.lower (B' := w.heap.size) HBW0.out.size)
               have HTF := Lib.hid (HTN.out.below be)
               have HBF := Lib.hid (HBW0.out.trans (be.mono HBW0.out.size))
               go_wp2_with fail
               go_roundw
               case rel => exact ⟨j + 1, _, by omega, by go_num, HOF.out, by rw [HNQ.out]; exact HTF.out, HBF.out⟩
               case measure => simp [intOf]; omega
             · have ZA := Lib.hid za
               clear za
               apply wpPlanT_act rfl rfl
               intro K hK
               unfold Oper.wp
               go_simp
               obtain ⟨Xb, hXb⟩ : ∃ X, Xa.alloc (.cells #[.slice sq.1 sq.2.1 sq.2.2, .int .i64 (kq.1 : Int), .int .i64 (kq.2 : Int)] 104) = X := ⟨_, rfl⟩
               have bbb : Below Xa.heap.size Xa Xb := by rw [← hXb]; exact (Below.refl _ _).alloc (Nat.le_refl _) _
               have bb : Below X0.heap.size X0 Xb := ba.trans (bbb.mono ba.size)
               have zb : Xb.heap.size = Xa.heap.size + 1 := by rw [← hXb]; simp
               have gb : row? Xb Xa.heap.size = some (tA (sq, kq)) := by rw [← hXb]; exact row?_alloc_at _ _ _ _ rfl
               try rw [hXb]
               refine hK _ _ (HBW0.out.trans (bb.mono HBW0.out.size)) ?_
               clear hK K hXb
               have za := ZA.out
               clear zb
               have ob := oa.below bbb (Nat.le_refl _)
               apply wpPlanT_act rfl rfl
               intro K hK
               refine wp_appL elT 29 Tryz.underlying29 _ _ rfl X0.heap.size _ _ ([] : List (Sl × Ex)) (L.take (0)) rfl ob rfl _ (RT.out.below bb (Nat.le_refl _)) hTn.out (by simp <;> omega) bb.size ?_
               intro vc Xc oc bbc ggc
               have bc : Below X0.heap.size X0 Xc := bb.trans bbc
               have zc := bbc.size
               refine hK _ _ (HBW0.out.trans (bc.mono HBW0.out.size)) ?_
               clear hK K
               have gb' := (grown_row ggc (fun e => by have h : X0.heap.size = Xa.heap.size := Option.some.inj e; omega) (row?_lt gb)).trans gb
               apply wpPlanT_act rfl rfl
               intro K hK
               refine wp_appO elT 29 Tryz.underlying29 _ _ rfl X0.heap.size _ ([] ++ L.take (0)) rfl oc (Xa.heap.size) (sq, kq) _ rfl gb' (by simp <;> omega) bc.size ?_
               intro vd Xd od bbd ggd hhd
               have bd : Below X0.heap.size X0 Xd := bc.trans bbd
               refine hK _ _ (HBW0.out.trans (bd.mono HBW0.out.size)) ?_
               clear hK K
               apply wpPlanT_act rfl rfl
               intro K hK
               refine wp_appL elT 29 Tryz.underlying29 _ _ rfl X0.heap.size _ _ ([] ++ L.take (0) ++ [(sq, kq)]) (L.drop (0)) rfl od rfl _ (RD.out.below bd (Nat.le_refl _)) hDn.out (by simp <;> omega) bd.size ?_
               intro ve Xe oe bbe gge
               have be : Below X0.heap.size X0 Xe := bd.trans bbe
               refine hK _ _ (HBW0.out.trans (be.mono HBW0.out.size)) ?_
               clear hK K
               refine wpPlanT_done ?_
               simp only [List.drop_succ_cons, List.drop_zero]
               have HOF := Lib.hid (oe.lower (B' := w.heap.size) HBW0.out.size)
               have HTF := Lib.hid (HTN.out.below be)
               have HBF := Lib.hid (HBW0.out.trans (be.mono HBW0.out.size))
               go_wp2_with fail
               go_roundw
               case rel => exact ⟨j + 1, _, by omega, by go_num, HOF.out, by rw [HNQ.out]; exact HTF.out, HBF.out⟩
               case measure => simp [intOf]; omega
           · apply wpPlanT_act rfl rfl
             intro K hK
             unfold Oper.wp
             go_simp
             obtain ⟨Xa, hXa⟩ : ∃ X, X0.alloc (.cells #[.slice sq.1 sq.2.1 sq.2.2, .int .i64 (kq.1 : Int), .int .i64 (kq.2 : Int)] 104) = X := ⟨_, rfl⟩
             have bba : Below X0.heap.size X0 Xa := by rw [← hXa]; exact (Below.refl _ _).alloc (Nat.le_refl _) _
             have ba : Below X0.heap.size X0 Xa := b0.trans (bba.mono b0.size)
             have za : Xa.heap.size = X0.heap.size + 1 := by rw [← hXa]; simp
             have ga : row? Xa X0.heap.size = some (tA (sq, kq)) := by rw [← hXa]; exact row?_alloc_at _ _ _ _ rfl
             try rw [hXa]
             refine hK _ _ (HBW0.out.trans (ba.mono HBW0.out.size)) ?_
             clear hK K hXa
             have ZA := Lib.hid za
             clear za
             apply wpPlanT_act rfl rfl
             intro K hK
             unfold Oper.wp
             go_simp
             obtain ⟨Xb, hXb⟩ : ∃ X, Xa.alloc (.cells #[] 104) = X := ⟨_, rfl⟩
             have bbb : Below Xa.heap.size Xa Xb := by rw [← hXb]; exact (Below.refl _ _).alloc (Nat.le_refl _) _
             have bb : Below X0.heap.size X0 Xb := ba.trans (bbb.mono ba.size)
             have zb : Xb.heap.size = Xa.heap.size + 1 := by rw [← hXb]; simp
             have ob : OwnT X0.heap.size Xb (.slice (some ⟨Xa.heap.size, 0, none⟩) 0 0) [] := by rw [← hXb]; exact (own_none Xa).lower ba.size
             try rw [hXb]
             refine hK _ _ (HBW0.out.trans (bb.mono HBW0.out.size)) ?_
             clear hK K hXb
             have za := ZA.out
             clear zb
             have ga1 := (row?_below bbb (row?_lt ga)).trans ga
             apply wpPlanT_act rfl rfl
             intro K hK
             refine wp_appL elT 29 Tryz.underlying29 _ _ rfl X0.heap.size _ _ ([] : List (Sl × Ex)) (L.take (0)) rfl ob rfl _ (RT.out.below bb (Nat.le_refl _)) hTn.out (by simp <;> omega) bb.size ?_
             intro vc Xc oc bbc ggc
             have bc : Below X0.heap.size X0 Xc := bb.trans bbc
             have zc := bbc.size
             refine hK _ _ (HBW0.out.trans (bc.mono HBW0.out.size)) ?_
             clear hK K
             have ga' := (grown_row ggc (fun e => by have h : Xa.heap.size = X0.heap.size := Option.some.inj e; omega) (row?_lt ga1)).trans ga1
             apply wpPlanT_act rfl rfl
             intro K hK
             refine wp_appO elT 29 Tryz.underlying29 _ _ rfl X0.heap.size _ ([] ++ L.take (0)) rfl oc (X0.heap.size) (sq, kq) _ rfl ga' (by simp <;> omega) bc.size ?_
             intro vd Xd od bbd ggd hhd
             have bd : Below X0.heap.size X0 Xd := bc.trans bbd
             refine hK _ _ (HBW0.out.trans (bd.mono HBW0.out.size)) ?_
             clear hK K
             apply wpPlanT_act rfl rfl
             intro K hK
             refine wp_appL elT 29 Tryz.underlying29 _ _ rfl X0.heap.size _ _ ([] ++ L.take (0) ++ [(sq, kq)]) (L.drop (0)) rfl od rfl _ (RD.out.below bd (Nat.le_refl _)) hDn.out (by simp <;> omega) bd.size ?_
             intro ve Xe oe bbe gge
             have be : Below X0.heap.size X0 Xe := bd.trans bbe
             refine hK _ _ (HBW0.out.trans (be.mono HBW0.out.size)) ?_
             clear hK K
             refine wpPlanT_done ?_
             simp only [List.drop_succ_cons, List.drop_zero]
             have HOF := Lib.hid (oe.lower (B' := w.heap.size) HBW0.out.size)
             have HTF := Lib.hid (HTN.out.below be)
             have HBF := Lib.hid (HBW0.out.trans (be.mono HBW0.out.size))
             go_wp2_with fail
             go_roundw
             case rel => exact ⟨j + 1, _, by omega, by go_num, HOF.out, by rw [HNQ.out]; exact HTF.out, HBF.out⟩
             case measure => simp [intOf]; omega
         · go_wp2_with fail
           refine wp_region_mix (fun W => W = wr.drew) 42 [(0, true), (1, true), (2, true), (3, true), (4, true), (5, true), (6, true), (7, true), (8, true), (9, true), (10, true), (11, true), (12, true), (13, true), (14, true), (15, true), (16, true), (17, true), (18, true), (19, true), (20, true), (21, true), (22, true), (23, true), (24, true), (25, true), (26, true), (27, true), (28, true), (29, true), (30, true), (31, true), (32, true), (33, true), (34, true), (35, true), (36, true), (37, true), (38, true), (39, true), (40, true), (41, true)] (by kernel_rfl) (by kernel_rfl) rfl ?_
           repeat (first | (apply wpPlan_still rfl rfl; (intro w hw; subst hw; go_simp; (try go_ints); (first | with_reducible rfl | (go_simp; with_reducible rfl))); (intro K hK; go_simp; (try go_ints); refine hK _ _ ?_; clear hK K)) | (apply wpPlan_stillG rfl rfl; (intro w hw; subst hw; go_simp; (try go_ints); (first | with_reducible rfl | (go_simp; with_reducible rfl))); (intro K hK; go_simp; (try go_ints); refine hK _ _ ?_; clear hK K)) | (apply wpPlan_skip rfl rfl; (intro K hK; go_simp; (try go_ints); refine hK _ _ ?_; clear hK K)))
           refine wpPlan_nil ?_
           simp only [List.drop_succ_cons, List.drop_zero]
           go_wp2_with fail
           refine wp_region_mix (fun W => W = wr.drew.drew) 29 [(0, true), (1, true), (2, true), (3, true), (4, true), (5, true), (6, true), (7, true), (8, true), (9, true), (10, true), (11, true), (12, true), (13, true), (14, true), (15, true), (16, true), (17, true), (18, true), (19, true), (20, true), (21, true), (22, true), (23, true), (24, true), (25, true), (26, true), (27, true), (28, true)] (by kernel_rfl) (by kernel_rfl) rfl ?_
           repeat (first | (apply wpPlan_still rfl rfl; (intro w hw; subst hw; go_simp; (try go_ints); (first | with_reducible rfl | (go_simp; with_reducible rfl))); (intro K hK; go_simp; (try go_ints); refine hK _ _ ?_; clear hK K)) | (apply wpPlan_stillG rfl rfl; (intro w hw; subst hw; go_simp; (try go_ints); (first | with_reducible rfl | (go_simp; with_reducible rfl))); (intro K hK; go_simp; (try go_ints); refine hK _ _ ?_; clear hK K)) | (apply wpPlan_skip rfl rfl; (intro K hK; go_simp; (try go_ints); refine hK _ _ ?_; clear hK K)))
           refine wpPlan_nil ?_
           simp only [List.drop_succ_cons, List.drop_zero]
           go_wp2_with fail
           have HP0 := Lib.hid trivial
           obtain ⟨X0, hX0⟩ : ∃ X, wr.drew.drew.drew = X := ⟨_, rfl⟩
           have b0r : Below wr.heap.size wr X0 := by rw [← hX0]; exact (Below.refl _ _).drew.drew.drew
           have oL := OwnR.below HOi.out b0r (Nat.le_refl _)
           have tL := HTi.out.below b0r
           have vL := RefV.below (RefV.below HRV.out HBW.out) b0r
           have bw0 : Below w.heap.size w X0 := HBW.out.trans (b0r.mono HBW.out.size)
           have hkL : k ≤ L.length := by have := atT_le kq P; omega
           have RT := Lib.hid (own_take oL hkL)
           have rd0 := own_drop oL hkL
           rw [hLl, show Option.map (fun x : Addr => x.add (k * 3)) (some ⟨b5, 0, none⟩) = (some ⟨b5, k * 3, none⟩ : Option Addr) from (by simp [Addr.add]; intro h; omega)] at rd0
           have RD := Lib.hid rd0
           have hcap := own_cap oL
           have hshp := own_shape oL
           have hTn := Lib.hid (show (Value.slice (some ⟨b5, 0, none⟩) k c5 = .slice none 0 0 ∨ ∃ ad n c, Value.slice (some ⟨b5, 0, none⟩) k c5 = .slice (some ad) n c) from by
             rcases hshp with ⟨h1, h2⟩ | ⟨ad, h1⟩
             · exact .inl (by rw [h1, h2, show k = 0 by omega])
             · exact .inr ⟨ad, _, _, by rw [h1]⟩)
           have hDn := Lib.hid (show (Value.slice (if c5 = k then (some ⟨b5, 0, none⟩) else ((some ⟨b5, k * 3, none⟩ : Option Addr))) (P.length - k) (c5 - k) = .slice none 0 0 ∨ ∃ ad n c, Value.slice (if c5 = k then (some ⟨b5, 0, none⟩) else ((some ⟨b5, k * 3, none⟩ : Option Addr))) (P.length - k) (c5 - k) = .slice (some ad) n c) from by
             first
             | (refine .inl ?_; simp [HP0.out]; done)
             | (
               rcases hshp with ⟨h1, h2⟩ | ⟨ad, h1⟩
               · exact .inl (by rw [h1, h2, show k = 0 by omega, show P.length - 0 = 0 by omega]; rfl)
               · refine .inr ?_
                 have h3 : ∃ ad2, (some ⟨b5, k * 3, none⟩ : Option Addr) = some ad2 := by rw [← show Option.map (fun x : Addr => x.add (k * 3)) (some ⟨b5, 0, none⟩) = (some ⟨b5, k * 3, none⟩ : Option Addr) from (by simp [Addr.add]; intro h; omega), h1]; exact ⟨_, rfl⟩
                 obtain ⟨ad2, h3⟩ := h3
                 rw [h1, h3]
                 split
                 · exact ⟨ad, _, _, rfl⟩
                 · exact ⟨ad2, _, _, rfl⟩))
           have hkc : ((k : Nat) : Int) ≤ ((c5 : Nat) : Int) := by omega
           have hkp : ((k : Nat) : Int) ≤ (P.length : Int) := by omega
           have HTN := Lib.hid (tells_ins (k := k) (n := n) (s := sq) (e := kq) tL (by omega) vL)
           have HBW0 := Lib.hid bw0
           have HJQ := Lib.hid fun W (h : Below w.heap.size w W) => show rowLoad Tryz.prog 104 ⟨bq, offq + j * 3, none⟩ W = .ok (.agg #[.slice sq.1 sq.2.1 sq.2.2, .int .i64 (kq.1 : Int), .int .i64 (kq.2 : Int)]) W from
             load_cells Tryz.isAgg104 Tryz.sizeOf104 W bq _ (tA (sq, kq)) rfl fun i u hu => HQX.out W h i u hu
           have HXL := Lib.hid (And.intro oL vL)
           clear oL tL vL b0r bw0 rd0 hshp
           refine wp_region_mixT (fun W => Below w.heap.size w W) 15 (.read 1 (.read 2 (.read 3 (.read 5 (.read 6 (.read 7 (.read 8 (.read 11 (.read 12 (.read 13 (.fork 0 9 (.fork 4 9 (.act 9 (.act 10 (.act 14 .done))) (.act 4 (.act 10 (.act 14 .done)))) (.act 0 (.act 4 (.act 10 (.act 14 .done))))))))))))))) (by kernel_rfl) (by kernel_rfl) (by rw [hX0]; exact HBW0.out) ?_
           repeat (apply wpPlanT_still rfl rfl; (intro w hw; have k1 := HJQ.out w hw; clear hw; go_simp; (try go_ints); (first | with_reducible rfl | (go_simp; with_reducible rfl))); (intro K hK; go_simp; (try go_ints); refine hK _ _ ?_; clear hK K))
           try rw [hX0]
           clear hX0
           have b0 : Below X0.heap.size X0 X0 := Below.refl _ _
           refine wpPlanT_fork ?_ ?_
           · apply wpPlanT_act rfl rfl
             intro K hK
             unfold Oper.wp
             go_simp
             obtain ⟨Xa, hXa⟩ : ∃ X, X0.alloc (.cells #[] 104) = X := ⟨_, rfl⟩
             have bba : Below X0.heap.size X0 Xa := by rw [← hXa]; exact (Below.refl _ _).alloc (Nat.le_refl _) _
             have ba : Below X0.heap.size X0 Xa := b0.trans (bba.mono b0.size)
             have za : Xa.heap.size = X0.heap.size + 1 := by rw [← hXa]; simp
             have oa : OwnT X0.heap.size Xa (.slice (some ⟨X0.heap.size, 0, none⟩) 0 0) [] := by rw [← hXa]; exact (own_none X0).lower b0.size
             try rw [hXa]
             refine hK _ _ (HBW0.out.trans (ba.mono HBW0.out.size)) ?_
             clear hK K hXa
             refine wpPlanT_fork ?_ ?_
             · apply wpPlanT_act rfl rfl
               intro K hK
               refine wp_appL elT 29 Tryz.underlying29 _ _ rfl X0.heap.size _ _ ([] : List (Sl × Ex)) (L.take (k)) rfl oa rfl _ (RT.out.below ba (Nat.le_refl _)) hTn.out (by simp <;> omega) ba.size ?_
               intro vb Xb ob bbb ggb
               have bb : Below X0.heap.size X0 Xb := ba.trans bbb
               have zb := bbb.size
               refine hK _ _ (HBW0.out.trans (bb.mono HBW0.out.size)) ?_
               clear hK K
               apply wpPlanT_act rfl rfl
               intro K hK
               unfold Oper.wp
               go_simp
               obtain ⟨Xc, hXc⟩ : ∃ X, Xb.alloc (.cells #[.slice sq.1 sq.2.1 sq.2.2, .int .i64 (kq.1 : Int), .int .i64 (kq.2 : Int)] 104) = X := ⟨_, rfl⟩
               have bbc : Below Xb.heap.size Xb Xc := by rw [← hXc]; exact (Below.refl _ _).alloc (Nat.le_refl _) _
               have bc : Below X0.heap.size X0 Xc := bb.trans (bbc.mono bb.size)
               have zc : Xc.heap.size = Xb.heap.size + 1 := by rw [← hXc]; simp
               have gc : row? Xc Xb.heap.size = some (tA (sq, kq)) := by rw [← hXc]; exact row?_alloc_at _ _ _ _ rfl
               try rw [hXc]
               refine hK _ _ (HBW0.out.trans (bc.mono HBW0.out.size)) ?_
               clear hK K hXc
               have oc := ob.below bbc (Nat.le_refl _)
               apply wpPlanT_act rfl rfl
               intro K hK
               refine wp_appO elT 29 Tryz.underlying29 _ _ rfl X0.heap.size _ ([] ++ L.take (k)) rfl oc (Xb.heap.size) (sq, kq) _ rfl gc (by simp <;> omega) bc.size ?_
               intro vd Xd od bbd ggd hhd
               have bd : Below X0.heap.size X0 Xd := bc.trans bbd
               refine hK _ _ (HBW0.out.trans (bd.mono HBW0.out.size)) ?_
               clear hK K
               apply wpPlanT_act rfl rfl
               intro K hK
               refine wp_appL elT 29 Tryz.underlying29 _ _ rfl X0.heap.size _ _ ([] ++ L.take (k) ++ [(sq, kq)]) (L.drop (k)) rfl od rfl _ (RD.out.below bd (Nat.le_refl _)) hDn.out (by simp <;> omega) bd.size ?_
               intro ve Xe oe bbe gge
               have be : Below X0.heap.size X0 Xe := bd.trans bbe
               refine hK _ _ (HBW0.out.trans (be.mono HBW0.out.size)) ?_
               clear hK K
               refine wpPlanT_done ?_
               simp only [List.drop_succ_cons, List.drop_zero]
               have HOF := Lib.hid (oe.lower (B' := w.heap.size) HBW0.out.size)
               have HTF := Lib.hid (HTN.out.below be)
               have HBF := Lib.hid (HBW0.out.trans (be.mono HBW0.out.size))
               go_wp2_with fail
               go_roundw
               case rel => exact ⟨j + 1, _, by omega, by go_num, HOF.out, by rw [HNQ.out]; exact HTF.out, HBF.out⟩
               case measure => simp [intOf]; omega
             · have ZA := Lib.hid za
               clear za
               apply wpPlanT_act rfl rfl
               intro K hK
               unfold Oper.wp
               go_simp
               obtain ⟨Xb, hXb⟩ : ∃ X, Xa.alloc (.cells #[.slice sq.1 sq.2.1 sq.2.2, .int .i64 (kq.1 : Int), .int .i64 (kq.2 : Int)] 104) = X := ⟨_, rfl⟩
               have bbb : Below Xa.heap.size Xa Xb := by rw [← hXb]; exact (Below.refl _ _).alloc (Nat.le_refl _) _
               have bb : Below X0.heap.size X0 Xb := ba.trans (bbb.mono ba.size)
               have zb : Xb.heap.size = Xa.heap.size + 1 := by rw [← hXb]; simp
               have gb : row? Xb Xa.heap.size = some (tA (sq, kq)) := by rw [← hXb]; exact row?_alloc_at _ _ _ _ rfl
               try rw [hXb]
               refine hK _ _ (HBW0.out.trans (bb.mono HBW0.out.size)) ?_
               clear hK K hXb
               have za := ZA.out
               clear zb
               have ob := oa.below bbb (Nat.le_refl _)
               apply wpPlanT_act rfl rfl
               intro K hK
               refine wp_appL elT 29 Tryz.underlying29 _ _ rfl X0.heap.size _ _ ([] : List (Sl × Ex)) (L.take (k)) rfl ob rfl _ (RT.out.below bb (Nat.le_refl _)) hTn.out (by simp <;> omega) bb.size ?_
               intro vc Xc oc bbc ggc
               have bc : Below X0.heap.size X0 Xc := bb.trans bbc
               have zc := bbc.size
               refine hK _ _ (HBW0.out.trans (bc.mono HBW0.out.size)) ?_
               clear hK K
               have gb' := (grown_row ggc (fun e => by have h : X0.heap.size = Xa.heap.size := Option.some.inj e; omega) (row?_lt gb)).trans gb
               apply wpPlanT_act rfl rfl
               intro K hK
               refine wp_appO elT 29 Tryz.underlying29 _ _ rfl X0.heap.size _ ([] ++ L.take (k)) rfl oc (Xa.heap.size) (sq, kq) _ rfl gb' (by simp <;> omega) bc.size ?_
               intro vd Xd od bbd ggd hhd
               have bd : Below X0.heap.size X0 Xd := bc.trans bbd
               refine hK _ _ (HBW0.out.trans (bd.mono HBW0.out.size)) ?_
               clear hK K
               apply wpPlanT_act rfl rfl
               intro K hK
               refine wp_appL elT 29 Tryz.underlying29 _ _ rfl X0.heap.size _ _ ([] ++ L.take (k) ++ [(sq, kq)]) (L.drop (k)) rfl od rfl _ (RD.out.below bd (Nat.le_refl _)) hDn.out (by simp <;> omega) bd.size ?_
               intro ve Xe oe bbe gge
               have be : Below X0.heap.size X0 Xe := bd.trans bbe
               refine hK _ _ (HBW0.out.trans (be.mono HBW0.out.size)) ?_
               clear hK K
               refine wpPlanT_done ?_
               simp only [List.drop_succ_cons, List.drop_zero]
               have HOF := Lib.hid (oe.lower (B' := w.heap.size) HBW0.out.size)
               have HTF := Lib.hid (HTN.out.below be)
               have HBF := Lib.hid (HBW0.out.trans (be.mono HBW0.out.size))
               go_wp2_with fail
               go_roundw
               case rel => exact ⟨j + 1, _, by omega, by go_num, HOF.out, by rw [HNQ.out]; exact HTF.out, HBF.out⟩
               case measure => simp [intOf]; omega
           · apply wpPlanT_act rfl rfl
             intro K hK
             unfold Oper.wp
             go_simp
             obtain ⟨Xa, hXa⟩ : ∃ X, X0.alloc (.cells #[.slice sq.1 sq.2.1 sq.2.2, .int .i64 (kq.1 : Int), .int .i64 (kq.2 : Int)] 104) = X := ⟨_, rfl⟩
             have bba : Below X0.heap.size X0 Xa := by rw [← hXa]; exact (Below.refl _ _).alloc (Nat.le_refl _) _
             have ba : Below X0.heap.size X0 Xa := b0.trans (bba.mono b0.size)
             have za : Xa.heap.size = X0.heap.size + 1 := by rw [← hXa]; simp
             have ga : row? Xa X0.heap.size = some (tA (sq, kq)) := by rw [← hXa]; exact row?_alloc_at _ _ _ _ rfl
             try rw [hXa]
             refine hK _ _ (HBW0.out.trans (ba.mono HBW0.out.size)) ?_
             clear hK K hXa
             have ZA := Lib.hid za
             clear za
             apply wpPlanT_act rfl rfl
             intro K hK
             unfold Oper.wp
             go_simp
             obtain ⟨Xb, hXb⟩ : ∃ X, Xa.alloc (.cells #[] 104) = X := ⟨_, rfl⟩
             have bbb : Below Xa.heap.size Xa Xb := by rw [← hXb]; exact (Below.refl _ _).alloc (Nat.le_refl _) _
             have bb : Below X0.heap.size X0 Xb := ba.trans (bbb.mono ba.size)
             have zb : Xb.heap.size = Xa.heap.size + 1 := by rw [← hXb]; simp
             have ob : OwnT X0.heap.size Xb (.slice (some ⟨Xa.heap.size, 0, none⟩) 0 0) [] := by rw [← hXb]; exact (own_none Xa).lower ba.size
             try rw [hXb]
             refine hK _ _ (HBW0.out.trans (bb.mono HBW0.out.size)) ?_
             clear hK K hXb
             have za := ZA.out
             clear zb
             have ga1 := (row?_below bbb (row?_lt ga)).trans ga
             apply wpPlanT_act rfl rfl
             intro K hK
             refine wp_appL elT 29 Tryz.underlying29 _ _ rfl X0.heap.size _ _ ([] : List (Sl × Ex)) (L.take (k)) rfl ob rfl _ (RT.out.below bb (Nat.le_refl _)) hTn.out (by simp <;> omega) bb.size ?_
             intro vc Xc oc bbc ggc
             have bc : Below X0.heap.size X0 Xc := bb.trans bbc
             have zc := bbc.size
             refine hK _ _ (HBW0.out.trans (bc.mono HBW0.out.size)) ?_
             clear hK K
             have ga' := (grown_row ggc (fun e => by have h : Xa.heap.size = X0.heap.size := Option.some.inj e; omega) (row?_lt ga1)).trans ga1
             apply wpPlanT_act rfl rfl
             intro K hK
             refine wp_appO elT 29 Tryz.underlying29 _ _ rfl X0.heap.size _ ([] ++ L.take (k)) rfl oc (X0.heap.size) (sq, kq) _ rfl ga' (by simp <;> omega) bc.size ?_
             intro vd Xd od bbd ggd hhd
             have bd : Below X0.heap.size X0 Xd := bc.trans bbd
             refine hK _ _ (HBW0.out.trans (bd.mono HBW0.out.size)) ?_
             clear hK K
             apply wpPlanT_act rfl rfl
             intro K hK
             refine wp_appL elT 29 Tryz.underlying29 _ _ rfl X0.heap.size _ _ ([] ++ L.take (k) ++ [(sq, kq)]) (L.drop (k)) rfl od rfl _ (RD.out.below bd (Nat.le_refl _)) hDn.out (by simp <;> omega) bd.size ?_
             intro ve Xe oe bbe gge
             have be : Below X0.heap.size X0 Xe := bd.trans bbe
             refine hK _ _ (HBW0.out.trans (be.mono HBW0.out.size)) ?_
             clear hK K
             refine wpPlanT_done ?_
             simp only [List.drop_succ_cons, List.drop_zero]
             have HOF := Lib.hid (oe.lower (B' := w.heap.size) HBW0.out.size)
             have HTF := Lib.hid (HTN.out.below be)
             have HBF := Lib.hid (HBW0.out.trans (be.mono HBW0.out.size))
             go_wp2_with fail
             go_roundw
             case rel => exact ⟨j + 1, _, by omega, by go_num, HOF.out, by rw [HNQ.out]; exact HTF.out, HBF.out⟩
             case measure => simp [intOf]; omega
   · have hkl : q.take j = q := List.take_of_length_le hj2
     have hdj : decide (j < q.length) = false := decide_eq_false (by omega)
     have HTQ2 := Lib.hid HT.out
     rw [hkl] at HTQ2
     clear hkl
     go_wp2_with fail
     go_ret
     refine ⟨_, rfl, ?_, HB.out⟩
     exact own_ref HO.out HTQ2.out
end Go.Proofs.YtgnlebnpnpjfmaaGreatDoor
