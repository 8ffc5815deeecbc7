/- Walks of the reference's polynomials: Mul. -/
import Derived.Test.YtgnlebnpnpjfmaaGreatDoorUQF
import Derived.Test.YtgnlebnpnpjfmaaGreatDoorUPD
set_option linter.all false
namespace Go.Pal
theorem take_cons_drop {α : Type} {l : List α} {i : Nat} {x : α} (h : l[i]? = some x) : l = l.take i ++ x :: l.drop (i + 1) := by
 obtain ⟨hi, rfl⟩ := List.getElem?_eq_some_iff.1 h
 rw [← List.drop_eq_getElem_cons hi, List.take_append_drop]
theorem prod_split {p : Pol} {j : Nat} {x : Ex × Nat} (hx : p[j]? = some x) (q : Pol) (k : Nat) : ∃ R, prodL p q = prodL (p.take j) q ++ prodT x (q.take k) ++ R := by
 refine ⟨prodT x (q.drop k) ++ prodL (p.drop (j + 1)) q, ?_⟩
 have h1 : prodL p q = prodL (p.take j ++ ([x] ++ p.drop (j + 1))) q := by
   congr 1
   exact take_cons_drop hx
 rw [h1, prodL_append, prodL_append, prodL_one]
 have h2 : prodT x q = prodT x (q.take k) ++ prodT x (q.drop k) := by rw [← prodT_append, List.take_append_drop]
 rw [h2]
 simp only [List.append_assoc]
theorem wt_app (a b : Pol) : wt (a ++ b) = wt a + wt b := lin_append _ a b
theorem prod_wt {p : Pol} {j : Nat} {x : Ex × Nat} (hx : p[j]? = some x) (q : Pol) (k : Nat) : wt (prodL (p.take j) q ++ prodT x (q.take k)) ≤ wt p * wt q ∧ (prodL (p.take j) q ++ prodT x (q.take k)).length ≤ p.length * q.length := by
 obtain ⟨R, hR⟩ := prod_split hx q k
 have h1 := wt_prodL p q
 have h2 := prodL_len p q
 rw [hR, wt_app] at h1
 rw [hR, List.length_append] at h2
 omega
theorem wt_nil0 (p : Pol) : wt (padd [] p) = wt p := by
 rw [wt_padd]
 have : wt ([] : Pol) = 0 := rfl
 omega
theorem len_nil0 (p : Pol) : (padd [] p).length ≤ p.length := by
 have h := padd_len [] p
 simp only [List.length_nil, Nat.zero_add] at h
 exact h
theorem prodT_yes {x y : Ex × Nat} (h : okX (addX x.1 y.1)) : prodT x [y] = [(addX x.1 y.1, x.2 * y.2)] := by simp [prodT, h]
theorem prodT_no {x y : Ex × Nat} (h : ¬ okX (addX x.1 y.1)) : prodT x [y] = [] := by simp [prodT, h]
end Go.Pal
namespace Go.Proofs.YtgnlebnpnpjfmaaGreatDoor
open Go Go.RowKit Go.Pal
attribute [local go_sem] Oper.semAt_some
set_option maxRecDepth 100000 in
set_option maxHeartbeats 8000000 in
theorem qmul_any (p q : Pol) (vp vq : Value) (w : World) (hp : RefP w vp p) (hq : RefP w vq q) (hpp : ∀ x ∈ p, 0 < x.2) (hqp : ∀ x ∈ q, 0 < x.2) (hup : Upto 4096 p) (huq : Upto 4096 q) (hf : Fit (wt p * wt q)) (hfp : Fit (wt p)) (hfq : Fit (wt q)) (hlen : p.length * q.length ≤ 90000) (hlp : p.length ≤ 100000) (hlq : q.length ≤ 100000) :
   Calls Tryz.prog 21 #[vp, vq] w fun e w' => ∃ v', e = .returned v' ∧ RefP w' v' (pmul p q) ∧ Below w.heap.size w w' := by
 obtain ⟨pa, pc, rfl⟩ := refP_sl hp
 obtain ⟨qa, qc, rfl⟩ := refP_sl hq
 have HP := Lib.hid hp
 have HQ := Lib.hid hq
 have HPP := Lib.hid hpp
 have HQP := Lib.hid hqp
 have HUP := Lib.hid hup
 have HUQ := Lib.hid huq
 have HF := Lib.hid hf
 have HFP := Lib.hid hfp
 have HFQ := Lib.hid hfq
 have HLN := Lib.hid hlen
 clear hp hq hpp hqp hup huq hf hfp hfq hlen
 go_enter Tryz.func21, Tryz.ntmps21
 go_wp2_with fail
 go_loopw [5, 6] (fun v5 i wr => ∃ j : Nat, j ≤ p.length ∧ i = .int .i64 (j : Int) ∧ RefP wr v5 (padd [] (prodL (p.take j) q)) ∧ Below w.heap.size w wr) (fun _ i _ => p.length - (intOf i).toNat)
 case atStart => exact ⟨0, Nat.zero_le _, rfl, refP_nil w, Below.refl _ _⟩
 case round =>
   obtain ⟨j, hj, rfl, hA, hb⟩ := hrel
   have HB := Lib.hid hb
   have HA := Lib.hid hA
   clear hb hA
   rcases Nat.lt_or_ge j p.length with hj2 | hj2
   · obtain ⟨⟨ke, m⟩, hx⟩ : ∃ x, p[j]? = some x := ⟨_, List.getElem?_eq_getElem hj2⟩
     obtain ⟨b, off, s1, s2, s3, rfl, hrv, hcc⟩ := refP_at HP.out hx
     have hdj : decide (j < p.length) = true := decide_eq_true hj2
     have HC := Lib.hid hcc
     have HRV := Lib.hid hrv
     have HX := Lib.hid hx
     have hke := HUP.out _ (List.mem_of_getElem? hx)
     have hk1 : ke.1 ≤ 4096 := hke.1
     have hk2 : ke.2 ≤ 4096 := hke.2
     have HA0 := Lib.hid (show RefP wr _ (padd [] (prodL (p.take j) q ++ prodT (ke, m) (q.take 0))) from by simpa [prodT] using HA.out)
     have HJN := Lib.hid (show prodL (p.take (j + 1)) q = prodL (p.take j) q ++ prodT (ke, m) q from by rw [take_snoc hx, prodL_append, prodL_one])
     clear hcc hrv hx hke
     go_wp2_with fail
     rename World => Wo
     go_loopw [5, 7] (fun v5 i wi => ∃ k : Nat, k ≤ q.length ∧ i = .int .i64 (k : Int) ∧ RefP wi v5 (padd [] (prodL (p.take j) q ++ prodT (ke, m) (q.take k))) ∧ Below w.heap.size w wi) (fun _ i _ => q.length - (intOf i).toNat)
     case atStart => exact ⟨0, Nat.zero_le _, rfl, HA0.out, HB.out⟩
     case round =>
       obtain ⟨k, hk, rfl, hA2, hb2⟩ := hrel
       obtain ⟨aa, ac, rfl⟩ := refP_sl hA2
       have HB2 := Lib.hid hb2
       have HA2 := Lib.hid hA2
       obtain ⟨al, hal⟩ : ∃ n, n = (padd [] (prodL (p.take j) q ++ prodT (ke, m) (q.take k))).length := ⟨_, rfl⟩
       rw [← hal] at HA2 ⊢
       clear hb2 hA2 hal
       rcases Nat.lt_or_ge k q.length with hkl | hkl
       · obtain ⟨⟨kq, n⟩, hy⟩ : ∃ x, q[k]? = some x := ⟨_, List.getElem?_eq_getElem hkl⟩
         obtain ⟨bq, offq, r1, r2, r3, rfl, hrq, hcq⟩ := refP_at HQ.out hy
         have hdk : decide (k < q.length) = true := decide_eq_true hkl
         have HCQ := Lib.hid hcq
         have HRQ := Lib.hid hrq
         have hkq := HUQ.out _ (List.mem_of_getElem? hy)
         have hq1 : kq.1 ≤ 4096 := hkq.1
         have hq2 : kq.2 ≤ 4096 := hkq.2
         have HMN := Lib.hid (show Fit m ∧ Fit n from ⟨HFP.out.mono (wt_mem (List.mem_of_getElem? HX.out)), HFQ.out.mono (wt_mem (List.mem_of_getElem? hy))⟩)
         have HPO := Lib.hid (show 0 < m * n from Nat.mul_pos (HPP.out _ (List.mem_of_getElem? HX.out)) (HQP.out _ (List.mem_of_getElem? hy)))
         have HKN := Lib.hid (show prodT (ke, m) (q.take (k + 1)) = prodT (ke, m) (q.take k) ++ prodT (ke, m) [(kq, n)] from by rw [take_snoc hy, prodT_append])
         have HWT := Lib.hid (prod_wt HX.out q (k + 1))
         clear hcq hrq hy hkq
         go_wp2_with fail
         rename World => wi0
         refine wp_region_mixT (fun W => Below w.heap.size w W) 35 (.read 0 (.read 1 (.read 2 (.read 3 (.read 4 (.read 5 (.read 6 (.read 7 (.read 8 (.read 9 (.read 11 (.read 12 (.read 13 (.read 14 (.read 15 (.read 16 (.read 17 (.read 18 (.read 19 (.read 20 (.read 21 (.read 22 (.read 23 (.read 24 (.read 25 (.read 26 (.read 27 (.read 28 (.read 29 (.read 30 (.read 31 (.read 32 (.fork 10 34 (.read 33 (.act 34 .done)) (.act 10 (.read 33 .done))))))))))))))))))))))))))))))))))) (by kernel_rfl) (by kernel_rfl) HB2.out.drew ?_
         have HBD := Lib.hid HB2.out.drew
         have hbI0 : Below wi0.heap.size wi0 wi0.drew := (Below.refl _ _).drew
         repeat (apply wpPlanT_still rfl rfl; (intro w hw; obtain ⟨k0', k1, k2⟩ := HC.out w hw; have k0 : w.cell? ⟨b, off + j * 3, none⟩ = some (.slice s1 s2 s3) := k0'; obtain ⟨l0', l1, l2⟩ := HCQ.out w hw; have l0 : w.cell? ⟨bq, offq + k * 3, none⟩ = some (.slice r1 r2 r3) := l0'; clear hw k0' l0'; go_simp; (try go_ints); (first | with_reducible rfl | (go_simp; with_reducible rfl))); (intro K hK; go_simp; (try go_ints); refine hK _ _ ?_; clear hK K))
         refine wpPlanT_fork ?_ ?_
         · apply wpPlanT_act rfl rfl
           intro K hK
           unfold Oper.wp
           go_simp
           refine (dmul_any m n _ _ _ (HRV.out.below HBD.out) (HRQ.out.below HBD.out) HMN.out.1 HMN.out.2).mono ?_
           rintro e w5 ⟨v6, rfl, hv6, hb6⟩
           have hb7 : Below w.heap.size w w5 := HBD.out.trans (hb6.mono HBD.out.size)
           refine hK _ _ hb7 ?_
           clear hK K
           obtain ⟨na, nc, rfl, -, -⟩ := id hv6
           obtain ⟨nl, hnl⟩ : ∃ l, l = (digB 10 (m * n)).length := ⟨_, rfl⟩
           rw [← hnl] at hv6 ⊢
           clear hnl
           repeat (apply wpPlanT_still rfl rfl; (intro w hw; clear hw; go_simp; (try go_ints); (first | with_reducible rfl | (go_simp; with_reducible rfl))); (intro K hK; go_simp; (try go_ints); refine hK _ _ ?_; clear hK K))
           refine wpPlanT_alloc #[.slice none 0 0, .int .i64 0, .int .i64 0] 104 rfl rfl (by intro W; go_simp) ?_
           intro gb w6 r6 hle6 hlt6 hb6'
           have hb8 : Below w.heap.size w w6 := hb7.trans (hb6'.mono hb7.size)
           refine ⟨hb8, fun K hK => ?_⟩
           go_simp
           refine hK _ _ ?_
           clear hK K
           have bI6 := (hbI0.trans hb6).trans (hb6'.mono (hbI0.trans hb6).size)
           have hgi : wi0.heap.size ≤ gb := Nat.le_trans (hbI0.trans hb6).size hle6
           refine wpPlanT_done ?_
           simp only [List.drop_succ_cons, List.drop_zero]
           obtain ⟨z2, hz2⟩ : ∃ z, z = #[Value.slice na nl nc, .int .i64 ((ke.1 : Int) + (kq.1 : Int)), .int .i64 ((ke.2 : Int) + (kq.2 : Int))] := ⟨_, rfl⟩
           have hgw : w.heap.size ≤ gb := by have := HB2.out.size; omega
           have r7 : row? (w6.setRow gb z2) gb = some z2 := row?_setRow_same _ _ _ (by rw [r6]; rfl)
           have bI : Below wi0.heap.size wi0 (w6.setRow gb z2) := below_setRow bI6 hgi _
           have bW : Below w.heap.size w (w6.setRow gb z2) := HB2.out.trans (bI.mono HB2.out.size)
           have hno : ∀ x : Int, (w6).cell? ⟨gb, 0, none⟩ ≠ some (.int .i64 x) := fun x e => by rw [cell?_row r6] at e; simp at e
           have vR := refV_same (hv6.below hb6') (same_some w6 gb z2) hno
           have c1 : (w6.setRow gb #[Value.slice na nl nc, .int .i64 ((ke.1 : Int) + (kq.1 : Int)), .int .i64 ((ke.2 : Int) + (kq.2 : Int))]).cell? ⟨gb, 1, none⟩ = some (.int .i64 ((ke.1 : Int) + (kq.1 : Int))) := by rw [← hz2]; rw [hz2] at r7 ⊢; exact (cell?_row (i := 1) r7).trans rfl
           have c2 : (w6.setRow gb #[Value.slice na nl nc, .int .i64 ((ke.1 : Int) + (kq.1 : Int)), .int .i64 ((ke.2 : Int) + (kq.2 : Int))]).cell? ⟨gb, 2, none⟩ = some (.int .i64 ((ke.2 : Int) + (kq.2 : Int))) := by rw [← hz2]; rw [hz2] at r7 ⊢; exact (cell?_row (i := 2) r7).trans rfl
           rw [hz2] at r7 bI bW vR
           have BI := Lib.hid bI
           have BW := Lib.hid bW
           have VR := Lib.hid vR
           have HAX := Lib.hid (HA2.out.below bI)
           clear hz2 bI bW vR hno
           have e1 : (ke.1 : Int) + (kq.1 : Int) = ((ke.1 + kq.1 : Nat) : Int) := (Int.natCast_add _ _).symm
           have e2 : (ke.2 : Int) + (kq.2 : Int) = ((ke.2 + kq.2 : Nat) : Int) := (Int.natCast_add _ _).symm
           have E1 := Lib.hid (And.intro e1 e2)
           clear e1 e2
           by_cases hok : okX (addX ke kq)
           · have hd1 : decide (ke.1 + kq.1 ≤ 2048) = true := decide_eq_true hok.1
             have hd2 : decide (ke.2 + kq.2 ≤ 2048) = true := decide_eq_true hok.2
             have hi1 : decide ((ke.1 : Int) + (kq.1 : Int) ≤ 2048) = true := decide_eq_true (by have := hok.1; unfold addX at this; simp only at this; omega)
             have hi2 : decide ((ke.2 : Int) + (kq.2 : Int) ≤ 2048) = true := decide_eq_true (by have := hok.2; unfold addX at this; simp only at this; omega)
             have HOK := Lib.hid hok
             clear hok
             go_wp2_with fail
             obtain ⟨W7, hW7⟩ : ∃ W, (w6).setRow gb #[Value.slice na nl nc, .int .i64 ((ke.1 : Int) + (kq.1 : Int)), .int .i64 ((ke.2 : Int) + (kq.2 : Int))] = W := ⟨_, rfl⟩
             have BI7 := BI.out
             have BW7 := BW.out
             have VR7 := VR.out
             have HA7 := HAX.out
             rw [hW7] at BI7 BW7 VR7 HA7 ⊢
             rw [E1.out.1, E1.out.2]
             have hbl : Below W7.heap.size W7 (W7.alloc (.cells (tA ((na, nl, nc), (ke.1 + kq.1, ke.2 + kq.2))) 104)) := (Below.refl _ _).alloc (Nat.le_refl _) _
             have hone := own_ref (own_one W7 (na, nl, nc) (ke.1 + kq.1, ke.2 + kq.2)) (tells_one _ na nl nc (ke.1 + kq.1, ke.2 + kq.2) (m * n) (VR7.below hbl))
             have hwt := HWT.out
             rw [HKN.out, prodT_yes HOK.out, ← List.append_assoc, wt_app, List.length_append] at hwt
             have hw1 : wt [(addX (ke, m).1 (kq, n).1, (ke, m).2 * (kq, n).2)] = m * n := by simp [wt, lin]
             rw [hw1] at hwt
             have hw2 : wt [((ke.1 + kq.1, ke.2 + kq.2), m * n)] = m * n := by simp [wt, lin]
             have HFF := Lib.hid (show Fit (wt (padd [] (prodL (p.take j) q ++ prodT (ke, m) (q.take k))) + wt [((ke.1 + kq.1, ke.2 + kq.2), m * n)]) ∧ (padd [] (prodL (p.take j) q ++ prodT (ke, m) (q.take k))).length + [((ke.1 + kq.1, ke.2 + kq.2), m * n)].length ≤ 100000 from by
               have h4 := len_nil0 (prodL (p.take j) q ++ prodT (ke, m) (q.take k))
               have h5 := HLN.out
               simp only [List.length_cons, List.length_nil] at hwt ⊢
               exact ⟨HF.out.mono (by rw [wt_nil0, hw2]; omega), by omega⟩)
             have bb8 := BW7.trans (hbl.mono BW7.size)
             have H8 := Lib.hid hone
             have HA8 := Lib.hid (HA7.below hbl)
             have B8 := Lib.hid bb8
             obtain ⟨W8, hW8⟩ : ∃ W, W7.alloc (.cells (tA ((na, nl, nc), (ke.1 + kq.1, ke.2 + kq.2))) 104) = W := ⟨_, rfl⟩
             rw [hW8] at HA8 H8 B8
             have hs7 : W7.heap.size = (w6).heap.size := by rw [← hW7]; simp [World.setRow]
             rw [hs7] at H8
             rw [show W7.alloc (.cells #[.slice na nl nc, .int .i64 ((ke.1 + kq.1 : Nat) : Int), .int .i64 ((ke.2 + kq.2 : Nat) : Int)] 104) = W8 from hW8]
             clear hbl hone hwt hw1 hw2 bb8 BI7 BW7 VR7 HA7 hW8 hs7 hW7
             refine (qadd_any _ [((ke.1 + kq.1, ke.2 + kq.2), m * n)] _ _ _ HA8.out H8.out (fun x hx => by rw [List.mem_singleton] at hx; rw [hx]; exact HPO.out) HFF.out.1 HFF.out.2).mono ?_
             rintro e w9 ⟨v9, rfl, h9, b9⟩
             have B9 := Lib.hid (B8.out.trans (b9.mono B8.out.size))
             rw [← padd_append, List.append_assoc, ← show prodT (ke, m) [(kq, n)] = [((ke.1 + kq.1, ke.2 + kq.2), m * n)] from prodT_yes HOK.out, ← HKN.out] at h9
             have H9 := Lib.hid h9
             obtain ⟨aa9, ac9, rfl⟩ := refP_sl h9
             clear h9 b9
             go_wp2_with fail
             go_roundw
             case rel => exact ⟨k + 1, by omega, by go_num, H9.out, B9.out⟩
             case measure => simp [intOf]; omega
           · have HN9 := Lib.hid (show prodT (ke, m) (q.take (k + 1)) = prodT (ke, m) (q.take k) from by rw [HKN.out, prodT_no hok, List.append_nil])
             have HAF := Lib.hid HAX.out
             rw [← HN9.out] at HAF
             by_cases hA : ke.1 + kq.1 ≤ 2048
             · have hB : ¬ ke.2 + kq.2 ≤ 2048 := fun h => hok ⟨hA, h⟩
               have hd1 : decide (ke.1 + kq.1 ≤ 2048) = true := decide_eq_true hA
               have hd2 : decide (ke.2 + kq.2 ≤ 2048) = false := decide_eq_false hB
               have hi1 : decide ((ke.1 : Int) + (kq.1 : Int) ≤ 2048) = true := decide_eq_true (by omega)
               have hi2 : decide ((ke.2 : Int) + (kq.2 : Int) ≤ 2048) = false := decide_eq_false (by omega)
               clear hok hA hB
               go_wp2_with fail
               go_roundw
               case rel => exact ⟨k + 1, by omega, by go_num, HAF.out, BW.out⟩
               case measure => simp [intOf]; omega
             · have hd1 : decide (ke.1 + kq.1 ≤ 2048) = false := decide_eq_false hA
               have hi1 : decide ((ke.1 : Int) + (kq.1 : Int) ≤ 2048) = false := decide_eq_false (by omega)
               clear hok hA
               go_wp2_with fail
               go_roundw
               case rel => exact ⟨k + 1, by omega, by go_num, HAF.out, BW.out⟩
               case measure => simp [intOf]; omega
         · refine wpPlanT_alloc #[.slice none 0 0, .int .i64 0, .int .i64 0] 104 rfl rfl (by intro W; go_simp) ?_
           intro gb w6 r6 hle6 hlt6 hb6'
           have hb8 : Below w.heap.size w w6 := HBD.out.trans (hb6'.mono HBD.out.size)
           refine ⟨hb8, fun K hK => ?_⟩
           go_simp
           refine hK _ _ ?_
           clear hK K
           have hgi : wi0.heap.size ≤ gb := Nat.le_trans hbI0.size hle6
           have HB8 := Lib.hid hb8
           apply wpPlanT_act rfl rfl
           intro K hK
           unfold Oper.wp
           go_simp
           refine (dmul_any m n _ _ _ (HRV.out.below HB8.out) (HRQ.out.below HB8.out) HMN.out.1 HMN.out.2).mono ?_
           rintro e w5 ⟨v6, rfl, hv6, hb6⟩
           have hb7 : Below w.heap.size w w5 := HB8.out.trans (hb6.mono HB8.out.size)
           refine hK _ _ hb7 ?_
           clear hK K
           obtain ⟨na, nc, rfl, -, -⟩ := id hv6
           obtain ⟨nl, hnl⟩ : ∃ l, l = (digB 10 (m * n)).length := ⟨_, rfl⟩
           rw [← hnl] at hv6 ⊢
           clear hnl
           repeat (apply wpPlanT_still rfl rfl; (intro w hw; clear hw; go_simp; (try go_ints); (first | with_reducible rfl | (go_simp; with_reducible rfl))); (intro K hK; go_simp; (try go_ints); refine hK _ _ ?_; clear hK K))
           have r65 := (row?_below hb6 hlt6).trans r6
           have bI6 := (hbI0.trans hb6').trans (hb6.mono (hbI0.trans hb6').size)
           refine wpPlanT_done ?_
           simp only [List.drop_succ_cons, List.drop_zero]
           obtain ⟨z2, hz2⟩ : ∃ z, z = #[Value.slice na nl nc, .int .i64 ((ke.1 : Int) + (kq.1 : Int)), .int .i64 ((ke.2 : Int) + (kq.2 : Int))] := ⟨_, rfl⟩
           have hgw : w.heap.size ≤ gb := by have := HB2.out.size; omega
           have r7 : row? (w5.setRow gb z2) gb = some z2 := row?_setRow_same _ _ _ (by rw [r65]; rfl)
           have bI : Below wi0.heap.size wi0 (w5.setRow gb z2) := below_setRow bI6 hgi _
           have bW : Below w.heap.size w (w5.setRow gb z2) := HB2.out.trans (bI.mono HB2.out.size)
           have hno : ∀ x : Int, (w5).cell? ⟨gb, 0, none⟩ ≠ some (.int .i64 x) := fun x e => by rw [cell?_row r65] at e; simp at e
           have vR := refV_same hv6 (same_some w5 gb z2) hno
           have c1 : (w5.setRow gb #[Value.slice na nl nc, .int .i64 ((ke.1 : Int) + (kq.1 : Int)), .int .i64 ((ke.2 : Int) + (kq.2 : Int))]).cell? ⟨gb, 1, none⟩ = some (.int .i64 ((ke.1 : Int) + (kq.1 : Int))) := by rw [← hz2]; rw [hz2] at r7 ⊢; exact (cell?_row (i := 1) r7).trans rfl
           have c2 : (w5.setRow gb #[Value.slice na nl nc, .int .i64 ((ke.1 : Int) + (kq.1 : Int)), .int .i64 ((ke.2 : Int) + (kq.2 : Int))]).cell? ⟨gb, 2, none⟩ = some (.int .i64 ((ke.2 : Int) + (kq.2 : Int))) := by rw [← hz2]; rw [hz2] at r7 ⊢; exact (cell?_row (i := 2) r7).trans rfl
           rw [hz2] at r7 bI bW vR
           have BI := Lib.hid bI
           have BW := Lib.hid bW
           have VR := Lib.hid vR
           have HAX := Lib.hid (HA2.out.below bI)
           clear hz2 bI bW vR hno
           have e1 : (ke.1 : Int) + (kq.1 : Int) = ((ke.1 + kq.1 : Nat) : Int) := (Int.natCast_add _ _).symm
           have e2 : (ke.2 : Int) + (kq.2 : Int) = ((ke.2 + kq.2 : Nat) : Int) := (Int.natCast_add _ _).symm
           have E1 := Lib.hid (And.intro e1 e2)
           clear e1 e2
           by_cases hok : okX (addX ke kq)
           · have hd1 : decide (ke.1 + kq.1 ≤ 2048) = true := decide_eq_true hok.1
             have hd2 : decide (ke.2 + kq.2 ≤ 2048) = true := decide_eq_true hok.2
             have hi1 : decide ((ke.1 : Int) + (kq.1 : Int) ≤ 2048) = true := decide_eq_true (by have := hok.1; unfold addX at this; simp only at this; omega)
             have hi2 : decide ((ke.2 : Int) + (kq.2 : Int) ≤ 2048) = true := decide_eq_true (by have := hok.2; unfold addX at this; simp only at this; omega)
             have HOK := Lib.hid hok
             clear hok
             go_wp2_with fail
             obtain ⟨W7, hW7⟩ : ∃ W, (w5).setRow gb #[Value.slice na nl nc, .int .i64 ((ke.1 : Int) + (kq.1 : Int)), .int .i64 ((ke.2 : Int) + (kq.2 : Int))] = W := ⟨_, rfl⟩
             have BI7 := BI.out
             have BW7 := BW.out
             have VR7 := VR.out
             have HA7 := HAX.out
             rw [hW7] at BI7 BW7 VR7 HA7 ⊢
             rw [E1.out.1, E1.out.2]
             have hbl : Below W7.heap.size W7 (W7.alloc (.cells (tA ((na, nl, nc), (ke.1 + kq.1, ke.2 + kq.2))) 104)) := (Below.refl _ _).alloc (Nat.le_refl _) _
             have hone := own_ref (own_one W7 (na, nl, nc) (ke.1 + kq.1, ke.2 + kq.2)) (tells_one _ na nl nc (ke.1 + kq.1, ke.2 + kq.2) (m * n) (VR7.below hbl))
             have hwt := HWT.out
             rw [HKN.out, prodT_yes HOK.out, ← List.append_assoc, wt_app, List.length_append] at hwt
             have hw1 : wt [(addX (ke, m).1 (kq, n).1, (ke, m).2 * (kq, n).2)] = m * n := by simp [wt, lin]
             rw [hw1] at hwt
             have hw2 : wt [((ke.1 + kq.1, ke.2 + kq.2), m * n)] = m * n := by simp [wt, lin]
             have HFF := Lib.hid (show Fit (wt (padd [] (prodL (p.take j) q ++ prodT (ke, m) (q.take k))) + wt [((ke.1 + kq.1, ke.2 + kq.2), m * n)]) ∧ (padd [] (prodL (p.take j) q ++ prodT (ke, m) (q.take k))).length + [((ke.1 + kq.1, ke.2 + kq.2), m * n)].length ≤ 100000 from by
               have h4 := len_nil0 (prodL (p.take j) q ++ prodT (ke, m) (q.take k))
               have h5 := HLN.out
               simp only [List.length_cons, List.length_nil] at hwt ⊢
               exact ⟨HF.out.mono (by rw [wt_nil0, hw2]; omega), by omega⟩)
             have bb8 := BW7.trans (hbl.mono BW7.size)
             have H8 := Lib.hid hone
             have HA8 := Lib.hid (HA7.below hbl)
             have B8 := Lib.hid bb8
             obtain ⟨W8, hW8⟩ : ∃ W, W7.alloc (.cells (tA ((na, nl, nc), (ke.1 + kq.1, ke.2 + kq.2))) 104) = W := ⟨_, rfl⟩
             rw [hW8] at HA8 H8 B8
             have hs7 : W7.heap.size = (w5).heap.size := by rw [← hW7]; simp [World.setRow]
             rw [hs7] at H8
             rw [show W7.alloc (.cells #[.slice na nl nc, .int .i64 ((ke.1 + kq.1 : Nat) : Int), .int .i64 ((ke.2 + kq.2 : Nat) : Int)] 104) = W8 from hW8]
             clear hbl hone hwt hw1 hw2 bb8 BI7 BW7 VR7 HA7 hW8 hs7 hW7
             refine (qadd_any _ [((ke.1 + kq.1, ke.2 + kq.2), m * n)] _ _ _ HA8.out H8.out (fun x hx => by rw [List.mem_singleton] at hx; rw [hx]; exact HPO.out) HFF.out.1 HFF.out.2).mono ?_
             rintro e w9 ⟨v9, rfl, h9, b9⟩
             have B9 := Lib.hid (B8.out.trans (b9.mono B8.out.size))
             rw [← padd_append, List.append_assoc, ← show prodT (ke, m) [(kq, n)] = [((ke.1 + kq.1, ke.2 + kq.2), m * n)] from prodT_yes HOK.out, ← HKN.out] at h9
             have H9 := Lib.hid h9
             obtain ⟨aa9, ac9, rfl⟩ := refP_sl h9
             clear h9 b9
             go_wp2_with fail
             go_roundw
             case rel => exact ⟨k + 1, by omega, by go_num, H9.out, B9.out⟩
             case measure => simp [intOf]; omega
           · have HN9 := Lib.hid (show prodT (ke, m) (q.take (k + 1)) = prodT (ke, m) (q.take k) from by rw [HKN.out, prodT_no hok, List.append_nil])
             have HAF := Lib.hid HAX.out
             rw [← HN9.out] at HAF
             by_cases hA : ke.1 + kq.1 ≤ 2048
             · have hB : ¬ ke.2 + kq.2 ≤ 2048 := fun h => hok ⟨hA, h⟩
               have hd1 : decide (ke.1 + kq.1 ≤ 2048) = true := decide_eq_true hA
               have hd2 : decide (ke.2 + kq.2 ≤ 2048) = false := decide_eq_false hB
               have hi1 : decide ((ke.1 : Int) + (kq.1 : Int) ≤ 2048) = true := decide_eq_true (by omega)
               have hi2 : decide ((ke.2 : Int) + (kq.2 : Int) ≤ 2048) = false := decide_eq_false (by omega)
               clear hok hA hB
               go_wp2_with fail
               go_roundw
               case rel => exact ⟨k + 1, by omega, by go_num, HAF.out, BW.out⟩
               case measure => simp [intOf]; omega
             · have hd1 : decide (ke.1 + kq.1 ≤ 2048) = false := decide_eq_false hA
               have hi1 : decide ((ke.1 : Int) + (kq.1 : Int) ≤ 2048) = false := decide_eq_false (by omega)
               clear hok hA
               go_wp2_with fail
               go_roundw
               case rel => exact ⟨k + 1, by omega, by go_num, HAF.out, BW.out⟩
               case measure => simp [intOf]; omega
       · have hkq : q.take k = q := List.take_of_length_le hkl
         have hdk : decide (k < q.length) = false := decide_eq_false (by omega)
         have HAF := Lib.hid HA2.out
         rw [hkq, ← HJN.out] at HAF
         clear hkq
         go_wp2_with fail
         go_roundw
         case rel => exact ⟨j + 1, by omega, by go_num, HAF.out, HB2.out⟩
         case measure => simp [intOf]; omega
   · have hkl : p.take j = p := List.take_of_length_le hj2
     have hdj : decide (j < p.length) = false := decide_eq_false (by omega)
     rw [hkl] at HA
     clear hkl
     go_wp2_with fail
     go_ret
     exact ⟨_, rfl, HA.out, HB.out⟩
end Go.Proofs.YtgnlebnpnpjfmaaGreatDoor
