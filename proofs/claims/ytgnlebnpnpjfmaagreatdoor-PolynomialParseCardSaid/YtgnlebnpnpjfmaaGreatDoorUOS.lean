/- Walk of package polynomial: Parse. -/
import Derived.Test.YtgnlebnpnpjfmaaGreatDoorUOq
set_option linter.all false
namespace Go.Proofs.YtgnlebnpnpjfmaaGreatDoor
open Go Go.RowKit Go.Pal Go.Shelf Go.Sort Go.Lib
attribute [local go_sem] Oper.semAt_some
set_option maxRecDepth 100000 in
set_option maxHeartbeats 8000000 in
theorem pparse_any (s : List UInt8) (hl : s.length ≤ 7000) (w : World) (hE : Env w) :
   Calls Tryz.prog 12 #[.string ⟨s.toArray⟩] w fun e w' => ∃ v', e = .returned (.tuple #[v', .int .i64 ((parseP s).2 : Int)]) ∧ PolV w' v' (parseP s).1 ∧ Below w.heap.size w w' := by
 have hS := split3_any s (by omega) (w.alloc (.cells #[.map none] 24)) (hE.on ((Below.refl _ _).alloc (Nat.le_refl _) _))
 rw [World.size_alloc] at hS
 obtain ⟨L, hL⟩ : ∃ L, L = parts3 [] s := ⟨_, rfl⟩
 rw [← hL] at hS
 have hcnt : L.length ≤ s.length + 1 ∧ ∀ x ∈ L, x.length ≤ s.length := by
   have := parts3_bound s.length s (Nat.le_refl _) []
   rw [← hL] at this
   simpa using this
 have hsz : (⟨s.toArray⟩ : ByteArray).size = s.length := by simp [ByteArray.size]
 have hd0 : decide ((65536 : Int) < (s.length : Int)) = false := decide_eq_false (by omega)
 have HS := Lib.hid hS
 have hL0 := Lib.hid hL.symm
 have HCN := Lib.hid hcnt
 have HE := Lib.hid hE
 have hpz : (s = [48]) ∨ ¬ (s = [48]) := by by_cases h : s = [48]; exact .inl h; exact .inr h
 clear hS hcnt hE hsz hL
 rcases hpz with hz | hz
 · subst hz
   go_enter Tryz.func12, Tryz.ntmps12
   go_wp2_with fail
   have hpp : parseP [48] = ([], 0) := by unfold parseP; rw [if_pos rfl]
   rw [hpp]
   refine ret_row_tmp w.heap.size #[.map none] rfl Tryz.isAgg24 Tryz.sizeOf24 rfl rfl (row?_alloc_at _ _ _ _ rfl) rfl ?_
   exact ⟨_, rfl, polV_zero _, (Below.refl _ _).alloc (Nat.le_refl _) _⟩
 · have hsb : (s == [48]) = false := by rw [beq_eq_false_iff_ne]; exact hz
   have HZ := Lib.hid hz
   have hpp : parseP s = match foldP [] L with | none => ([], 3) | some l => if farP l then ([], 2) else (l, 0) := by
     unfold parseP
     rw [if_neg hz, hL0.out]
     cases foldP [] L <;> rfl
   have HPP := Lib.hid hpp
   obtain ⟨n, hn⟩ : ∃ n, n = L.length := ⟨_, rfl⟩
   rw [← hn] at HS
   have HN := Lib.hid hn
   clear hz hn hpp
   go_enter Tryz.func12, Tryz.ntmps12
   go_wp2_with fail
   refine HS.out.mono ?_
   rintro e w1 ⟨rfl, hrw, hb1, hs1⟩
   have rR := (row?_below hb1 (by simp)).trans (row?_alloc_at w #[Value.map none] 24 w.heap.size rfl)
   have hbw1 : Below w.heap.size w w1 := ((Below.refl w.heap.size w).alloc (Nat.le_refl _) _).trans (hb1.mono (by simp))
   have HRR := Lib.hid rR
   have HRW := Lib.hid (show row? w1 (w.heap.size + 1) = some (wordsR L) from hrw)
   have HBW := Lib.hid hbw1
   have HE1 := Lib.hid (HE.out.on hbw1)
   have hnl : n ≤ 7001 := by have := HCN.out.1; have := HN.out; omega
   clear rR hbw1 hb1 hrw HS
   go_wp2_with fail
   go_loopw [4, 5, 28] (fun v4 v5 i wr => ∃ (k : Nat) (acc : Pol) (ns : List (List UInt8)), k ≤ n ∧ i = .int .i64 (k : Int) ∧ foldP acc (L.drop k) = foldP [] L ∧ acc.length ≤ k ∧ NumsOk ns acc ∧ OwnStr w1.heap.size wr v4 ns ∧ OwnX w1.heap.size wr v5 (acc.map (·.1)) ∧ Below w1.heap.size w1 wr) (fun _ _ i _ => n - (intOf i).toNat)
   case atStart => exact ⟨0, [], [], Nat.zero_le _, rfl, rfl, Nat.le_refl _, NumsOk.nil, OwnR.nil _ _, OwnR.nil _ _, Below.refl _ _⟩
   case round =>
     obtain ⟨k, acc, ns, hk, rfl, hfo, hal, hns, hO4, hO5, hb⟩ := hrel
     have HFO := Lib.hid hfo
     have HNS := Lib.hid hns
     have HO4 := Lib.hid hO4
     have HO5 := Lib.hid hO5
     have HB := Lib.hid hb
     have hsz := hb.size
     obtain ⟨a4, c4, rfl⟩ := hO4.sl
     obtain ⟨a5, c5, rfl⟩ := hO5.sl
     have hml : (acc.map (·.1)).length = acc.length := by simp
     clear hfo hns hO4 hO5 hb
     rcases Nat.lt_or_ge k n with hk2 | hk2
     · obtain ⟨t, ht⟩ : ∃ t, L[k]? = some t := ⟨_, List.getElem?_eq_getElem (by have := HN.out; omega)⟩
       have htl := HCN.out.2 t (List.mem_of_getElem? ht)
       have hdg := drop_get ht
       have kt : wr.cell? ⟨w.heap.size + 1, k, none⟩ = some (.string ⟨t.toArray⟩) := (cell?_row ((row?_below HB.out hs1).trans HRW.out)).trans (wordsR_get ht)
       have HDG := Lib.hid hdg
       have HPR := Lib.hid (pread_any t (by omega) wr (HE1.out.on HB.out))
       clear ht hdg
       go_wp2_with fail
       refine HPR.out.mono ?_
       rintro e w2 ⟨hb2, hres⟩
       have hbw2 : Below w1.heap.size w1 w2 := HB.out.trans (hb2.mono hsz)
       have rS2 := (row?_below hbw2 (row?_lt HRR.out)).trans HRR.out
       have HO4' := Lib.hid (HO4.out.below hb2 (Nat.le_refl _))
       have HO5' := Lib.hid (HO5.out.below hb2 (Nat.le_refl _))
       have HB2 := Lib.hid hbw2
       have hs2 := hbw2.size
       clear hb2 HPR hbw2 HO4 HO5 HB kt
       rcases hres with ⟨x, w0, hrt, rfl, hnum, hdv, hwl⟩ | ⟨hrt, bs, ba, bb, rfl⟩
       · have HRT := Lib.hid (And.intro hrt (And.intro hnum (And.intro hdv hwl)))
         clear hrt hnum hdv hwl
         obtain ⟨xk, xn⟩ := x
         have hpwx : pwA xk = #[.int .i64 (xk.1 : Int), .int .i64 (xk.2 : Int)] := rfl
         simp only [hpwx]
         clear hpwx
         have hbA : Below w2.heap.size w2 (w2.alloc (.cells #[.int .i64 (xk.1 : Int), .int .i64 (xk.2 : Int)] 90)) := (Below.refl _ _).alloc (Nat.le_refl _) _
         obtain ⟨T9, hT9⟩ : ∃ T9, T9 = w2.heap.size := ⟨_, rfl⟩
         obtain ⟨W3, hW3⟩ : ∃ W3, w2.alloc (.cells #[.int .i64 (xk.1 : Int), .int .i64 (xk.2 : Int)] 90) = W3 := ⟨_, rfl⟩
         have r9 : row? W3 T9 = some #[.int .i64 (xk.1 : Int), .int .i64 (xk.2 : Int)] := by rw [← hW3]; exact row?_alloc_at _ _ _ _ hT9
         rw [hW3] at hbA
         have rS3 := (row?_below hbA (row?_lt rS2)).trans rS2
         have HB3 := Lib.hid (HB2.out.trans (hbA.mono hs2))
         have HO43 := Lib.hid (HO4'.out.below hbA (Nat.le_refl _))
         have HO53 := Lib.hid (HO5'.out.below hbA (Nat.le_refl _))
         have hb4 := HO4'.out.lt
         have hb5 := HO5'.out.lt
         have HL4 := Lib.hid (show (∀ j, (Value.slice a4 ns.length c4).ownBlock = some j → j < T9) ∧ (∀ j, (Value.slice a5 (List.map (fun x : Ex × Nat => x.1) acc).length c5).ownBlock = some j → j < T9) by rw [hT9]; exact ⟨hb4, hb5⟩)
         have HW3 := Lib.hid hW3
         have HT9 := Lib.hid hT9
         have hBT : w1.heap.size ≤ T9 := by omega
         have h9l := row?_lt r9
         have HNX := Lib.hid (show foldP acc (L.drop k) = if nextP acc (xk, xn) then foldP (acc ++ [(xk, xn)]) (L.drop (k + 1)) else none by rw [HDG.out, foldP_some HRT.out.1])
         have HNO := Lib.hid (HNS.out.snoc (x := (xk, xn)) HRT.out.2.1 HRT.out.2.2.1 (by have := HRT.out.2.2.2; omega))
         have hal4 : ns.length < 4000000 := by have := HNS.out.len; omega
         have hal5 : (List.map (fun x : Ex × Nat => x.1) acc).length < 4000000 := by simp; omega
         have HAL := Lib.hid (And.intro hal4 hal5)
         clear hbA rS2 hW3 hT9 hb4 hb5 HO4' HO5' hal4 hal5
         obtain rfl | ⟨acc', y, rfl⟩ : acc = [] ∨ ∃ acc' y, acc = acc' ++ [y] := by
           rcases List.eq_nil_or_concat acc with h | ⟨a, b, h⟩
           · exact .inl h
           · exact .inr ⟨a, b, by rw [h, List.concat_eq_append]⟩
         · have hml0 : ([] : Pol).length = 0 := rfl
           go_wp2_with fail
           rw [HW3.out, ← HT9.out]
           refine wp_region_mix (fun W => W = W3.drew) 17 [(0, true), (1, true), (2, true), (3, true), (4, true), (5, true), (6, true), (7, true), (8, true), (9, true), (10, true), (11, true), (12, true), (13, true), (14, false), (15, true), (16, true)] (by kernel_rfl) (by kernel_rfl) rfl ?_
           repeat (first | (apply wpPlan_still rfl rfl; (intro w hw; subst hw; go_simp; (try go_ints); (first | with_reducible rfl | (go_simp; with_reducible rfl))); (intro K hK; go_simp; (try go_ints); refine hK _ _ ?_; clear hK K)) | (apply wpPlan_stillG rfl rfl; (intro w hw; subst hw; go_simp; (try go_ints); (first | with_reducible rfl | (go_simp; with_reducible rfl))); (intro K hK; go_simp; (try go_ints); refine hK _ _ ?_; clear hK K)) | (apply wpPlan_skip rfl rfl; (intro K hK; go_simp; (try go_ints); refine hK _ _ ?_; clear hK K)))
           refine wpPlan_skipA ?_ rfl rfl ?_
           · rfl
           intro K' hK'
           go_simp
           refine hK' _ _ ?_
           clear hK' K'
           repeat (first | (apply wpPlan_still rfl rfl; (intro w hw; subst hw; go_simp; (try go_ints); (first | with_reducible rfl | (go_simp; with_reducible rfl))); (intro K hK; go_simp; (try go_ints); refine hK _ _ ?_; clear hK K)) | (apply wpPlan_stillG rfl rfl; (intro w hw; subst hw; go_simp; (try go_ints); (first | with_reducible rfl | (go_simp; with_reducible rfl))); (intro K hK; go_simp; (try go_ints); refine hK _ _ ?_; clear hK K)) | (apply wpPlan_skip rfl rfl; (intro K hK; go_simp; (try go_ints); refine hK _ _ ?_; clear hK K)))
           refine wpPlan_nil ?_
           simp only [List.drop_succ_cons, List.drop_zero]
           have HFN := Lib.hid (show foldP ([] ++ [(xk, xn)]) (L.drop (k + 1)) = foldP [] L by rw [← HFO.out, HNX.out, nextP_nil]; rfl)
           have hb5 : Below W3.heap.size W3 W3.drew := (Below.refl _ _).drew
           have o4 := HO43.out.below hb5 (Nat.le_refl _)
           have o5 := HO53.out.below hb5 (Nat.le_refl _)
           have q9 := (row?_below hb5 h9l).trans r9
           have hsB : w1.heap.size ≤ (W3.drew).heap.size := by have := hb5.size; omega
           have hT5 : T9 < (W3.drew).heap.size := by have := hb5.size; omega
           have HO4w := Lib.hid o4
           have HO5w := Lib.hid o5
           have HB5 := Lib.hid (HB3.out.trans (hb5.mono (by omega)))
           clear o4 o5 hb5
           go_wp2_with fail
           refine wp_region_mixT (fun W => row? W T9 = some #[.int .i64 (xk.1 : Int), .int .i64 (xk.2 : Int)] ∧ w1.heap.size ≤ W.heap.size) 8 (.read 0 (.read 1 (.read 4 (.read 5 (.fork 2 6 (.fork 3 6 (.act 6 (.act 7 .done)) (.act 3 (.act 7 .done))) (.act 2 (.act 3 (.act 7 .done)))))))) (by kernel_rfl) (by kernel_rfl) ⟨q9, hsB⟩ ?_
           repeat (apply wpPlanT_still rfl rfl; (intro w hw; obtain ⟨k1, k2⟩ := hw; go_simp; (try go_ints); (first | with_reducible rfl | (go_simp; with_reducible rfl))); (intro K hK; go_simp; (try go_ints); refine hK _ _ ?_; clear hK K))
           obtain ⟨X0, hX0⟩ : ∃ X0, (W3.drew).drew = X0 := ⟨_, rfl⟩
           have o40 : OwnStr w1.heap.size X0 (.slice a4 ns.length c4) ns := by rw [← hX0]; exact HO4w.out.below (Below.refl _ _).drew (Nat.le_refl _)
           have o50 : OwnX w1.heap.size X0 (.slice a5 (0) c5) (List.map (fun x : Ex × Nat => x.1) (([] : Pol))) := by rw [← hX0]; exact HO5w.out.below (Below.refl _ _).drew (Nat.le_refl _)
           have r90 : row? X0 T9 = some #[.int .i64 (xk.1 : Int), .int .i64 (xk.2 : Int)] := by rw [← hX0]; exact q9
           have s0 : w1.heap.size ≤ X0.heap.size := by rw [← hX0]; exact hsB
           have w0' : Below w1.heap.size w1 X0 := by rw [← hX0]; exact HB5.out.drew
           have wX0 := w0'
           have n4 : (Value.slice a4 ns.length c4).ownBlock ≠ some T9 := fun e => absurd (HL4.out.1 _ e) (Nat.lt_irrefl _)
           have n5 : (Value.slice a5 (0) c5).ownBlock ≠ some T9 := fun e => absurd (HL4.out.2 _ e) (Nat.lt_irrefl _)
           have l4 := HL4.out.1
           have l5 := HL4.out.2
           rw [hX0]
           clear hX0 q9 hsB hT5
           refine wpPlanT_fork ?_ ?_
           · apply wpPlanT_act rfl rfl
             intro K hK
             unfold Oper.wp
             go_simp
             obtain ⟨Xa, hXa⟩ : ∃ X, X0.alloc (.cells #[.string ⟨w0.toArray⟩] 9) = X := ⟨_, rfl⟩
             have ba : Below X0.heap.size X0 Xa := by rw [← hXa]; exact (Below.refl _ _).alloc (Nat.le_refl _) _
             have la : row? Xa X0.heap.size = some #[.string ⟨w0.toArray⟩] := by rw [← hXa]; exact row?_alloc_at _ _ _ _ rfl
             have o4a := o40.below ba (Nat.le_refl _)
             have o5a := o50.below ba (Nat.le_refl _)
             have r9a := (row?_below ba (row?_lt r90)).trans r90
             have sa : w1.heap.size ≤ Xa.heap.size := by have := ba.size; omega
             have wXa := wX0.trans (ba.mono s0)
             rw [hXa]
             refine hK _ _ ⟨r9a, sa⟩ ?_
             clear hK K hXa
             refine wpPlanT_fork ?_ ?_
             · apply wpPlanT_act rfl rfl
               intro K hK
               refine wp_appO elStr 86 Tryz.underlying86 _ _ rfl w1.heap.size _ ns rfl o4a (X0.heap.size) w0 _ rfl la HAL.out.1 sa ?_
               intro v4n Xb o4b bb gb hb
               have o5b := o5a.same fun g hg => gb.block g (o5a.lt g hg) (fun e => own_apart o4a o5a g e.symm hg)
               have r9b := (grown_row gb n4 (row?_lt r9a)).trans r9a
               have sb : w1.heap.size ≤ Xb.heap.size := by have := bb.size; omega
               have wXb := wXa.trans bb
               refine hK _ _ ⟨r9b, sb⟩ ?_
               clear hK K
               apply wpPlanT_act rfl rfl
               intro K hK
               unfold Oper.wp
               go_simp
               obtain ⟨Xc, hXc⟩ : ∃ X, Xb.alloc (.cells #[.int .i64 (xk.1 : Int), .int .i64 (xk.2 : Int)] 90) = X := ⟨_, rfl⟩
               have bc : Below Xb.heap.size Xb Xc := by rw [← hXc]; exact (Below.refl _ _).alloc (Nat.le_refl _) _
               have lc : row? Xc Xb.heap.size = some #[.int .i64 (xk.1 : Int), .int .i64 (xk.2 : Int)] := by rw [← hXc]; exact row?_alloc_at _ _ _ _ rfl
               have o4c := o4b.below bc (Nat.le_refl _)
               have o5c := o5b.below bc (Nat.le_refl _)
               have r9c := (row?_below bc (row?_lt r9b)).trans r9b
               have sc : w1.heap.size ≤ Xc.heap.size := by have := bc.size; omega
               have wXc := wXb.trans (bc.mono sb)
               rw [hXc]
               refine hK _ _ ⟨r9c, sc⟩ ?_
               clear hK K hXc
               apply wpPlanT_act rfl rfl
               intro K hK
               refine wp_appO elX 87 Tryz.underlying87 _ _ rfl w1.heap.size _ (List.map (fun x : Ex × Nat => x.1) (([] : Pol))) rfl o5c (Xb.heap.size) xk _ rfl lc HAL.out.2 sc ?_
               intro v5n Xd o5d bd gd hd
               have o4d := o4c.same fun g hg => gd.block g (o4c.lt g hg) (fun e => own_apart o4c o5c g hg e.symm)
               have r9d := (grown_row gd n5 (row?_lt r9c)).trans r9c
               have sd : w1.heap.size ≤ Xd.heap.size := by have := bd.size; omega
               have wXd := wXc.trans bd
               refine hK _ _ ⟨r9d, sd⟩ ?_
               clear hK K
               refine wpPlanT_done ?_
               simp only [List.drop_succ_cons, List.drop_zero]
               have HF4 := Lib.hid o4d
               have HF5 := Lib.hid o5d
               have HFW := Lib.hid wXd
               have HR := Lib.hid (And.intro HFN.out HNO.out)
               go_wp2_with fail
               go_roundw
               case rel => exact ⟨k + 1, (([] : Pol)) ++ [(xk, xn)], ns ++ [w0], by omega, by go_num, HR.out.1, by rw [List.length_append]; exact Nat.succ_le_succ hal, HR.out.2, HF4.out, by rw [List.map_append]; exact HF5.out, HFW.out⟩
               case measure => simp [intOf]; omega
             · apply wpPlanT_act rfl rfl
               intro K hK
               unfold Oper.wp
               go_simp
               obtain ⟨Xb, hXb⟩ : ∃ X, Xa.alloc (.cells #[.int .i64 (xk.1 : Int), .int .i64 (xk.2 : Int)] 90) = X := ⟨_, rfl⟩
               have bb : Below Xa.heap.size Xa Xb := by rw [← hXb]; exact (Below.refl _ _).alloc (Nat.le_refl _) _
               have lb : row? Xb Xa.heap.size = some #[.int .i64 (xk.1 : Int), .int .i64 (xk.2 : Int)] := by rw [← hXb]; exact row?_alloc_at _ _ _ _ rfl
               have o4b := o4a.below bb (Nat.le_refl _)
               have o5b := o5a.below bb (Nat.le_refl _)
               have r9b := (row?_below bb (row?_lt r9a)).trans r9a
               have sb : w1.heap.size ≤ Xb.heap.size := by have := bb.size; omega
               have wXb := wXa.trans (bb.mono sa)
               rw [hXb]
               refine hK _ _ ⟨r9b, sb⟩ ?_
               clear hK K hXb
               have la' := (row?_below bb (row?_lt la)).trans la
               apply wpPlanT_act rfl rfl
               intro K hK
               refine wp_appO elStr 86 Tryz.underlying86 _ _ rfl w1.heap.size _ ns rfl o4b (X0.heap.size) w0 _ rfl la' HAL.out.1 sb ?_
               intro v4n Xc o4c bc gc hc
               have o5c := o5b.same fun g hg => gc.block g (o5b.lt g hg) (fun e => own_apart o4b o5b g e.symm hg)
               have r9c := (grown_row gc n4 (row?_lt r9b)).trans r9b
               have sc : w1.heap.size ≤ Xc.heap.size := by have := bc.size; omega
               have wXc := wXb.trans bc
               refine hK _ _ ⟨r9c, sc⟩ ?_
               clear hK K
               have lb' := (grown_row gc (fun e => by have := l4 _ e; have := row?_lt r90; have := ba.size; omega) (row?_lt lb)).trans lb
               apply wpPlanT_act rfl rfl
               intro K hK
               refine wp_appO elX 87 Tryz.underlying87 _ _ rfl w1.heap.size _ (List.map (fun x : Ex × Nat => x.1) (([] : Pol))) rfl o5c (Xa.heap.size) xk _ rfl lb' HAL.out.2 sc ?_
               intro v5n Xd o5d bd gd hd
               have o4d := o4c.same fun g hg => gd.block g (o4c.lt g hg) (fun e => own_apart o4c o5c g hg e.symm)
               have r9d := (grown_row gd n5 (row?_lt r9c)).trans r9c
               have sd : w1.heap.size ≤ Xd.heap.size := by have := bd.size; omega
               have wXd := wXc.trans bd
               refine hK _ _ ⟨r9d, sd⟩ ?_
               clear hK K
               refine wpPlanT_done ?_
               simp only [List.drop_succ_cons, List.drop_zero]
               have HF4 := Lib.hid o4d
               have HF5 := Lib.hid o5d
               have HFW := Lib.hid wXd
               have HR := Lib.hid (And.intro HFN.out HNO.out)
               go_wp2_with fail
               go_roundw
               case rel => exact ⟨k + 1, (([] : Pol)) ++ [(xk, xn)], ns ++ [w0], by omega, by go_num, HR.out.1, by rw [List.length_append]; exact Nat.succ_le_succ hal, HR.out.2, HF4.out, by rw [List.map_append]; exact HF5.out, HFW.out⟩
               case measure => simp [intOf]; omega
           · apply wpPlanT_act rfl rfl
             intro K hK
             unfold Oper.wp
             go_simp
             obtain ⟨Xa, hXa⟩ : ∃ X, X0.alloc (.cells #[.int .i64 (xk.1 : Int), .int .i64 (xk.2 : Int)] 90) = X := ⟨_, rfl⟩
             have ba : Below X0.heap.size X0 Xa := by rw [← hXa]; exact (Below.refl _ _).alloc (Nat.le_refl _) _
             have la : row? Xa X0.heap.size = some #[.int .i64 (xk.1 : Int), .int .i64 (xk.2 : Int)] := by rw [← hXa]; exact row?_alloc_at _ _ _ _ rfl
             have o4a := o40.below ba (Nat.le_refl _)
             have o5a := o50.below ba (Nat.le_refl _)
             have r9a := (row?_below ba (row?_lt r90)).trans r90
             have sa : w1.heap.size ≤ Xa.heap.size := by have := ba.size; omega
             have wXa := wX0.trans (ba.mono s0)
             rw [hXa]
             refine hK _ _ ⟨r9a, sa⟩ ?_
             clear hK K hXa
             apply wpPlanT_act rfl rfl
             intro K hK
             unfold Oper.wp
             go_simp
             obtain ⟨Xb, hXb⟩ : ∃ X, Xa.alloc (.cells #[.string ⟨w0.toArray⟩] 9) = X := ⟨_, rfl⟩
             have bb : Below Xa.heap.size Xa Xb := by rw [← hXb]; exact (Below.refl _ _).alloc (Nat.le_refl _) _
             have lb : row? Xb Xa.heap.size = some #[.string ⟨w0.toArray⟩] := by rw [← hXb]; exact row?_alloc_at _ _ _ _ rfl
             have o4b := o4a.below bb (Nat.le_refl _)
             have o5b := o5a.below bb (Nat.le_refl _)
             have r9b := (row?_below bb (row?_lt r9a)).trans r9a
             have sb : w1.heap.size ≤ Xb.heap.size := by have := bb.size; omega
             have wXb := wXa.trans (bb.mono sa)
             rw [hXb]
             refine hK _ _ ⟨r9b, sb⟩ ?_
             clear hK K hXb
             apply wpPlanT_act rfl rfl
             intro K hK
             refine wp_appO elStr 86 Tryz.underlying86 _ _ rfl w1.heap.size _ ns rfl o4b (Xa.heap.size) w0 _ rfl lb HAL.out.1 sb ?_
             intro v4n Xc o4c bc gc hc
             have o5c := o5b.same fun g hg => gc.block g (o5b.lt g hg) (fun e => own_apart o4b o5b g e.symm hg)
             have r9c := (grown_row gc n4 (row?_lt r9b)).trans r9b
             have sc : w1.heap.size ≤ Xc.heap.size := by have := bc.size; omega
             have wXc := wXb.trans bc
             refine hK _ _ ⟨r9c, sc⟩ ?_
             clear hK K
             have la' := (grown_row gc (fun e => by have := l4 _ e; have := row?_lt r90; omega) (Nat.lt_of_lt_of_le (row?_lt la) bb.size)).trans ((row?_below bb (row?_lt la)).trans la)
             apply wpPlanT_act rfl rfl
             intro K hK
             refine wp_appO elX 87 Tryz.underlying87 _ _ rfl w1.heap.size _ (List.map (fun x : Ex × Nat => x.1) (([] : Pol))) rfl o5c (X0.heap.size) xk _ rfl la' HAL.out.2 sc ?_
             intro v5n Xd o5d bd gd hd
             have o4d := o4c.same fun g hg => gd.block g (o4c.lt g hg) (fun e => own_apart o4c o5c g hg e.symm)
             have r9d := (grown_row gd n5 (row?_lt r9c)).trans r9c
             have sd : w1.heap.size ≤ Xd.heap.size := by have := bd.size; omega
             have wXd := wXc.trans bd
             refine hK _ _ ⟨r9d, sd⟩ ?_
             clear hK K
             refine wpPlanT_done ?_
             simp only [List.drop_succ_cons, List.drop_zero]
             have HF4 := Lib.hid o4d
             have HF5 := Lib.hid o5d
             have HFW := Lib.hid wXd
             have HR := Lib.hid (And.intro HFN.out HNO.out)
             go_wp2_with fail
             go_roundw
             case rel => exact ⟨k + 1, (([] : Pol)) ++ [(xk, xn)], ns ++ [w0], by omega, by go_num, HR.out.1, by rw [List.length_append]; exact Nat.succ_le_succ hal, HR.out.2, HF4.out, by rw [List.map_append]; exact HF5.out, HFW.out⟩
             case measure => simp [intOf]; omega
         · have hrd := HO53.out.rd elX
           have hml1 : (acc' ++ [y]).length = acc'.length + 1 := by simp
           have hml2 : (List.map (fun x : Ex × Nat => x.1) (acc' ++ [y])).length = acc'.length + 1 := by simp
           obtain ⟨b5, off5, c5', z, hsl, hbB, hz, hcc⟩ := hrd.at (i := acc'.length) (by rw [hml2]; omega)
           have hzy : z = y.1 := by
             rw [List.getElem?_map, List.getElem?_append_right (Nat.le_refl _)] at hz
             simpa using hz.symm
           subst hzy
           rw [hml2] at hsl
           simp only [Value.slice.injEq] at hsl
           obtain ⟨hsa, -, rfl⟩ := hsl
           rw [hml2] at HO53 HL4
           have HSA := Lib.hid hsa
           have HJL := Lib.hid fun W (hb : Below W3.heap.size W3 W) => show rowLoad Tryz.prog 90 ⟨b5, off5 + acc'.length * 2, none⟩ W = .ok (.agg #[.int .i64 (y.1.1 : Int), .int .i64 (y.1.2 : Int)]) W ∧ row? W T9 = some #[.int .i64 (xk.1 : Int), .int .i64 (xk.2 : Int)] from
             ⟨load_cells Tryz.isAgg90 Tryz.sizeOf90 W b5 _ (pwA y.1) rfl fun j u hu => hcc W hb j u hu, (row?_below hb h9l).trans r9⟩
           subst hsa
           have hix : (acc'.length : Int) < (acc'.length : Int) + 1 := by omega
           clear hrd hz hcc hbB hml1
           go_wp2_with fail
           rw [HW3.out, ← HT9.out]
           refine wp_region_mix (fun W => Below W3.heap.size W3 W) 17 [(0, true), (1, true), (2, true), (3, true), (4, true), (5, true), (6, true), (7, true), (8, true), (9, true), (10, true), (11, true), (12, true), (13, true), (14, false), (15, true), (16, true)] (by kernel_rfl) (by kernel_rfl) (Below.refl _ _).drew ?_
           repeat (first | (apply wpPlan_still rfl rfl; (intro w hw; obtain ⟨k1, k2⟩ := HJL.out w hw; clear hw; go_simp; (try go_ints); (first | with_reducible rfl | (go_simp; with_reducible rfl))); (intro K hK; go_simp; (try go_ints); refine hK _ _ ?_; clear hK K)) | (apply wpPlan_stillG rfl rfl; (intro w hw; obtain ⟨k1, k2⟩ := HJL.out w hw; clear hw; go_simp; (try go_ints); (first | with_reducible rfl | (go_simp; with_reducible rfl))); (intro K hK; go_simp; (try go_ints); refine hK _ _ ?_; clear hK K)) | (apply wpPlan_skip rfl rfl; (intro K hK; go_simp; (try go_ints); refine hK _ _ ?_; clear hK K)))
           refine wpPlan_actG rfl rfl ?_
           intro K' hK'
           unfold Oper.wp
           go_simp
           refine (porder_any y.1 xk _).mono ?_
           rintro e w5 ⟨rfl, hx5⟩
           have hb5 : Below W3.heap.size W3 w5 := (Below.refl _ _).drew.trans hx5.1
           refine hK' _ _ hb5 ?_
           clear hK' K' hx5
           have hcm := cmpX_neg y.1 xk
           have HCM := Lib.hid hcm
           clear hcm
           repeat (first | (apply wpPlan_still rfl rfl; (intro w hw; obtain ⟨k1, k2⟩ := HJL.out w hw; clear hw; go_simp; (try go_ints); (first | with_reducible rfl | (go_simp; with_reducible rfl))); (intro K hK; go_simp; (try go_ints); refine hK _ _ ?_; clear hK K)) | (apply wpPlan_stillG rfl rfl; (intro w hw; obtain ⟨k1, k2⟩ := HJL.out w hw; clear hw; go_simp; (try go_ints); (first | with_reducible rfl | (go_simp; with_reducible rfl))); (intro K hK; go_simp; (try go_ints); refine hK _ _ ?_; clear hK K)) | (apply wpPlan_skip rfl rfl; (intro K hK; go_simp; (try go_ints); refine hK _ _ ?_; clear hK K)))
           refine wpPlan_nil ?_
           simp only [List.drop_succ_cons, List.drop_zero]
           rw [HCM.out]
           cases hlt : ltX y.1 xk with
           | true =>
             have HFN := Lib.hid (show foldP ((acc' ++ [y]) ++ [(xk, xn)]) (L.drop (k + 1)) = foldP [] L by rw [← HFO.out, HNX.out, nextP_snoc]; simp only; rw [hlt]; rfl)
             clear hlt HCM
             have o4 := HO43.out.below hb5 (Nat.le_refl _)
             have o5 := HO53.out.below hb5 (Nat.le_refl _)
             have q9 := (row?_below hb5 h9l).trans r9
             have hsB : w1.heap.size ≤ (w5).heap.size := by have := hb5.size; omega
             have hT5 : T9 < (w5).heap.size := by have := hb5.size; omega
             have HO4w := Lib.hid o4
             have HO5w := Lib.hid o5
             have HB5 := Lib.hid (HB3.out.trans (hb5.mono (by omega)))
             clear o4 o5 hb5
             go_wp2_with fail
             refine wp_region_mixT (fun W => row? W T9 = some #[.int .i64 (xk.1 : Int), .int .i64 (xk.2 : Int)] ∧ w1.heap.size ≤ W.heap.size) 8 (.read 0 (.read 1 (.read 4 (.read 5 (.fork 2 6 (.fork 3 6 (.act 6 (.act 7 .done)) (.act 3 (.act 7 .done))) (.act 2 (.act 3 (.act 7 .done)))))))) (by kernel_rfl) (by kernel_rfl) ⟨q9, hsB⟩ ?_
             repeat (apply wpPlanT_still rfl rfl; (intro w hw; obtain ⟨k1, k2⟩ := hw; go_simp; (try go_ints); (first | with_reducible rfl | (go_simp; with_reducible rfl))); (intro K hK; go_simp; (try go_ints); refine hK _ _ ?_; clear hK K))
             obtain ⟨X0, hX0⟩ : ∃ X0, (w5).drew = X0 := ⟨_, rfl⟩
             have o40 : OwnStr w1.heap.size X0 (.slice a4 ns.length c4) ns := by rw [← hX0]; exact HO4w.out.below (Below.refl _ _).drew (Nat.le_refl _)
             have o50 : OwnX w1.heap.size X0 (.slice (some ⟨b5, off5, none⟩) (acc'.length + 1) c5) (List.map (fun x : Ex × Nat => x.1) ((acc' ++ [y]))) := by rw [← hX0]; exact HO5w.out.below (Below.refl _ _).drew (Nat.le_refl _)
             have r90 : row? X0 T9 = some #[.int .i64 (xk.1 : Int), .int .i64 (xk.2 : Int)] := by rw [← hX0]; exact q9
             have s0 : w1.heap.size ≤ X0.heap.size := by rw [← hX0]; exact hsB
             have w0' : Below w1.heap.size w1 X0 := by rw [← hX0]; exact HB5.out.drew
             have wX0 := w0'
             have n4 : (Value.slice a4 ns.length c4).ownBlock ≠ some T9 := fun e => absurd (HL4.out.1 _ e) (Nat.lt_irrefl _)
             have n5 : (Value.slice (some ⟨b5, off5, none⟩) (acc'.length + 1) c5).ownBlock ≠ some T9 := fun e => absurd (HL4.out.2 _ e) (Nat.lt_irrefl _)
             have l4 := HL4.out.1
             have l5 := HL4.out.2
             rw [hX0]
             clear hX0 q9 hsB hT5
             refine wpPlanT_fork ?_ ?_
             · apply wpPlanT_act rfl rfl
               intro K hK
               unfold Oper.wp
               go_simp
               obtain ⟨Xa, hXa⟩ : ∃ X, X0.alloc (.cells #[.string ⟨w0.toArray⟩] 9) = X := ⟨_, rfl⟩
               have ba : Below X0.heap.size X0 Xa := by rw [← hXa]; exact (Below.refl _ _).alloc (Nat.le_refl _) _
               have la : row? Xa X0.heap.size = some #[.string ⟨w0.toArray⟩] := by rw [← hXa]; exact row?_alloc_at _ _ _ _ rfl
               have o4a := o40.below ba (Nat.le_refl _)
               have o5a := o50.below ba (Nat.le_refl _)
               have r9a := (row?_below ba (row?_lt r90)).trans r90
               have sa : w1.heap.size ≤ Xa.heap.size := by have := ba.size; omega
               have wXa := wX0.trans (ba.mono s0)
               rw [hXa]
               refine hK _ _ ⟨r9a, sa⟩ ?_
               clear hK K hXa
               refine wpPlanT_fork ?_ ?_
               · apply wpPlanT_act rfl rfl
                 intro K hK
                 refine wp_appO elStr 86 Tryz.underlying86 _ _ rfl w1.heap.size _ ns rfl o4a (X0.heap.size) w0 _ rfl la HAL.out.1 sa ?_
                 intro v4n Xb o4b bb gb hb
                 have o5b := o5a.same fun g hg => gb.block g (o5a.lt g hg) (fun e => own_apart o4a o5a g e.symm hg)
                 have r9b := (grown_row gb n4 (row?_lt r9a)).trans r9a
                 have sb : w1.heap.size ≤ Xb.heap.size := by have := bb.size; omega
                 have wXb := wXa.trans bb
                 refine hK _ _ ⟨r9b, sb⟩ ?_
                 clear hK K
                 apply wpPlanT_act rfl rfl
                 intro K hK
                 unfold Oper.wp
                 go_simp
                 obtain ⟨Xc, hXc⟩ : ∃ X, Xb.alloc (.cells #[.int .i64 (xk.1 : Int), .int .i64 (xk.2 : Int)] 90) = X := ⟨_, rfl⟩
                 have bc : Below Xb.heap.size Xb Xc := by rw [← hXc]; exact (Below.refl _ _).alloc (Nat.le_refl _) _
                 have lc : row? Xc Xb.heap.size = some #[.int .i64 (xk.1 : Int), .int .i64 (xk.2 : Int)] := by rw [← hXc]; exact row?_alloc_at _ _ _ _ rfl
                 have o4c := o4b.below bc (Nat.le_refl _)
                 have o5c := o5b.below bc (Nat.le_refl _)
                 have r9c := (row?_below bc (row?_lt r9b)).trans r9b
                 have sc : w1.heap.size ≤ Xc.heap.size := by have := bc.size; omega
                 have wXc := wXb.trans (bc.mono sb)
                 rw [hXc]
                 refine hK _ _ ⟨r9c, sc⟩ ?_
                 clear hK K hXc
                 apply wpPlanT_act rfl rfl
                 intro K hK
                 refine wp_appO elX 87 Tryz.underlying87 _ _ rfl w1.heap.size _ (List.map (fun x : Ex × Nat => x.1) ((acc' ++ [y]))) rfl o5c (Xb.heap.size) xk _ rfl lc HAL.out.2 sc ?_
                 intro v5n Xd o5d bd gd hd
                 have o4d := o4c.same fun g hg => gd.block g (o4c.lt g hg) (fun e => own_apart o4c o5c g hg e.symm)
                 have r9d := (grown_row gd n5 (row?_lt r9c)).trans r9c
                 have sd : w1.heap.size ≤ Xd.heap.size := by have := bd.size; omega
                 have wXd := wXc.trans bd
                 refine hK _ _ ⟨r9d, sd⟩ ?_
                 clear hK K
                 refine wpPlanT_done ?_
                 simp only [List.drop_succ_cons, List.drop_zero]
                 have HF4 := Lib.hid o4d
                 have HF5 := Lib.hid o5d
                 have HFW := Lib.hid wXd
                 have HR := Lib.hid (And.intro HFN.out HNO.out)
                 go_wp2_with fail
                 go_roundw
                 case rel => exact ⟨k + 1, ((acc' ++ [y])) ++ [(xk, xn)], ns ++ [w0], by omega, by go_num, HR.out.1, by rw [List.length_append]; exact Nat.succ_le_succ hal, HR.out.2, HF4.out, by rw [List.map_append]; exact HF5.out, HFW.out⟩
                 case measure => simp [intOf]; omega
               · apply wpPlanT_act rfl rfl
                 intro K hK
                 unfold Oper.wp
                 go_simp
                 obtain ⟨Xb, hXb⟩ : ∃ X, Xa.alloc (.cells #[.int .i64 (xk.1 : Int), .int .i64 (xk.2 : Int)] 90) = X := ⟨_, rfl⟩
                 have bb : Below Xa.heap.size Xa Xb := by rw [← hXb]; exact (Below.refl _ _).alloc (Nat.le_refl _) _
                 have lb : row? Xb Xa.heap.size = some #[.int .i64 (xk.1 : Int), .int .i64 (xk.2 : Int)] := by rw [← hXb]; exact row?_alloc_at _ _ _ _ rfl
                 have o4b := o4a.below bb (Nat.le_refl _)
                 have o5b := o5a.below bb (Nat.le_refl _)
                 have r9b := (row?_below bb (row?_lt r9a)).trans r9a
                 have sb : w1.heap.size ≤ Xb.heap.size := by have := bb.size; omega
                 have wXb := wXa.trans (bb.mono sa)
                 rw [hXb]
                 refine hK _ _ ⟨r9b, sb⟩ ?_
                 clear hK K hXb
                 have la' := (row?_below bb (row?_lt la)).trans la
                 apply wpPlanT_act rfl rfl
                 intro K hK
                 refine wp_appO elStr 86 Tryz.underlying86 _ _ rfl w1.heap.size _ ns rfl o4b (X0.heap.size) w0 _ rfl la' HAL.out.1 sb ?_
                 intro v4n Xc o4c bc gc hc
                 have o5c := o5b.same fun g hg => gc.block g (o5b.lt g hg) (fun e => own_apart o4b o5b g e.symm hg)
                 have r9c := (grown_row gc n4 (row?_lt r9b)).trans r9b
                 have sc : w1.heap.size ≤ Xc.heap.size := by have := bc.size; omega
                 have wXc := wXb.trans bc
                 refine hK _ _ ⟨r9c, sc⟩ ?_
                 clear hK K
                 have lb' := (grown_row gc (fun e => by have := l4 _ e; have := row?_lt r90; have := ba.size; omega) (row?_lt lb)).trans lb
                 apply wpPlanT_act rfl rfl
                 intro K hK
                 refine wp_appO elX 87 Tryz.underlying87 _ _ rfl w1.heap.size _ (List.map (fun x : Ex × Nat => x.1) ((acc' ++ [y]))) rfl o5c (Xa.heap.size) xk _ rfl lb' HAL.out.2 sc ?_
                 intro v5n Xd o5d bd gd hd
                 have o4d := o4c.same fun g hg => gd.block g (o4c.lt g hg) (fun e => own_apart o4c o5c g hg e.symm)
                 have r9d := (grown_row gd n5 (row?_lt r9c)).trans r9c
                 have sd : w1.heap.size ≤ Xd.heap.size := by have := bd.size; omega
                 have wXd := wXc.trans bd
                 refine hK _ _ ⟨r9d, sd⟩ ?_
                 clear hK K
                 refine wpPlanT_done ?_
                 simp only [List.drop_succ_cons, List.drop_zero]
                 have HF4 := Lib.hid o4d
                 have HF5 := Lib.hid o5d
                 have HFW := Lib.hid wXd
                 have HR := Lib.hid (And.intro HFN.out HNO.out)
                 go_wp2_with fail
                 go_roundw
                 case rel => exact ⟨k + 1, ((acc' ++ [y])) ++ [(xk, xn)], ns ++ [w0], by omega, by go_num, HR.out.1, by rw [List.length_append]; exact Nat.succ_le_succ hal, HR.out.2, HF4.out, by rw [List.map_append]; exact HF5.out, HFW.out⟩
                 case measure => simp [intOf]; omega
             · apply wpPlanT_act rfl rfl
               intro K hK
               unfold Oper.wp
               go_simp
               obtain ⟨Xa, hXa⟩ : ∃ X, X0.alloc (.cells #[.int .i64 (xk.1 : Int), .int .i64 (xk.2 : Int)] 90) = X := ⟨_, rfl⟩
               have ba : Below X0.heap.size X0 Xa := by rw [← hXa]; exact (Below.refl _ _).alloc (Nat.le_refl _) _
               have la : row? Xa X0.heap.size = some #[.int .i64 (xk.1 : Int), .int .i64 (xk.2 : Int)] := by rw [← hXa]; exact row?_alloc_at _ _ _ _ rfl
               have o4a := o40.below ba (Nat.le_refl _)
               have o5a := o50.below ba (Nat.le_refl _)
               have r9a := (row?_below ba (row?_lt r90)).trans r90
               have sa : w1.heap.size ≤ Xa.heap.size := by have := ba.size; omega
               have wXa := wX0.trans (ba.mono s0)
               rw [hXa]
               refine hK _ _ ⟨r9a, sa⟩ ?_
               clear hK K hXa
               apply wpPlanT_act rfl rfl
               intro K hK
               unfold Oper.wp
               go_simp
               obtain ⟨Xb, hXb⟩ : ∃ X, Xa.alloc (.cells #[.string ⟨w0.toArray⟩] 9) = X := ⟨_, rfl⟩
               have bb : Below Xa.heap.size Xa Xb := by rw [← hXb]; exact (Below.refl _ _).alloc (Nat.le_refl _) _
               have lb : row? Xb Xa.heap.size = some #[.string ⟨w0.toArray⟩] := by rw [← hXb]; exact row?_alloc_at _ _ _ _ rfl
               have o4b := o4a.below bb (Nat.le_refl _)
               have o5b := o5a.below bb (Nat.le_refl _)
               have r9b := (row?_below bb (row?_lt r9a)).trans r9a
               have sb : w1.heap.size ≤ Xb.heap.size := by have := bb.size; omega
               have wXb := wXa.trans (bb.mono sa)
               rw [hXb]
               refine hK _ _ ⟨r9b, sb⟩ ?_
               clear hK K hXb
               apply wpPlanT_act rfl rfl
               intro K hK
               refine wp_appO elStr 86 Tryz.underlying86 _ _ rfl w1.heap.size _ ns rfl o4b (Xa.heap.size) w0 _ rfl lb HAL.out.1 sb ?_
               intro v4n Xc o4c bc gc hc
               have o5c := o5b.same fun g hg => gc.block g (o5b.lt g hg) (fun e => own_apart o4b o5b g e.symm hg)
               have r9c := (grown_row gc n4 (row?_lt r9b)).trans r9b
               have sc : w1.heap.size ≤ Xc.heap.size := by have := bc.size; omega
               have wXc := wXb.trans bc
               refine hK _ _ ⟨r9c, sc⟩ ?_
               clear hK K
               have la' := (grown_row gc (fun e => by have := l4 _ e; have := row?_lt r90; omega) (Nat.lt_of_lt_of_le (row?_lt la) bb.size)).trans ((row?_below bb (row?_lt la)).trans la)
               apply wpPlanT_act rfl rfl
               intro K hK
               refine wp_appO elX 87 Tryz.underlying87 _ _ rfl w1.heap.size _ (List.map (fun x : Ex × Nat => x.1) ((acc' ++ [y]))) rfl o5c (X0.heap.size) xk _ rfl la' HAL.out.2 sc ?_
               intro v5n Xd o5d bd gd hd
               have o4d := o4c.same fun g hg => gd.block g (o4c.lt g hg) (fun e => own_apart o4c o5c g hg e.symm)
               have r9d := (grown_row gd n5 (row?_lt r9c)).trans r9c
               have sd : w1.heap.size ≤ Xd.heap.size := by have := bd.size; omega
               have wXd := wXc.trans bd
               refine hK _ _ ⟨r9d, sd⟩ ?_
               clear hK K
               refine wpPlanT_done ?_
               simp only [List.drop_succ_cons, List.drop_zero]
               have HF4 := Lib.hid o4d
               have HF5 := Lib.hid o5d
               have HFW := Lib.hid wXd
               have HR := Lib.hid (And.intro HFN.out HNO.out)
               go_wp2_with fail
               go_roundw
               case rel => exact ⟨k + 1, ((acc' ++ [y])) ++ [(xk, xn)], ns ++ [w0], by omega, by go_num, HR.out.1, by rw [List.length_append]; exact Nat.succ_le_succ hal, HR.out.2, HF4.out, by rw [List.map_append]; exact HF5.out, HFW.out⟩
               case measure => simp [intOf]; omega
           | false =>
             have HBAD := Lib.hid (show parseP s = ([], 3) by rw [HPP.out, ← HFO.out, HNX.out, nextP_snoc]; simp only; rw [hlt]; rfl)
             have HB5 := Lib.hid (HB3.out.trans (hb5.mono (by omega)))
             have rS5 := (row?_below hb5 (row?_lt rS3)).trans rS3
             clear hlt HCM rS3 hb5
             have rS3 := rS5
             clear rS5
             go_wp2_with fail
             rw [HBAD.out]
             refine ret_row_tmp w.heap.size #[.map none] rfl Tryz.isAgg24 Tryz.sizeOf24 rfl rfl (row?_setRow_same _ _ _ (by show (row? (w5) w.heap.size).isSome = true; first | (show (row? _ w.heap.size).isSome = true; rw [rS3]; rfl) | (simp [go_sem, rS3]; done))) rfl ?_
             exact ⟨_, rfl, polV_zero _, below_setRow (HBW.out.trans ((HB5.out).mono HBW.out.size)) (Nat.le_refl _) _⟩
       · have HBAD := Lib.hid (show parseP s = ([], 3) by rw [HPP.out, ← HFO.out, HDG.out, foldP_bad hrt])
         clear hrt
         have hbA : Below w2.heap.size w2 (w2.alloc (.cells #[.int .i64 ba, .int .i64 bb] 90)) := (Below.refl _ _).alloc (Nat.le_refl _) _
         obtain ⟨W3, hW3⟩ : ∃ W3, w2.alloc (.cells #[.int .i64 ba, .int .i64 bb] 90) = W3 := ⟨_, rfl⟩
         rw [hW3] at hbA
         have rS3 := (row?_below hbA (row?_lt rS2)).trans rS2
         have HB3 := Lib.hid (HB2.out.trans (hbA.mono hs2))
         have HW3 := Lib.hid hW3
         clear hbA rS2 hW3
         go_wp2_with fail
         rw [HW3.out]
         refine wp_region_mix (fun W => W = W3.drew) 17 [(0, true), (1, true), (2, true), (3, true), (4, true), (5, true), (6, true), (7, true), (8, true), (9, true), (10, true), (11, true), (12, true), (13, true), (14, false), (15, true), (16, true)] (by kernel_rfl) (by kernel_rfl) rfl ?_
         repeat (first | (apply wpPlan_still rfl rfl; (intro w hw; subst hw; go_simp; (try go_ints); (first | with_reducible rfl | (go_simp; with_reducible rfl))); (intro K hK; go_simp; (try go_ints); refine hK _ _ ?_; clear hK K)) | (apply wpPlan_stillG rfl rfl; (intro w hw; subst hw; go_simp; (try go_ints); (first | with_reducible rfl | (go_simp; with_reducible rfl))); (intro K hK; go_simp; (try go_ints); refine hK _ _ ?_; clear hK K)) | (apply wpPlan_skip rfl rfl; (intro K hK; go_simp; (try go_ints); refine hK _ _ ?_; clear hK K)))
         refine wpPlan_skipA ?_ rfl rfl ?_
         · rfl
         intro K' hK'
         go_simp
         refine hK' _ _ ?_
         clear hK' K'
         repeat (first | (apply wpPlan_still rfl rfl; (intro w hw; subst hw; go_simp; (try go_ints); (first | with_reducible rfl | (go_simp; with_reducible rfl))); (intro K hK; go_simp; (try go_ints); refine hK _ _ ?_; clear hK K)) | (apply wpPlan_stillG rfl rfl; (intro w hw; subst hw; go_simp; (try go_ints); (first | with_reducible rfl | (go_simp; with_reducible rfl))); (intro K hK; go_simp; (try go_ints); refine hK _ _ ?_; clear hK K)) | (apply wpPlan_skip rfl rfl; (intro K hK; go_simp; (try go_ints); refine hK _ _ ?_; clear hK K)))
         refine wpPlan_nil ?_
         simp only [List.drop_succ_cons, List.drop_zero]
         go_wp2_with fail
         rw [HBAD.out]
         refine ret_row_tmp w.heap.size #[.map none] rfl Tryz.isAgg24 Tryz.sizeOf24 rfl rfl (row?_setRow_same _ _ _ (by show (row? (W3.drew) w.heap.size).isSome = true; first | (show (row? _ w.heap.size).isSome = true; rw [rS3]; rfl) | (simp [go_sem, rS3]; done))) rfl ?_
         exact ⟨_, rfl, polV_zero _, below_setRow (HBW.out.trans ((HB3.out.drew).mono HBW.out.size)) (Nat.le_refl _) _⟩
     · have hkn : k = n := by omega
       have hdr : L.drop k = [] := List.drop_eq_nil_of_le (by have := HN.out; omega)
       have hfin : foldP [] L = some acc := by rw [← HFO.out, hdr]; rfl
       have hinv := foldP_inv L [] acc hfin List.Pairwise.nil
       have HPV := Lib.hid (show parseP s = if farP acc then ([], 2) else (acc, 0) by rw [HPP.out, hfin])
       have hcan : Canon acc := ⟨hinv.1, fun x hx => by
         obtain ⟨m, hm, -, h⟩ := hinv.2
         rw [List.nil_append] at hm
         exact (h x (by rw [← hm]; exact hx)).1⟩
       have HCA := Lib.hid hcan
       have hrd5 := HO5.out.rd elX
       have hrd4 := HO4.out.rd elStr
       have HCT := Lib.hid (pcontains_any wr.heap.size (List.map (fun x : Ex × Nat => x.1) acc) _ wr hrd5 (Nat.le_refl _) (by simp; omega))
       rw [far_big, hml] at HCT
       rw [hml] at hrd5
       have HR5 := Lib.hid hrd5
       have HR4 := Lib.hid hrd4
       have hnl2 := HNS.out.len
       have rSr := (row?_below HB.out (row?_lt HRR.out)).trans HRR.out
       clear hkn hdr hfin hinv hcan hrd5 hrd4 HO4 HO5
       go_wp2_with fail
       refine HCT.out.mono ?_
       rintro e w2 ⟨rfl, hb2⟩
       have rS3 := (row?_below hb2 (row?_lt rSr)).trans rSr
       have HB2 := Lib.hid (HB.out.trans (hb2.mono hsz))
       cases hfar : farP acc with
       | true =>
         have HBAD := Lib.hid (show parseP s = ([], 2) by rw [HPV.out, hfar]; rfl)
         clear hfar HCT hb2 rSr
         go_wp2_with fail
         rw [HBAD.out]
         refine ret_row_tmp w.heap.size #[.map none] rfl Tryz.isAgg24 Tryz.sizeOf24 rfl rfl (row?_setRow_same _ _ _ (by show (row? (w2) w.heap.size).isSome = true; first | (show (row? _ w.heap.size).isSome = true; rw [rS3]; rfl) | (simp [go_sem, rS3]; done))) rfl ?_
         exact ⟨_, rfl, polV_zero _, below_setRow (HBW.out.trans ((HB2.out).mono HBW.out.size)) (Nat.le_refl _) _⟩
       | false =>
         have HGOOD := Lib.hid (show parseP s = (acc, 0) by rw [HPV.out, hfar]; rfl)
         have HFAR := Lib.hid hfar
         have HR5b := Lib.hid ((HR5.out.below hb2 (Nat.le_refl _)).mono hb2.size)
         have HR4b := Lib.hid ((HR4.out.below hb2 (Nat.le_refl _)).mono hb2.size)
         clear hfar HCT rSr HR5 HR4
         go_wp2_with fail
         refine (pmade_any w2).mono ?_
         rintro e w3 ⟨mb, rfl, hp3, hmb, hb3⟩
         have hbG : Below w3.heap.size w3 (w3.alloc (.cells #[.map (some mb)] 24)) := (Below.refl _ _).alloc (Nat.le_refl _) _
         obtain ⟨G, hG⟩ : ∃ G, G = w3.heap.size := ⟨_, rfl⟩
         obtain ⟨W4, hW4⟩ : ∃ W4, w3.alloc (.cells #[.map (some mb)] 24) = W4 := ⟨_, rfl⟩
         have rG : row? W4 G = some #[.map (some mb)] := by rw [← hW4]; exact row?_alloc_at _ _ _ _ hG
         rw [hW4] at hbG
         have hb24 := hb3.trans (hbG.mono hb3.size)
         have rS4 := (row?_below hb24 (row?_lt rS3)).trans rS3
         have HP4 := Lib.hid (hp3.below hbG)
         have HB4 := Lib.hid (HB2.out.trans (hb24.mono (by have := hb2.size; omega)))
         have HB24 := Lib.hid hb24
         have HW4 := Lib.hid hW4
         have HGE := Lib.hid hG
         have hms : w2.heap.size ≤ mb := hmb
         have hmG : mb < G := by rw [hG]; exact hp3.lt
         have hGW := row?_lt rG
         have hw2s : w.heap.size < w2.heap.size := row?_lt rS3
         have HROW := Lib.hid (And.intro rG rS4)
         clear hp3 hmb hb3 hbG hG hW4 rG hb24 rS4 rS3 hb2
         go_wp2_with fail
         rw [HW4.out, ← HGE.out]
         have hg24 := HB24.out
         have HK := Lib.hid fun W (hs : Same (fun q => q ≠ mb) W4 W) => show Below w2.heap.size w2 W from hg24.trans (hs.below hg24.size fun q hq => by omega)
         obtain ⟨rG, rS4⟩ := HROW.out
         have HC := Lib.hid fun W (hs : Same (fun q => q ≠ mb) W4 W) => show row? W G = some #[.map (some mb)] ∧ row? W w.heap.size = some #[.map none] from
           ⟨(row?_congr (hs.block _ hGW (by omega))).trans rG, (row?_congr (hs.block _ (row?_lt rS4) (by omega))).trans rS4⟩
         have hfit : Fit (wt acc) := nums_fit (fun x hx => by
           obtain ⟨i, hi⟩ := List.getElem?_of_mem hx
           obtain ⟨w0, -, h1, h2, h3⟩ := HNS.out.get hi
           exact ⟨w0, h1, h2, h3⟩) (by omega)
         have HFIT := Lib.hid hfit
         clear rG rS4 hg24 hfit HROW
         go_loopw [72] (fun i wx => ∃ j : Nat, j ≤ acc.length ∧ i = .int .i64 (j : Int) ∧ PMap wx mb (padd [] (acc.take j)) ∧ Same (fun q => q ≠ mb) W4 wx) (fun i _ => acc.length - (intOf i).toNat)
         case atStart => exact ⟨0, Nat.zero_le _, rfl, HP4.out, Same.refl _ _⟩
         case round =>
           obtain ⟨j, hj, rfl, hpj, hsj⟩ := hrel
           obtain ⟨gG, gS⟩ := HC.out _ hsj
           have hbj := HK.out _ hsj
           have HPJ := Lib.hid hpj
           have HSJ := Lib.hid hsj
           have HBJ := Lib.hid hbj
           have hszj := hsj.size
           have hGj := row?_lt gG
           have hSj := row?_lt gS
           clear hpj hsj HP4
           rcases Nat.lt_or_ge j acc.length with hj2 | hj2
           · obtain ⟨⟨ke, nn⟩, hx⟩ : ∃ x, acc[j]? = some x := ⟨_, List.getElem?_eq_getElem hj2⟩
             obtain ⟨w0, hw0, hn1, hn2, hn3⟩ := HNS.out.get hx
             obtain ⟨b5, off5, c5', z, hsl5, hbB5, hz, hcc5⟩ := HR5b.out.at (i := j) (by simpa using hj2)
             rw [hml] at hsl5
             simp only [Value.slice.injEq] at hsl5
             obtain ⟨rfl, -, rfl⟩ := hsl5
             obtain ⟨b4, off4, c4', z4, hsl4, hbB4, hz4, hcc4⟩ := HR4b.out.at (i := j) (by rw [hnl2]; exact hj2)
             simp only [Value.slice.injEq] at hsl4
             obtain ⟨rfl, -, rfl⟩ := hsl4
             have hzk : z = ke := by
               rw [List.getElem?_map, hx] at hz
               exact (Option.some.inj hz).symm
             have hz4w : z4 = w0 := by rw [hz4] at hw0; exact Option.some.inj hw0
             subst hzk hz4w
             have jl : rowLoad Tryz.prog 90 ⟨b5, off5 + j * 2, none⟩ wr = .ok (.agg #[.int .i64 (z.1 : Int), .int .i64 (z.2 : Int)]) wr := load_cells Tryz.isAgg90 Tryz.sizeOf90 wr b5 _ (pwA z) rfl fun q u hu => hcc5 wr hbj q u hu
             have hbA : Below wr.heap.size wr (wr.alloc (.cells #[.int .i64 (z.1 : Int), .int .i64 (z.2 : Int)] 90)) := (Below.refl _ _).alloc (Nat.le_refl _) _
             have kc : (wr.alloc (.cells #[.int .i64 (z.1 : Int), .int .i64 (z.2 : Int)] 90)).cell? ⟨b4, off4 + j, none⟩ = some (.string ⟨z4.toArray⟩) := by
               have := hcc4 _ (hbj.trans (hbA.mono hbj.size)) 0 (.string ⟨z4.toArray⟩) rfl
               simpa using this
             have HPA := Lib.hid (nparse_any z4 hn1 hn2 (wr.alloc (.cells #[.int .i64 (z.1 : Int), .int .i64 (z.2 : Int)] 90)))
             have hzf := List.mem_of_getElem? hx
             have hbig : z.1 ≤ 2048 ∧ z.2 ≤ 2048 := by
               have hf := HFAR.out
               unfold farP at hf
               rw [List.any_eq_false] at hf
               have := hf _ hzf
               simp at this
               omega
             have hwt : wt (acc.take j) + nn ≤ wt acc := wt_step (r1 := []) (r2 := acc.drop (j + 1)) (k := z) (by rw [List.nil_append, ← drop_get hx, List.take_append_drop])
             have hcl := coef_le (padd [] (acc.take j)) z
             have hwp := wt_padd [] (acc.take j)
             have hw0 : wt ([] : Pol) = 0 := rfl
             have hpl := padd_len [] (acc.take j)
             have HFT := Lib.hid (show Fit (coefP (padd [] (acc.take j)) z + nn) from HFIT.out.mono (by omega))
             have HPL := Lib.hid (show (padd [] (acc.take j)).length < 1000000 by simp at hpl; omega)
             have HBG := Lib.hid hbig
             have HN3 := Lib.hid hn3
             have HTK := Lib.hid (show padd [] (acc.take (j + 1)) = addT (padd [] (acc.take j)) (z, nn) by rw [List.take_add_one, hx, padd_append]; rfl)
             clear hx hn1 hn2 hbB5 hz hcc5 hbB4 hz4 hcc4 hw0 hzf hwt hcl hwp hpl hbig hn3 hbj
             go_wp2_with fail
             refine HPA.out.mono ?_
             rintro e wb ⟨vb, rfl, hvb, hbb⟩
             rw [HN3.out] at hvb
             obtain ⟨sa, sc, rfl, -⟩ := natV_sl hvb
             obtain ⟨sl, hsl⟩ : ∃ l, l = (digB 4294967296 nn).length := ⟨_, rfl⟩
             rw [← hsl] at hvb ⊢
             have hb6 := hbA.trans (hbb.mono hbA.size)
             obtain ⟨W6, hW6⟩ : ∃ W6, wb.alloc (.cells #[.slice sa sl sc] 49) = W6 := ⟨_, rfl⟩
             have hbC : Below wb.heap.size wb W6 := by rw [← hW6]; exact (Below.refl _ _).alloc (Nat.le_refl _) _
             have r14 : row? W6 wb.heap.size = some #[.slice sa sl sc] := by rw [← hW6]; exact row?_alloc_at _ _ _ _ rfl
             have r13 := (row?_below hbC (row?_lt ((row?_below hbb (by simp)).trans (row?_alloc_at wr #[Value.int .i64 (z.1 : Int), .int .i64 (z.2 : Int)] 90 wr.heap.size rfl)))).trans ((row?_below hbb (by simp)).trans (row?_alloc_at wr #[Value.int .i64 (z.1 : Int), .int .i64 (z.2 : Int)] 90 wr.heap.size rfl))
             have hb7 := hb6.trans (hbC.mono hb6.size)
             have r11 := (row?_below hb7 hGj).trans gG
             rw [← hW6] at r11 r13 r14
             have HV6 := Lib.hid (hvb.below hbC)
             have HP6 := Lib.hid (HPJ.out.below hb7)
             have HS6 := Lib.hid (HSJ.out.trans ((Same.of_below hb7).mono fun q hq _ => hq))
             have HW6 := Lib.hid hW6
             clear hvb hbb hb6 hW6 hbC hb7 hsl HPA kc jl gG hbA
             go_wp2_with fail
             rw [HW6.out]
             refine (pwith_any mb (padd [] (acc.take j)) z HBG.out nn _ W6 HP6.out HV6.out HFT.out HPL.out).mono ?_
             rintro e w7 ⟨rfl, hp7, hs7⟩
             rw [← HTK.out] at hp7
             have HP7 := Lib.hid hp7
             have HS7 := Lib.hid (HS6.out.trans hs7)
             clear hp7 hs7 r11 r13 r14
             go_wp2_with fail
             go_roundw
             case rel => exact ⟨j + 1, by omega, by go_num, HP7.out, HS7.out⟩
             case measure => simp [intOf]; omega
           · have hjl : acc.take j = acc := List.take_of_length_le hj2
             have hpf : PMap wr mb acc := by
               have := HPJ.out
               rwa [hjl, padd_nil HCA.out] at this
             have HPF := Lib.hid hpf
             have hdj : decide (j < acc.length) = false := decide_eq_false (by omega)
             clear hjl hpf
             go_wp2_with fail
             rw [HGOOD.out]
             refine ret_row_tmp w.heap.size #[.map (some mb)] rfl Tryz.isAgg24 Tryz.sizeOf24 rfl rfl (row?_setRow_same _ _ _ (by rw [gS]; rfl)) rfl ?_
             refine ⟨_, rfl, ⟨some mb, rfl, .inr ⟨mb, rfl, ?_⟩⟩, below_setRow (HBW.out.trans ((HB2.out.trans (HBJ.out.mono (by have := HB2.out.size; omega))).mono HBW.out.size)) (Nat.le_refl _) _⟩
             exact HPF.out.same (g := some w.heap.size) (same_some _ _ _) (by simp <;> omega) (fun q hq x => by cases hq; rw [cell?_row gS]; simp)
end Go.Proofs.YtgnlebnpnpjfmaaGreatDoor
