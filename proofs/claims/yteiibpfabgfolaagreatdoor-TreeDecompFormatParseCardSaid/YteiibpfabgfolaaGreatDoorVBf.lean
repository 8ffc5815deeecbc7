/- Walk: bitset's String. Walks: graphio's FormatSets and ParseSets. -/
import Derived.Test.YteiibpfabgfolaaGreatDoorVIa
import Derived.Test.YteiibpfabgfolaaGreatDoorVVd
import Derived.Test.YteiibpfabgfolaaGreatDoorVSets
import Derived.Test.YteiibpfabgfolaaGreatDoorVBb
import Derived.Test.YteiibpfabgfolaaGreatDoorVVb
set_option linter.all false
namespace Go.Proofs.YteiibpfabgfolaaGreatDoor
open Go Go.RowKit Go.Pal Go.Shelf
attribute [local go_sem] Oper.semAt_some
set_option maxRecDepth 10000 in
set_option maxHeartbeats 4000000 in
theorem bstring_any (S : Nat) (hS : IsSet S) (w : World) (ht : Pow w) (hT : TabOk w) (hgt : 1 < w.heap.size) :
   Calls Tryz.prog 24 #[.agg (words S)] w fun e w' => e = .returned (.string ⟨(setT S).toArray⟩) ∧ Below w.heap.size w w' := by
 have HP := Lib.hid ht
 have HTab := Lib.hid hT
 have hrs : ∀ o2, row? ((w.alloc (.cells (words S) 51)).alloc o2) w.heap.size = some (words S) := fun o2 => (row?_alloc_past _ _ _ (by simp)).trans (row?_alloc_at _ _ _ _ rfl)
 clear ht hT
 refine calls_of_wp_marks Tryz.func24 rfl ?_
 simp only [Tryz.ntmps24, List.size_toArray, List.length_cons, List.length_nil, Nat.reduceAdd, Nat.reduceSub, Array.replicate_succ, Array.replicate_zero, List.push_toArray, List.append_toArray, List.nil_append, List.cons_append]
 go_wp2_with fail
 generalize hW4 : World.alloc (World.alloc w _) _ = W4
 have hr4l : row? W4 (w.heap.size + 1) = some #[.slice none 0 0] := by
   rw [← hW4]
   have := row?_alloc_at (w.alloc (.cells (words S) 51)) #[Value.slice none 0 0] 116 _ rfl
   simpa using this
 have hB4 : Below w.heap.size w W4 := by rw [← hW4]; exact ((Below.refl _ w).alloc (Nat.le_refl _) _).alloc (by simp) _
 have hs4 : W4.heap.size = w.heap.size + 2 := by rw [← hW4]; simp
 have HB4 := Lib.hid hB4
 clear hW4 hB4 hrs
 refine (all_any S W4).mono ?_
 rintro e w5 ⟨rfl, hw5⟩
 have hb5 : Below W4.heap.size W4 w5 := by rw [← hw5]; exact (Below.refl _ _).alloc (Nat.le_refl _) _
 have hs5 : w5.heap.size = w.heap.size + 3 := by rw [← hw5]; simp; omega
 have hE5 : row? w5 W4.heap.size = some (words S) := by rw [← hw5]; exact row?_alloc_at _ _ _ _ rfl
 have HR2 := Lib.hid ((row?_below hb5 (by omega)).trans hr4l)
 have HB5 := Lib.hid (HB4.out.trans (hb5.mono HB4.out.size))
 have HT5 := Lib.hid (HTab.out.below HB5.out hgt)
 have HE5 := Lib.hid hE5
 rw [hs4] at HE5 ⊢
 clear hw5 hb5 hE5 hr4l HTab HB4 hs4
 go_wp2_with fail
 refine (wpIn_wide (n := 0)).1 ?_
 refine wpIn_range_set 1 4 rfl (fun args w => by simp [go_sem]) (by omega) (enc := fun n : Nat => .int .i64 (n : Int)) (xs := elems S)
   (fun W hW _ => all1_iterates (w.heap.size + 2) S hS W ((row?_below hW (by omega)).trans HE5.out) (HT5.out.below hW (by omega)) (by have := hW.size; omega))
   (fun M pre W => ∃ v, row? W (w.heap.size + 1) = some #[v] ∧ OwnStr M W v (pre.map Lib.decDigits) ∧ Same (fun k => k < w.heap.size + 1) w5 W) ?_ ?_ ?_ ?_ ?_
 · rintro M pre W W' hM hMW ⟨v, hr, hO, hs⟩ hsame
   exact ⟨v, (row?_congr (hsame.block _ (row?_lt hr) (.inl (by omega)))).trans hr, hO.same fun g hgv => hsame.block g (hO.lt g hgv) (.inr (hO.block g hgv)), hs.trans (hsame.mono fun k _ h => .inl (by omega))⟩
 · intro M W _ _ hb
   exact ⟨_, (row?_below hb (by omega)).trans HR2.out, OwnR.nil _ _, (Same.of_below hb).mono fun k _ h => by omega⟩
 · intro l x W K hK
   gi_wp2
   exact hK
 · rintro l0 M pre x W hM hMW ⟨v, hr, hO, hs⟩ ⟨r, hr0⟩
   have hx1 : x < 1024 := elems_lt (S := S) (by rw [hr0]; simp)
   have hlen : (pre.map Lib.decDigits).length ≤ 1024 := by
     have := elems_len2 S
     rw [hr0] at this
     simp at this ⊢
     omega
   obtain ⟨q, cq, rfl⟩ := hO.sl
   have HR := Lib.hid hr
   have HO := Lib.hid hO
   have HS := Lib.hid hs
   have HI := Lib.hid (inI_of (n := (x : Int)) (by omega) (by omega))
   have hlx := dec_len (u := x) (k := 4) (by omega) (by omega)
   have hBW : Below w.heap.size w W := HB5.out.trans (hs.below (by omega) fun k hk => by omega)
   have HFa := Lib.hid fun W' (hw : Below M W W') => show W'.cell? ⟨w.heap.size + 1, 0, none⟩ = some (.slice q (pre.map Lib.decDigits).length cq) from
     (cell?_row (i := 0) ((row?_congr (hw.block _ (by omega))).trans hr)).trans rfl
   have HIx := Lib.hid fun W' (hw : Below M W W') => itoa_any (x : Int) HI.out W' (HP.out.on (hBW.trans (hw.mono (by omega))))
   rw [Lib.itoa_nonneg] at HIx
   have hszW := hs.size
   obtain ⟨acc, hacc⟩ : ∃ acc, acc = pre.map Lib.decDigits := ⟨_, rfl⟩
   rw [← hacc] at HO HR hlen HFa
   have HACC := Lib.hid hacc
   clear hr hO hs hr0 hBW hacc
   gi_wp2_with fail
   refine wpIn_round_mix (fun w' => Below M W w') 5 [(0, true), (1, true), (2, false), (3, false), (4, false)] (by kernel_rfl) (by kernel_rfl) (by kernel_rfl) (by rintro ⟨a', w', h'⟩; exact h') ((Below.refl _ _).drew) ?_
   repeat (apply wpPlan_still rfl rfl; (intro w hw; have k1 := HFa.out _ hw; clear hw; go_simp; (try go_ints); (first | with_reducible rfl | (go_simp; with_reducible rfl))); (intro K hK; go_simp; (try go_ints); refine hK _ _ ?_; clear hK K))
   apply wpPlan_act rfl rfl
   intro K hK
   unfold Oper.wp
   go_simp
   refine (HIx.out _ (Below.refl _ _).drew).mono ?_
   rintro e wa ⟨rfl, hba⟩
   have hba' : Below M W wa := (Below.refl _ _).drew.trans (hba.mono (by simp; omega))
   have HBa2 := Lib.hid (show Below W.heap.size W wa from (Below.refl _ _).drew.trans (hba.mono (by simp)))
   refine hK _ _ hba' ?_
   clear hK K hba
   have HBa := Lib.hid hba'
   have hsa := hba'.size
   clear hba'
   apply wpPlan_act rfl rfl
   intro K hK
   unfold Oper.wp
   go_simp
   refine hK _ _ (HBa.out.alloc (by omega) _) ?_
   clear hK K
   have hOb := (HO.out.below HBa2.out (Nat.le_refl _)).alloc (.cells #[.string ⟨(Lib.decDigits x).toArray⟩] 9)
   have HOb := Lib.hid hOb
   clear hOb
   apply wpPlan_act rfl rfl
   intro K hK
   refine wp_appO elStr 116 Tryz.underlying116 _ _ rfl M _ acc rfl HOb.out _ (Lib.decDigits x) _ rfl (row?_alloc_at _ _ _ _ rfl) (by omega) (by simp; omega) ?_
   intro v2 w2 hO2 hb2 hg2 hl2
   have hMb : Below M W w2 := (HBa.out.alloc (by omega) _).trans hb2
   refine hK _ _ hMb ?_
   clear hK K
   refine wpPlan_nil ?_
   have hr2 : row? w2 (w.heap.size + 1) = some #[.slice q acc.length cq] := (row?_congr (hMb.block _ (by omega))).trans HR.out
   have hfz2 := frozen?_row (i := 0) hr2
   have k2 := cell?_row (i := 0) hr2
   simp at k2
   have hlt2 := row?_lt hr2
   have HR2' := Lib.hid hr2
   have HO2 := Lib.hid hO2
   have HMb := Lib.hid hMb
   obtain ⟨q2, c2, rfl⟩ := hO2.sl
   clear hO2 hb2 hg2 hl2 hr2 hMb
   go_wp2_with fail
   have hMs := HMb.out.size
   have hk2 : ∀ v k, k < M → k ≠ w.heap.size + 1 → (w2.setCell ⟨w.heap.size + 1, 0, none⟩ v).heap[k]? = W.heap[k]? := fun v k hk hne => (heap_setCell_other _ _ k _ hne).trans (HMb.out.block k hk)
   refine ⟨⟨_, ⟨_, HR2'.out, rfl⟩, ?_, ?_⟩, ?_⟩
   · have hO2 := HO2.out
     rw [List.length_append] at hO2
     rw [← HACC.out]
     exact hO2.same fun g hg' => heap_setCell_other _ _ g _ (by have := hO2.block g hg'; show g ≠ w.heap.size + 1; omega)
   · refine HS.out.trans ⟨HMb.out.os, HMb.out.tape, HMb.out.output, by simp; omega, fun k hk hk' => hk2 _ k (by omega) (by omega)⟩
   · exact ⟨HMb.out.os, HMb.out.tape, HMb.out.output, by simp; omega, fun k hk hk' => hk2 _ k (by omega) (by omega)⟩
 · rintro D M W hD hDM hMW ⟨v, hr, hO, hs⟩ hK
   have k1 := cell?_row (i := 0) hr
   simp at k1
   have HO := Lib.hid hO
   have HS := Lib.hid hs
   have HK := Lib.hid hK
   clear hr hO hs hK
   have hll := elems_len2 S
   have hjl : (Lib.join ((elems S).map Lib.decDigits) [32]).length ≤ 1000000 := by
     refine Nat.le_trans (join_len (b := 4) (fun l hl => ?_) [32]) (by simp; omega)
     obtain ⟨p, hp, rfl⟩ := List.mem_map.1 hl
     exact dec_len (by omega) (Nat.lt_of_lt_of_le (elems_lt hp) (by decide))
   have HJ := Lib.hid (join_own M ((elems S).map Lib.decDigits) v W HO.out [32] (by simp; omega) hjl)
   obtain ⟨js, hjs⟩ : ∃ js, js = Lib.join ((elems S).map Lib.decDigits) [32] := ⟨_, rfl⟩
   have HJS : Hid (setT S = [123] ++ js ++ [125]) := Lib.hid (by rw [hjs]; rfl)
   rw [← hjs] at HJ hjl
   clear hjs
   have b1 : ([123] : List UInt8).length ≤ 8388608 := by decide
   have b2 : js.length ≤ 8388608 := by omega
   have b3 : ([125] : List UInt8).length ≤ 8388608 := by decide
   have b4 : js.length + 1 ≤ 8388608 := by omega
   have b5 : js.length < 8388608 := by omega
   have b6 : js.length ≤ 8388607 := by omega
   have hszW := HS.out.size
   go_wp2_with fail
   refine HJ.out.mono ?_
   rintro r w6 ⟨rfl, hb6⟩
   have hKD : w6.heap[D]? = some (.deferred (some [])) := (hb6.block D (by omega)).trans HK.out
   have HKD := Lib.hid hKD
   have HB6 := Lib.hid ((HB5.out.trans (HS.out.below (by omega) fun k hk => by omega)).trans (hb6.mono (by omega)))
   clear hb6 hKD HJ
   go_wp2_with fail
   refine ⟨by simp, .inl ⟨_, _, rfl, run_takeDeferred HKD.out, ?_⟩⟩
   have hp : Same (fun k => k ≠ D) w6 (w6.putObj D (.deferred none)) := Same.putObj _ w6 D _ (by simp)
   refine ⟨_, results_tmp rfl _ _ _, ?_, ?_⟩
   · rw [HJS.out]
     rfl
   · have hs6 := HB6.out.size
     exact HB6.out.trans (hp.below hs6 fun k hk => by omega)
end Go.Proofs.YteiibpfabgfolaaGreatDoor
namespace Go.Pal
open Go Go.RowKit
theorem setT_len (S : Nat) : (setT S).length ≤ 5200 := by
 have h := join_len (b := 4) (ls := (elems S).map Lib.decDigits) (fun l hl => by
   obtain ⟨p, hp, rfl⟩ := List.mem_map.1 hl
   exact dec_len (by omega) (Nat.lt_of_lt_of_le (elems_lt hp) (by decide))) [32]
 have h2 := elems_len2 S
 rw [List.length_map] at h
 have h3 : (4 + [(32 : UInt8)].length) * (elems S).length ≤ 5 * 1024 := Nat.mul_le_mul_left 5 h2
 unfold setT
 rw [List.length_append, List.length_append]
 show 1 + _ + 1 ≤ 5200
 omega
end Go.Pal
namespace Go.Proofs.YteiibpfabgfolaaGreatDoor
open Go Go.RowKit Go.Pal Go.Shelf
attribute [local go_sem] Oper.semAt_some
end Go.Proofs.YteiibpfabgfolaaGreatDoor
