/- Walk of package bignat: String. -/
import Derived.Test.YtgnlebnpnpjfmaaGreatDoorUNo
set_option linter.all false
namespace Go.Pal
open Go in
theorem grownS {w w' : World} {row : Option Nat} (h : w.grownBy w' row) : Same (fun k => row ≠ some k) w w' := ⟨h.os, h.tape, h.output, h.size, fun k hk hr => h.block k hk (Ne.symm hr)⟩
theorem grpT_zero (f : Nat) : grpT f 0 = [] := by cases f <;> simp [grpT]
theorem grpT_succ (f n : Nat) (h : 0 < n) : grpT (f + 1) n = (if n / 1000000000 = 0 then Lib.decDigits (n % 1000000000) else padT 9 (n % 1000000000)) :: grpT f (n / 1000000000) := by rw [grpT, if_neg (by omega)]
theorem pow29 (l : Nat) : (2 : Nat) ^ (29 * l) ≤ 1000000000 ^ l := by rw [Nat.pow_mul]; exact Nat.pow_le_pow_left (by decide) l
theorem grp_count {k l m K : Nat} (hk : 0 < k) (h : k * 1000000000 ^ l ≤ m) (hm : m < 2 ^ K) : 29 * l < K := by
 have h1 : 1000000000 ^ l ≤ k * 1000000000 ^ l := Nat.le_mul_of_pos_left _ hk
 have h2 := pow29 l
 rcases Nat.lt_or_ge (29 * l) K with h3 | h3
 · exact h3
 · have := Nat.pow_le_pow_right (n := 2) (by decide) h3
   omega
theorem join_empty (l : List (List UInt8)) : Lib.join l [] = l.flatten := by
 unfold Lib.join
 induction l with
 | nil => rfl
 | cons a l ih =>
   cases l with
   | nil => simp [List.intercalate]
   | cons b r =>
     have e : ([] : List UInt8).intercalate (a :: b :: r) = a ++ ([] : List UInt8).intercalate (b :: r) := by simp [List.intercalate]
     rw [e, ih]
     simp
theorem dec_length {n : Nat} (h : 0 < n) : (Lib.decDigits n).length = (digB 10 n).length := by
 rw [← dgT_digB h]
 simp [dgT]
end Go.Pal
namespace Go.Proofs.YtgnlebnpnpjfmaaGreatDoor
open Go Go.RowKit Go.Pal Go.Shelf
theorem dec_fit {n : Nat} (h : Fit n) : (Lib.decDigits n).length ≤ 11000 := by
 rcases Nat.eq_zero_or_pos n with h0 | h0
 · subst h0; rw [dec_small (by omega)]; simp
 · rw [dec_length h0]; exact refLen h
theorem reverse_own (B : Nat) (ls : List (List UInt8)) (v : Value) (w : World) (h : OwnStr B w v ls) (hl : ls.length ≤ 1000000) :
   Calls Tryz.prog 78 #[v] w fun e w' => e = .returned (.tuple #[]) ∧ OwnStr B w' v ls.reverse ∧ Same (fun k => v.ownBlock ≠ some k) w w' := by
 rcases h.2 with ⟨rfl, h2⟩ | ⟨b, cap, cur, rfl, hB, hg, hle, hcm, hcs, htake⟩
 · have : ls = [] := List.length_eq_zero_iff.1 h2
   subst this
   refine (AnyE.slices_Reverse_empty Tryz.laysReverse none 0 w).mono ?_
   rintro e w' ⟨rfl, rfl⟩
   exact ⟨rfl, OwnR.nil _ _, Same.refl _ _⟩
 · have hblk := (Array.getElem?_eq_some_iff.1 hg).1
   have hH : Go.Sort.Holds Value.string w b 0 (ls.map fun l : List UInt8 => (⟨l.toArray⟩ : ByteArray)).toArray := by
     intro j hj
     have hj' : j < ls.length := by simpa using hj
     have h4 := World.ownsRow.cells (base := B) h (g := b) rfl _ _ (encC_get elStr (l := ls) (i := j) (j := 0) (x := ls[j]) (u := .string ⟨ls[j].toArray⟩) (List.getElem?_eq_getElem hj') rfl)
     have e1 : (⟨b, 0, none⟩ : Addr).add (j * 1 + 0) = ⟨b, 0 + j, none⟩ := by unfold Addr.add; split <;> simp_all
     rw [e1] at h4
     refine ⟨?_, frozen_of_row w b (0 + j) cur _ hg⟩
     rw [h4, getElem!_pos _ j hj]
     simp
   have key := AnyE.slices_Reverse Tryz.laysReverse Value.string (fun _ => rfl) b 0 cap (ls.map fun l : List UInt8 => (⟨l.toArray⟩ : ByteArray)) w hH (by simp; omega)
   rw [List.length_map] at key
   refine key.mono ?_
   rintro e w' ⟨rfl, n, rfl⟩
   have hheap : (Go.Sort.putRow Value.string (Go.Sort.ahead w n) b 0 (ls.map fun l : List UInt8 => (⟨l.toArray⟩ : ByteArray)).reverse.toArray).heap[b]? = some (.cells (Go.Sort.putCells Value.string 0 (ls.map fun l : List UInt8 => (⟨l.toArray⟩ : ByteArray)).reverse.toArray cur) 9 (0, 0)) := by
     unfold Go.Sort.putRow Go.Sort.mapBlock
     show (w.heap.modify b _)[b]? = _
     rw [Array.getElem?_modify, if_pos rfl, hg]
     rfl
   refine ⟨rfl, ⟨by rw [encC_length elStr], .inr ⟨b, cap, _, by rw [List.length_reverse], hB, hheap, by rw [List.length_reverse]; exact hle, hcm, by simp [Go.Sort.putCells, hcs], ?_⟩⟩, ⟨rfl, rfl, rfl, ?_, fun j _ hne => ?_⟩⟩
   · apply List.ext_getElem?
     intro t
     rw [List.getElem?_take, List.length_reverse, Nat.mul_one]
     by_cases ht : t < ls.length
     · rw [if_pos ht]
       have hcs' : t < cur.size := by rw [hcs]; omega
       have hx : ls.reverse[t]? = some ls[ls.length - 1 - t] := by rw [List.getElem?_reverse ht, List.getElem?_eq_getElem (by omega)]
       have := encC_get elStr hx (j := 0) (u := .string ⟨ls[ls.length - 1 - t].toArray⟩) rfl
       rw [Nat.mul_one, Nat.add_zero] at this
       rw [this]
       unfold Go.Sort.putCells
       simp [hcs', ht]
     · rw [if_neg ht, List.getElem?_eq_none (by rw [encC_length elStr]; simp; omega)]
   · unfold Go.Sort.putRow Go.Sort.mapBlock Go.Sort.ahead
     simp
   · unfold Go.Sort.putRow Go.Sort.mapBlock
     show (w.heap.modify b _)[j]? = _
     rw [Array.getElem?_modify, if_neg fun e => hne (by rw [e]; rfl)]
set_option maxRecDepth 10000 in
set_option maxHeartbeats 2000000 in
theorem nstring_any (m : Nat) (va : Value) (w : World) (ha : NatV w va m) (hm : Fit m) (hE : Env w) :
   Calls Tryz.prog 27 #[va] w fun e w' => e = .returned (.string ⟨(Lib.decDigits m).toArray⟩) ∧ Below w.heap.size w w' := by
 obtain ⟨sa, sc, rfl, hra⟩ := natV_sl ha
 have hB : Below w.heap.size w (w.alloc (.cells #[.slice sa (digB 4294967296 m).length sc] 49)) := (Below.refl _ _).alloc (Nat.le_refl _) _
 have HZ := Lib.hid (nisZero_any m _ _ (ha.below hB))
 have hr0 : row? (w.alloc (.cells #[.slice sa (digB 4294967296 m).length sc] 49)) w.heap.size = some #[.slice sa (digB 4294967296 m).length sc] := row?_alloc_at _ _ _ _ rfl
 have HR0 := Lib.hid hr0
 have HRA := Lib.hid (hra.below hB)
 have HB := Lib.hid hB
 have HE := Lib.hid (hE.on hB)
 have HE0 := Lib.hid hE
 have HF := Lib.hid hm
 by_cases h0 : m = 0
 · subst h0
   rw [decide_eq_true rfl] at HZ
   obtain ⟨L, hL⟩ : ∃ L, L = (digB 4294967296 0).length := ⟨_, rfl⟩
   rw [← hL] at HZ HB HR0 ⊢
   clear ha hB hra hr0 hL HRA hE hm HF HE
   go_enter Tryz.func27, Tryz.ntmps27
   go_wp2_with fail
   refine HZ.out.mono ?_
   rintro r w2 ⟨rfl, hb2⟩
   have HB2 := Lib.hid (HB.out.trans (hb2.mono HB.out.size))
   clear hb2 HZ HB
   go_wp2_with fail
   go_ret
   exact ⟨by rw [dec_small (by omega)]; rfl, HB2.out⟩
 · rw [decide_eq_false h0] at HZ
   have HM0 := Lib.hid h0
   obtain ⟨L, hL⟩ : ∃ L, L = (digB 4294967296 m).length := ⟨_, rfl⟩
   rw [← hL] at HZ HB HR0 HRA HE ⊢
   clear ha hB hra hr0 hL hE hm h0
   go_enter Tryz.func27, Tryz.ntmps27
   go_wp2_with fail
   refine HZ.out.mono ?_
   rintro r w2 ⟨rfl, hb2⟩
   have HB2 := Lib.hid (HB.out.trans (hb2.mono HB.out.size))
   have HE2 := Lib.hid (HE.out.on (hb2))
   have HRA2 := Lib.hid (HRA.out.below hb2)
   have HR2 := Lib.hid ((row?_below hb2 (row?_lt HR0.out)).trans HR0.out)
   clear hb2 HZ HB HE HRA HR0
   go_wp2_with fail
   go_loopw [3] (fun s wr => ∃ (k f : Nat) (l : List (List UInt8)), k ≤ f ∧ l ++ grpT f k = grpT m m ∧ (k = 0 ∨ k * 1000000000 ^ l.length ≤ m) ∧ l.length ≤ 1104 ∧ Fit k ∧ OwnStr (w.heap.size + 1) wr s l ∧ (l = [] → s = .slice none 0 0) ∧ (∃ sv, row? wr w.heap.size = some #[sv] ∧ RdN .u32 wr sv (digB 4294967296 k)) ∧ Below w.heap.size w wr ∧ Env wr) (fun s _ => 1105 - slN s)
   case atStart => exact ⟨m, m, [], Nat.le_refl _, rfl, .inr (by simp), by simp, HF.out, OwnR.nil _ _, fun _ => rfl, ⟨_, HR2.out, HRA2.out⟩, HB2.out, HE2.out⟩
   case round =>
     obtain ⟨k, f, l, hkf, hg, hkm, hll, hfk, hO, hln, ⟨sv, hr, hrd⟩, hb, he⟩ := hrel
     have HLN := Lib.hid hln
     clear hln
     obtain ⟨a1, c1, rfl, -⟩ := id hrd
     obtain ⟨oa, oc, rfl⟩ := hO.sl
     have HG := Lib.hid hg
     have HKM := Lib.hid hkm
     have HFK := Lib.hid hfk
     have HO := Lib.hid hO
     have HR := Lib.hid hr
     have HRD := Lib.hid hrd
     have HB := Lib.hid hb
     have HE := Lib.hid he
     have hsz := hb.size
     have hrl := row?_lt hr
     have HZ := Lib.hid (nisZero_any k _ wr ⟨_, rfl, hrd⟩)
     obtain ⟨K, hK⟩ : ∃ K, K = (digB 4294967296 k).length := ⟨_, rfl⟩
     rw [← hK] at HR HRD HZ
     clear hg hkm hfk hO hr hrd hb he hK
     rcases Nat.eq_zero_or_pos k with h0 | h0
     · subst h0
       rw [decide_eq_true rfl] at HZ
       have r0 := HR.out
       go_wp2_with fail
       refine HZ.out.mono ?_
       rintro r w3 ⟨rfl, hb3⟩
       clear r0
       have HB3 := Lib.hid (HB.out.trans (hb3.mono HB.out.size))
       have HO3 := Lib.hid (HO.out.below hb3 (Nat.le_refl _))
       have hs3 := hb3.size
       clear hb3 HZ HB HO HR HRD HE
       go_wp2_with fail
       refine (reverse_own _ l _ w3 HO3.out (by omega)).mono ?_
       rintro r w4 ⟨rfl, hO4, hs4⟩
       have hblk := HO3.out.block
       have hb4 : Below w.heap.size w w4 := HB3.out.trans (hs4.below HB3.out.size fun j hj e => by have := hblk j e; omega)
       have htx := grpT_text m m (Nat.le_refl _) (by have := HM0.out; omega)
       have hgl := HG.out
       rw [grpT_zero, List.append_nil] at hgl
       rw [← hgl] at htx
       have hlen := dec_fit HF.out
       have HJ := Lib.hid (join_own _ l.reverse _ w4 hO4 [] (by simp; omega) (by rw [join_empty, htx]; omega))
       rw [join_empty, htx] at HJ
       have hlr : l.reverse.length = l.length := by simp
       have HB4 := Lib.hid hb4
       clear hO4 hs4 hblk hb4 htx hgl hlen
       go_wp2_with fail
       refine HJ.out.mono ?_
       rintro r w5 ⟨rfl, hb5⟩
       have HB5 := Lib.hid (HB4.out.trans (hb5.mono HB4.out.size))
       clear hb5 HJ
       go_wp2_with fail
       go_ret
       exact ⟨rfl, HB5.out⟩
     · rw [decide_eq_false (by omega)] at HZ
       have hkm2 := HKM.out.resolve_left (by omega)
       have hcnt := grp_count h0 hkm2 HF.out.lt
       unfold fitK at hcnt
       obtain ⟨f', rfl⟩ : ∃ f', f = f' + 1 := ⟨f - 1, by omega⟩
       have hgs := grpT_succ f' k h0
       obtain ⟨q, hq⟩ : ∃ q, q = k / 1000000000 := ⟨_, rfl⟩
       obtain ⟨u, hu⟩ : ∃ u, u = k % 1000000000 := ⟨_, rfl⟩
       rw [← hq, ← hu] at hgs
       have hgl := HG.out
       rw [hgs] at hgl
       have HGL := Lib.hid hgl
       have hul : u < 1000000000 := by omega
       have hqf : q ≤ f' := by omega
       have HQF := Lib.hid (HFK.out.mono (show q ≤ k by omega))
       have hkm3 : q * 1000000000 ^ (l.length + 1) ≤ m := by
         rw [Nat.pow_succ, Nat.mul_comm (1000000000 ^ l.length), ← Nat.mul_assoc]
         exact Nat.le_trans (Nat.mul_le_mul_right _ (show q * 1000000000 ≤ k by omega)) hkm2
       have HKM3 := Lib.hid hkm3
       have HQU := Lib.hid (And.intro hq hu)
       have hdl := dec_len (u := u) (k := 9) (by omega) (by omega)
       have hpad := pad_dec 8 u (by omega)
       have HPAD := Lib.hid hpad
       have r0 := HR.out
       clear hkm2 hgs hgl hkm3 hpad HG HKM hq hu
       go_wp2_with fail
       refine HZ.out.mono ?_
       rintro r w3 ⟨rfl, hb3⟩
       clear r0 HZ
       have r0 := (row?_below hb3 hrl).trans HR.out
       have HR3 := Lib.hid r0
       have HB3 := Lib.hid (HB.out.trans (hb3.mono HB.out.size))
       have HO3 := Lib.hid (HO.out.below hb3 (Nat.le_refl _))
       have HE3 := Lib.hid (HE.out.on hb3)
       have hs3 := hb3.size
       have HSH := Lib.hid (nshort_any k 1000000000 _ w3 ⟨_, rfl, (HRD.out.below hb3)⟩ HFK.out (by decide) (by decide))
       rw [← HQU.out.1, ← HQU.out.2] at HSH
       clear hb3 HB HO HR HRD HE
       go_wp2_with fail
       refine HSH.out.mono ?_
       rintro r w4 ⟨v4, rfl, hv4, hb4⟩
       clear HSH r0
       obtain ⟨a4, c4, rfl, hr4⟩ := natV_sl hv4
       obtain ⟨Q, hQ⟩ : ∃ Q, Q = (digB 4294967296 q).length := ⟨_, rfl⟩
       rw [← hQ] at hv4 hr4 ⊢
       obtain ⟨w5, hw5⟩ : ∃ w5, w4.alloc (.cells #[.slice a4 Q c4] 49) = w5 := ⟨_, rfl⟩
       have hb45 : Below w4.heap.size w4 w5 := by rw [← hw5]; exact (Below.refl _ _).alloc (Nat.le_refl _) _
       have r5 : row? w5 w4.heap.size = some #[.slice a4 Q c4] := by rw [← hw5]; exact row?_alloc_at _ _ _ _ rfl
       have hb35 : Below w3.heap.size w3 w5 := hb4.trans (hb45.mono hb4.size)
       have HR5 := Lib.hid ((row?_below hb35 (Nat.lt_of_lt_of_le hrl hs3)).trans HR3.out)
       have HR5q := Lib.hid r5
       have HB5 := Lib.hid (HB3.out.trans (hb35.mono HB3.out.size))
       have HO5 := Lib.hid (HO3.out.below hb35 (Nat.le_refl _))
       have HE5 := Lib.hid (HE3.out.on hb35)
       have HV5 := Lib.hid (hr4.below hb45)
       have hs4 := hb4.size
       have hs5 := hb35.size
       have hs45 := hb45.size
       have hl45 := row?_lt r5
       have HFU := Lib.hid (fmtu_any u (by omega) w5 HE5.out)
       clear hQ hv4 hr4 hb4 hb45 hb35 HB3 HO3 HE3 HR3 r5
       go_wp2_with fail
       clear hw5
       refine HFU.out.mono ?_
       rintro r w6 ⟨rfl, hb6⟩
       have r6 := (row?_below hb6 hl45).trans HR5q.out
       have HR6 := Lib.hid ((row?_below hb6 (by omega)).trans HR5.out)
       have HR6q := Lib.hid r6
       have HB6 := Lib.hid (HB5.out.trans (hb6.mono HB5.out.size))
       have HO6 := Lib.hid (HO5.out.below hb6 (Nat.le_refl _))
       have HE6 := Lib.hid (HE5.out.on hb6)
       have HV6 := Lib.hid (HV5.out.below hb6)
       have hs6 := hb6.size
       have HZ6 := Lib.hid (nisZero_any q _ w6 ⟨_, rfl, HV6.out⟩)
       clear hb6 HFU HB5 HO5 HE5 HR5 HR5q HV5
       go_wp2_with fail
       refine HZ6.out.mono ?_
       rintro r w7 ⟨rfl, hb7⟩
       have r7 := (row?_below hb7 (by omega)).trans HR6q.out
       have HR7 := Lib.hid ((row?_below hb7 (by omega)).trans HR6.out)
       have HR7q := Lib.hid r7
       have HB7 := Lib.hid (HB6.out.trans (hb7.mono HB6.out.size))
       have HO7 := Lib.hid (HO6.out.below hb7 (Nat.le_refl _))
       have HV7 := Lib.hid (HV6.out.below hb7)
       have hs7 := hb7.size
       clear hb7 HZ6 HB6 HO6 HE6 HR6 HR6q HV6 r6
       have b1 : (Lib.decDigits u).length ≤ 8388608 := by omega
       by_cases hq0 : q = 0
       · have HQ0 := Lib.hid hq0
         have d0 : decide (q = 0) = true := decide_eq_true hq0
         clear hq0
         go_wp2_with (at_builtin; refine wpList_appO elStr 86 Tryz.underlying86 rfl _ _ rfl (w.heap.size + 1) _ l rfl (HO7.out.alloc _) _ (Lib.decDigits u) _ rfl (row?_alloc_at _ _ _ _ (by simp)) (by omega) (by simp; omega) ?_)
         intro v' w8 hO8 hb8 hg8 _
         have HO8 := Lib.hid hO8
         have hown : ∀ j, (Value.slice oa l.length oc).ownBlock = some j → ∃ t, (w7.alloc (.cells #[.string ⟨(Lib.decDigits u).toArray⟩] 9)).cell? ⟨j, 0, none⟩ = some (.string t) := by
           intro j hj
           cases l with
           | nil => have := HLN.out rfl; rw [this] at hj; cases hj
           | cons x l =>
             have hc := World.ownsRow.cells (base := w.heap.size + 1) (HO7.out.alloc (.cells #[.string ⟨(Lib.decDigits u).toArray⟩] 9)) (g := j) hj _ _ (encC_get elStr (l := x :: l) (i := 0) (j := 0) (x := x) (u := .string ⟨x.toArray⟩) rfl rfl)
             have e1 : (⟨j, 0, none⟩ : Addr).add (0 * 1 + 0) = ⟨j, 0, none⟩ := by unfold Addr.add; split <;> simp_all
             rw [e1] at hc
             exact ⟨_, hc⟩
         have hsm := grownS hg8
         have hball : Below w7.heap.size w7 (w7.alloc (.cells #[.string ⟨(Lib.decDigits u).toArray⟩] 9)) := (Below.refl _ _).alloc (Nat.le_refl _) _
         have hv8 := (HV7.out.below hball)
         have hr8q : row? w8 w4.heap.size = some #[.slice a4 Q c4] := by
           have h7 := (row?_below hball (row?_lt HR7q.out)).trans HR7q.out
           refine (row?_congr (hsm.block _ (row?_lt h7) fun e => ?_)).trans h7
           obtain ⟨t, ht⟩ := hown _ e
           rw [cell?_row h7] at ht
           cases ht
         have hr8 : row? w8 w.heap.size = some #[.slice a1 K c1] := by
           have h7 := (row?_below hball (row?_lt HR7.out)).trans HR7.out
           refine (row?_congr (hsm.block _ (row?_lt h7) fun e => ?_)).trans h7
           obtain ⟨t, ht⟩ := hown _ e
           rw [cell?_row h7] at ht
           cases ht
         have hvw8 : RdN .u32 w8 (.slice a4 Q c4) (digB 4294967296 q) := hv8.same hsm fun j hj x e => by
           obtain ⟨t, ht⟩ := hown j hj
           rw [ht] at e
           cases e
         have HV8 := Lib.hid hvw8
         have HR8 := Lib.hid hr8
         have HB8 := Lib.hid ((HB7.out.alloc (HB7.out.size) (.cells #[.string ⟨(Lib.decDigits u).toArray⟩] 9)).trans (hb8.mono (by omega)))
         clear hO8 hb8 hg8 hown hsm hball hv8 hvw8 HO7 HV7 HR7 HR7q
         obtain ⟨va8, vc8, hvs⟩ := HO8.out.sl
         have hvl : slN v' = l.length + 1 := by rw [hvs]; simp [slN]
         have HVL := Lib.hid hvl
         clear hvs hvl
         go_wp2_with fail
         refine ⟨⟨q, f', l ++ [Lib.decDigits u], hqf, ?_, .inr (by rw [List.length_append]; exact HKM3.out), by simp; omega, HQF.out, HO8.out.same fun j hj => setRow_other _ _ _ _ (by have := HO8.out.block j hj; omega), fun h => absurd h (by simp), ⟨_, row?_setRow_same _ _ _ (by rw [HR8.out]; rfl), HV8.out.setRow HR8.out (noInt1 _ _ _) _⟩, below_setRow HB8.out (Nat.le_refl _) _, HE0.out.on (below_setRow HB8.out (Nat.le_refl _) _)⟩, ?_⟩
         · rw [← HGL.out, List.append_assoc]
           rw [if_pos HQ0.out]; rfl
         · rw [HVL.out]; simp [slN]; omega
       · have HQ0 := Lib.hid hq0
         have d0 : decide (q = 0) = false := decide_eq_false hq0
         clear hq0
         obtain ⟨z, hz⟩ : ∃ z, z = 9 - (Lib.decDigits u).length := ⟨_, rfl⟩
         have hz2 : (9 : Int) - ((Lib.decDigits u).length : Int) = (z : Int) := by omega
         have hzl : z ≤ 9 := by omega
         have HRP := Lib.hid (repeat_any z (by omega) w7)
         have HZZ := Lib.hid hz
         clear hz
         go_wp2_with fail
         refine HRP.out.mono ?_
         rintro r w9 ⟨rfl, hb9⟩
         have HR7 := Lib.hid ((row?_below hb9 (by omega)).trans HR7.out)
         have HR7q := Lib.hid ((row?_below hb9 (by omega)).trans HR7q.out)
         have HO7 := Lib.hid (HO7.out.below hb9 (Nat.le_refl _))
         have HV7 := Lib.hid (HV7.out.below hb9)
         have HB7 := Lib.hid (HB7.out.trans (hb9.mono HB7.out.size))
         have hs9 := hb9.size
         have b2 : (List.replicate z (48 : UInt8)).length ≤ 8388608 := by simp; omega
         clear hb9 HRP
         go_wp2_with (at_builtin; refine wpList_appO elStr 86 Tryz.underlying86 rfl _ _ rfl (w.heap.size + 1) _ l rfl (HO7.out.alloc _) _ ((List.replicate z (48 : UInt8) ++ Lib.decDigits u)) _ rfl (row?_alloc_at _ _ _ _ (by simp)) (by omega) (by simp; omega) ?_)
         intro v' w8 hO8 hb8 hg8 _
         have HO8 := Lib.hid hO8
         have hown : ∀ j, (Value.slice oa l.length oc).ownBlock = some j → ∃ t, (w9.alloc (.cells #[.string ⟨((List.replicate z (48 : UInt8) ++ Lib.decDigits u)).toArray⟩] 9)).cell? ⟨j, 0, none⟩ = some (.string t) := by
           intro j hj
           cases l with
           | nil => have := HLN.out rfl; rw [this] at hj; cases hj
           | cons x l =>
             have hc := World.ownsRow.cells (base := w.heap.size + 1) (HO7.out.alloc (.cells #[.string ⟨((List.replicate z (48 : UInt8) ++ Lib.decDigits u)).toArray⟩] 9)) (g := j) hj _ _ (encC_get elStr (l := x :: l) (i := 0) (j := 0) (x := x) (u := .string ⟨x.toArray⟩) rfl rfl)
             have e1 : (⟨j, 0, none⟩ : Addr).add (0 * 1 + 0) = ⟨j, 0, none⟩ := by unfold Addr.add; split <;> simp_all
             rw [e1] at hc
             exact ⟨_, hc⟩
         have hsm := grownS hg8
         have hball : Below w9.heap.size w9 (w9.alloc (.cells #[.string ⟨((List.replicate z (48 : UInt8) ++ Lib.decDigits u)).toArray⟩] 9)) := (Below.refl _ _).alloc (Nat.le_refl _) _
         have hv8 := (HV7.out.below hball)
         have hr8q : row? w8 w4.heap.size = some #[.slice a4 Q c4] := by
           have h7 := (row?_below hball (row?_lt HR7q.out)).trans HR7q.out
           refine (row?_congr (hsm.block _ (row?_lt h7) fun e => ?_)).trans h7
           obtain ⟨t, ht⟩ := hown _ e
           rw [cell?_row h7] at ht
           cases ht
         have hr8 : row? w8 w.heap.size = some #[.slice a1 K c1] := by
           have h7 := (row?_below hball (row?_lt HR7.out)).trans HR7.out
           refine (row?_congr (hsm.block _ (row?_lt h7) fun e => ?_)).trans h7
           obtain ⟨t, ht⟩ := hown _ e
           rw [cell?_row h7] at ht
           cases ht
         have hvw8 : RdN .u32 w8 (.slice a4 Q c4) (digB 4294967296 q) := hv8.same hsm fun j hj x e => by
           obtain ⟨t, ht⟩ := hown j hj
           rw [ht] at e
           cases e
         have HV8 := Lib.hid hvw8
         have HR8 := Lib.hid hr8
         have HB8 := Lib.hid ((HB7.out.alloc (HB7.out.size) (.cells #[.string ⟨((List.replicate z (48 : UInt8) ++ Lib.decDigits u)).toArray⟩] 9)).trans (hb8.mono (by omega)))
         clear hO8 hb8 hg8 hown hsm hball hv8 hvw8 HO7 HV7 HR7 HR7q
         obtain ⟨va8, vc8, hvs⟩ := HO8.out.sl
         have hvl : slN v' = l.length + 1 := by rw [hvs]; simp [slN]
         have HVL := Lib.hid hvl
         clear hvs hvl
         go_wp2_with fail
         refine ⟨⟨q, f', l ++ [(List.replicate z (48 : UInt8) ++ Lib.decDigits u)], hqf, ?_, .inr (by rw [List.length_append]; exact HKM3.out), by simp; omega, HQF.out, HO8.out.same fun j hj => setRow_other _ _ _ _ (by have := HO8.out.block j hj; omega), fun h => absurd h (by simp), ⟨_, row?_setRow_same _ _ _ (by rw [HR8.out]; rfl), HV8.out.setRow HR8.out (noInt1 _ _ _) _⟩, below_setRow HB8.out (Nat.le_refl _) _, HE0.out.on (below_setRow HB8.out (Nat.le_refl _) _)⟩, ?_⟩
         · rw [← HGL.out, List.append_assoc]
           rw [if_neg HQ0.out, HPAD.out, HZZ.out]; rfl
         · rw [HVL.out]; simp [slN]; omega
end Go.Proofs.YtgnlebnpnpjfmaaGreatDoor
