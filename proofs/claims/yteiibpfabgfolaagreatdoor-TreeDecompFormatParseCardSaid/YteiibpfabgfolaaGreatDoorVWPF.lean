/- Walk of the reference of trees of bags: the bag of a line. -/
import Derived.Test.YteiibpfabgfolaaGreatDoorVIa
import Derived.Test.YteiibpfabgfolaaGreatDoorVBE
import Derived.Test.YteiibpfabgfolaaGreatDoorVRef3
set_option linter.all false
namespace Go.Pal
open Go Go.RowKit
theorem upW_of {p : List UInt8} (h0 : p ≠ [45, 49]) (h1 : ∀ c ∈ p, isDig c) (h2 : badDig p = false) (h3 : p.length ≤ 4) : upW p = if (dval 0 p : Int) < 4096 then some (dval 0 p : Int) else none := by
 unfold upW
 rw [if_neg h0]
 by_cases h : dval 0 p < 4096
 · rw [if_pos ⟨h1, h2, h3, h⟩, if_pos (by omega)]
 · rw [if_neg (fun e => h e.2.2.2), if_neg (by omega)]
theorem upW_long {p : List UInt8} (h : 4 < p.length) : upW p = none := by
 unfold upW
 rw [if_neg (fun e => by rw [e] at h; simp at h), if_neg (fun e => by have := e.2.2.1; omega)]
theorem upW_nil : upW [] = none := by
 unfold upW
 rw [if_neg (by simp), if_neg (fun e => by have := e.2.1; cases this)]
theorem upW_nodig {p : List UInt8} (h0 : p ≠ [45, 49]) {c : UInt8} (hc : c ∈ p) (h : ¬ isDig c) : upW p = none := by
 unfold upW
 rw [if_neg h0, if_neg (fun e => h (e.1 c hc))]
theorem upW_bad {p : List UInt8} (h0 : p ≠ [45, 49]) (h : badDig p = true) : upW p = none := by
 unfold upW
 rw [if_neg h0, if_neg (fun e => by rw [h] at e; cases e.2.1)]
theorem bagR_no {s : List UInt8} (h : ∀ x ∈ s, x ≠ 32) : bagR s = none := by
 unfold bagR
 rw [cut1_no h]
 rfl
theorem bagR_at {s : List UInt8} {k : Nat} (hk : s[k]? = some 32) (h : ∀ x ∈ s.take k, x ≠ 32) : bagR s = match upW (s.take k) with | none => none | some n => if (readSet (s.drop (k + 1))).2 = 0 then some (n, setL (readSet (s.drop (k + 1))).1) else none := by
 have e : s = s.take k ++ 32 :: s.drop (k + 1) := by
   have h1 := drop_head hk
   calc s = s.take k ++ s.drop k := (List.take_append_drop k s).symm
     _ = _ := by rw [h1]
 have hc : Lib.cut s [32] = (s.take k, s.drop (k + 1), true) := by
   have h2 : Lib.cut (s.take k ++ 32 :: s.drop (k + 1)) [32] = (s.take k, s.drop (k + 1), true) := cut1_at h
   rw [← e] at h2
   exact h2
 unfold bagR
 rw [hc]
 rfl
theorem take_mem {s : List UInt8} {k : Nat} {P : UInt8 → Prop} (h : ∀ x ∈ s.take k, P x) {x : UInt8} (hx : s[k]? = some x) (hp : P x) : ∀ y ∈ s.take (k + 1), P y := by
 intro y hy
 rw [take_snoc hx] at hy
 rcases List.mem_append.1 hy with hy | hy
 · exact h y hy
 · rw [List.mem_singleton.1 hy]; exact hp
end Go.Pal
namespace Go.Proofs.YteiibpfabgfolaaGreatDoor
open Go Go.RowKit Go.Pal Go.Shelf
attribute [local go_sem] Oper.semAt_some str_get str_upto str_from
@[go_sem ↓ high] theorem loadRBc (a : Addr) : loadVar 60 a = loadLater 60 a := rfl
@[go_sem ↓ high] theorem storeRBc (a : Addr) (v : Value) : storeVar 60 a v = storeLater 60 a v := rfl
@[go_sem] theorem loadRBc_run (w : World) (a : Addr) : (loadLater 60 a).run Tryz.prog w = rowLoad Tryz.prog 60 a w := rfl
@[go_sem] theorem storeRBc_run (w : World) (a : Addr) (v : Value) : (storeLater 60 a v).run Tryz.prog w = rowStore Tryz.prog 60 a v w := rfl
@[go_sem] theorem loadRBc_at (w : World) (g : Nat) : rowLoad Tryz.prog 60 ⟨g, 0, none⟩ w = match row? w g with
     | some c => if c.size = 2 then .ok (.agg c) w else laterLoad Tryz.prog 60 ⟨g, 0, none⟩ w
     | none => laterLoad Tryz.prog 60 ⟨g, 0, none⟩ w := load_row Tryz.isAgg60 Tryz.sizeOf60 w g
@[go_sem] theorem storeRBc_at (w : World) (g : Nat) (d : Array Value) : rowStore Tryz.prog 60 ⟨g, 0, none⟩ (.agg d) w = match row? w g with
     | some c => if c.size = 2 ∧ d.size = 2 ∧ allOne d = true then .ok () (w.setRow g d) else laterStore Tryz.prog 60 ⟨g, 0, none⟩ (.agg d) w
     | none => laterStore Tryz.prog 60 ⟨g, 0, none⟩ (.agg d) w := store_row Tryz.sizeOf60 w g d
@[go_sem ↓ high] theorem zeroRBc (w : World) : (zeroValue 60).run Tryz.prog w = .ok (.agg #[.int .i64 0, .slice none 0 0]) w := by kernel_rfl
@[go_sem ↓ high] theorem build_rB0 (w : World) : (Instr.build 60 #[]).run Tryz.prog w = .ok (.agg #[.int .i64 0, .slice none 0 0]) w := by kernel_rfl
@[go_sem] theorem allOne_rB (p : Int) (q : Option Addr) (n c : Nat) : allOne #[.int .i64 p, .slice q n c] = true := by unfold allOne; simp [Value.oneCell']
def LineRes (B : Nat) (s : List UInt8) (e : Ending) (w' : World) : Prop :=
 (∃ (p : Int) (S : Nat) (q : Option Addr) (n c : Nat), bagR s = some (p, S) ∧ IsSet S ∧ e = .returned (.tuple #[.agg #[.int .i64 p, .slice q n c], .bool true]) ∧ OwnI B w' (.slice q n c) (elemsI S)) ∨
 ∃ (p : Int) (q : Option Addr) (n c : Nat), bagR s = none ∧ e = .returned (.tuple #[.agg #[.int .i64 p, .slice q n c], .bool false])
set_option maxRecDepth 10000 in
set_option maxHeartbeats 8000000 in
theorem rline_any (s : List UInt8) (hs : s.length ≤ 100000) (w : World) :
   Calls Tryz.prog 34 #[.string ⟨s.toArray⟩] w fun e w' => LineRes w.heap.size s e w' ∧ Below w.heap.size w w' := by
 obtain ⟨X, hX⟩ : ∃ X, X = bagR s := ⟨_, rfl⟩
 have HX := Lib.hid hX
 unfold LineRes
 rw [← hX]
 clear hX
 go_enter Tryz.func34, Tryz.ntmps34
 go_wp2_with fail
 obtain ⟨W0, hW0⟩ : ∃ W0, W0 = w.alloc (.cells #[.int .i64 0, .slice none 0 0] 60) := ⟨_, rfl⟩
 have HB0 := Lib.hid (show Below w.heap.size w W0 from by rw [hW0]; exact (Below.refl _ w).alloc (Nat.le_refl _) _)
 have hr0 : row? W0 w.heap.size = some #[.int .i64 0, .slice none 0 0] := by rw [hW0]; exact row?_alloc_at _ _ _ _ rfl
 rw [← hW0]
 clear hW0
 go_loopw [4] (fun g wr => ∃ k : Nat, k ≤ s.length ∧ g = .int .i64 (k : Int) ∧ Hid (∀ x ∈ s.take k, x ≠ 32) ∧ row? wr w.heap.size = some #[.int .i64 0, .slice none 0 0] ∧ Below w.heap.size w wr) (fun g _ => s.length - (intOf g).toNat)
 case atStart => exact ⟨0, by omega, rfl, Lib.hid (by simp), hr0, HB0.out⟩
 case round =>
   clear hr0
   obtain ⟨k, hk, rfl, HNo, r0, hb⟩ := hrel
   have HB := Lib.hid hb
   clear hb
   by_cases hlt : k < s.length
   · obtain ⟨x, hx⟩ : ∃ x, s[k]? = some x := ⟨_, List.getElem?_eq_getElem hlt⟩
     obtain ⟨hk2, hx2⟩ := List.getElem?_eq_some_iff.1 hx
     by_cases hx32 : x = 32
     · subst hx32
       have HXa := Lib.hid (HX.out.trans (bagR_at hx HNo.out))
       have hpl : (s.take k).length = k := by rw [List.length_take]; omega
       by_cases hk0 : k = 0
       · have HXe := Lib.hid (show X = none from by rw [HXa.out, hk0, List.take_zero, upW_nil])
         subst hk0
         go_wp2_with fail
         refine ret_c2 w.heap.size #[.int .i64 0, .slice none 0 0] rfl Tryz.isAgg60 Tryz.sizeOf60 rfl rfl (row?_setRow_same _ _ _ (by rw [r0]; rfl)) rfl (by first | exact ⟨.inr ⟨0, none, 0, 0, HXe.out, rfl⟩, below_setRow HB.out (by omega) _⟩ | exact ⟨.inr ⟨HXe.out, 0, none, 0, 0, rfl⟩, below_setRow HB.out (by omega) _⟩)
       · have hki0 : ((k : Int) == 0) = false := beq_false_of_ne (by omega)
         have hki1 : ¬ (k : Int) = 0 := by omega
         by_cases hk4 : 4 < k
         · have HXe := Lib.hid (show X = none from by rw [HXa.out, upW_long (by rw [hpl]; exact hk4)])
           have hki4 : decide ((4 : Int) < (k : Int)) = true := decide_eq_true (by omega)
           go_wp2_with fail
           refine ret_c2 w.heap.size #[.int .i64 0, .slice none 0 0] rfl Tryz.isAgg60 Tryz.sizeOf60 rfl rfl (row?_setRow_same _ _ _ (by rw [r0]; rfl)) rfl (by first | exact ⟨.inr ⟨0, none, 0, 0, HXe.out, rfl⟩, below_setRow HB.out (by omega) _⟩ | exact ⟨.inr ⟨HXe.out, 0, none, 0, 0, rfl⟩, below_setRow HB.out (by omega) _⟩)
         · have hki4 : decide ((4 : Int) < (k : Int)) = false := decide_eq_false (by omega)
           have hki5 : ¬ (4 : Int) < (k : Int) := by omega
           have HX32 := Lib.hid hx
           clear hx
           by_cases hm : s.take k = [45, 49]
           · have hup : upW (s.take k) = if (-1 : Int) < 4096 then some (-1) else none := by unfold upW; rw [if_pos hm]; rfl
             have HUpW := Lib.hid hup
             clear hup
             have HPs := Lib.hid fun W => rparse01_any (s.drop (k + 1)) (by rw [List.length_drop]; omega) W
             have HSe := Lib.hid (isSet_read (s.drop (k + 1)))
             have HUp := Lib.hid (readSet_up (s.drop (k + 1)))
             have HXm : Hid (X = if ((-1) : Int) < 4096 then (if (readSet (s.drop (k + 1))).2 = 0 then some ((-1), setL (readSet (s.drop (k + 1))).1) else none) else none) := Lib.hid (by
               rw [HXa.out, HUpW.out]
               by_cases hz : ((-1) : Int) < 4096
               · rw [if_pos hz, if_pos hz]
               · rw [if_neg hz, if_neg hz])
             obtain ⟨Y, hY⟩ : ∃ Y, Y = readSet (s.drop (k + 1)) := ⟨_, rfl⟩
             rw [← hY] at HPs HSe HUp HXm
             obtain ⟨yl, ye⟩ := Y
             simp only at HPs HSe HUp HXm
             clear hY
             go_wp2_with fail
             refine (HPs.out wr).mono ?_
             rintro e w2 ⟨v2, rfl, hO2, hb2⟩
             have HB2 := Lib.hid (HB.out.trans (hb2.mono HB.out.size))
             have HO2 := Lib.hid hO2
             have r2 := (row?_below hb2 (row?_lt r0)).trans r0
             have hrl := row?_lt r0
             obtain ⟨q2, c2, rfl⟩ := hO2.sl
             clear hO2 hb2 HPs
             by_cases hye : ye = 0
             · subst hye
               by_cases hz : ((-1) : Int) < 4096
               · have HXs := Lib.hid (HXm.out.trans ((if_pos hz).trans (if_pos rfl)))
                 go_wp2_with fail
                 refine ret_c2 w.heap.size _ rfl Tryz.isAgg60 Tryz.sizeOf60 rfl rfl (row?_setRow_same _ _ _ (by rw [r2]; rfl)) rfl ⟨.inl ⟨_, _, _, _, _, HXs.out, HSe.out, rfl, ?_⟩, below_setRow HB2.out (by omega) _⟩
                 rw [elems_setL HUp.out.1 HUp.out.2.1]
                 have hO3 := HO2.out
                 rw [List.length_map] at hO3
                 exact (hO3.same fun g hg => setRow_other w2 w.heap.size g _ (by have := hO3.block g hg; omega)).lower HB.out.size
               · first
                 | exact absurd (by decide) hz
                 | (have HXe := Lib.hid (HXm.out.trans (if_neg hz))
                    have hz2 : decide (((-1) : Int) < 4096) = false := decide_eq_false hz
                    go_wp2_with fail
                    refine ret_c2 w.heap.size _ rfl Tryz.isAgg60 Tryz.sizeOf60 rfl rfl (row?_setRow_same _ _ _ (by rw [r2]; rfl)) rfl ⟨.inr ⟨_, _, _, _, HXe.out, rfl⟩, below_setRow HB2.out (by omega) _⟩)
             · have HXe := Lib.hid (show X = none from by
                 rw [HXm.out]
                 by_cases hz : ((-1) : Int) < 4096
                 · rw [if_pos hz, if_neg hye]
                 · rw [if_neg hz])
               have hye2 : ((ye : Int) == 0) = false := beq_false_of_ne (by omega)
               have hye3 : ¬ (ye : Int) = 0 := by omega
               go_wp2_with fail
               refine ret_c2 w.heap.size _ rfl Tryz.isAgg60 Tryz.sizeOf60 rfl rfl (row?_setRow_same _ _ _ (by rw [r2]; rfl)) rfl ⟨.inr ⟨_, _, _, _, HXe.out, rfl⟩, below_setRow HB2.out (by omega) _⟩
           · have HM := Lib.hid hm
             have HPl := Lib.hid hpl
             have hm2 : (s.take k == [45, 49]) = false := by simpa using hm
             clear hpl
             go_wp2_with fail
             go_loopw [5, 6] (fun up i wr => ∃ j : Nat, j ≤ k ∧ i = .int .i64 (j : Int) ∧ (∃ u : Nat, up = .int .i64 (u : Int) ∧ u ≤ 9999 ∧ Hid (u = dval 0 (s.take j))) ∧ Hid (∀ x ∈ s.take j, isDig x) ∧ Hid (0 < j → s.head? = some 48 → ¬ 1 < k) ∧ row? wr w.heap.size = some #[.int .i64 0, .slice none 0 0] ∧ Below w.heap.size w wr) (fun _ i _ => k - (intOf i).toNat)
             case atStart => exact ⟨0, by omega, rfl, ⟨0, rfl, by omega, Lib.hid rfl⟩, Lib.hid (by simp), Lib.hid (fun h => absurd h (by omega)), r0, HB.out⟩
             case round =>
               clear r0 HB
               obtain ⟨j, hj, rfl, ⟨u, rfl, hu, HU⟩, HD, HZ, r0, hb⟩ := hrel
               have HB := Lib.hid hb
               clear hb
               by_cases hjk : j < k
               · obtain ⟨x, hx⟩ : ∃ x, s[j]? = some x := ⟨_, List.getElem?_eq_getElem (by omega)⟩
                 obtain ⟨hk6, hx6⟩ := List.getElem?_eq_some_iff.1 hx
                 have hxm : x ∈ s.take k := by
                   have h1 : (s.take k)[j]? = some x := by rw [List.getElem?_take, if_pos hjk]; exact hx
                   exact List.mem_of_getElem? h1
                 have HXM := Lib.hid hxm
                 have hxl : x.toNat < 256 := x.toNat_lt
                 by_cases hd : isDig x
                 · have d1 : decide ((x.toNat : Int) < 48) = false := decide_eq_false (by have := hd.1; omega)
                   have d2 : decide ((57 : Int) < (x.toNat : Int)) = false := decide_eq_false (by have := hd.2; omega)
                   have d3 : ¬ (x.toNat : Int) < 48 := by have := hd.1; omega
                   have d4 : ¬ (57 : Int) < (x.toNat : Int) := by have := hd.2; omega
                   have hdv : u * 10 + (x.toNat - 48) = dval 0 (s.take (j + 1)) := by rw [take_snoc hx, dval_snoc, HU.out]
                   have hdb : dval 0 (s.take (j + 1)) ≤ 9999 := by
                     have h1 := dval_lt (s.take (j + 1)) (take_mem HD.out hx hd)
                     have h2 : 10 ^ (s.take (j + 1)).length ≤ 10 ^ 4 := Nat.pow_le_pow_right (by decide) (by rw [List.length_take]; omega)
                     omega
                   have HXJ := Lib.hid hx
                   clear hx hxm
                   by_cases hj0 : j = 0
                   · subst hj0
                     have hhead : s.head? = some x := by rw [List.head?_eq_getElem?]; exact HXJ.out
                     have HHd := Lib.hid hhead
                     clear hhead
                     by_cases hx48 : x.toNat = 48
                     · have hx49 : x = 48 := UInt8.toNat_inj.1 hx48
                       have d5 : ((x.toNat : Int) == 48) = true := by rw [beq_iff_eq]; omega
                       by_cases hk1 : 1 < k
                       · have HXe := Lib.hid (show X = none from by
                           rw [HXa.out, upW_bad HM.out]
                           unfold badDig
                           rw [HPl.out, List.head?_take, if_neg (by omega), HHd.out, hx49]
                           simp
                           exact .inr hk1)
                         have d6 : decide ((1 : Int) < (k : Int)) = true := decide_eq_true (by omega)
                         go_wp2_with fail
                         refine ret_c2 w.heap.size #[.int .i64 0, .slice none 0 0] rfl Tryz.isAgg60 Tryz.sizeOf60 rfl rfl (row?_setRow_same _ _ _ (by rw [r0]; rfl)) rfl (by first | exact ⟨.inr ⟨0, none, 0, 0, HXe.out, rfl⟩, below_setRow HB.out (by omega) _⟩ | exact ⟨.inr ⟨HXe.out, 0, none, 0, 0, rfl⟩, below_setRow HB.out (by omega) _⟩)
                       · have d6 : decide ((1 : Int) < (k : Int)) = false := decide_eq_false (by omega)
                         have d7 : ¬ (1 : Int) < (k : Int) := by omega
                         go_wp2_with fail
                         go_roundw
                         case rel =>
                           refine ⟨0 + 1, by omega, by go_num, ⟨u * 10 + (x.toNat - 48), ?_, ?_, Lib.hid hdv⟩, Lib.hid (take_mem HD.out HXJ.out hd), Lib.hid (fun _ _ => hk1), r0, HB.out⟩
                           · refine congrArg (Value.int .i64) ?_
                             have h48 := hd.1
                             first | omega | (unfold wrap64; omega)
                           · rw [hdv]
                             exact hdb
                         case measure => simp [intOf]; omega
                     · have d5 : ((x.toNat : Int) == 48) = false := by rw [beq_eq_false_iff_ne]; omega
                       have d8 : ¬ (x.toNat : Int) = 48 := by omega
                       go_wp2_with fail
                       go_roundw
                       case rel =>
                         refine ⟨0 + 1, by omega, by go_num, ⟨u * 10 + (x.toNat - 48), ?_, ?_, Lib.hid hdv⟩, Lib.hid (take_mem HD.out HXJ.out hd), Lib.hid (fun _ h _ => by rw [HHd.out] at h; cases h; exact hx48 rfl), r0, HB.out⟩
                         · refine congrArg (Value.int .i64) ?_
                           have h48 := hd.1
                           first | omega | (unfold wrap64; omega)
                         · rw [hdv]
                           exact hdb
                       case measure => simp [intOf]; omega
                   · have d5 : ((j : Int) == 0) = false := beq_false_of_ne (by omega)
                     have d7 : ¬ (j : Int) = 0 := by omega
                     have HZ2 := Lib.hid (HZ.out (by omega))
                     go_wp2_with fail
                     go_roundw
                     case rel =>
                       refine ⟨j + 1, by omega, by go_num, ⟨u * 10 + (x.toNat - 48), ?_, ?_, Lib.hid hdv⟩, Lib.hid (take_mem HD.out HXJ.out hd), Lib.hid (fun _ => HZ2.out), r0, HB.out⟩
                       · refine congrArg (Value.int .i64) ?_
                         have h48 := hd.1
                         first | omega | (unfold wrap64; omega)
                       · rw [hdv]
                         exact hdb
                     case measure => simp [intOf]; omega
                 · have HXe := Lib.hid (show X = none from by rw [HXa.out, upW_nodig HM.out HXM.out hd])
                   clear hx hxm
                   by_cases hd1 : x.toNat < 48
                   · have d1 : decide ((x.toNat : Int) < 48) = true := decide_eq_true (by omega)
                     go_wp2_with fail
                     refine ret_c2 w.heap.size #[.int .i64 0, .slice none 0 0] rfl Tryz.isAgg60 Tryz.sizeOf60 rfl rfl (row?_setRow_same _ _ _ (by rw [r0]; rfl)) rfl (by first | exact ⟨.inr ⟨0, none, 0, 0, HXe.out, rfl⟩, below_setRow HB.out (by omega) _⟩ | exact ⟨.inr ⟨HXe.out, 0, none, 0, 0, rfl⟩, below_setRow HB.out (by omega) _⟩)
                   · have d1 : decide ((x.toNat : Int) < 48) = false := decide_eq_false (by omega)
                     have d2 : decide ((57 : Int) < (x.toNat : Int)) = true := decide_eq_true (by unfold isDig at hd; omega)
                     go_wp2_with fail
                     refine ret_c2 w.heap.size #[.int .i64 0, .slice none 0 0] rfl Tryz.isAgg60 Tryz.sizeOf60 rfl rfl (row?_setRow_same _ _ _ (by rw [r0]; rfl)) rfl (by first | exact ⟨.inr ⟨0, none, 0, 0, HXe.out, rfl⟩, below_setRow HB.out (by omega) _⟩ | exact ⟨.inr ⟨HXe.out, 0, none, 0, 0, rfl⟩, below_setRow HB.out (by omega) _⟩)
               · have hjn : j = k := by omega
                 subst hjn
                 have hbd : badDig (s.take j) = false := by
                   unfold badDig
                   rw [HPl.out, List.head?_take, if_neg (by omega)]
                   have h1 : (s.take j).isEmpty = false := by
                     cases h : s.take j with
                     | nil => have := HPl.out; rw [h] at this; simp at this; omega
                     | cons a b => rfl
                   rw [h1, Bool.false_or, Bool.and_eq_false_iff]
                   by_cases h2 : s.head? = some 48
                   · exact .inl (decide_eq_false (HZ.out (by omega) h2))
                   · exact .inr (decide_eq_false h2)
                 have hup : upW (s.take j) = if (u : Int) < 4096 then some (u : Int) else none := by
                   rw [HU.out]
                   exact upW_of HM.out HD.out hbd (by rw [HPl.out]; omega)
                 have HUpW := Lib.hid hup
                 clear hbd hup
                 have HPs := Lib.hid fun W => rparse01_any (s.drop (j + 1)) (by rw [List.length_drop]; omega) W
                 have HSe := Lib.hid (isSet_read (s.drop (j + 1)))
                 have HUp := Lib.hid (readSet_up (s.drop (j + 1)))
                 have HXm : Hid (X = if ((u : Int) : Int) < 4096 then (if (readSet (s.drop (j + 1))).2 = 0 then some ((u : Int), setL (readSet (s.drop (j + 1))).1) else none) else none) := Lib.hid (by
                   rw [HXa.out, HUpW.out]
                   by_cases hz : ((u : Int) : Int) < 4096
                   · rw [if_pos hz, if_pos hz]
                   · rw [if_neg hz, if_neg hz])
                 obtain ⟨Y, hY⟩ : ∃ Y, Y = readSet (s.drop (j + 1)) := ⟨_, rfl⟩
                 rw [← hY] at HPs HSe HUp HXm
                 obtain ⟨yl, ye⟩ := Y
                 simp only at HPs HSe HUp HXm
                 clear hY
                 go_wp2_with fail
                 refine (HPs.out wr).mono ?_
                 rintro e w2 ⟨v2, rfl, hO2, hb2⟩
                 have HB2 := Lib.hid (HB.out.trans (hb2.mono HB.out.size))
                 have HO2 := Lib.hid hO2
                 have r2 := (row?_below hb2 (row?_lt r0)).trans r0
                 have hrl := row?_lt r0
                 obtain ⟨q2, c2, rfl⟩ := hO2.sl
                 clear hO2 hb2 HPs
                 by_cases hye : ye = 0
                 · subst hye
                   by_cases hz : ((u : Int) : Int) < 4096
                   · have HXs := Lib.hid (HXm.out.trans ((if_pos hz).trans (if_pos rfl)))
                     go_wp2_with fail
                     refine ret_c2 w.heap.size _ rfl Tryz.isAgg60 Tryz.sizeOf60 rfl rfl (row?_setRow_same _ _ _ (by rw [r2]; rfl)) rfl ⟨.inl ⟨_, _, _, _, _, HXs.out, HSe.out, rfl, ?_⟩, below_setRow HB2.out (by omega) _⟩
                     rw [elems_setL HUp.out.1 HUp.out.2.1]
                     have hO3 := HO2.out
                     rw [List.length_map] at hO3
                     exact (hO3.same fun g hg => setRow_other w2 w.heap.size g _ (by have := hO3.block g hg; omega)).lower HB.out.size
                   · first
                     | exact absurd (by decide) hz
                     | (have HXe := Lib.hid (HXm.out.trans (if_neg hz))
                        have hz2 : decide (((u : Int) : Int) < 4096) = false := decide_eq_false hz
                        go_wp2_with fail
                        refine ret_c2 w.heap.size _ rfl Tryz.isAgg60 Tryz.sizeOf60 rfl rfl (row?_setRow_same _ _ _ (by rw [r2]; rfl)) rfl ⟨.inr ⟨_, _, _, _, HXe.out, rfl⟩, below_setRow HB2.out (by omega) _⟩)
                 · have HXe := Lib.hid (show X = none from by
                     rw [HXm.out]
                     by_cases hz : ((u : Int) : Int) < 4096
                     · rw [if_pos hz, if_neg hye]
                     · rw [if_neg hz])
                   have hye2 : ((ye : Int) == 0) = false := beq_false_of_ne (by omega)
                   have hye3 : ¬ (ye : Int) = 0 := by omega
                   go_wp2_with fail
                   refine ret_c2 w.heap.size _ rfl Tryz.isAgg60 Tryz.sizeOf60 rfl rfl (row?_setRow_same _ _ _ (by rw [r2]; rfl)) rfl ⟨.inr ⟨_, _, _, _, HXe.out, rfl⟩, below_setRow HB2.out (by omega) _⟩
     · have HNx := Lib.hid (take_mem HNo.out hx hx32)
       have hx3 : ¬ x.toNat = 32 := fun h => hx32 (UInt8.toNat_inj.1 h)
       have hx4 : ((x.toNat : Int) != 32) = true := by simp; omega
       clear hx hx32
       go_wp2_with fail
       go_roundw
       case rel => exact ⟨k + 1, by omega, by go_num, HNx, r0, HB.out⟩
       case measure => simp [intOf]; omega
   · have hkn : k = s.length := by omega
     have HXe := Lib.hid (show X = none from by
       have h := HNo.out
       rw [hkn, List.take_length] at h
       exact HX.out.trans (bagR_no h))
     subst hkn
     go_wp2_with fail
     refine ret_c2 w.heap.size #[.int .i64 0, .slice none 0 0] rfl Tryz.isAgg60 Tryz.sizeOf60 rfl rfl (row?_setRow_same _ _ _ (by rw [r0]; rfl)) rfl (by first | exact ⟨.inr ⟨0, none, 0, 0, HXe.out, rfl⟩, below_setRow HB.out (by omega) _⟩ | exact ⟨.inr ⟨HXe.out, 0, none, 0, 0, rfl⟩, below_setRow HB.out (by omega) _⟩)
end Go.Proofs.YteiibpfabgfolaaGreatDoor
