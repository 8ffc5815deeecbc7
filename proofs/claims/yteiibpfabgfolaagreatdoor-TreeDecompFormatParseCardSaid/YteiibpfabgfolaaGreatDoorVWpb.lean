/- Walks of package treedecomp: up (the parent of a text). Walk of package treedecomp: Parse. -/
import Derived.Test.YteiibpfabgfolaaGreatDoorVIa
import Derived.Test.YteiibpfabgfolaaGreatDoorVWw
import Derived.Test.YteiibpfabgfolaaGreatDoorVIe
import Derived.Test.YteiibpfabgfolaaGreatDoorVBb
import Derived.Test.YteiibpfabgfolaaGreatDoorVKW
import Derived.Test.YteiibpfabgfolaaGreatDoorVGrM
set_option maxHeartbeats 4000000
set_option linter.all false
namespace Go.Pal
open Go Go.RowKit
theorem upW_none {s : List UInt8} (h : ∀ n, -1 ≤ n → n < 4096 → Lib.itoa n ≠ s) : upW s = none := by
 cases hu : upW s with
 | none => rfl
 | some n =>
   obtain ⟨h1, h2, h3, -⟩ := upW_inv hu
   exact absurd h1 (h n h2 h3)
end Go.Pal
namespace Go.Proofs.YteiibpfabgfolaaGreatDoor
open Go Go.RowKit Go.Pal Go.Shelf
attribute [local go_sem] Oper.semAt_some
def UpRes (s : List UInt8) (e : Ending) : Prop := (∃ n, upW s = some n ∧ e = .returned (.tuple #[.int .i64 n, .bool true])) ∨ ∃ n, upW s = none ∧ e = .returned (.tuple #[.int .i64 n, .bool false])
theorem up_any (s : List UInt8) (hs : s.length ≤ 8388608) (w : World) (hP : Pow w) (hE : Errs w) :
   Calls Tryz.prog 29 #[.string ⟨s.toArray⟩] w fun e w' => UpRes s e ∧ Below w.heap.size w w' := by
 have HP := Lib.hid hP
 have HA := Lib.hid (atoi_any s hs w hE)
 clear hP hE
 go_enter Tryz.func29, Tryz.ntmps29
 go_wp2_with fail
 refine HA.out.mono ?_
 rintro e w1 ⟨hb1, h⟩
 have HB1 := Lib.hid hb1
 clear hb1 HA
 rcases h with ⟨n, hok, hn, rfl⟩ | ⟨n, t, p, hno, rfl⟩
 · have HOk := Lib.hid hok
   have HN := Lib.hid hn
   clear hok hn
   go_wp2_with fail
   refine (itoa_any n HN.out w1 (HP.out.on HB1.out)).mono ?_
   rintro e w2 ⟨rfl, hb2⟩
   have HB2 := Lib.hid (HB1.out.trans (hb2.mono HB1.out.size))
   clear hb2
   by_cases he : Lib.itoa n = s
   · by_cases hr : n < -1
     · have HNB := Lib.hid (upW_none (s := s) fun m h1 h2 hm => by
         have h3 : n = m := itoa_inj HN.out ⟨by omega, by omega⟩ (he.trans hm.symm)
         omega)
       have hr1 : decide (n < -1) = true := decide_eq_true hr
       have hr4 : ¬ -1 ≤ n := by omega
       subst he
       go_wp2_with fail
       go_ret2
       exact ⟨.inr ⟨_, HNB.out, rfl⟩, HB2.out⟩
     · by_cases hq : 4096 ≤ n
       · have HNB := Lib.hid (upW_none (s := s) fun m h1 h2 hm => by
           have h3 : n = m := itoa_inj HN.out ⟨by omega, by omega⟩ (he.trans hm.symm)
           omega)
         have hr1 : ¬ n < 4096 := by omega
         have hr3 : decide (n < 4096) = false := decide_eq_false hr1
         have hr2 : -1 ≤ n := by omega
         subst he
         go_wp2_with fail
         go_ret2
         exact ⟨.inr ⟨_, HNB.out, rfl⟩, HB2.out⟩
       · have HNo := Lib.hid (show upW s = some n from by rw [← he]; exact upW_itoa (by omega) (by omega))
         have hr1 : n < 4096 := by omega
         have hr2 : -1 ≤ n := by omega
         subst he
         go_wp2_with fail
         go_ret2
         exact ⟨.inl ⟨_, HNo.out, rfl⟩, HB2.out⟩
   · have he1 : ¬ (Lib.itoa n).toArray = s.toArray := fun h => he (by simpa using h)
     have HNB := Lib.hid (upW_none (s := s) fun m h1 h2 hm => by
       have h3 := atoi_itoa (n := m) ⟨by omega, by omega⟩
       rw [hm, HOk.out] at h3
       injection h3 with h3
       subst h3
       exact he hm)
     go_wp2_with fail
     go_ret2
     exact ⟨.inr ⟨_, HNB.out, rfl⟩, HB2.out⟩
 · have HNB := Lib.hid (upW_none (s := s) fun m h1 h2 hm => by
     have h3 := atoi_itoa (n := m) ⟨by omega, by omega⟩
     rw [hm] at h3
     exact hno m h3)
   clear hno
   go_wp2_with fail
   go_ret2
   exact ⟨.inr ⟨_, HNB.out, rfl⟩, HB1.out⟩
set_option maxRecDepth 10000 in
theorem tparse_any (s : List UInt8) (hs : s.length ≤ 200000) (hN : ∀ T, treeR (s.length + 1) s [] = some T → T.length ≤ 1024) (w : World) (hP : Pow w) (hE : Errs w) (hM : Mxl w) :
   Calls Tryz.prog 8 #[.string ⟨s.toArray⟩] w fun e w' => ∃ v, e = .returned (.tuple #[v, .int .i64 (treeP s).2]) ∧ OwnT w.heap.size w' v (treeP s).1 ∧ Below w.heap.size w w' := by
 have HP := Lib.hid hP
 have HE := Lib.hid hE
 have HM := Lib.hid hM
 obtain ⟨X, hX⟩ : ∃ X, X = treeP s := ⟨_, rfl⟩
 obtain ⟨R, hR⟩ : ∃ R, R = treeR (s.length + 1) s [] := ⟨_, rfl⟩
 have HN := Lib.hid (show ∀ T, R = some T → T.length ≤ 1024 from by rw [hR]; exact hN)
 have HX := Lib.hid (show (R = none → X = ([], 3)) ∧ (∀ T, R = some T → rCheckN T = 0 → X = (T, 0)) ∧ (∀ T, R = some T → rCheckN T ≠ 0 → X = ([], rCheckN T)) from by
   rw [hX, hR]
   unfold treeP
   exact ⟨fun h => by rw [h], fun T h h0 => by rw [h]; exact if_pos h0, fun T h h0 => by rw [h]; exact if_neg h0⟩)
 rw [← hX]
 have HR := Lib.hid hR
 clear hP hE hM hN hX hR
 go_enter Tryz.func8, Tryz.ntmps8
 go_wp2_with fail
 go_loopw [0, 4] (fun sv out wr => ∃ (t : List UInt8) (acc : List Bg) (n : Nat), sv = .string ⟨t.toArray⟩ ∧ t.length < n + 1 ∧ acc.length + t.length ≤ s.length ∧ (∀ x ∈ acc, IsSet x.2) ∧ R = treeR (n + 1) t acc ∧ OwnT w.heap.size wr out acc ∧ Below w.heap.size w wr) (fun sv _ _ => strLen sv)
 case atStart => exact ⟨s, [], s.length, rfl, by omega, by simp, by simp, HR.out, OwnR.nil _ _, Below.refl _ _⟩
 case round =>
   clear HR
   obtain ⟨t, acc, n, rfl, htn, hal, hset, hr, hO, hb⟩ := hrel
   have HB := Lib.hid hb
   have HO := Lib.hid hO
   have HSet := Lib.hid hset
   have HRt := Lib.hid (hr.trans (treeR_succ n t acc))
   have hsz := hb.size
   obtain ⟨ao, co, rfl⟩ := hO.sl
   clear hb hO hset hr
   by_cases ht : t = []
   · subst ht
     have HRa := Lib.hid (HRt.out.trans (if_pos rfl))
     have hle := HN.out acc HRa.out
     have HCk := Lib.hid (tcheck_any acc HSet.out (.slice ao acc.length co) wr (HO.out.rd elB) hle)
     by_cases h0 : rCheckN acc = 0
     · have HXe := Lib.hid (HX.out.2.1 acc HRa.out h0)
       rw [h0] at HCk
       clear h0
       go_wp2_with fail
       refine HCk.out.mono ?_
       rintro e w2 ⟨rfl, hb2⟩
       have HB2 := Lib.hid (HB.out.trans (hb2.mono hsz))
       have HO2 := Lib.hid (HO.out.below hb2 (Nat.le_refl _))
       clear hb2
       go_wp2_with fail
       go_ret2
       exact ⟨_, by rw [HXe.out]; rfl, by rw [HXe.out]; exact HO2.out, HB2.out⟩
     · have HXe := Lib.hid (HX.out.2.2 acc HRa.out h0)
       obtain ⟨C, hC⟩ : ∃ C, C = rCheckN acc := ⟨_, rfl⟩
       rw [← hC] at HCk HXe h0
       have hc1 : (C != 0) = true := by simpa using h0
       clear hC
       go_wp2_with fail
       refine HCk.out.mono ?_
       rintro e w2 ⟨rfl, hb2⟩
       have HB2 := Lib.hid (HB.out.trans (hb2.mono hsz))
       clear hb2
       go_wp2_with fail
       go_ret2
       exact ⟨_, by rw [HXe.out]; rfl, by rw [HXe.out]; exact OwnR.nil _ _, HB2.out⟩
   · have HRb := Lib.hid (HRt.out.trans (if_neg ht))
     have htp : t.isEmpty = false := by simpa using ht
     have HC1 := Lib.hid (cut1_any 10 t (by omega) wr (HM.out.on HB.out))
     have hcl := cut_rest (c := 10) (s := t)
     obtain ⟨C1, hC1⟩ : ∃ C, C = Lib.cut t [10] := ⟨_, rfl⟩
     rw [← hC1] at HC1 HRb hcl
     have hl1 : C1.1.length ≤ t.length := by
       rw [hC1]
       rcases first_of 10 t with h | ⟨p, r, h, h2⟩
       · rw [cut1_no h]; exact Nat.le_refl _
       · rw [h, cut1_at h2]; simp
     obtain ⟨line, rest, ended⟩ := C1
     simp only at HC1 HRb hcl hl1
     clear hC1 HRt ht
     go_wp2_with fail
     refine HC1.out.mono ?_
     rintro e w1 ⟨rfl, hb1⟩
     have HB1 := Lib.hid (HB.out.trans (hb1.mono hsz))
     have HO1 := Lib.hid (HO.out.below hb1 (Nat.le_refl _))
     clear hb1 HC1
     go_wp2_with fail
     have HC2 := Lib.hid (cut1_any 32 line (by omega) w1 (HM.out.on HB1.out))
     have HRl : Hid (bagR line = if (Lib.cut line [32]).2.2 = true then (match upW (Lib.cut line [32]).1 with | none => none | some n => if (readSet (Lib.cut line [32]).2.1).2 = 0 then some (n, setL (readSet (Lib.cut line [32]).2.1).1) else none) else none) := Lib.hid rfl
     have hcm := cut_rest (c := 32) (s := line)
     obtain ⟨C2, hC2⟩ : ∃ C, C = Lib.cut line [32] := ⟨_, rfl⟩
     rw [← hC2] at HC2 HRl hcm
     have hl2 : C2.1.length ≤ line.length ∧ C2.2.1.length ≤ line.length := by
       rw [hC2]
       rcases first_of 32 line with h | ⟨p, r, h, h2⟩
       · rw [cut1_no h]; exact ⟨Nat.le_refl _, Nat.zero_le _⟩
       · rw [h, cut1_at h2]; simp; omega
     obtain ⟨first, second, is⟩ := C2
     simp only at HC2 HRl hcm hl2
     clear hC2
     refine HC2.out.mono ?_
     rintro e w2 ⟨rfl, hb2⟩
     have HB2 := Lib.hid (HB1.out.trans (hb2.mono HB1.out.size))
     have HO2 := Lib.hid (HO1.out.below hb2 (Nat.le_refl _))
     clear hb2 HC2
     cases ended with
     | false =>
       have HXe := Lib.hid (HX.out.1 (HRb.out.trans (if_neg (by simp))))
       go_wp2_with fail
       go_ret2
       exact ⟨_, by rw [HXe.out]; rfl, by rw [HXe.out]; exact OwnR.nil _ _, HB2.out⟩
     | true =>
       have HRc := Lib.hid (HRb.out.trans (if_pos rfl))
       have hcr := hcl rfl
       cases is with
       | false =>
         have HXe := Lib.hid (HX.out.1 (by rw [HRc.out, HRl.out]; rfl))
         go_wp2_with fail
         go_ret2
         exact ⟨_, by rw [HXe.out]; rfl, by rw [HXe.out]; exact OwnR.nil _ _, HB2.out⟩
       | true =>
         have HRm := Lib.hid (HRl.out.trans (if_pos rfl))
         have HUp := Lib.hid (up_any first (by omega) w2 (HP.out.on HB2.out) (HE.out.on HB2.out))
         clear HRb HRl hcl hcm
         go_wp2_with fail
         refine HUp.out.mono ?_
         rintro e w3 ⟨hu, hb3⟩
         have HB3 := Lib.hid (HB2.out.trans (hb3.mono HB2.out.size))
         have HO3 := Lib.hid (HO2.out.below hb3 (Nat.le_refl _))
         clear hb3 HUp
         obtain ⟨m, b, rfl, hub⟩ : ∃ m b, e = .returned (.tuple #[.int .i64 m, .bool b]) ∧ (if b = true then upW first = some m else upW first = none) := by
           rcases hu with ⟨m, h1, h2⟩ | ⟨m, h1, h2⟩
           · exact ⟨m, true, h2, by rw [if_pos rfl]; exact h1⟩
           · exact ⟨m, false, h2, by rw [if_neg (by simp)]; exact h1⟩
         have HU := Lib.hid hub
         clear hu hub
         go_wp2_with fail
         have HPa := Lib.hid (bparse_any second (by omega) w3 (HE.out.on HB3.out))
         have HSe := Lib.hid (isSet_read second)
         obtain ⟨Y, hY⟩ : ∃ Y, Y = readSet second := ⟨_, rfl⟩
         rw [← hY] at HPa HRm HSe
         obtain ⟨yl, ye⟩ := Y
         simp only at HPa HRm HSe
         clear hY
         refine HPa.out.mono ?_
         rintro e w4 ⟨rfl, hb4⟩
         have HB4 := Lib.hid (HB3.out.trans (hb4.mono HB3.out.size))
         have HO4 := Lib.hid (HO3.out.below hb4 (Nat.le_refl _))
         have hs4 := HB4.out.size
         clear hb4 HPa
         obtain ⟨S, hS⟩ : ∃ S, S = setL yl := ⟨_, rfl⟩
         rw [← hS] at HRm HSe ⊢
         clear hS
         have hrS : row? (w4.alloc (.cells (words S) 51)) w4.heap.size = some (words S) := row?_alloc_at _ _ _ _ rfl
         have HB5 := Lib.hid (HB4.out.alloc hs4 (.cells (words S) 51))
         cases b with
         | false =>
           have hun : upW first = none := by simpa using HU.out
           have HXe := Lib.hid (HX.out.1 (by rw [HRc.out, HRm.out, hun]))
           clear hun
           go_wp2_with fail
           go_ret2
           exact ⟨_, by rw [HXe.out]; rfl, by rw [HXe.out]; exact OwnR.nil _ _, HB5.out⟩
         | true =>
           have hun : upW first = some m := by simpa using HU.out
           by_cases hy : ye = 0
           · subst hy
             have HRn := Lib.hid (show R = treeR n rest (acc ++ [(m, S)]) from by rw [HRc.out, HRm.out, hun]; rfl)
             clear hun
             obtain ⟨n', rfl⟩ : ∃ n', n = n' + 1 := ⟨n - 1, by omega⟩
             have HO5 := Lib.hid (HO4.out.alloc (.cells (words S) 51))
             go_wp2_with (first | (refine qwpList_bBag rfl _ _ rfl m S rfl rfl ?_) | (refine qwpList_bBags1 rfl _ rfl m S rfl ?_) | (at_builtin; refine wpList_appO elB 23 Tryz.underlying23 rfl _ _ rfl w.heap.size _ acc rfl (HO5.out.alloc _) _ (m, S) _ rfl (row?_alloc_at _ _ _ _ (by simp)) (by omega) (by simp; omega) ?_))
             intro v5 w5 hO6 hb6 _ _
             have HO6 := Lib.hid hO6
             have HB6 := Lib.hid ((HB5.out.alloc (by have := HB5.out.size; exact this) _).trans hb6)
             clear hO6 hb6
             go_wp2_with fail
             go_roundw
             case rel =>
               refine ⟨rest, acc ++ [(m, S)], n', rfl, by omega, by simp; omega, ?_, HRn.out, HO6.out, HB6.out⟩
               intro x hx
               rcases List.mem_append.1 hx with hx | hx
               · exact HSet.out x hx
               · rw [List.mem_singleton.1 hx]; exact HSe.out
             case measure => simp only [strLen_str]; omega
           · have HXe := Lib.hid (HX.out.1 (by rw [HRc.out, HRm.out, hun]; simp only [if_neg hy]))
             have e1 : ((ye : Int) != 0) = true := by rw [bne_iff_ne]; omega
             have e2 : ¬ (ye : Int) = 0 := by omega
             clear hun
             go_wp2_with fail
             go_ret2
             exact ⟨_, by rw [HXe.out]; rfl, by rw [HXe.out]; exact OwnR.nil _ _, HB5.out⟩
end Go.Proofs.YteiibpfabgfolaaGreatDoor
