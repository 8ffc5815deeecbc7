/- Walks of package treedecomp: tops, Check of a valid tree with bags of any size. Walks of .. -/
import Derived.Test.YtmmhngjndnonhaaGreatDoorTTree6
import Derived.Test.YtmmhngjndnonhaaGreatDoorTKPl
import Derived.Test.YtmmhngjndnonhaaGreatDoorTGT
import Derived.Test.YtmmhngjndnonhaaGreatDoorTEC
set_option maxHeartbeats 4000000
set_option maxRecDepth 10000
set_option linter.all false
namespace Go.Proofs.YtmmhngjndnonhaaGreatDoor
open Go Go.RowKit Go.Pal
theorem tops_val0 (T : List Bg) (t : Tr) (hV : Val0 T t) (v : Value) (w : World) (hv : Rd bagA 17 w.heap.size w v T) (i : Nat) (hi : i < T.length) :
   Calls Tryz.prog 71 #[v, .int .i64 (i : Int)] w fun e w' => e = .returned (.agg (words (topS T i))) ∧ Below w.heap.size w w' := by
 obtain ⟨x, hx⟩ : ∃ x, T[i]? = some x := ⟨_, List.getElem?_eq_getElem hi⟩
 have hl := hV.le
 rcases hV.par i x hx with hp | ⟨p, hp, hpl⟩
 · rw [topS_root hx hp]
   exact tops_root T v w hv (by omega) i x hx hp
 · obtain ⟨y, hy⟩ : ∃ y, T[p]? = some y := ⟨_, List.getElem?_eq_getElem hpl⟩
   rw [topS_other hx hp hy]
   exact tops_other T v w hv (by omega) i p x y hx hp hy
theorem check_val0 (T : List Bg) (t : Tr) (hV : Val0 T t) (v : Value) (w : World) (hv : Rd bagA 17 w.heap.size w v T) :
   Calls Tryz.prog 64 #[v] w fun e w' => e = .returned (.int .i64 0) ∧ Below w.heap.size w w' := by
 have HV := Lib.hid hv
 obtain ⟨a, c, rfl, -⟩ := hv
 have hle := hV.le
 have hpos := hV.pos
 have HVal := Lib.hid hV; clear hV
 have hl0 : ((T.length : Int) == 0) = false := by rw [beq_eq_false_iff_ne]; omega
 have hl1 : decide ((4096 : Int) < (T.length : Int)) = false := decide_eq_false (by omega)
 go_enter Tryz.func64, Tryz.ntmps64
 go_wp2_with fail
 have hB1 : Below w.heap.size w (w.alloc (Obj.cells #[.slice a T.length c] 46)) := (Below.refl _ w).alloc (Nat.le_refl _) _
 have hr1 : row? (w.alloc (Obj.cells #[.slice a T.length c] 46)) w.heap.size = some #[.slice a T.length c] := by simp [go_sem]
 obtain ⟨W1, hW1⟩ : ∃ W1, W1 = w.alloc (Obj.cells #[.slice a T.length c] 46) := ⟨_, rfl⟩
 have hs1 : W1.heap.size = w.heap.size + 1 := by rw [hW1]; simp
 rw [← hW1] at hB1 hr1 ⊢
 clear hW1
 have hany : T.any (fun b => decide (b.1 < -1) || decide ((T.length : Int) ≤ b.1)) = false := by
   rw [List.any_eq_false]
   intro x hx
   obtain ⟨i, hi⟩ := List.mem_iff_getElem?.1 hx
   simp only [Bool.or_eq_true, decide_eq_true_eq]
   rcases HVal.out.par i x hi with h | ⟨p, h, _⟩ <;> omega
 have hcf := containsFuncT (fun b => decide (b.1 < -1) || decide ((T.length : Int) ≤ b.1)) 133 #[.pointer (some ⟨w.heap.size, 0, none⟩)] (fun args w => by simp [go_sem]) T (.slice a T.length c) W1 ((HV.out.below hB1 (Nat.le_refl _)).mono hB1.size) (by omega)
   fun W hW x _ => check1_any x w.heap.size (.slice a T.length c) T.length W ((row?_below hW (by omega)).trans hr1) ⟨_, _, rfl⟩
 rw [hany] at hcf
 refine hcf.mono ?_
 rintro e w2 ⟨rfl, hb2⟩
 have hr2 := (row?_below hb2 (by omega)).trans hr1
 have hB2 := hB1.trans (hb2.mono (by omega))
 have hs2 := hb2.size
 have e1 : w2.cell? ⟨w.heap.size, 0, none⟩ = _ := cell?_row (i := 0) hr2
 simp at e1
 have HB2 := Lib.hid hB2
 have HR2 := Lib.hid hr2
 clear hcf hb2 hr1 hB1 hany hr2 hB2
 go_wp2_with fail
 refine (roots_any T (.slice a T.length c) w2 ((HV.out.below HB2.out (Nat.le_refl _)).mono HB2.out.size) (by omega)).mono ?_
 rintro e w3 ⟨v3, rfl, hO3, hb3⟩
 rw [HVal.out.root] at hO3
 obtain ⟨q3, n3, c3, rfl⟩ := hO3.slice
 have hn3 := hO3.len
 simp at hn3
 subst hn3
 have hr3 := (row?_below hb3 (by omega)).trans HR2.out
 have hB3 := HB2.out.trans (hb3.mono (by omega))
 have hs3 := hb3.size
 have e2 : w3.cell? ⟨w.heap.size, 0, none⟩ = _ := cell?_row (i := 0) hr3
 simp at e2
 have HB3 := Lib.hid hB3
 have HR3 := Lib.hid hr3
 clear hO3 e1 hr3 hB3 hb3
 go_wp2_with fail
 have hd := depths_any T (.slice a T.length c) w3 ((HV.out.below HB3.out (Nat.le_refl _)).mono HB3.out.size) (by omega) HVal.out.par t HVal.out.root HVal.out.fits (by have := HVal.out.all; omega)
 rw [HVal.out.all] at hd
 refine hd.mono ?_
 rintro e w4 ⟨rfl, hr, hb4⟩
 have hr4 := (row?_below hb4 (by omega)).trans HR3.out
 have hB4 := HB3.out.trans (hb4.mono (by omega))
 have hs4 := hb4.size
 have e3 : w4.cell? ⟨w.heap.size, 0, none⟩ = _ := cell?_row (i := 0) hr4
 simp at e3
 have HB4 := Lib.hid hB4
 have HR4 := Lib.hid hr4
 clear hd hr e2 hr4 hB4 hb4
 have hlt4 : w.heap.size < w4.heap.size := by omega
 have hdec : decide (T.length = T.length) = true := by simp
 rw [hdec]
 go_wp2_with fail
 go_loopw [34] (fun i wr => ∃ k : Nat, k ≤ T.length ∧ i = .int .i64 k ∧ row? wr w.heap.size = some #[.slice a T.length c] ∧ row? wr w4.heap.size = some (words (seenTo T k)) ∧ Below w.heap.size w wr) (fun i _ => T.length - (intOf i).toNat)
 case atStart =>
   refine ⟨0, by omega, rfl, ?_, by simp [go_sem, seenTo], HB4.out.alloc (by omega) _⟩
   rw [row?_alloc_past _ _ _ (by omega)]
   exact HR4.out
 case round =>
   obtain ⟨k, hk, rfl, hra, hrs, hb⟩ := hrel
   have hlt5 := row?_lt hrs
   have e5 : wr.cell? ⟨w.heap.size, 0, none⟩ = _ := cell?_row (i := 0) hra
   simp at e5
   have HRA := Lib.hid hra
   have HRS := Lib.hid hrs
   have HB5 := Lib.hid hb
   clear hra hrs hb e3
   by_cases hlt : k < T.length
   · go_wp2_with fail
     refine (tops_val0 T t HVal.out (.slice a T.length c) wr ((HV.out.below HB5.out (Nat.le_refl _)).mono HB5.out.size) k hlt).mono ?_
     rintro e w6 ⟨rfl, hb6⟩
     have hs6 := hb6.size
     have hra6 := (row?_below hb6 (by omega)).trans HRA.out
     have hrs6 := (row?_below hb6 (by omega)).trans HRS.out
     have HB6 := Lib.hid (HB5.out.trans (hb6.mono (by omega)))
     have hlt6 : w4.heap.size < w6.heap.size := by omega
     have hlt7 : w.heap.size < w6.heap.size := by omega
     clear e5 hb6
     go_wp2_with fail
     refine (inter_any _ _ _).mono ?_
     rintro e w7 ⟨rfl, hb7⟩
     have hs7 := hb7.size
     simp only [World.size_alloc] at hs7
     have hra7 : row? w7 w.heap.size = some #[.slice a T.length c] := (row?_below hb7 (by simp; omega)).trans (by rw [row?_alloc_past _ _ _ hlt7]; exact hra6)
     have hrs7 : row? w7 w4.heap.size = some (words (seenTo T k)) := (row?_below hb7 (by simp; omega)).trans (by rw [row?_alloc_past _ _ _ hlt6]; exact hrs6)
     have hrt7 : row? w7 w6.heap.size = some (words (topS T k)) := (row?_below hb7 (by simp)).trans (by simp [go_sem])
     have HB7 := Lib.hid (((HB6.out.alloc (by omega) (Obj.cells (words (topS T k)) 57))).trans (hb7.mono (by simp; omega)))
     have hdis := HVal.out.disj k hlt
     rw [hdis]
     clear hb7 hra6 hrs6
     go_wp2_with fail
     refine (isEmpty_any 0 isSet_zero w7).mono ?_
     rintro e w8 ⟨rfl, hb8⟩
     have hs8 := hb8.size
     have hra8 := (row?_below hb8 (by omega)).trans hra7
     have hrs8 := (row?_below hb8 (by omega)).trans hrs7
     have hrt8 := (row?_below hb8 (by omega)).trans hrt7
     have HB8 := Lib.hid (HB7.out.trans (hb8.mono (by omega)))
     have hd0 : decide ((0 : Nat) = 0) = true := by simp
     try rw [hd0]
     clear hb8 hra7 hrs7 hrt7
     go_wp2_with fail
     refine (union_any _ _ _).mono ?_
     rintro e w9 ⟨rfl, hb9⟩
     have hs9 := hb9.size
     have hra9 := (row?_below hb9 (by omega)).trans hra8
     have hrs9 := (row?_below hb9 (by omega)).trans hrs8
     have HB9 := Lib.hid (HB8.out.trans (hb9.mono (by omega)))
     clear hb9 hra8 hrs8 hrt8
     go_wp2
     go_roundw
     case rel =>
       refine ⟨k + 1, by omega, by go_num, ?_, ?_, ?_⟩
       · rw [row?_setRow_other _ _ _ _ (by omega)]; exact hra9
       · rw [row?_setRow_same _ _ _ (by rw [hrs9]; rfl)]; rfl
       · exact below_setRow HB9.out (by omega) _
     case measure => simp [intOf]; omega
   · have hk' : k = T.length := by omega
     subst hk'
     clear e5
     go_wp2
     go_ret
     exact ⟨rfl, HB5.out⟩
end Go.Proofs.YtmmhngjndnonhaaGreatDoor
namespace Go.Pal
open Go
def msr (rk : Nat → Nat) (b : Int) : Nat := if b < 0 then 0 else rk b.toNat + 1
theorem msr_neg (rk : Nat → Nat) : msr rk (-1) = 0 := rfl
theorem msr_nat (rk : Nat → Nat) (n : Nat) : msr rk (n : Int) = rk n + 1 := by
 unfold msr
 rw [if_neg (by omega), Int.toNat_natCast]
structure RRI (T : List Bg) (rk : Nat → Nat) (k : Nat) (b up : Int) (L : List Bg) : Prop where
 bags : L.map (·.2) = T.map (·.2)
 old : ∀ bn : Nat, b = bn → ∀ j, j < T.length → rk j ≤ rk bn → parU L j = parU T j
 edge : ∀ i j : Nat, TAdj T i j ↔ (TAdj L i j ∨ ((up = i ∧ b = j) ∨ (up = j ∧ b = i)))
 link : (up = -1 ∧ b = (k : Int)) ∨ ∃ u : Nat, up = u ∧ u < T.length ∧ parU T u = b ∧ parU L k = -1 ∧ ∀ bn : Nat, b = bn → rk bn < rk k
 neg : ∀ j, j < T.length → parU L j = -1 ∨ ∃ p : Nat, parU L j = (p : Int)
 bin : b = -1 ∨ ∃ bn : Nat, b = bn ∧ bn < T.length
theorem parU_neg {T : List Bg} {r M : Nat} {rk : Nat → Nat} (h : RkOk T r rk M) {j : Nat} (hj : j < T.length) : parU T j = -1 ∨ ∃ p : Nat, parU T j = (p : Int) ∧ p < T.length ∧ rk p < rk j := by
 by_cases hjr : j = r
 · subst hjr; exact .inl h.head
 · exact .inr (h.par j hj hjr)
theorem rr_start {T : List Bg} {r M : Nat} {rk : Nat → Nat} (h : RkOk T r rk M) {k : Nat} (hk : k < T.length) : RRI T rk k k (-1) T := by
 refine ⟨rfl, fun _ _ _ _ _ => rfl, fun i j => ?_, .inl ⟨rfl, rfl⟩, fun j hj => ?_, .inr ⟨k, rfl, hk⟩⟩
 · constructor
   · exact .inl
   · rintro (h1 | h1 | h1)
     · exact h1
     · omega
     · omega
 · rcases parU_neg h hj with h1 | ⟨p, h1, -, -⟩
   · exact .inl h1
   · exact .inr ⟨p, h1⟩
theorem rr_step {T : List Bg} {r M : Nat} {rk : Nat → Nat} (h : RkOk T r rk M) {k bn : Nat} {up : Int} {L : List Bg} (hI : RRI T rk k bn up L) : RRI T rk k (parU T bn) bn (setP L bn up) := by
 have hlen : L.length = T.length := by
   have := congrArg List.length hI.bags
   simpa using this
 have hbl : bn < T.length := by
   rcases hI.bin with h1 | ⟨b', h1, h2⟩
   · omega
   · have : b' = bn := by omega
     subst this
     exact h2
 have hpar := setP_par (T := L) (i := bn) (by omega) up
 have hold := hI.old bn rfl
 have hLb := hold bn hbl (Nat.le_refl _)
 have hup : ∀ u : Nat, up = u → parU T u = (bn : Int) := fun u hu => by
   rcases hI.link with ⟨h1, -⟩ | ⟨u', h1, -, h3, -⟩
   · omega
   · have : u' = u := by omega
     subst this
     exact h3
 refine ⟨(setP_bags _ _ _).trans hI.bags, fun b' hb' j hj hle => ?_, fun i j => ?_, ?_, fun j hj => ?_, ?_⟩
 · rcases parU_neg h hbl with h1 | ⟨p, h1, h2, h3⟩
   · omega
   · have : p = b' := by omega
     subst this
     rw [hpar, if_neg (fun e => by subst e; omega)]
     exact hold j hj (by omega)
 · rw [hI.edge]
   constructor
   · rintro (h1 | ⟨h1, h2⟩ | ⟨h1, h2⟩)
     · rcases h1 with h1 | h1
       · by_cases hib : i = bn
         · subst hib
           rw [hLb] at h1
           exact .inr (.inl ⟨rfl, h1⟩)
         · exact .inl (.inl (by rw [hpar, if_neg hib]; exact h1))
       · by_cases hjb : j = bn
         · subst hjb
           rw [hLb] at h1
           exact .inr (.inr ⟨rfl, h1⟩)
         · exact .inl (.inr (by rw [hpar, if_neg hjb]; exact h1))
     · have : bn = j := by omega
       subst this
       exact .inl (.inr (by rw [hpar, if_pos rfl]; exact h1))
     · have : bn = i := by omega
       subst this
       exact .inl (.inl (by rw [hpar, if_pos rfl]; exact h1))
   · rintro (h1 | ⟨h1, h2⟩ | ⟨h1, h2⟩)
     · rcases h1 with h1 | h1
       · rw [hpar] at h1
         split at h1
         · rename_i e
           subst e
           exact .inr (.inr ⟨h1, rfl⟩)
         · exact .inl (.inl h1)
       · rw [hpar] at h1
         split at h1
         · rename_i e
           subst e
           exact .inr (.inl ⟨h1, rfl⟩)
         · exact .inl (.inr h1)
     · have : bn = i := by omega
       subst this
       exact .inl (.inl (by rw [hLb]; exact h2))
     · have : bn = j := by omega
       subst this
       exact .inl (.inr (by rw [hLb]; exact h2))
 · right
   refine ⟨bn, rfl, hbl, rfl, ?_, fun b' hb' => ?_⟩
   · rw [hpar]
     rcases hI.link with ⟨h1, h2⟩ | ⟨u, h1, h2, h3, h4, h5⟩
     · have : k = bn := by omega
       rw [if_pos this, h1]
     · have := h5 bn rfl
       rw [if_neg (fun e => by subst e; omega), h4]
   · rcases parU_neg h hbl with h1 | ⟨p, h1, h2, h3⟩
     · omega
     · have : p = b' := by omega
       subst this
       rcases hI.link with ⟨h4, h5⟩ | ⟨u, -, -, -, -, h5⟩
       · have : k = bn := by omega
         subst this
         exact h3
       · have := h5 bn rfl
         omega
 · rw [hpar]
   split
   · rcases hI.link with ⟨h1, -⟩ | ⟨u, h1, -⟩
     · exact .inl h1
     · exact .inr ⟨u, h1⟩
   · exact hI.neg j hj
 · rcases parU_neg h hbl with h1 | ⟨p, h1, h2, -⟩
   · exact .inl h1
   · exact .inr ⟨p, h1, h2⟩
theorem rr_done {T : List Bg} {rk : Nat → Nat} {k : Nat} {up : Int} {L : List Bg} (hI : RRI T rk k (-1) up L) : TSame T L ∧ parU L k = -1 ∧ ∀ j, j < L.length → parU L j = -1 ∨ ∃ p : Nat, parU L j = (p : Int) := by
 have hlen : L.length = T.length := by
   have := congrArg List.length hI.bags
   simpa using this
 refine ⟨⟨hI.bags, fun i j => ?_⟩, ?_, fun j hj => hI.neg j (by omega)⟩
 · rw [hI.edge]
   constructor
   · exact .inl
   · rintro (h | h | h)
     · exact h
     · omega
     · omega
 · rcases hI.link with ⟨h1, h2⟩ | ⟨u, -, -, -, h4, -⟩
   · omega
   · exact h4
end Go.Pal
namespace Go.Proofs.YtmmhngjndnonhaaGreatDoor
open Go Go.RowKit Go.Pal
attribute [local go_sem] Oper.semAt_some
theorem reroot_any (T : List Bg) (r : Nat) (hT : TOk T r) (hS : ∀ x ∈ T, IsSet x.2) (v : Value) (k : Nat) (hk : k < T.length) (w : World) (hv : Rd bagA 17 w.heap.size w v T) (hlen : T.length ≤ 1024) :
   Calls Tryz.prog 23 #[v, .int .i64 (k : Int)] w fun e w' => ∃ v' U, e = .returned (.tuple #[v', .int .i64 0]) ∧ OwnT w.heap.size w' v' U ∧ TOk U k ∧ TSame T U ∧ Below w.heap.size w w' := by
 obtain ⟨t, hval, -, -⟩ := hT.val hlen hS
 obtain ⟨rk, M, hrk⟩ := hT.rk
 have HV := Lib.hid hv
 have HK := Lib.hid fun W (hb : Below w.heap.size w W) => check_val0 T t hval v W ((hv.below hb (Nat.le_refl _)).mono hb.size)
 have HCl := Lib.hid fun W (hb : Below w.heap.size w W) => tClone_all T v W ((hv.below hb (Nat.le_refl _)).mono hb.size) (by omega)
 have HTO := Lib.hid hT
 have HRK := Lib.hid hrk
 obtain ⟨a, c, rfl⟩ := hv.sl
 clear hv hval hrk hT
 go_enter Tryz.func23, Tryz.ntmps23
 go_wp2_with fail
 refine (HK.out w (Below.refl _ _)).mono ?_
 rintro e w1 ⟨rfl, hb1⟩
 have HB1 := Lib.hid hb1
 clear hb1
 go_wp2_with fail
 refine (HCl.out w1 HB1.out).mono ?_
 rintro e w2 ⟨v2, rfl, hO2, hb2⟩
 have hO2' := hO2.lower HB1.out.size
 have HO2 := Lib.hid hO2'
 have HB2 := Lib.hid (HB1.out.trans (hb2.mono HB1.out.size))
 obtain ⟨q2, c2, rfl⟩ := hO2.sl
 clear hO2 hb2 hO2'
 go_wp2_with fail
 go_loopw [8, 9] (fun b up wr => ∃ (bi ui : Int) (L : List Bg), b = .int .i64 bi ∧ up = .int .i64 ui ∧ RRI T rk k bi ui L ∧ OwnT w.heap.size wr (.slice q2 T.length c2) L ∧ Below w.heap.size w wr) (fun b _ _ => msr rk (intOf b))
 case atStart => exact ⟨k, -1, T, rfl, rfl, rr_start HRK.out hk, HO2.out, HB2.out⟩
 case round =>
   obtain ⟨bi, ui, L, rfl, rfl, hI, hO, hb⟩ := hrel
   have HI := Lib.hid hI
   have HO := Lib.hid hO
   have HB := Lib.hid hb
   have hs := hb.size
   clear hO hb
   rcases hI.bin with rfl | ⟨bn, rfl, hbn⟩
   · clear hI
     go_wp2_with fail
     go_ret2
     obtain ⟨h1, h2, h3⟩ := rr_done HI.out
     obtain ⟨U, hU, hSU⟩ := turn_exists HTO.out k hk
     have hLU := turn_unique hU (hSU.symm.trans h1) h2 h3
     exact ⟨_, U, rfl, by rw [← hLU]; exact HO.out, hU, hSU, HB.out⟩
   · obtain ⟨b, off, c', x, h1, hbb, hx, hcx⟩ := HV.out.at hbn
     simp only [Value.slice.injEq] at h1
     obtain ⟨rfl, -, rfl⟩ := h1
     have hLl : L.length = T.length := by
       have := congrArg List.length hI.bags
       simpa using this
     obtain ⟨y, hy⟩ : ∃ y, L[bn]? = some y := ⟨_, List.getElem?_eq_getElem (by omega)⟩
     obtain ⟨g, rfl, hg⟩ : ∃ g, q2 = some ⟨g, 0, none⟩ ∧ w.heap.size ≤ g := by
       rcases HO.out.2 with ⟨h, h2⟩ | ⟨g, cap, cur, h, h2, _⟩
       · simp only [Value.slice.injEq] at h; omega
       · simp only [Value.slice.injEq] at h
         exact ⟨g, h.1, h2⟩
     have hgl := HO.out.lt g rfl
     obtain ⟨k0, f0, -, -⟩ := own_cell HO.out hy
     have c0 := hcx wr HB.out 0 (.int .i64 x.1) (bagA_zero x)
     simp only [Nat.add_zero] at c0
     have hpar : parU T bn = x.1 := by simp [parU, hx]
     have hstep := rr_step HRK.out hI
     rw [hpar] at hstep
     have hown := own_par HO.out hy ui
     have hset : L.set bn (ui, y.2) = setP L bn ui := by rw [setP, bagN_of hy]
     rw [hset] at hown
     have HST := Lib.hid hstep
     have HOW := Lib.hid hown
     have hrk : x.1 = -1 ∨ ∃ p : Nat, x.1 = (p : Int) ∧ rk p < rk bn := by
       rcases parU_neg HRK.out hbn with h | ⟨p, h, -, h3⟩
       · exact .inl (by rw [← hpar, h])
       · exact .inr ⟨p, by rw [← hpar, h], h3⟩
     have hbm : ((bn : Int) != -1) = true := by simp
     have HRK2 := Lib.hid hrk
     obtain ⟨xp, hxp⟩ : ∃ xp, xp = x.1 := ⟨_, rfl⟩
     rw [← hxp] at c0 HST HRK2
     clear hI hcx hy hx hpar hstep hown hset hrk hxp hbb
     go_wp2_with fail
     go_roundw
     case rel => exact ⟨xp, bn, _, rfl, rfl, HST.out, HOW.out, HB.out.setCell hg _⟩
     case measure =>
       rcases HRK2.out with h | ⟨p, h, h2⟩
       · show msr rk xp < msr rk (bn : Int)
         rw [h, msr_neg, msr_nat]
         omega
       · show msr rk xp < msr rk (bn : Int)
         rw [h, msr_nat, msr_nat]
         omega
end Go.Proofs.YtmmhngjndnonhaaGreatDoor
