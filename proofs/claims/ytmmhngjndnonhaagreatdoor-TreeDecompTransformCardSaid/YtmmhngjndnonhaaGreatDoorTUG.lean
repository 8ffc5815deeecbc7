/- Walks of the reference: Trim (the reduced decomposition). -/
import Derived.Test.YtmmhngjndnonhaaGreatDoorTUb
import Derived.Test.YtmmhngjndnonhaaGreatDoorTUe
import Derived.Test.YtmmhngjndnonhaaGreatDoorTGT
set_option linter.all false
namespace Go.Pal
open Go
theorem idx_first {α : Type} {p : α → Bool} {l : List α} {i : Nat} {x : α} (hx : l[i]? = some x) (hp : p x = true) (hf : ∀ (k : Nat) z, k < i → l[k]? = some z → p z = false) : idx p l = (i : Int) := by
 obtain ⟨hi, rfl⟩ := List.getElem?_eq_some_iff.1 hx
 have : l.findIdx? p = some i := List.findIdx?_eq_some_iff_getElem.2 ⟨hi, hp, fun j hj => by
   have := hf j l[j] hj (List.getElem?_eq_getElem (by omega))
   simpa using this⟩
 unfold idx
 rw [this]
theorem idx_neg_of {α : Type} {p : α → Bool} {l : List α} (hf : ∀ (k : Nat) z, l[k]? = some z → p z = false) : idx p l < 0 := by
 rw [idx_none hf]
 decide
def parF (a u : Int) (x : Bg) : Bg := if x.1 = a then (u, x.2) else x
def lowF (a : Int) (x : Bg) : Bg := if a < x.1 then (x.1 - 1, x.2) else x
theorem low_par (a u : Int) (x : Bg) : lowF a (parF a u x) = redPar a u x := by
 unfold lowF parF redPar
 by_cases h : x.1 = a
 · simp only [if_pos h]
   by_cases h2 : a < u <;> simp [h2]
 · simp only [if_neg h]
   by_cases h2 : a < x.1 <;> simp [h2]
structure TrimI (T U : List Bg) (m j : Nat) : Prop where
 rank : ∃ r, RankP U r
 eq : redTo T.length T = redTo m U
 le : U.length ≤ m
 short : U.length ≤ T.length
 free : ∀ (k : Nat) z, k < j → U[k]? = some z → drawnP U z = false
 jle : j ≤ U.length
theorem TrimI.next {T U : List Bg} {m j : Nat} {x : Bg} (h : TrimI T U m j) (hx : U[j]? = some x) (hd : drawnP U x = false) : TrimI T U m (j + 1) := by
 refine ⟨h.rank, h.eq, h.le, h.short, fun k z hk hz => ?_, (List.getElem?_eq_some_iff.1 hx).1⟩
 by_cases e : k = j
 · subst e
   rw [hx] at hz
   cases hz
   exact hd
 · exact h.free k z (by omega) hz
theorem TrimI.done {T U : List Bg} {m : Nat} (h : TrimI T U m U.length) : redTo T.length T = U := by
 rw [h.eq]
 have hi : idx (drawnP U) U < 0 := idx_neg_of fun k z hz => h.free k z (List.getElem?_eq_some_iff.1 hz).1 hz
 cases m with
 | zero => rfl
 | succ m => rw [redTo, if_pos hi]
theorem TrimI.merge {T U : List Bg} {m j p : Nat} {x y : Bg} (h : TrimI T U m j) (hx : U[j]? = some x) (hp : x.1 = (p : Int)) (hy : U[p]? = some y) (hd : drawnP U x = true) : ∃ m', TrimI T (redStep U j) m' 0 ∧ (redStep U j).length + 1 = U.length := by
 have hl := redStep_length hx hp hy
 have hidx := idx_first hx hd h.free
 obtain ⟨r, hr⟩ := h.rank
 have hj := (List.getElem?_eq_some_iff.1 hx).1
 have hle := h.le
 obtain ⟨m', rfl⟩ : ∃ m', m = m' + 1 := ⟨m - 1, by omega⟩
 refine ⟨m', ⟨⟨_, redStep_rank hx hp hy hr⟩, ?_, by omega, by have := h.short; omega, fun k z hk => by omega, Nat.zero_le _⟩, hl⟩
 rw [h.eq, redTo, hidx, if_neg (by omega), Int.toNat_natCast]
end Go.Pal
namespace Go.Proofs.YtmmhngjndnonhaaGreatDoor
open Go Go.RowKit Go.Pal
attribute [local go_sem] Oper.semAt_some
theorem OwnRB.rowc {B : Nat} {w : World} {v : Value} {L : List (Int × Value)} (h : OwnRB B w v L) (hne : L ≠ []) : ∃ g c, v = .slice (some ⟨g, 0, none⟩) L.length c ∧ B ≤ g ∧ RowB w g L ∧ L.length ≤ c := by
 obtain ⟨g, c, rfl, h1, h2⟩ := h.row hne
 refine ⟨g, c, rfl, h1, h2, ?_⟩
 rcases h.2 with ⟨h3, -⟩ | ⟨g', cap, cur, h3, -, -, h4, -⟩
 · cases h3
 · cases h3
   exact h4
theorem Built.setH {A : Nat → Prop} {w : World} {L : List (Int × Value)} {T : List Bg} (h : Built A w L T) {i : Nat} {x : Bg} {y : Int × Value} (hx : T[i]? = some x) (hy : L[i]? = some y) {S : Nat} {v : Value} (hv : RdA A w v (elemsI S)) (hS : IsSet S) : Built A w (L.set i (y.1, v)) (T.set i (x.1, S)) := by
 refine ⟨by rw [List.length_set, List.length_set]; exact h.1, fun j x' y' hx' hy' => ?_⟩
 by_cases e : i = j
 · subst e
   rw [List.getElem?_set_self (List.getElem?_eq_some_iff.1 hx).1] at hx'
   rw [List.getElem?_set_self (List.getElem?_eq_some_iff.1 hy).1] at hy'
   cases hx'
   cases hy'
   exact ⟨(h.2 i x y hx hy).1, hv, hS⟩
 · rw [List.getElem?_set_ne e] at hx' hy'
   exact h.2 j x' y' hx' hy'
theorem Built.cut {A : Nat → Prop} {w : World} {L : List (Int × Value)} {T : List Bg} (h : Built A w L T) (i : Nat) : Built A w (L.eraseIdx i) (T.eraseIdx i) := by
 refine ⟨by rw [List.length_eraseIdx, List.length_eraseIdx, h.1], fun j x y hx hy => ?_⟩
 rw [List.getElem?_eraseIdx] at hx hy
 split at hx
 · rw [if_pos ‹_›] at hy
   exact h.2 j x y hx hy
 · rw [if_neg ‹_›] at hy
   exact h.2 (j + 1) x y hx hy
set_option maxRecDepth 10000 in
set_option maxHeartbeats 4000000 in
theorem rtrim_any (T : List Bg) (r0 : Nat → Nat) (hR : RankP T r0) (v : Value) (w : World) (hv : RefT w v T) (hne : T ≠ []) (hlen : T.length ≤ 60000) :
   Calls Tryz.prog 27 #[v] w fun e w' => ∃ v', e = .returned v' ∧ RefT w' v' (redTo T.length T) ∧ Below w.heap.size w w' := by
 have HTI0 : Hid (TrimI T T T.length 0) := Lib.hid ⟨⟨r0, hR⟩, rfl, Nat.le_refl _, Nat.le_refl _, fun k z hk => by omega, Nat.zero_le _⟩
 obtain ⟨b, off, c, L, rfl, hbl, hBag, hBu⟩ := refT_bags hv hne
 have HBag := Lib.hid hBag
 have HBu := Lib.hid hBu
 have hLl := hBu.1
 have HSl := Lib.hid hBu.slices
 have hpos : 0 < T.length := List.length_pos_iff.2 hne
 clear hBag hBu hv hne hR
 go_enter Tryz.func27, Tryz.ntmps27
 go_wp2_with (at_builtin; refine wpList_appRL rfl _ _ rfl w.heap.size _ [] rfl (OwnRB.empty (Nat.le_refl _)) b off c L (by rw [hLl]; rfl) (fun i y hy => ?cells) HSl.out (by simp; omega) (by simp) ?_)
 case cells =>
   obtain ⟨h1, h2⟩ := HBag.out i y hy
   have hb1 : Below w.heap.size w (w.alloc (.cells #[] 130)) := (Below.refl _ w).alloc (Nat.le_refl _) _
   exact ⟨(hb1.cell (p := ⟨b, off + i * 2, none⟩) hbl).trans h1, (hb1.cell (p := ⟨b, off + i * 2 + 1, none⟩) hbl).trans h2⟩
 intro v1 w1 hO1 hg1 hb1
 have hsw1 : w.heap.size ≤ w1.heap.size := by have := hb1.size; simp at this; omega
 have hB1 : Below w.heap.size w w1 := ((Below.refl _ w).alloc (Nat.le_refl _) _).trans hb1
 obtain ⟨g, cg, rfl, hgB, hRow, hcap1⟩ := hO1.rowc (by intro e; rw [e] at hLl; simp at hLl; omega)
 rw [hLl] at hcap1
 have hBu1 : Built (fun x => x ≠ g) w1 L T := HBu.out.keep hsw1 fun j hj _ => ⟨hB1.block j hj, by omega⟩
 have HB1 := Lib.hid hB1
 have HRow := Lib.hid hRow
 have HBu1 := Lib.hid hBu1
 rw [hLl]
 clear hO1 hg1 hb1 hB1 hRow hBu1 HBu HBag HSl
 go_wp2_with fail
 go_loopw [0, 3, 4, 5, 6] (fun t i _ _ _ wr => ∃ (m : Nat) (U : List Bg) (LL : List (Int × Value)) (g c j : Nat), t = .slice (some ⟨g, 0, none⟩) U.length c ∧ i = .int .i64 (j : Int) ∧ TrimI T U m j ∧ RowB wr g LL ∧ Built (fun x => x ≠ g) wr LL U ∧ w.heap.size ≤ g ∧ U.length ≤ c ∧ Below w.heap.size w wr) (fun t i _ _ _ _ => vLen t * 70000 + (vLen t - (intOf i).toNat))
 case atStart => exact ⟨T.length, T, L, g, cg, 0, rfl, rfl, HTI0.out, HRow.out, HBu1.out, hgB, hcap1, HB1.out⟩
 case round =>
   obtain ⟨m, U, LL, g, c, j, rfl, rfl, hTI, hRr, hBr, hgB, hUc, hBw⟩ := hrel
   obtain ⟨wo, rfl⟩ : ∃ wo : World, wo = wr := ⟨_, rfl⟩
   have HTI := Lib.hid hTI
   have HRr := Lib.hid hRr
   have HBr := Lib.hid hBr
   have HBw := Lib.hid hBw
   have HgB := Lib.hid hgB
   have hlU := hTI.short
   have hLLl := hBr.1
   have hjle := hTI.jle
   by_cases hlt : j < U.length
   · obtain ⟨x, hx⟩ : ∃ x, U[j]? = some x := ⟨_, List.getElem?_eq_getElem hlt⟩
     obtain ⟨xL, hxL⟩ : ∃ xL, LL[j]? = some xL := ⟨_, List.getElem?_eq_getElem (by omega)⟩
     obtain ⟨e1, e2, e3⟩ := hBr.2 j x xL hx hxL
     obtain ⟨d1, d2, f1, f2⟩ := hRr.cell j xL hxL
     rw [e1] at d1
     have HX := Lib.hid hx
     have hji : (j : Int) < (U.length : Int) := by omega
     obtain ⟨rk, hrk⟩ := hTI.rank
     rcases hrk j x hx with hp | ⟨p, hp, hpl, hrp⟩
     · have hd : drawnP U x = false := by unfold drawnP; rw [if_pos hp]
       have HN := Lib.hid (hTI.next hx hd)
       rw [hp] at d1
       clear hTI hRr hBr hBw hx hxL e1 e2 e3 hrk hp hd d2 f1 f2 hgB
       go_wp2_with fail
       refine wp_region_free (fun w' => w' = wo.drew) (by kernel_rfl) (by kernel_rfl) rfl ?_
       repeat (first | ((first | apply wpFree_still (hg := rfl) | apply wpFree_stillG rfl); (intro w hw; subst hw; go_simp; (try go_ints); (first | with_reducible rfl | (go_simp; with_reducible rfl))); (intro K hK; go_simp; (try go_ints); refine hK _ ?_; clear hK K)) | (apply wpFree_skip rfl; (intro K hK; go_simp; (try go_ints); refine hK _ ?_; clear hK K)))
       with_reducible refine wpFree_nil ?_
       rintro w1 rfl
       go_wp2_with fail
       go_roundw
       case rel => exact ⟨m, U, LL, g, c, j + 1, rfl, by go_num, HN.out, HRr.out.drew, HBr.out.keep (Nat.le_refl _) fun k _ hk => ⟨rfl, hk⟩, HgB.out, hUc, HBw.out.drew⟩
       case measure => (simp [intOf, vLen]; try omega)
     · obtain ⟨y, hy⟩ : ∃ y, U[p]? = some y := ⟨_, List.getElem?_eq_getElem hpl⟩
       obtain ⟨yL, hyL⟩ : ∃ yL, LL[p]? = some yL := ⟨_, List.getElem?_eq_getElem (by omega)⟩
       obtain ⟨b1, b2, b3⟩ := hBr.2 p y yL hy hyL
       obtain ⟨h1, h2, h3, h4⟩ := hRr.cell p yL hyL
       have hpj : p ≠ j := fun e => by rw [e] at hrp; omega
       have hdr : drawnP U x = mergeable x.2 y.2 := by
         have := drawnP_of (S := x.2) hy
         rw [← hp] at this
         exact this
       have HF := Lib.hid fun W (hw : Below wo.heap.size wo W) => (⟨(((hRr.below hw).cell j xL hxL).2.1), ((hRr.below hw).cell p yL hyL).2.1⟩ : W.cell? ⟨g, j * 2 + 1, none⟩ = some xL.2 ∧ W.cell? ⟨g, p * 2 + 1, none⟩ = some yL.2)
       have HSx := Lib.hid fun W (hw : Below wo.heap.size wo W) => (⟨(e2.below hw).rdl, e3⟩ : RdS W xL.2 x.2)
       have HSy := Lib.hid fun W (hw : Below wo.heap.size wo W) => (⟨(b2.below hw).rdl, b3⟩ : RdS W yL.2 y.2)
       have HSyA := Lib.hid fun W (hw : Below wo.heap.size wo W) => b2.below hw
       have HxSet := Lib.hid e3
       have HySet := Lib.hid b3
       have HYL := Lib.hid hyL
       have HUy := Lib.hid hy
       have HW1 := Lib.hid fun W (hw : Below wo.heap.size wo W) => rwithin_any x.2 y.2 xL.2 yL.2 W (HSx.out W hw) (HSy.out W hw)
       have HW2 := Lib.hid fun W (hw : Below wo.heap.size wo W) => rwithin_any y.2 x.2 yL.2 xL.2 W (HSy.out W hw) (HSx.out W hw)
       obtain ⟨ax, cx, hxs⟩ := e2.sl
       obtain ⟨ay, cy, hys⟩ := b2.sl
       rw [hxs, hys] at HF HW1 HW2
       rw [hxs] at HSx
       rw [hys] at HSyA
       rw [hp] at d1
       have hpi : (p : Int) < (U.length : Int) := by omega
       have hp0 : ¬ (p : Int) < 0 := by omega
       have hp1 : decide ((p : Int) < 0) = false := decide_eq_false hp0
       obtain ⟨m1, hm1⟩ : ∃ b, b = decide (sDiff x.2 y.2 = 0) := ⟨_, rfl⟩
       obtain ⟨m2, hm2⟩ : ∃ b, b = decide (sDiff y.2 x.2 = 0) := ⟨_, rfl⟩
       rw [← hm1] at HW1
       rw [← hm2] at HW2
       have hmm : drawnP U x = (m1 || m2) := by rw [hdr, mergeable, hm1, hm2]
       obtain ⟨N, hN⟩ : ∃ N, N = U.length := ⟨_, rfl⟩
       obtain ⟨U1, hU1⟩ : ∃ U1, U1 = U.set p (y.1, y.2 ||| x.2) := ⟨_, rfl⟩
       obtain ⟨U2, hU2⟩ : ∃ U2, U2 = U1.map (parF j p) := ⟨_, rfl⟩
       obtain ⟨U3, hU3⟩ : ∃ U3, U3 = U2.map (lowF j) := ⟨_, rfl⟩
       have hl1 : U1.length = N := by rw [hU1, List.length_set, hN]
       have hl2 : U2.length = N := by rw [hU2, List.length_map, hl1]
       have HRed : Hid (redStep U j = U3.eraseIdx j) := Lib.hid (by
         rw [redStep_of hx hp hy, hU3, hU2, hU1, List.map_map]
         congr 2
         funext z
         exact (low_par _ _ _).symm)
       have hBd : ∀ (kk : Nat) z, U2[kk]? = some z → -1 ≤ z.1 ∧ z.1 < 60001 := fun kk z hz => by
         rw [hU2, List.getElem?_map, hU1] at hz
         obtain ⟨z1, hz1, rfl⟩ := Option.map_eq_some_iff.1 hz
         have hP := hrk.parents
         have hz2 : -1 ≤ z1.1 ∧ z1.1 < 60001 := by
           by_cases e : p = kk
           · subst e
             rw [List.getElem?_set_self hpl] at hz1
             cases hz1
             have := hP.bound (List.mem_of_getElem? hy)
             exact ⟨this.1, by have := this.2; simp only; omega⟩
           · rw [List.getElem?_set_ne e] at hz1
             have := hP.bound (List.mem_of_getElem? hz1)
             exact ⟨this.1, by have := this.2; omega⟩
         unfold parF
         split
         · exact ⟨by simp only; omega, by simp only; omega⟩
         · exact hz2
       have HBd := Lib.hid hBd
       have HU1 := Lib.hid hU1
       have HU2 := Lib.hid hU2
       have HU3 := Lib.hid hU3
       have HMg := Lib.hid fun hd => hTI.merge hx hp hy hd
       have HNx := Lib.hid fun hd => hTI.next hx hd
       have HMm := Lib.hid hmm
       have HNN := Lib.hid hN
       have hUc2 := hUc
       rw [← hN] at hlt hji hpi hlU hUc ⊢
       clear hTI hRr hBr hBw hx hxL hyL hy e1 e2 e3 b1 b2 b3 h1 h2 h3 h4 hrk hp hrp hdr d2 f1 f2 hxs hys hm1 hm2 hmm hU1 hU2 hU3 hBd hN hgB
       cases m1 with
       | true =>
         go_wp2_with fail
         refine wp_region_free (fun W => Below wo.heap.size wo W) (by kernel_rfl) (by kernel_rfl) (Below.refl _ _).drew ?_
         repeat (first | ((first | apply wpFree_still (hg := rfl) | apply wpFree_stillG rfl); (intro w hw; obtain ⟨k1, k2⟩ := HF.out w hw; clear hw; go_simp; (try go_ints); (first | with_reducible rfl | (go_simp; with_reducible rfl))); (intro K hK; go_simp; (try go_ints); refine hK _ ?_; clear hK K)) | (apply wpFree_skip rfl; (intro K hK; go_simp; (try go_ints); refine hK _ ?_; clear hK K)))
         apply wpFree_callG rfl
         · intro w hw; go_simp; first | with_reducible rfl | with_reducible exact ⟨rfl, rfl⟩
         · intro w hw; exact (HW1.out w hw).mono fun e w' ⟨h1, h2⟩ => ⟨h1, hw.trans (h2.mono hw.size)⟩
         intro K hK; go_simp; (try go_ints); refine hK _ ?_; clear hK K
         repeat (first | ((first | apply wpFree_still (hg := rfl) | apply wpFree_stillG rfl); (intro w hw; obtain ⟨k1, k2⟩ := HF.out w hw; clear hw; go_simp; (try go_ints); (first | with_reducible rfl | (go_simp; with_reducible rfl))); (intro K hK; go_simp; (try go_ints); refine hK _ ?_; clear hK K)) | (apply wpFree_skip rfl; (intro K hK; go_simp; (try go_ints); refine hK _ ?_; clear hK K)))
         with_reducible refine wpFree_nil ?_
         intro wq hbq
         have HBq := Lib.hid hbq
         have hdt : Hid (drawnP U x = true) := Lib.hid (by rw [HMm.out]; rfl)
         clear hbq
         have hPg : ∀ k, wq.drew.heap.size ≤ k → k ≠ g := fun k hk => by have := HBq.out.size; have := HRr.out.lt; simp only [World.size_drew] at hk; omega
         go_wp2_with fail
         refine wp_region_mix (fun W => Below wo.heap.size wo W) 15 [(0, true), (1, true), (2, true), (3, true), (4, true), (5, true), (6, true), (7, true), (8, true), (9, true), (10, true), (11, true), (12, false), (13, true), (14, true)] (by kernel_rfl) (by kernel_rfl) HBq.out.drew ?_
         repeat (apply wpPlan_still rfl rfl; (intro w hw; obtain ⟨k1, k2⟩ := HF.out _ hw; clear hw; go_simp; (try go_ints); (first | with_reducible rfl | (go_simp; with_reducible rfl))); (intro K hK; go_simp; (try go_ints); refine hK _ _ ?_; clear hK K))
         apply wpPlan_act rfl rfl
         intro K hK
         unfold Oper.wp
         go_simp
         refine (ror_any (fun k => k ≠ g) y.2 x.2 _ _ _ hPg (HSyA.out _ HBq.out.drew) HySet.out (HSx.out _ HBq.out.drew)).mono ?_
         rintro e w1 ⟨vo, rfl, hvo, hb1⟩
         have hbo : Below wo.heap.size wo w1 := HBq.out.drew.trans (hb1.mono (by simpa using HBq.out.size))
         refine hK _ _ hbo ?_
         clear hK K
         obtain ⟨qo, co, rfl⟩ := hvo.sl
         have HVo := Lib.hid hvo
         have HBo := Lib.hid hbo
         clear hvo hb1 hbo
         repeat (apply wpPlan_still rfl rfl; (intro w hw; obtain ⟨k1, k2⟩ := HF.out _ hw; clear hw; go_simp; (try go_ints); (first | with_reducible rfl | (go_simp; with_reducible rfl))); (intro K hK; go_simp; (try go_ints); refine hK _ _ ?_; clear hK K))
         refine wpPlan_nil ?_
         simp only [List.drop_succ_cons, List.drop_zero]
         have hR1 := HRr.out.below HBo.out
         obtain ⟨d1, d2, f1, f2⟩ := hR1.cell p yL HYL.out
         have hg1 := hR1.lt
         have HR1 := Lib.hid (hR1.setS HYL.out (.slice qo (elemsI (y.2 ||| x.2)).length co))
         have HBu1 : Hid (Built (fun k => k ≠ g) (w1.setCell ⟨g, p * 2 + 1, none⟩ (.slice qo (elemsI (y.2 ||| x.2)).length co)) (LL.set p (yL.1, .slice qo (elemsI (y.2 ||| x.2)).length co)) U1) := Lib.hid (by
           rw [HU1.out]
           exact ((HBr.out.keep (A' := fun k => k ≠ g) HBo.out.size fun k hk hA => ⟨HBo.out.block k hk, hA⟩).setH HUy.out HYL.out HVo.out (isSet_or HySet.out HxSet.out)).keep (A' := fun k => k ≠ g) (by simp) fun k hk hA => ⟨heap_setCell_other _ _ k _ (by exact hA), hA⟩)
         have HBw1 := Lib.hid (below_setCell' (g := g) HgB.out (.slice qo (elemsI (y.2 ||| x.2)).length co) (p * 2 + 1) (HBw.out.trans (HBo.out.mono HBw.out.size)))
         clear hR1
         go_wp2_with fail
         clear d1 d2 f1 f2
         go_loopw [5] (fun k wr => ∃ (kk : Nat) (L2 : List (Int × Value)), kk ≤ N ∧ k = .int .i64 (kk : Int) ∧ RowB wr g L2 ∧ Built (fun x => x ≠ g) wr L2 (mapTo (parF j p) U1 kk) ∧ Below w.heap.size w wr) (fun k _ => N - (intOf k).toNat)
         case atStart => exact ⟨0, _, by omega, rfl, HR1.out, by rw [mapTo_zero]; exact HBu1.out, HBw1.out⟩
         case round =>
           obtain ⟨kk, L2, hkk, rfl, hR2, hB2, hW2⟩ := hrel
           obtain ⟨wa, rfl⟩ : ∃ wa : World, wa = wr := ⟨_, rfl⟩
           have HR2 := Lib.hid hR2
           have HB2 := Lib.hid hB2
           have HW2 := Lib.hid hW2
           have hL2 := hB2.1
           rw [mapTo_length] at hL2
           by_cases hlk : kk < N
           · obtain ⟨z, hz⟩ : ∃ z, U1[kk]? = some z := ⟨_, List.getElem?_eq_getElem (by omega)⟩
             obtain ⟨zL, hzL⟩ : ∃ zL, L2[kk]? = some zL := ⟨_, List.getElem?_eq_getElem (by omega)⟩
             have hmz := mapTo_get (f := parF j p) hz
             obtain ⟨e1, e2, e3⟩ := hB2.2 kk z zL hmz hzL
             obtain ⟨d1, d2, f1, f2⟩ := hR2.cell kk zL hzL
             rw [e1] at d1
             have hki : (kk : Int) < (N : Int) := by omega
             have HMS := Lib.hid (mapTo_set (f := parF j p) hz)
             by_cases hzj : z.1 = (j : Int)
             · have HR3 := Lib.hid (hR2.setP hzL (p : Int))
               have hB3 := (hB2.setB hmz hzL (p : Int)).keep (A' := fun x => x ≠ g) (w' := wa.setCell ⟨g, kk * 2, none⟩ (.int .i64 (p : Int))) (by simp) fun x hx hA => ⟨heap_setCell_other _ _ x _ (by exact hA), hA⟩
               have hf : setP (mapTo (parF j p) U1 kk) kk (p : Int) = mapTo (parF j p) U1 (kk + 1) := by
                 rw [← HMS.out]
                 unfold setP
                 rw [bagN_of hmz, show parF j p z = ((p : Int), z.2) from by unfold parF; rw [if_pos hzj]]
               rw [hf] at hB3
               have HB3 := Lib.hid hB3
               have HW3 := Lib.hid (below_setCell' (g := g) HgB.out (.int .i64 (p : Int)) (kk * 2) hW2)
               rw [hzj] at d1
               clear hR2 hB2 hW2 hz hzL hmz e1 e2 e3 hzj hB3 hf
               go_wp2_with fail
               go_roundw
               case rel => exact ⟨kk + 1, _, by omega, by go_num, HR3.out, HB3.out, HW3.out⟩
               case measure => (simp [intOf]; try omega)
             · have hf : mapTo (parF j p) U1 (kk + 1) = mapTo (parF j p) U1 kk := by
                 rw [← HMS.out]
                 have : parF j p z = z := by unfold parF; rw [if_neg hzj]
                 rw [this]
                 exact set_same hmz
               have HB3 : Hid (Built (fun x => x ≠ g) wa L2 (mapTo (parF j p) U1 (kk + 1))) := Lib.hid (by rw [hf]; exact hB2)
               have hzj2 : (z.1 == (j : Int)) = false := by rw [beq_eq_false_iff_ne]; exact hzj
               obtain ⟨zz, hzz⟩ : ∃ zz, zz = z.1 := ⟨_, rfl⟩
               rw [← hzz] at d1 hzj hzj2
               clear hR2 hB2 hW2 hz hzL hmz e1 e2 e3 hf hzz
               go_wp2_with fail
               go_roundw
               case rel => exact ⟨kk + 1, _, by omega, by go_num, HR2.out, HB3.out, HW2.out⟩
               case measure => (simp [intOf]; try omega)
           · have hkn : kk = N := by omega
             have hU2 : mapTo (parF j p) U1 kk = U2 := by rw [HU2.out]; exact mapTo_all _ _ (by omega)
             rw [hU2] at hB2
             have HB2 := Lib.hid hB2
             clear hR2 hB2 hW2 hU2
             go_wp2_with fail
             go_loopw [6] (fun k wr => ∃ (kk : Nat) (L2 : List (Int × Value)), kk ≤ N ∧ k = .int .i64 (kk : Int) ∧ RowB wr g L2 ∧ Built (fun x => x ≠ g) wr L2 (mapTo (lowF j) U2 kk) ∧ Below w.heap.size w wr) (fun k _ => N - (intOf k).toNat)
             case atStart => exact ⟨0, _, by omega, rfl, HR2.out, by rw [mapTo_zero]; exact HB2.out, HW2.out⟩
             case round =>
               obtain ⟨kk, L2, hkk, rfl, hR2, hB2, hW2⟩ := hrel
               obtain ⟨wb, rfl⟩ : ∃ wb : World, wb = wr := ⟨_, rfl⟩
               have HR2 := Lib.hid hR2
               have HB2 := Lib.hid hB2
               have HW2 := Lib.hid hW2
               have hL2 := hB2.1
               rw [mapTo_length] at hL2
               by_cases hlk : kk < N
               · obtain ⟨z, hz⟩ : ∃ z, U2[kk]? = some z := ⟨_, List.getElem?_eq_getElem (by omega)⟩
                 obtain ⟨zL, hzL⟩ : ∃ zL, L2[kk]? = some zL := ⟨_, List.getElem?_eq_getElem (by omega)⟩
                 have hmz := mapTo_get (f := lowF j) hz
                 obtain ⟨e1, e2, e3⟩ := hB2.2 kk z zL hmz hzL
                 obtain ⟨d1, d2, f1, f2⟩ := hR2.cell kk zL hzL
                 rw [e1] at d1
                 have hki : (kk : Int) < (N : Int) := by omega
                 have HMS := Lib.hid (mapTo_set (f := lowF j) hz)
                 have hzb := HBd.out kk z hz
                 obtain ⟨zz, hzz⟩ : ∃ zz, zz = z.1 := ⟨_, rfl⟩
                 rw [← hzz] at d1 hzb
                 by_cases hzj : (j : Int) < zz
                 · have HR3 := Lib.hid (hR2.setP hzL (zz - 1))
                   have hB3 := (hB2.setB hmz hzL (zz - 1)).keep (A' := fun x => x ≠ g) (w' := wb.setCell ⟨g, kk * 2, none⟩ (.int .i64 (zz - 1))) (by simp) fun x hx hA => ⟨heap_setCell_other _ _ x _ (by exact hA), hA⟩
                   have hf : setP (mapTo (lowF j) U2 kk) kk (zz - 1) = mapTo (lowF j) U2 (kk + 1) := by
                     rw [← HMS.out]
                     unfold setP
                     rw [bagN_of hmz, show lowF j z = (zz - 1, z.2) from by unfold lowF; rw [← hzz, if_pos hzj]]
                   rw [hf] at hB3
                   have HB3 := Lib.hid hB3
                   have HW3 := Lib.hid (below_setCell' (g := g) HgB.out (.int .i64 (zz - 1)) (kk * 2) hW2)
                   clear hR2 hB2 hW2 hz hzL hmz e1 e2 e3 hB3 hf hzz
                   go_wp2_with fail
                   go_roundw
                   case rel => exact ⟨kk + 1, _, by omega, by go_num, HR3.out, HB3.out, HW3.out⟩
                   case measure => (simp [intOf]; try omega)
                 · have hf : mapTo (lowF j) U2 (kk + 1) = mapTo (lowF j) U2 kk := by
                     rw [← HMS.out]
                     have : lowF j z = z := by unfold lowF; rw [← hzz, if_neg hzj]
                     rw [this]
                     exact set_same hmz
                   have HB3 : Hid (Built (fun x => x ≠ g) wb L2 (mapTo (lowF j) U2 (kk + 1))) := Lib.hid (by rw [hf]; exact hB2)
                   have hzj2 : decide ((j : Int) < zz) = false := decide_eq_false hzj
                   clear hR2 hB2 hW2 hz hzL hmz e1 e2 e3 hf hzz
                   go_wp2_with fail
                   go_roundw
                   case rel => exact ⟨kk + 1, _, by omega, by go_num, HR2.out, HB3.out, HW2.out⟩
                   case measure => (simp [intOf]; try omega)
               · have hkn : kk = N := by omega
                 have hU3 : mapTo (lowF j) U2 kk = U3 := by rw [HU3.out]; exact mapTo_all _ _ (by omega)
                 rw [hU3] at hB2
                 have HB2 := Lib.hid hB2
                 have hL2N : L2.length = N := by omega
                 clear hR2 hB2 hW2 hU3
                 go_wp2_with fail
                 obtain ⟨wz, rfl⟩ : ∃ wz : World, wz = wb := ⟨_, rfl⟩
                 have hj1 : j + 1 ≤ N := by omega
                 have hjc : j ≤ c := by omega
                 have hj1i : (j : Int) + 1 ≤ (N : Int) := by omega
                 have hjci : (j : Int) ≤ (c : Int) := by omega
                 have hNci : (N : Int) ≤ (c : Int) := by omega
                 have ht1 : ((j : Int) + 1).toNat = j + 1 := by omega
                 have ht2 : 0 ≤ (j : Int) + 1 := by omega
                 have HRs := Lib.hid (HRed.out)
                 have hl3 : U3.length = N := by rw [HU3.out, List.length_map]; exact hl2
                 have htl : (L2.take j).length = j := by rw [List.length_take]; omega
                 have hdl : (L2.drop (j + 1)).length = N - (j + 1) := by rw [List.length_drop]; omega
                 have hel : (L2.take j ++ L2.drop (j + 1)).length = N - 1 := by rw [List.length_append, htl, hdl]; omega
                 have hsl := HB2.out.slices
                 have HSt := Lib.hid (show ∀ y ∈ L2.take j, ∃ q n cap, y.2 = .slice q n cap from fun y hy => hsl y (List.mem_of_mem_take hy))
                 have HSd := Lib.hid (show ∀ y ∈ L2.drop (j + 1), ∃ q n cap, y.2 = .slice q n cap from fun y hy => hsl y (List.mem_of_mem_drop hy))
                 have HCut := Lib.hid (HB2.out.cut j)
                 rw [List.eraseIdx_eq_take_drop_succ (l := L2)] at HCut
                 clear hsl
                 by_cases hcj : j + 1 = c
                 · have hbt : Hid (∀ W, Below wz.heap.size wz W → BagsAt W g 0 (L2.drop (j + 1))) := Lib.hid fun W hw i y hy => by
                     have := (List.getElem?_eq_some_iff.1 hy).1
                     rw [hdl] at this
                     omega
                   refine wp_region_mix (fun W => Below wz.heap.size wz W) 9 [(1, true), (2, true), (3, true), (5, true), (6, true), (7, true), (8, true), (0, false), (4, false)] (by kernel_rfl) (by kernel_rfl) (Below.refl _ _).drew ?_
                   repeat (apply wpPlan_still rfl rfl; (intro w hw; clear hw; go_simp; (try go_ints); (first | with_reducible rfl | (go_simp; with_reducible rfl))); (intro K hK; go_simp; (try go_ints); refine hK _ _ ?_; clear hK K))
                   apply wpPlan_act rfl rfl
                   intro K hK
                   unfold Oper.wp
                   go_simp
                   have hba : Below wz.heap.size wz (wz.drew.alloc (.cells #[] 130)) := (Below.refl _ _).drew.alloc (by simp) _
                   refine hK _ _ hba ?_
                   clear hK K
                   apply wpPlan_act rfl rfl
                   intro K hK
                   refine wp_appRL _ _ rfl wz.heap.size _ [] rfl (OwnRB.empty (by simp)) g 0 c (L2.take j) (by rw [htl]; rfl) ((HR2.out.below hba).atTake j) HSt.out (by simp only [List.length_nil, htl]; omega) (by simp) ?_
                   intro v5 w5 hO5 hg5 hb5
                   rw [List.nil_append] at hO5
                   have hb5' : Below wz.heap.size wz w5 := hba.trans hb5
                   refine hK _ _ hb5' ?_
                   clear hK K
                   have HO5 := Lib.hid hO5
                   have HB5 := Lib.hid hb5'
                   obtain ⟨q5, c5, rfl⟩ := hO5.sl
                   clear hO5 hg5 hb5 hb5' hba
                   refine wpPlan_nil ?_
                   simp only [List.drop_succ_cons, List.drop_zero]
                   at_builtin
                   refine wpList_appRL rfl _ _ rfl wz.heap.size _ (L2.take j) ?hxa HO5.out g (0) (c - (j + 1)) (L2.drop (j + 1)) ?hxb (hbt.out _ HB5.out) HSd.out (by rw [htl, hdl]; omega) HB5.out.size ?_
                   case hxa => rw [htl]; rfl
                   case hxb => rw [hdl]; go_simp
                   intro v6 w6 hO6 hg6 hb6
                   have hb6' : Below wz.heap.size wz w6 := HB5.out.trans hb6
                   obtain ⟨g', c', rfl, hgB', hRow', hcap'⟩ := hO6.rowc (by intro e; rw [e] at hel; simp at hel; omega)
                   have HRow' := Lib.hid hRow'
                   have HB6 := Lib.hid hb6'
                   have hBu6 := HCut.out.keep (A' := fun x => x ≠ g') hb6'.size fun k hk _ => ⟨hb6'.block k hk, by omega⟩
                   have HBu6 := Lib.hid hBu6
                   rw [hel] at hcap' ⊢
                   have hgw : w.heap.size ≤ g' := by have := HW2.out.size; omega
                   clear hO6 hg6 hb6 hb6' hRow' hBu6
                   go_wp2_with fail
                   obtain ⟨m', hTI', hlen'⟩ := HMg.out hdt.out
                   rw [HRs.out] at hTI' hlen'
                   have hlu : (U3.eraseIdx j).length = N - 1 := by rw [← HNN.out] at hlen'; omega
                   go_roundw
                   case rel => exact ⟨m', U3.eraseIdx j, _, g', c', 0, by rw [hlu], by first | rfl | go_num, hTI', HRow'.out, HBu6.out, hgw, by rw [hlu]; exact hcap', HW2.out.trans (HB6.out.mono HW2.out.size)⟩
                   case measure => (simp [intOf, vLen]; try omega)
                 · have hbt : Hid (∀ W, Below wz.heap.size wz W → BagsAt W g ((j + 1) * 2) (L2.drop (j + 1))) := Lib.hid fun W hw => (HR2.out.below hw).atDrop (j + 1)
                   have hcj2 : ¬ c = j + 1 := fun e => hcj e.symm
                   refine wp_region_mix (fun W => Below wz.heap.size wz W) 9 [(1, true), (2, true), (3, true), (5, true), (6, true), (7, true), (8, true), (0, false), (4, false)] (by kernel_rfl) (by kernel_rfl) (Below.refl _ _).drew ?_
                   repeat (apply wpPlan_still rfl rfl; (intro w hw; clear hw; go_simp; (try go_ints); (first | with_reducible rfl | (go_simp; with_reducible rfl))); (intro K hK; go_simp; (try go_ints); refine hK _ _ ?_; clear hK K))
                   apply wpPlan_act rfl rfl
                   intro K hK
                   unfold Oper.wp
                   go_simp
                   have hba : Below wz.heap.size wz (wz.drew.alloc (.cells #[] 130)) := (Below.refl _ _).drew.alloc (by simp) _
                   refine hK _ _ hba ?_
                   clear hK K
                   apply wpPlan_act rfl rfl
                   intro K hK
                   refine wp_appRL _ _ rfl wz.heap.size _ [] rfl (OwnRB.empty (by simp)) g 0 c (L2.take j) (by rw [htl]; rfl) ((HR2.out.below hba).atTake j) HSt.out (by simp only [List.length_nil, htl]; omega) (by simp) ?_
                   intro v5 w5 hO5 hg5 hb5
                   rw [List.nil_append] at hO5
                   have hb5' : Below wz.heap.size wz w5 := hba.trans hb5
                   refine hK _ _ hb5' ?_
                   clear hK K
                   have HO5 := Lib.hid hO5
                   have HB5 := Lib.hid hb5'
                   obtain ⟨q5, c5, rfl⟩ := hO5.sl
                   clear hO5 hg5 hb5 hb5' hba
                   refine wpPlan_nil ?_
                   simp only [List.drop_succ_cons, List.drop_zero]
                   at_builtin
                   refine wpList_appRL rfl _ _ rfl wz.heap.size _ (L2.take j) ?hxa HO5.out g ((j + 1) * 2) (c - (j + 1)) (L2.drop (j + 1)) ?hxb (hbt.out _ HB5.out) HSd.out (by rw [htl, hdl]; omega) HB5.out.size ?_
                   case hxa => rw [htl]; rfl
                   case hxb => rw [hdl]; rfl
                   intro v6 w6 hO6 hg6 hb6
                   have hb6' : Below wz.heap.size wz w6 := HB5.out.trans hb6
                   obtain ⟨g', c', rfl, hgB', hRow', hcap'⟩ := hO6.rowc (by intro e; rw [e] at hel; simp at hel; omega)
                   have HRow' := Lib.hid hRow'
                   have HB6 := Lib.hid hb6'
                   have hBu6 := HCut.out.keep (A' := fun x => x ≠ g') hb6'.size fun k hk _ => ⟨hb6'.block k hk, by omega⟩
                   have HBu6 := Lib.hid hBu6
                   rw [hel] at hcap' ⊢
                   have hgw : w.heap.size ≤ g' := by have := HW2.out.size; omega
                   clear hO6 hg6 hb6 hb6' hRow' hBu6
                   go_wp2_with fail
                   obtain ⟨m', hTI', hlen'⟩ := HMg.out hdt.out
                   rw [HRs.out] at hTI' hlen'
                   have hlu : (U3.eraseIdx j).length = N - 1 := by rw [← HNN.out] at hlen'; omega
                   go_roundw
                   case rel => exact ⟨m', U3.eraseIdx j, _, g', c', 0, by rw [hlu], by first | rfl | go_num, hTI', HRow'.out, HBu6.out, hgw, by rw [hlu]; exact hcap', HW2.out.trans (HB6.out.mono HW2.out.size)⟩
                   case measure => (simp [intOf, vLen]; try omega)
       | false =>
         cases m2 with
         | true =>
           go_wp2_with fail
           refine wp_region_free (fun W => Below wo.heap.size wo W) (by kernel_rfl) (by kernel_rfl) (Below.refl _ _).drew ?_
           repeat (first | ((first | apply wpFree_still (hg := rfl) | apply wpFree_stillG rfl); (intro w hw; obtain ⟨k1, k2⟩ := HF.out w hw; clear hw; go_simp; (try go_ints); (first | with_reducible rfl | (go_simp; with_reducible rfl))); (intro K hK; go_simp; (try go_ints); refine hK _ ?_; clear hK K)) | (apply wpFree_skip rfl; (intro K hK; go_simp; (try go_ints); refine hK _ ?_; clear hK K)))
           apply wpFree_callG rfl
           · intro w hw; go_simp; first | with_reducible rfl | with_reducible exact ⟨rfl, rfl⟩
           · intro w hw; exact (HW1.out w hw).mono fun e w' ⟨h1, h2⟩ => ⟨h1, hw.trans (h2.mono hw.size)⟩
           intro K hK; go_simp; (try go_ints); refine hK _ ?_; clear hK K
           repeat (first | ((first | apply wpFree_still (hg := rfl) | apply wpFree_stillG rfl); (intro w hw; obtain ⟨k1, k2⟩ := HF.out w hw; clear hw; go_simp; (try go_ints); (first | with_reducible rfl | (go_simp; with_reducible rfl))); (intro K hK; go_simp; (try go_ints); refine hK _ ?_; clear hK K)) | (apply wpFree_skip rfl; (intro K hK; go_simp; (try go_ints); refine hK _ ?_; clear hK K)))
           apply wpFree_callG rfl
           · intro w hw; go_simp; first | with_reducible rfl | with_reducible exact ⟨rfl, rfl⟩
           · intro w hw; exact (HW2.out w hw).mono fun e w' ⟨h1, h2⟩ => ⟨h1, hw.trans (h2.mono hw.size)⟩
           intro K hK; go_simp; (try go_ints); refine hK _ ?_; clear hK K
           repeat (first | ((first | apply wpFree_still (hg := rfl) | apply wpFree_stillG rfl); (intro w hw; obtain ⟨k1, k2⟩ := HF.out w hw; clear hw; go_simp; (try go_ints); (first | with_reducible rfl | (go_simp; with_reducible rfl))); (intro K hK; go_simp; (try go_ints); refine hK _ ?_; clear hK K)) | (apply wpFree_skip rfl; (intro K hK; go_simp; (try go_ints); refine hK _ ?_; clear hK K)))
           with_reducible refine wpFree_nil ?_
           intro wq hbq
           have HBq := Lib.hid hbq
           have hdt : Hid (drawnP U x = true) := Lib.hid (by rw [HMm.out]; rfl)
           clear hbq
           have hPg : ∀ k, wq.drew.heap.size ≤ k → k ≠ g := fun k hk => by have := HBq.out.size; have := HRr.out.lt; simp only [World.size_drew] at hk; omega
           go_wp2_with fail
           refine wp_region_mix (fun W => Below wo.heap.size wo W) 15 [(0, true), (1, true), (2, true), (3, true), (4, true), (5, true), (6, true), (7, true), (8, true), (9, true), (10, true), (11, true), (12, false), (13, true), (14, true)] (by kernel_rfl) (by kernel_rfl) HBq.out.drew ?_
           repeat (apply wpPlan_still rfl rfl; (intro w hw; obtain ⟨k1, k2⟩ := HF.out _ hw; clear hw; go_simp; (try go_ints); (first | with_reducible rfl | (go_simp; with_reducible rfl))); (intro K hK; go_simp; (try go_ints); refine hK _ _ ?_; clear hK K))
           apply wpPlan_act rfl rfl
           intro K hK
           unfold Oper.wp
           go_simp
           refine (ror_any (fun k => k ≠ g) y.2 x.2 _ _ _ hPg (HSyA.out _ HBq.out.drew) HySet.out (HSx.out _ HBq.out.drew)).mono ?_
           rintro e w1 ⟨vo, rfl, hvo, hb1⟩
           have hbo : Below wo.heap.size wo w1 := HBq.out.drew.trans (hb1.mono (by simpa using HBq.out.size))
           refine hK _ _ hbo ?_
           clear hK K
           obtain ⟨qo, co, rfl⟩ := hvo.sl
           have HVo := Lib.hid hvo
           have HBo := Lib.hid hbo
           clear hvo hb1 hbo
           repeat (apply wpPlan_still rfl rfl; (intro w hw; obtain ⟨k1, k2⟩ := HF.out _ hw; clear hw; go_simp; (try go_ints); (first | with_reducible rfl | (go_simp; with_reducible rfl))); (intro K hK; go_simp; (try go_ints); refine hK _ _ ?_; clear hK K))
           refine wpPlan_nil ?_
           simp only [List.drop_succ_cons, List.drop_zero]
           have hR1 := HRr.out.below HBo.out
           obtain ⟨d1, d2, f1, f2⟩ := hR1.cell p yL HYL.out
           have hg1 := hR1.lt
           have HR1 := Lib.hid (hR1.setS HYL.out (.slice qo (elemsI (y.2 ||| x.2)).length co))
           have HBu1 : Hid (Built (fun k => k ≠ g) (w1.setCell ⟨g, p * 2 + 1, none⟩ (.slice qo (elemsI (y.2 ||| x.2)).length co)) (LL.set p (yL.1, .slice qo (elemsI (y.2 ||| x.2)).length co)) U1) := Lib.hid (by
             rw [HU1.out]
             exact ((HBr.out.keep (A' := fun k => k ≠ g) HBo.out.size fun k hk hA => ⟨HBo.out.block k hk, hA⟩).setH HUy.out HYL.out HVo.out (isSet_or HySet.out HxSet.out)).keep (A' := fun k => k ≠ g) (by simp) fun k hk hA => ⟨heap_setCell_other _ _ k _ (by exact hA), hA⟩)
           have HBw1 := Lib.hid (below_setCell' (g := g) HgB.out (.slice qo (elemsI (y.2 ||| x.2)).length co) (p * 2 + 1) (HBw.out.trans (HBo.out.mono HBw.out.size)))
           clear hR1
           go_wp2_with fail
           clear d1 d2 f1 f2
           go_loopw [5] (fun k wr => ∃ (kk : Nat) (L2 : List (Int × Value)), kk ≤ N ∧ k = .int .i64 (kk : Int) ∧ RowB wr g L2 ∧ Built (fun x => x ≠ g) wr L2 (mapTo (parF j p) U1 kk) ∧ Below w.heap.size w wr) (fun k _ => N - (intOf k).toNat)
           case atStart => exact ⟨0, _, by omega, rfl, HR1.out, by rw [mapTo_zero]; exact HBu1.out, HBw1.out⟩
           case round =>
             obtain ⟨kk, L2, hkk, rfl, hR2, hB2, hW2⟩ := hrel
             obtain ⟨wa, rfl⟩ : ∃ wa : World, wa = wr := ⟨_, rfl⟩
             have HR2 := Lib.hid hR2
             have HB2 := Lib.hid hB2
             have HW2 := Lib.hid hW2
             have hL2 := hB2.1
             rw [mapTo_length] at hL2
             by_cases hlk : kk < N
             · obtain ⟨z, hz⟩ : ∃ z, U1[kk]? = some z := ⟨_, List.getElem?_eq_getElem (by omega)⟩
               obtain ⟨zL, hzL⟩ : ∃ zL, L2[kk]? = some zL := ⟨_, List.getElem?_eq_getElem (by omega)⟩
               have hmz := mapTo_get (f := parF j p) hz
               obtain ⟨e1, e2, e3⟩ := hB2.2 kk z zL hmz hzL
               obtain ⟨d1, d2, f1, f2⟩ := hR2.cell kk zL hzL
               rw [e1] at d1
               have hki : (kk : Int) < (N : Int) := by omega
               have HMS := Lib.hid (mapTo_set (f := parF j p) hz)
               by_cases hzj : z.1 = (j : Int)
               · have HR3 := Lib.hid (hR2.setP hzL (p : Int))
                 have hB3 := (hB2.setB hmz hzL (p : Int)).keep (A' := fun x => x ≠ g) (w' := wa.setCell ⟨g, kk * 2, none⟩ (.int .i64 (p : Int))) (by simp) fun x hx hA => ⟨heap_setCell_other _ _ x _ (by exact hA), hA⟩
                 have hf : setP (mapTo (parF j p) U1 kk) kk (p : Int) = mapTo (parF j p) U1 (kk + 1) := by
                   rw [← HMS.out]
                   unfold setP
                   rw [bagN_of hmz, show parF j p z = ((p : Int), z.2) from by unfold parF; rw [if_pos hzj]]
                 rw [hf] at hB3
                 have HB3 := Lib.hid hB3
                 have HW3 := Lib.hid (below_setCell' (g := g) HgB.out (.int .i64 (p : Int)) (kk * 2) hW2)
                 rw [hzj] at d1
                 clear hR2 hB2 hW2 hz hzL hmz e1 e2 e3 hzj hB3 hf
                 go_wp2_with fail
                 go_roundw
                 case rel => exact ⟨kk + 1, _, by omega, by go_num, HR3.out, HB3.out, HW3.out⟩
                 case measure => (simp [intOf]; try omega)
               · have hf : mapTo (parF j p) U1 (kk + 1) = mapTo (parF j p) U1 kk := by
                   rw [← HMS.out]
                   have : parF j p z = z := by unfold parF; rw [if_neg hzj]
                   rw [this]
                   exact set_same hmz
                 have HB3 : Hid (Built (fun x => x ≠ g) wa L2 (mapTo (parF j p) U1 (kk + 1))) := Lib.hid (by rw [hf]; exact hB2)
                 have hzj2 : (z.1 == (j : Int)) = false := by rw [beq_eq_false_iff_ne]; exact hzj
                 obtain ⟨zz, hzz⟩ : ∃ zz, zz = z.1 := ⟨_, rfl⟩
                 rw [← hzz] at d1 hzj hzj2
                 clear hR2 hB2 hW2 hz hzL hmz e1 e2 e3 hf hzz
                 go_wp2_with fail
                 go_roundw
                 case rel => exact ⟨kk + 1, _, by omega, by go_num, HR2.out, HB3.out, HW2.out⟩
                 case measure => (simp [intOf]; try omega)
             · have hkn : kk = N := by omega
               have hU2 : mapTo (parF j p) U1 kk = U2 := by rw [HU2.out]; exact mapTo_all _ _ (by omega)
               rw [hU2] at hB2
               have HB2 := Lib.hid hB2
               clear hR2 hB2 hW2 hU2
               go_wp2_with fail
               go_loopw [6] (fun k wr => ∃ (kk : Nat) (L2 : List (Int × Value)), kk ≤ N ∧ k = .int .i64 (kk : Int) ∧ RowB wr g L2 ∧ Built (fun x => x ≠ g) wr L2 (mapTo (lowF j) U2 kk) ∧ Below w.heap.size w wr) (fun k _ => N - (intOf k).toNat)
               case atStart => exact ⟨0, _, by omega, rfl, HR2.out, by rw [mapTo_zero]; exact HB2.out, HW2.out⟩
               case round =>
                 obtain ⟨kk, L2, hkk, rfl, hR2, hB2, hW2⟩ := hrel
                 obtain ⟨wb, rfl⟩ : ∃ wb : World, wb = wr := ⟨_, rfl⟩
                 have HR2 := Lib.hid hR2
                 have HB2 := Lib.hid hB2
                 have HW2 := Lib.hid hW2
                 have hL2 := hB2.1
                 rw [mapTo_length] at hL2
                 by_cases hlk : kk < N
                 · obtain ⟨z, hz⟩ : ∃ z, U2[kk]? = some z := ⟨_, List.getElem?_eq_getElem (by omega)⟩
                   obtain ⟨zL, hzL⟩ : ∃ zL, L2[kk]? = some zL := ⟨_, List.getElem?_eq_getElem (by omega)⟩
                   have hmz := mapTo_get (f := lowF j) hz
                   obtain ⟨e1, e2, e3⟩ := hB2.2 kk z zL hmz hzL
                   obtain ⟨d1, d2, f1, f2⟩ := hR2.cell kk zL hzL
                   rw [e1] at d1
                   have hki : (kk : Int) < (N : Int) := by omega
                   have HMS := Lib.hid (mapTo_set (f := lowF j) hz)
                   have hzb := HBd.out kk z hz
                   obtain ⟨zz, hzz⟩ : ∃ zz, zz = z.1 := ⟨_, rfl⟩
                   rw [← hzz] at d1 hzb
                   by_cases hzj : (j : Int) < zz
                   · have HR3 := Lib.hid (hR2.setP hzL (zz - 1))
                     have hB3 := (hB2.setB hmz hzL (zz - 1)).keep (A' := fun x => x ≠ g) (w' := wb.setCell ⟨g, kk * 2, none⟩ (.int .i64 (zz - 1))) (by simp) fun x hx hA => ⟨heap_setCell_other _ _ x _ (by exact hA), hA⟩
                     have hf : setP (mapTo (lowF j) U2 kk) kk (zz - 1) = mapTo (lowF j) U2 (kk + 1) := by
                       rw [← HMS.out]
                       unfold setP
                       rw [bagN_of hmz, show lowF j z = (zz - 1, z.2) from by unfold lowF; rw [← hzz, if_pos hzj]]
                     rw [hf] at hB3
                     have HB3 := Lib.hid hB3
                     have HW3 := Lib.hid (below_setCell' (g := g) HgB.out (.int .i64 (zz - 1)) (kk * 2) hW2)
                     clear hR2 hB2 hW2 hz hzL hmz e1 e2 e3 hB3 hf hzz
                     go_wp2_with fail
                     go_roundw
                     case rel => exact ⟨kk + 1, _, by omega, by go_num, HR3.out, HB3.out, HW3.out⟩
                     case measure => (simp [intOf]; try omega)
                   · have hf : mapTo (lowF j) U2 (kk + 1) = mapTo (lowF j) U2 kk := by
                       rw [← HMS.out]
                       have : lowF j z = z := by unfold lowF; rw [← hzz, if_neg hzj]
                       rw [this]
                       exact set_same hmz
                     have HB3 : Hid (Built (fun x => x ≠ g) wb L2 (mapTo (lowF j) U2 (kk + 1))) := Lib.hid (by rw [hf]; exact hB2)
                     have hzj2 : decide ((j : Int) < zz) = false := decide_eq_false hzj
                     clear hR2 hB2 hW2 hz hzL hmz e1 e2 e3 hf hzz
                     go_wp2_with fail
                     go_roundw
                     case rel => exact ⟨kk + 1, _, by omega, by go_num, HR2.out, HB3.out, HW2.out⟩
                     case measure => (simp [intOf]; try omega)
                 · have hkn : kk = N := by omega
                   have hU3 : mapTo (lowF j) U2 kk = U3 := by rw [HU3.out]; exact mapTo_all _ _ (by omega)
                   rw [hU3] at hB2
                   have HB2 := Lib.hid hB2
                   have hL2N : L2.length = N := by omega
                   clear hR2 hB2 hW2 hU3
                   go_wp2_with fail
                   obtain ⟨wz, rfl⟩ : ∃ wz : World, wz = wb := ⟨_, rfl⟩
                   have hj1 : j + 1 ≤ N := by omega
                   have hjc : j ≤ c := by omega
                   have hj1i : (j : Int) + 1 ≤ (N : Int) := by omega
                   have hjci : (j : Int) ≤ (c : Int) := by omega
                   have hNci : (N : Int) ≤ (c : Int) := by omega
                   have ht1 : ((j : Int) + 1).toNat = j + 1 := by omega
                   have ht2 : 0 ≤ (j : Int) + 1 := by omega
                   have HRs := Lib.hid (HRed.out)
                   have hl3 : U3.length = N := by rw [HU3.out, List.length_map]; exact hl2
                   have htl : (L2.take j).length = j := by rw [List.length_take]; omega
                   have hdl : (L2.drop (j + 1)).length = N - (j + 1) := by rw [List.length_drop]; omega
                   have hel : (L2.take j ++ L2.drop (j + 1)).length = N - 1 := by rw [List.length_append, htl, hdl]; omega
                   have hsl := HB2.out.slices
                   have HSt := Lib.hid (show ∀ y ∈ L2.take j, ∃ q n cap, y.2 = .slice q n cap from fun y hy => hsl y (List.mem_of_mem_take hy))
                   have HSd := Lib.hid (show ∀ y ∈ L2.drop (j + 1), ∃ q n cap, y.2 = .slice q n cap from fun y hy => hsl y (List.mem_of_mem_drop hy))
                   have HCut := Lib.hid (HB2.out.cut j)
                   rw [List.eraseIdx_eq_take_drop_succ (l := L2)] at HCut
                   clear hsl
                   by_cases hcj : j + 1 = c
                   · have hbt : Hid (∀ W, Below wz.heap.size wz W → BagsAt W g 0 (L2.drop (j + 1))) := Lib.hid fun W hw i y hy => by
                       have := (List.getElem?_eq_some_iff.1 hy).1
                       rw [hdl] at this
                       omega
                     refine wp_region_mix (fun W => Below wz.heap.size wz W) 9 [(1, true), (2, true), (3, true), (5, true), (6, true), (7, true), (8, true), (0, false), (4, false)] (by kernel_rfl) (by kernel_rfl) (Below.refl _ _).drew ?_
                     repeat (apply wpPlan_still rfl rfl; (intro w hw; clear hw; go_simp; (try go_ints); (first | with_reducible rfl | (go_simp; with_reducible rfl))); (intro K hK; go_simp; (try go_ints); refine hK _ _ ?_; clear hK K))
                     apply wpPlan_act rfl rfl
                     intro K hK
                     unfold Oper.wp
                     go_simp
                     have hba : Below wz.heap.size wz (wz.drew.alloc (.cells #[] 130)) := (Below.refl _ _).drew.alloc (by simp) _
                     refine hK _ _ hba ?_
                     clear hK K
                     apply wpPlan_act rfl rfl
                     intro K hK
                     refine wp_appRL _ _ rfl wz.heap.size _ [] rfl (OwnRB.empty (by simp)) g 0 c (L2.take j) (by rw [htl]; rfl) ((HR2.out.below hba).atTake j) HSt.out (by simp only [List.length_nil, htl]; omega) (by simp) ?_
                     intro v5 w5 hO5 hg5 hb5
                     rw [List.nil_append] at hO5
                     have hb5' : Below wz.heap.size wz w5 := hba.trans hb5
                     refine hK _ _ hb5' ?_
                     clear hK K
                     have HO5 := Lib.hid hO5
                     have HB5 := Lib.hid hb5'
                     obtain ⟨q5, c5, rfl⟩ := hO5.sl
                     clear hO5 hg5 hb5 hb5' hba
                     refine wpPlan_nil ?_
                     simp only [List.drop_succ_cons, List.drop_zero]
                     at_builtin
                     refine wpList_appRL rfl _ _ rfl wz.heap.size _ (L2.take j) ?hxa HO5.out g (0) (c - (j + 1)) (L2.drop (j + 1)) ?hxb (hbt.out _ HB5.out) HSd.out (by rw [htl, hdl]; omega) HB5.out.size ?_
                     case hxa => rw [htl]; rfl
                     case hxb => rw [hdl]; go_simp
                     intro v6 w6 hO6 hg6 hb6
                     have hb6' : Below wz.heap.size wz w6 := HB5.out.trans hb6
                     obtain ⟨g', c', rfl, hgB', hRow', hcap'⟩ := hO6.rowc (by intro e; rw [e] at hel; simp at hel; omega)
                     have HRow' := Lib.hid hRow'
                     have HB6 := Lib.hid hb6'
                     have hBu6 := HCut.out.keep (A' := fun x => x ≠ g') hb6'.size fun k hk _ => ⟨hb6'.block k hk, by omega⟩
                     have HBu6 := Lib.hid hBu6
                     rw [hel] at hcap' ⊢
                     have hgw : w.heap.size ≤ g' := by have := HW2.out.size; omega
                     clear hO6 hg6 hb6 hb6' hRow' hBu6
                     go_wp2_with fail
                     obtain ⟨m', hTI', hlen'⟩ := HMg.out hdt.out
                     rw [HRs.out] at hTI' hlen'
                     have hlu : (U3.eraseIdx j).length = N - 1 := by rw [← HNN.out] at hlen'; omega
                     go_roundw
                     case rel => exact ⟨m', U3.eraseIdx j, _, g', c', 0, by rw [hlu], by first | rfl | go_num, hTI', HRow'.out, HBu6.out, hgw, by rw [hlu]; exact hcap', HW2.out.trans (HB6.out.mono HW2.out.size)⟩
                     case measure => (simp [intOf, vLen]; try omega)
                   · have hbt : Hid (∀ W, Below wz.heap.size wz W → BagsAt W g ((j + 1) * 2) (L2.drop (j + 1))) := Lib.hid fun W hw => (HR2.out.below hw).atDrop (j + 1)
                     have hcj2 : ¬ c = j + 1 := fun e => hcj e.symm
                     refine wp_region_mix (fun W => Below wz.heap.size wz W) 9 [(1, true), (2, true), (3, true), (5, true), (6, true), (7, true), (8, true), (0, false), (4, false)] (by kernel_rfl) (by kernel_rfl) (Below.refl _ _).drew ?_
                     repeat (apply wpPlan_still rfl rfl; (intro w hw; clear hw; go_simp; (try go_ints); (first | with_reducible rfl | (go_simp; with_reducible rfl))); (intro K hK; go_simp; (try go_ints); refine hK _ _ ?_; clear hK K))
                     apply wpPlan_act rfl rfl
                     intro K hK
                     unfold Oper.wp
                     go_simp
                     have hba : Below wz.heap.size wz (wz.drew.alloc (.cells #[] 130)) := (Below.refl _ _).drew.alloc (by simp) _
                     refine hK _ _ hba ?_
                     clear hK K
                     apply wpPlan_act rfl rfl
                     intro K hK
                     refine wp_appRL _ _ rfl wz.heap.size _ [] rfl (OwnRB.empty (by simp)) g 0 c (L2.take j) (by rw [htl]; rfl) ((HR2.out.below hba).atTake j) HSt.out (by simp only [List.length_nil, htl]; omega) (by simp) ?_
                     intro v5 w5 hO5 hg5 hb5
                     rw [List.nil_append] at hO5
                     have hb5' : Below wz.heap.size wz w5 := hba.trans hb5
                     refine hK _ _ hb5' ?_
                     clear hK K
                     have HO5 := Lib.hid hO5
                     have HB5 := Lib.hid hb5'
                     obtain ⟨q5, c5, rfl⟩ := hO5.sl
                     clear hO5 hg5 hb5 hb5' hba
                     refine wpPlan_nil ?_
                     simp only [List.drop_succ_cons, List.drop_zero]
                     at_builtin
                     refine wpList_appRL rfl _ _ rfl wz.heap.size _ (L2.take j) ?hxa HO5.out g ((j + 1) * 2) (c - (j + 1)) (L2.drop (j + 1)) ?hxb (hbt.out _ HB5.out) HSd.out (by rw [htl, hdl]; omega) HB5.out.size ?_
                     case hxa => rw [htl]; rfl
                     case hxb => rw [hdl]; rfl
                     intro v6 w6 hO6 hg6 hb6
                     have hb6' : Below wz.heap.size wz w6 := HB5.out.trans hb6
                     obtain ⟨g', c', rfl, hgB', hRow', hcap'⟩ := hO6.rowc (by intro e; rw [e] at hel; simp at hel; omega)
                     have HRow' := Lib.hid hRow'
                     have HB6 := Lib.hid hb6'
                     have hBu6 := HCut.out.keep (A' := fun x => x ≠ g') hb6'.size fun k hk _ => ⟨hb6'.block k hk, by omega⟩
                     have HBu6 := Lib.hid hBu6
                     rw [hel] at hcap' ⊢
                     have hgw : w.heap.size ≤ g' := by have := HW2.out.size; omega
                     clear hO6 hg6 hb6 hb6' hRow' hBu6
                     go_wp2_with fail
                     obtain ⟨m', hTI', hlen'⟩ := HMg.out hdt.out
                     rw [HRs.out] at hTI' hlen'
                     have hlu : (U3.eraseIdx j).length = N - 1 := by rw [← HNN.out] at hlen'; omega
                     go_roundw
                     case rel => exact ⟨m', U3.eraseIdx j, _, g', c', 0, by rw [hlu], by first | rfl | go_num, hTI', HRow'.out, HBu6.out, hgw, by rw [hlu]; exact hcap', HW2.out.trans (HB6.out.mono HW2.out.size)⟩
                     case measure => (simp [intOf, vLen]; try omega)
         | false =>
           go_wp2_with fail
           refine wp_region_free (fun W => Below wo.heap.size wo W) (by kernel_rfl) (by kernel_rfl) (Below.refl _ _).drew ?_
           repeat (first | ((first | apply wpFree_still (hg := rfl) | apply wpFree_stillG rfl); (intro w hw; obtain ⟨k1, k2⟩ := HF.out w hw; clear hw; go_simp; (try go_ints); (first | with_reducible rfl | (go_simp; with_reducible rfl))); (intro K hK; go_simp; (try go_ints); refine hK _ ?_; clear hK K)) | (apply wpFree_skip rfl; (intro K hK; go_simp; (try go_ints); refine hK _ ?_; clear hK K)))
           apply wpFree_callG rfl
           · intro w hw; go_simp; first | with_reducible rfl | with_reducible exact ⟨rfl, rfl⟩
           · intro w hw; exact (HW1.out w hw).mono fun e w' ⟨h1, h2⟩ => ⟨h1, hw.trans (h2.mono hw.size)⟩
           intro K hK; go_simp; (try go_ints); refine hK _ ?_; clear hK K
           repeat (first | ((first | apply wpFree_still (hg := rfl) | apply wpFree_stillG rfl); (intro w hw; obtain ⟨k1, k2⟩ := HF.out w hw; clear hw; go_simp; (try go_ints); (first | with_reducible rfl | (go_simp; with_reducible rfl))); (intro K hK; go_simp; (try go_ints); refine hK _ ?_; clear hK K)) | (apply wpFree_skip rfl; (intro K hK; go_simp; (try go_ints); refine hK _ ?_; clear hK K)))
           apply wpFree_callG rfl
           · intro w hw; go_simp; first | with_reducible rfl | with_reducible exact ⟨rfl, rfl⟩
           · intro w hw; exact (HW2.out w hw).mono fun e w' ⟨h1, h2⟩ => ⟨h1, hw.trans (h2.mono hw.size)⟩
           intro K hK; go_simp; (try go_ints); refine hK _ ?_; clear hK K
           repeat (first | ((first | apply wpFree_still (hg := rfl) | apply wpFree_stillG rfl); (intro w hw; obtain ⟨k1, k2⟩ := HF.out w hw; clear hw; go_simp; (try go_ints); (first | with_reducible rfl | (go_simp; with_reducible rfl))); (intro K hK; go_simp; (try go_ints); refine hK _ ?_; clear hK K)) | (apply wpFree_skip rfl; (intro K hK; go_simp; (try go_ints); refine hK _ ?_; clear hK K)))
           with_reducible refine wpFree_nil ?_
           intro wq hbq
           have HBq := Lib.hid hbq
           have HN := Lib.hid (HNx.out (by rw [HMm.out]; rfl))
           clear hbq
           go_wp2_with fail
           go_roundw
           case rel => exact ⟨m, U, LL, g, c, j + 1, by rw [HNN.out], by go_num, HN.out, HRr.out.below HBq.out, HBr.out.keep HBq.out.size fun k hk hA => ⟨HBq.out.block k hk, hA⟩, HgB.out, hUc2, HBw.out.trans (HBq.out.mono HBw.out.size)⟩
           case measure => (simp [intOf, vLen]; try omega)
   · have hjn : j = U.length := by omega
     subst hjn
     have hfin := hTI.done
     have HFin := Lib.hid hfin
     clear hTI hRr hBr hBw hfin
     go_wp2_with fail
     go_ret
     exact ⟨_, rfl, by rw [HFin.out]; exact rowB_ref HRr.out HBr.out, HBw.out⟩
end Go.Proofs.YtmmhngjndnonhaaGreatDoor
