/- Walks of the reference: Turn (another root). Plain: a tree that Check takes is one with a .. -/
import Derived.Test.YtmmhngjndnonhaaGreatDoorTUb
import Derived.Test.YtmmhngjndnonhaaGreatDoorTKW
import Derived.Test.YtmmhngjndnonhaaGreatDoorTSw
import Derived.Test.YtmmhngjndnonhaaGreatDoorTRef3
set_option linter.all false
namespace Go.Pal
open Go
theorem setP_comm {T : List Bg} {i j : Nat} (h : i ≠ j) (p q : Int) : setP (setP T i p) j q = setP (setP T j q) i p := by
 show (setP T i p).set j (q, bagN (setP T i p) j) = (setP T j q).set i (p, bagN (setP T j q) i)
 rw [setP_bag, setP_bag]
 unfold setP
 exact List.set_comm _ _ h
def curT (T : List Bg) (z : Int) (l : List Int) (i : Nat) : Int := if i = 0 then z else upI T (l.getD (i - 1) 0)
def prevT (k : Nat) (l : List Int) (i : Nat) : Int := if i = 0 then (k : Int) else l.getD (i - 1) 0
theorem climb_get {T : List Bg} : ∀ {f : Nat} {z : Int} {l : List Int}, climb T f z = some l → (∀ (i : Nat) (y : Int), l[i]? = some y → 0 ≤ y ∧ y = curT T z l i) ∧ curT T z l l.length < 0 := by
 intro f
 induction f with
 | zero =>
   intro z l h
   unfold climb at h
   split at h
   · cases h
     refine ⟨fun i y hy => by simp at hy, ?_⟩
     simpa [curT] using ‹z < 0›
   · cases h
 | succ f ih =>
   intro z l h
   unfold climb at h
   split at h
   · cases h
     refine ⟨fun i y hy => by simp at hy, ?_⟩
     simpa [curT] using ‹z < 0›
   · rename_i hz
     obtain ⟨l', hl', rfl⟩ := Option.map_eq_some_iff.1 h
     obtain ⟨h1, h2⟩ := ih hl'
     have hc : ∀ i, curT T z (z :: l') (i + 1) = curT T (upI T z) l' i := fun i => by
       unfold curT
       cases i with
       | zero => simp
       | succ i => simp
     refine ⟨fun i y hy => ?_, ?_⟩
     · cases i with
       | zero =>
         simp at hy
         subst hy
         exact ⟨by omega, by simp [curT]⟩
       | succ i =>
         rw [hc]
         exact h1 i y (by simpa using hy)
     · rw [List.length_cons, hc]
       exact h2
structure TurnI (T : List Bg) (rk : Nat → Nat) (k : Nat) (l : List Int) (i : Nat) (U : List Bg) : Prop where
 len : U.length = T.length
 inv : RRI T rk k (curT T (upI T (k : Int)) l i) (prevT k l i) (setP U k (-1))
theorem turn_start {T : List Bg} {r M : Nat} {rk : Nat → Nat} (h : RkOk T r rk M) {k : Nat} (hk : k < T.length) (l : List Int) : TurnI T rk k l 0 T := by
 refine ⟨rfl, ?_⟩
 have := rr_step h (rr_start h hk)
 rw [parU_eq] at this
 simpa [curT, prevT] using this
theorem turn_step {T : List Bg} {r M : Nat} {rk : Nat → Nat} (h : RkOk T r rk M) {k i bn : Nat} {l : List Int} {U : List Bg} (hl : climb T (T.length + 1) (upI T (k : Int)) = some l) (hb : l[i]? = some (bn : Int)) (hI : TurnI T rk k l i U) :
   TurnI T rk k l (i + 1) (setP U bn (prevT k l i)) ∧ bn < T.length := by
 have hc := ((climb_get hl).1 i _ hb).2
 have hinv := hI.inv
 rw [← hc] at hinv
 have hbl : bn < T.length := by
   rcases hinv.bin with h1 | ⟨b', h1, h2⟩
   · omega
   · obtain rfl : b' = bn := by omega
     exact h2
 have hne : k ≠ bn := by
   rcases hinv.link with ⟨h1, -⟩ | ⟨u, -, -, -, -, h5⟩
   · exfalso
     unfold prevT at h1
     split at h1
     · omega
     · rename_i hi
       have hi1 := (List.getElem?_eq_some_iff.1 hb).1
       have := ((climb_get hl).1 (i - 1) l[i - 1] (List.getElem?_eq_getElem (by omega))).1
       rw [List.getD_eq_getElem?_getD, List.getElem?_eq_getElem (by omega)] at h1
       simp at h1
       omega
   · have := h5 bn rfl
     intro e
     subst e
     omega
 have hst := rr_step h hinv
 have hgd : l.getD i 0 = (bn : Int) := by rw [List.getD_eq_getElem?_getD, hb]; rfl
 refine ⟨⟨by rw [setP_len]; exact hI.len, ?_⟩, hbl⟩
 rw [setP_comm hne, parU_eq] at hst
 have e1 : curT T (upI T (k : Int)) l (i + 1) = upI T (bn : Int) := by unfold curT; rw [if_neg (by omega), Nat.add_sub_cancel, hgd]
 have e2 : prevT k l (i + 1) = (bn : Int) := by unfold prevT; rw [if_neg (by omega), Nat.add_sub_cancel, hgd]
 rw [e1, e2]
 exact hst
theorem turn_done {T U A : List Bg} {k : Nat} {rk : Nat → Nat} {l : List Int} (hl : climb T (T.length + 1) (upI T (k : Int)) = some l) (hI : TurnI T rk k l l.length U) (hA : TOk A k) (hS : TSame T A) : setP U k (-1) = A := by
 have hc := (climb_get hl).2
 have hinv := hI.inv
 have hm : curT T (upI T (k : Int)) l l.length = -1 := by
   rcases hinv.bin with h1 | ⟨b', h1, -⟩
   · exact h1
   · omega
 rw [hm] at hinv
 obtain ⟨h1, h2, h3⟩ := rr_done hinv
 exact turn_unique hA (hS.symm.trans h1) h2 h3
noncomputable def turnT (T : List Bg) (k : Nat) : List Bg := by
 classical exact if h : ∃ U, TOk U k ∧ TSame T U then h.choose else T
theorem turnT_eq {T A : List Bg} {k : Nat} (hA : TOk A k) (hS : TSame T A) : turnT T k = A := by
 have hex : ∃ U, TOk U k ∧ TSame T U := ⟨A, hA, hS⟩
 unfold turnT
 rw [dif_pos hex]
 obtain ⟨h1, h2⟩ := hex.choose_spec
 obtain ⟨rk, M, hk⟩ := h1.rk
 exact turn_unique hA (hS.symm.trans h2) h1.head fun i hi => by
   rcases parU_neg hk hi with h | ⟨p, h, -, -⟩
   · exact .inl h
   · exact .inr ⟨p, h⟩
end Go.Pal
namespace Go.Proofs.YtmmhngjndnonhaaGreatDoor
open Go Go.RowKit Go.Pal
attribute [local go_sem] Oper.semAt_some
theorem Built.setB {A : Nat → Prop} {w : World} {L : List (Int × Value)} {T : List Bg} (h : Built A w L T) {i : Nat} {x : Bg} {y : Int × Value} (hx : T[i]? = some x) (hy : L[i]? = some y) (p : Int) : Built A w (L.set i (p, y.2)) (setP T i p) := by
 have hb : bagN T i = x.2 := bagN_of hx
 unfold setP
 rw [hb]
 refine ⟨by rw [List.length_set, List.length_set]; exact h.1, fun j x' y' hx' hy' => ?_⟩
 by_cases e : i = j
 · subst e
   rw [List.getElem?_set_self (List.getElem?_eq_some_iff.1 hx).1] at hx'
   rw [List.getElem?_set_self (List.getElem?_eq_some_iff.1 hy).1] at hy'
   cases hx'
   cases hy'
   exact ⟨rfl, (h.2 i x y hx hy).2⟩
 · rw [List.getElem?_set_ne e] at hx' hy'
   exact h.2 j x' y' hx' hy'
set_option maxRecDepth 10000 in
set_option maxHeartbeats 2000000 in
theorem rturn_any (T : List Bg) (r : Nat) (hT : TOk T r) (k : Nat) (hk : k < T.length) (v : Value) (w : World) (hv : RefT w v T) (hP : ParIn T) (hlen : T.length ≤ 60000) :
   Calls Tryz.prog 30 #[v, .int .i64 (k : Int)] w fun e w' => ∃ v', e = .returned v' ∧ RefT w' v' (turnT T k) ∧ Below w.heap.size w w' := by
 obtain ⟨A, hA, hSA⟩ := turn_exists hT k hk
 rw [turnT_eq hA hSA]
 obtain ⟨rk, M, hrk⟩ := hT.rk
 have hlc : ∃ l, climb T (T.length + 1) (upI T (k : Int)) = some l ∧ l.length ≤ T.length + 1 := by
   obtain ⟨m, hs⟩ := hT.all k hk
   obtain ⟨l, hl⟩ := climb_steps hs hT.head
   have hm := hT.rooted.few hs hk
   have hl2 := climb_le hl (g := T.length + 1) (by omega)
   exact ⟨l, hl2, climb_len hl2⟩
 obtain ⟨l, hl, hll⟩ := hlc
 have hne : T ≠ [] := fun e => by rw [e] at hk; simp at hk
 have HAb := Lib.hid fun W (hb : Below w.heap.size w W) => above_own T v W (hv.below hb) hP (by omega) k hk
 simp only [hl, Option.isSome_some, Option.getD_some] at HAb
 obtain ⟨b, off, c, L, rfl, hbl, hBag, hBu⟩ := refT_bags hv hne
 have HL := Lib.hid hl
 have HRk := Lib.hid hrk
 have HA := Lib.hid hA
 have HSA := Lib.hid hSA
 have HBag := Lib.hid hBag
 have HBu := Lib.hid hBu
 have hLl := hBu.1
 have HSl := Lib.hid hBu.slices
 obtain ⟨n, hn⟩ : ∃ n, n = T.length := ⟨_, rfl⟩
 have HNN := Lib.hid hn
 rw [← hn] at hk hlen hll hLl HAb ⊢
 clear hl hrk hA hSA hBag hBu hv hP hne hT hn
 go_enter Tryz.func30, Tryz.ntmps30
 go_wp2_with (at_builtin; refine wpList_appRL rfl _ _ rfl w.heap.size _ [] rfl (OwnRB.empty (Nat.le_refl _)) b off c L (by rw [hLl]; rfl) (fun i y hy => ?cells) HSl.out (by simp; omega) (by simp) ?_)
 case cells =>
   obtain ⟨h1, h2⟩ := HBag.out i y hy
   have hb1 : Below w.heap.size w (w.alloc (.cells #[] 130)) := (Below.refl _ w).alloc (Nat.le_refl _) _
   exact ⟨(hb1.cell (p := ⟨b, off + i * 2, none⟩) hbl).trans h1, (hb1.cell (p := ⟨b, off + i * 2 + 1, none⟩) hbl).trans h2⟩
 intro v1 w1 hO1 hg1 hb1
 have hsw1 : w.heap.size ≤ w1.heap.size := by have := hb1.size; simp at this; omega
 have hB1 : Below w.heap.size w w1 := ((Below.refl _ w).alloc (Nat.le_refl _) _).trans hb1
 obtain ⟨g, cg, rfl, hgB, hRow⟩ := hO1.row (by intro e; rw [e] at hLl; simp at hLl; omega)
 have hBu1 : Built (fun x => x ≠ g) w1 L T := HBu.out.keep hsw1 fun j hj _ => ⟨hB1.block j hj, by omega⟩
 have HB1 := Lib.hid hB1
 have HRow := Lib.hid hRow
 have HBu1 := Lib.hid hBu1
 have hgl := hRow.lt
 rw [hLl]
 clear hO1 hg1 hb1 hB1 hRow hBu1 HBu HBag HSl
 go_wp2_with fail
 refine (HAb.out w1 HB1.out).mono ?_
 rintro e w2 ⟨v2, rfl, hl2, hb2⟩
 obtain ⟨q2, n2, c2, rfl⟩ := hl2.slice
 have hn2 := hl2.len
 subst hn2
 have HB2 := Lib.hid hb2
 have HO2 := Lib.hid hl2
 have HRow2 := Lib.hid (HRow.out.below hb2)
 have HBu2 := Lib.hid (HBu1.out.keep (A' := fun x => x ≠ g) hb2.size fun j hj hA => ⟨hb2.block j hj, hA⟩)
 have hs2 := hb2.size
 have HSt := Lib.hid (turn_start HRk.out (k := k) (by rw [← HNN.out]; exact hk) l)
 clear hl2 hb2 HAb HRow HBu1
 go_wp2_with fail
 go_loopw [8, 9] (fun d i wr => ∃ (j : Nat) (U : List Bg) (LL : List (Int × Value)), j ≤ l.length ∧ i = .int .i64 (j : Int) ∧ d = .int .i64 (prevT k l j) ∧ TurnI T rk k l j U ∧ RowB wr g LL ∧ Built (fun x => x ≠ g) wr LL U ∧ Same (fun x => x ≠ g) w2 wr) (fun _ i _ => l.length - (intOf i).toNat)
 case atStart => exact ⟨0, T, L, by omega, rfl, rfl, HSt.out, HRow2.out, HBu2.out, Same.refl _ _⟩
 case round =>
   obtain ⟨j, U, LL, hj, rfl, rfl, hTI, hRr, hBr, hS⟩ := hrel
   have HTI := Lib.hid hTI
   have HRr := Lib.hid hRr
   have HBr := Lib.hid hBr
   have HS := Lib.hid hS
   have hUl := hTI.len
   have hLLl := hBr.1
   obtain ⟨wo, rfl⟩ : ∃ wo : World, wo = wr := ⟨_, rfl⟩
   rw [← HNN.out] at hUl
   obtain ⟨pv, hpv⟩ : ∃ pv, pv = prevT k l j := ⟨_, rfl⟩
   have HPv := Lib.hid hpv
   rw [← hpv]
   by_cases hlt : j < l.length
   · obtain ⟨z, hz⟩ : ∃ z, l[j]? = some z := ⟨_, List.getElem?_eq_getElem hlt⟩
     obtain ⟨hz0, -⟩ := (climb_get HL.out).1 j z hz
     obtain ⟨bn, rfl⟩ : ∃ bn : Nat, z = (bn : Int) := ⟨z.toNat, by omega⟩
     obtain ⟨hst, hbn⟩ := turn_step HRk.out HL.out hz hTI
     rw [← hpv] at hst
     rw [← HNN.out] at hbn
     obtain ⟨g2, rfl, hg2, hg2l, c0⟩ := HO2.out.cell hz
     have c1 : wo.cell? ⟨g2, j, none⟩ = some (.int .i64 (bn : Int)) := (World.cell?_of_block (hS.block g2 hg2l (by omega))).trans c0
     have hy : LL[bn]? = some LL[bn] := List.getElem?_eq_getElem (by omega)
     obtain ⟨y, hyy⟩ : ∃ y, LL[bn]? = some y := ⟨_, hy⟩
     have hx : U[bn]? = some U[bn] := List.getElem?_eq_getElem (by omega)
     obtain ⟨d1, d2, f1, f2⟩ := hRr.cell bn y hyy
     have HSt2 := Lib.hid hst
     have HR2 := Lib.hid (hRr.setP hyy pv)
     have HBs := Lib.hid ((hBr.setB hx hyy pv).keep (A' := fun x => x ≠ g) (w' := wo.setCell ⟨g, bn * 2, none⟩ (.int .i64 pv)) (by simp) fun x hx hA => ⟨heap_setCell_other _ _ x _ (by exact hA), hA⟩)
     have HSs := Lib.hid (hS.trans (Same.setCell (fun x => x ≠ g) wo ⟨g, bn * 2, none⟩ (.int .i64 pv) (by simp)))
     have hprev : Hid (prevT k l (j + 1) = (bn : Int)) := Lib.hid (by unfold prevT; rw [if_neg (by omega), Nat.add_sub_cancel, List.getD_eq_getElem?_getD, hz]; rfl)
     have hbi : (bn : Int) < (n : Int) := by omega
     have hg2r : g2 < wo.heap.size := Nat.lt_of_lt_of_le hg2l hS.size
     have hg2g : g2 ≠ g := by omega
     have c1' : (wo.setCell ⟨g, bn * 2, none⟩ (.int .i64 pv)).cell? ⟨g2, j, none⟩ = some (.int .i64 (bn : Int)) := (World.cell?_setCell_other _ _ _ _ (by intro e'; exact hg2g (Addr.mk.inj e').1.symm)).trans c1
     clear hTI hRr hBr hS hz hst hy hx hyy hpv c0 hz0
     go_wp2_with fail
     go_roundw
     case rel => exact ⟨j + 1, _, _, by omega, by go_num, by rw [hprev.out], HSt2.out, HR2.out, HBs.out, HSs.out⟩
     case measure => (simp [intOf]; try omega)
   · have hjl : j = l.length := by omega
     subst hjl
     have hfin := turn_done HL.out hTI HA.out HSA.out
     have hy : LL[k]? = some LL[k] := List.getElem?_eq_getElem (by omega)
     obtain ⟨y, hyy⟩ : ∃ y, LL[k]? = some y := ⟨_, hy⟩
     have hx : U[k]? = some U[k] := List.getElem?_eq_getElem (by omega)
     obtain ⟨d1, d2, f1, f2⟩ := hRr.cell k y hyy
     have HR2 := Lib.hid (hRr.setP hyy (-1))
     have hBs := (hBr.setB hx hyy (-1)).keep (A' := fun x => x ≠ g) (w' := wo.setCell ⟨g, k * 2, none⟩ (.int .i64 (-1))) (by simp) fun x hx hA => ⟨heap_setCell_other _ _ x _ (by exact hA), hA⟩
     rw [hfin] at hBs
     have HBs := Lib.hid hBs
     have HSs := Lib.hid (hS.trans (Same.setCell (fun x => x ≠ g) wo ⟨g, k * 2, none⟩ (.int .i64 (-1)) (by simp)))
     have HAl : Hid (A.length = n) := Lib.hid (by rw [HNN.out, HSA.out.len])
     have hki : (k : Int) < (n : Int) := by omega
     clear hTI hRr hBr hS hfin hy hx hyy hpv hBs
     go_wp2_with fail
     go_ret
     refine ⟨_, rfl, ?_, ?_⟩
     · rw [← HAl.out]
       exact rowB_ref HR2.out HBs.out
     · exact (HB1.out.trans (HB2.out.mono hsw1)).trans (HSs.out.below (by have := HB2.out.size; omega) fun j hj => by omega)
end Go.Proofs.YtmmhngjndnonhaaGreatDoor
namespace Go.Pal
open Go
theorem tok_of_check {T : List Bg} (h : rCheckN T = 0) (hS : ∀ x ∈ T, IsSet x.2) : ∃ r, TOk T r := by
 obtain ⟨-, -, h3, h4, h5, h6⟩ := rCheckN_zero h
 obtain ⟨r, hR, -⟩ := rooted_of h3 h4
 have hall := hR.up_iff.1 h5
 have hseen := (hR.topB_iff hS hall).1 h6
 have apart : ∀ i j n, i < j → j < T.length → (topS T i).testBit n = true → (topS T j).testBit n = true → False := fun i j n hij hj h1 h2 => by
   have h7 := congrArg (fun z => z.testBit n) (hseen j hj)
   simp only [Nat.testBit_and, Nat.zero_testBit, h2, bit_seenTo h1 hij] at h7
   simp at h7
 refine ⟨r, ⟨deepAt T, T.length, hR.lt, hR.head, fun c hc hcr => ?_, fun c hc => ?_⟩, fun i j n hi hj h1 h2 => ?_⟩
 · obtain ⟨p, hp, hpl⟩ := hR.par c hc hcr
   obtain ⟨m, hs⟩ := hall p hpl
   have e1 := hR.deepAt hs hpl
   have e2 := hR.deepAt (.succ hp hs) hc
   exact ⟨p, hp, hpl, by omega⟩
 · obtain ⟨m, hs⟩ := hall c hc
   rw [hR.deepAt hs hc]
   exact hR.few hs hc
 · apply Classical.byContradiction
   intro hne
   rcases Nat.lt_or_gt_of_ne hne with h7 | h7
   · exact apart i j n h7 hj h1 h2
   · exact apart j i n h7 hi h2 h1
theorem TOk.rankP {T : List Bg} {r : Nat} (h : TOk T r) : ∃ rk, RankP T rk := by
 obtain ⟨rk, M, hk⟩ := h.rk
 refine ⟨rk, fun i x hx => ?_⟩
 have hi := (List.getElem?_eq_some_iff.1 hx).1
 have hp : parU T i = x.1 := by simp [parU, hx]
 rw [← hp]
 rcases parU_neg hk hi with h1 | ⟨p, h1, h2, h3⟩
 · exact .inl h1
 · exact .inr ⟨p, h1, h2, h3⟩
theorem topsL_one {T : List Bg} {r i n : Nat} (h : TOk T r) (hi : i < T.length) (hn : (topS T i).testBit n = true) : topsL T n = [i] := by
 have hm : i ∈ topsL T n := List.mem_filter.2 ⟨List.mem_range.2 hi, hn⟩
 have hall : ∀ j ∈ topsL T n, j = i := fun j hj => by
   obtain ⟨h1, h2⟩ := List.mem_filter.1 hj
   exact h.top j i n (List.mem_range.1 h1) hi h2 hn
 have hnd : (topsL T n).Nodup := List.Pairwise.filter _ List.nodup_range
 cases hl : topsL T n with
 | nil => rw [hl] at hm; simp at hm
 | cons a l =>
   rw [hl] at hall hnd
   have ha := hall a (by simp)
   subst ha
   cases l with
   | nil => rfl
   | cons b l =>
     have hb := hall b (by simp)
     subst hb
     simp at hnd
theorem dTop_of {T : List Bg} {r i n : Nat} (h : TOk T r) (hi : i < T.length) (hn : (topS T i).testBit n = true) : dTop T (n : Int) = deepAt T i := by
 unfold dTop
 rw [Int.toNat_natCast, topsL_one h hi hn]
 rfl
theorem ordTo_sorted {T : List Bg} {ids : List Int} {n : Nat} (hA : ids.Pairwise (· < ·)) (key : Int → Int) (hk : ∀ z ∈ ids, key z = -(dTop T z : Int)) : ∀ k, k ≤ n + 1 → (ordTo T ids n k).Pairwise (ltK key) ∧ ∀ z, z ∈ ordTo T ids n k ↔ z ∈ ids ∧ ∃ j, j < k ∧ dTop T z = n - j := by
 have hin : ∀ d z, z ∈ ordIn T ids d ids.length ↔ z ∈ ids ∧ dTop T z = d := fun d z => by
   unfold ordIn
   rw [List.take_length, List.mem_filter, decide_eq_true_eq]
 intro k
 induction k with
 | zero => intro _; exact ⟨by simp [ordTo], fun z => by simp [ordTo]⟩
 | succ k ih =>
   intro hkn
   obtain ⟨h1, h2⟩ := ih (by omega)
   rw [ordTo_succ]
   refine ⟨?_, fun z => ?_⟩
   · rw [List.pairwise_append]
     refine ⟨h1, ?_, fun a ha b hb => ?_⟩
     · unfold ordIn
       rw [List.take_length]
       refine List.Pairwise.imp_of_mem (R := (· < ·)) (fun {a b} ha hb hab => ?_) (List.Pairwise.filter _ hA)
       obtain ⟨a1, a2⟩ := List.mem_filter.1 ha
       obtain ⟨b1, b2⟩ := List.mem_filter.1 hb
       rw [decide_eq_true_eq] at a2 b2
       unfold ltK
       rw [hk a a1, hk b b1, a2, b2]
       exact .inr ⟨rfl, hab⟩
     · obtain ⟨a1, j, hj, a2⟩ := (h2 a).1 ha
       obtain ⟨b1, b2⟩ := (hin _ b).1 hb
       unfold ltK
       rw [hk a a1, hk b b1, a2, b2]
       omega
   · rw [List.mem_append, h2, hin]
     constructor
     · rintro (⟨a1, j, hj, a2⟩ | ⟨a1, a2⟩)
       · exact ⟨a1, j, by omega, a2⟩
       · exact ⟨a1, k, by omega, a2⟩
     · rintro ⟨a1, j, hj, a2⟩
       by_cases e : j = k
       · subst e; exact .inr ⟨a1, a2⟩
       · exact .inl ⟨a1, j, by omega, a2⟩
end Go.Pal
