/- Walks of package treedecomp: Reduce. Bags compared; trees of bags compared (slices.Equal, .. -/
import Derived.Test.YteiibpfabgfolaaGreatDoorVTrH
import Derived.Test.YteiibpfabgfolaaGreatDoorVHx
set_option maxHeartbeats 4000000
set_option maxRecDepth 10000
set_option linter.all false
namespace Go.Pal
open Go Go.RowKit
def redPar (a u : Int) (x : Bg) : Bg := (if a < (if x.1 = a then u else x.1) then (if x.1 = a then u else x.1) - 1 else (if x.1 = a then u else x.1), x.2)
def redStep (T : List Bg) (i : Nat) : List Bg :=
 match T[i]? with
 | none => T
 | some x => match T[x.1.toNat]? with
   | none => T
   | some y => ((T.set x.1.toNat (y.1, y.2 ||| x.2)).map (redPar i x.1)).eraseIdx i
def redTo : Nat → List Bg → List Bg
 | 0, T => T
 | n + 1, T => if idx (drawnP T) T < 0 then T else redTo n (redStep T (idx (drawnP T) T).toNat)
def RankP (T : List Bg) (r : Nat → Nat) : Prop := ∀ (i : Nat) x, T[i]? = some x → x.1 = -1 ∨ ∃ p : Nat, x.1 = p ∧ p < T.length ∧ r p < r i
theorem RankP.parents {T : List Bg} {r : Nat → Nat} (h : RankP T r) : Parents T := fun x hx => by
 obtain ⟨i, hi⟩ := List.mem_iff_getElem?.1 hx
 exact (h i x hi).imp id fun ⟨p, h1, h2, _⟩ => ⟨p, h1, h2⟩
theorem idx_get {α : Type} {p : α → Bool} {l : List α} (h : ¬ idx p l < 0) : ∃ (k : Nat) (x : α), idx p l = k ∧ l[k]? = some x ∧ p x = true := by
 unfold idx at h ⊢
 cases hf : l.findIdx? p with
 | none => rw [hf] at h; simp at h
 | some k =>
   obtain ⟨h1, h2, h3⟩ := List.findIdx?_eq_some_iff_getElem.1 hf
   exact ⟨k, _, rfl, List.getElem?_eq_getElem h1, h2⟩
def mapTo (f : Bg → Bg) (T : List Bg) (k : Nat) : List Bg := (T.take k).map f ++ T.drop k
theorem mapTo_zero (f : Bg → Bg) (T : List Bg) : mapTo f T 0 = T := by simp [mapTo]
theorem mapTo_all (f : Bg → Bg) (T : List Bg) {k : Nat} (h : k = T.length) : mapTo f T k = T.map f := by subst h; simp [mapTo]
theorem mapTo_length (f : Bg → Bg) (T : List Bg) (k : Nat) : (mapTo f T k).length = T.length := by simp [mapTo]; omega
theorem mapTo_get {f : Bg → Bg} {T : List Bg} {k : Nat} {x : Bg} (h : T[k]? = some x) : (mapTo f T k)[k]? = some x := by
 have := (List.getElem?_eq_some_iff.1 h).1
 unfold mapTo
 rw [List.getElem?_append_right (by simp; omega), List.length_map, List.length_take, Nat.min_eq_left (by omega), Nat.sub_self, List.getElem?_drop]
 exact h
theorem mapTo_set {f : Bg → Bg} {T : List Bg} {k : Nat} {x : Bg} (h : T[k]? = some x) : (mapTo f T k).set k (f x) = mapTo f T (k + 1) := by
 have hk := (List.getElem?_eq_some_iff.1 h).1
 have hl : ((T.take k).map f).length = k := by simp; omega
 unfold mapTo
 rw [List.set_append_right _ _ (by omega), hl, Nat.sub_self, List.take_add_one, h, List.map_append]
 have hd : T.drop k = x :: T.drop (k + 1) := by
   rw [List.drop_eq_getElem_cons hk]
   obtain ⟨_, h2⟩ := List.getElem?_eq_some_iff.1 h
   rw [h2]
 rw [hd]
 simp
theorem redStep_of {T : List Bg} {i p : Nat} {x y : Bg} (hx : T[i]? = some x) (hp : x.1 = p) (hy : T[p]? = some y) : redStep T i = ((T.set p (y.1, y.2 ||| x.2)).map (redPar i p)).eraseIdx i := by
 unfold redStep
 rw [hx]
 simp only []
 rw [hp, Int.toNat_natCast, hy]
theorem redStep_length {T : List Bg} {i p : Nat} {x y : Bg} (hx : T[i]? = some x) (hp : x.1 = p) (hy : T[p]? = some y) : (redStep T i).length + 1 = T.length := by
 have hi := (List.getElem?_eq_some_iff.1 hx).1
 rw [redStep_of hx hp hy, List.length_eraseIdx, if_pos (by simpa using hi)]
 simp
 omega
theorem redStep_set {T : List Bg} {i p : Nat} {x y : Bg} (hx : T[i]? = some x) (hp : x.1 = p) (hy : T[p]? = some y) (hS : ∀ z ∈ T, IsSet z.2) : ∀ z ∈ redStep T i, IsSet z.2 := by
 intro z hz
 rw [redStep_of hx hp hy] at hz
 obtain ⟨z', hz', rfl⟩ := List.mem_map.1 (List.mem_of_mem_eraseIdx hz)
 show IsSet z'.2
 rcases List.mem_or_eq_of_mem_set hz' with h | h
 · exact hS _ h
 · rw [h]
   exact isSet_or (hS _ (List.mem_of_getElem? hy)) (hS _ (List.mem_of_getElem? hx))
theorem redStep_rank {T : List Bg} {r : Nat → Nat} {i p : Nat} {x y : Bg} (hx : T[i]? = some x) (hp : x.1 = p) (hy : T[p]? = some y) (hR : RankP T r) : RankP (redStep T i) (fun j => r (if j < i then j else j + 1)) := by
 have hi := (List.getElem?_eq_some_iff.1 hx).1
 have hlen := redStep_length hx hp hy
 have hpr : p < T.length ∧ r p < r i := by
   rcases hR i x hx with h | ⟨q, h1, h2, h3⟩
   · omega
   · have : q = p := by omega
     subst this
     exact ⟨h2, h3⟩
 have hpi : p ≠ i := fun e => by rw [e] at hpr; omega
 intro j z hz
 -- where the bag stood
 obtain ⟨m, hm, hm2, x', hx', hz'⟩ : ∃ m : Nat, m = (if j < i then j else j + 1) ∧ m ≠ i ∧ ∃ x', T[m]? = some x' ∧ z.1 = (redPar i p x').1 := by
   rw [redStep_of hx hp hy, List.getElem?_eraseIdx] at hz
   have key : ∀ m : Nat, ((T.set p (y.1, y.2 ||| x.2)).map (redPar i p))[m]? = some z → ∃ x', T[m]? = some x' ∧ z.1 = (redPar i p x').1 := by
     intro m hm
     rw [List.getElem?_map] at hm
     cases ht : (T.set p (y.1, y.2 ||| x.2))[m]? with
     | none => rw [ht] at hm; simp at hm
     | some u =>
       rw [ht] at hm
       simp only [Option.map_some, Option.some.injEq] at hm
       by_cases hmp : m = p
       · subst hmp
         rw [List.getElem?_set_self hpr.1] at ht
         cases ht
         exact ⟨y, hy, by rw [← hm]; rfl⟩
       · rw [List.getElem?_set_ne (fun h => hmp h.symm)] at ht
         exact ⟨u, ht, by rw [← hm]⟩
   split at hz
   · rename_i h
     exact ⟨j, by rw [if_pos h], by omega, key _ hz⟩
   · rename_i h
     exact ⟨j + 1, by rw [if_neg h], by omega, key _ hz⟩
 show z.1 = -1 ∨ ∃ q : Nat, z.1 = q ∧ q < (redStep T i).length ∧ r (if q < i then q else q + 1) < r (if j < i then j else j + 1)
 rw [← hm, hz']
 have hml := (List.getElem?_eq_some_iff.1 hx').1
 rcases hR m x' hx' with h | ⟨q, h1, h2, h3⟩
 · refine .inl ?_
   unfold redPar
   simp only [h]
   rw [if_neg (by omega : ¬ ((-1 : Int) = (i : Int))), if_neg (by omega)]
 · refine .inr ?_
   unfold redPar
   simp only [h1]
   by_cases hqi : q = i
   · subst hqi
     rw [if_pos rfl]
     by_cases hlt : q < p
     · rw [if_pos (by omega)]
       exact ⟨p - 1, by omega, by omega, by rw [if_neg (by omega), show p - 1 + 1 = p by omega]; omega⟩
     · rw [if_neg (by omega)]
       exact ⟨p, rfl, by omega, by rw [if_pos (by omega)]; omega⟩
   · rw [if_neg (show ¬ ((q : Int) = (i : Int)) by omega)]
     by_cases hlt : i < q
     · rw [if_pos (by omega)]
       exact ⟨q - 1, by omega, by omega, by rw [if_neg (by omega), show q - 1 + 1 = q by omega]; exact h3⟩
     · rw [if_neg (by omega)]
       exact ⟨q, rfl, by omega, by rw [if_pos (by omega)]; exact h3⟩
theorem set_same {α : Type} : ∀ {l : List α} {i : Nat} {x : α}, l[i]? = some x → l.set i x = l
 | [], _, _, h => by simp at h
 | y :: r, 0, x, h => by simp at h; rw [h]; rfl
 | y :: r, i + 1, x, h => by rw [List.set_cons_succ, set_same (by simpa using h)]
theorem Parents.bound {T : List Bg} (h : Parents T) {z : Bg} (hz : z ∈ T) : -1 ≤ z.1 ∧ z.1 < T.length := by
 rcases h z hz with e | ⟨p, e, hp⟩ <;> omega
end Go.Pal
namespace Go.Proofs.YteiibpfabgfolaaGreatDoor
open Go Go.RowKit Go.Pal
attribute [local go_sem] Oper.semAt_some
theorem own_cell {T : List Bg} {B g n cap : Nat} {w : World} (hO : OwnT B w (.slice (some ⟨g, 0, none⟩) n cap) T) {i : Nat} {x : Bg} (hx : T[i]? = some x) :
   w.cell? ⟨g, i * 17, none⟩ = some (.int .i64 x.1) ∧ w.frozen? ⟨g, i * 17, none⟩ = false ∧ rowLoad Tryz.prog 51 ⟨g, i * 17 + 1, none⟩ w = .ok (.agg (words x.2)) w ∧ ∀ S, rowStore Tryz.prog 51 ⟨g, i * 17 + 1, none⟩ (.agg (words S)) w = .ok () (w.setCells g (i * 17 + 1) (words S).toList) := by
 obtain ⟨f, hrow, hf, hcap, hm, hB, rfl⟩ := row_own hO
 have hi := (List.getElem?_eq_some_iff.1 hx).1
 have hfj : ∀ (j : Nat) (u : Value), (bagA x)[j]? = some u → w.cell? ⟨g, i * 17 + j, none⟩ = some u := fun j u hu => by
   have hj : j < 17 := by have := (Array.getElem?_eq_some_iff.1 hu).1; rwa [bagA_size] at this
   rw [hrow.cell (by omega), hf _ _ (encC_get elB hx hu)]
 refine ⟨by have := hfj 0 _ (bagA_zero x); simpa using this, hrow.frozen _, load_cells Tryz.isAgg51 Tryz.sizeOf51 w g _ (words x.2) (words_size _) fun j u hu => by
   rw [Nat.add_assoc, Nat.add_comm 1 j]
   exact hfj (j + 1) u (by rw [bagA_succ]; exact hu), fun S => ?_⟩
 have hst := run_storeCells_cells (P := Tryz.prog) g (i * 17 + 1) (words S).toList 0 w (fun j hj => by
   rw [Array.length_toList, words_size] at hj
   rw [hrow.cell (by omega)]; rfl) (fun j hj => hrow.frozen _) (fun v hv => words_one (by simpa using hv))
 simp only [Nat.add_zero] at hst
 unfold rowStore
 simp [storeVar, Sem.run_bind, Tryz.sizeOf51, Value.cells, words_size, hst]
theorem below_setCell' {B g : Nat} {w w' : World} (hg : B ≤ g) (v : Value) (i : Nat) (h : Below B w w') : Below B w (w'.setCell ⟨g, i, none⟩ v) := h.setCell hg v
theorem reduce_any (T : List Bg) (r0 : Nat → Nat) (hR : RankP T r0) (hS : ∀ x ∈ T, IsSet x.2) (v : Value) (w : World) (hv : Rd bagA 17 w.heap.size w v T) (hne : T ≠ []) (hlen : T.length ≤ 65536)
   (hck : ∀ W, Below w.heap.size w W → Calls Tryz.prog 21 #[v] W fun e w' => e = .returned (.int .i64 0) ∧ Below W.heap.size W w') :
   Calls Tryz.prog 16 #[v] w fun e w' => ∃ v', e = .returned (.tuple #[v', .int .i64 0]) ∧ OwnT w.heap.size w' v' (redTo T.length T) ∧ Below w.heap.size w w' := by
 have HR := Lib.hid hR
 have HS := Lib.hid hS
 have HV := Lib.hid hv
 have HK := Lib.hid hck
 have HNE := Lib.hid hne
 obtain ⟨a, c, rfl, -⟩ := hv
 clear hR hS hck hne
 go_enter Tryz.func16, Tryz.ntmps16
 go_wp2_with fail
 refine (HK.out w (Below.refl _ _)).mono ?_
 rintro e w1 ⟨rfl, hb1⟩
 have hs1 := hb1.size
 have HB1 := Lib.hid hb1
 clear hb1
 go_wp2_with fail
 refine (tClone_own T _ w1 ((HV.out.below HB1.out (Nat.le_refl _)).mono hs1) (fun h => absurd h HNE.out) hlen).mono ?_
 rintro e w2 ⟨v2, rfl, hO2, hb2⟩
 have hs2 := hb2.size
 have hO2' := hO2.lower hs1
 have HO2 := Lib.hid hO2'
 have HB2 := Lib.hid (HB1.out.trans (hb2.mono hs1))
 obtain ⟨q2, c2, rfl⟩ := hO2.sl
 clear hO2 hb2 hO2'
 go_wp2_with fail
 refine (drawn_any T HS.out HR.out.parents _ w2 (HO2.out.rd elB) hlen).mono ?_
 rintro e w3 ⟨rfl, hb3⟩
 have hO3 := HO2.out.below hb3 (Nat.le_refl _)
 have HO3 := Lib.hid hO3
 have HB3 := Lib.hid (HB2.out.trans (hb3.mono HB2.out.size))
 clear hb3 hO3
 go_wp2_with fail
 go_loopw [5, 6] (fun o d wr => ∃ n T' r, T'.length ≤ n ∧ redTo n T' = redTo T.length T ∧ RankP T' r ∧ (∀ x ∈ T', IsSet x.2) ∧ d = .int .i64 (idx (drawnP T') T') ∧ OwnT w.heap.size wr o T' ∧ T'.length ≤ T.length ∧ Below w.heap.size w wr) (fun o _ _ => slLen o)
 case atStart => exact ⟨T.length, T, r0, Nat.le_refl _, rfl, HR.out, HS.out, rfl, HO3.out, Nat.le_refl _, HB3.out⟩
 case round =>
   obtain ⟨n, T', r, hn, hred, hR', hS', rfl, hO, hl', hB⟩ := hrel
   have hsw := hB.size
   have HRED := Lib.hid hred
   have HR' := Lib.hid hR'
   have HS' := Lib.hid hS'
   have HO := Lib.hid hO
   have HB := Lib.hid hB
   by_cases hd : idx (drawnP T') T' < 0
   · have hdd : decide ((0 : Int) ≤ idx (drawnP T') T') = false := by simp; omega
     have HD := Lib.hid hd
     obtain ⟨qo, co, rfl⟩ := hO.sl
     clear hred hR' hS' hO hB hd
     go_wp2_with fail
     go_ret2
     refine ⟨_, rfl, ?_, HB.out⟩
     rw [← HRED.out]
     cases n with
     | zero => exact HO.out
     | succ n =>
       unfold redTo
       rw [if_pos HD.out]
       exact HO.out
   · obtain ⟨k, x, hk, hx, hpx⟩ := idx_get hd
     have hkl := (List.getElem?_eq_some_iff.1 hx).1
     obtain ⟨p, y, hp, hy, hpl⟩ : ∃ (p : Nat) (y : Bg), x.1 = p ∧ T'[p]? = some y ∧ p < T'.length := by
       rcases hR' k x hx with h | ⟨p, h1, h2, _⟩
       · unfold drawnP at hpx
         rw [if_pos h] at hpx
         cases hpx
       · exact ⟨p, _, h1, List.getElem?_eq_getElem h2, h2⟩
     obtain ⟨px, X⟩ := x
     simp only at hp
     subst hp
     obtain ⟨py, Y⟩ := y
     have hstep := redStep_of hx rfl hy
     have hlen2 := redStep_length hx rfl hy
     have hset2 := redStep_set hx rfl hy hS'
     have hrank2 := redStep_rank hx rfl hy hR'
     obtain ⟨qo, co, rfl⟩ := hO.sl
     obtain ⟨g, rfl, hgB⟩ : ∃ g, qo = some ⟨g, 0, none⟩ ∧ w.heap.size ≤ g := by
       rcases hO.2 with ⟨_, h⟩ | ⟨g, cap, cur, h, h2, _⟩
       · omega
       · simp only [Value.slice.injEq] at h
         exact ⟨g, h.1, h2⟩
     have hgl := hO.lt g rfl
     have hred2 : redTo (n - 1) (redStep T' k) = redTo T.length T := by
       rw [← hred]
       obtain ⟨m, rfl⟩ : ∃ m, n = m + 1 := ⟨n - 1, by omega⟩
       show _ = if idx (drawnP T') T' < 0 then T' else redTo m (redStep T' (idx (drawnP T') T').toNat)
       rw [if_neg hd, hk, Int.toNat_natCast]
       rfl
     rw [hk]
     obtain ⟨k0, -, -, -⟩ := own_cell hO hx
     have HSTEP := Lib.hid hstep
     have HSET2 := Lib.hid hset2
     have HRANK2 := Lib.hid hrank2
     have HRED2 := Lib.hid hred2
     have HX := Lib.hid hx
     have HY := Lib.hid hy
     have hge : decide ((0 : Int) ≤ (k : Int)) = true := by simp
     clear hk hx hy hstep hset2 hrank2 hred2 hred hR' hS' hO hB hd hpx
     go_wp2_with fail
     have HCX := Lib.hid fun W (hb : Below wr.heap.size wr W) => (own_cell (HO.out.below hb (Nat.le_refl _)) HX.out).2.2.1
     have HCY := Lib.hid fun W (hb : Below wr.heap.size wr W) => (own_cell (HO.out.below hb (Nat.le_refl _)) HY.out).2.2.1
     refine wp_region_free_tail (fun w' => Below wr.heap.size wr w') 15 (by kernel_rfl) (by kernel_rfl) (Below.refl _ _).drew ?_
     simp only [List.take_succ_cons, List.take_zero, List.drop_succ_cons, List.drop_zero]
     repeat (apply wpFree_still; (intro w hw; have k1 := HCX.out w hw; have k2 := HCY.out w hw; clear hw; go_simp; (try go_ints); (first | with_reducible rfl | (go_simp; with_reducible rfl))); with_reducible rfl; (intro K hK; go_simp; (try go_ints); refine hK _ ?_; clear hK K))
     apply wpFree_call
     · intro w hw; go_simp; first | with_reducible rfl | with_reducible exact ⟨rfl, rfl⟩
     · with_reducible rfl
     · intro w hw; refine (union_any Y X w).mono ?_; rintro e w' ⟨h1, h2⟩; exact ⟨h1, hw.trans (h2.mono hw.size)⟩
     intro K hK; go_simp; (try go_ints); refine hK _ ?_; clear hK K
     repeat (apply wpFree_still; (intro w hw; clear hw; go_simp; (try go_ints); (first | with_reducible rfl | (go_simp; with_reducible rfl))); with_reducible rfl; (intro K hK; go_simp; (try go_ints); refine hK _ ?_; clear hK K))
     with_reducible refine wpFree_nil ?_
     intro w4 hb4
     have hO4 := HO.out.below hb4 (Nat.le_refl _)
     obtain ⟨-, -, -, hst⟩ := own_cell hO4 HY.out
     have hst := hst (Y ||| X)
     have hO5 := own_set hO4 HY.out (Y ||| X)
     obtain ⟨T1, hT1⟩ : ∃ T1, T1 = T'.set p (py, Y ||| X) := ⟨_, rfl⟩
     have hO5 : OwnT w.heap.size (w4.setCells g (p * 17 + 1) (words (Y ||| X)).toList) (.slice (some ⟨g, 0, none⟩) T'.length co) T1 := by rw [hT1]; exact hO5
     have hl1 : T1.length = T'.length := by rw [hT1]; simp
     have hB5 : Below w.heap.size w (w4.setCells g (p * 17 + 1) (words (Y ||| X)).toList) := below_setCells hgB _ _ _ (HB.out.trans (hb4.mono hsw))
     have HO5 := Lib.hid hO5
     have HB5 := Lib.hid hB5
     have HT1 := Lib.hid hT1
     clear hO4 hO5 hB5 hT1 hb4 k0
     go_wp2_with fail
     have hO5 := HO5.out
     have hB5 := HB5.out
     clear hst HO5 HB5
     generalize World.setCells w4 g (p * 17 + 1) (words (Y ||| X)).toList = W5 at hO5 hB5 ⊢
     have HO5 := Lib.hid hO5
     have HB5 := Lib.hid hB5
     clear hO5 hB5
     go_loopw [44] (fun i wr' => ∃ j : Nat, j ≤ T'.length ∧ i = .int .i64 (j : Int) ∧ OwnT w.heap.size wr' (.slice (some ⟨g, 0, none⟩) T'.length co) (mapTo (redPar k p) T1 j) ∧ Below w.heap.size w wr') (fun i _ => T'.length - (intOf i).toNat)
     case atStart => exact ⟨0, by omega, rfl, by rw [mapTo_zero]; exact HO5.out, HB5.out⟩
     case round =>
       obtain ⟨j, hj, rfl, hOj, hBj⟩ := hrel
       by_cases hlt : j < T'.length
       · obtain ⟨z, hz⟩ : ∃ z, T1[j]? = some z := ⟨_, List.getElem?_eq_getElem (by omega)⟩
         obtain ⟨q, Z⟩ := z
         obtain ⟨k0, f0, -, -⟩ := own_cell hOj (mapTo_get (f := redPar k p) hz)
         have hqb : -1 ≤ q ∧ q < 65536 := by
           have hz' := List.mem_of_getElem? hz
           rw [HT1.out] at hz'
           rcases List.mem_or_eq_of_mem_set hz' with h | h
           · have := HR'.out.parents.bound h
             simp only at this
             omega
           · have := HR'.out.parents.bound (List.mem_of_getElem? HY.out)
             rw [Prod.mk.injEq] at h
             simp only at this
             omega
         have hq0 := hqb.1
         have hq1 := hqb.2
         clear hqb
         have hset := mapTo_set (f := redPar k p) hz
         have hgz := mapTo_get (f := redPar k p) hz
         have HSETJ := Lib.hid hset
         have HGZ := Lib.hid hgz
         have HOJ := Lib.hid hOj
         have HBJ := Lib.hid hBj
         have hsj := hBj.size
         have hjs : j < (mapTo (redPar k p) T1 j).length := by rw [mapTo_length]; omega
         clear hset hgz hOj hBj hz
         by_cases hqk : q = (k : Int)
         · subst hqk
           by_cases hkp : k < p
           · have hr : redPar k p ((k : Int), Z) = ((p : Int) - 1, Z) := by unfold redPar; simp; omega
             rw [hr] at HSETJ
             clear hr
             go_wp2_with fail
             go_roundw
             case rel =>
               refine ⟨j + 1, by omega, by go_num, ?_, below_setCell' hgB _ _ (below_setCell' hgB _ _ HBJ.out)⟩
               have h1 := own_par (own_par HOJ.out HGZ.out (p : Int)) (List.getElem?_set_self hjs) ((p : Int) - 1)
               rw [List.set_set, HSETJ.out] at h1
               exact h1
             case measure => simp [intOf]; omega
           · have hr : redPar k p ((k : Int), Z) = ((p : Int), Z) := by unfold redPar; simp; omega
             rw [hr] at HSETJ
             clear hr
             go_wp2_with fail
             go_roundw
             case rel =>
               refine ⟨j + 1, by omega, by go_num, ?_, below_setCell' hgB _ _ HBJ.out⟩
               have h1 := own_par HOJ.out HGZ.out (p : Int)
               rw [HSETJ.out] at h1
               exact h1
             case measure => simp [intOf]; omega
         · have hqk' : (q == (k : Int)) = false := by simpa using hqk
           by_cases hkp : (k : Int) < q
           · have hr : redPar k p (q, Z) = (q - 1, Z) := by unfold redPar; simp [hqk]; omega
             rw [hr] at HSETJ
             clear hr
             go_wp2_with fail
             go_roundw
             case rel =>
               refine ⟨j + 1, by omega, by go_num, ?_, below_setCell' hgB _ _ HBJ.out⟩
               have h1 := own_par HOJ.out HGZ.out (q - 1)
               rw [HSETJ.out] at h1
               exact h1
             case measure => simp [intOf]; omega
           · have hr : redPar k p (q, Z) = (q, Z) := by unfold redPar; simp [hqk]; omega
             rw [hr] at HSETJ
             clear hr
             go_wp2_with fail
             go_roundw
             case rel =>
               refine ⟨j + 1, by omega, by go_num, ?_, HBJ.out⟩
               rw [← HSETJ.out, set_same HGZ.out]
               exact HOJ.out
             case measure => simp [intOf]; omega
       · have hjn : j = T'.length := by omega
         subst hjn
         rw [mapTo_all _ _ hl1.symm] at hOj
         have hlm : (T1.map (redPar k p)).length = T'.length := by rw [List.length_map, hl1]
         have hrs : (T1.map (redPar k p)).eraseIdx k = redStep T' k := by rw [HSTEP.out, HT1.out]
         have HOJ := Lib.hid hOj
         have HBJ := Lib.hid hBj
         have hsj := hBj.size
         have HRS := Lib.hid hrs
         have HLM := Lib.hid hlm
         clear hOj hBj hrs hlm
         go_wp2_with fail
         refine (deleteT_any (T1.map (redPar k p)) w.heap.size k (by rw [HLM.out]; exact hkl) (by rw [HLM.out]; omega) _ _ HOJ.out).mono ?_
         rintro e w6 ⟨v6, rfl, hO6, hblk, hS6⟩
         rw [HRS.out] at hO6
         have hB6 : Below w.heap.size w w6 := HBJ.out.trans (hS6.below (by omega) fun j hj e => by simp [Value.ownBlock] at e; omega)
         obtain ⟨q6, c6, rfl⟩ := hO6.sl
         have HO6 := Lib.hid hO6
         have HB6 := Lib.hid hB6
         clear hO6 hB6 hS6 hblk
         go_wp2_with fail
         refine (drawn_any (redStep T' k) HSET2.out HRANK2.out.parents _ w6 (HO6.out.rd elB) (by omega)).mono ?_
         rintro e w7 ⟨rfl, hb7⟩
         have HO7 := Lib.hid (HO6.out.below hb7 (Nat.le_refl _))
         have HB7 := Lib.hid (HB6.out.trans (hb7.mono HB6.out.size))
         clear hb7
         go_wp2_with fail
         go_roundw
         case rel => exact ⟨n - 1, redStep T' k, _, by omega, HRED2.out, HRANK2.out, HSET2.out, rfl, HO7.out, by omega, HB7.out⟩
         case measure => simp [slLen]; omega
end Go.Proofs.YteiibpfabgfolaaGreatDoor
namespace Go.Proofs.YteiibpfabgfolaaGreatDoor
open Go Go.RowKit Go.Pal Go.Shelf
attribute [local go_sem] Oper.semAt_some
theorem part_bag0 (b : Bg) (w : World) : (part 3 (bagA b) 0).run Tryz.prog w = .ok (.int .i64 b.1) w := by
 have h := bagA_zero b
 simp [part, Sem.run_bind, Tryz.isAgg3, h]
theorem part_bag1 (b : Bg) (w : World) : (part 51 (bagA b) 1).run Tryz.prog w = .ok (.agg (words b.2)) w := by
 have h : (bagA b).extract 1 (1 + 16) = words b.2 := bagA_extract b
 simp [part, Sem.run_bind, Tryz.isAgg51, Tryz.sizeOf51, h]
theorem eqBag (x y : Bg) (w : World) : (Op.equalIn 10000 53 (.agg (bagA x)) (.agg (bagA y))).run Tryz.prog w = .ok (decide (x.1 = y.1) && eqW x.2 y.2) w := by
 have hst : Tryz.prog.stoodInHeld 53 = false := by kernel_rfl
 have h1 : ∀ (p q : Int) w, (Op.equalIn 9999 3 (.int .i64 p) (.int .i64 q)).run Tryz.prog w = .ok (p == q) w := fun p q w => run_equalIn_int (P := Tryz.prog) w 9998 3 .i64 .i64 p q Tryz.underlying3
 have h2 : ∀ (S R : Nat) w, (Op.equalIn 9999 51 (.agg (words S)) (.agg (words R))).run Tryz.prog w = .ok (eqW S R) w := fun S R w => run_equalIn_ints 9997 51 49 .u64 .u64 16 (words S) (words R) (fun i => (wd S i : Int)) (fun i => (wd R i : Int)) w Tryz.underlying51 Tryz.underlying49 Tryz.sizeOf49 Tryz.isAgg49 (fun _ hi => words_get S hi) (fun _ hi => words_get R hi)
 have hpr : ∀ w, (program).run Tryz.prog w = .ok Tryz.prog w := fun _ => rfl
 rw [show (10000 : Nat) = 9999 + 1 from rfl, Op.equalIn]
 simp only [Sem.run_bind, run_underlying Tryz.underlying53, Result.andThen_ok, hpr, hst, Bool.false_eq_true, if_false, List.forIn_toArray, List.forIn_cons, List.forIn_nil]
 obtain ⟨p, S⟩ := x
 obtain ⟨q, R⟩ := y
 cases e1 : (p == q) with
 | true =>
   have e3 : p = q := by simpa using e1
   cases e2 : eqW S R <;> simp [Sem.run_bind, part_bag0, part_bag1, h1, h2, e2, e3]
 | false =>
   have e3 : ¬ p = q := by simpa using e1
   simp [Sem.run_bind, part_bag0, h1, e1, e3]
theorem guardBag : Tryz.prog.eqGuardType Tryz.prog.depth 53 = false := by kernel_rfl
theorem eqW_self (S : Nat) : eqW S S = true := by unfold eqW; simp
theorem eqBagD {x y : Bg} (hx : IsSet x.2) (hy : IsSet y.2) (w : World) : (Op.equalIn 10000 53 (.agg (bagA x)) (.agg (bagA y))).run Tryz.prog w = .ok (decide (x = y)) w := by
 rw [eqBag, eqW_iff hx hy]
 congr 1
 obtain ⟨p, S⟩ := x
 obtain ⟨q, R⟩ := y
 rw [Bool.eq_iff_iff]
 simp
theorem equalT_any (T T' : List Bg) (hS : ∀ x ∈ T, IsSet x.2) (hS' : ∀ x ∈ T', IsSet x.2) (va vb : Value) (w : World) (ha : Rd bagA 17 w.heap.size w va T) (hb : Rd bagA 17 w.heap.size w vb T') (hlen : T.length ≤ 65536) (hlen' : T'.length ≤ 65536) :
   Calls Tryz.prog 33 #[va, vb] w fun e w' => e = .returned (.bool (decide (T = T'))) ∧ Below w.heap.size w w' := by
 have HA := Lib.hid ha
 have HB := Lib.hid hb
 obtain ⟨a, c, rfl⟩ := ha.sl
 obtain ⟨a2, c2, rfl⟩ := hb.sl
 have hgs := guardBag
 have HS := Lib.hid hS
 have HS' := Lib.hid hS'
 clear ha hb hS hS'
 by_cases hll : T.length = T'.length
 · have HL := Lib.hid hll
   have hlz : ((T.length : Int) == (T'.length : Int)) = true := by simp; omega
   have hlz2 : ((T.length : Int) != (T'.length : Int)) = false := by simp; omega
   clear hll
   go_enter Tryz.func33, Tryz.ntmps33
   go_wp2_with fail
   go_loopw [13] (fun i wr => ∃ k : Nat, k ≤ T.length ∧ i = .int .i64 (k : Int) ∧ Hid (T.take k = T'.take k) ∧ Below w.heap.size w wr) (fun i _ => T.length - (intOf i).toNat)
   case atStart => exact ⟨0, by omega, rfl, Lib.hid rfl, Below.refl _ _⟩
   case round =>
     obtain ⟨k, hk, rfl, htk, hb⟩ := hrel
     have HBr := Lib.hid hb
     clear hb
     by_cases hlt : k < T.length
     · have hlt' : k < T'.length := by have := HL.out; omega
       obtain ⟨b, off, c', x, h1, hbB, hx, hc⟩ := HA.out.at hlt
       obtain ⟨b', off', c'', y, h1', hbB', hy, hc'⟩ := HB.out.at hlt'
       simp only [Value.slice.injEq] at h1 h1'
       obtain ⟨rfl, -, rfl⟩ := h1
       obtain ⟨rfl, -, rfl⟩ := h1'
       have l1 : rowLoad Tryz.prog 53 ⟨b, off + k * 17, none⟩ wr.drew = .ok (.agg (bagA x)) wr.drew := load_cells Tryz.isAgg53 Tryz.sizeOf53 wr.drew b _ (bagA x) (bagA_size x) fun j u hu => hc _ HBr.out.drew j u hu
       have l2 : rowLoad Tryz.prog 53 ⟨b', off' + k * 17, none⟩ wr.drew = .ok (.agg (bagA y)) wr.drew := load_cells Tryz.isAgg53 Tryz.sizeOf53 wr.drew b' _ (bagA y) (bagA_size y) fun j u hu => hc' _ HBr.out.drew j u hu
       have heq := fun w => eqBagD (HS.out x (List.mem_of_getElem? hx)) (HS'.out y (List.mem_of_getElem? hy)) w
       have HX := Lib.hid hx
       have HY := Lib.hid hy
       clear hc hc' hx hy
       by_cases hxy : x = y
       · have heq := fun w => (heq w).trans (by rw [decide_eq_true hxy])
         have HXY := Lib.hid hxy
         rename_i heq0
         clear hxy heq0
         go_wp2_with fail
         refine wp_region_free (fun w' => w' = wr.drew) (by kernel_rfl) (by kernel_rfl) rfl ?_
         repeat (apply wpFree_still; (intro w hw; subst hw; go_simp; (try go_ints); (first | with_reducible rfl | (go_simp; with_reducible rfl))); with_reducible rfl; (intro K hK; go_simp; (try go_ints); refine hK _ ?_; clear hK K))
         with_reducible refine wpFree_nil ?_
         rintro w' rfl
         go_wp2_with fail
         go_roundw
         case rel => exact ⟨k + 1, by omega, by go_num, Lib.hid (by rw [List.take_add_one, List.take_add_one, HX.out, HY.out, HXY.out, htk.out]), HBr.out.drew⟩
         case measure => simp [intOf]; omega
       · have heq := fun w => (heq w).trans (by rw [decide_eq_false hxy])
         have HXY := Lib.hid hxy
         rename_i heq0
         clear hxy heq0
         go_wp2_with fail
         refine wp_region_free (fun w' => w' = wr.drew) (by kernel_rfl) (by kernel_rfl) rfl ?_
         repeat (apply wpFree_still; (intro w hw; subst hw; go_simp; (try go_ints); (first | with_reducible rfl | (go_simp; with_reducible rfl))); with_reducible rfl; (intro K hK; go_simp; (try go_ints); refine hK _ ?_; clear hK K))
         with_reducible refine wpFree_nil ?_
         rintro w' rfl
         go_wp2_with fail
         go_ret
         refine ⟨?_, HBr.out.drew⟩
         have hne : ¬ T = T' := fun e => by
           have h1 := HX.out
           rw [e, HY.out] at h1
           exact HXY.out (Option.some.inj h1).symm
         rw [decide_eq_false hne]
         rfl
     · have hkn : k = T.length := by omega
       subst hkn
       go_wp2_with fail
       go_ret
       refine ⟨?_, HBr.out⟩
       have h1 := htk.out
       rw [List.take_length, HL.out, List.take_length] at h1
       rw [decide_eq_true h1]
       rfl
 · have HL := Lib.hid hll
   have hlz : ((T.length : Int) == (T'.length : Int)) = false := by simp; omega
   have hlz2 : ((T.length : Int) != (T'.length : Int)) = true := by simp; omega
   clear hll
   go_enter Tryz.func33, Tryz.ntmps33
   go_wp2_with fail
   go_ret
   exact ⟨by rw [decide_eq_false fun e => HL.out (by rw [e])]; rfl, Below.refl _ _⟩
theorem tdEqual_any (T T' : List Bg) (hS : ∀ x ∈ T, IsSet x.2) (hS' : ∀ x ∈ T', IsSet x.2) (va vb : Value) (w : World) (ha : Rd bagA 17 w.heap.size w va T) (hb : Rd bagA 17 w.heap.size w vb T') (hlen : T.length ≤ 65536) (hlen' : T'.length ≤ 65536) :
   Calls Tryz.prog 10 #[va, vb] w fun e w' => e = .returned (.bool (decide (T = T'))) ∧ Below w.heap.size w w' := by
 have H := Lib.hid (equalT_any T T' hS hS' va vb w ha hb hlen hlen')
 obtain ⟨a, c, rfl⟩ := ha.sl
 obtain ⟨a2, c2, rfl⟩ := hb.sl
 clear ha hb
 go_enter Tryz.func10, Tryz.ntmps10
 go_wp2_with fail
 refine H.out.mono ?_
 rintro e w1 ⟨rfl, hb1⟩
 have HB1 := Lib.hid hb1
 clear hb1
 go_wp2_with fail
 go_ret
 exact ⟨by simp, HB1.out⟩
end Go.Proofs.YteiibpfabgfolaaGreatDoor
