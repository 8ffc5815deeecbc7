/- Walks of package treedecomp: below (the children of each bag). Walks of package .. -/
import Derived.Test.YteiibpfabgfolaaGreatDoorVR1g
import Derived.Test.YteiibpfabgfolaaGreatDoorVRule
import Derived.Test.YteiibpfabgfolaaGreatDoorVPlain
set_option maxHeartbeats 1000000
set_option maxRecDepth 10000
set_option linter.all false
namespace Go.Proofs.YteiibpfabgfolaaGreatDoor
open Go Go.RowKit Go.Pal
structure Grid (B : Nat) (w : World) (vs : List Value) (f : Nat → List Int) : Prop where
 row : row? w B = some vs.toArray
 own : ∀ (b : Nat) v, vs[b]? = some v → OwnI (B + 1) w v (f b)
 apart : ∀ (b b' : Nat) v v' g, b ≠ b' → vs[b]? = some v → vs[b']? = some v' → v.ownBlock = some g → v'.ownBlock ≠ some g
theorem infoInts : (Tryz.prog.info? 46).map (fun i => (i.zero, i.size, i.bytes)) = some (some (.slice none 0 0), 1, 24) := by kernel_rfl
theorem OwnI.grown {B : Nat} {w w' : World} {v u : Value} {ns : List Int} (h : OwnI B w v ns) (hg : ∀ i, i < w.heap.size → some i ≠ u.ownBlock → w'.heap[i]? = w.heap[i]?) (hne : ∀ g, v.ownBlock = some g → u.ownBlock ≠ some g) : OwnI B w' v ns := by
 obtain ⟨h1, h2⟩ := h
 refine ⟨h1, h2.imp id ?_⟩
 rintro ⟨g, cap, cur, rfl, hb, hh, r⟩
 exact ⟨g, cap, cur, rfl, hb, by rw [hg g (Array.getElem?_eq_some_iff.1 hh).1 (fun e => hne g rfl e.symm)]; exact hh, r⟩
theorem OwnI.same {B : Nat} {w w' : World} {v : Value} {ns : List Int} (h : OwnI B w v ns) (hb : ∀ g, v.ownBlock = some g → w'.heap[g]? = w.heap[g]?) : OwnI B w' v ns := by
 obtain ⟨h1, h2⟩ := h
 refine ⟨h1, h2.imp id ?_⟩
 rintro ⟨g, cap, cur, rfl, hb', hh, r⟩
 exact ⟨g, cap, cur, rfl, hb', (hb g rfl).trans hh, r⟩
theorem OwnI.lt {B : Nat} {w : World} {v : Value} {ns : List Int} (h : OwnI B w v ns) : ∀ k, v.ownBlock = some k → k < w.heap.size := by
 intro k hk
 rcases h.2 with ⟨rfl, _⟩ | ⟨g, cap, cur, rfl, _, hh, _⟩
 · cases hk
 · simp only [Value.ownBlock, Option.some.injEq] at hk
   subst hk
   exact (Array.getElem?_eq_some_iff.1 hh).1
theorem OwnI.slice {B : Nat} {w : World} {v : Value} {ns : List Int} (h : OwnI B w v ns) : ∃ q n c, v = .slice q n c := by
 rcases h.2 with ⟨rfl, _⟩ | ⟨g, cap, cur, rfl, _⟩ <;> exact ⟨_, _, _, rfl⟩
theorem OwnI.len {B : Nat} {w : World} {q : Option Addr} {n c : Nat} {ns : List Int} (h : OwnI B w (.slice q n c) ns) : n = ns.length := by
 rcases h.2 with ⟨h1, h2⟩ | ⟨g, cap, cur, h1, _⟩
 · cases h1; exact h2.symm
 · cases h1; rfl
theorem OwnI.cell {B : Nat} {w : World} {q : Option Addr} {n c : Nat} {ns : List Int} {j : Nat} {z : Int} (h : OwnI B w (.slice q n c) ns) (hz : ns[j]? = some z) :
   ∃ g, q = some ⟨g, 0, none⟩ ∧ B ≤ g ∧ g < w.heap.size ∧ w.cell? ⟨g, j, none⟩ = some (.int .i64 z) := by
 have hj : j < ns.length := (List.getElem?_eq_some_iff.1 hz).1
 rcases h.2 with ⟨h1, h2⟩ | ⟨g, cap, cur, h1, hb, hh, _, _, _, ht⟩
 · omega
 · cases h1
   refine ⟨g, rfl, hb, (Array.getElem?_eq_some_iff.1 hh).1, ?_⟩
   rw [cell_of_row w g j cur _ (0, 0) hh]
   have : (cur.toList.take (ns.length * 1))[j]? = some (.int .i64 z) := by rw [ht, List.getElem?_map, hz]; rfl
   rw [List.getElem?_take, if_pos (by omega)] at this
   simpa using this
theorem Grid.same {B : Nat} {w w' : World} {vs : List Value} {f : Nat → List Int} (h : Grid B w vs f) (hb : ∀ k, B ≤ k → k < w.heap.size → w'.heap[k]? = w.heap[k]?) : Grid B w' vs f :=
 ⟨(row?_congr (hb B (Nat.le_refl _) (row?_lt h.row))).trans h.row, fun b v hv => (h.own b v hv).same fun g hg => hb g (by have := (h.own b v hv).block g hg; omega) ((h.own b v hv).lt g hg), h.apart⟩
theorem below_any (T : List Bg) (v : Value) (w : World) (hv : Rd bagA 17 w.heap.size w v T) (hlen : T.length ≤ 65536) (hpar : ∀ (i : Nat) x, T[i]? = some x → x.1 = -1 ∨ ∃ p : Nat, x.1 = p ∧ p < T.length) :
   Calls Tryz.prog 106 #[v] w fun e w' => ∃ vs, e = .returned (.slice (some ⟨w.heap.size, 0, none⟩) T.length T.length) ∧ vs.length = T.length ∧ Grid w.heap.size w' vs (kidsTo T T.length) ∧ Below w.heap.size w w' := by
 have HP := Lib.hid hpar; clear hpar
 obtain ⟨a, c, rfl, hr⟩ := hv
 have HR := Lib.hid hr; clear hr
 have hmk := run_make1 Tryz.underlying152 infoInts rfl T.length (by omega) (by omega)
 go_enter Tryz.func106, Tryz.ntmps106
 go_wp2
 clear hmk
 go_loopw [11] (fun i wr => ∃ (k : Nat) (vs : List Value), k ≤ T.length ∧ i = .int .i64 k ∧ vs.length = T.length ∧ Grid w.heap.size wr vs (kidsTo T k) ∧ Below w.heap.size w wr) (fun i _ => T.length - (intOf i).toNat)
 case atStart =>
   refine ⟨0, List.replicate T.length (.slice none 0 0), by omega, rfl, by simp, ⟨by simp [go_sem], ?_, ?_⟩, ?_⟩
   · intro b v hv
     rw [List.getElem?_replicate] at hv
     split at hv
     · simp at hv; subst hv; exact OwnI.nil _ _
     · cases hv
   · intro b b' v v' g _ hv hv' hg
     rw [List.getElem?_replicate] at hv
     split at hv
     · simp at hv; subst hv; cases hg
     · cases hv
   (repeat' (first | (with_reducible first | exact Below.refl _ _ | assumption | refine Below.alloc ?_ ?_ _ | refine Below.drew ?_ | refine Below.setCell ?_ ?_ _ | refine below_setRow ?_ ?_ _ | exact Nat.le_refl _) | omega | (simp; done) | (simp; omega) | (simp at *; omega)))
 case round =>
   obtain ⟨k, vs, hk, rfl, hvs, hG, hb⟩ := hrel
   have HG := Lib.hid hG; clear hG
   have HB := Lib.hid hb; clear hb
   by_cases hlt : k < T.length
   · obtain ⟨x, hx⟩ : ∃ x, T[k]? = some x := ⟨_, List.getElem?_eq_getElem hlt⟩
     have HX := Lib.hid hx
     rcases HR.out with h | ⟨b, off, rfl, hbB, hc⟩
     · rw [h] at hlt; simp at hlt
     obtain ⟨hl, -, -⟩ := tree_load hc HB.out hbB hx
     have HC := Lib.hid hc
     have hs := kidsTo_succ hx
     have HS := Lib.hid hs; clear hs
     have hsz := HB.out.size
     have HV := Lib.hid hvs
     clear hx hc hvs
     rcases HP.out k x HX.out with hp | ⟨p, hp, hpl⟩
     · have hp1 : (x.1 != -1) = false := by simp [hp]
       have HP1 := Lib.hid hp; clear hp
       go_wp2
       go_roundw
       case rel =>
         refine ⟨k + 1, vs, by omega, by go_num, HV.out, ⟨?_, ?_, HG.out.apart⟩, HB.out.alloc hsz _⟩
         · rw [row?_alloc_past _ _ _ (row?_lt HG.out.row)]; exact HG.out.row
         · intro b v hv
           rw [HS.out b, if_neg (by rw [HP1.out]; omega), List.append_nil]
           exact (HG.out.own b v hv).alloc _
       case measure => simp [intOf]; omega
     · have hp1 : (x.1 != -1) = true := by rw [hp]; simp
       obtain ⟨q, S⟩ := x
       simp only at hp hp1
       subst hp
       go_wp2_with fail
       have hrow := HG.out.row
       have hBl := row?_lt hrow
       obtain ⟨u, hu⟩ : ∃ u, vs[p]? = some u := ⟨_, List.getElem?_eq_getElem (by rw [HV.out]; exact hpl)⟩
       have HU := Lib.hid hu
       have HRow := Lib.hid hrow
       clear hu hrow
       obtain ⟨W, hW⟩ : ∃ W, W = wr.alloc (Obj.cells (bagA ((p : Int), S)) 53) := ⟨_, rfl⟩
       have hWs : W.heap.size = wr.heap.size + 1 := by rw [hW]; simp
       have hWb : row? W wr.heap.size = some (bagA ((p : Int), S)) := by rw [hW]; exact row?_alloc_at _ _ _ _ rfl
       have hWr : row? W w.heap.size = some vs.toArray := by rw [hW, row?_alloc_past _ _ _ hBl]; exact HRow.out
       rw [← hW]
       refine wp_region_mix (fun w' => row? w' w.heap.size = some vs.toArray ∧ row? w' wr.heap.size = some (bagA ((p : Int), S))) 11 [(0, true), (1, true), (2, true), (3, true), (4, true), (5, true), (6, true), (7, true), (8, true), (9, false), (10, false)] (by kernel_rfl) (by kernel_rfl) ⟨hWr, hWb⟩ ?_
       repeat (apply wpPlan_still rfl rfl; (intro w hw; (have c1 := (cell?_row (i := p) hw.1).trans (show vs.toArray[p]? = some u by rw [List.getElem?_toArray]; exact HU.out)); (have c2 := (cell?_row (i := 0) hw.2).trans (bagA_zero _)); clear hw; go_simp; (try go_ints); (first | with_reducible rfl | (go_simp; with_reducible rfl))); (intro K hK; go_simp; (try go_ints); refine hK _ _ ?_; clear hK K))
       apply wpPlan_act rfl rfl
       intro K hK
       unfold Oper.wp
       go_simp
       refine hK _ _ ⟨by simp [go_sem, HRow.out, hBl], by simp [go_sem]⟩ ?_
       clear hK K
       apply wpPlan_act rfl rfl
       intro K hK
       refine wp_appI _ _ rfl (w.heap.size + 1) u (kidsTo T k p) rfl ((((HG.out.own p u HU.out).alloc _).alloc _).drew) (wr.heap.size + 1) k 1 rfl (by simp [go_sem]) (by have := kidsTo_le T k p; omega) (by simp; omega) ?_
       intro v1 w1 hO1 hb1 hg1 hl1
       have hu := HG.out.own p u HU.out
       have hw1 : row? w1 w.heap.size = some vs.toArray := (row?_below hb1 (by omega)).trans (by simp [go_sem, HRow.out, hBl])
       have hw2 : row? w1 wr.heap.size = some (bagA ((p : Int), S)) := (row?_congr (hg1.block wr.heap.size (by simp; omega) (fun e => by have := hu.lt _ e.symm; omega))).trans (by simp [go_sem])
       have hg2 : ∀ i, i < wr.heap.size → some i ≠ u.ownBlock → w1.heap[i]? = wr.heap[i]? := fun i hi hne => by
         rw [hg1.block i (by simp; omega) hne]
         exact (Below.heap_alloc _ _ i (by simp; omega)).trans (Below.heap_alloc _ _ i hi)
       have hcp : w1.cell? ⟨w.heap.size, p, none⟩ = some u := (cell?_row hw1).trans (show vs.toArray[p]? = some u by rw [List.getElem?_toArray]; exact HU.out)
       have hfp := frozen?_row (i := p) hw1
       have HO1 := Lib.hid hO1
       have HG1 := Lib.hid hg2
       have HL1 := Lib.hid hl1
       have hB1 : Below w.heap.size w w1 := ((((HB.out.alloc hsz _).alloc (by simp; omega) _)).drew).trans (hb1.mono (by omega))
       have HB1 := Lib.hid hB1
       refine hK _ _ ⟨hw1, hw2⟩ ?_
       clear hK K hB1 hg2 hg1 hb1 hO1 hl1
       refine wpPlan_nil ?_
       simp only [List.drop_succ_cons, List.drop_zero]
       obtain ⟨q1, n1, c1, rfl⟩ := HO1.out.slice
       go_wp2
       go_roundw
       case rel =>
         refine ⟨k + 1, vs.set p (.slice q1 n1 c1), by omega, by go_num, by rw [List.length_set]; exact HV.out, ⟨?_, ?_, ?_⟩, HB1.out.setCell (Nat.le_refl _) _⟩
         · simp [go_sem, hw1]
         · intro b' v hv
           rw [HS.out b']
           by_cases hbp : p = b'
           · subst hbp
             rw [List.getElem?_set_self (by rw [HV.out]; exact hpl)] at hv
             cases hv
             rw [if_pos rfl]
             exact HO1.out.same fun g hg => by rw [heap_setCell_other _ _ _ _ (fun e => by have := HO1.out.block g hg; simp at e; omega)]
           · rw [List.getElem?_set_ne hbp] at hv
             rw [if_neg (by omega), List.append_nil]
             exact ((HG.out.own b' v hv).grown HG1.out fun g hg => HG.out.apart b' p v u g (Ne.symm hbp) hv HU.out hg).same fun g hg => by rw [heap_setCell_other _ _ _ _ (fun e => by have := (HG.out.own b' v hv).block g hg; simp at e; omega)]
         · intro b1 b2 v v' g hne hv hv' hg hg'
           rw [List.getElem?_set] at hv hv'
           have hnew : ∀ b3 v3, b3 ≠ p → vs[b3]? = some v3 → v3.ownBlock = some g → (Value.slice q1 n1 c1).ownBlock ≠ some g := fun b3 v3 h3 hv3 hg3 e => by
             rcases HL1.out with h | h
             · exact HG.out.apart b3 p v3 u g h3 hv3 HU.out hg3 (h ▸ e)
             · rw [e] at h
               have := (HG.out.own b3 v3 hv3).lt g hg3
               simp at h
               omega
           split at hv <;> split at hv'
           · omega
           · split at hv <;> cases hv
             exact hnew b2 v' (by omega) hv' hg' hg
           · split at hv' <;> cases hv'
             exact hnew b1 v (by omega) hv hg hg'
           · exact HG.out.apart b1 b2 v v' g hne hv hv' hg hg'
       case measure => simp [intOf]; omega
   · have hk' : k = T.length := by omega
     subst hk'
     go_wp2
     go_ret
     exact ⟨vs, rfl, hvs, HG.out, HB.out⟩
structure DSt (n gD gO gF gG gK gW : Nat) (vs : List Value) (kids : Nat → List Int) (ds : List Int) (found : Nat) (w : World) : Prop where
 data : row? w gD = some (ds.map (Value.int .i64)).toArray
 out : row? w gO = some #[.slice (some ⟨gD, 0, none⟩) n n]
 cnt : row? w gF = some #[.int .i64 (found : Int)]
 box : row? w gK = some #[.slice (some ⟨gG, 0, none⟩) n n]
 grid : Grid gG w vs kids
 fn : row? w gW = some #[.func (.func 107) #[] #[.pointer (some ⟨gO, 0, none⟩), .pointer (some ⟨gF, 0, none⟩), .pointer (some ⟨gK, 0, none⟩), .pointer (some ⟨gW, 0, none⟩)]]
theorem DSt.step {n gD gO gF gG gK gW : Nat} {vs : List Value} {kids : Nat → List Int} {ds : List Int} {found b deep : Nat} {w : World} (h : DSt n gD gO gF gG gK gW vs kids ds found w) (hord : gD < gO ∧ gO < gF ∧ gF < gG ∧ gG < gK ∧ gK < gW) :
   DSt n gD gO gF gG gK gW vs kids (ds.set b deep) (found + 1) ((w.setCell ⟨gD, b, none⟩ (.int .i64 deep)).setCell ⟨gF, 0, none⟩ (.int .i64 ((found : Int) + 1))) := by
 have n1 : ¬ gD = gF := by omega
 have n2 : ¬ gO = gF := by omega
 have n3 : ¬ gO = gD := by omega
 have n4 : ¬ gK = gF := by omega
 have n5 : ¬ gK = gD := by omega
 have n6 : ¬ gW = gF := by omega
 have n7 : ¬ gW = gD := by omega
 have n8 : ¬ gF = gD := by omega
 refine ⟨?_, ?_, ?_, ?_, ?_, ?_⟩
 · simp [go_sem, n1, h.data]
 · simp [go_sem, n2, n3, h.out]
 · simp [go_sem, n8, h.cnt]
 · simp [go_sem, n4, n5, h.box]
 · exact h.grid.same fun k hk _ => (heap_setCell_other _ _ _ _ (by show k ≠ gF; omega)).trans (heap_setCell_other _ _ _ _ (by show k ≠ gD; omega))
 · simp [go_sem, n6, n7, h.fn]
theorem DSt.of_same {n gD gO gF gG gK gW : Nat} {vs : List Value} {kids : Nat → List Int} {ds : List Int} {found : Nat} {w w' : World} (h : DSt n gD gO gF gG gK gW vs kids ds found w) (hs : ∀ k, k < w.heap.size → w'.heap[k]? = w.heap[k]?) : DSt n gD gO gF gG gK gW vs kids ds found w' :=
 ⟨(row?_congr (hs _ (row?_lt h.data))).trans h.data, (row?_congr (hs _ (row?_lt h.out))).trans h.out, (row?_congr (hs _ (row?_lt h.cnt))).trans h.cnt, (row?_congr (hs _ (row?_lt h.box))).trans h.box, h.grid.same fun k _ hk => hs k hk, (row?_congr (hs _ (row?_lt h.fn))).trans h.fn⟩
theorem depths1_any (n gD gO gF gG gK gW : Nat) (vs : List Value) (kids : Nat → List Int) (hvs : vs.length = n) (_hn : n ≤ 65536) (hord : gD < gO ∧ gO < gF ∧ gF < gG ∧ gG < gK ∧ gK < gW) :
   ∀ (t : Tr), Fits n kids t → ∀ (deep found : Nat) (ds : List Int) (w : World), ds.length = n → deep + t.sz ≤ 1000000 → found + t.sz ≤ 1000000 → DSt n gD gO gF gG gK gW vs kids ds found w →
   Calls Tryz.prog 107 #[.int .i64 (t.lab : Int), .int .i64 (deep : Int), .pointer (some ⟨gO, 0, none⟩), .pointer (some ⟨gF, 0, none⟩), .pointer (some ⟨gK, 0, none⟩), .pointer (some ⟨gW, 0, none⟩)] w
     fun e w' => (∃ v, e = .returned v) ∧ DSt n gD gO gF gG gK gW vs kids (t.ds deep ds) (found + t.sz) w' ∧ Same (fun k => k ≠ gD ∧ k ≠ gF) w w' := by
 intro t
 induction t using Tr.induct with
 | h b ks ih =>
 intro hfit deep found ds w hds hd hf2 hS
 obtain ⟨hb, hk, hf⟩ : b < n ∧ kids b = ks.map (fun t => (t.lab : Int)) ∧ ∀ t ∈ ks, Fits n kids t := by
   cases hfit with
   | mk _ _ h1 h2 h3 => exact ⟨h1, h2, h3⟩
 have IH := Lib.hid ih; clear ih
 have HF := Lib.hid hf; clear hf hfit
 have HK := Lib.hid hk; clear hk
 obtain ⟨h12, h23, h34, h45, h56⟩ := hord
 obtain ⟨u, hu⟩ : ∃ u, vs[b]? = some u := ⟨_, List.getElem?_eq_getElem (by rw [hvs]; exact hb)⟩
 obtain ⟨x0, hx0⟩ : ∃ x, ds[b]? = some x := ⟨_, List.getElem?_eq_getElem (by rw [hds]; exact hb)⟩
 have hown := hS.grid.own b u hu
 have e1 := cell?_row (i := 0) hS.out
 have e2 := cell?_row (i := 0) hS.cnt
 have e3 := cell?_row (i := 0) hS.box
 have e4 : w.cell? ⟨gG, b, none⟩ = some u := (cell?_row hS.grid.row).trans (by simp [hu])
 have e5 : w.cell? ⟨gD, b, none⟩ = some (.int .i64 x0) := (cell?_row hS.data).trans (by simp [hx0])
 have f1 := frozen?_row (i := b) hS.data
 have f2 := frozen?_row (i := 0) hS.cnt
 simp at e1 e2 e3
 obtain ⟨q, m, c, rfl⟩ := hown.slice
 have hm := hown.len
 rw [HK.out, List.length_map] at hm
 subst hm
 have HS := Lib.hid hS
 have HO := Lib.hid hown
 clear hS hown
 have n1 : ¬ gO = gD := by omega
 have n2 : ¬ gF = gD := by omega
 have n3 : ¬ gK = gD := by omega
 have n4 : ¬ gG = gD := by omega
 have n5 : ¬ gK = gF := by omega
 have n6 : ¬ gG = gF := by omega
 simp only [Tr.sz] at hd hf2
 have hszl := Tr.length_le_szs ks
 show Calls Tryz.prog 107 #[.int .i64 (b : Int), _, _, _, _, _] w _
 go_enter Tryz.func107, Tryz.ntmps107
 go_wp2
 obtain ⟨W, hW⟩ : ∃ W, W = (w.setCell ⟨gD, b, none⟩ (.int .i64 deep)).setCell ⟨gF, 0, none⟩ (.int .i64 ((found : Int) + 1)) := ⟨_, rfl⟩
 have hSW : Hid (DSt n gD gO gF gG gK gW vs kids (ds.set b deep) (found + 1) W) := by rw [hW]; exact HS.out.step ⟨h12, h23, h34, h45, h56⟩
 have hsm : Hid (Same (fun k => k ≠ gD ∧ k ≠ gF) w W) := by rw [hW]; exact (Same.setCell _ _ _ _ (by simp)).trans (Same.setCell _ _ _ _ (by simp))
 rw [← hW]
 have HU := Lib.hid hu
 clear hW e1 e2 e3 e4 e5 f1 f2 hu
 go_loopw [21] (fun i wr => ∃ pre rest, ks = pre ++ rest ∧ i = .int .i64 (pre.length : Int) ∧ DSt n gD gO gF gG gK gW vs kids (Tr.dss pre ((deep : Int) + 1) (ds.set b deep)) (found + 1 + Tr.szs pre) wr ∧ Same (fun k => k ≠ gD ∧ k ≠ gF) w wr) (fun i _ => ks.length - (intOf i).toNat)
 case atStart => exact ⟨[], ks, rfl, rfl, hSW.out, hsm.out⟩
 case round =>
   obtain ⟨pre, rest, hks, rfl, hSr, hsr⟩ := hrel
   have HSr := Lib.hid hSr
   have Hsr := Lib.hid hsr
   cases rest with
   | nil =>
     have hkl : ks.length = pre.length := by rw [hks]; simp
     clear hSr hsr
     have HKS := Lib.hid hks; clear hks
     rw [hkl]
     go_wp2
     go_end0
     refine ⟨⟨_, rfl⟩, ?_, Hsr.out⟩
     have := HSr.out
     rw [HKS.out, List.append_nil]
     simpa only [Tr.ds, Tr.sz, Nat.add_assoc] using this
   | cons t rest =>
     have hlt : pre.length < ks.length := by rw [hks]; simp
     have hz : (kids b)[pre.length]? = some (t.lab : Int) := by rw [HK.out, hks]; simp
     obtain ⟨g, rfl, hg1, hg2, hc⟩ := (hSr.grid.own b _ HU.out).cell hz
     have e7 : wr.cell? ⟨gW, 0, none⟩ = _ := cell?_row (i := 0) hSr.fn
     simp at e7
     have hszp : Tr.szs ks = Tr.szs pre + (t.sz + Tr.szs rest) := by rw [hks, Tr.szs_append]; rfl
     have HKS := Lib.hid hks; clear hks hSr hsr
     go_wp2_with fail
     have hcall := IH.out t (by rw [HKS.out]; simp) (HF.out t (by rw [HKS.out]; simp)) (deep + 1) (found + 1 + Tr.szs pre) (Tr.dss pre ((deep : Int) + 1) (ds.set b deep)) wr (by rw [Tr.length_dss, List.length_set]; exact hds) (by omega) (by omega) HSr.out
     push_cast at hcall
     refine hcall.mono ?_
     rintro e w2 ⟨⟨v, rfl⟩, hS2, hs2⟩
     have HS2 : Hid (DSt n gD gO gF gG gK gW vs kids (Tr.dss (pre ++ [t]) ((deep : Int) + 1) (ds.set b deep)) (found + 1 + Tr.szs (pre ++ [t])) w2) := by
       show DSt _ _ _ _ _ _ _ _ _ _ _ _
       rw [Tr.dss_append, Tr.szs_append]
       simpa only [Tr.dss, Tr.szs, Nat.add_zero, Nat.add_assoc] using hS2
     have Hs2 := Lib.hid (Hsr.out.trans hs2)
     clear hcall hS2 hs2
     go_wp2
     go_roundw
     case rel => exact ⟨pre ++ [t], rest, by rw [HKS.out]; simp, by simp, HS2.out, Hs2.out⟩
     case measure => simp [intOf]; omega
theorem intBeq (a b : Nat) : ((a : Int) == (b : Int)) = decide (a = b) := by rw [Bool.eq_iff_iff, beq_iff_eq, decide_eq_true_iff]; omega
@[go_sem] theorem run_storeFunc (P : Program) (w : World) (a : Addr) (m : Mode) (fn : Fn) (first captured : Array Value) : (store a (.func fn first captured) m).run P w = stored P w a (.func fn first captured) m := run_store P w a _ m rfl
theorem depths_any (T : List Bg) (v : Value) (w : World) (hv : Rd bagA 17 w.heap.size w v T) (hlen : T.length ≤ 65536) (hpar : ∀ (i : Nat) x, T[i]? = some x → x.1 = -1 ∨ ∃ p : Nat, x.1 = p ∧ p < T.length)
   (t : Tr) (hr : rootsTo T T.length = [(t.lab : Int)]) (hf : Fits T.length (kidsTo T T.length) t) (hsz : t.sz ≤ 65536) :
   Calls Tryz.prog 54 #[v] w fun e w' => e = .returned (.tuple #[.slice (some ⟨w.heap.size, 0, none⟩) T.length T.length, .bool (decide (t.sz = T.length))]) ∧
     row? w' w.heap.size = some ((t.ds 0 (List.replicate T.length 0)).map (Value.int .i64)).toArray ∧ Below w.heap.size w w' := by
 have HV := Lib.hid hv
 obtain ⟨a, c, rfl, -⟩ := hv
 have HP := Lib.hid hpar; clear hpar
 have HR := Lib.hid hr; clear hr
 have HF := Lib.hid hf; clear hf
 have hmk := run_make1 Tryz.underlying46 infoInt rfl T.length (by omega) (by omega)
 go_enter Tryz.func54, Tryz.ntmps54
 go_wp2_with fail
 obtain ⟨W1, hW1⟩ : ∃ W1, W1 = ((w.alloc (Obj.cells (Array.replicate T.length (.int .i64 0)) 3)).alloc (Obj.cells #[.slice (some ⟨w.heap.size, 0, none⟩) T.length T.length] 46)).alloc (Obj.cells #[.int .i64 0] 3) := ⟨_, rfl⟩
 have hs1 : W1.heap.size = w.heap.size + 3 := by rw [hW1]; simp
 have hb1 : Below w.heap.size w W1 := by
   rw [hW1]
   (repeat' (first | (with_reducible first | exact Below.refl _ _ | assumption | refine Below.alloc ?_ ?_ _ | refine Below.drew ?_ | refine Below.setCell ?_ ?_ _ | refine below_setRow ?_ ?_ _ | exact Nat.le_refl _) | omega | (simp; done) | (simp; omega) | (simp at *; omega)))
 have r1 : row? W1 w.heap.size = some ((List.replicate T.length (0 : Int)).map (Value.int .i64)).toArray := by rw [hW1]; simp [go_sem]
 have r2 : row? W1 (w.heap.size + 1) = some #[.slice (some ⟨w.heap.size, 0, none⟩) T.length T.length] := by rw [hW1]; simp [go_sem]
 have r3 : row? W1 (w.heap.size + 1 + 1) = some #[.int .i64 0] := by rw [hW1]; simp [go_sem]
 rw [← hW1]
 clear hW1
 refine (below_any T (.slice a T.length c) W1 ((HV.out.below hb1 (Nat.le_refl _)).mono hb1.size) hlen HP.out).mono ?_
 rintro e w2 ⟨vs, rfl, hvs, hG, hb2⟩
 have hs2 := row?_lt hG.row
 have HG := Lib.hid hG
 have HB2 := Lib.hid hb2
 have HB1 := Lib.hid hb1
 have HR1 := Lib.hid (And.intro r1 (And.intro r2 r3))
 clear hG hb2 hb1 r1 r2 r3 hmk
 go_wp2_with fail
 obtain ⟨W3, hW3⟩ : ∃ W3, W3 = (w2.alloc (Obj.cells #[.slice (some ⟨w.heap.size + 3, 0, none⟩) T.length T.length] 152)).alloc (Obj.cells #[.func (.func 107) #[] #[.pointer (some ⟨w.heap.size + 1, 0, none⟩), .pointer (some ⟨w.heap.size + 1 + 1, 0, none⟩), .pointer (some ⟨w2.heap.size, 0, none⟩), .pointer (some ⟨w2.heap.size + 1, 0, none⟩)]] 154) := ⟨_, rfl⟩
 have hs3 : W3.heap.size = w2.heap.size + 2 := by rw [hW3]; simp
 have hk3 : ∀ k, k < w2.heap.size → W3.heap[k]? = w2.heap[k]? := fun k hk => by rw [hW3]; exact (Below.heap_alloc _ _ k (by simp; omega)).trans (Below.heap_alloc _ _ k hk)
 have hb3 : Below w.heap.size w W3 := by
   have hb0 := HB1.out.trans (HB2.out.mono (by omega))
   rw [hW3]
   (repeat' (first | (with_reducible first | exact Below.refl _ _ | assumption | refine Below.alloc ?_ ?_ _ | refine Below.drew ?_ | refine Below.setCell ?_ ?_ _ | refine below_setRow ?_ ?_ _ | exact Nat.le_refl _) | omega | (simp; done) | (simp; omega) | (simp at *; omega)))
 have r4 : row? W3 w2.heap.size = some #[.slice (some ⟨w.heap.size + 3, 0, none⟩) T.length T.length] := by rw [hW3]; simp [go_sem]
 have r5 : row? W3 (w2.heap.size + 1) = some #[.func (.func 107) #[] #[.pointer (some ⟨w.heap.size + 1, 0, none⟩), .pointer (some ⟨w.heap.size + 1 + 1, 0, none⟩), .pointer (some ⟨w2.heap.size, 0, none⟩), .pointer (some ⟨w2.heap.size + 1, 0, none⟩)]] := by rw [hW3]; simp [go_sem]
 rw [← hW3]
 clear hW3
 have hkk : ∀ k, k < W1.heap.size → row? W3 k = row? W1 k := fun k hk => (row?_congr (hk3 k (by omega))).trans (row?_congr (HB2.out.block k hk))
 have hS3 : DSt T.length w.heap.size (w.heap.size + 1) (w.heap.size + 1 + 1) (w.heap.size + 3) w2.heap.size (w2.heap.size + 1) vs (kidsTo T T.length) (List.replicate T.length 0) 0 W3 := by
   refine ⟨(hkk _ (by omega)).trans HR1.out.1, (hkk _ (by omega)).trans HR1.out.2.1, (hkk _ (by omega)).trans HR1.out.2.2, r4, ?_, r5⟩
   have := HG.out.same fun k _ hk => hk3 k hk
   rwa [hs1] at this
 refine (roots_any T (.slice a T.length c) W3 ((HV.out.below hb3 (Nat.le_refl _)).mono hb3.size) hlen).mono ?_
 rintro e w4 ⟨v4, rfl, hO4, hb4⟩
 rw [HR.out] at hO4
 obtain ⟨q4, n4, c4, rfl⟩ := hO4.slice
 have hn4 := hO4.len
 simp at hn4
 subst hn4
 obtain ⟨g4, rfl, hg4, hg4s, hc4⟩ := hO4.cell (j := 0) rfl
 have hS4 := Lib.hid (hS3.of_same hb4.block)
 have hB4 := Lib.hid (hb3.trans (hb4.mono hb3.size))
 clear hS3 r4 r5 hO4 hb3 hk3 hkk
 go_wp2
 go_loopw [19] (fun i wr => (i = .int .i64 0 ∧ wr = w4) ∨ (i = .int .i64 1 ∧ DSt T.length w.heap.size (w.heap.size + 1) (w.heap.size + 1 + 1) (w.heap.size + 3) w2.heap.size (w2.heap.size + 1) vs (kidsTo T T.length) (t.ds 0 (List.replicate T.length 0)) t.sz wr ∧ Below w.heap.size w wr)) (fun i _ => 1 - (intOf i).toNat)
 case atStart => exact .inl ⟨rfl, rfl⟩
 case round =>
   rcases hrel with ⟨rfl, rfl⟩ | ⟨rfl, hS5, hb5⟩
   · have e7 : wr.cell? ⟨w2.heap.size + 1, 0, none⟩ = _ := cell?_row (i := 0) hS4.out.fn
     simp at e7
     go_wp2_with fail
     have hcall := depths1_any T.length w.heap.size (w.heap.size + 1) (w.heap.size + 1 + 1) (w.heap.size + 3) w2.heap.size (w2.heap.size + 1) vs (kidsTo T T.length) hvs hlen (by omega) t HF.out 0 0 (List.replicate T.length 0) wr (by simp) (by omega) (by omega) hS4.out
     push_cast at hcall
     refine hcall.mono ?_
     rintro e w5 ⟨⟨v5, rfl⟩, hS5, hs5⟩
     rw [Nat.zero_add] at hS5
     have HS5 := Lib.hid hS5
     have HB5 := Lib.hid (hB4.out.trans (hs5.below (B := w.heap.size) (by have := hB4.out.size; omega) fun k hk => ⟨by omega, by omega⟩))
     clear hcall hS5 hs5 e7 hc4
     go_wp2
     go_roundw
     case rel => exact .inr ⟨rfl, HS5.out, HB5.out⟩
     case measure => simp [intOf]
   · have HS5 := Lib.hid hS5
     have e8 : wr.cell? ⟨w.heap.size + 1, 0, none⟩ = _ := cell?_row (i := 0) hS5.out
     have e9 : wr.cell? ⟨w.heap.size + 1 + 1, 0, none⟩ = _ := cell?_row (i := 0) hS5.cnt
     simp at e8 e9
     have HB5 := Lib.hid hb5
     clear hS5 hb5 hc4
     go_wp2
     refine wp_region_free (fun w' => w' = wr.drew) (by kernel_rfl) (by kernel_rfl) rfl ?_
     repeat (apply wpFree_still; (intro w hw; subst hw; go_simp; (try go_ints); (first | with_reducible rfl | (go_simp; with_reducible rfl))); with_reducible rfl; (intro K hK; go_simp; (try go_ints); refine hK _ ?_; clear hK K))
     with_reducible refine wpFree_nil ?_
     rintro w' rfl
     go_wp2
     go_ret2
     exact ⟨congrArg (fun b => Ending.returned (.tuple #[.slice (some ⟨w.heap.size, 0, none⟩) T.length T.length, .bool b])) (intBeq _ _), HS5.out.data, HB5.out.drew⟩
theorem tops_any (T : List Bg) (t : Tr) (hV : Valid T t) (v : Value) (w : World) (hv : Rd bagA 17 w.heap.size w v T) (i : Nat) (hi : i < T.length) :
   Calls Tryz.prog 55 #[v, .int .i64 (i : Int)] w fun e w' => e = .returned (.agg (words (topS T i))) ∧ Below w.heap.size w w' := by
 obtain ⟨x, hx⟩ : ∃ x, T[i]? = some x := ⟨_, List.getElem?_eq_getElem hi⟩
 have hl := hV.le
 rcases hV.par i x hx with hp | ⟨p, hp, hpl⟩
 · rw [topS_root hx hp]
   exact tops_root T v w hv (by omega) i x hx hp
 · obtain ⟨y, hy⟩ : ∃ y, T[p]? = some y := ⟨_, List.getElem?_eq_getElem hpl⟩
   rw [topS_other hx hp hy]
   exact tops_other T v w hv (by omega) i p x y hx hp hy
theorem check_valid (T : List Bg) (t : Tr) (hV : Valid T t) (v : Value) (w : World) (hv : Rd bagA 17 w.heap.size w v T) :
   Calls Tryz.prog 21 #[v] w fun e w' => e = .returned (.int .i64 0) ∧ Below w.heap.size w w' := by
 have HV := Lib.hid hv
 obtain ⟨a, c, rfl, -⟩ := hv
 have hle := hV.le
 have hpos := hV.pos
 have HVal := Lib.hid hV; clear hV
 have hl0 : ((T.length : Int) == 0) = false := by rw [beq_eq_false_iff_ne]; omega
 have hl1 : decide ((4096 : Int) < (T.length : Int)) = false := decide_eq_false (by omega)
 go_enter Tryz.func21, Tryz.ntmps21
 go_wp2_with fail
 have hB1 : Below w.heap.size w (w.alloc (Obj.cells #[.slice a T.length c] 23)) := (Below.refl _ w).alloc (Nat.le_refl _) _
 have hr1 : row? (w.alloc (Obj.cells #[.slice a T.length c] 23)) w.heap.size = some #[.slice a T.length c] := by simp [go_sem]
 obtain ⟨W1, hW1⟩ : ∃ W1, W1 = w.alloc (Obj.cells #[.slice a T.length c] 23) := ⟨_, rfl⟩
 have hs1 : W1.heap.size = w.heap.size + 1 := by rw [hW1]; simp
 rw [← hW1] at hB1 hr1 ⊢
 clear hW1
 have hany : T.any (fun b => decide (b.1 < -1) || decide ((T.length : Int) ≤ b.1)) = false := by
   rw [List.any_eq_false]
   intro x hx
   obtain ⟨i, hi⟩ := List.mem_iff_getElem?.1 hx
   simp only [Bool.or_eq_true, decide_eq_true_eq]
   rcases HVal.out.par i x hi with h | ⟨p, h, _⟩ <;> omega
 have hcf := containsFuncT (fun b => decide (b.1 < -1) || decide ((T.length : Int) ≤ b.1)) 52 #[.pointer (some ⟨w.heap.size, 0, none⟩)] (fun args w => by simp [go_sem]) T (.slice a T.length c) W1 ((HV.out.below hB1 (Nat.le_refl _)).mono hB1.size) (by omega)
   fun W hW x _ => check1_any x w.heap.size (.slice a T.length c) T.length W ((row?_below hW (by omega)).trans hr1) ⟨_, _, rfl⟩
 rw [hany] at hcf
 refine hcf.mono ?_
 rintro e w2 ⟨rfl, hb2⟩
 have hr2 := (row?_below hb2 (by omega)).trans hr1
 have hB2 := hB1.trans (hb2.mono (by omega))
 have hs2 := hb2.size
 have e1 : w2.cell? ⟨w.heap.size, 0, none⟩ = _ := cell?_row (i := 0) hr2
 simp at e1
 have HB2 := Lib.hid hB2
 have HR2 := Lib.hid hr2
 clear hcf hb2 hr1 hB1 hany hr2 hB2
 go_wp2_with fail
 refine (roots_any T (.slice a T.length c) w2 ((HV.out.below HB2.out (Nat.le_refl _)).mono HB2.out.size) (by omega)).mono ?_
 rintro e w3 ⟨v3, rfl, hO3, hb3⟩
 rw [HVal.out.root] at hO3
 obtain ⟨q3, n3, c3, rfl⟩ := hO3.slice
 have hn3 := hO3.len
 simp at hn3
 subst hn3
 have hr3 := (row?_below hb3 (by omega)).trans HR2.out
 have hB3 := HB2.out.trans (hb3.mono (by omega))
 have hs3 := hb3.size
 have e2 : w3.cell? ⟨w.heap.size, 0, none⟩ = _ := cell?_row (i := 0) hr3
 simp at e2
 have HB3 := Lib.hid hB3
 have HR3 := Lib.hid hr3
 clear hO3 e1 hr3 hB3 hb3
 go_wp2_with fail
 have hd := depths_any T (.slice a T.length c) w3 ((HV.out.below HB3.out (Nat.le_refl _)).mono HB3.out.size) (by omega) HVal.out.par t HVal.out.root HVal.out.fits (by have := HVal.out.all; omega)
 rw [HVal.out.all] at hd
 refine hd.mono ?_
 rintro e w4 ⟨rfl, hr, hb4⟩
 have hr4 := (row?_below hb4 (by omega)).trans HR3.out
 have hB4 := HB3.out.trans (hb4.mono (by omega))
 have hs4 := hb4.size
 have e3 : w4.cell? ⟨w.heap.size, 0, none⟩ = _ := cell?_row (i := 0) hr4
 simp at e3
 have HB4 := Lib.hid hB4
 have HR4 := Lib.hid hr4
 clear hd hr e2 hr4 hB4 hb4
 have hlt4 : w.heap.size < w4.heap.size := by omega
 have hdec : decide (T.length = T.length) = true := by simp
 rw [hdec]
 go_wp2_with fail
 go_loopw [34] (fun i wr => ∃ k : Nat, k ≤ T.length ∧ i = .int .i64 k ∧ row? wr w.heap.size = some #[.slice a T.length c] ∧ row? wr w4.heap.size = some (words (seenTo T k)) ∧ Below w.heap.size w wr) (fun i _ => T.length - (intOf i).toNat)
 case atStart =>
   refine ⟨0, by omega, rfl, ?_, by simp [go_sem, seenTo], HB4.out.alloc (by omega) _⟩
   rw [row?_alloc_past _ _ _ (by omega)]
   exact HR4.out
 case round =>
   obtain ⟨k, hk, rfl, hra, hrs, hb⟩ := hrel
   have hlt5 := row?_lt hrs
   have e5 : wr.cell? ⟨w.heap.size, 0, none⟩ = _ := cell?_row (i := 0) hra
   simp at e5
   have HRA := Lib.hid hra
   have HRS := Lib.hid hrs
   have HB5 := Lib.hid hb
   clear hra hrs hb e3
   by_cases hlt : k < T.length
   · go_wp2_with fail
     refine (tops_any T t HVal.out (.slice a T.length c) wr ((HV.out.below HB5.out (Nat.le_refl _)).mono HB5.out.size) k hlt).mono ?_
     rintro e w6 ⟨rfl, hb6⟩
     have hs6 := hb6.size
     have hra6 := (row?_below hb6 (by omega)).trans HRA.out
     have hrs6 := (row?_below hb6 (by omega)).trans HRS.out
     have HB6 := Lib.hid (HB5.out.trans (hb6.mono (by omega)))
     have hlt6 : w4.heap.size < w6.heap.size := by omega
     have hlt7 : w.heap.size < w6.heap.size := by omega
     clear e5 hb6
     go_wp2_with fail
     refine (inter_any _ _ _).mono ?_
     rintro e w7 ⟨rfl, hb7⟩
     have hs7 := hb7.size
     simp only [World.size_alloc] at hs7
     have hra7 : row? w7 w.heap.size = some #[.slice a T.length c] := (row?_below hb7 (by simp; omega)).trans (by rw [row?_alloc_past _ _ _ hlt7]; exact hra6)
     have hrs7 : row? w7 w4.heap.size = some (words (seenTo T k)) := (row?_below hb7 (by simp; omega)).trans (by rw [row?_alloc_past _ _ _ hlt6]; exact hrs6)
     have hrt7 : row? w7 w6.heap.size = some (words (topS T k)) := (row?_below hb7 (by simp)).trans (by simp [go_sem])
     have HB7 := Lib.hid (((HB6.out.alloc (by omega) (Obj.cells (words (topS T k)) 51))).trans (hb7.mono (by simp; omega)))
     have hdis := HVal.out.disj k hlt
     rw [hdis]
     clear hb7 hra6 hrs6
     go_wp2_with fail
     refine (isEmpty_any 0 isSet_zero w7).mono ?_
     rintro e w8 ⟨rfl, hb8⟩
     have hs8 := hb8.size
     have hra8 := (row?_below hb8 (by omega)).trans hra7
     have hrs8 := (row?_below hb8 (by omega)).trans hrs7
     have hrt8 := (row?_below hb8 (by omega)).trans hrt7
     have HB8 := Lib.hid (HB7.out.trans (hb8.mono (by omega)))
     have hd0 : decide ((0 : Nat) = 0) = true := by simp
     try rw [hd0]
     clear hb8 hra7 hrs7 hrt7
     go_wp2_with fail
     refine (union_any _ _ _).mono ?_
     rintro e w9 ⟨rfl, hb9⟩
     have hs9 := hb9.size
     have hra9 := (row?_below hb9 (by omega)).trans hra8
     have hrs9 := (row?_below hb9 (by omega)).trans hrs8
     have HB9 := Lib.hid (HB8.out.trans (hb9.mono (by omega)))
     clear hb9 hra8 hrs8 hrt8
     go_wp2
     go_roundw
     case rel =>
       refine ⟨k + 1, by omega, by go_num, ?_, ?_, ?_⟩
       · rw [row?_setRow_other _ _ _ _ (by omega)]; exact hra9
       · rw [row?_setRow_same _ _ _ (by rw [hrs9]; rfl)]; rfl
       · exact below_setRow HB9.out (by omega) _
     case measure => simp [intOf]; omega
   · have hk' : k = T.length := by omega
     subst hk'
     clear e5
     go_wp2
     go_ret
     exact ⟨rfl, HB5.out⟩
end Go.Proofs.YteiibpfabgfolaaGreatDoor
namespace Go.Pal
open Go
def flatB : List Bg → List Value
 | [] => []
 | x :: xs => (bagA x).toList ++ flatB xs
theorem flatB_length (T : List Bg) : (flatB T).length = T.length * 17 := by
 induction T with
 | nil => rfl
 | cons x xs ih =>
   rw [flatB, List.length_append, ih, Array.length_toList, bagA_size, List.length_cons]
   omega
theorem flatB_at {T : List Bg} : ∀ {m : Nat} {u : Value}, (flatB T)[m]? = some u → ∃ i j x, T[i]? = some x ∧ (bagA x)[j]? = some u ∧ m = i * 17 + j := by
 induction T with
 | nil => intro m u h; simp [flatB] at h
 | cons y ys ih =>
   intro m u h
   rw [flatB] at h
   have hy : (bagA y).toList.length = 17 := by rw [Array.length_toList, bagA_size]
   by_cases hm : m < 17
   · rw [List.getElem?_append_left (by rw [hy]; omega), Array.getElem?_toList] at h
     exact ⟨0, m, y, rfl, h, by omega⟩
   · rw [List.getElem?_append_right (by rw [hy]; omega), hy] at h
     obtain ⟨i, j, x, h1, h2, h3⟩ := ih h
     exact ⟨i + 1, j, x, by simpa using h1, h2, by omega⟩
end Go.Pal
