/- Walks: the law's begun (a graph of edits, an order of its vertices). Walk: the law's few .. -/
import Derived.Test.YtglnhnjmelilmaaGreatDoorRJm
import Derived.Test.YtglnhnjmelilmaaGreatDoorROp
import Derived.Test.YtglnhnjmelilmaaGreatDoorRVe
import Derived.Test.YtglnhnjmelilmaaGreatDoorRMx
set_option linter.all false
namespace Go.Pal
open Go
theorem Gr.app_len (G : Gr) (h : G.Ok) (e : Ed) : (G.app e).V.length ≤ G.V.length + 1 := by
 have hp : ∀ (x : Int) (t : Th), (putS ltV x t G.V).length ≤ G.V.length + 1 := fun x t => by
   rw [putS_length ordV _ _ h.sV]
   split <;> omega
 unfold Gr.app
 split
 · unfold Gr.doit
   split
   · exact hp _ _
   split
   · exact Nat.le_trans (List.length_filter_le _ _) (Nat.le_succ _)
   split
   · exact Nat.le_succ _
   split
   · exact Nat.le_succ _
   split
   · exact hp _ _
   split
   · exact hp _ _
   split
   · exact Nat.le_succ _
   · exact Nat.le_succ _
 · exact Nat.le_succ _
theorem madeTo_len {l : List Ed} (h : ∀ e ∈ l, e.Wf) : ∀ k, (madeTo l k).V.length ≤ k
 | 0 => by simp [madeTo, Gr.none]
 | k + 1 => by
   have ih := madeTo_len h k
   cases hl : l[k]? with
   | none =>
     unfold madeTo at ih ⊢
     rw [List.take_add_one, hl]
     simp at ih ⊢
     omega
   | some e =>
     rw [madeTo_succ hl]
     have := Gr.app_len _ (madeTo_ok h k) e
     omega
end Go.Pal
namespace Go.Proofs.YtglnhnjmelilmaaGreatDoor
open Go Go.RowKit Go.Pal
attribute [local go_sem] Oper.semAt_some
theorem Rd.take {α : Type} {enc : α → Array Value} {k B : Nat} {w : World} {a : Option Addr} {n c : Nat} {xs : List α} (h : Rd enc k B w (.slice a n c) xs) (m : Nat) : Rd enc k B w (.slice a (xs.take m).length c) (xs.take m) := by
 obtain ⟨a', c', hv, h⟩ := h
 simp only [Value.slice.injEq] at hv
 obtain ⟨rfl, -, rfl⟩ := hv
 refine ⟨_, _, rfl, ?_⟩
 rcases h with rfl | ⟨b, off, ha, hb, hc⟩
 · exact .inl (by simp)
 · refine .inr ⟨b, off, ha, hb, fun i x hi => hc i x ?_⟩
   rw [List.getElem?_take] at hi
   split at hi
   · exact hi
   · cases hi
theorem results_p3 {P : Program} {fn : Func} {p q s : Tmp} {ty n : Nat} (h : fn.results = #[.tmp p, .cell q ty, .tmp s]) (hagg : ∀ w, (isAgg ty).run P w = .ok true w) (hn : ∀ w, (sizeOf ty).run P w = .ok n w)
   (tmps : Array Value) (w : World) (g : Nat) (c : Array Value) (hp : tmps.getD q undef = .pointer (some ⟨g, 0, none⟩)) (hg : row? w g = some c) (hc : c.size = n) :
   (results fn tmps).run P w = .ok (.tuple #[tmps.getD p undef, .agg c, tmps.getD s undef]) w := by
 have hp' : tmps[q]?.getD undef = .pointer (some ⟨g, 0, none⟩) := by simpa using hp
 have hl := load_row (P := P) hagg hn w g
 rw [hg] at hl
 simp only [hc, if_true] at hl
 unfold rowLoad at hl
 simp [results, h, hp', asAddr, hl]
theorem ret_p3 {P : Program} {fn : Func} {R : Ending → World → Prop} {a : Act} {w : World} {p q s : Tmp} {ty n : Nat} (g : Nat) (c : Array Value) (h : fn.results = #[.tmp p, .cell q ty, .tmp s]) (hagg : ∀ w, (isAgg ty).run P w = .ok true w) (hn : ∀ w, (sizeOf ty).run P w = .ok n w)
   (hp : a.tmps.getD q undef = .pointer (some ⟨g, 0, none⟩)) (hd : a.defers = []) (hg : row? w g = some c) (hc : c.size = n) (hR : R (.returned (.tuple #[a.tmps.getD p undef, .agg c, a.tmps.getD s undef])) w) : bodyPost P fn R .ret a w :=
 bodyPost_ret (results_p3 h hagg hn a.tmps w g c hp hg hc) hd hR
def fewG (es : List Ed) : Gr := madeTo (es.take 40) (es.take 40).length
theorem fewG_ok {es : List Ed} (hes : ∀ e ∈ es, e.Wf) : (fewG es).Ok := madeTo_ok (fun e he => hes e (List.mem_of_mem_take he)) _
theorem fewG_len {es : List Ed} (hes : ∀ e ∈ es, e.Wf) : (fewG es).V.length ≤ 40 := Nat.le_trans (madeTo_len (fun e he => hes e (List.mem_of_mem_take he)) _) (List.length_take_le _ _)
set_option maxRecDepth 10000 in
set_option maxHeartbeats 4000000 in
theorem few_any (es : List Ed) (hes : ∀ e ∈ es, e.Wf) (vl : Value) (w : World) (hl : Rd edC 5 w.heap.size w vl es) (hc : ∃ a n c, vl = .slice a n c ∧ n ≤ c ∧ c ≤ 9223372036854775807) :
   Calls Tryz.prog 16 #[vl] w fun r w' => ∃ g bV bE vV vE, r = .returned (.tuple #[.pointer (some ⟨g, 0, none⟩), .agg #[vV, vE], .bool (decide (es.length ≤ 40))]) ∧ GOk w' g bV bE (fewG es) ∧ RefG w' vV vE (fewG es) ∧ (w.heap.size ≤ g ∧ w.heap.size ≤ bV ∧ w.heap.size ≤ bE) ∧ Below w.heap.size w w' := by
 have HL := Lib.hid hl
 have hwf : ∀ e ∈ es.take 40, e.Wf := fun e he => hes e (List.mem_of_mem_take he)
 have h40 : (es.take 40).length ≤ 40 := List.length_take_le _ _
 obtain ⟨a, n, c, rfl, hnc, hcm⟩ := hc
 have hlt := Rd.take hl 40
 have hn : n = es.length := by
   obtain ⟨a', c', hv, -⟩ := hl
   simp only [Value.slice.injEq] at hv
   exact hv.2.1
 have HMa := Lib.hid fun W (hb : Below w.heap.size w W) => made_any (es.take 40) hwf _ W ((hlt.below hb (Nat.le_refl _)).mono hb.size) (by omega)
 have hGk := fewG_ok hes
 unfold fewG at hGk ⊢
 obtain ⟨G, hG⟩ : ∃ G, G = madeTo (es.take 40) (es.take 40).length := ⟨_, rfl⟩
 rw [← hG] at HMa hGk ⊢
 have hmn : (min (es.length : Int) 40).toNat = (es.take 40).length := by rw [List.length_take]; omega
 have HMN := Lib.hid hmn
 subst hn
 have HGk := Lib.hid hGk
 clear hl hes hwf hlt hG hGk hmn
 go_enter Tryz.func16, Tryz.ntmps16
 go_wp2_with fail
 rw [HMN.out]
 have hB0 : Below w.heap.size w (w.alloc (.cells #[.slice none 0 0, .slice none 0 0] 42)) := (Below.refl _ w).alloc (Nat.le_refl _) _
 have hr0 : row? (w.alloc (.cells #[.slice none 0 0, .slice none 0 0] 42)) w.heap.size = some #[.slice none 0 0, .slice none 0 0] := row?_alloc_at _ _ _ _ rfl
 refine (HMa.out _ hB0).mono ?_
 rintro r w1 ⟨vV, vE, rfl, hRG, hb1⟩
 have hs1 := hb1.size
 simp only [World.size_alloc] at hs1
 have HR1 := Lib.hid ((row?_below hb1 (by simp)).trans hr0)
 have HB1 := Lib.hid (hB0.trans (hb1.mono (by simp)))
 have HFr := Lib.hid fun W (hw : Below w1.heap.size w1 W) => from_any G HGk.out vV vE W (RefG.below hRG hw)
 have HRG := Lib.hid hRG
 obtain ⟨aV, cV, hvV⟩ := hRG.1.sl
 obtain ⟨aE, cE, hvE⟩ := hRG.2.sl
 subst hvV hvE
 clear hB0 hr0 hb1 hRG HMa
 obtain ⟨LV, hLV⟩ : ∃ LV, LV = G.V.length := ⟨_, rfl⟩
 obtain ⟨LE, hLE⟩ : ∃ LV, LV = G.E.length := ⟨_, rfl⟩
 rw [← hLV, ← hLE] at HFr HRG ⊢
 clear hLV hLE
 go_wp2_with fail
 have hb1 : Below w1.heap.size w1 (w1.alloc (.cells #[.slice aV LV cV, .slice aE LE cE] 42)) := (Below.refl _ w1).alloc (Nat.le_refl _) _
 have hr1 : row? (w1.alloc (.cells #[.slice aV LV cV, .slice aE LE cE] 42)) w1.heap.size = some #[.slice aV LV cV, .slice aE LE cE] := row?_alloc_at _ _ _ _ rfl
 refine (HFr.out _ hb1).mono ?_
 rintro r w2 ⟨g, bV, bE, rfl, hG2, ⟨hg0, hV0, hE0⟩, hb2⟩
 simp only [World.size_alloc] at hg0 hV0 hE0
 have hb2' := hb1.trans (hb2.mono (by simp))
 have hs2 := hb2.size
 simp only [World.size_alloc] at hs2
 have hr2 := (row?_below hb2' (by omega)).trans HR1.out
 have hrw := (row?_below hb2 (by simp)).trans hr1
 have hr2d : row? w2.drew w.heap.size = some #[.slice none 0 0, .slice none 0 0] := hr2
 have hrwd : row? w2.drew w1.heap.size = some #[.slice aV LV cV, .slice aE LE cE] := hrw
 have HR2d := Lib.hid hr2
 have HB2 := Lib.hid (HB1.out.trans (hb2'.mono HB1.out.size))
 have HG2 := Lib.hid hG2
 have HRG2 := Lib.hid (RefG.below HRG.out hb2')
 clear hG2 hb2 hb2' hb1 hr1 HFr HRG HB1 HR1
 go_wp2_with fail
 clear hr2 hrw
 refine wp_region_mixZ (fun W => W = w2.drew) (fun _ => True) 10 [(0, true), (1, true), (2, true), (3, true), (4, true), (5, true), (6, true), (7, true), (8, true), (9, true), (10, false), (11, true)] (by kernel_rfl) (by kernel_rfl) rfl ?_
 repeat ((first | apply wpPlanZ_free rfl rfl | apply wpPlanZ_freeG rfl rfl); (intro w; go_simp; (try go_ints); (first | with_reducible rfl | (go_simp; with_reducible rfl))); (intro K hK; go_simp; (try go_ints); refine hK _ _ ?_; clear hK K))
 apply wpPlanZ_old rfl rfl (by kernel_rfl)
 · intro w hw
   subst hw
   go_simp
   (try go_ints)
   first | with_reducible rfl | (go_simp; with_reducible rfl)
 intro K hK
 go_simp
 (try go_ints)
 refine hK _ _ ?_
 clear hK K
 repeat ((first | apply wpPlanZ_free rfl rfl | apply wpPlanZ_freeG rfl rfl); (intro w; go_simp; (try go_ints); (first | with_reducible rfl | (go_simp; with_reducible rfl))); (intro K hK; go_simp; (try go_ints); refine hK _ _ ?_; clear hK K))
 apply wpPlanZ_act rfl rfl (by decide)
 intro K hK
 unfold Oper.wp
 go_simp
 refine hK _ _ trivial ?_
 clear hK K
 repeat ((first | apply wpPlanZ_free rfl rfl | apply wpPlanZ_freeG rfl rfl); (intro w; go_simp; (try go_ints); (first | with_reducible rfl | (go_simp; with_reducible rfl))); (intro K hK; go_simp; (try go_ints); refine hK _ _ ?_; clear hK K))
 refine wpPlanZ_nil ?_
 clear hrwd hr2d
 go_wp2_with fail
 refine ret_p3 w.heap.size #[.slice aV LV cV, .slice aE LE cE] rfl Tryz.isAgg42 Tryz.sizeOf42 rfl rfl (row?_setRow_same _ _ _ (by rw [HR2d.out]; rfl)) rfl ⟨g, bV, bE, .slice aV LV cV, .slice aE LE cE, by rw [show decide (es.length ≤ 40) = decide ((es.length : Int) ≤ 40) by rw [Bool.eq_iff_iff]; simp; omega]; rfl, ?_, ?_, ⟨by omega, by omega, by omega⟩, ?_⟩
 · exact HG2.out.congr (setRow_other _ _ _ _ (by omega)) (setRow_other _ _ _ _ (by omega)) (setRow_other _ _ _ _ (by omega))
 · have hrg := RefG.below HRG2.out (Below.refl _ w2).drew
   exact ⟨rd_setRow (fun x => ⟨_, rfl⟩) hrg.1 HR2d.out _, rd_setRow (fun x => ⟨_, rfl⟩) hrg.2 HR2d.out _⟩
 · exact below_setRow (HB2.out.drew) (Nat.le_refl _) _
end Go.Proofs.YtglnhnjmelilmaaGreatDoor
