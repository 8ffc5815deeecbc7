/-
  Walks: the law's begun (a graph of edits, an order of its vertices).
-/
import Derived.Test.YtmmhngjndnonhaaGreatDoorDJm
import Derived.Test.YtmmhngjndnonhaaGreatDoorDOp
import Derived.Test.YtmmhngjndnonhaaGreatDoorDVe
import Derived.Test.YtmmhngjndnonhaaGreatDoorDMx
set_option linter.unusedSimpArgs false
set_option linter.unusedVariables false
namespace Go.Pal
open Go
theorem Gr.app_len (G : Gr) (h : G.Ok) (e : Ed) : (G.app e).V.length ≤ G.V.length + 1 := by
  have hp : ∀ (x : Int) (t : Th), (putS ltV x t G.V).length ≤ G.V.length + 1 := fun x t => by
    rw [putS_length ordV _ _ h.sV]
    split <;> omega
  unfold Gr.app
  split
  · unfold Gr.doit
    split
    · exact hp _ _
    split
    · exact Nat.le_trans (List.length_filter_le _ _) (Nat.le_succ _)
    split
    · exact Nat.le_succ _
    split
    · exact Nat.le_succ _
    split
    · exact hp _ _
    split
    · exact hp _ _
    split
    · exact Nat.le_succ _
    · exact Nat.le_succ _
  · exact Nat.le_succ _
theorem madeTo_len {l : List Ed} (h : ∀ e ∈ l, e.Wf) : ∀ k, (madeTo l k).V.length ≤ k
  | 0 => by simp [madeTo, Gr.none]
  | k + 1 => by
    have ih := madeTo_len h k
    cases hl : l[k]? with
    | none =>
      unfold madeTo at ih ⊢
      rw [List.take_add_one, hl]
      simp at ih ⊢
      omega
    | some e =>
      rw [madeTo_succ hl]
      have := Gr.app_len _ (madeTo_ok h k) e
      omega
theorem set_swap_perm {l : List Int} {i j : Nat} {a b : Int} (hi : l[i]? = some a) (hj : l[j]? = some b) : ((l.set i b).set j a).Perm l := by
  obtain ⟨h1, h2⟩ := List.getElem?_eq_some_iff.1 hi
  obtain ⟨h3, h4⟩ := List.getElem?_eq_some_iff.1 hj
  have := Array.swap_perm (xs := l.toArray) (i := i) (j := j) (by simpa using h1) (by simpa using h3)
  rw [Array.perm_iff_toList_perm, Array.toList_swap] at this
  simpa [h2, h4] using this
end Go.Pal
namespace Go.Proofs.YtmmhngjndnonhaaGreatDoor
open Go Go.RowKit Go.Pal
attribute [local go_sem] Oper.semAt_some

theorem results_p4 {P : Program} {fn : Func} {p q r s : Tmp} {ty n : Nat} (h : fn.results = #[.tmp p, .cell q ty, .tmp r, .tmp s]) (hagg : ∀ w, (isAgg ty).run P w = .ok true w) (hn : ∀ w, (sizeOf ty).run P w = .ok n w)
    (tmps : Array Value) (w : World) (g : Nat) (c : Array Value) (hp : tmps.getD q undef = .pointer (some ⟨g, 0, none⟩)) (hg : row? w g = some c) (hc : c.size = n) :
    (results fn tmps).run P w = .ok (.tuple #[tmps.getD p undef, .agg c, tmps.getD r undef, tmps.getD s undef]) w := by
  have hp' : tmps[q]?.getD undef = .pointer (some ⟨g, 0, none⟩) := by simpa using hp
  have hl := load_row (P := P) hagg hn w g
  rw [hg] at hl
  simp only [hc, if_true] at hl
  unfold rowLoad at hl
  simp [results, h, hp', asAddr, hl]
theorem ret_p4 {P : Program} {fn : Func} {R : Ending → World → Prop} {a : Act} {w : World} {p q r s : Tmp} {ty n : Nat} (g : Nat) (c : Array Value) (h : fn.results = #[.tmp p, .cell q ty, .tmp r, .tmp s]) (hagg : ∀ w, (isAgg ty).run P w = .ok true w) (hn : ∀ w, (sizeOf ty).run P w = .ok n w)
    (hp : a.tmps.getD q undef = .pointer (some ⟨g, 0, none⟩)) (hd : a.defers = []) (hg : row? w g = some c) (hc : c.size = n) (hR : R (.returned (.tuple #[a.tmps.getD p undef, .agg c, a.tmps.getD r undef, a.tmps.getD s undef])) w) : bodyPost P fn R .ret a w :=
  bodyPost_ret (results_p4 h hagg hn a.tmps w g c hp hg hc) hd hR
theorem Rd.take {α : Type} {enc : α → Array Value} {k B : Nat} {w : World} {a : Option Addr} {n c : Nat} {xs : List α} (h : Rd enc k B w (.slice a n c) xs) (m : Nat) : Rd enc k B w (.slice a (xs.take m).length c) (xs.take m) := by
  obtain ⟨a', c', hv, h⟩ := h
  simp only [Value.slice.injEq] at hv
  obtain ⟨rfl, -, rfl⟩ := hv
  refine ⟨_, _, rfl, ?_⟩
  rcases h with rfl | ⟨b, off, ha, hb, hc⟩
  · exact .inl (by simp)
  · refine .inr ⟨b, off, ha, hb, fun i x hi => hc i x ?_⟩
    rw [List.getElem?_take] at hi
    split at hi
    · exact hi
    · cases hi

def elIN : ElT Tryz.prog 3 1 intC where
  bytes := 8
  zero := .int .i64 0
  info := by kernel_rfl
  zc := rfl
  pos := by decide
  small := by decide
  size _ := rfl
  one x u hu := by simp [intC] at hu; subst hu; rfl
abbrev OwnIN := OwnR 3 1 intC
/-- An int of an own row is stored anew. -/
theorem own_int {l : List Int} {B g n cap : Nat} {w : World} (hO : OwnIN B w (.slice (some ⟨g, 0, none⟩) n cap) l) {i : Nat} {x : Int} (hx : l[i]? = some x) (y : Int) : OwnIN B (w.setCell ⟨g, i, none⟩ (.int .i64 y)) (.slice (some ⟨g, 0, none⟩) n cap) (l.set i y) := by
  have h := own_patch (y := y) elIN hO hx 0 [.int .i64 y] (by simp) fun j u hu => by
    have hj := (Array.getElem?_eq_some_iff.1 hu).1
    simp [intC] at hj
    subst hj
    simpa [intC] using hu
  simpa [World.setCells] using h
theorem own_int_cell {l : List Int} {B g n cap : Nat} {w : World} (hO : OwnIN B w (.slice (some ⟨g, 0, none⟩) n cap) l) {i : Nat} {x : Int} (hx : l[i]? = some x) : w.cell? ⟨g, i, none⟩ = some (.int .i64 x) ∧ w.frozen? ⟨g, i, none⟩ = false := by
  obtain ⟨f, hrow, hf, hcap, hm, hB, rfl⟩ := row_own hO
  have hi := (List.getElem?_eq_some_iff.1 hx).1
  have hu := encC_get elIN (j := 0) (u := .int .i64 x) hx rfl
  constructor
  · rw [hrow.cell (by omega)]
    have := hf _ _ hu
    simpa using this
  · exact hrow.frozen _
set_option maxRecDepth 10000 in
set_option maxHeartbeats 4000000 in
theorem begun_any (es : List Ed) (hes : ∀ e ∈ es, e.Wf) (ts : List Nat) (hts : ∀ t ∈ ts, t < 256) (vl vt : Value) (w : World) (hl : Rd edC 5 w.heap.size w vl es) (hc : ∃ a n c, vl = .slice a n c ∧ n ≤ c ∧ c ≤ 9223372036854775807) (ht : Rd u8C 1 w.heap.size w vt ts) (htl : ts.length ≤ 9223372036854775807) :
    Calls Tryz.prog 17 #[vl, vt] w fun r w' => ∃ g bV bE vV vE vo o, r = .returned (.tuple #[.pointer (some ⟨g, 0, none⟩), .agg #[vV, vE], vo, .bool (decide (es.length ≤ 40))]) ∧ GOk w' g bV bE (madeTo (es.take 40) (es.take 40).length) ∧ RefG w' vV vE (madeTo (es.take 40) (es.take 40).length) ∧ RdL w' vo o ∧ o.Perm (madeTo (es.take 40) (es.take 40).length).ids' ∧ Below w.heap.size w w' := by
  have HL := Lib.hid hl
  have HT := Lib.hid ht
  have HTS := Lib.hid hts
  have hwf : ∀ e ∈ es.take 40, e.Wf := fun e he => hes e (List.mem_of_mem_take he)
  have h40 : (es.take 40).length ≤ 40 := List.length_take_le _ _
  obtain ⟨a, n, c, rfl, hnc, hcm⟩ := hc
  have hlt := Rd.take hl 40
  have hn : n = es.length := by
    obtain ⟨a', c', hv, -⟩ := hl
    simp only [Value.slice.injEq] at hv
    exact hv.2.1
  obtain ⟨at', ct, rfl⟩ := ht.sl
  have HMa := Lib.hid fun W (hb : Below w.heap.size w W) => made_any (es.take 40) hwf _ W ((hlt.below hb (Nat.le_refl _)).mono hb.size) (by omega)
  have hGk := madeTo_ok hwf (es.take 40).length
  have hGl := madeTo_len hwf (es.take 40).length
  obtain ⟨G, hG⟩ : ∃ G, G = madeTo (es.take 40) (es.take 40).length := ⟨_, rfl⟩
  rw [← hG] at HMa hGk hGl ⊢
  have hmn : (min (es.length : Int) 40).toNat = (es.take 40).length := by rw [List.length_take]; omega
  have HMN := Lib.hid hmn
  have HHG := Lib.hid hG
  subst hn
  have HGk := Lib.hid hGk
  clear hl ht hes hts hwf hlt hG hGk hmn HHG
  go_enter Tryz.func17, Tryz.ntmps17
  go_wp2_with fail
  rw [HMN.out]
  have hB0 : Below w.heap.size w (w.alloc (.cells #[.slice none 0 0, .slice none 0 0] 27)) := (Below.refl _ w).alloc (Nat.le_refl _) _
  have hr0 : row? (w.alloc (.cells #[.slice none 0 0, .slice none 0 0] 27)) w.heap.size = some #[.slice none 0 0, .slice none 0 0] := row?_alloc_at _ _ _ _ rfl
  refine (HMa.out _ hB0).mono ?_
  rintro r w1 ⟨vV, vE, rfl, hRG, hb1⟩
  have hs1 := hb1.size
  simp only [World.size_alloc] at hs1
  have HR1 := Lib.hid ((row?_below hb1 (by simp)).trans hr0)
  have HB1 := Lib.hid (hB0.trans (hb1.mono (by simp)))
  have HFr := Lib.hid fun W (hw : Below w1.heap.size w1 W) => from_any G HGk.out vV vE W (RefG.below hRG hw)
  have HRG := Lib.hid hRG
  obtain ⟨aV, cV, hvV⟩ := hRG.1.sl
  obtain ⟨aE, cE, hvE⟩ := hRG.2.sl
  subst hvV hvE
  clear hB0 hr0 hb1 hRG HMa
  obtain ⟨LV, hLV⟩ : ∃ LV, LV = G.V.length := ⟨_, rfl⟩
  obtain ⟨LE, hLE⟩ : ∃ LV, LV = G.E.length := ⟨_, rfl⟩
  have HLV := Lib.hid hLV
  rw [← hLV] at hGl
  rw [← hLV, ← hLE] at HFr HRG ⊢
  clear hLV hLE
  go_wp2_with fail
  have hb1 : Below w1.heap.size w1 (w1.alloc (.cells #[.slice aV LV cV, .slice aE LE cE] 27)) := (Below.refl _ w1).alloc (Nat.le_refl _) _
  have hr1 : row? (w1.alloc (.cells #[.slice aV LV cV, .slice aE LE cE] 27)) w1.heap.size = some #[.slice aV LV cV, .slice aE LE cE] := row?_alloc_at _ _ _ _ rfl
  refine (HFr.out _ hb1).mono ?_
  rintro r w2 ⟨g, bV, bE, rfl, hG2, ⟨hg0, hV0, hE0⟩, hb2⟩
  simp only [World.size_alloc] at hg0 hV0 hE0
  have hb2' := hb1.trans (hb2.mono (by simp))
  have hs2 := hb2.size
  simp only [World.size_alloc] at hs2
  have HR2 := Lib.hid ((row?_below hb2' (by omega)).trans HR1.out)
  have HRW := Lib.hid ((row?_below hb2 (by simp)).trans hr1)
  have HB2 := Lib.hid (HB1.out.trans (hb2'.mono HB1.out.size))
  have HG2 := Lib.hid hG2
  have HRG2 := Lib.hid (RefG.below HRG.out hb2')
  clear hG2 hb2 hb2' hb1 hr1 HFr HRG HB1 HR1
  go_wp2_with fail
  go_loopw [10, 11] (fun vo i wr => ∃ k : Nat, k ≤ LV ∧ i = .int .i64 (k : Int) ∧ OwnIN w2.heap.size wr vo (G.ids'.take k) ∧ Below w2.heap.size w2 wr) (fun _ i _ => LV - (intOf i).toNat)
  case atStart => exact ⟨0, by omega, rfl, OwnR.nil _ _, Below.refl _ _⟩
  case round =>
    obtain ⟨k, hk, rfl, hO, hb⟩ := hrel
    have HO := Lib.hid hO
    have HB := Lib.hid hb
    have hs := hb.size
    have hrw := (row?_below hb (by omega)).trans HRW.out
    have k20 := cell?_row (i := 0) hrw
    simp at k20
    obtain ⟨qa, ca, rfl⟩ := hO.sl
    clear hO hb
    have hll : (G.ids'.take k).length = k := by rw [List.length_take, Gr.ids', List.length_map, ← HLV.out]; omega
    obtain ⟨acc, ha⟩ : ∃ acc, acc = G.ids'.take k := ⟨_, rfl⟩
    rw [← ha] at HO hll ⊢
    have HA := Lib.hid ha
    clear ha
    rw [hll] at HO ⊢
    by_cases hlt : k < LV
    · obtain ⟨b, off, c', y, h1, hbb, hy, hcc⟩ := HRG2.out.1.at (by rw [← HLV.out]; exact hlt)
      simp only [Value.slice.injEq] at h1
      obtain ⟨rfl, -, rfl⟩ := h1
      have hid : G.ids'[k]? = some y.1 := by unfold Gr.ids'; rw [List.getElem?_map, hy]; rfl
      have HAC := Lib.hid (show G.ids'.take (k + 1) = acc ++ [y.1] by rw [take_snoc hid, HA.out])
      have c0 := hcc wr HB.out 0 (.int .i64 y.1) rfl
      simp only [Nat.add_zero] at c0
      clear hy hcc hid hbb
      go_wp2_with (at_builtin; refine wpList_appO elIN 48 Tryz.underlying48 rfl _ _ rfl w2.heap.size _ acc rfl (HO.out.below (C := wr.heap.size) ((Below.refl _ wr).alloc (Nat.le_refl _) _) (Nat.le_refl _)) wr.heap.size y.1 _ rfl (row?_alloc_at _ _ _ _ rfl) (by omega) (by simp; omega) ?_)
      intro v5 w5 hO5 hb5 hg5 hl5
      obtain ⟨q5, c5, rfl⟩ := hO5.sl
      have HO5 := Lib.hid hO5
      have HB5 := Lib.hid ((HB.out.alloc hs _).trans hb5)
      clear hO5 hb5 hg5 hl5 c0 hrw k20
      go_wp2_with fail
      go_roundw
      case rel => exact ⟨k + 1, by omega, by go_num, by rw [HAC.out]; exact HO5.out, HB5.out⟩
      case measure => simp [intOf]; omega
    · have hkn : LV = k := by omega
      subst hkn
      have hall : acc = G.ids' := by rw [HA.out, List.take_of_length_le (by rw [Gr.ids', List.length_map, ← HLV.out]; omega)]
      have HAll := Lib.hid hall
      clear hall
      go_wp2_with fail
      obtain ⟨W3, hW3⟩ : ∃ W3, W3 = wr := ⟨_, rfl⟩
      rw [← hW3] at HO HB hs ⊢
      clear hW3 hrw k20
      have HBw2 := HB2
      go_loopw [12] (fun i wr => ∃ (k : Nat) (o : List Int), k ≤ ts.length ∧ i = .int .i64 (k : Int) ∧ OwnIN w2.heap.size wr (.slice qa LV ca) o ∧ o.Perm G.ids' ∧ Below w2.heap.size w2 wr) (fun i _ => ts.length - (intOf i).toNat)
      case atStart => exact ⟨0, acc, by omega, rfl, HO.out, by rw [HAll.out], HB.out⟩
      case round =>
        obtain ⟨k, o, hk, rfl, hO, hp, hb⟩ := hrel
        have HO2 := Lib.hid hO
        have HP := Lib.hid hp
        have HB2 := Lib.hid hb
        have hs3 := hb.size
        have hol : o.length = acc.length := by rw [hp.length_eq, ← HAll.out]
        clear hO hp hb
        by_cases hc1 : k < ts.length
        · by_cases hc2 : (k : Int) < 60
          · by_cases hc3 : 0 < acc.length
            · obtain ⟨b, off, c', t, h1, hbb, ht, hcc⟩ := HT.out.at hc1
              simp only [Value.slice.injEq] at h1
              obtain ⟨rfl, -, rfl⟩ := h1
              have c0 := hcc wr (HBw2.out.trans (HB2.out.mono HBw2.out.size)) 0 (.int .u8 (t : Int)) rfl
              simp only [Nat.mul_one, Nat.add_zero] at c0
              have ht256 := HTS.out t (List.mem_of_getElem? ht)
              clear hcc ht hbb
              obtain ⟨p, hp⟩ : ∃ p, p = t % acc.length := ⟨_, rfl⟩
              obtain ⟨q, hq⟩ : ∃ q, q = k % acc.length := ⟨_, rfl⟩
              have hpl : p < acc.length := by rw [hp]; exact Nat.mod_lt _ hc3
              have hql : q < acc.length := by rw [hq]; exact Nat.mod_lt _ hc3
              have hpm : ((t : Int) % (LV : Int)) = (p : Int) := by rw [hp, hll]; exact (Int.natCast_emod t LV).symm
              have hqm : ((k : Int) % (LV : Int)) = (q : Int) := by rw [hq, hll]; exact (Int.natCast_emod k LV).symm
              obtain ⟨x, hx⟩ : ∃ x, o[p]? = some x := ⟨_, List.getElem?_eq_getElem (by omega)⟩
              obtain ⟨y, hy⟩ : ∃ y, o[q]? = some y := ⟨_, List.getElem?_eq_getElem (by omega)⟩
              obtain ⟨g', rfl, hg'⟩ : ∃ g', qa = some ⟨g', 0, none⟩ ∧ w2.heap.size ≤ g' := by
                rcases HO2.out.2 with ⟨h, h2⟩ | ⟨g, cap, cur, h, h2, _⟩
                · simp only [Value.slice.injEq] at h; omega
                · simp only [Value.slice.injEq] at h
                  exact ⟨g, h.1, h2⟩
              have hgl := HO2.out.lt g' rfl
              have hod : OwnIN w2.heap.size wr (.slice (some ⟨g', 0, none⟩) LV ca) o := HO2.out
              obtain ⟨cp, fp⟩ := own_int_cell hod hx
              obtain ⟨cq, fq⟩ := own_int_cell hod hy
              have ho1 := own_int hod hx y
              obtain ⟨y', hy'⟩ : ∃ y', (o.set p y)[q]? = some y' := ⟨_, List.getElem?_eq_getElem (by rw [List.length_set]; omega)⟩
              obtain ⟨cq1, fq1⟩ := own_int_cell ho1 hy'
              have ho2 := own_int ho1 hy' x
              have hperm := (set_swap_perm hx hy).trans HP.out
              have HO3 := Lib.hid ho2
              have HP3 := Lib.hid hperm
              have HB3 := Lib.hid ((HB2.out.setCell (p := ⟨g', p, none⟩) hg' (.int .i64 y)).setCell (p := ⟨g', q, none⟩) hg' (.int .i64 x)).drew
              have hpL : p < LV := by omega
              have hqL : q < LV := by omega
              clear hp hq hx hy hy' ho1 ho2 hperm hod
              go_wp2_with fail
              rw [hpm, hqm]
              clear hpm hqm c0
              refine wp_region_mixZ (fun W => W = wr.drew) (fun _ => True) 13 [(0, true), (1, true), (2, true), (3, true), (4, true), (5, true), (6, true), (7, true), (8, true), (9, true), (10, true), (11, true), (12, true), (13, false), (14, true), (15, false)] (by kernel_rfl) (by kernel_rfl) rfl ?_
              repeat (first | (apply wpPlanZ_free rfl rfl; (intro w; go_simp; (try go_ints); (first | with_reducible rfl | (go_simp; with_reducible rfl))); (intro K hK; go_simp; (try go_ints); refine hK _ _ ?_; clear hK K)) | (apply wpPlanZ_freeG rfl rfl; (intro w; go_simp; (try go_ints); (first | with_reducible rfl | (go_simp; with_reducible rfl))); (intro K hK; go_simp; (try go_ints); refine hK _ _ ?_; clear hK K)))
              apply wpPlanZ_old rfl rfl (by kernel_rfl)
              · intro w hw
                subst hw
                go_simp
                (try go_ints)
                first | with_reducible rfl | (go_simp; with_reducible rfl)
              intro K hK
              go_simp
              (try go_ints)
              refine hK _ _ ?_
              clear hK K
              repeat (first | (apply wpPlanZ_free rfl rfl; (intro w; go_simp; (try go_ints); (first | with_reducible rfl | (go_simp; with_reducible rfl))); (intro K hK; go_simp; (try go_ints); refine hK _ _ ?_; clear hK K)) | (apply wpPlanZ_freeG rfl rfl; (intro w; go_simp; (try go_ints); (first | with_reducible rfl | (go_simp; with_reducible rfl))); (intro K hK; go_simp; (try go_ints); refine hK _ _ ?_; clear hK K)))
              apply wpPlanZ_old rfl rfl (by kernel_rfl)
              · intro w hw
                subst hw
                go_simp
                (try go_ints)
                first | with_reducible rfl | (go_simp; with_reducible rfl)
              intro K hK
              go_simp
              (try go_ints)
              refine hK _ _ ?_
              clear hK K
              repeat (first | (apply wpPlanZ_free rfl rfl; (intro w; go_simp; (try go_ints); (first | with_reducible rfl | (go_simp; with_reducible rfl))); (intro K hK; go_simp; (try go_ints); refine hK _ _ ?_; clear hK K)) | (apply wpPlanZ_freeG rfl rfl; (intro w; go_simp; (try go_ints); (first | with_reducible rfl | (go_simp; with_reducible rfl))); (intro K hK; go_simp; (try go_ints); refine hK _ _ ?_; clear hK K)))
              apply wpPlanZ_act rfl rfl (by decide)
              intro K hK
              unfold Oper.wp
              go_simp
              refine hK _ _ trivial ?_
              clear hK K
              repeat (first | (apply wpPlanZ_free rfl rfl; (intro w; go_simp; (try go_ints); (first | with_reducible rfl | (go_simp; with_reducible rfl))); (intro K hK; go_simp; (try go_ints); refine hK _ _ ?_; clear hK K)) | (apply wpPlanZ_freeG rfl rfl; (intro w; go_simp; (try go_ints); (first | with_reducible rfl | (go_simp; with_reducible rfl))); (intro K hK; go_simp; (try go_ints); refine hK _ _ ?_; clear hK K)))
              apply wpPlanZ_act rfl rfl (by decide)
              intro K hK
              unfold Oper.wp
              go_simp
              refine hK _ _ trivial ?_
              clear hK K
              refine wpPlanZ_nil ?_
              clear cp fp cq fq cq1 fq1
              go_wp2_with fail
              go_roundw
              case rel => exact ⟨k + 1, _, by omega, by go_num, HO3.out.same fun g hg => rfl, HP3.out, HB3.out⟩
              case measure => simp [intOf]; omega
            · have hr2 := (row?_below HB2.out (by omega)).trans HR2.out
              have hrw := (row?_below HB2.out (by omega)).trans HRW.out
              have hr2d : row? wr.drew w.heap.size = some #[.slice none 0 0, .slice none 0 0] := hr2
              have hrwd : row? wr.drew w1.heap.size = some #[.slice aV LV cV, .slice aE LE cE] := hrw
              have HR2d := Lib.hid hr2
              go_wp2_with fail
              clear hr2 hrw
              refine wp_region_mixZ (fun W => W = wr.drew) (fun _ => True) 11 [(0, true), (1, true), (2, true), (3, true), (4, true), (5, true), (6, true), (7, true), (8, true), (9, true), (10, true), (11, false), (12, true), (13, true)] (by kernel_rfl) (by kernel_rfl) rfl ?_
              repeat (first | (apply wpPlanZ_free rfl rfl; (intro w; go_simp; (try go_ints); (first | with_reducible rfl | (go_simp; with_reducible rfl))); (intro K hK; go_simp; (try go_ints); refine hK _ _ ?_; clear hK K)) | (apply wpPlanZ_freeG rfl rfl; (intro w; go_simp; (try go_ints); (first | with_reducible rfl | (go_simp; with_reducible rfl))); (intro K hK; go_simp; (try go_ints); refine hK _ _ ?_; clear hK K)))
              apply wpPlanZ_old rfl rfl (by kernel_rfl)
              · intro w hw
                subst hw
                go_simp
                (try go_ints)
                first | with_reducible rfl | (go_simp; with_reducible rfl)
              intro K hK
              go_simp
              (try go_ints)
              refine hK _ _ ?_
              clear hK K
              repeat (first | (apply wpPlanZ_free rfl rfl; (intro w; go_simp; (try go_ints); (first | with_reducible rfl | (go_simp; with_reducible rfl))); (intro K hK; go_simp; (try go_ints); refine hK _ _ ?_; clear hK K)) | (apply wpPlanZ_freeG rfl rfl; (intro w; go_simp; (try go_ints); (first | with_reducible rfl | (go_simp; with_reducible rfl))); (intro K hK; go_simp; (try go_ints); refine hK _ _ ?_; clear hK K)))
              apply wpPlanZ_act rfl rfl (by decide)
              intro K hK
              unfold Oper.wp
              go_simp
              refine hK _ _ trivial ?_
              clear hK K
              repeat (first | (apply wpPlanZ_free rfl rfl; (intro w; go_simp; (try go_ints); (first | with_reducible rfl | (go_simp; with_reducible rfl))); (intro K hK; go_simp; (try go_ints); refine hK _ _ ?_; clear hK K)) | (apply wpPlanZ_freeG rfl rfl; (intro w; go_simp; (try go_ints); (first | with_reducible rfl | (go_simp; with_reducible rfl))); (intro K hK; go_simp; (try go_ints); refine hK _ _ ?_; clear hK K)))
              refine wpPlanZ_nil ?_
              clear hrwd hr2d
              go_wp2_with fail
              refine ret_p4 w.heap.size #[.slice aV LV cV, .slice aE LE cE] rfl Tryz.isAgg27 Tryz.sizeOf27 rfl rfl (row?_setRow_same _ _ _ (by rw [HR2d.out]; rfl)) rfl ⟨g, bV, bE, .slice aV LV cV, .slice aE LE cE, .slice qa LV ca, o, by rw [show decide (es.length ≤ 40) = decide ((es.length : Int) ≤ 40) by rw [Bool.eq_iff_iff]; simp; omega]; rfl, ?_, ?_, ?_, HP.out, ?_⟩
              · have hgw := (HG2.out.below HB2.out)
                exact hgw.congr (setRow_other _ _ _ _ (by omega)) (setRow_other _ _ _ _ (by omega)) (setRow_other _ _ _ _ (by omega))
              · have hrg := RefG.below HRG2.out (HB2.out.drew)
                exact ⟨rd_setRow (fun x => ⟨_, rfl⟩) hrg.1 HR2d.out _, rd_setRow (fun x => ⟨_, rfl⟩) hrg.2 HR2d.out _⟩
              · refine rdl_of (Rd.mono (OwnR.rd elIN (OwnR.same HO2.out fun g hg => setRow_other _ _ g _ (by have := HO2.out.block g hg; omega))) (Nat.le_refl _))
              · exact below_setRow ((HBw2.out.trans (HB2.out.mono HBw2.out.size)).drew) (Nat.le_refl _) _
          · have hr2 := (row?_below HB2.out (by omega)).trans HR2.out
            have hrw := (row?_below HB2.out (by omega)).trans HRW.out
            have hr2d : row? wr.drew w.heap.size = some #[.slice none 0 0, .slice none 0 0] := hr2
            have hrwd : row? wr.drew w1.heap.size = some #[.slice aV LV cV, .slice aE LE cE] := hrw
            have HR2d := Lib.hid hr2
            go_wp2_with fail
            clear hr2 hrw
            refine wp_region_mixZ (fun W => W = wr.drew) (fun _ => True) 11 [(0, true), (1, true), (2, true), (3, true), (4, true), (5, true), (6, true), (7, true), (8, true), (9, true), (10, true), (11, false), (12, true), (13, true)] (by kernel_rfl) (by kernel_rfl) rfl ?_
            repeat (first | (apply wpPlanZ_free rfl rfl; (intro w; go_simp; (try go_ints); (first | with_reducible rfl | (go_simp; with_reducible rfl))); (intro K hK; go_simp; (try go_ints); refine hK _ _ ?_; clear hK K)) | (apply wpPlanZ_freeG rfl rfl; (intro w; go_simp; (try go_ints); (first | with_reducible rfl | (go_simp; with_reducible rfl))); (intro K hK; go_simp; (try go_ints); refine hK _ _ ?_; clear hK K)))
            apply wpPlanZ_old rfl rfl (by kernel_rfl)
            · intro w hw
              subst hw
              go_simp
              (try go_ints)
              first | with_reducible rfl | (go_simp; with_reducible rfl)
            intro K hK
            go_simp
            (try go_ints)
            refine hK _ _ ?_
            clear hK K
            repeat (first | (apply wpPlanZ_free rfl rfl; (intro w; go_simp; (try go_ints); (first | with_reducible rfl | (go_simp; with_reducible rfl))); (intro K hK; go_simp; (try go_ints); refine hK _ _ ?_; clear hK K)) | (apply wpPlanZ_freeG rfl rfl; (intro w; go_simp; (try go_ints); (first | with_reducible rfl | (go_simp; with_reducible rfl))); (intro K hK; go_simp; (try go_ints); refine hK _ _ ?_; clear hK K)))
            apply wpPlanZ_act rfl rfl (by decide)
            intro K hK
            unfold Oper.wp
            go_simp
            refine hK _ _ trivial ?_
            clear hK K
            repeat (first | (apply wpPlanZ_free rfl rfl; (intro w; go_simp; (try go_ints); (first | with_reducible rfl | (go_simp; with_reducible rfl))); (intro K hK; go_simp; (try go_ints); refine hK _ _ ?_; clear hK K)) | (apply wpPlanZ_freeG rfl rfl; (intro w; go_simp; (try go_ints); (first | with_reducible rfl | (go_simp; with_reducible rfl))); (intro K hK; go_simp; (try go_ints); refine hK _ _ ?_; clear hK K)))
            refine wpPlanZ_nil ?_
            clear hrwd hr2d
            go_wp2_with fail
            refine ret_p4 w.heap.size #[.slice aV LV cV, .slice aE LE cE] rfl Tryz.isAgg27 Tryz.sizeOf27 rfl rfl (row?_setRow_same _ _ _ (by rw [HR2d.out]; rfl)) rfl ⟨g, bV, bE, .slice aV LV cV, .slice aE LE cE, .slice qa LV ca, o, by rw [show decide (es.length ≤ 40) = decide ((es.length : Int) ≤ 40) by rw [Bool.eq_iff_iff]; simp; omega]; rfl, ?_, ?_, ?_, HP.out, ?_⟩
            · have hgw := (HG2.out.below HB2.out)
              exact hgw.congr (setRow_other _ _ _ _ (by omega)) (setRow_other _ _ _ _ (by omega)) (setRow_other _ _ _ _ (by omega))
            · have hrg := RefG.below HRG2.out (HB2.out.drew)
              exact ⟨rd_setRow (fun x => ⟨_, rfl⟩) hrg.1 HR2d.out _, rd_setRow (fun x => ⟨_, rfl⟩) hrg.2 HR2d.out _⟩
            · refine rdl_of (Rd.mono (OwnR.rd elIN (OwnR.same HO2.out fun g hg => setRow_other _ _ g _ (by have := HO2.out.block g hg; omega))) (Nat.le_refl _))
            · exact below_setRow ((HBw2.out.trans (HB2.out.mono HBw2.out.size)).drew) (Nat.le_refl _) _
        · have hr2 := (row?_below HB2.out (by omega)).trans HR2.out
          have hrw := (row?_below HB2.out (by omega)).trans HRW.out
          have hr2d : row? wr.drew w.heap.size = some #[.slice none 0 0, .slice none 0 0] := hr2
          have hrwd : row? wr.drew w1.heap.size = some #[.slice aV LV cV, .slice aE LE cE] := hrw
          have HR2d := Lib.hid hr2
          go_wp2_with fail
          clear hr2 hrw
          refine wp_region_mixZ (fun W => W = wr.drew) (fun _ => True) 11 [(0, true), (1, true), (2, true), (3, true), (4, true), (5, true), (6, true), (7, true), (8, true), (9, true), (10, true), (11, false), (12, true), (13, true)] (by kernel_rfl) (by kernel_rfl) rfl ?_
          repeat (first | (apply wpPlanZ_free rfl rfl; (intro w; go_simp; (try go_ints); (first | with_reducible rfl | (go_simp; with_reducible rfl))); (intro K hK; go_simp; (try go_ints); refine hK _ _ ?_; clear hK K)) | (apply wpPlanZ_freeG rfl rfl; (intro w; go_simp; (try go_ints); (first | with_reducible rfl | (go_simp; with_reducible rfl))); (intro K hK; go_simp; (try go_ints); refine hK _ _ ?_; clear hK K)))
          apply wpPlanZ_old rfl rfl (by kernel_rfl)
          · intro w hw
            subst hw
            go_simp
            (try go_ints)
            first | with_reducible rfl | (go_simp; with_reducible rfl)
          intro K hK
          go_simp
          (try go_ints)
          refine hK _ _ ?_
          clear hK K
          repeat (first | (apply wpPlanZ_free rfl rfl; (intro w; go_simp; (try go_ints); (first | with_reducible rfl | (go_simp; with_reducible rfl))); (intro K hK; go_simp; (try go_ints); refine hK _ _ ?_; clear hK K)) | (apply wpPlanZ_freeG rfl rfl; (intro w; go_simp; (try go_ints); (first | with_reducible rfl | (go_simp; with_reducible rfl))); (intro K hK; go_simp; (try go_ints); refine hK _ _ ?_; clear hK K)))
          apply wpPlanZ_act rfl rfl (by decide)
          intro K hK
          unfold Oper.wp
          go_simp
          refine hK _ _ trivial ?_
          clear hK K
          repeat (first | (apply wpPlanZ_free rfl rfl; (intro w; go_simp; (try go_ints); (first | with_reducible rfl | (go_simp; with_reducible rfl))); (intro K hK; go_simp; (try go_ints); refine hK _ _ ?_; clear hK K)) | (apply wpPlanZ_freeG rfl rfl; (intro w; go_simp; (try go_ints); (first | with_reducible rfl | (go_simp; with_reducible rfl))); (intro K hK; go_simp; (try go_ints); refine hK _ _ ?_; clear hK K)))
          refine wpPlanZ_nil ?_
          clear hrwd hr2d
          go_wp2_with fail
          refine ret_p4 w.heap.size #[.slice aV LV cV, .slice aE LE cE] rfl Tryz.isAgg27 Tryz.sizeOf27 rfl rfl (row?_setRow_same _ _ _ (by rw [HR2d.out]; rfl)) rfl ⟨g, bV, bE, .slice aV LV cV, .slice aE LE cE, .slice qa LV ca, o, by rw [show decide (es.length ≤ 40) = decide ((es.length : Int) ≤ 40) by rw [Bool.eq_iff_iff]; simp; omega]; rfl, ?_, ?_, ?_, HP.out, ?_⟩
          · have hgw := (HG2.out.below HB2.out)
            exact hgw.congr (setRow_other _ _ _ _ (by omega)) (setRow_other _ _ _ _ (by omega)) (setRow_other _ _ _ _ (by omega))
          · have hrg := RefG.below HRG2.out (HB2.out.drew)
            exact ⟨rd_setRow (fun x => ⟨_, rfl⟩) hrg.1 HR2d.out _, rd_setRow (fun x => ⟨_, rfl⟩) hrg.2 HR2d.out _⟩
          · refine rdl_of (Rd.mono (OwnR.rd elIN (OwnR.same HO2.out fun g hg => setRow_other _ _ g _ (by have := HO2.out.block g hg; omega))) (Nat.le_refl _))
          · exact below_setRow ((HBw2.out.trans (HB2.out.mono HBw2.out.size)).drew) (Nat.le_refl _) _
end Go.Proofs.YtmmhngjndnonhaaGreatDoor
