/-
  Walks of package treedecomp: depths.
-/
import Derived.Test.YtkoeeabeoefggaaDoorQTree3
import Derived.Test.YtkoeeabeoefggaaDoorQPlain
namespace Go.Proofs.YtkoeeabeoefggaaDoor
open Go Go.RowKit Go.Pal

/-- What the walk down of depths finds: boxes and rows. -/
structure DSt (n gD gO gF gG gK gW : Nat) (vs : List Value) (kids : Nat → List Int) (ds : List Int) (found : Nat) (w : World) : Prop where
  data : row? w gD = some (ds.map (Value.int .i64)).toArray
  out : row? w gO = some #[.slice (some ⟨gD, 0, none⟩) n n]
  cnt : row? w gF = some #[.int .i64 (found : Int)]
  box : row? w gK = some #[.slice (some ⟨gG, 0, none⟩) n n]
  grid : Grid gG w vs kids
  fn : row? w gW = some #[.func (.func 67) #[] #[.pointer (some ⟨gO, 0, none⟩), .pointer (some ⟨gF, 0, none⟩), .pointer (some ⟨gK, 0, none⟩), .pointer (some ⟨gW, 0, none⟩)]]

theorem DSt.step {n gD gO gF gG gK gW : Nat} {vs : List Value} {kids : Nat → List Int} {ds : List Int} {found b deep : Nat} {w : World} (h : DSt n gD gO gF gG gK gW vs kids ds found w) (hord : gD < gO ∧ gO < gF ∧ gF < gG ∧ gG < gK ∧ gK < gW) :
    DSt n gD gO gF gG gK gW vs kids (ds.set b deep) (found + 1) ((w.setCell ⟨gD, b, none⟩ (.int .i64 deep)).setCell ⟨gF, 0, none⟩ (.int .i64 ((found : Int) + 1))) := by
  have n1 : ¬ gD = gF := by omega
  have n2 : ¬ gO = gF := by omega
  have n3 : ¬ gO = gD := by omega
  have n4 : ¬ gK = gF := by omega
  have n5 : ¬ gK = gD := by omega
  have n6 : ¬ gW = gF := by omega
  have n7 : ¬ gW = gD := by omega
  have n8 : ¬ gF = gD := by omega
  refine ⟨?_, ?_, ?_, ?_, ?_, ?_⟩
  · simp [go_sem, n1, h.data]
  · simp [go_sem, n2, n3, h.out]
  · simp [go_sem, n8, h.cnt]
  · simp [go_sem, n4, n5, h.box]
  · exact h.grid.same fun k hk _ => (heap_setCell_other _ _ _ _ (by show k ≠ gF; omega)).trans (heap_setCell_other _ _ _ _ (by show k ≠ gD; omega))
  · simp [go_sem, n6, n7, h.fn]
theorem DSt.of_same {n gD gO gF gG gK gW : Nat} {vs : List Value} {kids : Nat → List Int} {ds : List Int} {found : Nat} {w w' : World} (h : DSt n gD gO gF gG gK gW vs kids ds found w) (hs : ∀ k, k < w.heap.size → w'.heap[k]? = w.heap[k]?) : DSt n gD gO gF gG gK gW vs kids ds found w' :=
  ⟨(row?_congr (hs _ (row?_lt h.data))).trans h.data, (row?_congr (hs _ (row?_lt h.out))).trans h.out, (row?_congr (hs _ (row?_lt h.cnt))).trans h.cnt, (row?_congr (hs _ (row?_lt h.box))).trans h.box, h.grid.same fun k _ hk => hs k hk, (row?_congr (hs _ (row?_lt h.fn))).trans h.fn⟩

set_option maxRecDepth 10000 in
set_option maxHeartbeats 1000000 in
theorem depths1_any (n gD gO gF gG gK gW : Nat) (vs : List Value) (kids : Nat → List Int) (hvs : vs.length = n) (_hn : n ≤ 65536) (hord : gD < gO ∧ gO < gF ∧ gF < gG ∧ gG < gK ∧ gK < gW) :
    ∀ (t : Tr), Fits n kids t → ∀ (deep found : Nat) (ds : List Int) (w : World), ds.length = n → deep + t.sz ≤ 1000000 → found + t.sz ≤ 1000000 → DSt n gD gO gF gG gK gW vs kids ds found w →
    Calls Tryd.prog 67 #[.int .i64 (t.lab : Int), .int .i64 (deep : Int), .pointer (some ⟨gO, 0, none⟩), .pointer (some ⟨gF, 0, none⟩), .pointer (some ⟨gK, 0, none⟩), .pointer (some ⟨gW, 0, none⟩)] w
      fun e w' => (∃ v, e = .returned v) ∧ DSt n gD gO gF gG gK gW vs kids (t.ds deep ds) (found + t.sz) w' ∧ Same (fun k => k ≠ gD ∧ k ≠ gF) w w' := by
  intro t
  induction t using Tr.induct with
  | h b ks ih =>
  intro hfit deep found ds w hds hd hf2 hS
  obtain ⟨hb, hk, hf⟩ : b < n ∧ kids b = ks.map (fun t => (t.lab : Int)) ∧ ∀ t ∈ ks, Fits n kids t := by
    cases hfit with
    | mk _ _ h1 h2 h3 => exact ⟨h1, h2, h3⟩
  have IH := Lib.hid ih; clear ih
  have HF := Lib.hid hf; clear hf hfit
  have HK := Lib.hid hk; clear hk
  obtain ⟨h12, h23, h34, h45, h56⟩ := hord
  obtain ⟨u, hu⟩ : ∃ u, vs[b]? = some u := ⟨_, List.getElem?_eq_getElem (by rw [hvs]; exact hb)⟩
  obtain ⟨x0, hx0⟩ : ∃ x, ds[b]? = some x := ⟨_, List.getElem?_eq_getElem (by rw [hds]; exact hb)⟩
  have hown := hS.grid.own b u hu
  have e1 := cell?_row (i := 0) hS.out
  have e2 := cell?_row (i := 0) hS.cnt
  have e3 := cell?_row (i := 0) hS.box
  have e4 : w.cell? ⟨gG, b, none⟩ = some u := (cell?_row hS.grid.row).trans (by simp [hu])
  have e5 : w.cell? ⟨gD, b, none⟩ = some (.int .i64 x0) := (cell?_row hS.data).trans (by simp [hx0])
  have f1 := frozen?_row (i := b) hS.data
  have f2 := frozen?_row (i := 0) hS.cnt
  simp at e1 e2 e3
  obtain ⟨q, m, c, rfl⟩ := hown.slice
  have hm := hown.len
  rw [HK.out, List.length_map] at hm
  subst hm
  have HS := Lib.hid hS
  have HO := Lib.hid hown
  clear hS hown
  have n1 : ¬ gO = gD := by omega
  have n2 : ¬ gF = gD := by omega
  have n3 : ¬ gK = gD := by omega
  have n4 : ¬ gG = gD := by omega
  have n5 : ¬ gK = gF := by omega
  have n6 : ¬ gG = gF := by omega
  simp only [Tr.sz] at hd hf2
  have hszl := Tr.length_le_szs ks
  show Calls Tryd.prog 67 #[.int .i64 (b : Int), _, _, _, _, _] w _
  go_enter Tryd.func67, Tryd.ntmps67
  go_wp2
  obtain ⟨W, hW⟩ : ∃ W, W = (w.setCell ⟨gD, b, none⟩ (.int .i64 deep)).setCell ⟨gF, 0, none⟩ (.int .i64 ((found : Int) + 1)) := ⟨_, rfl⟩
  have hSW : Hid (DSt n gD gO gF gG gK gW vs kids (ds.set b deep) (found + 1) W) := by rw [hW]; exact HS.out.step ⟨h12, h23, h34, h45, h56⟩
  have hsm : Hid (Same (fun k => k ≠ gD ∧ k ≠ gF) w W) := by rw [hW]; exact (Same.setCell _ _ _ _ (by simp)).trans (Same.setCell _ _ _ _ (by simp))
  rw [← hW]
  have HU := Lib.hid hu
  clear hW e1 e2 e3 e4 e5 f1 f2 hu
  go_loopw [21] (fun i wr => ∃ pre rest, ks = pre ++ rest ∧ i = .int .i64 (pre.length : Int) ∧ DSt n gD gO gF gG gK gW vs kids (Tr.dss pre ((deep : Int) + 1) (ds.set b deep)) (found + 1 + Tr.szs pre) wr ∧ Same (fun k => k ≠ gD ∧ k ≠ gF) w wr) (fun i _ => ks.length - (intOf i).toNat)
  case atStart => exact ⟨[], ks, rfl, rfl, hSW.out, hsm.out⟩
  case round =>
    obtain ⟨pre, rest, hks, rfl, hSr, hsr⟩ := hrel
    have HSr := Lib.hid hSr
    have Hsr := Lib.hid hsr
    cases rest with
    | nil =>
      have hkl : ks.length = pre.length := by rw [hks]; simp
      clear hSr hsr
      have HKS := Lib.hid hks; clear hks
      rw [hkl]
      go_wp2
      go_end0
      refine ⟨⟨_, rfl⟩, ?_, Hsr.out⟩
      have := HSr.out
      rw [HKS.out, List.append_nil]
      simpa only [Tr.ds, Tr.sz, Nat.add_assoc] using this
    | cons t rest =>
      have hlt : pre.length < ks.length := by rw [hks]; simp
      have hz : (kids b)[pre.length]? = some (t.lab : Int) := by rw [HK.out, hks]; simp
      obtain ⟨g, rfl, hg1, hg2, hc⟩ := (hSr.grid.own b _ HU.out).cell hz
      have e7 : wr.cell? ⟨gW, 0, none⟩ = _ := cell?_row (i := 0) hSr.fn
      simp at e7
      have hszp : Tr.szs ks = Tr.szs pre + (t.sz + Tr.szs rest) := by rw [hks, Tr.szs_append]; rfl
      have HKS := Lib.hid hks; clear hks hSr hsr
      go_wp2_with fail
      have hcall := IH.out t (by rw [HKS.out]; simp) (HF.out t (by rw [HKS.out]; simp)) (deep + 1) (found + 1 + Tr.szs pre) (Tr.dss pre ((deep : Int) + 1) (ds.set b deep)) wr (by rw [Tr.length_dss, List.length_set]; exact hds) (by omega) (by omega) HSr.out
      push_cast at hcall
      refine hcall.mono ?_
      rintro e w2 ⟨⟨v, rfl⟩, hS2, hs2⟩
      have HS2 : Hid (DSt n gD gO gF gG gK gW vs kids (Tr.dss (pre ++ [t]) ((deep : Int) + 1) (ds.set b deep)) (found + 1 + Tr.szs (pre ++ [t])) w2) := by
        show DSt _ _ _ _ _ _ _ _ _ _ _ _
        rw [Tr.dss_append, Tr.szs_append]
        simpa only [Tr.dss, Tr.szs, Nat.add_zero, Nat.add_assoc] using hS2
      have Hs2 := Lib.hid (Hsr.out.trans hs2)
      clear hcall hS2 hs2
      go_wp2
      go_roundw
      case rel => exact ⟨pre ++ [t], rest, by rw [HKS.out]; simp, by simp, HS2.out, Hs2.out⟩
      case measure => simp [intOf]; omega
end Go.Proofs.YtkoeeabeoefggaaDoor
