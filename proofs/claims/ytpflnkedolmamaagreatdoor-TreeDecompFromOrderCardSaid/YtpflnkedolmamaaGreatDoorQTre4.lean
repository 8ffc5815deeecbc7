/-
  Walks of package treedecomp: depths.
  Walks of package treedecomp: depths, for a tree with one root.
-/
import Derived.Test.YtpflnkedolmamaaGreatDoorQTree3
import Derived.Test.YtpflnkedolmamaaGreatDoorQPlain
namespace Go.Proofs.YtpflnkedolmamaaGreatDoor
open Go Go.RowKit Go.Pal

/-- What the walk down of depths finds: boxes and rows. -/
structure DSt (n gD gO gF gG gK gW : Nat) (vs : List Value) (kids : Nat → List Int) (ds : List Int) (found : Nat) (w : World) : Prop where
  data : row? w gD = some (ds.map (Value.int .i64)).toArray
  out : row? w gO = some #[.slice (some ⟨gD, 0, none⟩) n n]
  cnt : row? w gF = some #[.int .i64 (found : Int)]
  box : row? w gK = some #[.slice (some ⟨gG, 0, none⟩) n n]
  grid : Grid gG w vs kids
  fn : row? w gW = some #[.func (.func 130) #[] #[.pointer (some ⟨gO, 0, none⟩), .pointer (some ⟨gF, 0, none⟩), .pointer (some ⟨gK, 0, none⟩), .pointer (some ⟨gW, 0, none⟩)]]

theorem DSt.step {n gD gO gF gG gK gW : Nat} {vs : List Value} {kids : Nat → List Int} {ds : List Int} {found b deep : Nat} {w : World} (h : DSt n gD gO gF gG gK gW vs kids ds found w) (hord : gD < gO ∧ gO < gF ∧ gF < gG ∧ gG < gK ∧ gK < gW) :
    DSt n gD gO gF gG gK gW vs kids (ds.set b deep) (found + 1) ((w.setCell ⟨gD, b, none⟩ (.int .i64 deep)).setCell ⟨gF, 0, none⟩ (.int .i64 ((found : Int) + 1))) := by
  have n1 : ¬ gD = gF := by omega
  have n2 : ¬ gO = gF := by omega
  have n3 : ¬ gO = gD := by omega
  have n4 : ¬ gK = gF := by omega
  have n5 : ¬ gK = gD := by omega
  have n6 : ¬ gW = gF := by omega
  have n7 : ¬ gW = gD := by omega
  have n8 : ¬ gF = gD := by omega
  refine ⟨?_, ?_, ?_, ?_, ?_, ?_⟩
  · simp [go_sem, n1, h.data]
  · simp [go_sem, n2, n3, h.out]
  · simp [go_sem, n8, h.cnt]
  · simp [go_sem, n4, n5, h.box]
  · exact h.grid.same fun k hk _ => (heap_setCell_other _ _ _ _ (by show k ≠ gF; omega)).trans (heap_setCell_other _ _ _ _ (by show k ≠ gD; omega))
  · simp [go_sem, n6, n7, h.fn]
theorem DSt.of_same {n gD gO gF gG gK gW : Nat} {vs : List Value} {kids : Nat → List Int} {ds : List Int} {found : Nat} {w w' : World} (h : DSt n gD gO gF gG gK gW vs kids ds found w) (hs : ∀ k, k < w.heap.size → w'.heap[k]? = w.heap[k]?) : DSt n gD gO gF gG gK gW vs kids ds found w' :=
  ⟨(row?_congr (hs _ (row?_lt h.data))).trans h.data, (row?_congr (hs _ (row?_lt h.out))).trans h.out, (row?_congr (hs _ (row?_lt h.cnt))).trans h.cnt, (row?_congr (hs _ (row?_lt h.box))).trans h.box, h.grid.same fun k _ hk => hs k hk, (row?_congr (hs _ (row?_lt h.fn))).trans h.fn⟩

set_option maxRecDepth 10000 in
set_option maxHeartbeats 1000000 in
theorem depths1_any (n gD gO gF gG gK gW : Nat) (vs : List Value) (kids : Nat → List Int) (hvs : vs.length = n) (_hn : n ≤ 65536) (hord : gD < gO ∧ gO < gF ∧ gF < gG ∧ gG < gK ∧ gK < gW) :
    ∀ (t : Tr), Fits n kids t → ∀ (deep found : Nat) (ds : List Int) (w : World), ds.length = n → deep + t.sz ≤ 1000000 → found + t.sz ≤ 1000000 → DSt n gD gO gF gG gK gW vs kids ds found w →
    Calls Tryz.prog 130 #[.int .i64 (t.lab : Int), .int .i64 (deep : Int), .pointer (some ⟨gO, 0, none⟩), .pointer (some ⟨gF, 0, none⟩), .pointer (some ⟨gK, 0, none⟩), .pointer (some ⟨gW, 0, none⟩)] w
      fun e w' => (∃ v, e = .returned v) ∧ DSt n gD gO gF gG gK gW vs kids (t.ds deep ds) (found + t.sz) w' ∧ Same (fun k => k ≠ gD ∧ k ≠ gF) w w' := by
  intro t
  induction t using Tr.induct with
  | h b ks ih =>
  intro hfit deep found ds w hds hd hf2 hS
  obtain ⟨hb, hk, hf⟩ : b < n ∧ kids b = ks.map (fun t => (t.lab : Int)) ∧ ∀ t ∈ ks, Fits n kids t := by
    cases hfit with
    | mk _ _ h1 h2 h3 => exact ⟨h1, h2, h3⟩
  have IH := Lib.hid ih; clear ih
  have HF := Lib.hid hf; clear hf hfit
  have HK := Lib.hid hk; clear hk
  obtain ⟨h12, h23, h34, h45, h56⟩ := hord
  obtain ⟨u, hu⟩ : ∃ u, vs[b]? = some u := ⟨_, List.getElem?_eq_getElem (by rw [hvs]; exact hb)⟩
  obtain ⟨x0, hx0⟩ : ∃ x, ds[b]? = some x := ⟨_, List.getElem?_eq_getElem (by rw [hds]; exact hb)⟩
  have hown := hS.grid.own b u hu
  have e1 := cell?_row (i := 0) hS.out
  have e2 := cell?_row (i := 0) hS.cnt
  have e3 := cell?_row (i := 0) hS.box
  have e4 : w.cell? ⟨gG, b, none⟩ = some u := (cell?_row hS.grid.row).trans (by simp [hu])
  have e5 : w.cell? ⟨gD, b, none⟩ = some (.int .i64 x0) := (cell?_row hS.data).trans (by simp [hx0])
  have f1 := frozen?_row (i := b) hS.data
  have f2 := frozen?_row (i := 0) hS.cnt
  simp at e1 e2 e3
  obtain ⟨q, m, c, rfl⟩ := hown.slice
  have hm := hown.len
  rw [HK.out, List.length_map] at hm
  subst hm
  have HS := Lib.hid hS
  have HO := Lib.hid hown
  clear hS hown
  have n1 : ¬ gO = gD := by omega
  have n2 : ¬ gF = gD := by omega
  have n3 : ¬ gK = gD := by omega
  have n4 : ¬ gG = gD := by omega
  have n5 : ¬ gK = gF := by omega
  have n6 : ¬ gG = gF := by omega
  simp only [Tr.sz] at hd hf2
  have hszl := Tr.length_le_szs ks
  show Calls Tryz.prog 130 #[.int .i64 (b : Int), _, _, _, _, _] w _
  go_enter Tryz.func130, Tryz.ntmps130
  go_wp2
  obtain ⟨W, hW⟩ : ∃ W, W = (w.setCell ⟨gD, b, none⟩ (.int .i64 deep)).setCell ⟨gF, 0, none⟩ (.int .i64 ((found : Int) + 1)) := ⟨_, rfl⟩
  have hSW : Hid (DSt n gD gO gF gG gK gW vs kids (ds.set b deep) (found + 1) W) := by rw [hW]; exact HS.out.step ⟨h12, h23, h34, h45, h56⟩
  have hsm : Hid (Same (fun k => k ≠ gD ∧ k ≠ gF) w W) := by rw [hW]; exact (Same.setCell _ _ _ _ (by simp)).trans (Same.setCell _ _ _ _ (by simp))
  rw [← hW]
  have HU := Lib.hid hu
  clear hW e1 e2 e3 e4 e5 f1 f2 hu
  go_loopw [21] (fun i wr => ∃ pre rest, ks = pre ++ rest ∧ i = .int .i64 (pre.length : Int) ∧ DSt n gD gO gF gG gK gW vs kids (Tr.dss pre ((deep : Int) + 1) (ds.set b deep)) (found + 1 + Tr.szs pre) wr ∧ Same (fun k => k ≠ gD ∧ k ≠ gF) w wr) (fun i _ => ks.length - (intOf i).toNat)
  case atStart => exact ⟨[], ks, rfl, rfl, hSW.out, hsm.out⟩
  case round =>
    obtain ⟨pre, rest, hks, rfl, hSr, hsr⟩ := hrel
    have HSr := Lib.hid hSr
    have Hsr := Lib.hid hsr
    cases rest with
    | nil =>
      have hkl : ks.length = pre.length := by rw [hks]; simp
      clear hSr hsr
      have HKS := Lib.hid hks; clear hks
      rw [hkl]
      go_wp2
      go_end0
      refine ⟨⟨_, rfl⟩, ?_, Hsr.out⟩
      have := HSr.out
      rw [HKS.out, List.append_nil]
      simpa only [Tr.ds, Tr.sz, Nat.add_assoc] using this
    | cons t rest =>
      have hlt : pre.length < ks.length := by rw [hks]; simp
      have hz : (kids b)[pre.length]? = some (t.lab : Int) := by rw [HK.out, hks]; simp
      obtain ⟨g, rfl, hg1, hg2, hc⟩ := (hSr.grid.own b _ HU.out).cell hz
      have e7 : wr.cell? ⟨gW, 0, none⟩ = _ := cell?_row (i := 0) hSr.fn
      simp at e7
      have hszp : Tr.szs ks = Tr.szs pre + (t.sz + Tr.szs rest) := by rw [hks, Tr.szs_append]; rfl
      have HKS := Lib.hid hks; clear hks hSr hsr
      go_wp2_with fail
      have hcall := IH.out t (by rw [HKS.out]; simp) (HF.out t (by rw [HKS.out]; simp)) (deep + 1) (found + 1 + Tr.szs pre) (Tr.dss pre ((deep : Int) + 1) (ds.set b deep)) wr (by rw [Tr.length_dss, List.length_set]; exact hds) (by omega) (by omega) HSr.out
      push_cast at hcall
      refine hcall.mono ?_
      rintro e w2 ⟨⟨v, rfl⟩, hS2, hs2⟩
      have HS2 : Hid (DSt n gD gO gF gG gK gW vs kids (Tr.dss (pre ++ [t]) ((deep : Int) + 1) (ds.set b deep)) (found + 1 + Tr.szs (pre ++ [t])) w2) := by
        show DSt _ _ _ _ _ _ _ _ _ _ _ _
        rw [Tr.dss_append, Tr.szs_append]
        simpa only [Tr.dss, Tr.szs, Nat.add_zero, Nat.add_assoc] using hS2
      have Hs2 := Lib.hid (Hsr.out.trans hs2)
      clear hcall hS2 hs2
      go_wp2
      go_roundw
      case rel => exact ⟨pre ++ [t], rest, by rw [HKS.out]; simp, by simp, HS2.out, Hs2.out⟩
      case measure => simp [intOf]; omega
end Go.Proofs.YtpflnkedolmamaaGreatDoor
namespace Go.Proofs.YtpflnkedolmamaaGreatDoor
open Go Go.RowKit Go.Pal

theorem intBeq (a b : Nat) : ((a : Int) == (b : Int)) = decide (a = b) := by rw [Bool.eq_iff_iff, beq_iff_eq, decide_eq_true_iff]; omega
@[go_sem] theorem run_storeFunc (P : Program) (w : World) (a : Addr) (m : Mode) (fn : Fn) (first captured : Array Value) : (store a (.func fn first captured) m).run P w = stored P w a (.func fn first captured) m := run_store P w a _ m rfl

set_option maxRecDepth 10000 in
set_option maxHeartbeats 1000000 in
theorem depths_any (T : List Bg) (v : Value) (w : World) (hv : Rd bagA 17 w.heap.size w v T) (hlen : T.length ≤ 65536) (hpar : ∀ (i : Nat) x, T[i]? = some x → x.1 = -1 ∨ ∃ p : Nat, x.1 = p ∧ p < T.length)
    (t : Tr) (hr : rootsTo T T.length = [(t.lab : Int)]) (hf : Fits T.length (kidsTo T T.length) t) (hsz : t.sz ≤ 65536) :
    Calls Tryz.prog 83 #[v] w fun e w' => e = .returned (.tuple #[.slice (some ⟨w.heap.size, 0, none⟩) T.length T.length, .bool (decide (t.sz = T.length))]) ∧
      row? w' w.heap.size = some ((t.ds 0 (List.replicate T.length 0)).map (Value.int .i64)).toArray ∧ Below w.heap.size w w' := by
  have HV := Lib.hid hv
  obtain ⟨a, c, rfl, -⟩ := hv
  have HP := Lib.hid hpar; clear hpar
  have HR := Lib.hid hr; clear hr
  have HF := Lib.hid hf; clear hf
  have hmk := run_make1 Tryz.underlying39 infoInt rfl T.length (by omega) (by omega)
  go_enter Tryz.func83, Tryz.ntmps83
  go_wp2_with fail
  obtain ⟨W1, hW1⟩ : ∃ W1, W1 = ((w.alloc (Obj.cells (Array.replicate T.length (.int .i64 0)) 3)).alloc (Obj.cells #[.slice (some ⟨w.heap.size, 0, none⟩) T.length T.length] 39)).alloc (Obj.cells #[.int .i64 0] 3) := ⟨_, rfl⟩
  have hs1 : W1.heap.size = w.heap.size + 3 := by rw [hW1]; simp
  have hb1 : Below w.heap.size w W1 := by
    rw [hW1]
    (repeat' (first | (with_reducible exact Below.refl _ _) | (with_reducible assumption) | (with_reducible refine Below.alloc ?_ ?_ _) | (with_reducible refine Below.drew ?_) | (with_reducible refine Below.setCell ?_ ?_ _) | (with_reducible refine below_setRow ?_ ?_ _) | (with_reducible exact Nat.le_refl _) | omega | (simp; done) | (simp; omega) | (simp at *; omega)))
  have r1 : row? W1 w.heap.size = some ((List.replicate T.length (0 : Int)).map (Value.int .i64)).toArray := by rw [hW1]; simp [go_sem]
  have r2 : row? W1 (w.heap.size + 1) = some #[.slice (some ⟨w.heap.size, 0, none⟩) T.length T.length] := by rw [hW1]; simp [go_sem]
  have r3 : row? W1 (w.heap.size + 1 + 1) = some #[.int .i64 0] := by rw [hW1]; simp [go_sem]
  rw [← hW1]
  clear hW1
  refine (below_any T (.slice a T.length c) W1 ((HV.out.below hb1 (Nat.le_refl _)).mono hb1.size) hlen HP.out).mono ?_
  rintro e w2 ⟨vs, rfl, hvs, hG, hb2⟩
  have hs2 := row?_lt hG.row
  have HG := Lib.hid hG
  have HB2 := Lib.hid hb2
  have HB1 := Lib.hid hb1
  have HR1 := Lib.hid (And.intro r1 (And.intro r2 r3))
  clear hG hb2 hb1 r1 r2 r3 hmk
  go_wp2_with fail
  obtain ⟨W3, hW3⟩ : ∃ W3, W3 = (w2.alloc (Obj.cells #[.slice (some ⟨w.heap.size + 3, 0, none⟩) T.length T.length] 66)).alloc (Obj.cells #[.func (.func 130) #[] #[.pointer (some ⟨w.heap.size + 1, 0, none⟩), .pointer (some ⟨w.heap.size + 1 + 1, 0, none⟩), .pointer (some ⟨w2.heap.size, 0, none⟩), .pointer (some ⟨w2.heap.size + 1, 0, none⟩)]] 195) := ⟨_, rfl⟩
  have hs3 : W3.heap.size = w2.heap.size + 2 := by rw [hW3]; simp
  have hk3 : ∀ k, k < w2.heap.size → W3.heap[k]? = w2.heap[k]? := fun k hk => by rw [hW3]; exact (Below.heap_alloc _ _ k (by simp; omega)).trans (Below.heap_alloc _ _ k hk)
  have hb3 : Below w.heap.size w W3 := by
    have hb0 := HB1.out.trans (HB2.out.mono (by omega))
    rw [hW3]
    (repeat' (first | (with_reducible exact Below.refl _ _) | (with_reducible assumption) | (with_reducible refine Below.alloc ?_ ?_ _) | (with_reducible refine Below.drew ?_) | (with_reducible refine Below.setCell ?_ ?_ _) | (with_reducible refine below_setRow ?_ ?_ _) | (with_reducible exact Nat.le_refl _) | omega | (simp; done) | (simp; omega) | (simp at *; omega)))
  have r4 : row? W3 w2.heap.size = some #[.slice (some ⟨w.heap.size + 3, 0, none⟩) T.length T.length] := by rw [hW3]; simp [go_sem]
  have r5 : row? W3 (w2.heap.size + 1) = some #[.func (.func 130) #[] #[.pointer (some ⟨w.heap.size + 1, 0, none⟩), .pointer (some ⟨w.heap.size + 1 + 1, 0, none⟩), .pointer (some ⟨w2.heap.size, 0, none⟩), .pointer (some ⟨w2.heap.size + 1, 0, none⟩)]] := by rw [hW3]; simp [go_sem]
  rw [← hW3]
  clear hW3
  have hkk : ∀ k, k < W1.heap.size → row? W3 k = row? W1 k := fun k hk => (row?_congr (hk3 k (by omega))).trans (row?_congr (HB2.out.block k hk))
  have hS3 : DSt T.length w.heap.size (w.heap.size + 1) (w.heap.size + 1 + 1) (w.heap.size + 3) w2.heap.size (w2.heap.size + 1) vs (kidsTo T T.length) (List.replicate T.length 0) 0 W3 := by
    refine ⟨(hkk _ (by omega)).trans HR1.out.1, (hkk _ (by omega)).trans HR1.out.2.1, (hkk _ (by omega)).trans HR1.out.2.2, r4, ?_, r5⟩
    have := HG.out.same fun k _ hk => hk3 k hk
    rwa [hs1] at this
  refine (roots_any T (.slice a T.length c) W3 ((HV.out.below hb3 (Nat.le_refl _)).mono hb3.size) hlen).mono ?_
  rintro e w4 ⟨v4, rfl, hO4, hb4⟩
  rw [HR.out] at hO4
  obtain ⟨q4, n4, c4, rfl⟩ := hO4.slice
  have hn4 := hO4.len
  simp at hn4
  subst hn4
  obtain ⟨g4, rfl, hg4, hg4s, hc4⟩ := hO4.cell (j := 0) rfl
  have hS4 := Lib.hid (hS3.of_same hb4.block)
  have hB4 := Lib.hid (hb3.trans (hb4.mono hb3.size))
  clear hS3 r4 r5 hO4 hb3 hk3 hkk
  go_wp2
  go_loopw [19] (fun i wr => (i = .int .i64 0 ∧ wr = w4) ∨ (i = .int .i64 1 ∧ DSt T.length w.heap.size (w.heap.size + 1) (w.heap.size + 1 + 1) (w.heap.size + 3) w2.heap.size (w2.heap.size + 1) vs (kidsTo T T.length) (t.ds 0 (List.replicate T.length 0)) t.sz wr ∧ Below w.heap.size w wr)) (fun i _ => 1 - (intOf i).toNat)
  case atStart => exact .inl ⟨rfl, rfl⟩
  case round =>
    rcases hrel with ⟨rfl, rfl⟩ | ⟨rfl, hS5, hb5⟩
    · have e7 : wr.cell? ⟨w2.heap.size + 1, 0, none⟩ = _ := cell?_row (i := 0) hS4.out.fn
      simp at e7
      go_wp2_with fail
      have hcall := depths1_any T.length w.heap.size (w.heap.size + 1) (w.heap.size + 1 + 1) (w.heap.size + 3) w2.heap.size (w2.heap.size + 1) vs (kidsTo T T.length) hvs hlen (by omega) t HF.out 0 0 (List.replicate T.length 0) wr (by simp) (by omega) (by omega) hS4.out
      push_cast at hcall
      refine hcall.mono ?_
      rintro e w5 ⟨⟨v5, rfl⟩, hS5, hs5⟩
      rw [Nat.zero_add] at hS5
      have HS5 := Lib.hid hS5
      have HB5 := Lib.hid (hB4.out.trans (hs5.below (B := w.heap.size) (by have := hB4.out.size; omega) fun k hk => ⟨by omega, by omega⟩))
      clear hcall hS5 hs5 e7 hc4
      go_wp2
      go_roundw
      case rel => exact .inr ⟨rfl, HS5.out, HB5.out⟩
      case measure => simp [intOf]
    · have HS5 := Lib.hid hS5
      have e8 : wr.cell? ⟨w.heap.size + 1, 0, none⟩ = _ := cell?_row (i := 0) hS5.out
      have e9 : wr.cell? ⟨w.heap.size + 1 + 1, 0, none⟩ = _ := cell?_row (i := 0) hS5.cnt
      simp at e8 e9
      have HB5 := Lib.hid hb5
      clear hS5 hb5 hc4
      go_wp2
      refine wp_region_free (fun w' => w' = wr.drew) (by kernel_rfl) (by kernel_rfl) rfl ?_
      repeat (apply wpFree_still; (intro w hw; subst hw; go_simp; (try go_ints); (first | with_reducible rfl | (go_simp; with_reducible rfl))); with_reducible rfl; (intro K hK; go_simp; (try go_ints); refine hK _ ?_; clear hK K))
      with_reducible refine wpFree_nil ?_
      rintro w' rfl
      go_wp2
      go_ret2
      exact ⟨congrArg (fun b => Ending.returned (.tuple #[.slice (some ⟨w.heap.size, 0, none⟩) T.length T.length, .bool b])) (intBeq _ _), HS5.out.data, HB5.out.drew⟩
end Go.Proofs.YtpflnkedolmamaaGreatDoor
