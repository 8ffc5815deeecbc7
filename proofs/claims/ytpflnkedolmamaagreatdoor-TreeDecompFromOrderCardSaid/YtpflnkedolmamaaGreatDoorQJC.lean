/-
  Walks of the reference's eliminations: a pair among pairs; the check of an order.
-/
import Derived.Test.YtpflnkedolmamaaGreatDoorQHB
import Derived.Test.YtpflnkedolmamaaGreatDoorQJB
import Derived.Test.YtpflnkedolmamaaGreatDoorQRef1
namespace Go.Pal
open Go
/-- A pair of vertices in memory; a slice of ints as an element of a row. -/
def prA (p : Int × Int) : Array Value := #[.int .i64 p.1, .int .i64 p.2]
def slC (s : Option Addr × Nat × Nat) : Array Value := #[.slice s.1 s.2.1 s.2.2]
def pairB (u v : Int) (p : Int × Int) : Bool := (decide (p.1 = u) && decide (p.2 = v)) || (decide (p.1 = v) && decide (p.2 = u))
theorem inP_any (c : List (Int × Int)) (u v : Int) : inP c u v = c.any (pairB u v) := rfl
/-- What Check has seen to: the first vertices of the order are vertices, each once. -/
def okTo (G : Gr) (o : List Int) (i : Nat) : Prop := ∀ a x, a < i → o[a]? = some x → 0 ≤ G.find x ∧ ∀ b y, b < a → o[b]? = some y → y ≠ x
theorem okTo_ord {G : Gr} (h : G.Ok) {o : List Int} (hl : o.length = G.V.length) (hk : okTo G o o.length) : G.ordE o = 0 := by
  rw [h.ordE_iff]
  have hnd : o.Nodup := List.pairwise_iff_getElem.2 fun i j hi hj hij e => (hk j _ hj (List.getElem?_eq_getElem hj)).2 i _ hij (List.getElem?_eq_getElem hi) e
  refine perm_of_nodup hnd (fun x hx => ?_) (by simp [Gr.ids', hl])
  obtain ⟨j, hj, rfl⟩ := List.mem_iff_getElem.1 hx
  have h1 := (hk j _ hj (List.getElem?_eq_getElem hj)).1
  have h2 := G.find_some o[j]
  rw [decide_eq_true h1] at h2
  obtain ⟨p, hp, e⟩ := look_some.1 h2.symm
  exact List.mem_map.2 ⟨p, hp, e⟩
theorem ord_len {G : Gr} (h : G.Ok) {o : List Int} (h0 : G.ordE o = 0) : o.length = G.V.length := by
  have := ((h.ordE_iff o).1 h0).length_eq
  simpa [Gr.ids'] using this
theorem ord_find {G : Gr} (h : G.Ok) {o : List Int} (h0 : G.ordE o = 0) {x : Int} (hx : x ∈ o) : 0 ≤ G.find x := by
  have hm := ((h.ordE_iff o).1 h0).mem_iff.1 hx
  have h2 := G.find_some x
  obtain ⟨p, hp, e⟩ := List.mem_map.1 hm
  rw [look_some.2 ⟨p, hp, e⟩] at h2
  simpa using h2
theorem ord_nodup {G : Gr} (h : G.Ok) {o : List Int} (h0 : G.ordE o = 0) {a b : Nat} {x : Int} (hab : b < a) (ha : o[a]? = some x) (hb : o[b]? = some x) : False := by
  have hnd : o.Nodup := (((h.ordE_iff o).1 h0).nodup_iff).2 h.ids_nodup
  obtain ⟨h1, h2⟩ := List.getElem?_eq_some_iff.1 ha
  obtain ⟨h3, h4⟩ := List.getElem?_eq_some_iff.1 hb
  exact List.pairwise_iff_getElem.1 hnd b a h3 h1 hab (h4.trans h2.symm)
theorem ordE_three {G : Gr} {o : List Int} (h : G.ordE o ≠ 0) : G.ordE o = 3 := by
  unfold Gr.ordE at h ⊢
  split
  · rename_i hc
    rw [if_pos hc] at h
    exact absurd rfl h
  · rfl
end Go.Pal
namespace Go.Proofs.YtpflnkedolmamaaGreatDoor
open Go Go.RowKit Go.Pal
attribute [local go_sem] Oper.semAt_some

def elQ2 : ElT Tryz.prog 189 2 prA where
  bytes := 16
  zero := .agg #[.int .i64 0, .int .i64 0]
  info := by kernel_rfl
  zc := rfl
  pos := by decide
  small := by decide
  size _ := rfl
  one x u hu := by simp [prA] at hu; rcases hu with rfl | rfl <;> rfl
abbrev OwnQ2 := OwnR 189 2 prA
set_option maxHeartbeats 2000000 in
theorem rin_any (c : List (Int × Int)) (u v : Int) (vc : Value) (w : World) (hC : Rd prA 2 w.heap.size w vc c) (hlen : c.length ≤ 10000000) :
    Calls Tryz.prog 123 #[vc, .int .i64 u, .int .i64 v] w fun e w' => e = .returned (.bool (inP c u v)) ∧ w' = w := by
  rw [inP_any]
  have HC := Lib.hid hC
  obtain ⟨a, cc, rfl⟩ := hC.sl
  clear hC
  go_enter Tryz.func123, Tryz.ntmps123
  go_wp2_with fail
  go_loop [7] (fun i => ∃ k : Nat, k ≤ c.length ∧ i = .int .i64 (k : Int) ∧ (c.take k).any (pairB u v) = false) (fun i => c.length - (intOf i).toNat)
  case atStart => exact ⟨0, by omega, rfl, rfl⟩
  case round =>
    obtain ⟨k, hk, rfl, hno⟩ := hrel
    have HNO := Lib.hid hno
    clear hno
    by_cases hlt : k < c.length
    · obtain ⟨b, off, c', x, h1, hb, hx, hc⟩ := HC.out.at hlt
      simp only [Value.slice.injEq] at h1
      obtain ⟨rfl, -, rfl⟩ := h1
      obtain ⟨xu, xv⟩ := x
      have hc' := hc _ (Below.refl _ w)
      have c0 := hc' 0 (.int .i64 xu) rfl
      have c1 := hc' 1 (.int .i64 xv) rfl
      simp only [Nat.add_zero] at c0
      have HX := Lib.hid hx
      clear hc hc' hx
      have hyes : pairB u v (xu, xv) = true → Hid (c.any (pairB u v) = true) := fun h => Lib.hid (List.any_eq_true.2 ⟨_, List.mem_of_getElem? HX.out, h⟩)
      have hnot : pairB u v (xu, xv) = false → Hid ((c.take (k + 1)).any (pairB u v) = false) := fun h => Lib.hid (by rw [take_snoc HX.out, List.any_append, HNO.out]; simp [h])
      by_cases h1 : xu = u <;> by_cases h2 : xv = v <;> by_cases h3 : xu = v <;> by_cases h4 : xv = u
      all_goals
        first
        | (exfalso; omega)
        | (have HY := hyes (by simp only [pairB, Bool.or_eq_true, Bool.and_eq_true, decide_eq_true_eq]; omega)
           (first | have b1 : (xu == u) = true := by simpa using h1 | have b1 : (xu == u) = false := by simpa using h1)
           (first | have b2 : (xv == v) = true := by simpa using h2 | have b2 : (xv == v) = false := by simpa using h2)
           (first | have b3 : (xu == v) = true := by simpa using h3 | have b3 : (xu == v) = false := by simpa using h3)
           (first | have b4 : (xv == u) = true := by simpa using h4 | have b4 : (xv == u) = false := by simpa using h4)
           clear hyes hnot h1 h2 h3 h4
           go_wp2_with fail
           go_ret
           exact ⟨by rw [HY.out]; rfl, rfl⟩)
        | (have HY := hnot (Bool.eq_false_iff.2 (by simp only [pairB, ne_eq, Bool.or_eq_true, Bool.and_eq_true, decide_eq_true_eq]; omega))
           (first | have b1 : (xu == u) = true := by simpa using h1 | have b1 : (xu == u) = false := by simpa using h1)
           (first | have b2 : (xv == v) = true := by simpa using h2 | have b2 : (xv == v) = false := by simpa using h2)
           (first | have b3 : (xu == v) = true := by simpa using h3 | have b3 : (xu == v) = false := by simpa using h3)
           (first | have b4 : (xv == u) = true := by simpa using h4 | have b4 : (xv == u) = false := by simpa using h4)
           clear hyes hnot h1 h2 h3 h4
           go_wp2_with fail
           go_round
           case rel => exact ⟨k + 1, by omega, by go_num, HY.out⟩
           case measure => simp [intOf]; omega)
    · have hkn : k = c.length := by omega
      subst hkn
      have HNO2 := HNO.out
      rw [List.take_length] at HNO2
      have HN := Lib.hid HNO2
      clear HNO2
      go_wp2_with fail
      go_ret
      exact ⟨by rw [HN.out]; rfl, rfl⟩

set_option maxHeartbeats 2000000 in
theorem rcheck21_any (G : Gr) (hG : G.Ok) (o : List Int) (vV vE vo : Value) (w : World) (hV : Rd vtxA 3 w.heap.size w vV G.V) (hE : ∃ a n c, vE = .slice a n c) (ho : RdL w vo o) (hlen : o.length ≤ 1000000) :
    Calls Tryz.prog 66 #[.agg #[vV, vE], vo] w fun e w' => e = .returned (.int .i64 (G.ordE o : Int)) ∧ Below w.heap.size w w' := by
  have HV := Lib.hid hV
  have HG := Lib.hid hG
  have HO := Lib.hid ho
  have hlV := hG.len
  have HF := Lib.hid fun W (h : Below w.heap.size w W) u => rfind_any G.V u vV vE W ((hV.below h (Nat.le_refl _)).mono h.size) hE (by omega)
  obtain ⟨aV, cV, rfl⟩ := hV.sl
  obtain ⟨aE, nE, cE, rfl⟩ := hE
  obtain ⟨ao, co, rfl, -⟩ := ho
  obtain ⟨n, hn⟩ : ∃ n, n = G.ordE o := ⟨_, rfl⟩
  have HN := Lib.hid hn
  rw [← hn]
  clear hV hG hn
  obtain ⟨LV, hLV⟩ : ∃ LV, LV = G.V.length := ⟨_, rfl⟩
  have HLV := Lib.hid hLV
  rw [← hLV] at HF hlV ⊢
  clear hLV
  by_cases hl : o.length = LV
  · have HL := Lib.hid hl
    have hlz : ((o.length : Int) != (LV : Int)) = false := by simp; omega
    clear hl
    go_enter Tryz.func66, Tryz.ntmps66
    go_wp2_with fail
    generalize hW0 : World.alloc w _ = W0
    have r2 : row? W0 w.heap.size = some #[.slice aV LV cV, .slice aE nE cE] := by rw [← hW0]; simp [go_sem]
    have hB0 : Below w.heap.size w W0 := by
      rw [← hW0]
      (repeat' (first | (with_reducible exact Below.refl _ _) | (with_reducible assumption) | (with_reducible refine Below.alloc ?_ ?_ _) | (with_reducible refine Below.drew ?_) | (with_reducible refine Below.setCell ?_ ?_ _) | (with_reducible refine below_setRow ?_ ?_ _) | (with_reducible exact Nat.le_refl _) | omega | (simp; done) | (simp; omega) | (simp at *; omega)))
    have hs0 : w.heap.size < W0.heap.size := by rw [← hW0]; simp
    have HR2 := Lib.hid r2
    have HB0 := Lib.hid hB0
    clear hW0 r2 hB0
    go_loopw [5] (fun i wr => ∃ k : Nat, k ≤ o.length ∧ i = .int .i64 (k : Int) ∧ okTo G o k ∧ Below W0.heap.size W0 wr) (fun i _ => o.length - (intOf i).toNat)
    case atStart => exact ⟨0, by omega, rfl, fun a x ha => by omega, Below.refl _ _⟩
    case round =>
      obtain ⟨k, hk, rfl, hok, hb⟩ := hrel
      have hs := hb.size
      have HOK := Lib.hid hok
      have HB := Lib.hid hb
      have HBw := Lib.hid (HB0.out.trans (hb.mono HB0.out.size))
      have hr2 := (row?_below hb (by omega)).trans HR2.out
      clear hok hb
      by_cases hlt : k < o.length
      · obtain ⟨b, off, c', x, h1, hx, hc⟩ := HO.out.at hlt
        simp only [Value.slice.injEq] at h1
        obtain ⟨rfl, -, rfl⟩ := h1
        have c0 := hc wr HBw.out
        have HX := Lib.hid hx
        have HC := Lib.hid hc
        have HFx := fun W (hw : Below wr.heap.size wr W) => HF.out W (HBw.out.trans (hw.mono HBw.out.size)) x
        rw [show idx (fun p : Int × Th => decide (p.1 = x)) G.V = G.find x from rfl] at HFx
        obtain ⟨fx, hfx⟩ : ∃ fx, fx = G.find x := ⟨_, rfl⟩
        rw [← hfx] at HFx
        have HFx := Lib.hid HFx
        have HFc := Lib.hid fun W (hw : Below wr.heap.size wr W) => (⟨(row?_below hw (Nat.lt_of_lt_of_le hs0 hs)).trans hr2, hc W (HBw.out.trans (hw.mono HBw.out.size))⟩ : row? W w.heap.size = some #[.slice aV LV cV, .slice aE nE cE] ∧ W.cell? ⟨b, off + k, none⟩ = some (.int .i64 x))
        have HFX := Lib.hid hfx
        clear hc hx hfx
        by_cases hf : fx < 0
        · have h3 : Hid (n = 3) := Lib.hid (by
            rw [HN.out]
            refine ordE_three fun h0 => ?_
            have := ord_find HG.out h0 (List.mem_of_getElem? HX.out)
            rw [← HFX.out] at this
            omega)
          go_wp2_with fail
          refine wp_region_free (fun w' => Below wr.heap.size wr w') (by kernel_rfl) (by kernel_rfl) (Below.refl _ _).drew ?_
          repeat (first | (apply wpFree_still; (intro w hw; obtain ⟨k1, k2⟩ := HFc.out _ hw; clear hw; go_simp; (try go_ints); (first | with_reducible rfl | (go_simp; with_reducible rfl))); with_reducible rfl; (intro K hK; go_simp; (try go_ints); refine hK _ ?_; clear hK K)) | (apply wpFree_stillG rfl; (intro w hw; obtain ⟨k1, k2⟩ := HFc.out _ hw; clear hw; go_simp; (try go_ints); (first | with_reducible rfl | (go_simp; with_reducible rfl))); (intro K hK; go_simp; (try go_ints); refine hK _ ?_; clear hK K)))
          apply wpFree_callG rfl
          · intro w hw; go_simp; first | with_reducible rfl | with_reducible exact ⟨rfl, rfl⟩
          · intro w hw; refine (HFx.out w hw).mono ?_; rintro e w' ⟨h1, h2⟩; exact ⟨h1, hw.trans (h2.mono hw.size)⟩
          intro K hK; go_simp; (try go_ints); refine hK _ ?_; clear hK K
          repeat (first | (apply wpFree_still; (intro w hw; clear hw; go_simp; (try go_ints); (first | with_reducible rfl | (go_simp; with_reducible rfl))); with_reducible rfl; (intro K hK; go_simp; (try go_ints); refine hK _ ?_; clear hK K)) | (apply wpFree_stillG rfl; (intro w hw; clear hw; go_simp; (try go_ints); (first | with_reducible rfl | (go_simp; with_reducible rfl))); (intro K hK; go_simp; (try go_ints); refine hK _ ?_; clear hK K)))
          with_reducible refine wpFree_nil ?_
          intro w1 hb1
          have HB1 := Lib.hid (HBw.out.trans (hb1.mono HBw.out.size))
          clear hb1 HFx
          go_wp2_with fail
          go_ret
          exact ⟨by rw [h3.out]; rfl, HB1.out⟩
        · go_wp2_with fail
          refine wp_region_free (fun w' => Below wr.heap.size wr w') (by kernel_rfl) (by kernel_rfl) (Below.refl _ _).drew ?_
          repeat (first | (apply wpFree_still; (intro w hw; obtain ⟨k1, k2⟩ := HFc.out _ hw; clear hw; go_simp; (try go_ints); (first | with_reducible rfl | (go_simp; with_reducible rfl))); with_reducible rfl; (intro K hK; go_simp; (try go_ints); refine hK _ ?_; clear hK K)) | (apply wpFree_stillG rfl; (intro w hw; obtain ⟨k1, k2⟩ := HFc.out _ hw; clear hw; go_simp; (try go_ints); (first | with_reducible rfl | (go_simp; with_reducible rfl))); (intro K hK; go_simp; (try go_ints); refine hK _ ?_; clear hK K)))
          apply wpFree_callG rfl
          · intro w hw; go_simp; first | with_reducible rfl | with_reducible exact ⟨rfl, rfl⟩
          · intro w hw; refine (HFx.out w hw).mono ?_; rintro e w' ⟨h1, h2⟩; exact ⟨h1, hw.trans (h2.mono hw.size)⟩
          intro K hK; go_simp; (try go_ints); refine hK _ ?_; clear hK K
          repeat (first | (apply wpFree_still; (intro w hw; clear hw; go_simp; (try go_ints); (first | with_reducible rfl | (go_simp; with_reducible rfl))); with_reducible rfl; (intro K hK; go_simp; (try go_ints); refine hK _ ?_; clear hK K)) | (apply wpFree_stillG rfl; (intro w hw; clear hw; go_simp; (try go_ints); (first | with_reducible rfl | (go_simp; with_reducible rfl))); (intro K hK; go_simp; (try go_ints); refine hK _ ?_; clear hK K)))
          with_reducible refine wpFree_nil ?_
          intro w1 hb1
          have HB1 := Lib.hid (HB.out.trans (hb1.mono HB.out.size))
          have HBw1 := Lib.hid (HBw.out.trans (hb1.mono HBw.out.size))
          clear hb1 HFx c0 hr2
          go_wp2_with fail
          go_loopw [6] (fun j wz => ∃ m : Nat, m ≤ k ∧ j = .int .i64 (m : Int) ∧ (∀ b y, b < m → o[b]? = some y → y ≠ x) ∧ Below w1.heap.size w1 wz) (fun j _ => k - (intOf j).toNat)
          case atStart => exact ⟨0, by omega, rfl, fun b y hb => by omega, Below.refl _ _⟩
          case round =>
            obtain ⟨m, hm, rfl, hno, hbz⟩ := hrel
            have HNO := Lib.hid hno
            have HBz := Lib.hid (HB1.out.trans (hbz.mono HB1.out.size))
            have HBwz := Lib.hid (HBw1.out.trans (hbz.mono HBw1.out.size))
            have HBq := Lib.hid hbz
            clear hno hbz
            by_cases hlt2 : m < k
            · obtain ⟨y, hy⟩ : ∃ y, o[m]? = some y := ⟨_, List.getElem?_eq_getElem (by omega)⟩
              have hm1 : m < o.length := by omega
              obtain ⟨b2, off2, c2', y2, h1, hy2, hc2⟩ := HO.out.at hm1
              simp only [Value.slice.injEq, Option.some.injEq, Addr.mk.injEq, and_true] at h1
              obtain ⟨⟨rfl, rfl⟩, -⟩ := h1
              rw [hy] at hy2
              cases hy2
              have HFd := Lib.hid fun W (hw : Below wr.heap.size wr W) => (⟨HC.out W (HBwz.out.trans (hw.mono HBwz.out.size)), hc2 W (HBwz.out.trans (hw.mono HBwz.out.size))⟩ : W.cell? ⟨b, off + k, none⟩ = some (.int .i64 x) ∧ W.cell? ⟨b, off + m, none⟩ = some (.int .i64 y))
              have HY := Lib.hid hy
              clear hy hc2
              by_cases hyx : y = x
              · have h3 : Hid (n = 3) := Lib.hid (by
                  rw [HN.out]
                  exact ordE_three fun h0 => ord_nodup HG.out h0 hlt2 HX.out (by rw [← hyx]; exact HY.out))
                have b1 : (y == x) = true := by simpa using hyx
                clear hyx
                go_wp2_with fail
                refine wp_region_free (fun w' => Below wr.heap.size wr w') (by kernel_rfl) (by kernel_rfl) (Below.refl _ _).drew ?_
                repeat (first | (apply wpFree_still; (intro w hw; obtain ⟨k1, k2⟩ := HFd.out _ hw; clear hw; go_simp; (try go_ints); (first | with_reducible rfl | (go_simp; with_reducible rfl))); with_reducible rfl; (intro K hK; go_simp; (try go_ints); refine hK _ ?_; clear hK K)) | (apply wpFree_stillG rfl; (intro w hw; obtain ⟨k1, k2⟩ := HFd.out _ hw; clear hw; go_simp; (try go_ints); (first | with_reducible rfl | (go_simp; with_reducible rfl))); (intro K hK; go_simp; (try go_ints); refine hK _ ?_; clear hK K)))
                with_reducible refine wpFree_nil ?_
                intro w2 hb2
                have HB2 := Lib.hid (HBwz.out.trans (hb2.mono HBwz.out.size))
                clear hb2
                go_wp2_with fail
                go_ret
                exact ⟨by rw [h3.out]; rfl, HB2.out⟩
              · have b1 : (y == x) = false := by simpa using hyx
                have HYX := Lib.hid hyx
                clear hyx
                go_wp2_with fail
                refine wp_region_free (fun w' => Below wr.heap.size wr w') (by kernel_rfl) (by kernel_rfl) (Below.refl _ _).drew ?_
                repeat (first | (apply wpFree_still; (intro w hw; obtain ⟨k1, k2⟩ := HFd.out _ hw; clear hw; go_simp; (try go_ints); (first | with_reducible rfl | (go_simp; with_reducible rfl))); with_reducible rfl; (intro K hK; go_simp; (try go_ints); refine hK _ ?_; clear hK K)) | (apply wpFree_stillG rfl; (intro w hw; obtain ⟨k1, k2⟩ := HFd.out _ hw; clear hw; go_simp; (try go_ints); (first | with_reducible rfl | (go_simp; with_reducible rfl))); (intro K hK; go_simp; (try go_ints); refine hK _ ?_; clear hK K)))
                with_reducible refine wpFree_nil ?_
                intro w2 hb2
                have HB2 := Lib.hid (HBq.out.trans (hb2.mono HBq.out.size))
                clear hb2
                go_wp2_with fail
                go_roundw
                case rel => exact ⟨m + 1, by omega, by go_num, fun b' y' hb' hy' => by
                  by_cases e : b' = m
                  · subst e
                    rw [HY.out] at hy'
                    cases hy'
                    exact HYX.out
                  · exact HNO.out b' y' (by omega) hy', HB2.out⟩
                case measure => simp [intOf]; omega
            · have hmk : m = k := by omega
              subst hmk
              go_wp2_with fail
              go_roundw
              case rel => exact ⟨m + 1, by omega, by go_num, fun a' x' ha' hx' => by
                by_cases e : a' = m
                · subst e
                  rw [HX.out] at hx'
                  cases hx'
                  exact ⟨by rw [← HFX.out]; omega, HNO.out⟩
                · exact HOK.out a' x' (by omega) hx', HBz.out⟩
              case measure => simp [intOf]; omega
      · have hkn : k = o.length := by omega
        subst hkn
        have h0 : Hid (n = 0) := Lib.hid (by rw [HN.out]; exact okTo_ord HG.out (HL.out.trans HLV.out) HOK.out)
        go_wp2_with fail
        go_ret
        exact ⟨by rw [h0.out]; rfl, HBw.out⟩
  · have hlz : ((o.length : Int) != (LV : Int)) = true := by simp; omega
    have h3 : Hid (n = 3) := Lib.hid (by rw [HN.out]; exact ordE_three fun h0 => hl (by rw [ord_len HG.out h0, HLV.out]))
    clear hl
    go_enter Tryz.func66, Tryz.ntmps66
    go_wp2_with fail
    go_ret
    exact ⟨by rw [h3.out]; rfl, (Below.refl _ w).alloc (Nat.le_refl _) _⟩
end Go.Proofs.YtpflnkedolmamaaGreatDoor
