/-
  Walk: the reference's list of edits that lead from one graph to another (Steps).
-/
import Derived.Test.YtmmhngjndnonhaaGreatDoorDYD
import Derived.Test.YtmmhngjndnonhaaGreatDoorDHE
set_option linter.unusedSimpArgs false
set_option linter.unusedVariables false
namespace Go.Pal
open Go Go.RowKit
theorem find_none {V : List (Int × Th)} {u : Int} (h : look V u = none) : idx (fun p => decide (p.1 = u)) V < 0 := by
  apply Decidable.byContradiction
  intro hn
  obtain ⟨p, hp, hq⟩ := idx_nonneg'.1 (show 0 ≤ idx (fun p : Int × Th => decide (p.1 = u)) V by omega)
  exact look_none.1 h p hp (by simpa using hq)
theorem find_some {V : List (Int × Th)} (hn : NoDup V) {u : Int} {t : Th} (h : look V u = some t) : ∃ k : Nat, idx (fun p => decide (p.1 = u)) V = (k : Int) ∧ V[k]? = some (u, t) := by
  have hm := (look_mem hn).1 h
  have h0 : 0 ≤ idx (fun p : Int × Th => decide (p.1 = u)) V := idx_nonneg'.2 ⟨_, hm, by simp⟩
  obtain ⟨k, x, hk, hx, hq⟩ := idx_get2 (show ¬ idx (fun p : Int × Th => decide (p.1 = u)) V < 0 by omega)
  refine ⟨k, hk, ?_⟩
  rw [hx, hn.one (List.mem_of_getElem? hx) hm (by simpa using hq)]
theorem chgs_ee {m e : Ed} {t : Th} (h1 : m.lab = t.1) (h2 : e.wt = t.2) : chgs m e t = [] := by unfold chgs; rw [if_neg (fun h => h h1), if_neg (fun h => h h2)]; rfl
theorem chgs_ne {m e : Ed} {t : Th} (h1 : m.lab ≠ t.1) (h2 : e.wt = t.2) : chgs m e t = [m] := by unfold chgs; rw [if_pos h1, if_neg (fun h => h h2)]; rfl
theorem chgs_en {m e : Ed} {t : Th} (h1 : m.lab = t.1) (h2 : e.wt ≠ t.2) : chgs m e t = [e] := by unfold chgs; rw [if_neg (fun h => h h1), if_pos h2]; rfl
theorem chgs_nn {m e : Ed} {t : Th} (h1 : m.lab ≠ t.1) (h2 : e.wt ≠ t.2) : chgs m e t = [m] ++ [e] := by unfold chgs; rw [if_pos h1, if_pos h2]
theorem redge_none {G : Gr} (hG : G.Ok) {u v : Int} (hlt : u < v) (h : look G.E (u, v) = none) : idx (edgB u v) G.E < 0 := by
  apply Decidable.byContradiction
  intro hn
  obtain ⟨p, hp, hq⟩ := idx_nonneg'.1 (show 0 ≤ idx (edgB u v) G.E by omega)
  rw [edgB_btw hG hp, btw_of hlt] at hq
  exact look_none.1 h p hp (by simpa using hq)
theorem redge_some {G : Gr} (hG : G.Ok) {u v : Int} (hlt : u < v) {t : Th} (h : look G.E (u, v) = some t) : ∃ k : Nat, idx (edgB u v) G.E = (k : Int) ∧ G.E[k]? = some ((u, v), t) := by
  have hn := hG.sE.nd Go.Pal.ordE
  have hm := (look_mem hn).1 h
  have h0 : 0 ≤ idx (edgB u v) G.E := idx_nonneg'.2 ⟨_, hm, by rw [edgB_btw hG hm, btw_of hlt]; simp⟩
  obtain ⟨k, x, hk, hx, hq⟩ := idx_get2 (show ¬ idx (edgB u v) G.E < 0 by omega)
  refine ⟨k, hk, ?_⟩
  rw [edgB_btw hG (List.mem_of_getElem? hx), btw_of hlt] at hq
  rw [hx, hn.one (List.mem_of_getElem? hx) hm (by simpa using hq)]
end Go.Pal
namespace Go.Proofs.YtmmhngjndnonhaaGreatDoor
open Go Go.RowKit Go.Pal
attribute [local go_sem] Oper.semAt_some

def elRD : ElT Tryz.prog 36 5 edC where
  bytes := 40
  zero := .agg #[.int .i64 0, .int .i64 0, .int .i64 0, .int .u8 0, .int .i64 0]
  info := by kernel_rfl
  zc := rfl
  pos := by decide
  small := by decide
  size _ := rfl
  one x u hu := by simp [edC] at hu; rcases hu with rfl | rfl | rfl | rfl | rfl <;> rfl
abbrev OwnRD := OwnR 36 5 edC
@[go_sem ↓ high] theorem bs_RD (a b c d e : Int) (w : World) : (Instr.buildSlice 32 1 #[(0, .agg #[.int .i64 a, .int .i64 b, .int .i64 c, .int .u8 d, .int .i64 e])]).run Tryz.prog w = .ok (.slice (some ⟨w.heap.size, 0, none⟩) 1 1) (w.alloc (.cells #[.int .i64 a, .int .i64 b, .int .i64 c, .int .u8 d, .int .i64 e] 36)) := by kernel_rfl
@[go_sem ↓ high] theorem b_RDR (u : Int) (w : World) : (Instr.build 36 #[(0, .int .i64 1), (1, .int .i64 u)]).run Tryz.prog w = .ok (.agg #[.int .i64 1, .int .i64 u, .int .i64 0, .int .u8 0, .int .i64 0]) w := by kernel_rfl
@[go_sem ↓ high] theorem b_RDP (u v : Int) (w : World) : (Instr.build 36 #[(0, .int .i64 3), (1, .int .i64 u), (2, .int .i64 v)]).run Tryz.prog w = .ok (.agg #[.int .i64 3, .int .i64 u, .int .i64 v, .int .u8 0, .int .i64 0]) w := by kernel_rfl
@[go_sem ↓ high] theorem b_RDV (u l t : Int) (w : World) : (Instr.build 36 #[(0, .int .i64 0), (1, .int .i64 u), (3, .int .u8 l), (4, .int .i64 t)]).run Tryz.prog w = .ok (.agg #[.int .i64 0, .int .i64 u, .int .i64 0, .int .u8 l, .int .i64 t]) w := by kernel_rfl
@[go_sem ↓ high] theorem b_RDE (u v l t : Int) (w : World) : (Instr.build 36 #[(0, .int .i64 2), (1, .int .i64 u), (2, .int .i64 v), (3, .int .u8 l), (4, .int .i64 t)]).run Tryz.prog w = .ok (.agg #[.int .i64 2, .int .i64 u, .int .i64 v, .int .u8 l, .int .i64 t]) w := by kernel_rfl
@[go_sem ↓ high] theorem b_RD4V (u l : Int) (w : World) : (Instr.build 36 #[(0, .int .i64 4), (1, .int .i64 u), (3, .int .u8 l)]).run Tryz.prog w = .ok (.agg #[.int .i64 4, .int .i64 u, .int .i64 0, .int .u8 l, .int .i64 0]) w := by kernel_rfl
@[go_sem ↓ high] theorem b_RD5V (u t : Int) (w : World) : (Instr.build 36 #[(0, .int .i64 5), (1, .int .i64 u), (4, .int .i64 t)]).run Tryz.prog w = .ok (.agg #[.int .i64 5, .int .i64 u, .int .i64 0, .int .u8 0, .int .i64 t]) w := by kernel_rfl
@[go_sem ↓ high] theorem b_RD6E (u v l : Int) (w : World) : (Instr.build 36 #[(0, .int .i64 6), (1, .int .i64 u), (2, .int .i64 v), (3, .int .u8 l)]).run Tryz.prog w = .ok (.agg #[.int .i64 6, .int .i64 u, .int .i64 v, .int .u8 l, .int .i64 0]) w := by kernel_rfl
@[go_sem ↓ high] theorem b_RD7E (u v t : Int) (w : World) : (Instr.build 36 #[(0, .int .i64 7), (1, .int .i64 u), (2, .int .i64 v), (4, .int .i64 t)]).run Tryz.prog w = .ok (.agg #[.int .i64 7, .int .i64 u, .int .i64 v, .int .u8 0, .int .i64 t]) w := by kernel_rfl
set_option maxRecDepth 10000 in
set_option maxHeartbeats 16000000 in
theorem rsteps_any (A B : Gr) (hA : A.Ok) (hB : B.Ok) (vVa vEa vVb vEb : Value) (w : World) (ha : RefG w vVa vEa A) (hb : RefG w vVb vEb B) :
    Calls Tryz.prog 9 #[.agg #[vVa, vEa], .agg #[vVb, vEb]] w fun r w' => ∃ v, r = .returned v ∧ OwnRD w.heap.size w' v (diffL A B) ∧ Below w.heap.size w w' := by
  have HA := Lib.hid hA
  have HBk := Lib.hid hB
  have HRa := Lib.hid ha
  have HRb := Lib.hid hb
  have hlA := hA.len
  have hmA := hA.most
  have hlB := hB.len
  have hmB := hB.most
  have HFa := Lib.hid fun (u : Int) W (h : Below w.heap.size w W) => rfind_any A.V u vVa vEa W (ha.below h).1 ⟨_, _, _, (ha.below h).2.sl.choose_spec.choose_spec⟩ (by omega)
  have HFb := Lib.hid fun (u : Int) W (h : Below w.heap.size w W) => rfind_any B.V u vVb vEb W (hb.below h).1 ⟨_, _, _, (hb.below h).2.sl.choose_spec.choose_spec⟩ (by omega)
  have HEa := Lib.hid fun (u v : Int) W (h : Below w.heap.size w W) => redge_any A.E u v vVa vEa W (ha.below h).2 ⟨_, _, _, (ha.below h).1.sl.choose_spec.choose_spec⟩ (by omega)
  have HEb := Lib.hid fun (u v : Int) W (h : Below w.heap.size w W) => redge_any B.E u v vVb vEb W (hb.below h).2 ⟨_, _, _, (hb.below h).1.sl.choose_spec.choose_spec⟩ (by omega)
  obtain ⟨aVa, cVa, rfl⟩ := ha.1.sl
  obtain ⟨aEa, cEa, rfl⟩ := ha.2.sl
  obtain ⟨aVb, cVb, rfl⟩ := hb.1.sl
  obtain ⟨aEb, cEb, rfl⟩ := hb.2.sl
  obtain ⟨D0, hD0⟩ : ∃ D : List Ed, D = [] := ⟨_, rfl⟩
  have hfin : diffL A B = ((((D0 ++ A.V.flatMap (dA B)) ++ A.E.flatMap (dB B)) ++ B.V.flatMap (dC A)) ++ B.V.flatMap (dD A)) ++ B.E.flatMap (dE A) := by rw [diffL_flat, hD0, List.nil_append]
  have HFin := Lib.hid hfin
  have hD0l : D0.length ≤ 0 := by rw [hD0]; simp
  have HD0 := Lib.hid hD0
  obtain ⟨LA, hLA⟩ : ∃ n, n = A.V.length := ⟨_, rfl⟩
  obtain ⟨MA, hMA⟩ : ∃ n, n = A.E.length := ⟨_, rfl⟩
  obtain ⟨LB, hLB⟩ : ∃ n, n = B.V.length := ⟨_, rfl⟩
  obtain ⟨MB, hMB⟩ : ∃ n, n = B.E.length := ⟨_, rfl⟩
  have HLA := Lib.hid hLA
  have HMA := Lib.hid hMA
  have HLB := Lib.hid hLB
  have HMB := Lib.hid hMB
  rw [← hLA] at hlA
  rw [← hMA] at hmA
  rw [← hLB] at hlB
  rw [← hMB] at hmB
  rw [← hLA, ← hMA] at HRa HFa HEa
  rw [← hLB, ← hMB] at HRb HFb HEb
  rw [← hLA, ← hMA, ← hLB, ← hMB]
  clear ha hb hA hB hfin hD0 hLA hMA hLB hMB
  go_enter Tryz.func9, Tryz.ntmps9
  go_wp2_with fail
  generalize hW0 : World.alloc (World.alloc w _) _ = W0
  have ra : row? W0 w.heap.size = some #[.slice aVa LA cVa, .slice aEa MA cEa] := by rw [← hW0]; simp [go_sem]
  have rb : row? W0 (w.heap.size + 1) = some #[.slice aVb LB cVb, .slice aEb MB cEb] := by rw [← hW0]; simp [go_sem]
  have hB0 : Below w.heap.size w W0 := by
    rw [← hW0]
    (repeat' (first | (with_reducible exact Below.refl _ _) | (with_reducible assumption) | (with_reducible refine Below.alloc ?_ ?_ _) | (with_reducible refine Below.drew ?_) | (with_reducible refine Below.setCell ?_ ?_ _) | (with_reducible refine below_setRow ?_ ?_ _) | (with_reducible exact Nat.le_refl _) | omega | (simp; done) | (simp; omega) | (simp at *; omega)))
  have hs0 : w.heap.size + 2 ≤ W0.heap.size := by rw [← hW0]; simp
  have HB0 := Lib.hid hB0
  have HRow := Lib.hid fun W (h : Below W0.heap.size W0 W) => show row? W w.heap.size = some #[.slice aVa LA cVa, .slice aEa MA cEa] ∧ row? W (w.heap.size + 1) = some #[.slice aVb LB cVb, .slice aEb MB cEb] from ⟨(row?_below h (by omega)).trans ra, (row?_below h (by omega)).trans rb⟩
  have HBW := Lib.hid fun W (hW : Below W0.heap.size W0 W) => hB0.trans (hW.mono hB0.size)
  clear hW0 ra rb hB0
  go_loopw [5, 6] (fun v i wr => ∃ k : Nat, k ≤ LA ∧ i = .int .i64 (k : Int) ∧ OwnRD W0.heap.size wr v (D0 ++ (A.V.take k).flatMap (dA B)) ∧ Below W0.heap.size W0 wr) (fun _ i _ => LA - (intOf i).toNat)
  case atStart => exact ⟨0, by omega, rfl, by rw [HD0.out]; exact OwnR.nil _ _, Below.refl _ _⟩
  case round =>
    obtain ⟨k, hk, rfl, hO, hb⟩ := hrel
    obtain ⟨acc, hacc⟩ : ∃ acc, acc = D0 ++ ((A.V).take k).flatMap (dA B) := ⟨_, rfl⟩
    rw [← hacc] at hO
    have hal : acc.length < 100000 := by
      have h1 := flat_take_le (dA_len B) k LA (by rw [(HLA).out]; exact Nat.le_refl _) (l := A.V)
      rw [hacc, List.length_append]
      omega
    have HACC := Lib.hid hacc
    obtain ⟨qv, cv, rfl⟩ := hO.sl
    have HO := Lib.hid hO
    have HB := Lib.hid hb
    have hsz := hb.size
    obtain ⟨ra, rb⟩ := HRow.out wr hb
    have m0 := cell?_row (i := 0) ra
    have m1 := cell?_row (i := 1) ra
    have m2 := cell?_row (i := 0) rb
    have m3 := cell?_row (i := 1) rb
    simp at m0 m1 m2 m3
    clear hacc hO hb
    by_cases hlt : k < LA
    · obtain ⟨b, off, c', x, h1, hbb, hx, hc⟩ := (HRa.out.1).at (by rw [← (HLA).out]; exact hlt)
      simp only [Value.slice.injEq] at h1
      obtain ⟨rfl, -, rfl⟩ := h1
      have hmem := List.mem_of_getElem? hx
      obtain ⟨xi, xl, xw⟩ := x
      have HX := Lib.hid hx
      have HC := Lib.hid fun W (hW : Below W0.heap.size W0 W) => show W.cell? ⟨b, off + k * 3, none⟩ = some (.int .i64 xi) from hc W (HBW.out W hW) 0 _ rfl
      obtain ⟨z, hz⟩ : ∃ z, z = idx (fun p : Int × Th => decide (p.1 = xi)) B.V := ⟨_, rfl⟩
      have HF1 := Lib.hid fun W (hW : Below W0.heap.size W0 W) => HFb.out xi W (HBW.out W hW)
      rw [← hz] at HF1
      cases hl : Pal.look B.V xi with
      | some t =>
        have HFx : Hid (dA B (xi, xl, xw) = []) := Lib.hid (by unfold dA goneV; simp only; rw [hl]; rfl)
        have hz0 : ¬ z < 0 := by
          obtain ⟨j, hj, -⟩ := find_some (HBk.out.sV.nd ordV) hl
          rw [hz, hj]; omega
        have hzb : decide (z < 0) = false := decide_eq_false hz0
        clear hz hl hc hx
        go_wp2_with fail
        refine wp_region_free (fun W => Below W0.heap.size W0 W ∧ Below wr.heap.size wr W) (by kernel_rfl) (by kernel_rfl) ⟨HB.out.drew, (Below.refl _ _).drew⟩ ?_
        repeat (first | (apply wpFree_still; (intro w hw; obtain ⟨ra, rb⟩ := HRow.out w hw.1; have n0 := cell?_row (i := 0) ra; have n1 := cell?_row (i := 1) ra; have n2 := cell?_row (i := 0) rb; have n3 := cell?_row (i := 1) rb; simp at n0 n1 n2 n3; have k1 := HC.out w hw.1; clear hw; go_simp; (try go_ints); (first | with_reducible rfl | (go_simp; with_reducible rfl))); with_reducible rfl; (intro K hK; go_simp; (try go_ints); refine hK _ ?_; clear hK K)) | (apply wpFree_stillG rfl; (intro w hw; obtain ⟨ra, rb⟩ := HRow.out w hw.1; have n0 := cell?_row (i := 0) ra; have n1 := cell?_row (i := 1) ra; have n2 := cell?_row (i := 0) rb; have n3 := cell?_row (i := 1) rb; simp at n0 n1 n2 n3; have k1 := HC.out w hw.1; clear hw; go_simp; (try go_ints); (first | with_reducible rfl | (go_simp; with_reducible rfl))); (intro K hK; go_simp; (try go_ints); refine hK _ ?_; clear hK K)) | (apply wpFree_skip rfl; (intro K hK; go_simp; (try go_ints); refine hK _ ?_; clear hK K)))
        apply wpFree_call
        · intro w hw; go_simp; first | with_reducible rfl | with_reducible exact ⟨rfl, rfl⟩
        · with_reducible rfl
        · intro w hw; exact ((HF1).out w hw.1).mono fun e w' ⟨h1, h2⟩ => ⟨h1, hw.1.trans (h2.mono hw.1.size), hw.2.trans (h2.mono hw.2.size)⟩
        intro K hK; go_simp; (try go_ints); refine hK _ ?_; clear hK K
        repeat (first | (apply wpFree_still; (intro w hw; clear hw; go_simp; (try go_ints); (first | with_reducible rfl | (go_simp; with_reducible rfl))); with_reducible rfl; (intro K hK; go_simp; (try go_ints); refine hK _ ?_; clear hK K)) | (apply wpFree_stillG rfl; (intro w hw; clear hw; go_simp; (try go_ints); (first | with_reducible rfl | (go_simp; with_reducible rfl))); (intro K hK; go_simp; (try go_ints); refine hK _ ?_; clear hK K)) | (apply wpFree_skip rfl; (intro K hK; go_simp; (try go_ints); refine hK _ ?_; clear hK K)))
        with_reducible refine wpFree_nil ?_
        rintro w2 ⟨hb2, hbr2⟩
        have HB2 := Lib.hid hb2
        have HBr2 := Lib.hid hbr2
        have HO2 := Lib.hid (HO.out.below hbr2 (Nat.le_refl _))
        have hs2 := hbr2.size
        clear hb2 hbr2 ra rb m0 m1 m2 m3
        go_wp2_with fail
        go_roundw
        case rel => exact ⟨k + 1, by omega, by go_num, by rw [flatMap_snoc HX.out, ← List.append_assoc, ← HACC.out, HFx.out, List.append_nil]; exact (HO2).out, (HB2).out⟩
        case measure => simp [intOf]; omega
      | none =>
        have HFx : Hid (dA B (xi, xl, xw) = [eRm xi]) := Lib.hid (by unfold dA goneV; simp only; rw [hl]; rfl)
        have hz0 : z < 0 := by rw [hz]; exact find_none hl
        have hzb : decide (z < 0) = true := decide_eq_true hz0
        clear hz hl hc hx
        go_wp2_with fail
        refine wp_region_free (fun W => Below W0.heap.size W0 W ∧ Below wr.heap.size wr W) (by kernel_rfl) (by kernel_rfl) ⟨HB.out.drew, (Below.refl _ _).drew⟩ ?_
        repeat (first | (apply wpFree_still; (intro w hw; obtain ⟨ra, rb⟩ := HRow.out w hw.1; have n0 := cell?_row (i := 0) ra; have n1 := cell?_row (i := 1) ra; have n2 := cell?_row (i := 0) rb; have n3 := cell?_row (i := 1) rb; simp at n0 n1 n2 n3; have k1 := HC.out w hw.1; clear hw; go_simp; (try go_ints); (first | with_reducible rfl | (go_simp; with_reducible rfl))); with_reducible rfl; (intro K hK; go_simp; (try go_ints); refine hK _ ?_; clear hK K)) | (apply wpFree_stillG rfl; (intro w hw; obtain ⟨ra, rb⟩ := HRow.out w hw.1; have n0 := cell?_row (i := 0) ra; have n1 := cell?_row (i := 1) ra; have n2 := cell?_row (i := 0) rb; have n3 := cell?_row (i := 1) rb; simp at n0 n1 n2 n3; have k1 := HC.out w hw.1; clear hw; go_simp; (try go_ints); (first | with_reducible rfl | (go_simp; with_reducible rfl))); (intro K hK; go_simp; (try go_ints); refine hK _ ?_; clear hK K)) | (apply wpFree_skip rfl; (intro K hK; go_simp; (try go_ints); refine hK _ ?_; clear hK K)))
        apply wpFree_call
        · intro w hw; go_simp; first | with_reducible rfl | with_reducible exact ⟨rfl, rfl⟩
        · with_reducible rfl
        · intro w hw; exact ((HF1).out w hw.1).mono fun e w' ⟨h1, h2⟩ => ⟨h1, hw.1.trans (h2.mono hw.1.size), hw.2.trans (h2.mono hw.2.size)⟩
        intro K hK; go_simp; (try go_ints); refine hK _ ?_; clear hK K
        repeat (first | (apply wpFree_still; (intro w hw; clear hw; go_simp; (try go_ints); (first | with_reducible rfl | (go_simp; with_reducible rfl))); with_reducible rfl; (intro K hK; go_simp; (try go_ints); refine hK _ ?_; clear hK K)) | (apply wpFree_stillG rfl; (intro w hw; clear hw; go_simp; (try go_ints); (first | with_reducible rfl | (go_simp; with_reducible rfl))); (intro K hK; go_simp; (try go_ints); refine hK _ ?_; clear hK K)) | (apply wpFree_skip rfl; (intro K hK; go_simp; (try go_ints); refine hK _ ?_; clear hK K)))
        with_reducible refine wpFree_nil ?_
        rintro w2 ⟨hb2, hbr2⟩
        have HB2 := Lib.hid hb2
        have HBr2 := Lib.hid hbr2
        have HO2 := Lib.hid (HO.out.below hbr2 (Nat.le_refl _))
        have hs2 := hbr2.size
        clear hb2 hbr2 ra rb m0 m1 m2 m3
        have c0 := HC.out w2 HB2.out
        obtain ⟨ra, rb⟩ := HRow.out w2 (HB2).out
        have m0 := cell?_row (i := 0) ra
        have m1 := cell?_row (i := 1) ra
        have m2 := cell?_row (i := 0) rb
        have m3 := cell?_row (i := 1) rb
        simp at m0 m1 m2 m3
        go_wp2_with (at_builtin; refine wpList_appO elRD 32 Tryz.underlying32 rfl _ _ rfl W0.heap.size _ acc rfl (HO2.out.alloc _) _ (eRm xi) _ rfl (row?_alloc_at _ _ _ _ (by simp)) (by omega) (by have := HB2.out.size; simp; omega) ?_)
        clear c0
        intro v3 w3 hO3 hb3 hg3 hl3
        have HB3 := Lib.hid ((HB2.out.alloc HB2.out.size _).trans hb3)
        have HO3 : Hid (OwnRD W0.heap.size w3 v3 (D0 ++ ((A.V).take (k + 1)).flatMap (dA B))) := Lib.hid (by
          rw [flatMap_snoc HX.out, ← List.append_assoc, ← HACC.out, HFx.out]
          exact hO3)
        obtain ⟨q3, c3, rfl⟩ := hO3.sl
        clear hO3 hb3 hg3 hl3
        go_wp2_with fail
        go_roundw
        case rel => exact ⟨k + 1, by omega, by go_num, HO3.out, HB3.out⟩
        case measure => simp [intOf]; omega
    · have hkn : LA = k := by omega
      subst hkn
      obtain ⟨D1, hD⟩ : ∃ D, D = D0 ++ (A.V).flatMap (dA B) := ⟨_, rfl⟩
      have e : D1 = acc := by rw [hD, HACC.out, (HLA).out, List.take_length]
      have hDl : (D1).length ≤ 1024 := by
        have h1 := flat_take_le (dA_len B) LA LA (by rw [(HLA).out]; exact Nat.le_refl _) (l := A.V)
        rw [e, HACC.out, List.length_append]
        omega
      subst e
      have HD1 := Lib.hid hD
      have hD1 := hDl
      obtain ⟨wo, rfl⟩ : ∃ W : World, W = wr := ⟨_, rfl⟩
      have HOc := HO
      have HBc := HB
      clear HACC HO HB hD hDl hsz hal hk
      go_wp2_with fail
      clear ra rb m0 m1 m2 m3
      go_loopw [5, 7] (fun v i wr => ∃ k : Nat, k ≤ MA ∧ i = .int .i64 (k : Int) ∧ OwnRD W0.heap.size wr v (D1 ++ (A.E.take k).flatMap (dB B)) ∧ Below W0.heap.size W0 wr) (fun _ i _ => MA - (intOf i).toNat)
      case atStart => exact ⟨0, by omega, rfl, by simpa using HOc.out, HBc.out⟩
      case round =>
        clear HOc HBc
        obtain ⟨k, hk, rfl, hO, hb⟩ := hrel
        obtain ⟨acc, hacc⟩ : ∃ acc, acc = D1 ++ ((A.E).take k).flatMap (dB B) := ⟨_, rfl⟩
        rw [← hacc] at hO
        have hal : acc.length < 100000 := by
          have h1 := flat_take_le (dB_len B) k MA (by rw [(HMA).out]; exact Nat.le_refl _) (l := A.E)
          rw [hacc, List.length_append]
          omega
        have HACC := Lib.hid hacc
        obtain ⟨qv, cv, rfl⟩ := hO.sl
        have HO := Lib.hid hO
        have HB := Lib.hid hb
        have hsz := hb.size
        obtain ⟨ra, rb⟩ := HRow.out wr hb
        have m0 := cell?_row (i := 0) ra
        have m1 := cell?_row (i := 1) ra
        have m2 := cell?_row (i := 0) rb
        have m3 := cell?_row (i := 1) rb
        simp at m0 m1 m2 m3
        clear hacc hO hb
        by_cases hlt : k < MA
        · obtain ⟨b, off, c', x, h1, hbb, hx, hc⟩ := (HRa.out.2).at (by rw [← (HMA).out]; exact hlt)
          simp only [Value.slice.injEq] at h1
          obtain ⟨rfl, -, rfl⟩ := h1
          have hmem := List.mem_of_getElem? hx
          obtain ⟨⟨xu, xv⟩, xl, xw⟩ := x
          have HX := Lib.hid hx
          have hlu := (HA.out.ends _ hmem).1
          simp only at hlu
          have jl : rowLoad Tryz.prog 106 ⟨b, off + k * 4, none⟩ wr = .ok (.agg #[.int .i64 xu, .int .i64 xv, .int .u8 (xl : Int), .int .i64 xw]) wr := load_cells Tryz.isAgg106 Tryz.sizeOf106 wr b _ _ rfl fun j u hu => hc wr (HBW.out wr HB.out) j u hu
          obtain ⟨wB, hwB⟩ : ∃ W, W = wr.alloc (.cells #[.int .i64 xu, .int .i64 xv, .int .u8 (xl : Int), .int .i64 xw] 106) := ⟨_, rfl⟩
          have hrv : row? wB wr.heap.size = some #[.int .i64 xu, .int .i64 xv, .int .u8 (xl : Int), .int .i64 xw] := by rw [hwB]; exact row?_alloc_at _ _ _ _ rfl
          have hbB : Below wr.heap.size wr wB := by rw [hwB]; exact (Below.refl _ wr).alloc (Nat.le_refl _) _
          have hsB : wr.heap.size < wB.heap.size := by rw [hwB]; simp
          have HRV := Lib.hid hrv
          have HBb := Lib.hid (HB.out.trans (hbB.mono hsz))
          have HOB := Lib.hid (HO.out.below hbB (Nat.le_refl _))
          have HWB := Lib.hid hwB
          have hrw := HRow.out wB HBb.out
          have q0 := cell?_row (i := 0) hrv
          have q1 := cell?_row (i := 1) hrv
          have rA := hrw.1
          have rB := hrw.2
          simp at q0 q1
          rw [hwB] at q0 q1 rA rB hrv
          clear hbB hx hc hwB hrw
          go_wp2_with fail
          rw [← HWB.out]
          clear jl q0 q1 rA rB hrv ra rb m0 m1 m2 m3
          obtain ⟨z1, hz1⟩ : ∃ z, z = idx (fun p : Int × Th => decide (p.1 = xu)) B.V := ⟨_, rfl⟩
          obtain ⟨z2, hz2⟩ : ∃ z, z = idx (fun p : Int × Th => decide (p.1 = xv)) B.V := ⟨_, rfl⟩
          obtain ⟨z3, hz3⟩ : ∃ z, z = idx (edgB xu xv) B.E := ⟨_, rfl⟩
          have HF1 := Lib.hid fun W (hW : Below wB.heap.size wB W) => HFb.out xu W (HBW.out W (HBb.out.trans (hW.mono HBb.out.size)))
          have HF2 := Lib.hid fun W (hW : Below wB.heap.size wB W) => HFb.out xv W (HBW.out W (HBb.out.trans (hW.mono HBb.out.size)))
          have HF3 := Lib.hid fun W (hW : Below wB.heap.size wB W) => HEb.out xu xv W (HBW.out W (HBb.out.trans (hW.mono HBb.out.size)))
          rw [← hz1] at HF1
          rw [← hz2] at HF2
          rw [← hz3] at HF3
          cases hl1 : Pal.look B.V xu with
          | none =>
            have HFx : Hid (dB B ((xu, xv), xl, xw) = []) := Lib.hid (by unfold dB goneE; simp only; rw [hl1]; rfl)
            have hd1 : decide (0 ≤ z1) = false := decide_eq_false (by have := find_none hl1; omega)
            clear hz1 hz2 hz3 hl1
            refine (HF1.out wB (Below.refl _ _)).mono ?_
            rintro r w2 ⟨rfl, hbz⟩
            have HZ2 := Lib.hid (((Below.refl wB.heap.size wB)).trans (hbz.mono ((Below.refl wB.heap.size wB)).size))
            clear hbz
            have HBw := Lib.hid (HBb.out.trans ((HZ2).out.mono HBb.out.size))
            have HOw := Lib.hid (HOB.out.below (HZ2).out (Nat.le_refl _))
            go_wp2_with fail
            go_roundw
            case rel => exact ⟨k + 1, by omega, by go_num, by rw [flatMap_snoc HX.out, ← List.append_assoc, ← HACC.out, HFx.out, List.append_nil]; exact HOw.out, HBw.out⟩
            case measure => simp [intOf]; omega
          | some t1 =>
            have hd1 : decide (0 ≤ z1) = true := decide_eq_true (by obtain ⟨j, hj, -⟩ := find_some (HBk.out.sV.nd ordV) hl1; omega)
            cases hl2 : Pal.look B.V xv with
            | none =>
              have HFx : Hid (dB B ((xu, xv), xl, xw) = []) := Lib.hid (by unfold dB goneE; simp only; rw [hl1, hl2]; rfl)
              have hd2 : decide (0 ≤ z2) = false := decide_eq_false (by have := find_none hl2; omega)
              clear hz1 hz2 hz3 hl1 hl2
              refine (HF1.out wB (Below.refl _ _)).mono ?_
              rintro r w2 ⟨rfl, hbz⟩
              have HZ2 := Lib.hid (((Below.refl wB.heap.size wB)).trans (hbz.mono ((Below.refl wB.heap.size wB)).size))
              clear hbz
              obtain ⟨ra, rb⟩ := HRow.out w2 (HBb.out.trans ((HZ2).out.mono HBb.out.size))
              have rv := (row?_below (HZ2).out hsB).trans HRV.out
              have m0 := cell?_row (i := 0) ra
              have m1 := cell?_row (i := 1) ra
              have m2 := cell?_row (i := 0) rb
              have m3 := cell?_row (i := 1) rb
              have q0 := cell?_row (i := 0) rv
              have q1 := cell?_row (i := 1) rv
              have q2 := cell?_row (i := 2) rv
              simp at m0 m1 m2 m3 q0 q1 q2
              go_wp2_with fail
              clear ra rb rv m0 m1 m2 m3 q0 q1 q2
              refine (HF2.out w2 HZ2.out).mono ?_
              rintro r w3 ⟨rfl, hbz⟩
              have HZ3 := Lib.hid ((HZ2.out).trans (hbz.mono (HZ2.out).size))
              clear hbz
              have HBw := Lib.hid (HBb.out.trans ((HZ3).out.mono HBb.out.size))
              have HOw := Lib.hid (HOB.out.below (HZ3).out (Nat.le_refl _))
              go_wp2_with fail
              go_roundw
              case rel => exact ⟨k + 1, by omega, by go_num, by rw [flatMap_snoc HX.out, ← List.append_assoc, ← HACC.out, HFx.out, List.append_nil]; exact HOw.out, HBw.out⟩
              case measure => simp [intOf]; omega
            | some t2 =>
              have hd2 : decide (0 ≤ z2) = true := decide_eq_true (by obtain ⟨j, hj, -⟩ := find_some (HBk.out.sV.nd ordV) hl2; omega)
              cases hl3 : Pal.look B.E (xu, xv) with
              | some t3 =>
                have HFx : Hid (dB B ((xu, xv), xl, xw) = []) := Lib.hid (by unfold dB goneE; simp only; rw [hl1, hl2, hl3]; rfl)
                have hz0 : ¬ z3 < 0 := by obtain ⟨j, hj, -⟩ := redge_some HBk.out hlu hl3; omega
                have hd3 : decide (z3 < 0) = false := decide_eq_false hz0
                clear hz1 hz2 hz3 hl1 hl2 hl3
                refine (HF1.out wB (Below.refl _ _)).mono ?_
                rintro r w2 ⟨rfl, hbz⟩
                have HZ2 := Lib.hid (((Below.refl wB.heap.size wB)).trans (hbz.mono ((Below.refl wB.heap.size wB)).size))
                clear hbz
                obtain ⟨ra, rb⟩ := HRow.out w2 (HBb.out.trans ((HZ2).out.mono HBb.out.size))
                have rv := (row?_below (HZ2).out hsB).trans HRV.out
                have m0 := cell?_row (i := 0) ra
                have m1 := cell?_row (i := 1) ra
                have m2 := cell?_row (i := 0) rb
                have m3 := cell?_row (i := 1) rb
                have q0 := cell?_row (i := 0) rv
                have q1 := cell?_row (i := 1) rv
                have q2 := cell?_row (i := 2) rv
                simp at m0 m1 m2 m3 q0 q1 q2
                go_wp2_with fail
                clear ra rb rv m0 m1 m2 m3 q0 q1 q2
                refine (HF2.out w2 HZ2.out).mono ?_
                rintro r w3 ⟨rfl, hbz⟩
                have HZ3 := Lib.hid ((HZ2.out).trans (hbz.mono (HZ2.out).size))
                clear hbz
                obtain ⟨ra, rb⟩ := HRow.out w3 (HBb.out.trans ((HZ3).out.mono HBb.out.size))
                have rv := (row?_below (HZ3).out hsB).trans HRV.out
                have m0 := cell?_row (i := 0) ra
                have m1 := cell?_row (i := 1) ra
                have m2 := cell?_row (i := 0) rb
                have m3 := cell?_row (i := 1) rb
                have q0 := cell?_row (i := 0) rv
                have q1 := cell?_row (i := 1) rv
                have q2 := cell?_row (i := 2) rv
                simp at m0 m1 m2 m3 q0 q1 q2
                go_wp2_with fail
                clear ra rb rv m0 m1 m2 m3 q0 q1 q2
                refine (HF3.out w3 HZ3.out).mono ?_
                rintro r w4 ⟨rfl, hbz⟩
                have HZ4 := Lib.hid ((HZ3.out).trans (hbz.mono (HZ3.out).size))
                clear hbz
                have HBw := Lib.hid (HBb.out.trans ((HZ4).out.mono HBb.out.size))
                have HOw := Lib.hid (HOB.out.below (HZ4).out (Nat.le_refl _))
                go_wp2_with fail
                go_roundw
                case rel => exact ⟨k + 1, by omega, by go_num, by rw [flatMap_snoc HX.out, ← List.append_assoc, ← HACC.out, HFx.out, List.append_nil]; exact HOw.out, HBw.out⟩
                case measure => simp [intOf]; omega
              | none =>
                have HFx : Hid (dB B ((xu, xv), xl, xw) = [ePt (xu, xv)]) := Lib.hid (by unfold dB goneE; simp only; rw [hl1, hl2, hl3]; rfl)
                have hz0 : z3 < 0 := by rw [hz3]; exact redge_none HBk.out hlu hl3
                have hd3 : decide (z3 < 0) = true := decide_eq_true hz0
                clear hz1 hz2 hz3 hl1 hl2 hl3
                refine (HF1.out wB (Below.refl _ _)).mono ?_
                rintro r w2 ⟨rfl, hbz⟩
                have HZ2 := Lib.hid (((Below.refl wB.heap.size wB)).trans (hbz.mono ((Below.refl wB.heap.size wB)).size))
                clear hbz
                obtain ⟨ra, rb⟩ := HRow.out w2 (HBb.out.trans ((HZ2).out.mono HBb.out.size))
                have rv := (row?_below (HZ2).out hsB).trans HRV.out
                have m0 := cell?_row (i := 0) ra
                have m1 := cell?_row (i := 1) ra
                have m2 := cell?_row (i := 0) rb
                have m3 := cell?_row (i := 1) rb
                have q0 := cell?_row (i := 0) rv
                have q1 := cell?_row (i := 1) rv
                have q2 := cell?_row (i := 2) rv
                simp at m0 m1 m2 m3 q0 q1 q2
                go_wp2_with fail
                clear ra rb rv m0 m1 m2 m3 q0 q1 q2
                refine (HF2.out w2 HZ2.out).mono ?_
                rintro r w3 ⟨rfl, hbz⟩
                have HZ3 := Lib.hid ((HZ2.out).trans (hbz.mono (HZ2.out).size))
                clear hbz
                obtain ⟨ra, rb⟩ := HRow.out w3 (HBb.out.trans ((HZ3).out.mono HBb.out.size))
                have rv := (row?_below (HZ3).out hsB).trans HRV.out
                have m0 := cell?_row (i := 0) ra
                have m1 := cell?_row (i := 1) ra
                have m2 := cell?_row (i := 0) rb
                have m3 := cell?_row (i := 1) rb
                have q0 := cell?_row (i := 0) rv
                have q1 := cell?_row (i := 1) rv
                have q2 := cell?_row (i := 2) rv
                simp at m0 m1 m2 m3 q0 q1 q2
                go_wp2_with fail
                clear ra rb rv m0 m1 m2 m3 q0 q1 q2
                refine (HF3.out w3 HZ3.out).mono ?_
                rintro r w4 ⟨rfl, hbz⟩
                have HZ4 := Lib.hid ((HZ3.out).trans (hbz.mono (HZ3.out).size))
                clear hbz
                obtain ⟨ra, rb⟩ := HRow.out w4 (HBb.out.trans ((HZ4).out.mono HBb.out.size))
                have rv := (row?_below (HZ4).out hsB).trans HRV.out
                have m0 := cell?_row (i := 0) ra
                have m1 := cell?_row (i := 1) ra
                have m2 := cell?_row (i := 0) rb
                have m3 := cell?_row (i := 1) rb
                have q0 := cell?_row (i := 0) rv
                have q1 := cell?_row (i := 1) rv
                have q2 := cell?_row (i := 2) rv
                simp at m0 m1 m2 m3 q0 q1 q2
                have HBw := Lib.hid (HBb.out.trans ((HZ4).out.mono HBb.out.size))
                have HOw := Lib.hid (HOB.out.below (HZ4).out (Nat.le_refl _))
                go_wp2_with (at_builtin; refine wpList_appO elRD 32 Tryz.underlying32 rfl _ _ rfl W0.heap.size _ acc rfl (HOw.out.alloc _) _ (ePt (xu, xv)) _ rfl (row?_alloc_at _ _ _ _ (by simp)) (by omega) (by have := HBw.out.size; simp; omega) ?_)
                clear ra rb rv m0 m1 m2 m3 q0 q1 q2
                intro v3 w3 hO3 hb3 hg3 hl3
                have HB3 := Lib.hid ((HBw.out.alloc HBw.out.size _).trans hb3)
                have HO3 : Hid (OwnRD W0.heap.size w3 v3 (D1 ++ ((A.E).take (k + 1)).flatMap (dB B))) := Lib.hid (by
                  rw [flatMap_snoc HX.out, ← List.append_assoc, ← HACC.out, HFx.out]
                  exact hO3)
                obtain ⟨q3, c3, rfl⟩ := hO3.sl
                clear hO3 hb3 hg3 hl3
                go_wp2_with fail
                go_roundw
                case rel => exact ⟨k + 1, by omega, by go_num, HO3.out, HB3.out⟩
                case measure => simp [intOf]; omega
        · have hkn : MA = k := by omega
          subst hkn
          obtain ⟨D2, hD⟩ : ∃ D, D = D1 ++ (A.E).flatMap (dB B) := ⟨_, rfl⟩
          have e : D2 = acc := by rw [hD, HACC.out, (HMA).out, List.take_length]
          have hDl : (D2).length ≤ 2048 := by
            have h1 := flat_take_le (dB_len B) MA MA (by rw [(HMA).out]; exact Nat.le_refl _) (l := A.E)
            rw [e, HACC.out, List.length_append]
            omega
          subst e
          have HD2 := Lib.hid hD
          have hD2 := hDl
          obtain ⟨wo, rfl⟩ : ∃ W : World, W = wr := ⟨_, rfl⟩
          have HOc := HO
          have HBc := HB
          clear HACC HO HB hD hDl hsz hal hk
          go_wp2_with fail
          clear ra rb m0 m1 m2 m3
          go_loopw [5, 9] (fun v i wr => ∃ k : Nat, k ≤ LB ∧ i = .int .i64 (k : Int) ∧ OwnRD W0.heap.size wr v (D2 ++ (B.V.take k).flatMap (dC A)) ∧ Below W0.heap.size W0 wr) (fun _ i _ => LB - (intOf i).toNat)
          case atStart => exact ⟨0, by omega, rfl, by simpa using HOc.out, HBc.out⟩
          case round =>
            clear HOc HBc
            obtain ⟨k, hk, rfl, hO, hb⟩ := hrel
            obtain ⟨acc, hacc⟩ : ∃ acc, acc = D2 ++ ((B.V).take k).flatMap (dC A) := ⟨_, rfl⟩
            rw [← hacc] at hO
            have hal : acc.length < 100000 := by
              have h1 := flat_take_le (dC_len A) k LB (by rw [(HLB).out]; exact Nat.le_refl _) (l := B.V)
              rw [hacc, List.length_append]
              omega
            have HACC := Lib.hid hacc
            obtain ⟨qv, cv, rfl⟩ := hO.sl
            have HO := Lib.hid hO
            have HB := Lib.hid hb
            have hsz := hb.size
            obtain ⟨ra, rb⟩ := HRow.out wr hb
            have m0 := cell?_row (i := 0) ra
            have m1 := cell?_row (i := 1) ra
            have m2 := cell?_row (i := 0) rb
            have m3 := cell?_row (i := 1) rb
            simp at m0 m1 m2 m3
            clear hacc hO hb
            by_cases hlt : k < LB
            · obtain ⟨b, off, c', x, h1, hbb, hx, hc⟩ := (HRb.out.1).at (by rw [← (HLB).out]; exact hlt)
              simp only [Value.slice.injEq] at h1
              obtain ⟨rfl, -, rfl⟩ := h1
              have hmem := List.mem_of_getElem? hx
              obtain ⟨xi, xl, xw⟩ := x
              have HX := Lib.hid hx
              have HC := Lib.hid fun W (hW : Below W0.heap.size W0 W) => show W.cell? ⟨b, off + k * 3, none⟩ = some (.int .i64 xi) from hc W (HBW.out W hW) 0 _ rfl
              have HC1 := Lib.hid fun W (hW : Below W0.heap.size W0 W) => show W.cell? ⟨b, off + k * 3 + 1, none⟩ = some (.int .u8 (xl : Int)) from hc W (HBW.out W hW) 1 _ rfl
              have HC2 := Lib.hid fun W (hW : Below W0.heap.size W0 W) => show W.cell? ⟨b, off + k * 3 + 2, none⟩ = some (.int .i64 xw) from hc W (HBW.out W hW) 2 _ rfl
              obtain ⟨z, hz⟩ : ∃ z, z = idx (fun p : Int × Th => decide (p.1 = xi)) A.V := ⟨_, rfl⟩
              have HF1 := Lib.hid fun W (hW : Below W0.heap.size W0 W) => HFa.out xi W (HBW.out W hW)
              rw [← hz] at HF1
              cases hl : Pal.look A.V xi with
              | some t =>
                have HFx : Hid (dC A (xi, xl, xw) = []) := Lib.hid (by unfold dC goneV; simp only; rw [hl]; rfl)
                have hz0 : ¬ z < 0 := by
                  obtain ⟨j, hj, -⟩ := find_some (HA.out.sV.nd ordV) hl
                  rw [hz, hj]; omega
                have hzb : decide (z < 0) = false := decide_eq_false hz0
                clear hz hl hc hx
                go_wp2_with fail
                refine wp_region_free (fun W => Below W0.heap.size W0 W ∧ Below wr.heap.size wr W) (by kernel_rfl) (by kernel_rfl) ⟨HB.out.drew, (Below.refl _ _).drew⟩ ?_
                repeat (first | (apply wpFree_still; (intro w hw; obtain ⟨ra, rb⟩ := HRow.out w hw.1; have n0 := cell?_row (i := 0) ra; have n1 := cell?_row (i := 1) ra; have n2 := cell?_row (i := 0) rb; have n3 := cell?_row (i := 1) rb; simp at n0 n1 n2 n3; have k1 := HC.out w hw.1; clear hw; go_simp; (try go_ints); (first | with_reducible rfl | (go_simp; with_reducible rfl))); with_reducible rfl; (intro K hK; go_simp; (try go_ints); refine hK _ ?_; clear hK K)) | (apply wpFree_stillG rfl; (intro w hw; obtain ⟨ra, rb⟩ := HRow.out w hw.1; have n0 := cell?_row (i := 0) ra; have n1 := cell?_row (i := 1) ra; have n2 := cell?_row (i := 0) rb; have n3 := cell?_row (i := 1) rb; simp at n0 n1 n2 n3; have k1 := HC.out w hw.1; clear hw; go_simp; (try go_ints); (first | with_reducible rfl | (go_simp; with_reducible rfl))); (intro K hK; go_simp; (try go_ints); refine hK _ ?_; clear hK K)) | (apply wpFree_skip rfl; (intro K hK; go_simp; (try go_ints); refine hK _ ?_; clear hK K)))
                apply wpFree_call
                · intro w hw; go_simp; first | with_reducible rfl | with_reducible exact ⟨rfl, rfl⟩
                · with_reducible rfl
                · intro w hw; exact ((HF1).out w hw.1).mono fun e w' ⟨h1, h2⟩ => ⟨h1, hw.1.trans (h2.mono hw.1.size), hw.2.trans (h2.mono hw.2.size)⟩
                intro K hK; go_simp; (try go_ints); refine hK _ ?_; clear hK K
                repeat (first | (apply wpFree_still; (intro w hw; clear hw; go_simp; (try go_ints); (first | with_reducible rfl | (go_simp; with_reducible rfl))); with_reducible rfl; (intro K hK; go_simp; (try go_ints); refine hK _ ?_; clear hK K)) | (apply wpFree_stillG rfl; (intro w hw; clear hw; go_simp; (try go_ints); (first | with_reducible rfl | (go_simp; with_reducible rfl))); (intro K hK; go_simp; (try go_ints); refine hK _ ?_; clear hK K)) | (apply wpFree_skip rfl; (intro K hK; go_simp; (try go_ints); refine hK _ ?_; clear hK K)))
                with_reducible refine wpFree_nil ?_
                rintro w2 ⟨hb2, hbr2⟩
                have HB2 := Lib.hid hb2
                have HBr2 := Lib.hid hbr2
                have HO2 := Lib.hid (HO.out.below hbr2 (Nat.le_refl _))
                have hs2 := hbr2.size
                clear hb2 hbr2 ra rb m0 m1 m2 m3
                go_wp2_with fail
                go_roundw
                case rel => exact ⟨k + 1, by omega, by go_num, by rw [flatMap_snoc HX.out, ← List.append_assoc, ← HACC.out, HFx.out, List.append_nil]; exact (HO2).out, (HB2).out⟩
                case measure => simp [intOf]; omega
              | none =>
                have HFx : Hid (dC A (xi, xl, xw) = [vEd (xi, xl, xw)]) := Lib.hid (by unfold dC goneV; simp only; rw [hl]; rfl)
                have hz0 : z < 0 := by rw [hz]; exact find_none hl
                have hzb : decide (z < 0) = true := decide_eq_true hz0
                clear hz hl hc hx
                go_wp2_with fail
                refine wp_region_free (fun W => Below W0.heap.size W0 W ∧ Below wr.heap.size wr W) (by kernel_rfl) (by kernel_rfl) ⟨HB.out.drew, (Below.refl _ _).drew⟩ ?_
                repeat (first | (apply wpFree_still; (intro w hw; obtain ⟨ra, rb⟩ := HRow.out w hw.1; have n0 := cell?_row (i := 0) ra; have n1 := cell?_row (i := 1) ra; have n2 := cell?_row (i := 0) rb; have n3 := cell?_row (i := 1) rb; simp at n0 n1 n2 n3; have k1 := HC.out w hw.1; clear hw; go_simp; (try go_ints); (first | with_reducible rfl | (go_simp; with_reducible rfl))); with_reducible rfl; (intro K hK; go_simp; (try go_ints); refine hK _ ?_; clear hK K)) | (apply wpFree_stillG rfl; (intro w hw; obtain ⟨ra, rb⟩ := HRow.out w hw.1; have n0 := cell?_row (i := 0) ra; have n1 := cell?_row (i := 1) ra; have n2 := cell?_row (i := 0) rb; have n3 := cell?_row (i := 1) rb; simp at n0 n1 n2 n3; have k1 := HC.out w hw.1; clear hw; go_simp; (try go_ints); (first | with_reducible rfl | (go_simp; with_reducible rfl))); (intro K hK; go_simp; (try go_ints); refine hK _ ?_; clear hK K)) | (apply wpFree_skip rfl; (intro K hK; go_simp; (try go_ints); refine hK _ ?_; clear hK K)))
                apply wpFree_call
                · intro w hw; go_simp; first | with_reducible rfl | with_reducible exact ⟨rfl, rfl⟩
                · with_reducible rfl
                · intro w hw; exact ((HF1).out w hw.1).mono fun e w' ⟨h1, h2⟩ => ⟨h1, hw.1.trans (h2.mono hw.1.size), hw.2.trans (h2.mono hw.2.size)⟩
                intro K hK; go_simp; (try go_ints); refine hK _ ?_; clear hK K
                repeat (first | (apply wpFree_still; (intro w hw; clear hw; go_simp; (try go_ints); (first | with_reducible rfl | (go_simp; with_reducible rfl))); with_reducible rfl; (intro K hK; go_simp; (try go_ints); refine hK _ ?_; clear hK K)) | (apply wpFree_stillG rfl; (intro w hw; clear hw; go_simp; (try go_ints); (first | with_reducible rfl | (go_simp; with_reducible rfl))); (intro K hK; go_simp; (try go_ints); refine hK _ ?_; clear hK K)) | (apply wpFree_skip rfl; (intro K hK; go_simp; (try go_ints); refine hK _ ?_; clear hK K)))
                with_reducible refine wpFree_nil ?_
                rintro w2 ⟨hb2, hbr2⟩
                have HB2 := Lib.hid hb2
                have HBr2 := Lib.hid hbr2
                have HO2 := Lib.hid (HO.out.below hbr2 (Nat.le_refl _))
                have hs2 := hbr2.size
                clear hb2 hbr2 ra rb m0 m1 m2 m3
                go_wp2_with fail
                refine wp_region_mix (fun W => Below W0.heap.size W0 W) 22 [(0, true), (1, true), (2, true), (3, true), (4, true), (5, true), (6, true), (7, true), (8, true), (9, true), (10, true), (11, true), (12, true), (13, true), (14, true), (15, true), (16, true), (17, true), (18, true), (19, true), (20, false), (21, false)] (by kernel_rfl) (by kernel_rfl) HB2.out.drew ?_
                repeat (apply wpPlan_still rfl rfl; (intro w hw; obtain ⟨ra, rb⟩ := HRow.out _ hw; have n2 := cell?_row (i := 0) rb; simp at n2; have k1 := HC.out _ hw; have k2 := HC1.out _ hw; have k3 := HC2.out _ hw; clear hw ra rb; go_simp; (try go_ints); (first | with_reducible rfl | (go_simp; with_reducible rfl))); (intro K hK; go_simp; (try go_ints); refine hK _ _ ?_; clear hK K))
                apply wpPlan_act rfl rfl
                intro K hK
                unfold Oper.wp
                go_simp
                refine hK _ _ (HB2.out.drew.alloc HB2.out.size _) ?_
                clear hK K
                apply wpPlan_act rfl rfl
                intro K hK
                refine wp_appO elRD 32 Tryz.underlying32 _ _ rfl W0.heap.size _ acc rfl ((HO2.out.below (Below.refl _ w2).drew (Nat.le_refl _)).alloc _) _ (vEd (xi, xl, xw)) _ rfl (row?_alloc_at _ _ _ _ (by simp)) (by omega) (by have := HB2.out.size; simp; omega) ?_
                intro v3 w3 hO3 hb3 hg3 hl3
                have HB3 := Lib.hid ((HB2.out.drew.alloc HB2.out.size _).trans hb3)
                refine hK _ _ HB3.out ?_
                clear hK K
                have HO3 : Hid (OwnRD W0.heap.size w3 v3 (D2 ++ ((B.V).take (k + 1)).flatMap (dC A))) := Lib.hid (by
                  rw [flatMap_snoc HX.out, ← List.append_assoc, ← HACC.out, HFx.out]
                  exact hO3)
                obtain ⟨q3, c3, rfl⟩ := hO3.sl
                clear hO3 hb3 hg3 hl3
                refine wpPlan_nil ?_
                simp only [List.drop_succ_cons, List.drop_zero]
                have HO4 : Hid (OwnRD W0.heap.size w3 (.slice q3 (acc.length + 1) c3) (D2 ++ ((B.V).take (k + 1)).flatMap (dC A))) := Lib.hid (by have := HO3.out; rw [List.length_append] at this; exact this)
                go_wp2_with fail
                go_roundw
                case rel => exact ⟨k + 1, by omega, by go_num, HO4.out, HB3.out⟩
                case measure => simp [intOf]; omega
            · have hkn : LB = k := by omega
              subst hkn
              obtain ⟨D3, hD⟩ : ∃ D, D = D2 ++ (B.V).flatMap (dC A) := ⟨_, rfl⟩
              have e : D3 = acc := by rw [hD, HACC.out, (HLB).out, List.take_length]
              have hDl : (D3).length ≤ 3072 := by
                have h1 := flat_take_le (dC_len A) LB LB (by rw [(HLB).out]; exact Nat.le_refl _) (l := B.V)
                rw [e, HACC.out, List.length_append]
                omega
              subst e
              have HD3 := Lib.hid hD
              have hD3 := hDl
              obtain ⟨wo, rfl⟩ : ∃ W : World, W = wr := ⟨_, rfl⟩
              have HOc := HO
              have HBc := HB
              clear HACC HO HB hD hDl hsz hal hk
              go_wp2_with fail
              clear ra rb m0 m1 m2 m3
              go_loopw [5, 10] (fun v i wr => ∃ k : Nat, k ≤ LB ∧ i = .int .i64 (k : Int) ∧ OwnRD W0.heap.size wr v (D3 ++ (B.V.take k).flatMap (dD A)) ∧ Below W0.heap.size W0 wr) (fun _ i _ => LB - (intOf i).toNat)
              case atStart => exact ⟨0, by omega, rfl, by simpa using HOc.out, HBc.out⟩
              case round =>
                clear HOc HBc
                obtain ⟨k, hk, rfl, hO, hb⟩ := hrel
                obtain ⟨acc, hacc⟩ : ∃ acc, acc = D3 ++ ((B.V).take k).flatMap (dD A) := ⟨_, rfl⟩
                rw [← hacc] at hO
                have hal : acc.length < 100000 := by
                  have h1 := flat_take_le (dD_len A) k LB (by rw [(HLB).out]; exact Nat.le_refl _) (l := B.V)
                  rw [hacc, List.length_append]
                  omega
                have HACC := Lib.hid hacc
                obtain ⟨qv, cv, rfl⟩ := hO.sl
                have HO := Lib.hid hO
                have HB := Lib.hid hb
                have hsz := hb.size
                obtain ⟨ra, rb⟩ := HRow.out wr hb
                have m0 := cell?_row (i := 0) ra
                have m1 := cell?_row (i := 1) ra
                have m2 := cell?_row (i := 0) rb
                have m3 := cell?_row (i := 1) rb
                simp at m0 m1 m2 m3
                clear hacc hO hb
                by_cases hlt : k < LB
                · obtain ⟨b, off, c', x, h1, hbb, hx, hc⟩ := (HRb.out.1).at (by rw [← (HLB).out]; exact hlt)
                  simp only [Value.slice.injEq] at h1
                  obtain ⟨rfl, -, rfl⟩ := h1
                  have hmem := List.mem_of_getElem? hx
                  obtain ⟨xi, xl, xw⟩ := x
                  have HX := Lib.hid hx
                  have jl : rowLoad Tryz.prog 105 ⟨b, off + k * 3, none⟩ wr = .ok (.agg #[.int .i64 xi, .int .u8 (xl : Int), .int .i64 xw]) wr := load_cells Tryz.isAgg105 Tryz.sizeOf105 wr b _ _ rfl fun j u hu => hc wr (HBW.out wr HB.out) j u hu
                  obtain ⟨wB, hwB⟩ : ∃ W, W = wr.alloc (.cells #[.int .i64 xi, .int .u8 (xl : Int), .int .i64 xw] 105) := ⟨_, rfl⟩
                  have hrv : row? wB wr.heap.size = some #[.int .i64 xi, .int .u8 (xl : Int), .int .i64 xw] := by rw [hwB]; exact row?_alloc_at _ _ _ _ rfl
                  have hbB : Below wr.heap.size wr wB := by rw [hwB]; exact (Below.refl _ wr).alloc (Nat.le_refl _) _
                  have hsB : wr.heap.size < wB.heap.size := by rw [hwB]; simp
                  have HRV := Lib.hid hrv
                  have HBb := Lib.hid (HB.out.trans (hbB.mono hsz))
                  have HOB := Lib.hid (HO.out.below hbB (Nat.le_refl _))
                  have HWB := Lib.hid hwB
                  have hrw := HRow.out wB HBb.out
                  have q0 := cell?_row (i := 0) hrv
                  have q1 := cell?_row (i := 1) hrv
                  have rA := hrw.1
                  have rB := hrw.2
                  simp at q0 q1
                  rw [hwB] at q0 q1 rA rB hrv
                  clear hbB hx hc hwB hrw
                  go_wp2_with fail
                  rw [← HWB.out]
                  clear jl q0 q1 rA rB hrv ra rb m0 m1 m2 m3
                  obtain ⟨z, hz⟩ : ∃ z, z = idx (fun p : Int × Th => decide (p.1 = xi)) A.V := ⟨_, rfl⟩
                  have HF1 := Lib.hid fun W (hW : Below wB.heap.size wB W) => HFa.out xi W (HBW.out W (HBb.out.trans (hW.mono HBb.out.size)))
                  rw [← hz] at HF1
                  cases hl : Pal.look A.V xi with
                  | none =>
                    have HFx : Hid (dD A (xi, xl, xw) = []) := Lib.hid (by unfold dD chgOfV; simp only; rw [hl])
                    have hd1 : decide (0 ≤ z) = false := decide_eq_false (by have := find_none hl; omega)
                    have HFA : Hid (∀ W, Below W0.heap.size W0 W → row? W wr.heap.size = some #[.int .i64 xi, .int .u8 (xl : Int), .int .i64 xw] → True) := Lib.hid fun _ _ _ => trivial
                    clear hz hl
                    refine (HF1.out wB (Below.refl _ _)).mono ?_
                    rintro r w2 ⟨rfl, hbz⟩
                    have HZ2 := Lib.hid (((Below.refl wB.heap.size wB)).trans (hbz.mono ((Below.refl wB.heap.size wB)).size))
                    clear hbz
                    have HBw2 := Lib.hid (HBb.out.trans (HZ2.out.mono HBb.out.size))
                    have HOw2 := Lib.hid (HOB.out.below HZ2.out (Nat.le_refl _))
                    have HRw2 := Lib.hid ((row?_below HZ2.out hsB).trans HRV.out)
                    have hlw2 : wr.heap.size < w2.heap.size := Nat.lt_of_lt_of_le hsB HZ2.out.size
                    go_wp2_with fail
                    refine wp_region_free (fun W => Below w2.heap.size w2 W) (by kernel_rfl) (by kernel_rfl) (Below.refl _ _).drew ?_
                    repeat (first | (apply wpFree_still; (intro w hw; obtain - := HFA.out w (HBw2.out.trans (hw.mono HBw2.out.size)) ((row?_below hw hlw2).trans HRw2.out); clear hw; go_simp; (try go_ints); (first | with_reducible rfl | (go_simp; with_reducible rfl))); with_reducible rfl; (intro K hK; go_simp; (try go_ints); refine hK _ ?_; clear hK K)) | (apply wpFree_stillG rfl; (intro w hw; obtain - := HFA.out w (HBw2.out.trans (hw.mono HBw2.out.size)) ((row?_below hw hlw2).trans HRw2.out); clear hw; go_simp; (try go_ints); (first | with_reducible rfl | (go_simp; with_reducible rfl))); (intro K hK; go_simp; (try go_ints); refine hK _ ?_; clear hK K)) | (apply wpFree_skip rfl; (intro K hK; go_simp; (try go_ints); refine hK _ ?_; clear hK K)))
                    with_reducible refine wpFree_nil ?_
                    intro w3 hbz
                    have HBw3 := Lib.hid (HBw2.out.trans (hbz.mono HBw2.out.size))
                    have HOw3 := Lib.hid (HOw2.out.below hbz (Nat.le_refl _))
                    have HRw3 := Lib.hid ((row?_below hbz hlw2).trans HRw2.out)
                    have hlw3 : wr.heap.size < w3.heap.size := Nat.lt_of_lt_of_le hlw2 hbz.size
                    clear hbz
                    go_wp2_with fail
                    refine wp_region_free (fun W => Below w3.heap.size w3 W) (by kernel_rfl) (by kernel_rfl) (Below.refl _ _).drew ?_
                    repeat (first | (apply wpFree_still; (intro w hw; obtain - := HFA.out w (HBw3.out.trans (hw.mono HBw3.out.size)) ((row?_below hw hlw3).trans HRw3.out); clear hw; go_simp; (try go_ints); (first | with_reducible rfl | (go_simp; with_reducible rfl))); with_reducible rfl; (intro K hK; go_simp; (try go_ints); refine hK _ ?_; clear hK K)) | (apply wpFree_stillG rfl; (intro w hw; obtain - := HFA.out w (HBw3.out.trans (hw.mono HBw3.out.size)) ((row?_below hw hlw3).trans HRw3.out); clear hw; go_simp; (try go_ints); (first | with_reducible rfl | (go_simp; with_reducible rfl))); (intro K hK; go_simp; (try go_ints); refine hK _ ?_; clear hK K)) | (apply wpFree_skip rfl; (intro K hK; go_simp; (try go_ints); refine hK _ ?_; clear hK K)))
                    with_reducible refine wpFree_nil ?_
                    intro w4 hbz
                    have HBw4 := Lib.hid (HBw3.out.trans (hbz.mono HBw3.out.size))
                    have HOw4 := Lib.hid (HOw3.out.below hbz (Nat.le_refl _))
                    have HRw4 := Lib.hid ((row?_below hbz hlw3).trans HRw3.out)
                    have hlw4 : wr.heap.size < w4.heap.size := Nat.lt_of_lt_of_le hlw3 hbz.size
                    clear hbz
                    go_wp2_with fail
                    go_roundw
                    case rel => exact ⟨k + 1, by omega, by go_num, by rw [flatMap_snoc HX.out, ← List.append_assoc, ← HACC.out, HFx.out]; first | exact HOw4.out | (rw [List.append_nil]; exact HOw4.out) | (rw [← List.append_assoc]; exact HOw4.out), HBw4.out⟩
                    case measure => simp [intOf]; omega
                  | some t =>
                    obtain ⟨tl, tw⟩ := t
                    obtain ⟨j, hj, hxj⟩ := find_some (HA.out.sV.nd ordV) hl
                    have hfx : dD A (xi, xl, xw) = chgs (vMark (xi, xl, xw)) (vWeigh (xi, xl, xw)) (tl, tw) := by unfold dD chgOfV; simp only; rw [hl]; rfl
                    obtain rfl : z = (j : Int) := by rw [hz, hj]
                    have hjl : j < LA := by rw [HLA.out]; exact (List.getElem?_eq_some_iff.1 hxj).1
                    have hd1 : decide (0 ≤ (j : Int)) = true := by simp
                    obtain ⟨b2, off2, c2, y, h2, hbb2, hy, hc2⟩ := HRa.out.1.at (by rw [← HLA.out]; exact hjl)
                    rw [hxj] at hy
                    cases hy
                    simp only [Value.slice.injEq] at h2
                    obtain ⟨rfl, -, rfl⟩ := h2
                    have HFA : Hid (∀ W, Below W0.heap.size W0 W → row? W wr.heap.size = some #[.int .i64 xi, .int .u8 (xl : Int), .int .i64 xw] → W.cell? ⟨w.heap.size, 0, none⟩ = some (.slice (some ⟨b2, off2, none⟩) LA cVa) ∧ W.cell? ⟨b2, off2 + j * 3 + 1, none⟩ = some (.int .u8 (tl : Int)) ∧ W.cell? ⟨b2, off2 + j * 3 + 2, none⟩ = some (.int .i64 tw) ∧ W.cell? ⟨wr.heap.size, 0, none⟩ = some (.int .i64 xi) ∧ W.cell? ⟨wr.heap.size, 1, none⟩ = some (.int .u8 (xl : Int)) ∧ W.cell? ⟨wr.heap.size, 2, none⟩ = some (.int .i64 xw)) :=
                      Lib.hid fun W hW hr => ⟨(cell?_row (i := 0) (HRow.out W hW).1).trans rfl, hc2 W (HBW.out W hW) 1 _ rfl, hc2 W (HBW.out W hW) 2 _ rfl, (cell?_row (i := 0) hr).trans rfl, (cell?_row (i := 1) hr).trans rfl, (cell?_row (i := 2) hr).trans rfl⟩
                    clear hz hl hj hxj hc2
                    refine (HF1.out wB (Below.refl _ _)).mono ?_
                    rintro r w2 ⟨rfl, hbz⟩
                    have HZ2 := Lib.hid (((Below.refl wB.heap.size wB)).trans (hbz.mono ((Below.refl wB.heap.size wB)).size))
                    clear hbz
                    have HBw2 := Lib.hid (HBb.out.trans (HZ2.out.mono HBb.out.size))
                    have HOw2 := Lib.hid (HOB.out.below HZ2.out (Nat.le_refl _))
                    have HRw2 := Lib.hid ((row?_below HZ2.out hsB).trans HRV.out)
                    have hlw2 : wr.heap.size < w2.heap.size := Nat.lt_of_lt_of_le hsB HZ2.out.size
                    go_wp2_with fail
                    by_cases h1 : xl = tl
                    · have e1 : ((tl : Int) != (xl : Int)) = false := by simp [h1]
                      have e1n : (tl != xl) = false := by simp [h1]
                      by_cases h2 : xw = tw
                      · have e2 : (tw != xw) = false := by simp [h2]
                        have HFx := Lib.hid (hfx.trans (chgs_ee (m := vMark (xi, xl, xw)) (e := vWeigh (xi, xl, xw)) (t := (tl, tw)) h1 h2))
                        clear h1 h2 hfx
                        refine wp_region_free (fun W => Below w2.heap.size w2 W) (by kernel_rfl) (by kernel_rfl) (Below.refl _ _).drew ?_
                        repeat (first | (apply wpFree_still; (intro w hw; obtain ⟨k1, k2, k3, k4, k5, k6⟩ := HFA.out w (HBw2.out.trans (hw.mono HBw2.out.size)) ((row?_below hw hlw2).trans HRw2.out); clear hw; go_simp; (try go_ints); (first | with_reducible rfl | (go_simp; with_reducible rfl))); with_reducible rfl; (intro K hK; go_simp; (try go_ints); refine hK _ ?_; clear hK K)) | (apply wpFree_stillG rfl; (intro w hw; obtain ⟨k1, k2, k3, k4, k5, k6⟩ := HFA.out w (HBw2.out.trans (hw.mono HBw2.out.size)) ((row?_below hw hlw2).trans HRw2.out); clear hw; go_simp; (try go_ints); (first | with_reducible rfl | (go_simp; with_reducible rfl))); (intro K hK; go_simp; (try go_ints); refine hK _ ?_; clear hK K)) | (apply wpFree_skip rfl; (intro K hK; go_simp; (try go_ints); refine hK _ ?_; clear hK K)))
                        with_reducible refine wpFree_nil ?_
                        intro w3 hbz
                        have HBw3 := Lib.hid (HBw2.out.trans (hbz.mono HBw2.out.size))
                        have HOw3 := Lib.hid (HOw2.out.below hbz (Nat.le_refl _))
                        have HRw3 := Lib.hid ((row?_below hbz hlw2).trans HRw2.out)
                        have hlw3 : wr.heap.size < w3.heap.size := Nat.lt_of_lt_of_le hlw2 hbz.size
                        clear hbz
                        go_wp2_with fail
                        refine wp_region_free (fun W => Below w3.heap.size w3 W) (by kernel_rfl) (by kernel_rfl) (Below.refl _ _).drew ?_
                        repeat (first | (apply wpFree_still; (intro w hw; obtain ⟨k1, k2, k3, k4, k5, k6⟩ := HFA.out w (HBw3.out.trans (hw.mono HBw3.out.size)) ((row?_below hw hlw3).trans HRw3.out); clear hw; go_simp; (try go_ints); (first | with_reducible rfl | (go_simp; with_reducible rfl))); with_reducible rfl; (intro K hK; go_simp; (try go_ints); refine hK _ ?_; clear hK K)) | (apply wpFree_stillG rfl; (intro w hw; obtain ⟨k1, k2, k3, k4, k5, k6⟩ := HFA.out w (HBw3.out.trans (hw.mono HBw3.out.size)) ((row?_below hw hlw3).trans HRw3.out); clear hw; go_simp; (try go_ints); (first | with_reducible rfl | (go_simp; with_reducible rfl))); (intro K hK; go_simp; (try go_ints); refine hK _ ?_; clear hK K)) | (apply wpFree_skip rfl; (intro K hK; go_simp; (try go_ints); refine hK _ ?_; clear hK K)))
                        with_reducible refine wpFree_nil ?_
                        intro w4 hbz
                        have HBw4 := Lib.hid (HBw3.out.trans (hbz.mono HBw3.out.size))
                        have HOw4 := Lib.hid (HOw3.out.below hbz (Nat.le_refl _))
                        have HRw4 := Lib.hid ((row?_below hbz hlw3).trans HRw3.out)
                        have hlw4 : wr.heap.size < w4.heap.size := Nat.lt_of_lt_of_le hlw3 hbz.size
                        clear hbz
                        go_wp2_with fail
                        go_roundw
                        case rel => exact ⟨k + 1, by omega, by go_num, by rw [flatMap_snoc HX.out, ← List.append_assoc, ← HACC.out, HFx.out]; first | exact HOw4.out | (rw [List.append_nil]; exact HOw4.out) | (rw [← List.append_assoc]; exact HOw4.out), HBw4.out⟩
                        case measure => simp [intOf]; omega
                      · have e2 : (tw != xw) = true := by simp; exact fun h => h2 h.symm
                        have HFx := Lib.hid (hfx.trans (chgs_en (m := vMark (xi, xl, xw)) (e := vWeigh (xi, xl, xw)) (t := (tl, tw)) h1 h2))
                        clear h1 h2 hfx
                        refine wp_region_free (fun W => Below w2.heap.size w2 W) (by kernel_rfl) (by kernel_rfl) (Below.refl _ _).drew ?_
                        repeat (first | (apply wpFree_still; (intro w hw; obtain ⟨k1, k2, k3, k4, k5, k6⟩ := HFA.out w (HBw2.out.trans (hw.mono HBw2.out.size)) ((row?_below hw hlw2).trans HRw2.out); clear hw; go_simp; (try go_ints); (first | with_reducible rfl | (go_simp; with_reducible rfl))); with_reducible rfl; (intro K hK; go_simp; (try go_ints); refine hK _ ?_; clear hK K)) | (apply wpFree_stillG rfl; (intro w hw; obtain ⟨k1, k2, k3, k4, k5, k6⟩ := HFA.out w (HBw2.out.trans (hw.mono HBw2.out.size)) ((row?_below hw hlw2).trans HRw2.out); clear hw; go_simp; (try go_ints); (first | with_reducible rfl | (go_simp; with_reducible rfl))); (intro K hK; go_simp; (try go_ints); refine hK _ ?_; clear hK K)) | (apply wpFree_skip rfl; (intro K hK; go_simp; (try go_ints); refine hK _ ?_; clear hK K)))
                        with_reducible refine wpFree_nil ?_
                        intro w3 hbz
                        have HBw3 := Lib.hid (HBw2.out.trans (hbz.mono HBw2.out.size))
                        have HOw3 := Lib.hid (HOw2.out.below hbz (Nat.le_refl _))
                        have HRw3 := Lib.hid ((row?_below hbz hlw2).trans HRw2.out)
                        have hlw3 : wr.heap.size < w3.heap.size := Nat.lt_of_lt_of_le hlw2 hbz.size
                        clear hbz
                        go_wp2_with fail
                        refine wp_region_free (fun W => Below w3.heap.size w3 W) (by kernel_rfl) (by kernel_rfl) (Below.refl _ _).drew ?_
                        repeat (first | (apply wpFree_still; (intro w hw; obtain ⟨k1, k2, k3, k4, k5, k6⟩ := HFA.out w (HBw3.out.trans (hw.mono HBw3.out.size)) ((row?_below hw hlw3).trans HRw3.out); clear hw; go_simp; (try go_ints); (first | with_reducible rfl | (go_simp; with_reducible rfl))); with_reducible rfl; (intro K hK; go_simp; (try go_ints); refine hK _ ?_; clear hK K)) | (apply wpFree_stillG rfl; (intro w hw; obtain ⟨k1, k2, k3, k4, k5, k6⟩ := HFA.out w (HBw3.out.trans (hw.mono HBw3.out.size)) ((row?_below hw hlw3).trans HRw3.out); clear hw; go_simp; (try go_ints); (first | with_reducible rfl | (go_simp; with_reducible rfl))); (intro K hK; go_simp; (try go_ints); refine hK _ ?_; clear hK K)) | (apply wpFree_skip rfl; (intro K hK; go_simp; (try go_ints); refine hK _ ?_; clear hK K)))
                        with_reducible refine wpFree_nil ?_
                        intro w4 hbz
                        have HBw4 := Lib.hid (HBw3.out.trans (hbz.mono HBw3.out.size))
                        have HOw4 := Lib.hid (HOw3.out.below hbz (Nat.le_refl _))
                        have HRw4 := Lib.hid ((row?_below hbz hlw3).trans HRw3.out)
                        have hlw4 : wr.heap.size < w4.heap.size := Nat.lt_of_lt_of_le hlw3 hbz.size
                        clear hbz
                        obtain ⟨k1, k2, k3, k4, k5, k6⟩ := HFA.out w4 HBw4.out HRw4.out
                        go_wp2_with (at_builtin; refine wpList_appO elRD 32 Tryz.underlying32 rfl _ _ rfl W0.heap.size _ (acc) rfl (HOw4.out.alloc _) _ (vWeigh (xi, xl, xw)) _ rfl (row?_alloc_at _ _ _ _ (by simp)) (by first | omega | (simp; omega)) (by have := HBw4.out.size; simp; omega) ?_)
                        clear k1 k2 k3 k4 k5 k6
                        intro vz w5 hOz hbz hgz hlz
                        have HBw5 := Lib.hid ((HBw4.out.alloc HBw4.out.size _).trans hbz)
                        have := hgz.size
                        obtain ⟨qz, cz, rfl⟩ := hOz.sl
                        simp only [List.length_append, List.length_cons, List.length_nil, Nat.zero_add] at hOz ⊢
                        have HOw5 := Lib.hid hOz
                        clear hOz hbz hgz hlz
                        go_wp2_with fail
                        go_roundw
                        case rel => exact ⟨k + 1, by omega, by go_num, by rw [flatMap_snoc HX.out, ← List.append_assoc, ← HACC.out, HFx.out]; first | exact HOw5.out | (rw [List.append_nil]; exact HOw5.out) | (rw [← List.append_assoc]; exact HOw5.out), HBw5.out⟩
                        case measure => simp [intOf]; omega
                    · have e1 : ((tl : Int) != (xl : Int)) = true := by simp; omega
                      have e1n : (tl != xl) = true := by simp; omega
                      by_cases h2 : xw = tw
                      · have e2 : (tw != xw) = false := by simp [h2]
                        have HFx := Lib.hid (hfx.trans (chgs_ne (m := vMark (xi, xl, xw)) (e := vWeigh (xi, xl, xw)) (t := (tl, tw)) h1 h2))
                        clear h1 h2 hfx
                        refine wp_region_free (fun W => Below w2.heap.size w2 W) (by kernel_rfl) (by kernel_rfl) (Below.refl _ _).drew ?_
                        repeat (first | (apply wpFree_still; (intro w hw; obtain ⟨k1, k2, k3, k4, k5, k6⟩ := HFA.out w (HBw2.out.trans (hw.mono HBw2.out.size)) ((row?_below hw hlw2).trans HRw2.out); clear hw; go_simp; (try go_ints); (first | with_reducible rfl | (go_simp; with_reducible rfl))); with_reducible rfl; (intro K hK; go_simp; (try go_ints); refine hK _ ?_; clear hK K)) | (apply wpFree_stillG rfl; (intro w hw; obtain ⟨k1, k2, k3, k4, k5, k6⟩ := HFA.out w (HBw2.out.trans (hw.mono HBw2.out.size)) ((row?_below hw hlw2).trans HRw2.out); clear hw; go_simp; (try go_ints); (first | with_reducible rfl | (go_simp; with_reducible rfl))); (intro K hK; go_simp; (try go_ints); refine hK _ ?_; clear hK K)) | (apply wpFree_skip rfl; (intro K hK; go_simp; (try go_ints); refine hK _ ?_; clear hK K)))
                        with_reducible refine wpFree_nil ?_
                        intro w3 hbz
                        have HBw3 := Lib.hid (HBw2.out.trans (hbz.mono HBw2.out.size))
                        have HOw3 := Lib.hid (HOw2.out.below hbz (Nat.le_refl _))
                        have HRw3 := Lib.hid ((row?_below hbz hlw2).trans HRw2.out)
                        have hlw3 : wr.heap.size < w3.heap.size := Nat.lt_of_lt_of_le hlw2 hbz.size
                        clear hbz
                        obtain ⟨k1, k2, k3, k4, k5, k6⟩ := HFA.out w3 HBw3.out HRw3.out
                        go_wp2_with (at_builtin; refine wpList_appO elRD 32 Tryz.underlying32 rfl _ _ rfl W0.heap.size _ (acc) rfl (HOw3.out.alloc _) _ (vMark (xi, xl, xw)) _ rfl (row?_alloc_at _ _ _ _ (by simp)) (by first | omega | (simp; omega)) (by have := HBw3.out.size; simp; omega) ?_)
                        clear k1 k2 k3 k4 k5 k6
                        intro vz w4 hOz hbz hgz hlz
                        have HBw4 := Lib.hid ((HBw3.out.alloc HBw3.out.size _).trans hbz)
                        have HRw4 : Hid (row? w4 wr.heap.size = some #[.int .i64 xi, .int .u8 (xl : Int), .int .i64 xw]) := Lib.hid ((row?_congr ((hgz.block wr.heap.size (by simp; omega) (fun e => by have := HO.out.lt _ e.symm; omega)).trans (Below.heap_alloc _ _ _ hlw3))).trans HRw3.out); have hlw4 : wr.heap.size < w4.heap.size := row?_lt HRw4.out
                        obtain ⟨qz, cz, rfl⟩ := hOz.sl
                        simp only [List.length_append, List.length_cons, List.length_nil, Nat.zero_add] at hOz ⊢
                        have HOw4 := Lib.hid hOz
                        clear hOz hbz hgz hlz
                        go_wp2_with fail
                        refine wp_region_free (fun W => Below w4.heap.size w4 W) (by kernel_rfl) (by kernel_rfl) (Below.refl _ _).drew ?_
                        repeat (first | (apply wpFree_still; (intro w hw; obtain ⟨k1, k2, k3, k4, k5, k6⟩ := HFA.out w (HBw4.out.trans (hw.mono HBw4.out.size)) ((row?_below hw hlw4).trans HRw4.out); clear hw; go_simp; (try go_ints); (first | with_reducible rfl | (go_simp; with_reducible rfl))); with_reducible rfl; (intro K hK; go_simp; (try go_ints); refine hK _ ?_; clear hK K)) | (apply wpFree_stillG rfl; (intro w hw; obtain ⟨k1, k2, k3, k4, k5, k6⟩ := HFA.out w (HBw4.out.trans (hw.mono HBw4.out.size)) ((row?_below hw hlw4).trans HRw4.out); clear hw; go_simp; (try go_ints); (first | with_reducible rfl | (go_simp; with_reducible rfl))); (intro K hK; go_simp; (try go_ints); refine hK _ ?_; clear hK K)) | (apply wpFree_skip rfl; (intro K hK; go_simp; (try go_ints); refine hK _ ?_; clear hK K)))
                        with_reducible refine wpFree_nil ?_
                        intro w5 hbz
                        have HBw5 := Lib.hid (HBw4.out.trans (hbz.mono HBw4.out.size))
                        have HOw5 := Lib.hid (HOw4.out.below hbz (Nat.le_refl _))
                        have HRw5 := Lib.hid ((row?_below hbz hlw4).trans HRw4.out)
                        have hlw5 : wr.heap.size < w5.heap.size := Nat.lt_of_lt_of_le hlw4 hbz.size
                        clear hbz
                        go_wp2_with fail
                        go_roundw
                        case rel => exact ⟨k + 1, by omega, by go_num, by rw [flatMap_snoc HX.out, ← List.append_assoc, ← HACC.out, HFx.out]; first | exact HOw5.out | (rw [List.append_nil]; exact HOw5.out) | (rw [← List.append_assoc]; exact HOw5.out), HBw5.out⟩
                        case measure => simp [intOf]; omega
                      · have e2 : (tw != xw) = true := by simp; exact fun h => h2 h.symm
                        have HFx := Lib.hid (hfx.trans (chgs_nn (m := vMark (xi, xl, xw)) (e := vWeigh (xi, xl, xw)) (t := (tl, tw)) h1 h2))
                        clear h1 h2 hfx
                        refine wp_region_free (fun W => Below w2.heap.size w2 W) (by kernel_rfl) (by kernel_rfl) (Below.refl _ _).drew ?_
                        repeat (first | (apply wpFree_still; (intro w hw; obtain ⟨k1, k2, k3, k4, k5, k6⟩ := HFA.out w (HBw2.out.trans (hw.mono HBw2.out.size)) ((row?_below hw hlw2).trans HRw2.out); clear hw; go_simp; (try go_ints); (first | with_reducible rfl | (go_simp; with_reducible rfl))); with_reducible rfl; (intro K hK; go_simp; (try go_ints); refine hK _ ?_; clear hK K)) | (apply wpFree_stillG rfl; (intro w hw; obtain ⟨k1, k2, k3, k4, k5, k6⟩ := HFA.out w (HBw2.out.trans (hw.mono HBw2.out.size)) ((row?_below hw hlw2).trans HRw2.out); clear hw; go_simp; (try go_ints); (first | with_reducible rfl | (go_simp; with_reducible rfl))); (intro K hK; go_simp; (try go_ints); refine hK _ ?_; clear hK K)) | (apply wpFree_skip rfl; (intro K hK; go_simp; (try go_ints); refine hK _ ?_; clear hK K)))
                        with_reducible refine wpFree_nil ?_
                        intro w3 hbz
                        have HBw3 := Lib.hid (HBw2.out.trans (hbz.mono HBw2.out.size))
                        have HOw3 := Lib.hid (HOw2.out.below hbz (Nat.le_refl _))
                        have HRw3 := Lib.hid ((row?_below hbz hlw2).trans HRw2.out)
                        have hlw3 : wr.heap.size < w3.heap.size := Nat.lt_of_lt_of_le hlw2 hbz.size
                        clear hbz
                        obtain ⟨k1, k2, k3, k4, k5, k6⟩ := HFA.out w3 HBw3.out HRw3.out
                        go_wp2_with (at_builtin; refine wpList_appO elRD 32 Tryz.underlying32 rfl _ _ rfl W0.heap.size _ (acc) rfl (HOw3.out.alloc _) _ (vMark (xi, xl, xw)) _ rfl (row?_alloc_at _ _ _ _ (by simp)) (by first | omega | (simp; omega)) (by have := HBw3.out.size; simp; omega) ?_)
                        clear k1 k2 k3 k4 k5 k6
                        intro vz w4 hOz hbz hgz hlz
                        have HBw4 := Lib.hid ((HBw3.out.alloc HBw3.out.size _).trans hbz)
                        have HRw4 : Hid (row? w4 wr.heap.size = some #[.int .i64 xi, .int .u8 (xl : Int), .int .i64 xw]) := Lib.hid ((row?_congr ((hgz.block wr.heap.size (by simp; omega) (fun e => by have := HO.out.lt _ e.symm; omega)).trans (Below.heap_alloc _ _ _ hlw3))).trans HRw3.out); have hlw4 : wr.heap.size < w4.heap.size := row?_lt HRw4.out
                        obtain ⟨qz, cz, rfl⟩ := hOz.sl
                        simp only [List.length_append, List.length_cons, List.length_nil, Nat.zero_add] at hOz ⊢
                        have HOw4 := Lib.hid hOz
                        clear hOz hbz hgz hlz
                        go_wp2_with fail
                        refine wp_region_free (fun W => Below w4.heap.size w4 W) (by kernel_rfl) (by kernel_rfl) (Below.refl _ _).drew ?_
                        repeat (first | (apply wpFree_still; (intro w hw; obtain ⟨k1, k2, k3, k4, k5, k6⟩ := HFA.out w (HBw4.out.trans (hw.mono HBw4.out.size)) ((row?_below hw hlw4).trans HRw4.out); clear hw; go_simp; (try go_ints); (first | with_reducible rfl | (go_simp; with_reducible rfl))); with_reducible rfl; (intro K hK; go_simp; (try go_ints); refine hK _ ?_; clear hK K)) | (apply wpFree_stillG rfl; (intro w hw; obtain ⟨k1, k2, k3, k4, k5, k6⟩ := HFA.out w (HBw4.out.trans (hw.mono HBw4.out.size)) ((row?_below hw hlw4).trans HRw4.out); clear hw; go_simp; (try go_ints); (first | with_reducible rfl | (go_simp; with_reducible rfl))); (intro K hK; go_simp; (try go_ints); refine hK _ ?_; clear hK K)) | (apply wpFree_skip rfl; (intro K hK; go_simp; (try go_ints); refine hK _ ?_; clear hK K)))
                        with_reducible refine wpFree_nil ?_
                        intro w5 hbz
                        have HBw5 := Lib.hid (HBw4.out.trans (hbz.mono HBw4.out.size))
                        have HOw5 := Lib.hid (HOw4.out.below hbz (Nat.le_refl _))
                        have HRw5 := Lib.hid ((row?_below hbz hlw4).trans HRw4.out)
                        have hlw5 : wr.heap.size < w5.heap.size := Nat.lt_of_lt_of_le hlw4 hbz.size
                        clear hbz
                        obtain ⟨k1, k2, k3, k4, k5, k6⟩ := HFA.out w5 HBw5.out HRw5.out
                        go_wp2_with (at_builtin; refine wpList_appO elRD 32 Tryz.underlying32 rfl _ _ rfl W0.heap.size _ (acc ++ [vMark (xi, xl, xw)]) rfl (HOw5.out.alloc _) _ (vWeigh (xi, xl, xw)) _ rfl (row?_alloc_at _ _ _ _ (by simp)) (by first | omega | (simp; omega)) (by have := HBw5.out.size; simp; omega) ?_)
                        clear k1 k2 k3 k4 k5 k6
                        intro vz w6 hOz hbz hgz hlz
                        have HBw6 := Lib.hid ((HBw5.out.alloc HBw5.out.size _).trans hbz)
                        have := hgz.size
                        obtain ⟨qz, cz, rfl⟩ := hOz.sl
                        simp only [List.length_append, List.length_cons, List.length_nil, Nat.zero_add] at hOz ⊢
                        have HOw6 := Lib.hid hOz
                        clear hOz hbz hgz hlz
                        go_wp2_with fail
                        go_roundw
                        case rel => exact ⟨k + 1, by omega, by go_num, by rw [flatMap_snoc HX.out, ← List.append_assoc, ← HACC.out, HFx.out]; first | exact HOw6.out | (rw [List.append_nil]; exact HOw6.out) | (rw [← List.append_assoc]; exact HOw6.out), HBw6.out⟩
                        case measure => simp [intOf]; omega
                · have hkn : LB = k := by omega
                  subst hkn
                  obtain ⟨D4, hD⟩ : ∃ D, D = D3 ++ (B.V).flatMap (dD A) := ⟨_, rfl⟩
                  have e : D4 = acc := by rw [hD, HACC.out, (HLB).out, List.take_length]
                  have hDl : (D4).length ≤ 5120 := by
                    have h1 := flat_take_le (dD_len A) LB LB (by rw [(HLB).out]; exact Nat.le_refl _) (l := B.V)
                    rw [e, HACC.out, List.length_append]
                    omega
                  subst e
                  have HD4 := Lib.hid hD
                  have hD4 := hDl
                  obtain ⟨wo, rfl⟩ : ∃ W : World, W = wr := ⟨_, rfl⟩
                  have HOc := HO
                  have HBc := HB
                  clear HACC HO HB hD hDl hsz hal hk
                  go_wp2_with fail
                  clear ra rb m0 m1 m2 m3
                  go_loopw [5, 13] (fun v i wr => ∃ k : Nat, k ≤ MB ∧ i = .int .i64 (k : Int) ∧ OwnRD W0.heap.size wr v (D4 ++ (B.E.take k).flatMap (dE A)) ∧ Below W0.heap.size W0 wr) (fun _ i _ => MB - (intOf i).toNat)
                  case atStart => exact ⟨0, by omega, rfl, by simpa using HOc.out, HBc.out⟩
                  case round =>
                    clear HOc HBc
                    obtain ⟨k, hk, rfl, hO, hb⟩ := hrel
                    obtain ⟨acc, hacc⟩ : ∃ acc, acc = D4 ++ ((B.E).take k).flatMap (dE A) := ⟨_, rfl⟩
                    rw [← hacc] at hO
                    have hal : acc.length < 100000 := by
                      have h1 := flat_take_le (dE_len A) k MB (by rw [(HMB).out]; exact Nat.le_refl _) (l := B.E)
                      rw [hacc, List.length_append]
                      omega
                    have HACC := Lib.hid hacc
                    obtain ⟨qv, cv, rfl⟩ := hO.sl
                    have HO := Lib.hid hO
                    have HB := Lib.hid hb
                    have hsz := hb.size
                    obtain ⟨ra, rb⟩ := HRow.out wr hb
                    have m0 := cell?_row (i := 0) ra
                    have m1 := cell?_row (i := 1) ra
                    have m2 := cell?_row (i := 0) rb
                    have m3 := cell?_row (i := 1) rb
                    simp at m0 m1 m2 m3
                    clear hacc hO hb
                    by_cases hlt : k < MB
                    · obtain ⟨b, off, c', x, h1, hbb, hx, hc⟩ := (HRb.out.2).at (by rw [← (HMB).out]; exact hlt)
                      simp only [Value.slice.injEq] at h1
                      obtain ⟨rfl, -, rfl⟩ := h1
                      have hmem := List.mem_of_getElem? hx
                      obtain ⟨⟨xu, xv⟩, xl, xw⟩ := x
                      have HX := Lib.hid hx
                      have hlu := (HBk.out.ends _ hmem).1
                      simp only at hlu
                      have jl : rowLoad Tryz.prog 106 ⟨b, off + k * 4, none⟩ wr = .ok (.agg #[.int .i64 xu, .int .i64 xv, .int .u8 (xl : Int), .int .i64 xw]) wr := load_cells Tryz.isAgg106 Tryz.sizeOf106 wr b _ _ rfl fun j u hu => hc wr (HBW.out wr HB.out) j u hu
                      obtain ⟨wB, hwB⟩ : ∃ W, W = wr.alloc (.cells #[.int .i64 xu, .int .i64 xv, .int .u8 (xl : Int), .int .i64 xw] 106) := ⟨_, rfl⟩
                      have hrv : row? wB wr.heap.size = some #[.int .i64 xu, .int .i64 xv, .int .u8 (xl : Int), .int .i64 xw] := by rw [hwB]; exact row?_alloc_at _ _ _ _ rfl
                      have hbB : Below wr.heap.size wr wB := by rw [hwB]; exact (Below.refl _ wr).alloc (Nat.le_refl _) _
                      have hsB : wr.heap.size < wB.heap.size := by rw [hwB]; simp
                      have HRV := Lib.hid hrv
                      have HBb := Lib.hid (HB.out.trans (hbB.mono hsz))
                      have HOB := Lib.hid (HO.out.below hbB (Nat.le_refl _))
                      have HWB := Lib.hid hwB
                      have hrw := HRow.out wB HBb.out
                      have q0 := cell?_row (i := 0) hrv
                      have q1 := cell?_row (i := 1) hrv
                      have rA := hrw.1
                      have rB := hrw.2
                      simp at q0 q1
                      rw [hwB] at q0 q1 rA rB hrv
                      clear hbB hx hc hwB hrw
                      go_wp2_with fail
                      rw [← HWB.out]
                      clear jl q0 q1 rA rB hrv ra rb m0 m1 m2 m3
                      obtain ⟨z, hz⟩ : ∃ z, z = idx (edgB xu xv) A.E := ⟨_, rfl⟩
                      have HF1 := Lib.hid fun W (hW : Below wB.heap.size wB W) => HEa.out xu xv W (HBW.out W (HBb.out.trans (hW.mono HBb.out.size)))
                      rw [← hz] at HF1
                      cases hl : Pal.look A.E (xu, xv) with
                      | none =>
                        have HFx : Hid (dE A ((xu, xv), xl, xw) = [eEd ((xu, xv), xl, xw)]) := Lib.hid (by unfold dE chgOfE; simp only; rw [hl])
                        have hz0 : z < 0 := by rw [hz]; exact redge_none HA.out hlu hl
                        have hd1 : decide (z < 0) = true := decide_eq_true hz0
                        have HFA : Hid (∀ W, Below W0.heap.size W0 W → row? W wr.heap.size = some #[.int .i64 xu, .int .i64 xv, .int .u8 (xl : Int), .int .i64 xw] → W.cell? ⟨wr.heap.size, 0, none⟩ = some (.int .i64 xu) ∧ W.cell? ⟨wr.heap.size, 1, none⟩ = some (.int .i64 xv) ∧ W.cell? ⟨wr.heap.size, 2, none⟩ = some (.int .u8 (xl : Int)) ∧ W.cell? ⟨wr.heap.size, 3, none⟩ = some (.int .i64 xw)) :=
                          Lib.hid fun W hW hr => ⟨(cell?_row (i := 0) hr).trans rfl, (cell?_row (i := 1) hr).trans rfl, (cell?_row (i := 2) hr).trans rfl, (cell?_row (i := 3) hr).trans rfl⟩
                        clear hz hl
                        refine (HF1.out wB (Below.refl _ _)).mono ?_
                        rintro r w2 ⟨rfl, hbz⟩
                        have HZ2 := Lib.hid (((Below.refl wB.heap.size wB)).trans (hbz.mono ((Below.refl wB.heap.size wB)).size))
                        clear hbz
                        have HBw2 := Lib.hid (HBb.out.trans (HZ2.out.mono HBb.out.size))
                        have HOw2 := Lib.hid (HOB.out.below HZ2.out (Nat.le_refl _))
                        have HRw2 := Lib.hid ((row?_below HZ2.out hsB).trans HRV.out)
                        have hlw2 : wr.heap.size < w2.heap.size := Nat.lt_of_lt_of_le hsB HZ2.out.size
                        obtain ⟨k1, k2, k3, k4⟩ := HFA.out w2 HBw2.out HRw2.out
                        go_wp2_with (at_builtin; refine wpList_appO elRD 32 Tryz.underlying32 rfl _ _ rfl W0.heap.size _ (acc) rfl (HOw2.out.alloc _) _ (eEd ((xu, xv), xl, xw)) _ rfl (row?_alloc_at _ _ _ _ (by simp)) (by first | omega | (simp; omega)) (by have := HBw2.out.size; simp; omega) ?_)
                        clear k1 k2 k3 k4
                        intro vz w3 hOz hbz hgz hlz
                        have HBw3 := Lib.hid ((HBw2.out.alloc HBw2.out.size _).trans hbz)
                        have := hgz.size
                        obtain ⟨qz, cz, rfl⟩ := hOz.sl
                        simp only [List.length_append, List.length_cons, List.length_nil, Nat.zero_add] at hOz ⊢
                        have HOw3 := Lib.hid hOz
                        clear hOz hbz hgz hlz
                        go_wp2_with fail
                        go_roundw
                        case rel => exact ⟨k + 1, by omega, by go_num, by rw [flatMap_snoc HX.out, ← List.append_assoc, ← HACC.out, HFx.out]; first | exact HOw3.out | (rw [List.append_nil]; exact HOw3.out) | (rw [← List.append_assoc]; exact HOw3.out), HBw3.out⟩
                        case measure => simp [intOf]; omega
                      | some t =>
                        obtain ⟨tl, tw⟩ := t
                        obtain ⟨j, hj, hxj⟩ := redge_some HA.out hlu hl
                        have hfx : dE A ((xu, xv), xl, xw) = chgs (eMark ((xu, xv), xl, xw)) (eWeigh ((xu, xv), xl, xw)) (tl, tw) := by unfold dE chgOfE; simp only; rw [hl]; rfl
                        obtain rfl : z = (j : Int) := by rw [hz, hj]
                        have hjl : j < MA := by rw [HMA.out]; exact (List.getElem?_eq_some_iff.1 hxj).1
                        have hd1 : decide ((j : Int) < 0) = false := by simp
                        have hd2 : ¬ (j : Int) < 0 := by omega
                        obtain ⟨b2, off2, c2, y, h2, hbb2, hy, hc2⟩ := HRa.out.2.at (by rw [← HMA.out]; exact hjl)
                        rw [hxj] at hy
                        cases hy
                        simp only [Value.slice.injEq] at h2
                        obtain ⟨rfl, -, rfl⟩ := h2
                        have HFA : Hid (∀ W, Below W0.heap.size W0 W → row? W wr.heap.size = some #[.int .i64 xu, .int .i64 xv, .int .u8 (xl : Int), .int .i64 xw] → W.cell? ⟨w.heap.size, 1, none⟩ = some (.slice (some ⟨b2, off2, none⟩) MA cEa) ∧ W.cell? ⟨b2, off2 + j * 4 + 2, none⟩ = some (.int .u8 (tl : Int)) ∧ W.cell? ⟨b2, off2 + j * 4 + 3, none⟩ = some (.int .i64 tw) ∧ W.cell? ⟨wr.heap.size, 0, none⟩ = some (.int .i64 xu) ∧ W.cell? ⟨wr.heap.size, 1, none⟩ = some (.int .i64 xv) ∧ W.cell? ⟨wr.heap.size, 2, none⟩ = some (.int .u8 (xl : Int)) ∧ W.cell? ⟨wr.heap.size, 3, none⟩ = some (.int .i64 xw)) :=
                          Lib.hid fun W hW hr => ⟨(cell?_row (i := 1) (HRow.out W hW).1).trans rfl, hc2 W (HBW.out W hW) 2 _ rfl, hc2 W (HBW.out W hW) 3 _ rfl, (cell?_row (i := 0) hr).trans rfl, (cell?_row (i := 1) hr).trans rfl, (cell?_row (i := 2) hr).trans rfl, (cell?_row (i := 3) hr).trans rfl⟩
                        clear hz hl hj hxj hc2
                        refine (HF1.out wB (Below.refl _ _)).mono ?_
                        rintro r w2 ⟨rfl, hbz⟩
                        have HZ2 := Lib.hid (((Below.refl wB.heap.size wB)).trans (hbz.mono ((Below.refl wB.heap.size wB)).size))
                        clear hbz
                        have HBw2 := Lib.hid (HBb.out.trans (HZ2.out.mono HBb.out.size))
                        have HOw2 := Lib.hid (HOB.out.below HZ2.out (Nat.le_refl _))
                        have HRw2 := Lib.hid ((row?_below HZ2.out hsB).trans HRV.out)
                        have hlw2 : wr.heap.size < w2.heap.size := Nat.lt_of_lt_of_le hsB HZ2.out.size
                        go_wp2_with fail
                        by_cases h1 : xl = tl
                        · have e1 : ((tl : Int) != (xl : Int)) = false := by simp [h1]
                          have e1n : (tl != xl) = false := by simp [h1]
                          by_cases h2 : xw = tw
                          · have e2 : (tw != xw) = false := by simp [h2]
                            have HFx := Lib.hid (hfx.trans (chgs_ee (m := eMark ((xu, xv), xl, xw)) (e := eWeigh ((xu, xv), xl, xw)) (t := (tl, tw)) h1 h2))
                            clear h1 h2 hfx
                            refine wp_region_free (fun W => Below w2.heap.size w2 W) (by kernel_rfl) (by kernel_rfl) (Below.refl _ _).drew ?_
                            repeat (first | (apply wpFree_still; (intro w hw; obtain ⟨k1, k2, k3, k4, k5, k6, k7⟩ := HFA.out w (HBw2.out.trans (hw.mono HBw2.out.size)) ((row?_below hw hlw2).trans HRw2.out); clear hw; go_simp; (try go_ints); (first | with_reducible rfl | (go_simp; with_reducible rfl))); with_reducible rfl; (intro K hK; go_simp; (try go_ints); refine hK _ ?_; clear hK K)) | (apply wpFree_stillG rfl; (intro w hw; obtain ⟨k1, k2, k3, k4, k5, k6, k7⟩ := HFA.out w (HBw2.out.trans (hw.mono HBw2.out.size)) ((row?_below hw hlw2).trans HRw2.out); clear hw; go_simp; (try go_ints); (first | with_reducible rfl | (go_simp; with_reducible rfl))); (intro K hK; go_simp; (try go_ints); refine hK _ ?_; clear hK K)) | (apply wpFree_skip rfl; (intro K hK; go_simp; (try go_ints); refine hK _ ?_; clear hK K)))
                            with_reducible refine wpFree_nil ?_
                            intro w3 hbz
                            have HBw3 := Lib.hid (HBw2.out.trans (hbz.mono HBw2.out.size))
                            have HOw3 := Lib.hid (HOw2.out.below hbz (Nat.le_refl _))
                            have HRw3 := Lib.hid ((row?_below hbz hlw2).trans HRw2.out)
                            have hlw3 : wr.heap.size < w3.heap.size := Nat.lt_of_lt_of_le hlw2 hbz.size
                            clear hbz
                            go_wp2_with fail
                            refine wp_region_free (fun W => Below w3.heap.size w3 W) (by kernel_rfl) (by kernel_rfl) (Below.refl _ _).drew ?_
                            repeat (first | (apply wpFree_still; (intro w hw; obtain ⟨k1, k2, k3, k4, k5, k6, k7⟩ := HFA.out w (HBw3.out.trans (hw.mono HBw3.out.size)) ((row?_below hw hlw3).trans HRw3.out); clear hw; go_simp; (try go_ints); (first | with_reducible rfl | (go_simp; with_reducible rfl))); with_reducible rfl; (intro K hK; go_simp; (try go_ints); refine hK _ ?_; clear hK K)) | (apply wpFree_stillG rfl; (intro w hw; obtain ⟨k1, k2, k3, k4, k5, k6, k7⟩ := HFA.out w (HBw3.out.trans (hw.mono HBw3.out.size)) ((row?_below hw hlw3).trans HRw3.out); clear hw; go_simp; (try go_ints); (first | with_reducible rfl | (go_simp; with_reducible rfl))); (intro K hK; go_simp; (try go_ints); refine hK _ ?_; clear hK K)) | (apply wpFree_skip rfl; (intro K hK; go_simp; (try go_ints); refine hK _ ?_; clear hK K)))
                            with_reducible refine wpFree_nil ?_
                            intro w4 hbz
                            have HBw4 := Lib.hid (HBw3.out.trans (hbz.mono HBw3.out.size))
                            have HOw4 := Lib.hid (HOw3.out.below hbz (Nat.le_refl _))
                            have HRw4 := Lib.hid ((row?_below hbz hlw3).trans HRw3.out)
                            have hlw4 : wr.heap.size < w4.heap.size := Nat.lt_of_lt_of_le hlw3 hbz.size
                            clear hbz
                            go_wp2_with fail
                            go_roundw
                            case rel => exact ⟨k + 1, by omega, by go_num, by rw [flatMap_snoc HX.out, ← List.append_assoc, ← HACC.out, HFx.out]; first | exact HOw4.out | (rw [List.append_nil]; exact HOw4.out) | (rw [← List.append_assoc]; exact HOw4.out), HBw4.out⟩
                            case measure => simp [intOf]; omega
                          · have e2 : (tw != xw) = true := by simp; exact fun h => h2 h.symm
                            have HFx := Lib.hid (hfx.trans (chgs_en (m := eMark ((xu, xv), xl, xw)) (e := eWeigh ((xu, xv), xl, xw)) (t := (tl, tw)) h1 h2))
                            clear h1 h2 hfx
                            refine wp_region_free (fun W => Below w2.heap.size w2 W) (by kernel_rfl) (by kernel_rfl) (Below.refl _ _).drew ?_
                            repeat (first | (apply wpFree_still; (intro w hw; obtain ⟨k1, k2, k3, k4, k5, k6, k7⟩ := HFA.out w (HBw2.out.trans (hw.mono HBw2.out.size)) ((row?_below hw hlw2).trans HRw2.out); clear hw; go_simp; (try go_ints); (first | with_reducible rfl | (go_simp; with_reducible rfl))); with_reducible rfl; (intro K hK; go_simp; (try go_ints); refine hK _ ?_; clear hK K)) | (apply wpFree_stillG rfl; (intro w hw; obtain ⟨k1, k2, k3, k4, k5, k6, k7⟩ := HFA.out w (HBw2.out.trans (hw.mono HBw2.out.size)) ((row?_below hw hlw2).trans HRw2.out); clear hw; go_simp; (try go_ints); (first | with_reducible rfl | (go_simp; with_reducible rfl))); (intro K hK; go_simp; (try go_ints); refine hK _ ?_; clear hK K)) | (apply wpFree_skip rfl; (intro K hK; go_simp; (try go_ints); refine hK _ ?_; clear hK K)))
                            with_reducible refine wpFree_nil ?_
                            intro w3 hbz
                            have HBw3 := Lib.hid (HBw2.out.trans (hbz.mono HBw2.out.size))
                            have HOw3 := Lib.hid (HOw2.out.below hbz (Nat.le_refl _))
                            have HRw3 := Lib.hid ((row?_below hbz hlw2).trans HRw2.out)
                            have hlw3 : wr.heap.size < w3.heap.size := Nat.lt_of_lt_of_le hlw2 hbz.size
                            clear hbz
                            go_wp2_with fail
                            refine wp_region_free (fun W => Below w3.heap.size w3 W) (by kernel_rfl) (by kernel_rfl) (Below.refl _ _).drew ?_
                            repeat (first | (apply wpFree_still; (intro w hw; obtain ⟨k1, k2, k3, k4, k5, k6, k7⟩ := HFA.out w (HBw3.out.trans (hw.mono HBw3.out.size)) ((row?_below hw hlw3).trans HRw3.out); clear hw; go_simp; (try go_ints); (first | with_reducible rfl | (go_simp; with_reducible rfl))); with_reducible rfl; (intro K hK; go_simp; (try go_ints); refine hK _ ?_; clear hK K)) | (apply wpFree_stillG rfl; (intro w hw; obtain ⟨k1, k2, k3, k4, k5, k6, k7⟩ := HFA.out w (HBw3.out.trans (hw.mono HBw3.out.size)) ((row?_below hw hlw3).trans HRw3.out); clear hw; go_simp; (try go_ints); (first | with_reducible rfl | (go_simp; with_reducible rfl))); (intro K hK; go_simp; (try go_ints); refine hK _ ?_; clear hK K)) | (apply wpFree_skip rfl; (intro K hK; go_simp; (try go_ints); refine hK _ ?_; clear hK K)))
                            with_reducible refine wpFree_nil ?_
                            intro w4 hbz
                            have HBw4 := Lib.hid (HBw3.out.trans (hbz.mono HBw3.out.size))
                            have HOw4 := Lib.hid (HOw3.out.below hbz (Nat.le_refl _))
                            have HRw4 := Lib.hid ((row?_below hbz hlw3).trans HRw3.out)
                            have hlw4 : wr.heap.size < w4.heap.size := Nat.lt_of_lt_of_le hlw3 hbz.size
                            clear hbz
                            obtain ⟨k1, k2, k3, k4, k5, k6, k7⟩ := HFA.out w4 HBw4.out HRw4.out
                            go_wp2_with (at_builtin; refine wpList_appO elRD 32 Tryz.underlying32 rfl _ _ rfl W0.heap.size _ (acc) rfl (HOw4.out.alloc _) _ (eWeigh ((xu, xv), xl, xw)) _ rfl (row?_alloc_at _ _ _ _ (by simp)) (by first | omega | (simp; omega)) (by have := HBw4.out.size; simp; omega) ?_)
                            clear k1 k2 k3 k4 k5 k6 k7
                            intro vz w5 hOz hbz hgz hlz
                            have HBw5 := Lib.hid ((HBw4.out.alloc HBw4.out.size _).trans hbz)
                            have := hgz.size
                            obtain ⟨qz, cz, rfl⟩ := hOz.sl
                            simp only [List.length_append, List.length_cons, List.length_nil, Nat.zero_add] at hOz ⊢
                            have HOw5 := Lib.hid hOz
                            clear hOz hbz hgz hlz
                            go_wp2_with fail
                            go_roundw
                            case rel => exact ⟨k + 1, by omega, by go_num, by rw [flatMap_snoc HX.out, ← List.append_assoc, ← HACC.out, HFx.out]; first | exact HOw5.out | (rw [List.append_nil]; exact HOw5.out) | (rw [← List.append_assoc]; exact HOw5.out), HBw5.out⟩
                            case measure => simp [intOf]; omega
                        · have e1 : ((tl : Int) != (xl : Int)) = true := by simp; omega
                          have e1n : (tl != xl) = true := by simp; omega
                          by_cases h2 : xw = tw
                          · have e2 : (tw != xw) = false := by simp [h2]
                            have HFx := Lib.hid (hfx.trans (chgs_ne (m := eMark ((xu, xv), xl, xw)) (e := eWeigh ((xu, xv), xl, xw)) (t := (tl, tw)) h1 h2))
                            clear h1 h2 hfx
                            refine wp_region_free (fun W => Below w2.heap.size w2 W) (by kernel_rfl) (by kernel_rfl) (Below.refl _ _).drew ?_
                            repeat (first | (apply wpFree_still; (intro w hw; obtain ⟨k1, k2, k3, k4, k5, k6, k7⟩ := HFA.out w (HBw2.out.trans (hw.mono HBw2.out.size)) ((row?_below hw hlw2).trans HRw2.out); clear hw; go_simp; (try go_ints); (first | with_reducible rfl | (go_simp; with_reducible rfl))); with_reducible rfl; (intro K hK; go_simp; (try go_ints); refine hK _ ?_; clear hK K)) | (apply wpFree_stillG rfl; (intro w hw; obtain ⟨k1, k2, k3, k4, k5, k6, k7⟩ := HFA.out w (HBw2.out.trans (hw.mono HBw2.out.size)) ((row?_below hw hlw2).trans HRw2.out); clear hw; go_simp; (try go_ints); (first | with_reducible rfl | (go_simp; with_reducible rfl))); (intro K hK; go_simp; (try go_ints); refine hK _ ?_; clear hK K)) | (apply wpFree_skip rfl; (intro K hK; go_simp; (try go_ints); refine hK _ ?_; clear hK K)))
                            with_reducible refine wpFree_nil ?_
                            intro w3 hbz
                            have HBw3 := Lib.hid (HBw2.out.trans (hbz.mono HBw2.out.size))
                            have HOw3 := Lib.hid (HOw2.out.below hbz (Nat.le_refl _))
                            have HRw3 := Lib.hid ((row?_below hbz hlw2).trans HRw2.out)
                            have hlw3 : wr.heap.size < w3.heap.size := Nat.lt_of_lt_of_le hlw2 hbz.size
                            clear hbz
                            obtain ⟨k1, k2, k3, k4, k5, k6, k7⟩ := HFA.out w3 HBw3.out HRw3.out
                            go_wp2_with (at_builtin; refine wpList_appO elRD 32 Tryz.underlying32 rfl _ _ rfl W0.heap.size _ (acc) rfl (HOw3.out.alloc _) _ (eMark ((xu, xv), xl, xw)) _ rfl (row?_alloc_at _ _ _ _ (by simp)) (by first | omega | (simp; omega)) (by have := HBw3.out.size; simp; omega) ?_)
                            clear k1 k2 k3 k4 k5 k6 k7
                            intro vz w4 hOz hbz hgz hlz
                            have HBw4 := Lib.hid ((HBw3.out.alloc HBw3.out.size _).trans hbz)
                            have HRw4 : Hid (row? w4 wr.heap.size = some #[.int .i64 xu, .int .i64 xv, .int .u8 (xl : Int), .int .i64 xw]) := Lib.hid ((row?_congr ((hgz.block wr.heap.size (by simp; omega) (fun e => by have := HO.out.lt _ e.symm; omega)).trans (Below.heap_alloc _ _ _ hlw3))).trans HRw3.out); have hlw4 : wr.heap.size < w4.heap.size := row?_lt HRw4.out
                            obtain ⟨qz, cz, rfl⟩ := hOz.sl
                            simp only [List.length_append, List.length_cons, List.length_nil, Nat.zero_add] at hOz ⊢
                            have HOw4 := Lib.hid hOz
                            clear hOz hbz hgz hlz
                            go_wp2_with fail
                            refine wp_region_free (fun W => Below w4.heap.size w4 W) (by kernel_rfl) (by kernel_rfl) (Below.refl _ _).drew ?_
                            repeat (first | (apply wpFree_still; (intro w hw; obtain ⟨k1, k2, k3, k4, k5, k6, k7⟩ := HFA.out w (HBw4.out.trans (hw.mono HBw4.out.size)) ((row?_below hw hlw4).trans HRw4.out); clear hw; go_simp; (try go_ints); (first | with_reducible rfl | (go_simp; with_reducible rfl))); with_reducible rfl; (intro K hK; go_simp; (try go_ints); refine hK _ ?_; clear hK K)) | (apply wpFree_stillG rfl; (intro w hw; obtain ⟨k1, k2, k3, k4, k5, k6, k7⟩ := HFA.out w (HBw4.out.trans (hw.mono HBw4.out.size)) ((row?_below hw hlw4).trans HRw4.out); clear hw; go_simp; (try go_ints); (first | with_reducible rfl | (go_simp; with_reducible rfl))); (intro K hK; go_simp; (try go_ints); refine hK _ ?_; clear hK K)) | (apply wpFree_skip rfl; (intro K hK; go_simp; (try go_ints); refine hK _ ?_; clear hK K)))
                            with_reducible refine wpFree_nil ?_
                            intro w5 hbz
                            have HBw5 := Lib.hid (HBw4.out.trans (hbz.mono HBw4.out.size))
                            have HOw5 := Lib.hid (HOw4.out.below hbz (Nat.le_refl _))
                            have HRw5 := Lib.hid ((row?_below hbz hlw4).trans HRw4.out)
                            have hlw5 : wr.heap.size < w5.heap.size := Nat.lt_of_lt_of_le hlw4 hbz.size
                            clear hbz
                            go_wp2_with fail
                            go_roundw
                            case rel => exact ⟨k + 1, by omega, by go_num, by rw [flatMap_snoc HX.out, ← List.append_assoc, ← HACC.out, HFx.out]; first | exact HOw5.out | (rw [List.append_nil]; exact HOw5.out) | (rw [← List.append_assoc]; exact HOw5.out), HBw5.out⟩
                            case measure => simp [intOf]; omega
                          · have e2 : (tw != xw) = true := by simp; exact fun h => h2 h.symm
                            have HFx := Lib.hid (hfx.trans (chgs_nn (m := eMark ((xu, xv), xl, xw)) (e := eWeigh ((xu, xv), xl, xw)) (t := (tl, tw)) h1 h2))
                            clear h1 h2 hfx
                            refine wp_region_free (fun W => Below w2.heap.size w2 W) (by kernel_rfl) (by kernel_rfl) (Below.refl _ _).drew ?_
                            repeat (first | (apply wpFree_still; (intro w hw; obtain ⟨k1, k2, k3, k4, k5, k6, k7⟩ := HFA.out w (HBw2.out.trans (hw.mono HBw2.out.size)) ((row?_below hw hlw2).trans HRw2.out); clear hw; go_simp; (try go_ints); (first | with_reducible rfl | (go_simp; with_reducible rfl))); with_reducible rfl; (intro K hK; go_simp; (try go_ints); refine hK _ ?_; clear hK K)) | (apply wpFree_stillG rfl; (intro w hw; obtain ⟨k1, k2, k3, k4, k5, k6, k7⟩ := HFA.out w (HBw2.out.trans (hw.mono HBw2.out.size)) ((row?_below hw hlw2).trans HRw2.out); clear hw; go_simp; (try go_ints); (first | with_reducible rfl | (go_simp; with_reducible rfl))); (intro K hK; go_simp; (try go_ints); refine hK _ ?_; clear hK K)) | (apply wpFree_skip rfl; (intro K hK; go_simp; (try go_ints); refine hK _ ?_; clear hK K)))
                            with_reducible refine wpFree_nil ?_
                            intro w3 hbz
                            have HBw3 := Lib.hid (HBw2.out.trans (hbz.mono HBw2.out.size))
                            have HOw3 := Lib.hid (HOw2.out.below hbz (Nat.le_refl _))
                            have HRw3 := Lib.hid ((row?_below hbz hlw2).trans HRw2.out)
                            have hlw3 : wr.heap.size < w3.heap.size := Nat.lt_of_lt_of_le hlw2 hbz.size
                            clear hbz
                            obtain ⟨k1, k2, k3, k4, k5, k6, k7⟩ := HFA.out w3 HBw3.out HRw3.out
                            go_wp2_with (at_builtin; refine wpList_appO elRD 32 Tryz.underlying32 rfl _ _ rfl W0.heap.size _ (acc) rfl (HOw3.out.alloc _) _ (eMark ((xu, xv), xl, xw)) _ rfl (row?_alloc_at _ _ _ _ (by simp)) (by first | omega | (simp; omega)) (by have := HBw3.out.size; simp; omega) ?_)
                            clear k1 k2 k3 k4 k5 k6 k7
                            intro vz w4 hOz hbz hgz hlz
                            have HBw4 := Lib.hid ((HBw3.out.alloc HBw3.out.size _).trans hbz)
                            have HRw4 : Hid (row? w4 wr.heap.size = some #[.int .i64 xu, .int .i64 xv, .int .u8 (xl : Int), .int .i64 xw]) := Lib.hid ((row?_congr ((hgz.block wr.heap.size (by simp; omega) (fun e => by have := HO.out.lt _ e.symm; omega)).trans (Below.heap_alloc _ _ _ hlw3))).trans HRw3.out); have hlw4 : wr.heap.size < w4.heap.size := row?_lt HRw4.out
                            obtain ⟨qz, cz, rfl⟩ := hOz.sl
                            simp only [List.length_append, List.length_cons, List.length_nil, Nat.zero_add] at hOz ⊢
                            have HOw4 := Lib.hid hOz
                            clear hOz hbz hgz hlz
                            go_wp2_with fail
                            refine wp_region_free (fun W => Below w4.heap.size w4 W) (by kernel_rfl) (by kernel_rfl) (Below.refl _ _).drew ?_
                            repeat (first | (apply wpFree_still; (intro w hw; obtain ⟨k1, k2, k3, k4, k5, k6, k7⟩ := HFA.out w (HBw4.out.trans (hw.mono HBw4.out.size)) ((row?_below hw hlw4).trans HRw4.out); clear hw; go_simp; (try go_ints); (first | with_reducible rfl | (go_simp; with_reducible rfl))); with_reducible rfl; (intro K hK; go_simp; (try go_ints); refine hK _ ?_; clear hK K)) | (apply wpFree_stillG rfl; (intro w hw; obtain ⟨k1, k2, k3, k4, k5, k6, k7⟩ := HFA.out w (HBw4.out.trans (hw.mono HBw4.out.size)) ((row?_below hw hlw4).trans HRw4.out); clear hw; go_simp; (try go_ints); (first | with_reducible rfl | (go_simp; with_reducible rfl))); (intro K hK; go_simp; (try go_ints); refine hK _ ?_; clear hK K)) | (apply wpFree_skip rfl; (intro K hK; go_simp; (try go_ints); refine hK _ ?_; clear hK K)))
                            with_reducible refine wpFree_nil ?_
                            intro w5 hbz
                            have HBw5 := Lib.hid (HBw4.out.trans (hbz.mono HBw4.out.size))
                            have HOw5 := Lib.hid (HOw4.out.below hbz (Nat.le_refl _))
                            have HRw5 := Lib.hid ((row?_below hbz hlw4).trans HRw4.out)
                            have hlw5 : wr.heap.size < w5.heap.size := Nat.lt_of_lt_of_le hlw4 hbz.size
                            clear hbz
                            obtain ⟨k1, k2, k3, k4, k5, k6, k7⟩ := HFA.out w5 HBw5.out HRw5.out
                            go_wp2_with (at_builtin; refine wpList_appO elRD 32 Tryz.underlying32 rfl _ _ rfl W0.heap.size _ (acc ++ [eMark ((xu, xv), xl, xw)]) rfl (HOw5.out.alloc _) _ (eWeigh ((xu, xv), xl, xw)) _ rfl (row?_alloc_at _ _ _ _ (by simp)) (by first | omega | (simp; omega)) (by have := HBw5.out.size; simp; omega) ?_)
                            clear k1 k2 k3 k4 k5 k6 k7
                            intro vz w6 hOz hbz hgz hlz
                            have HBw6 := Lib.hid ((HBw5.out.alloc HBw5.out.size _).trans hbz)
                            have := hgz.size
                            obtain ⟨qz, cz, rfl⟩ := hOz.sl
                            simp only [List.length_append, List.length_cons, List.length_nil, Nat.zero_add] at hOz ⊢
                            have HOw6 := Lib.hid hOz
                            clear hOz hbz hgz hlz
                            go_wp2_with fail
                            go_roundw
                            case rel => exact ⟨k + 1, by omega, by go_num, by rw [flatMap_snoc HX.out, ← List.append_assoc, ← HACC.out, HFx.out]; first | exact HOw6.out | (rw [List.append_nil]; exact HOw6.out) | (rw [← List.append_assoc]; exact HOw6.out), HBw6.out⟩
                            case measure => simp [intOf]; omega
                    · have hkn : MB = k := by omega
                      subst hkn
                      obtain ⟨D5, hD⟩ : ∃ D, D = D4 ++ (B.E).flatMap (dE A) := ⟨_, rfl⟩
                      have e : D5 = acc := by rw [hD, HACC.out, (HMB).out, List.take_length]
                      have hDl : (D5).length ≤ 7168 := by
                        have h1 := flat_take_le (dE_len A) MB MB (by rw [(HMB).out]; exact Nat.le_refl _) (l := B.E)
                        rw [e, HACC.out, List.length_append]
                        omega
                      subst e
                      have HD5 := Lib.hid hD
                      have hD5 := hDl
                      obtain ⟨wo, rfl⟩ : ∃ W : World, W = wr := ⟨_, rfl⟩
                      have HOc := HO
                      have HBc := HB
                      clear HACC HO HB hD hDl hsz hal hk
                      go_wp2_with fail
                      clear ra rb m0 m1 m2 m3
                      go_ret
                      refine ⟨_, rfl, ?_, HBW.out _ HBc.out⟩
                      rw [HFin.out, ← HD1.out, ← HD2.out, ← HD3.out, ← HD4.out, ← HD5.out]
                      exact HOc.out.lower HB0.out.size
end Go.Proofs.YtmmhngjndnonhaaGreatDoor
